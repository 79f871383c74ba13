/- Trees, facts, claims, theories, steps: their parts. Sizes and depths. -/
import Derived.Test.YtmbdccekcfeomaaT21
open Go
namespace Go.Proofs.Ytmbdccekcfeomaa.Am
set_option linter.unusedSimpArgs false
set_option linter.unusedVariables false

theorem within_whole {v x : AV} (h : x.cells.length = v.cells.length) (h2 : x.isAgg = v.isAgg) : within v 0 x = some x := by
  simp [within, h, h2]

/-! ### trees -/
theorem T.cells_av (t : T) : t.av.cells = [.int .i64 t.h, sl 2 t.nil (t.ks.map T.av)] := by rw [T.av_eq]; rfl
theorem T.isAgg_av (t : T) : t.av.isAgg = true := by rw [T.av_eq]; rfl
theorem T.solid_av (t : T) : t.av.solid = true := by rw [T.av_eq]; simp [AV.solid, AV.solids, solid_sl]
theorem T.storable_av (t : T) : t.av.storable = true := by rw [T.av_eq]; simp [AV.storable, AV.cells, AV.nol, AV.nols, nol_sl, one_sl]; rfl
theorem T.nol_av (t : T) : t.av.nol = true := by rw [T.av_eq]; simp [AV.nol, AV.nols, nol_sl]
theorem T.part_av (t : T) : part 2 true t.av 0 = some t.av := part_whole (by rw [T.cells_av]; rfl) t.isAgg_av
theorem T.part_h (t : T) : part 1 false t.av 0 = some (.int .i64 t.h) := by rw [T.av_eq]; simp [part, AV.cells]
theorem T.part_ks (t : T) : part 1 false t.av 1 = some (sl 2 t.nil (t.ks.map T.av)) := by rw [T.av_eq]; simp [part, AV.cells]
theorem T.within_av (a b : AV) (t : T) : within (.agg [a, b]) 0 t.av = some t.av := within_whole (by rw [T.cells_av]; rfl) t.isAgg_av

theorem T.within_tt (t u : T) : within t.av 0 u.av = some u.av := within_whole (by rw [T.cells_av, T.cells_av]; rfl) (by rw [T.isAgg_av, T.isAgg_av])
/-! ### facts -/
structure Fa where
  n : Bool
  l : T
  r : T
def Fa.av (f : Fa) : AV := .agg [.bool f.n, .int .i64 f.l.h, sl 2 f.l.nil (f.l.ks.map T.av), .int .i64 f.r.h, sl 2 f.r.nil (f.r.ks.map T.av)]
theorem Fa.cells_av (f : Fa) : f.av.cells = [.bool f.n, .int .i64 f.l.h, sl 2 f.l.nil (f.l.ks.map T.av), .int .i64 f.r.h, sl 2 f.r.nil (f.r.ks.map T.av)] := _root_.id rfl
theorem Fa.isAgg_av (f : Fa) : f.av.isAgg = true := _root_.id rfl
theorem Fa.solid_av (f : Fa) : f.av.solid = true := by simp [Fa.av, AV.solid, AV.solids, solid_sl]
theorem Fa.storable_av (f : Fa) : f.av.storable = true := by simp [Fa.av, storable_agg, one_bool, one_int, one_sl, nols_cons, nols_nil, nol_bool, nol_int, nol_sl]
theorem Fa.nol_av (f : Fa) : f.av.nol = true := by simp [Fa.av, AV.nol, AV.nols, nol_sl]
theorem Fa.part_av (f : Fa) : part 5 true f.av 0 = some f.av := part_whole rfl rfl
theorem Fa.part_n (f : Fa) : part 1 false f.av 0 = some (.bool f.n) := by simp [Fa.av, part, AV.cells]
theorem Fa.part_l (f : Fa) : part 2 true f.av 1 = some f.l.av := by rw [T.av_eq]; simp [Fa.av, part, AV.cells]
theorem Fa.part_r (f : Fa) : part 2 true f.av 3 = some f.r.av := by rw [T.av_eq]; simp [Fa.av, part, AV.cells]
theorem Fa.part_lh (f : Fa) : part 1 false f.av 1 = some (.int .i64 f.l.h) := by simp [Fa.av, part, AV.cells]
theorem Fa.part_lk (f : Fa) : part 1 false f.av 2 = some (sl 2 f.l.nil (f.l.ks.map T.av)) := by simp [Fa.av, part, AV.cells]
theorem Fa.part_rh (f : Fa) : part 1 false f.av 3 = some (.int .i64 f.r.h) := by simp [Fa.av, part, AV.cells]
theorem Fa.part_rk (f : Fa) : part 1 false f.av 4 = some (sl 2 f.r.nil (f.r.ks.map T.av)) := by simp [Fa.av, part, AV.cells]
theorem Fa.within_av (a b c d e : AV) (f : Fa) : within (.agg [a, b, c, d, e]) 0 f.av = some f.av := within_whole rfl rfl

theorem Fa.within_ff (f g : Fa) : within f.av 0 g.av = some g.av := within_whole rfl rfl
theorem Fa.within_l (f : Fa) (t : T) : within f.av 1 t.av = some (Fa.av ⟨f.n, t, f.r⟩) := by
  simp only [within, Fa.av, T.cells_av, T.isAgg_av]
  rw [if_neg (by simp)]; rfl
theorem Fa.within_r (f : Fa) (t : T) : within f.av 3 t.av = some (Fa.av ⟨f.n, f.l, t⟩) := by
  simp only [within, Fa.av, T.cells_av, T.isAgg_av]
  rw [if_neg (by simp)]; rfl
/-! ### claims -/
structure Cl where
  nil : Bool
  fs : List Fa
def Cl.el (c : Cl) : AV := sl 5 c.nil (c.fs.map Fa.av)
def Cl.av (c : Cl) : AV := .agg [c.el]
theorem Cl.cells_av (c : Cl) : c.av.cells = [c.el] := _root_.id rfl
theorem Cl.cells_el (c : Cl) : c.el.cells = [c.el] := cells_sl
theorem Cl.isAgg_av (c : Cl) : c.av.isAgg = true := _root_.id rfl
theorem Cl.isAgg_el (c : Cl) : c.el.isAgg = false := isAgg_sl
theorem Cl.solid_el (c : Cl) : c.el.solid = true := solid_sl
theorem Cl.nol_el (c : Cl) : c.el.nol = true := nol_sl
theorem Cl.storable_el (c : Cl) : c.el.storable = true := storable_sl
theorem Cl.solid_av (c : Cl) : c.av.solid = true := by simp [Cl.av, AV.solid, AV.solids, Cl.solid_el]
theorem Cl.storable_av (c : Cl) : c.av.storable = true := by simp [Cl.av, AV.storable, AV.cells, AV.nol, AV.nols, Cl.nol_el, Cl.el, one_sl, nol_sl]
theorem Cl.nol_av (c : Cl) : c.av.nol = true := by simp [Cl.av, AV.nol, AV.nols, Cl.nol_el]
theorem Cl.part_av (c : Cl) : part 1 true c.av 0 = some c.av := part_whole rfl rfl
theorem Cl.part_el (c : Cl) : part 1 true c.el 0 = some c.av := by simp [part, Cl.isAgg_el, Cl.cells_el, Cl.av]
theorem Cl.part_fs (c : Cl) : part 1 false c.av 0 = some (sl 5 c.nil (c.fs.map Fa.av)) := by simp [Cl.av, Cl.el, part, AV.cells, AV.isAgg]
theorem Cl.part_elfs (c : Cl) : part 1 false c.el 0 = some (sl 5 c.nil (c.fs.map Fa.av)) := by simp [Cl.el, part, cells_sl, isAgg_sl]
theorem Cl.within_av (a : AV) (c : Cl) : within (.agg [a]) 0 c.av = some c.av := within_whole rfl rfl

theorem Cl.within_cc (c d : Cl) : within c.av 0 d.av = some d.av := within_whole rfl rfl
/-! ### theories -/
structure Lo where
  anil : Bool
  ar : List Int
  cnil : Bool
  cs : List Cl
def ints (nil : Bool) (l : List Int) : AV := sl 1 nil (l.map (AV.int .i64))
def Lo.av (l : Lo) : AV := .agg [ints l.anil l.ar, sl 1 l.cnil (l.cs.map Cl.el)]
theorem solid_ints (b : Bool) (l : List Int) : (ints b l).solid = true := solid_sl
theorem nol_ints (b : Bool) (l : List Int) : (ints b l).nol = true := nol_sl
theorem one_ints (b : Bool) (l : List Int) : (ints b l).one = true := one_sl
theorem cells_ints (b : Bool) (l : List Int) : (ints b l).cells = [ints b l] := cells_sl
theorem isAgg_ints (b : Bool) (l : List Int) : (ints b l).isAgg = false := isAgg_sl
theorem storable_ints (b : Bool) (l : List Int) : (ints b l).storable = true := storable_sl
theorem cellOf_ints (b : Bool) (l : List Int) : cellOf (ints b l) = .none := cellOf_sl
theorem lenV_ints (b : Bool) (l : List Int) : lenV (ints b l) = some (.int .i64 l.length) := by rw [ints, lenV_sl]; simp
theorem Lo.cells_av (l : Lo) : l.av.cells = [ints l.anil l.ar, sl 1 l.cnil (l.cs.map Cl.el)] := _root_.id rfl
theorem Lo.isAgg_av (l : Lo) : l.av.isAgg = true := _root_.id rfl
theorem Lo.solid_av (l : Lo) : l.av.solid = true := by simp [Lo.av, AV.solid, AV.solids, solid_sl, solid_ints]
theorem Lo.storable_av (l : Lo) : l.av.storable = true := by simp [Lo.av, AV.storable, AV.cells, AV.nol, AV.nols, nol_sl, one_sl, nol_ints, one_ints]
theorem Lo.nol_av (l : Lo) : l.av.nol = true := by simp [Lo.av, AV.nol, AV.nols, nol_sl, nol_ints]
theorem Lo.part_av (l : Lo) : part 2 true l.av 0 = some l.av := part_whole rfl rfl
theorem Lo.part_ar (l : Lo) : part 1 false l.av 0 = some (ints l.anil l.ar) := by simp [Lo.av, part, AV.cells]
theorem Lo.part_cs (l : Lo) : part 1 false l.av 1 = some (sl 1 l.cnil (l.cs.map Cl.el)) := by simp [Lo.av, part, AV.cells]
theorem Lo.within_av (a b : AV) (l : Lo) : within (.agg [a, b]) 0 l.av = some l.av := within_whole rfl rfl

/-! ### steps -/
structure Gt where
  kind : Int
  a : Int
  b : Int
  i : Int
  j : Int
  turn : Bool
  pnil : Bool
  place : List Int
  bnil : Bool
  bind : List T
def Gt.av (g : Gt) : AV := .agg [.int .i64 g.kind, .int .i64 g.a, .int .i64 g.b, .int .i64 g.i, .int .i64 g.j, .bool g.turn, ints g.pnil g.place, sl 2 g.bnil (g.bind.map T.av)]
theorem Gt.cells_av (g : Gt) : g.av.cells = [.int .i64 g.kind, .int .i64 g.a, .int .i64 g.b, .int .i64 g.i, .int .i64 g.j, .bool g.turn, ints g.pnil g.place, sl 2 g.bnil (g.bind.map T.av)] := _root_.id rfl
theorem Gt.isAgg_av (g : Gt) : g.av.isAgg = true := _root_.id rfl
theorem Gt.solid_av (g : Gt) : g.av.solid = true := by simp [Gt.av, AV.solid, AV.solids, solid_sl, solid_ints]
theorem Gt.storable_av (g : Gt) : g.av.storable = true := by simp [Gt.av, AV.storable, AV.cells, AV.nol, AV.nols, nol_sl, one_sl, nol_ints, one_ints]; simp [AV.one]
theorem Gt.nol_av (g : Gt) : g.av.nol = true := by simp [Gt.av, AV.nol, AV.nols, nol_sl, nol_ints]
theorem Gt.part_av (g : Gt) : part 8 true g.av 0 = some g.av := part_whole rfl rfl
theorem Gt.part_kind (g : Gt) : part 1 false g.av 0 = some (.int .i64 g.kind) := by simp [Gt.av, part, AV.cells]
theorem Gt.part_a (g : Gt) : part 1 false g.av 1 = some (.int .i64 g.a) := by simp [Gt.av, part, AV.cells]
theorem Gt.part_b (g : Gt) : part 1 false g.av 2 = some (.int .i64 g.b) := by simp [Gt.av, part, AV.cells]
theorem Gt.part_i (g : Gt) : part 1 false g.av 3 = some (.int .i64 g.i) := by simp [Gt.av, part, AV.cells]
theorem Gt.part_j (g : Gt) : part 1 false g.av 4 = some (.int .i64 g.j) := by simp [Gt.av, part, AV.cells]
theorem Gt.part_turn (g : Gt) : part 1 false g.av 5 = some (.bool g.turn) := by simp [Gt.av, part, AV.cells]
theorem Gt.part_place (g : Gt) : part 1 false g.av 6 = some (ints g.pnil g.place) := by simp [Gt.av, part, AV.cells]
theorem Gt.part_bind (g : Gt) : part 1 false g.av 7 = some (sl 2 g.bnil (g.bind.map T.av)) := by simp [Gt.av, part, AV.cells]
theorem Gt.within_av (a b c d e f h i : AV) (g : Gt) : within (.agg [a, b, c, d, e, f, h, i]) 0 g.av = some g.av := within_whole rfl rfl

/-! ### elements -/
theorem iaddr_map {α : Type} {f : α → AV} {H : Nat → Option Obj} {sz : Nat} {nil : Bool} {es : List α} {k : IntKind} {i : Nat} (hi : i < es.length) : iaddrV H sz (sl sz nil (es.map f)) (.int k i) = some (.fptr (f es[i]) 0) := by
  rw [iaddrV_sl (by simpa using hi)]; simp
theorem iaddr_ints {H : Nat → Option Obj} {nil : Bool} {es : List Int} {k : IntKind} {i : Nat} (hi : i < es.length) : iaddrV H 1 (ints nil es) (.int k i) = some (.fptr (.int .i64 es[i]) 0) := by
  rw [ints, iaddr_map hi]
theorem part_int (k : IntKind) (n : Int) : part 1 false (.int k n) 0 = some (.int k n) := _root_.id rfl
theorem part_bool (b : Bool) : part 1 false (.bool b) 0 = some (.bool b) := _root_.id rfl
theorem part_sl {sz : Nat} {nil : Bool} {es : List AV} : part 1 false (sl sz nil es) 0 = some (sl sz nil es) := part_whole (by rw [cells_sl]; rfl) isAgg_sl

/-! ### slices that grow -/
def lv (id n : Nat) : AV := if n = 0 then .nilSlice else .lref id 0 n
theorem lv_cases {id n : Nat} {P : AV → Prop} (h1 : n = 0 → P .nilSlice) (h2 : n ≠ 0 → P (.lref id 0 n)) : P (lv id n) := by
  unfold lv; split
  · rename_i h; exact h1 h
  · rename_i h; exact h2 h
theorem cells_lv (id n : Nat) : (lv id n).cells = [lv id n] := lv_cases (P := fun v => v.cells = [v]) (fun _ => rfl) (fun _ => rfl)
theorem isAgg_lv (id n : Nat) : (lv id n).isAgg = false := lv_cases (P := fun v => v.isAgg = false) (fun _ => rfl) (fun _ => rfl)
theorem one_lv (id n : Nat) : (lv id n).one = true := lv_cases (P := fun v => v.one = true) (fun _ => rfl) (fun _ => rfl)
theorem nol_lv (id n : Nat) : (lv id n).nol = true := lv_cases (P := fun v => v.nol = true) (fun _ => nol_nil) (fun _ => nol_lref _ _ _)
theorem storable_lv (id n : Nat) : (lv id n).storable = true := lv_cases (P := fun v => v.storable = true) (fun _ => storable_nil) (fun _ => storable_lref _ _ _)
theorem lenV_lv (id n : Nat) : lenV (lv id n) = some (.int .i64 n) := lv_cases (P := fun v => lenV v = some (.int .i64 n)) (fun h => by subst h; rfl) (fun _ => rfl)
theorem lv_zero (id : Nat) : lv id 0 = .nilSlice := rfl
theorem part_lv (id n : Nat) : part 1 false (lv id n) 0 = some (lv id n) := part_whole (by rw [cells_lv]; rfl) (isAgg_lv _ _)
/-- What has a name, if there are any. -/
def Own (H : Nat → Option Obj) (lo hi sz id : Nat) (es : List AV) : Prop := es ≠ [] → lo ≤ id ∧ id < hi ∧ H id = some (.arr sz es)
theorem Own.nil {H : Nat → Option Obj} {lo hi sz id : Nat} : Own H lo hi sz id [] := fun h => absurd rfl h
theorem Own.mono {H : Nat → Option Obj} {lo hi hi' sz id : Nat} {es : List AV} (h : Own H lo hi sz id es) (hh : hi ≤ hi') : Own H lo hi' sz id es := fun hn => by
  have := h hn; exact ⟨this.1, by omega, this.2.2⟩
theorem Own.keep {H : Nat → Option Obj} {lo hi sz id j : Nat} {es : List AV} {o : Option Obj} (h : Own H lo hi sz id es) (hj : hi ≤ j) : Own (upd H j o) lo hi sz id es := fun hn => by
  have := h hn; exact ⟨this.1, this.2.1, by rw [upd_other _ _ (by omega)]; exact this.2.2⟩
def kill (H : Nat → Option Obj) (id n : Nat) : Nat → Option Obj := if n = 0 then H else upd H id none
theorem kill_other {H : Nat → Option Obj} {id n j : Nat} (h : n ≠ 0 → j ≠ id) : kill H id n j = H j := by
  unfold kill; split
  · rfl
  · rename_i hn; exact upd_other _ _ (h hn)
theorem append_lv {wl nid lo hi sz bytes id : Nat} {H : Nat → Option Obj} {es : List AV} {y : AV} (ho : Own H lo hi sz id es) (hw : wl ≤ lo) (hb : (es.length + 1) * bytes ≤ 140737488355328) :
    appendV wl nid false sz bytes H [y] (lv id es.length) = some (lv nid (es.length + 1), upd (kill H id es.length) nid (some (.arr sz (es ++ [y])))) := by
  cases es with
  | nil =>
    simp only [List.length_nil, lv_zero, appendV, List.length_cons, Nat.zero_add, List.nil_append]
    simp only [List.length_nil, Nat.zero_add] at hb
    rw [if_neg (by decide), if_pos hb]
    rfl
  | cons x xs =>
    obtain ⟨h1, h2, h3⟩ := ho (by simp)
    have : lv id (x :: xs).length = .lref id 0 (x :: xs).length := by unfold lv; rw [if_neg (by simp)]
    rw [this]
    simp only [appendV]
    rw [if_pos (by omega), h3]
    simp only
    rw [if_pos ⟨trivial, by simp, by simpa using hb⟩]
    simp only [Bool.false_eq_true, if_false]
    rw [if_neg (by simp)]
    have e : kill H id (x :: xs).length = upd H id none := by unfold kill; rw [if_neg (by simp)]
    rw [e]
    simp [lv]
theorem append_to {wl lo hi sz bytes id n : Nat} {H : Nat → Option Obj} {es : List AV} (y : AV) (ho : Own H lo hi sz id es) (hl : es.length = n) (hw : wl ≤ lo) (hb : (n + 1) * bytes ≤ 140737488355328) (nid : Nat) :
    appendV wl nid false sz bytes H [y] (lv id n) = some (lv nid (n + 1), upd (kill H id n) nid (some (.arr sz (es ++ [y])))) := by
  subst hl; exact append_lv ho hw hb
theorem Own.append {H : Nat → Option Obj} {lo nid sz id n : Nat} {es : List AV} {y : AV} (h : lo ≤ nid) : Own (upd (kill H id n) nid (some (.arr sz (es ++ [y])))) lo (nid + 1) sz nid (es ++ [y]) :=
  fun _ => ⟨h, by omega, upd_same _ _ _⟩
theorem solids_map {α : Type} {f : α → AV} (h : ∀ a, (f a).solid = true) : ∀ l : List α, AV.solids (l.map f) = true
  | [] => rfl
  | a :: l => by simp [solids_cons, h a, solids_map h l]
theorem thawV_lv {wl lo hi sz id : Nat} {H : Nat → Option Obj} {es : List AV} (ho : Own H lo hi sz id es) (hw : wl ≤ lo) (hs : AV.solids es = true) : ∃ H', thawV (thaw wl 0) wl H (lv id es.length) = some (sl sz true es, H') ∧ ∀ j, j < wl → H' j = H j := by
  cases es with
  | nil => exact ⟨H, rfl, fun _ _ => rfl⟩
  | cons x xs =>
    obtain ⟨h1, h2, h3⟩ := ho (by simp)
    refine ⟨upd H id none, ?_, fun j hj => upd_other _ _ (by omega)⟩
    have : lv id (x :: xs).length = .lref id 0 (x :: xs).length := by unfold lv; rw [if_neg (by simp)]
    rw [this]
    simp only [thawV]
    rw [if_neg (by omega), h3]
    simp only
    rw [if_pos (by simp)]
    simp [thaw, hs, sl]
theorem thawV_int {f : (Nat → Option Obj) → List AV → Option (List AV × (Nat → Option Obj))} {wl : Nat} {H : Nat → Option Obj} (k : IntKind) (n : Int) : thawV f wl H (.int k n) = some (.int k n, H) := by
  rw [thawV]; all_goals (intros; contradiction)
theorem thawV_bool {f : (Nat → Option Obj) → List AV → Option (List AV × (Nat → Option Obj))} {wl : Nat} {H : Nat → Option Obj} (b : Bool) : thawV f wl H (.bool b) = some (.bool b, H) := by
  rw [thawV]; all_goals (intros; contradiction)
theorem thaw_one {wl : Nat} {H : Nat → Option Obj} {vs : List AV} : thaw wl 1 H vs = thawL (thaw wl 0) wl H vs := rfl
/-- A tree that was made, as a result. -/
theorem thaw_tree {wl lo hi id n : Nat} {H : Nat → Option Obj} {h : Int} {ks : List T} (ho : Own H lo hi 2 id (ks.map T.av)) (hn : ks.length = n) (hw : wl ≤ lo) : ∃ H', thaw wl 1 H [.agg [.int .i64 h, lv id n]] = some ([(T.mk h true ks).av], H') ∧ ∀ j, j < wl → H' j = H j := by
  obtain ⟨H', hh, hj⟩ := thawV_lv ho hw (solids_map T.solid_av ks)
  refine ⟨H', ?_, hj⟩
  subst hn
  rw [List.length_map] at hh
  rw [thaw_one]
  simp only [thawL, thawV, thawV_int, hh]
  rw [T.av_eq]; rfl


theorem chop_T (t : T) : chop 2 1 [.int .i64 t.h, sl 2 t.nil (t.ks.map T.av)] = [t.av] := by rw [T.av_eq]; rfl
theorem chop_F (n : Bool) (l r : T) : chop 5 1 [.bool n, .int .i64 l.h, sl 2 l.nil (l.ks.map T.av), .int .i64 r.h, sl 2 r.nil (r.ks.map T.av)] = [Fa.av ⟨n, l, r⟩] := _root_.id rfl
theorem chop_1 (v : AV) : chop 1 1 [v] = [v] := _root_.id rfl

theorem part_one {x : AV} (h : x.isAgg = false) : part 1 false x 0 = some x := part_whole (cells_of x h) h
theorem part_lref (i j n : Nat) : part 1 false (.lref i j n) 0 = some (.lref i j n) := _root_.id rfl
theorem part_clo (f : Nat) (c : List AV) : part 1 false (.clo f c) 0 = some (.clo f c) := _root_.id rfl
theorem part_map (i : Nat) : part 1 false (.map i) 0 = some (.map i) := _root_.id rfl
theorem part_nil : part 1 false .nilSlice 0 = some .nilSlice := _root_.id rfl
/-! ### sizes -/
mutual
def T.size : T → Nat
  | .mk _ _ ks => T.sizes ks + 1
def T.sizes : List T → Nat
  | [] => 0
  | k :: ks => k.size + T.sizes ks
end
theorem T.size_eq (t : T) : t.size = T.sizes t.ks + 1 := by cases t; simp [T.size, T.ks]
theorem T.sizes_take (ks : List T) (k : Nat) (h : k < ks.length) : T.sizes (ks.take (k + 1)) = T.sizes (ks.take k) + ks[k].size := by
  induction ks generalizing k with
  | nil => simp at h
  | cons t ts ih =>
    cases k with
    | zero => simp [T.sizes]
    | succ k => simp only [List.take_succ_cons, T.sizes, List.getElem_cons_succ]; rw [ih k (by simpa using h)]; omega
theorem T.sizes_le (ks : List T) (k : Nat) : T.sizes (ks.take k) ≤ T.sizes ks := by
  induction ks generalizing k with
  | nil => simp
  | cons t ts ih => cases k with
    | zero => simp [T.sizes]
    | succ k => simp only [List.take_succ_cons, T.sizes]; have := ih k; omega
theorem T.length_le (ks : List T) : ks.length ≤ T.sizes ks := by
  induction ks with
  | nil => simp
  | cons t ts ih => simp only [List.length_cons, T.sizes]; have := t.size_eq; omega
theorem T.size_kid {ks : List T} {k : Nat} (h : k < ks.length) : ks[k].size ≤ T.sizes ks := by
  have a := T.sizes_take ks k h
  have b := T.sizes_le ks (k + 1)
  omega

theorem T.ind' {P : T → Prop} (h : ∀ t, (∀ k ∈ t.ks, P k) → P t) : ∀ t, P t := T.ind fun hd b ks ih => h (.mk hd b ks) ih

theorem size_spec (t : T) (ht : t.size < 4611686018427387904) : Gives tab 48 [t.av] (.int .i64 t.size) := by
  induction t using T.ind' with
  | h t ih =>
    have hs := t.size_eq
    have hl := T.length_le t.ks
    refine gives tab_48 fun H nx => ?_
    unfold body48
    dsimp only [qm, qf, ql, qL, qs, qc, qk, qi, qn, qb, qB, qe, qx, qo, qg]
    simp only [start1]
    simp only [↓W_seqK, ↓NextK_normal, ↓NextK_exit, ↓NextK_ret, ↓W_skip, ↓W_exit, ↓W_ret, ↓W_block, ↓W_regionK, ↓W_drawK, ↓W_condK, ↓Next_normal, ↓Next_exit, ↓Next_ret, ↓Out_normal, ↓Out_here, ↓Out_exit, ↓Out_ret, ↓Ends_normal, ↓Ends_ret, ↓DK_nil, ↓DK_cons, ↓StoreK_loc, ↓StoreK_ptr,
    ↓RK_mov, ↓RK_pick, ↓RK_lalloc, ↓RK_halloc, ↓RK_fbox, ↓RK_lbox, ↓RK_hbox, ↓RK_build, ↓RK_bslice_live, ↓RK_bslice, ↓RK_load, ↓RK_store, ↓RK_ncheck, ↓RK_bin, ↓RK_eqb, ↓RK_eqnil, ↓RK_eqs, ↓RK_un, ↓RK_mkfn, ↓RK_mkmap, ↓RK_mkslice, ↓RK_slice, ↓RK_faddr, ↓RK_field, ↓RK_iaddr, ↓RK_iaddrA, ↓RK_indexA, ↓RK_extract, ↓RK_len, ↓RK_max, ↓RK_min, ↓RK_append, ↓RK_call, ↓RK_call_none, ↓RK_guard, ↓RK_pre, ↓RK_nil,
    OptK_some, OptK_none, Opt_some, Opt_none, lookE_t, lookE_c, lookL_nil, lookL_cons, ↓upd_apply, ↓List.length_cons, ↓List.length_nil, List.map_cons, List.map_nil, List.cons_append, List.nil_append, List.append_nil, loadV_fptr, loadV_loc, loadV_ptr, loadV_eq, locV_some, objV_arr, setO_arr, elemsV_nil, elemsV_eslice, elemsV_slice, elemsV_sl, elemsV_lref, fillV_nil, fillV_cons, putV_of, Option.bind_some, boundV, boundV_some, natV_one, natV_zero, natV_cast, lenV_sl, lenV_ints, List.length_map, resOf, Option.map_some, pack, eqCells, List.all_cons, List.all_nil,
    cells_int, cells_bool, cells_agg, cells_nil, cells_slice, cells_eslice, cells_lref, cells_ptr, cells_fptr, cells_clo, cells_map, cells_nilFunc, isAgg_int, isAgg_bool, isAgg_agg, isAgg_nil, isAgg_slice, isAgg_eslice, isAgg_lref, isAgg_ptr, isAgg_fptr, isAgg_clo, isAgg_map, isAgg_nilFunc, one_int, one_bool, one_nil, one_slice, one_eslice, one_lref, one_ptr, one_fptr, one_clo, one_map, one_nilFunc, nol_int, nol_bool, nol_nil, nol_slice, nol_eslice, nol_lref, nol_ptr, nol_fptr, nol_clo, nol_agg, nol_tup, nol_map, nol_nilFunc, nols_nil, nols_cons, solid_int, solid_bool, solid_nil, solid_slice, solid_eslice, solid_fptr, solid_clo, solid_agg, solid_tup, solids_nil, solids_cons, storable_int, storable_bool, storable_nil, storable_slice, storable_eslice, storable_lref, storable_ptr, storable_fptr, storable_map, storable_nilFunc, storable_clo, storable_agg, boolV_bool, cloV_clo, ncheckV_fptr, ncheckV_ptr, ncheckV_loc, ncheckV_clo, lenV_nil, lenV_eslice, lenV_slice, lenV_lref, eqbV_bool, eqsV_agg, faddrV_fptr, faddrV_ptr, faddrV_loc, fieldV_agg, extractV_tup, unV_not, unV_neg, binV_add, binV_sub, binV_mul, binV_quo, binV_rem, binV_eql, binV_neq, binV_lss, binV_leq, binV_gtr, binV_geq, put_zero_nil, put_zero, put_succ,
    solid_sl, nol_sl, one_sl, cells_sl, isAgg_sl, storable_sl, isNil_sl, solid_ints, nol_ints, one_ints, cells_ints, isAgg_ints, storable_ints,
    cells_lv, isAgg_lv, one_lv, nol_lv, storable_lv, lenV_lv, part_lv, chop_T, chop_F, chop_1,
    T.part_av, T.part_h, T.part_ks, T.cells_av, T.isAgg_av, T.solid_av, T.storable_av, T.nol_av, T.within_av, T.within_tt,
    Fa.part_av, Fa.part_n, Fa.part_l, Fa.part_r, Fa.part_lh, Fa.part_lk, Fa.part_rh, Fa.part_rk, Fa.cells_av, Fa.isAgg_av, Fa.solid_av, Fa.storable_av, Fa.nol_av, Fa.within_av, Fa.within_ff, Fa.within_l, Fa.within_r,
    Cl.part_av, Cl.part_el, Cl.part_fs, Cl.part_elfs, Cl.cells_av, Cl.cells_el, Cl.isAgg_av, Cl.isAgg_el, Cl.solid_av, Cl.solid_el, Cl.storable_av, Cl.storable_el, Cl.nol_av, Cl.nol_el, Cl.within_av, Cl.within_cc,
    Lo.part_av, Lo.part_ar, Lo.part_cs, Lo.cells_av, Lo.isAgg_av, Lo.solid_av, Lo.storable_av, Lo.nol_av, Lo.within_av,
    Gt.part_av, Gt.part_kind, Gt.part_a, Gt.part_b, Gt.part_i, Gt.part_j, Gt.part_turn, Gt.part_place, Gt.part_bind, Gt.cells_av, Gt.isAgg_av, Gt.solid_av, Gt.storable_av, Gt.nol_av, Gt.within_av,
    part_int, part_bool, part_sl, part_cell, part_lref, part_clo, part_map, part_nil, guardV_bool, beq_tt, beq_tf, beq_ft, beq_ff, guardV_tup, maxV2, maxV3, minV2, within_aggs, within_agg, within_cell, Nat.add_assoc, Nat.le_add_right, zero_cast, part_aggw, part_agg, not_false_eq_true, false_and, and_false, List.getElem?_cons_zero, List.getElem?_cons_succ, beq_self_eq_true, bne_self_eq_false, Bool.not_true, Bool.not_false, Bool.false_eq_true, Bool.true_eq_false, lt_cast, not_lt_cast, Bool.and_true, Bool.true_and, Bool.and_self, ↓reduceIte, Nat.reduceEqDiff, Nat.reduceAdd, Nat.reduceLeDiff, Nat.reduceLT, Nat.le_refl, and_self, and_true, true_and, reduceCtorEq, or_self, if_true, if_false, Nat.zero_add, Nat.add_zero, List.take_succ_cons, List.take_zero, List.drop_succ_cons, List.drop_zero, Bool.or_true, Bool.or_false, Bool.and_false, Bool.false_and, Bool.true_or, Bool.false_or, decide_true, decide_false]
    refine W_for t.ks.length (fun k e l H n => e 7 = sl 2 t.nil (t.ks.map T.av) ∧ e 3 = .int .i64 ((1 + T.sizes (t.ks.take k) : Nat) : Int)) (by omega) ?_ ?_ ?_ ?_ ?_ ?_
    · simp only [↓W_seqK, ↓NextK_normal, ↓NextK_exit, ↓NextK_ret, ↓W_skip, ↓W_exit, ↓W_ret, ↓W_block, ↓W_regionK, ↓W_drawK, ↓W_condK, ↓Next_normal, ↓Next_exit, ↓Next_ret, ↓Out_normal, ↓Out_here, ↓Out_exit, ↓Out_ret, ↓Ends_normal, ↓Ends_ret, ↓DK_nil, ↓DK_cons, ↓StoreK_loc, ↓StoreK_ptr,
    ↓RK_mov, ↓RK_pick, ↓RK_lalloc, ↓RK_halloc, ↓RK_fbox, ↓RK_lbox, ↓RK_hbox, ↓RK_build, ↓RK_bslice_live, ↓RK_bslice, ↓RK_load, ↓RK_store, ↓RK_ncheck, ↓RK_bin, ↓RK_eqb, ↓RK_eqnil, ↓RK_eqs, ↓RK_un, ↓RK_mkfn, ↓RK_mkmap, ↓RK_mkslice, ↓RK_slice, ↓RK_faddr, ↓RK_field, ↓RK_iaddr, ↓RK_iaddrA, ↓RK_indexA, ↓RK_extract, ↓RK_len, ↓RK_max, ↓RK_min, ↓RK_append, ↓RK_call, ↓RK_call_none, ↓RK_guard, ↓RK_pre, ↓RK_nil,
    OptK_some, OptK_none, Opt_some, Opt_none, lookE_t, lookE_c, lookL_nil, lookL_cons, ↓upd_apply, ↓List.length_cons, ↓List.length_nil, List.map_cons, List.map_nil, List.cons_append, List.nil_append, List.append_nil, loadV_fptr, loadV_loc, loadV_ptr, loadV_eq, locV_some, objV_arr, setO_arr, elemsV_nil, elemsV_eslice, elemsV_slice, elemsV_sl, elemsV_lref, fillV_nil, fillV_cons, putV_of, Option.bind_some, boundV, boundV_some, natV_one, natV_zero, natV_cast, lenV_sl, lenV_ints, List.length_map, resOf, Option.map_some, pack, eqCells, List.all_cons, List.all_nil,
    cells_int, cells_bool, cells_agg, cells_nil, cells_slice, cells_eslice, cells_lref, cells_ptr, cells_fptr, cells_clo, cells_map, cells_nilFunc, isAgg_int, isAgg_bool, isAgg_agg, isAgg_nil, isAgg_slice, isAgg_eslice, isAgg_lref, isAgg_ptr, isAgg_fptr, isAgg_clo, isAgg_map, isAgg_nilFunc, one_int, one_bool, one_nil, one_slice, one_eslice, one_lref, one_ptr, one_fptr, one_clo, one_map, one_nilFunc, nol_int, nol_bool, nol_nil, nol_slice, nol_eslice, nol_lref, nol_ptr, nol_fptr, nol_clo, nol_agg, nol_tup, nol_map, nol_nilFunc, nols_nil, nols_cons, solid_int, solid_bool, solid_nil, solid_slice, solid_eslice, solid_fptr, solid_clo, solid_agg, solid_tup, solids_nil, solids_cons, storable_int, storable_bool, storable_nil, storable_slice, storable_eslice, storable_lref, storable_ptr, storable_fptr, storable_map, storable_nilFunc, storable_clo, storable_agg, boolV_bool, cloV_clo, ncheckV_fptr, ncheckV_ptr, ncheckV_loc, ncheckV_clo, lenV_nil, lenV_eslice, lenV_slice, lenV_lref, eqbV_bool, eqsV_agg, faddrV_fptr, faddrV_ptr, faddrV_loc, fieldV_agg, extractV_tup, unV_not, unV_neg, binV_add, binV_sub, binV_mul, binV_quo, binV_rem, binV_eql, binV_neq, binV_lss, binV_leq, binV_gtr, binV_geq, put_zero_nil, put_zero, put_succ,
    solid_sl, nol_sl, one_sl, cells_sl, isAgg_sl, storable_sl, isNil_sl, solid_ints, nol_ints, one_ints, cells_ints, isAgg_ints, storable_ints,
    cells_lv, isAgg_lv, one_lv, nol_lv, storable_lv, lenV_lv, part_lv, chop_T, chop_F, chop_1,
    T.part_av, T.part_h, T.part_ks, T.cells_av, T.isAgg_av, T.solid_av, T.storable_av, T.nol_av, T.within_av, T.within_tt,
    Fa.part_av, Fa.part_n, Fa.part_l, Fa.part_r, Fa.part_lh, Fa.part_lk, Fa.part_rh, Fa.part_rk, Fa.cells_av, Fa.isAgg_av, Fa.solid_av, Fa.storable_av, Fa.nol_av, Fa.within_av, Fa.within_ff, Fa.within_l, Fa.within_r,
    Cl.part_av, Cl.part_el, Cl.part_fs, Cl.part_elfs, Cl.cells_av, Cl.cells_el, Cl.isAgg_av, Cl.isAgg_el, Cl.solid_av, Cl.solid_el, Cl.storable_av, Cl.storable_el, Cl.nol_av, Cl.nol_el, Cl.within_av, Cl.within_cc,
    Lo.part_av, Lo.part_ar, Lo.part_cs, Lo.cells_av, Lo.isAgg_av, Lo.solid_av, Lo.storable_av, Lo.nol_av, Lo.within_av,
    Gt.part_av, Gt.part_kind, Gt.part_a, Gt.part_b, Gt.part_i, Gt.part_j, Gt.part_turn, Gt.part_place, Gt.part_bind, Gt.cells_av, Gt.isAgg_av, Gt.solid_av, Gt.storable_av, Gt.nol_av, Gt.within_av,
    part_int, part_bool, part_sl, part_cell, part_lref, part_clo, part_map, part_nil, guardV_bool, beq_tt, beq_tf, beq_ft, beq_ff, guardV_tup, maxV2, maxV3, minV2, within_aggs, within_agg, within_cell, Nat.add_assoc, Nat.le_add_right, zero_cast, part_aggw, part_agg, not_false_eq_true, false_and, and_false, List.getElem?_cons_zero, List.getElem?_cons_succ, beq_self_eq_true, bne_self_eq_false, Bool.not_true, Bool.not_false, Bool.false_eq_true, Bool.true_eq_false, lt_cast, not_lt_cast, Bool.and_true, Bool.true_and, Bool.and_self, ↓reduceIte, Nat.reduceEqDiff, Nat.reduceAdd, Nat.reduceLeDiff, Nat.reduceLT, Nat.le_refl, and_self, and_true, true_and, reduceCtorEq, or_self, if_true, if_false, Nat.zero_add, Nat.add_zero, List.take_succ_cons, List.take_zero, List.drop_succ_cons, List.drop_zero, Bool.or_true, Bool.or_false, Bool.and_false, Bool.false_and, Bool.true_or, Bool.false_or, decide_true, decide_false]
    · simp only [↓W_seqK, ↓NextK_normal, ↓NextK_exit, ↓NextK_ret, ↓W_skip, ↓W_exit, ↓W_ret, ↓W_block, ↓W_regionK, ↓W_drawK, ↓W_condK, ↓Next_normal, ↓Next_exit, ↓Next_ret, ↓Out_normal, ↓Out_here, ↓Out_exit, ↓Out_ret, ↓Ends_normal, ↓Ends_ret, ↓DK_nil, ↓DK_cons, ↓StoreK_loc, ↓StoreK_ptr,
    ↓RK_mov, ↓RK_pick, ↓RK_lalloc, ↓RK_halloc, ↓RK_fbox, ↓RK_lbox, ↓RK_hbox, ↓RK_build, ↓RK_bslice_live, ↓RK_bslice, ↓RK_load, ↓RK_store, ↓RK_ncheck, ↓RK_bin, ↓RK_eqb, ↓RK_eqnil, ↓RK_eqs, ↓RK_un, ↓RK_mkfn, ↓RK_mkmap, ↓RK_mkslice, ↓RK_slice, ↓RK_faddr, ↓RK_field, ↓RK_iaddr, ↓RK_iaddrA, ↓RK_indexA, ↓RK_extract, ↓RK_len, ↓RK_max, ↓RK_min, ↓RK_append, ↓RK_call, ↓RK_call_none, ↓RK_guard, ↓RK_pre, ↓RK_nil,
    OptK_some, OptK_none, Opt_some, Opt_none, lookE_t, lookE_c, lookL_nil, lookL_cons, ↓upd_apply, ↓List.length_cons, ↓List.length_nil, List.map_cons, List.map_nil, List.cons_append, List.nil_append, List.append_nil, loadV_fptr, loadV_loc, loadV_ptr, loadV_eq, locV_some, objV_arr, setO_arr, elemsV_nil, elemsV_eslice, elemsV_slice, elemsV_sl, elemsV_lref, fillV_nil, fillV_cons, putV_of, Option.bind_some, boundV, boundV_some, natV_one, natV_zero, natV_cast, lenV_sl, lenV_ints, List.length_map, resOf, Option.map_some, pack, eqCells, List.all_cons, List.all_nil,
    cells_int, cells_bool, cells_agg, cells_nil, cells_slice, cells_eslice, cells_lref, cells_ptr, cells_fptr, cells_clo, cells_map, cells_nilFunc, isAgg_int, isAgg_bool, isAgg_agg, isAgg_nil, isAgg_slice, isAgg_eslice, isAgg_lref, isAgg_ptr, isAgg_fptr, isAgg_clo, isAgg_map, isAgg_nilFunc, one_int, one_bool, one_nil, one_slice, one_eslice, one_lref, one_ptr, one_fptr, one_clo, one_map, one_nilFunc, nol_int, nol_bool, nol_nil, nol_slice, nol_eslice, nol_lref, nol_ptr, nol_fptr, nol_clo, nol_agg, nol_tup, nol_map, nol_nilFunc, nols_nil, nols_cons, solid_int, solid_bool, solid_nil, solid_slice, solid_eslice, solid_fptr, solid_clo, solid_agg, solid_tup, solids_nil, solids_cons, storable_int, storable_bool, storable_nil, storable_slice, storable_eslice, storable_lref, storable_ptr, storable_fptr, storable_map, storable_nilFunc, storable_clo, storable_agg, boolV_bool, cloV_clo, ncheckV_fptr, ncheckV_ptr, ncheckV_loc, ncheckV_clo, lenV_nil, lenV_eslice, lenV_slice, lenV_lref, eqbV_bool, eqsV_agg, faddrV_fptr, faddrV_ptr, faddrV_loc, fieldV_agg, extractV_tup, unV_not, unV_neg, binV_add, binV_sub, binV_mul, binV_quo, binV_rem, binV_eql, binV_neq, binV_lss, binV_leq, binV_gtr, binV_geq, put_zero_nil, put_zero, put_succ,
    solid_sl, nol_sl, one_sl, cells_sl, isAgg_sl, storable_sl, isNil_sl, solid_ints, nol_ints, one_ints, cells_ints, isAgg_ints, storable_ints,
    cells_lv, isAgg_lv, one_lv, nol_lv, storable_lv, lenV_lv, part_lv, chop_T, chop_F, chop_1,
    T.part_av, T.part_h, T.part_ks, T.cells_av, T.isAgg_av, T.solid_av, T.storable_av, T.nol_av, T.within_av, T.within_tt,
    Fa.part_av, Fa.part_n, Fa.part_l, Fa.part_r, Fa.part_lh, Fa.part_lk, Fa.part_rh, Fa.part_rk, Fa.cells_av, Fa.isAgg_av, Fa.solid_av, Fa.storable_av, Fa.nol_av, Fa.within_av, Fa.within_ff, Fa.within_l, Fa.within_r,
    Cl.part_av, Cl.part_el, Cl.part_fs, Cl.part_elfs, Cl.cells_av, Cl.cells_el, Cl.isAgg_av, Cl.isAgg_el, Cl.solid_av, Cl.solid_el, Cl.storable_av, Cl.storable_el, Cl.nol_av, Cl.nol_el, Cl.within_av, Cl.within_cc,
    Lo.part_av, Lo.part_ar, Lo.part_cs, Lo.cells_av, Lo.isAgg_av, Lo.solid_av, Lo.storable_av, Lo.nol_av, Lo.within_av,
    Gt.part_av, Gt.part_kind, Gt.part_a, Gt.part_b, Gt.part_i, Gt.part_j, Gt.part_turn, Gt.part_place, Gt.part_bind, Gt.cells_av, Gt.isAgg_av, Gt.solid_av, Gt.storable_av, Gt.nol_av, Gt.within_av,
    part_int, part_bool, part_sl, part_cell, part_lref, part_clo, part_map, part_nil, guardV_bool, beq_tt, beq_tf, beq_ft, beq_ff, guardV_tup, maxV2, maxV3, minV2, within_aggs, within_agg, within_cell, Nat.add_assoc, Nat.le_add_right, zero_cast, part_aggw, part_agg, not_false_eq_true, false_and, and_false, List.getElem?_cons_zero, List.getElem?_cons_succ, beq_self_eq_true, bne_self_eq_false, Bool.not_true, Bool.not_false, Bool.false_eq_true, Bool.true_eq_false, lt_cast, not_lt_cast, Bool.and_true, Bool.true_and, Bool.and_self, ↓reduceIte, Nat.reduceEqDiff, Nat.reduceAdd, Nat.reduceLeDiff, Nat.reduceLT, Nat.le_refl, and_self, and_true, true_and, reduceCtorEq, or_self, if_true, if_false, Nat.zero_add, Nat.add_zero, List.take_succ_cons, List.take_zero, List.drop_succ_cons, List.drop_zero, Bool.or_true, Bool.or_false, Bool.and_false, Bool.false_and, Bool.true_or, Bool.false_or, decide_true, decide_false]
    · simp only [↓W_seqK, ↓NextK_normal, ↓NextK_exit, ↓NextK_ret, ↓W_skip, ↓W_exit, ↓W_ret, ↓W_block, ↓W_regionK, ↓W_drawK, ↓W_condK, ↓Next_normal, ↓Next_exit, ↓Next_ret, ↓Out_normal, ↓Out_here, ↓Out_exit, ↓Out_ret, ↓Ends_normal, ↓Ends_ret, ↓DK_nil, ↓DK_cons, ↓StoreK_loc, ↓StoreK_ptr,
    ↓RK_mov, ↓RK_pick, ↓RK_lalloc, ↓RK_halloc, ↓RK_fbox, ↓RK_lbox, ↓RK_hbox, ↓RK_build, ↓RK_bslice_live, ↓RK_bslice, ↓RK_load, ↓RK_store, ↓RK_ncheck, ↓RK_bin, ↓RK_eqb, ↓RK_eqnil, ↓RK_eqs, ↓RK_un, ↓RK_mkfn, ↓RK_mkmap, ↓RK_mkslice, ↓RK_slice, ↓RK_faddr, ↓RK_field, ↓RK_iaddr, ↓RK_iaddrA, ↓RK_indexA, ↓RK_extract, ↓RK_len, ↓RK_max, ↓RK_min, ↓RK_append, ↓RK_call, ↓RK_call_none, ↓RK_guard, ↓RK_pre, ↓RK_nil,
    OptK_some, OptK_none, Opt_some, Opt_none, lookE_t, lookE_c, lookL_nil, lookL_cons, ↓upd_apply, ↓List.length_cons, ↓List.length_nil, List.map_cons, List.map_nil, List.cons_append, List.nil_append, List.append_nil, loadV_fptr, loadV_loc, loadV_ptr, loadV_eq, locV_some, objV_arr, setO_arr, elemsV_nil, elemsV_eslice, elemsV_slice, elemsV_sl, elemsV_lref, fillV_nil, fillV_cons, putV_of, Option.bind_some, boundV, boundV_some, natV_one, natV_zero, natV_cast, lenV_sl, lenV_ints, List.length_map, resOf, Option.map_some, pack, eqCells, List.all_cons, List.all_nil,
    cells_int, cells_bool, cells_agg, cells_nil, cells_slice, cells_eslice, cells_lref, cells_ptr, cells_fptr, cells_clo, cells_map, cells_nilFunc, isAgg_int, isAgg_bool, isAgg_agg, isAgg_nil, isAgg_slice, isAgg_eslice, isAgg_lref, isAgg_ptr, isAgg_fptr, isAgg_clo, isAgg_map, isAgg_nilFunc, one_int, one_bool, one_nil, one_slice, one_eslice, one_lref, one_ptr, one_fptr, one_clo, one_map, one_nilFunc, nol_int, nol_bool, nol_nil, nol_slice, nol_eslice, nol_lref, nol_ptr, nol_fptr, nol_clo, nol_agg, nol_tup, nol_map, nol_nilFunc, nols_nil, nols_cons, solid_int, solid_bool, solid_nil, solid_slice, solid_eslice, solid_fptr, solid_clo, solid_agg, solid_tup, solids_nil, solids_cons, storable_int, storable_bool, storable_nil, storable_slice, storable_eslice, storable_lref, storable_ptr, storable_fptr, storable_map, storable_nilFunc, storable_clo, storable_agg, boolV_bool, cloV_clo, ncheckV_fptr, ncheckV_ptr, ncheckV_loc, ncheckV_clo, lenV_nil, lenV_eslice, lenV_slice, lenV_lref, eqbV_bool, eqsV_agg, faddrV_fptr, faddrV_ptr, faddrV_loc, fieldV_agg, extractV_tup, unV_not, unV_neg, binV_add, binV_sub, binV_mul, binV_quo, binV_rem, binV_eql, binV_neq, binV_lss, binV_leq, binV_gtr, binV_geq, put_zero_nil, put_zero, put_succ,
    solid_sl, nol_sl, one_sl, cells_sl, isAgg_sl, storable_sl, isNil_sl, solid_ints, nol_ints, one_ints, cells_ints, isAgg_ints, storable_ints,
    cells_lv, isAgg_lv, one_lv, nol_lv, storable_lv, lenV_lv, part_lv, chop_T, chop_F, chop_1,
    T.part_av, T.part_h, T.part_ks, T.cells_av, T.isAgg_av, T.solid_av, T.storable_av, T.nol_av, T.within_av, T.within_tt,
    Fa.part_av, Fa.part_n, Fa.part_l, Fa.part_r, Fa.part_lh, Fa.part_lk, Fa.part_rh, Fa.part_rk, Fa.cells_av, Fa.isAgg_av, Fa.solid_av, Fa.storable_av, Fa.nol_av, Fa.within_av, Fa.within_ff, Fa.within_l, Fa.within_r,
    Cl.part_av, Cl.part_el, Cl.part_fs, Cl.part_elfs, Cl.cells_av, Cl.cells_el, Cl.isAgg_av, Cl.isAgg_el, Cl.solid_av, Cl.solid_el, Cl.storable_av, Cl.storable_el, Cl.nol_av, Cl.nol_el, Cl.within_av, Cl.within_cc,
    Lo.part_av, Lo.part_ar, Lo.part_cs, Lo.cells_av, Lo.isAgg_av, Lo.solid_av, Lo.storable_av, Lo.nol_av, Lo.within_av,
    Gt.part_av, Gt.part_kind, Gt.part_a, Gt.part_b, Gt.part_i, Gt.part_j, Gt.part_turn, Gt.part_place, Gt.part_bind, Gt.cells_av, Gt.isAgg_av, Gt.solid_av, Gt.storable_av, Gt.nol_av, Gt.within_av,
    part_int, part_bool, part_sl, part_cell, part_lref, part_clo, part_map, part_nil, guardV_bool, beq_tt, beq_tf, beq_ft, beq_ff, guardV_tup, maxV2, maxV3, minV2, within_aggs, within_agg, within_cell, Nat.add_assoc, Nat.le_add_right, zero_cast, part_aggw, part_agg, not_false_eq_true, false_and, and_false, List.getElem?_cons_zero, List.getElem?_cons_succ, beq_self_eq_true, bne_self_eq_false, Bool.not_true, Bool.not_false, Bool.false_eq_true, Bool.true_eq_false, lt_cast, not_lt_cast, Bool.and_true, Bool.true_and, Bool.and_self, ↓reduceIte, Nat.reduceEqDiff, Nat.reduceAdd, Nat.reduceLeDiff, Nat.reduceLT, Nat.le_refl, and_self, and_true, true_and, reduceCtorEq, or_self, if_true, if_false, Nat.zero_add, Nat.add_zero, List.take_succ_cons, List.take_zero, List.drop_succ_cons, List.drop_zero, Bool.or_true, Bool.or_false, Bool.and_false, Bool.false_and, Bool.true_or, Bool.false_or, decide_true, decide_false]; simp [T.sizes]
    · decide
    · rintro k e l H n hk hi hn ⟨h7, h3⟩
      have hz := T.size_kid hk
      have hy := T.sizes_le t.ks (k + 1)
      rw [T.sizes_take _ _ hk] at hy
      have ih' := (ih t.ks[k] (List.getElem_mem hk) (by omega))
      simp only [↓W_seqK, ↓NextK_normal, ↓NextK_exit, ↓NextK_ret, ↓W_skip, ↓W_exit, ↓W_ret, ↓W_block, ↓W_regionK, ↓W_drawK, ↓W_condK, ↓Next_normal, ↓Next_exit, ↓Next_ret, ↓Out_normal, ↓Out_here, ↓Out_exit, ↓Out_ret, ↓Ends_normal, ↓Ends_ret, ↓DK_nil, ↓DK_cons, ↓StoreK_loc, ↓StoreK_ptr,
    ↓RK_mov, ↓RK_pick, ↓RK_lalloc, ↓RK_halloc, ↓RK_fbox, ↓RK_lbox, ↓RK_hbox, ↓RK_build, ↓RK_bslice_live, ↓RK_bslice, ↓RK_load, ↓RK_store, ↓RK_ncheck, ↓RK_bin, ↓RK_eqb, ↓RK_eqnil, ↓RK_eqs, ↓RK_un, ↓RK_mkfn, ↓RK_mkmap, ↓RK_mkslice, ↓RK_slice, ↓RK_faddr, ↓RK_field, ↓RK_iaddr, ↓RK_iaddrA, ↓RK_indexA, ↓RK_extract, ↓RK_len, ↓RK_max, ↓RK_min, ↓RK_append, ↓RK_call, ↓RK_call_none, ↓RK_guard, ↓RK_pre, ↓RK_nil,
    OptK_some, OptK_none, Opt_some, Opt_none, lookE_t, lookE_c, lookL_nil, lookL_cons, ↓upd_apply, ↓List.length_cons, ↓List.length_nil, List.map_cons, List.map_nil, List.cons_append, List.nil_append, List.append_nil, loadV_fptr, loadV_loc, loadV_ptr, loadV_eq, locV_some, objV_arr, setO_arr, elemsV_nil, elemsV_eslice, elemsV_slice, elemsV_sl, elemsV_lref, fillV_nil, fillV_cons, putV_of, Option.bind_some, boundV, boundV_some, natV_one, natV_zero, natV_cast, lenV_sl, lenV_ints, List.length_map, resOf, Option.map_some, pack, eqCells, List.all_cons, List.all_nil,
    cells_int, cells_bool, cells_agg, cells_nil, cells_slice, cells_eslice, cells_lref, cells_ptr, cells_fptr, cells_clo, cells_map, cells_nilFunc, isAgg_int, isAgg_bool, isAgg_agg, isAgg_nil, isAgg_slice, isAgg_eslice, isAgg_lref, isAgg_ptr, isAgg_fptr, isAgg_clo, isAgg_map, isAgg_nilFunc, one_int, one_bool, one_nil, one_slice, one_eslice, one_lref, one_ptr, one_fptr, one_clo, one_map, one_nilFunc, nol_int, nol_bool, nol_nil, nol_slice, nol_eslice, nol_lref, nol_ptr, nol_fptr, nol_clo, nol_agg, nol_tup, nol_map, nol_nilFunc, nols_nil, nols_cons, solid_int, solid_bool, solid_nil, solid_slice, solid_eslice, solid_fptr, solid_clo, solid_agg, solid_tup, solids_nil, solids_cons, storable_int, storable_bool, storable_nil, storable_slice, storable_eslice, storable_lref, storable_ptr, storable_fptr, storable_map, storable_nilFunc, storable_clo, storable_agg, boolV_bool, cloV_clo, ncheckV_fptr, ncheckV_ptr, ncheckV_loc, ncheckV_clo, lenV_nil, lenV_eslice, lenV_slice, lenV_lref, eqbV_bool, eqsV_agg, faddrV_fptr, faddrV_ptr, faddrV_loc, fieldV_agg, extractV_tup, unV_not, unV_neg, binV_add, binV_sub, binV_mul, binV_quo, binV_rem, binV_eql, binV_neq, binV_lss, binV_leq, binV_gtr, binV_geq, put_zero_nil, put_zero, put_succ,
    solid_sl, nol_sl, one_sl, cells_sl, isAgg_sl, storable_sl, isNil_sl, solid_ints, nol_ints, one_ints, cells_ints, isAgg_ints, storable_ints,
    cells_lv, isAgg_lv, one_lv, nol_lv, storable_lv, lenV_lv, part_lv, chop_T, chop_F, chop_1,
    T.part_av, T.part_h, T.part_ks, T.cells_av, T.isAgg_av, T.solid_av, T.storable_av, T.nol_av, T.within_av, T.within_tt,
    Fa.part_av, Fa.part_n, Fa.part_l, Fa.part_r, Fa.part_lh, Fa.part_lk, Fa.part_rh, Fa.part_rk, Fa.cells_av, Fa.isAgg_av, Fa.solid_av, Fa.storable_av, Fa.nol_av, Fa.within_av, Fa.within_ff, Fa.within_l, Fa.within_r,
    Cl.part_av, Cl.part_el, Cl.part_fs, Cl.part_elfs, Cl.cells_av, Cl.cells_el, Cl.isAgg_av, Cl.isAgg_el, Cl.solid_av, Cl.solid_el, Cl.storable_av, Cl.storable_el, Cl.nol_av, Cl.nol_el, Cl.within_av, Cl.within_cc,
    Lo.part_av, Lo.part_ar, Lo.part_cs, Lo.cells_av, Lo.isAgg_av, Lo.solid_av, Lo.storable_av, Lo.nol_av, Lo.within_av,
    Gt.part_av, Gt.part_kind, Gt.part_a, Gt.part_b, Gt.part_i, Gt.part_j, Gt.part_turn, Gt.part_place, Gt.part_bind, Gt.cells_av, Gt.isAgg_av, Gt.solid_av, Gt.storable_av, Gt.nol_av, Gt.within_av,
    part_int, part_bool, part_sl, part_cell, part_lref, part_clo, part_map, part_nil, guardV_bool, beq_tt, beq_tf, beq_ft, beq_ff, guardV_tup, maxV2, maxV3, minV2, within_aggs, within_agg, within_cell, Nat.add_assoc, Nat.le_add_right, zero_cast, part_aggw, part_agg, not_false_eq_true, false_and, and_false, List.getElem?_cons_zero, List.getElem?_cons_succ, beq_self_eq_true, bne_self_eq_false, Bool.not_true, Bool.not_false, Bool.false_eq_true, Bool.true_eq_false, lt_cast, not_lt_cast, Bool.and_true, Bool.true_and, Bool.and_self, ↓reduceIte, Nat.reduceEqDiff, Nat.reduceAdd, Nat.reduceLeDiff, Nat.reduceLT, Nat.le_refl, and_self, and_true, true_and, reduceCtorEq, or_self, if_true, if_false, Nat.zero_add, Nat.add_zero, List.take_succ_cons, List.take_zero, List.drop_succ_cons, List.drop_zero, Bool.or_true, Bool.or_false, Bool.and_false, Bool.false_and, Bool.true_or, Bool.false_or, decide_true, decide_false, h7, h3, hi, hn, iaddr_map hk, ih'.callK]
      rw [T.sizes_take _ _ hk, wrap64 (by omega) (by omega)]
      simp; omega
    · rintro e l H n hi hn ⟨h7, h3⟩
      simp only [↓W_seqK, ↓NextK_normal, ↓NextK_exit, ↓NextK_ret, ↓W_skip, ↓W_exit, ↓W_ret, ↓W_block, ↓W_regionK, ↓W_drawK, ↓W_condK, ↓Next_normal, ↓Next_exit, ↓Next_ret, ↓Out_normal, ↓Out_here, ↓Out_exit, ↓Out_ret, ↓Ends_normal, ↓Ends_ret, ↓DK_nil, ↓DK_cons, ↓StoreK_loc, ↓StoreK_ptr,
    ↓RK_mov, ↓RK_pick, ↓RK_lalloc, ↓RK_halloc, ↓RK_fbox, ↓RK_lbox, ↓RK_hbox, ↓RK_build, ↓RK_bslice_live, ↓RK_bslice, ↓RK_load, ↓RK_store, ↓RK_ncheck, ↓RK_bin, ↓RK_eqb, ↓RK_eqnil, ↓RK_eqs, ↓RK_un, ↓RK_mkfn, ↓RK_mkmap, ↓RK_mkslice, ↓RK_slice, ↓RK_faddr, ↓RK_field, ↓RK_iaddr, ↓RK_iaddrA, ↓RK_indexA, ↓RK_extract, ↓RK_len, ↓RK_max, ↓RK_min, ↓RK_append, ↓RK_call, ↓RK_call_none, ↓RK_guard, ↓RK_pre, ↓RK_nil,
    OptK_some, OptK_none, Opt_some, Opt_none, lookE_t, lookE_c, lookL_nil, lookL_cons, ↓upd_apply, ↓List.length_cons, ↓List.length_nil, List.map_cons, List.map_nil, List.cons_append, List.nil_append, List.append_nil, loadV_fptr, loadV_loc, loadV_ptr, loadV_eq, locV_some, objV_arr, setO_arr, elemsV_nil, elemsV_eslice, elemsV_slice, elemsV_sl, elemsV_lref, fillV_nil, fillV_cons, putV_of, Option.bind_some, boundV, boundV_some, natV_one, natV_zero, natV_cast, lenV_sl, lenV_ints, List.length_map, resOf, Option.map_some, pack, eqCells, List.all_cons, List.all_nil,
    cells_int, cells_bool, cells_agg, cells_nil, cells_slice, cells_eslice, cells_lref, cells_ptr, cells_fptr, cells_clo, cells_map, cells_nilFunc, isAgg_int, isAgg_bool, isAgg_agg, isAgg_nil, isAgg_slice, isAgg_eslice, isAgg_lref, isAgg_ptr, isAgg_fptr, isAgg_clo, isAgg_map, isAgg_nilFunc, one_int, one_bool, one_nil, one_slice, one_eslice, one_lref, one_ptr, one_fptr, one_clo, one_map, one_nilFunc, nol_int, nol_bool, nol_nil, nol_slice, nol_eslice, nol_lref, nol_ptr, nol_fptr, nol_clo, nol_agg, nol_tup, nol_map, nol_nilFunc, nols_nil, nols_cons, solid_int, solid_bool, solid_nil, solid_slice, solid_eslice, solid_fptr, solid_clo, solid_agg, solid_tup, solids_nil, solids_cons, storable_int, storable_bool, storable_nil, storable_slice, storable_eslice, storable_lref, storable_ptr, storable_fptr, storable_map, storable_nilFunc, storable_clo, storable_agg, boolV_bool, cloV_clo, ncheckV_fptr, ncheckV_ptr, ncheckV_loc, ncheckV_clo, lenV_nil, lenV_eslice, lenV_slice, lenV_lref, eqbV_bool, eqsV_agg, faddrV_fptr, faddrV_ptr, faddrV_loc, fieldV_agg, extractV_tup, unV_not, unV_neg, binV_add, binV_sub, binV_mul, binV_quo, binV_rem, binV_eql, binV_neq, binV_lss, binV_leq, binV_gtr, binV_geq, put_zero_nil, put_zero, put_succ,
    solid_sl, nol_sl, one_sl, cells_sl, isAgg_sl, storable_sl, isNil_sl, solid_ints, nol_ints, one_ints, cells_ints, isAgg_ints, storable_ints,
    cells_lv, isAgg_lv, one_lv, nol_lv, storable_lv, lenV_lv, part_lv, chop_T, chop_F, chop_1,
    T.part_av, T.part_h, T.part_ks, T.cells_av, T.isAgg_av, T.solid_av, T.storable_av, T.nol_av, T.within_av, T.within_tt,
    Fa.part_av, Fa.part_n, Fa.part_l, Fa.part_r, Fa.part_lh, Fa.part_lk, Fa.part_rh, Fa.part_rk, Fa.cells_av, Fa.isAgg_av, Fa.solid_av, Fa.storable_av, Fa.nol_av, Fa.within_av, Fa.within_ff, Fa.within_l, Fa.within_r,
    Cl.part_av, Cl.part_el, Cl.part_fs, Cl.part_elfs, Cl.cells_av, Cl.cells_el, Cl.isAgg_av, Cl.isAgg_el, Cl.solid_av, Cl.solid_el, Cl.storable_av, Cl.storable_el, Cl.nol_av, Cl.nol_el, Cl.within_av, Cl.within_cc,
    Lo.part_av, Lo.part_ar, Lo.part_cs, Lo.cells_av, Lo.isAgg_av, Lo.solid_av, Lo.storable_av, Lo.nol_av, Lo.within_av,
    Gt.part_av, Gt.part_kind, Gt.part_a, Gt.part_b, Gt.part_i, Gt.part_j, Gt.part_turn, Gt.part_place, Gt.part_bind, Gt.cells_av, Gt.isAgg_av, Gt.solid_av, Gt.storable_av, Gt.nol_av, Gt.within_av,
    part_int, part_bool, part_sl, part_cell, part_lref, part_clo, part_map, part_nil, guardV_bool, beq_tt, beq_tf, beq_ft, beq_ff, guardV_tup, maxV2, maxV3, minV2, within_aggs, within_agg, within_cell, Nat.add_assoc, Nat.le_add_right, zero_cast, part_aggw, part_agg, not_false_eq_true, false_and, and_false, List.getElem?_cons_zero, List.getElem?_cons_succ, beq_self_eq_true, bne_self_eq_false, Bool.not_true, Bool.not_false, Bool.false_eq_true, Bool.true_eq_false, lt_cast, not_lt_cast, Bool.and_true, Bool.true_and, Bool.and_self, ↓reduceIte, Nat.reduceEqDiff, Nat.reduceAdd, Nat.reduceLeDiff, Nat.reduceLT, Nat.le_refl, and_self, and_true, true_and, reduceCtorEq, or_self, if_true, if_false, Nat.zero_add, Nat.add_zero, List.take_succ_cons, List.take_zero, List.drop_succ_cons, List.drop_zero, Bool.or_true, Bool.or_false, Bool.and_false, Bool.false_and, Bool.true_or, Bool.false_or, decide_true, decide_false, h7, h3]
      simp; omega

end Go.Proofs.Ytmbdccekcfeomaa.Am
