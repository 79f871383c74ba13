/- Facts that are searched; claims without what is said twice. -/
import Derived.Test.YtmbdccekcfeomaaT24
section
open Go
namespace Go.Proofs.Ytmbdccekcfeomaa.Am
set_option linter.unusedSimpArgs false
set_option linter.unusedVariables false

theorem callK_eq {tab : Nat → Option AFun} {wl f : Nat} {args : List AV} {H H' : Nat → Option Obj} {nx nx' : Nat} {r : AV} {K : AV → (Nat → Option Obj) → Nat → Prop} {m : Mark K} (h : C tab wl f args H nx = some (r, H', nx')) : CallK tab wl f args H nx K m ↔ K r H' nx' := by
  unfold CallK Call
  constructor
  · rintro ⟨x, H1, n, e, k⟩; rw [h] at e; simp only [Option.some.injEq, Prod.mk.injEq] at e; obtain ⟨rfl, rfl, rfl⟩ := e; exact k
  · intro k; exact ⟨_, _, _, h, k⟩
/-- What a pure function gives, of memory as it is. -/
theorem gives_at {wl f d s : Nat} {args : List AV} {body : ACode} {res : List ARes} {r : AV} {H : Nat → Option Obj} {nx : Nat} (hf : tab f = some ⟨.pure, d, s, body, res⟩)
    (h : W tab nx body (start args H nx) (Ends fun τ => Opt (resOf τ res) fun vs => AV.solids vs = true ∧ pack vs = r)) : C tab wl f args H nx = some (r, H, nx) := by
  have := call_solid (wl := wl) (args := args) (H := H) (nx := nx) (K := fun x H1 n => x = r ∧ H1 = H ∧ n = nx) hf (W_mono h ?_)
  · obtain ⟨x, H1, n, e, rfl, rfl, rfl⟩ := this; exact e
  · intro e τ hq
    cases e
    · obtain ⟨vs, a, b, c⟩ := hq; exact ⟨vs, a, b, c, rfl, rfl⟩
    · exact hq
    · obtain ⟨vs, a, b, c⟩ := hq; exact ⟨vs, a, b, c, rfl, rfl⟩
theorem gives_at_thaw {wl f d s : Nat} {args : List AV} {body : ACode} {res : List ARes} {r : AV} {H : Nat → Option Obj} {nx : Nat} (hf : tab f = some ⟨.pure, d, s, body, res⟩)
    (h : W tab nx body (start args H nx) (Ends fun τ => Opt (resOf τ res) fun vs => Opt (thaw nx d τ.H vs) fun p => AV.solids p.1 = true ∧ pack p.1 = r)) : C tab wl f args H nx = some (r, H, nx) := by
  have := call_thaw (wl := wl) (args := args) (H := H) (nx := nx) (K := fun x H1 n => x = r ∧ H1 = H ∧ n = nx) hf (W_mono h ?_)
  · obtain ⟨x, H1, n, e, rfl, rfl, rfl⟩ := this; exact e
  · intro e τ hq
    cases e
    · obtain ⟨vs, a, p, b, c, d⟩ := hq; exact ⟨vs, a, p, b, c, d, rfl, rfl⟩
    · exact hq
    · obtain ⟨vs, a, p, b, c, d⟩ := hq; exact ⟨vs, a, p, b, c, d, rfl, rfl⟩

/-- A slice's elements, as they are read. -/
structure Sees (H : Nat → Option Obj) (sz : Nat) (agg : Bool) (v : AV) (es : List AV) : Prop where
  len : lenV v = some (.int .i64 es.length)
  at_ : ∀ (k : Nat) (h : k < es.length), ∃ p, iaddrV H sz v (.int .i64 k) = some p ∧ (∀ l, loadV l H sz agg p = some es[k]) ∧ ∃ h, Fp.at false p = ⟨none, h⟩
  nol : v.nol = true
theorem Sees.sl {α : Type} {H : Nat → Option Obj} {sz : Nat} {agg nil : Bool} {xs : List α} {f g : α → AV} (h : ∀ x, part sz agg (f x) 0 = some (g x)) : Sees H sz agg (Am.sl sz nil (xs.map f)) (xs.map g) where
  len := by rw [lenV_sl]; simp
  at_ k hk := by
    have hk' : k < xs.length := by simpa using hk
    exact ⟨_, iaddr_map hk', fun l => by rw [loadV_fptr, h]; simp, _, rfl⟩
  nol := nol_sl
theorem Sees.lv {α : Type} {H : Nat → Option Obj} {lo hi sz id n : Nat} {agg : Bool} {xs : List α} {f g : α → AV} (ho : Own H lo hi sz id (xs.map f)) (hn : xs.length = n) (h : ∀ x, part sz agg (f x) 0 = some (g x)) : Sees H sz agg (Am.lv id n) (xs.map g) where
  len := by rw [lenV_lv, ← hn]; simp
  at_ k hk := by
    have hk' : k < xs.length := by simpa using hk
    have hne : xs.map f ≠ [] := by intro hx; rw [List.map_eq_nil_iff] at hx; subst hx; simp at hk'
    obtain ⟨_, _, hH⟩ := ho hne
    have e : Am.lv id n = .lref id 0 n := by unfold Am.lv; rw [if_neg (by omega)]
    rw [e]
    refine ⟨.ptr id (0 + k) 0, ?_, fun l => ?_, _, rfl⟩
    · simp only [iaddrV]
      rw [if_pos (by omega), hH]
      simp only
      rw [if_pos ⟨trivial, by omega⟩]; simp
    · rw [loadV_ptr, hH, objV_arr]
      simp [hk', h]
  nol := nol_lv _ _

def idx {α : Type} (p : α → Bool) (l : List α) : Int := match l.findIdx? p with | some i => i | none => -1
theorem idx_any {α : Type} (p : α → Bool) (l : List α) : decide (idx p l ≥ 0) = l.any p := by
  unfold idx
  cases hfi : l.findIdx? p with
  | none => rw [List.findIdx?_eq_none_iff] at hfi; simp; intro x hx; simpa using hfi x hx
  | some i =>
    have : l.any p = true := by
      rw [List.findIdx?_eq_some_iff_getElem] at hfi
      obtain ⟨h, hp, _⟩ := hfi
      rw [List.any_eq_true]; exact ⟨l[i], List.getElem_mem h, hp⟩
    rw [this]; simp
theorem index91 {wl nx f : Nat} {H : Nat → Option Obj} {v : AV} {cap : List AV} {fs : List Fa} {p : Fa → Bool} (hv : Sees H 5 true v (fs.map Fa.av)) (hl : fs.length < 4611686018427387904) (hcap : AV.nols cap = true)
    (hf : ∀ x ∈ fs, ∀ wl nx, C tab wl f (x.av :: cap) H nx = some (.bool (p x), H, nx)) : C tab wl 91 [v, .clo f cap] H nx = some (.int .i64 (idx p fs), H, nx) := by
  have hlen := hv.len
  rw [List.length_map] at hlen
  refine gives_at tab_91 ?_
  unfold idx
  · unfold body91
    dsimp only [qm, qf, ql, qL, qs, qc, qk, qi, qn, qb, qB, qe, qx, qo, qg]
    simp only [start2]
    simp only [↓sd0, su0, su1, resOf, pack, eqCells, ↓reduceIte, Nat.reduceEqDiff, Nat.reduceAdd, Nat.reduceLeDiff, Nat.reduceLT, reduceCtorEq, hlen]
    refine W_count fs.length (fun k e l H' n => e 0 = v ∧ e 1 = .clo f cap ∧ e 8 = .int .i64 k ∧ e 7 = .int .i64 fs.length ∧ H' = H ∧ (∀ j (h : j < fs.length), j < k → p fs[j] = false)) ?_ ?_ ?_
    · simp only [↓sd0, su0, su1, resOf, pack, eqCells, ↓reduceIte, Nat.reduceEqDiff, Nat.reduceAdd, Nat.reduceLeDiff, Nat.reduceLT, reduceCtorEq]; intro j _ hj; omega
    · rintro k e l H' n hk ⟨h0, h1, h8, h7, rfl, hno⟩
      obtain ⟨q, hq, hld, _⟩ := hv.at_ k (by simpa using hk)
      simp only [List.getElem_map] at hld
      have hc := hf fs[k] (List.getElem_mem hk)
      cases cz : p fs[k]
      · simp only [↓sd0, su0, su1, resOf, pack, eqCells, ↓reduceIte, Nat.reduceEqDiff, Nat.reduceAdd, Nat.reduceLeDiff, Nat.reduceLT, reduceCtorEq, h0, h1, h8, h7, lt_cast hk, hq, hld, hcap, callK_eq (hc _ _), cz, wrap_succ hk hl]
        intro j hj hjk
        rcases Nat.lt_or_ge j k with h | h
        · exact hno j hj h
        · have : j = k := by omega
          subst this; exact cz
      · have hfi : fs.findIdx? p = some k := by
          rw [List.findIdx?_eq_some_iff_getElem]; exact ⟨hk, cz, fun j hj => by simp [hno j (by omega) hj]⟩
        simp only [↓sd0, su0, su1, resOf, pack, eqCells, ↓reduceIte, Nat.reduceEqDiff, Nat.reduceAdd, Nat.reduceLeDiff, Nat.reduceLT, reduceCtorEq, h0, h1, h8, h7, lt_cast hk, hq, hld, hcap, callK_eq (hc _ _), cz, hfi]
    · rintro e l H' n ⟨h0, h1, h8, h7, rfl, hno⟩
      have hfi : fs.findIdx? p = none := by
        rw [List.findIdx?_eq_none_iff]; intro x hx
        obtain ⟨j, hj, rfl⟩ := List.getElem_of_mem hx
        exact hno j hj hj
      simp only [↓sd0, su0, su1, resOf, pack, eqCells, ↓reduceIte, Nat.reduceEqDiff, Nat.reduceAdd, Nat.reduceLeDiff, Nat.reduceLT, reduceCtorEq, h0, h1, h8, h7, hfi]

theorem contains70 {wl nx f : Nat} {H : Nat → Option Obj} {v : AV} {cap : List AV} {fs : List Fa} {p : Fa → Bool} (hv : Sees H 5 true v (fs.map Fa.av)) (hl : fs.length < 4611686018427387904) (hcap : AV.nols cap = true)
    (hf : ∀ x ∈ fs, ∀ wl nx, C tab wl f (x.av :: cap) H nx = some (.bool (p x), H, nx)) : C tab wl 70 [v, .clo f cap] H nx = some (.bool (fs.any p), H, nx) := by
  refine gives_at tab_70 ?_
  unfold body70
  dsimp only [qm, qf, ql, qL, qs, qc, qk, qi, qn, qb, qB, qe, qx, qo, qg]
  simp only [start2]
  simp only [↓sd0, su0, su1, resOf, pack, eqCells, ↓reduceIte, Nat.reduceEqDiff, Nat.reduceAdd, Nat.reduceLeDiff, Nat.reduceLT, reduceCtorEq, hv.nol, hcap, callK_eq (index91 hv hl hcap hf), idx_any]


/-! ### claims that say nothing -/
def Fa.idle (f : Fa) : Bool := !f.n && f.l.same f.r
theorem idle1_spec (f : Fa) (h : f.l.size < 4611686018427387904) : Gives tab 71 [f.av] (.bool f.idle) := by
  refine gives tab_71 fun H nx => ?_
  unfold body71 Fa.idle
  dsimp only [qm, qf, ql, qL, qs, qc, qk, qi, qn, qb, qB, qe, qx, qo, qg]
  simp only [start1]
  cases c : f.n <;> simp only [↓sd0, su0, su1, resOf, pack, eqCells, ↓reduceIte, Nat.reduceEqDiff, Nat.reduceAdd, Nat.reduceLeDiff, Nat.reduceLT, reduceCtorEq, c, (same_spec f.l f.r h).callK]
theorem idle_spec (c : Cl) (hl : c.fs.length < 4611686018427387904) (h : ∀ f ∈ c.fs, f.l.size < 4611686018427387904) : Gives tab 44 [c.av] (.bool (c.fs.any Fa.idle)) := by
  refine gives tab_44 fun H nx => ?_
  unfold body44
  dsimp only [qm, qf, ql, qL, qs, qc, qk, qi, qn, qb, qB, qe, qx, qo, qg]
  simp only [start1]
  simp only [↓sd0, su0, su1, resOf, pack, eqCells, ↓reduceIte, Nat.reduceEqDiff, Nat.reduceAdd, Nat.reduceLeDiff, Nat.reduceLT, reduceCtorEq, callK_eq (contains70 (H := H) (Sees.sl (nil := c.nil) Fa.part_av) hl nols_nil fun x hx wl nx => idle1_spec x (h x hx) wl H nx)]

theorem equalf_spec (as bs : List Fa) (b1 b2 : Bool) (hl : as.length < 4611686018427387904) (ih : ∀ a ∈ as, a.l.size < 4611686018427387904 ∧ a.r.size < 4611686018427387904) :
    ∃ r : Bool, Gives tab 46 [sl 5 b1 (as.map Fa.av), sl 5 b2 (bs.map Fa.av), .clo 47 []] (.bool r) := by
  by_cases c : as.length = bs.length
  · refine ⟨(List.range as.length).all fun k => match as[k]?, bs[k]? with | some a, some b => a.same b | _, _ => true, gives tab_46 fun H nx => ?_⟩
    unfold body46
    dsimp only [qm, qf, ql, qL, qs, qc, qk, qi, qn, qb, qB, qe, qx, qo, qg]
    simp only [start3]
    have q : ((as.length : Int) != (bs.length : Int)) = false := by simp [c]
    simp only [↓sd0, su0, su1, resOf, pack, eqCells, ↓reduceIte, Nat.reduceEqDiff, Nat.reduceAdd, Nat.reduceLeDiff, Nat.reduceLT, reduceCtorEq, q]
    refine W_count as.length (fun k e l H' n => e 15 = sl 5 b1 (as.map Fa.av) ∧ e 1 = sl 5 b2 (bs.map Fa.av) ∧ e 2 = .clo 47 [] ∧ e 17 = .int .i64 k ∧ e 16 = .int .i64 as.length ∧ ∀ j (h : j < as.length) (h2 : j < bs.length), j < k → as[j].same bs[j] = true) ?_ ?_ ?_
    · simp only [↓sd0, su0, su1, resOf, pack, eqCells, ↓reduceIte, Nat.reduceEqDiff, Nat.reduceAdd, Nat.reduceLeDiff, Nat.reduceLT, reduceCtorEq]; intro j _ _ hj; omega
    · rintro k e l H' n hk ⟨h15, h1, h2, h17, h16, hq⟩
      have hk2 : k < bs.length := by omega
      have hx := ih as[k] (List.getElem_mem hk)
      cases cz : as[k].same bs[k]
      · have : ((List.range as.length).all fun k => match as[k]?, bs[k]? with | some a, some b => a.same b | _, _ => true) = false := by
          rw [List.all_eq_false]
          exact ⟨k, List.mem_range.2 hk, by rw [List.getElem?_eq_getElem hk, List.getElem?_eq_getElem hk2]; simp [cz]⟩
        simp only [↓sd0, su0, su1, resOf, pack, eqCells, ↓reduceIte, Nat.reduceEqDiff, Nat.reduceAdd, Nat.reduceLeDiff, Nat.reduceLT, reduceCtorEq, h15, h1, h2, h17, h16, iaddr_map hk, iaddr_map hk2, lt_cast hk, (samefact_spec as[k] bs[k] hx.1 hx.2).callK, cz, wrap_succ hk hl, this]
      · simp only [↓sd0, su0, su1, resOf, pack, eqCells, ↓reduceIte, Nat.reduceEqDiff, Nat.reduceAdd, Nat.reduceLeDiff, Nat.reduceLT, reduceCtorEq, h15, h1, h2, h17, h16, iaddr_map hk, iaddr_map hk2, lt_cast hk, (samefact_spec as[k] bs[k] hx.1 hx.2).callK, cz, wrap_succ hk hl]
        intro j hj hj2 hjk
        rcases Nat.lt_or_ge j k with h | h
        · exact hq j hj hj2 h
        · have : j = k := by omega
          subst this; exact cz
    · rintro e l H' n ⟨h15, h1, h2, h17, h16, hq⟩
      have : ((List.range as.length).all fun k => match as[k]?, bs[k]? with | some a, some b => a.same b | _, _ => true) = true := by
        rw [List.all_eq_true]
        intro k hk
        have hk' := List.mem_range.1 hk
        have hk2 : k < bs.length := by omega
        rw [List.getElem?_eq_getElem hk', List.getElem?_eq_getElem hk2]
        exact hq k hk' hk2 hk'
      simp only [↓sd0, su0, su1, resOf, pack, eqCells, ↓reduceIte, Nat.reduceEqDiff, Nat.reduceAdd, Nat.reduceLeDiff, Nat.reduceLT, reduceCtorEq, h17, h16, this]
  · refine ⟨false, gives tab_46 fun H nx => ?_⟩
    unfold body46
    dsimp only [qm, qf, ql, qL, qs, qc, qk, qi, qn, qb, qB, qe, qx, qo, qg]
    simp only [start3]
    have q : ((as.length : Int) != (bs.length : Int)) = true := by simp; omega
    simp only [↓sd0, su0, su1, resOf, pack, eqCells, ↓reduceIte, Nat.reduceEqDiff, Nat.reduceAdd, Nat.reduceLeDiff, Nat.reduceLT, reduceCtorEq, q]

/-! ### once -/
theorem once1_spec {f x : Fa} {id wl nx : Nat} {H : Nat → Option Obj} (hH : H id = some (.arr 5 [f.av])) (h1 : f.l.size < 4611686018427387904) (h2 : f.r.size < 4611686018427387904) : C tab wl 90 [x.av, .ptr id 0 0] H nx = some (.bool (f.same x), H, nx) := by
  refine gives_at tab_90 ?_
  unfold body90
  dsimp only [qm, qf, ql, qL, qs, qc, qk, qi, qn, qb, qB, qe, qx, qo, qg]
  simp only [start2]
  simp only [↓sd0, su0, su1, resOf, pack, eqCells, ↓reduceIte, Nat.reduceEqDiff, Nat.reduceAdd, Nat.reduceLeDiff, Nat.reduceLT, reduceCtorEq, hH, (samefact_spec f x h1 h2).callK]

def onceGo : List Fa → List Fa → List Fa
  | acc, [] => acc
  | acc, f :: fs => if (f.n && f.l.same f.r || acc.any fun g => f.same g) = true then onceGo acc fs else onceGo (acc ++ [f]) fs
def Cl.once (c : Cl) : Cl := ⟨true, onceGo [] c.fs⟩
theorem onceGo_drop {acc fs : List Fa} {k : Nat} (h : k < fs.length) : onceGo acc (fs.drop k) = if (fs[k].n && fs[k].l.same fs[k].r || acc.any fun g => fs[k].same g) = true then onceGo acc (fs.drop (k + 1)) else onceGo (acc ++ [fs[k]]) (fs.drop (k + 1)) := by
  rw [List.drop_eq_getElem_cons h]; rfl

theorem once_spec (c : Cl) (hl : c.fs.length < 1099511627776) (hc : ∀ f ∈ c.fs, f.l.size < 4611686018427387904 ∧ f.r.size < 4611686018427387904) : Gives tab 65 [c.av] c.once.av := by
  refine gives_thaw tab_65 fun H nx => ?_
  unfold body65 Cl.once
  dsimp only [qm, qf, ql, qL, qs, qc, qk, qi, qn, qb, qB, qe, qx, qo, qg]
  simp only [start1]
  simp only [↓sd0, su0, su1, resOf, pack, eqCells, ↓reduceIte, Nat.reduceEqDiff, Nat.reduceAdd, Nat.reduceLeDiff, Nat.reduceLT, reduceCtorEq]
  refine W_count c.fs.length (fun k e l H' n => e 7 = sl 5 c.nil (c.fs.map Fa.av) ∧ e 9 = .int .i64 k ∧ e 8 = .int .i64 c.fs.length ∧ nx ≤ n ∧ (∃ m, e 2 = .loc 2 m 0 ∧ l 2 = some (m, .agg [.nilSlice])) ∧
    ∃ m id acc, e 3 = .loc 3 m 0 ∧ l 3 = some (m, .agg [lv id acc.length]) ∧ Own H' nx n 5 id (acc.map Fa.av) ∧ acc.length ≤ k ∧ onceGo [] c.fs = onceGo acc (c.fs.drop k)) ?_ ?_ ?_
  · simp only [↓sd0, su0, su1, resOf, pack, eqCells, ↓reduceIte, Nat.reduceEqDiff, Nat.reduceAdd, Nat.reduceLeDiff, Nat.reduceLT, reduceCtorEq]
    exact ⟨⟨_, rfl, rfl⟩, _, 0, [], rfl, rfl, Own.nil, by simp, rfl⟩
  · rintro k e l H' n hk ⟨h7, h9, h8, hn, ⟨m2, h2, hl2⟩, m, id, acc, h3, hl3, ho, hak, hq⟩
    have hx := hc c.fs[k] (List.getElem_mem hk)
    rw [onceGo_drop hk] at hq
    have ho' : Own (upd H' (n + 3) (some (.arr 5 [c.fs[k].av]))) nx n 5 id (acc.map Fa.av) := ho.keep (by omega)
    have h70 : ∀ wl n', C tab wl 70 [lv id acc.length, .clo 90 [.ptr (n + 3) 0 0]] (upd H' (n + 3) (some (.arr 5 [c.fs[k].av]))) n' = some (.bool (acc.any fun g => c.fs[k].same g), _, n') := fun wl n' =>
      contains70 (Sees.lv ho' rfl Fa.part_av) (by omega) (by rfl) fun x hx' wl nx => once1_spec (upd_same _ _ _) hx.1 hx.2
    have hap := fun b : Bool => append_to (bytes := 72) (Fa.av ⟨b, c.fs[k].l, c.fs[k].r⟩) ho' (n := acc.length) (by simp) (Nat.le_refl _) (by omega)
    have hnx : nx ≤ n + 3 := by omega
    have hwr := wrap_succ hk (by omega : c.fs.length < 4611686018427387904)
    cases c2 : acc.any fun g => c.fs[k].same g
    all_goals cases c3 : c.fs[k].n
    all_goals cases c4 : c.fs[k].l.same c.fs[k].r
    all_goals simp only [c2, c3, c4, Bool.and_true, Bool.and_false, Bool.or_true, Bool.or_false, Bool.and_self, Bool.or_self, Bool.true_or, Bool.false_or, Bool.false_and, Bool.false_eq_true, if_true, if_false] at hq h70
    all_goals simp only [↓sd0, su0, su1, resOf, pack, eqCells, ↓reduceIte, Nat.reduceEqDiff, Nat.reduceAdd, Nat.reduceLeDiff, Nat.reduceLT, reduceCtorEq, h7, h9, h8, h2, h3, hl2, hl3, iaddr_map hk, lt_cast hk, c3, c4, (same_spec _ c.fs[k].r hx.1).callK, hwr, List.set_cons_zero, upd_upd, callK_eq (h70 _ _), hap, hnx]
    all_goals refine ⟨by omega, ⟨_, rfl, rfl⟩, ?_⟩
    all_goals first
      | exact ⟨_, _, acc, rfl, rfl, ho'.mono (by omega), by omega, hq⟩
      | exact ⟨_, n + 24, acc ++ [⟨c.fs[k].n, c.fs[k].l, c.fs[k].r⟩], rfl, by simp, by simp only [List.map_append, List.map_cons, List.map_nil, c3]; exact (Own.append (by omega)).mono (by omega), by simp; omega, hq⟩
  · rintro e l H' n ⟨h7, h9, h8, hn, ⟨m2, h2, hl2⟩, m, id, acc, h3, hl3, ho, hak, hq⟩
    rw [List.drop_length] at hq
    obtain ⟨H'', hth, _⟩ := thaw_claim ho (n := acc.length) rfl (Nat.le_refl _)
    simp only [↓sd0, su0, su1, resOf, pack, eqCells, ↓reduceIte, Nat.reduceEqDiff, Nat.reduceAdd, Nat.reduceLeDiff, Nat.reduceLT, reduceCtorEq, dr0, Nat.reducePow, Nat.reduceDiv, Nat.reduceMod, Nat.reduceBEq, h7, h9, h8, h2, h3, hl2, hl3, hth, hq, onceGo]

end Go.Proofs.Ytmbdccekcfeomaa.Am
end
/- Places in trees. -/
section
open Go
namespace Go.Proofs.Ytmbdccekcfeomaa.Am
set_option linter.unusedSimpArgs false
set_option linter.unusedVariables false

theorem sliceV_tail {H : Nat → Option Obj} {b : Bool} {x : Int} {xs : List Int} : sliceV H 1 (ints b (x :: xs)) (some 1) (fun k => some k) = some (ints false xs) := by
  have e : ints b (x :: xs) = .slice 1 (.int .i64 x :: xs.map (AV.int .i64)) := by simp [ints, sl]
  rw [e]
  simp [sliceV, ints, sl, List.take_of_length_le]
theorem sliceV_take {H : Nat → Option Obj} {sz i : Nat} {b : Bool} {es : List AV} (hi : i < es.length) : sliceV H sz (sl sz b es) (some 0) (fun _ => some i) = some (.slice sz (es.take i)) := by
  have e : sl sz b es = .slice sz es := by unfold sl; rw [if_neg (by rintro ⟨_, h⟩; subst h; simp at hi)]
  rw [e]; simp only [sliceV]; rw [if_pos ⟨trivial, by omega, by omega⟩]; simp
theorem sliceV_drop {H : Nat → Option Obj} {sz i : Nat} {b : Bool} {es : List AV} (hi : i ≤ es.length) (hne : es ≠ []) : sliceV H sz (sl sz b es) (some i) (fun k => some k) = some (.slice sz (es.drop i)) := by
  have e : sl sz b es = .slice sz es := by unfold sl; rw [if_neg (by rintro ⟨_, h⟩; exact hne h)]
  rw [e]; simp only [sliceV]; rw [if_pos ⟨trivial, by omega, by omega⟩, List.take_of_length_le (by simp)]
theorem iaddr_ints0 {H : Nat → Option Obj} {b : Bool} {x : Int} {xs : List Int} {k : IntKind} : iaddrV H 1 (ints b (x :: xs)) (.int k 0) = some (.fptr (.int .i64 x) 0) := iaddr_ints (i := 0) (by simp)

def T.walk : T → List Int → Option T
  | t, [] => some t
  | t, k :: p => if 1 ≤ k ∧ k ≤ t.ks.length then (match t.ks[(k - 1).toNat]? with | some s => T.walk s p | none => none) else none
def Fa.stands (f : Fa) : List Int → Option T
  | [] => none
  | s :: p => if s = 1 then f.l.walk p else if s = 2 then f.r.walk p else none
def standsV : Option T → AV
  | some t => .tup [t.av, .bool true]
  | none => .tup [.agg [.int .i64 0, .nilSlice], .bool false]
theorem walk_drop {t : T} {p : List Int} {j : Nat} (h : j < p.length) : t.walk (p.drop j) = if 1 ≤ p[j] ∧ p[j] ≤ t.ks.length then (match t.ks[(p[j] - 1).toNat]? with | some s => T.walk s (p.drop (j + 1)) | none => none) else none := by
  rw [List.drop_eq_getElem_cons h]; rfl

theorem indexA2 {t u : T} {m : Nat} (hm : m < 2) : indexAV 2 2 true (.agg [.int .i64 t.h, sl 2 t.nil (t.ks.map T.av), .int .i64 u.h, sl 2 u.nil (u.ks.map T.av)]) (.int .i64 m) = some (if m = 0 then t.av else u.av) := by
  have : m = 0 ∨ m = 1 := by omega
  rcases this with rfl | rfl <;> simp [indexAV, part, AV.cells, T.av_eq]

theorem stands_spec (f : Fa) (b : Bool) (p : List Int) (hp : p.length < 4611686018427387904) (hl : ∀ s ∈ p, -4611686018427387904 < s ∧ s < 4611686018427387904) : Gives tab 88 [f.av, ints b p] (standsV (f.stands p)) := by
  refine gives tab_88 fun H nx => ?_
  unfold body88
  dsimp only [qm, qf, ql, qL, qs, qc, qk, qi, qn, qb, qB, qe, qx, qo, qg]
  simp only [start2]
  cases p with
  | nil =>
    simp only [↓sd0, su0, su1, resOf, pack, eqCells, ↓reduceIte, Nat.reduceEqDiff, Nat.reduceAdd, Nat.reduceLeDiff, Nat.reduceLT, reduceCtorEq, Fa.stands, standsV]
  | cons s p =>
    have q0 : (((p.length + 1 : Nat) : Int) == 0) = false := by simp; omega
    by_cases c : 1 ≤ s ∧ s ≤ 2
    · obtain ⟨m, hm⟩ : ∃ m : Nat, s = (m : Int) + 1 := ⟨(s - 1).toNat, by omega⟩
      have hm2 : m < 2 := by omega
      have hw : IntKind.i64.wrap (s - 1) = (m : Int) := by rw [wrap64 (by omega) (by omega)]; omega
      have hst : f.stands (s :: p) = (if m = 0 then f.l else f.r).walk p := by
        show (if s = 1 then f.l.walk p else if s = 2 then f.r.walk p else none) = _
        by_cases h : m = 0
        · rw [if_pos (by omega), if_pos h]
        · rw [if_neg (by omega), if_pos (by omega), if_neg h]
      have hif : (if m = 0 then f.l.av else f.r.av) = (if m = 0 then f.l else f.r).av := by split <;> rfl
      rw [hst]
      generalize (if m = 0 then f.l else f.r) = t at hif
      simp only [↓sd0, su0, su1, resOf, pack, eqCells, ↓reduceIte, Nat.reduceEqDiff, Nat.reduceAdd, Nat.reduceLeDiff, Nat.reduceLT, reduceCtorEq, dr0, Nat.reducePow, Nat.reduceDiv, Nat.reduceMod, Nat.reduceBEq, lenV_ints, q0, iaddr_ints0, (in_17 _ _ _).callK, c, hw, indexA2 hm2, hif, natV_one, sliceV_tail]
      refine W_count p.length (fun k e l H' n => e 31 = ints false p ∧ e 33 = .int .i64 k ∧ e 32 = .int .i64 p.length ∧ (∃ m, e 4 = .loc 4 m 0 ∧ l 4 = some (m, .agg [.int .i64 0, .nilSlice])) ∧
        ∃ m u, e 6 = .loc 6 m 0 ∧ l 6 = some (m, T.av u) ∧ t.walk p = u.walk (p.drop k)) ?_ ?_ ?_
      · simp only [↓sd0, su0, su1, resOf, pack, eqCells, ↓reduceIte, Nat.reduceEqDiff, Nat.reduceAdd, Nat.reduceLeDiff, Nat.reduceLT, reduceCtorEq]; exact ⟨⟨_, rfl, rfl⟩, _, t, rfl, rfl, rfl⟩
      · rintro k e l H' n hk ⟨h31, h33, h32, ⟨m2, h4, hl4⟩, m3, u, h6, hl6, hq⟩
        rw [walk_drop hk] at hq
        have hpk := hl p[k] (List.mem_cons_of_mem _ (List.getElem_mem hk))
        by_cases c2 : 1 ≤ p[k] ∧ p[k] ≤ u.ks.length
        · obtain ⟨i, hi⟩ : ∃ i : Nat, p[k] = (i : Int) + 1 := ⟨(p[k] - 1).toNat, by omega⟩
          have hi2 : i < u.ks.length := by omega
          have hw2 : IntKind.i64.wrap (p[k] - 1) = (i : Int) := by rw [wrap64 (by omega) (by omega)]; omega
          rw [if_pos c2, show (p[k] - 1).toNat = i by omega, List.getElem?_eq_getElem hi2] at hq
          simp only [↓sd0, su0, su1, resOf, pack, eqCells, ↓reduceIte, Nat.reduceEqDiff, Nat.reduceAdd, Nat.reduceLeDiff, Nat.reduceLT, reduceCtorEq, h31, h33, h32, h4, hl4, h6, hl6, iaddr_ints hk, lt_cast hk, (in_17 _ _ _).callK, c2, hw2, iaddr_map hi2, wrap_succ hk (by simp at hp; omega : p.length < 4611686018427387904)]
          exact ⟨⟨_, rfl, rfl⟩, _, u.ks[i], rfl, rfl, hq⟩
        · rw [if_neg c2] at hq
          simp only [↓sd0, su0, su1, resOf, pack, eqCells, ↓reduceIte, Nat.reduceEqDiff, Nat.reduceAdd, Nat.reduceLeDiff, Nat.reduceLT, reduceCtorEq, h31, h33, h32, h4, hl4, h6, hl6, iaddr_ints hk, lt_cast hk, (in_17 _ _ _).callK, c2, hq, standsV]
      · rintro e l H' n ⟨h31, h33, h32, ⟨m2, h4, hl4⟩, m3, u, h6, hl6, hq⟩
        rw [List.drop_length] at hq
        simp only [↓sd0, su0, su1, resOf, pack, eqCells, ↓reduceIte, Nat.reduceEqDiff, Nat.reduceAdd, Nat.reduceLeDiff, Nat.reduceLT, reduceCtorEq, h31, h33, h32, h4, hl4, h6, hl6, hq, T.walk, standsV]
    · have hst : f.stands (s :: p) = none := by
        show (if s = 1 then f.l.walk p else if s = 2 then f.r.walk p else none) = _
        rw [if_neg (by omega), if_neg (by omega)]
      rw [hst]
      simp only [↓sd0, su0, su1, resOf, pack, eqCells, ↓reduceIte, Nat.reduceEqDiff, Nat.reduceAdd, Nat.reduceLeDiff, Nat.reduceLT, reduceCtorEq, lenV_ints, q0, iaddr_ints0, (in_17 _ _ _).callK, c, standsV]


/-! ### something else at a place -/
theorem clone104 {wl nx : Nat} {H : Nat → Option Obj} {b : Bool} {ks : List T} (hne : ks ≠ []) (hl : ks.length < 1099511627776) : Call tab wl 104 [sl 2 b (ks.map T.av)] H nx fun r H' nx' =>
    ∃ id, nx ≤ id ∧ id < nx' ∧ r = .lref id 0 ks.length ∧ H' id = some (.arr 2 (ks.map T.av)) ∧ ∀ j, j < nx → H' j = H j := by
  refine call_new tab_104 ?_
  unfold body104
  dsimp only [qm, qf, ql, qL, qs, qc, qk, qi, qn, qb, qB, qe, qx, qo, qg]
  simp only [start1]
  have e : sl 2 b (ks.map T.av) = .slice 2 (ks.map T.av) := by unfold sl; rw [if_neg (by rintro ⟨_, h⟩; rw [List.map_eq_nil_iff] at h; exact hne h)]
  have hpos : 0 < ks.length := List.length_pos_iff.2 hne
  rw [e]
  simp only [↓sd0, su0, su1, resOf, pack, eqCells, ↓reduceIte, Nat.reduceEqDiff, Nat.reduceAdd, Nat.reduceLeDiff, Nat.reduceLT, reduceCtorEq, isNilSlice]
  simp only [chop, appendV, upd_same, ↓sd0, su0, su1, resOf, pack, eqCells, ↓reduceIte, Nat.reduceEqDiff, Nat.reduceAdd, Nat.reduceLeDiff, Nat.reduceLT, reduceCtorEq]
  rw [if_pos (by omega), if_neg (by omega)]
  simp only [↓sd0, su0, su1, resOf, pack, eqCells, ↓reduceIte, Nat.reduceEqDiff, Nat.reduceAdd, Nat.reduceLeDiff, Nat.reduceLT, reduceCtorEq]
  refine ⟨nx + 5, by omega, by omega, by simp, by simp, ?_⟩
  intro j hj
  simp [upd, show j ≠ nx + 5 by omega, show j ≠ nx + 4 by omega, show j ≠ nx + 3 by omega]

def T.put (s : T) : T → List Int → T
  | _, [] => s
  | t, k :: p => match t.ks[(k - 1).toNat]? with
    | some c => .mk t.h true (t.ks.set (k - 1).toNat (T.put s c p))
    | none => t

theorem put_spec (s : T) (b0 : Bool) (p : List Int) (hp : p.length < 4611686018427387904) (hl : ∀ s ∈ p, -4611686018427387904 < s ∧ s < 4611686018427387904) : ∀ (b : Bool) (t : T), t.size < 1099511627776 → (t.walk p).isSome = true → Gives tab 99 [t.av, ints b p, s.av] (T.put s t p).av := by
  induction p with
  | nil =>
    intro b t ht hw
    refine gives_thaw tab_99 fun H nx => ?_
    unfold body99
    dsimp only [qm, qf, ql, qL, qs, qc, qk, qi, qn, qb, qB, qe, qx, qo, qg]
    simp only [start3]
    simp only [↓sd0, su0, su1, resOf, pack, eqCells, ↓reduceIte, Nat.reduceEqDiff, Nat.reduceAdd, Nat.reduceLeDiff, Nat.reduceLT, reduceCtorEq, T.put]
    simp only [thaw_solid, ↓sd0, su0, su1, resOf, pack, eqCells, ↓reduceIte, Nat.reduceEqDiff, Nat.reduceAdd, Nat.reduceLeDiff, Nat.reduceLT, reduceCtorEq]
  | cons k p ih =>
    intro b t ht hw
    have hs := t.size_eq
    have hkl := hl k (List.mem_cons_self ..)
    have hw' : (if 1 ≤ k ∧ k ≤ t.ks.length then (match t.ks[(k - 1).toNat]? with | some s => T.walk s p | none => none) else none).isSome = true := hw
    by_cases c : 1 ≤ k ∧ k ≤ t.ks.length
    · rw [if_pos c] at hw'
      obtain ⟨m, hm⟩ : ∃ m : Nat, k = (m : Int) + 1 := ⟨(k - 1).toNat, by omega⟩
      have hm2 : m < t.ks.length := by omega
      have hmk : (k - 1).toNat = m := by omega
      rw [hmk, List.getElem?_eq_getElem hm2] at hw'
      have hlen := T.length_le t.ks
      have hz := T.size_kid hm2
      have hwr : IntKind.i64.wrap (k - 1) = (m : Int) := by rw [wrap64 (by omega) (by omega)]; omega
      have hne : t.ks ≠ [] := by intro h; rw [h] at hm2; simp at hm2
      have hput : T.put s t (k :: p) = .mk t.h true (t.ks.set m (T.put s t.ks[m] p)) := by
        rw [T.put, hmk, List.getElem?_eq_getElem hm2]
      rw [hput]
      have q0 : (((p.length + 1 : Nat) : Int) == 0) = false := by simp; omega
      have ih' := ih (by simp at hp; omega) (fun s hs => hl s (List.mem_cons_of_mem _ hs)) false t.ks[m] (by omega) hw'
      refine gives_thaw tab_99 fun H nx => ?_
      unfold body99
      dsimp only [qm, qf, ql, qL, qs, qc, qk, qi, qn, qb, qB, qe, qx, qo, qg]
      simp only [start3]
      simp only [↓sd0, su0, su1, resOf, pack, eqCells, ↓reduceIte, Nat.reduceEqDiff, Nat.reduceAdd, Nat.reduceLeDiff, Nat.reduceLT, reduceCtorEq, dr0, Nat.reducePow, Nat.reduceDiv, Nat.reduceMod, Nat.reduceBEq, lenV_ints, q0]
      refine CallK_of (clone104 hne (by omega)) ?_
      rintro r H1 n1 ⟨id, hid0, hid1, rfl, hH1, hpres⟩
      have hia : iaddrV H1 2 (.lref id 0 t.ks.length) (.int .i64 m) = some (.ptr id m 0) := by
        simp only [iaddrV]
        rw [if_pos (by omega), hH1]; simp only
        rw [if_pos ⟨trivial, by omega⟩]; simp
      have hid0 : nx ≤ id := by omega
      have hget : (t.ks.map T.av)[m]? = some t.ks[m].av := by simp [hm2]
      have hset : (t.ks.map T.av).set m (T.put s t.ks[m] p).av = (t.ks.set m (T.put s t.ks[m] p)).map T.av := by rw [List.map_set]
      have hlv : lv id t.ks.length = .lref id 0 t.ks.length := by unfold lv; rw [if_neg (by omega)]
      obtain ⟨H2, hth, _⟩ := thaw_tree (wl := nx) (lo := nx) (hi := n1) (id := id) (h := t.h) (H := upd H1 id (some (.arr 2 ((t.ks.set m (T.put s t.ks[m] p)).map T.av)))) (ks := t.ks.set m (T.put s t.ks[m] p)) (n := t.ks.length) (fun _ => ⟨hid0, hid1, upd_same _ _ _⟩) (by simp) (Nat.le_refl _)
      rw [hlv] at hth
      simp only [↓sd0, su0, su1, resOf, pack, eqCells, ↓reduceIte, Nat.reduceEqDiff, Nat.reduceAdd, Nat.reduceLeDiff, Nat.reduceLT, reduceCtorEq, dr0, Nat.reducePow, Nat.reduceDiv, Nat.reduceMod, Nat.reduceBEq, lenV_ints, q0, iaddr_ints0, hwr, iaddr_map hm2, sliceV_tail, ih'.callK, hia, hid0, hH1, hget, hset, hth]
    · rw [if_neg c] at hw'; simp at hw'


def Fa.changed (f : Fa) (p : List Int) (s : T) : Fa := match p with
  | [] => f
  | k :: q => if k = 1 then ⟨f.n, T.put s f.l q, f.r⟩ else ⟨f.n, f.l, T.put s f.r q⟩
theorem changed_spec (f : Fa) (b : Bool) (p : List Int) (s : T) (hp : p.length < 4611686018427387904) (hl : ∀ s ∈ p, -4611686018427387904 < s ∧ s < 4611686018427387904)
    (h1 : f.l.size < 1099511627776) (h2 : f.r.size < 1099511627776) (hw : (f.stands p).isSome = true) : Gives tab 89 [f.av, ints b p, s.av] (f.changed p s).av := by
  cases p with
  | nil => simp [Fa.stands] at hw
  | cons k p =>
    have hw' : (if k = 1 then f.l.walk p else if k = 2 then f.r.walk p else none).isSome = true := hw
    refine gives tab_89 fun H nx => ?_
    unfold body89
    dsimp only [qm, qf, ql, qL, qs, qc, qk, qi, qn, qb, qB, qe, qx, qo, qg]
    simp only [start3]
    by_cases c : k = 1
    · rw [if_pos c] at hw'
      have q : (k == 1) = true := by simp [c]
      have hp' := put_spec s true p (by simp at hp; omega) (fun s hs => hl s (List.mem_cons_of_mem _ hs)) false f.l h1 hw'
      have hr : f.changed (k :: p) s = ⟨f.n, T.put s f.l p, f.r⟩ := by simp [Fa.changed, c]
      rw [hr]
      simp only [↓sd0, su0, su1, resOf, pack, eqCells, ↓reduceIte, Nat.reduceEqDiff, Nat.reduceAdd, Nat.reduceLeDiff, Nat.reduceLT, reduceCtorEq, dr0, Nat.reducePow, Nat.reduceDiv, Nat.reduceMod, Nat.reduceBEq, iaddr_ints0, q, sliceV_tail, hp'.callK]
    · rw [if_neg c] at hw'
      have c2 : k = 2 := by
        by_cases h : k = 2
        · exact h
        · rw [if_neg h] at hw'; simp at hw'
      rw [if_pos c2] at hw'
      have q : (k == 1) = false := by simp [c]
      have hp' := put_spec s true p (by simp at hp; omega) (fun s hs => hl s (List.mem_cons_of_mem _ hs)) false f.r h2 hw'
      have hr : f.changed (k :: p) s = ⟨f.n, f.l, T.put s f.r p⟩ := by simp [Fa.changed, c]
      rw [hr]
      simp only [↓sd0, su0, su1, resOf, pack, eqCells, ↓reduceIte, Nat.reduceEqDiff, Nat.reduceAdd, Nat.reduceLeDiff, Nat.reduceLT, reduceCtorEq, dr0, Nat.reducePow, Nat.reduceDiv, Nat.reduceMod, Nat.reduceBEq, iaddr_ints0, q, sliceV_tail, hp'.callK]

/-! ### lists appended -/
def appId (id nid : Nat) (ys : List AV) : Nat := if ys = [] then id else nid
open Classical in
noncomputable def appH (H : Nat → Option Obj) (id n nid sz : Nat) (es ys : List AV) : Nat → Option Obj := if ys = [] then H else upd (kill H id n) nid (some (.arr sz (es ++ ys)))
theorem append_any {wl lo hi sz bytes id n : Nat} {H : Nat → Option Obj} {es : List AV} (ys : List AV) (ho : Own H lo hi sz id es) (hl : es.length = n) (hw : wl ≤ lo) (hb : (n + ys.length) * bytes ≤ 140737488355328) (nid : Nat) :
    appendV wl nid false sz bytes H ys (lv id n) = some (lv (appId id nid ys) (n + ys.length), appH H id n nid sz es ys) := by
  subst hl
  by_cases hy : ys = []
  · subst hy
    simp only [appId, appH, if_pos, List.length_nil, Nat.add_zero]
    cases es with
    | nil => simp [lv_zero, appendV]
    | cons x xs =>
      obtain ⟨h1, h2, h3⟩ := ho (by simp)
      have e : lv id (x :: xs).length = .lref id 0 (x :: xs).length := by unfold lv; rw [if_neg (by simp)]
      rw [e]
      simp only [appendV]
      rw [if_pos (by omega), h3]
      simp only
      rw [if_pos ⟨trivial, by simp, by simpa using hb⟩]
      simp only [Bool.false_eq_true, if_false]
      rw [if_pos (by simp)]
      simp [upd_self h3]
  · simp only [appId, appH, if_neg hy]
    cases es with
    | nil =>
      simp only [List.length_nil, lv_zero, appendV, Nat.zero_add, List.nil_append, kill, if_true]
      simp only [List.length_nil, Nat.zero_add] at hb
      have : ys.length ≠ 0 := by simpa using hy
      rw [if_neg this, if_pos hb]
      simp [lv, hy]
    | cons x xs =>
      obtain ⟨h1, h2, h3⟩ := ho (by simp)
      have : lv id (x :: xs).length = .lref id 0 (x :: xs).length := by unfold lv; rw [if_neg (by simp)]
      rw [this]
      simp only [appendV]
      rw [if_pos (by omega), h3]
      simp only
      rw [if_pos ⟨trivial, by simp, by simpa using hb⟩]
      simp only [Bool.false_eq_true, if_false]
      have hpos : 0 < ys.length := List.length_pos_iff.2 hy
      rw [if_neg (by simp; omega)]
      simp [lv, kill]
theorem Own.any {H : Nat → Option Obj} {lo hi nid sz id n : Nat} {es ys : List AV} (ho : Own H lo hi sz id es) (h : lo ≤ nid) (h2 : hi ≤ nid) : Own (appH H id n nid sz es ys) lo (nid + 1) sz (appId id nid ys) (es ++ ys) := by
  by_cases hy : ys = []
  · subst hy; simp only [appId, appH, if_pos, List.append_nil]; exact ho.mono (by omega)
  · simp only [appId, appH, if_neg hy]; exact fun _ => ⟨h, by omega, upd_same _ _ _⟩

end Go.Proofs.Ytmbdccekcfeomaa.Am
end
