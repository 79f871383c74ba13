/- Variables numbered as they come. -/
import Derived.Test.YtmbdccekcfeomaaT30
section
open Go
namespace Go.Proofs.Ytmbdccekcfeomaa.Am
set_option linter.unusedSimpArgs false
set_option linter.unusedVariables false
set_option maxRecDepth 20000

theorem most_lt {t : T} (h : t.small) : t.most < 1099511627776 := by
  induction t using T.ind' with
  | h t ih =>
    rw [T.most_eq]
    have hh := T.small_h h
    have hk := T.small_ks h
    have : T.mosts t.ks < 1099511627776 := by
      generalize t.ks = ks at ih hk
      induction ks with
      | nil => rw [T.mosts]; omega
      | cons k ks ihk =>
        rw [T.smalls] at hk
        have a := ih k (List.mem_cons_self ..) hk.1
        have b := ihk (fun x hx => ih x (List.mem_cons_of_mem _ hx)) hk.2
        rw [T.mosts]; omega
    omega
theorem most_kid {ks : List T} {k : Nat} (h : k < ks.length) : ks[k].most ≤ T.mosts ks := by
  induction ks generalizing k with
  | nil => simp at h
  | cons t ts ih => cases k with
    | zero => simp only [T.mosts, List.getElem_cons_zero]; omega
    | succ k => simp only [T.mosts, List.getElem_cons_succ]; have := ih (by simpa using h); omega
theorem mkV_nat {bytes n : Nat} (h : n * bytes ≤ 140737488355328) : mkV bytes (.int .i64 n) (.int .i64 n) = some n := by
  simp only [mkV]
  rw [if_pos ⟨by omega, by omega, by have h2 : ((n * bytes : Nat) : Int) ≤ 140737488355328 := by omega
                                     rw [Int.natCast_mul] at h2; exact h2⟩]
  simp
theorem iaddr_lref {H : Nat → Option Obj} {sz id i n : Nat} {es : List AV} (hH : H id = some (.arr sz es)) (hi : i < n) : iaddrV H sz (.lref id 0 n) (.int .i64 i) = some (.ptr id i 0) := by
  simp only [iaddrV]
  rw [if_pos (by omega), hH]
  simp only
  rw [if_pos ⟨trivial, by omega⟩]; simp
def T.var (h : Int) : T := .mk h true []
theorem var_av (h : Int) : AV.agg [.int .i64 h, .nilSlice] = (T.var h).av := by rw [T.av_eq]; rfl
theorem var_size (h : Int) : (T.var h).size = 1 := rfl

/-! ### renaming -/
structure RN (H : Nat → Option Obj) (lo hi ib ic iw id m : Nat) (n : Int) (ts : List T) : Prop where
  hb : H ib = some (.arr 1 [.lref id 0 m])
  hc : H ic = some (.arr 1 [.int .i64 n])
  hw : H iw = some (.arr 1 [.clo 67 [.ptr ib 0 0, .ptr ic 0 0, .ptr iw 0 0]])
  hd : H id = some (.arr 2 (ts.map T.av))
  len : ts.length = m
  one : ∀ t ∈ ts, t.size = 1
  lo' : lo ≤ ib ∧ lo ≤ ic ∧ lo ≤ iw ∧ lo ≤ id
  ne : ib ≠ ic ∧ ib ≠ iw ∧ ib ≠ id ∧ ic ≠ iw ∧ ic ≠ id ∧ iw ≠ id

theorem rn_spec {lo hi ib ic iw id m : Nat} (t : T) : ∀ (n : Int) (ts : List T) (wl : Nat) (H : Nat → Option Obj) (nx : Nat), RN H lo hi ib ic iw id m n ts → wl ≤ lo → t.size < 1099511627776 → t.small → t.most ≤ m → 0 ≤ n → n + t.size < 4611686018427387904 →
    Call tab wl 67 [t.av, .ptr ib 0 0, .ptr ic 0 0, .ptr iw 0 0] H nx fun r H' nx' => ∃ n' ts', RN H' lo hi ib ic iw id m n' ts' ∧ n ≤ n' ∧ n' ≤ n + t.size ∧ nx ≤ nx' := by
  induction t using T.ind' with
  | h t ih =>
    intro n ts wl H nx hR hwl ht hsm hmo hn0 hn1
    have hs := t.size_eq
    have hl := T.length_le t.ks
    have hh := T.small_h hsm
    have hm := t.most_eq
    refine call_mut tab_67 ?_
    unfold body67
    dsimp only [qm, qf, ql, qL, qs, qc, qk, qi, qn, qb, qB, qe, qx, qo, qg]
    simp only [start4]
    rw [W_assoc]
    refine W_cut (fun e l H' nx' => e 3 = .ptr iw 0 0 ∧ e 1 = .ptr ib 0 0 ∧ e 2 = .ptr ic 0 0 ∧ e 4 = .fptr t.av 0 ∧ nx ≤ nx' ∧ ∃ n' ts', RN H' lo hi ib ic iw id m n' ts' ∧ n ≤ n' ∧ n' ≤ n + 1) ?_ ?_
    · by_cases c : t.h < 0
      · obtain ⟨i, hi⟩ : ∃ i : Nat, t.h = -((i : Int) + 1) := ⟨(-t.h - 1).toNat, by omega⟩
        have q : decide (t.h < 0) = true := by simp [c]
        have hw : IntKind.i64.wrap (IntKind.i64.wrap (0 - t.h) - 1) = (i : Int) := by rw [wrap64 (n := 0 - t.h) (by omega) (by omega), wrap64 (by omega) (by omega)]; omega
        have hi2 : i < ts.length := by have := hR.len; omega
        have hi3 : i < m := by have := hR.len; omega
        have hia := iaddr_lref (i := i) (n := m) hR.hd hi3
        have hget : (ts.map T.av)[i]? = some ts[i].av := by simp [hi2]
        by_cases cz : ts[i].h = 0
        · have hw1 : IntKind.i64.wrap (n + 1) = n + 1 := wrap64 (by omega) (by omega)
          have hw2 : IntKind.i64.wrap (0 - (n + 1)) = -(n + 1) := by rw [wrap64 (by omega) (by omega)]; omega
          have hia2 := fun o => iaddr_lref (H := upd H ic o) (i := i) (n := m) (by rw [upd_other _ _ hR.ne.2.2.2.2.1.symm]; exact hR.hd) hi3
          have l1 : wl ≤ ic := by have := hR.lo'; omega
          have l2 : wl ≤ id := by have := hR.lo'; omega
          have hset : (ts.map T.av).set i (T.var (-(n + 1))).av = (ts.set i (T.var (-(n + 1)))).map T.av := by rw [List.map_set]
          simp only [↓sd0, su0, su1, resOf, pack, eqCells, ↓reduceIte, Nat.reduceEqDiff, Nat.reduceAdd, Nat.reduceLeDiff, Nat.reduceLT, reduceCtorEq, q, hw, hR.hb, hR.hc, hia, hR.hd, hget, cz, hw1, hw2, hia2, l1, l2, List.set_cons_zero, var_av, hR.ne.1, hR.ne.2.1, hR.ne.2.2.1, hR.ne.2.2.2.1, hR.ne.2.2.2.2.1, hR.ne.2.2.2.2.2, hR.ne.1.symm, hR.ne.2.1.symm, hR.ne.2.2.1.symm, hR.ne.2.2.2.1.symm, hR.ne.2.2.2.2.1.symm, hR.ne.2.2.2.2.2.symm, hset]
          refine ⟨n + 1, ts.set i (T.var (-(n + 1))), ?_, by omega, by omega⟩
          obtain ⟨n1, n2, n3, n4, n5, n6⟩ := hR.ne
          exact { hb := by rw [upd_other _ _ n3, upd_other _ _ n1]; exact hR.hb
                  hc := by rw [upd_other _ _ n5, upd_same]
                  hw := by rw [upd_other _ _ n6, upd_other _ _ n4.symm]; exact hR.hw
                  hd := upd_same _ _ _
                  len := by simp [hR.len]
                  one := fun x hx => by
                    rcases List.mem_or_eq_of_mem_set hx with h | h
                    · exact hR.one x h
                    · subst h; rfl
                  lo' := hR.lo'
                  ne := hR.ne }
        · have q2 : (ts[i].h == 0) = false := by simp [cz]
          simp only [↓sd0, su0, su1, resOf, pack, eqCells, ↓reduceIte, Nat.reduceEqDiff, Nat.reduceAdd, Nat.reduceLeDiff, Nat.reduceLT, reduceCtorEq, q, hw, hR.hb, hia, hR.hd, hget, q2]
          exact ⟨n, ts, hR, by omega, by omega⟩
      · have q : decide (t.h < 0) = false := by simp; omega
        simp only [↓sd0, su0, su1, resOf, pack, eqCells, ↓reduceIte, Nat.reduceEqDiff, Nat.reduceAdd, Nat.reduceLeDiff, Nat.reduceLT, reduceCtorEq, q]
        exact ⟨n, ts, hR, by omega, by omega⟩
    · rintro e l H' n1 ⟨h3, h1, h2, h4, hn, n', ts', hR', hn2, hn3⟩
      simp only [↓sd0, su0, su1, resOf, pack, eqCells, ↓reduceIte, Nat.reduceEqDiff, Nat.reduceAdd, Nat.reduceLeDiff, Nat.reduceLT, reduceCtorEq, h4]
      refine W_count t.ks.length (fun k e l H' n1 => e 3 = .ptr iw 0 0 ∧ e 1 = .ptr ib 0 0 ∧ e 2 = .ptr ic 0 0 ∧ e 33 = sl 2 t.nil (t.ks.map T.av) ∧ e 35 = .int .i64 k ∧ e 34 = .int .i64 t.ks.length ∧ nx ≤ n1 ∧
        ∃ n' ts', RN H' lo hi ib ic iw id m n' ts' ∧ n ≤ n' ∧ n' + T.sizes (t.ks.drop k) ≤ n + t.size) ?_ ?_ ?_
      · simp only [↓sd0, su0, su1, resOf, pack, eqCells, ↓reduceIte, Nat.reduceEqDiff, Nat.reduceAdd, Nat.reduceLeDiff, Nat.reduceLT, reduceCtorEq, h1, h2, h3]; exact ⟨by omega, n', ts', hR', hn2, by omega⟩
      · clear h3 h1 h2 h4 hn hR' hn2 hn3
        clear e l H' n1 n' ts'
        rintro k e l H' n1 hk ⟨h3, h1, h2, h33, h35, h34, hn, n', ts', hR', hn2, hn3⟩
        have hz := T.size_kid hk
        rw [T.sizes_drop hk] at hn3
        have hmk := most_kid hk
        have hwk := wrap_succ hk (by omega)
        simp only [↓sd0, su0, su1, resOf, pack, eqCells, ↓reduceIte, Nat.reduceEqDiff, Nat.reduceAdd, Nat.reduceLeDiff, Nat.reduceLT, reduceCtorEq, h3, h1, h2, h33, h35, h34, iaddr_map hk, lt_cast hk, hR'.hw]
        refine CallK_of (ih t.ks[k] (List.getElem_mem hk) n' ts' wl H' _ hR' hwl (by omega) (T.smalls_get (T.small_ks hsm) hk) (by omega) (by omega) (by omega)) ?_
        rintro r H2 n2 ⟨n'', ts'', hR2, hn4, hn5, hn6⟩
        simp only [↓sd0, su0, su1, resOf, pack, eqCells, ↓reduceIte, Nat.reduceEqDiff, Nat.reduceAdd, Nat.reduceLeDiff, Nat.reduceLT, reduceCtorEq, h3, h1, h2, h33, h35, h34, hwk]
        exact ⟨by omega, n'', ts'', hR2, by omega, by omega⟩
      · clear h3 h1 h2 h4 hn hR' hn2 hn3
        clear e l H' n1 n' ts'
        rintro e l H' n1 ⟨h3, h1, h2, h33, h35, h34, hn, n', ts', hR', hn2, hn3⟩
        rw [List.drop_length, T.sizes] at hn3
        simp only [↓sd0, su0, su1, resOf, pack, eqCells, ↓reduceIte, Nat.reduceEqDiff, Nat.reduceAdd, Nat.reduceLeDiff, Nat.reduceLT, reduceCtorEq, h3, h1, h2, h33, h35, h34]
        exact ⟨n', ts', hR', hn2, by omega, by omega⟩

theorem mostsF_mem {fs : List Fa} {f : Fa} (h : f ∈ fs) : f.l.most ≤ mostsF fs ∧ f.r.most ≤ mostsF fs := by
  induction fs with
  | nil => simp at h
  | cons g fs ih =>
    rw [mostsF]
    rcases List.mem_cons.1 h with rfl | h
    · omega
    · have := ih h; omega
theorem mostsF_lt {fs : List Fa} (h : ∀ f ∈ fs, f.l.small ∧ f.r.small) : mostsF fs < 1099511627776 := by
  induction fs with
  | nil => rw [mostsF]; omega
  | cons g fs ih =>
    rw [mostsF]
    have a := ih fun x hx => h x (List.mem_cons_of_mem _ hx)
    have b := h g (List.mem_cons_self ..)
    have := most_lt b.1
    have := most_lt b.2
    omega

theorem renaming_spec (c : Cl) (hc : c.good) {wl nx : Nat} {H : Nat → Option Obj} : Call tab wl 41 [c.av] H nx fun r H' nx' => (∃ ts : List T, r = .slice 2 (ts.map T.av) ∧ ts.length = c.most ∧ ∀ t ∈ ts, t.size = 1) ∧ H' = H ∧ nx' = nx := by
  refine call_thaw tab_41 ?_
  unfold body41
  dsimp only [qm, qf, ql, qL, qs, qc, qk, qi, qn, qb, qB, qe, qx, qo, qg]
  simp only [start1]
  have hcm := cmost_spec c (by have := hc.1; omega) (fun f hf => by have := hc.2 f hf; exact ⟨⟨by have := this.1.1; omega, this.1.2⟩, ⟨by have := this.2.1; omega, this.2.2⟩⟩)
  have hml : c.most < 1099511627776 := mostsF_lt fun f hf => ⟨(hc.2 f hf).1.2, (hc.2 f hf).2.2⟩
  simp only [↓sd0, su0, su1, resOf, pack, eqCells, ↓reduceIte, Nat.reduceEqDiff, Nat.reduceAdd, Nat.reduceLeDiff, Nat.reduceLT, reduceCtorEq, hcm.callK, mkV_nat (bytes := 32) (n := c.most) (by omega), List.set_cons_zero]
  refine W_count c.fs.length (fun k e l H' n1 => e 13 = sl 5 c.nil (c.fs.map Fa.av) ∧ e 15 = .int .i64 k ∧ e 14 = .int .i64 c.fs.length ∧ nx ≤ n1 ∧
    ∃ ib ic iw id n' ts', e 3 = .ptr ib 0 0 ∧ e 5 = .ptr iw 0 0 ∧ RN H' nx 0 ib ic iw id c.most n' ts' ∧ 0 ≤ n' ∧ n' ≤ 80 * k) ?_ ?_ ?_
  · simp only [↓sd0, su0, su1, resOf, pack, eqCells, ↓reduceIte, Nat.reduceEqDiff, Nat.reduceAdd, Nat.reduceLeDiff, Nat.reduceLT, reduceCtorEq]
    refine ⟨nx + 5, nx + 7, nx + 9, nx + 4, 0, List.replicate c.most (T.var 0), rfl, rfl, ?_, by omega, by omega⟩
    exact { hb := by simp [upd]
            hc := by simp [upd]
            hw := by simp [upd]
            hd := by simp [upd, var_av]
            len := by simp
            one := fun t ht => by rw [(List.mem_replicate.1 ht).2]; rfl
            lo' := by omega
            ne := by omega }
  · rintro k e l H' n1 hk ⟨h13, h15, h14, hn, ib, ic, iw, id, n', ts', h3, h5, hR, hn0, hn1⟩
    have hx := hc.2 c.fs[k] (List.getElem_mem hk)
    have hmo := mostsF_mem (List.getElem_mem hk)
    have hcl := hc.1
    have := hx.1.1
    have := hx.2.1
    simp only [↓sd0, su0, su1, resOf, pack, eqCells, ↓reduceIte, Nat.reduceEqDiff, Nat.reduceAdd, Nat.reduceLeDiff, Nat.reduceLT, reduceCtorEq, h13, h15, h14, h3, h5, iaddr_map hk, lt_cast hk, hR.hw]
    refine CallK_of (rn_spec c.fs[k].l n' ts' nx H' _ hR (Nat.le_refl _) (by omega) hx.1.2 hmo.1 hn0 (by omega)) ?_
    rintro r H2 n2 ⟨n'', ts'', hR2, hn4, hn5, hn6⟩
    simp only [↓sd0, su0, su1, resOf, pack, eqCells, ↓reduceIte, Nat.reduceEqDiff, Nat.reduceAdd, Nat.reduceLeDiff, Nat.reduceLT, reduceCtorEq, h13, h15, h14, h3, h5, hR2.hw]
    refine CallK_of (rn_spec c.fs[k].r n'' ts'' nx H2 _ hR2 (Nat.le_refl _) (by omega) hx.2.2 hmo.2 (by omega) (by omega)) ?_
    rintro r H3 n3 ⟨n3', ts3, hR3, hn7, hn8, hn9⟩
    simp only [↓sd0, su0, su1, resOf, pack, eqCells, ↓reduceIte, Nat.reduceEqDiff, Nat.reduceAdd, Nat.reduceLeDiff, Nat.reduceLT, reduceCtorEq, h13, h15, h14, h3, h5, wrap_succ hk (by omega : c.fs.length < 4611686018427387904)]
    exact ⟨by omega, ib, ic, iw, id, n3', ts3, rfl, rfl, hR3, by omega, by omega⟩
  · rintro e l H' n1 ⟨h13, h15, h14, hn, ib, ic, iw, id, n', ts', h3, h5, hR, hn0, hn1⟩
    have hlo := hR.lo'
    have hth : ∃ H2, thaw nx 1 H' [.lref id 0 c.most] = some ([.slice 2 (ts'.map T.av)], H2) := by
      rw [thaw_one]
      simp only [thawL, thawV]
      rw [if_neg (by omega), hR.hd]
      simp only
      rw [if_pos (by rw [List.length_map, hR.len]; omega)]
      refine ⟨upd H' id none, ?_⟩
      rw [show (ts'.map T.av).drop 0 = ts'.map T.av from rfl, List.take_of_length_le (by rw [List.length_map, hR.len]; exact Nat.le_refl _)]
      simp [thaw, solids_map T.solid_av]
    obtain ⟨H2, hth⟩ := hth
    simp only [↓sd0, su0, su1, resOf, pack, eqCells, ↓reduceIte, Nat.reduceEqDiff, Nat.reduceAdd, Nat.reduceLeDiff, Nat.reduceLT, reduceCtorEq, h13, h15, h14, h3, h5, hR.hb, hth]
    exact ⟨ts', rfl, hR.len, hR.one⟩

/-! ### named -/
structure NM (H : Nat → Option Obj) (lo ic iw im : Nat) (es : List (Int × AV)) : Prop where
  hc : H ic = some (.arr 1 [.map im])
  hw : H iw = some (.arr 1 [.clo 69 [.ptr ic 0 0, .ptr iw 0 0]])
  hm : H im = some (.mapi .i64 es)
  int : ∀ p ∈ es, ∃ z, p.2 = .int .i64 z
  lo' : lo ≤ ic ∧ lo ≤ iw ∧ lo ≤ im
  ne : ic ≠ iw ∧ ic ≠ im ∧ iw ≠ im


section
variable {tab : Nat → Option AFun} {wl id : Nat} {is : List AInstr} {e : Nat → AV} {l : Nat → Option (Nat × AV)} {H : Nat → Option Obj} {n : Nat} {K : St → Prop} {m : Mark K}
def lookV (H : Nat → Option Obj) (z : AV) (ok : Bool) (m k : AV) : Option AV := match m, k with
  | .map i, .int kd n => match H i with
    | some (.mapi kd' es) => if kd = kd' then some (if ok then .tup [(geti n es).getD z, .bool (geti n es).isSome] else (geti n es).getD z) else none
    | _ => none
  | _, _ => none
theorem lookV_map (H : Nat → Option Obj) (z : AV) (ok : Bool) (i : Nat) (kd : IntKind) (n : Int) : lookV H z ok (.map i) (.int kd n) = match H i with
    | some (.mapi kd' es) => if kd = kd' then some (if ok then .tup [(geti n es).getD z, .bool (geti n es).isSome] else (geti n es).getD z) else none
    | _ => none := _root_.id rfl
theorem RK_lookup {d : Nat} {z : AV} {ok : Bool} {x k : Opd} : RK tab wl id (⟨some d, .lookup false z ok x k, none, []⟩ :: is) e l H n K m ↔ OptK (lookV H z ok (lookE e x) (lookE e k)) (fun v => RK tab wl (id + 1) is (upd e d v) l H n K m) .mk := by
  rw [RK_some]
  refine (E_of (r := lookV H z ok (lookE e x) (lookE e k)) ?_).trans Iff.rfl
  simp only [AOp.eval, lookE, lookV]
  cases x.ev e <;> try rfl
  cases k.ev e <;> try rfl
  simp only
  rename_i i kd n
  cases H i with
  | none => rfl
  | some o => cases o <;> try rfl
              simp only; split <;> rfl
def mapupV (wl : Nat) (H : Nat → Option Obj) (m k v : AV) : Option (Nat → Option Obj) := match m, k with
  | .map i, .int kd n => match H i with
    | some (.mapi kd' es) => if kd = kd' ∧ wl ≤ i ∧ v.storable = true then some (upd H i (some (.mapi kd' (seti n v es)))) else none
    | _ => none
  | _, _ => none
theorem mapupV_map (wl : Nat) (H : Nat → Option Obj) (i : Nat) (kd : IntKind) (n : Int) (v : AV) : mapupV wl H (.map i) (.int kd n) v = match H i with
    | some (.mapi kd' es) => if kd = kd' ∧ wl ≤ i ∧ v.storable = true then some (upd H i (some (.mapi kd' (seti n v es)))) else none
    | _ => none := _root_.id rfl
theorem RK_mapup {x k v : Opd} : RK tab wl id (⟨none, .mapup false x k v, none, []⟩ :: is) e l H n K m ↔ OptK (mapupV wl H (lookE e x) (lookE e k) (lookE e v)) (fun H' => RK tab wl (id + 1) is e l H' n K m) .mk := by
  rw [RK_none]
  refine (E_to (r := (mapupV wl H (lookE e x) (lookE e k) (lookE e v)).map fun H' => (.undef, (⟨e, l, H', n⟩ : St))) ?_).trans (Opt_map _ _ _)
  change _ = (mapupV wl H (x.ev e) (k.ev e) (v.ev e)).map _
  simp only [AOp.eval]
  generalize x.ev e = a
  generalize k.ev e = b
  generalize v.ev e = c
  unfold mapupV
  cases a <;> try rfl
  cases b <;> try rfl
  rename_i i kd n
  simp only
  cases H i with
  | none => rfl
  | some o => cases o with
    | mapi kd' es =>
      simp only
      by_cases h : kd = kd' ∧ wl ≤ i ∧ c.storable = true
      · rw [if_pos h, if_pos h]; rfl
      · rw [if_neg h, if_neg h]; rfl
    | _ => rfl
def lenmapV (H : Nat → Option Obj) (m : AV) : Option AV := match m with
  | .nilMap => some (.int .i64 0)
  | .map i => match H i with
    | some (.mapi _ es) => some (.int .i64 es.length)
    | some (.maps es) => some (.int .i64 es.length)
    | _ => none
  | _ => none
theorem lenmapV_map (H : Nat → Option Obj) (i : Nat) : lenmapV H (.map i) = match H i with
    | some (.mapi _ es) => some (.int .i64 es.length)
    | some (.maps es) => some (.int .i64 es.length)
    | _ => none := _root_.id rfl
theorem RK_lenmap {d : Nat} {x : Opd} : RK tab wl id (⟨some d, .lenmap x, none, []⟩ :: is) e l H n K m ↔ OptK (lenmapV H (lookE e x)) (fun v => RK tab wl (id + 1) is (upd e d v) l H n K m) .mk := by
  rw [RK_some]
  refine (E_of (r := lenmapV H (lookE e x)) ?_).trans Iff.rfl
  simp only [AOp.eval, lookE, lenmapV]
  cases x.ev e <;> try rfl
  simp only
  rename_i i
  cases H i with
  | none => rfl
  | some o => cases o <;> rfl
end

theorem geti_int {es : List (Int × AV)} (h : ∀ p ∈ es, ∃ z, p.2 = .int .i64 z) (n : Int) : ∃ z, (geti n es).getD (.int .i64 0) = .int .i64 z := by
  induction es with
  | nil => exact ⟨0, rfl⟩
  | cons p es ih =>
    obtain ⟨k, v⟩ := p
    simp only [geti]
    split
    · obtain ⟨z, hz⟩ := h (k, v) (List.mem_cons_self ..)
      exact ⟨z, hz⟩
    · exact ih fun q hq => h q (List.mem_cons_of_mem _ hq)
theorem seti_int {es : List (Int × AV)} (h : ∀ p ∈ es, ∃ z, p.2 = .int .i64 z) (n w : Int) : ∀ p ∈ seti n (.int .i64 w) es, ∃ z, p.2 = .int .i64 z := by
  induction es with
  | nil => intro p hp; simp [seti] at hp; subst hp; exact ⟨w, rfl⟩
  | cons q es ih =>
    obtain ⟨k, v⟩ := q
    intro p hp
    simp only [seti] at hp
    split at hp
    · rcases List.mem_cons.1 hp with rfl | hp
      · exact ⟨w, rfl⟩
      · exact h p (List.mem_cons_of_mem _ hp)
    · rcases List.mem_cons.1 hp with rfl | hp
      · exact h _ (List.mem_cons_self ..)
      · exact ih (fun q hq => h q (List.mem_cons_of_mem _ hq)) p hp

theorem NM.of {H H' : Nat → Option Obj} {lo ic iw im : Nat} {es : List (Int × AV)} (h : NM H lo ic iw im es) (h1 : H' ic = H ic) (h2 : H' iw = H iw) (h3 : H' im = H im) : NM H' lo ic iw im es :=
  { hc := by rw [h1]; exact h.hc, hw := by rw [h2]; exact h.hw, hm := by rw [h3]; exact h.hm, int := h.int, lo' := h.lo', ne := h.ne }
theorem sizes_snoc (us : List T) (u : T) : T.sizes (us ++ [u]) = T.sizes us + u.size := by
  induction us with
  | nil => simp [T.sizes]
  | cons x xs ih => simp only [List.cons_append, T.sizes, ih]; omega
theorem named1_spec {lo ic iw im : Nat} (t : T) : ∀ (es : List (Int × AV)) (wl : Nat) (H : Nat → Option Obj) (nx : Nat), NM H lo ic iw im es → ic < nx ∧ iw < nx ∧ im < nx → wl ≤ lo → t.size < 1099511627776 →
    Call tab wl 69 [t.av, .ptr ic 0 0, .ptr iw 0 0] H nx fun r H' nx' => ∃ u es', r = T.av u ∧ u.size = t.size ∧ NM H' lo ic iw im es' ∧ nx ≤ nx' ∧ ∀ j, j < nx → j ≠ im → H' j = H j := by
  induction t using T.ind' with
  | h t ih =>
    intro es wl H nx hR hlt hwl ht
    have hs := t.size_eq
    have hl := T.length_le t.ks
    refine call_mutf tab_69 ?_
    unfold body69
    dsimp only [qm, qf, ql, qL, qs, qc, qk, qi, qn, qb, qB, qe, qx, qo, qg]
    simp only [start3]
    rw [W_assoc, W_assoc]
    refine W_cut (fun e l H' n => e 1 = .ptr ic 0 0 ∧ e 2 = .ptr iw 0 0 ∧ e 3 = .fptr t.av 0 ∧ nx ≤ n ∧ (∃ m, e 4 = .loc 4 m 0 ∧ l 4 = some (m, .agg [.int .i64 0, .nilSlice])) ∧ (∃ m z, e 5 = .loc 5 m 0 ∧ l 5 = some (m, .agg [.int .i64 z, .nilSlice])) ∧ ∃ es', NM H' lo ic iw im es' ∧ ∀ j, j ≠ im → H' j = H j) ?_ ?_
    · by_cases c : t.h < 0
      · have q : decide (t.h < 0) = true := by simp [c]
        have l1 : wl ≤ im := by have := hR.lo'; omega
        obtain ⟨z, hz⟩ := geti_int hR.int t.h
        cases hg : (geti t.h es).isSome
        · obtain ⟨z2, hz2⟩ := geti_int (seti_int hR.int t.h (IntKind.i64.wrap (IntKind.i64.wrap (0 - (es.length : Int)) - 1))) t.h
          simp only [↓sd0, su0, su1, resOf, pack, eqCells, ↓reduceIte, Nat.reduceEqDiff, Nat.reduceAdd, Nat.reduceLeDiff, Nat.reduceLT, reduceCtorEq, ↓RK_lookup, ↓RK_mapup, ↓RK_lenmap, lookV_map, mapupV_map, lenmapV_map, q, hR.hc, hR.hm, hz, hg, l1, hR.ne.2.1, hR.ne.2.1.symm, hz2]
          exact ⟨⟨_, rfl, rfl⟩, ⟨_, _, rfl, rfl⟩, _, { hc := by rw [upd_other _ _ hR.ne.2.1]; exact hR.hc, hw := by rw [upd_other _ _ hR.ne.2.2]; exact hR.hw, hm := upd_same _ _ _, int := seti_int hR.int _ _, lo' := hR.lo', ne := hR.ne }, by intro j hj; simp [hj]⟩
        · simp only [↓sd0, su0, su1, resOf, pack, eqCells, ↓reduceIte, Nat.reduceEqDiff, Nat.reduceAdd, Nat.reduceLeDiff, Nat.reduceLT, reduceCtorEq, ↓RK_lookup, ↓RK_mapup, ↓RK_lenmap, lookV_map, mapupV_map, lenmapV_map, q, hR.hc, hR.hm, hz, hg]
          first | exact ⟨⟨_, rfl, rfl⟩, ⟨_, _, rfl, rfl⟩, _, hR⟩ | exact ⟨⟨_, rfl, rfl⟩, ⟨_, _, rfl, rfl⟩, _, hR, fun j hj => trivial⟩
      · have q : decide (t.h < 0) = false := by simp; omega
        simp only [↓sd0, su0, su1, resOf, pack, eqCells, ↓reduceIte, Nat.reduceEqDiff, Nat.reduceAdd, Nat.reduceLeDiff, Nat.reduceLT, reduceCtorEq, q]
        first | exact ⟨⟨_, rfl, rfl⟩, ⟨_, _, rfl, rfl⟩, _, hR⟩ | exact ⟨⟨_, rfl, rfl⟩, ⟨_, _, rfl, rfl⟩, _, hR, fun j hj => trivial⟩
    · rintro e l H' n ⟨h1, h2, h3, hn, ⟨m4, h4, hl4⟩, ⟨m5, z, h5, hl5⟩, es', hR', hfr⟩
      simp only [↓sd0, su0, su1, resOf, pack, eqCells, ↓reduceIte, Nat.reduceEqDiff, Nat.reduceAdd, Nat.reduceLeDiff, Nat.reduceLT, reduceCtorEq, h3]
      refine W_count t.ks.length (fun k e l H' n => e 1 = .ptr ic 0 0 ∧ e 2 = .ptr iw 0 0 ∧ e 38 = sl 2 t.nil (t.ks.map T.av) ∧ e 40 = .int .i64 k ∧ e 39 = .int .i64 t.ks.length ∧ nx ≤ n ∧ (∃ m, e 4 = .loc 4 m 0 ∧ l 4 = some (m, .agg [.int .i64 0, .nilSlice])) ∧
        (∃ es', NM H' lo ic iw im es') ∧ (∀ j, j < nx → j ≠ im → H' j = H j) ∧ ∃ m id us, e 5 = .loc 5 m 0 ∧ l 5 = some (m, .agg [.int .i64 z, lv id k]) ∧ us.length = k ∧ T.sizes us = T.sizes (t.ks.take k) ∧ Own H' nx n 2 id (us.map T.av)) ?_ ?_ ?_
      · simp only [↓sd0, su0, su1, resOf, pack, eqCells, ↓reduceIte, Nat.reduceEqDiff, Nat.reduceAdd, Nat.reduceLeDiff, Nat.reduceLT, reduceCtorEq, h1, h2, h3, h4, hl4, h5, hl5]
        exact ⟨by omega, ⟨_, rfl, rfl⟩, ⟨_, hR'⟩, fun j _ hj => hfr j hj, _, 0, [], rfl, rfl, rfl, by simp, Own.nil⟩
      · clear h1 h2 h3 hn h4 hl4 h5 hl5 hR' hfr
        clear e l H' n m4 m5 es'
        rintro k e l H' n hk ⟨h1, h2, h38, h40, h39, hn, ⟨m4, h4, hl4⟩, ⟨es', hR'⟩, hfr, m5, id, us, h5, hl5, hus, hsz, ho⟩
        have hz := T.size_kid hk
        have hwk := wrap_succ hk (by omega)
        simp only [↓sd0, su0, su1, resOf, pack, eqCells, ↓reduceIte, Nat.reduceEqDiff, Nat.reduceAdd, Nat.reduceLeDiff, Nat.reduceLT, reduceCtorEq, dr0, Nat.reducePow, Nat.reduceDiv, Nat.reduceMod, Nat.reduceBEq, h1, h2, h38, h40, h39, h4, hl4, h5, hl5, iaddr_map hk, lt_cast hk, hR'.hw]
        refine CallK_of (ih t.ks[k] (List.getElem_mem hk) es' wl H' _ hR' (by omega) hwl (by omega)) ?_
        rintro r H2 n2 ⟨u, es2, rfl, hu, hR2, hn2, hf2⟩
        have ho2 : Own H2 nx n2 2 id (us.map T.av) := fun hne => by
          obtain ⟨a, b, c⟩ := ho hne
          exact ⟨a, by omega, by rw [hf2 id (by omega) (by have := hR'.lo'; omega)]; exact c⟩
        have hap := append_to (wl := wl) (bytes := 32) u.av ho2 (n := k) (by simpa using hus) (by have := hR'.lo'; omega) (by omega)
        simp only [↓sd0, su0, su1, resOf, pack, eqCells, ↓reduceIte, Nat.reduceEqDiff, Nat.reduceAdd, Nat.reduceLeDiff, Nat.reduceLT, reduceCtorEq, dr0, Nat.reducePow, Nat.reduceDiv, Nat.reduceMod, Nat.reduceBEq, h1, h2, h38, h40, h39, h4, hl4, h5, hl5, hap, hwk]
        have hk1 : ∀ j, j < nx → upd (kill H2 id k) (n + 11) (some (.arr 2 (us.map T.av ++ [u.av]))) j = H2 j := fun j hj => by
          rw [upd_other _ _ (by omega)]
          refine kill_other fun hk0 => ?_
          have hne : us.map T.av ≠ [] := by intro h; rw [List.map_eq_nil_iff] at h; rw [h] at hus; exact hk0 hus.symm
          have := (ho hne).1; omega
        refine ⟨by omega, ⟨_, rfl, rfl⟩, ⟨es2, hR2.of (hk1 _ hlt.1) (hk1 _ hlt.2.1) (hk1 _ hlt.2.2)⟩, ?_, _, n + 11, us ++ [u], rfl, rfl, by simp [hus], ?_, ?_⟩
        · intro j hj hne
          have := hk1 j hj
          rw [upd_apply] at this
          rw [this, hf2 j (by omega) hne, hfr j hj hne]
        · rw [sizes_snoc, T.sizes_take _ _ hk, hsz, hu]
        · simp only [List.map_append, List.map_cons, List.map_nil]
          exact (Own.append (by omega)).mono (by omega)
      · rintro e l H' n ⟨h1, h2, h38, h40, h39, hn, ⟨m4, h4, hl4⟩, ⟨es', hR'⟩, hfr, m5, id, us, h5, hl5, hus, hsz, ho⟩
        obtain ⟨H2, hth, hH2⟩ := thaw_tree (h := z) ho (n := t.ks.length) hus (Nat.le_refl _)
        rw [List.take_length] at hsz
        simp only [↓sd0, su0, su1, resOf, pack, eqCells, ↓reduceIte, Nat.reduceEqDiff, Nat.reduceAdd, Nat.reduceLeDiff, Nat.reduceLT, reduceCtorEq, dr0, Nat.reducePow, Nat.reduceDiv, Nat.reduceMod, Nat.reduceBEq, h1, h2, h38, h40, h39, h4, hl4, h5, hl5, hth]
        refine ⟨_, es', rfl, by rw [T.size_mk, T.size_eq, hsz], hR'.of ?_ ?_ ?_, by omega, ?_⟩
        · rw [if_pos hlt.1]; exact hH2 _ hlt.1
        · rw [if_pos hlt.2.1]; exact hH2 _ hlt.2.1
        · rw [if_pos hlt.2.2]; exact hH2 _ hlt.2.2
        · intro j hj hne
          rw [if_pos hj, hH2 j hj, hfr j hj hne]

end Go.Proofs.Ytmbdccekcfeomaa.Am
end
/- Tables that are being found: values of trees, facts that are broken. -/
section
open Go
namespace Go.Proofs.Ytmbdccekcfeomaa.Am
set_option linter.unusedSimpArgs false
set_option linter.unusedVariables false
set_option maxRecDepth 20000

/-- Trees of the signs of 0, 1 and 2 kids, of v variables. -/
inductive T.wf (v : Nat) : T → Prop
  | var (h : Int) (b : Bool) : h < 0 → -h ≤ v → T.wf v (.mk h b [])
  | node (h : Int) (b : Bool) (ks : List T) : 1 ≤ h → h ≤ 3 → (ks.length : Int) = h - 1 → (∀ k ∈ ks, T.wf v k) → T.wf v (.mk h b ks)
theorem T.wf_iff {v : Nat} {t : T} (h : t.wf v) : (t.h < 0 ∧ -t.h ≤ v ∧ t.ks = []) ∨ (1 ≤ t.h ∧ t.h ≤ 3 ∧ (t.ks.length : Int) = t.h - 1 ∧ ∀ k ∈ t.ks, k.wf v) := by
  cases h with
  | var h b h1 h2 => exact Or.inl ⟨h1, h2, rfl⟩
  | node h b ks h1 h2 h3 h4 => exact Or.inr ⟨h1, h2, h3, h4⟩
structure Shp (s : Int) (tl : List (List Int)) : Prop where
  s12 : s = 1 ∨ s = 2
  len : tl.length = 3
  row : ∀ k, k < 3 → ((tl.getD k []).length : Int) = s ^ k
  cell : ∀ r ∈ tl, ∀ x ∈ r, -1 ≤ x ∧ x < s
def rowI (r : List Int) : List AV := r.map (AV.int .i64)
structure Fnd (H : Nat → Option Obj) (f ta : Nat) (es : List AV) (ids : Nat → Nat) (l : Lo) (s fuel : Int) (tl : List (List Int)) : Prop where
  obj : H f = some (.arr 5 [.agg [ints l.anil l.ar, sl 1 l.cnil (l.cs.map Cl.el), .int .i64 s, .lref ta 0 tl.length, .int .i64 fuel]])
  tel : H ta = some (.arr 1 es)
  el : es.length = tl.length
  get : ∀ k, k < tl.length → es[k]? = some (.lref (ids k) 0 (tl.getD k []).length)
  row : ∀ k, k < tl.length → H (ids k) = some (.arr 1 (rowI (tl.getD k [])))
def env (xs : List Int) (i : Nat) : Int := xs.getD i 0

theorem pow_bound {s : Int} (hs : s = 1 ∨ s = 2) (k : Nat) (hk : k ≤ 2) : 1 ≤ s ^ k ∧ s ^ k ≤ 4 := by
  have : k = 0 ∨ k = 1 ∨ k = 2 := by omega
  rcases hs with rfl | rfl <;> rcases this with rfl | rfl | rfl <;> decide
theorem step_bound {s a x : Int} {k : Nat} (hs : s = 1 ∨ s = 2) (h0 : 0 ≤ a) (h : a + 1 ≤ s ^ k) (hx0 : 0 ≤ x) (hx : x < s) : 0 ≤ a * s + x ∧ a * s + x + 1 ≤ s ^ (k + 1) := by
  rw [Int.pow_succ]
  generalize s ^ k = p at h
  rcases hs with rfl | rfl <;> omega
theorem vatI_drop {s : Int} {xs : List Int} {k : Nat} (h : k < xs.length) (a : Int) : vatI s (xs.drop k) a = if xs[k] < 0 then -1 else vatI s (xs.drop (k + 1)) (a * s + xs[k]) := by
  rw [List.drop_eq_getElem_cons h]; rfl
theorem vatI_range {s : Int} (hs : s = 1 ∨ s = 2) {xs : List Int} (hx : ∀ x ∈ xs, -1 ≤ x ∧ x < s) : ∀ (a : Int) (k : Nat), 0 ≤ a → a + 1 ≤ s ^ k → vatI s xs a = -1 ∨ (0 ≤ vatI s xs a ∧ vatI s xs a + 1 ≤ s ^ (k + xs.length)) := by
  induction xs with
  | nil => intro a k h0 h1; exact Or.inr ⟨h0, h1⟩
  | cons x xs ih =>
    intro a k h0 h1
    rw [vatI]
    split
    · exact Or.inl rfl
    · have hx' := hx x (List.mem_cons_self ..)
      have := step_bound hs h0 h1 (x := x) (by omega) hx'.2
      have := ih (fun y hy => hx y (List.mem_cons_of_mem _ hy)) _ (k + 1) this.1 this.2
      rw [List.length_cons, show k + (xs.length + 1) = k + 1 + xs.length by omega]; exact this
theorem Shp.cellD {s : Int} {tl : List (List Int)} (h : Shp s tl) (i j : Nat) : -1 ≤ (tl.getD i []).getD j 0 ∧ (tl.getD i []).getD j 0 < s := by
  have hs := h.s12
  rw [List.getD_eq_getElem?_getD]
  rcases Nat.lt_or_ge j (tl.getD i []).length with hj | hj
  · rw [List.getElem?_eq_getElem hj]
    refine h.cell (tl.getD i []) ?_ _ (List.getElem_mem hj)
    rw [List.getD_eq_getElem?_getD] at hj ⊢
    rcases Nat.lt_or_ge i tl.length with hi | hi
    · rw [List.getElem?_eq_getElem hi]; exact List.getElem_mem hi
    · rw [List.getElem?_eq_none hi] at hj; simp at hj
  · rw [List.getElem?_eq_none hj]; simp; omega
theorem val_range {s : Int} {tl : List (List Int)} (h : Shp s tl) {ρ : Nat → Int} (hr : Rng s ρ) (t : T) : -1 ≤ t.val s tl ρ ∧ t.val s tl ρ < s := by
  have hs := h.s12
  rw [T.val_eq]
  split
  · have := hr (-t.h - 1).toNat; omega
  · split
    · omega
    · exact h.cellD _ _
theorem env_rng {s : Int} (hs : 1 ≤ s) {xs : List Int} (hx : ∀ x ∈ xs, 0 ≤ x ∧ x < s) : Rng s (env xs) := fun i => getD_in hs hx i

theorem fval_spec {H : Nat → Option Obj} {f ta th v : Nat} {es : List AV} {ids : Nat → Nat} {l : Lo} {s fuel : Int} {tl : List (List Int)} {xs : List Int} (hF : Fnd H f ta es ids l s fuel tl) (hS : Shp s tl) (hth : H th = some (.arr 1 (rowI xs))) (hv : xs.length = v) (hv8 : v ≤ 8)
    (hx : ∀ x ∈ xs, 0 ≤ x ∧ x < s) (t : T) : t.wf v → t.size < 4294967296 → ∀ wl nx, C tab wl 86 [.ptr f 0 0, t.av, .lref th 0 v] H nx = some (.int .i64 (t.val s tl (env xs)), H, nx) := by
  have hs := hS.s12
  have hR : Rng s (env xs) := env_rng (by omega) hx
  have hobj := hF.obj
  induction t using T.ind' with
  | h t ih =>
    intro hw hsz wl nx
    have hss := t.size_eq
    have hl := T.length_le t.ks
    refine gives_at tab_86 ?_
    unfold body86
    dsimp only [qm, qf, ql, qL, qs, qc, qk, qi, qn, qb, qB, qe, qx, qo, qg]
    simp only [start3]
    rcases T.wf_iff hw with ⟨c1, c2, c3⟩ | ⟨c1, c2, c3, c4⟩
    · obtain ⟨i, hi⟩ : ∃ i : Nat, t.h = -((i : Int) + 1) := ⟨(-t.h - 1).toNat, by omega⟩
      have q : decide (t.h < 0) = true := by simp [c1]
      have hw : IntKind.i64.wrap (IntKind.i64.wrap (0 - t.h) - 1) = (i : Int) := by rw [wrap64 (n := 0 - t.h) (by omega) (by omega), wrap64 (by omega) (by omega)]; omega
      have hi2 : i < xs.length := by omega
      have hia := iaddr_lref (i := i) (n := v) hth (by omega)
      have hget : (rowI xs)[i]? = some (.int .i64 xs[i]) := by simp [rowI, hi2]
      rw [T.val_eq, if_pos c1]
      have e : env xs (-t.h - 1).toNat = xs[i] := by
        have : (-t.h - 1).toNat = i := by omega
        rw [this, env, List.getD_eq_getElem?_getD, List.getElem?_eq_getElem hi2]; rfl
      rw [e]
      simp only [↓sd0, su0, su1, resOf, pack, eqCells, ↓reduceIte, Nat.reduceEqDiff, Nat.reduceAdd, Nat.reduceLeDiff, Nat.reduceLT, reduceCtorEq, q, hw, hia, hth, hget]
    · obtain ⟨i, hi⟩ : ∃ i : Nat, t.h = (i : Int) + 1 := ⟨(t.h - 1).toNat, by omega⟩
      have q : decide (t.h < 0) = false := by simp; omega
      have hkl : t.ks.length = i := by omega
      have hi3 : i < 3 := by omega
      have hlen := hS.len
      rw [T.val_eq, if_neg (by omega)]
      have hvr := vatI_range hs (xs := t.ks.map (T.val s tl (env xs))) (fun x hx => by
        obtain ⟨k, _, rfl⟩ := List.mem_map.1 hx; exact val_range hS hR k) 0 0 (by omega) (by simp)
      rw [List.length_map, hkl, Nat.zero_add] at hvr
      generalize hv0 : vatI s (t.ks.map (T.val s tl (env xs))) 0 = v0 at hvr
      simp only [↓sd0, su0, su1, resOf, pack, eqCells, ↓reduceIte, Nat.reduceEqDiff, Nat.reduceAdd, Nat.reduceLeDiff, Nat.reduceLT, reduceCtorEq, q]
      refine W_count t.ks.length (fun k e lo H' n => H' = H ∧ e 0 = .ptr f 0 0 ∧ e 2 = .lref th 0 v ∧ e 4 = .fptr t.av 0 ∧ e 22 = sl 2 t.nil (t.ks.map T.av) ∧ e 24 = .int .i64 k ∧ e 23 = .int .i64 t.ks.length ∧ ∃ a : Int, e 7 = .int .i64 a ∧ 0 ≤ a ∧ a + 1 ≤ s ^ k ∧ vatI s ((t.ks.map (T.val s tl (env xs))).drop k) a = v0) ?_ ?_ ?_
      · simp only [↓sd0, su0, su1, resOf, pack, eqCells, ↓reduceIte, Nat.reduceEqDiff, Nat.reduceAdd, Nat.reduceLeDiff, Nat.reduceLT, reduceCtorEq]; exact ⟨0, rfl, by omega, by simp, hv0⟩
      · rintro k e lo H' n hk ⟨rfl, h0, h2, h4, h22, h24, h23, a, h7, ha0, ha1, hq⟩
        have hz := T.size_kid hk
        have ih' := ih t.ks[k] (List.getElem_mem hk) (c4 _ (List.getElem_mem hk)) (by omega)
        rw [vatI_drop (by simpa using hk), List.getElem_map] at hq
        have hvk := val_range hS hR t.ks[k]
        generalize hxv : T.val s tl (env xs) t.ks[k] = x at hq ih' hvk
        have hpb := pow_bound hs k (by omega)
        have hwk := wrap_succ hk (by omega)
        by_cases cx : x < 0
        · rw [if_pos cx] at hq
          have q2 : decide (x < 0) = true := decide_eq_true cx
          have q3 : ((v0 : Int) < 0) = True := by simp; omega
          simp only [↓sd0, su0, su1, resOf, pack, eqCells, ↓reduceIte, Nat.reduceEqDiff, Nat.reduceAdd, Nat.reduceLeDiff, Nat.reduceLT, reduceCtorEq, h0, h2, h4, h22, h24, h23, h7, iaddr_map hk, lt_cast hk, callK_eq (ih' _ _), q2, q3]
        · rw [if_neg cx] at hq
          have q2 : decide (x < 0) = false := decide_eq_false cx
          have hsb := step_bound hs ha0 ha1 (x := x) (by omega) hvk.2
          have hpb2 := pow_bound hs (k + 1) (by omega)
          have e1 : 0 ≤ a * s ∧ a * s ≤ 8 := by rcases hs with rfl | rfl <;> omega
          have hw1 : IntKind.i64.wrap (a * s) = a * s := wrap64 (by omega) (by omega)
          have hw2 : IntKind.i64.wrap (a * s + x) = a * s + x := wrap64 (by omega) (by omega)
          simp only [↓sd0, su0, su1, resOf, pack, eqCells, ↓reduceIte, Nat.reduceEqDiff, Nat.reduceAdd, Nat.reduceLeDiff, Nat.reduceLT, reduceCtorEq, h0, h2, h4, h22, h24, h23, h7, iaddr_map hk, lt_cast hk, callK_eq (ih' _ _), q2, hobj, hw1, hw2, hwk]
          exact ⟨_, rfl, hsb.1, hsb.2, hq⟩
      · rintro e lo H' n ⟨rfl, h0, h2, h4, h22, h24, h23, a, h7, ha0, ha1, hq⟩
        rw [List.drop_eq_nil_of_le (by simp)] at hq
        simp only [vatI] at hq
        subst hq
        have hw : IntKind.i64.wrap (t.h - 1) = (i : Int) := by rw [wrap64 (by omega) (by omega)]; omega
        have hia1 := iaddr_lref (i := i) (n := tl.length) hF.tel (by omega)
        have hg1 := hF.get i (by omega)
        have hr1 := hF.row i (by omega)
        have hrl := hS.row i hi3
        rw [hkl] at ha1
        obtain ⟨j, rfl⟩ : ∃ j : Nat, a = (j : Int) := ⟨a.toNat, by omega⟩
        have hj : j < (tl.getD i []).length := by omega
        have hia2 := iaddr_lref (i := j) (n := (tl.getD i []).length) hr1 hj
        have hg2 : (rowI (tl.getD i []))[j]? = some (.int .i64 ((tl.getD i []).getD j 0)) := by
          rw [List.getD_eq_getElem?_getD (l := tl.getD i [])]
          simp only [rowI, List.getElem?_map, List.getElem?_eq_getElem hj, Option.map_some, Option.getD_some]
        have q3 : ((j : Int) < 0) = False := by simp
        have hti : (t.h - 1).toNat = i := by omega
        simp only [↓sd0, su0, su1, resOf, pack, eqCells, ↓reduceIte, Nat.reduceEqDiff, Nat.reduceAdd, Nat.reduceLeDiff, Nat.reduceLT, reduceCtorEq, dr0, Nat.reducePow, Nat.reduceDiv, Nat.reduceMod, Nat.reduceBEq, h0, h2, h4, h22, h24, h23, h7, hobj, hw, hia1, hF.tel, hg1, hia2, hr1, hg2, q3, hti, part_lref, Int.toNat_natCast]

end Go.Proofs.Ytmbdccekcfeomaa.Am
end
