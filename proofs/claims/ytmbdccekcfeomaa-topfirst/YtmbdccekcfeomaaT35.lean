/- Trees moved, paired; places. -/
import Derived.Test.YtmbdccekcfeomaaT34
section
open Go
namespace Go.Proofs.Ytmbdccekcfeomaa.Am
set_option linter.unusedSimpArgs false
set_option linter.unusedVariables false
set_option maxRecDepth 20000

mutual
def T.moved (m : Int) : T → T
  | .mk h _ ks => .mk (if h < 0 then h - m else h) true (T.moveds m ks)
def T.moveds (m : Int) : List T → List T
  | [] => []
  | k :: ks => T.moved m k :: T.moveds m ks
end
theorem T.moveds_eq (m : Int) : ∀ ks : List T, T.moveds m ks = ks.map (T.moved m)
  | [] => rfl
  | k :: ks => by simp [T.moveds, T.moveds_eq m ks]
theorem T.moved_eq (m : Int) (t : T) : t.moved m = .mk (if t.h < 0 then t.h - m else t.h) true (t.ks.map (T.moved m)) := by cases t; rw [T.moved, T.moveds_eq]; rfl
theorem moved_size (m : Int) (t : T) : (t.moved m).size = t.size := by
  induction t using T.ind' with
  | h t ih =>
    rw [T.moved_eq, T.size_mk, T.size_eq]
    congr 1
    generalize t.ks = ks at ih
    induction ks with
    | nil => rfl
    | cons k ks ihk => simp only [List.map_cons, T.sizes]; rw [ih k (List.mem_cons_self ..), ihk fun x hx => ih x (List.mem_cons_of_mem _ hx)]

theorem moved_spec (m : Nat) (hm : m < 1099511627776) (t : T) : t.size < 1099511627776 → t.small → Gives tab 82 [t.av, .int .i64 m] (t.moved m).av := by
  induction t using T.ind' with
  | h t ih =>
    intro ht hsm
    have hs := t.size_eq
    have hl := T.length_le t.ks
    have hh := T.small_h hsm
    refine gives_thaw tab_82 fun H nx => ?_
    unfold body82
    dsimp only [qm, qf, ql, qL, qs, qc, qk, qi, qn, qb, qB, qe, qx, qo, qg]
    simp only [start2]
    rw [T.moved_eq]
    have hw : IntKind.i64.wrap (t.h - (m : Int)) = t.h - (m : Int) := by rw [wrap64 (by omega) (by omega)]
    rw [W_assoc, W_assoc]
    refine W_cut (fun e l H' n => e 1 = .int .i64 m ∧ e 2 = .fptr t.av 0 ∧ nx ≤ n ∧ (∃ m, e 4 = .loc 4 m 0 ∧ l 4 = some (m, .agg [.int .i64 0, .nilSlice])) ∧ ∃ m', e 5 = .loc 5 m' 0 ∧ l 5 = some (m', .agg [.int .i64 (if t.h < 0 then t.h - m else t.h), .nilSlice])) ?_ ?_
    · by_cases c : t.h < 0
      · have q : decide (t.h < 0) = true := by simp [c]
        simp only [↓sd0, su0, su1, resOf, pack, eqCells, ↓reduceIte, Nat.reduceEqDiff, Nat.reduceAdd, Nat.reduceLeDiff, Nat.reduceLT, reduceCtorEq, q, hw]
        rw [if_pos c]
        exact ⟨⟨_, rfl, rfl⟩, _, rfl, rfl⟩
      · have q : decide (t.h < 0) = false := by simp; omega
        simp only [↓sd0, su0, su1, resOf, pack, eqCells, ↓reduceIte, Nat.reduceEqDiff, Nat.reduceAdd, Nat.reduceLeDiff, Nat.reduceLT, reduceCtorEq, q]
        rw [if_neg c]
        exact ⟨⟨_, rfl, rfl⟩, _, rfl, rfl⟩
    · generalize (if t.h < 0 then t.h - (m : Int) else t.h) = z
      rintro e l H' n ⟨h1, h2, hn, ⟨m4, h4, hl4⟩, m5, h5, hl5⟩
      simp only [↓sd0, su0, su1, resOf, pack, eqCells, ↓reduceIte, Nat.reduceEqDiff, Nat.reduceAdd, Nat.reduceLeDiff, Nat.reduceLT, reduceCtorEq, h1, h2, h4, hl4, h5, hl5]
      refine W_count t.ks.length (fun k e l H' n => e 20 = sl 2 t.nil (t.ks.map T.av) ∧ e 1 = .int .i64 m ∧ e 22 = .int .i64 k ∧ e 21 = .int .i64 t.ks.length ∧ nx ≤ n ∧ (∃ m, e 4 = .loc 4 m 0 ∧ l 4 = some (m, .agg [.int .i64 0, .nilSlice])) ∧
        ∃ m' id, e 5 = .loc 5 m' 0 ∧ l 5 = some (m', .agg [.int .i64 z, lv id k]) ∧ Own H' nx n 2 id (((t.ks.take k).map (T.moved m)).map T.av)) ?_ ?_ ?_
      · simp only [↓sd0, su0, su1, resOf, pack, eqCells, ↓reduceIte, Nat.reduceEqDiff, Nat.reduceAdd, Nat.reduceLeDiff, Nat.reduceLT, reduceCtorEq, h1, h2, h4, hl4, h5, hl5]
        exact ⟨by omega, ⟨_, rfl, rfl⟩, _, 0, rfl, rfl, Own.nil⟩
      · clear h1 h2 hn h4 hl4 h5 hl5
        clear e l H' n m4 m5
        rintro k e l H' n hk ⟨h20, h1, h22, h21, hn, ⟨m2, h2, hl2⟩, m3, id, h3, hl3, ho⟩
        have hz := T.size_kid hk
        have hap := append_to (bytes := 32) (T.moved m t.ks[k]).av ho (n := k) (by simp; omega) (Nat.le_refl _) (by omega)
        simp only [↓sd0, su0, su1, resOf, pack, eqCells, ↓reduceIte, Nat.reduceEqDiff, Nat.reduceAdd, Nat.reduceLeDiff, Nat.reduceLT, reduceCtorEq, dr0, Nat.reducePow, Nat.reduceDiv, Nat.reduceMod, Nat.reduceBEq, h1, h2, h3, h20, h22, h21, hl2, hl3, iaddr_map hk, lt_cast hk, (ih t.ks[k] (List.getElem_mem hk) (by omega) (T.smalls_get (T.small_ks hsm) hk)).callK, hap, wrap_succ hk (by omega : t.ks.length < 4611686018427387904)]
        exact ⟨by omega, ⟨_, rfl, rfl⟩, _, _, rfl, rfl, by rw [take_one hk]; simp only [List.map_append, List.map_cons, List.map_nil]; exact (Own.append (by omega)).mono (by omega)⟩
      · rintro e l H' n ⟨h20, h1, h22, h21, hn, ⟨m2, h2, hl2⟩, m3, id, h3, hl3, ho⟩
        rw [List.take_length] at ho
        obtain ⟨H'', hth, _⟩ := thaw_tree (h := z) ho (n := t.ks.length) (by simp) (Nat.le_refl _)
        simp only [↓sd0, su0, su1, resOf, pack, eqCells, ↓reduceIte, Nat.reduceEqDiff, Nat.reduceAdd, Nat.reduceLeDiff, Nat.reduceLT, reduceCtorEq, dr0, Nat.reducePow, Nat.reduceDiv, Nat.reduceMod, Nat.reduceBEq, h2, h3, h20, h22, h21, hl2, hl3, hth]

def T.pair (a b : T) : T := .mk 13 false [a, b]
theorem chop_TT (a b : T) : chop 2 2 [.int .i64 a.h, sl 2 a.nil (a.ks.map T.av), .int .i64 b.h, sl 2 b.nil (b.ks.map T.av)] = [a.av, b.av] := by
  rw [T.av_eq a, T.av_eq b]; rfl
theorem pair_av (a b : T) : AV.agg [.int .i64 13, .slice 2 [a.av, b.av]] = (T.pair a b).av := by rw [T.av_eq (T.pair a b)]; rfl
theorem pair_spec (a b : T) : Gives tab 80 [a.av, b.av] (T.pair a b).av := by
  refine gives tab_80 fun H nx => ?_
  unfold body80
  dsimp only [qm, qf, ql, qL, qs, qc, qk, qi, qn, qb, qB, qe, qx, qo, qg]
  simp only [start2]
  simp only [↓sd0, su0, su1, resOf, pack, eqCells, ↓reduceIte, Nat.reduceEqDiff, Nat.reduceAdd, Nat.reduceLeDiff, Nat.reduceLT, reduceCtorEq, chop_TT, pair_av]

theorem at_spec (b : Bool) (p : List Int) (hp : p.length < 4611686018427387904) (hl : ∀ s ∈ p, -4611686018427387904 < s ∧ s < 4611686018427387904) (t s : T) (hw : t.walk p = some s) : Gives tab 76 [t.av, ints b p] s.av := by
  refine gives tab_76 fun H nx => ?_
  unfold body76
  dsimp only [qm, qf, ql, qL, qs, qc, qk, qi, qn, qb, qB, qe, qx, qo, qg]
  simp only [start2]
  simp only [↓sd0, su0, su1, resOf, pack, eqCells, ↓reduceIte, Nat.reduceEqDiff, Nat.reduceAdd, Nat.reduceLeDiff, Nat.reduceLT, reduceCtorEq]
  refine W_count p.length (fun k e l H' n => e 7 = ints b p ∧ e 9 = .int .i64 k ∧ e 8 = .int .i64 p.length ∧ (∃ m, e 4 = .loc 4 m 0 ∧ l 4 = some (m, .agg [.int .i64 0, .nilSlice])) ∧
    ∃ m u, e 2 = .loc 2 m 0 ∧ l 2 = some (m, T.av u) ∧ u.walk (p.drop k) = some s) ?_ ?_ ?_
  · simp only [↓sd0, su0, su1, resOf, pack, eqCells, ↓reduceIte, Nat.reduceEqDiff, Nat.reduceAdd, Nat.reduceLeDiff, Nat.reduceLT, reduceCtorEq]; exact ⟨⟨_, rfl, rfl⟩, _, t, rfl, rfl, hw⟩
  · rintro k e l H' n hk ⟨h7, h9, h8, ⟨m4, h4, hl4⟩, m2, u, h2, hl2, hq⟩
    rw [walk_drop hk] at hq
    have hpk := hl p[k] (List.getElem_mem hk)
    by_cases c : 1 ≤ p[k] ∧ p[k] ≤ u.ks.length
    · obtain ⟨i, hi⟩ : ∃ i : Nat, p[k] = (i : Int) + 1 := ⟨(p[k] - 1).toNat, by omega⟩
      have hi2 : i < u.ks.length := by omega
      have hw2 : IntKind.i64.wrap (p[k] - 1) = (i : Int) := by rw [wrap64 (by omega) (by omega)]; omega
      rw [if_pos c, show (p[k] - 1).toNat = i by omega, List.getElem?_eq_getElem hi2] at hq
      simp only [↓sd0, su0, su1, resOf, pack, eqCells, ↓reduceIte, Nat.reduceEqDiff, Nat.reduceAdd, Nat.reduceLeDiff, Nat.reduceLT, reduceCtorEq, h7, h9, h8, h4, hl4, h2, hl2, iaddr_ints hk, lt_cast hk, hw2, iaddr_map hi2, wrap_succ hk (by omega : p.length < 4611686018427387904)]
      exact ⟨⟨_, rfl, rfl⟩, _, u.ks[i], rfl, rfl, hq⟩
    · rw [if_neg c] at hq; simp at hq
  · rintro e l H' n ⟨h7, h9, h8, ⟨m4, h4, hl4⟩, m2, u, h2, hl2, hq⟩
    rw [List.drop_length] at hq
    simp only [T.walk, Option.some.injEq] at hq
    subst hq
    simp only [↓sd0, su0, su1, resOf, pack, eqCells, ↓reduceIte, Nat.reduceEqDiff, Nat.reduceAdd, Nat.reduceLeDiff, Nat.reduceLT, reduceCtorEq, h7, h9, h8, h4, hl4, h2, hl2]

/-! ### copies of lists of numbers -/
theorem clone45 {wl nx : Nat} {H : Nat → Option Obj} {v : AV} {b : Bool} {es : List AV} (hb : isNilSlice v = some b) (hv : v.nol = true) (hel : ∀ H2, (∀ j, j < nx → H2 j = H j) → elemsV H2 1 v = some es) (hl : es.length < 1099511627776) :
    Call tab wl 45 [v] H nx fun r H' nx' => nx ≤ nx' ∧ (∀ j, j < nx → H' j = H j) ∧ ((b = true ∧ r = .nilSlice) ∨ (b = false ∧ ∃ id, nx ≤ id ∧ id < nx' ∧ r = .lref id 0 es.length ∧ H' id = some (.arr 1 es))) := by
  refine call_new tab_45 ?_
  unfold body45
  dsimp only [qm, qf, ql, qL, qs, qc, qk, qi, qn, qb, qB, qe, qx, qo, qg]
  simp only [start1]
  cases b with
  | true =>
    simp only [↓sd0, su0, su1, resOf, pack, eqCells, ↓reduceIte, Nat.reduceEqDiff, Nat.reduceAdd, Nat.reduceLeDiff, Nat.reduceLT, reduceCtorEq, hb]
    simp
  | false =>
    simp only [↓sd0, su0, su1, resOf, pack, eqCells, ↓reduceIte, Nat.reduceEqDiff, Nat.reduceAdd, Nat.reduceLeDiff, Nat.reduceLT, reduceCtorEq, hb, chop]
    have he := hel (upd H (nx + 3) (some (.arr 1 []))) (fun j hj => upd_other _ _ (by omega))
    simp only [he, ↓sd0, su0, su1, resOf, pack, eqCells, ↓reduceIte, Nat.reduceEqDiff, Nat.reduceAdd, Nat.reduceLeDiff, Nat.reduceLT, reduceCtorEq]
    simp only [appendV, upd_same, ↓sd0, su0, su1, resOf, pack, eqCells, ↓reduceIte, Nat.reduceEqDiff, Nat.reduceAdd, Nat.reduceLeDiff, Nat.reduceLT, reduceCtorEq]
    by_cases h0 : es.length ≤ 0
    · have : es = [] := List.length_eq_zero_iff.1 (by omega)
      subst this
      simp only [List.length_nil, ↓sd0, su0, su1, resOf, pack, eqCells, ↓reduceIte, Nat.reduceEqDiff, Nat.reduceAdd, Nat.reduceLeDiff, Nat.reduceLT, reduceCtorEq, Nat.zero_mul, Nat.zero_le]
      refine ⟨by intro j hj; rw [if_neg (by omega), if_neg (by omega)], Or.inr ⟨nx + 3, by omega, by omega, rfl, by simp⟩⟩
    · rw [if_pos (by omega), if_neg h0]
      simp only [↓sd0, su0, su1, resOf, pack, eqCells, ↓reduceIte, Nat.reduceEqDiff, Nat.reduceAdd, Nat.reduceLeDiff, Nat.reduceLT, reduceCtorEq]
      refine ⟨by intro j hj; rw [if_neg (by omega), if_neg (by omega), if_neg (by omega)], Or.inr ⟨nx + 5, by omega, by omega, rfl, by simp⟩⟩


/-! ### places -/
def pav (x : Bool × List Int) : AV := ints x.1 x.2
theorem pav_solid (x : Bool × List Int) : (pav x).solid = true := solid_ints _ _
theorem ints_false (p : List Int) (hp : p ≠ []) : ints false p = .slice 1 (p.map (AV.int .i64)) := rfl
theorem solids_ints (p : List Int) : AV.solids (p.map (AV.int .i64)) = true := solids_map (fun n => solid_int _ n) p
theorem froz45 {wl : Nat} {H : Nat → Option Obj} {p : List Int} {b : Bool} {r : AV} {nx nx' : Nat} (i : Int) (hp : p.length < 4294967296) (hw : wl ≤ nx) (h : (b = true ∧ r = .nilSlice ∧ p = []) ∨ (b = false ∧ ∃ id, nx ≤ id ∧ id < nx' ∧ r = .lref id 0 p.length ∧ H id = some (.arr 1 (p.map (AV.int .i64))))) :
    ∃ H', (∀ nid, appendV wl nid true 1 8 H [.int .i64 i] r = some (ints false (p ++ [i]), H')) ∧ ∀ j, j < nx → H' j = H j := by
  have hfold : (AV.slice 1 (p.map (AV.int .i64) ++ [.int .i64 i])) = ints false (p ++ [i]) := by simp [ints, Am.sl]
  rcases h with ⟨_, rfl, rfl⟩ | ⟨_, id, h1, h2, rfl, h3⟩
  · refine ⟨H, fun nid => ?_, fun _ _ => rfl⟩
    simp only [appendV, List.length_cons, List.length_nil]
    rw [if_neg (by decide), if_pos (by decide)]
    simp only [if_true]
    rw [if_pos (by simp [solids_cons, solids_nil, solid_int]), ← hfold]; rfl
  · refine ⟨upd H id none, fun nid => ?_, fun j hj => upd_other _ _ (by omega)⟩
    simp only [appendV]
    rw [if_pos (by omega), h3]
    simp only
    rw [if_pos ⟨trivial, by simp, by simp; omega⟩]
    simp only [if_true, List.drop_zero]
    rw [show List.take p.length (p.map (AV.int .i64)) = p.map (AV.int .i64) from List.take_of_length_le (by simp)]
    rw [if_pos (by rw [show p.map (AV.int .i64) ++ [AV.int .i64 i] = (p ++ [i]).map (AV.int .i64) by simp]; exact solids_ints _), hfold]

theorem places_spec (t : T) : ∀ (b : Bool) (p : List Int) (wl : Nat) (H : Nat → Option Obj) (nx : Nat), t.size < 1048576 → p.length + t.size < 4294967296 →
    Call tab wl 74 [t.av, ints b p] H nx fun r H' nx' => (∃ ps : List (Bool × List Int), r = sl 1 true (ps.map pav) ∧ ps.length ≤ t.size ∧ ∀ x ∈ ps, ∃ q, x.2 = p ++ q ∧ (t.walk q).isSome = true ∧ q.length < t.size ∧ ∀ s ∈ q, 1 ≤ s ∧ s ≤ 1048576) ∧ H' = H ∧ nx' = nx := by
  induction t using T.ind' with
  | h t ih =>
    intro b p wl H nx ht hpl
    have hs := t.size_eq
    have hl := T.length_le t.ks
    refine call_thaw tab_74 ?_
    unfold body74
    dsimp only [qm, qf, ql, qL, qs, qc, qk, qi, qn, qb, qB, qe, qx, qo, qg]
    simp only [start2]
    by_cases c : t.h < 0
    · simp only [↓sd0, su0, su1, resOf, pack, eqCells, ↓reduceIte, Nat.reduceEqDiff, Nat.reduceAdd, Nat.reduceLeDiff, Nat.reduceLT, reduceCtorEq, c]
      simp only [thaw_solid, ↓sd0, su0, su1, resOf, pack, eqCells, ↓reduceIte, Nat.reduceEqDiff, Nat.reduceAdd, Nat.reduceLeDiff, Nat.reduceLT, reduceCtorEq]
      exact ⟨[], rfl, by simp, by simp⟩
    · have q : decide (t.h < 0) = false := by simp; omega
      simp only [↓sd0, su0, su1, resOf, pack, eqCells, ↓reduceIte, Nat.reduceEqDiff, Nat.reduceAdd, Nat.reduceLeDiff, Nat.reduceLT, reduceCtorEq, q, chop_1]
      refine W_count t.ks.length (fun k e l H' n => e 14 = sl 2 t.nil (t.ks.map T.av) ∧ e 1 = ints b p ∧ e 16 = .int .i64 k ∧ e 15 = .int .i64 t.ks.length ∧ nx ≤ n ∧
        ∃ id, ∃ ps : List (Bool × List Int), e 5 = lv id ps.length ∧ ps.length ≤ 1 + T.sizes (t.ks.take k) ∧ Own H' nx n 1 id (ps.map pav) ∧ ∀ x ∈ ps, ∃ q, x.2 = p ++ q ∧ (t.walk q).isSome = true ∧ q.length < t.size ∧ ∀ s ∈ q, 1 ≤ s ∧ s ≤ 1048576) ?_ ?_ ?_
      · simp only [↓sd0, su0, su1, resOf, pack, eqCells, ↓reduceIte, Nat.reduceEqDiff, Nat.reduceAdd, Nat.reduceLeDiff, Nat.reduceLT, reduceCtorEq]
        refine ⟨_, [(b, p)], rfl, by simp, fun _ => ⟨?_, ?_, upd_same _ _ _⟩, ?_⟩
        · omega
        · omega
        · intro x hx
          simp at hx; subst hx
          exact ⟨[], by simp, rfl, by simp; omega, by simp⟩
      · rintro k e l H' n hk ⟨h14, h1, h16, h15, hn, id, ps, h5, hpsl, ho, hps⟩
        have hz := T.size_kid hk
        have hwk := wrap_succ hk (by omega)
        have hst := T.sizes_take t.ks k hk
        have hsl := T.sizes_le t.ks (k + 1)
        simp only [↓sd0, su0, su1, resOf, pack, eqCells, ↓reduceIte, Nat.reduceEqDiff, Nat.reduceAdd, Nat.reduceLeDiff, Nat.reduceLT, reduceCtorEq, dr0, Nat.reducePow, Nat.reduceDiv, Nat.reduceMod, Nat.reduceBEq, h14, h1, h16, h15, h5, iaddr_map hk, lt_cast hk]
        refine CallK_of (clone45 (b := decide (b = true ∧ p = [])) (es := p.map (AV.int .i64)) (by rw [ints, isNil_sl]; simp) (nol_ints _ _) (fun H2 _ => elemsV_sl _ _ _ _) (by simp; omega)) ?_
        rintro r H1 n1 ⟨hn1, hf1, hr⟩
        obtain ⟨H2, hfr, hf2⟩ := froz45 (wl := nx) (H := H1) (p := p) (b := decide (b = true ∧ p = [])) (r := r) (nx := n + 18) (nx' := n1) ((k + 1 : Nat) : Int) (by omega) (by omega) (by
          rcases hr with ⟨ha, hb⟩ | ⟨ha, id2, hb, hc, hd, he⟩
          · exact Or.inl ⟨ha, hb, (of_decide_eq_true ha).2⟩
          · exact Or.inr ⟨ha, id2, hb, hc, by simpa using hd, he⟩)
        have hnol : r.nol = true := by
          rcases hr with ⟨_, rfl⟩ | ⟨_, id2, _, _, rfl, _⟩
          · exact nol_nil
          · exact nol_lref _ _ _
        have hclash : ∃ h, (match (true, cellOf r) with | (true, HFp.none) => HFp.none | _ => HFp.write) = h := ⟨_, rfl⟩
        have hne : p ++ [((k + 1 : Nat) : Int)] ≠ [] := by simp
        simp only [↓sd0, su0, su1, resOf, pack, eqCells, ↓reduceIte, Nat.reduceEqDiff, Nat.reduceAdd, Nat.reduceLeDiff, Nat.reduceLT, reduceCtorEq, dr0, Nat.reducePow, Nat.reduceDiv, Nat.reduceMod, Nat.reduceBEq, h14, h1, h16, h15, h5, hwk, hfr, chop_1]
        refine CallK_of (ih t.ks[k] (List.getElem_mem hk) false (p ++ [((k + 1 : Nat) : Int)]) nx H2 _ (by omega) (by simp; omega)) ?_
        rintro r2 H3 n3 ⟨⟨ps2, rfl, hl2, hps2⟩, rfl, rfl⟩
        have ho2 : Own H3 nx n 1 id (ps.map pav) := fun hne' => by
          obtain ⟨a, b, c⟩ := ho hne'
          exact ⟨a, by omega, by rw [hf2 id (by omega), hf1 id (by omega)]; exact c⟩
        have hap := append_any (wl := nx) (bytes := 24) (ps2.map pav) ho2 (n := ps.length) (by simp) (Nat.le_refl _) (by rw [List.length_map]; omega)
        simp only [List.length_map] at hap
        simp only [↓sd0, su0, su1, resOf, pack, eqCells, ↓reduceIte, Nat.reduceEqDiff, Nat.reduceAdd, Nat.reduceLeDiff, Nat.reduceLT, reduceCtorEq, dr0, Nat.reducePow, Nat.reduceDiv, Nat.reduceMod, Nat.reduceBEq, h14, h1, h16, h15, h5, hwk, hap]
        refine ⟨by omega, _, ps ++ ps2, by rw [List.length_append], by rw [List.length_append]; omega, ?_, ?_⟩
        · rw [List.map_append]; exact (Own.any ho2 (by omega) (by omega)).mono (by omega)
        · intro x hx
          rcases List.mem_append.1 hx with h | h
          · exact hps x h
          · obtain ⟨q, h1, h2, h3, h4⟩ := hps2 x h
            refine ⟨((k + 1 : Nat) : Int) :: q, by rw [h1]; simp, ?_, by simp; omega, ?_⟩
            · rw [T.walk, if_pos (by omega), show (((k + 1 : Nat) : Int) - 1).toNat = k by omega, List.getElem?_eq_getElem hk]
              exact h2
            · intro s hs
              rcases List.mem_cons.1 hs with rfl | h
              · omega
              · exact h4 s h
      · rintro e l H' n ⟨h14, h1, h16, h15, hn, id, ps, h5, hpsl, ho, hps⟩
        rw [List.take_length] at hpsl
        obtain ⟨H'', hth⟩ := thaw_slice ho (n := ps.length) (by simp) (Nat.le_refl _) (solids_map pav_solid _)
        simp only [↓sd0, su0, su1, resOf, pack, eqCells, ↓reduceIte, Nat.reduceEqDiff, Nat.reduceAdd, Nat.reduceLeDiff, Nat.reduceLT, reduceCtorEq, h14, h1, h16, h15, h5, hth]
        exact ⟨ps, rfl, by omega, hps⟩


/-! ### patterns -/
theorem most_var {t : T} {m : Nat} (h : t.most ≤ m) : -(m : Int) ≤ t.h := by rw [T.most_eq] at h; omega
theorem onto_spec {m B : Nat} (hB : B < 1099511627776) (p : T) : ∀ (t : T) (ts : List T) (wl : Nat) (H : Nat → Option Obj) (nx bid : Nat), p.size < 1099511627776 → p.small → p.most ≤ m → t.size ≤ B → ts.length = m → (∀ s ∈ ts, s.size ≤ B) → wl ≤ bid → bid < nx → H bid = some (.arr 2 (ts.map T.av)) →
    Call tab wl 75 [p.av, t.av, .lref bid 0 m] H nx fun r H' nx' => (∃ b, r = .bool b) ∧ nx ≤ nx' ∧ ∃ ts' : List T, ts'.length = m ∧ (∀ s ∈ ts', s.size ≤ B) ∧ H' = upd H bid (some (.arr 2 (ts'.map T.av))) := by
  induction p using T.ind' with
  | h p ih =>
    intro t ts wl H nx bid hp hsm hmo ht hlen hts hwl hbid hH
    have hs := p.size_eq
    have hl := T.length_le p.ks
    have hh := T.small_h hsm
    have hm := p.most_eq
    have hself : upd H bid (some (.arr 2 (ts.map T.av))) = H := upd_self hH
    refine call_mut tab_75 ?_
    unfold body75
    dsimp only [qm, qf, ql, qL, qs, qc, qk, qi, qn, qb, qB, qe, qx, qo, qg]
    simp only [start3]
    by_cases c : p.h < 0
    · obtain ⟨i, hi⟩ : ∃ i : Nat, p.h = -((i : Int) + 1) := ⟨(-p.h - 1).toNat, by omega⟩
      have q : decide (p.h < 0) = true := by simp [c]
      have hw : IntKind.i64.wrap (IntKind.i64.wrap (0 - p.h) - 1) = (i : Int) := by rw [wrap64 (n := 0 - p.h) (by omega) (by omega), wrap64 (by omega) (by omega)]; omega
      have hi3 : i < m := by omega
      have hi2 : i < ts.length := by omega
      have hia := fun H (h : H bid = some (.arr 2 (ts.map T.av))) => iaddr_lref (H := H) (i := i) (n := m) h hi3
      have hget : (ts.map T.av)[i]? = some ts[i].av := by simp [hi2]
      have hsz := hts ts[i] (List.getElem_mem hi2)
      by_cases cz : ts[i].h = 0
      · have q2 : (ts[i].h != 0) = false := by simp [cz]
        have hset : (ts.map T.av).set i t.copy.av = (ts.set i t.copy).map T.av := by rw [List.map_set]
        simp only [↓sd0, su0, su1, resOf, pack, eqCells, ↓reduceIte, Nat.reduceEqDiff, Nat.reduceAdd, Nat.reduceLeDiff, Nat.reduceLT, reduceCtorEq, dr0, Nat.reducePow, Nat.reduceDiv, Nat.reduceMod, Nat.reduceBEq, q, hw, hia H hH, hH, hget, q2, (copy_spec t (by omega)).callK, hwl, hset]
        exact ⟨⟨_, rfl⟩, ts.set i t.copy, by simp [hlen], fun s hs => by
          rcases List.mem_or_eq_of_mem_set hs with h | h
          · exact hts s h
          · subst h; rw [copy_size]; exact ht, rfl⟩
      · have q2 : (ts[i].h != 0) = true := by simp [cz]
        simp only [↓sd0, su0, su1, resOf, pack, eqCells, ↓reduceIte, Nat.reduceEqDiff, Nat.reduceAdd, Nat.reduceLeDiff, Nat.reduceLT, reduceCtorEq, dr0, Nat.reducePow, Nat.reduceDiv, Nat.reduceMod, Nat.reduceBEq, q, hw, hia H hH, hH, hget, q2, (same_spec ts[i] t (by omega)).callK]
        exact ⟨⟨_, rfl⟩, ts, hlen, hts, hself.symm⟩
    · have q : decide (p.h < 0) = false := by simp; omega
      cases c2 : (p.h != t.h)
      · cases c3 : ((p.ks.length : Int) != (t.ks.length : Int))
        · have hpt : p.ks.length = t.ks.length := by simp at c3; omega
          simp only [↓sd0, su0, su1, resOf, pack, eqCells, ↓reduceIte, Nat.reduceEqDiff, Nat.reduceAdd, Nat.reduceLeDiff, Nat.reduceLT, reduceCtorEq, dr0, Nat.reducePow, Nat.reduceDiv, Nat.reduceMod, Nat.reduceBEq, q, c2, c3]
          refine W_count p.ks.length (fun k e l H' n => e 3 = .fptr p.av 0 ∧ e 4 = .fptr t.av 0 ∧ e 2 = .lref bid 0 m ∧ e 50 = .int .i64 k ∧ e 49 = .int .i64 p.ks.length ∧ nx ≤ n ∧
            ∃ ts' : List T, ts'.length = m ∧ (∀ s ∈ ts', s.size ≤ B) ∧ H' = upd H bid (some (.arr 2 (ts'.map T.av)))) ?_ ?_ ?_
          · simp only [↓sd0, su0, su1, resOf, pack, eqCells, ↓reduceIte, Nat.reduceEqDiff, Nat.reduceAdd, Nat.reduceLeDiff, Nat.reduceLT, reduceCtorEq]; exact ⟨ts, hlen, hts, hself.symm⟩
          · rintro k e l H' n hk ⟨h3, h4, h2, h50, h49, hn, ts', hl', hts', rfl⟩
            have hk2 : k < t.ks.length := by omega
            have hz := T.size_kid hk
            have hz2 := T.size_kid hk2
            have hts2 := t.size_eq
            have hmk := most_kid hk
            simp only [↓sd0, su0, su1, resOf, pack, eqCells, ↓reduceIte, Nat.reduceEqDiff, Nat.reduceAdd, Nat.reduceLeDiff, Nat.reduceLT, reduceCtorEq, dr0, Nat.reducePow, Nat.reduceDiv, Nat.reduceMod, Nat.reduceBEq, h3, h4, h2, h50, h49, iaddr_map hk, iaddr_map hk2, lt_cast hk]
            refine CallK_of (ih p.ks[k] (List.getElem_mem hk) t.ks[k] ts' wl _ _ bid (by omega) (T.smalls_get (T.small_ks hsm) hk) (by omega) (by omega) hl' hts' hwl (by omega) (upd_same _ _ _)) ?_
            rintro r H2 n2 ⟨⟨b, rfl⟩, hn2, ts2, hl2, hts2, rfl⟩
            cases b
            · simp only [↓sd0, su0, su1, resOf, pack, eqCells, ↓reduceIte, Nat.reduceEqDiff, Nat.reduceAdd, Nat.reduceLeDiff, Nat.reduceLT, reduceCtorEq, dr0, Nat.reducePow, Nat.reduceDiv, Nat.reduceMod, Nat.reduceBEq, h3, h4, h2, h50, h49, upd_upd]
              exact ⟨⟨_, rfl⟩, by omega, ts2, hl2, hts2, rfl⟩
            · simp only [↓sd0, su0, su1, resOf, pack, eqCells, ↓reduceIte, Nat.reduceEqDiff, Nat.reduceAdd, Nat.reduceLeDiff, Nat.reduceLT, reduceCtorEq, dr0, Nat.reducePow, Nat.reduceDiv, Nat.reduceMod, Nat.reduceBEq, h3, h4, h2, h50, h49, upd_upd, wrap_succ hk (by omega : p.ks.length < 4611686018427387904)]
              exact ⟨by omega, ts2, hl2, hts2, rfl⟩
          · rintro e l H' n ⟨h3, h4, h2, h50, h49, hn, ts', hl', hts', rfl⟩
            simp only [↓sd0, su0, su1, resOf, pack, eqCells, ↓reduceIte, Nat.reduceEqDiff, Nat.reduceAdd, Nat.reduceLeDiff, Nat.reduceLT, reduceCtorEq, dr0, Nat.reducePow, Nat.reduceDiv, Nat.reduceMod, Nat.reduceBEq, h3, h4, h2, h50, h49]
            exact ⟨⟨_, rfl⟩, by omega, ts', hl', hts', rfl⟩
        · simp only [↓sd0, su0, su1, resOf, pack, eqCells, ↓reduceIte, Nat.reduceEqDiff, Nat.reduceAdd, Nat.reduceLeDiff, Nat.reduceLT, reduceCtorEq, dr0, Nat.reducePow, Nat.reduceDiv, Nat.reduceMod, Nat.reduceBEq, q, c2, c3]
          exact ⟨⟨_, rfl⟩, ts, hlen, hts, hself.symm⟩
      · simp only [↓sd0, su0, su1, resOf, pack, eqCells, ↓reduceIte, Nat.reduceEqDiff, Nat.reduceAdd, Nat.reduceLeDiff, Nat.reduceLT, reduceCtorEq, dr0, Nat.reducePow, Nat.reduceDiv, Nat.reduceMod, Nat.reduceBEq, q, c2]
        exact ⟨⟨_, rfl⟩, ts, hlen, hts, hself.symm⟩

end Go.Proofs.Ytmbdccekcfeomaa.Am
end
/- Classes of variables: whether one stands in a tree. -/
section
open Go
namespace Go.Proofs.Ytmbdccekcfeomaa.Am
set_option linter.unusedSimpArgs false
set_option linter.unusedVariables false
set_option maxRecDepth 20000

mutual
def T.vt (m : Nat) : T → Prop
  | .mk h _ ks => (h ≠ 0 ∧ -(m : Int) ≤ h ∧ h < 1099511627776 ∧ (h < 0 → ks = [])) ∧ T.vts m ks
def T.vts (m : Nat) : List T → Prop
  | [] => True
  | k :: ks => k.vt m ∧ T.vts m ks
end
theorem T.vts_iff (m : Nat) (ks : List T) : T.vts m ks ↔ ∀ k ∈ ks, k.vt m := by
  induction ks with
  | nil => simp [T.vts]
  | cons k ks ih => simp [T.vts, ih]
theorem T.vt_iff (m : Nat) (t : T) : t.vt m ↔ (t.h ≠ 0 ∧ -(m : Int) ≤ t.h ∧ t.h < 1099511627776 ∧ (t.h < 0 → t.ks = [])) ∧ ∀ k ∈ t.ks, k.vt m := by
  cases t; rw [T.vt, T.vts_iff]; rfl
mutual
def T.vars : T → List Nat
  | .mk h _ ks => if h < 0 then [(-h - 1).toNat] else T.varss ks
def T.varss : List T → List Nat
  | [] => []
  | k :: ks => k.vars ++ T.varss ks
end
theorem T.mem_varss (ks : List T) (i : Nat) : i ∈ T.varss ks ↔ ∃ x ∈ ks, i ∈ x.vars := by
  induction ks with
  | nil => simp [T.varss]
  | cons k ks ih => simp [T.varss, ih]
theorem T.vars_neg {t : T} (h : t.h < 0) : t.vars = [(-t.h - 1).toNat] := by cases t; rw [T.vars]; exact if_pos h
theorem T.vars_pos {t : T} (h : ¬ t.h < 0) (i : Nat) : i ∈ t.vars ↔ ∃ x ∈ t.ks, i ∈ x.vars := by
  cases t with
  | mk g b ks =>
    have h' : ¬ g < 0 := h
    rw [T.vars, if_neg h']; exact T.mem_varss ks i

structure CL (m S : Nat) (ts : List T) : Prop where
  len : ts.length = m
  vt : ∀ s ∈ ts, s.h ≠ 0 → s.vt m
  size : ∀ s ∈ ts, s.size ≤ S
  acy : ∃ rk : Nat → Nat, ∀ i (h : i < ts.length), ts[i].h ≠ 0 → ∀ j ∈ ts[i].vars, rk j < rk i

def QS (ts : List T) (k : Nat) (ss : List Bool) (i : Nat) : Prop := ss[i]? = some true ∨ (i ≠ k ∧ ∀ h : i < ts.length, ts[i].h = 0)
def CS (ts : List T) (k : Nat) (ss ss' : List Bool) : Prop := ∀ j, ss'[j]? = some true → ss[j]? = some true ∨ (j ≠ k ∧ ∀ h : j < ts.length, ts[j].h ≠ 0 → ∀ i ∈ ts[j].vars, QS ts k ss' i)
def LeS (ss ss' : List Bool) : Prop := ∀ i : Nat, ss[i]? = some true → ss'[i]? = some true
theorem QS.mono {ts : List T} {k : Nat} {ss ss' : List Bool} {i : Nat} (h : QS ts k ss i) (hl : LeS ss ss') : QS ts k ss' i := by
  rcases h with h | h
  · exact Or.inl (hl i h)
  · exact Or.inr h
theorem CS.trans {ts : List T} {k : Nat} {a b c : List Bool} (h1 : CS ts k a b) (h2 : CS ts k b c) (hl : LeS b c) : CS ts k a c := by
  intro j hj
  rcases h2 j hj with h | h
  · rcases h1 j h with h | h
    · exact Or.inl h
    · exact Or.inr ⟨h.1, fun hlt hne i hi => (h.2 hlt hne i hi).mono hl⟩
  · exact Or.inr h
theorem count_set (ss : List Bool) (j : Nat) (h : ss[j]? = some false) : (ss.set j true).count false + 1 = ss.count false := by
  induction ss generalizing j with
  | nil => simp at h
  | cons s ss ih => cases j with
    | zero => simp at h; subst h; simp
    | succ j =>
      simp at h
      have := ih j h
      simp only [List.set_cons_succ, List.count_cons]
      omega

theorem within_spec {m S cid sid k wl : Nat} {ts : List T} (hC : CL m S ts) (hS : S < 1099511627776) (hm : m < 1099511627776) (hne : cid ≠ sid) (hwl : wl ≤ sid) (hk : k < m) : ∀ (u : Nat) (t : T) (ss : List Bool) (H : Nat → Option Obj) (nx : Nat), ss.count false ≤ u → t.vt m → t.size ≤ S → ss.length = m →
    H cid = some (.arr 2 (ts.map T.av)) → H sid = some (.arr 1 (ss.map AV.bool)) →
    Call tab wl 105 [.lref cid 0 m, .int .i64 k, t.av, .lref sid 0 m] H nx fun r H' nx' => ∃ b, ∃ ss' : List Bool, r = .bool b ∧ ss'.length = m ∧ H' = upd H sid (some (.arr 1 (ss'.map AV.bool))) ∧ nx ≤ nx' ∧ ss'.count false ≤ ss.count false ∧ LeS ss ss' ∧
      (b = false → (∀ i ∈ t.vars, QS ts k ss' i) ∧ CS ts k ss ss') := by
  intro u
  induction u using Nat.strongRecOn with
  | ind u ihu =>
    intro t
    induction t using T.ind' with
    | h t ih =>
      intro ss H nx hu hvt hsz hsl hHc hHs
      have hs := t.size_eq
      have hl := T.length_le t.ks
      obtain ⟨⟨hv0, hv1, hv2, hv3⟩, hvk⟩ := (T.vt_iff m t).1 hvt
      have hself : upd H sid (some (.arr 1 (ss.map AV.bool))) = H := upd_self hHs
      refine call_mut tab_105 ?_
      unfold body105
      dsimp only [qm, qf, ql, qL, qs, qc, qk, qi, qn, qb, qB, qe, qx, qo, qg]
      simp only [start4]
      by_cases c : t.h < 0
      · obtain ⟨j, hj⟩ : ∃ j : Nat, t.h = -((j : Int) + 1) := ⟨(-t.h - 1).toNat, by omega⟩
        have q : decide (t.h < 0) = true := by simp [c]
        have hw : IntKind.i64.wrap (IntKind.i64.wrap (0 - t.h) - 1) = (j : Int) := by rw [wrap64 (n := 0 - t.h) (by omega) (by omega), wrap64 (by omega) (by omega)]; omega
        have hjm : j < m := by omega
        have hjt : j < ts.length := by have := hC.len; omega
        have hjs : j < ss.length := by omega
        have hvars : t.vars = [j] := by rw [T.vars_neg c]; congr 1; omega
        have hia := fun H (h : H cid = some (.arr 2 (ts.map T.av))) => iaddr_lref (H := H) (i := j) (n := m) h hjm
        have his := fun H (h : H sid = some (.arr 1 (ss.map AV.bool))) => iaddr_lref (H := H) (i := j) (n := m) h hjm
        have hget : (ts.map T.av)[j]? = some ts[j].av := by simp [hjt]
        have hgets : (ss.map AV.bool)[j]? = some (.bool ss[j]) := by simp [hjs]
        by_cases c1 : j = k
        · have q1 : ((j : Int) == (k : Int)) = true := by simp [c1]
          simp only [↓sd0, su0, su1, resOf, pack, eqCells, ↓reduceIte, Nat.reduceEqDiff, Nat.reduceAdd, Nat.reduceLeDiff, Nat.reduceLT, reduceCtorEq, q, hw, q1]
          exact ⟨true, ss, rfl, hsl, hself.symm, by omega, fun i h => h, by simp⟩
        · have q1 : ((j : Int) == (k : Int)) = false := by simp; omega
          cases c2 : ss[j]
          · by_cases c3 : ts[j].h = 0
            · have q3 : (ts[j].h == 0) = true := by simp [c3]
              simp only [↓sd0, su0, su1, resOf, pack, eqCells, ↓reduceIte, Nat.reduceEqDiff, Nat.reduceAdd, Nat.reduceLeDiff, Nat.reduceLT, reduceCtorEq, q, hw, q1, his H hHs, hHs, hgets, c2, hia H hHc, hHc, hget, q3]
              refine ⟨false, ss, rfl, hsl, hself.symm, by omega, fun i h => h, fun _ => ⟨fun i hi => ?_, fun j h => Or.inl h⟩⟩
              rw [hvars] at hi; simp at hi; subst hi
              exact Or.inr ⟨c1, fun _ => c3⟩
            · have q3 : (ts[j].h == 0) = false := by simp [c3]
              have hset : (ss.map AV.bool).set j (.bool true) = (ss.set j true).map AV.bool := by rw [List.map_set]
              have hH1 : upd H sid (some (.arr 1 ((ss.set j true).map AV.bool))) cid = some (.arr 2 (ts.map T.av)) := by rw [upd_other _ _ hne]; exact hHc
              have hcs := count_set ss j (by rw [List.getElem?_eq_getElem hjs, c2])
              simp only [↓sd0, su0, su1, resOf, pack, eqCells, ↓reduceIte, Nat.reduceEqDiff, Nat.reduceAdd, Nat.reduceLeDiff, Nat.reduceLT, reduceCtorEq, q, hw, q1, his H hHs, hHs, hgets, c2, hia H hHc, hHc, hget, q3, hwl, hset, hia _ hH1, hH1, hne, hne.symm]
              refine CallK_of (ihu ((ss.set j true).count false) (by omega) ts[j] (ss.set j true) _ _ (Nat.le_refl _) (hC.vt _ (List.getElem_mem hjt) c3) (hC.size _ (List.getElem_mem hjt)) (by simpa using hsl) hH1 (upd_same _ _ _)) ?_
              rintro r H2 n2 ⟨b, ss', rfl, hl', rfl, hn, hc', hle, hQ⟩
              simp only [↓sd0, su0, su1, resOf, pack, eqCells, ↓reduceIte, Nat.reduceEqDiff, Nat.reduceAdd, Nat.reduceLeDiff, Nat.reduceLT, reduceCtorEq, upd_upd]
              have hle2 : LeS ss ss' := fun i hi => hle i (by
                by_cases hij : j = i
                · subst hij; simp [hjs]
                · rw [List.getElem?_set_ne hij]; exact hi)
              refine ⟨b, ss', rfl, hl', rfl, by omega, by omega, hle2, fun hb => ?_⟩
              obtain ⟨hq1, hq2⟩ := hQ hb
              have hjin : ss'[j]? = some true := hle j (by simp [hjs])
              refine ⟨fun i hi => ?_, fun i hi => ?_⟩
              · rw [hvars] at hi; simp at hi; subst hi; exact Or.inl hjin
              · rcases hq2 i hi with h | h
                · by_cases hij : j = i
                  · subst hij; exact Or.inr ⟨c1, fun _ _ => hq1⟩
                  · rw [List.getElem?_set_ne hij] at h; exact Or.inl h
                · exact Or.inr h
          · simp only [↓sd0, su0, su1, resOf, pack, eqCells, ↓reduceIte, Nat.reduceEqDiff, Nat.reduceAdd, Nat.reduceLeDiff, Nat.reduceLT, reduceCtorEq, q, hw, q1, his H hHs, hHs, hgets, c2]
            refine ⟨false, ss, rfl, hsl, hself.symm, by omega, fun i h => h, fun _ => ⟨fun i hi => ?_, fun j h => Or.inl h⟩⟩
            rw [hvars] at hi; simp at hi; subst hi
            exact Or.inl (by rw [List.getElem?_eq_getElem hjs, c2])
      · have q : decide (t.h < 0) = false := by simp; omega
        simp only [↓sd0, su0, su1, resOf, pack, eqCells, ↓reduceIte, Nat.reduceEqDiff, Nat.reduceAdd, Nat.reduceLeDiff, Nat.reduceLT, reduceCtorEq, q]
        refine W_count t.ks.length (fun i e l H' n => e 0 = .lref cid 0 m ∧ e 1 = .int .i64 k ∧ e 3 = .lref sid 0 m ∧ e 51 = sl 2 t.nil (t.ks.map T.av) ∧ e 53 = .int .i64 i ∧ e 52 = .int .i64 t.ks.length ∧ nx ≤ n ∧
          ∃ ss' : List Bool, ss'.length = m ∧ H' = upd H sid (some (.arr 1 (ss'.map AV.bool))) ∧ ss'.count false ≤ ss.count false ∧ LeS ss ss' ∧ (∀ x ∈ t.ks.take i, ∀ j ∈ x.vars, QS ts k ss' j) ∧ CS ts k ss ss') ?_ ?_ ?_
        · simp only [↓sd0, su0, su1, resOf, pack, eqCells, ↓reduceIte, Nat.reduceEqDiff, Nat.reduceAdd, Nat.reduceLeDiff, Nat.reduceLT, reduceCtorEq]
          exact ⟨ss, hsl, hself.symm, Nat.le_refl _, fun i h => h, by simp, fun j h => Or.inl h⟩
        · rintro i e l H' n hi ⟨h0, h1, h3, h51, h53, h52, hn, ss1, hl1, rfl, hc1, hle1, hq1, hcs1⟩
          have hz := T.size_kid hi
          simp only [↓sd0, su0, su1, resOf, pack, eqCells, ↓reduceIte, Nat.reduceEqDiff, Nat.reduceAdd, Nat.reduceLeDiff, Nat.reduceLT, reduceCtorEq, h0, h1, h3, h51, h53, h52, iaddr_map hi, lt_cast hi]
          refine CallK_of (ih t.ks[i] (List.getElem_mem hi) ss1 _ _ (by omega) (hvk _ (List.getElem_mem hi)) (by omega) hl1 (by rw [upd_other _ _ hne]; exact hHc) (upd_same _ _ _)) ?_
          rintro r H2 n2 ⟨b, ss', rfl, hl', rfl, hn2, hc', hle, hQ⟩
          have hle2 : LeS ss ss' := fun j hj => hle j (hle1 j hj)
          cases b
          · obtain ⟨hq2, hcs2⟩ := hQ rfl
            simp only [↓sd0, su0, su1, resOf, pack, eqCells, ↓reduceIte, Nat.reduceEqDiff, Nat.reduceAdd, Nat.reduceLeDiff, Nat.reduceLT, reduceCtorEq, h0, h1, h3, h51, h53, h52, upd_upd, wrap_succ hi (by omega : t.ks.length < 4611686018427387904)]
            refine ⟨by omega, ss', hl', rfl, by omega, hle2, ?_, hcs1.trans hcs2 hle⟩
            intro x hx j hj
            rw [take_one hi] at hx
            rcases List.mem_append.1 hx with h | h
            · exact (hq1 x h j hj).mono hle
            · simp at h; subst h; exact hq2 j hj
          · simp only [↓sd0, su0, su1, resOf, pack, eqCells, ↓reduceIte, Nat.reduceEqDiff, Nat.reduceAdd, Nat.reduceLeDiff, Nat.reduceLT, reduceCtorEq, h0, h1, h3, h51, h53, h52, upd_upd]
            exact ⟨true, ss', rfl, hl', rfl, by omega, by omega, hle2, by simp⟩
        · rintro e l H' n ⟨h0, h1, h3, h51, h53, h52, hn, ss1, hl1, rfl, hc1, hle1, hq1, hcs1⟩
          rw [List.take_length] at hq1
          simp only [↓sd0, su0, su1, resOf, pack, eqCells, ↓reduceIte, Nat.reduceEqDiff, Nat.reduceAdd, Nat.reduceLeDiff, Nat.reduceLT, reduceCtorEq, h0, h1, h3, h51, h53, h52]
          refine ⟨false, ss1, rfl, hl1, rfl, by omega, hc1, hle1, fun _ => ⟨fun i hi => ?_, hcs1⟩⟩
          obtain ⟨x, hx, hxi⟩ := (T.vars_pos c i).1 hi
          exact hq1 x hx i hxi

end Go.Proofs.Ytmbdccekcfeomaa.Am
end
