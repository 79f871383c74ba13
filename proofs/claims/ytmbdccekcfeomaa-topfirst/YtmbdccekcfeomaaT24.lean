/- What is wrong with a tree. -/
import Derived.Test.YtmbdccekcfeomaaT23
section
open Go
namespace Go.Proofs.Ytmbdccekcfeomaa.Am
set_option linter.unusedSimpArgs false
set_option linter.unusedVariables false

mutual
/-- A tree's nodes, counted from p on: what is wrong, and the last one. -/
def T.nd : T → Int → Int × Int
  | .mk h _ ks, p => if h = 0 ∨ h < -8 ∨ 12 < h then (3, p) else if 3 < ks.length ∨ (h < 0 ∧ 0 < ks.length) then (9, p) else T.nds ks p
def T.nds : List T → Int → Int × Int
  | [], p => (0, p)
  | k :: ks, p => if (T.nd k (p + 1)).1 = 0 then T.nds ks (T.nd k (p + 1)).2 else T.nd k (p + 1)
end
theorem T.nd_eq (t : T) (p : Int) : t.nd p = if t.h = 0 ∨ t.h < -8 ∨ 12 < t.h then (3, p) else if 3 < t.ks.length ∨ (t.h < 0 ∧ 0 < t.ks.length) then (9, p) else T.nds t.ks p := by
  cases t; rw [T.nd]; rfl
theorem T.nds_drop {ks : List T} {k : Nat} (h : k < ks.length) (p : Int) : T.nds (ks.drop k) p = if (ks[k].nd (p + 1)).1 = 0 then T.nds (ks.drop (k + 1)) (ks[k].nd (p + 1)).2 else ks[k].nd (p + 1) := by
  rw [List.drop_eq_getElem_cons h]; rfl
theorem T.nd_le (t : T) : ∀ p, p ≤ (t.nd p).2 ∧ (t.nd p).2 + 1 ≤ p + t.size := by
  induction t using T.ind' with
  | h t ih =>
    have key : ∀ p, p ≤ (T.nds t.ks p).2 ∧ (T.nds t.ks p).2 ≤ p + T.sizes t.ks := by
      generalize t.ks = ks at ih
      induction ks with
      | nil => intro p; simp [T.nds, T.sizes]
      | cons k ks ihk =>
        intro p
        have a := ih k (List.mem_cons_self ..) (p + 1)
        have b := ihk (fun x hx => ih x (List.mem_cons_of_mem _ hx)) (k.nd (p + 1)).2
        simp only [T.nds, T.sizes]
        split <;> omega
    intro p
    have := key p
    rw [T.nd_eq, T.size_eq]
    split
    · simp; omega
    · split
      · simp; omega
      · omega

def T.fn (t : T) (p : Int) : AV := if (t.nd p).1 = 0 then .tup [flt 0 0, .int .i64 ((t.nd p).2 + 1)] else .tup [flt (t.nd p).1 (t.nd p).2, .int .i64 (t.nd p).2]

theorem fnodes_spec (t : T) : ∀ p : Int, 0 ≤ p → p + t.size < 4611686018427387904 → Gives tab 85 [t.av, .int .i64 p] (t.fn p) := by
  induction t using T.ind' with
  | h t ih =>
    intro p hp0 hp
    have hs := t.size_eq
    have hl := T.length_le t.ks
    refine gives tab_85 fun H nx => ?_
    unfold body85
    dsimp only [qm, qf, ql, qL, qs, qc, qk, qi, qn, qb, qB, qe, qx, qo, qg]
    simp only [start2]
    unfold T.fn
    rw [T.nd_eq]
    by_cases c1 : t.h = 0 ∨ t.h < -8 ∨ 12 < t.h
    · rw [if_pos c1]
      have q : (t.h == 0 || decide (t.h < -8) || decide (t.h > 12)) = true := by simp; omega
      cases q1 : (t.h == 0) <;> cases q2 : decide (t.h < -8) <;> cases q3 : decide (t.h > 12) <;> simp [q1, q2, q3] at q
      all_goals simp only [↓sd0, su0, su1, resOf, pack, eqCells, ↓reduceIte, Nat.reduceEqDiff, Nat.reduceAdd, Nat.reduceLeDiff, Nat.reduceLT, reduceCtorEq, q1, q2, q3, (fault_27 3 p).callK, flt]
      all_goals simp [solids_cons, solid_agg, solid_int, solids_nil]
    · rw [if_neg c1]
      have q1 : (t.h == 0) = false := by simp; omega
      have q2 : decide (t.h < -8) = false := by simp; omega
      have q3 : decide (t.h > 12) = false := by simp; omega
      by_cases c2 : 3 < t.ks.length ∨ (t.h < 0 ∧ 0 < t.ks.length)
      · rw [if_pos c2]
        have q : (decide ((t.ks.length : Int) > 3) || decide (t.h < 0) && decide ((t.ks.length : Int) > 0)) = true := by simp; omega
        cases q4 : decide ((t.ks.length : Int) > 3) <;> cases q5 : decide (t.h < 0) <;> cases q6 : decide ((t.ks.length : Int) > 0) <;> simp [q4, q5, q6] at q <;> (try (exfalso; have z := of_decide_eq_false q6; omega))
        all_goals simp only [↓sd0, su0, su1, resOf, pack, eqCells, ↓reduceIte, Nat.reduceEqDiff, Nat.reduceAdd, Nat.reduceLeDiff, Nat.reduceLT, reduceCtorEq, q1, q2, q3, q4, q5, q6, (fault_27 9 p).callK, flt]
        all_goals simp [solids_cons, solid_agg, solid_int, solids_nil]
      · rw [if_neg c2]
        have q4 : decide ((t.ks.length : Int) > 3) = false := by simp; omega
        have loop : ∀ (σ : St), σ.env 2 = .fptr t.av 0 → σ.env 1 = .int .i64 (p + 1) → True := by intros; trivial
        have fin : (p + 1) + (T.sizes (t.ks.drop 0)) ≤ p + t.size := by simp; omega
        cases q5 : decide (t.h < 0) <;> cases q6 : decide ((t.ks.length : Int) > 0) <;> (try (exfalso; have z5 := of_decide_eq_true q5; have z6 := of_decide_eq_true q6; omega))
        all_goals
          simp only [↓sd0, su0, su1, resOf, pack, eqCells, ↓reduceIte, Nat.reduceEqDiff, Nat.reduceAdd, Nat.reduceLeDiff, Nat.reduceLT, reduceCtorEq, q1, q2, q3, q4, q5, q6]
          rw [wrap64 (by omega) (by omega)]
          refine W_count t.ks.length (fun k e l H n => e 2 = .fptr t.av 0 ∧ e 6 = .int .i64 k ∧ (∃ m, e 4 = .loc 4 m 0 ∧ l 4 = some (m, .agg [.int .i64 0, .int .i64 0])) ∧ ∃ q : Int, p ≤ q ∧ q + T.sizes (t.ks.drop k) ≤ p + T.sizes t.ks ∧ e 1 = .int .i64 (q + 1) ∧ T.nds t.ks p = T.nds (t.ks.drop k) q) ?_ ?_ ?_
          · simp only [↓sd0, su0, su1, resOf, pack, eqCells, ↓reduceIte, Nat.reduceEqDiff, Nat.reduceAdd, Nat.reduceLeDiff, Nat.reduceLT, reduceCtorEq]; exact ⟨⟨_, rfl, rfl⟩, p, by omega, by omega, rfl, rfl⟩
          · rintro k e l H n hk ⟨h2, h6, ⟨m, h4, hl4⟩, q, hq0, hq1, h1, hq⟩
            have hz := T.size_kid hk
            have ih' := (ih t.ks[k] (List.getElem_mem hk) (q + 1) (by omega) (by rw [T.sizes_drop hk] at hq1; omega))
            have hle := T.nd_le t.ks[k] (q + 1)
            rw [T.nds_drop hk] at hq
            rw [T.sizes_drop hk] at hq1
            rw [hq]
            unfold T.fn at ih'
            by_cases cz : (t.ks[k].nd (q + 1)).1 = 0
            · rw [if_pos cz] at ih'
              simp only [↓sd0, su0, su1, resOf, pack, eqCells, ↓reduceIte, Nat.reduceEqDiff, Nat.reduceAdd, Nat.reduceLeDiff, Nat.reduceLT, reduceCtorEq, h1, h2, h4, h6, hl4, iaddr_map hk, lt_cast hk, ih'.callK, wrap_succ hk (by omega : t.ks.length < 4611686018427387904), flt]
              exact ⟨⟨_, rfl, rfl⟩, _, by omega, by omega, rfl, by rw [← hq, hq, if_pos cz]⟩
            · rw [if_neg cz] at ih'
              have cz' : ((t.ks[k].nd (q + 1)).1 != 0) = true := by simp [cz]
              simp only [↓sd0, su0, su1, resOf, pack, eqCells, ↓reduceIte, Nat.reduceEqDiff, Nat.reduceAdd, Nat.reduceLeDiff, Nat.reduceLT, reduceCtorEq, h1, h2, h4, h6, hl4, iaddr_map hk, lt_cast hk, ih'.callK, wrap_succ hk (by omega : t.ks.length < 4611686018427387904), flt, cz', cz]
          · rintro e l H n ⟨h2, h6, ⟨m, h4, hl4⟩, q, hq0, hq1, h1, hq⟩
            simp [T.nds] at hq
            simp only [↓sd0, su0, su1, resOf, pack, eqCells, ↓reduceIte, Nat.reduceEqDiff, Nat.reduceAdd, Nat.reduceLeDiff, Nat.reduceLT, reduceCtorEq, h1, h2, h4, h6, hl4, hq, flt]


theorem node_spec (t : T) : ∀ (p : Int) (wl : Nat) (H : Nat → Option Obj) (nx id : Nat), 0 ≤ p → p + t.size < 4611686018427387904 → wl ≤ id → id < nx → H id = some (.arr 1 [.int .i64 p]) →
    Call tab wl 59 [t.av, .ptr id 0 0] H nx fun r H' nx' => r = .tup [.int .i64 (t.nd p).1, .bool (decide ((t.nd p).1 = 0))] ∧ H' = upd H id (some (.arr 1 [.int .i64 (t.nd p).2])) ∧ nx ≤ nx' := by
  induction t using T.ind' with
  | h t ih =>
    intro p wl H nx id hp0 hp hw hid hH
    have hs := t.size_eq
    have hl := T.length_le t.ks
    refine call_mut tab_59 ?_
    unfold body59
    dsimp only [qm, qf, ql, qL, qs, qc, qk, qi, qn, qb, qB, qe, qx, qo, qg]
    simp only [start2]
    rw [T.nd_eq]
    by_cases c1 : t.h = 0 ∨ t.h < -8 ∨ 12 < t.h
    · rw [if_pos c1]
      cases q1 : (t.h == 0)
      · have q2 : decide (-8 ≤ t.h ∧ t.h ≤ 12) = false := by simp at q1; simp; omega
        simp only [↓sd0, su0, su1, resOf, pack, eqCells, ↓reduceIte, Nat.reduceEqDiff, Nat.reduceAdd, Nat.reduceLeDiff, Nat.reduceLT, reduceCtorEq, q1, (in_17 _ _ _).callK, q2]
        simp [upd_self hH]
      · simp only [↓sd0, su0, su1, resOf, pack, eqCells, ↓reduceIte, Nat.reduceEqDiff, Nat.reduceAdd, Nat.reduceLeDiff, Nat.reduceLT, reduceCtorEq, q1]
        simp [upd_self hH]
    · rw [if_neg c1]
      have q1 : (t.h == 0) = false := by simp; omega
      have q2 : decide (-8 ≤ t.h ∧ t.h ≤ 12) = true := by simp; omega
      by_cases c2 : 3 < t.ks.length ∨ (t.h < 0 ∧ 0 < t.ks.length)
      · rw [if_pos c2]
        have q : (decide ((t.ks.length : Int) > 3) || decide (t.h < 0) && decide ((t.ks.length : Int) > 0)) = true := by simp; omega
        cases q4 : decide ((t.ks.length : Int) > 3) <;> cases q5 : decide (t.h < 0) <;> cases q6 : decide ((t.ks.length : Int) > 0) <;> simp [q4, q5, q6] at q <;> (try (exfalso; have z := of_decide_eq_false q6; omega))
        all_goals simp only [↓sd0, su0, su1, resOf, pack, eqCells, ↓reduceIte, Nat.reduceEqDiff, Nat.reduceAdd, Nat.reduceLeDiff, Nat.reduceLT, reduceCtorEq, q1, q2, q4, q5, q6, (in_17 _ _ _).callK]
        all_goals simp [upd_self hH]
        all_goals omega
      · rw [if_neg c2]
        have q4 : decide ((t.ks.length : Int) > 3) = false := by simp; omega
        cases q5 : decide (t.h < 0) <;> cases q6 : decide ((t.ks.length : Int) > 0) <;> (try (exfalso; have z5 := of_decide_eq_true q5; have z6 := of_decide_eq_true q6; omega))
        all_goals
          simp only [↓sd0, su0, su1, resOf, pack, eqCells, ↓reduceIte, Nat.reduceEqDiff, Nat.reduceAdd, Nat.reduceLeDiff, Nat.reduceLT, reduceCtorEq, q1, q2, q4, q5, q6, (in_17 _ _ _).callK]
          refine W_count t.ks.length (fun k e l H' n => e 37 = sl 2 t.nil (t.ks.map T.av) ∧ e 1 = .ptr id 0 0 ∧ e 39 = .int .i64 k ∧ e 38 = .int .i64 t.ks.length ∧ nx ≤ n ∧ ∃ q : Int, p ≤ q ∧ q + T.sizes (t.ks.drop k) ≤ p + T.sizes t.ks ∧ H' = upd H id (some (.arr 1 [.int .i64 q])) ∧ T.nds t.ks p = T.nds (t.ks.drop k) q) ?_ ?_ ?_
          · simp only [↓sd0, su0, su1, resOf, pack, eqCells, ↓reduceIte, Nat.reduceEqDiff, Nat.reduceAdd, Nat.reduceLeDiff, Nat.reduceLT, reduceCtorEq]; exact ⟨p, by omega, by omega, (upd_self hH).symm, rfl⟩
          · rintro k e l H' n hk ⟨h37, h1, h39, h38, hn, q, hq0, hq1, rfl, hq⟩
            have hz := T.size_kid hk
            have hle := T.nd_le t.ks[k] (q + 1)
            rw [T.nds_drop hk] at hq
            rw [T.sizes_drop hk] at hq1
            have hwr : IntKind.i64.wrap (q + 1) = q + 1 := wrap64 (by omega) (by omega)
            simp only [↓sd0, su0, su1, resOf, pack, eqCells, ↓reduceIte, Nat.reduceEqDiff, Nat.reduceAdd, Nat.reduceLeDiff, Nat.reduceLT, reduceCtorEq, h1, h37, h38, h39, iaddr_map hk, lt_cast hk, upd_same, hw, hwr, List.set_cons_zero, upd_upd]
            refine CallK_of (ih t.ks[k] (List.getElem_mem hk) (q + 1) wl _ _ id (by omega) (by omega) hw (by omega) (upd_same _ _ _)) ?_
            rintro r H'' n' ⟨rfl, rfl, hn'⟩
            rw [hq]
            by_cases cz : (t.ks[k].nd (q + 1)).1 = 0
            · simp only [↓sd0, su0, su1, resOf, pack, eqCells, ↓reduceIte, Nat.reduceEqDiff, Nat.reduceAdd, Nat.reduceLeDiff, Nat.reduceLT, reduceCtorEq, h1, h37, h38, h39, cz, upd_upd, wrap_succ hk (by omega : t.ks.length < 4611686018427387904)]
              exact ⟨by omega, _, by omega, by omega, rfl, rfl⟩
            · simp only [↓sd0, su0, su1, resOf, pack, eqCells, ↓reduceIte, Nat.reduceEqDiff, Nat.reduceAdd, Nat.reduceLeDiff, Nat.reduceLT, reduceCtorEq, h1, h37, h38, h39, cz, upd_upd]
              omega
          · rintro e l H' n ⟨h37, h1, h39, h38, hn, q, hq0, hq1, rfl, hq⟩
            simp [T.nds] at hq
            simp only [↓sd0, su0, su1, resOf, pack, eqCells, ↓reduceIte, Nat.reduceEqDiff, Nat.reduceAdd, Nat.reduceLeDiff, Nat.reduceLT, reduceCtorEq, h37, h38, h39, hq]
            omega

/-- What is wrong with a tree: a code, where. -/
def T.bad (t : T) : Int × Int := if 40 < t.size then (2, 0) else if 12 < t.deep then (10, 0) else if (t.nd 0).1 = 0 then (0, 0) else t.nd 0

theorem ftree_spec (t : T) (ht : t.size < 4611686018427387904) : Gives tab 53 [t.av] (flt t.bad.1 t.bad.2) := by
  refine gives tab_53 fun H nx => ?_
  unfold body53 T.bad
  dsimp only [qm, qf, ql, qL, qs, qc, qk, qi, qn, qb, qB, qe, qx, qo, qg]
  simp only [start1]
  by_cases c1 : 40 < t.size
  · have q : decide ((t.size : Int) > 40) = true := by simp; omega
    simp only [↓sd0, su0, su1, resOf, pack, eqCells, ↓reduceIte, Nat.reduceEqDiff, Nat.reduceAdd, Nat.reduceLeDiff, Nat.reduceLT, reduceCtorEq, (fsize_spec t ht).callK, q, (fault_27 _ _).callK, flt, c1]
  · have q : decide ((t.size : Int) > 40) = false := by simp; omega
    by_cases c2 : 12 < t.deep
    · have q2 : decide ((t.deep : Int) > 12) = true := by simp; omega
      simp only [↓sd0, su0, su1, resOf, pack, eqCells, ↓reduceIte, Nat.reduceEqDiff, Nat.reduceAdd, Nat.reduceLeDiff, Nat.reduceLT, reduceCtorEq, (fsize_spec t ht).callK, (fdeep_spec t ht).callK, q, q2, (fault_27 _ _).callK, flt, c1, c2]
    · have q2 : decide ((t.deep : Int) > 12) = false := by simp; omega
      have hn := fnodes_spec t 0 (by omega) (by omega)
      unfold T.fn at hn
      by_cases c3 : (t.nd 0).1 = 0
      · rw [if_pos c3] at hn
        simp only [↓sd0, su0, su1, resOf, pack, eqCells, ↓reduceIte, Nat.reduceEqDiff, Nat.reduceAdd, Nat.reduceLeDiff, Nat.reduceLT, reduceCtorEq, (fsize_spec t ht).callK, (fdeep_spec t ht).callK, q, q2, hn.callK, flt, c1, c2, c3]
      · rw [if_neg c3] at hn
        simp only [↓sd0, su0, su1, resOf, pack, eqCells, ↓reduceIte, Nat.reduceEqDiff, Nat.reduceAdd, Nat.reduceLeDiff, Nat.reduceLT, reduceCtorEq, (fsize_spec t ht).callK, (fdeep_spec t ht).callK, q, q2, hn.callK, flt, c1, c2, c3]

theorem tcheck_spec (t : T) (ht : t.size < 4611686018427387904) : Gives tab 38 [t.av] (flt t.bad.1 t.bad.2) := by
  refine gives tab_38 fun H nx => ?_
  unfold body38 T.bad
  dsimp only [qm, qf, ql, qL, qs, qc, qk, qi, qn, qb, qB, qe, qx, qo, qg]
  simp only [start1]
  by_cases c1 : 40 < t.size
  · have q : decide ((t.size : Int) > 40) = true := by simp; omega
    simp only [↓sd0, su0, su1, resOf, pack, eqCells, ↓reduceIte, Nat.reduceEqDiff, Nat.reduceAdd, Nat.reduceLeDiff, Nat.reduceLT, reduceCtorEq, (size_spec t ht).callK, q, (fault_18 _ _).callK, flt, c1]
  · have q : decide ((t.size : Int) > 40) = false := by simp; omega
    by_cases c2 : 12 < t.deep
    · have q2 : decide ((t.deep : Int) > 12) = true := by simp; omega
      simp only [↓sd0, su0, su1, resOf, pack, eqCells, ↓reduceIte, Nat.reduceEqDiff, Nat.reduceAdd, Nat.reduceLeDiff, Nat.reduceLT, reduceCtorEq, (size_spec t ht).callK, (deep_spec t ht).callK, q, q2, (fault_18 _ _).callK, flt, c1, c2]
    · have q2 : decide ((t.deep : Int) > 12) = false := by simp; omega
      simp only [↓sd0, su0, su1, resOf, pack, eqCells, ↓reduceIte, Nat.reduceEqDiff, Nat.reduceAdd, Nat.reduceLeDiff, Nat.reduceLT, reduceCtorEq, (size_spec t ht).callK, (deep_spec t ht).callK, q, q2, List.set_cons_zero, upd_upd]
      refine CallK_of (node_spec t 0 _ _ _ _ (by omega) (by omega) ?_ ?_ (upd_same _ _ _)) ?_
      · omega
      · omega
      · rintro r H' n' ⟨rfl, rfl, hn⟩
        by_cases c3 : (t.nd 0).1 = 0
        · simp only [↓sd0, su0, su1, resOf, pack, eqCells, ↓reduceIte, Nat.reduceEqDiff, Nat.reduceAdd, Nat.reduceLeDiff, Nat.reduceLT, reduceCtorEq, c3, c1, c2, flt]
        · simp only [↓sd0, su0, su1, resOf, pack, eqCells, ↓reduceIte, Nat.reduceEqDiff, Nat.reduceAdd, Nat.reduceLeDiff, Nat.reduceLT, reduceCtorEq, c3, c1, c2, upd_upd, (fault_18 _ _).callK, flt]

/-! ### signs -/
def arAt (ar : List Int) (h : Int) : Int := (ar[(h - 1).toNat]?).getD 0
mutual
def T.sg (ar : List Int) : T → Int
  | .mk h _ ks => if 0 < h then (if (ar.length : Int) < h then 12 else if (ks.length : Int) ≠ arAt ar h then 9 else T.sgs ar ks) else T.sgs ar ks
def T.sgs (ar : List Int) : List T → Int
  | [] => 0
  | k :: ks => if T.sg ar k = 0 then T.sgs ar ks else T.sg ar k
end
theorem T.sg_eq (ar : List Int) (t : T) : t.sg ar = if 0 < t.h then (if (ar.length : Int) < t.h then 12 else if (t.ks.length : Int) ≠ arAt ar t.h then 9 else T.sgs ar t.ks) else T.sgs ar t.ks := by
  cases t; rw [T.sg]; rfl
theorem T.sgs_drop {ar : List Int} {ks : List T} {k : Nat} (h : k < ks.length) : T.sgs ar (ks.drop k) = if ks[k].sg ar = 0 then T.sgs ar (ks.drop (k + 1)) else ks[k].sg ar := by
  rw [List.drop_eq_getElem_cons h]; rfl

theorem signs_spec (t : T) (b : Bool) (ar : List Int) (har : ar.length < 4611686018427387904) : t.size < 4611686018427387904 → Gives tab 39 [t.av, ints b ar] (.int .i64 (t.sg ar)) := by
  induction t using T.ind' with
  | h t ih =>
    intro ht
    have hs := t.size_eq
    have hl := T.length_le t.ks
    refine gives tab_39 fun H nx => ?_
    unfold body39
    dsimp only [qm, qf, ql, qL, qs, qc, qk, qi, qn, qb, qB, qe, qx, qo, qg]
    simp only [start2]
    refine W_cut (fun e l H n => e 2 = .fptr t.av 0 ∧ e 1 = ints b ar) ?_ ?_
    · simp only [↓sd0, su0, su1, resOf, pack, eqCells, ↓reduceIte, Nat.reduceEqDiff, Nat.reduceAdd, Nat.reduceLeDiff, Nat.reduceLT, reduceCtorEq]
    rintro e l H n ⟨h2, h1⟩
    refine W_cut (fun e l H n => e 2 = .fptr t.av 0 ∧ e 1 = ints b ar ∧ t.sg ar = T.sgs ar t.ks) ?_ ?_
    · rw [T.sg_eq]
      by_cases c1 : 0 < t.h
      · have q1 : decide (t.h > 0) = true := by simp; omega
        by_cases c2 : (ar.length : Int) < t.h
        · have q2 : decide (t.h > (ar.length : Int)) = true := by simp; omega
          simp only [↓sd0, su0, su1, resOf, pack, eqCells, ↓reduceIte, Nat.reduceEqDiff, Nat.reduceAdd, Nat.reduceLeDiff, Nat.reduceLT, reduceCtorEq, h1, h2, q1, q2, c1, c2]
        · have q2 : decide (t.h > (ar.length : Int)) = false := by simp; omega
          obtain ⟨m, hm⟩ : ∃ m : Nat, t.h = ((m + 1 : Nat) : Int) := ⟨(t.h - 1).toNat, by omega⟩
          have hm2 : m < ar.length := by omega
          have hwr : IntKind.i64.wrap (((m + 1 : Nat) : Int) - 1) = (m : Int) := by rw [wrap64 (by omega) (by omega)]; omega
          have har2 : arAt ar ((m + 1 : Nat) : Int) = ar[m] := by unfold arAt; rw [show (((m + 1 : Nat) : Int) - 1).toNat = m by omega]; simp [hm2]
          rw [hm] at q1 q2 c1 c2 ⊢
          rw [har2]
          by_cases c3 : (t.ks.length : Int) = ar[m]
          · have q3 : ((t.ks.length : Int) != ar[m]) = false := by simp [c3]
            simp only [↓sd0, su0, su1, resOf, pack, eqCells, ↓reduceIte, Nat.reduceEqDiff, Nat.reduceAdd, Nat.reduceLeDiff, Nat.reduceLT, reduceCtorEq, dr0, Nat.reducePow, Nat.reduceDiv, Nat.reduceMod, Nat.reduceBEq, h1, h2, hm, q1, q2, c1, c2, hwr, iaddr_ints hm2, q3]
            simp [c3]
          · have q3 : ((t.ks.length : Int) != ar[m]) = true := by simp [c3]
            simp only [↓sd0, su0, su1, resOf, pack, eqCells, ↓reduceIte, Nat.reduceEqDiff, Nat.reduceAdd, Nat.reduceLeDiff, Nat.reduceLT, reduceCtorEq, dr0, Nat.reducePow, Nat.reduceDiv, Nat.reduceMod, Nat.reduceBEq, h1, h2, hm, q1, q2, c1, c2, hwr, iaddr_ints hm2, q3]
            simp [c3]
      · have q1 : decide (t.h > 0) = false := by simp; omega
        simp only [↓sd0, su0, su1, resOf, pack, eqCells, ↓reduceIte, Nat.reduceEqDiff, Nat.reduceAdd, Nat.reduceLeDiff, Nat.reduceLT, reduceCtorEq, h1, h2, q1, c1]
    rintro e l H n ⟨h2, h1, hsg⟩
    rw [hsg]
    simp only [↓sd0, su0, su1, resOf, pack, eqCells, ↓reduceIte, Nat.reduceEqDiff, Nat.reduceAdd, Nat.reduceLeDiff, Nat.reduceLT, reduceCtorEq, h2, h1]
    refine W_count t.ks.length (fun k e l H' n => e 27 = sl 2 t.nil (t.ks.map T.av) ∧ e 1 = ints b ar ∧ e 29 = .int .i64 k ∧ e 28 = .int .i64 t.ks.length ∧ T.sgs ar t.ks = T.sgs ar (t.ks.drop k)) ?_ ?_ ?_
    · simp only [↓sd0, su0, su1, resOf, pack, eqCells, ↓reduceIte, Nat.reduceEqDiff, Nat.reduceAdd, Nat.reduceLeDiff, Nat.reduceLT, reduceCtorEq, h1]
    · rintro k e l H' n hk ⟨h27, h1, h29, h28, hq⟩
      have hz := T.size_kid hk
      rw [T.sgs_drop hk] at hq
      rw [hq]
      by_cases cz : t.ks[k].sg ar = 0
      · simp only [↓sd0, su0, su1, resOf, pack, eqCells, ↓reduceIte, Nat.reduceEqDiff, Nat.reduceAdd, Nat.reduceLeDiff, Nat.reduceLT, reduceCtorEq, h1, h27, h28, h29, iaddr_map hk, lt_cast hk, (ih t.ks[k] (List.getElem_mem hk) (by omega)).callK, cz, bne_self_eq_false, wrap_succ hk (by omega : t.ks.length < 4611686018427387904)]
      · have cz' : (t.ks[k].sg ar != 0) = true := by simp [cz]
        simp only [↓sd0, su0, su1, resOf, pack, eqCells, ↓reduceIte, Nat.reduceEqDiff, Nat.reduceAdd, Nat.reduceLeDiff, Nat.reduceLT, reduceCtorEq, h1, h27, h28, h29, iaddr_map hk, lt_cast hk, (ih t.ks[k] (List.getElem_mem hk) (by omega)).callK, cz, cz', wrap_succ hk (by omega : t.ks.length < 4611686018427387904)]
    · rintro e l H' n ⟨h27, h1, h29, h28, hq⟩
      simp [T.sgs] at hq
      simp only [↓sd0, su0, su1, resOf, pack, eqCells, ↓reduceIte, Nat.reduceEqDiff, Nat.reduceAdd, Nat.reduceLeDiff, Nat.reduceLT, reduceCtorEq, h27, h28, h29, hq]

end Go.Proofs.Ytmbdccekcfeomaa.Am
end
/- Trees that are the same, copies, what stands for variables. -/
section
open Go
namespace Go.Proofs.Ytmbdccekcfeomaa.Am
set_option linter.unusedSimpArgs false
set_option linter.unusedVariables false

/-! ### the same -/
mutual
def T.same : T → T → Bool
  | .mk h _ ks, t => h == t.h && T.sames ks t.ks
def T.sames : List T → List T → Bool
  | [], [] => true
  | a :: as, b :: bs => T.same a b && T.sames as bs
  | _, _ => false
end
theorem T.same_eq (a b : T) : a.same b = (a.h == b.h && T.sames a.ks b.ks) := by cases a; rw [T.same]; rfl
theorem T.sames_length {as bs : List T} (h : T.sames as bs = true) : as.length = bs.length := by
  induction as generalizing bs with
  | nil => cases bs with
    | nil => rfl
    | cons b bs => simp [T.sames] at h
  | cons a as ih => cases bs with
    | nil => simp [T.sames] at h
    | cons b bs => simp only [T.sames, Bool.and_eq_true] at h; simp [ih h.2]
theorem T.sames_drop {as bs : List T} {k : Nat} (h : k < as.length) (h2 : k < bs.length) : T.sames (as.drop k) (bs.drop k) = (as[k].same bs[k] && T.sames (as.drop (k + 1)) (bs.drop (k + 1))) := by
  rw [List.drop_eq_getElem_cons h, List.drop_eq_getElem_cons h2]; rfl

theorem equals_spec (as bs : List T) (b1 b2 : Bool) (hl : as.length < 4611686018427387904) (ih : ∀ a ∈ as, ∀ b, Gives tab 72 [a.av, b.av] (.bool (a.same b))) :
    Gives tab 92 [sl 2 b1 (as.map T.av), sl 2 b2 (bs.map T.av), .clo 72 []] (.bool (T.sames as bs)) := by
  refine gives tab_92 fun H nx => ?_
  unfold body92
  dsimp only [qm, qf, ql, qL, qs, qc, qk, qi, qn, qb, qB, qe, qx, qo, qg]
  simp only [start3]
  by_cases c : as.length = bs.length
  · have q : ((as.length : Int) != (bs.length : Int)) = false := by simp [c]
    simp only [↓sd0, su0, su1, resOf, pack, eqCells, ↓reduceIte, Nat.reduceEqDiff, Nat.reduceAdd, Nat.reduceLeDiff, Nat.reduceLT, reduceCtorEq, q]
    refine W_count as.length (fun k e l H' n => e 15 = sl 2 b1 (as.map T.av) ∧ e 1 = sl 2 b2 (bs.map T.av) ∧ e 2 = .clo 72 [] ∧ e 17 = .int .i64 k ∧ e 16 = .int .i64 as.length ∧ T.sames as bs = T.sames (as.drop k) (bs.drop k)) ?_ ?_ ?_
    · simp only [↓sd0, su0, su1, resOf, pack, eqCells, ↓reduceIte, Nat.reduceEqDiff, Nat.reduceAdd, Nat.reduceLeDiff, Nat.reduceLT, reduceCtorEq]
    · rintro k e l H' n hk ⟨h15, h1, h2, h17, h16, hq⟩
      have hk2 : k < bs.length := by omega
      rw [T.sames_drop hk hk2] at hq
      rw [hq]
      cases cz : as[k].same bs[k]
      · simp only [↓sd0, su0, su1, resOf, pack, eqCells, ↓reduceIte, Nat.reduceEqDiff, Nat.reduceAdd, Nat.reduceLeDiff, Nat.reduceLT, reduceCtorEq, h15, h1, h2, h17, h16, iaddr_map hk, iaddr_map hk2, lt_cast hk, (ih as[k] (List.getElem_mem hk) bs[k]).callK, cz, wrap_succ hk hl]
      · simp only [↓sd0, su0, su1, resOf, pack, eqCells, ↓reduceIte, Nat.reduceEqDiff, Nat.reduceAdd, Nat.reduceLeDiff, Nat.reduceLT, reduceCtorEq, h15, h1, h2, h17, h16, iaddr_map hk, iaddr_map hk2, lt_cast hk, (ih as[k] (List.getElem_mem hk) bs[k]).callK, cz, wrap_succ hk hl]
    · rintro e l H' n ⟨h15, h1, h2, h17, h16, hq⟩
      rw [List.drop_length, c, List.drop_length] at hq
      rw [T.sames] at hq
      simp only [↓sd0, su0, su1, resOf, pack, eqCells, ↓reduceIte, Nat.reduceEqDiff, Nat.reduceAdd, Nat.reduceLeDiff, Nat.reduceLT, reduceCtorEq, h17, h16, hq]
  · have q : ((as.length : Int) != (bs.length : Int)) = true := by simp; omega
    have q2 : T.sames as bs = false := by
      cases h : T.sames as bs
      · rfl
      · exact absurd (T.sames_length h) c
    simp only [↓sd0, su0, su1, resOf, pack, eqCells, ↓reduceIte, Nat.reduceEqDiff, Nat.reduceAdd, Nat.reduceLeDiff, Nat.reduceLT, reduceCtorEq, q, q2]

theorem same_spec (a b : T) : a.size < 4611686018427387904 → Gives tab 72 [a.av, b.av] (.bool (a.same b)) := by
  induction a using T.ind' generalizing b with
  | h a ih =>
    intro ha
    have hs := a.size_eq
    have hl := T.length_le a.ks
    refine gives tab_72 fun H nx => ?_
    unfold body72
    dsimp only [qm, qf, ql, qL, qs, qc, qk, qi, qn, qb, qB, qe, qx, qo, qg]
    simp only [start2]
    have he := equals_spec a.ks b.ks a.nil b.nil (by omega) fun k hk b => ih k hk b (by
      obtain ⟨i, hi, rfl⟩ := List.getElem_of_mem hk
      have := T.size_kid hi; omega)
    rw [T.same_eq]
    cases c : (a.h == b.h)
    · simp only [↓sd0, su0, su1, resOf, pack, eqCells, ↓reduceIte, Nat.reduceEqDiff, Nat.reduceAdd, Nat.reduceLeDiff, Nat.reduceLT, reduceCtorEq, c]
    · simp only [↓sd0, su0, su1, resOf, pack, eqCells, ↓reduceIte, Nat.reduceEqDiff, Nat.reduceAdd, Nat.reduceLeDiff, Nat.reduceLT, reduceCtorEq, c, he.callK]

def Fa.same (f g : Fa) : Bool := f.n == g.n && f.l.same g.l && f.r.same g.r
theorem samefact_spec (f g : Fa) (h1 : f.l.size < 4611686018427387904) (h2 : f.r.size < 4611686018427387904) : Gives tab 47 [f.av, g.av] (.bool (f.same g)) := by
  refine gives tab_47 fun H nx => ?_
  unfold body47 Fa.same
  dsimp only [qm, qf, ql, qL, qs, qc, qk, qi, qn, qb, qB, qe, qx, qo, qg]
  simp only [start2]
  cases c1 : (f.n == g.n) <;> cases c2 : f.l.same g.l <;> simp only [↓sd0, su0, su1, resOf, pack, eqCells, ↓reduceIte, Nat.reduceEqDiff, Nat.reduceAdd, Nat.reduceLeDiff, Nat.reduceLT, reduceCtorEq, c1, c2, (same_spec f.l g.l h1).callK, (same_spec f.r g.r h2).callK]


/-! ### copies -/
mutual
def T.copy : T → T
  | .mk h _ ks => .mk h true (T.copies ks)
def T.copies : List T → List T
  | [] => []
  | k :: ks => k.copy :: T.copies ks
end
theorem T.copies_eq : ∀ ks : List T, T.copies ks = ks.map T.copy
  | [] => rfl
  | k :: ks => by simp [T.copies, T.copies_eq ks]
theorem T.copy_eq (t : T) : t.copy = .mk t.h true (t.ks.map T.copy) := by cases t; rw [T.copy, T.copies_eq]; rfl
theorem take_one {α : Type} {l : List α} {k : Nat} (h : k < l.length) : l.take (k + 1) = l.take k ++ [l[k]] := List.take_succ_eq_append_getElem h

theorem copy_spec (t : T) : t.size < 1099511627776 → Gives tab 66 [t.av] t.copy.av := by
  induction t using T.ind' with
  | h t ih =>
    intro ht
    have hs := t.size_eq
    have hl := T.length_le t.ks
    refine gives_thaw tab_66 fun H nx => ?_
    unfold body66
    dsimp only [qm, qf, ql, qL, qs, qc, qk, qi, qn, qb, qB, qe, qx, qo, qg]
    simp only [start1]
    rw [T.copy_eq]
    simp only [↓sd0, su0, su1, resOf, pack, eqCells, ↓reduceIte, Nat.reduceEqDiff, Nat.reduceAdd, Nat.reduceLeDiff, Nat.reduceLT, reduceCtorEq]
    refine W_count t.ks.length (fun k e l H' n => e 10 = sl 2 t.nil (t.ks.map T.av) ∧ e 12 = .int .i64 k ∧ e 11 = .int .i64 t.ks.length ∧ nx ≤ n ∧ (∃ m, e 2 = .loc 2 m 0 ∧ l 2 = some (m, .agg [.int .i64 0, .nilSlice])) ∧
      ∃ m id, e 3 = .loc 3 m 0 ∧ l 3 = some (m, .agg [.int .i64 t.h, lv id k]) ∧ Own H' nx n 2 id (((t.ks.take k).map T.copy).map T.av)) ?_ ?_ ?_
    · simp only [↓sd0, su0, su1, resOf, pack, eqCells, ↓reduceIte, Nat.reduceEqDiff, Nat.reduceAdd, Nat.reduceLeDiff, Nat.reduceLT, reduceCtorEq]
      exact ⟨⟨_, rfl, rfl⟩, _, 0, rfl, rfl, Own.nil⟩
    · rintro k e l H' n hk ⟨h10, h12, h11, hn, ⟨m2, h2, hl2⟩, m, id, h3, hl3, ho⟩
      have hz := T.size_kid hk
      have hap := append_to (bytes := 32) (T.copy t.ks[k]).av ho (n := k) (by simp; omega) (Nat.le_refl _) (by omega)
      simp only [↓sd0, su0, su1, resOf, pack, eqCells, ↓reduceIte, Nat.reduceEqDiff, Nat.reduceAdd, Nat.reduceLeDiff, Nat.reduceLT, reduceCtorEq, dr0, Nat.reducePow, Nat.reduceDiv, Nat.reduceMod, Nat.reduceBEq, h2, h3, h10, h11, h12, hl2, hl3, iaddr_map hk, lt_cast hk, (ih t.ks[k] (List.getElem_mem hk) (by omega)).callK, hap, wrap_succ hk (by omega : t.ks.length < 4611686018427387904)]
      exact ⟨by omega, ⟨_, rfl, rfl⟩, _, _, rfl, rfl, by rw [take_one hk]; simp only [List.map_append, List.map_cons, List.map_nil]; exact (Own.append (by omega)).mono (by omega)⟩
    · rintro e l H' n ⟨h10, h12, h11, hn, ⟨m2, h2, hl2⟩, m, id, h3, hl3, ho⟩
      rw [List.take_length] at ho
      obtain ⟨H'', hth, _⟩ := thaw_tree (h := t.h) ho (n := t.ks.length) (by simp) (Nat.le_refl _)
      simp only [↓sd0, su0, su1, resOf, pack, eqCells, ↓reduceIte, Nat.reduceEqDiff, Nat.reduceAdd, Nat.reduceLeDiff, Nat.reduceLT, reduceCtorEq, dr0, Nat.reducePow, Nat.reduceDiv, Nat.reduceMod, Nat.reduceBEq, h2, h3, h10, h11, h12, hl2, hl3, hth]

end Go.Proofs.Ytmbdccekcfeomaa.Am
end
/- What stands for variables, put in; claims turned; facts that are searched. -/
section
open Go
namespace Go.Proofs.Ytmbdccekcfeomaa.Am
set_option linter.unusedSimpArgs false
set_option linter.unusedVariables false

mutual
/-- No head is large. -/
def T.small : T → Prop
  | .mk h _ ks => (-1099511627776 < h ∧ h < 1099511627776) ∧ T.smalls ks
def T.smalls : List T → Prop
  | [] => True
  | k :: ks => k.small ∧ T.smalls ks
end
theorem T.small_h {t : T} (h : t.small) : -1099511627776 < t.h ∧ t.h < 1099511627776 := by cases t; rw [T.small] at h; exact h.1
theorem T.small_ks {t : T} (h : t.small) : T.smalls t.ks := by cases t; rw [T.small] at h; exact h.2
theorem T.smalls_get {ks : List T} (h : T.smalls ks) {k : Nat} (hk : k < ks.length) : ks[k].small := by
  induction ks generalizing k with
  | nil => simp at hk
  | cons t ts ih => cases k with
    | zero => rw [T.smalls] at h; exact h.1
    | succ k => rw [T.smalls] at h; exact ih h.2 (by simpa using hk)
theorem T.smalls_of {ks : List T} (h : ∀ k ∈ ks, k.small) : T.smalls ks := by
  induction ks with
  | nil => rw [T.smalls]; trivial
  | cons t ts ih => rw [T.smalls]; exact ⟨h t (List.mem_cons_self ..), ih fun k hk => h k (List.mem_cons_of_mem _ hk)⟩
theorem T.small_of {t : T} (h : -1099511627776 < t.h ∧ t.h < 1099511627776) (hk : ∀ k ∈ t.ks, k.small) : t.small := by
  cases t; rw [T.small]; exact ⟨h, T.smalls_of hk⟩

/-- What stands for a variable, if anything does. -/
def stood (bs : List T) (h : Int) : Option T := match bs[(-h - 1).toNat]? with
  | some s => if s.h = 0 then none else some s
  | none => none
mutual
def T.bound (bs : List T) : T → T
  | .mk h b ks => if h < 0 then (match stood bs h with | some s => s.copy | none => .mk h b ks) else .mk h true (T.bounds bs ks)
def T.bounds (bs : List T) : List T → List T
  | [] => []
  | k :: ks => T.bound bs k :: T.bounds bs ks
end
theorem T.bounds_eq (bs : List T) : ∀ ks : List T, T.bounds bs ks = ks.map (T.bound bs)
  | [] => rfl
  | k :: ks => by simp [T.bounds, T.bounds_eq bs ks]
theorem T.bound_eq (bs : List T) (t : T) : t.bound bs = if t.h < 0 then (match stood bs t.h with | some s => s.copy | none => t) else .mk t.h true (t.ks.map (T.bound bs)) := by
  cases t; rw [T.bound, T.bounds_eq]; rfl

theorem bound_spec (t : T) (b : Bool) (bs : List T) (hbs : bs.length < 1099511627776) (hb : ∀ s ∈ bs, s.size < 1099511627776) : t.size < 1099511627776 → t.small → Gives tab 63 [t.av, sl 2 b (bs.map T.av)] (t.bound bs).av := by
  induction t using T.ind' with
  | h t ih =>
    intro ht hsm
    have hs := t.size_eq
    have hl := T.length_le t.ks
    have hh := T.small_h hsm
    refine gives_thaw tab_63 fun H nx => ?_
    unfold body63
    dsimp only [qm, qf, ql, qL, qs, qc, qk, qi, qn, qb, qB, qe, qx, qo, qg]
    simp only [start2]
    rw [T.bound_eq]
    by_cases c : t.h < 0
    · obtain ⟨m, hm⟩ : ∃ m : Nat, t.h = -((m : Int) + 1) := ⟨(-t.h - 1).toNat, by omega⟩
      have q : decide (t.h < 0) = true := by simp [c]
      have hw : IntKind.i64.wrap (IntKind.i64.wrap (0 - t.h) - 1) = (m : Int) := by rw [wrap64 (n := 0 - t.h) (by omega) (by omega), wrap64 (by omega) (by omega)]; omega
      have hm2 : (-t.h - 1).toNat = m := by omega
      rw [if_pos c]
      unfold stood
      rw [hm2]
      by_cases cm : m < bs.length
      · have q2 : decide ((m : Int) < (bs.length : Int)) = true := by simp [cm]
        rw [List.getElem?_eq_getElem cm]
        have hsz := hb bs[m] (List.getElem_mem cm)
        by_cases cz : bs[m].h = 0
        · have q3 : (bs[m].h != 0) = false := by simp [cz]
          simp only [↓sd0, su0, su1, resOf, pack, eqCells, ↓reduceIte, Nat.reduceEqDiff, Nat.reduceAdd, Nat.reduceLeDiff, Nat.reduceLT, reduceCtorEq, q, hw, q2, q3, iaddr_map cm, cz]
          simp only [thaw_solid, ↓sd0, su0, su1, resOf, pack, eqCells, ↓reduceIte, Nat.reduceEqDiff, Nat.reduceAdd, Nat.reduceLeDiff, Nat.reduceLT, reduceCtorEq]
        · have q3 : (bs[m].h != 0) = true := by simp [cz]
          simp only [↓sd0, su0, su1, resOf, pack, eqCells, ↓reduceIte, Nat.reduceEqDiff, Nat.reduceAdd, Nat.reduceLeDiff, Nat.reduceLT, reduceCtorEq, q, hw, q2, q3, iaddr_map cm, cz, (copy_spec bs[m] hsz).callK]
          simp only [thaw_solid, ↓sd0, su0, su1, resOf, pack, eqCells, ↓reduceIte, Nat.reduceEqDiff, Nat.reduceAdd, Nat.reduceLeDiff, Nat.reduceLT, reduceCtorEq]
      · have q2 : decide ((m : Int) < (bs.length : Int)) = false := by simp; omega
        rw [List.getElem?_eq_none (by omega)]
        simp only [↓sd0, su0, su1, resOf, pack, eqCells, ↓reduceIte, Nat.reduceEqDiff, Nat.reduceAdd, Nat.reduceLeDiff, Nat.reduceLT, reduceCtorEq, q, hw, q2]
        simp only [thaw_solid, ↓sd0, su0, su1, resOf, pack, eqCells, ↓reduceIte, Nat.reduceEqDiff, Nat.reduceAdd, Nat.reduceLeDiff, Nat.reduceLT, reduceCtorEq]
    · have q : decide (t.h < 0) = false := by simp; omega
      rw [if_neg c]
      simp only [↓sd0, su0, su1, resOf, pack, eqCells, ↓reduceIte, Nat.reduceEqDiff, Nat.reduceAdd, Nat.reduceLeDiff, Nat.reduceLT, reduceCtorEq, q]
      refine W_count t.ks.length (fun k e l H' n => e 38 = sl 2 t.nil (t.ks.map T.av) ∧ e 1 = sl 2 b (bs.map T.av) ∧ e 40 = .int .i64 k ∧ e 39 = .int .i64 t.ks.length ∧ nx ≤ n ∧ (∃ m, e 4 = .loc 4 m 0 ∧ l 4 = some (m, .agg [.int .i64 0, .nilSlice])) ∧
        ∃ m id, e 6 = .loc 6 m 0 ∧ l 6 = some (m, .agg [.int .i64 t.h, lv id k]) ∧ Own H' nx n 2 id (((t.ks.take k).map (T.bound bs)).map T.av)) ?_ ?_ ?_
      · simp only [↓sd0, su0, su1, resOf, pack, eqCells, ↓reduceIte, Nat.reduceEqDiff, Nat.reduceAdd, Nat.reduceLeDiff, Nat.reduceLT, reduceCtorEq]
        exact ⟨⟨_, rfl, rfl⟩, _, 0, rfl, rfl, Own.nil⟩
      · rintro k e l H' n hk ⟨h10, h1, h12, h11, hn, ⟨m2, h2, hl2⟩, m, id, h3, hl3, ho⟩
        have hz := T.size_kid hk
        have hap := append_to (bytes := 32) (T.bound bs t.ks[k]).av ho (n := k) (by simp; omega) (Nat.le_refl _) (by omega)
        simp only [↓sd0, su0, su1, resOf, pack, eqCells, ↓reduceIte, Nat.reduceEqDiff, Nat.reduceAdd, Nat.reduceLeDiff, Nat.reduceLT, reduceCtorEq, dr0, Nat.reducePow, Nat.reduceDiv, Nat.reduceMod, Nat.reduceBEq, h1, h2, h3, h10, h11, h12, hl2, hl3, iaddr_map hk, lt_cast hk, (ih t.ks[k] (List.getElem_mem hk) (by omega) (T.smalls_get (T.small_ks hsm) hk)).callK, hap, wrap_succ hk (by omega : t.ks.length < 4611686018427387904)]
        exact ⟨by omega, ⟨_, rfl, rfl⟩, _, _, rfl, rfl, by rw [take_one hk]; simp only [List.map_append, List.map_cons, List.map_nil]; exact (Own.append (by omega)).mono (by omega)⟩
      · rintro e l H' n ⟨h10, h1, h12, h11, hn, ⟨m2, h2, hl2⟩, m, id, h3, hl3, ho⟩
        rw [List.take_length] at ho
        obtain ⟨H'', hth, _⟩ := thaw_tree (h := t.h) ho (n := t.ks.length) (by simp) (Nat.le_refl _)
        simp only [↓sd0, su0, su1, resOf, pack, eqCells, ↓reduceIte, Nat.reduceEqDiff, Nat.reduceAdd, Nat.reduceLeDiff, Nat.reduceLT, reduceCtorEq, dr0, Nat.reducePow, Nat.reduceDiv, Nat.reduceMod, Nat.reduceBEq, h2, h3, h10, h11, h12, hl2, hl3, hth]

/-! ### claims turned -/
def Cl.turn (g : T → T) (c : Cl) : Cl := ⟨true, c.fs.map fun f => ⟨f.n, g f.l, g f.r⟩⟩
theorem thaw_claim {wl lo hi id n : Nat} {H : Nat → Option Obj} {fs : List Fa} (ho : Own H lo hi 5 id (fs.map Fa.av)) (hn : fs.length = n) (hw : wl ≤ lo) : ∃ H', thaw wl 1 H [.agg [lv id n]] = some ([(Cl.mk true fs).av], H') ∧ ∀ j, j < wl → H' j = H j := by
  obtain ⟨H', hh, hj⟩ := thawV_lv ho hw (solids_map Fa.solid_av fs)
  refine ⟨H', ?_, hj⟩
  subst hn
  rw [List.length_map] at hh
  rw [thaw_one]
  simp only [thawL, thawV, hh]
  rfl
theorem turn_spec (c : Cl) (f : Nat) (cap : List AV) (g : T → T) (hp : pureOf tab f = .pure) (hcap : AV.nols cap = true) (hl : c.fs.length < 1099511627776)
    (hg : ∀ x ∈ c.fs, Gives tab f (x.l.av :: cap) (g x.l).av ∧ Gives tab f (x.r.av :: cap) (g x.r).av) : Gives tab 61 [c.av, .clo f cap] (c.turn g).av := by
  refine gives_thaw tab_61 fun H nx => ?_
  unfold body61 Cl.turn
  dsimp only [qm, qf, ql, qL, qs, qc, qk, qi, qn, qb, qB, qe, qx, qo, qg]
  simp only [start2]
  simp only [↓sd0, su0, su1, resOf, pack, eqCells, ↓reduceIte, Nat.reduceEqDiff, Nat.reduceAdd, Nat.reduceLeDiff, Nat.reduceLT, reduceCtorEq]
  refine W_count c.fs.length (fun k e l H' n => e 9 = sl 5 c.nil (c.fs.map Fa.av) ∧ e 1 = .clo f cap ∧ e 11 = .int .i64 k ∧ e 10 = .int .i64 c.fs.length ∧ nx ≤ n ∧ (∃ m, e 4 = .loc 4 m 0 ∧ l 4 = some (m, .agg [.nilSlice])) ∧
    ∃ m id, e 5 = .loc 5 m 0 ∧ l 5 = some (m, .agg [lv id k]) ∧ Own H' nx n 5 id (((c.fs.take k).map fun f => (⟨f.n, g f.l, g f.r⟩ : Fa)).map Fa.av)) ?_ ?_ ?_
  · simp only [↓sd0, su0, su1, resOf, pack, eqCells, ↓reduceIte, Nat.reduceEqDiff, Nat.reduceAdd, Nat.reduceLeDiff, Nat.reduceLT, reduceCtorEq]
    exact ⟨⟨_, rfl, rfl⟩, _, 0, rfl, rfl, Own.nil⟩
  · rintro k e l H' n hk ⟨h10, h1, h12, h11, hn, ⟨m2, h2, hl2⟩, m, id, h3, hl3, ho⟩
    have hap := append_to (bytes := 72) (Fa.av ⟨c.fs[k].n, g c.fs[k].l, g c.fs[k].r⟩) ho (n := k) (by simp; omega) (Nat.le_refl _) (by omega)
    have hx := hg c.fs[k] (List.getElem_mem hk)
    simp only [↓sd0, su0, su1, resOf, pack, eqCells, ↓reduceIte, Nat.reduceEqDiff, Nat.reduceAdd, Nat.reduceLeDiff, Nat.reduceLT, reduceCtorEq, dr0, Nat.reducePow, Nat.reduceDiv, Nat.reduceMod, Nat.reduceBEq, h1, h2, h3, h10, h11, h12, hl2, hl3, iaddr_map hk, lt_cast hk, hx.1.callK, hx.2.callK, hp, hap, hcap, wrap_succ hk (by omega : c.fs.length < 4611686018427387904)]
    exact ⟨by omega, ⟨_, rfl, rfl⟩, _, _, rfl, rfl, by rw [take_one hk]; simp only [List.map_append, List.map_cons, List.map_nil]; exact (Own.append (by omega)).mono (by omega)⟩
  · rintro e l H' n ⟨h10, h1, h12, h11, hn, ⟨m2, h2, hl2⟩, m, id, h3, hl3, ho⟩
    rw [List.take_length] at ho
    obtain ⟨H'', hth, _⟩ := thaw_claim ho (n := c.fs.length) (by simp) (Nat.le_refl _)
    simp only [↓sd0, su0, su1, resOf, pack, eqCells, ↓reduceIte, Nat.reduceEqDiff, Nat.reduceAdd, Nat.reduceLeDiff, Nat.reduceLT, reduceCtorEq, dr0, Nat.reducePow, Nat.reduceDiv, Nat.reduceMod, Nat.reduceBEq, h2, h3, h10, h11, h12, hl2, hl3, hth]

/-- trace.Next's function. -/
theorem next1_spec (t : T) (g : Gt) (hbs : g.bind.length < 1099511627776) (hb : ∀ s ∈ g.bind, s.size < 1099511627776) (h1 : t.size < 1099511627776) (h2 : t.small) : Gives tab 62 [t.av, .fptr g.av 0] (t.bound g.bind).av := by
  refine gives tab_62 fun H nx => ?_
  unfold body62
  dsimp only [qm, qf, ql, qL, qs, qc, qk, qi, qn, qb, qB, qe, qx, qo, qg]
  simp only [start2]
  simp only [↓sd0, su0, su1, resOf, pack, eqCells, ↓reduceIte, Nat.reduceEqDiff, Nat.reduceAdd, Nat.reduceLeDiff, Nat.reduceLT, reduceCtorEq, (bound_spec t g.bnil g.bind hbs hb h1 h2).callK]

end Go.Proofs.Ytmbdccekcfeomaa.Am
end
