/- What is wrong with what stands for variables; the references' checks. -/
import Derived.Test.YtmbdccekcfeomaaT26
section
open Go
namespace Go.Proofs.Ytmbdccekcfeomaa.Am
set_option linter.unusedSimpArgs false
set_option linter.unusedVariables false
set_option maxRecDepth 20000

theorem eqsF (neg : Bool) (a b c d : Int) : eqsV [0, 0] neg (flt a b) (flt c d) = some (.bool (if neg then !((a == c) && (b == d)) else ((a == c) && (b == d)))) := by
  simp [eqsV, flt, eqCells]
theorem agg_flt : (AV.agg [.int .i64 0, .int .i64 0]) = flt 0 0 := _root_.id rfl
theorem eqsF0 (neg : Bool) (a b : Int) : eqsV [0, 0] neg (flt a b) (.agg [.int .i64 0, .int .i64 0]) = some (.bool (if neg then !((a == 0) && (b == 0)) else ((a == 0) && (b == 0)))) := eqsF neg a b 0 0
theorem storable_flt (a b : Int) : (flt a b).storable = true := by simp [flt, storable_agg, one_int, nols_cons, nols_nil, nol_int]
theorem solid_flt (a b : Int) : (flt a b).solid = true := by simp [flt, solid_agg, solids_cons, solids_nil, solid_int]
theorem nol_flt (a b : Int) : (flt a b).nol = true := by simp [flt, nol_agg, nols_cons, nols_nil, nol_int]
theorem part_flt (a b : Int) : part 2 true (flt a b) 0 = some (flt a b) := part_whole rfl rfl
theorem part_fltc (a b : Int) : part 1 false (flt a b) 0 = some (.int .i64 a) := by simp [part, flt, AV.cells, AV.isAgg]
theorem within_flt (x y : AV) (a b : Int) : within (.agg [x, y]) 0 (flt a b) = some (flt a b) := within_whole rfl rfl
theorem within_fltt (c d : Int) (a b : Int) : within (flt c d) 0 (flt a b) = some (flt a b) := within_whole rfl rfl

theorem T.bad_zero {t : T} (h : t.bad.1 = 0) : t.bad = (0, 0) := by
  unfold T.bad at h ⊢
  split at h
  · simp at h
  · split at h
    · simp at h
    · split at h
      · rename_i a b c; rw [if_neg a, if_neg b, if_pos c]
      · rename_i a b c; exact absurd h c
def bindG (t : T) : Int := if t.h = 0 then (if 0 < t.ks.length then 5 else 0) else t.bad.1
def binds (bs : List T) : Int × Int := if 8 < bs.length then (2, -1) else if (firstAt bindG bs 0).1 = 0 then (0, 0) else ((firstAt bindG bs 0).1, -1 - (firstAt bindG bs 0).2)

theorem bind_spec (b : Bool) (bs : List T) (hl : bs.length < 4294967296) (hb : ∀ t ∈ bs, t.size < 1099511627776) : Gives tab 60 [sl 2 b (bs.map T.av)] (flt (binds bs).1 (binds bs).2) := by
  refine gives tab_60 fun H nx => ?_
  unfold body60 binds
  dsimp only [qm, qf, ql, qL, qs, qc, qk, qi, qn, qb, qB, qe, qx, qo, qg]
  simp only [start1]
  by_cases c : 8 < bs.length
  · have q : decide ((bs.length : Int) > 8) = true := by simp; omega
    simp only [↓sd0, su0, su1, resOf, pack, eqCells, ↓reduceIte, Nat.reduceEqDiff, Nat.reduceAdd, Nat.reduceLeDiff, Nat.reduceLT, reduceCtorEq, q, c, (fault_18 _ _).callK, solid_flt, part_flt, storable_flt, cells_flt, within_flt]
  · have q : decide ((bs.length : Int) > 8) = false := by simp; omega
    simp only [↓sd0, su0, su1, resOf, pack, eqCells, ↓reduceIte, Nat.reduceEqDiff, Nat.reduceAdd, Nat.reduceLeDiff, Nat.reduceLT, reduceCtorEq, q, c]
    refine W_count bs.length (fun k e lo H' n => (∃ m, e 2 = .loc 2 m 0 ∧ lo 2 = some (m, .agg [.int .i64 0, .int .i64 0])) ∧ e 10 = sl 2 b (bs.map T.av) ∧ e 12 = .int .i64 k ∧ e 11 = .int .i64 bs.length ∧
      firstAt bindG bs 0 = firstAt bindG (bs.drop k) k) ?_ ?_ ?_
    · simp only [↓sd0, su0, su1, resOf, pack, eqCells, ↓reduceIte, Nat.reduceEqDiff, Nat.reduceAdd, Nat.reduceLeDiff, Nat.reduceLT, reduceCtorEq]; exact ⟨⟨_, rfl, rfl⟩, rfl⟩
    · rintro k e lo H' n hk ⟨⟨m, h2, hl2⟩, h10, h12, h11, hq⟩
      have hsz := hb bs[k] (List.getElem_mem hk)
      have hwk := wrap_succ hk (by omega : bs.length < 4611686018427387904)
      have hwm : IntKind.i64.wrap (-1 - (k : Int)) = -1 - (k : Int) := by rw [wrap64 (by omega) (by omega)]
      rw [firstAt_drop hk] at hq
      have hg : bindG bs[k] = if bs[k].h = 0 then (if 0 < bs[k].ks.length then 5 else 0) else bs[k].bad.1 := rfl
      rw [hg] at hq
      by_cases c1 : bs[k].h = 0
      · rw [if_pos c1] at hq
        by_cases c2 : 0 < bs[k].ks.length
        · have q2 : decide ((bs[k].ks.length : Int) > 0) = true := by simp; omega
          rw [if_pos c2, if_neg (by decide)] at hq
          simp only [↓sd0, su0, su1, resOf, pack, eqCells, ↓reduceIte, Nat.reduceEqDiff, Nat.reduceAdd, Nat.reduceLeDiff, Nat.reduceLT, reduceCtorEq, h2, hl2, h10, h12, h11, iaddr_map hk, lt_cast hk, c1, q2, (fault_18 _ _).callK, hwm, solid_flt, part_flt, storable_flt, cells_flt, within_flt, hq]
          simp
        · have q2 : decide ((bs[k].ks.length : Int) > 0) = false := decide_eq_false (by omega)
          rw [if_neg c2, if_pos rfl] at hq
          simp only [↓sd0, su0, su1, resOf, pack, eqCells, ↓reduceIte, Nat.reduceEqDiff, Nat.reduceAdd, Nat.reduceLeDiff, Nat.reduceLT, reduceCtorEq, h2, hl2, h10, h12, h11, iaddr_map hk, lt_cast hk, c1, q2, hwk]
          exact ⟨⟨_, rfl, rfl⟩, hq⟩
      · have q1 : (bs[k].h == 0) = false := by simp [c1]
        rw [if_neg c1] at hq
        have htc := tcheck_spec bs[k] (by omega)
        by_cases c2 : bs[k].bad.1 = 0
        · rw [if_pos c2] at hq
          rw [T.bad_zero c2] at htc
          simp only [↓sd0, su0, su1, resOf, pack, eqCells, ↓reduceIte, Nat.reduceEqDiff, Nat.reduceAdd, Nat.reduceLeDiff, Nat.reduceLT, reduceCtorEq, h2, hl2, h10, h12, h11, iaddr_map hk, lt_cast hk, q1, htc.callK, part_flt, storable_flt, cells_flt, within_flt, eqsF0, hwk]
          exact ⟨⟨_, rfl, rfl⟩, hq⟩
        · rw [if_neg c2] at hq
          have q2 : (bs[k].bad.1 == 0) = false := by simp [c2]
          simp only [↓sd0, su0, su1, resOf, pack, eqCells, ↓reduceIte, Nat.reduceEqDiff, Nat.reduceAdd, Nat.reduceLeDiff, Nat.reduceLT, reduceCtorEq, h2, hl2, h10, h12, h11, iaddr_map hk, lt_cast hk, q1, q2, htc.callK, solid_flt, part_flt, part_fltc, storable_flt, cells_flt, within_flt, eqsF0, (fault_18 _ _).callK, hwm, hq, c2]
    · rintro e lo H' n ⟨⟨m, h2, hl2⟩, h10, h12, h11, hq⟩
      rw [List.drop_length] at hq
      simp only [firstAt] at hq
      simp only [↓sd0, su0, su1, resOf, pack, eqCells, ↓reduceIte, Nat.reduceEqDiff, Nat.reduceAdd, Nat.reduceLeDiff, Nat.reduceLT, reduceCtorEq, h2, hl2, h10, h12, h11, hq, flt, c]

/-! ### the references' -/
theorem fsigns_spec (t : T) (b : Bool) (ar : List Int) (har : ar.length < 4611686018427387904) : t.size < 4611686018427387904 → Gives tab 54 [t.av, ints b ar] (.int .i64 (t.sg ar)) := by
  induction t using T.ind' with
  | h t ih =>
    intro ht
    have hs := t.size_eq
    have hl := T.length_le t.ks
    refine gives tab_54 fun H nx => ?_
    unfold body54
    dsimp only [qm, qf, ql, qL, qs, qc, qk, qi, qn, qb, qB, qe, qx, qo, qg]
    simp only [start2]
    rw [W_assoc, W_assoc]
    refine W_cut (fun e l H n => e 2 = .fptr t.av 0 ∧ e 1 = ints b ar ∧ t.sg ar = T.sgs ar t.ks) ?_ ?_
    · rw [T.sg_eq]
      by_cases c1 : 0 < t.h
      · have q1 : decide (t.h > 0) = true := by simp; omega
        by_cases c2 : (ar.length : Int) < t.h
        · have q2 : decide (t.h > (ar.length : Int)) = true := by simp; omega
          simp only [↓sd0, su0, su1, resOf, pack, eqCells, ↓reduceIte, Nat.reduceEqDiff, Nat.reduceAdd, Nat.reduceLeDiff, Nat.reduceLT, reduceCtorEq, q1, q2, c1, c2]
        · have q2 : decide (t.h > (ar.length : Int)) = false := by simp; omega
          obtain ⟨m, hm⟩ : ∃ m : Nat, t.h = ((m + 1 : Nat) : Int) := ⟨(t.h - 1).toNat, by omega⟩
          have hm2 : m < ar.length := by omega
          have hwr : IntKind.i64.wrap (((m + 1 : Nat) : Int) - 1) = (m : Int) := by rw [wrap64 (by omega) (by omega)]; omega
          have har2 : arAt ar ((m + 1 : Nat) : Int) = ar[m] := by unfold arAt; rw [show (((m + 1 : Nat) : Int) - 1).toNat = m by omega]; simp [hm2]
          rw [hm] at q1 q2 c1 c2 ⊢
          rw [har2]
          by_cases c3 : (t.ks.length : Int) = ar[m]
          · have q3 : ((t.ks.length : Int) != ar[m]) = false := by simp [c3]
            simp only [↓sd0, su0, su1, resOf, pack, eqCells, ↓reduceIte, Nat.reduceEqDiff, Nat.reduceAdd, Nat.reduceLeDiff, Nat.reduceLT, reduceCtorEq, dr0, Nat.reducePow, Nat.reduceDiv, Nat.reduceMod, Nat.reduceBEq, hm, q1, q2, c1, c2, hwr, iaddr_ints hm2, q3]
            simp [c3]
          · have q3 : ((t.ks.length : Int) != ar[m]) = true := by simp [c3]
            simp only [↓sd0, su0, su1, resOf, pack, eqCells, ↓reduceIte, Nat.reduceEqDiff, Nat.reduceAdd, Nat.reduceLeDiff, Nat.reduceLT, reduceCtorEq, dr0, Nat.reducePow, Nat.reduceDiv, Nat.reduceMod, Nat.reduceBEq, hm, q1, q2, c1, c2, hwr, iaddr_ints hm2, q3]
            simp [c3]
      · have q1 : decide (t.h > 0) = false := by simp; omega
        have q2 : decide (t.h > (ar.length : Int)) = false := by simp; omega
        simp only [↓sd0, su0, su1, resOf, pack, eqCells, ↓reduceIte, Nat.reduceEqDiff, Nat.reduceAdd, Nat.reduceLeDiff, Nat.reduceLT, reduceCtorEq, dr0, Nat.reducePow, Nat.reduceDiv, Nat.reduceMod, Nat.reduceBEq, q1, q2, c1]
    rintro e l H n ⟨h2, h1, hsg⟩
    rw [hsg]
    simp only [↓sd0, su0, su1, resOf, pack, eqCells, ↓reduceIte, Nat.reduceEqDiff, Nat.reduceAdd, Nat.reduceLeDiff, Nat.reduceLT, reduceCtorEq, h2, h1]
    refine W_count t.ks.length (fun k e l H' n => e 2 = .fptr t.av 0 ∧ e 1 = ints b ar ∧ e 5 = .int .i64 k ∧ T.sgs ar t.ks = T.sgs ar (t.ks.drop k)) ?_ ?_ ?_
    · simp only [↓sd0, su0, su1, resOf, pack, eqCells, ↓reduceIte, Nat.reduceEqDiff, Nat.reduceAdd, Nat.reduceLeDiff, Nat.reduceLT, reduceCtorEq, h1, h2]
    · rintro k e l H' n hk ⟨h2, h1, h5, hq⟩
      have hz := T.size_kid hk
      rw [T.sgs_drop hk] at hq
      rw [hq]
      by_cases cz : t.ks[k].sg ar = 0
      · simp only [↓sd0, su0, su1, resOf, pack, eqCells, ↓reduceIte, Nat.reduceEqDiff, Nat.reduceAdd, Nat.reduceLeDiff, Nat.reduceLT, reduceCtorEq, h1, h2, h5, iaddr_map hk, lt_cast hk, (ih t.ks[k] (List.getElem_mem hk) (by omega)).callK, cz, bne_self_eq_false, wrap_succ hk (by omega : t.ks.length < 4611686018427387904)]
      · have cz' : (t.ks[k].sg ar != 0) = true := by simp [cz]
        simp only [↓sd0, su0, su1, resOf, pack, eqCells, ↓reduceIte, Nat.reduceEqDiff, Nat.reduceAdd, Nat.reduceLeDiff, Nat.reduceLT, reduceCtorEq, h1, h2, h5, iaddr_map hk, lt_cast hk, (ih t.ks[k] (List.getElem_mem hk) (by omega)).callK, cz, cz', wrap_succ hk (by omega : t.ks.length < 4611686018427387904)]
    · rintro e l H' n ⟨h2, h1, h5, hq⟩
      simp [T.sgs] at hq
      simp only [↓sd0, su0, su1, resOf, pack, eqCells, ↓reduceIte, Nat.reduceEqDiff, Nat.reduceAdd, Nat.reduceLeDiff, Nat.reduceLT, reduceCtorEq, h2, h1, h5, hq]

theorem vast_spec (t : T) (ht : t.size < 4611686018427387904) : Gives tab 26 [t.av] (.bool (decide ((t.size : Int) > 200))) := by
  refine gives tab_26 fun H nx => ?_
  unfold body26
  dsimp only [qm, qf, ql, qL, qs, qc, qk, qi, qn, qb, qB, qe, qx, qo, qg]
  simp only [start1]
  simp only [↓sd0, su0, su1, resOf, pack, eqCells, ↓reduceIte, Nat.reduceEqDiff, Nat.reduceAdd, Nat.reduceLeDiff, Nat.reduceLT, reduceCtorEq, (fsize_spec t ht).callK]

theorem thaw_slice {wl lo hi sz id n : Nat} {H : Nat → Option Obj} {es : List AV} (ho : Own H lo hi sz id es) (hn : es.length = n) (hw : wl ≤ lo) (hs : AV.solids es = true) : ∃ H', thaw wl 1 H [lv id n] = some ([sl sz true es], H') := by
  obtain ⟨H', hh, hj⟩ := thawV_lv ho hw hs
  refine ⟨H', ?_⟩
  subst hn
  rw [thaw_one]
  simp only [thawL, hh]
theorem trees_take {fs : List Fa} {k : Nat} (h : k < fs.length) : trees (fs.take (k + 1)) = trees (fs.take k) ++ [fs[k].l] ++ [fs[k].r] := by
  unfold trees; rw [take_one h, List.flatMap_append]; simp only [List.flatMap_cons, List.flatMap_nil, List.append_nil, List.append_assoc]; rfl
theorem trees_length (fs : List Fa) : (trees fs).length = 2 * fs.length := by
  induction fs with
  | nil => rfl
  | cons f fs ih => simp only [trees, List.flatMap_cons, List.length_append, List.length_cons, List.length_nil] at ih ⊢; omega

theorem trees_spec (c : Cl) (hl : c.fs.length < 1099511627776) : Gives tab 25 [c.av] (sl 2 true ((trees c.fs).map T.av)) := by
  refine gives_thaw tab_25 fun H nx => ?_
  unfold body25
  dsimp only [qm, qf, ql, qL, qs, qc, qk, qi, qn, qb, qB, qe, qx, qo, qg]
  simp only [start1]
  simp only [↓sd0, su0, su1, resOf, pack, eqCells, ↓reduceIte, Nat.reduceEqDiff, Nat.reduceAdd, Nat.reduceLeDiff, Nat.reduceLT, reduceCtorEq]
  refine W_count c.fs.length (fun k e l H' n => e 1 = .fptr c.av 0 ∧ e 4 = .int .i64 k ∧ nx ≤ n ∧ ∃ id, e 3 = lv id (2 * k) ∧ Own H' nx n 2 id ((trees (c.fs.take k)).map T.av)) ?_ ?_ ?_
  · simp only [↓sd0, su0, su1, resOf, pack, eqCells, ↓reduceIte, Nat.reduceEqDiff, Nat.reduceAdd, Nat.reduceLeDiff, Nat.reduceLT, reduceCtorEq]; exact ⟨0, rfl, Own.nil⟩
  · rintro k e l H' n hk ⟨h1, h4, hn, id, h3, ho⟩
    have hwk := wrap_succ hk (by omega : c.fs.length < 4611686018427387904)
    have hlen : ((trees (c.fs.take k)).map T.av).length = 2 * k := by rw [List.length_map, trees_length]; simp; omega
    have hap1 := append_to (bytes := 32) c.fs[k].l.av ho hlen (Nat.le_refl _) (by omega)
    have ho2 := fun j1 : Nat => Own.append (H := H') (lo := nx) (nid := n + j1) (sz := 2) (id := id) (n := 2 * k) (es := (trees (c.fs.take k)).map T.av) (y := c.fs[k].l.av) (by omega)
    have hap2 := fun j1 : Nat => append_to (bytes := 32) c.fs[k].r.av (ho2 j1) (n := 2 * k + 1) (by simpa using hlen) (Nat.le_refl _) (by omega)
    simp only [↓sd0, su0, su1, resOf, pack, eqCells, ↓reduceIte, Nat.reduceEqDiff, Nat.reduceAdd, Nat.reduceLeDiff, Nat.reduceLT, reduceCtorEq, h1, h4, h3, iaddr_map hk, lt_cast hk, hap1, hap2, hwk]
    exact ⟨by omega, _, rfl, by
      rw [trees_take hk]
      simp only [List.map_append, List.map_cons, List.map_nil]
      exact (Own.append (by omega)).mono (by omega)⟩
  · rintro e l H' n ⟨h1, h4, hn, id, h3, ho⟩
    rw [List.take_length] at ho
    obtain ⟨H'', hth⟩ := thaw_slice ho (n := 2 * c.fs.length) (by rw [List.length_map, trees_length]) (Nat.le_refl _) (solids_map T.solid_av _)
    simp only [↓sd0, su0, su1, resOf, pack, eqCells, ↓reduceIte, Nat.reduceEqDiff, Nat.reduceAdd, Nat.reduceLeDiff, Nat.reduceLT, reduceCtorEq, h1, h4, h3, hth]


theorem fclaim_spec (c : Cl) (b : Bool) (ar : List Int) (har : ar.length < 4294967296) (hc : c.fin) : Gives tab 29 [c.av, ints b ar] (.int .i64 (c.chk ar)) := by
  refine gives tab_29 fun H nx => ?_
  unfold body29 Cl.chk
  dsimp only [qm, qf, ql, qL, qs, qc, qk, qi, qn, qb, qB, qe, qx, qo, qg]
  simp only [start2]
  by_cases cb : 6 < c.fs.length
  · have q : decide ((c.fs.length : Int) > 6) = true := by simp; omega
    simp only [↓sd0, su0, su1, resOf, pack, eqCells, ↓reduceIte, Nat.reduceEqDiff, Nat.reduceAdd, Nat.reduceLeDiff, Nat.reduceLT, reduceCtorEq, q, cb]
  · have q : decide ((c.fs.length : Int) > 6) = false := by simp; omega
    have hts : ∀ t ∈ trees c.fs, t.size < 1099511627776 := by
      intro t ht
      unfold trees at ht
      rw [List.mem_flatMap] at ht
      obtain ⟨f, hf, hm⟩ := ht
      have := hc.2 f hf
      simp at hm
      rcases hm with rfl | rfl
      · exact this.1
      · exact this.2
    have htl : (trees c.fs).length < 4611686018427387904 := by rw [trees_length]; omega
    simp only [↓sd0, su0, su1, resOf, pack, eqCells, ↓reduceIte, Nat.reduceEqDiff, Nat.reduceAdd, Nat.reduceLeDiff, Nat.reduceLT, reduceCtorEq, q, cb, (trees_spec c (by have := hc.1; omega)).callK]
    refine W_count (trees c.fs).length (fun k e l H' n => e 5 = sl 2 true ((trees c.fs).map T.av) ∧ e 1 = ints b ar ∧ e 6 = .int .i64 k ∧ first (T.chk ar) (trees c.fs) = first (T.chk ar) ((trees c.fs).drop k)) ?_ ?_ ?_
    · simp only [↓sd0, su0, su1, resOf, pack, eqCells, ↓reduceIte, Nat.reduceEqDiff, Nat.reduceAdd, Nat.reduceLeDiff, Nat.reduceLT, reduceCtorEq]
    · rintro k e l H' n hk ⟨h5, h1, h6, hq⟩
      have hu := hts (trees c.fs)[k] (List.getElem_mem hk)
      rw [first_drop hk] at hq
      generalize hgu : (trees c.fs)[k] = u at hq hu
      have hia : ∀ H, iaddrV H 2 (sl 2 true ((trees c.fs).map T.av)) (.int .i64 k) = some (.fptr u.av 0) := fun H => by rw [← hgu]; exact iaddr_map hk
      have hcu : T.chk ar u = if u.bad.1 = 0 then u.sg ar else u.bad.1 := rfl
      rw [hcu] at hq
      have htc := ftree_spec u (by omega)
      have hsg := fsigns_spec u b ar (by omega) (by omega)
      have hwk := wrap_succ hk htl
      by_cases cz : u.bad.1 = 0
      · rw [if_pos cz] at hq
        by_cases cz2 : u.sg ar = 0
        · rw [if_pos cz2] at hq
          simp only [↓sd0, su0, su1, resOf, pack, eqCells, ↓reduceIte, Nat.reduceEqDiff, Nat.reduceAdd, Nat.reduceLeDiff, Nat.reduceLT, reduceCtorEq, h1, h5, h6, hia, lt_cast hk, htc.callK, hsg.callK, part_flt, part_fltc, storable_flt, cells_flt, within_flt, cz, cz2, hwk]
          exact hq
        · rw [if_neg cz2] at hq
          have q2 : (u.sg ar != 0) = true := by simp [cz2]
          simp only [↓sd0, su0, su1, resOf, pack, eqCells, ↓reduceIte, Nat.reduceEqDiff, Nat.reduceAdd, Nat.reduceLeDiff, Nat.reduceLT, reduceCtorEq, h1, h5, h6, hia, lt_cast hk, htc.callK, hsg.callK, part_flt, part_fltc, storable_flt, cells_flt, within_flt, cz, q2, hwk, hq]
      · rw [if_neg cz, if_neg cz] at hq
        have q2 : (u.bad.1 != 0) = true := by simp [cz]
        simp only [↓sd0, su0, su1, resOf, pack, eqCells, ↓reduceIte, Nat.reduceEqDiff, Nat.reduceAdd, Nat.reduceLeDiff, Nat.reduceLT, reduceCtorEq, h1, h5, h6, hia, lt_cast hk, htc.callK, hsg.callK, part_flt, part_fltc, storable_flt, cells_flt, within_flt, q2, hwk, hq]
    · rintro e l H' n ⟨h5, h1, h6, hq⟩
      rw [List.drop_length] at hq
      simp only [first] at hq
      simp only [↓sd0, su0, su1, resOf, pack, eqCells, ↓reduceIte, Nat.reduceEqDiff, Nat.reduceAdd, Nat.reduceLeDiff, Nat.reduceLT, reduceCtorEq, h5, h1, h6, hq, cb]

theorem florecheck_spec (l : Lo) (hl : l.fin) : Gives tab 8 [l.av] (flt l.chk.1 l.chk.2) := by
  refine gives tab_8 fun H nx => ?_
  obtain ⟨ha, hc, hcs⟩ := hl
  unfold body8
  dsimp only [qm, qf, ql, qL, qs, qc, qk, qi, qn, qb, qB, qe, qx, qo, qg]
  simp only [start1]
  rw [W_assoc]
  refine W_cut (fun e lo H n => e 1 = .fptr l.av 0 ∧ (∃ m, e 2 = .loc 2 m 0 ∧ lo 2 = some (m, .agg [.int .i64 0, .int .i64 0])) ∧ l.chk = if (firstAt arOk l.ar 0).1 = 0 then firstAt (Cl.chk l.ar) l.cs 0 else firstAt arOk l.ar 0) ?_ ?_
  · unfold Lo.chk
    cases c1 : decide ((l.ar.length : Int) > 12)
    · have c1' := of_decide_eq_false c1
      cases c2 : decide ((l.cs.length : Int) > 60)
      · have c2' := of_decide_eq_false c2
        rw [if_neg (by omega)]
        simp only [↓sd0, su0, su1, resOf, pack, eqCells, ↓reduceIte, Nat.reduceEqDiff, Nat.reduceAdd, Nat.reduceLeDiff, Nat.reduceLT, reduceCtorEq, c1, c2]
        exact ⟨_, rfl, rfl⟩
      · have c2' := of_decide_eq_true c2
        rw [if_pos (by omega)]
        simp only [↓sd0, su0, su1, resOf, pack, eqCells, ↓reduceIte, Nat.reduceEqDiff, Nat.reduceAdd, Nat.reduceLeDiff, Nat.reduceLT, reduceCtorEq, c1, c2, (fault_27 _ _).callK, flt]
    · have c1' := of_decide_eq_true c1
      rw [if_pos (by omega)]
      simp only [↓sd0, su0, su1, resOf, pack, eqCells, ↓reduceIte, Nat.reduceEqDiff, Nat.reduceAdd, Nat.reduceLeDiff, Nat.reduceLT, reduceCtorEq, c1, (fault_27 _ _).callK, flt]
  rintro e lo H n ⟨h1, ⟨m, h2, hl2⟩, hchk⟩
  refine W_cut (fun e lo H n => e 1 = .fptr l.av 0 ∧ (∃ m, e 2 = .loc 2 m 0 ∧ lo 2 = some (m, .agg [.int .i64 0, .int .i64 0])) ∧ l.chk = firstAt (Cl.chk l.ar) l.cs 0) ?_ ?_
  · simp only [↓sd0, su0, su1, resOf, pack, eqCells, ↓reduceIte, Nat.reduceEqDiff, Nat.reduceAdd, Nat.reduceLeDiff, Nat.reduceLT, reduceCtorEq, h1, h2, hl2]
    refine W_count l.ar.length (fun k e lo H' n => e 1 = .fptr l.av 0 ∧ (∃ m, e 2 = .loc 2 m 0 ∧ lo 2 = some (m, .agg [.int .i64 0, .int .i64 0])) ∧ e 3 = .int .i64 k ∧
      firstAt arOk l.ar 0 = firstAt arOk (l.ar.drop k) k) ?_ ?_ ?_
    · simp only [↓sd0, su0, su1, resOf, pack, eqCells, ↓reduceIte, Nat.reduceEqDiff, Nat.reduceAdd, Nat.reduceLeDiff, Nat.reduceLT, reduceCtorEq, h1, h2, hl2]; exact ⟨⟨_, rfl, rfl⟩, rfl⟩
    · rintro k e lo H' n hk ⟨h1, ⟨m, h2, hl2⟩, h3, hq⟩
      rw [firstAt_drop hk] at hq
      by_cases cz : 0 ≤ l.ar[k] ∧ l.ar[k] ≤ 3
      · have e0 : arOk l.ar[k] = 0 := by unfold arOk; rw [if_pos cz]
        rw [if_pos e0] at hq
        simp only [↓sd0, su0, su1, resOf, pack, eqCells, ↓reduceIte, Nat.reduceEqDiff, Nat.reduceAdd, Nat.reduceLeDiff, Nat.reduceLT, reduceCtorEq, h1, h2, hl2, h3, iaddr_ints hk, lt_cast hk, (in_28 _ _ _).callK, cz, wrap_succ hk (by omega : l.ar.length < 4611686018427387904)]
        exact ⟨⟨_, rfl, rfl⟩, hq⟩
      · have e0 : arOk l.ar[k] = 3 := by unfold arOk; rw [if_neg cz]
        rw [if_neg (by rw [e0]; decide), e0] at hq
        rw [hq] at hchk
        simp only [↓sd0, su0, su1, resOf, pack, eqCells, ↓reduceIte, Nat.reduceEqDiff, Nat.reduceAdd, Nat.reduceLeDiff, Nat.reduceLT, reduceCtorEq, h1, h2, hl2, h3, iaddr_ints hk, lt_cast hk, (in_28 _ _ _).callK, cz, (fault_27 _ _).callK, flt, hchk]
        simp
    · rintro e lo H' n ⟨h1, ⟨m, h2, hl2⟩, h3, hq⟩
      rw [List.drop_length] at hq
      simp only [firstAt] at hq
      rw [hq] at hchk
      simp only [if_pos] at hchk
      simp only [↓sd0, su0, su1, resOf, pack, eqCells, ↓reduceIte, Nat.reduceEqDiff, Nat.reduceAdd, Nat.reduceLeDiff, Nat.reduceLT, reduceCtorEq, h1, h2, hl2, h3, hchk]
      exact ⟨_, rfl, rfl⟩
  clear h1 h2 hl2 hchk
  clear m e lo H n
  rintro e lo H n ⟨h1, ⟨m, h2, hl2⟩, hchk⟩
  simp only [↓sd0, su0, su1, resOf, pack, eqCells, ↓reduceIte, Nat.reduceEqDiff, Nat.reduceAdd, Nat.reduceLeDiff, Nat.reduceLT, reduceCtorEq, h1, h2, hl2]
  refine W_count l.cs.length (fun k e lo H' n => e 1 = .fptr l.av 0 ∧ (∃ m, e 2 = .loc 2 m 0 ∧ lo 2 = some (m, .agg [.int .i64 0, .int .i64 0])) ∧ e 4 = .int .i64 k ∧
      l.chk = firstAt (Cl.chk l.ar) (l.cs.drop k) k) ?_ ?_ ?_
  · simp only [↓sd0, su0, su1, resOf, pack, eqCells, ↓reduceIte, Nat.reduceEqDiff, Nat.reduceAdd, Nat.reduceLeDiff, Nat.reduceLT, reduceCtorEq, h1, h2, hl2]; exact ⟨⟨_, rfl, rfl⟩, hchk⟩
  · clear h1 h2 hl2 hchk
    clear m e lo H n
    rintro k e lo H' n hk ⟨h1, ⟨m, h2, hl2⟩, h4, hq⟩
    have hck := hcs l.cs[k] (List.getElem_mem hk)
    have hwk := wrap_succ hk (by omega : l.cs.length < 4611686018427387904)
    rw [firstAt_drop hk] at hq
    have hfc := fclaim_spec l.cs[k] l.anil l.ar ha hck
    by_cases cz : l.cs[k].chk l.ar = 0
    · rw [if_pos cz] at hq
      simp only [↓sd0, su0, su1, resOf, pack, eqCells, ↓reduceIte, Nat.reduceEqDiff, Nat.reduceAdd, Nat.reduceLeDiff, Nat.reduceLT, reduceCtorEq, dr0, Nat.reducePow, Nat.reduceDiv, Nat.reduceMod, Nat.reduceBEq, h1, h2, hl2, h4, iaddr_map hk, lt_cast hk, hfc.callK, cz, hwk]
      exact ⟨⟨_, rfl, rfl⟩, hq⟩
    · rw [if_neg cz] at hq
      have q2 : (l.cs[k].chk l.ar != 0) = true := by simp [cz]
      simp only [↓sd0, su0, su1, resOf, pack, eqCells, ↓reduceIte, Nat.reduceEqDiff, Nat.reduceAdd, Nat.reduceLeDiff, Nat.reduceLT, reduceCtorEq, dr0, Nat.reducePow, Nat.reduceDiv, Nat.reduceMod, Nat.reduceBEq, h1, h2, hl2, h4, iaddr_map hk, lt_cast hk, hfc.callK, q2, (fault_27 _ _).callK, flt, hq]
  · clear h1 h2 hl2 hchk
    clear m e lo H n
    rintro e lo H' n ⟨h1, ⟨m, h2, hl2⟩, h4, hq⟩
    rw [List.drop_length] at hq
    simp only [firstAt] at hq
    simp only [↓sd0, su0, su1, resOf, pack, eqCells, ↓reduceIte, Nat.reduceEqDiff, Nat.reduceAdd, Nat.reduceLeDiff, Nat.reduceLT, reduceCtorEq, h1, h2, hl2, h4, hq, flt]

theorem vastlore_spec (l : Lo) (hl : l.fin) {wl nx : Nat} {H : Nat → Option Obj} : Call tab wl 7 [l.av] H nx fun r H' nx' => (∃ b, r = .bool b) ∧ H' = H ∧ nx' = nx := by
  refine call_solid tab_7 ?_
  obtain ⟨ha, hc, hcs⟩ := hl
  unfold body7
  dsimp only [qm, qf, ql, qL, qs, qc, qk, qi, qn, qb, qB, qe, qx, qo, qg]
  simp only [start1]
  rw [W_assoc]
  refine W_cut (fun e lo H n => e 1 = .fptr l.av 0) ?_ ?_
  · cases c1 : decide ((l.cs.length : Int) > 80) <;> cases c2 : decide ((l.ar.length : Int) > 40) <;> simp only [↓sd0, su0, su1, resOf, pack, eqCells, ↓reduceIte, Nat.reduceEqDiff, Nat.reduceAdd, Nat.reduceLeDiff, Nat.reduceLT, reduceCtorEq, c1, c2]
    all_goals exact ⟨_, rfl⟩
  rintro e lo H1 n h1
  simp only [↓sd0, su0, su1, resOf, pack, eqCells, ↓reduceIte, Nat.reduceEqDiff, Nat.reduceAdd, Nat.reduceLeDiff, Nat.reduceLT, reduceCtorEq, h1]
  refine W_count l.cs.length (fun k e lo H' n => e 1 = .fptr l.av 0 ∧ e 3 = .int .i64 k) ?_ ?_ ?_
  · simp only [↓sd0, su0, su1, resOf, pack, eqCells, ↓reduceIte, Nat.reduceEqDiff, Nat.reduceAdd, Nat.reduceLeDiff, Nat.reduceLT, reduceCtorEq, h1]
  · clear h1
    clear e lo n
    rintro k e lo H' n hk ⟨h1, h3⟩
    have hck := hcs l.cs[k] (List.getElem_mem hk)
    have hwk := wrap_succ hk (by omega : l.cs.length < 4611686018427387904)
    have htr := trees_spec l.cs[k] (by have := hck.1; omega)
    have hts : ∀ t ∈ trees l.cs[k].fs, t.size < 1099511627776 := by
      intro t ht
      unfold trees at ht
      rw [List.mem_flatMap] at ht
      obtain ⟨f, hf, hm⟩ := ht
      have := hck.2 f hf
      simp at hm
      rcases hm with rfl | rfl
      · exact this.1
      · exact this.2
    cases c1 : decide ((((trees l.cs[k].fs).length : Nat) : Int) > 40)
    · simp only [↓sd0, su0, su1, resOf, pack, eqCells, ↓reduceIte, Nat.reduceEqDiff, Nat.reduceAdd, Nat.reduceLeDiff, Nat.reduceLT, reduceCtorEq, h1, h3, iaddr_map hk, lt_cast hk, htr.callK, c1]
      refine W_count (trees l.cs[k].fs).length (fun i e lo H' n => e 1 = .fptr l.av 0 ∧ e 3 = .int .i64 k ∧ e 5 = .int .i64 i ∧ e 4 = sl 2 true ((trees l.cs[k].fs).map T.av)) ?_ ?_ ?_
      · simp only [↓sd0, su0, su1, resOf, pack, eqCells, ↓reduceIte, Nat.reduceEqDiff, Nat.reduceAdd, Nat.reduceLeDiff, Nat.reduceLT, reduceCtorEq, h1, h3]
      · clear h1 h3
        clear e lo n
        rintro i e lo H' n hi ⟨h1, h3, h5, h4⟩
        have hwi := wrap_succ hi (by rw [trees_length]; have := hck.1; omega)
        have hv := vast_spec (trees l.cs[k].fs)[i] (by have := hts _ (List.getElem_mem hi); omega)
        cases c2 : decide ((((trees l.cs[k].fs)[i].size : Nat) : Int) > 200)
        · simp only [↓sd0, su0, su1, resOf, pack, eqCells, ↓reduceIte, Nat.reduceEqDiff, Nat.reduceAdd, Nat.reduceLeDiff, Nat.reduceLT, reduceCtorEq, h1, h3, h5, h4, iaddr_map hi, lt_cast hi, hv.callK, c2, hwi]
        · simp only [↓sd0, su0, su1, resOf, pack, eqCells, ↓reduceIte, Nat.reduceEqDiff, Nat.reduceAdd, Nat.reduceLeDiff, Nat.reduceLT, reduceCtorEq, h1, h3, h5, h4, iaddr_map hi, lt_cast hi, hv.callK, c2, hwi]
          exact ⟨_, rfl⟩
      · clear h1 h3
        clear e lo n
        rintro e lo H' n ⟨h1, h3, h5, h4⟩
        simp only [↓sd0, su0, su1, resOf, pack, eqCells, ↓reduceIte, Nat.reduceEqDiff, Nat.reduceAdd, Nat.reduceLeDiff, Nat.reduceLT, reduceCtorEq, h1, h3, h5, h4, hwk]
    · simp only [↓sd0, su0, su1, resOf, pack, eqCells, ↓reduceIte, Nat.reduceEqDiff, Nat.reduceAdd, Nat.reduceLeDiff, Nat.reduceLT, reduceCtorEq, h1, h3, iaddr_map hk, lt_cast hk, htr.callK, c1]
      exact ⟨_, rfl⟩
  · clear h1
    clear e lo n
    rintro e lo H' n ⟨h1, h3⟩
    simp only [↓sd0, su0, su1, resOf, pack, eqCells, ↓reduceIte, Nat.reduceEqDiff, Nat.reduceAdd, Nat.reduceLeDiff, Nat.reduceLT, reduceCtorEq, h1, h3]
    exact ⟨_, rfl⟩

end Go.Proofs.Ytmbdccekcfeomaa.Am
end
/- The next claim of a derivation. -/
section
open Go
namespace Go.Proofs.Ytmbdccekcfeomaa.Am
set_option linter.unusedSimpArgs false
set_option linter.unusedVariables false
set_option maxRecDepth 20000

/-! ### sizes of what is made -/
theorem sizes_map_le {f : T → T} {m : Nat} {ks : List T} (h : ∀ k ∈ ks, (f k).size ≤ m * k.size) : T.sizes (ks.map f) ≤ m * T.sizes ks := by
  induction ks with
  | nil => simp [T.sizes]
  | cons k ks ih =>
    have a := h k (List.mem_cons_self ..)
    have b := ih fun x hx => h x (List.mem_cons_of_mem _ hx)
    simp only [List.map_cons, T.sizes, Nat.mul_add]; omega
theorem T.size_mk (h : Int) (b : Bool) (ks : List T) : (T.mk h b ks).size = T.sizes ks + 1 := T.size_eq _
theorem copy_size (t : T) : t.copy.size = t.size := by
  induction t using T.ind' with
  | h t ih =>
    rw [T.copy_eq, T.size_mk, T.size_eq]
    congr 1
    generalize t.ks = ks at ih
    induction ks with
    | nil => rfl
    | cons k ks ihk => simp only [List.map_cons, T.sizes]; rw [ih k (List.mem_cons_self ..), ihk fun x hx => ih x (List.mem_cons_of_mem _ hx)]
theorem copy_small {t : T} (h : t.small) : t.copy.small := by
  induction t using T.ind' with
  | h t ih =>
    rw [T.copy_eq]
    refine T.small_of (T.small_h (t := t) h) ?_
    intro k hk
    simp only [T.ks, List.mem_map] at hk
    obtain ⟨k', hk', rfl⟩ := hk
    have := T.small_ks h
    obtain ⟨i, hi, rfl⟩ := List.getElem_of_mem hk'
    exact ih _ hk' (T.smalls_get this hi)
theorem bound_size {bs : List T} {m : Nat} (hm : 1 ≤ m) (hb : ∀ s ∈ bs, s.size ≤ m) (t : T) : (t.bound bs).size ≤ m * t.size := by
  induction t using T.ind' with
  | h t ih =>
    have hs := t.size_eq
    rw [T.bound_eq]
    have h1 : m * 1 ≤ m * t.size := Nat.mul_le_mul_left m (by omega)
    split
    · unfold stood
      split
      · rename_i s hs
        split at hs
        · rename_i s' hs'
          split at hs
          · simp at hs
          · simp only [Option.some.injEq] at hs
            subst hs
            rw [copy_size]
            have := hb _ (List.mem_of_getElem? hs')
            omega
        · simp at hs
      · exact Nat.le_mul_of_pos_left _ (by omega)
    · rw [T.size_mk, T.size_eq, Nat.mul_add]
      have := sizes_map_le (f := T.bound bs) (m := m) ih
      omega
theorem sizes_set {ks : List T} {k : Nat} (h : k < ks.length) (s : T) : T.sizes (ks.set k s) + ks[k].size = T.sizes ks + s.size := by
  induction ks generalizing k with
  | nil => simp at h
  | cons t ts ih => cases k with
    | zero => simp only [List.set_cons_zero, T.sizes, List.getElem_cons_zero]; omega
    | succ k => simp only [List.set_cons_succ, T.sizes, List.getElem_cons_succ]; have := ih (k := k) (by simpa using h); omega
theorem put_size (s : T) : ∀ (p : List Int) (t : T), (T.put s t p).size ≤ t.size + s.size := by
  intro p
  induction p with
  | nil => intro t; rw [T.put]; omega
  | cons k p ih =>
    intro t
    rw [T.put]
    split
    · rename_i c hc
      have hlt : (k - 1).toNat < t.ks.length := by
        rcases Nat.lt_or_ge (k - 1).toNat t.ks.length with h | h
        · exact h
        · rw [List.getElem?_eq_none h] at hc; simp at hc
      rw [List.getElem?_eq_getElem hlt] at hc
      simp only [Option.some.injEq] at hc
      have a := sizes_set hlt (T.put s c p)
      have b := ih c
      rw [hc] at a
      rw [T.size_mk, T.size_eq]; omega
    · omega
theorem walk_size : ∀ (p : List Int) (t s : T), t.walk p = some s → s.size ≤ t.size := by
  intro p
  induction p with
  | nil => intro t s h; simp [T.walk] at h; subst h; omega
  | cons k p ih =>
    intro t s h
    rw [T.walk] at h
    split at h
    · split at h
      · rename_i c hc
        have hlt : (k - 1).toNat < t.ks.length := by
          rcases Nat.lt_or_ge (k - 1).toNat t.ks.length with h | h
          · exact h
          · rw [List.getElem?_eq_none h] at hc; simp at hc
        rw [List.getElem?_eq_getElem hlt] at hc
        simp only [Option.some.injEq] at hc
        have a := ih c s h
        have b := T.size_kid hlt
        have c' := t.size_eq
        rw [hc] at b; omega
      · simp at h
    · simp at h
theorem stands_size {f : Fa} {p : List Int} {s : T} (h : f.stands p = some s) : s.size ≤ f.l.size + f.r.size := by
  cases p with
  | nil => simp [Fa.stands] at h
  | cons k p =>
    have h' : (if k = 1 then f.l.walk p else if k = 2 then f.r.walk p else none) = some s := h
    split at h'
    · have := walk_size _ _ _ h'; omega
    · split at h'
      · have := walk_size _ _ _ h'; omega
      · simp at h'
theorem changed_size (f : Fa) (p : List Int) (s : T) : (f.changed p s).l.size ≤ f.l.size + s.size ∧ (f.changed p s).r.size ≤ f.r.size + s.size := by
  cases p with
  | nil => simp only [Fa.changed]; omega
  | cons k p =>
    simp only [Fa.changed]
    split
    · simp only; exact ⟨put_size _ _ _, by omega⟩
    · simp only; exact ⟨by omega, put_size _ _ _⟩

/-! ### claims that are in order -/
theorem nd_small (t : T) : ∀ p, (t.nd p).1 = 0 → t.small := by
  induction t using T.ind' with
  | h t ih =>
    intro p h
    rw [T.nd_eq] at h
    split at h
    · simp at h
    · rename_i hh
      split at h
      · simp at h
      · refine T.small_of (by omega) ?_
        generalize t.ks = ks at ih h
        induction ks generalizing p with
        | nil => simp
        | cons k ks ihk =>
          rw [T.nds] at h
          split at h
          · rename_i hz
            intro x hx
            rcases List.mem_cons.1 hx with rfl | hx
            · exact ih _ (List.mem_cons_self ..) _ hz
            · exact ihk _ (fun y hy => ih y (List.mem_cons_of_mem _ hy)) h x hx
          · rename_i hz; exact absurd h hz
def T.good (t : T) : Prop := t.size ≤ 40 ∧ t.small
theorem bad_good {t : T} (h : t.bad.1 = 0) : t.good := by
  unfold T.bad at h
  split at h
  · simp at h
  · split at h
    · simp at h
    · split at h
      · rename_i a b c; exact ⟨by omega, nd_small t 0 c⟩
      · rename_i a b c; exact absurd h c
def Cl.good (c : Cl) : Prop := c.fs.length ≤ 6 ∧ ∀ f ∈ c.fs, f.l.good ∧ f.r.good
theorem first_zero {α : Type} {g : α → Int} {l : List α} (h : first g l = 0) : ∀ a ∈ l, g a = 0 := by
  induction l with
  | nil => simp
  | cons a l ih =>
    rw [first] at h
    split at h
    · rename_i hz
      intro x hx
      rcases List.mem_cons.1 hx with rfl | hx
      · exact hz
      · exact ih h x hx
    · rename_i hz; exact absurd h hz
theorem chk_trees {ar : List Int} {c : Cl} (h : c.chk ar = 0) : c.fs.length ≤ 6 ∧ ∀ f ∈ c.fs, f.l.chk ar = 0 ∧ f.r.chk ar = 0 := by
  unfold Cl.chk at h
  split at h
  · simp at h
  · have := first_zero h
    refine ⟨by omega, fun f hf => ⟨this _ ?_, this _ ?_⟩⟩
    · exact List.mem_flatMap.2 ⟨f, hf, by simp⟩
    · exact List.mem_flatMap.2 ⟨f, hf, by simp⟩
theorem tchk_bad {ar : List Int} {t : T} (h : t.chk ar = 0) : t.bad.1 = 0 ∧ t.sg ar = 0 := by
  unfold T.chk at h
  split at h
  · rename_i a; exact ⟨a, h⟩
  · rename_i a; exact absurd h a
theorem chk_good {ar : List Int} {c : Cl} (h : c.chk ar = 0) : c.good := by
  have := chk_trees h
  exact ⟨this.1, fun f hf => ⟨bad_good (tchk_bad (this.2 f hf).1).1, bad_good (tchk_bad (this.2 f hf).2).1⟩⟩
theorem Cl.good_fin {c : Cl} (h : c.good) : c.fin := ⟨by have := h.1; omega, fun f hf => by have := h.2 f hf; exact ⟨by have := this.1.1; omega, by have := this.2.1; omega⟩⟩

theorem firstAt_zero {α : Type} {g : α → Int} {l : List α} {k : Int} (h : (firstAt g l k).1 = 0) : firstAt g l k = (0, 0) := by
  induction l generalizing k with
  | nil => rfl
  | cons a l ih =>
    rw [firstAt] at h ⊢
    split at h
    · rename_i hz; rw [if_pos hz]; exact ih h
    · rename_i hz; exact absurd h hz
theorem firstAt_all {α : Type} {g : α → Int} {l : List α} {k : Int} (h : (firstAt g l k).1 = 0) : ∀ a ∈ l, g a = 0 := by
  induction l generalizing k with
  | nil => simp
  | cons a l ih =>
    rw [firstAt] at h
    split at h
    · rename_i hz
      intro x hx
      rcases List.mem_cons.1 hx with rfl | hx
      · exact hz
      · exact ih h x hx
    · rename_i hz; exact absurd h hz
theorem Lo.chk_zero {l : Lo} (h : l.chk.1 = 0) : l.chk = (0, 0) := by
  unfold Lo.chk at h ⊢
  split at h
  · simp at h
  · rename_i a
    rw [if_neg a]
    split at h
    · rename_i b; rw [if_pos b]; exact firstAt_zero h
    · rename_i b; exact absurd h b
theorem Lo.chk_cs {l : Lo} (h : l.chk.1 = 0) : l.ar.length ≤ 12 ∧ l.cs.length ≤ 60 ∧ (∀ n ∈ l.ar, 0 ≤ n ∧ n ≤ 3) ∧ ∀ c ∈ l.cs, c.chk l.ar = 0 := by
  unfold Lo.chk at h
  split at h
  · simp at h
  · rename_i a
    split at h
    · rename_i b
      refine ⟨by omega, by omega, ?_, firstAt_all h⟩
      intro n hn
      have := firstAt_all b n hn
      unfold arOk at this
      split at this
      · assumption
      · simp at this
    · rename_i b; exact absurd h b
theorem Lo.one_chk {l : Lo} {c : Cl} (h : l.chk.1 = 0) : (Lo.mk l.anil l.ar false [c]).chk.1 = c.chk l.ar := by
  obtain ⟨h1, h2, h3, h4⟩ := Lo.chk_cs h
  have hb : (firstAt arOk l.ar 0).1 = 0 := by
    unfold Lo.chk at h
    rw [if_neg (by omega)] at h
    split at h
    · assumption
    · rename_i b; exact absurd h b
  unfold Lo.chk
  simp only [List.length_cons, List.length_nil]
  rw [if_neg (by omega), if_pos hb]
  simp only [firstAt]
  split
  · rename_i e; rw [e]
  · rfl

def Lo.done (l : Lo) (c : Cl) : Cl × Int := if (Lo.mk l.anil l.ar false [c]).chk.1 = 0 then (c.turn T.copy, 0) else (nilC, 10)
def Lo.next (l : Lo) (had : List Cl) (g : Gt) : Cl × Int :=
  if 1 ≤ g.kind ∧ g.kind ≤ 4 then
    match (if g.kind = 1 then l.cs else had)[g.a.toNat]? with
    | none => (nilC, 3)
    | some a =>
      if 0 ≤ g.a then
        if g.kind = 1 then l.done a
        else if g.kind = 2 then (if (binds g.bind).1 = 0 then l.done (a.turn (T.bound g.bind)) else (nilC, (binds g.bind).1))
        else if g.kind = 3 then match had[g.b.toNat]? with
          | none => (nilC, 3)
          | some b => if 0 ≤ g.b then (if (g.right a b).2 = 0 then l.done (g.right a b).1 else (nilC, (g.right a b).2)) else (nilC, 3)
        else l.done a.once
      else (nilC, 3)
  else (nilC, 4)

end Go.Proofs.Ytmbdccekcfeomaa.Am
end
