/- The search: single, whole. -/
import Derived.Test.YtmbdccekcfeomaaT39
section
open Go
namespace Go.Proofs.Ytmbdccekcfeomaa.Am
set_option linter.unusedSimpArgs false
set_option linter.unusedVariables false
set_option maxRecDepth 20000

/-- The search and two cells beside it. -/
def Inn (lo sid : Nat) (l : Lo) (x : SI) (s : SS) (H : Nat → Option Obj) (nx v p m : Nat) (H' : Nat → Option Obj) (nx' : Nat) (x' : SI) (s' : SS) : Prop :=
  SP lo sid l x s H nx H' nx' x' s' ∧ Side H' nx' sid x' v (.arr 1 [.int .i64 m]) ∧ Side H' nx' sid x' p (.arr 1 [.ptr sid 0 0])
theorem Inn.more {lo sid nx v p m n' n'' : Nat} {l : Lo} {x x' : SI} {s s' : SS} {H H' : Nat → Option Obj} (h : Inn lo sid l x s H nx v p m H' n' x' s') (hn : n' ≤ n'') : Inn lo sid l x s H nx v p m H' n'' x' s' :=
  ⟨h.1.more hn (fun _ _ => rfl), h.2.1.keep hn (fun _ _ => rfl), h.2.2.keep hn (fun _ _ => rfl)⟩
theorem inn_call {lo sid wl nx v p m n' n'' : Nat} {l : Lo} {x x' : SI} {s s' : SS} {H H' : Nat → Option Obj} (hl : l.fin) (h0 : l.chk.1 = 0) (hwl : wl ≤ lo) (hwn : wl ≤ nx) {k : Nat} (hk : k < s.had.length) (hm : m ≤ 8)
    (h : Inn lo sid l x s H nx v p m H' n' x' s') (hn : n' ≤ n'') {a b : T} (ha : a.vt m) (hb : b.vt m) (sa : a.size ≤ 100) (sb : b.size ≤ 100) :
    Call tab wl 78 [a.av, b.av, .ptr v 0 0, .ptr p 0 0, .fptr (.int .i64 k) 0] H' n'' fun r H2 n2 => ∃ x2 s2 bb, Inn lo sid l x s H nx v p m H2 n2 x2 s2 ∧ n'' ≤ n2 ∧ r = .bool bb ∧ (bb = true → endsB s2.had = true) := by
  have hi := h.more hn
  have e1 := h.1.2.2.had
  have e2 := h.1.2.2.le
  obtain ⟨r, H2, n2, hc, x2, s2, bb, hsp, hr, hb⟩ := single1_spec hl h0 hi.1.1 hi.1.2.1 hwl (k := k) (by omega) (by omega) hi.2.1 hi.2.2 hm ha hb sa sb
  exact ⟨r, H2, n2, hc, x2, s2, bb, ⟨SP.trans hi.1 hsp (Nat.le_refl _) (fun _ _ => rfl), hi.2.1.ev hsp.2.2, hi.2.2.ev hsp.2.2⟩, hsp.2.2.le, hr, hb⟩

theorem pair_size (a b : T) : (T.pair a b).size = 1 + (a.size + b.size) := by
  rw [T.size_eq]; simp [T.pair, T.ks, T.sizes]; omega
theorem single_in {lo sid wl nx v p m : Nat} {l : Lo} {x : SI} {s : SS} {H : Nat → Option Obj} (hl : l.fin) (h0 : l.chk.1 = 0) (hwl : wl ≤ lo) (hwn : wl ≤ nx) {k : Nat} (hk : k < s.had.length) (hm : m ≤ 8)
    {f : Fa} (hfo : f.l.ok ∧ f.r.ok) (vl : f.l.vt m) (vr : f.r.vt m) {gs : List Fa} (hgl : gs.length < 4294967296) (hgs : ∀ g ∈ gs, (g.l.ok ∧ g.r.ok) ∧ g.l.vt m ∧ g.r.vt m) {Q : AExit → St → Prop}
    {e : Nat → AV} {lc : Nat → Option (Nat × AV)} {H' : Nat → Option Obj} {n : Nat} {x' : SI} {s' : SS} (hI : Inn lo sid l x s H nx v p m H' n x' s') (e7 : e 7 = .clo 78 [.ptr v 0 0, .ptr p 0 0, .fptr (.int .i64 k) 0]) (h9 : ∃ m9, e 9 = .loc 9 m9 0 ∧ lc 9 = some (m9, f.av))
    (e43 : e 43 = .slice 5 (gs.map Fa.av)) (e44 : e 44 = .int .i64 gs.length) (e45 : e 45 = .int .i64 0)
    (hN : ∀ e' lc' H'' n' x' s', Inn lo sid l x s H nx v p m H'' n' x' s' → e' 5 = e 5 → e' 7 = e 7 → e' 23 = e 23 → e' 24 = e 24 → e' 25 = e 25 → lc' 5 = lc 5 → Q .normal ⟨e', lc', H'', n'⟩)
    (hR : ∀ e' lc' H'' n' x' s', SP lo sid l x s H nx H'' n' x' s' → e' 4 = .bool true → endsB s'.had = true → Q .ret ⟨e', lc', H'', n'⟩) :
    W tab wl (.block 2
          (.loop (.seq (.region none [
            ⟨some 46, .bin .lss (.t 45) (.t 44), none, []⟩])
            (.seq (.cond (.t 46)
              .skip
              (.exit 2))
            (.seq (.block 3
              (.seq (.region none [
              ⟨some 47, .iaddr 5 (.t 43) (.t 45), none, []⟩,
              ⟨some 48, .load 5 true (.t 47), none, []⟩,
              ⟨some 11, .lalloc (.agg [(.bool false), (.int .i64 0), .nilSlice, (.int .i64 0), .nilSlice]), none, []⟩,
              ⟨none, .store 5 (.t 11) (.t 48), none, []⟩])
              (.seq (.region (some [0, 1, 0, 4, 15, 31, 63, 127, 63, 319, 1023, 2047, 4095, 4095, 12287, 4095, 36863, 131071, 262143, 524287, 1048575, 2097151, 1048575, 5242879, 16777215, 33554431, 67108863, 134217727, 134217727, 402653183, 134217727, 1207959551, 4160749567, 134217727, 8724152319, 134217727, 34493956095, 137304735743, 274877906943, 549755813887, 1099511627775, 2199023255551, 4398046511103, 4398046511103, 13194139533311, 4398046511103, 39582418599935, 136339441844223, 4398046511103, 285873023221759, 4398046511103, 1130297953353727, 4499201580859391, 9007199254740991, 18014398509481983, 36028797018963967]) [
              ⟨some 49, .faddr 0 (.t 9), none, []⟩,
              ⟨some 50, .load 1 false (.t 49), none, []⟩,
              ⟨some 51, .faddr 0 (.t 11), none, []⟩,
              ⟨some 52, .load 1 false (.t 51), none, []⟩,
              ⟨some 53, .eqb false (.t 50) (.t 52), none, []⟩,
              ⟨some 54, .mov (.t 53), none, []⟩,
              ⟨some 55, .faddr 1 (.t 9), some (54, true), []⟩,
              ⟨some 56, .load 2 true (.t 55), some (54, true), []⟩,
              ⟨some 57, .faddr 1 (.t 11), some (54, true), []⟩,
              ⟨some 58, .load 2 true (.t 57), some (54, true), []⟩,
              ⟨some 59, .call (.c (.clo 72 [])) [(.t 56), (.t 58)], some (54, true), []⟩,
              ⟨some 60, .mov (.t 59), some (54, true), []⟩,
              ⟨some 61, .mov (.t 7), some (60, true), []⟩,
              ⟨some 62, .faddr 3 (.t 9), some (60, true), []⟩,
              ⟨some 63, .load 2 true (.t 62), some (60, true), []⟩,
              ⟨some 64, .faddr 3 (.t 11), some (60, true), []⟩,
              ⟨some 65, .load 2 true (.t 64), some (60, true), []⟩,
              ⟨some 66, .call (.t 61) [(.t 63), (.t 65)], some (60, true), []⟩,
              ⟨some 67, .pick (.t 60) (.t 66) (.c (.bool false)), some (54, true), []⟩,
              ⟨some 68, .mov (.t 67), some (54, true), []⟩,
              ⟨some 69, .faddr 1 (.t 9), some (68, false), []⟩,
              ⟨some 70, .load 2 true (.t 69), some (68, false), []⟩,
              ⟨some 71, .faddr 1 (.t 11), some (68, false), []⟩,
              ⟨some 72, .load 2 true (.t 71), some (68, false), []⟩,
              ⟨some 73, .call (.c (.clo 72 [])) [(.t 70), (.t 72)], some (68, false), []⟩,
              ⟨some 74, .un .not (.t 73), some (68, false), []⟩,
              ⟨some 75, .mov (.t 74), some (68, false), []⟩,
              ⟨some 76, .mov (.t 7), some (75, true), []⟩,
              ⟨some 77, .faddr 1 (.t 9), some (75, true), []⟩,
              ⟨some 78, .load 2 true (.t 77), some (75, true), []⟩,
              ⟨some 79, .faddr 3 (.t 9), some (75, true), []⟩,
              ⟨some 80, .load 2 true (.t 79), some (75, true), []⟩,
              ⟨some 81, .call (.c (.clo 80 [])) [(.t 78), (.t 80)], some (75, true), []⟩,
              ⟨some 82, .faddr 1 (.t 11), some (75, true), []⟩,
              ⟨some 83, .load 2 true (.t 82), some (75, true), []⟩,
              ⟨some 84, .faddr 3 (.t 11), some (75, true), []⟩,
              ⟨some 85, .load 2 true (.t 84), some (75, true), []⟩,
              ⟨some 86, .call (.c (.clo 80 [])) [(.t 83), (.t 85)], some (75, true), []⟩,
              ⟨some 87, .call (.t 76) [(.t 81), (.t 86)], some (75, true), []⟩,
              ⟨some 88, .pick (.t 75) (.t 87) (.c (.bool false)), some (68, false), []⟩,
              ⟨some 89, .pick (.t 68) (.c (.bool true)) (.t 88), some (54, true), []⟩,
              ⟨some 90, .mov (.t 89), some (54, true), []⟩,
              ⟨some 91, .mov (.t 7), some (90, false), []⟩,
              ⟨some 92, .faddr 1 (.t 9), some (90, false), []⟩,
              ⟨some 93, .load 2 true (.t 92), some (90, false), []⟩,
              ⟨some 94, .faddr 3 (.t 9), some (90, false), []⟩,
              ⟨some 95, .load 2 true (.t 94), some (90, false), []⟩,
              ⟨some 96, .call (.c (.clo 80 [])) [(.t 93), (.t 95)], some (90, false), []⟩,
              ⟨some 97, .faddr 3 (.t 11), some (90, false), []⟩,
              ⟨some 98, .load 2 true (.t 97), some (90, false), []⟩,
              ⟨some 99, .faddr 1 (.t 11), some (90, false), []⟩,
              ⟨some 100, .load 2 true (.t 99), some (90, false), []⟩,
              ⟨some 101, .call (.c (.clo 80 [])) [(.t 98), (.t 100)], some (90, false), []⟩,
              ⟨some 102, .call (.t 91) [(.t 96), (.t 101)], some (90, false), []⟩,
              ⟨some 103, .pick (.t 90) (.c (.bool true)) (.t 102), some (54, true), []⟩,
              ⟨some 104, .pick (.t 54) (.t 103) (.c (.bool false)), none, []⟩])
              (.cond (.t 104)
                (.seq (.region none [
                ⟨some 4, .mov (.c (.bool true)), none, []⟩])
                .ret)
                .skip))))
            (.region none [
            ⟨some 105, .bin .add (.t 45) (.c (.int .i64 1)), none, []⟩,
            ⟨some 45, .mov (.t 105), none, []⟩])))))) ⟨e, lc, H', n⟩ Q := by
  obtain ⟨m9, e9, l9⟩ := h9
  refine W_block.2 ?_
  refine W_count gs.length (fun j e' lc' H' n => ∃ x' s', Inn lo sid l x s H nx v p m H' n x' s' ∧ e' 5 = e 5 ∧ e' 7 = e 7 ∧ e' 23 = e 23 ∧ e' 24 = e 24 ∧ e' 25 = e 25 ∧ lc' 5 = lc 5 ∧ e' 9 = e 9 ∧ lc' 9 = lc 9 ∧ e' 43 = e 43 ∧ e' 44 = e 44 ∧ e' 45 = .int .i64 j) ?_ ?_ ?_
  · exact ⟨x', s', hI, rfl, rfl, rfl, rfl, rfl, rfl, rfl, rfl, rfl, rfl, e45⟩
  · rintro j e' lc' H' n hj ⟨x', s', hI, b5, b7, b23, b24, b25, c5, b9, c9, b43, b44, b45⟩
    rw [e7] at b7
    rw [e9] at b9
    rw [l9] at c9
    rw [e43] at b43
    rw [e44] at b44
    have hig : ∀ H, iaddrV H 5 (.slice 5 (gs.map Fa.av)) (.int .i64 j) = some (.fptr gs[j].av 0) := fun H => iaddr_map (nil := false) hj
    have hgo := hgs _ (List.getElem_mem hj)
    have hwj := wrap_succ hj (by omega)
    generalize gs[j] = g at hig hgo
    have hsame := same_spec f.l g.l (by have := hfo.1.1; omega)
    have kl : f.l.size ≤ 40 := hfo.1.1
    have kr : f.r.size ≤ 40 := hfo.2.1
    have gl : g.l.size ≤ 40 := hgo.1.1.1
    have gr : g.r.size ≤ 40 := hgo.1.2.1
    have hpf := pair_spec f.l f.r
    have hpg := pair_spec g.l g.r
    have hpg2 := pair_spec g.r g.l
    have sf : (T.pair f.l f.r).size ≤ 100 := by rw [pair_size]; omega
    have sg : (T.pair g.l g.r).size ≤ 100 := by rw [pair_size]; omega
    have sg2 : (T.pair g.r g.l).size ≤ 100 := by rw [pair_size]; omega
    cases q1 : (f.n == g.n)
    · simp only [↓sd0, su0, su1, resOf, pack, eqCells, ↓reduceIte, Nat.reduceEqDiff, Nat.reduceAdd, Nat.reduceLeDiff, Nat.reduceLT, reduceCtorEq, dr0, Nat.reducePow, Nat.reduceDiv, Nat.reduceMod, Nat.reduceBEq, b7, b9, c9, b43, b44, b45, lt_cast hj, hig, q1, hwj]
      exact ⟨x', s', hI.more (by omega), b5, e7.symm, b23, b24, b25, c5, e9.symm, l9.symm, e43.symm, e44.symm⟩
    · cases q2 : f.l.same g.l
      · rw [q2] at hsame
        simp only [↓sd0, su0, su1, resOf, pack, eqCells, ↓reduceIte, Nat.reduceEqDiff, Nat.reduceAdd, Nat.reduceLeDiff, Nat.reduceLT, reduceCtorEq, dr0, Nat.reducePow, Nat.reduceDiv, Nat.reduceMod, Nat.reduceBEq, b7, b9, c9, b43, b44, b45, lt_cast hj, hig, q1, q2, hsame.callK, hpf.callK, hpg.callK, hpg2.callK, hwj]
        refine CallK_of (inn_call hl h0 hwl hwn hk hm hI (by omega) (pair_vt vl vr) (pair_vt hgo.2.1 hgo.2.2) sf sg) ?_
        rintro r H2 n2 ⟨x2, s2, bb, hI2, hn2, rfl, hbb⟩
        cases bb
        · simp only [↓sd0, su0, su1, resOf, pack, eqCells, ↓reduceIte, Nat.reduceEqDiff, Nat.reduceAdd, Nat.reduceLeDiff, Nat.reduceLT, reduceCtorEq, dr0, Nat.reducePow, Nat.reduceDiv, Nat.reduceMod, Nat.reduceBEq, b7, b9, c9, b43, b44, b45, lt_cast hj, hig, q1, q2, hsame.callK, hpf.callK, hpg.callK, hpg2.callK, hwj]
          refine CallK_of (inn_call hl h0 hwl hwn hk hm hI2 (by omega) (pair_vt vl vr) (pair_vt hgo.2.2 hgo.2.1) sf sg2) ?_
          rintro r H3 n3 ⟨x3, s3, bb, hI3, hn3, rfl, hbb⟩
          cases bb
          · simp only [↓sd0, su0, su1, resOf, pack, eqCells, ↓reduceIte, Nat.reduceEqDiff, Nat.reduceAdd, Nat.reduceLeDiff, Nat.reduceLT, reduceCtorEq, dr0, Nat.reducePow, Nat.reduceDiv, Nat.reduceMod, Nat.reduceBEq, b7, b9, c9, b43, b44, b45, lt_cast hj, hig, q1, q2, hsame.callK, hpf.callK, hpg.callK, hpg2.callK, hwj]
            exact ⟨x3, s3, hI3.more (by omega), b5, e7.symm, b23, b24, b25, c5, e9.symm, l9.symm, e43.symm, e44.symm⟩
          · simp only [↓sd0, su0, su1, resOf, pack, eqCells, ↓reduceIte, Nat.reduceEqDiff, Nat.reduceAdd, Nat.reduceLeDiff, Nat.reduceLT, reduceCtorEq, dr0, Nat.reducePow, Nat.reduceDiv, Nat.reduceMod, Nat.reduceBEq, b7, b9, c9, b43, b44, b45, lt_cast hj, hig, q1, q2, hsame.callK, hpf.callK, hpg.callK, hpg2.callK, hwj]
            exact hR _ _ _ _ x3 s3 (hI3.1.more (by omega) (fun _ _ => rfl)) rfl (hbb rfl)
        · simp only [↓sd0, su0, su1, resOf, pack, eqCells, ↓reduceIte, Nat.reduceEqDiff, Nat.reduceAdd, Nat.reduceLeDiff, Nat.reduceLT, reduceCtorEq, dr0, Nat.reducePow, Nat.reduceDiv, Nat.reduceMod, Nat.reduceBEq, b7, b9, c9, b43, b44, b45, lt_cast hj, hig, q1, q2, hsame.callK, hpf.callK, hpg.callK, hpg2.callK, hwj]
          exact hR _ _ _ _ x2 s2 (hI2.1.more (by omega) (fun _ _ => rfl)) rfl (hbb rfl)
      · rw [q2] at hsame
        simp only [↓sd0, su0, su1, resOf, pack, eqCells, ↓reduceIte, Nat.reduceEqDiff, Nat.reduceAdd, Nat.reduceLeDiff, Nat.reduceLT, reduceCtorEq, dr0, Nat.reducePow, Nat.reduceDiv, Nat.reduceMod, Nat.reduceBEq, b7, b9, c9, b43, b44, b45, lt_cast hj, hig, q1, q2, hsame.callK, hpf.callK, hpg.callK, hpg2.callK, hwj]
        refine CallK_of (inn_call hl h0 hwl hwn hk hm hI (by omega) vr hgo.2.2 (by omega) (by omega)) ?_
        rintro r H2 n2 ⟨x2, s2, bb, hI2, hn2, rfl, hbb⟩
        cases bb
        · simp only [↓sd0, su0, su1, resOf, pack, eqCells, ↓reduceIte, Nat.reduceEqDiff, Nat.reduceAdd, Nat.reduceLeDiff, Nat.reduceLT, reduceCtorEq, dr0, Nat.reducePow, Nat.reduceDiv, Nat.reduceMod, Nat.reduceBEq, b7, b9, c9, b43, b44, b45, lt_cast hj, hig, q1, q2, hsame.callK, hpf.callK, hpg.callK, hpg2.callK, hwj]
          refine CallK_of (inn_call hl h0 hwl hwn hk hm hI2 (by omega) (pair_vt vl vr) (pair_vt hgo.2.2 hgo.2.1) sf sg2) ?_
          rintro r H3 n3 ⟨x3, s3, bb, hI3, hn3, rfl, hbb⟩
          cases bb
          · simp only [↓sd0, su0, su1, resOf, pack, eqCells, ↓reduceIte, Nat.reduceEqDiff, Nat.reduceAdd, Nat.reduceLeDiff, Nat.reduceLT, reduceCtorEq, dr0, Nat.reducePow, Nat.reduceDiv, Nat.reduceMod, Nat.reduceBEq, b7, b9, c9, b43, b44, b45, lt_cast hj, hig, q1, q2, hsame.callK, hpf.callK, hpg.callK, hpg2.callK, hwj]
            exact ⟨x3, s3, hI3.more (by omega), b5, e7.symm, b23, b24, b25, c5, e9.symm, l9.symm, e43.symm, e44.symm⟩
          · simp only [↓sd0, su0, su1, resOf, pack, eqCells, ↓reduceIte, Nat.reduceEqDiff, Nat.reduceAdd, Nat.reduceLeDiff, Nat.reduceLT, reduceCtorEq, dr0, Nat.reducePow, Nat.reduceDiv, Nat.reduceMod, Nat.reduceBEq, b7, b9, c9, b43, b44, b45, lt_cast hj, hig, q1, q2, hsame.callK, hpf.callK, hpg.callK, hpg2.callK, hwj]
            exact hR _ _ _ _ x3 s3 (hI3.1.more (by omega) (fun _ _ => rfl)) rfl (hbb rfl)
        · simp only [↓sd0, su0, su1, resOf, pack, eqCells, ↓reduceIte, Nat.reduceEqDiff, Nat.reduceAdd, Nat.reduceLeDiff, Nat.reduceLT, reduceCtorEq, dr0, Nat.reducePow, Nat.reduceDiv, Nat.reduceMod, Nat.reduceBEq, b7, b9, c9, b43, b44, b45, lt_cast hj, hig, q1, q2, hsame.callK, hpf.callK, hpg.callK, hpg2.callK, hwj]
          exact hR _ _ _ _ x2 s2 (hI2.1.more (by omega) (fun _ _ => rfl)) rfl (hbb rfl)
  · rintro e' lc' H' n ⟨x', s', hI, b5, b7, b23, b24, b25, c5, b9, c9, b43, b44, b45⟩
    rw [e44] at b44
    have q : decide (((gs.length : Nat) : Int) < gs.length) = false := by simp
    simp only [↓sd0, su0, su1, resOf, pack, eqCells, ↓reduceIte, Nat.reduceEqDiff, Nat.reduceAdd, Nat.reduceLeDiff, Nat.reduceLT, reduceCtorEq, b44, b45, q]
    refine hN _ _ _ _ x' s' (hI.more (by omega)) ?_ ?_ ?_ ?_ ?_ ?_
    all_goals first | assumption | (simp only [↓sd0, su0, su1, resOf, pack, eqCells, ↓reduceIte, Nat.reduceEqDiff, Nat.reduceAdd, Nat.reduceLeDiff, Nat.reduceLT, reduceCtorEq]; assumption)

theorem single_spec {lo sid wl nx : Nat} {l : Lo} {x : SI} {s : SS} {H : Nat → Option Obj} (hl : l.fin) (h0 : l.chk.1 = 0) (hs : Srch H lo nx sid l x s) (hg : Gd l s) (hwl : wl ≤ lo) {k : Nat} (hk : k < s.had.length) (hwn : wl ≤ nx) :
    Call tab wl 50 [.ptr sid 0 0, .int .i64 k] H nx fun r H' nx' => KeepR lo sid l x s H nx r H' nx' := by
  refine call_mut tab_50 ?_
  unfold body50
  dsimp only [qm, qf, ql, qL, qs, qc, qk, qi, qn, qb, qB, qe, qx, qo, qg]
  simp only [start2]
  have hobj := hs.obj
  unfold sobj at hobj
  have hh := hs.had_at hk
  have hko := hg.ok _ (List.getElem_mem hk)
  have hcm := cmost_ok hko
  have hmk := most_ok hko
  generalize hc : s.had[k] = c at *
  have hsn : ∀ j, ¬ (sid = nx + j) := fun j => by have := hs.lt; omega
  have hin : ∀ j, ¬ (x.i3 = nx + j) := fun j => by have := hs.lt; omega
  have hia : ∀ (H1 : Nat → Option Obj), (∀ j, j < nx → H1 j = H j) → iaddrV H1 1 (lv x.i3 s.had.length) (.int .i64 k) = some (.ptr x.i3 k 0) := fun H1 hf => by
    have := (hs.keep hf).had_at hk; exact this.1
  have hia2 := fun o => hia (upd H nx o) (fun j hj => upd_other _ _ (by omega))
  have cl0 : c.fs.length < 4294967296 := by have := hko.1; omega
  have hwq : ∀ k, wl ≤ nx + k := fun k => by omega
  have hs0 : ¬ (sid = nx) := by have := hsn 0; simpa using this
  have hi0 : ¬ (x.i3 = nx) := by have := hin 0; simpa using this
  simp only [↓sd0, su0, su1, resOf, pack, eqCells, ↓reduceIte, Nat.reduceEqDiff, Nat.reduceAdd, Nat.reduceLeDiff, Nat.reduceLT, reduceCtorEq, dr0, Nat.reducePow, Nat.reduceDiv, Nat.reduceMod, Nat.reduceBEq, hobj, hh.1, hh.2, part_ptr, hsn, hs0, hi0, hin, hia2, hcm.callK, hwq, true_and]
  have hlt := hs.lt
  refine W_count c.fs.length (fun i e lc H' n => ∃ x' s', Inn lo sid l x s H nx (nx + 14) nx c.most H' n x' s' ∧ (∃ m, e 5 = .loc 5 m 0 ∧ lc 5 = some (m, c.av)) ∧ e 7 = .clo 78 [.ptr (nx + 14) 0 0, .ptr nx 0 0, .fptr (.int .i64 k) 0] ∧ e 23 = sl 5 c.nil (c.fs.map Fa.av) ∧ e 24 = .int .i64 c.fs.length ∧ e 25 = .int .i64 i) ?_ ?_ ?_
  · simp only [↓sd0, su0, su1, resOf, pack, eqCells, ↓reduceIte, Nat.reduceEqDiff, Nat.reduceAdd, Nat.reduceLeDiff, Nat.reduceLT, reduceCtorEq]
    refine ⟨x, s, ⟨SP.start hs hg (by omega) (fun j hj => by rw [upd_other _ _ (by omega), upd_other _ _ (by omega), upd_other _ _ (by omega)]), ⟨upd_same _ _ _, by omega, by omega⟩, ⟨by rw [upd_other _ _ (by omega), upd_other _ _ (by omega), upd_same], by omega, by omega⟩⟩, _, rfl, rfl⟩
  · rintro i e lc H' n hi ⟨x', s', hI, ⟨m5, e5, l5⟩, e7, e23, e24, e25⟩
    have hfo := hko.2 _ (List.getElem_mem hi)
    have hfm := mostsF_mem (List.getElem_mem hi)
    have hif : ∀ H, iaddrV H 5 (sl 5 c.nil (c.fs.map Fa.av)) (.int .i64 i) = some (.fptr c.fs[i].av 0) := fun H => iaddr_map hi
    have hsl : ∀ H, sliceV H 5 (sl 5 c.nil (c.fs.map Fa.av)) (some 0) (fun _ => some i) = some (.slice 5 ((c.fs.take i).map Fa.av)) := fun H => by rw [List.map_take]; exact sliceV_take (by simpa using hi)
    have hwi := wrap_succ hi (by omega)
    generalize hff : c.fs[i] = f at hfo hfm hif
    have vl : f.l.vt c.most := vt_le _ hfo.1.2 hfm.1
    have vr : f.r.vt c.most := vt_le _ hfo.2.2 hfm.2
    have hlen : (c.fs.take i).length = i := by rw [List.length_take]; omega
    have hgs : ∀ g ∈ c.fs.take i, (g.l.ok ∧ g.r.ok) ∧ g.l.vt c.most ∧ g.r.vt c.most := fun g hg' => by
      have hm := List.mem_of_mem_take hg'
      have h1 := hko.2 g hm
      have h2 := mostsF_mem hm
      exact ⟨h1, vt_le _ h1.1.2 h2.1, vt_le _ h1.2.2 h2.2⟩
    have hin2 := fun {Q e lc H' n} => @single_in lo sid wl nx (nx + 14) nx c.most l x s H hl h0 hwl hwn k hk hmk f hfo vl vr (c.fs.take i) (by omega) hgs Q e lc H' n
    rw [hlen] at hin2
    cases hfn : f.n
    · simp only [↓sd0, su0, su1, resOf, pack, eqCells, ↓reduceIte, Nat.reduceEqDiff, Nat.reduceAdd, Nat.reduceLeDiff, Nat.reduceLT, reduceCtorEq, e5, l5, e7, e23, e24, e25, lt_cast hi, hif, hsl, hfn]
      refine W_block.1 (hin2 (n := _) (hI.more (by omega)) ?_ ?_ ?_ ?_ ?_ ?_ ?_)
      · simp only [↓sd0, su0, su1, resOf, pack, eqCells, ↓reduceIte, Nat.reduceEqDiff, Nat.reduceAdd, Nat.reduceLeDiff, Nat.reduceLT, reduceCtorEq, e7]
      · simp only [↓sd0, su0, su1, resOf, pack, eqCells, ↓reduceIte, Nat.reduceEqDiff, Nat.reduceAdd, Nat.reduceLeDiff, Nat.reduceLT, reduceCtorEq]; exact ⟨_, rfl, rfl⟩
      · simp only [↓sd0, su0, su1, resOf, pack, eqCells, ↓reduceIte, Nat.reduceEqDiff, Nat.reduceAdd, Nat.reduceLeDiff, Nat.reduceLT, reduceCtorEq]
      · simp only [↓sd0, su0, su1, resOf, pack, eqCells, ↓reduceIte, Nat.reduceEqDiff, Nat.reduceAdd, Nat.reduceLeDiff, Nat.reduceLT, reduceCtorEq, hlen]
      · simp only [↓sd0, su0, su1, resOf, pack, eqCells, ↓reduceIte, Nat.reduceEqDiff, Nat.reduceAdd, Nat.reduceLeDiff, Nat.reduceLT, reduceCtorEq]
      · intro e' lc' H3 n' x3 s3 hI3 b5 b7 b23 b24 b25 c5
        simp only [↓sd0, su0, su1, resOf, pack, eqCells, ↓reduceIte, Nat.reduceEqDiff, Nat.reduceAdd, Nat.reduceLeDiff, Nat.reduceLT, reduceCtorEq, e5, l5, e7, e23, e24, e25] at b5 b7 b23 b24 b25 c5
        simp only [↓sd0, su0, su1, resOf, pack, eqCells, ↓reduceIte, Nat.reduceEqDiff, Nat.reduceAdd, Nat.reduceLeDiff, Nat.reduceLT, reduceCtorEq, b5, b7, b23, b24, b25, c5, hwi]
        exact ⟨x3, s3, hI3.more (by omega), _, rfl, rfl⟩
      · intro e' lc' H3 n' x3 s3 hsp3 b4 hb
        simp only [↓sd0, su0, su1, resOf, pack, eqCells, ↓reduceIte, Nat.reduceEqDiff, Nat.reduceAdd, Nat.reduceLeDiff, Nat.reduceLT, reduceCtorEq, b4]
        exact ⟨x3, s3, true, hsp3, rfl, fun _ => hb⟩
    · simp only [↓sd0, su0, su1, resOf, pack, eqCells, ↓reduceIte, Nat.reduceEqDiff, Nat.reduceAdd, Nat.reduceLeDiff, Nat.reduceLT, reduceCtorEq, e5, l5, e7, e23, e24, e25, lt_cast hi, hif, hsl, hfn]
      refine CallK_of (inn_call hl h0 hwl hwn hk hmk hI (by omega) vl vr (by have := hfo.1.1; omega) (by have := hfo.2.1; omega)) ?_
      rintro r H2 n2 ⟨x2, s2, bb, hI2, hn2, rfl, hbb⟩
      cases bb
      · simp only [↓sd0, su0, su1, resOf, pack, eqCells, ↓reduceIte, Nat.reduceEqDiff, Nat.reduceAdd, Nat.reduceLeDiff, Nat.reduceLT, reduceCtorEq, e5, l5, e7, e23, e24, e25, lt_cast hi, hif, hsl, hfn]
        refine W_block.1 (hin2 (n := _) (hI2.more (by omega)) ?_ ?_ ?_ ?_ ?_ ?_ ?_)
        · simp only [↓sd0, su0, su1, resOf, pack, eqCells, ↓reduceIte, Nat.reduceEqDiff, Nat.reduceAdd, Nat.reduceLeDiff, Nat.reduceLT, reduceCtorEq, e7]
        · simp only [↓sd0, su0, su1, resOf, pack, eqCells, ↓reduceIte, Nat.reduceEqDiff, Nat.reduceAdd, Nat.reduceLeDiff, Nat.reduceLT, reduceCtorEq]; exact ⟨_, rfl, rfl⟩
        · simp only [↓sd0, su0, su1, resOf, pack, eqCells, ↓reduceIte, Nat.reduceEqDiff, Nat.reduceAdd, Nat.reduceLeDiff, Nat.reduceLT, reduceCtorEq]
        · simp only [↓sd0, su0, su1, resOf, pack, eqCells, ↓reduceIte, Nat.reduceEqDiff, Nat.reduceAdd, Nat.reduceLeDiff, Nat.reduceLT, reduceCtorEq, hlen]
        · simp only [↓sd0, su0, su1, resOf, pack, eqCells, ↓reduceIte, Nat.reduceEqDiff, Nat.reduceAdd, Nat.reduceLeDiff, Nat.reduceLT, reduceCtorEq]
        · intro e' lc' H3 n' x3 s3 hI3 b5 b7 b23 b24 b25 c5
          simp only [↓sd0, su0, su1, resOf, pack, eqCells, ↓reduceIte, Nat.reduceEqDiff, Nat.reduceAdd, Nat.reduceLeDiff, Nat.reduceLT, reduceCtorEq, e5, l5, e7, e23, e24, e25] at b5 b7 b23 b24 b25 c5
          simp only [↓sd0, su0, su1, resOf, pack, eqCells, ↓reduceIte, Nat.reduceEqDiff, Nat.reduceAdd, Nat.reduceLeDiff, Nat.reduceLT, reduceCtorEq, b5, b7, b23, b24, b25, c5, hwi]
          exact ⟨x3, s3, hI3.more (by omega), _, rfl, rfl⟩
        · intro e' lc' H3 n' x3 s3 hsp3 b4 hb
          simp only [↓sd0, su0, su1, resOf, pack, eqCells, ↓reduceIte, Nat.reduceEqDiff, Nat.reduceAdd, Nat.reduceLeDiff, Nat.reduceLT, reduceCtorEq, b4]
          exact ⟨x3, s3, true, hsp3, rfl, fun _ => hb⟩
      · simp only [↓sd0, su0, su1, resOf, pack, eqCells, ↓reduceIte, Nat.reduceEqDiff, Nat.reduceAdd, Nat.reduceLeDiff, Nat.reduceLT, reduceCtorEq]
        exact ⟨x2, s2, true, hI2.1.more (by omega) (fun _ _ => rfl), rfl, hbb⟩
  · rintro e lc H' n ⟨x', s', hI, ⟨m5, e5, l5⟩, e7, e23, e24, e25⟩
    have q : decide (((c.fs.length : Nat) : Int) < c.fs.length) = false := by simp
    simp only [↓sd0, su0, su1, resOf, pack, eqCells, ↓reduceIte, Nat.reduceEqDiff, Nat.reduceAdd, Nat.reduceLeDiff, Nat.reduceLT, reduceCtorEq, e24, e25, q]
    exact ⟨x', s', false, hI.1.more (by omega) (fun _ _ => rfl), rfl, by simp⟩

end Go.Proofs.Ytmbdccekcfeomaa.Am
end
/- The search: put. -/
section
open Go
namespace Go.Proofs.Ytmbdccekcfeomaa.Am
set_option linter.unusedSimpArgs false
set_option linter.unusedVariables false
set_option maxRecDepth 20000

theorem Gt.within_a (g : Gt) (k : Int) : within g.av 1 (.int .i64 k) = some (Gt.av { g with a := k }) := by
  simp [within, Gt.av, AV.cells, AV.isAgg]; rfl
theorem Gt.within_b (g : Gt) (k : Int) : within g.av 2 (.int .i64 k) = some (Gt.av { g with b := k }) := by
  simp [within, Gt.av, AV.cells, AV.isAgg]; rfl

theorem sput_spec {lo sid wl nx : Nat} {l : Lo} {x : SI} {s : SS} {H : Nat → Option Obj} (hl : l.fin) (h0 : l.chk.1 = 0) (hs : Srch H lo nx sid l x s) (hg : Gd l s) (hwl : wl ≤ lo) (hwn : wl ≤ nx) (a b : Nat)
    {rs bs : List T} (hrl : rs.length < 4294967296) (hrs : ∀ t ∈ rs, t.size < 1099511627776) (hbl : bs.length < 4294967296) (hbs : ∀ t ∈ bs, t.size < 1099511627776) (g : Gt) (hgf : g.fin) :
    Call tab wl 83 [.ptr sid 0 0, .int .i64 a, .int .i64 b, .slice 2 (rs.map T.av), .slice 2 (bs.map T.av), g.av] H nx fun r H' nx' => KeepR lo sid l x s H nx r H' nx' := by
  refine call_mut tab_83 ?_
  unfold body83
  dsimp only [qm, qf, ql, qL, qs, qc, qk, qi, qn, qb, qB, qe, qx, qo, qg]
  simp only [start6]
  rw [W_assoc, W_assoc, W_assoc, W_assoc]
  refine W_cut (fun e lc H' n => e 0 = .ptr sid 0 0 ∧ nx ≤ n ∧ e 4 = .slice 2 (bs.map T.av) ∧ (∃ m, e 11 = .loc 11 m 0 ∧ lc 11 = some (m, g.av)) ∧ ∃ x' s', ∃ q i1 : Nat, ∃ bb : Bool, SP lo sid l x s H nx H' n x' s' ∧ e 13 = .int .i64 i1 ∧ e 14 = .bool bb ∧ e 15 = .int .i64 q) ?_ ?_
  · simp only [↓sd0, su0, su1, resOf, pack, eqCells, ↓reduceIte, Nat.reduceEqDiff, Nat.reduceAdd, Nat.reduceLeDiff, Nat.reduceLT, reduceCtorEq, Gt.storable_av]
    refine CallK_of (sbound_spec hl h0 (hs.mono (by omega)) hg hwl a bs hbl hbs) ?_
    rintro r H1 n1 ⟨x1, s1, hsp1, ho1, hr1⟩
    have hsp1 := SP.trans (SP.start hs hg (Nat.le_refl nx) (fun _ _ => rfl)) hsp1 (by omega) (fun _ _ => rfl)
    have hn1 := hsp1.2.2.le
    rcases hr1 with ⟨rfl, hr1⟩ | ⟨c1, hr1, rfl⟩
    · simp only [↓sd0, su0, su1, resOf, pack, eqCells, ↓reduceIte, Nat.reduceEqDiff, Nat.reduceAdd, Nat.reduceLeDiff, Nat.reduceLT, reduceCtorEq]
      exact ⟨x1, s1, false, hsp1.more (by omega) (fun _ _ => rfl), rfl, by simp⟩
    by_cases c : 0 < rs.length
    · have q : decide ((rs.length : Int) > 0) = true := by simp; omega
      simp only [↓sd0, su0, su1, resOf, pack, eqCells, ↓reduceIte, Nat.reduceEqDiff, Nat.reduceAdd, Nat.reduceLeDiff, Nat.reduceLT, reduceCtorEq, List.length_map, q]
      refine CallK_of (sbound_spec hl h0 (hsp1.1.mono (by omega)) hsp1.2.1 hwl b rs hrl hrs) ?_
      rintro r H2 n2 ⟨x2, s2, hsp2, ho2, hr2⟩
      have hsp2 := SP.trans hsp1 hsp2 (by omega) (fun _ _ => rfl)
      have hn2 := hsp2.2.2.le
      rcases hr2 with ⟨rfl, hr2⟩ | ⟨c2, hr2, rfl⟩
      · simp only [↓sd0, su0, su1, resOf, pack, eqCells, ↓reduceIte, Nat.reduceEqDiff, Nat.reduceAdd, Nat.reduceLeDiff, Nat.reduceLT, reduceCtorEq]
        exact ⟨by omega, ⟨_, rfl, rfl⟩, x2, s2, 0, s.had.length, false, hsp2.more (by omega) (fun _ _ => rfl), rfl, rfl, rfl⟩
      · simp only [↓sd0, su0, su1, resOf, pack, eqCells, ↓reduceIte, Nat.reduceEqDiff, Nat.reduceAdd, Nat.reduceLeDiff, Nat.reduceLT, reduceCtorEq]
        exact ⟨by omega, ⟨_, rfl, rfl⟩, x2, s2, _, _, true, hsp2.more (by omega) (fun _ _ => rfl), rfl, rfl, rfl⟩
    · have q : decide ((rs.length : Int) > 0) = false := decide_eq_false (by omega)
      simp only [↓sd0, su0, su1, resOf, pack, eqCells, ↓reduceIte, Nat.reduceEqDiff, Nat.reduceAdd, Nat.reduceLeDiff, Nat.reduceLT, reduceCtorEq, List.length_map, q]
      exact ⟨by omega, ⟨_, rfl, rfl⟩, x1, s1, _, _, true, hsp1.more (by omega) (fun _ _ => rfl), rfl, rfl, rfl⟩
  · rintro e lc H1 n1 ⟨e0', hn1, e4, ⟨m11, e11, l11⟩, x1, s1, q, i1, bb, hsp1, e13, e14, e15⟩
    cases bb
    · simp only [↓sd0, su0, su1, resOf, pack, eqCells, ↓reduceIte, Nat.reduceEqDiff, Nat.reduceAdd, Nat.reduceLeDiff, Nat.reduceLT, reduceCtorEq, e14]
      exact ⟨x1, s1, false, hsp1.more (by omega) (fun _ _ => rfl), rfl, by simp⟩
    · simp only [↓sd0, su0, su1, resOf, pack, eqCells, ↓reduceIte, Nat.reduceEqDiff, Nat.reduceAdd, Nat.reduceLeDiff, Nat.reduceLT, reduceCtorEq, e0', e4, e13, e14, e15]
      refine CallK_of (sbound_spec hl h0 (hsp1.1.mono (by omega)) hsp1.2.1 hwl q bs hbl hbs) ?_
      rintro r H2 n2 ⟨x2, s2, hsp2, ho2, hr2⟩
      have hsp2 := SP.trans hsp1 hsp2 (by omega) (fun _ _ => rfl)
      have hn2 := hsp2.2.2.le
      rcases hr2 with ⟨rfl, hr2⟩ | ⟨c2, hr2, rfl⟩
      · simp only [↓sd0, su0, su1, resOf, pack, eqCells, ↓reduceIte, Nat.reduceEqDiff, Nat.reduceAdd, Nat.reduceLeDiff, Nat.reduceLT, reduceCtorEq]
        exact ⟨x2, s2, false, hsp2.more (by omega) (fun _ _ => rfl), rfl, by simp⟩
      · simp only [↓sd0, su0, su1, resOf, pack, eqCells, ↓reduceIte, Nat.reduceEqDiff, Nat.reduceAdd, Nat.reduceLeDiff, Nat.reduceLT, reduceCtorEq, e0', e4, e13, e14, e15, e11, l11, Gt.within_a, Gt.within_b]
        refine CallK_of (add_spec hl h0 (hsp2.1.mono (by omega)) hsp2.2.1 hwl { g with a := i1, b := s1.had.length } hgf) ?_
        rintro r H3 n3 ⟨x3, s3, hsp3, ho3, hr3⟩
        have hsp3 := SP.trans hsp2 hsp3 (by omega) (fun _ _ => rfl)
        have hn3 := hsp3.2.2.le
        rcases hr3 with ⟨rfl, hr3⟩ | ⟨c3, hr3, rfl⟩
        · simp only [↓sd0, su0, su1, resOf, pack, eqCells, ↓reduceIte, Nat.reduceEqDiff, Nat.reduceAdd, Nat.reduceLeDiff, Nat.reduceLT, reduceCtorEq]
          exact ⟨x3, s3, false, hsp3.more (by omega) (fun _ _ => rfl), rfl, by simp⟩
        · simp only [↓sd0, su0, su1, resOf, pack, eqCells, ↓reduceIte, Nat.reduceEqDiff, Nat.reduceAdd, Nat.reduceLeDiff, Nat.reduceLT, reduceCtorEq, e0']
          refine CallK_of (keep_spec hl h0 (hsp3.1.mono (by omega)) hsp3.2.1 hwl (k := s2.had.length) (by rw [hr3]; simp) (by omega)) ?_
          rintro r H4 n4 ⟨x4, s4, bb, hsp4, rfl, hbb⟩
          simp only [↓sd0, su0, su1, resOf, pack, eqCells, ↓reduceIte, Nat.reduceEqDiff, Nat.reduceAdd, Nat.reduceLeDiff, Nat.reduceLT, reduceCtorEq]
          exact ⟨x4, s4, bb, (SP.trans hsp3 hsp4 (by omega) (fun _ _ => rfl)).more (by omega) (fun _ _ => rfl), rfl, hbb⟩

end Go.Proofs.Ytmbdccekcfeomaa.Am
end
/- The search: into, what it moves. -/
section
open Go
namespace Go.Proofs.Ytmbdccekcfeomaa.Am
set_option linter.unusedSimpArgs false
set_option linter.unusedVariables false
set_option maxRecDepth 20000

theorem turn_at {wl nx : Nat} {H : Nat → Option Obj} (c : Cl) (f : Nat) (cap : List AV) (g : T → T) (hp : pureOf tab f = .pure) (hcap : AV.nols cap = true) (hl : c.fs.length < 1099511627776)
    (hg : ∀ x ∈ c.fs, ∀ wl H' n, (∀ j, j < nx → H' j = H j) → C tab wl f (x.l.av :: cap) H' n = some ((g x.l).av, H', n) ∧ C tab wl f (x.r.av :: cap) H' n = some ((g x.r).av, H', n)) : Call tab wl 61 [c.av, .clo f cap] H nx fun r H' nx' => r = (c.turn g).av ∧ H' = H ∧ nx' = nx := by
  refine call_thaw tab_61 ?_
  unfold body61 Cl.turn
  dsimp only [qm, qf, ql, qL, qs, qc, qk, qi, qn, qb, qB, qe, qx, qo, qg]
  simp only [start2]
  simp only [↓sd0, su0, su1, resOf, pack, eqCells, ↓reduceIte, Nat.reduceEqDiff, Nat.reduceAdd, Nat.reduceLeDiff, Nat.reduceLT, reduceCtorEq]
  refine W_count c.fs.length (fun k e l H' n => e 9 = sl 5 c.nil (c.fs.map Fa.av) ∧ e 1 = .clo f cap ∧ e 11 = .int .i64 k ∧ e 10 = .int .i64 c.fs.length ∧ nx ≤ n ∧ (∀ j, j < nx → H' j = H j) ∧ (∃ m, e 4 = .loc 4 m 0 ∧ l 4 = some (m, .agg [.nilSlice])) ∧
    ∃ m id, e 5 = .loc 5 m 0 ∧ l 5 = some (m, .agg [lv id k]) ∧ Own H' nx n 5 id (((c.fs.take k).map fun f => (⟨f.n, g f.l, g f.r⟩ : Fa)).map Fa.av)) ?_ ?_ ?_
  · simp only [↓sd0, su0, su1, resOf, pack, eqCells, ↓reduceIte, Nat.reduceEqDiff, Nat.reduceAdd, Nat.reduceLeDiff, Nat.reduceLT, reduceCtorEq]
    exact ⟨fun _ _ => by first | rfl | trivial, ⟨_, rfl, rfl⟩, _, 0, rfl, rfl, Own.nil⟩
  · rintro k e l H' n hk ⟨h10, h1, h12, h11, hn, hf, ⟨m2, h2, hl2⟩, m, id, h3, hl3, ho⟩
    have hap := append_to (bytes := 72) (Fa.av ⟨c.fs[k].n, g c.fs[k].l, g c.fs[k].r⟩) ho (n := k) (by simp; omega) (Nat.le_refl _) (by omega)
    have hx := fun n' => hg c.fs[k] (List.getElem_mem hk) (nx) H' n' hf
    have hid : k ≠ 0 → nx ≤ id := fun h => (ho fun e => by
      have := congrArg List.length e
      simp only [List.length_map, List.length_take, List.length_nil] at this; omega).1
    have hfr : ∀ o j n', n ≤ n' → j < nx → upd (kill H' id k) n' o j = H j := fun o j n' hn' hj => by
      rw [upd_other _ _ (by omega), kill_other (fun h => by have := hid h; omega)]; exact hf j hj
    simp only [↓sd0, su0, su1, resOf, pack, eqCells, ↓reduceIte, Nat.reduceEqDiff, Nat.reduceAdd, Nat.reduceLeDiff, Nat.reduceLT, reduceCtorEq, dr0, Nat.reducePow, Nat.reduceDiv, Nat.reduceMod, Nat.reduceBEq, h1, h2, h3, h10, h11, h12, hl2, hl3, iaddr_map hk, lt_cast hk, callK_eq (hx _).1, callK_eq (hx _).2, hp, hap, hcap, wrap_succ hk (by omega : c.fs.length < 4611686018427387904)]
    refine ⟨by omega, fun j hj => hfr _ j _ (by omega) hj, ⟨_, rfl, rfl⟩, _, _, rfl, rfl, by rw [take_one hk]; simp only [List.map_append, List.map_cons, List.map_nil]; exact (Own.append (by omega)).mono (by omega)⟩
  · rintro e l H' n ⟨h10, h1, h12, h11, hn, hf, ⟨m2, h2, hl2⟩, m, id, h3, hl3, ho⟩
    rw [List.take_length] at ho
    obtain ⟨H'', hth, _⟩ := thaw_claim ho (n := c.fs.length) (by simp) (Nat.le_refl _)
    simp only [↓sd0, su0, su1, resOf, pack, eqCells, ↓reduceIte, Nat.reduceEqDiff, Nat.reduceAdd, Nat.reduceLeDiff, Nat.reduceLT, reduceCtorEq, dr0, Nat.reducePow, Nat.reduceDiv, Nat.reduceMod, Nat.reduceBEq, h2, h3, h10, h11, h12, hl2, hl3, hth]

theorem into1_spec {wl nx v m : Nat} {H : Nat → Option Obj} (hv : H v = some (.arr 1 [.int .i64 m])) (hm : m < 1099511627776) (t : T) (ht : t.size < 1099511627776) (hs : t.small) : C tab wl 81 [t.av, .ptr v 0 0] H nx = some ((t.moved m).av, H, nx) := by
  have : Call tab wl 81 [t.av, .ptr v 0 0] H nx fun r H' nx' => r = (t.moved m).av ∧ H' = H ∧ nx' = nx := by
    refine call_solid tab_81 ?_
    unfold body81
    dsimp only [qm, qf, ql, qL, qs, qc, qk, qi, qn, qb, qB, qe, qx, qo, qg]
    simp only [start2]
    simp only [↓sd0, su0, su1, resOf, pack, eqCells, ↓reduceIte, Nat.reduceEqDiff, Nat.reduceAdd, Nat.reduceLeDiff, Nat.reduceLT, reduceCtorEq, hv, (moved_spec m hm t ht hs).callK]
  obtain ⟨r, H', n', hc, rfl, rfl, rfl⟩ := this
  exact hc

theorem moved_vt {m k : Nat} (t : T) : t.vt m → (t.moved k).vt (m + k) := by
  induction t using T.ind' with
  | h t ih =>
    intro h
    obtain ⟨⟨h0, h1, h2, h3⟩, hk⟩ := (T.vt_iff m t).1 h
    rw [T.moved_eq]
    refine (T.vt_iff _ _).2 ⟨⟨?_, ?_, ?_, ?_⟩, ?_⟩
    · show (if t.h < 0 then t.h - (k : Int) else t.h) ≠ 0
      split <;> omega
    · show _ ≤ (if t.h < 0 then t.h - (k : Int) else t.h)
      split <;> omega
    · show (if t.h < 0 then t.h - (k : Int) else t.h) < _
      split <;> omega
    · intro hn
      show t.ks.map _ = []
      have hn' : (if t.h < 0 then t.h - (k : Int) else t.h) < 0 := hn
      rw [h3 (by by_cases c : t.h < 0; { exact c }; { rw [if_neg c] at hn'; omega })]; rfl
    · intro x hx
      have hx' : x ∈ t.ks.map (T.moved k) := hx
      rw [List.mem_map] at hx'
      obtain ⟨y, hy, rfl⟩ := hx'
      exact ih y hy (hk y hy)

end Go.Proofs.Ytmbdccekcfeomaa.Am
end
