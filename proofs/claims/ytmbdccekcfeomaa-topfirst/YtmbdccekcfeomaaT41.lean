/- The search: into, the inner loops. -/
import Derived.Test.YtmbdccekcfeomaaT40
open Go
namespace Go.Proofs.Ytmbdccekcfeomaa.Am
set_option linter.unusedSimpArgs false
set_option linter.unusedVariables false
set_option maxRecDepth 20000

theorem walk_vt {m : Nat} (t : T) : ∀ p s, t.vt m → t.walk p = some s → s.vt m := by
  intro p
  induction p generalizing t with
  | nil => intro s h hw; rw [T.walk] at hw; simp at hw; subst hw; exact h
  | cons a p ih =>
    intro s h hw
    rw [T.walk] at hw
    split at hw
    · split at hw
      · rename_i k hk
        obtain ⟨hlt, rfl⟩ := List.getElem?_eq_some_iff.1 hk
        exact ih _ s (((T.vt_iff m t).1 h).2 _ (List.getElem_mem hlt)) hw
      · simp at hw
    · simp at hw

theorem into6 {lo sid wl nx m : Nat} {l : Lo} {x : SI} {s : SS} {H : Nat → Option Obj} (hl : l.fin) (h0 : l.chk.1 = 0) (hwl : wl ≤ lo) (hwn : wl ≤ nx) (hm : m ≤ 8) (ka kb : Nat)
    {rs : List T} (hrl : rs.length < 4294967296) (hrs : ∀ t ∈ rs, t.size < 1099511627776) {u : T} (hu : u.vt m) (hus : u.size ≤ 100) {gn : Bool} {gs : List Fa} (hgl : gs.length < 4294967296) (hgs : ∀ g ∈ gs, (g.l.size ≤ 40 ∧ g.r.size ≤ 40) ∧ g.l.vt m ∧ g.r.vt m) {i : Nat} {t : Bool} {Q : AExit → St → Prop}
    {e : Nat → AV} {lc : Nat → Option (Nat × AV)} {H' : Nat → Option Obj} {n : Nat} {x' : SI} {s' : SS} (hI : SP lo sid l x s H nx H' n x' s') (e0' : e 0 = .ptr sid 0 0) (e1 : e 1 = .int .i64 ka) (e2 : e 2 = .int .i64 kb) (e9 : e 9 = .int .i64 m) (e10 : e 10 = .slice 2 (rs.map T.av)) (e12 : e 12 = .int .i64 i) (e15 : e 15 = .bool t) (h16 : ∃ m16, e 16 = .loc 16 m16 0 ∧ lc 16 = some (m16, u.av))
    (e113 : e 113 = sl 5 gn (gs.map Fa.av)) (e114 : e 114 = .int .i64 gs.length) (e115 : e 115 = .int .i64 0)
    (hN : ∀ e' lc' H'' n' x' s', SP lo sid l x s H nx H'' n' x' s' → e' 0 = e 0 → e' 1 = e 1 → e' 2 = e 2 → e' 8 = e 8 → e' 9 = e 9 → e' 10 = e 10 → e' 12 = e 12 → e' 13 = e 13 → e' 15 = e 15 → e' 16 = e 16 → e' 84 = e 84 → e' 85 = e 85 → e' 86 = e 86 → e' 93 = e 93 → e' 94 = e 94 → lc' 8 = lc 8 → lc' 13 = lc 13 → lc' 16 = lc 16 → Q .normal ⟨e', lc', H'', n'⟩)
    (hR : ∀ e' lc' H'' n' x' s', SP lo sid l x s H nx H'' n' x' s' → e' 6 = .bool true → endsB s'.had = true → Q .ret ⟨e', lc', H'', n'⟩) :
    W tab wl (.block 6
                (.loop (.seq (.region none [
                  ⟨some 116, .bin .lss (.t 115) (.t 114), none, []⟩])
                  (.seq (.cond (.t 116)
                    .skip
                    (.exit 6))
                  (.seq (.block 7
                    (.seq (.region none [
                    ⟨some 117, .mov (.t 115), none, []⟩,
                    ⟨some 118, .iaddr 5 (.t 113) (.t 115), none, []⟩,
                    ⟨some 119, .load 5 true (.t 118), none, []⟩,
                    ⟨some 19, .lalloc (.agg [(.bool false), (.int .i64 0), .nilSlice, (.int .i64 0), .nilSlice]), none, []⟩,
                    ⟨some 18, .mov (.t 117), none, []⟩,
                    ⟨none, .store 5 (.t 19) (.t 119), none, []⟩])
                    (.seq (.region none [
                    ⟨some 120, .faddr 1 (.t 19), none, []⟩,
                    ⟨some 121, .load 2 true (.t 120), none, []⟩,
                    ⟨some 122, .faddr 3 (.t 19), none, []⟩,
                    ⟨some 123, .load 2 true (.t 122), none, []⟩,
                    ⟨some 124, .build [(.int .i64 0), .nilSlice, (.int .i64 0), .nilSlice] [(0, 2, (.t 121)), (2, 2, (.t 123))], none, []⟩,
                    ⟨some 125, .mov (.c (.int .i64 0)), none, []⟩])
                    (.block 8
                      (.loop (.seq (.region none [
                        ⟨some 126, .bin .lss (.t 125) (.c (.int .i64 2)), none, []⟩])
                        (.seq (.cond (.t 126)
                          .skip
                          (.exit 8))
                        (.seq (.block 9
                          (.seq (.region none [
                          ⟨some 127, .mov (.t 125), none, []⟩,
                          ⟨some 128, .indexA 2 2 true (.t 124) (.t 125), none, []⟩,
                          ⟨some 21, .lalloc (.agg [(.int .i64 0), .nilSlice]), none, []⟩,
                          ⟨some 20, .mov (.t 127), none, []⟩,
                          ⟨none, .store 2 (.t 21) (.t 128), none, []⟩])
                          (.seq (.region none [
                          ⟨some 129, .load 2 true (.t 21), none, []⟩,
                          ⟨some 130, .call (.c (.clo 74 [])) [(.t 129), (.c .nilSlice)], none, []⟩,
                          ⟨some 131, .len (.t 130), none, []⟩,
                          ⟨some 132, .mov (.c (.int .i64 0)), none, []⟩])
                          (.block 10
                            (.loop (.seq (.region none [
                              ⟨some 133, .bin .lss (.t 132) (.t 131), none, []⟩])
                              (.seq (.cond (.t 133)
                                .skip
                                (.exit 10))
                              (.seq (.block 11
                                (.seq (.region none [
                                ⟨some 134, .iaddr 1 (.t 130) (.t 132), none, []⟩,
                                ⟨some 135, .load 1 false (.t 134), none, []⟩,
                                ⟨some 23, .mov (.t 135), none, []⟩])
                                (.seq (.region (some [0, 0, 0, 6, 0, 31, 63, 127, 127, 127, 255, 1535, 4095]) [
                                ⟨some 137, .load 2 true (.t 16), none, []⟩,
                                ⟨some 138, .load 2 true (.t 21), none, []⟩,
                                ⟨some 139, .mov (.t 23), none, []⟩,
                                ⟨some 140, .call (.c (.clo 76 [])) [(.t 138), (.t 139)], none, []⟩,
                                ⟨some 141, .mov (.t 9), none, []⟩,
                                ⟨some 142, .call (.c (.clo 79 [])) [(.t 137), (.t 140), (.t 141)], none, []⟩,
                                ⟨some 136, .mov (.t 142), none, []⟩,
                                ⟨some 143, .extract 0 (.t 136), none, []⟩,
                                ⟨some 144, .extract 1 (.t 136), none, []⟩,
                                ⟨some 145, .extract 2 (.t 136), none, []⟩,
                                ⟨some 24, .mov (.t 143), none, []⟩,
                                ⟨some 25, .mov (.t 144), none, []⟩,
                                ⟨some 26, .mov (.t 145), none, []⟩])
                                (.seq (.seq (.region none [
                                ⟨some 146, .mov (.t 26), none, []⟩,
                                ⟨some 147, .un .not (.t 146), none, []⟩])
                                (.cond (.t 147)
                                  (.region none [
                                  ⟨some 148, .mov (.t 0), none, []⟩,
                                  ⟨some 149, .ncheck (.t 148), none, []⟩,
                                  ⟨some 150, .faddr 6 (.t 149), none, []⟩,
                                  ⟨none, .store 1 (.t 150) (.c (.bool true)), none, []⟩])
                                  .skip))
                                (.seq (.seq (.region none [
                                ⟨some 151, .mov (.t 25), none, []⟩,
                                ⟨some 152, .un .not (.t 151), none, []⟩,
                                ⟨some 153, .mov (.t 152), none, []⟩,
                                ⟨some 154, .mov (.t 26), some (153, false), []⟩,
                                ⟨some 155, .un .not (.t 154), some (153, false), []⟩,
                                ⟨some 156, .pick (.t 153) (.c (.bool true)) (.t 155), none, []⟩])
                                (.cond (.t 156)
                                  (.exit 11)
                                  .skip))
                                (.seq (.region none [
                                ⟨some 157, .mov (.t 0), none, []⟩,
                                ⟨some 158, .mov (.t 1), none, []⟩,
                                ⟨some 159, .mov (.t 2), none, []⟩,
                                ⟨some 160, .mov (.t 10), none, []⟩,
                                ⟨some 161, .mov (.t 24), none, []⟩,
                                ⟨some 162, .mov (.t 12), none, []⟩,
                                ⟨some 163, .mov (.t 18), none, []⟩,
                                ⟨some 164, .mov (.t 15), none, []⟩,
                                ⟨some 165, .mov (.t 20), none, []⟩,
                                ⟨some 166, .bin .add (.t 165) (.c (.int .i64 1)), none, []⟩,
                                ⟨some 167, .bslice true 1 1 [(.int .i64 0)] [(0, 1, (.t 166))], none, []⟩,
                                ⟨some 168, .mov (.t 23), none, []⟩,
                                ⟨some 169, .append true 1 8 (.t 167) (.t 168), none, []⟩,
                                ⟨some 170, .build [(.int .i64 0), (.int .i64 0), (.int .i64 0), (.int .i64 0), (.int .i64 0), (.bool false), .nilSlice, .nilSlice] [(0, 1, (.c (.int .i64 3))), (3, 1, (.t 162)), (4, 1, (.t 163)), (5, 1, (.t 164)), (6, 1, (.t 169))], none, []⟩,
                                ⟨some 171, .call (.c (.clo 83 [])) [(.t 157), (.t 158), (.t 159), (.t 160), (.t 161), (.t 170)], none, []⟩])
                                (.cond (.t 171)
                                  (.seq (.region none [
                                  ⟨some 6, .mov (.c (.bool true)), none, []⟩])
                                  .ret)
                                  .skip)))))))
                              (.region none [
                              ⟨some 172, .bin .add (.t 132) (.c (.int .i64 1)), none, []⟩,
                              ⟨some 132, .mov (.t 172), none, []⟩])))))))))
                        (.region none [
                        ⟨some 173, .bin .add (.t 125) (.c (.int .i64 1)), none, []⟩,
                        ⟨some 125, .mov (.t 173), none, []⟩])))))))))
                  (.region none [
                  ⟨some 174, .bin .add (.t 115) (.c (.int .i64 1)), none, []⟩,
                  ⟨some 115, .mov (.t 174), none, []⟩])))))) ⟨e, lc, H', n⟩ Q := by
  obtain ⟨m16, e16, l16⟩ := h16
  refine W_block.2 ?_
  refine W_count gs.length (fun j e' lc' H2 n => (∃ x' s', SP lo sid l x s H nx H2 n x' s') ∧ (e' 0 = e 0 ∧ e' 1 = e 1 ∧ e' 2 = e 2 ∧ e' 8 = e 8 ∧ e' 9 = e 9 ∧ e' 10 = e 10 ∧ e' 12 = e 12 ∧ e' 13 = e 13 ∧ e' 15 = e 15 ∧ e' 16 = e 16 ∧ e' 84 = e 84 ∧ e' 85 = e 85 ∧ e' 86 = e 86 ∧ e' 93 = e 93 ∧ e' 94 = e 94 ∧ lc' 8 = lc 8 ∧ lc' 13 = lc 13 ∧ lc' 16 = lc 16) ∧ e' 113 = e 113 ∧ e' 114 = e 114 ∧ e' 115 = .int .i64 j) ?_ ?_ ?_
  · exact ⟨⟨x', s', hI⟩, ⟨rfl, rfl, rfl, rfl, rfl, rfl, rfl, rfl, rfl, rfl, rfl, rfl, rfl, rfl, rfl, rfl, rfl, rfl⟩, rfl, rfl, e115⟩
  · clear hI
    clear H' n x' s'
    rintro j ea la H2 n2 hj ⟨⟨x2, s2, hsp⟩, ⟨a0, a1, a2, a8, a9, a10, a12, a13, a15, a16, a84, a85, a86, a93, a94, c8, c13, c16⟩, a113, a114, a115⟩
    have hwj := wrap_succ hj (by omega)
    have hgo := hgs _ (List.getElem_mem hj)
    have hig : ∀ H, iaddrV H 5 (sl 5 gn (gs.map Fa.av)) (.int .i64 j) = some (.fptr gs[j].av 0) := fun H => iaddr_map hj
    generalize gs[j] = g at hgo hig
    simp only [↓sd0, su0, su1, resOf, pack, eqCells, ↓reduceIte, Nat.reduceEqDiff, Nat.reduceAdd, Nat.reduceLeDiff, Nat.reduceLT, reduceCtorEq, a113, a114, a115, e0', e1, e2, e9, e10, e12, e15, e16, l16, e113, e114, hig, lt_cast hj]
    refine W_count 2 (fun d e' lc' H2 n => (∃ x' s', SP lo sid l x s H nx H2 n x' s') ∧ (e' 0 = e 0 ∧ e' 1 = e 1 ∧ e' 2 = e 2 ∧ e' 8 = e 8 ∧ e' 9 = e 9 ∧ e' 10 = e 10 ∧ e' 12 = e 12 ∧ e' 13 = e 13 ∧ e' 15 = e 15 ∧ e' 16 = e 16 ∧ e' 84 = e 84 ∧ e' 85 = e 85 ∧ e' 86 = e 86 ∧ e' 93 = e 93 ∧ e' 94 = e 94 ∧ lc' 8 = lc 8 ∧ lc' 13 = lc 13 ∧ lc' 16 = lc 16) ∧ (e' 113 = e 113 ∧ e' 114 = e 114 ∧ e' 115 = .int .i64 j) ∧ e' 18 = .int .i64 j ∧ e' 124 = .agg [.int .i64 g.l.h, sl 2 g.l.nil (g.l.ks.map T.av), .int .i64 g.r.h, sl 2 g.r.nil (g.r.ks.map T.av)] ∧ e' 125 = .int .i64 d) ?_ ?_ ?_
    · simp only [↓sd0, su0, su1, resOf, pack, eqCells, ↓reduceIte, Nat.reduceEqDiff, Nat.reduceAdd, Nat.reduceLeDiff, Nat.reduceLT, reduceCtorEq, a0, a1, a2, a8, a9, a10, a12, a13, a15, a16, a84, a85, a86, a93, a94, c8, c13, c16, a113, a114, a115, e0', e1, e2, e9, e10, e12, e15, e16, l16, e113, e114]
      exact ⟨x2, s2, hsp.more (by omega) (fun _ _ => rfl)⟩
    · clear hsp a0 a1 a2 a8 a9 a10 a12 a13 a15 a16 a84 a85 a86 a93 a94 c8 c13 c16 a113 a114 a115
      clear ea la H2 n2 x2 s2
      rintro d ea la H2 n2 hd ⟨⟨x2, s2, hsp⟩, ⟨a0, a1, a2, a8, a9, a10, a12, a13, a15, a16, a84, a85, a86, a93, a94, c8, c13, c16⟩, ⟨a113, a114, a115⟩, a18, a124, a125⟩
      have hd' : d < [g.l, g.r].length := hd
      have hix := indexA2' hd'
      have hvo : [g.l, g.r][d].size ≤ 40 ∧ [g.l, g.r][d].vt m := by
        have : d = 0 ∨ d = 1 := by omega
        rcases this with rfl | rfl
        · exact ⟨hgo.1.1, hgo.2.1⟩
        · exact ⟨hgo.1.2, hgo.2.2⟩
      generalize [g.l, g.r][d] = v at hix hvo
      have hwd := wrap_succ hd (by omega)
      have hpl : ∀ H n, Call tab wl 74 [v.av, .nilSlice] H n fun r H' nx' => (∃ ps : List (Bool × List Int), r = sl 1 true (ps.map pav) ∧ ps.length ≤ v.size ∧ ∀ x ∈ ps, ∃ q, x.2 = [] ++ q ∧ (v.walk q).isSome = true ∧ q.length < v.size ∧ ∀ s ∈ q, 1 ≤ s ∧ s ≤ 1048576) ∧ H' = H ∧ nx' = n :=
        fun H n => places_spec v true [] wl H n (by have := hvo.1; omega) (by have := hvo.1; simp; omega)
      simp only [↓sd0, su0, su1, resOf, pack, eqCells, ↓reduceIte, Nat.reduceEqDiff, Nat.reduceAdd, Nat.reduceLeDiff, Nat.reduceLT, reduceCtorEq, a124, a125, hix, lt_two hd]
      refine CallK_of (hpl _ _) ?_
      rintro r H3 n3 ⟨⟨ps, rfl, hpsl, hps⟩, rfl, rfl⟩
      have hv40 := hvo.1
      simp only [↓sd0, su0, su1, resOf, pack, eqCells, ↓reduceIte, Nat.reduceEqDiff, Nat.reduceAdd, Nat.reduceLeDiff, Nat.reduceLT, reduceCtorEq]
      refine W_count ps.length (fun p e' lc' H2 n => (∃ x' s', SP lo sid l x s H nx H2 n x' s') ∧ (e' 0 = e 0 ∧ e' 1 = e 1 ∧ e' 2 = e 2 ∧ e' 8 = e 8 ∧ e' 9 = e 9 ∧ e' 10 = e 10 ∧ e' 12 = e 12 ∧ e' 13 = e 13 ∧ e' 15 = e 15 ∧ e' 16 = e 16 ∧ e' 84 = e 84 ∧ e' 85 = e 85 ∧ e' 86 = e 86 ∧ e' 93 = e 93 ∧ e' 94 = e 94 ∧ lc' 8 = lc 8 ∧ lc' 13 = lc 13 ∧ lc' 16 = lc 16) ∧ (e' 113 = e 113 ∧ e' 114 = e 114 ∧ e' 115 = .int .i64 j) ∧ (e' 18 = .int .i64 j ∧ e' 124 = .agg [.int .i64 g.l.h, sl 2 g.l.nil (g.l.ks.map T.av), .int .i64 g.r.h, sl 2 g.r.nil (g.r.ks.map T.av)] ∧ e' 125 = .int .i64 d) ∧
        e' 20 = .int .i64 d ∧ (∃ m, e' 21 = .loc 21 m 0 ∧ lc' 21 = some (m, v.av)) ∧ e' 130 = sl 1 true (ps.map pav) ∧ e' 131 = .int .i64 ps.length ∧ e' 132 = .int .i64 p) ?_ ?_ ?_
      · simp only [↓sd0, su0, su1, resOf, pack, eqCells, ↓reduceIte, Nat.reduceEqDiff, Nat.reduceAdd, Nat.reduceLeDiff, Nat.reduceLT, reduceCtorEq, a0, a1, a2, a8, a9, a10, a12, a13, a15, a16, a84, a85, a86, a93, a94, c8, c13, c16, a113, a114, a115, a18, a124, a125, e0', e1, e2, e9, e10, e12, e15, e16, l16, e113, e114]
        exact ⟨⟨x2, s2, hsp.more (by omega) (fun _ _ => rfl)⟩, _, rfl, rfl⟩
      · clear hsp a0 a1 a2 a8 a9 a10 a12 a13 a15 a16 a84 a85 a86 a93 a94 c8 c13 c16 a113 a114 a115 a18 a124 a125
        clear ea la x2 s2
        rintro p ea la H4 n4 hp ⟨⟨x2, s2, hsp⟩, ⟨a0, a1, a2, a8, a9, a10, a12, a13, a15, a16, a84, a85, a86, a93, a94, c8, c13, c16⟩, ⟨a113, a114, a115⟩, ⟨a18, a124, a125⟩, a20, ⟨m21, a21, la21⟩, a130, a131, a132⟩
        obtain ⟨q, hq1, hq2, hq3, hq4⟩ := hps _ (List.getElem_mem hp)
        have hip : ∀ H, iaddrV H 1 (sl 1 true (ps.map pav)) (.int .i64 p) = some (.fptr (pav ps[p]) 0) := fun H => iaddr_pav hp
        have hwp := wrap_succ hp (by omega)
        generalize ps[p] = pp at hip hq1
        rw [List.nil_append] at hq1
        obtain ⟨sv, hsv⟩ := Option.isSome_iff_exists.1 hq2
        have hpos : ∀ s ∈ q, -4611686018427387904 < s ∧ s < 4611686018427387904 := fun s hs => by have := hq4 s hs; omega
        have hat : Gives tab 76 [v.av, pav pp] sv.av := by rw [pav, hq1]; exact at_spec pp.1 q (by omega) hpos v sv hsv
        have hsvs := walk_size _ _ _ hsv
        have hsvv := walk_vt _ _ _ hvo.2 hsv
        rw [e16] at a16
        rw [l16] at c16
        rw [e9] at a9
        simp only [↓sd0, su0, su1, resOf, pack, eqCells, ↓reduceIte, Nat.reduceEqDiff, Nat.reduceAdd, Nat.reduceLeDiff, Nat.reduceLT, reduceCtorEq, dr0, Nat.reducePow, Nat.reduceDiv, Nat.reduceMod, Nat.reduceBEq, a130, a131, a132, hip, lt_cast hp, part_pav, nol_pav, a16, c16, a9, a21, la21, hat.callK]
        refine CallK_of (mgu_spec (S := 100) (by omega) (by omega) (by omega) u sv hu hsvv hus (by omega)) ?_
        rintro r H5 n5 ⟨hr, rfl, rfl⟩
        rcases hr with ⟨bs, rfl, hbl, hbs⟩ | rfl | rfl
        · have hput : ∀ H7 n7, n4 ≤ n7 → (∀ j, j < n4 → H7 j = H5 j) → Call tab wl 83 [.ptr sid 0 0, .int .i64 ka, .int .i64 kb, .slice 2 (rs.map T.av), .slice 2 (bs.map T.av), Gt.av ⟨3, 0, 0, i, j, t, false, ((d + 1 : Nat) : Int) :: q, true, []⟩] H7 n7 (fun r H' n' => ∃ x' s' b, SP lo sid l x s H nx H' n' x' s' ∧ r = .bool b ∧ (b = true → endsB s'.had = true)) := by
            intro H7 n7 g1 g2
            have hs7 := hsp.more g1 g2
            refine Call_mono (sput_spec hl h0 hs7.1 hs7.2.1 hwl (by have := hs7.2.2.le; omega) ka kb hrl hrs (by omega) (fun t ht => by have := hbs t ht; omega) _ ⟨by simp; omega, fun s hs => ?_, by simp, by simp⟩) ?_
            · rcases List.mem_cons.1 hs with rfl | h
              · omega
              · exact hpos s h
            · rintro r H8 n8 ⟨x8, s8, b, hsp8, hr, hb⟩
              exact ⟨x8, s8, b, SP.trans hs7 hsp8 (Nat.le_refl _) (fun _ _ => rfl), hr, hb⟩
          have hnn := hsp.2.2.le
          have hws : IntKind.i64.wrap ((d : Int) + 1) = ((d + 1 : Nat) : Int) := hwd
          have hap : ∀ (F : Nat → Option Obj) (j nid : Nat), appendV wl nid true 1 8 (upd F (n4 + j) (some (.arr 1 [.int .i64 ((d + 1 : Nat) : Int)]))) (q.map (AV.int .i64)) (.lref (n4 + j) 0 1) = some (ints false (((d + 1 : Nat) : Int) :: q), upd (upd F (n4 + j) (some (.arr 1 [.int .i64 ((d + 1 : Nat) : Int)]))) (n4 + j) none) := fun F j nid => append_place (by omega) (upd_same _ _ _) (by omega)
          simp only [↓sd0, su0, su1, resOf, pack, eqCells, ↓reduceIte, Nat.reduceEqDiff, Nat.reduceAdd, Nat.reduceLeDiff, Nat.reduceLT, reduceCtorEq, dr0, Nat.reducePow, Nat.reduceDiv, Nat.reduceMod, Nat.reduceBEq, a0, e0', a1, e1, a2, e2, a10, e10, a12, e12, a18, a15, e15, a20, hws, chop_1, elems_pav, hq1, hap, agg_right]
          refine CallK_of (hput _ _ (by omega) (fun j hj => by rw [upd_other _ _ (by omega), upd_other _ _ (by omega)])) ?_
          rintro r H8 n8 ⟨x8, s8, bb, hsp8, rfl, hbb⟩
          cases bb
          · simp only [↓sd0, su0, su1, resOf, pack, eqCells, ↓reduceIte, Nat.reduceEqDiff, Nat.reduceAdd, Nat.reduceLeDiff, Nat.reduceLT, reduceCtorEq, dr0, Nat.reducePow, Nat.reduceDiv, Nat.reduceMod, Nat.reduceBEq, hwp, a0, a1, a2, a8, a9, a10, a12, a13, a15, a16, a84, a85, a86, a93, a94, c8, c13, c16, a113, a114, a115, a18, a124, a125, a20, a21, la21, a130, a131, a132, e0', e1, e2, e9, e10, e12, e15, e16, l16, e113, e114]
            exact ⟨⟨x8, s8, hsp8.more (by omega) (fun _ _ => rfl)⟩, _, rfl, rfl⟩
          · simp only [↓sd0, su0, su1, resOf, pack, eqCells, ↓reduceIte, Nat.reduceEqDiff, Nat.reduceAdd, Nat.reduceLeDiff, Nat.reduceLT, reduceCtorEq]
            refine hR _ _ _ _ x8 s8 (hsp8.more (by omega) (fun _ _ => rfl)) ?_ (hbb rfl)
            first | rfl | simp only [↓sd0, su0, su1, resOf, pack, eqCells, ↓reduceIte, Nat.reduceEqDiff, Nat.reduceAdd, Nat.reduceLeDiff, Nat.reduceLT, reduceCtorEq]
        · simp only [↓sd0, su0, su1, resOf, pack, eqCells, ↓reduceIte, Nat.reduceEqDiff, Nat.reduceAdd, Nat.reduceLeDiff, Nat.reduceLT, reduceCtorEq, dr0, Nat.reducePow, Nat.reduceDiv, Nat.reduceMod, Nat.reduceBEq, hwp, a0, a1, a2, a8, a9, a10, a12, a13, a15, a16, a84, a85, a86, a93, a94, c8, c13, c16, a113, a114, a115, a18, a124, a125, a20, a21, la21, a130, a131, a132, e0', e1, e2, e9, e10, e12, e15, e16, l16, e113, e114]
          exact ⟨⟨x2, s2, hsp.more (by omega) (fun _ _ => rfl)⟩, _, rfl, rfl⟩
        · have hobj := hsp.1.obj
          unfold sobj at hobj
          have hlost := lost_SP hsp.1 hsp.2.1 (n' := n4) (Nat.le_refl _)
          unfold sobj at hlost
          have hsl := SP.trans hsp hlost (Nat.le_refl _) (fun _ _ => rfl)
          have w1 : wl ≤ sid := by have := hsp.1.lo'; omega
          simp only [↓sd0, su0, su1, resOf, pack, eqCells, ↓reduceIte, Nat.reduceEqDiff, Nat.reduceAdd, Nat.reduceLeDiff, Nat.reduceLT, reduceCtorEq, dr0, Nat.reducePow, Nat.reduceDiv, Nat.reduceMod, Nat.reduceBEq, hwp, hobj, w1, List.set_cons_zero, a0, a1, a2, a8, a9, a10, a12, a13, a15, a16, a84, a85, a86, a93, a94, c8, c13, c16, a113, a114, a115, a18, a124, a125, a20, a21, la21, a130, a131, a132, e0', e1, e2, e9, e10, e12, e15, e16, l16, e113, e114]
          exact ⟨⟨x2, _, hsl.more (by omega) (fun _ _ => rfl)⟩, _, rfl, rfl⟩
      · clear hsp a0 a1 a2 a8 a9 a10 a12 a13 a15 a16 a84 a85 a86 a93 a94 c8 c13 c16 a113 a114 a115 a18 a124 a125
        clear ea la x2 s2
        rintro ea la H4 n4 ⟨⟨x2, s2, hsp⟩, ⟨a0, a1, a2, a8, a9, a10, a12, a13, a15, a16, a84, a85, a86, a93, a94, c8, c13, c16⟩, ⟨a113, a114, a115⟩, ⟨a18, a124, a125⟩, a20, ⟨m21, a21, la21⟩, a130, a131, a132⟩
        have q : decide (((ps.length : Nat) : Int) < ps.length) = false := by simp
        simp only [↓sd0, su0, su1, resOf, pack, eqCells, ↓reduceIte, Nat.reduceEqDiff, Nat.reduceAdd, Nat.reduceLeDiff, Nat.reduceLT, reduceCtorEq, a0, a1, a2, a8, a9, a10, a12, a13, a15, a16, a84, a85, a86, a93, a94, c8, c13, c16, a113, a114, a115, a18, a124, a125, a130, a131, a132, q, hwd]
        exact ⟨x2, s2, hsp.more (by omega) (fun _ _ => rfl)⟩
    · clear hsp a0 a1 a2 a8 a9 a10 a12 a13 a15 a16 a84 a85 a86 a93 a94 c8 c13 c16 a113 a114 a115
      clear ea la x2 s2 H2 n2
      rintro ea la H4 n4 ⟨⟨x2, s2, hsp⟩, ⟨a0, a1, a2, a8, a9, a10, a12, a13, a15, a16, a84, a85, a86, a93, a94, c8, c13, c16⟩, ⟨a113, a114, a115⟩, a18, a124, a125⟩
      have q : decide (((2 : Nat) : Int) < 2) = false := by decide
      simp only [↓sd0, su0, su1, resOf, pack, eqCells, ↓reduceIte, Nat.reduceEqDiff, Nat.reduceAdd, Nat.reduceLeDiff, Nat.reduceLT, reduceCtorEq, a0, a1, a2, a8, a9, a10, a12, a13, a15, a16, a84, a85, a86, a93, a94, c8, c13, c16, a113, a114, a115, a18, a124, a125, q, hwj]
      exact ⟨x2, s2, hsp.more (by omega) (fun _ _ => rfl)⟩
  · rintro ea la H4 n4 ⟨⟨x2, s2, hsp⟩, ⟨a0, a1, a2, a8, a9, a10, a12, a13, a15, a16, a84, a85, a86, a93, a94, c8, c13, c16⟩, a113, a114, a115⟩
    have q : decide (((gs.length : Nat) : Int) < gs.length) = false := by simp
    rw [e114] at a114
    simp only [↓sd0, su0, su1, resOf, pack, eqCells, ↓reduceIte, Nat.reduceEqDiff, Nat.reduceAdd, Nat.reduceLeDiff, Nat.reduceLT, reduceCtorEq, a114, a115, q]
    refine hN _ _ _ _ x2 s2 (hsp.more (by omega) (fun _ _ => rfl)) ?_ ?_ ?_ ?_ ?_ ?_ ?_ ?_ ?_ ?_ ?_ ?_ ?_ ?_ ?_ ?_ ?_ ?_
    all_goals first | assumption | (simp only [↓sd0, su0, su1, resOf, pack, eqCells, ↓reduceIte, Nat.reduceEqDiff, Nat.reduceAdd, Nat.reduceLeDiff, Nat.reduceLT, reduceCtorEq]; assumption)

end Go.Proofs.Ytmbdccekcfeomaa.Am
