/- The search: steps of two kinds; leading down. -/
import Derived.Test.YtmbdccekcfeomaaT37
open Go
namespace Go.Proofs.Ytmbdccekcfeomaa.Am
set_option linter.unusedSimpArgs false
set_option linter.unusedVariables false
set_option maxRecDepth 20000

/-- What a step's adding answers. -/
def AddR (lo sid : Nat) (l : Lo) (x : SI) (s : SS) (H : Nat → Option Obj) (nx : Nat) (r : AV) (H' : Nat → Option Obj) (nx' : Nat) : Prop :=
  ∃ x' s', SP lo sid l x s H nx H' nx' x' s' ∧ s'.opn = s.opn ∧ ((r = .tup [.int .i64 0, .bool false] ∧ s'.had = s.had) ∨ (∃ c, s'.had = s.had ++ [c] ∧ r = .tup [.int .i64 s.had.length, .bool true]))
theorem agg_once (k : Int) : AV.agg [.int .i64 4, .int .i64 k, .int .i64 0, .int .i64 0, .int .i64 0, .bool false, .nilSlice, .nilSlice] = Gt.av ⟨4, k, 0, 0, 0, false, true, [], true, []⟩ := _root_.id rfl
theorem agg_bound (k : Int) (bs : List T) : AV.agg [.int .i64 2, .int .i64 k, .int .i64 0, .int .i64 0, .int .i64 0, .bool false, .nilSlice, .slice 2 (bs.map T.av)] = Gt.av ⟨2, k, 0, 0, 0, false, true, [], false, bs⟩ := _root_.id rfl
theorem agg_right (a b i j : Int) (t : Bool) (p : List Int) : AV.agg [.int .i64 3, .int .i64 a, .int .i64 b, .int .i64 i, .int .i64 j, .bool t, ints false p, .nilSlice] = Gt.av ⟨3, a, b, i, j, t, false, p, true, []⟩ := _root_.id rfl
theorem agg_claim (k : Int) : AV.agg [.int .i64 1, .int .i64 k, .int .i64 0, .int .i64 0, .int .i64 0, .bool false, .nilSlice, .nilSlice] = Gt.av ⟨1, k, 0, 0, 0, false, true, [], true, []⟩ := _root_.id rfl

section
variable {lo sid wl nx : Nat} {l : Lo} {x : SI} {s : SS} {H : Nat → Option Obj}

theorem sonce_spec (hl : l.fin) (h0 : l.chk.1 = 0) (hs : Srch H lo nx sid l x s) (hg : Gd l s) (hwl : wl ≤ lo) (k : Nat) : Call tab wl 68 [.ptr sid 0 0, .int .i64 k] H nx fun r H' nx' => AddR lo sid l x s H nx r H' nx' := by
  refine call_mut tab_68 ?_
  unfold body68
  dsimp only [qm, qf, ql, qL, qs, qc, qk, qi, qn, qb, qB, qe, qx, qo, qg]
  simp only [start2]
  simp only [↓sd0, su0, su1, resOf, pack, eqCells, ↓reduceIte, Nat.reduceEqDiff, Nat.reduceAdd, Nat.reduceLeDiff, Nat.reduceLT, reduceCtorEq, agg_once]
  refine CallK_of (add_spec hl h0 (hs.mono (by omega)) hg hwl ⟨4, k, 0, 0, 0, false, true, [], true, []⟩ ⟨by simp, by simp, by simp, by simp⟩) ?_
  rintro r H' n' ⟨x', s', ⟨h1, h2, h3⟩, h4, h5⟩
  have ev : Ev nx n' sid x x' s s' H H' := (Ev.refl (Nat.le_refl nx)).trans h3 (by omega)
  rcases h5 with ⟨rfl, h5⟩ | ⟨c, h5, rfl⟩
  · simp only [↓sd0, su0, su1, resOf, pack, eqCells, ↓reduceIte, Nat.reduceEqDiff, Nat.reduceAdd, Nat.reduceLeDiff, Nat.reduceLT, reduceCtorEq]; exact ⟨x', s', ⟨h1, h2, ev⟩, h4, Or.inl ⟨rfl, h5⟩⟩
  · simp only [↓sd0, su0, su1, resOf, pack, eqCells, ↓reduceIte, Nat.reduceEqDiff, Nat.reduceAdd, Nat.reduceLeDiff, Nat.reduceLT, reduceCtorEq]; exact ⟨x', s', ⟨h1, h2, ev⟩, h4, Or.inr ⟨c, h5, rfl⟩⟩

theorem sbound_spec (hl : l.fin) (h0 : l.chk.1 = 0) (hs : Srch H lo nx sid l x s) (hg : Gd l s) (hwl : wl ≤ lo) (k : Nat) (bs : List T) (hb : bs.length < 4294967296) (hbs : ∀ t ∈ bs, t.size < 1099511627776) : Call tab wl 77 [.ptr sid 0 0, .int .i64 k, .slice 2 (bs.map T.av)] H nx fun r H' nx' => AddR lo sid l x s H nx r H' nx' := by
  refine call_mut tab_77 ?_
  unfold body77
  dsimp only [qm, qf, ql, qL, qs, qc, qk, qi, qn, qb, qB, qe, qx, qo, qg]
  simp only [start3]
  simp only [↓sd0, su0, su1, resOf, pack, eqCells, ↓reduceIte, Nat.reduceEqDiff, Nat.reduceAdd, Nat.reduceLeDiff, Nat.reduceLT, reduceCtorEq, agg_bound]
  refine CallK_of (add_spec hl h0 (hs.mono (by omega)) hg hwl ⟨2, k, 0, 0, 0, false, true, [], false, bs⟩ ⟨by simp, by simp, hb, hbs⟩) ?_
  rintro r H' n' ⟨x', s', ⟨h1, h2, h3⟩, h4, h5⟩
  have ev : Ev nx n' sid x x' s s' H H' := (Ev.refl (Nat.le_refl nx)).trans h3 (by omega)
  rcases h5 with ⟨rfl, h5⟩ | ⟨c, h5, rfl⟩
  · simp only [↓sd0, su0, su1, resOf, pack, eqCells, ↓reduceIte, Nat.reduceEqDiff, Nat.reduceAdd, Nat.reduceLeDiff, Nat.reduceLT, reduceCtorEq]; exact ⟨x', s', ⟨h1, h2, ev⟩, h4, Or.inl ⟨rfl, h5⟩⟩
  · simp only [↓sd0, su0, su1, resOf, pack, eqCells, ↓reduceIte, Nat.reduceEqDiff, Nat.reduceAdd, Nat.reduceLeDiff, Nat.reduceLT, reduceCtorEq]; exact ⟨x', s', ⟨h1, h2, ev⟩, h4, Or.inr ⟨c, h5, rfl⟩⟩
end

theorem Srch.had_at {H : Nat → Option Obj} {lo n sid : Nat} {l : Lo} {x : SI} {s : SS} (h : Srch H lo n sid l x s) {k : Nat} (hk : k < s.had.length) : iaddrV H 1 (lv x.i3 s.had.length) (.int .i64 k) = some (.ptr x.i3 k 0) ∧ objV k (H x.i3) = some s.had[k].el := by
  have hne : s.had ≠ [] := by intro h; rw [h] at hk; simp at hk
  have e : lv x.i3 s.had.length = .lref x.i3 0 s.had.length := by unfold lv; rw [if_neg (by omega)]
  refine ⟨by rw [e]; exact iaddr_lref (h.o3 hne) hk, ?_⟩
  rw [h.o3 hne, objV_arr]; simp [hk]
theorem Srch.dn_at {H : Nat → Option Obj} {lo n sid : Nat} {l : Lo} {x : SI} {s : SS} (h : Srch H lo n sid l x s) {k : Nat} (hk : k < s.dn.length) : iaddrV H 1 (lv x.i5 s.dn.length) (.int .i64 k) = some (.ptr x.i5 k 0) ∧ objV k (H x.i5) = some (.int .i64 s.dn[k]) := by
  have hne : s.dn ≠ [] := by intro h; rw [h] at hk; simp at hk
  have e : lv x.i5 s.dn.length = .lref x.i5 0 s.dn.length := by unfold lv; rw [if_neg (by omega)]
  refine ⟨by rw [e]; exact iaddr_lref (h.o5 hne) hk, ?_⟩
  rw [h.o5 hne, objV_arr]; simp [hk, nint]
theorem indexA_bool {m : Nat} (hm : m < 2) : indexAV 2 1 false (.agg [.bool false, .bool true]) (.int .i64 m) = some (.bool (decide (m = 1))) := by
  have : m = 0 ∨ m = 1 := by omega
  rcases this with rfl | rfl <;> simp [indexAV, part, AV.cells, AV.isAgg]
theorem iaddr_fact0 {H : Nat → Option Obj} {b : Bool} {f : Fa} {fs : List Fa} {k : IntKind} : iaddrV H 5 (sl 5 b (f.av :: fs.map Fa.av)) (.int k 0) = some (.fptr f.av 0) := by
  have := iaddr_map (H := H) (sz := 5) (nil := b) (f := Fa.av) (es := f :: fs) (k := k) (i := 0) (by simp)
  simpa using this
theorem iaddr_pav {H : Nat → Option Obj} {b : Bool} {ps : List (Bool × List Int)} {k : IntKind} {i : Nat} (hi : i < ps.length) : iaddrV H 1 (sl 1 b (ps.map pav)) (.int k i) = some (.fptr (pav ps[i]) 0) := iaddr_map hi
theorem part_pav (x : Bool × List Int) : part 1 false (pav x) 0 = some (pav x) := part_whole (by rw [pav, cells_ints]; rfl) (isAgg_ints _ _)
theorem nol_pav (x : Bool × List Int) : (pav x).nol = true := nol_ints _ _
theorem thaw_bind {wl n : Nat} {e : Nat → AV} {lo' : Nat → Option (Nat × AV)} {H : Nat → Option Obj} {bid m s : Nat} {ts : List T} (hs : e s = .lref bid 0 m) (hw : wl ≤ bid) (hH : H bid = some (.arr 2 (ts.map T.av))) (hl : ts.length = m) : pres wl [(false, s)] ⟨e, lo', H, n⟩ = some ⟨upd e s (.slice 2 (ts.map T.av)), lo', upd H bid none, n⟩ := by
  have : thawV (thaw wl 0) wl H (.lref bid 0 m) = some (.slice 2 (ts.map T.av), upd H bid none) := by
    simp only [thawV]
    rw [if_neg (by omega), hH]
    simp only
    rw [if_pos (by rw [List.length_map, hl]; omega)]
    rw [show (ts.map T.av).drop 0 = ts.map T.av from rfl, List.take_of_length_le (by rw [List.length_map, hl]; exact Nat.le_refl _)]
    simp [thaw, solids_map T.solid_av]
  simp only [pres, hs, this]
theorem append_place {wl nid id : Nat} {H : Nat → Option Obj} {a : Int} {p : List Int} (hw : wl ≤ id) (hH : H id = some (.arr 1 [.int .i64 a])) (hp : p.length < 4294967296) : appendV wl nid true 1 8 H (p.map (AV.int .i64)) (.lref id 0 1) = some (ints false (a :: p), upd H id none) := by
  simp only [appendV]
  rw [if_pos hw, hH]
  simp only
  rw [if_pos ⟨trivial, by simp, by simp; omega⟩]
  simp only [if_true]
  have e : (List.drop 0 [AV.int .i64 a]).take 1 ++ p.map (AV.int .i64) = (a :: p).map (AV.int .i64) := by simp
  rw [e, if_pos (solids_ints _)]; rfl
theorem elems_pav (H : Nat → Option Obj) (x : Bool × List Int) : elemsV H 1 (pav x) = some (x.2.map (AV.int .i64)) := elemsV_sl _ _ _ _

/-- What leading down answers. -/
def LowR (lo sid : Nat) (l : Lo) (x : SI) (s : SS) (H : Nat → Option Obj) (nx : Nat) (r : AV) (H' : Nat → Option Obj) (nx' : Nat) : Prop :=
  ∃ x' s', SP lo sid l x s H nx H' nx' x' s' ∧ s'.opn = s.opn ∧ (r = .tup [.int .i64 0, .bool false] ∨ ∃ j : Nat, r = .tup [.int .i64 j, .bool true] ∧ j < s'.had.length)


theorem Ev.keep {nx n sid : Nat} {x : SI} {s : SS} {H H' : Nat → Option Obj} (hn : nx ≤ n) (hf : ∀ j, j < nx → H' j = H j) : Ev nx n sid x x s s H H' := ⟨hn, rfl, rfl, Or.inl rfl, Or.inl rfl, Or.inl rfl, fun j hj _ _ _ _ => hf j hj, Nat.le_refl _⟩
/-- The inner loops of 'lower'. -/
theorem lower_in {lo sid wl nx : Nat} {l : Lo} {x : SI} {s : SS} {H : Nat → Option Obj} (hl : l.fin) (h0 : l.chk.1 = 0) (hs : Srch H lo nx sid l x s) (hg : Gd l s) (hwl : wl ≤ lo) {k u : Nat} (hk : k < s.had.length) (hu : u < s.had.length) (hwn : wl ≤ nx) {t : Bool} {fr : T} (hfr : fr.ok) {Q : AExit → St → Prop}
    {e : Nat → AV} {lc : Nat → Option (Nat × AV)} {H' : Nat → Option Obj} {n m11 : Nat} (hn : nx ≤ n) (hf : ∀ j, j < nx → H' j = H j) (e0' : e 0 = .ptr sid 0 0) (e1 : e 1 = .int .i64 k) (e7 : e 7 = .int .i64 u) (e10 : e 10 = .bool t) (e11 : e 11 = .loc 11 m11 0) (l11 : lc 11 = some (m11, fr.av))
    (e82 : e 82 = sl 5 s.had[k].nil (s.had[k].fs.map Fa.av)) (e84 : e 84 = .int .i64 0) (e83 : e 83 = .int .i64 s.had[k].fs.length)
    (hN : ∀ e' lc' H'' n', nx ≤ n' → (∀ j, j < nx → H'' j = H j) → e' 0 = e 0 → e' 1 = e 1 → e' 7 = e 7 → e' 8 = e 8 → e' 25 = e 25 → e' 26 = e 26 → e' 27 = e 27 → e' 54 = e 54 → e' 55 = e 55 → lc' 8 = lc 8 → Q .normal ⟨e', lc', H'', n'⟩)
    (hR : ∀ e' lc' H'' n', LowR lo sid l x s H nx (.tup [e' 4, e' 5]) H'' n' → AV.nols [e' 4, e' 5] = true → Q .ret ⟨e', lc', H'', n'⟩) :
    W tab wl (.block 4
                (.loop (.seq (.region none [
                  ⟨some 85, .bin .lss (.t 84) (.t 83), none, []⟩])
                  (.seq (.cond (.t 85)
                    .skip
                    (.exit 4))
                  (.seq (.block 5
                    (.seq (.region none [
                    ⟨some 86, .mov (.t 84), none, []⟩,
                    ⟨some 87, .iaddr 5 (.t 82) (.t 84), none, []⟩,
                    ⟨some 88, .load 5 true (.t 87), none, []⟩,
                    ⟨some 14, .lalloc (.agg [(.bool false), (.int .i64 0), .nilSlice, (.int .i64 0), .nilSlice]), none, []⟩,
                    ⟨some 13, .mov (.t 86), none, []⟩,
                    ⟨none, .store 5 (.t 14) (.t 88), none, []⟩])
                    (.seq (.region none [
                    ⟨some 89, .faddr 1 (.t 14), none, []⟩,
                    ⟨some 90, .load 2 true (.t 89), none, []⟩,
                    ⟨some 91, .faddr 3 (.t 14), none, []⟩,
                    ⟨some 92, .load 2 true (.t 91), none, []⟩,
                    ⟨some 93, .build [(.int .i64 0), .nilSlice, (.int .i64 0), .nilSlice] [(0, 2, (.t 90)), (2, 2, (.t 92))], none, []⟩,
                    ⟨some 94, .mov (.c (.int .i64 0)), none, []⟩])
                    (.block 6
                      (.loop (.seq (.region none [
                        ⟨some 95, .bin .lss (.t 94) (.c (.int .i64 2)), none, []⟩])
                        (.seq (.cond (.t 95)
                          .skip
                          (.exit 6))
                        (.seq (.block 7
                          (.seq (.region none [
                          ⟨some 96, .mov (.t 94), none, []⟩,
                          ⟨some 97, .indexA 2 2 true (.t 93) (.t 94), none, []⟩,
                          ⟨some 16, .lalloc (.agg [(.int .i64 0), .nilSlice]), none, []⟩,
                          ⟨some 15, .mov (.t 96), none, []⟩,
                          ⟨none, .store 2 (.t 16) (.t 97), none, []⟩])
                          (.seq (.region none [
                          ⟨some 98, .load 2 true (.t 16), none, []⟩,
                          ⟨some 99, .call (.c (.clo 74 [])) [(.t 98), (.c .nilSlice)], none, []⟩,
                          ⟨some 100, .len (.t 99), none, []⟩,
                          ⟨some 101, .mov (.c (.int .i64 0)), none, []⟩])
                          (.block 8
                            (.loop (.seq (.region none [
                              ⟨some 102, .bin .lss (.t 101) (.t 100), none, []⟩])
                              (.seq (.cond (.t 102)
                                .skip
                                (.exit 8))
                              (.seq (.block 9
                                (.seq (.region none [
                                ⟨some 103, .iaddr 1 (.t 99) (.t 101), none, []⟩,
                                ⟨some 104, .load 1 false (.t 103), none, []⟩,
                                ⟨some 18, .mov (.t 104), none, []⟩])
                                (.seq (.region none [
                                ⟨some 105, .load 2 true (.t 11), none, []⟩,
                                ⟨some 106, .call (.c (.clo 55 [])) [(.t 105)], none, []⟩,
                                ⟨some 107, .mkslice 2 32 (.agg [(.int .i64 0), .nilSlice]) (.t 106) (.t 106), none, []⟩,
                                ⟨some 19, .mov (.t 107), none, []⟩])
                                (.seq (.seq (.region (some [0, 0, 0, 6, 0, 31, 63]) [
                                ⟨some 108, .load 2 true (.t 11), none, []⟩,
                                ⟨some 109, .load 2 true (.t 16), none, []⟩,
                                ⟨some 110, .mov (.t 18), none, []⟩,
                                ⟨some 111, .call (.c (.clo 76 [])) [(.t 109), (.t 110)], none, []⟩,
                                ⟨some 112, .mov (.t 19), none, []⟩,
                                ⟨some 113, .call (.c (.clo 75 [])) [(.t 108), (.t 111), (.t 112)], none, []⟩,
                                ⟨some 114, .un .not (.t 113), none, []⟩])
                                (.cond (.t 114)
                                  (.exit 9)
                                  .skip))
                                (.seq (.region none [
                                ⟨some 115, .mov (.t 7), none, []⟩,
                                ⟨some 20, .mov (.t 115), none, []⟩,
                                ⟨some 21, .mov (.c (.bool true)), none, []⟩])
                                (.seq (.seq (.region none [
                                ⟨some 116, .mov (.t 19), none, [(false, 19)]⟩,
                                ⟨some 117, .len (.t 116), none, []⟩,
                                ⟨some 118, .bin .gtr (.t 117) (.c (.int .i64 0)), none, []⟩])
                                (.cond (.t 118)
                                  (.region none [
                                  ⟨some 120, .mov (.t 0), none, []⟩,
                                  ⟨some 121, .mov (.t 7), none, []⟩,
                                  ⟨some 122, .mov (.t 19), none, []⟩,
                                  ⟨some 123, .call (.c (.clo 77 [])) [(.t 120), (.t 121), (.t 122)], none, []⟩,
                                  ⟨some 119, .mov (.t 123), none, []⟩,
                                  ⟨some 124, .extract 0 (.t 119), none, []⟩,
                                  ⟨some 125, .extract 1 (.t 119), none, []⟩,
                                  ⟨some 20, .mov (.t 124), none, []⟩,
                                  ⟨some 21, .mov (.t 125), none, []⟩])
                                  .skip))
                                (.seq (.seq (.region none [
                                ⟨some 126, .mov (.t 21), none, []⟩,
                                ⟨some 127, .un .not (.t 126), none, []⟩])
                                (.cond (.t 127)
                                  (.seq (.region none [
                                  ⟨some 4, .mov (.c (.int .i64 0)), none, []⟩,
                                  ⟨some 5, .mov (.c (.bool false)), none, []⟩])
                                  .ret)
                                  .skip))
                                (.seq (.region none [
                                ⟨some 128, .mov (.t 0), none, []⟩,
                                ⟨some 129, .mov (.t 20), none, []⟩,
                                ⟨some 130, .mov (.t 1), none, []⟩,
                                ⟨some 131, .mov (.t 13), none, []⟩,
                                ⟨some 132, .mov (.t 10), none, []⟩,
                                ⟨some 133, .mov (.t 15), none, []⟩,
                                ⟨some 134, .bin .add (.t 133) (.c (.int .i64 1)), none, []⟩,
                                ⟨some 135, .bslice true 1 1 [(.int .i64 0)] [(0, 1, (.t 134))], none, []⟩,
                                ⟨some 136, .mov (.t 18), none, []⟩,
                                ⟨some 137, .append true 1 8 (.t 135) (.t 136), none, []⟩,
                                ⟨some 138, .build [(.int .i64 0), (.int .i64 0), (.int .i64 0), (.int .i64 0), (.int .i64 0), (.bool false), .nilSlice, .nilSlice] [(0, 1, (.c (.int .i64 3))), (1, 1, (.t 129)), (2, 1, (.t 130)), (4, 1, (.t 131)), (5, 1, (.t 132)), (6, 1, (.t 137))], none, []⟩,
                                ⟨some 139, .call (.c (.clo 19 [])) [(.t 128), (.t 138)], none, []⟩,
                                ⟨some 140, .extract 0 (.t 139), none, []⟩,
                                ⟨some 141, .extract 1 (.t 139), none, []⟩,
                                ⟨some 4, .mov (.t 140), none, []⟩,
                                ⟨some 5, .mov (.t 141), none, []⟩])
                                .ret))))))))
                              (.region none [
                              ⟨some 142, .bin .add (.t 101) (.c (.int .i64 1)), none, []⟩,
                              ⟨some 101, .mov (.t 142), none, []⟩])))))))))
                        (.region none [
                        ⟨some 143, .bin .add (.t 94) (.c (.int .i64 1)), none, []⟩,
                        ⟨some 94, .mov (.t 143), none, []⟩])))))))))
                  (.region none [
                  ⟨some 144, .bin .add (.t 84) (.c (.int .i64 1)), none, []⟩,
                  ⟨some 84, .mov (.t 144), none, []⟩])))))) ⟨e, lc, H', n⟩ Q := by
  have obj : ∀ H' : Nat → Option Obj, (∀ j, j < nx → H' j = H j) → H' sid = some (.arr 7 [.agg [ints l.anil l.ar, sl 1 l.cnil (l.cs.map Cl.el), lv x.i2 s.steps.length, lv x.i3 s.had.length, opv x.nil4 x.i4 s.opn.length, lv x.i5 s.dn.length, .bool s.lost]]) := fun H' hf => by rw [hf _ hs.lt.1]; exact hs.obj
  have hko := hg.ok _ (List.getElem_mem hk)
  generalize s.had[k] = ck at hko e82 e83
  simp only [↓sd0, su0, su1, resOf, pack, eqCells, ↓reduceIte, Nat.reduceEqDiff, Nat.reduceAdd, Nat.reduceLeDiff, Nat.reduceLT, reduceCtorEq]
  refine W_count ck.fs.length (fun i e' lc' H2 n => nx ≤ n ∧ (∀ j, j < nx → H2 j = H j) ∧ (e' 0 = e 0 ∧ e' 1 = e 1 ∧ e' 7 = e 7 ∧ e' 8 = e 8 ∧ e' 25 = e 25 ∧ e' 26 = e 26 ∧ e' 27 = e 27 ∧ e' 54 = e 54 ∧ e' 55 = e 55 ∧ lc' 8 = lc 8) ∧
    (e' 10 = e 10 ∧ e' 11 = e 11 ∧ lc' 11 = lc 11 ∧ e' 82 = e 82 ∧ e' 84 = .int .i64 i ∧ e' 83 = e 83)) ?_ ?_ ?_
  · exact ⟨hn, hf, ⟨rfl, rfl, rfl, rfl, rfl, rfl, rfl, rfl, rfl, rfl⟩, rfl, rfl, rfl, rfl, e84, rfl⟩
  · rintro i ea la H2 n2 hi ⟨hn2, hf2, ⟨a0, a1, a7, a8, a25, a26, a27, a54, a55, a8'⟩, a10, a11, a11', a82, a84, a83⟩
    have hwi := wrap_succ hi (by have := hko.1; omega)
    have hgo := hko.2 _ (List.getElem_mem hi)
    generalize hfg : ck.fs[i] = g at hgo
    have hig : ∀ H, iaddrV H 5 (sl 5 ck.nil (ck.fs.map Fa.av)) (.int .i64 i) = some (.fptr g.av 0) := fun H => by rw [iaddr_map hi, hfg]
    simp only [↓sd0, su0, su1, resOf, pack, eqCells, ↓reduceIte, Nat.reduceEqDiff, Nat.reduceAdd, Nat.reduceLeDiff, Nat.reduceLT, reduceCtorEq, a82, e82, a84, a83, e83, hig, lt_cast hi]
    refine W_count 2 (fun w e' lc' H2 n => nx ≤ n ∧ (∀ j, j < nx → H2 j = H j) ∧ (e' 0 = e 0 ∧ e' 1 = e 1 ∧ e' 7 = e 7 ∧ e' 8 = e 8 ∧ e' 25 = e 25 ∧ e' 26 = e 26 ∧ e' 27 = e 27 ∧ e' 54 = e 54 ∧ e' 55 = e 55 ∧ lc' 8 = lc 8) ∧
      (e' 10 = e 10 ∧ e' 11 = e 11 ∧ lc' 11 = lc 11 ∧ e' 82 = e 82 ∧ e' 84 = .int .i64 i ∧ e' 83 = e 83) ∧ e' 13 = .int .i64 i ∧ e' 93 = .agg [.int .i64 g.l.h, sl 2 g.l.nil (g.l.ks.map T.av), .int .i64 g.r.h, sl 2 g.r.nil (g.r.ks.map T.av)] ∧ e' 94 = .int .i64 w) ?_ ?_ ?_
    · simp only [↓sd0, su0, su1, resOf, pack, eqCells, ↓reduceIte, Nat.reduceEqDiff, Nat.reduceAdd, Nat.reduceLeDiff, Nat.reduceLT, reduceCtorEq, a0, a1, a7, a8, a25, a26, a27, a54, a55, a8', a10, a11, a11', a82, a84, a83, e82, e83]
      exact ⟨by omega, hf2⟩
    · clear hf2 hn2 a0 a1 a7 a8 a25 a26 a27 a54 a55 a8' a10 a11 a11' a82 a84 a83
      clear ea la H2 n2
      rintro w ea la H2 n2 hw ⟨hn2, hf2, ⟨a0, a1, a7, a8, a25, a26, a27, a54, a55, a8'⟩, ⟨a10, a11, a11', a82, a84, a83⟩, a13, a93, a94⟩
      have hw' : w < [g.l, g.r].length := hw
      have hix := indexA2' hw'
      have huo : [g.l, g.r][w].ok := by
        have : w = 0 ∨ w = 1 := by omega
        rcases this with rfl | rfl
        · exact hgo.1
        · exact hgo.2
      generalize [g.l, g.r][w] = v at hix huo
      have hww := wrap_succ hw (by omega)
      have hpl : ∀ H n, Call tab wl 74 [v.av, .nilSlice] H n fun r H' nx' => (∃ ps : List (Bool × List Int), r = sl 1 true (ps.map pav) ∧ ps.length ≤ v.size ∧ ∀ x ∈ ps, ∃ q, x.2 = [] ++ q ∧ (v.walk q).isSome = true ∧ q.length < v.size ∧ ∀ s ∈ q, 1 ≤ s ∧ s ≤ 1048576) ∧ H' = H ∧ nx' = n :=
        fun H n => places_spec v true [] wl H n (by have := huo.1; omega) (by have := huo.1; simp; omega)
      simp only [↓sd0, su0, su1, resOf, pack, eqCells, ↓reduceIte, Nat.reduceEqDiff, Nat.reduceAdd, Nat.reduceLeDiff, Nat.reduceLT, reduceCtorEq, a93, a94, hix, lt_two hw]
      refine CallK_of (hpl _ _) ?_
      rintro r H3 n3 ⟨⟨ps, rfl, hpsl, hps⟩, rfl, rfl⟩
      have hv40 := huo.1
      simp only [↓sd0, su0, su1, resOf, pack, eqCells, ↓reduceIte, Nat.reduceEqDiff, Nat.reduceAdd, Nat.reduceLeDiff, Nat.reduceLT, reduceCtorEq]
      refine W_count ps.length (fun p e' lc' H2 n => nx ≤ n ∧ (∀ j, j < nx → H2 j = H j) ∧ (e' 0 = e 0 ∧ e' 1 = e 1 ∧ e' 7 = e 7 ∧ e' 8 = e 8 ∧ e' 25 = e 25 ∧ e' 26 = e 26 ∧ e' 27 = e 27 ∧ e' 54 = e 54 ∧ e' 55 = e 55 ∧ lc' 8 = lc 8) ∧
        (e' 10 = e 10 ∧ e' 11 = e 11 ∧ lc' 11 = lc 11 ∧ e' 82 = e 82 ∧ e' 84 = .int .i64 i ∧ e' 83 = e 83) ∧ (e' 13 = .int .i64 i ∧ e' 93 = .agg [.int .i64 g.l.h, sl 2 g.l.nil (g.l.ks.map T.av), .int .i64 g.r.h, sl 2 g.r.nil (g.r.ks.map T.av)] ∧ e' 94 = .int .i64 w) ∧
        e' 15 = .int .i64 w ∧ (∃ m, e' 16 = .loc 16 m 0 ∧ lc' 16 = some (m, v.av)) ∧ e' 99 = sl 1 true (ps.map pav) ∧ e' 101 = .int .i64 p ∧ e' 100 = .int .i64 ps.length) ?_ ?_ ?_
      · simp only [↓sd0, su0, su1, resOf, pack, eqCells, ↓reduceIte, Nat.reduceEqDiff, Nat.reduceAdd, Nat.reduceLeDiff, Nat.reduceLT, reduceCtorEq, a0, a1, a7, a8, a25, a26, a27, a54, a55, a8', a10, a11, a11', a82, a84, a83, a13, a93, a94]
        exact ⟨by omega, hf2, _, rfl, rfl⟩
      · clear hf2 hn2 a0 a1 a7 a8 a25 a26 a27 a54 a55 a8' a10 a11 a11' a82 a84 a83 a13 a93 a94
        clear ea la
        rintro p ea la H2 n2 hp ⟨hn2, hf2, ⟨a0, a1, a7, a8, a25, a26, a27, a54, a55, a8'⟩, ⟨a10, a11, a11', a82, a84, a83⟩, ⟨a13, a93, a94⟩, a15, ⟨m16, a16, la16⟩, a99, a101, a100⟩
        obtain ⟨q, hq1, hq2, hq3, hq4⟩ := hps _ (List.getElem_mem hp)
        have hip : ∀ H, iaddrV H 1 (sl 1 true (ps.map pav)) (.int .i64 p) = some (.fptr (pav ps[p]) 0) := fun H => iaddr_pav hp
        have hwp := wrap_succ hp (by omega)
        generalize ps[p] = pp at hip hq1
        rw [List.nil_append] at hq1
        obtain ⟨sv, hsv⟩ := Option.isSome_iff_exists.1 hq2
        have hpos : ∀ s ∈ q, -4611686018427387904 < s ∧ s < 4611686018427387904 := fun s hs => by have := hq4 s hs; omega
        have hat : Gives tab 76 [v.av, pav pp] sv.av := by rw [pav, hq1]; exact at_spec pp.1 q (by omega) hpos v sv hsv
        have hsvs := walk_size _ _ _ hsv
        have hfs := T.ok_good hfr
        have hms := most_spec fr (by have := hfs.1; omega) hfs.2
        have hmm := vt_most fr hfr.2
        have hmk : mkV 32 (.int .i64 fr.most) (.int .i64 fr.most) = some fr.most := mkV_nat (by omega)
        simp only [↓sd0, su0, su1, resOf, pack, eqCells, ↓reduceIte, Nat.reduceEqDiff, Nat.reduceAdd, Nat.reduceLeDiff, Nat.reduceLT, reduceCtorEq, dr0, Nat.reducePow, Nat.reduceDiv, Nat.reduceMod, Nat.reduceBEq, a99, a101, a100, hip, lt_cast hp, part_pav, a11, e11, a11', l11, hms.callK, hmk, a16, la16, hat.callK, nol_pav]
        have hrep : List.replicate fr.most (AV.agg [.int .i64 0, .nilSlice]) = (List.replicate fr.most (T.var 0)).map T.av := by simp [var_av]
        refine CallK_of (onto_spec (m := fr.most) (B := 1000) (by omega) fr sv (List.replicate fr.most (T.var 0)) wl _ _ (n2 + 6) (by have := hfs.1; omega) hfs.2 (Nat.le_refl _) (by omega) (by simp) (fun s hs => by rw [(List.mem_replicate.1 hs).2]; decide) (by omega) (by omega) (by rw [upd_same, hrep])) ?_
        rintro r H4 n4 ⟨⟨b, rfl⟩, hn4, ts, htsl, htss, rfl⟩
        rw [upd_upd]
        cases b
        · simp only [↓sd0, su0, su1, resOf, pack, eqCells, ↓reduceIte, Nat.reduceEqDiff, Nat.reduceAdd, Nat.reduceLeDiff, Nat.reduceLT, reduceCtorEq, dr0, Nat.reducePow, Nat.reduceDiv, Nat.reduceMod, Nat.reduceBEq, hwp, a0, a1, a7, a8, a25, a26, a27, a54, a55, a8', a10, a11, a11', a82, a84, a83, a13, a93, a94, a15, a16, la16, a99, a101, a100]
          exact ⟨by omega, fun j hj => by rw [if_neg (by omega)]; exact hf2 j hj, _, rfl, rfl⟩
        · have hth : ∀ (e : Nat → AV) (lo' : Nat → Option (Nat × AV)) (n : Nat), e 19 = .lref (n2 + 6) 0 fr.most → pres wl [(false, 19)] ⟨e, lo', upd H2 (n2 + 6) (some (.arr 2 (ts.map T.av))), n⟩ = some ⟨upd e 19 (.slice 2 (ts.map T.av)), lo', upd H2 (n2 + 6) none, n⟩ := fun e lo' n he => by
            have := thaw_bind (wl := wl) (n := n) (lo' := lo') (H := upd H2 (n2 + 6) (some (.arr 2 (ts.map T.av)))) he (by omega) (upd_same _ _ _) htsl
            rw [upd_upd] at this; exact this
          have hf5 : ∀ j, j < nx → upd H2 (n2 + 6) none j = H j := fun j hj => by rw [upd_other _ _ (by omega)]; exact hf2 j hj
          have hws : IntKind.i64.wrap ((w : Int) + 1) = ((w + 1 : Nat) : Int) := hww
          generalize hH5 : upd H2 (n2 + 6) none = H5 at hf5 hth
          have hs5 := hs.keep hf5
          -- the last step
          have fin : ∀ (x' : SI) (s' : SS) (H6 H7 : Nat → Option Obj) (n6 n7 : Nat) (xi : Nat), SP lo sid l x s H nx H6 n6 x' s' → s'.opn = s.opn → n6 ≤ n7 → (∀ j, j < n6 → H7 j = H6 j) →
              Call tab wl 19 [.ptr sid 0 0, Gt.av ⟨3, xi, k, 0, i, t, false, ((w + 1 : Nat) : Int) :: q, true, []⟩] H7 n7 fun r H'' n'' => LowR lo sid l x s H nx r H'' n'' := by
            rintro x' s' H6 H7 n6 n7 xi ⟨b1, b2, b3⟩ b4 b5 b6
            refine Call_mono (add_spec hl h0 ((b1.keep b6).mono b5) b2 hwl _ ⟨by simp; omega, fun s hs => ?_, by simp, by simp⟩) ?_
            · rcases List.mem_cons.1 hs with rfl | h
              · omega
              · exact hpos s h
            · rintro r H8 n8 ⟨x'', s'', ⟨c1, c2, c3⟩, c4, c5⟩
              refine ⟨x'', s'', ⟨c1, c2, b3.trans ((Ev.keep (Nat.le_refl n6) b6).trans c3 (by omega)) (Nat.le_refl _)⟩, by rw [c4, b4], ?_⟩
              rcases c5 with ⟨c5, _⟩ | ⟨c, c5, c6⟩
              · exact Or.inl c5
              · exact Or.inr ⟨_, c6, by rw [c5]; simp⟩
          have hap : ∀ (F : Nat → Option Obj) (c j nid : Nat), wl ≤ c → appendV wl nid true 1 8 (upd F (c + j) (some (.arr 1 [.int .i64 ((w + 1 : Nat) : Int)]))) (q.map (AV.int .i64)) (.lref (c + j) 0 1) = some (ints false (((w + 1 : Nat) : Int) :: q), upd (upd F (c + j) (some (.arr 1 [.int .i64 ((w + 1 : Nat) : Int)]))) (c + j) none) := fun F c j nid hc => append_place (by omega) (upd_same _ _ _) (by omega)
          cases hm0 : decide ((fr.most : Int) > 0)
          · have hap1 := fun F j nid => hap F n4 j nid (by omega)
            simp only [↓sd0, su0, su1, resOf, pack, eqCells, ↓reduceIte, Nat.reduceEqDiff, Nat.reduceAdd, Nat.reduceLeDiff, Nat.reduceLT, reduceCtorEq, dr0, Nat.reducePow, Nat.reduceDiv, Nat.reduceMod, Nat.reduceBEq, hth, htsl, hm0, a0, e0', a1, e1, a7, e7, a13, a10, e10, a15, hws, chop_1, elems_pav, hq1, hap1, agg_right]
            refine CallK_of (fin x s H5 _ n4 _ u ⟨hs5.mono (by omega), hg, Ev.keep (by omega) hf5⟩ rfl (by omega) (fun j hj => ?_)) ?_
            · rw [upd_other _ _ (by omega), upd_other _ _ (by omega)]
            · rintro r H8 n8 hLow
              have hLow' := hLow
              obtain ⟨x'', s'', hsp, ho, hr⟩ := hLow
              rcases hr with rfl | ⟨jj, rfl, hjj⟩
              · simp only [↓sd0, su0, su1, resOf, pack, eqCells, ↓reduceIte, Nat.reduceEqDiff, Nat.reduceAdd, Nat.reduceLeDiff, Nat.reduceLT, reduceCtorEq]
                refine hR _ _ _ _ ?_ ?_
                · simp only [↓sd0, su0, su1, resOf, pack, eqCells, ↓reduceIte, Nat.reduceEqDiff, Nat.reduceAdd, Nat.reduceLeDiff, Nat.reduceLT, reduceCtorEq]; exact hLow'
                · simp only [↓sd0, su0, su1, resOf, pack, eqCells, ↓reduceIte, Nat.reduceEqDiff, Nat.reduceAdd, Nat.reduceLeDiff, Nat.reduceLT, reduceCtorEq]
              · simp only [↓sd0, su0, su1, resOf, pack, eqCells, ↓reduceIte, Nat.reduceEqDiff, Nat.reduceAdd, Nat.reduceLeDiff, Nat.reduceLT, reduceCtorEq]
                refine hR _ _ _ _ ?_ ?_
                · simp only [↓sd0, su0, su1, resOf, pack, eqCells, ↓reduceIte, Nat.reduceEqDiff, Nat.reduceAdd, Nat.reduceLeDiff, Nat.reduceLT, reduceCtorEq]; exact hLow'
                · simp only [↓sd0, su0, su1, resOf, pack, eqCells, ↓reduceIte, Nat.reduceEqDiff, Nat.reduceAdd, Nat.reduceLeDiff, Nat.reduceLT, reduceCtorEq]
          · simp only [↓sd0, su0, su1, resOf, pack, eqCells, ↓reduceIte, Nat.reduceEqDiff, Nat.reduceAdd, Nat.reduceLeDiff, Nat.reduceLT, reduceCtorEq, dr0, Nat.reducePow, Nat.reduceDiv, Nat.reduceMod, Nat.reduceBEq, hth, htsl, hm0, a0, e0', a7, e7]
            refine CallK_of (sbound_spec hl h0 (hs5.mono (by omega)) hg hwl u ts (by omega) (fun t ht => by have := htss t ht; omega)) ?_
            rintro r H6 n6 ⟨x', s', ⟨c1, c2, c3⟩, c4, c5⟩
            have hsp : SP lo sid l x s H nx H6 n6 x' s' := ⟨c1, c2, (Ev.keep (Nat.le_refl nx) hf5).trans c3 (by omega)⟩
            rcases c5 with ⟨rfl, c5⟩ | ⟨c, c5, rfl⟩
            · simp only [↓sd0, su0, su1, resOf, pack, eqCells, ↓reduceIte, Nat.reduceEqDiff, Nat.reduceAdd, Nat.reduceLeDiff, Nat.reduceLT, reduceCtorEq, dr0, Nat.reducePow, Nat.reduceDiv, Nat.reduceMod, Nat.reduceBEq]
              refine hR _ _ _ _ ?_ ?_
              · simp only [↓sd0, su0, su1, resOf, pack, eqCells, ↓reduceIte, Nat.reduceEqDiff, Nat.reduceAdd, Nat.reduceLeDiff, Nat.reduceLT, reduceCtorEq]
                exact ⟨x', s', ⟨c1.mono (by omega), c2, hsp.2.2.trans (Ev.refl (Nat.le_refl n6)) (Nat.le_refl _) |> fun e => { e with le := by have := e.le; omega }⟩, c4, Or.inl rfl⟩
              · simp only [↓sd0, su0, su1, resOf, pack, eqCells, ↓reduceIte, Nat.reduceEqDiff, Nat.reduceAdd, Nat.reduceLeDiff, Nat.reduceLT, reduceCtorEq]
            · have hn6 : n4 + 15 ≤ n6 := c3.le
              have hap1 := fun F j nid => hap F n6 j nid (by omega)
              simp only [↓sd0, su0, su1, resOf, pack, eqCells, ↓reduceIte, Nat.reduceEqDiff, Nat.reduceAdd, Nat.reduceLeDiff, Nat.reduceLT, reduceCtorEq, dr0, Nat.reducePow, Nat.reduceDiv, Nat.reduceMod, Nat.reduceBEq, a0, e0', a1, e1, a7, e7, a13, a10, e10, a15, hws, chop_1, elems_pav, hq1, hap1, agg_right]
              refine CallK_of (fin x' s' H6 _ n6 _ s.had.length hsp c4 (by omega) (fun j hj => ?_)) ?_
              · rw [upd_other _ _ (by omega), upd_other _ _ (by omega)]
              · rintro r H8 n8 hLow
                have hLow' := hLow
                obtain ⟨x'', s'', hsp, ho, hr⟩ := hLow
                rcases hr with rfl | ⟨jj, rfl, hjj⟩
                · simp only [↓sd0, su0, su1, resOf, pack, eqCells, ↓reduceIte, Nat.reduceEqDiff, Nat.reduceAdd, Nat.reduceLeDiff, Nat.reduceLT, reduceCtorEq]
                  refine hR _ _ _ _ ?_ ?_
                  · simp only [↓sd0, su0, su1, resOf, pack, eqCells, ↓reduceIte, Nat.reduceEqDiff, Nat.reduceAdd, Nat.reduceLeDiff, Nat.reduceLT, reduceCtorEq]; exact hLow'
                  · simp only [↓sd0, su0, su1, resOf, pack, eqCells, ↓reduceIte, Nat.reduceEqDiff, Nat.reduceAdd, Nat.reduceLeDiff, Nat.reduceLT, reduceCtorEq]
                · simp only [↓sd0, su0, su1, resOf, pack, eqCells, ↓reduceIte, Nat.reduceEqDiff, Nat.reduceAdd, Nat.reduceLeDiff, Nat.reduceLT, reduceCtorEq]
                  refine hR _ _ _ _ ?_ ?_
                  · simp only [↓sd0, su0, su1, resOf, pack, eqCells, ↓reduceIte, Nat.reduceEqDiff, Nat.reduceAdd, Nat.reduceLeDiff, Nat.reduceLT, reduceCtorEq]; exact hLow'
                  · simp only [↓sd0, su0, su1, resOf, pack, eqCells, ↓reduceIte, Nat.reduceEqDiff, Nat.reduceAdd, Nat.reduceLeDiff, Nat.reduceLT, reduceCtorEq]
      · rintro eb lb H2 n2 ⟨hn2, hf2, ⟨a0, a1, a7, a8, a25, a26, a27, a54, a55, a8'⟩, ⟨a10, a11, a11', a82, a84, a83⟩, ⟨a13, a93, a94⟩, a15, ⟨m16, a16, la16⟩, a99, a101, a100⟩
        simp only [↓sd0, su0, su1, resOf, pack, eqCells, ↓reduceIte, Nat.reduceEqDiff, Nat.reduceAdd, Nat.reduceLeDiff, Nat.reduceLT, reduceCtorEq, hww, a0, a1, a7, a8, a25, a26, a27, a54, a55, a8', a10, a11, a11', a82, a84, a83, a13, a93, a94, a15, a16, la16, a99, a101, a100]
        exact ⟨by omega, hf2⟩
    · rintro eb lb H2 n2 ⟨hn2, hf2, ⟨a0, a1, a7, a8, a25, a26, a27, a54, a55, a8'⟩, ⟨a10, a11, a11', a82, a84, a83⟩, a13, a93, a94⟩
      have q : decide (((2 : Nat) : Int) < 2) = false := by decide
      simp only [↓sd0, su0, su1, resOf, pack, eqCells, ↓reduceIte, Nat.reduceEqDiff, Nat.reduceAdd, Nat.reduceLeDiff, Nat.reduceLT, reduceCtorEq, q, hwi, a0, a1, a7, a8, a25, a26, a27, a54, a55, a8', a10, a11, a11', a82, a84, a83, a13, a93, a94]
      exact ⟨by omega, hf2⟩
  · rintro eb lb H2 n2 ⟨hn2, hf2, ⟨a0, a1, a7, a8, a25, a26, a27, a54, a55, a8'⟩, a10, a11, a11', a82, a84, a83⟩
    simp only [↓sd0, su0, su1, resOf, pack, eqCells, ↓reduceIte, Nat.reduceEqDiff, Nat.reduceAdd, Nat.reduceLeDiff, Nat.reduceLT, reduceCtorEq, a84, a83, e83]
    exact hN _ _ _ _ (by omega) hf2 (by simp only [↓sd0, su0, su1, resOf, pack, eqCells, ↓reduceIte, Nat.reduceEqDiff, Nat.reduceAdd, Nat.reduceLeDiff, Nat.reduceLT, reduceCtorEq, a0]) (by simp only [↓sd0, su0, su1, resOf, pack, eqCells, ↓reduceIte, Nat.reduceEqDiff, Nat.reduceAdd, Nat.reduceLeDiff, Nat.reduceLT, reduceCtorEq, a1]) (by simp only [↓sd0, su0, su1, resOf, pack, eqCells, ↓reduceIte, Nat.reduceEqDiff, Nat.reduceAdd, Nat.reduceLeDiff, Nat.reduceLT, reduceCtorEq, a7]) (by simp only [↓sd0, su0, su1, resOf, pack, eqCells, ↓reduceIte, Nat.reduceEqDiff, Nat.reduceAdd, Nat.reduceLeDiff, Nat.reduceLT, reduceCtorEq, a8]) (by simp only [↓sd0, su0, su1, resOf, pack, eqCells, ↓reduceIte, Nat.reduceEqDiff, Nat.reduceAdd, Nat.reduceLeDiff, Nat.reduceLT, reduceCtorEq, a25]) (by simp only [↓sd0, su0, su1, resOf, pack, eqCells, ↓reduceIte, Nat.reduceEqDiff, Nat.reduceAdd, Nat.reduceLeDiff, Nat.reduceLT, reduceCtorEq, a26]) (by simp only [↓sd0, su0, su1, resOf, pack, eqCells, ↓reduceIte, Nat.reduceEqDiff, Nat.reduceAdd, Nat.reduceLeDiff, Nat.reduceLT, reduceCtorEq, a27]) (by simp only [↓sd0, su0, su1, resOf, pack, eqCells, ↓reduceIte, Nat.reduceEqDiff, Nat.reduceAdd, Nat.reduceLeDiff, Nat.reduceLT, reduceCtorEq, a54]) (by simp only [↓sd0, su0, su1, resOf, pack, eqCells, ↓reduceIte, Nat.reduceEqDiff, Nat.reduceAdd, Nat.reduceLeDiff, Nat.reduceLT, reduceCtorEq, a55]) a8'

theorem lower_spec {lo sid wl nx : Nat} {l : Lo} {x : SI} {s : SS} {H : Nat → Option Obj} (hl : l.fin) (h0 : l.chk.1 = 0) (hs : Srch H lo nx sid l x s) (hg : Gd l s) (hwl : wl ≤ lo) {k : Nat} (hk : k < s.had.length) (hwn : wl ≤ nx) :
    Call tab wl 49 [.ptr sid 0 0, .int .i64 k] H nx fun r H' nx' => LowR lo sid l x s H nx r H' nx' := by
  refine call_mut tab_49 ?_
  unfold body49
  dsimp only [qm, qf, ql, qL, qs, qc, qk, qi, qn, qb, qB, qe, qx, qo, qg]
  simp only [start2]
  have obj : ∀ H' : Nat → Option Obj, (∀ j, j < nx → H' j = H j) → H' sid = some (.arr 7 [.agg [ints l.anil l.ar, sl 1 l.cnil (l.cs.map Cl.el), lv x.i2 s.steps.length, lv x.i3 s.had.length, opv x.nil4 x.i4 s.opn.length, lv x.i5 s.dn.length, .bool s.lost]]) := fun H' hf => by rw [hf _ hs.lt.1]; exact hs.obj
  have hhl : s.had.length < 4294967296 := by have := hg.hl; have := hg.gl; omega
  have hdl : s.dn.length < 4294967296 := by have := hg.dl; omega
  have hko := hg.ok _ (List.getElem_mem hk)
  have done : ∀ (H' : Nat → Option Obj) (n' : Nat), nx ≤ n' → (∀ j, j < nx → H' j = H j) → LowR lo sid l x s H nx (.tup [.int .i64 0, .bool false]) H' n' := fun H' n' hn hf =>
    ⟨x, s, ⟨(hs.keep hf).mono hn, hg, ⟨hn, rfl, rfl, Or.inl rfl, Or.inl rfl, Or.inl rfl, fun j hj _ _ _ _ => hf j hj, Nat.le_refl _⟩⟩, rfl, Or.inl rfl⟩
  simp only [↓sd0, su0, su1, resOf, pack, eqCells, ↓reduceIte, Nat.reduceEqDiff, Nat.reduceAdd, Nat.reduceLeDiff, Nat.reduceLT, reduceCtorEq, obj H (fun _ _ => rfl)]
  refine W_count s.dn.length (fun i e lc H' n => nx ≤ n ∧ (∀ j, j < nx → H' j = H j) ∧ e 0 = .ptr sid 0 0 ∧ e 1 = .int .i64 k ∧ e 25 = lv x.i5 s.dn.length ∧ e 27 = .int .i64 i ∧ e 26 = .int .i64 s.dn.length) ?_ ?_ ?_
  · simp only [↓sd0, su0, su1, resOf, pack, eqCells, ↓reduceIte, Nat.reduceEqDiff, Nat.reduceAdd, Nat.reduceLeDiff, Nat.reduceLT, reduceCtorEq]; intros; trivial
  · rintro i e lc H' n hi ⟨hn, hf, e0', e1, e25, e27, e26⟩
    have hs' := hs.keep hf
    have hd := hs'.dn_at hi
    have hu : s.dn[i] < s.had.length := hg.dn _ (List.getElem_mem hi)
    have hh := hs'.had_at hu
    have hwi := wrap_succ hi (by omega)
    have huo := hg.ok _ (List.getElem_mem hu)
    generalize s.dn[i] = u at hd hu hh huo
    generalize hcu : s.had[u] = c at hh huo
    have hob := obj H' hf
    rcases hcf : c.fs with _ | ⟨f, _ | ⟨f2, fs⟩⟩
    · have q : ((0 : Int) != 1) = true := by decide
      simp only [↓sd0, su0, su1, resOf, pack, eqCells, ↓reduceIte, Nat.reduceEqDiff, Nat.reduceAdd, Nat.reduceLeDiff, Nat.reduceLT, reduceCtorEq, e0', e1, e25, e27, e26, lt_cast hi, hd.1, hd.2, hob, hh.1, hh.2, hcf, q, hwi]
      exact ⟨by omega, hf⟩
    · have q : (((1 : Nat) : Int) != 1) = false := by decide
      have hfo : f.l.ok ∧ f.r.ok := huo.2 f (by rw [hcf]; simp)
      cases hfn : f.n
      · cases huk : ((u : Int) == (k : Int))
        · have hcfs : c.fs.map Fa.av = [f.av] := by rw [hcf]; rfl
          have hia0 : ∀ (H : Nat → Option Obj) (k : IntKind), iaddrV H 5 (sl 5 c.nil [f.av]) (.int k 0) = some (.fptr f.av 0) := fun H k => iaddr_fact0 (fs := [])
          simp only [↓sd0, su0, su1, resOf, pack, eqCells, ↓reduceIte, Nat.reduceEqDiff, Nat.reduceAdd, Nat.reduceLeDiff, Nat.reduceLT, reduceCtorEq, e0', e1, e25, e27, e26, lt_cast hi, hd.1, hd.2, hob, hh.1, hh.2, hcf, q, hia0, hfn, huk]
          refine W_count 2 (fun t e lc H' n => nx ≤ n ∧ (∀ j, j < nx → H' j = H j) ∧ e 0 = .ptr sid 0 0 ∧ e 1 = .int .i64 k ∧ e 25 = lv x.i5 s.dn.length ∧ e 27 = .int .i64 i ∧ e 26 = .int .i64 s.dn.length ∧ e 7 = .int .i64 u ∧ (∃ m, e 8 = .loc 8 m 0 ∧ lc 8 = some (m, c.av)) ∧ e 54 = .agg [.bool false, .bool true] ∧ e 55 = .int .i64 t) ?_ ?_ ?_
          · simp only [↓sd0, su0, su1, resOf, pack, eqCells, ↓reduceIte, Nat.reduceEqDiff, Nat.reduceAdd, Nat.reduceLeDiff, Nat.reduceLT, reduceCtorEq, e0', e1, e25, e27, e26]
            exact ⟨by omega, hf, _, rfl, rfl⟩
          · clear hn hf e0' e1 e25 e27 e26 hs' hd hh hob
            clear e lc H' n
            rintro t e lc H' n ht ⟨hn, hf, e0', e1, e25, e27, e26, e7, ⟨m8, e8, l8⟩, e54, e55⟩
            have hob := obj H' hf
            have hs' := hs.keep hf
            have hhk := hs'.had_at hk
            have hwt := wrap_succ ht (by omega)
            have hpk : ∀ c : Cl, part 1 false c.el 0 = some (sl 5 c.nil (c.fs.map Fa.av)) := fun c => Cl.part_elfs c
            have hsz1 : f.l.size < 1099511627776 := by have := hfo.1.1; omega
            have hsz2 : f.r.size < 1099511627776 := by have := hfo.2.1; omega
            by_cases h1 : t = 1
            · have qt : decide (t = 1) = true := by simp [h1]
              obtain ⟨r, hov⟩ := over_spec f.r f.l hsz2 hsz1
              cases r
              · simp only [↓sd0, su0, su1, resOf, pack, eqCells, ↓reduceIte, Nat.reduceEqDiff, Nat.reduceAdd, Nat.reduceLeDiff, Nat.reduceLT, reduceCtorEq, dr0, Nat.reducePow, Nat.reduceDiv, Nat.reduceMod, Nat.reduceBEq, e0', e1, e25, e27, e26, e7, e8, l8, e54, e55, lt_two ht, indexA_bool ht, qt, hcf, hia0, hov.callK, hwt]
                exact ⟨by omega, hf, _, rfl, rfl⟩
              · simp only [↓sd0, su0, su1, resOf, pack, eqCells, ↓reduceIte, Nat.reduceEqDiff, Nat.reduceAdd, Nat.reduceLeDiff, Nat.reduceLT, reduceCtorEq, dr0, Nat.reducePow, Nat.reduceDiv, Nat.reduceMod, Nat.reduceBEq, e0', e1, e25, e27, e26, e7, e8, l8, e54, e55, lt_two ht, indexA_bool ht, qt, hcf, hia0, hov.callK, hob, hhk.1, hhk.2, hpk]
                refine W_block.1 (lower_in hl h0 hs hg hwl hk hu hwn (t := true) (fr := f.r) hfo.2 (n := _) (m11 := n + 13) ?_ hf ?_ ?_ ?_ ?_ ?_ ?_ ?_ ?_ ?_ ?_ ?_)
                · omega
                · simp only [↓sd0, su0, su1, resOf, pack, eqCells, ↓reduceIte, Nat.reduceEqDiff, Nat.reduceAdd, Nat.reduceLeDiff, Nat.reduceLT, reduceCtorEq]; exact e0'
                · simp only [↓sd0, su0, su1, resOf, pack, eqCells, ↓reduceIte, Nat.reduceEqDiff, Nat.reduceAdd, Nat.reduceLeDiff, Nat.reduceLT, reduceCtorEq]; exact e1
                · simp only [↓sd0, su0, su1, resOf, pack, eqCells, ↓reduceIte, Nat.reduceEqDiff, Nat.reduceAdd, Nat.reduceLeDiff, Nat.reduceLT, reduceCtorEq]; exact e7
                · simp only [↓sd0, su0, su1, resOf, pack, eqCells, ↓reduceIte, Nat.reduceEqDiff, Nat.reduceAdd, Nat.reduceLeDiff, Nat.reduceLT, reduceCtorEq]
                · simp only [↓sd0, su0, su1, resOf, pack, eqCells, ↓reduceIte, Nat.reduceEqDiff, Nat.reduceAdd, Nat.reduceLeDiff, Nat.reduceLT, reduceCtorEq]
                · simp only [↓sd0, su0, su1, resOf, pack, eqCells, ↓reduceIte, Nat.reduceEqDiff, Nat.reduceAdd, Nat.reduceLeDiff, Nat.reduceLT, reduceCtorEq]
                · simp only [↓sd0, su0, su1, resOf, pack, eqCells, ↓reduceIte, Nat.reduceEqDiff, Nat.reduceAdd, Nat.reduceLeDiff, Nat.reduceLT, reduceCtorEq]
                · simp only [↓sd0, su0, su1, resOf, pack, eqCells, ↓reduceIte, Nat.reduceEqDiff, Nat.reduceAdd, Nat.reduceLeDiff, Nat.reduceLT, reduceCtorEq]
                · simp only [↓sd0, su0, su1, resOf, pack, eqCells, ↓reduceIte, Nat.reduceEqDiff, Nat.reduceAdd, Nat.reduceLeDiff, Nat.reduceLT, reduceCtorEq]
                · intro e' lc' H3 n' hn3 hf3 b0 b1 b7 b8 b25 b26 b27 b54 b55 b8'
                  simp only [↓sd0, su0, su1, resOf, pack, eqCells, ↓reduceIte, Nat.reduceEqDiff, Nat.reduceAdd, Nat.reduceLeDiff, Nat.reduceLT, reduceCtorEq, e0', e1, e7, e8, e25, e26, e27, e54, e55, l8] at b0 b1 b7 b8 b25 b26 b27 b54 b55 b8'
                  simp only [↓sd0, su0, su1, resOf, pack, eqCells, ↓reduceIte, Nat.reduceEqDiff, Nat.reduceAdd, Nat.reduceLeDiff, Nat.reduceLT, reduceCtorEq, b0, b1, b7, b8, b25, b26, b27, b54, b55, b8', hwt]
                  exact ⟨by omega, hf3, _, rfl, rfl⟩
                · intro e' lc' H3 n' hL hnol
                  simp only [↓sd0, su0, su1, resOf, pack, eqCells, ↓reduceIte, Nat.reduceEqDiff, Nat.reduceAdd, Nat.reduceLeDiff, Nat.reduceLT, reduceCtorEq] at hnol ⊢
                  exact ⟨hnol, hL⟩
            · have qt : decide (t = 1) = false := by simp [h1]
              obtain ⟨r, hov⟩ := over_spec f.l f.r hsz1 hsz2
              cases r
              · simp only [↓sd0, su0, su1, resOf, pack, eqCells, ↓reduceIte, Nat.reduceEqDiff, Nat.reduceAdd, Nat.reduceLeDiff, Nat.reduceLT, reduceCtorEq, dr0, Nat.reducePow, Nat.reduceDiv, Nat.reduceMod, Nat.reduceBEq, e0', e1, e25, e27, e26, e7, e8, l8, e54, e55, lt_two ht, indexA_bool ht, qt, hcf, hia0, hov.callK, hwt]
                exact ⟨by omega, hf, _, rfl, rfl⟩
              · simp only [↓sd0, su0, su1, resOf, pack, eqCells, ↓reduceIte, Nat.reduceEqDiff, Nat.reduceAdd, Nat.reduceLeDiff, Nat.reduceLT, reduceCtorEq, dr0, Nat.reducePow, Nat.reduceDiv, Nat.reduceMod, Nat.reduceBEq, e0', e1, e25, e27, e26, e7, e8, l8, e54, e55, lt_two ht, indexA_bool ht, qt, hcf, hia0, hov.callK, hob, hhk.1, hhk.2, hpk]
                refine W_block.1 (lower_in hl h0 hs hg hwl hk hu hwn (t := false) (fr := f.l) hfo.1 (n := _) (m11 := n + 13) ?_ hf ?_ ?_ ?_ ?_ ?_ ?_ ?_ ?_ ?_ ?_ ?_)
                · omega
                · simp only [↓sd0, su0, su1, resOf, pack, eqCells, ↓reduceIte, Nat.reduceEqDiff, Nat.reduceAdd, Nat.reduceLeDiff, Nat.reduceLT, reduceCtorEq]; exact e0'
                · simp only [↓sd0, su0, su1, resOf, pack, eqCells, ↓reduceIte, Nat.reduceEqDiff, Nat.reduceAdd, Nat.reduceLeDiff, Nat.reduceLT, reduceCtorEq]; exact e1
                · simp only [↓sd0, su0, su1, resOf, pack, eqCells, ↓reduceIte, Nat.reduceEqDiff, Nat.reduceAdd, Nat.reduceLeDiff, Nat.reduceLT, reduceCtorEq]; exact e7
                · simp only [↓sd0, su0, su1, resOf, pack, eqCells, ↓reduceIte, Nat.reduceEqDiff, Nat.reduceAdd, Nat.reduceLeDiff, Nat.reduceLT, reduceCtorEq]
                · simp only [↓sd0, su0, su1, resOf, pack, eqCells, ↓reduceIte, Nat.reduceEqDiff, Nat.reduceAdd, Nat.reduceLeDiff, Nat.reduceLT, reduceCtorEq]
                · simp only [↓sd0, su0, su1, resOf, pack, eqCells, ↓reduceIte, Nat.reduceEqDiff, Nat.reduceAdd, Nat.reduceLeDiff, Nat.reduceLT, reduceCtorEq]
                · simp only [↓sd0, su0, su1, resOf, pack, eqCells, ↓reduceIte, Nat.reduceEqDiff, Nat.reduceAdd, Nat.reduceLeDiff, Nat.reduceLT, reduceCtorEq]
                · simp only [↓sd0, su0, su1, resOf, pack, eqCells, ↓reduceIte, Nat.reduceEqDiff, Nat.reduceAdd, Nat.reduceLeDiff, Nat.reduceLT, reduceCtorEq]
                · simp only [↓sd0, su0, su1, resOf, pack, eqCells, ↓reduceIte, Nat.reduceEqDiff, Nat.reduceAdd, Nat.reduceLeDiff, Nat.reduceLT, reduceCtorEq]
                · intro e' lc' H3 n' hn3 hf3 b0 b1 b7 b8 b25 b26 b27 b54 b55 b8'
                  simp only [↓sd0, su0, su1, resOf, pack, eqCells, ↓reduceIte, Nat.reduceEqDiff, Nat.reduceAdd, Nat.reduceLeDiff, Nat.reduceLT, reduceCtorEq, e0', e1, e7, e8, e25, e26, e27, e54, e55, l8] at b0 b1 b7 b8 b25 b26 b27 b54 b55 b8'
                  simp only [↓sd0, su0, su1, resOf, pack, eqCells, ↓reduceIte, Nat.reduceEqDiff, Nat.reduceAdd, Nat.reduceLeDiff, Nat.reduceLT, reduceCtorEq, b0, b1, b7, b8, b25, b26, b27, b54, b55, b8', hwt]
                  exact ⟨by omega, hf3, _, rfl, rfl⟩
                · intro e' lc' H3 n' hL hnol
                  simp only [↓sd0, su0, su1, resOf, pack, eqCells, ↓reduceIte, Nat.reduceEqDiff, Nat.reduceAdd, Nat.reduceLeDiff, Nat.reduceLT, reduceCtorEq] at hnol ⊢
                  exact ⟨hnol, hL⟩
          · rintro eb lb H2 n2 ⟨hn, hf, e0', e1, e25, e27, e26, e7, ⟨m8, e8, l8⟩, e54, e55⟩
            have q : decide (((2 : Nat) : Int) < 2) = false := by decide
            simp only [↓sd0, su0, su1, resOf, pack, eqCells, ↓reduceIte, Nat.reduceEqDiff, Nat.reduceAdd, Nat.reduceLeDiff, Nat.reduceLT, reduceCtorEq, q, hwi, e0', e1, e25, e27, e26, e7, e8, l8, e54, e55]
            exact ⟨by omega, hf⟩
        · have hia0 : ∀ (H : Nat → Option Obj) (k : IntKind), iaddrV H 5 (sl 5 c.nil [f.av]) (.int k 0) = some (.fptr f.av 0) := fun H k => iaddr_fact0 (fs := [])
          simp only [↓sd0, su0, su1, resOf, pack, eqCells, ↓reduceIte, Nat.reduceEqDiff, Nat.reduceAdd, Nat.reduceLeDiff, Nat.reduceLT, reduceCtorEq, e0', e1, e25, e27, e26, lt_cast hi, hd.1, hd.2, hob, hh.1, hh.2, hcf, q, hia0, hfn, huk, hwi]
          exact ⟨by omega, hf⟩
      · have hia0 : ∀ (H : Nat → Option Obj) (k : IntKind), iaddrV H 5 (sl 5 c.nil [f.av]) (.int k 0) = some (.fptr f.av 0) := fun H k => iaddr_fact0 (fs := [])
        simp only [↓sd0, su0, su1, resOf, pack, eqCells, ↓reduceIte, Nat.reduceEqDiff, Nat.reduceAdd, Nat.reduceLeDiff, Nat.reduceLT, reduceCtorEq, e0', e1, e25, e27, e26, lt_cast hi, hd.1, hd.2, hob, hh.1, hh.2, hcf, q, hia0, hfn, hwi]
        exact ⟨by omega, hf⟩
    · have q : (((fs.length + 2 : Nat) : Int) != 1) = true := by simp; omega
      simp only [↓sd0, su0, su1, resOf, pack, eqCells, ↓reduceIte, Nat.reduceEqDiff, Nat.reduceAdd, Nat.reduceLeDiff, Nat.reduceLT, reduceCtorEq, e0', e1, e25, e27, e26, lt_cast hi, hd.1, hd.2, hob, hh.1, hh.2, hcf, q, hwi]
      exact ⟨by omega, hf⟩
  · rintro e lc H' n ⟨hn, hf, e0', e1, e25, e27, e26⟩
    simp only [↓sd0, su0, su1, resOf, pack, eqCells, ↓reduceIte, Nat.reduceEqDiff, Nat.reduceAdd, Nat.reduceLeDiff, Nat.reduceLT, reduceCtorEq, e0', e1, e25, e27, e26]
    exact done _ _ (by omega) hf

end Go.Proofs.Ytmbdccekcfeomaa.Am
