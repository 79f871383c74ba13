/- The law of the search's end, on the abstract machine. -/
import Derived.Test.YtmbdccekcfeomaaT41
import Derived.Test.YtmbdccekcfeomaaT42
open Go
namespace Go.Proofs.Ytmbdccekcfeomaa.Am
set_option linter.unusedSimpArgs false
set_option linter.unusedVariables false
set_option maxRecDepth 20000

def leafT : T := ⟨1, true, []⟩
theorem leaf_24 (h : Int) : Gives tab 24 [.int .i64 h] (T.var h).av := by
  refine gives tab_24 fun H nx => ?_
  unfold body24
  simp only [start1]
  simp only [↓sd0, su0, su1, resOf, pack, eqCells, ↓reduceIte, Nat.reduceEqDiff, Nat.reduceAdd, Nat.reduceLeDiff, Nat.reduceLT, reduceCtorEq, var_av]
def apartLo : Lo := ⟨false, [0], false, [⟨false, [⟨true, T.var 1, T.var 1⟩]⟩]⟩
theorem apart_6 : Gives tab 6 [] apartLo.av := by
  refine gives tab_6 fun H nx => ?_
  unfold body6
  simp only [start, ↓sd0, su0, su1, resOf, pack, eqCells, ↓reduceIte, Nat.reduceEqDiff, Nat.reduceAdd, Nat.reduceLeDiff, Nat.reduceLT, reduceCtorEq, (leaf_24 _).callK]
  rfl
theorem isTwo_inv {r : AV} (h : isTwo r = true) : ∃ n a ys, r = .tup [.int .i64 2, .slice n (a :: ys), flt 0 0] := by
  unfold isTwo at h
  split at h
  · rename_i v n a ys
    have : v = 2 := by simpa using h
    subst this
    exact ⟨n, a, ys, rfl⟩
  · simp at h
theorem apart_fin : apartLo.fin := by
  refine ⟨by decide, by decide, fun c hc => ?_⟩
  have : c = ⟨false, [⟨true, T.var 1, T.var 1⟩]⟩ := by simpa [apartLo] using hc
  subst this
  exact ⟨by decide, fun f hf => by
    have : f = ⟨true, T.var 1, T.var 1⟩ := by simpa using hf
    subst this
    exact ⟨by decide, by decide⟩⟩
theorem do_apart : ∃ n a ys, C tab 0 5 [apartLo.av, .int .i64 100] (fun _ => none) 12 = some (.tup [.int .i64 2, .slice n (a :: ys), flt 0 0], fun _ => none, 12) := by
  obtain ⟨r, H', n', hc, _, rfl, rfl⟩ := do_spec (wl := 0) (nx := 12) (H := fun _ => none) apart_fin 100
  have h := apart_run
  unfold apartRun at h
  have he : apartLo.av = apartAV := rfl
  rw [he] at hc
  split at h
  · rename_i r0 H0 n0 hcN
    have hC := callN_le_C (tab := tab) 12 _ _ _ _ _ _ hcN
    rw [hC] at hc
    obtain ⟨n, a, ys, rfl⟩ := isTwo_inv h
    simp only [Option.some.injEq, Prod.mk.injEq] at hc
    obtain ⟨h1, rfl, rfl⟩ := hc
    exact ⟨n, a, ys, by rw [he]; exact hC⟩
  · simp at h

theorem takes_len {l : Lo} {gs : List Gt} {cs : List Cl} (h : l.takes [] gs = some cs) (hg : gs.length ≤ 400) : cs.length < 4294967296 := by
  have : ∀ (gs : List Gt) (had cs : List Cl), l.takes had gs = some cs → cs.length = had.length + gs.length := by
    intro gs
    induction gs with
    | nil => intro had cs h; rw [Lo.takes] at h; simp at h; rw [h]; simp
    | cons g gs ih =>
      intro had cs h
      rw [Lo.takes] at h
      split at h
      · have := ih _ _ h; simp at this; rw [this, List.length_cons]; omega
      · simp at h
  have := this gs [] cs h
  simp at this; omega
theorem dl1 : decide ((1 : Int) ≤ 1 ∧ (1 : Int) ≤ 3) = true := by decide
theorem dl2 : decide ((1 : Int) ≤ 3 ∧ (3 : Int) ≤ 3) = true := by decide
theorem dl3 : decide ((1 : Int) ≤ 2 ∧ (2 : Int) ≤ 3) = true := by decide
theorem dl4 : ((1 : Int) == 2) = false := by decide
theorem dl5 : ((3 : Int) == 2) = false := by decide
theorem dl6 : ((1 : Int) != 2) = true := by decide
theorem dl7 : ((3 : Int) != 2) = true := by decide
theorem dl8 : ((3 : Int) != 0) = true := by decide
theorem dl9 : ((2 : Int) != 2) = false := by decide
theorem dl10 : ((0 : Int) == 0) = true := by decide
theorem dl11 : ((2 : Int) == 2) = true := by decide
theorem dl12 : ((0 : Int) == 2) = false := by decide
theorem within_flt2 (a b c d : Int) : within (flt a b) 0 (flt c d) = some (flt c d) := within_whole rfl rfl
theorem ends_law {wl : Nat} {l : Lo} (hl : l.fin) (fuel : Int) : Call tab wl 3 [l.av, .int .i64 fuel] (fun _ => none) 0 fun r H' nx' => r = .bool true ∧ H' = (fun _ => none) ∧ nx' = 0 := by
  refine call_solid tab_3 ?_
  unfold body3
  simp only [start2]
  obtain ⟨n0, a0, ys0, hda⟩ := do_apart
  have q1 : ((((ys0.length + 1 : Nat)) : Int) == 0) = false := by simp; omega
  simp only [↓sd0, su0, su1, resOf, pack, eqCells, ↓reduceIte, Nat.reduceEqDiff, Nat.reduceAdd, Nat.reduceLeDiff, Nat.reduceLT, reduceCtorEq, apart_6.callK, callK_eq hda, part_flt, part_fltc, storable_flt, cells_flt, within_flt, eqsF0, solid_flt, q1]
  refine CallK_of (vastlore_spec l hl) ?_
  rintro r H1 n1 ⟨⟨vb, rfl⟩, rfl, rfl⟩
  cases vb
  · cases q2 : decide (fuel > 60)
    · have hin := in_9 fuel 0 2000
      by_cases c0 : l.chk.1 = 0
      · have c1 : l.chk.2 = 0 := by rw [Lo.chk_zero c0]
        have hck := florecheck_spec l hl
        rw [c0, c1] at hck
        by_cases cf : 0 ≤ fuel ∧ fuel ≤ 2000
        · have qf : decide (0 ≤ fuel ∧ fuel ≤ 2000) = true := decide_eq_true cf
          rw [qf] at hin
          simp only [↓sd0, su0, su1, resOf, pack, eqCells, ↓reduceIte, Nat.reduceEqDiff, Nat.reduceAdd, Nat.reduceLeDiff, Nat.reduceLT, reduceCtorEq, hck.callK, hin.callK, q2, part_flt, part_fltc, storable_flt, cells_flt, within_flt, eqsF0, eqsF, solid_flt, beq_self_eq_true, within_flt2, dl1, dl2, dl3, dl4, dl5, dl6, dl7, dl8, dl9, dl10, dl11, dl12]
          refine CallK_of (do_spec hl fuel) ?_
          rintro r H1 n1 ⟨hR, rfl, rfl⟩
          rcases hR with ⟨h, _⟩ | ⟨_, h, _⟩ | ⟨_, _, rfl | rfl | ⟨hne, b, steps, had, rfl, htk, hen, hgf, hgl⟩⟩
          · exact absurd c0 h
          · exact absurd cf h
          · cases q3 : ((l.cs.length : Int) == 0)
            · simp only [↓sd0, su0, su1, resOf, pack, eqCells, ↓reduceIte, Nat.reduceEqDiff, Nat.reduceAdd, Nat.reduceLeDiff, Nat.reduceLT, reduceCtorEq, part_flt, part_fltc, storable_flt, cells_flt, within_flt, eqsF0, eqsF, solid_flt, beq_self_eq_true, within_flt2, dl1, dl2, dl3, dl4, dl5, dl6, dl7, dl8, dl9, dl10, dl11, dl12, q3, (in_9 _ _ _).callK]
            · simp only [↓sd0, su0, su1, resOf, pack, eqCells, ↓reduceIte, Nat.reduceEqDiff, Nat.reduceAdd, Nat.reduceLeDiff, Nat.reduceLT, reduceCtorEq, part_flt, part_fltc, storable_flt, cells_flt, within_flt, eqsF0, eqsF, solid_flt, beq_self_eq_true, within_flt2, dl1, dl2, dl3, dl4, dl5, dl6, dl7, dl8, dl9, dl10, dl11, dl12, q3, (in_9 _ _ _).callK]
          · cases q3 : ((l.cs.length : Int) == 0)
            · simp only [↓sd0, su0, su1, resOf, pack, eqCells, ↓reduceIte, Nat.reduceEqDiff, Nat.reduceAdd, Nat.reduceLeDiff, Nat.reduceLT, reduceCtorEq, part_flt, part_fltc, storable_flt, cells_flt, within_flt, eqsF0, eqsF, solid_flt, beq_self_eq_true, within_flt2, dl1, dl2, dl3, dl4, dl5, dl6, dl7, dl8, dl9, dl10, dl11, dl12, q3, (in_9 _ _ _).callK]
            · simp only [↓sd0, su0, su1, resOf, pack, eqCells, ↓reduceIte, Nat.reduceEqDiff, Nat.reduceAdd, Nat.reduceLeDiff, Nat.reduceLT, reduceCtorEq, part_flt, part_fltc, storable_flt, cells_flt, within_flt, eqsF0, eqsF, solid_flt, beq_self_eq_true, within_flt2, dl1, dl2, dl3, dl4, dl5, dl6, dl7, dl8, dl9, dl10, dl11, dl12, q3, (in_9 _ _ _).callK]
          · have q3 : ((l.cs.length : Int) == 0) = false := by simp; exact hne
            have hes := ends_spec l hl c0 b steps hgf hgl htk (takes_len htk hgl)
            rw [hen] at hes
            simp only [↓sd0, su0, su1, resOf, pack, eqCells, ↓reduceIte, Nat.reduceEqDiff, Nat.reduceAdd, Nat.reduceLeDiff, Nat.reduceLT, reduceCtorEq, part_flt, part_fltc, storable_flt, cells_flt, within_flt, eqsF0, eqsF, solid_flt, beq_self_eq_true, within_flt2, dl1, dl2, dl3, dl4, dl5, dl6, dl7, dl8, dl9, dl10, dl11, dl12, q3, (in_9 _ _ _).callK, hes.callK]
        · have qf : decide (0 ≤ fuel ∧ fuel ≤ 2000) = false := decide_eq_false cf
          rw [qf] at hin
          simp only [↓sd0, su0, su1, resOf, pack, eqCells, ↓reduceIte, Nat.reduceEqDiff, Nat.reduceAdd, Nat.reduceLeDiff, Nat.reduceLT, reduceCtorEq, hck.callK, hin.callK, q2, (fault_10 _ _).callK, part_flt, part_fltc, storable_flt, cells_flt, within_flt, eqsF0, eqsF, solid_flt, beq_self_eq_true, within_flt2, dl1, dl2, dl3, dl4, dl5, dl6, dl7, dl8, dl9, dl10, dl11, dl12]
          refine CallK_of (do_spec hl fuel) ?_
          rintro r H1 n1 ⟨hR, rfl, rfl⟩
          rcases hR with ⟨h, _⟩ | ⟨_, h, rfl⟩ | ⟨_, h, _⟩
          · exact absurd c0 h
          · simp only [↓sd0, su0, su1, resOf, pack, eqCells, ↓reduceIte, Nat.reduceEqDiff, Nat.reduceAdd, Nat.reduceLeDiff, Nat.reduceLT, reduceCtorEq, part_flt, part_fltc, storable_flt, cells_flt, within_flt, eqsF0, eqsF, solid_flt, beq_self_eq_true, within_flt2, dl1, dl2, dl3, dl4, dl5, dl6, dl7, dl8, dl9, dl10, dl11, dl12]
          · exact absurd h cf
      · have q0 : (l.chk.1 == 0) = false := by simp; exact c0
        have q0' : (l.chk.1 != 0) = true := by simp; exact c0
        simp only [↓sd0, su0, su1, resOf, pack, eqCells, ↓reduceIte, Nat.reduceEqDiff, Nat.reduceAdd, Nat.reduceLeDiff, Nat.reduceLT, reduceCtorEq, (florecheck_spec l hl).callK, q2, q0, part_flt, part_fltc, storable_flt, cells_flt, within_flt, eqsF0, eqsF, solid_flt, beq_self_eq_true, within_flt2, dl1, dl2, dl3, dl4, dl5, dl6, dl7, dl8, dl9, dl10, dl11, dl12]
        refine CallK_of (do_spec hl fuel) ?_
        rintro r H1 n1 ⟨hR, rfl, rfl⟩
        rcases hR with ⟨_, rfl⟩ | ⟨h, _⟩ | ⟨h, _⟩
        · simp only [↓sd0, su0, su1, resOf, pack, eqCells, ↓reduceIte, Nat.reduceEqDiff, Nat.reduceAdd, Nat.reduceLeDiff, Nat.reduceLT, reduceCtorEq, part_flt, part_fltc, storable_flt, cells_flt, within_flt, eqsF0, eqsF, solid_flt, beq_self_eq_true, within_flt2, dl1, dl2, dl3, dl4, dl5, dl6, dl7, dl8, dl9, dl10, dl11, dl12, q0']
        · exact absurd h c0
        · exact absurd h c0
    · simp only [↓sd0, su0, su1, resOf, pack, eqCells, ↓reduceIte, Nat.reduceEqDiff, Nat.reduceAdd, Nat.reduceLeDiff, Nat.reduceLT, reduceCtorEq, q2]
  · simp only [↓sd0, su0, su1, resOf, pack, eqCells, ↓reduceIte, Nat.reduceEqDiff, Nat.reduceAdd, Nat.reduceLeDiff, Nat.reduceLT, reduceCtorEq]

end Go.Proofs.Ytmbdccekcfeomaa.Am
