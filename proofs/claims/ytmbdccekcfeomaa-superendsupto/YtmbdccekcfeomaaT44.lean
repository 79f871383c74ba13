/- SuperEnds holds: for every claim and lore that the call can be handed, Go's call of umpirage/umpiragelaw7.SuperEnds returns, answers true and leaves both arguments reading as they read before: the result No comes with a derivation of the empty clause, and a theory without clauses is not refuted. Conditions: the form with the bound (Rows.SuperEndsUptoSaid): the two arguments together hold at most 1048576 values and letters; nothing else is asked. -/
import Derived.Test.YtmbdccekcfeomaaRows
import Derived.WalkKit
import Derived.ProofKit
import Derived.OpenShut
import Derived.JoinedCond
import Derived.Carry
import Derived.Test.YtmbdccekcfeomaaT28
import Derived.Test.YtmbdccekcfeomaaT43
/- The row of SuperEnds, second form. -/
namespace Go.Proofs.Ytmbdccekcfeomaa.Am
open Go.ChangeShapes Go.WideShapes Go.ChangeAt Go.RowKit
set_option linter.unusedVariables false
set_option maxRecDepth 100000

theorem own : ownKnob Try.prog.godebug = none := by kernel_rfl
theorem laid : laidOutB Try.prog = true := by kernel_rfl
theorem src3 : srcOf tab 3 = 3 := rfl

theorem contract (H : Type) (enc : TypeId × Value → H) (W : World) (base : Nat) (args : Array Value) (ds gs : List (DataW H)) (before : List MemPlace)
    (hval : ∀ (j : Nat) t v, Try.f3.params[j]? = some t → args[j]? = some v → Value.okWide Try.prog W .any base t v)
    (hW : DataW.Whole enc Try.prog Try.f3.params.toList Rows.superEndsSpec.vars false W args.toList ds gs before) (hk : Rows.uptoSmall H (ds ++ gs) = true) :
    Calls Try.prog 3 args W fun e W' => ∃ v, e = .returned v ∧ Rows.superEndsSpec.post enc Try.prog Try.f3 false true false false W args v W' := by
  have hW' := hW
  obtain ⟨p, q, hA0, hV, rfl, hfz, hnd⟩ := hW
  have hA : DataW.TrodAll enc Try.prog W 0 (fun _ => true) true Try.f3.params.toList args.toList ds p := hA0
  rw [Try.params3] at hA hval
  obtain ⟨v0, vs0, d0, ds0, p0, q0, hargs, rfl, rfl, h0, r0⟩ := trodAll_cons hA
  obtain ⟨v1, vs1, d1, ds1, p1, q1, rfl, rfl, rfl, h1, r1⟩ := trodAll_cons r0
  obtain ⟨rfl, rfl, rfl⟩ := trodAll_nil r1
  obtain rfl : args = #[v0, v1] := by cases args; simp_all
  obtain ⟨rfl, rfl⟩ := trodVars_none hV
  obtain ⟨a, rfl, rfl, rfl, wa⟩ := open_int Try.underlying3 (hval 1 3 v1 rfl rfl) h1
  obtain ⟨fu, hfu⟩ := h0
  have hbk : Rows.uptoBulk d0 ≤ 1048576 := by
    have := of_decide_eq_true hk
    simp only [List.append_nil, Rows.uptoBulkAll] at this
    omega
  obtain ⟨l, hl, hfin⟩ := read_lore fu v0.cells.toList _ hbk hfu
  have hlen : v0.cells.toList.length = 2 := by
    have := RepL_length hl
    rw [← this]; rfl
  obtain ⟨vs, rfl⟩ : ∃ vs, v0 = .agg vs := by
    cases v0 with
    | agg vs => exact ⟨vs, rfl⟩
    | _ => simp [Value.cells] at hlen
  have hrep : RepL (KG (Gam W)) [l.av, .int .i64 a] [.agg vs, .int .i64 a] := RepL_two (by
    have e : l.av = .agg l.av.cells := rfl
    rw [e]
    simp only [Rep]
    exact ⟨vs, rfl, hl⟩) (by simp [Rep])
  obtain ⟨r, H', n', hc, rfl, rfl, rfl⟩ := ends_law (wl := 0) hfin a
  have hcalls := enter hc hrep (by simp [AV.nols, nol_int, Lo.nol_av])
  rw [src3] at hcalls
  refine Calls.mono hcalls ?_
  rintro e W' ⟨rfl, hkb, hfr, hbelow⟩
  have hlt : ∀ x ∈ p0, x.block < W.heap.size := fun x hx => hW'.lt x (by simp [hx])
  refine ⟨_, rfl, ?_⟩
  refine ⟨_, _, _, [], p0 ++ ([] ++ []), [], hW', trodAll_cons_mk (shut_bool Try.underlying4 _) trodAll_mk0, ?_, ?_, ?_, fun h => by cases h⟩
  · exact trodAll_cons_mk (Below.trod laid (by kernel_rfl) (of_decide_eq_true (by kernel_rfl)) ⟨fu, hfu⟩ hbelow hlt) (trodAll_cons_mk (shut_int Try.underlying3 wa) trodAll_mk0)
  · rfl
  · exact World.keptBut_mono (fun _ f => f.elim) hkb

theorem lifted (os : Os) (started : os.Started) (H : Type) (enc : TypeId × Value → H) (F : Stop.Interp) :
    ReturnsInHanded {} Try.checked os 3 .any ((Rows.OpenSpec.upto Rows.superEndsSpec).pre6 enc Try.prog Try.f3 Rows.superEndsUptoRow.domain false) (((Rows.OpenSpec.upto Rows.superEndsSpec).at F).post enc Try.prog Try.f3 false true false false) := by
  refine returnsInHanded_of_cond (C := Try.checked) (s := Rows.OpenSpec.upto Rows.superEndsSpec) (k := Rows.uptoSmall) rfl own started (by kernel_rfl) Try.func3
    (OpenSpec.witness (enc := enc) (C := Try.checked) (s := Rows.OpenSpec.upto Rows.superEndsSpec) (k := Rows.uptoSmall) rfl false ⟨#[], #[.agg #[.slice none 0 0, .slice none 0 0], .int .i64 0], []⟩ 8 (by kernel_rfl) (by kernel_rfl) (by kernel_rfl)
      (x := ([.agg [.nil, .nil], .lit (.int .i64 0)], [], [])) (by kernel_rfl) rfl (by kernel_rfl)) ?_
  intro W base args ds gs before hval hW _ hk _
  exact contract H enc W base args ds gs before hval hW hk

theorem over : Rows.superEndsUptoRow.holds Try.pinned (Rows.OpenSpec.upto Rows.superEndsSpec) :=
  OpenClaim.holds_of_cond 3 Try.f3 rfl rfl rfl rfl rfl rfl rfl ⟨rfl, rfl, rfl, rfl, rfl⟩ rfl rfl rfl rfl rfl (by kernel_rfl) Try.func3 (by kernel_rfl)
    (of_decide_eq_true (by kernel_rfl)) (by unfold Func.isWrapper; first | (rw [if_pos (by decide +kernel)]; kernel_rfl) | (rw [if_neg (by decide +kernel)]; exact ⟨rfl, rfl⟩))
    (fun os started H enc _ F => lifted os started H enc F)

theorem proved : Rows.SuperEndsUptoSaid := over
end Go.Proofs.Ytmbdccekcfeomaa.Am
namespace Go.Proofs.Ytmbdccekcfeomaa
theorem superends_upto_holds : Rows.SuperEndsUptoSaid := Am.proved
end Go.Proofs.Ytmbdccekcfeomaa
