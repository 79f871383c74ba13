/- The check of every function's code against the program. -/
import Derived.Test.YtmbdccekcfeomaaT03
import Derived.Test.YtmbdccekcfeomaaT16
import Derived.Test.YtmbdccekcfeomaaProg
import Derived.KernelRfl
open Go
namespace Go.Proofs.Ytmbdccekcfeomaa.Am

noncomputable def okPair (p : Nat × AFun) : Bool := okFun Try.prog (srcOf tab) p.2
theorem all_ok : tabL.all okPair = true := by kernel_rfl

theorem mixed : Try.prog.follows .mixedOrders = true := by kernel_rfl

theorem look_mem {f : Nat} {af : AFun} : ∀ {l : List (Nat × AFun)}, look f l = some af → ∃ g, (g, af) ∈ l
  | [], h => by simp [look] at h
  | (g, a) :: l, h => by
    simp only [look] at h
    split at h
    · simp only [Option.some.injEq] at h; subst h; exact ⟨g, List.mem_cons_self ..⟩
    · obtain ⟨g', hg⟩ := look_mem h; exact ⟨g', List.mem_cons_of_mem _ hg⟩

theorem all_mem {α : Type} {p : α → Bool} {l : List α} (h : l.all p = true) {x : α} (hx : x ∈ l) : p x = true := List.all_eq_true.1 h x hx

theorem okPair_eq (p : Nat × AFun) : okPair p = okFun Try.prog (srcOf tab) p.2 := rfl

theorem checked (f : Nat) (af : AFun) (h : tab f = some af) : okFun Try.prog (srcOf tab) af = true := by
  have h' : look f tabL = some af := h
  obtain ⟨g, hg⟩ := look_mem h'
  have h1 := all_mem (p := okPair) all_ok hg
  rw [okPair_eq] at h1
  exact h1

theorem sound (n : Nat) : CallOk Try.prog (srcOf tab) (callN tab n) := calls_ok mixed checked n

end Go.Proofs.Ytmbdccekcfeomaa.Am
