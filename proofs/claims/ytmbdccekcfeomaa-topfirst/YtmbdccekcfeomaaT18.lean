/- The entry: a memory with nothing live; a call from it. -/
import Derived.Test.YtmbdccekcfeomaaT17
import Derived.RowKit3
import Derived.Below
open Go
namespace Go.Proofs.Ytmbdccekcfeomaa.Am
set_option linter.unusedSimpArgs false
set_option linter.unusedVariables false

def KG (S : Nat → Nat → AV → Prop) : Ctx := { Γ := S, blk := fun _ => 0, base := fun _ => 0, tot := fun _ => 0, ω := fun _ => 0, src := srcOf tab, H := fun _ => none, lo := fun _ => none, used := fun _ => False }
/-- What is said of cells is so. -/
def Post' (W : World) (S : Nat → Nat → AV → Prop) : Prop := ∀ b o c, S b o c → c.solid = true ∧ c.one = true ∧ ∃ u, W.cell? ⟨b, o, none⟩ = some u ∧ Rep (KG S) c u
def Gam (W : World) (b o : Nat) (c : AV) : Prop := ∃ S, Post' W S ∧ S b o c
theorem gam_post (W : World) : Post' W (Gam W) := by
  rintro b o c ⟨S, hS, h⟩
  obtain ⟨h1, h2, u, h3, h4⟩ := hS b o c h
  exact ⟨h1, h2, u, h3, Rep.solid (K := KG S) (K' := KG (Gam W)) rfl (fun b o c h => ⟨S, hS, h⟩) h1 h4⟩
theorem gam_mk {W : World} {b o : Nat} {c : AV} {u : Value} (h1 : c.solid = true) (h2 : c.one = true) (h3 : W.cell? ⟨b, o, none⟩ = some u) (h4 : Rep (KG (Gam W)) c u) : Gam W b o c := by
  refine ⟨fun b' o' c' => Gam W b' o' c' ∨ (b' = b ∧ o' = o ∧ c' = c), ?_, Or.inr ⟨rfl, rfl, rfl⟩⟩
  have up : ∀ {c' : AV} {u' : Value}, c'.solid = true → Rep (KG (Gam W)) c' u' → Rep (KG fun b' o' c' => Gam W b' o' c' ∨ (b' = b ∧ o' = o ∧ c' = c)) c' u' := fun hs h => Rep.solid (K := KG (Gam W)) (K' := KG fun b' o' c' => Gam W b' o' c' ∨ (b' = b ∧ o' = o ∧ c' = c)) rfl (fun b o c h => Or.inl h) hs h
  rintro b' o' c' (h | ⟨rfl, rfl, rfl⟩)
  · obtain ⟨k1, k2, u', k3, k4⟩ := gam_post W b' o' c' h
    exact ⟨k1, k2, u', k3, up k1 k4⟩
  · exact ⟨h1, h2, u, h3, up h1 h4⟩
theorem gam_inv (W : World) : Inv (KG (Gam W)) W where
  frozen b o c h := gam_post W b o c h
  live id ob h := by simp [KG] at h
  dist id id' h := by simp [KG] at h
  locs s st v h := by simp [KG] at h
  locd s s' h := by simp [KG] at h

/-- A call from it. -/
theorem enter {W : World} {g : Nat} {args : List AV} {us : List Value} {b : Bool} (hc : C tab 0 g args (fun _ => none) 0 = some (.bool b, fun _ => none, 0)) (hr : RepL (KG (Gam W)) args us) (hn : AV.nols args = true) :
    Calls Try.prog (srcOf tab g) us.toArray W fun e W' => e = .returned (.bool b) ∧ W.keptBut W' (fun _ => False) ∧ (∀ a : Addr, a.block < W.heap.size → W'.frozen? a = W.frozen? a) ∧ Go.RowKit.Below W.heap.size W W' := by
  obtain ⟨n, hcn⟩ := (C_some tab).1 hc
  obtain ⟨_, hcalls⟩ := sound n 0 g args _ 0 _ _ _ hcn (KG (Gam W)) W us rfl (gam_inv W) rfl (fun j h => by simp [KG] at h) hr hn (Nat.le_refl 0)
  refine hcalls.mono fun e W' ⟨u, K', he, hI, hH, hlo, hE, hrep, _, _⟩ => ?_
  have e1 : u = .bool b := by simpa [Rep] using hrep
  subst e1
  have hE0 := hE 0 (Nat.le_refl 0)
  have hkeep : ∀ i, i < W.heap.size → W'.heap[i]? = W.heap[i]? := fun i hi => (hE0.keep i hi (fun id h => by simp [KG] at h) (fun s h => by simp [KG] at h)).1
  refine ⟨he, ⟨hE0.io.1, hE0.io.2.2, fun i hi => ?_⟩, fun a ha => ?_, ⟨hE0.io.1, hE0.io.2.1, hE0.io.2.2, hE0.size, hkeep⟩⟩
  · rw [hkeep i hi]
    cases hw : W.heap[i]? with
    | none => rfl
    | some o =>
      cases o <;> first | exact ⟨rfl, rfl, rfl, fun _ _ => rfl⟩ | exact Or.inr ⟨rfl, rfl⟩ | rfl
  · unfold World.frozen?; rw [hkeep _ ha]

end Go.Proofs.Ytmbdccekcfeomaa.Am
