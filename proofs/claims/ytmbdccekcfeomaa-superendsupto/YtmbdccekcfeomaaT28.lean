/- Readings: trees, facts, claims, theories. -/
import Derived.Test.YtmbdccekcfeomaaT27
open Go
namespace Go.Proofs.Ytmbdccekcfeomaa.Am
set_option linter.unusedSimpArgs false
set_option linter.unusedVariables false
open Go.ChangeShapes
set_option maxRecDepth 20000
section
variable {H : Type} {enc : TypeId × Value → H} {W : World} {base : Nat} {sp : Nat → Bool} {held : Bool}
theorem cells3 : Try.prog.cellsOf 3 = 1 := by kernel_rfl
theorem cells4 : Try.prog.cellsOf 4 = 1 := by kernel_rfl
theorem cells49 : Try.prog.cellsOf 49 = 1 := by kernel_rfl
theorem cells66 : Try.prog.cellsOf 66 = 2 := by kernel_rfl
theorem cells69 : Try.prog.cellsOf 69 = 5 := by kernel_rfl
theorem cells46 : Try.prog.cellsOf 46 = 1 := by kernel_rfl
theorem cells48 : Try.prog.cellsOf 48 = 1 := by kernel_rfl
theorem cells22 : Try.prog.cellsOf 22 = 1 := by kernel_rfl
theorem cells23 : Try.prog.cellsOf 23 = 1 := by kernel_rfl
theorem cells25 : Try.prog.cellsOf 25 = 2 := by kernel_rfl
theorem T.sizes_sum (ks : List T) : T.sizes ks = (ks.map T.size).sum := by
  induction ks with
  | nil => rfl
  | cons k ks ih => rw [T.sizes, ih]; simp
theorem RepL_two {K : Ctx} {a b : AV} {u v : Value} (h1 : Rep K a u) (h2 : Rep K b v) : RepL K [a, b] [u, v] := by
  simp only [RepL]; exact ⟨u, [v], rfl, h1, v, [], rfl, h2, rfl⟩
theorem tree_cells (t : T) : ∀ c ∈ t.av.cells, c.solid = true ∧ c.one = true := by
  intro c hc
  rw [T.cells_av] at hc
  simp at hc
  rcases hc with rfl | rfl
  · exact ⟨solid_int _ _, one_int _ _⟩
  · exact ⟨solid_sl, one_sl⟩
theorem read_tree : ∀ n (cs : List Value) (x : DataW H × List MemPlace), DataW.trod enc Try.prog W base sp held n 66 cs = some x → ∃ t : T, RepL (KG (Gam W)) t.av.cells cs ∧ t.size ≤ Rows.uptoBulk x.1 := by
  intro n
  induction n using Nat.strongRecOn with
  | _ n ih =>
    intro cs x h
    have hstr := DataW.trod_struct Try.underlying66 h
    obtain ⟨xs, m, hnm, hxx, hl, hxl, hf⟩ := hstr
    subst hnm
    subst hxx
    rw [cells66] at hl
    match cs, hl with
    | [u0, u1], _ =>
      have g0 : DataW.trod enc Try.prog W base sp held m 3 (([u0, u1].drop 0).take (Try.prog.cellsOf 3)) = xs[0]? := hf 0 _ rfl
      have g1 : DataW.trod enc Try.prog W base sp held m 49 (([u0, u1].drop 1).take (Try.prog.cellsOf 49)) = xs[1]? := hf 1 _ rfl
      rw [cells3] at g0
      rw [cells49] at g1
      change DataW.trod enc Try.prog W base sp held m 3 [u0] = xs[0]? at g0
      change DataW.trod enc Try.prog W base sp held m 49 [u1] = xs[1]? at g1
      match xs, hxl with
      | [x0, x1], _ =>
        obtain ⟨z, hz, _⟩ := DataW.trod_int Try.underlying3 g0
        obtain ⟨nil, ks, u, e1, hr, hw, _⟩ := read_slice (f := T.av) (wt := T.size) (sz := 2) Try.underlying49 cells66 (by omega) (fun t => by rw [T.cells_av]; rfl) tree_cells (fun m' cs' x' hm' h' => ih m' (by omega) cs' x' h') g1
        simp at hz e1
        obtain ⟨rfl, hz2⟩ := hz
        subst e1
        refine ⟨⟨z, nil, ks⟩, ?_, ?_⟩
        · rw [T.cells_av]
          exact RepL_two (by simp [Rep, T.h]) hr
        · rw [T.size_eq]
          show T.sizes ks + 1 ≤ _
          rw [T.sizes_sum]
          simp only [Rows.uptoBulk, Rows.uptoBulkAll, List.map_cons, List.map_nil]
          omega

def Fa.wt (f : Fa) : Nat := f.l.size + f.r.size
def Cl.wt (c : Cl) : Nat := max (c.fs.map Fa.wt).sum c.fs.length
theorem mem_sum {α : Type} (wt : α → Nat) : ∀ {xs : List α} {a : α}, a ∈ xs → wt a ≤ (xs.map wt).sum
  | x :: xs, a, h => by
    rw [List.map_cons, List.sum_cons]
    rcases List.mem_cons.1 h with rfl | h
    · omega
    · have := mem_sum wt h; omega
theorem fact_cells (f : Fa) : ∀ c ∈ f.av.cells, c.solid = true ∧ c.one = true := by
  intro c hc
  rw [Fa.cells_av] at hc
  simp at hc
  rcases hc with rfl | rfl | rfl | rfl | rfl
  · exact ⟨rfl, one_bool _⟩
  · exact ⟨solid_int _ _, one_int _ _⟩
  · exact ⟨solid_sl, one_sl⟩
  · exact ⟨solid_int _ _, one_int _ _⟩
  · exact ⟨solid_sl, one_sl⟩
theorem read_fact (n : Nat) (cs : List Value) (x : DataW H × List MemPlace) (h : DataW.trod enc Try.prog W base sp held n 69 cs = some x) : ∃ f : Fa, RepL (KG (Gam W)) f.av.cells cs ∧ f.wt ≤ Rows.uptoBulk x.1 := by
  have hstr := DataW.trod_struct Try.underlying69 h
  obtain ⟨xs, m, hnm, hxx, hl, hxl, hf⟩ := hstr
  subst hnm
  subst hxx
  rw [cells69] at hl
  match cs, hl with
  | [u0, u1, u2, u3, u4], _ =>
    have g0 : DataW.trod enc Try.prog W base sp held m 4 (([u0, u1, u2, u3, u4].drop 0).take (Try.prog.cellsOf 4)) = xs[0]? := hf 0 _ rfl
    have g1 : DataW.trod enc Try.prog W base sp held m 66 (([u0, u1, u2, u3, u4].drop 1).take (Try.prog.cellsOf 66)) = xs[1]? := hf 1 _ rfl
    have g2 : DataW.trod enc Try.prog W base sp held m 66 (([u0, u1, u2, u3, u4].drop 3).take (Try.prog.cellsOf 66)) = xs[2]? := hf 2 _ rfl
    rw [cells4] at g0
    rw [cells66] at g1 g2
    change DataW.trod enc Try.prog W base sp held m 4 [u0] = xs[0]? at g0
    change DataW.trod enc Try.prog W base sp held m 66 [u1, u2] = xs[1]? at g1
    change DataW.trod enc Try.prog W base sp held m 66 [u3, u4] = xs[2]? at g2
    match xs, hxl with
    | [x0, x1, x2], _ =>
      obtain ⟨b, hb, _⟩ := DataW.trod_bool Try.underlying4 g0
      obtain ⟨l, hl, wl⟩ := read_tree _ _ _ g1
      obtain ⟨r, hr, wr⟩ := read_tree _ _ _ g2
      simp at hb
      subst hb
      refine ⟨⟨b, l, r⟩, ?_, ?_⟩
      · rw [T.cells_av] at hl hr
        rw [Fa.cells_av]
        simp only [RepL] at hl hr ⊢
        obtain ⟨a1, b1, e1, p1, a2, b2, e2, p2, e3⟩ := hl
        obtain ⟨a3, b3, e4, p3, a4, b4, e5, p4, e6⟩ := hr
        subst e3; subst e2; subst e6; subst e5
        simp only [List.cons.injEq, and_true] at e1 e4
        obtain ⟨rfl, rfl⟩ := e1
        obtain ⟨rfl, rfl⟩ := e4
        exact ⟨_, _, rfl, by simp [Rep], _, _, rfl, p1, _, _, rfl, p2, _, _, rfl, p3, _, _, rfl, p4, rfl⟩
      · show l.size + r.size ≤ _
        simp only [Rows.uptoBulk, Rows.uptoBulkAll, List.map_cons, List.map_nil]
        omega
theorem claim_cells (c : Cl) : ∀ x ∈ c.el.cells, x.solid = true ∧ x.one = true := by
  intro x hx
  rw [Cl.cells_el] at hx
  simp at hx; subst hx
  exact ⟨solid_sl, one_sl⟩
theorem read_claim (n : Nat) (cs : List Value) (x : DataW H × List MemPlace) (h : DataW.trod enc Try.prog W base sp held n 48 cs = some x) : ∃ c : Cl, RepL (KG (Gam W)) c.el.cells cs ∧ c.wt ≤ Rows.uptoBulk x.1 := by
  have hstr := DataW.trod_struct Try.underlying48 h
  obtain ⟨xs, m, hnm, hxx, hl, hxl, hf⟩ := hstr
  subst hnm
  subst hxx
  rw [cells48] at hl
  match cs, hl with
  | [u0], _ =>
    have g0 : DataW.trod enc Try.prog W base sp held m 46 (([u0].drop 0).take (Try.prog.cellsOf 46)) = xs[0]? := hf 0 _ rfl
    rw [cells46] at g0
    change DataW.trod enc Try.prog W base sp held m 46 [u0] = xs[0]? at g0
    match xs, hxl with
    | [x0], _ =>
      obtain ⟨nil, fs, u, e1, hr, hw, hn⟩ := read_slice (f := Fa.av) (wt := Fa.wt) (sz := 5) Try.underlying46 cells69 (by omega) (fun t => by rw [Fa.cells_av]; rfl) fact_cells (fun m' cs' x' hm' h' => read_fact m' cs' x' h') g0
      simp at e1
      subst e1
      refine ⟨⟨nil, fs⟩, ?_, ?_⟩
      · rw [Cl.cells_el]
        simp only [RepL]
        exact ⟨_, _, rfl, hr, rfl⟩
      · show max _ _ ≤ _
        simp only [Rows.uptoBulk, Rows.uptoBulkAll, List.map_cons, List.map_nil]
        omega
theorem read_int (n : Nat) (cs : List Value) (x : DataW H × List MemPlace) (h : DataW.trod enc Try.prog W base sp held n 3 cs = some x) : ∃ z : Int, RepL (KG (Gam W)) (AV.int .i64 z).cells cs ∧ 0 ≤ Rows.uptoBulk x.1 := by
  obtain ⟨z, hz, _⟩ := DataW.trod_int Try.underlying3 h
  subst hz
  exact ⟨z, by simp [RepL, Rep, AV.cells], by omega⟩
theorem read_lore (n : Nat) (cs : List Value) (x : DataW H × List MemPlace) (hb : Rows.uptoBulk x.1 ≤ 1048576) (h : DataW.trod enc Try.prog W base sp held n 25 cs = some x) : ∃ l : Lo, RepL (KG (Gam W)) l.av.cells cs ∧ l.fin := by
  have hstr := DataW.trod_struct Try.underlying25 h
  obtain ⟨xs, m, hnm, hxx, hl, hxl, hf⟩ := hstr
  subst hnm
  subst hxx
  rw [cells25] at hl
  match cs, hl with
  | [u0, u1], _ =>
    have g0 : DataW.trod enc Try.prog W base sp held m 22 (([u0, u1].drop 0).take (Try.prog.cellsOf 22)) = xs[0]? := hf 0 _ rfl
    have g1 : DataW.trod enc Try.prog W base sp held m 23 (([u0, u1].drop 1).take (Try.prog.cellsOf 23)) = xs[1]? := hf 1 _ rfl
    rw [cells22] at g0
    rw [cells23] at g1
    change DataW.trod enc Try.prog W base sp held m 22 [u0] = xs[0]? at g0
    change DataW.trod enc Try.prog W base sp held m 23 [u1] = xs[1]? at g1
    match xs, hxl with
    | [x0, x1], _ =>
      obtain ⟨n0, zs, v0, e0, hr0, _, hn0⟩ := read_slice (f := AV.int .i64) (wt := fun _ => 0) (sz := 1) Try.underlying22 cells3 (by omega) (fun t => rfl) (fun z c hc => by simp [AV.cells] at hc; subst hc; exact ⟨solid_int _ _, one_int _ _⟩) (fun m' cs' x' hm' h' => read_int m' cs' x' h') g0
      obtain ⟨n1, ks, v1, e1, hr1, hw1, hn1⟩ := read_slice (f := Cl.el) (wt := Cl.wt) (sz := 1) Try.underlying23 cells48 (by omega) (fun t => by rw [Cl.cells_el]; rfl) claim_cells (fun m' cs' x' hm' h' => read_claim m' cs' x' h') g1
      simp at e0 e1
      subst e0; subst e1
      simp only [Rows.uptoBulk, Rows.uptoBulkAll, List.map_cons, List.map_nil] at hb
      refine ⟨⟨n0, zs, n1, ks⟩, ?_, ?_, ?_, ?_⟩
      · exact RepL_two hr0 hr1
      · show zs.length < _; omega
      · show ks.length < _; omega
      · intro c hc
        have hc' : c ∈ ks := hc
        have := mem_sum Cl.wt hc'
        have h2 : c.wt = max (c.fs.map Fa.wt).sum c.fs.length := rfl
        refine ⟨by omega, fun f hf => ?_⟩
        have h3 := mem_sum Fa.wt hf
        have h4 : f.wt = f.l.size + f.r.size := rfl
        omega
end
end Go.Proofs.Ytmbdccekcfeomaa.Am
