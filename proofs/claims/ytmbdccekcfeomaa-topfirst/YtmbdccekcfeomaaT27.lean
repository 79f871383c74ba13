/- Readings: what an argument is on the abstract machine. -/
import Derived.Test.YtmbdccekcfeomaaRows
import Derived.Test.YtmbdccekcfeomaaT18
import Derived.Test.YtmbdccekcfeomaaT26
import Derived.Deep.Slices
open Go
namespace Go.Proofs.Ytmbdccekcfeomaa.Am
set_option linter.unusedSimpArgs false
set_option linter.unusedVariables false
open Go.ChangeShapes
section
variable {H : Type} {enc : TypeId × Value → H} {W : World} {base : Nat} {sp : Nat → Bool} {held : Bool}

theorem list_of {α : Type} {P : Nat → α → Prop} : ∀ n, (∀ i, i < n → ∃ a, P i a) → ∃ xs : List α, xs.length = n ∧ ∀ i a, xs[i]? = some a → P i a
  | 0, _ => ⟨[], rfl, fun i a h => by simp at h⟩
  | n + 1, h => by
    obtain ⟨xs, hl, hx⟩ := list_of n fun i hi => h i (by omega)
    obtain ⟨a, ha⟩ := h n (by omega)
    refine ⟨xs ++ [a], by simp [hl], fun i b hb => ?_⟩
    rcases Nat.lt_or_ge i n with c | c
    · rw [List.getElem?_append_left (by omega)] at hb; exact hx i b hb
    · rw [List.getElem?_append_right (by omega), hl] at hb
      have hi : i = n := by
        rcases Nat.lt_or_ge (i - n) 1 with c' | c'
        · omega
        · rw [List.getElem?_eq_none (by simpa using c')] at hb; simp at hb
      subst hi
      simp at hb; subst hb; exact ha
theorem bulk_pos (d : DataW H) : 1 ≤ Rows.uptoBulk d := by
  cases d with
  | lit l => cases l <;> simp [Rows.uptoBulk]
  | _ => simp [Rows.uptoBulk]
theorem bulk_sum {α : Type} (wt : α → Nat) : ∀ (xs : List α) (ds : List (DataW H)), xs.length = ds.length → (∀ (i : Nat) (a : α) (d : DataW H), xs[i]? = some a → ds[i]? = some d → wt a ≤ Rows.uptoBulk d) → (xs.map wt).sum ≤ Rows.uptoBulkAll ds ∧ xs.length ≤ Rows.uptoBulkAll ds
  | [], [], _, _ => by simp [Rows.uptoBulkAll]
  | x :: xs, d :: ds, hl, h => by
    have := bulk_sum wt xs ds (by simpa using hl) fun i a d h1 h2 => h (i + 1) a d (by simpa using h1) (by simpa using h2)
    have h0 := h 0 x d rfl rfl
    have := bulk_pos d
    simp only [Rows.uptoBulkAll, List.map_cons, List.sum_cons, List.length_cons]
    omega

/-- A slice's reading. -/
theorem read_slice {α : Type} {f : α → AV} {wt : α → Nat} {t e : TypeId} {sz n : Nat} {cs : List Value} {x : DataW H × List MemPlace} (ht : Try.prog.underlying t = some (.slice e)) (hsz : Try.prog.cellsOf e = sz) (hz : 0 < sz)
    (hcl : ∀ a, (f a).cells.length = sz) (hso : ∀ a, ∀ c ∈ (f a).cells, c.solid = true ∧ c.one = true)
    (hel : ∀ m cs' x', m < n → DataW.trod enc Try.prog W base sp held m e cs' = some x' → ∃ a, RepL (KG (Gam W)) (f a).cells cs' ∧ wt a ≤ Rows.uptoBulk x'.1)
    (h : DataW.trod enc Try.prog W base sp held n t cs = some x) :
    ∃ (nil : Bool) (xs : List α) (u : Value), cs = [u] ∧ Rep (KG (Gam W)) (sl sz nil (xs.map f)) u ∧ (xs.map wt).sum + 1 ≤ Rows.uptoBulk x.1 ∧ xs.length + 1 ≤ Rows.uptoBulk x.1 := by
  rcases DataW.trod_slice ht h with ⟨rfl, rfl⟩ | ⟨a, len, cap, elems, rest, m, hm, rfl, rfl, hb, hl, hmx, hlen, hel', _, _⟩
  · exact ⟨true, [], _, rfl, by simp [sl, Rep], by simp [Rows.uptoBulk], by simp [Rows.uptoBulk]⟩
  have hi : ∀ i, i < len → ∃ a', (∃ cs' x', W.cells? base (a.add (i * sz)) sz = some cs' ∧ elems[i]? = some x' ∧ RepL (KG (Gam W)) (f a').cells cs' ∧ wt a' ≤ Rows.uptoBulk x'.1) := by
    intro i hi
    have := hel' i hi
    rw [hsz] at this
    rw [List.getElem?_eq_getElem (by omega)] at this
    obtain ⟨cs', h1, h2⟩ := Option.bind_eq_some_iff.1 this
    obtain ⟨a', h3, h4⟩ := hel m cs' _ (by omega) h2
    exact ⟨a', cs', _, h1, List.getElem?_eq_getElem (by omega), h3, h4⟩
  obtain ⟨xs, hxl, hx⟩ := list_of len hi
  have hbs := bulk_sum wt xs (elems.map (·.1)) (by simp [hxl, hlen]) fun i b d h1 h2 => by
    obtain ⟨cs', x', _, k2, _, k4⟩ := hx i b h1
    rw [List.getElem?_map, k2] at h2
    simp at h2; rw [← h2]; exact k4
  refine ⟨false, xs, _, rfl, ?_, by simp only [Rows.uptoBulk]; omega, by simp only [Rows.uptoBulk]; omega⟩
  have hsl : sl sz false (xs.map f) = .slice sz (xs.map f) := by simp [sl]
  rw [hsl]
  have hsp0 : 0 < len → a.spot = none := by
    intro h0
    obtain ⟨a', cs', x', k1, _, k3, _⟩ := hi 0 h0
    obtain ⟨_, k5, k6⟩ := World.cells?_some k1
    have hcell := k6 0 hz
    rw [List.getElem?_eq_getElem (by omega)] at hcell
    rw [show (a.add (0 * sz)).add 0 = a by simp [Addr.add]] at hcell
    unfold World.cell? at hcell
    split at hcell
    · split at hcell
      · simp at hcell
      · rename_i hns; simpa using hns
    · simp at hcell
  have hadd : 0 < len → ∀ k j, (a.add k).add j = ⟨a.block, a.off + k + j, none⟩ := by
    intro h0 k j
    have hs := hsp0 h0
    cases a with
    | mk b o sp' =>
      simp only at hs
      subst hs
      simp only [Addr.add]
      by_cases c1 : k = 0 <;> by_cases c2 : j = 0 <;> simp [c1, c2]
  have hspot : ∀ i b, xs[i]? = some b → ∀ j c, (f b).cells[j]? = some c → Gam W a.block (a.off + i * sz + j) c := by
    intro i b hb' j c hc
    have hil : i < len := by rw [← hxl]; exact (List.getElem?_eq_some_iff.1 hb').1
    obtain ⟨cs', x', k1, _, k3, _⟩ := hx i b hb'
    obtain ⟨_, k5, k6⟩ := World.cells?_some k1
    obtain ⟨u, hu, hr⟩ := RepL_get k3 hc
    have hj : j < sz := by
      have := (List.getElem?_eq_some_iff.1 hc).1
      rw [hcl] at this; exact this
    have hcell := k6 j hj
    rw [hu, hadd (by omega)] at hcell
    have hs2 := hso b c (List.mem_of_getElem? hc)
    exact gam_mk hs2.1 hs2.2 hcell hr
  refine ⟨a, cap, by rw [List.length_map, hxl], by rw [List.length_map, hxl]; exact hl, fun hne => ?_, fun i e' he => ?_⟩
  · refine hsp0 ?_
    rw [← hxl]
    cases xs with
    | nil => exact absurd rfl hne
    | cons y ys => simp
  · rw [List.getElem?_map] at he
    obtain ⟨b, hb', rfl⟩ := Option.map_eq_some_iff.1 he
    exact ⟨hcl b, hspot i b hb'⟩
end
end Go.Proofs.Ytmbdccekcfeomaa.Am
