/- The abstract machine's code, in the model's calculus. -/
import Derived.Test.YtmbdccekcfeomaaT15
import Derived.Laws.Sem
section
open Go
namespace Go.Proofs.Ytmbdccekcfeomaa.Am

def okCode (P : Program) (src : Nat → Nat) (N : Nat) : Code → ACode → Bool
  | .skip, .skip => true
  | .region _ ops d, .region none is => d == false && okInstrs P src N ops ops.toList is
  | .region _ ops d, .region (some ms) is => d && (okMasks ms 0 ms ops.toList && (aparts [] ms is && okInstrs P src N ops ops.toList is))
  | .seq a b, .seq c d => okCode P src N a c && okCode P src N b d
  | .cond x a b, .cond y c d => okOpd src x y && (okCode P src N a c && okCode P src N b d)
  | .block i a, .block j c => i == j && okCode P src N a c
  | .loop a, .loop c => okCode P src N a c
  | .exit i, .exit j => i == j
  | .ret, .ret => true
  | _, _ => false

def AExit.of : AExit → Exit
  | .normal => .normal
  | .exit id => .exit id
  | .ret => .ret

section
variable {P : Program} {src : Nat → Nat} {wl n₀ : Nat} {K₀ K : Ctx} {w₀ w : World} {N : Nat} {σ τ : St} {a : Act}

theorem At.drawn (h : At src wl n₀ K₀ w₀ N K w σ a) {w' : World} (hw : w'.heap = w.heap) (hio : SameIo w w') : At src wl n₀ K₀ w₀ N K w' σ a where
  src := h.src
  inv := h.inv.agree fun b _ => by rw [hw]
  H := h.H
  lo := h.lo
  env := h.env
  used := h.used
  since := ⟨by rw [hw]; exact h.since.size, fun b hb hn => by rw [hw]; exact h.since.keep b hb hn, h.since.ext, h.since.low, h.since.mine, h.since.locs, h.since.old, ⟨hio.1.trans h.since.io.1, hio.2.1.trans h.since.io.2.1, hio.2.2.trans h.since.io.2.2⟩⟩
  size := h.size
  defers := h.defers
  nx := h.nx
  wl := h.wl

/-- Names that a region keeps for its own. -/
theorem At.more (h : At src wl n₀ K₀ w₀ N K w σ a) (n : Nat) : At src wl n₀ K₀ w₀ N K w { σ with nx := σ.nx + n } a where
  src := h.src
  inv := h.inv
  H := h.H
  lo := h.lo
  env := h.env
  used j hj := by have := h.used j hj; simp only; omega
  since := h.since
  size := h.size
  defers := h.defers
  nx := by have := h.nx; simp only; omega
  wl := h.wl

theorem region_seq {call : CallF} (hcall : CallOk P src call) {ops : Array Oper} {is : List AInstr} (hok : okInstrs P src N ops ops.toList is = true) {id : Nat} {Q : Exit → Act → World → Prop}
    (h : At src wl n₀ K₀ w₀ N K w σ a) (he : execOps call wl σ.nx is { σ with nx := σ.nx + is.length } = some τ) (hQ : ∀ a' w' K', At src wl n₀ K₀ w₀ N K' w' τ a' → Q .normal a' w') :
    (Code.region id ops false).wp P Q a w := by
  refine wp_region ?_
  obtain ⟨hlen, _⟩ := okInstrs_get hok
  have hlen' : ops.size = is.length := by rw [← hlen]; simp
  rw [hlen', List.range_eq_range']
  have hL := execOps_L (call := call) (wl := wl) (is := is) (base := σ.nx) 0 is rfl { σ with nx := σ.nx + is.length }
  rw [Nat.add_zero, he] at hL
  refine list_ok hcall hok h.nx _ _ _ K w a (List.nodup_range' (step := 1)) (h.more _) (by simp) ?_ hL.symm (fun a' w' K' hat _ => hQ a' w' K' hat)
  intro i hi
  have hil : i < is.length := by simpa [List.mem_range'] using hi
  exact ⟨hil, fun hu => by have := h.used _ hu; omega⟩

theorem region_draw {call : CallF} {pf : Nat → Tidy} (hmix : P.follows .mixedOrders = true) (hcall : CallOk P src call) (hl : LowCalls call) (hp : PureCalls pf call) (hf : FreshCalls pf call)
    {ops : Array Oper} {is : List AInstr} (hok : okInstrs P src N ops ops.toList is = true) {ms : List Nat} (hms : okMasks ms 0 ms ops.toList = true) (hap : aparts [] ms is = true) {id : Nat} {Q : Exit → Act → World → Prop}
    (h : At src wl n₀ K₀ w₀ N K w σ a) {fs : List Fp} (he : execD call pf wl σ.nx is { σ with nx := σ.nx + is.length } = some (τ, fs)) (hcl : clears σ.nx [] ms fs = true) (hQ : ∀ a' w' K', At src wl n₀ K₀ w₀ N K' w' τ a' → Q .normal a' w') :
    (Code.region id ops true).wp P Q a w := by
  refine wp_region_any hmix ?_
  obtain ⟨hlen, _⟩ := okInstrs_get hok
  have hlen' : ops.size = is.length := by rw [← hlen]; simp
  obtain ⟨hfl, hrun, _⟩ := run_execD (base := σ.nx) (is := is) 0 is rfl _ _ _ (by rw [Nat.add_zero]; exact he)
  obtain ⟨hal, haspec⟩ := aparts_spec hap
  obtain ⟨hcl1, hcspec⟩ := clears_spec hcl
  have hfst : ((List.range' 0 is.length).zip fs).map (·.1) = List.range' 0 is.length := by
    rw [List.map_fst_zip]; simp [hfl]
  refine draw_run hcall hl hp hf hok hms h.nx (nx := σ.nx + is.length) (Nat.le_refl _) (fun a' w' K' hat _ => hQ a' w' K' hat) ops.size _ ((List.range' 0 is.length).zip fs) _ K _ a ((h.more is.length).drawn rfl ⟨rfl, rfl, rfl⟩) (Nat.le_refl _) ?_ ?_ ?_ (by simp) ?_ ?_ hrun (by simp [hlen', hfl])
  · rw [hfst]
    intro i hi hu
    have := h.used _ hu; omega
  · rw [hfst]; exact List.pairwise_lt_range'
  · rw [hfst]
    intro i
    simp only [List.mem_range']
    constructor
    · rintro ⟨j, hj, rfl⟩
      have hj' : j < ops.size := by omega
      simp [hj']
    · rintro ⟨hi, _⟩
      exact ⟨i, by omega, by omega⟩
  · intro j hj
    exfalso
    by_cases hjs : j < ops.size <;> simp [hjs] at hj
  · rw [List.pairwise_iff_getElem]
    intro i j hi hj hij
    simp only [List.length_zip, List.length_range', hfl, Nat.min_self] at hi hj
    simp only [List.getElem_zip, List.getElem_range', Nat.zero_add, Nat.one_mul]
    have hm : j < ms.length := by omega
    have hmj : ms.getD j 0 = ms[j] := by simp [hm]
    rw [hmj]
    by_cases hbit : ms[j].testBit i = true
    · exact .inl hbit
    · right
      refine ⟨(hcspec j ms[j] fs[j] (by simp) (by simp) i fs[i] (by simpa using hij) (by simp)).resolve_left hbit, ?_⟩
      intro x y hx hy
      exact (haspec j ms[j] y (by simp) hy i x (by simpa using hij) (by simpa using hx)).resolve_left hbit

theorem loop_ok {c : Code} {f : St → Option (AExit × St)} {R : St → Act → World → Prop}
    (hf : ∀ σ e τ a w (Q : Exit → Act → World → Prop), f σ = some (e, τ) → R σ a w → (∀ a' w', R τ a' w' → Q e.of a' w') → c.wp P Q a w) :
    ∀ (n : Nat) (σ : St) (e : AExit) (τ : St) (a : Act) (w : World) (Q : Exit → Act → World → Prop), iter f n σ = some (e, τ) → R σ a w → (∀ a' w', R τ a' w' → Q e.of a' w') → Code.rounds P c Q n a w
  | 0, σ, e, τ, a, w, Q, h, _, _ => by simp [iter] at h
  | n + 1, σ, e, τ, a, w, Q, h, hR, hQ => by
    simp only [iter] at h
    rw [rounds_succ]
    split at h
    · rename_i υ hu
      exact hf σ _ υ a w _ hu hR (fun a' w' hR' => loop_ok hf n υ e τ a' w' Q h hR' hQ)
    · rename_i r hr
      refine hf σ e τ a w _ h hR (fun a' w' hR' => ?_)
      have := hQ a' w' hR'
      cases e with
      | normal => exact absurd h (by intro hh; exact hr _ hh)
      | exit id => exact this
      | ret => exact this

theorem code_ok {call : CallF} {pf : Nat → Tidy} {k : Nat} (hmix : P.follows .mixedOrders = true) (hcall : CallOk P src call) (hl : LowCalls call) (hp : PureCalls pf call) (hf : FreshCalls pf call) :
    ∀ (ac : ACode) (c : Code), okCode P src N c ac = true → ∀ (σ : St) (e : AExit) (τ : St) (a : Act) (w : World) (Q : Exit → Act → World → Prop), exec call pf wl k ac σ = some (e, τ) → (∃ K, At src wl n₀ K₀ w₀ N K w σ a) →
      (∀ a' w', (∃ K', At src wl n₀ K₀ w₀ N K' w' τ a') → Q e.of a' w') → c.wp P Q a w
  | .skip, c, hok, σ, e, τ, a, w, Q, h, hat, hQ => by
    cases c <;> simp only [okCode] at hok <;> try (simp at hok; done)
    simp only [exec, Option.some.injEq, Prod.mk.injEq] at h; obtain ⟨rfl, rfl⟩ := h
    exact wp_skip (hQ a w hat)
  | .exit id, c, hok, σ, e, τ, a, w, Q, h, hat, hQ => by
    cases c <;> simp only [okCode] at hok <;> try (simp at hok; done)
    simp only [exec, Option.some.injEq, Prod.mk.injEq] at h; obtain ⟨rfl, rfl⟩ := h
    simp only [beq_iff_eq] at hok; subst hok
    exact wp_exit (hQ a w hat)
  | .ret, c, hok, σ, e, τ, a, w, Q, h, hat, hQ => by
    cases c <;> simp only [okCode] at hok <;> try (simp at hok; done)
    simp only [exec, Option.some.injEq, Prod.mk.injEq] at h; obtain ⟨rfl, rfl⟩ := h
    exact wp_ret (hQ a w hat)
  | .region none is, c, hok, σ, e, τ, a, w, Q, h, ⟨K, hat⟩, hQ => by
    cases c <;> simp only [okCode] at hok <;> try (simp at hok; done)
    simp only [Bool.and_eq_true, beq_iff_eq] at hok
    obtain ⟨rfl, hok⟩ := hok
    simp only [exec] at h
    obtain ⟨υ, hu, e'⟩ := map_some h
    simp only [Prod.mk.injEq] at e'; obtain ⟨rfl, rfl⟩ := e'
    exact region_seq hcall hok hat hu (fun a' w' K' h' => hQ a' w' ⟨K', h'⟩)
  | .region (some ms) is, c, hok, σ, e, τ, a, w, Q, h, ⟨K, hat⟩, hQ => by
    cases c <;> simp only [okCode] at hok <;> try (simp at hok; done)
    simp only [Bool.and_eq_true] at hok
    obtain ⟨rfl, hms, hap, hok⟩ := hok
    simp only [exec] at h
    split at h
    case h_2 => simp at h
    rename_i υ fs hu
    split at h
    case isFalse => simp at h
    rename_i hcl
    simp only [Option.some.injEq, Prod.mk.injEq] at h; obtain ⟨rfl, rfl⟩ := h
    exact region_draw hmix hcall hl hp hf hok hms hap hat hu hcl (fun a' w' K' h' => hQ a' w' ⟨K', h'⟩)
  | .seq x y, c, hok, σ, e, τ, a, w, Q, h, hat, hQ => by
    cases c <;> simp only [okCode] at hok <;> try (simp at hok; done)
    rename_i cx cy
    simp only [Bool.and_eq_true] at hok
    refine wp_seq ?_
    simp only [exec] at h
    split at h
    · rename_i υ hu
      exact code_ok hmix hcall hl hp hf x cx hok.1 σ _ υ a w _ hu hat (fun a' w' hat' => code_ok hmix hcall hl hp hf y cy hok.2 υ e τ a' w' Q h hat' hQ)
    · rename_i r hr
      refine code_ok hmix hcall hl hp hf x cx hok.1 σ e τ a w _ h hat (fun a' w' hat' => ?_)
      have := hQ a' w' hat'
      cases e with
      | normal => exact absurd h (by intro hh; exact hr _ hh)
      | exit id => exact this
      | ret => exact this
  | .cond b x y, c, hok, σ, e, τ, a, w, Q, h, ⟨K, hat⟩, hQ => by
    cases c <;> simp only [okCode] at hok <;> try (simp at hok; done)
    rename_i cb cx cy
    simp only [Bool.and_eq_true] at hok
    obtain ⟨h1, h2, h3⟩ := hok
    simp only [exec] at h
    split at h
    case h_2 => simp at h
    rename_i t ht
    have hr := okOpd_rep hat.src hat.env h1
    rw [ht] at hr
    simp only [Rep] at hr
    refine wp_cond hr ?_
    split at h
    · rename_i htt; rw [if_pos htt]; exact code_ok hmix hcall hl hp hf x cx h2 σ e τ a w Q h ⟨K, hat⟩ hQ
    · rename_i htt; rw [if_neg htt]; exact code_ok hmix hcall hl hp hf y cy h3 σ e τ a w Q h ⟨K, hat⟩ hQ
  | .block id x, c, hok, σ, e, τ, a, w, Q, h, hat, hQ => by
    cases c <;> simp only [okCode] at hok <;> try (simp at hok; done)
    rename_i id' cx
    simp only [Bool.and_eq_true, beq_iff_eq] at hok
    obtain ⟨rfl, hok⟩ := hok
    refine wp_block ?_
    simp only [exec] at h
    split at h
    · rename_i j υ hu
      refine code_ok hmix hcall hl hp hf x cx hok σ _ υ a w _ hu hat (fun a' w' hat' => ?_)
      simp only [AExit.of, Exit.inBlock]
      split at h
      · rename_i hj
        simp only [Option.some.injEq, Prod.mk.injEq] at h; obtain ⟨rfl, rfl⟩ := h
        rw [if_pos hj]; exact hQ a' w' hat'
      · rename_i hj
        simp only [Option.some.injEq, Prod.mk.injEq] at h; obtain ⟨rfl, rfl⟩ := h
        rw [if_neg hj]; exact hQ a' w' hat'
    · rename_i r hr
      refine code_ok hmix hcall hl hp hf x cx hok σ e τ a w _ h hat (fun a' w' hat' => ?_)
      have := hQ a' w' hat'
      cases e with
      | normal => exact this
      | exit id => exact absurd h (by intro hh; exact hr _ _ hh)
      | ret => exact this
  | .loop x, c, hok, σ, e, τ, a, w, Q, h, hat, hQ => by
    cases c <;> simp only [okCode] at hok <;> try (simp at hok; done)
    rename_i cx
    simp only [exec] at h
    refine wp_loop_rounds k ?_
    exact loop_ok (R := fun σ a w => ∃ K, At src wl n₀ K₀ w₀ N K w σ a) (fun σ e τ a w Q h hR hQ => code_ok hmix hcall hl hp hf x cx hok σ e τ a w Q h hR hQ) k σ e τ a w Q h hat hQ

end
end Go.Proofs.Ytmbdccekcfeomaa.Am
end
/- The abstract machine's calls, in the model's calculus. -/
section
open Go
namespace Go.Proofs.Ytmbdccekcfeomaa.Am

/-! ### names -/

mutual
def Named (U : Nat → Prop) : AV → Prop
  | .lref id _ _ => U id
  | .ptr id _ _ => U id
  | .loc _ st _ => U st
  | .map id => U id
  | .clo _ cap => NamedL U cap
  | .iface _ x => Named U x
  | .agg cs => NamedL U cs
  | .tup cs => NamedL U cs
  | _ => True
def NamedL (U : Nat → Prop) : List AV → Prop
  | [] => True
  | v :: vs => Named U v ∧ NamedL U vs
end

mutual
theorem Rep.named {K : Ctx} : ∀ {v : AV} {u : Value}, Rep K v u → Named K.used v
  | .lref .., _, h | .ptr .., _, h | .loc .., _, h | .map _, _, h => by simp only [Rep] at h; simp only [Named]; exact h.1
  | .clo _ cap, _, h => by simp only [Rep] at h; obtain ⟨vs, _, hl⟩ := h; simp only [Named]; exact RepL.named hl
  | .iface _ x, _, h => by simp only [Rep] at h; obtain ⟨vs, _, hl⟩ := h; simp only [Named]; exact Rep.named hl
  | .agg cs, _, h => by simp only [Rep] at h; obtain ⟨vs, _, hl⟩ := h; simp only [Named]; exact RepL.named hl
  | .tup cs, _, h => by simp only [Rep] at h; obtain ⟨vs, _, hl⟩ := h; simp only [Named]; exact RepL.named hl
  | .bool _, _, _ | .int _ _, _, _ | .str _, _, _ | .nilSlice, _, _ | .slice _ _, _, _ | .eslice, _, _ | .nilPtr, _, _ | .fptr _ _, _, _ | .nilFunc, _, _ | .nilMap, _, _ | .nilIface, _, _ | .undef, _, _ => by simp only [Named]
theorem RepL.named {K : Ctx} : ∀ {vs : List AV} {us : List Value}, RepL K vs us → NamedL K.used vs
  | [], _, _ => by simp only [NamedL]
  | v :: vs, us, h => by
    simp only [RepL] at h
    obtain ⟨u, us', _, h1, h2⟩ := h
    simp only [NamedL]
    exact ⟨Rep.named h1, RepL.named h2⟩
end

/-- Fewer objects and names are known of. -/
structure Narrow (K K' : Ctx) : Prop where
  src : K'.src = K.src
  Γ : K'.Γ = K.Γ
  blk : K'.blk = K.blk
  base : K'.base = K.base
  tot : K'.tot = K.tot
  H : ∀ id ob, K'.H id = some ob → K.H id = some ob

mutual
theorem Rep.narrow {K K' : Ctx} (h : Narrow K K') : ∀ {v : AV} {u : Value}, v.nol = true → Named K'.used v → Rep K v u → Rep K' v u
  | .bool _, _, _, _, hr | .int _ _, _, _, _, hr | .str _, _, _, _, hr | .nilSlice, _, _, _, hr | .eslice, _, _, _, hr | .nilPtr, _, _, _, hr | .nilFunc, _, _, _, hr | .nilMap, _, _, _, hr | .nilIface, _, _, _, hr | .undef, _, _, _, hr => hr
  | .slice sz es, u, _, _, hr => by
    simp only [Rep] at hr ⊢
    rw [h.Γ]; exact hr
  | .fptr x off, u, _, _, hr => by
    simp only [Rep] at hr ⊢
    rw [h.Γ]; exact hr
  | .lref id i n, u, _, hn, hr => by
    simp only [Rep] at hr ⊢
    simp only [Named] at hn
    obtain ⟨_, a, cap, e, hl⟩ := hr
    refine ⟨hn, a, cap, e, fun sz es hh => ?_⟩
    rw [h.blk, h.base, h.tot]
    exact hl sz es (h.H _ _ hh)
  | .ptr id i off, u, _, hn, hr => by
    simp only [Rep] at hr ⊢
    simp only [Named] at hn
    obtain ⟨_, a, e, hl⟩ := hr
    refine ⟨hn, a, e, fun sz es hh => ?_⟩
    rw [h.blk, h.base]
    exact hl sz es (h.H _ _ hh)
  | .loc .., u, hl, _, _ => by simp [AV.nol] at hl
  | .map id, u, _, hn, hr => by
    simp only [Rep] at hr ⊢
    simp only [Named] at hn
    obtain ⟨_, r, e, hl⟩ := hr
    refine ⟨hn, r, e, fun hh => ?_⟩
    rw [h.blk]
    refine hl fun hnone => ?_
    cases ho : K'.H id with
    | none => exact hh ho
    | some ob => have := h.H _ _ ho; rw [hnone] at this; cases this
  | .clo f cap, u, hl, hn, hr => by
    simp only [Rep] at hr ⊢
    simp only [Named] at hn
    simp only [AV.nol] at hl
    obtain ⟨vs, e, hr⟩ := hr
    exact ⟨vs, by rw [h.src]; exact e, RepL.narrow h hl hn hr⟩
  | .iface t x, u, hl, hn, hr => by
    simp only [Rep] at hr ⊢
    simp only [Named] at hn
    simp only [AV.nol] at hl
    obtain ⟨y, e, hr⟩ := hr
    exact ⟨y, e, Rep.narrow h hl hn hr⟩
  | .agg cs, u, hl, hn, hr => by
    simp only [Rep] at hr ⊢
    simp only [Named] at hn
    simp only [AV.nol] at hl
    obtain ⟨vs, e, hr⟩ := hr
    exact ⟨vs, e, RepL.narrow h hl hn hr⟩
  | .tup cs, u, hl, hn, hr => by
    simp only [Rep] at hr ⊢
    simp only [Named] at hn
    simp only [AV.nol] at hl
    obtain ⟨vs, e, hr⟩ := hr
    exact ⟨vs, e, RepL.narrow h hl hn hr⟩
theorem RepL.narrow {K K' : Ctx} (h : Narrow K K') : ∀ {vs : List AV} {us : List Value}, AV.nols vs = true → NamedL K'.used vs → RepL K vs us → RepL K' vs us
  | [], _, _, _, hr => hr
  | v :: vs, us, hl, hn, hr => by
    simp only [AV.nols, Bool.and_eq_true] at hl
    simp only [NamedL] at hn
    simp only [RepL] at hr ⊢
    obtain ⟨u, us', e, h1, h2⟩ := hr
    exact ⟨u, us', e, Rep.narrow h hl.1 hn.1 h1, RepL.narrow h hl.2 hn.2 h2⟩
end

theorem NamedL_get {U : Nat → Prop} : ∀ {vs : List AV}, NamedL U vs → ∀ {i : Nat} {v : AV}, vs[i]? = some v → Named U v
  | [], _, i, v, hv => by simp at hv
  | x :: vs, h, i, v, hv => by
    simp only [NamedL] at h
    cases i with
    | zero => simp only [List.getElem?_cons_zero, Option.some.injEq] at hv; subst hv; exact h.1
    | succ i => simp only [List.getElem?_cons_succ] at hv; exact NamedL_get h.2 hv

/-- What an object holds is named so. -/
def NamedO (U : Nat → Prop) : Obj → Prop
  | .arr _ es => ∀ (i : Nat) (e : AV), es[i]? = some e → ∀ (j : Nat) (c : AV), e.cells[j]? = some c → Named U c
  | .mapi _ es => ∀ p ∈ es, Named U p.2
  | .maps es => ∀ p ∈ es, Named U p.2

section
variable {P : Program} {src : Nat → Nat} {wl n₀ : Nat} {K₀ K K' : Ctx} {w₀ w w' : World} {N : Nat} {σ τ : St} {a : Act}

theorem MapI.named {kd : IntKind} : ∀ {es : List (Int × AV)} {ms : List MapEntry}, MapI K kd es ms → ∀ p ∈ es, Named K.used p.2
  | [], _, _, p, hp => by simp at hp
  | (n, v) :: es, ms, hm, p, hp => by
    simp only [MapI] at hm
    obtain ⟨m, ms', e, hk, hv, hn, hm⟩ := hm
    rcases List.mem_cons.1 hp with rfl | hp
    · exact hv.named
    · exact MapI.named hm p hp
theorem MapS.named : ∀ {es : List (ByteArray × AV)} {ms : List MapEntry}, MapS K es ms → ∀ p ∈ es, Named K.used p.2
  | [], _, _, p, hp => by simp at hp
  | (n, v) :: es, ms, hm, p, hp => by
    simp only [MapS] at hm
    obtain ⟨m, ms', e, hk, hv, hn, hm⟩ := hm
    rcases List.mem_cons.1 hp with rfl | hp
    · exact hv.named
    · exact MapS.named hm p hp

theorem ObjOk.named {id : Nat} {ob : Obj} (h : ObjOk K w id ob) : NamedO K.used ob := by
  cases ob with
  | arr sz es =>
    obtain ⟨_, _, h3⟩ := h
    intro i e he j c hc
    obtain ⟨u, _, hr⟩ := (h3 i e he).2.2 j c hc
    exact hr.named
  | mapi kd es => obtain ⟨ms, c, _, h2⟩ := h; exact h2.named
  | maps es => obtain ⟨ms, c, _, h2⟩ := h; exact h2.named

theorem MapI.narrow (h : Narrow K K') {kd : IntKind} : ∀ {es : List (Int × AV)} {ms : List MapEntry}, (∀ p ∈ es, Named K'.used p.2) → MapI K kd es ms → MapI K' kd es ms
  | [], _, _, hm => hm
  | (n, v) :: es, ms, hn, hm => by
    simp only [MapI] at hm ⊢
    obtain ⟨m, ms', e, hk, hv, hs, hm⟩ := hm
    exact ⟨m, ms', e, hk, hv.narrow h (storable_nol hs) (hn _ (List.mem_cons_self ..)), hs, MapI.narrow h (fun p hp => hn p (List.mem_cons_of_mem _ hp)) hm⟩
theorem MapS.narrow (h : Narrow K K') : ∀ {es : List (ByteArray × AV)} {ms : List MapEntry}, (∀ p ∈ es, Named K'.used p.2) → MapS K es ms → MapS K' es ms
  | [], _, _, hm => hm
  | (n, v) :: es, ms, hn, hm => by
    simp only [MapS] at hm ⊢
    obtain ⟨m, ms', e, hk, hv, hs, hm⟩ := hm
    exact ⟨m, ms', e, hk, hv.narrow h (storable_nol hs) (hn _ (List.mem_cons_self ..)), hs, MapS.narrow h (fun p hp => hn p (List.mem_cons_of_mem _ hp)) hm⟩

theorem ObjOk.narrow (h : Narrow K K') {id : Nat} {ob : Obj} (hn : NamedO K'.used ob) (hok : ObjOk K w id ob) : ObjOk K' w id ob := by
  cases ob with
  | arr sz es =>
    obtain ⟨h1, h2, h3⟩ := hok
    refine ⟨by rw [h.tot]; exact h1, by rw [h.blk, h.base, h.tot]; exact h2, fun i e he => ⟨(h3 i e he).1, (h3 i e he).2.1, fun j c hj => ?_⟩⟩
    obtain ⟨u, hu, hr⟩ := (h3 i e he).2.2 j c hj
    rw [h.blk, h.base]
    exact ⟨u, hu, hr.narrow h (nol_cells (storable_nol (h3 i e he).2.1) hj) (hn i e he j c hj)⟩
  | mapi kd es =>
    obtain ⟨ms, c, h1, h2⟩ := hok
    exact ⟨ms, c, by rw [h.blk]; exact h1, h2.narrow h hn⟩
  | maps es =>
    obtain ⟨ms, c, h1, h2⟩ := hok
    exact ⟨ms, c, by rw [h.blk]; exact h1, h2.narrow h hn⟩

/-! ### a call's begin and end -/

/-- The caller's local variables are out of sight. -/
def Ctx.enter (K : Ctx) : Ctx := { K with lo := fun _ => none }

theorem ext_enter (K : Ctx) : Ext K K.enter := ⟨rfl, fun _ h => h, fun _ _ _ h => h, fun _ _ h => ⟨rfl, h⟩, fun _ _ _ es h => ⟨es, h, rfl, rfl⟩⟩

theorem Inv.enter (hI : Inv K w) : Inv K.enter w where
  frozen b o c hc := by
    obtain ⟨h1, h2, u, hu, hr⟩ := hI.frozen b o c hc
    exact ⟨h1, h2, u, hu, Rep.solid (K := K) (K' := K.enter) rfl (fun _ _ _ h => h) h1 hr⟩
  live id ob ho := by
    obtain ⟨h1, h2, h3⟩ := hI.live id ob ho
    exact ⟨h1, h2, h3.ext (ext_enter K) rfl rfl rfl rfl⟩
  dist := hI.dist
  locs s st v hs := by simp [Ctx.enter] at hs
  locd s s' hs := by simp [Ctx.enter] at hs

/-- Back in the caller. -/
def Ctx.back (K' K : Ctx) (H : Nat → Option Obj) (U : Nat → Prop) : Ctx := { K' with lo := K.lo, ω := K.ω, H, used := U }

theorem narrow_back (K' K : Ctx) {H : Nat → Option Obj} {U : Nat → Prop} (hH : ∀ id ob, H id = some ob → K'.H id = some ob) : Narrow K' (K'.back K H U) := ⟨rfl, rfl, rfl, rfl, rfl, hH⟩

theorem back_ok {nx : Nat} (hI : Inv K w) (hI' : Inv K' w') (hs : Since wl nx K.enter w K' w') {H : Nat → Option Obj} {U : Nat → Prop} (hH : ∀ id ob, H id = some ob → K'.H id = some ob)
    (hU : ∀ id, K.used id → U id) (hU' : ∀ id, U id → K'.used id) (hn : ∀ id ob, H id = some ob → U id ∧ NamedO U ob) {wl' : Nat} (hlow : ∀ id, id < wl' → H id = K.H id) :
    Inv (K'.back K H U) w' ∧ ∀ n₀, n₀ ≤ nx → Evo wl' n₀ K w (K'.back K H U) w' := by
  have hne : ∀ id, H id ≠ none → K'.H id ≠ none := by
    intro id hid
    cases ho : H id with
    | none => exact absurd ho hid
    | some ob => rw [hH id ob ho]; simp
  have ext : Ext K (K'.back K H U) := by
    refine ⟨hs.ext.src, hU, hs.ext.Γ, fun id hid hh => ?_, fun id hid sz es hh => ?_⟩
    · exact hs.ext.names id hid (hne id hh)
    · exact hs.ext.arrs id hid sz es (hH _ _ hh)
  have nar := narrow_back K' K (U := U) hH
  refine ⟨?_, fun n₀ hn₀ => ?_⟩
  · refine ⟨?_, ?_, ?_, ?_, ?_⟩
    · intro b o c hc
      obtain ⟨h1, h2, u, hu, hr⟩ := hI'.frozen b o c hc
      exact ⟨h1, h2, u, hu, Rep.solid (K := K') (K' := K'.back K H U) rfl (fun _ _ _ h => h) h1 hr⟩
    · intro id ob ho
      obtain ⟨_, h2, h3⟩ := hI'.live id ob (hH id ob ho)
      exact ⟨(hn id ob ho).1, h2, h3.narrow nar (hn id ob ho).2⟩
    · intro id id' h h' e
      exact hI'.dist id id' (hne id h) (hne id' h') e
    · intro s st v hl
      change K.lo s = some (st, v) at hl
      obtain ⟨h1, h2, h3, h4, h5⟩ := hI.locs s st v hl
      have hlt := hI.ω_lt (s := s) (by rw [hl]; simp)
      obtain ⟨k1, k2⟩ := hs.keep (K.ω s) hlt h3
      refine ⟨hU _ h1, fun o c hc => h2 o c ?_, fun id hid => ?_, ?_, ?_⟩
      · have := congrFun (k2 o) c; exact this.mp hc
      · rcases hs.mine id (hne id hid) with g | ⟨id₀, g1, g2⟩
        · change K'.blk id ≠ K.ω s; omega
        · change K'.blk id ≠ K.ω s; rw [← g2]; exact h3 id₀ g1
      · change ∃ cs el, w'.heap[K.ω s]? = _ ∧ _
        rw [k1]; exact h4
      · exact h5.ext (w' := w') ext k1
    · exact hI.locd
  · refine ⟨hs.size, fun b hb h1 _ => hs.keep b hb h1, ext, fun s st v _ hl => ⟨v, hl, rfl⟩, hlow, fun id hid => ?_, fun s hl => .inr ⟨hl, rfl⟩, fun id hid hu => ?_, ?_⟩
    · exact hs.mine id (hne id hid)
    · exact hs.old id (by omega) (hU' id hu)
    · exact hs.io

end
end Go.Proofs.Ytmbdccekcfeomaa.Am
end
/- The abstract machine's functions, in the model's calculus. -/
section
open Go
namespace Go.Proofs.Ytmbdccekcfeomaa.Am

def okResult (P : Program) : ResultVar → ARes → Bool
  | .tmp t, .t n => t == n
  | .cell a ty, .cell n sz agg => a == n && (sizeIs P ty sz && (aggIs P ty agg && (agg || sz == 1)))
  | _, _ => false
def okResults (P : Program) : List ResultVar → List ARes → Bool
  | [], [] => true
  | r :: rs, x :: xs => okResult P r x && okResults P rs xs
  | _, _ => false

def okFun (P : Program) (src : Nat → Nat) (af : AFun) : Bool :=
  match P.funcs[af.src]? with
  | some fn => match fn.body with
    | some c => okCode P src fn.ntmps c af.body && (okResults P fn.results.toList af.res && !(fn.name == "runtime.NumGoroutine"))
    | none => false
  | none => false

def srcOf (tab : Nat → Option AFun) (f : Nat) : Nat := match tab f with | some a => a.src | none => 0

section
variable {P : Program} {src : Nat → Nat} {wl n₀ : Nat} {K₀ K K' : Ctx} {w₀ w w' : World} {N : Nat} {σ τ : St} {a : Act}

/-- What one result variable reads. -/
def readRes (tmps : Array Value) : ResultVar → Sem Value
  | .tmp t => pure (tmps.getD t undef)
  | .cell a t => do loadVar t (← asAddr (tmps.getD a undef))

theorem results_list (h : At src wl n₀ K₀ w₀ N K w σ a) : ∀ (rs : List ResultVar) (xs : List ARes) (vs : List AV), okResults P rs xs = true → resOf σ xs = some vs →
    ∃ us : List Value, (rs.mapM (readRes a.tmps)).run P w = .ok us w ∧ RepL K vs us
  | [], [], vs, _, hv => by
    simp only [resOf, Option.some.injEq] at hv; subst hv
    exact ⟨[], by simp, rfl⟩
  | [], _ :: _, vs, h, _ => by simp [okResults] at h
  | _ :: _, [], vs, h, _ => by simp [okResults] at h
  | r :: rs, x :: xs, vs, hok, hv => by
    simp only [okResults, Bool.and_eq_true] at hok
    have step : ∀ {v : AV} {vs' : List AV} {u : Value}, (readRes a.tmps r).run P w = .ok u w → Rep K v u → resOf σ xs = some vs' →
        ∃ us : List Value, ((r :: rs).mapM (readRes a.tmps)).run P w = .ok us w ∧ RepL K (v :: vs') us := by
      intro v vs' u hu hr hrest
      obtain ⟨us, h1, h2⟩ := results_list h rs xs vs' hok.2 hrest
      refine ⟨u :: us, by simp [List.mapM_cons, hu, h1], ?_⟩
      simp only [RepL]; exact ⟨u, us, rfl, hr, h2⟩
    cases r with
    | tmp t =>
      cases x with
      | cell n sz agg => simp [okResult] at hok
      | t n =>
        simp only [okResult, beq_iff_eq] at hok
        obtain ⟨rfl, _⟩ := hok
        simp only [resOf] at hv
        obtain ⟨vs', hv', e⟩ := map_some hv
        subst e
        exact step (by simp [readRes]) (h.env t) hv'
    | cell p ty =>
      cases x with
      | t n => simp [okResult] at hok
      | cell n sz agg =>
        simp only [okResult, Bool.and_eq_true, beq_iff_eq] at hok
        obtain ⟨⟨rfl, h1, h2, h3⟩, _⟩ := hok
        simp only [resOf] at hv
        split at hv
        case h_2 => simp at hv
        rename_i v hl
        obtain ⟨vs', hv', e⟩ := map_some hv
        subst e
        obtain ⟨q, y, off, e, hp, hrd⟩ := load_reads h.H h.lo h.inv (h.env p) hl
        obtain ⟨u, hu, hr⟩ := run_loadVar_rep h2 h1 h3 hrd hp
        refine step ?_ hr hv'
        simp only [readRes, e]
        simp [asAddr, hu]

theorem pack_rep {vs : List AV} {us : List Value} (h : RepL K vs us) : Rep K (pack vs) (if h : us.toArray.size = 1 then us.toArray[0] else .tuple us.toArray) := by
  have hl := RepL_length h
  match vs, us, h with
  | [], us, h =>
    simp only [RepL] at h; subst h
    simp only [pack, Rep]; exact ⟨#[], rfl, by simp [RepL]⟩
  | [v], us, h =>
    simp only [RepL] at h
    obtain ⟨u, us', rfl, h1, rfl⟩ := h
    simpa [pack] using h1
  | v :: v' :: vs, us, h =>
    have hs : us.length ≠ 1 := by rw [← hl]; simp
    simp only [pack, List.size_toArray, hs, dite_false]
    simp only [Rep]
    exact ⟨us.toArray, rfl, by simpa using h⟩

theorem results_ok (h : At src wl n₀ K₀ w₀ N K w σ a) {fn : Func} {xs : List ARes} {vs : List AV} (hok : okResults P fn.results.toList xs = true) (hv : resOf σ xs = some vs) :
    ∃ us : List Value, (results fn a.tmps).run P w = .ok (if h : us.toArray.size = 1 then us.toArray[0] else .tuple us.toArray) w ∧ RepL K vs us := by
  obtain ⟨us, h1, h2⟩ := results_list h _ _ _ hok hv
  refine ⟨us, ?_, h2⟩
  have e : results fn a.tmps = (do let vs ← fn.results.mapM (readRes a.tmps); pure (if h : vs.size = 1 then vs[0] else .tuple vs)) := by
    unfold results
    congr 1
  rw [e, ← Array.toArray_toList (xs := fn.results), List.mapM_toArray]
  simp [h1]

theorem start_env {args : List AV} {us : List Value} (hr : RepL K args us) {H : Nat → Option Obj} {nx n : Nat} : Env K (start args H nx).env (us.toArray ++ Array.replicate n undef) := by
  intro j
  simp only [start]
  by_cases hj : j < args.length
  · have ha : args[j]? = some args[j] := List.getElem?_eq_getElem hj
    obtain ⟨u, hu, hrep⟩ := RepL_get hr ha
    have hjl : j < us.length := by rw [← RepL_length hr]; exact hj
    have e1 : args.getD j .undef = args[j] := by simp [List.getD_eq_getElem?_getD, ha]
    have e2 : (us.toArray ++ Array.replicate n undef).getD j undef = u := by
      rw [Array.getD_eq_getD_getElem?, Array.getElem?_append_left (by simpa using hjl)]
      simp [hu]
    rw [e1, e2]; exact hrep
  · have e1 : args.getD j .undef = .undef := by simp [List.getD_eq_getElem?_getD, List.getElem?_eq_none (Nat.le_of_not_lt hj)]
    rw [e1]; trivial

/-- A function that checks, with calls that are sound. -/
theorem call_ok {tab : Nat → Option AFun} (hmix : P.follows .mixedOrders = true) (htab : ∀ f af, tab f = some af → okFun P (srcOf tab) af = true) (n : Nat) (ih : CallOk P (srcOf tab) (callN tab n)) : CallOk P (srcOf tab) (callN tab (n + 1)) := by
  intro wl g args H nx r H' nx' h K w us hsrc hI hH hused hargs hnol hwl
  obtain ⟨af, e, τ, hf, hx, hor, ha⟩ := callN_some h
  have hok := htab g af hf
  unfold okFun at hok
  split at hok
  case h_2 => simp at hok
  rename_i fn hfn
  split at hok
  case h_2 => simp at hok
  rename_i c hc
  simp only [Bool.and_eq_true, Bool.not_eq_true'] at hok
  obtain ⟨hcode, hres, hname⟩ := hok
  have hsg : srcOf tab g = af.src := by simp [srcOf, hf]
  rw [hsg]
  refine ⟨⟨fn, hfn, by rw [hc]; rfl, hname⟩, ?_⟩
  have hlow : af.low wl nx ≤ nx ∧ wl ≤ af.low wl nx := by unfold AFun.low; split <;> omega
  have hnone : ∀ id, nx ≤ id → K.H id = none := by
    intro id hid
    cases ho : K.H id with
    | none => rfl
    | some ob => have := hused id (hI.live id ob ho).1; omega
  refine calls_of_wp hfn hc ?_
  have hat : At (srcOf tab) (af.low wl nx) nx K.enter w fn.ntmps K.enter w (start args H nx) { tmps := us.toArray ++ Array.replicate (fn.ntmps - us.toArray.size) undef, defers := [] } := by
    refine ⟨hsrc, hI.enter, hH, rfl, start_env (hargs.ext (ext_enter K) (.inl hnol)), hused, Since.start fun s => rfl, ?_, rfl, Nat.le_refl _, hlow.1⟩
    simp; omega
  refine code_ok hmix ih (callN_low tab n) (callN_pure tab n) (callN_fresh tab n) af.body c hcode _ e τ _ w _ hx ⟨_, hat⟩ ?_
  rintro a' w' ⟨K', hat'⟩
  have goal : a'.defers = [] ∧ ∃ v, (results fn a'.tmps).run P w' = .ok v w' ∧ (fun (e : Ending) w' => ∃ u K', e = .returned u ∧ Inv K' w' ∧ K'.H = H' ∧ K'.lo = K.lo ∧ (∀ n₀, n₀ ≤ nx → Evo wl n₀ K w K' w') ∧ Rep K' r u ∧ nx ≤ nx' ∧ (∀ j, K'.used j → K.used j ∨ (nx ≤ j ∧ j < nx'))) (.returned v) w' := by
    refine ⟨hat'.defers, ?_⟩
    simp only [answer] at ha
    split at ha
    · simp at ha
    rename_i vs hv
    obtain ⟨us', hrun, hrep⟩ := results_ok hat' hres hv
    refine ⟨_, hrun, ?_⟩
    have hold := hat'.since.old
    have hnew : ∀ j, K'.used j → K.used j ∨ (nx ≤ j ∧ j < τ.nx) := by
      intro j hj
      by_cases hjn : j < nx
      · exact .inl (hold j hjn hj)
      · exact .inr ⟨by omega, hat'.used j hj⟩
    split at ha
    -- pure
    · rename_i hm
      split at ha
      case h_2 => simp at ha
      rename_i xs H1 hth
      split at ha
      case isFalse => simp at ha
      rename_i hsol
      simp only [Option.some.injEq, Prod.mk.injEq] at ha; obtain ⟨rfl, rfl, rfl⟩ := ha
      have hl : af.low wl nx = nx := by unfold AFun.low; rw [hm]
      rw [hl] at hat'
      obtain ⟨K1, k1, k2, k3, k4⟩ := thaw_ok nx af.deep K' w' vs xs H1 us' hat'.inv (by rw [hat'.H]; exact hth) hrep
      have hs1 : Since nx nx K.enter w K1 w' := hat'.since.evo (k2.evo nx)
      have hHsub : ∀ id ob, K.H id = some ob → K1.H id = some ob := by
        intro id ob ho
        rw [hs1.low id (by have := hused id (hI.live id ob ho).1; omega)]; exact ho
      obtain ⟨b1, b2⟩ := back_ok (wl' := wl) hI k2.inv hs1 (H := K.H) (U := K.used) hHsub (fun _ h => h) (fun id h => hs1.ext.used id h) (fun id ob ho => ⟨(hI.live id ob ho).1, (hI.live id ob ho).2.2.named⟩) (fun _ _ => rfl)
      exact ⟨_, _, rfl, b1, hH, rfl, b2, pack_rep (RepL.solid (K := K1) (K' := K1.back K K.H K.used) rfl (fun _ _ _ h => h) hsol k3), Nat.le_refl _, fun j hj => .inl hj⟩
    -- by value, what is there may change
    · rename_i hm
      split at ha
      case h_2 => simp at ha
      rename_i xs H1 hth
      split at ha
      case isFalse => simp at ha
      rename_i hsol
      simp only [Option.some.injEq, Prod.mk.injEq] at ha; obtain ⟨rfl, rfl, rfl⟩ := ha
      obtain ⟨K1, k1, k2, k3, k4⟩ := thaw_ok nx af.deep K' w' vs xs H1 us' hat'.inv (by rw [hat'.H]; exact hth) hrep
      have hwlow := hlow.1
      have hev : Evo (af.low wl nx) nx K' w' K1 w' := by
        have := k2.evo nx
        exact ⟨this.size, this.keep, this.ext, this.extLo, fun id hid => this.low id (by omega), this.mine, this.locs, this.old, this.io⟩
      have hs1 : Since (af.low wl nx) nx K.enter w K1 w' := hat'.since.evo hev
      have hHsub : ∀ id ob, (if id < nx then H1 id else none) = some ob → K1.H id = some ob := by
        intro id ob ho
        split at ho
        · rw [k1]; exact ho
        · simp at ho
      obtain ⟨b1, b2⟩ := back_ok (wl' := wl) hI k2.inv hs1 (H := fun id => if id < nx then H1 id else none) (U := K1.used) hHsub (fun id h => hs1.ext.used id h) (fun _ h => h)
        (fun id ob ho => ⟨(k2.inv.live id ob (hHsub id ob ho)).1, (k2.inv.live id ob (hHsub id ob ho)).2.2.named⟩)
        (fun id hid => by
          have h2 := hs1.low id (by omega)
          rw [k1] at h2
          rw [if_pos (by omega)]; exact h2)
      refine ⟨_, _, rfl, b1, rfl, rfl, b2, pack_rep (RepL.solid (K := K1) (K' := K1.back K _ K1.used) rfl (fun _ _ _ h => h) hsol k3), hat'.nx, fun j hj => ?_⟩
      refine hnew j ?_
      have : K1.used j := hj
      rw [k2.used] at this; exact this
    -- as it is
    · split at ha
      case isFalse => simp at ha
      rename_i hnl
      simp only [Option.some.injEq, Prod.mk.injEq] at ha; obtain ⟨rfl, rfl, rfl⟩ := ha
      obtain ⟨b1, b2⟩ := back_ok (wl' := wl) hI hat'.inv hat'.since (H := K'.H) (U := K'.used) (fun _ _ h => h) (fun id h => hat'.since.ext.used id h) (fun _ h => h)
        (fun id ob ho => ⟨(hat'.inv.live id ob ho).1, (hat'.inv.live id ob ho).2.2.named⟩) (fun id hid => hat'.since.low id (by omega))
      exact ⟨_, _, rfl, b1, hat'.H, rfl, b2, pack_rep (RepL.narrow (narrow_back K' K (fun _ _ h => h)) hnl hrep.named hrep), hat'.nx, hnew⟩
  rcases hor with rfl | rfl
  · exact goal
  · exact goal

theorem calls_ok {tab : Nat → Option AFun} (hmix : P.follows .mixedOrders = true) (htab : ∀ f af, tab f = some af → okFun P (srcOf tab) af = true) : ∀ n, CallOk P (srcOf tab) (callN tab n)
  | 0 => fun wl g args H nx r H' nx' h => by simp [callN] at h
  | n + 1 => call_ok hmix htab n (calls_ok hmix htab n)

end
end Go.Proofs.Ytmbdccekcfeomaa.Am
end
