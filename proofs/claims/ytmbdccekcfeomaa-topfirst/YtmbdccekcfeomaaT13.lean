/- Every operation: the model does what the abstract machine does. -/
import Derived.Test.YtmbdccekcfeomaaT12
import Derived.LoopN
section
namespace Go.Proofs.Ytmbdccekcfeomaa.Am
set_option linter.unusedVariables false
set_option linter.unusedSimpArgs false
set_option linter.unnecessarySimpa false

section
variable {P : Program} {src : Nat → Nat} {K : Ctx} {a : Act} {w : World} {σ σ' : St} {wl n₀ id : Nat}

theorem map_some {α β : Type} {o : Option α} {f : α → β} {y : β} (h : o.map f = some y) : ∃ x, o = some x ∧ f x = y := by
  cases o with
  | none => simp at h
  | some x => exact ⟨x, rfl, by simpa using h⟩

/-- All but calls. -/
theorem op_does (hs : K.src = src) (he : Env K σ.env a.tmps) (hI : Inv K w) (hH : K.H = σ.H) (hlo : K.lo = σ.lo) (hid : ¬ K.used id) (hn : n₀ ≤ id) (hw : wl ≤ id) {op : Op} {o : AOp} (h : okOp P src op o = true) (hnc : ∀ f args, o ≠ .call f args)
    {call : CallF} {dst : Option Nat} {v : AV} (hev : o.eval call wl id σ dst = some (v, σ')) : Does P wl n₀ id op a w K σ σ' v := by
  cases o with
  | call f args => exact absurd rfl (hnc f args)
  | mov x =>
    simp only [AOp.eval, Option.some.injEq, Prod.mk.injEq] at hev; obtain ⟨rfl, rfl⟩ := hev
    exact (quiet_mov hs he h).does hI hH hlo
  | pick c x y =>
    simp only [AOp.eval] at hev
    split at hev
    · rename_i t hc
      simp only [Option.some.injEq, Prod.mk.injEq] at hev; obtain ⟨rfl, rfl⟩ := hev
      exact (quiet_pick hs he h hc).does hI hH hlo
    · simp at hev
  | lalloc z =>
    simp only [AOp.eval] at hev
    split at hev
    · simp only [Option.some.injEq, Prod.mk.injEq] at hev; obtain ⟨rfl, rfl⟩ := hev
      exact does_lalloc hs hI hH hlo hid hn h _
    · simp at hev
  | halloc z =>
    simp only [AOp.eval, Option.some.injEq, Prod.mk.injEq] at hev; obtain ⟨rfl, rfl⟩ := hev
    exact does_halloc hs hI hH hlo hid hn hw h
  | fbox x =>
    simp only [AOp.eval] at hev
    split at hev
    · rename_i hc
      simp only [Option.some.injEq, Prod.mk.injEq] at hev; obtain ⟨rfl, rfl⟩ := hev
      exact does_fbox hs he hI hH hlo h hc.1 hc.2
    · simp at hev
  | lbox x =>
    simp only [AOp.eval] at hev
    split at hev
    · split at hev
      · rename_i hc
        simp only [Option.some.injEq, Prod.mk.injEq] at hev; obtain ⟨rfl, rfl⟩ := hev
        exact does_lbox hs he hI hH hlo hid hn h hc _
      · simp at hev
    · simp at hev
  | hbox x =>
    simp only [AOp.eval] at hev
    split at hev
    · rename_i hc
      simp only [Option.some.injEq, Prod.mk.injEq] at hev; obtain ⟨rfl, rfl⟩ := hev
      exact does_hbox hs he hI hH hlo hid hn hw h hc
    · simp at hev
  | build z parts =>
    simp only [AOp.eval] at hev
    obtain ⟨cs, hc, e⟩ := map_some hev
    simp only [Prod.mk.injEq] at e; obtain ⟨rfl, rfl⟩ := e
    exact (quiet_build hs he h hc).does hI hH hlo
  | bslice live sz n z parts =>
    simp only [AOp.eval] at hev
    split at hev
    · rename_i cs hc
      obtain ⟨d1, d2⟩ := does_bslice (n₀ := n₀) hs he hI hH hlo hid hn hw h hc
      split at hev
      · split at hev
        · rename_i hnl
          simp only [Option.some.injEq, Prod.mk.injEq] at hev; obtain ⟨rfl, rfl⟩ := hev
          exact d1 hnl
        · simp at hev
      · split at hev
        · rename_i hsol
          simp only [Option.some.injEq, Prod.mk.injEq] at hev; obtain ⟨rfl, rfl⟩ := hev
          exact d2 hsol
        · simp at hev
    · simp at hev
  | load sz agg x =>
    simp only [AOp.eval] at hev
    obtain ⟨u, hc, e⟩ := map_some hev
    simp only [Prod.mk.injEq] at e; obtain ⟨rfl, rfl⟩ := e
    exact (quiet_load hs he hH hlo hI h hc).does hI hH hlo
  | store sz x y =>
    simp only [AOp.eval] at hev
    obtain ⟨u, hc, e⟩ := map_some hev
    simp only [Prod.mk.injEq] at e; obtain ⟨rfl, rfl⟩ := e
    exact does_store hs he hI hH hlo h hc
  | ncheck x =>
    simp only [AOp.eval] at hev
    split at hev
    · rename_i hx; rw [hx] at hev; simp only [Option.some.injEq, Prod.mk.injEq] at hev; obtain ⟨rfl, rfl⟩ := hev
      rw [← hx]; exact (quiet_ncheck hs he h (.inl ⟨_, _, hx⟩)).does hI hH hlo
    · rename_i hx; rw [hx] at hev; simp only [Option.some.injEq, Prod.mk.injEq] at hev; obtain ⟨rfl, rfl⟩ := hev
      rw [← hx]; exact (quiet_ncheck hs he h (.inr (.inl ⟨_, _, _, hx⟩))).does hI hH hlo
    · rename_i hx; rw [hx] at hev; simp only [Option.some.injEq, Prod.mk.injEq] at hev; obtain ⟨rfl, rfl⟩ := hev
      rw [← hx]; exact (quiet_ncheck hs he h (.inr (.inr (.inl ⟨_, _, _, hx⟩)))).does hI hH hlo
    · rename_i hx; rw [hx] at hev; simp only [Option.some.injEq, Prod.mk.injEq] at hev; obtain ⟨rfl, rfl⟩ := hev
      rw [← hx]; exact (quiet_ncheck hs he h (.inr (.inr (.inr ⟨_, _, hx⟩)))).does hI hH hlo
    · simp at hev
  | bin o x y =>
    simp only [AOp.eval] at hev
    obtain ⟨u, hc, e⟩ := map_some hev
    simp only [Prod.mk.injEq] at e; obtain ⟨rfl, rfl⟩ := e
    exact (quiet_bin hs he h hc).does hI hH hlo
  | eqb neg x y =>
    simp only [AOp.eval] at hev
    split at hev
    · rename_i b c hb hc
      simp only [Option.some.injEq, Prod.mk.injEq] at hev; obtain ⟨rfl, rfl⟩ := hev
      exact (quiet_eqb hs he h hb hc).does hI hH hlo
    · simp at hev
  | eqnil neg x =>
    simp only [AOp.eval] at hev
    obtain ⟨u, hc, e⟩ := map_some hev
    simp only [Prod.mk.injEq] at e; obtain ⟨rfl, rfl⟩ := e
    exact (quiet_eqnil hs he h hc).does hI hH hlo
  | eqs ks neg x y =>
    simp only [AOp.eval] at hev
    split at hev
    · rename_i xs ys hx hy
      obtain ⟨u, hc, e⟩ := map_some hev
      simp only [Prod.mk.injEq] at e; obtain ⟨rfl, rfl⟩ := e
      exact (quiet_eqs hs he h hx hy hc).does hI hH hlo
    · simp at hev
  | un o x =>
    simp only [AOp.eval] at hev
    obtain ⟨u, hc, e⟩ := map_some hev
    simp only [Prod.mk.injEq] at e; obtain ⟨rfl, rfl⟩ := e
    exact (quiet_un hs he h hc).does hI hH hlo
  | mkfn f cap =>
    simp only [AOp.eval, Option.some.injEq, Prod.mk.injEq] at hev; obtain ⟨rfl, rfl⟩ := hev
    exact (quiet_mkfn hs he h).does hI hH hlo
  | mkmap kd =>
    simp only [AOp.eval, Option.some.injEq, Prod.mk.injEq] at hev; obtain ⟨rfl, rfl⟩ := hev
    exact does_mkmap hI hH hlo hid hn hw h
  | mkslice sz bytes z l c =>
    simp only [AOp.eval] at hev
    split at hev
    · rename_i l' c' hl hc
      split at hev
      · rename_i hb
        simp only [Option.some.injEq, Prod.mk.injEq] at hev; obtain ⟨rfl, rfl⟩ := hev
        exact does_mkslice hs he hI hH hlo hid hn hw h hl hc hb.1 hb.2.1 hb.2.2
      · simp at hev
    · simp at hev
  | slice sz x lo hi =>
    simp only [AOp.eval] at hev
    split at hev
    · rename_i hx
      split at hev
      · rename_i h1 h2
        simp only [Option.some.injEq, Prod.mk.injEq] at hev; obtain ⟨rfl, rfl⟩ := hev
        exact (quiet_slice hs he h (.inl ⟨hx, h1, h2, rfl⟩)).does hI hH hlo
      · simp at hev
    · rename_i hx
      split at hev
      · rename_i h1 h2
        simp only [Option.some.injEq, Prod.mk.injEq] at hev; obtain ⟨rfl, rfl⟩ := hev
        exact (quiet_slice hs he h (.inr (.inl ⟨hx, h1, h2, rfl⟩))).does hI hH hlo
      · simp at hev
    · rename_i m es hx
      split at hev
      · rename_i l q h1 h2
        split at hev
        · rename_i hc
          obtain ⟨rfl, hc1, hc2⟩ := hc
          simp only [Option.some.injEq, Prod.mk.injEq] at hev; obtain ⟨rfl, rfl⟩ := hev
          exact (quiet_slice hs he h (.inr (.inr (.inl ⟨es, l, q, hx, h1, h2, hc1, hc2, rfl⟩)))).does hI hH hlo
        · simp at hev
      · simp at hev
    · rename_i i j n hx
      split at hev
      · rename_i m es hh
        split at hev
        · rename_i l q h1 h2
          split at hev
          · rename_i hc
            obtain ⟨rfl, hc1, hc2⟩ := hc
            simp only [Option.some.injEq, Prod.mk.injEq] at hev; obtain ⟨rfl, rfl⟩ := hev
            rw [← hH] at hh
            obtain ⟨_, _, htot, _⟩ := hI.live i _ hh
            exact (quiet_slice hs he h (.inr (.inr (.inr ⟨i, j, n, es, l, q, hx, hh, htot, h1, h2, hc1, hc2, rfl⟩)))).does hI hH hlo
          · simp at hev
        · simp at hev
      · simp at hev
    · simp at hev
  | slice3 x lo hi mx =>
    simp only [AOp.eval] at hev
    split at hev
    · rename_i m es hx
      split at hev
      · rename_i l q r h1 h2 h3
        split at hev
        · rename_i hc
          simp only [Option.some.injEq, Prod.mk.injEq] at hev; obtain ⟨rfl, rfl⟩ := hev
          refine (quiet_slice3 (len := es.length) (p := ⟨0, 0, none⟩) (cap := 0) hs he h (fun u hu => ?_) h1 h2 h3 hc.1 hc.2.1).does hI hH hlo
          rw [hx] at hu; simp only [Rep] at hu
          obtain ⟨b, cap, rfl, h4, _⟩ := hu
          exact ⟨cap, _, rfl, by omega⟩
        · simp at hev
      · simp at hev
    · rename_i i j n hx
      split at hev
      · rename_i m es hh
        split at hev
        · rename_i l q r h1 h2 h3
          split at hev
          · rename_i hc
            simp only [Option.some.injEq, Prod.mk.injEq] at hev; obtain ⟨rfl, rfl⟩ := hev
            rw [← hH] at hh
            obtain ⟨_, _, htot, _⟩ := hI.live i _ hh
            refine (quiet_slice3 (len := n) (p := ⟨0, 0, none⟩) (cap := 0) hs he h (fun u hu => ?_) h1 h2 h3 hc.1 hc.2.1).does hI hH hlo
            rw [hx] at hu; simp only [Rep] at hu
            obtain ⟨_, p, cap, rfl, hl⟩ := hu
            obtain ⟨o, rfl, h4, h5, _⟩ := hl m es hh
            exact ⟨cap, _, rfl, by omega⟩
          · simp at hev
        · simp at hev
      · simp at hev
    · simp at hev
  | slstr x lo hi =>
    simp only [AOp.eval] at hev
    split at hev
    · rename_i s hx
      split at hev
      · rename_i l q h1 h2
        split at hev
        · rename_i hc
          simp only [Option.some.injEq, Prod.mk.injEq] at hev; obtain ⟨rfl, rfl⟩ := hev
          exact (quiet_slstr hs he h hx h1 h2 hc.1 hc.2).does hI hH hlo
        · simp at hev
      · simp at hev
    · simp at hev
  | faddr off x =>
    simp only [AOp.eval] at hev
    have key : ∀ {x' : AV}, x.ev σ.env = x' → isPtr x' = true → v = step off x' → σ' = σ → Does P wl n₀ id op a w K σ σ' v := by
      intro x' h1 h2 h3 h4
      subst h3; subst h4; subst h1
      exact (quiet_faddr hs he h h2).does hI hH hlo
    split at hev
    · rename_i hx; simp only [Option.some.injEq, Prod.mk.injEq] at hev; exact key hx rfl hev.1.symm hev.2.symm
    · rename_i hx; simp only [Option.some.injEq, Prod.mk.injEq] at hev; exact key hx rfl hev.1.symm hev.2.symm
    · rename_i hx; simp only [Option.some.injEq, Prod.mk.injEq] at hev; exact key hx rfl hev.1.symm hev.2.symm
    · simp at hev
  | field off sz agg x =>
    simp only [AOp.eval] at hev
    split at hev
    · rename_i cs hx
      obtain ⟨u, hc, e⟩ := map_some hev
      simp only [Prod.mk.injEq] at e; obtain ⟨rfl, rfl⟩ := e
      exact (quiet_field hs he h hx hc).does hI hH hlo
    · simp at hev
  | iaddr sz x i =>
    simp only [AOp.eval] at hev
    split at hev
    · rename_i kd n hi
      split at hev
      · rename_i h0
        split at hev
        · rename_i m es hx
          split at hev
          · rename_i hm; subst hm
            obtain ⟨u, hc, e⟩ := map_some hev
            simp only [Prod.mk.injEq] at e; obtain ⟨rfl, rfl⟩ := e
            exact (quiet_iaddr_slice hs he h hi h0 hx hc).does hI hH hlo
          · simp at hev
        · rename_i q j m0 hx
          split at hev
          · rename_i m es hh
            split at hev
            · rename_i hc
              obtain ⟨rfl, hlt⟩ := hc
              simp only [Option.some.injEq, Prod.mk.injEq] at hev; obtain ⟨rfl, rfl⟩ := hev
              exact (quiet_iaddr_lref hs he h hi h0 hx (by rw [hH]; exact hh) hlt).does hI hH hlo
            · simp at hev
          · simp at hev
        · simp at hev
      · simp at hev
    · simp at hev
  | iaddrA n sz x i =>
    simp only [AOp.eval] at hev
    split at hev
    · rename_i kd k hi
      split at hev
      · rename_i hc
        have key : ∀ {x' : AV}, x.ev σ.env = x' → isPtr x' = true → v = step (k.toNat * sz) x' → σ' = σ → Does P wl n₀ id op a w K σ σ' v := by
          intro x' h1 h2 h3 h4
          subst h3; subst h4; subst h1
          exact (quiet_iaddrA hs he h h2 hi hc.1 hc.2).does hI hH hlo
        split at hev
        · rename_i hx; simp only [Option.some.injEq, Prod.mk.injEq] at hev; exact key hx rfl hev.1.symm hev.2.symm
        · rename_i hx; simp only [Option.some.injEq, Prod.mk.injEq] at hev; exact key hx rfl hev.1.symm hev.2.symm
        · rename_i hx; simp only [Option.some.injEq, Prod.mk.injEq] at hev; exact key hx rfl hev.1.symm hev.2.symm
        · simp at hev
      · simp at hev
    · simp at hev
  | indexA n sz agg x i =>
    simp only [AOp.eval] at hev
    split at hev
    · rename_i kd k cs hi hx
      split at hev
      · rename_i hc
        obtain ⟨u, hc', e⟩ := map_some hev
        simp only [Prod.mk.injEq] at e; obtain ⟨rfl, rfl⟩ := e
        exact (quiet_indexA hs he h hi hx hc.1 hc.2 hc').does hI hH hlo
      · simp at hev
    · simp at hev
  | indexS x i =>
    simp only [AOp.eval] at hev
    split at hev
    · rename_i kd k s hi hx
      split at hev
      · rename_i hc
        obtain ⟨u, hc', e⟩ := map_some hev
        simp only [Prod.mk.injEq] at e; obtain ⟨rfl, rfl⟩ := e
        exact (quiet_indexS hs he h hi hx hc hc').does hI hH hlo
      · simp at hev
    · simp at hev
  | lookup s z ok m k =>
    simp only [AOp.eval] at hev
    split at hev
    · rename_i i kd n hm hk
      split at hev
      · rename_i kd' es hh
        split at hev
        · rename_i hkd; subst hkd
          simp only [Option.some.injEq, Prod.mk.injEq] at hev; obtain ⟨rfl, rfl⟩ := hev
          exact (quiet_lookup hs he hI h (.inl ⟨i, kd, n, es, rfl, hm, hk, by rw [hH]; exact hh, rfl⟩)).does hI hH hlo
        · simp at hev
      · simp at hev
    · rename_i i q hm hk
      split at hev
      · rename_i es hh
        simp only [Option.some.injEq, Prod.mk.injEq] at hev; obtain ⟨rfl, rfl⟩ := hev
        exact (quiet_lookup hs he hI h (.inr ⟨i, q, es, rfl, hm, hk, by rw [hH]; exact hh, rfl⟩)).does hI hH hlo
      · simp at hev
    · simp at hev
  | mapup s m k x =>
    simp only [AOp.eval] at hev
    split at hev
    · rename_i i kd n hm hk
      split at hev
      · rename_i kd' es hh
        split at hev
        · rename_i hc
          obtain ⟨rfl, hw', hst⟩ := hc
          simp only [Option.some.injEq, Prod.mk.injEq] at hev; obtain ⟨rfl, rfl⟩ := hev
          exact does_mapup hs he hI hH hlo h hst hm hw' (.inl ⟨kd, n, es, rfl, hk, by rw [hH]; exact hh, rfl⟩)
        · simp at hev
      · simp at hev
    · rename_i i q hm hk
      split at hev
      · rename_i es hh
        split at hev
        · rename_i hc
          simp only [Option.some.injEq, Prod.mk.injEq] at hev; obtain ⟨rfl, rfl⟩ := hev
          exact does_mapup hs he hI hH hlo h hc.2 hm hc.1 (.inr ⟨q, es, rfl, hk, by rw [hH]; exact hh, rfl⟩)
        · simp at hev
      · simp at hev
    · simp at hev
  | extract i x =>
    simp only [AOp.eval] at hev
    split at hev
    · rename_i vs hx
      obtain ⟨u, hc, e⟩ := map_some hev
      simp only [Prod.mk.injEq] at e; obtain ⟨rfl, rfl⟩ := e
      exact (quiet_extract hs he h hx hc).does hI hH hlo
    · simp at hev
  | append froz sz bytes x y => exact does_append hs he rfl hI hH hlo hid hn hw h hev
  | len x =>
    simp only [AOp.eval] at hev
    split at hev
    · rename_i hx; simp only [Option.some.injEq, Prod.mk.injEq] at hev; obtain ⟨rfl, rfl⟩ := hev
      exact (quiet_len (n := 0) hs he h (.inl ⟨hx, rfl⟩)).does hI hH hlo
    · rename_i hx; simp only [Option.some.injEq, Prod.mk.injEq] at hev; obtain ⟨rfl, rfl⟩ := hev
      exact (quiet_len (n := 0) hs he h (.inr (.inl ⟨hx, rfl⟩))).does hI hH hlo
    · rename_i sz es hx; simp only [Option.some.injEq, Prod.mk.injEq] at hev; obtain ⟨rfl, rfl⟩ := hev
      exact (quiet_len hs he h (.inr (.inr (.inl ⟨sz, es, hx, rfl⟩)))).does hI hH hlo
    · rename_i i j n hx; simp only [Option.some.injEq, Prod.mk.injEq] at hev; obtain ⟨rfl, rfl⟩ := hev
      exact (quiet_len hs he h (.inr (.inr (.inr ⟨i, j, hx⟩)))).does hI hH hlo
    · simp at hev
  | lenstr x =>
    simp only [AOp.eval] at hev
    split at hev
    · rename_i s hx; simp only [Option.some.injEq, Prod.mk.injEq] at hev; obtain ⟨rfl, rfl⟩ := hev
      exact (quiet_lenstr hs he h hx).does hI hH hlo
    · simp at hev
  | lenmap x =>
    simp only [AOp.eval] at hev
    split at hev
    · rename_i hx; simp only [Option.some.injEq, Prod.mk.injEq] at hev; obtain ⟨rfl, rfl⟩ := hev
      exact (quiet_lenmap (n := 0) hs he hI h (.inl ⟨hx, rfl⟩)).does hI hH hlo
    · rename_i i hx
      split at hev
      · rename_i kd es hh; simp only [Option.some.injEq, Prod.mk.injEq] at hev; obtain ⟨rfl, rfl⟩ := hev
        exact (quiet_lenmap hs he hI h (.inr (.inl ⟨i, kd, es, hx, by rw [hH]; exact hh, rfl⟩))).does hI hH hlo
      · rename_i es hh; simp only [Option.some.injEq, Prod.mk.injEq] at hev; obtain ⟨rfl, rfl⟩ := hev
        exact (quiet_lenmap hs he hI h (.inr (.inr ⟨i, es, hx, by rw [hH]; exact hh, rfl⟩))).does hI hH hlo
      · simp at hev
    · simp at hev
  | max x y more =>
    simp only [AOp.eval] at hev
    split at hev
    · rename_i z hz
      obtain ⟨u, hc, e⟩ := map_some hev
      simp only [Prod.mk.injEq] at e; obtain ⟨rfl, rfl⟩ := e
      exact (quiet_max hs he h (by simp only [foldV, hz]; exact hc)).does hI hH hlo
    · simp at hev
  | min x y more =>
    simp only [AOp.eval] at hev
    split at hev
    · rename_i z hz
      obtain ⟨u, hc, e⟩ := map_some hev
      simp only [Prod.mk.injEq] at e; obtain ⟨rfl, rfl⟩ := e
      exact (quiet_min hs he h (by simp only [foldV, hz]; exact hc)).does hI hH hlo
    · simp at hev
  | clear z x => exact does_clear hs he rfl hI hH hlo h hev

/-! ### calls -/

theorem store_rest {σ σ' : St} {wl sz : Nat} {a v : AV} (h : σ.store wl sz a v = some σ') : σ'.nx = σ.nx ∧ σ'.env = σ.env := by
  unfold St.store at h
  repeat' split at h
  all_goals first
    | (simp at h; done)
    | (simp only [Option.some.injEq] at h; subst h; exact ⟨rfl, rfl⟩)

/-- What is no call leaves the names' end and the slots alone. -/
theorem eval_rest {call : CallF} {wl id : Nat} {o : AOp} {σ σ' : St} {d : Option Nat} {v : AV} (hnc : ∀ f args, o ≠ .call f args)
    (h : o.eval call wl id σ d = some (v, σ')) : σ'.nx = σ.nx ∧ σ'.env = σ.env := by
  cases o with
  | call f args => exact absurd rfl (hnc f args)
  | store sz a v =>
    simp only [AOp.eval] at h
    obtain ⟨x, hx, e⟩ := map_some h
    simp only [Prod.mk.injEq] at e; obtain ⟨_, rfl⟩ := e
    exact store_rest hx
  | _ =>
    simp only [AOp.eval] at h
    repeat' split at h
    all_goals first
      | (simp at h; done)
      | (simp only [Option.some.injEq, Prod.mk.injEq] at h; obtain ⟨_, rfl⟩ := h; exact ⟨rfl, rfl⟩)
      | (obtain ⟨x, hx, e⟩ := map_some h; simp only [Prod.mk.injEq] at e; obtain ⟨_, rfl⟩ := e; exact ⟨rfl, rfl⟩)
      | skip

/-- What a call of the abstract machine answers the model's call answers. -/
def CallOk (P : Program) (src : Nat → Nat) (call : CallF) : Prop :=
  ∀ (wl g : Nat) (args : List AV) (H : Nat → Option Obj) (nx : Nat) (r : AV) (H' : Nat → Option Obj) (nx' : Nat), call wl g args H nx = some (r, H', nx') →
    ∀ (K : Ctx) (w : World) (us : List Value), K.src = src → Inv K w → K.H = H → (∀ j, K.used j → j < nx) → RepL K args us → AV.nols args = true → wl ≤ nx →
      (∃ fn, P.funcs[src g]? = some fn ∧ fn.body.isSome = true ∧ (fn.name == "runtime.NumGoroutine") = false) ∧
      Calls P (src g) us.toArray w (fun e w' => ∃ u K', e = .returned u ∧ Inv K' w' ∧ K'.H = H' ∧ K'.lo = K.lo ∧ (∀ n₀, n₀ ≤ nx → Evo wl n₀ K w K' w') ∧ Rep K' r u ∧ nx ≤ nx' ∧ (∀ j, K'.used j → K.used j ∨ (nx ≤ j ∧ j < nx')))

theorem run_call {g : Nat} {f : Operand} {xs : Array Operand} {ts : Array TypeId} {caps : Array Value} {fn : Func} (hf : a.eval f = .func (.func g) #[] caps) (h1 : P.funcs[g]? = some fn) (h2 : fn.body.isSome = true) (h3 : (fn.name == "runtime.NumGoroutine") = false) {o : Oper}
    (ho : o.op = .call { callee := .value f, args := xs, argTypes := ts }) : (execOp a.eval o).run P w = .ok (.enter g (xs.map a.eval ++ caps)) w := by
  have h2' : fn.body ≠ none := by intro hb; rw [hb] at h2; simp at h2
  have h3' : fn.name ≠ "runtime.NumGoroutine" := by simpa using h3
  simp only [execOp, ho, resolve, hf]
  simp [Deferred.ofValue, invoke, callFunc, h1, h2', h3']

/-- One operation, in the model's calculus. -/
theorem op_ok {call : CallF} (hcall : CallOk P src call) (hs : K.src = src) (he : Env K σ.env a.tmps) (hI : Inv K w) (hH : K.H = σ.H) (hlo : K.lo = σ.lo) (hid : ¬ K.used id) (hn : n₀ ≤ id) (hw : wl ≤ id) (hused : ∀ j, K.used j → j < σ.nx) (hnx : n₀ ≤ σ.nx) (hwx : wl ≤ σ.nx)
    {o : Oper} {ao : AOp} (h : okOp P src o.op ao = true) {dst : Option Nat} {v : AV} (hev : ao.eval call wl id σ dst = some (v, σ')) {next : Act → World → Prop} {Q : Exit → Act → World → Prop}
    (hnext : ∀ u K' w', Post wl n₀ id K w σ σ' K' w' → Rep K' v u → σ.nx ≤ σ'.nx → next (a.put o.dst u) w') : o.wp P a w next Q := by
  by_cases hc : ∃ f args, ao = .call f args
  · obtain ⟨f, args, rfl⟩ := hc
    simp only [AOp.eval] at hev
    split at hev
    case h_2 => simp at hev
    rename_i g cap hf
    split at hev
    case isFalse => simp at hev
    rename_i hnl
    obtain ⟨r, hr, e⟩ := map_some hev
    simp only [Prod.mk.injEq] at e; obtain ⟨rfl, rfl⟩ := e
    obtain ⟨rv, rH, rn⟩ := r
    have hop : ∃ f' xs ts, o.op = .call { callee := .value f', args := xs, argTypes := ts } ∧ okOpd src f' f = true ∧ okOpds src xs.toList args = true := by
      cases hoo : o.op <;> rw [hoo] at h <;> simp only [okOp] at h <;> try (simp at h; done)
      rename_i c
      obtain ⟨callee, xs, ts⟩ := c
      cases callee <;> (try simp only at h) <;> try (simp at h; done)
      simp only [Bool.and_eq_true] at h
      exact ⟨_, xs, ts, rfl, h.1, h.2⟩
    obtain ⟨f', xs, ts, ho, h1, h2⟩ := hop
    have rf := okOpd_rep hs he h1
    rw [hf] at rf
    simp only [Rep] at rf
    obtain ⟨caps, ef, hcaps⟩ := rf
    have ra := okOpds_rep hs he h2
    have hargs : RepL K (args.map (fun x => x.ev σ.env) ++ cap) ((xs.map a.eval ++ caps).toList) := by
      rw [Array.toList_append]
      exact RepL_append (by simpa using ra) hcaps
    obtain ⟨⟨fn, g1, g2, g3⟩, hcalls⟩ := hcall _ _ _ _ _ _ _ _ hr K w _ hs hI hH hused hargs hnl hwx
    rw [hs] at ef
    unfold Oper.wp
    rw [run_call ef g1 g2 g3 ho]
    simp only [Oper.upon]
    refine hcalls.mono ?_
    rintro e w' ⟨u, K', rfl, k1, k2, k3, k4, k5, k6, k7⟩
    exact hnext u K' w' ⟨k2, k3.trans hlo, k1, k4 n₀ hnx, fun j hj => (k7 j hj).imp (fun h => h) (fun h => .inr h)⟩ k5 k6
  · have hd := op_does (n₀ := n₀) hs he hI hH hlo hid hn hw h (fun f args e => hc ⟨f, args, e⟩) hev
    obtain ⟨u, K', w', hrun, hp, hr⟩ := hd o rfl
    have hnxle : σ.nx ≤ σ'.nx := Nat.le_of_eq (eval_rest (fun f args e => hc ⟨f, args, e⟩) hev).1.symm
    unfold Oper.wp
    rcases hrun with hrun | ⟨hrun, rfl⟩
    · rw [hrun]; simp only [Oper.upon]; exact hnext u K' w' hp hr hnxle
    · rw [hrun]; simp only [Oper.upon]; exact hnext _ K' w' hp hr hnxle

end
end Go.Proofs.Ytmbdccekcfeomaa.Am
end
/- The abstract machine's instructions, in the model's calculus. -/
section
open Go
namespace Go.Proofs.Ytmbdccekcfeomaa.Am

/-! ### the check of an instruction -/

def okDst (N : Nat) : Option Nat → Option Nat → Bool
  | none, none => true
  | some a, some b => a == b && decide (a < N)
  | _, _ => false
def okGuard (ops : Array Oper) : Option (Nat × Bool) → Option (Nat × Bool) → Bool
  | none, none => true
  | some (j, b), some (s, c) => (match (ops[j]?).bind (·.dst) with | some d => d == s | none => false) && b == c
  | _, _ => false
def okInstr (P : Program) (src : Nat → Nat) (N : Nat) (ops : Array Oper) (o : Oper) (i : AInstr) : Bool :=
  okDst N o.dst i.dst && okGuard ops o.guard i.guard && okOp P src o.op i.op
def okInstrs (P : Program) (src : Nat → Nat) (N : Nat) (ops : Array Oper) : List Oper → List AInstr → Bool
  | [], [] => true
  | o :: os, i :: is => okInstr P src N ops o i && okInstrs P src N ops os is
  | _, _ => false

theorem okDst_eq {N : Nat} {a b : Option Nat} (h : okDst N a b = true) : a = b ∧ ∀ d, b = some d → d < N := by
  cases a <;> cases b <;> simp [okDst] at h
  · exact ⟨rfl, fun d hd => by cases hd⟩
  · obtain ⟨rfl, hn⟩ := h
    exact ⟨rfl, fun d hd => by cases hd; exact hn⟩

theorem okInstrs_get {P : Program} {src : Nat → Nat} {N : Nat} {ops : Array Oper} : ∀ {os : List Oper} {is : List AInstr}, okInstrs P src N ops os is = true →
    os.length = is.length ∧ ∀ (i : Nat) (o : Oper) (x : AInstr), os[i]? = some o → is[i]? = some x → okInstr P src N ops o x = true
  | [], [], _ => ⟨rfl, fun i o x h => by simp at h⟩
  | [], _ :: _, h => by simp [okInstrs] at h
  | _ :: _, [], h => by simp [okInstrs] at h
  | o :: os, x :: is, h => by
    simp only [okInstrs, Bool.and_eq_true] at h
    obtain ⟨hl, hr⟩ := okInstrs_get h.2
    refine ⟨by simp [hl], fun i p y hp hy => ?_⟩
    cases i with
    | zero => simp only [List.getElem?_cons_zero, Option.some.injEq] at hp hy; subst hp; subst hy; exact h.1
    | succ i => simp only [List.getElem?_cons_succ] at hp hy; exact hr i p y hp hy

/-! ### a point within a function's body -/

structure At (src : Nat → Nat) (wl n₀ : Nat) (K₀ : Ctx) (w₀ : World) (N : Nat) (K : Ctx) (w : World) (σ : St) (a : Act) : Prop where
  src : K.src = src
  inv : Inv K w
  H : K.H = σ.H
  lo : K.lo = σ.lo
  env : Env K σ.env a.tmps
  used : ∀ j, K.used j → j < σ.nx
  since : Since wl n₀ K₀ w₀ K w
  size : N ≤ a.tmps.size
  defers : a.defers = []
  nx : n₀ ≤ σ.nx
  wl : wl ≤ n₀

section
variable {P : Program} {src : Nat → Nat} {wl n₀ : Nat} {K₀ K : Ctx} {w₀ w : World} {N : Nat} {σ τ : St} {a : Act}

theorem env_put {env : Nat → AV} {v : AV} {u : Value} {tmps : Array Value} {d : Nat} (he : Env K env tmps) (hd : d < tmps.size) (hr : Rep K v u) : Env K (upd env d v) (tmps.setIfInBounds d u) := by
  intro j
  by_cases e : j = d
  · subst e; simp only [upd_same]; rw [Array.getD_eq_getD_getElem?, Array.getElem?_setIfInBounds_self_of_lt hd]; exact hr
  · simp only [upd_other _ _ e]
    have := he j
    rw [Array.getD_eq_getD_getElem?] at this ⊢
    rwa [Array.getElem?_setIfInBounds_ne (Ne.symm e)]

theorem Env.ext {K K' : Ctx} (h : Ext K K') (hl : ExtLo K K') {env : Nat → AV} {tmps : Array Value} (he : Env K env tmps) : Env K' env tmps :=
  fun j => (he j).ext h (.inr hl)

/-- A value lands in its slot. -/
theorem At.put {K' : Ctx} {w' : World} {σ' : St} {id : Nat} (h : At src wl n₀ K₀ w₀ N K w σ a) (hp : Post wl n₀ id K w σ σ' K' w') (hnx : σ.nx ≤ σ'.nx) (henv : σ'.env = σ.env) (hu : ∀ j, K'.used j → j < σ'.nx)
    {dst : Option Nat} (hd : ∀ d, dst = some d → d < N) {v : AV} {u : Value} (hr : Rep K' v u) : At src wl n₀ K₀ w₀ N K' w' (σ'.setDst dst v) (a.put dst u) where
  src := hp.evo.ext.src.trans h.src
  inv := hp.inv
  H := by rw [hp.H]; cases dst <;> rfl
  lo := by rw [hp.lo]; cases dst <;> rfl
  env := by
    have he := h.env.ext hp.evo.ext hp.evo.extLo
    cases dst with
    | none => simp only [St.setDst, Act.put]; rw [henv]; exact he
    | some d => simp only [St.setDst, Act.put]; rw [henv]; exact env_put he (Nat.lt_of_lt_of_le (hd d rfl) h.size) hr
  used j hj := by
    have e : (σ'.setDst dst v).nx = σ'.nx := by cases dst <;> rfl
    rw [e]; exact hu j hj
  since := h.since.evo hp.evo
  size := by cases dst <;> simp [Act.put, h.size]
  defers := by cases dst <;> simp [Act.put, h.defers]
  nx := by
    have e : (σ'.setDst dst v).nx = σ'.nx := by cases dst <;> rfl
    rw [e]; exact Nat.le_trans h.nx hnx
  wl := h.wl

theorem At.skip (h : At src wl n₀ K₀ w₀ N K w σ a) {dst : Option Nat} (hd : ∀ d, dst = some d → d < N) : At src wl n₀ K₀ w₀ N K w (σ.setDst dst (.tup [])) (a.put dst undef) :=
  h.put (id := 0) (dst := dst) (K' := K) (σ' := σ) (w' := w) ⟨h.H, h.lo, h.inv, Evo.refl _ _ _ _, fun j hj => .inl hj⟩ (Nat.le_refl _) rfl h.used
    hd (by simp only [Rep]; exact ⟨#[], rfl, by simp [RepL]⟩)

theorem eval_env {call : CallF} {id : Nat} {o : AOp} {σ σ' : St} {d : Option Nat} {v : AV} (h : o.eval call wl id σ d = some (v, σ')) : σ'.env = σ.env := by
  by_cases hc : ∃ f args, o = .call f args
  · obtain ⟨f, args, rfl⟩ := hc
    simp only [AOp.eval] at h
    split at h
    · split at h
      · obtain ⟨r, _, e⟩ := map_some h
        simp only [Prod.mk.injEq] at e; obtain ⟨_, rfl⟩ := e; rfl
      · simp at h
    · simp at h
  · exact (eval_rest (fun f args e => hc ⟨f, args, e⟩) h).2

/-- What a guard says. -/
theorem yield_bool {ops : Array Oper} {tmps : Array Value} {env : Nat → AV} (he : Env K env tmps) {j s : Nat} (hs : (ops[j]?).bind (·.dst) = some s) {t : Bool} (hv : env s = .bool t) : yielded ops tmps j = some t := by
  have := he s
  rw [hv] at this
  simp only [Rep] at this
  have hg : tmps[s]? = some (.bool t) := by
    rw [Array.getD_eq_getD_getElem?] at this
    cases hg : tmps[s]? with
    | none => rw [hg] at this; simp [undef] at this
    | some u => rw [hg] at this; simpa using this
  simp [yielded, hs, hg]
theorem yield_undef {ops : Array Oper} {tmps : Array Value} {env : Nat → AV} (he : Env K env tmps) {j s : Nat} (hs : (ops[j]?).bind (·.dst) = some s) {cs : List AV} (hv : env s = .tup cs) : yielded ops tmps j = none := by
  have := he s
  rw [hv] at this
  simp only [Rep] at this
  obtain ⟨vs, hvs, _⟩ := this
  rw [Array.getD_eq_getD_getElem?] at hvs
  cases hg : tmps[s]? with
  | none => simp [yielded, hs, hg]
  | some u => rw [hg] at hvs; simp at hvs; subst hvs; simp [yielded, hs, hg]

/-- One instruction without what comes ahead of it. -/
theorem act_ok {call : CallF} (hcall : CallOk P src call) (h : At src wl n₀ K₀ w₀ N K w σ a) {id : Nat} (hid : ¬ K.used id) (hn : n₀ ≤ id) (hlt : id < σ.nx) {ops : Array Oper} {o : Oper} {x : AInstr} (hx : okInstr P src N ops o x = true)
    (hact : x.act call wl id σ = some τ) {next : Act → World → Prop} {Q : Exit → Act → World → Prop}
    (hnext : ∀ a' w' K', At src wl n₀ K₀ w₀ N K' w' τ a' → (∀ j, K'.used j → K.used j ∨ j = id ∨ σ.nx ≤ j) → σ.nx ≤ τ.nx → next a' w') :
    if Region.wanted o (yielded ops a.tmps) then o.wp P a w next Q else next (a.put o.dst undef) w := by
  simp only [okInstr, Bool.and_eq_true] at hx
  obtain ⟨⟨h1, h2⟩, h3⟩ := hx
  obtain ⟨ed, hd⟩ := okDst_eq h1
  have run : ∀ {τ : St}, (x.op.eval call wl id σ x.dst).map (fun r => r.2.setDst x.dst r.1) = some τ →
      (∀ a' w' K', At src wl n₀ K₀ w₀ N K' w' τ a' → (∀ j, K'.used j → K.used j ∨ j = id ∨ σ.nx ≤ j) → σ.nx ≤ τ.nx → next a' w') → o.wp P a w next Q := by
    intro τ hm hnext
    obtain ⟨r, hr, e⟩ := map_some hm
    obtain ⟨v, σ'⟩ := r
    subst e
    refine op_ok hcall h.src h.env h.inv h.H h.lo hid hn (Nat.le_trans h.wl hn) h.used h.nx (Nat.le_trans h.wl h.nx) h3 hr ?_
    intro u K' w' hp hrep hle
    have hu : ∀ j, K'.used j → j < σ'.nx := by
      intro j hj
      rcases hp.used j hj with g | g | g
      · exact Nat.lt_of_lt_of_le (h.used j g) hle
      · subst g; exact Nat.lt_of_lt_of_le hlt hle
      · exact g.2
    rw [ed]
    refine hnext _ _ K' (h.put hp hle (eval_env hr) hu hd hrep) (fun j hj => (hp.used j hj).imp (fun g => g) (fun g => g.imp (fun g => g) (fun g => g.1))) ?_
    have e : (σ'.setDst x.dst v).nx = σ'.nx := by cases x.dst <;> rfl
    rw [e]; exact hle
  have skip : (∀ a' w' K', At src wl n₀ K₀ w₀ N K' w' (σ.setDst x.dst (.tup [])) a' → (∀ j, K'.used j → K.used j ∨ j = id ∨ σ.nx ≤ j) → σ.nx ≤ (σ.setDst x.dst (.tup [])).nx → next a' w') → next (a.put o.dst undef) w := by
    intro hnext
    rw [ed]
    refine hnext _ _ K (h.skip hd) (fun j hj => .inl hj) ?_
    have e : (σ.setDst x.dst (.tup [])).nx = σ.nx := by cases x.dst <;> rfl
    rw [e]; exact Nat.le_refl _
  unfold AInstr.act at hact
  unfold Region.wanted
  split at hact
  · rename_i hg
    rw [hg] at h2
    cases ho : o.guard with
    | none => simp only [if_true]; exact run hact hnext
    | some p => rw [ho] at h2; obtain ⟨j, b⟩ := p; simp [okGuard] at h2
  · rename_i s b hg
    rw [hg] at h2
    cases ho : o.guard with
    | none => rw [ho] at h2; simp [okGuard] at h2
    | some p =>
      obtain ⟨j, c⟩ := p
      rw [ho] at h2
      simp only [okGuard, Bool.and_eq_true, beq_iff_eq] at h2
      obtain ⟨hs, rfl⟩ := h2
      split at hs
      case h_2 => simp at hs
      rename_i d hd'
      simp only [beq_iff_eq] at hs; subst hs
      split at hact
      · rename_i t ht
        have hy := yield_bool h.env hd' ht
        simp only [hy]
        split at hact
        · rename_i htb; subst htb; simp only [BEq.rfl, if_true]; exact run hact hnext
        · rename_i htb
          simp only [Option.some.injEq] at hact; subst hact
          have : (some t == some c) = false := by simp [htb]
          rw [this]; simp only [Bool.false_eq_true, if_false]
          exact skip hnext
      · rename_i cs hcs
        split at hact
        · simp only [Option.some.injEq] at hact; subst hact
          have hy := yield_undef h.env hd' hcs
          have : ((none : Option Bool) == some c) = false := rfl
          simp only [hy, this, Bool.false_eq_true, if_false]
          exact skip hnext
        · simp at hact
      · simp at hact

/-- .. with what comes ahead of it. -/
theorem At.pres (h : At src wl n₀ K₀ w₀ N K w σ a) {ps : List (Bool × Nat)} (hp : pres wl ps σ = some τ) : ∃ K', At src wl n₀ K₀ w₀ N K' w τ a ∧ K'.used = K.used ∧ τ.nx = σ.nx := by
  obtain ⟨K', k1, k2, k3, k4, k5, k6, k7⟩ := pres_ok ps σ τ K w a.tmps hp h.inv h.H h.lo h.env
  exact ⟨K', ⟨(k6 0).ext.src.trans h.src, k1, k2, k3, k4, fun j hj => by rw [k7]; rw [k5] at hj; exact h.used j hj, h.since.evo (k6 n₀), h.size, h.defers, by rw [k7]; exact h.nx, h.wl⟩, k5, k7⟩

/-- A region's instructions in an order. -/
def execL (call : CallF) (wl base : Nat) (is : List AInstr) : List Nat → St → Option St
  | [], σ => some σ
  | i :: L, σ => match is[i]? with
    | some x => match x.exec call wl (base + i) σ with
      | some τ => execL call wl base is L τ
      | none => none
    | none => none

theorem execOps_L {call : CallF} {is : List AInstr} {base : Nat} : ∀ (k : Nat) (js : List AInstr), is.drop k = js → ∀ σ : St, execOps call wl (base + k) js σ = execL call wl base is (List.range' k js.length) σ
  | k, [], _, σ => rfl
  | k, j :: js, hk, σ => by
    have hj : is[k]? = some j := by
      have := congrArg List.head? hk
      simpa [List.head?_drop] using this
    have hr : is.drop (k + 1) = js := by
      rw [← List.drop_drop, hk]; rfl
    simp only [execOps, List.length_cons, List.range'_succ, execL, hj]
    cases j.exec call wl (base + k) σ with
    | none => rfl
    | some τ => exact execOps_L (k + 1) js hr τ

theorem list_ok {call : CallF} (hcall : CallOk P src call) {ops : Array Oper} {is : List AInstr} (hok : okInstrs P src N ops ops.toList is = true) {base : Nat} (hn : n₀ ≤ base) {Q : Exit → Act → World → Prop} :
    ∀ (L : List Nat) (σ τ : St) (K : Ctx) (w : World) (a : Act), L.Nodup → At src wl n₀ K₀ w₀ N K w σ a → base + is.length ≤ σ.nx → (∀ i ∈ L, i < is.length ∧ ¬ K.used (base + i)) → execL call wl base is L σ = some τ →
    (∀ a' w' K', At src wl n₀ K₀ w₀ N K' w' τ a' → σ.nx ≤ τ.nx → Q .normal a' w') → wpOps P ops Q L a w
  | [], σ, τ, K, w, a, _, h, _, _, he, hQ => by
    simp only [execL, Option.some.injEq] at he; subst he
    exact hQ a w K h (Nat.le_refl _)
  | i :: L, σ, τ, K, w, a, hnd, h, hb, hu, he, hQ => by
    obtain ⟨hlen, hget⟩ := okInstrs_get hok
    simp only [execL] at he
    split at he
    case h_2 => simp at he
    rename_i x hx
    split at he
    case h_2 => simp at he
    rename_i υ hex
    have hil : i < is.length := (List.getElem?_eq_some_iff.1 hx).1
    have hio : i < ops.size := by simpa using (by rw [← hlen] at hil; exact hil : i < ops.toList.length)
    have ho : ops[i]? = some ops[i] := Array.getElem?_eq_getElem hio
    have hox := hget i ops[i] x (by simp [hio]) hx
    unfold AInstr.exec at hex
    split at hex
    case h_2 => simp at hex
    rename_i ρ hpre
    obtain ⟨K1, h1, hu1, hnx1⟩ := h.pres hpre
    have step := act_ok (Q := Q) (next := wpOps P ops Q L) hcall h1 (id := base + i) (by rw [hu1]; exact (hu i (by simp)).2) (by omega) (by rw [hnx1]; omega) hox hex (by
      intro a' w' K' h' hused hle
      refine list_ok hcall hok hn L υ τ K' w' a' (List.nodup_cons.1 hnd).2 h' (by rw [hnx1] at hle; omega) ?_ he (fun a' w' K' hat hle' => hQ a' w' K' hat (by rw [hnx1] at hle; omega))
      intro j hj
      refine ⟨(hu j (List.mem_cons_of_mem _ hj)).1, fun hc => ?_⟩
      rcases hused _ hc with g | g | g
      · rw [hu1] at g; exact (hu j (List.mem_cons_of_mem _ hj)).2 g
      · have : j = i := by omega
        subst this; exact (List.nodup_cons.1 hnd).1 hj
      · rw [hnx1] at g
        have := (hu j (List.mem_cons_of_mem _ hj)).1
        omega)
    simp only [wpOps, ho]
    split
    · rename_i hw; rw [if_pos hw] at step; exact .inl step
    · rename_i hw; rw [if_neg hw] at step; exact step

end
end Go.Proofs.Ytmbdccekcfeomaa.Am
end
