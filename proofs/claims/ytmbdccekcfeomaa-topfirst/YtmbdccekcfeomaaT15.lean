/- The abstract machine writes nothing below its mark, and its names only grow. -/
import Derived.Test.YtmbdccekcfeomaaT14
import Derived.Orders
section
open Go
namespace Go.Proofs.Ytmbdccekcfeomaa.Am

/-- Below 'wl' nothing changes. -/
def Same (wl : Nat) (H H' : Nat → Option Obj) : Prop := ∀ j, j < wl → H' j = H j

theorem Same.refl (wl : Nat) (H : Nat → Option Obj) : Same wl H H := fun _ _ => rfl
theorem Same.trans {wl : Nat} {H H' H'' : Nat → Option Obj} (h : Same wl H H') (h' : Same wl H' H'') : Same wl H H'' := fun j hj => (h' j hj).trans (h j hj)
theorem Same.upd {wl : Nat} {H : Nat → Option Obj} {id : Nat} (h : wl ≤ id) (o : Option Obj) : Same wl H (upd H id o) := fun j hj => upd_other _ _ (by omega)

def LowCalls (call : CallF) : Prop :=
  ∀ (wl g : Nat) (args : List AV) (H : Nat → Option Obj) (nx : Nat) (r : AV) (H' : Nat → Option Obj) (nx' : Nat), call wl g args H nx = some (r, H', nx') → wl ≤ nx → nx ≤ nx' ∧ Same wl H H'

theorem eval_low {call : CallF} (hc : LowCalls call) {wl id : Nat} {o : AOp} {σ σ1 : St} {d : Option Nat} {v : AV} (he : o.eval call wl id σ d = some (v, σ1)) (h1 : wl ≤ id) (h2 : wl ≤ σ.nx) : σ.nx ≤ σ1.nx ∧ Same wl σ.H σ1.H := by
  cases o with
  | call f args =>
    simp only [AOp.eval] at he
    split at he
    case h_2 => simp at he
    split at he
    case isFalse => simp at he
    obtain ⟨r, hr, e⟩ := map_some he
    simp only [Prod.mk.injEq] at e; obtain ⟨rfl, rfl⟩ := e
    exact hc _ _ _ _ _ _ _ _ hr h2
  | store sz a x =>
    simp only [AOp.eval] at he
    obtain ⟨τ, ht, e⟩ := map_some he
    simp only [Prod.mk.injEq] at e; obtain ⟨rfl, rfl⟩ := e
    unfold St.store at ht
    repeat' split at ht
    all_goals (try (simp at ht; done))
    all_goals (simp only [Option.some.injEq] at ht; subst ht; refine ⟨Nat.le_refl _, ?_⟩)
    · exact Same.refl _ _
    · exact Same.upd (by assumption) _
  | append froz sz bytes x y =>
    simp only [AOp.eval] at he
    repeat' split at he
    all_goals (try (simp at he; done))
    all_goals (simp only [Option.some.injEq, Prod.mk.injEq] at he; obtain ⟨rfl, rfl⟩ := he; refine ⟨Nat.le_refl _, ?_⟩)
    all_goals first
      | exact Same.refl _ _
      | exact Same.upd h1 _
      | exact Same.upd (by assumption) _
      | exact (Same.upd (by assumption) _).trans (Same.upd h1 _)
  | mapup s m k v =>
    simp only [AOp.eval] at he
    repeat' split at he
    all_goals (try (simp at he; done))
    all_goals (rename_i hh; simp only [Option.some.injEq, Prod.mk.injEq] at he; obtain ⟨rfl, rfl⟩ := he; refine ⟨Nat.le_refl _, ?_⟩)
    · exact Same.upd hh.2.1 _
    · exact Same.upd hh.1 _
  | _ =>
    simp only [AOp.eval] at he
    repeat' split at he
    all_goals first
      | (simp at he; done)
      | (simp only [Option.some.injEq, Prod.mk.injEq] at he; obtain ⟨rfl, rfl⟩ := he; exact ⟨Nat.le_refl _, Same.refl _ _⟩)
      | (obtain ⟨x, hx, e⟩ := map_some he; simp only [Prod.mk.injEq] at e; obtain ⟨rfl, rfl⟩ := e; exact ⟨Nat.le_refl _, Same.refl _ _⟩)
      | (simp only [Option.some.injEq, Prod.mk.injEq] at he; obtain ⟨rfl, rfl⟩ := he; exact ⟨Nat.le_refl _, Same.upd h1 _⟩)
      | (simp only [Option.some.injEq, Prod.mk.injEq] at he; obtain ⟨rfl, rfl⟩ := he; exact ⟨Nat.le_refl _, Same.upd (by assumption) _⟩)

theorem act_low {call : CallF} (hc : LowCalls call) {wl id : Nat} {i : AInstr} {σ τ : St} (h : i.act call wl id σ = some τ) (h1 : wl ≤ id) (h2 : wl ≤ σ.nx) : σ.nx ≤ τ.nx ∧ Same wl σ.H τ.H := by
  have run : ∀ {τ : St}, (i.op.eval call wl id σ i.dst).map (fun r => r.2.setDst i.dst r.1) = some τ → σ.nx ≤ τ.nx ∧ Same wl σ.H τ.H := by
    intro τ hm
    obtain ⟨r, hr, e⟩ := map_some hm
    subst e
    rw [setDst_nx, setDst_H]
    exact eval_low hc (v := r.1) (σ1 := r.2) hr h1 h2
  have skip : σ.nx ≤ (σ.setDst i.dst (.tup [])).nx ∧ Same wl σ.H (σ.setDst i.dst (.tup [])).H := by
    rw [setDst_nx, setDst_H]; exact ⟨Nat.le_refl _, Same.refl _ _⟩
  unfold AInstr.act at h
  repeat' split at h
  all_goals first
    | (simp at h; done)
    | exact run h
    | (simp only [Option.some.injEq] at h; subst h; exact skip)

def LowThaw (wl : Nat) (f : (Nat → Option Obj) → List AV → Option (List AV × (Nat → Option Obj))) : Prop := ∀ H vs xs H', f H vs = some (xs, H') → Same wl H H'

mutual
theorem thawV_low {wl : Nat} {f : (Nat → Option Obj) → List AV → Option (List AV × (Nat → Option Obj))} (hf : LowThaw wl f) : ∀ (v x : AV) (H H' : Nat → Option Obj), thawV f wl H v = some (x, H') → Same wl H H'
  | .lref id j n, x, H, H', h => by
    simp only [thawV] at h
    split at h
    · simp only [Option.some.injEq, Prod.mk.injEq] at h; obtain ⟨rfl, rfl⟩ := h; exact Same.refl _ _
    · rename_i hid
      split at h
      · split at h
        · split at h
          · rename_i xs H1 hx
            split at h
            · simp only [Option.some.injEq, Prod.mk.injEq] at h; obtain ⟨rfl, rfl⟩ := h
              exact (Same.upd (by omega) _).trans (hf _ _ _ _ hx)
            · simp at h
          · simp at h
        · simp at h
      · simp at h
  | .agg cs, x, H, H', h => by
    simp only [thawV] at h
    split at h
    · rename_i r hr
      simp only [Option.some.injEq, Prod.mk.injEq] at h; obtain ⟨rfl, rfl⟩ := h
      exact thawL_low hf cs r.1 H r.2 hr
    · simp at h
  | .bool _, x, H, H', h | .int _ _, x, H, H', h | .str _, x, H, H', h | .nilSlice, x, H, H', h | .slice _ _, x, H, H', h | .eslice, x, H, H', h
  | .nilPtr, x, H, H', h | .fptr _ _, x, H, H', h | .ptr _ _ _, x, H, H', h | .loc _ _ _, x, H, H', h | .clo _ _, x, H, H', h | .nilFunc, x, H, H', h
  | .nilMap, x, H, H', h | .map _, x, H, H', h | .nilIface, x, H, H', h | .iface _ _, x, H, H', h | .tup _, x, H, H', h | .undef, x, H, H', h => by
    simp only [thawV, Option.some.injEq, Prod.mk.injEq] at h; obtain ⟨rfl, rfl⟩ := h; exact Same.refl _ _
theorem thawL_low {wl : Nat} {f : (Nat → Option Obj) → List AV → Option (List AV × (Nat → Option Obj))} (hf : LowThaw wl f) : ∀ (vs xs : List AV) (H H' : Nat → Option Obj), thawL f wl H vs = some (xs, H') → Same wl H H'
  | [], xs, H, H', h => by
    simp only [thawL, Option.some.injEq, Prod.mk.injEq] at h; obtain ⟨rfl, rfl⟩ := h; exact Same.refl _ _
  | v :: vs, xs, H, H', h => by
    simp only [thawL] at h
    split at h
    case h_2 => simp at h
    rename_i x H2 hv
    split at h
    case h_2 => simp at h
    rename_i ys H3 hl
    simp only [Option.some.injEq, Prod.mk.injEq] at h; obtain ⟨rfl, rfl⟩ := h
    exact (thawV_low hf v x H H2 hv).trans (thawL_low hf vs ys H2 H3 hl)
end

theorem thaw_low (wl : Nat) : ∀ d, LowThaw wl (thaw wl d)
  | 0, H, vs, xs, H', h => by simp only [thaw, Option.some.injEq, Prod.mk.injEq] at h; obtain ⟨rfl, rfl⟩ := h; exact Same.refl _ _
  | d + 1, H, vs, xs, H', h => thawL_low (thaw_low wl d) vs xs H H' h

theorem pres_low {wl : Nat} : ∀ (ps : List (Bool × Nat)) (σ τ : St), pres wl ps σ = some τ → τ.nx = σ.nx ∧ Same wl σ.H τ.H
  | [], σ, τ, h => by simp only [pres, Option.some.injEq] at h; subst h; exact ⟨rfl, Same.refl _ _⟩
  | (false, s) :: ps, σ, τ, h => by
    simp only [pres] at h
    split at h
    case h_2 => simp at h
    rename_i v H hv
    obtain ⟨h1, h2⟩ := pres_low ps _ τ h
    exact ⟨h1, (thawV_low (thaw_low wl 0) _ _ _ _ hv).trans h2⟩
  | (true, s) :: ps, σ, τ, h => by
    simp only [pres] at h
    split at h
    case h_2 => simp at h
    split at h
    case h_2 => simp at h
    rename_i v H hv
    obtain ⟨h1, h2⟩ := pres_low ps _ τ h
    exact ⟨h1, (thawV_low (thaw_low wl 0) _ _ _ _ hv).trans h2⟩

theorem execOps_low {call : CallF} (hc : LowCalls call) {wl : Nat} : ∀ (is : List AInstr) (id : Nat) (σ τ : St), execOps call wl id is σ = some τ → wl ≤ id → wl ≤ σ.nx → σ.nx ≤ τ.nx ∧ Same wl σ.H τ.H
  | [], id, σ, τ, h, _, _ => by simp only [execOps, Option.some.injEq] at h; subst h; exact ⟨Nat.le_refl _, Same.refl _ _⟩
  | i :: is, id, σ, τ, h, h1, h2 => by
    simp only [execOps] at h
    split at h
    case h_2 => simp at h
    rename_i υ hi
    unfold AInstr.exec at hi
    split at hi
    case h_2 => simp at hi
    rename_i ρ hp
    obtain ⟨p1, p2⟩ := pres_low _ _ _ hp
    obtain ⟨a1, a2⟩ := act_low hc hi h1 (by omega)
    obtain ⟨b1, b2⟩ := execOps_low hc is (id + 1) υ τ h (by omega) (by omega)
    exact ⟨by omega, (p2.trans a2).trans b2⟩

theorem execD_low {call : CallF} (hc : LowCalls call) {pf : Nat → Tidy} {wl : Nat} : ∀ (is : List AInstr) (id : Nat) (σ τ : St) (fs : List Fp), execD call pf wl id is σ = some (τ, fs) → wl ≤ id → wl ≤ σ.nx → σ.nx ≤ τ.nx ∧ Same wl σ.H τ.H
  | [], id, σ, τ, fs, h, _, _ => by simp only [execD, Option.some.injEq, Prod.mk.injEq] at h; obtain ⟨rfl, rfl⟩ := h; exact ⟨Nat.le_refl _, Same.refl _ _⟩
  | i :: is, id, σ, τ, fs, h, h1, h2 => by
    simp only [execD] at h
    split at h
    case isFalse => simp at h
    split at h
    case h_2 => simp at h
    rename_i υ hi
    split at h
    case h_2 => simp at h
    rename_i υ' fs' hr
    simp only [Option.some.injEq, Prod.mk.injEq] at h; obtain ⟨rfl, rfl⟩ := h
    obtain ⟨a1, a2⟩ := act_low hc hi h1 h2
    obtain ⟨b1, b2⟩ := execD_low hc is (id + 1) υ υ' fs' hr (by omega) (by omega)
    exact ⟨by omega, a2.trans b2⟩

theorem iter_low {wl : Nat} {f : St → Option (AExit × St)} (hf : ∀ σ e τ, f σ = some (e, τ) → wl ≤ σ.nx → σ.nx ≤ τ.nx ∧ Same wl σ.H τ.H) : ∀ (n : Nat) (σ : St) (e : AExit) (τ : St), iter f n σ = some (e, τ) → wl ≤ σ.nx → σ.nx ≤ τ.nx ∧ Same wl σ.H τ.H
  | 0, σ, e, τ, h, _ => by simp [iter] at h
  | n + 1, σ, e, τ, h, hw => by
    simp only [iter] at h
    split at h
    · rename_i υ hu
      obtain ⟨a1, a2⟩ := hf σ _ υ hu hw
      obtain ⟨b1, b2⟩ := iter_low hf n υ e τ h (by omega)
      exact ⟨by omega, a2.trans b2⟩
    · exact hf σ e τ h hw

theorem exec_low {call : CallF} (hc : LowCalls call) {pf : Nat → Tidy} {wl k : Nat} : ∀ (c : ACode) (σ : St) (e : AExit) (τ : St), exec call pf wl k c σ = some (e, τ) → wl ≤ σ.nx → σ.nx ≤ τ.nx ∧ Same wl σ.H τ.H
  | .skip, σ, e, τ, h, _ | .exit _, σ, e, τ, h, _ | .ret, σ, e, τ, h, _ => by
    simp only [exec, Option.some.injEq, Prod.mk.injEq] at h; obtain ⟨_, rfl⟩ := h; exact ⟨Nat.le_refl _, Same.refl _ _⟩
  | .region none ops, σ, e, τ, h, hw => by
    simp only [exec] at h
    obtain ⟨υ, hu, e'⟩ := map_some h
    simp only [Prod.mk.injEq] at e'; obtain ⟨_, rfl⟩ := e'
    obtain ⟨a1, a2⟩ := execOps_low hc ops _ _ _ hu hw (by simp only; omega)
    exact ⟨by simp only at a1; omega, a2⟩
  | .region (some ms) ops, σ, e, τ, h, hw => by
    simp only [exec] at h
    split at h
    case h_2 => simp at h
    rename_i υ fs hu
    split at h
    case isFalse => simp at h
    simp only [Option.some.injEq, Prod.mk.injEq] at h; obtain ⟨_, rfl⟩ := h
    obtain ⟨a1, a2⟩ := execD_low hc ops _ _ _ _ hu hw (by simp only; omega)
    exact ⟨by simp only at a1; omega, a2⟩
  | .seq a b, σ, e, τ, h, hw => by
    simp only [exec] at h
    split at h
    · rename_i υ hu
      obtain ⟨a1, a2⟩ := exec_low hc a σ _ υ hu hw
      obtain ⟨b1, b2⟩ := exec_low hc b υ e τ h (by omega)
      exact ⟨by omega, a2.trans b2⟩
    · exact exec_low hc a σ e τ h hw
  | .cond c a b, σ, e, τ, h, hw => by
    simp only [exec] at h
    split at h
    · split at h
      · exact exec_low hc a σ e τ h hw
      · exact exec_low hc b σ e τ h hw
    · simp at h
  | .block id c, σ, e, τ, h, hw => by
    simp only [exec] at h
    split at h
    · rename_i j υ hu
      have := exec_low hc c σ _ υ hu hw
      split at h <;> (simp only [Option.some.injEq, Prod.mk.injEq] at h; obtain ⟨_, rfl⟩ := h; exact this)
    · exact exec_low hc c σ e τ h hw
  | .loop c, σ, e, τ, h, hw => by
    simp only [exec] at h
    exact iter_low (fun σ e τ h hw => exec_low hc c σ e τ h hw) k σ e τ h hw

theorem ended_some {x : Option (AExit × St)} {τ : St} (h : ended x = some τ) : ∃ e, x = some (e, τ) ∧ (e = .normal ∨ e = .ret) := by
  cases x with
  | none => simp [ended] at h
  | some p =>
    obtain ⟨e, υ⟩ := p
    cases e <;> simp [ended] at h
    · subst h; exact ⟨_, rfl, .inl rfl⟩
    · subst h; exact ⟨_, rfl, .inr rfl⟩

theorem callN_some {tab : Nat → Option AFun} {n wl f : Nat} {args : List AV} {H : Nat → Option Obj} {nx : Nat} {y : Ans} (h : callN tab (n + 1) wl f args H nx = some y) :
    ∃ af e τ, tab f = some af ∧ exec (callN tab n) (pureOf tab) (af.low wl nx) n af.body (start args H nx) = some (e, τ) ∧ (e = .normal ∨ e = .ret) ∧ answer af H nx τ = some y := by
  simp only [callN] at h
  split at h
  · simp at h
  · rename_i af hf
    cases he : ended (exec (callN tab n) (pureOf tab) (af.low wl nx) n af.body (start args H nx)) with
    | none => rw [he] at h; simp at h
    | some τ =>
      rw [he] at h
      obtain ⟨e, hx, hor⟩ := ended_some he
      exact ⟨af, e, τ, hf, hx, hor, h⟩

theorem callN_low (tab : Nat → Option AFun) : ∀ n, LowCalls (callN tab n)
  | 0 => fun wl g args H nx r H' nx' h _ => by simp [callN] at h
  | n + 1 => fun wl g args H nx r H' nx' h hw => by
    obtain ⟨af, e, τ, hf, hx, hor, ha⟩ := callN_some h
    have hlow : af.low wl nx ≤ nx ∧ wl ≤ af.low wl nx := by unfold AFun.low; split <;> omega
    obtain ⟨a1, a2⟩ := exec_low (callN_low tab n) _ _ _ _ hx hlow.1
    simp only [start] at a1 a2
    simp only [answer] at ha
    split at ha
    · simp at ha
    rename_i vs hv
    split at ha
    · split at ha
      · split at ha
        · simp only [Option.some.injEq, Prod.mk.injEq] at ha; obtain ⟨_, rfl, rfl⟩ := ha
          exact ⟨Nat.le_refl _, Same.refl _ _⟩
        · simp at ha
      · simp at ha
    · split at ha
      · rename_i xs H1 hth
        split at ha
        · simp only [Option.some.injEq, Prod.mk.injEq] at ha; obtain ⟨_, rfl, rfl⟩ := ha
          refine ⟨a1, fun j hj => ?_⟩
          simp only
          rw [if_pos (by omega), thaw_low nx _ _ _ _ _ hth j (by omega)]
          exact a2 j (by omega)
        · simp at ha
      · simp at ha
    · split at ha
      · simp only [Option.some.injEq, Prod.mk.injEq] at ha; obtain ⟨_, rfl, rfl⟩ := ha
        exact ⟨a1, fun j hj => a2 j (by omega)⟩
      · simp at ha

theorem callN_pure (tab : Nat → Option AFun) (n : Nat) : PureCalls (pureOf tab) (callN tab n) := by
  intro wl g args H nx r H' nx' hp h
  cases n with
  | zero => simp [callN] at h
  | succ n =>
    obtain ⟨af, e, τ, hf, hx, hor, ha⟩ := callN_some h
    simp only [pureOf, hf] at hp
    have hm : af.mode = .pure := by cases hm : af.mode <;> rw [hm] at hp <;> simp at hp <;> rfl
    simp only [answer, hm] at ha
    repeat' split at ha
    all_goals (try (simp at ha; done))
    simp only [Option.some.injEq, Prod.mk.injEq] at ha; obtain ⟨_, rfl, rfl⟩ := ha
    exact ⟨rfl, rfl⟩

theorem callN_fresh (tab : Nat → Option AFun) (n : Nat) : FreshCalls (pureOf tab) (callN tab n) := by
  intro wl g args H nx r H' nx' hp h
  cases n with
  | zero => simp [callN] at h
  | succ n =>
    obtain ⟨af, e, τ, hf, hx, hor, ha⟩ := callN_some h
    simp only [pureOf, hf] at hp
    have hm : af.mode = .new := by cases hm : af.mode <;> rw [hm] at hp <;> simp at hp <;> rfl
    have hlow : af.low wl nx = nx := by unfold AFun.low; rw [hm]
    rw [hlow] at hx
    obtain ⟨a1, a2⟩ := exec_low (callN_low tab n) _ _ _ _ hx (by simp [start])
    simp only [answer, hm] at ha
    repeat' split at ha
    all_goals (try (simp at ha; done))
    simp only [Option.some.injEq, Prod.mk.injEq] at ha; obtain ⟨_, rfl, rfl⟩ := ha
    exact a2

end Go.Proofs.Ytmbdccekcfeomaa.Am
end
/- The abstract machine's regions whose order is drawn. -/
section
open Go
namespace Go.Proofs.Ytmbdccekcfeomaa.Am

/-- The run of some of a region's instructions, with their footprints. -/
inductive Run (call : CallF) (pf : Nat → Tidy) (wl base : Nat) (is : List AInstr) : List (Nat × Fp) → St → St → Prop where
  | nil (σ : St) : Run call pf wl base is [] σ σ
  | cons {i : Nat} {x : AInstr} {f : Fp} {L : List (Nat × Fp)} {σ τ υ : St} : is[i]? = some x → x.act call wl (base + i) σ = some τ → x.fp pf σ.env = f → Run call pf wl base is L τ υ → Run call pf wl base is ((i, f) :: L) σ υ

/-- The second may come ahead of the first. -/
def Loose (base : Nat) (is : List AInstr) (p q : Nat × Fp) : Prop := p.2.clash base q.2 = false ∧ ∀ x y, is[p.1]? = some x → is[q.1]? = some y → x.apart y = true

section
variable {call : CallF} {pf : Nat → Tidy} {wl base : Nat} {is : List AInstr}

theorem run_front (hl : LowCalls call) (hp : PureCalls pf call) (hf : FreshCalls pf call) (hw : wl ≤ base) {q : Nat × Fp} {L' : List (Nat × Fp)} : ∀ {L : List (Nat × Fp)} {σ υ : St}, base ≤ σ.nx → (∀ p ∈ L, Loose base is p q) → Run call pf wl base is (L ++ q :: L') σ υ → Run call pf wl base is (q :: (L ++ L')) σ υ
  | [], σ, υ, _, _, h => h
  | p :: L, σ, υ, hn, hfr, h => by
    cases h with
    | cons hi hx hfp hr =>
      rename_i i x f τ
      obtain ⟨a1, _⟩ := act_low hl hx (by omega) (by omega)
      have h1 := run_front hl hp hf hw (by omega) (fun p hp => hfr p (List.mem_cons_of_mem _ hp)) hr
      cases h1 with
      | cons hj hy hgp hr' =>
        rename_i j y g ρ
        subst hfp
        subst hgp
        obtain ⟨c1, c2⟩ := hfr _ (List.mem_cons_self ..)
        obtain ⟨ρ', r1, r2, r3, r4⟩ := act_swap hp hf (by omega) (by omega) hn (by omega) hx hy c1 (c2 x y hi hj)
        exact .cons hj r1 r3 (.cons hi r2 r4 hr')

theorem run_execD : ∀ (k : Nat) (js : List AInstr), is.drop k = js → ∀ (σ τ : St) (fs : List Fp), execD call pf wl (base + k) js σ = some (τ, fs) →
    fs.length = js.length ∧ Run call pf wl base is ((List.range' k js.length).zip fs) σ τ ∧ (∀ x ∈ js, x.pre = [])
  | k, [], _, σ, τ, fs, h => by
    simp only [execD, Option.some.injEq, Prod.mk.injEq] at h; obtain ⟨rfl, rfl⟩ := h
    exact ⟨rfl, .nil _, fun x hx => by simp at hx⟩
  | k, j :: js, hk, σ, τ, fs, h => by
    have hj : is[k]? = some j := by
      have := congrArg List.head? hk
      simpa [List.head?_drop] using this
    have hr : is.drop (k + 1) = js := by rw [← List.drop_drop, hk]; rfl
    simp only [execD] at h
    split at h
    case isFalse => simp at h
    rename_i hpre
    split at h
    case h_2 => simp at h
    rename_i υ hi
    split at h
    case h_2 => simp at h
    rename_i υ' fs' hd
    simp only [Option.some.injEq, Prod.mk.injEq] at h; obtain ⟨rfl, rfl⟩ := h
    obtain ⟨h1, h2, h3⟩ := run_execD (k + 1) js hr υ υ' fs' hd
    refine ⟨by simp [h1], ?_, fun x hx => ?_⟩
    · simp only [List.length_cons, List.range'_succ, List.zip_cons_cons]
      exact .cons hj hi rfl h2
    · rcases List.mem_cons.1 hx with rfl | hx
      · simpa using hpre
      · exact h3 x hx

/-! ### the check that two that are in no order do not look at each other's slots -/

def apart1 (m : Nat) (x : AInstr) : List AInstr → Bool
  | [] => true
  | y :: ys => (m.testBit ys.length || y.apart x) && apart1 m x ys
def aparts (acc : List AInstr) : List Nat → List AInstr → Bool
  | m :: ms, x :: xs => apart1 m x acc && aparts (x :: acc) ms xs
  | [], [] => true
  | _, _ => false

theorem apart1_spec {m : Nat} {x : AInstr} : ∀ {acc : List AInstr}, apart1 m x acc = true → ∀ (i : Nat) (y : AInstr), acc.reverse[i]? = some y → m.testBit i = true ∨ y.apart x = true
  | [], _, i, y, hy => by simp at hy
  | z :: acc, h, i, y, hy => by
    simp only [apart1, Bool.and_eq_true, Bool.or_eq_true] at h
    rw [List.reverse_cons, List.getElem?_append] at hy
    split at hy
    · exact apart1_spec h.2 i y hy
    · rename_i hi
      have : i = acc.length := by
        have := (List.getElem?_eq_some_iff.1 hy).1
        simp at this hi; omega
      subst this
      simp at hy; subst hy
      exact h.1

theorem aparts_spec : ∀ {acc : List AInstr} {ms : List Nat} {xs : List AInstr}, aparts acc ms xs = true → ms.length = xs.length ∧
    ∀ (j : Nat) (m : Nat) (x : AInstr), ms[j]? = some m → xs[j]? = some x → ∀ (i : Nat) (y : AInstr), i < acc.length + j → (acc.reverse ++ xs)[i]? = some y → m.testBit i = true ∨ y.apart x = true
  | acc, [], [], _ => ⟨rfl, fun j m x hm => by simp at hm⟩
  | acc, [], _ :: _, h => by simp [aparts] at h
  | acc, _ :: _, [], h => by simp [aparts] at h
  | acc, m :: ms, x :: xs, h => by
    simp only [aparts, Bool.and_eq_true] at h
    obtain ⟨h1, h2⟩ := aparts_spec h.2
    refine ⟨by simp [h1], fun j m' x' hm hx i y hi hy => ?_⟩
    cases j with
    | zero =>
      simp only [List.getElem?_cons_zero, Option.some.injEq] at hm hx; subst hm; subst hx
      rw [List.getElem?_append_left (by simpa using hi)] at hy
      exact apart1_spec h.1 i y hy
    | succ j =>
      simp only [List.getElem?_cons_succ] at hm hx
      refine h2 j m' x' hm hx i y (by simp; omega) ?_
      rw [List.reverse_cons, List.append_assoc]; exact hy

theorem clear1_spec {nx m : Nat} {f : Fp} : ∀ {acc : List Fp}, clear1 nx m f acc = true → ∀ (i : Nat) (g : Fp), acc.reverse[i]? = some g → m.testBit i = true ∨ g.clash nx f = false
  | [], _, i, y, hy => by simp at hy
  | z :: acc, h, i, y, hy => by
    simp only [clear1, Bool.and_eq_true, Bool.or_eq_true, Bool.not_eq_true'] at h
    rw [List.reverse_cons, List.getElem?_append] at hy
    split at hy
    · exact clear1_spec h.2 i y hy
    · rename_i hi
      have : i = acc.length := by
        have := (List.getElem?_eq_some_iff.1 hy).1
        simp at this hi; omega
      subst this
      simp at hy; subst hy
      exact h.1.symm

theorem clears_spec {nx : Nat} : ∀ {acc : List Fp} {ms : List Nat} {xs : List Fp}, clears nx acc ms xs = true → ms.length = xs.length ∧
    ∀ (j : Nat) (m : Nat) (x : Fp), ms[j]? = some m → xs[j]? = some x → ∀ (i : Nat) (y : Fp), i < acc.length + j → (acc.reverse ++ xs)[i]? = some y → m.testBit i = true ∨ y.clash nx x = false
  | acc, [], [], _ => ⟨rfl, fun j m x hm => by simp at hm⟩
  | acc, [], _ :: _, h => by simp [clears] at h
  | acc, _ :: _, [], h => by simp [clears] at h
  | acc, m :: ms, x :: xs, h => by
    simp only [clears, Bool.and_eq_true] at h
    obtain ⟨h1, h2⟩ := clears_spec h.2
    refine ⟨by simp [h1], fun j m' x' hm hx i y hi hy => ?_⟩
    cases j with
    | zero =>
      simp only [List.getElem?_cons_zero, Option.some.injEq] at hm hx; subst hm; subst hx
      rw [List.getElem?_append_left (by simpa using hi)] at hy
      exact clear1_spec h.1 i y hy
    | succ j =>
      simp only [List.getElem?_cons_succ] at hm hx
      refine h2 j m' x' hm hx i y (by simp; omega) ?_
      rw [List.reverse_cons, List.append_assoc]; exact hy

/-! ### the check of the masks: what is before is closed -/

def okEdges (i : Nat) (o : Oper) : Bool := o.after.toList.all fun e => !Region.binds .any e || decide (e.on < i)
def okMask (ms : List Nat) (i m : Nat) (o : Oper) : Bool := decide (m < 2 ^ i) && (List.range i).all fun p => !m.testBit p || o.after.toList.any fun e => Region.binds .any e && (e.on == p || (ms.getD e.on 0).testBit p)
def okMasks (all : List Nat) : Nat → List Nat → List Oper → Bool
  | i, m :: ms, o :: os => okEdges i o && (okMask all i m o && okMasks all (i + 1) ms os)
  | _, [], [] => true
  | _, _, _ => false

theorem okMasks_get {all : List Nat} : ∀ {k : Nat} {ms : List Nat} {os : List Oper}, okMasks all k ms os = true → ms.length = os.length ∧ ∀ (i m : Nat) (o : Oper), ms[i]? = some m → os[i]? = some o → okEdges (k + i) o = true ∧ okMask all (k + i) m o = true
  | k, [], [], _ => ⟨rfl, fun i m o hm => by simp at hm⟩
  | k, [], _ :: _, h => by simp [okMasks] at h
  | k, _ :: _, [], h => by simp [okMasks] at h
  | k, m :: ms, o :: os, h => by
    simp only [okMasks, Bool.and_eq_true] at h
    obtain ⟨h1, h2⟩ := okMasks_get h.2.2
    refine ⟨by simp [h1], fun i m' o' hm ho => ?_⟩
    cases i with
    | zero => simp only [List.getElem?_cons_zero, Option.some.injEq] at hm ho; subst hm; subst ho; exact ⟨h.1, h.2.1⟩
    | succ i =>
      simp only [List.getElem?_cons_succ] at hm ho
      have := h2 i m' o' hm ho
      rw [show k + (i + 1) = k + 1 + i by omega]; exact this

theorem okMask_spec {ms : List Nat} {i m : Nat} {o : Oper} (h : okMask ms i m o = true) {p : Nat} (hp : m.testBit p = true) : p < i ∧ ∃ e ∈ o.after, Region.binds .any e = true ∧ (e.on = p ∨ (ms.getD e.on 0).testBit p = true) := by
  simp only [okMask, Bool.and_eq_true, decide_eq_true_eq, List.all_eq_true, List.mem_range, Bool.or_eq_true, Bool.not_eq_true', List.any_eq_true, beq_iff_eq] at h
  have hpi : p < i := by
    refine Nat.lt_of_not_le fun hle => ?_
    rw [Nat.testBit_lt_two_pow (Nat.lt_of_lt_of_le h.1 (Nat.pow_le_pow_right (by omega) hle))] at hp
    cases hp
  refine ⟨hpi, ?_⟩
  rcases h.2 p hpi with g | ⟨e, he, hb, g⟩
  · rw [g] at hp; cases hp
  · exact ⟨e, by simpa using he, hb, g⟩

theorem okEdges_spec {i : Nat} {o : Oper} (h : okEdges i o = true) : ∀ e ∈ o.after, Region.binds .any e = true → e.on < i := by
  intro e he hb
  simp only [okEdges, List.all_eq_true, Bool.or_eq_true, Bool.not_eq_true', decide_eq_true_eq] at h
  rcases h e (by simpa using he) with g | g
  · rw [g] at hb; cases hb
  · exact g

variable {P : Program} {src : Nat → Nat} {n₀ : Nat} {K₀ : Ctx} {w₀ : World} {N : Nat}

theorem draw_run (hcall : CallOk P src call) (hl : LowCalls call) (hp : PureCalls pf call) (hf : FreshCalls pf call) {ops : Array Oper} (hok : okInstrs P src N ops ops.toList is = true) {ms : List Nat} (hms : okMasks ms 0 ms ops.toList = true) (hn : n₀ ≤ base) {υ : St} {Q : Exit → Act → World → Prop} {nx : Nat} (hb : base + is.length ≤ nx)
    (hQ : ∀ a' w' K', At src wl n₀ K₀ w₀ N K' w' υ a' → nx ≤ υ.nx → Q .normal a' w') :
    ∀ (fuel : Nat) (listed : Array Bool) (R : List (Nat × Fp)) (σ : St) (K : Ctx) (w : World) (a : Act), At src wl n₀ K₀ w₀ N K w σ a → nx ≤ σ.nx → (∀ i ∈ R.map (·.1), ¬ K.used (base + i)) →
    (R.map (·.1)).Pairwise (· < ·) → (∀ i, i ∈ R.map (·.1) ↔ i < ops.size ∧ listed.getD i true = false) → listed.size = ops.size →
    (∀ j, listed.getD j false = true → ∀ p, (ms.getD j 0).testBit p = true → listed.getD p false = true) →
    R.Pairwise (fun p q => (ms.getD q.1 0).testBit p.1 = true ∨ Loose base is p q) → Run call pf wl base is R σ υ → R.length ≤ fuel → wpAny P .any ops Q fuel listed a w := by
  obtain ⟨hlen, hget⟩ := okInstrs_get hok
  obtain ⟨hmlen, hmget⟩ := okMasks_get hms
  have hwb : ∀ {K w σ a}, At src wl n₀ K₀ w₀ N K w σ a → wl ≤ base := fun h => Nat.le_trans h.wl hn
  have gd : ∀ {listed : Array Bool}, listed.size = ops.size → ∀ i, i < ops.size → ¬ listed.getD i true = false → listed.getD i false = true := by
    intro listed hs i hi hne
    have hi' : i < listed.size := by omega
    simp [hi'] at hne ⊢
    exact hne
  intro fuel
  induction fuel with
  | zero =>
    intro listed R σ K w a hat hnx hu hsort hmem hsize hdown hpw hrun hfuel
    have hR : R = [] := List.length_eq_zero_iff.1 (by omega)
    subst hR
    cases hrun
    refine ⟨?_, hQ a w K hat hnx⟩
    rw [List.eq_nil_iff_forall_not_mem]
    intro i hi
    obtain ⟨h1, o, ho, _⟩ := mem_ready.1 hi
    have := (hmem i).2 ⟨(Array.getElem?_eq_some_iff.1 ho).1, h1⟩
    simp at this
  | succ fuel ih =>
    intro listed R σ K w a hat hnx hu hsort hmem hsize hdown hpw hrun hfuel
    refine ⟨fun hnil => ?_, fun i hi => ?_⟩
    · cases R with
      | nil => cases hrun; exact hQ a w K hat hnx
      | cons r R =>
        exfalso
        have hr : r.1 ∈ Region.ready .any ops listed := by
          obtain ⟨h1, h2⟩ := (hmem r.1).1 (by simp)
          refine mem_ready.2 ⟨h2, ops[r.1], Array.getElem?_eq_getElem h1, fun e he hbd => ?_⟩
          have hlt : e.on < r.1 := by
            have hm : r.1 < ms.length := by rw [hmlen]; simpa using h1
            have := (hmget r.1 ms[r.1] ops[r.1] (List.getElem?_eq_getElem hm) (by simp [h1])).1
            rw [Nat.zero_add] at this
            exact okEdges_spec this e he hbd
          refine gd hsize _ (by omega) fun hno => ?_
          have := (hmem e.on).2 ⟨by omega, hno⟩
          simp only [List.map_cons, List.mem_cons] at this
          rcases this with g | g
          · omega
          · have := (List.pairwise_cons.1 hsort).1 _ g; simp only at this; omega
        rw [hnil] at hr; simp at hr
    · obtain ⟨h1, o, ho, hedges⟩ := mem_ready.1 hi
      have hio : i < ops.size := (Array.getElem?_eq_some_iff.1 ho).1
      have hiR := (hmem i).2 ⟨hio, h1⟩
      obtain ⟨⟨i', f⟩, hif, rfl⟩ := List.mem_map.1 hiR
      simp only at h1 ho hio hiR hi ⊢
      obtain ⟨A, B, rfl⟩ := List.append_of_mem hif
      have himl : i' < ms.length := by rw [hmlen]; simpa using hio
      have hio' : ops.toList[i']? = some o := by simpa using ho
      obtain ⟨_, hmask⟩ := hmget i' ms[i'] o (List.getElem?_eq_getElem himl) hio'
      rw [Nat.zero_add] at hmask
      have hmi : ms.getD i' 0 = ms[i'] := by simp [himl]
      -- what is before i is listed
      have hbefore : ∀ p, (ms.getD i' 0).testBit p = true → listed.getD p false = true := by
        intro p hpb
        rw [hmi] at hpb
        obtain ⟨_, e, he, hbd, g⟩ := okMask_spec hmask hpb
        rcases g with rfl | g
        · exact hedges e he hbd
        · exact hdown _ (hedges e he hbd) p g
      have hfree : ∀ p ∈ A, Loose base is p (i', f) := by
        intro p hpA
        have := (List.pairwise_append.1 hpw).2.2 p hpA (i', f) (by simp)
        refine this.resolve_left fun hbit => ?_
        have h2 := hbefore _ hbit
        have h3 := ((hmem p.1).1 (List.mem_map.2 ⟨p, List.mem_append_left _ hpA, rfl⟩))
        have : p.1 < listed.size := by omega
        simp [this] at h2 h3
        rw [h3.2] at h2; cases h2
      have hil : i' < is.length := by rw [← hlen]; simpa using hio
      have hfront := run_front hl hp hf (hwb hat) (by omega) hfree hrun
      cases hfront with
      | cons hx hact hfp hrest =>
        rename_i x τ
        have hox := hget i' o x hio' hx
        have hids : ¬ K.used (base + i') := hu i' hiR
        have step := act_ok (Q := Q) (next := wpAny P .any ops Q fuel (listed.setIfInBounds i' true)) hcall hat (id := base + i') hids (by omega) (by omega) hox hact (by
          intro a' w' K' h' hused hle
          have hsub : (A ++ B).map (·.1) = A.map (·.1) ++ B.map (·.1) := by simp
          have hmap : (A ++ (i', f) :: B).map (·.1) = A.map (·.1) ++ i' :: B.map (·.1) := by simp
          rw [hmap] at hsort hmem hu
          have hsort' : (A.map (·.1) ++ B.map (·.1)).Pairwise (· < ·) := hsort.sublist (List.Sublist.append_left (List.sublist_cons_self _ _) _)
          have hne : i' ∉ A.map (·.1) ++ B.map (·.1) := by
            intro hc
            rcases List.mem_append.1 hc with g | g
            · have := (List.pairwise_append.1 hsort).2.2 _ g i' (by simp); omega
            · have := (List.pairwise_cons.1 (List.pairwise_append.1 hsort).2.1).1 _ g; omega
          refine ih (listed.setIfInBounds i' true) (A ++ B) τ K' w' a' h' (by omega) ?_ (by rw [hsub]; exact hsort') ?_ (by simp [hsize]) ?_ (hpw.sublist (List.Sublist.append_left (List.sublist_cons_self _ _) _)) hrest (by simp at hfuel ⊢; omega)
          · rw [hsub]
            intro j hj hc
            have hj' : j ∈ A.map (·.1) ++ i' :: B.map (·.1) := by
              rcases List.mem_append.1 hj with g | g
              · exact List.mem_append_left _ g
              · exact List.mem_append_right _ (List.mem_cons_of_mem _ g)
            have hjn := ((hmem j).1 hj').1
            have hjl : j < is.length := by rw [← hlen]; simpa using hjn
            rcases hused _ hc with g | g | g
            · exact hu j hj' g
            · have : j = i' := by omega
              subst this; exact hne hj
            · omega
          · rw [hsub]
            intro j
            constructor
            · intro hj
              have hj' : j ∈ A.map (·.1) ++ i' :: B.map (·.1) := by
                rcases List.mem_append.1 hj with g | g
                · exact List.mem_append_left _ g
                · exact List.mem_append_right _ (List.mem_cons_of_mem _ g)
              obtain ⟨g1, g2⟩ := (hmem j).1 hj'
              have hji : i' ≠ j := fun e => hne (e ▸ hj)
              exact ⟨g1, by rw [getD_set_ne true hji]; exact g2⟩
            · rintro ⟨g1, g2⟩
              by_cases hji : i' = j
              · subst hji
                have : i' < listed.size := by omega
                simp [this] at g2
              · rw [getD_set_ne true hji] at g2
                rcases List.mem_append.1 ((hmem j).2 ⟨g1, g2⟩) with g | g
                · exact List.mem_append_left _ g
                · rcases List.mem_cons.1 g with g | g
                  · exact absurd g.symm hji
                  · exact List.mem_append_right _ g
          · intro j hj p hpb
            by_cases hji : i' = j
            · subst hji; exact getD_set_true (hbefore p hpb)
            · rw [getD_set_ne false hji] at hj
              exact getD_set_true (hdown j hj p hpb))
        simp only [wpOp, ho]
        split
        · rename_i hw; rw [if_pos hw] at step; exact .inl step
        · rename_i hw; rw [if_neg hw] at step; exact step

end
end Go.Proofs.Ytmbdccekcfeomaa.Am
end
