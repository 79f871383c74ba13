/- The abstract machine's calls, with rounds to spend, and what they come to with enough of them. -/
import Derived.Test.YtmbdccekcfeomaaT01
namespace Go.Proofs.Ytmbdccekcfeomaa.Am

def start (args : List AV) (H : Nat → Option Obj) (nx : Nat) : St :=
  { env := fun j => args.getD j .undef, lo := fun _ => none, H, nx }

/-- What a call answers of a body's end. -/
def answer (af : AFun) (H : Nat → Option Obj) (nx : Nat) (τ : St) : Option Ans :=
  match resOf τ af.res with
  | none => none
  | some vs => match af.mode with
    | .pure => match thaw nx af.deep τ.H vs with
      | some (xs, _) => if AV.solids xs = true then some (pack xs, H, nx) else none
      | none => none
    | .mutf => match thaw nx af.deep τ.H vs with
      | some (xs, H1) => if AV.solids xs = true then some (pack xs, fun id => if id < nx then H1 id else none, τ.nx) else none
      | none => none
    | _ => if AV.nols vs = true then some (pack vs, τ.H, τ.nx) else none

def ended : Option (AExit × St) → Option St
  | some (.normal, τ) => some τ
  | some (.ret, τ) => some τ
  | _ => none

def AFun.low (af : AFun) (wl nx : Nat) : Nat := match af.mode with | .mut | .mutf => wl | _ => nx

def pureOf (tab : Nat → Option AFun) (f : Nat) : Tidy := match tab f with | some af => (match af.mode with | .pure => .pure | .new => .fresh | _ => .any) | none => .any

def callN (tab : Nat → Option AFun) : Nat → CallF
  | 0 => fun _ _ _ _ _ => none
  | n + 1 => fun wl f args H nx =>
    match tab f with
    | none => none
    | some af => (ended (exec (callN tab n) (pureOf tab) (af.low wl nx) n af.body (start args H nx))).bind (answer af H nx)

/-! ### more rounds give the same answer -/

def CLe (c c' : CallF) : Prop := ∀ wl f args H nx y, c wl f args H nx = some y → c' wl f args H nx = some y

theorem map_le {α β : Type} {a b : Option α} {f : α → β} {y : β} (h : a.map f = some y) (hl : ∀ x, a = some x → b = some x) : b.map f = some y := by
  cases a with
  | none => simp at h
  | some x => rw [hl x rfl]; exact h

theorem eval_mono {c c' : CallF} (hc : CLe c c') {wl id : Nat} {o : AOp} {σ : St} {d : Option Nat} {y : AV × St}
    (h : o.eval c wl id σ d = some y) : o.eval c' wl id σ d = some y := by
  cases o with
  | call f args =>
    simp only [AOp.eval] at h ⊢
    split at h
    · split at h
      · rename_i hn; rw [if_pos hn]; exact map_le h (fun x hx => hc _ _ _ _ _ _ hx)
      · simp at h
    · simp at h
  | _ => exact h

theorem act_mono {c c' : CallF} (hc : CLe c c') {wl id : Nat} {i : AInstr} {σ y : St} (h : i.act c wl id σ = some y) : i.act c' wl id σ = some y := by
  unfold AInstr.act at h ⊢
  split at h
  · exact map_le h (fun x hx => eval_mono hc hx)
  · split at h
    · split at h
      · rename_i ht; rw [if_pos ht]; exact map_le h (fun x hx => eval_mono hc hx)
      · rename_i ht; rw [if_neg ht]; exact h
    · exact h
    · simp at h

theorem instr_mono {c c' : CallF} (hc : CLe c c') {wl id : Nat} {i : AInstr} {σ y : St} (h : i.exec c wl id σ = some y) : i.exec c' wl id σ = some y := by
  unfold AInstr.exec at h ⊢
  split at h
  · exact act_mono hc h
  · simp at h

theorem ops_mono {c c' : CallF} (hc : CLe c c') {wl : Nat} {is : List AInstr} : ∀ {id : Nat} {σ y : St}, execOps c wl id is σ = some y → execOps c' wl id is σ = some y := by
  induction is with
  | nil => intro id σ y h; exact h
  | cons i is ih =>
    intro id σ y h
    simp only [execOps] at h ⊢
    split at h
    · rename_i τ hτ; rw [instr_mono hc hτ]; exact ih h
    · simp at h

theorem opsD_mono {c c' : CallF} (hc : CLe c c') {pf : Nat → Tidy} {wl : Nat} {is : List AInstr} : ∀ {id : Nat} {σ : St} {y}, execD c pf wl id is σ = some y → execD c' pf wl id is σ = some y := by
  induction is with
  | nil => intro id σ y h; exact h
  | cons i is ih =>
    intro id σ y h
    simp only [execD] at h ⊢
    split at h
    · rename_i hp
      rw [if_pos hp]
      split at h
      · rename_i τ hτ
        rw [act_mono hc hτ]
        simp only
        split at h
        · rename_i υ fs hr; rw [ih hr]; exact h
        · simp at h
      · simp at h
    · simp at h

theorem iter_mono {f g : St → Option (AExit × St)} (hf : ∀ σ y, f σ = some y → g σ = some y) : ∀ {k k' : Nat} {σ : St} {y}, k ≤ k' → iter f k σ = some y → iter g k' σ = some y := by
  intro k
  induction k with
  | zero => intro k' σ y _ h; simp [iter] at h
  | succ k ih =>
    intro k' σ y hk h
    obtain ⟨m, rfl⟩ : ∃ m, k' = m + 1 := ⟨k' - 1, by omega⟩
    simp only [iter] at h ⊢
    cases hs : f σ with
    | none => rw [hs] at h; simp at h
    | some r =>
      rw [hs] at h
      rw [hf σ r hs]
      obtain ⟨e, τ⟩ := r
      cases e <;> simp only at h ⊢
      · exact ih (by omega) h
      · exact h
      · exact h

theorem exec_mono {c c' : CallF} (hc : CLe c c') {wl k k' : Nat} (hk : k ≤ k') {pf : Nat → Tidy} {a : ACode} : ∀ {σ : St} {y}, exec c pf wl k a σ = some y → exec c' pf wl k' a σ = some y := by
  induction a with
  | skip => intro σ y h; exact h
  | region d ops =>
    intro σ y h
    cases d with
    | none => simp only [exec] at h ⊢; exact map_le h (fun x hx => ops_mono hc hx)
    | some ms =>
      simp only [exec] at h ⊢
      split at h
      · rename_i r hr; rw [opsD_mono hc hr]; exact h
      · simp at h
  | seq a b iha ihb =>
    intro σ y h
    simp only [exec] at h ⊢
    cases hs : exec c pf wl k a σ with
    | none => rw [hs] at h; simp at h
    | some r =>
      rw [hs] at h; rw [iha hs]
      obtain ⟨e, τ⟩ := r
      cases e <;> simp only at h ⊢
      · exact ihb h
      · exact h
      · exact h
  | cond x a b iha ihb =>
    intro σ y h
    simp only [exec] at h ⊢
    split at h
    · split at h
      · rename_i ht; rw [if_pos ht]; exact iha h
      · rename_i ht; rw [if_neg ht]; exact ihb h
    · simp at h
  | block id a iha =>
    intro σ y h
    simp only [exec] at h ⊢
    cases hs : exec c pf wl k a σ with
    | none => rw [hs] at h; simp at h
    | some r => rw [hs] at h; rw [iha hs]; exact h
  | loop a iha =>
    intro σ y h
    simp only [exec] at h ⊢
    exact iter_mono (fun σ y => iha) hk h
  | exit id => intro σ y h; exact h
  | ret => intro σ y h; exact h

theorem bind_le {α β : Type} {a b : Option α} {f g : α → Option β} {y : β} (h : a.bind f = some y) (ha : ∀ x, a = some x → b = some x) (hf : ∀ x, f x = some y → g x = some y) : b.bind g = some y := by
  cases a with
  | none => simp at h
  | some x => rw [ha x rfl]; exact hf x h

theorem ended_le {a b : Option (AExit × St)} (h : ∀ x, a = some x → b = some x) : ∀ x, ended a = some x → ended b = some x := by
  intro x hx
  cases a with
  | none => simp [ended] at hx
  | some r => rw [h r rfl]; exact hx

theorem callN_mono1 (tab : Nat → Option AFun) : ∀ n, CLe (callN tab n) (callN tab (n + 1)) := by
  intro n
  induction n with
  | zero => intro wl f args H nx y h; simp [callN] at h
  | succ n ih =>
    intro wl f args H nx y h
    simp only [callN] at h ⊢
    split at h
    · simp at h
    · exact bind_le h (ended_le fun x hx => exec_mono ih (Nat.le_succ n) hx) (fun x hx => hx)

theorem callN_mono (tab : Nat → Option AFun) {n m : Nat} (h : n ≤ m) : CLe (callN tab n) (callN tab m) := by
  induction h with
  | refl => intro _ _ _ _ _ _ h; exact h
  | step _ ih => intro wl f args H nx y h; exact callN_mono1 tab _ _ _ _ _ _ _ (ih _ _ _ _ _ _ h)

/-! ### limits -/

def Mono {α : Type} (F : Nat → Option α) : Prop := ∀ n m y, n ≤ m → F n = some y → F m = some y

noncomputable def lim {α : Type} (F : Nat → Option α) : Option α :=
  open Classical in if h : ∃ n y, F n = some y then F (Classical.choose h) else none

theorem lim_some {α : Type} {F : Nat → Option α} (hF : Mono F) {y : α} : lim F = some y ↔ ∃ n, F n = some y := by
  constructor
  · intro h
    unfold lim at h
    split at h
    · exact ⟨_, h⟩
    · simp at h
  · rintro ⟨n, hn⟩
    have hex : ∃ n y, F n = some y := ⟨n, y, hn⟩
    unfold lim
    rw [dif_pos hex]
    obtain ⟨z, hz⟩ := Classical.choose_spec hex
    rw [hz]
    have a := hF _ (max n (Classical.choose hex)) _ (by omega) hn
    have b := hF _ (max n (Classical.choose hex)) _ (by omega) hz
    rw [a] at b
    exact b.symm

theorem lim_ext {α : Type} {F : Nat → Option α} (hF : Mono F) {r : Option α} (h : ∀ y, r = some y ↔ ∃ n, F n = some y) : lim F = r := by
  cases hr : r with
  | some y => exact (lim_some hF).2 ((h y).1 hr)
  | none =>
    cases hl : lim F with
    | none => rfl
    | some y => have := (h y).2 ((lim_some hF).1 hl); rw [hr] at this; simp at this

section
variable (tab : Nat → Option AFun)

noncomputable def C : CallF := fun wl f args H nx => lim fun n => callN tab n wl f args H nx
noncomputable def X (wl : Nat) (c : ACode) (σ : St) : Option (AExit × St) := lim fun n => exec (callN tab n) (pureOf tab) wl n c σ

theorem mono_call (wl f : Nat) (args : List AV) (H : Nat → Option Obj) (nx : Nat) : Mono fun n => callN tab n wl f args H nx :=
  fun _ _ _ h hn => callN_mono tab h _ _ _ _ _ _ hn
theorem mono_exec (wl : Nat) (c : ACode) (σ : St) : Mono fun n => exec (callN tab n) (pureOf tab) wl n c σ :=
  fun _ _ _ h hn => exec_mono (callN_mono tab h) h hn

theorem C_some {wl f : Nat} {args : List AV} {H : Nat → Option Obj} {nx : Nat} {y : Ans} : C tab wl f args H nx = some y ↔ ∃ n, callN tab n wl f args H nx = some y := lim_some (mono_call tab wl f args H nx)
theorem X_some {wl : Nat} {c : ACode} {σ : St} {y} : X tab wl c σ = some y ↔ ∃ n, exec (callN tab n) (pureOf tab) wl n c σ = some y := lim_some (mono_exec tab wl c σ)

theorem callN_le_C (n : Nat) : CLe (callN tab n) (C tab) := fun _ _ _ _ _ _ h => (C_some tab).2 ⟨n, h⟩

/-- One operation, with what calls come to. -/
theorem eval_C {wl id : Nat} {o : AOp} {σ : St} {d : Option Nat} {y} : o.eval (C tab) wl id σ d = some y ↔ ∃ n, o.eval (callN tab n) wl id σ d = some y := by
  constructor
  · intro h
    cases o with
    | call f args =>
      simp only [AOp.eval] at h ⊢
      split at h
      · rename_i g cap hf
        split at h
        case isFalse => simp at h
        rename_i hnl
        simp only [if_pos hnl]
        cases hc : C tab wl g (args.map (fun x => x.ev σ.env) ++ cap) σ.H σ.nx with
        | none => rw [hc] at h; simp at h
        | some r =>
          obtain ⟨n, hn⟩ := (C_some tab).1 hc
          exact ⟨n, by rw [hn]; rw [hc] at h; exact h⟩
      · simp at h
    | _ => exact ⟨0, h⟩
  · rintro ⟨n, h⟩; exact eval_mono (callN_le_C tab n) h

theorem act_C {wl id : Nat} {i : AInstr} {σ y : St} : i.act (C tab) wl id σ = some y ↔ ∃ n, i.act (callN tab n) wl id σ = some y := by
  constructor
  · intro h
    have key : ∀ z, (i.op.eval (C tab) wl id σ i.dst).map (fun r => r.2.setDst i.dst r.1) = some z → ∃ n, (i.op.eval (callN tab n) wl id σ i.dst).map (fun r => r.2.setDst i.dst r.1) = some z := by
      intro z hz
      cases he : i.op.eval (C tab) wl id σ i.dst with
      | none => rw [he] at hz; simp at hz
      | some r => obtain ⟨n, hn⟩ := (eval_C tab).1 he; exact ⟨n, by rw [hn]; rw [he] at hz; exact hz⟩
    unfold AInstr.act at h ⊢
    split at h
    · exact key _ h
    · split at h
      · split at h
        · rename_i ht; simp only [if_pos ht]; exact key _ h
        · rename_i ht; simp only [if_neg ht]; exact ⟨0, h⟩
      · exact ⟨0, h⟩
      · simp at h
  · rintro ⟨n, h⟩; exact act_mono (callN_le_C tab n) h

theorem instr_C {wl id : Nat} {i : AInstr} {σ y : St} : i.exec (C tab) wl id σ = some y ↔ ∃ n, i.exec (callN tab n) wl id σ = some y := by
  unfold AInstr.exec
  split
  · exact act_C tab
  · simp

theorem ops_C {wl : Nat} {is : List AInstr} : ∀ {id : Nat} {σ y : St}, execOps (C tab) wl id is σ = some y ↔ ∃ n, execOps (callN tab n) wl id is σ = some y := by
  induction is with
  | nil => intro id σ y; simp [execOps]
  | cons i is ih =>
    intro id σ y
    constructor
    · intro h
      simp only [execOps] at h
      split at h
      · rename_i τ hτ
        obtain ⟨n, hn⟩ := (instr_C tab).1 hτ
        obtain ⟨m, hm⟩ := ih.1 h
        refine ⟨max n m, ?_⟩
        simp only [execOps]
        rw [instr_mono (callN_mono tab (Nat.le_max_left n m)) hn]
        exact ops_mono (callN_mono tab (Nat.le_max_right n m)) hm
      · simp at h
    · rintro ⟨n, h⟩; exact ops_mono (callN_le_C tab n) h

theorem opsD_C {pf : Nat → Tidy} {wl : Nat} {is : List AInstr} : ∀ {id : Nat} {σ : St} {y}, execD (C tab) pf wl id is σ = some y ↔ ∃ n, execD (callN tab n) pf wl id is σ = some y := by
  induction is with
  | nil => intro id σ y; simp [execD]
  | cons i is ih =>
    intro id σ y
    constructor
    · intro h
      simp only [execD] at h
      split at h
      · rename_i hp
        split at h
        · rename_i τ hτ
          obtain ⟨n, hn⟩ := (act_C tab).1 hτ
          split at h
          · rename_i υ fs hr
            obtain ⟨m, hm⟩ := ih.1 hr
            refine ⟨max n m, ?_⟩
            simp only [execD]
            rw [if_pos hp, act_mono (callN_mono tab (Nat.le_max_left n m)) hn]
            simp only
            rw [opsD_mono (callN_mono tab (Nat.le_max_right n m)) hm]
            exact h
          · simp at h
        · simp at h
      · simp at h
    · rintro ⟨n, h⟩; exact opsD_mono (callN_le_C tab n) h

theorem X_skip (wl : Nat) (σ : St) : X tab wl .skip σ = some (.normal, σ) := (X_some tab).2 ⟨0, rfl⟩
theorem X_exit (wl id : Nat) (σ : St) : X tab wl (.exit id) σ = some (.exit id, σ) := (X_some tab).2 ⟨0, rfl⟩
theorem X_ret (wl : Nat) (σ : St) : X tab wl .ret σ = some (.ret, σ) := (X_some tab).2 ⟨0, rfl⟩

theorem X_draw (wl : Nat) (ms : List Nat) (ops : List AInstr) (σ : St) :
    X tab wl (.region (some ms) ops) σ = match execD (C tab) (pureOf tab) wl σ.nx ops { σ with nx := σ.nx + ops.length } with
    | some (τ, fs) => if clears σ.nx [] ms fs = true then some (.normal, τ) else none
    | none => none := by
  refine lim_ext (mono_exec tab wl _ σ) fun y => ?_
  simp only [exec]
  constructor
  · intro h
    split at h
    · rename_i τ fs hc
      obtain ⟨n, hn⟩ := (opsD_C tab).1 hc
      exact ⟨n, by rw [hn]; exact h⟩
    · simp at h
  · rintro ⟨n, h⟩
    split at h
    · rename_i τ fs hc
      rw [(opsD_C tab).2 ⟨n, hc⟩]; exact h
    · simp at h

theorem X_region (wl : Nat) (ops : List AInstr) (σ : St) :
    X tab wl (.region none ops) σ = (execOps (C tab) wl σ.nx ops { σ with nx := σ.nx + ops.length }).map fun τ => (.normal, τ) := by
  refine lim_ext (mono_exec tab wl _ σ) fun y => ?_
  simp only [exec]
  constructor
  · intro h
    cases hc : execOps (C tab) wl σ.nx ops { σ with nx := σ.nx + ops.length } with
    | none => rw [hc] at h; simp at h
    | some τ => obtain ⟨n, hn⟩ := (ops_C tab).1 hc; exact ⟨n, by rw [hn]; rw [hc] at h; exact h⟩
  · rintro ⟨n, h⟩
    exact map_le h (fun x hx => ops_mono (callN_le_C tab n) hx)

theorem X_seq (wl : Nat) (a b : ACode) (σ : St) : X tab wl (.seq a b) σ = match X tab wl a σ with
    | some (.normal, τ) => X tab wl b τ
    | r => r := by
  refine lim_ext (mono_exec tab wl _ σ) fun y => ?_
  simp only [exec]
  constructor
  · intro h
    cases ha : X tab wl a σ with
    | none => rw [ha] at h; simp at h
    | some r =>
      rw [ha] at h
      obtain ⟨n, hn⟩ := (X_some tab).1 ha
      obtain ⟨e, τ⟩ := r
      cases e <;> simp only at h
      · obtain ⟨m, hm⟩ := (X_some tab).1 h
        refine ⟨max n m, ?_⟩
        rw [exec_mono (callN_mono tab (Nat.le_max_left n m)) (Nat.le_max_left n m) hn]
        exact exec_mono (callN_mono tab (Nat.le_max_right n m)) (Nat.le_max_right n m) hm
      · exact ⟨n, by rw [hn]; exact h⟩
      · exact ⟨n, by rw [hn]; exact h⟩
  · rintro ⟨n, h⟩
    cases hs : exec (callN tab n) (pureOf tab) wl n a σ with
    | none => rw [hs] at h; simp at h
    | some r =>
      rw [hs] at h
      rw [(X_some tab).2 ⟨n, hs⟩]
      obtain ⟨e, τ⟩ := r
      cases e <;> simp only at h ⊢
      · exact (X_some tab).2 ⟨n, h⟩
      · exact h
      · exact h

theorem X_cond (wl : Nat) (x : Opd) (a b : ACode) (σ : St) : X tab wl (.cond x a b) σ = match x.ev σ.env with
    | .bool t => if t then X tab wl a σ else X tab wl b σ
    | _ => none := by
  refine lim_ext (mono_exec tab wl _ σ) fun y => ?_
  simp only [exec]
  generalize x.ev σ.env = v
  cases v with
  | bool t =>
    cases t
    · simp only [Bool.false_eq_true, if_false]; exact X_some tab
    · simp only [if_true]; exact X_some tab
  | _ => simp

theorem X_block (wl id : Nat) (c : ACode) (σ : St) : X tab wl (.block id c) σ = match X tab wl c σ with
    | some (.exit j, τ) => if j = id then some (.normal, τ) else some (.exit j, τ)
    | r => r := by
  refine lim_ext (mono_exec tab wl _ σ) fun y => ?_
  simp only [exec]
  constructor
  · intro h
    cases ha : X tab wl c σ with
    | none => rw [ha] at h; simp at h
    | some r => obtain ⟨n, hn⟩ := (X_some tab).1 ha; exact ⟨n, by rw [hn]; rw [ha] at h; exact h⟩
  · rintro ⟨n, h⟩
    cases hs : exec (callN tab n) (pureOf tab) wl n c σ with
    | none => rw [hs] at h; simp at h
    | some r => rw [(X_some tab).2 ⟨n, hs⟩]; rw [hs] at h; exact h

theorem X_loop (wl : Nat) (c : ACode) (σ : St) : X tab wl (.loop c) σ = match X tab wl c σ with
    | some (.normal, τ) => X tab wl (.loop c) τ
    | r => r := by
  refine lim_ext (mono_exec tab wl _ σ) fun y => ?_
  simp only [exec]
  constructor
  · intro h
    cases ha : X tab wl c σ with
    | none => rw [ha] at h; simp at h
    | some r =>
      rw [ha] at h
      obtain ⟨n, hn⟩ := (X_some tab).1 ha
      obtain ⟨e, τ⟩ := r
      cases e <;> simp only at h
      · obtain ⟨m, hm⟩ := (X_some tab).1 h
        refine ⟨max n m + 1, ?_⟩
        rw [iter, exec_mono (callN_mono tab (by omega)) (by omega) hn]
        simp only [exec] at hm
        exact iter_mono (fun σ y => exec_mono (callN_mono tab (by omega)) (by omega)) (by omega) hm
      · exact ⟨n + 1, by rw [iter, exec_mono (callN_mono tab (by omega)) (by omega) hn]; exact h⟩
      · exact ⟨n + 1, by rw [iter, exec_mono (callN_mono tab (by omega)) (by omega) hn]; exact h⟩
  · rintro ⟨n, h⟩
    cases n with
    | zero => simp [iter] at h
    | succ n =>
      rw [iter] at h
      cases hs : exec (callN tab (n + 1)) (pureOf tab) wl (n + 1) c σ with
      | none => rw [hs] at h; simp at h
      | some r =>
        rw [hs] at h
        rw [(X_some tab).2 ⟨n + 1, hs⟩]
        obtain ⟨e, τ⟩ := r
        cases e <;> simp only at h ⊢
        · refine (X_some tab).2 ⟨n + 1, ?_⟩
          simp only [exec]
          exact iter_mono (fun σ y h => h) (Nat.le_succ n) h
        · exact h
        · exact h

theorem C_eq (wl f : Nat) (args : List AV) (H : Nat → Option Obj) (nx : Nat) : C tab wl f args H nx = match tab f with
    | none => none
    | some af => (ended (X tab (af.low wl nx) af.body (start args H nx))).bind (answer af H nx) := by
  refine lim_ext (mono_call tab wl f args H nx) fun y => ?_
  cases hf : tab f with
  | none =>
    constructor
    · intro h; simp at h
    · rintro ⟨n, h⟩
      cases n with
      | zero => simp [callN] at h
      | succ n => simp [callN, hf] at h
  | some af =>
    simp only
    constructor
    · intro h
      cases hx : X tab (af.low wl nx) af.body (start args H nx) with
      | none => rw [hx] at h; simp [ended] at h
      | some r =>
        rw [hx] at h
        obtain ⟨n, hn⟩ := (X_some tab).1 hx
        cases he : ended (some r) with
        | none => rw [he] at h; simp at h
        | some τ =>
          rw [he] at h
          simp only [Option.bind_some] at h
          refine ⟨n + 1, ?_⟩
          simp only [callN, hf]
          rw [hn, he]
          exact h
    · rintro ⟨n, h⟩
      cases n with
      | zero => simp [callN] at h
      | succ n =>
        simp only [callN, hf] at h
        exact bind_le h (ended_le fun x hx => (X_some tab).2 ⟨n, hx⟩) (fun x hx => hx)
end
end Go.Proofs.Ytmbdccekcfeomaa.Am
