/- The abstract machine's code, stepped through: what must hold ahead of it. -/
import Derived.Test.YtmbdccekcfeomaaT15
section
open Go
namespace Go.Proofs.Ytmbdccekcfeomaa.Am

def Opt {α : Type} (o : Option α) (K : α → Prop) : Prop := ∃ v, o = some v ∧ K v
@[simp] theorem Opt_some {α : Type} (v : α) (K : α → Prop) : Opt (some v) K ↔ K v := by simp [Opt]
@[simp] theorem Opt_none {α : Type} (K : α → Prop) : Opt none K ↔ False := by simp [Opt]
@[congr] theorem Opt_congr {α : Type} {o o' : Option α} (h : o = o') (K : α → Prop) : Opt o K = Opt o' K := by rw [h]
theorem Opt_map {α β : Type} (o : Option α) (f : α → β) (K : β → Prop) : Opt (o.map f) K ↔ Opt o fun v => K (f v) := by cases o <;> simp

section
variable (tab : Nat → Option AFun)

def W (wl : Nat) (c : ACode) (σ : St) (Q : AExit → St → Prop) : Prop := ∃ e τ, X tab wl c σ = some (e, τ) ∧ Q e τ
def R (wl id : Nat) (is : List AInstr) (σ : St) (K : St → Prop) : Prop := ∃ τ, execOps (C tab) wl id is σ = some τ ∧ K τ
def D (wl base id : Nat) (acc : List Fp) (ms : List Nat) (is : List AInstr) (σ : St) (K : St → Prop) : Prop := ∃ τ fs, execD (C tab) (pureOf tab) wl id is σ = some (τ, fs) ∧ clears base acc ms fs = true ∧ K τ
def S (wl id : Nat) (i : AInstr) (σ : St) (K : St → Prop) : Prop := ∃ τ, i.exec (C tab) wl id σ = some τ ∧ K τ
def A (wl id : Nat) (i : AInstr) (σ : St) (K : St → Prop) : Prop := ∃ τ, i.act (C tab) wl id σ = some τ ∧ K τ
def E (wl id : Nat) (o : AOp) (σ : St) (d : Option Nat) (K : AV → St → Prop) : Prop := ∃ v τ, o.eval (C tab) wl id σ d = some (v, τ) ∧ K v τ

variable {tab} {wl : Nat} {σ : St} {Q : AExit → St → Prop} {K : St → Prop}

theorem W_skip : W tab wl .skip σ Q ↔ Q .normal σ := by
  unfold W; rw [X_skip]; exact ⟨fun ⟨e, τ, h, hq⟩ => by simp at h; obtain ⟨rfl, rfl⟩ := h; exact hq, fun h => ⟨_, _, rfl, h⟩⟩
theorem W_exit {id : Nat} : W tab wl (.exit id) σ Q ↔ Q (.exit id) σ := by
  unfold W; rw [X_exit]; exact ⟨fun ⟨e, τ, h, hq⟩ => by simp at h; obtain ⟨rfl, rfl⟩ := h; exact hq, fun h => ⟨_, _, rfl, h⟩⟩
theorem W_ret : W tab wl .ret σ Q ↔ Q .ret σ := by
  unfold W; rw [X_ret]; exact ⟨fun ⟨e, τ, h, hq⟩ => by simp at h; obtain ⟨rfl, rfl⟩ := h; exact hq, fun h => ⟨_, _, rfl, h⟩⟩

/-- Then. -/
def Next (N : St → Prop) (Q : AExit → St → Prop) : AExit → St → Prop
  | .normal, τ => N τ
  | .exit id, τ => Q (.exit id) τ
  | .ret, τ => Q .ret τ
def Out (id : Nat) (Q : AExit → St → Prop) : AExit → St → Prop
  | .normal, τ => Q .normal τ
  | .exit j, τ => if j = id then Q .normal τ else Q (.exit j) τ
  | .ret, τ => Q .ret τ

theorem Next_normal {N : St → Prop} {τ : St} : Next N Q .normal τ ↔ N τ := Iff.rfl
theorem Next_exit {N : St → Prop} {τ : St} {j : Nat} : Next N Q (.exit j) τ ↔ Q (.exit j) τ := Iff.rfl
theorem Next_ret {N : St → Prop} {τ : St} : Next N Q .ret τ ↔ Q .ret τ := Iff.rfl
theorem Out_normal {id : Nat} {τ : St} : Out id Q .normal τ ↔ Q .normal τ := Iff.rfl
theorem Out_exit {id j : Nat} {τ : St} : Out id Q (.exit j) τ ↔ if j = id then Q .normal τ else Q (.exit j) τ := Iff.rfl
theorem Out_here {id : Nat} {τ : St} : Out id Q (.exit id) τ ↔ Q .normal τ := by simp [Out]
theorem Out_ret {id : Nat} {τ : St} : Out id Q .ret τ ↔ Q .ret τ := Iff.rfl

theorem W_seq {a b : ACode} : W tab wl (.seq a b) σ Q ↔ W tab wl a σ (Next (fun τ => W tab wl b τ Q) Q) := by
  unfold W
  rw [X_seq]
  constructor
  · rintro ⟨e, τ, h, hq⟩
    split at h
    · rename_i υ hu; exact ⟨.normal, υ, hu, e, τ, h, hq⟩
    · rename_i r hr
      refine ⟨e, τ, h, ?_⟩
      cases e with
      | normal => exact absurd h (hr _)
      | exit id => exact hq
      | ret => exact hq
  · rintro ⟨e, τ, h, hq⟩
    rw [h]
    cases e with
    | normal => exact hq
    | exit id => exact ⟨_, _, rfl, hq⟩
    | ret => exact ⟨_, _, rfl, hq⟩

theorem W_cond {c : Opd} {a b : ACode} : W tab wl (.cond c a b) σ Q ↔ Opt (match c.ev σ.env with | .bool t => some t | _ => none) fun t => if t = true then W tab wl a σ Q else W tab wl b σ Q := by
  unfold W
  rw [X_cond]
  cases c.ev σ.env <;> simp
  rename_i t; cases t <;> simp

theorem W_block {id : Nat} {c : ACode} : W tab wl (.block id c) σ Q ↔ W tab wl c σ (Out id Q) := by
  unfold W
  rw [X_block]
  constructor
  · rintro ⟨e, τ, h, hq⟩
    split at h
    · rename_i j υ hu
      refine ⟨_, _, hu, ?_⟩
      simp only [Out]
      split at h
      · rename_i hj; simp only [Option.some.injEq, Prod.mk.injEq] at h; obtain ⟨rfl, rfl⟩ := h; rw [if_pos hj]; exact hq
      · rename_i hj; simp only [Option.some.injEq, Prod.mk.injEq] at h; obtain ⟨rfl, rfl⟩ := h; rw [if_neg hj]; exact hq
    · rename_i r hr
      refine ⟨e, τ, h, ?_⟩
      cases e with
      | normal => exact hq
      | exit j => exact absurd h (hr _ _)
      | ret => exact hq
  · rintro ⟨e, τ, h, hq⟩
    rw [h]
    cases e with
    | normal => exact ⟨_, _, rfl, hq⟩
    | exit j =>
      simp only [Out] at hq
      by_cases hj : j = id
      · rw [if_pos hj] at hq; exact ⟨.normal, τ, by simp [hj], hq⟩
      · rw [if_neg hj] at hq; exact ⟨.exit j, τ, by simp [hj], hq⟩
    | ret => exact ⟨_, _, rfl, hq⟩

theorem W_region {is : List AInstr} : W tab wl (.region none is) σ Q ↔ R tab wl σ.nx is { σ with nx := σ.nx + is.length } (Q .normal) := by
  unfold W R
  rw [X_region]
  constructor
  · rintro ⟨e, τ, h, hq⟩
    obtain ⟨υ, hu, e'⟩ := map_some h
    simp only [Prod.mk.injEq] at e'; obtain ⟨rfl, rfl⟩ := e'
    exact ⟨_, hu, hq⟩
  · rintro ⟨τ, h, hq⟩
    exact ⟨_, _, by rw [h]; rfl, hq⟩

theorem W_draw {ms : List Nat} {is : List AInstr} : W tab wl (.region (some ms) is) σ Q ↔ D tab wl σ.nx σ.nx [] ms is { σ with nx := σ.nx + is.length } (Q .normal) := by
  unfold W D
  rw [X_draw]
  constructor
  · rintro ⟨e, τ, h, hq⟩
    split at h
    · rename_i υ fs hu
      split at h
      · rename_i hc
        simp only [Option.some.injEq, Prod.mk.injEq] at h; obtain ⟨rfl, rfl⟩ := h
        exact ⟨_, _, hu, hc, hq⟩
      · simp at h
    · simp at h
  · rintro ⟨τ, fs, h, hc, hq⟩
    exact ⟨.normal, τ, by simp only [h]; rw [if_pos hc], hq⟩

theorem R_nil {id : Nat} : R tab wl id [] σ K ↔ K σ := by simp [R, execOps]
theorem R_cons {id : Nat} {i : AInstr} {is : List AInstr} : R tab wl id (i :: is) σ K ↔ S tab wl id i σ fun τ => R tab wl (id + 1) is τ K := by
  unfold R S
  simp only [execOps]
  constructor
  · rintro ⟨τ, h, hk⟩
    split at h
    · rename_i υ hu; exact ⟨υ, hu, τ, h, hk⟩
    · simp at h
  · rintro ⟨υ, hu, τ, h, hk⟩
    exact ⟨τ, by simp only [hu]; exact h, hk⟩

theorem S_act {id : Nat} {d : Option Nat} {o : AOp} {g : Option (Nat × Bool)} : S tab wl id ⟨d, o, g, []⟩ σ K ↔ A tab wl id ⟨d, o, g, []⟩ σ K := by
  unfold S A
  simp [AInstr.exec, pres]
theorem S_pre {id : Nat} {d : Option Nat} {o : AOp} {g : Option (Nat × Bool)} {p : Bool × Nat} {ps : List (Bool × Nat)} : S tab wl id ⟨d, o, g, p :: ps⟩ σ K ↔ Opt (pres wl (p :: ps) σ) fun τ => A tab wl id ⟨d, o, g, []⟩ τ K := by
  unfold S A
  simp only [AInstr.exec]
  cases h : pres wl (p :: ps) σ <;> simp [AInstr.act]

theorem A_free {id : Nat} {d : Option Nat} {o : AOp} {ps : List (Bool × Nat)} : A tab wl id ⟨d, o, none, ps⟩ σ K ↔ E tab wl id o σ d fun v τ => K (τ.setDst d v) := by
  unfold A E
  simp only [AInstr.act]
  constructor
  · rintro ⟨τ, h, hk⟩
    obtain ⟨r, hr, e⟩ := map_some h
    subst e; exact ⟨r.1, r.2, hr, hk⟩
  · rintro ⟨v, τ, h, hk⟩
    exact ⟨_, by rw [h]; rfl, hk⟩
theorem A_guard {id s : Nat} {b : Bool} {d : Option Nat} {o : AOp} {ps : List (Bool × Nat)} : A tab wl id ⟨d, o, some (s, b), ps⟩ σ K ↔
    Opt (match σ.env s with | .bool t => some (t == b) | .tup cs => if cs.isEmpty then some false else none | _ => none) fun t =>
      if t = true then E tab wl id o σ d (fun v τ => K (τ.setDst d v)) else K (σ.setDst d (.tup [])) := by
  unfold A E
  simp only [AInstr.act]
  cases hs : σ.env s <;> simp only [Opt_some, Opt_none]
  case bool t =>
    by_cases htb : t = b
    · simp only [htb, if_true, beq_self_eq_true]
      constructor
      · rintro ⟨τ, h, hk⟩
        obtain ⟨r, hr, e⟩ := map_some h
        subst e; exact ⟨r.1, r.2, hr, hk⟩
      · rintro ⟨v, τ, h, hk⟩
        exact ⟨_, by rw [h]; rfl, hk⟩
    · have : (t == b) = false := by simp [htb]
      simp [htb]
  case tup cs => cases cs <;> simp
  all_goals simp

theorem D_nil {base id : Nat} {acc : List Fp} : D tab wl base id acc [] [] σ K ↔ K σ := by
  unfold D
  exact ⟨fun ⟨τ, fs, h, hc, hk⟩ => by simp [execD] at h; obtain ⟨rfl, rfl⟩ := h; exact hk, fun h => ⟨_, _, rfl, rfl, h⟩⟩
theorem D_cons {base id m : Nat} {acc : List Fp} {ms : List Nat} {d : Option Nat} {o : AOp} {g : Option (Nat × Bool)} {is : List AInstr} :
    D tab wl base id acc (m :: ms) (⟨d, o, g, []⟩ :: is) σ K ↔ A tab wl id ⟨d, o, g, []⟩ σ fun τ => clear1 base m ((AInstr.mk d o g []).fp (pureOf tab) σ.env) acc = true ∧ D tab wl base (id + 1) (((AInstr.mk d o g []).fp (pureOf tab) σ.env) :: acc) ms is τ K := by
  unfold D A
  simp only [execD, List.isEmpty_nil, if_true]
  constructor
  · rintro ⟨τ, fs, h, hc, hk⟩
    split at h
    · rename_i υ hu
      split at h
      · rename_i ρ fs' hr
        simp only [Option.some.injEq, Prod.mk.injEq] at h; obtain ⟨rfl, rfl⟩ := h
        simp only [clears, Bool.and_eq_true] at hc
        exact ⟨υ, hu, hc.1, ρ, fs', hr, hc.2, hk⟩
      · simp at h
    · simp at h
  · rintro ⟨υ, hu, h1, τ, fs, h, hc, hk⟩
    exact ⟨τ, _, by simp only [hu, h]; rfl, by simp only [clears, Bool.and_eq_true]; exact ⟨h1, hc⟩, hk⟩

/-- A loop, by rounds. -/
theorem W_loop {c : ACode} (I : Nat → St → Prop) (m : Nat) (h0 : I m σ) (step : ∀ m σ, I m σ → W tab wl c σ (Next (fun τ => ∃ m', m' < m ∧ I m' τ) Q)) : W tab wl (.loop c) σ Q := by
  induction m using Nat.strongRecOn generalizing σ with
  | _ m ih =>
    obtain ⟨e, τ, h, hq⟩ := step m σ h0
    unfold W
    rw [X_loop, h]
    cases e with
    | normal =>
      obtain ⟨m', hm, hI⟩ := hq
      exact ih m' hm hI
    | exit id => exact ⟨_, _, rfl, hq⟩
    | ret => exact ⟨_, _, rfl, hq⟩

/-- .. by a count that goes up. -/
theorem W_up {c : ACode} (N : Nat) (I : Nat → St → Prop) (h0 : I 0 σ) (step : ∀ k σ, k ≤ N → I k σ → W tab wl c σ (Next (fun τ => k < N ∧ I (k + 1) τ) Q)) : W tab wl (.loop c) σ Q := by
  refine W_loop (fun m σ => ∃ k, k ≤ N ∧ m = N - k ∧ I k σ) N ⟨0, Nat.zero_le _, rfl, h0⟩ ?_
  rintro m σ ⟨k, hk, rfl, hI⟩
  obtain ⟨e, τ, h, hq⟩ := step k σ hk hI
  refine ⟨e, τ, h, ?_⟩
  cases e with
  | normal => exact ⟨N - (k + 1), by have := hq.1; omega, k + 1, hq.1, rfl, hq.2⟩
  | exit id => exact hq
  | ret => exact hq

theorem W_mono {c : ACode} {Q' : AExit → St → Prop} (h : W tab wl c σ Q) (hq : ∀ e τ, Q e τ → Q' e τ) : W tab wl c σ Q' := by
  obtain ⟨e, τ, h, hq'⟩ := h
  exact ⟨e, τ, h, hq _ _ hq'⟩

/-! ### calls -/

/-- A body's end. -/
def Ends (K : St → Prop) : AExit → St → Prop
  | .normal, τ => K τ
  | .ret, τ => K τ
  | .exit _, _ => False
theorem Ends_normal {τ : St} : Ends K .normal τ ↔ K τ := Iff.rfl
theorem Ends_ret {τ : St} : Ends K .ret τ ↔ K τ := Iff.rfl

/-- A call that comes to something. -/
def Call (tab : Nat → Option AFun) (wl f : Nat) (args : List AV) (H : Nat → Option Obj) (nx : Nat) (K : AV → (Nat → Option Obj) → Nat → Prop) : Prop := ∃ r H' nx', C tab wl f args H nx = some (r, H', nx') ∧ K r H' nx'

theorem call_body {f : Nat} {af : AFun} (hf : tab f = some af) {args : List AV} {H : Nat → Option Obj} {nx : Nat} {K : AV → (Nat → Option Obj) → Nat → Prop}
    (h : W tab (af.low wl nx) af.body (start args H nx) (Ends fun τ => Opt (answer af H nx τ) fun r => K r.1 r.2.1 r.2.2)) : Call tab wl f args H nx K := by
  obtain ⟨e, τ, hx, hq⟩ := h
  unfold Call
  rw [C_eq, hf]
  simp only [hx]
  have key : Opt (answer af H nx τ) (fun r => K r.1 r.2.1 r.2.2) → ended (some (e, τ)) = some τ → ∃ r H' nx', (ended (some (e, τ))).bind (answer af H nx) = some (r, H', nx') ∧ K r H' nx' := by
    rintro ⟨r, hr, hk⟩ he
    exact ⟨r.1, r.2.1, r.2.2, by rw [he]; exact hr, hk⟩
  cases e with
  | normal => exact key hq rfl
  | ret => exact key hq rfl
  | exit id => exact hq.elim

theorem call_eq {f : Nat} {args : List AV} {H : Nat → Option Obj} {nx : Nat} {r : AV} {H' : Nat → Option Obj} {nx' : Nat} : Call tab wl f args H nx (fun x H1 n => x = r ∧ H1 = H' ∧ n = nx') ↔ C tab wl f args H nx = some (r, H', nx') := by
  unfold Call
  constructor
  · rintro ⟨x, H1, n, h, rfl, rfl, rfl⟩; exact h
  · intro h; exact ⟨_, _, _, h, rfl, rfl, rfl⟩

end
end Go.Proofs.Ytmbdccekcfeomaa.Am
end
/- What must hold ahead of an operation of the abstract machine. -/
section
open Go
namespace Go.Proofs.Ytmbdccekcfeomaa.Am

def boolV : AV → Option Bool
  | .bool b => some b
  | _ => none
def cloV : AV → Option (Nat × List AV)
  | .clo f cap => some (f, cap)
  | _ => none
def ncheckV : AV → Option AV
  | .fptr x o => some (.fptr x o)
  | .ptr a b c => some (.ptr a b c)
  | .loc a b c => some (.loc a b c)
  | .clo a b => some (.clo a b)
  | _ => none
def lenV : AV → Option AV
  | .nilSlice | .eslice => some (.int .i64 0)
  | .slice _ es => some (.int .i64 es.length)
  | .lref _ _ n => some (.int .i64 n)
  | _ => none
def eqbV (neg : Bool) : AV → AV → Option AV
  | .bool a, .bool b => some (.bool (if neg then !(a == b) else (a == b)))
  | _, _ => none
def eqsV (ks : List Nat) (neg : Bool) : AV → AV → Option AV
  | .agg xs, .agg ys => (eqCells ks xs ys).map fun b => .bool (if neg then !b else b)
  | _, _ => none
def faddrV (off : Nat) : AV → Option AV
  | .fptr v o => some (.fptr v (o + off))
  | .ptr i j o => some (.ptr i j (o + off))
  | .loc s st o => some (.loc s st (o + off))
  | _ => none
def fieldV (off sz : Nat) (agg : Bool) : AV → Option AV
  | .agg cs => part sz agg (.agg cs) off
  | _ => none
def extractV (i : Nat) : AV → Option AV
  | .tup vs => vs[i]?
  | _ => none
def iaddrV (H : Nat → Option Obj) (sz : Nat) (x : AV) : AV → Option AV
  | .int _ n => if 0 ≤ n then
      match x with
      | .slice m es => if m = sz then (es[n.toNat]?).map fun e => .fptr e 0 else none
      | .lref id j m0 => match H id with
        | some (.arr m _) => if m = sz ∧ n < m0 then some (.ptr id (j + n.toNat) 0) else none
        | _ => none
      | _ => none
    else none
  | _ => none
def iaddrAV (n sz : Nat) (x : AV) : AV → Option AV
  | .int _ k => if 0 ≤ k ∧ k < n then
      match x with
      | .fptr v o => some (.fptr v (o + k.toNat * sz))
      | .ptr i j o => some (.ptr i j (o + k.toNat * sz))
      | .loc s st o => some (.loc s st (o + k.toNat * sz))
      | _ => none
    else none
  | _ => none
def indexAV (n sz : Nat) (agg : Bool) (x : AV) : AV → Option AV
  | .int _ k => match x with
    | .agg cs => if 0 ≤ k ∧ k < n then part sz agg (.agg cs) (k.toNat * sz) else none
    | _ => none
  | _ => none
def sliceV (H : Nat → Option Obj) (sz : Nat) (x : AV) (l : Option Nat) (h : Nat → Option Nat) : Option AV :=
  match x with
  | .nilSlice => match l, h 0 with
    | some 0, some 0 => some .nilSlice
    | _, _ => none
  | .eslice => match l, h 0 with
    | some 0, some 0 => some .eslice
    | _, _ => none
  | .slice m es => match l, h es.length with
    | some l, some h => if m = sz ∧ l ≤ h ∧ h ≤ es.length then some (.slice sz ((es.drop l).take (h - l))) else none
    | _, _ => none
  | .lref i j n => match H i with
    | some (.arr m es) => match l, h n with
      | some l, some h => if m = sz ∧ l ≤ h ∧ j + h ≤ es.length then some (.lref i (j + l) (h - l)) else none
      | _, _ => none
    | _ => none
  | _ => none
def mkV (bytes : Nat) : AV → AV → Option Nat
  | .int .i64 l, .int .i64 c => if 0 ≤ l ∧ l ≤ c ∧ c * bytes ≤ 140737488355328 then some l.toNat else none
  | _, _ => none
def maxV' (f : AV → AV → Option AV) (x y : AV) (more : List AV) : Option AV :=
  match f x y with
  | some z => foldV f z more
  | none => none
/-- A name that an append gives, or takes. -/
def appendV (wl id : Nat) (froz : Bool) (sz bytes : Nat) (H : Nat → Option Obj) (ys : List AV) : AV → Option (AV × (Nat → Option Obj))
  | .nilSlice => if ys.length = 0 then some (.nilSlice, H) else
      if ys.length * bytes ≤ 140737488355328 then
        (if froz then (if AV.solids ys = true then some (.slice sz ys, H) else none)
         else some (.lref id 0 ys.length, upd H id (some (.arr sz ys))))
      else none
  | .eslice => if ys.length = 0 then some (.eslice, H) else
      if ys.length * bytes ≤ 140737488355328 then
        (if froz then (if AV.solids ys = true then some (.slice sz ys, H) else none)
         else some (.lref id 0 ys.length, upd H id (some (.arr sz ys))))
      else none
  | .lref i j n => if wl ≤ i then
      match H i with
      | some (.arr m es) => if m = sz ∧ j + n ≤ es.length ∧ (n + ys.length) * bytes ≤ 140737488355328 then
          (if froz then (if AV.solids ((es.drop j).take n ++ ys) = true then
              some (.slice sz ((es.drop j).take n ++ ys), upd H i none) else none)
           else if j + n + ys.length ≤ es.length then
            some (.lref i j (n + ys.length), upd H i (some (.arr m (es.take (j + n) ++ ys ++ es.drop (j + n + ys.length)))))
           else some (.lref id 0 (n + ys.length), upd (upd H i none) id (some (.arr sz ((es.drop j).take n ++ ys)))))
        else none
      | _ => none
    else none
  | _ => none

section
variable {tab : Nat → Option AFun} {wl id : Nat} {σ : St} {d : Option Nat} {K : AV → St → Prop}

theorem E_of {o : AOp} {r : Option AV} (h : o.eval (C tab) wl id σ d = r.map fun v => (v, σ)) : E tab wl id o σ d K ↔ Opt r fun v => K v σ := by
  unfold E Opt
  rw [h]
  cases r <;> simp
  exact ⟨fun ⟨a, b, ⟨h1, h2⟩, h3⟩ => by subst h1; subst h2; exact h3, fun h => ⟨_, _, ⟨rfl, rfl⟩, h⟩⟩
theorem E_to {o : AOp} {r : Option (AV × St)} (h : o.eval (C tab) wl id σ d = r) : E tab wl id o σ d K ↔ Opt r fun p => K p.1 p.2 := by
  unfold E Opt
  rw [h]
  exact ⟨fun ⟨v, τ, e, k⟩ => ⟨_, e, k⟩, fun ⟨p, e, k⟩ => ⟨p.1, p.2, e, k⟩⟩
theorem E_set {o : AOp} {v : AV} {τ : St} (h : o.eval (C tab) wl id σ d = some (v, τ)) : E tab wl id o σ d K ↔ K v τ := by
  rw [E_to h]; simp

theorem E_mov {x : Opd} : E tab wl id (.mov x) σ d K ↔ K (x.ev σ.env) σ := E_set rfl
theorem E_pick {c a b : Opd} : E tab wl id (.pick c a b) σ d K ↔ Opt (boolV (c.ev σ.env)) fun t => K (if t = true then a.ev σ.env else b.ev σ.env) σ := by
  rw [E_of (r := (boolV (c.ev σ.env)).map fun t => if t = true then a.ev σ.env else b.ev σ.env)]
  · rw [Opt_map]
  · simp only [AOp.eval]; cases c.ev σ.env <;> rfl
theorem E_lalloc {z : AV} {s : Nat} : E tab wl id (.lalloc z) σ (some s) K ↔ K (.loc s id 0) { σ with lo := upd σ.lo s (some (id, z)) } := E_set rfl
theorem E_halloc {z : AV} : E tab wl id (.halloc z) σ d K ↔ K (.ptr id 0 0) { σ with H := upd σ.H id (some (.arr z.cells.length [z])) } := E_set rfl
theorem E_fbox {x : Opd} : E tab wl id (.fbox x) σ d K ↔ ((x.ev σ.env).solid = true ∧ (x.ev σ.env).storable = true) ∧ K (.fptr (x.ev σ.env) 0) σ := by
  unfold E; simp only [AOp.eval]
  split
  · rename_i h; simp only [h]; exact ⟨fun ⟨v, τ, e, k⟩ => by simp at e; obtain ⟨rfl, rfl⟩ := e; exact ⟨by simp, k⟩, fun h => ⟨_, _, rfl, h.2⟩⟩
  · rename_i h; simp [h]
theorem E_lbox {x : Opd} {s : Nat} : E tab wl id (.lbox x) σ (some s) K ↔ (x.ev σ.env).storable = true ∧ K (.loc s id 0) { σ with lo := upd σ.lo s (some (id, x.ev σ.env)) } := by
  unfold E; simp only [AOp.eval]
  split
  · rename_i h; simp only [h]; exact ⟨fun ⟨v, τ, e, k⟩ => by simp at e; obtain ⟨rfl, rfl⟩ := e; exact ⟨by simp, k⟩, fun h => ⟨_, _, rfl, h.2⟩⟩
  · rename_i h; simp [h]
theorem E_hbox {x : Opd} : E tab wl id (.hbox x) σ d K ↔ (x.ev σ.env).storable = true ∧ K (.ptr id 0 0) { σ with H := upd σ.H id (some (.arr (x.ev σ.env).cells.length [x.ev σ.env])) } := by
  unfold E; simp only [AOp.eval]
  split
  · rename_i h; simp only [h]; exact ⟨fun ⟨v, τ, e, k⟩ => by simp at e; obtain ⟨rfl, rfl⟩ := e; exact ⟨by simp, k⟩, fun h => ⟨_, _, rfl, h.2⟩⟩
  · rename_i h; simp [h]
theorem E_build {z : List AV} {ps : List (Nat × Nat × Opd)} : E tab wl id (.build z ps) σ d K ↔ Opt (fills σ.env z ps) fun cs => K (.agg cs) σ := by
  rw [E_of (r := (fills σ.env z ps).map AV.agg)]
  · rw [Opt_map]
  · simp only [AOp.eval]; cases fills σ.env z ps <;> rfl
theorem E_bslice_live {sz n : Nat} {z : List AV} {ps : List (Nat × Nat × Opd)} : E tab wl id (.bslice true sz n z ps) σ d K ↔ Opt (fills σ.env z ps) fun cs => AV.nols cs = true ∧ K (.lref id 0 n) { σ with H := upd σ.H id (some (.arr sz (chop sz n cs))) } := by
  unfold E; simp only [AOp.eval]
  cases fills σ.env z ps with
  | none => simp
  | some cs =>
    simp only [if_true, Opt_some]
    split
    · rename_i h; exact ⟨fun ⟨v, τ, e, k⟩ => by simp at e; obtain ⟨rfl, rfl⟩ := e; exact ⟨h, k⟩, fun h => ⟨_, _, rfl, h.2⟩⟩
    · rename_i h; simp [h]
theorem E_bslice {sz n : Nat} {z : List AV} {ps : List (Nat × Nat × Opd)} : E tab wl id (.bslice false sz n z ps) σ d K ↔ Opt (fills σ.env z ps) fun cs => AV.solids cs = true ∧ K (.slice sz (chop sz n cs)) σ := by
  unfold E; simp only [AOp.eval]
  cases fills σ.env z ps with
  | none => simp
  | some cs =>
    simp only [Bool.false_eq_true, if_false, Opt_some]
    split
    · rename_i h; exact ⟨fun ⟨v, τ, e, k⟩ => by simp at e; obtain ⟨rfl, rfl⟩ := e; exact ⟨h, k⟩, fun h => ⟨_, _, rfl, h.2⟩⟩
    · rename_i h; simp [h]
theorem E_load {sz : Nat} {agg : Bool} {a : Opd} : E tab wl id (.load sz agg a) σ d K ↔ Opt (σ.load sz agg (a.ev σ.env)) fun v => K v σ := E_of rfl
theorem E_store {sz : Nat} {a v : Opd} : E tab wl id (.store sz a v) σ d K ↔ Opt (σ.store wl sz (a.ev σ.env) (v.ev σ.env)) fun τ => K .undef τ := by
  rw [E_to rfl]; simp only [AOp.eval]; rw [Opt_map]
theorem E_ncheck {x : Opd} : E tab wl id (.ncheck x) σ d K ↔ Opt (ncheckV (x.ev σ.env)) fun v => K v σ := E_of (by simp only [AOp.eval]; cases x.ev σ.env <;> rfl)
theorem E_bin {op : BinOp} {x y : Opd} : E tab wl id (.bin op x y) σ d K ↔ Opt (binV op (x.ev σ.env) (y.ev σ.env)) fun v => K v σ := E_of rfl
theorem E_eqb {neg : Bool} {x y : Opd} : E tab wl id (.eqb neg x y) σ d K ↔ Opt (eqbV neg (x.ev σ.env) (y.ev σ.env)) fun v => K v σ := E_of (by simp only [AOp.eval]; cases x.ev σ.env <;> (try rfl) <;> cases y.ev σ.env <;> rfl)
theorem E_eqnil {neg : Bool} {x : Opd} : E tab wl id (.eqnil neg x) σ d K ↔ Opt (isNilSlice (x.ev σ.env)) fun b => K (.bool (if neg then !b else b)) σ := by
  rw [E_of (r := (isNilSlice (x.ev σ.env)).map fun b => .bool (if neg then !b else b))]
  · rw [Opt_map]
  · simp only [AOp.eval]; cases isNilSlice (x.ev σ.env) <;> rfl
theorem E_eqs {ks : List Nat} {neg : Bool} {x y : Opd} : E tab wl id (.eqs ks neg x y) σ d K ↔ Opt (eqsV ks neg (x.ev σ.env) (y.ev σ.env)) fun v => K v σ := E_of (by
  simp only [AOp.eval]
  cases x.ev σ.env <;> (try rfl) <;> cases y.ev σ.env <;> (try rfl)
  rename_i xs ys
  simp only [eqsV]; cases eqCells ks xs ys <;> rfl)
theorem E_un {op : UnOp} {x : Opd} : E tab wl id (.un op x) σ d K ↔ Opt (unV op (x.ev σ.env)) fun v => K v σ := E_of rfl
theorem E_mkfn {f : Nat} {cap : List Opd} : E tab wl id (.mkfn f cap) σ d K ↔ K (.clo f (cap.map fun x => x.ev σ.env)) σ := E_set rfl
theorem E_mkmap {kd : Option IntKind} : E tab wl id (.mkmap kd) σ d K ↔ K (.map id) { σ with H := upd σ.H id (some (newMap kd)) } := E_set rfl
theorem E_mkslice {sz bytes : Nat} {z : AV} {x y : Opd} : E tab wl id (.mkslice sz bytes z x y) σ d K ↔
    Opt (mkV bytes (x.ev σ.env) (y.ev σ.env)) fun n => K (.lref id 0 n) { σ with H := upd σ.H id (some (.arr sz (List.replicate n z))) } := by
  rw [E_to (r := (mkV bytes (x.ev σ.env) (y.ev σ.env)).map fun n => (.lref id 0 n, { σ with H := upd σ.H id (some (.arr sz (List.replicate n z))) }))]
  · rw [Opt_map]
  · simp only [AOp.eval]
    generalize x.ev σ.env = p
    generalize y.ev σ.env = q
    cases p with
    | int k l =>
      cases k <;> (try rfl)
      cases q with
      | int k' c =>
        cases k' <;> (try rfl)
        simp only [mkV]
        split <;> rfl
      | _ => rfl
    | _ => rfl
theorem E_slice {sz : Nat} {x : Opd} {lo hi : Option Opd} : E tab wl id (.slice sz x lo hi) σ d K ↔ Opt (sliceV σ.H sz (x.ev σ.env) (bound σ.env 0 lo) fun n => bound σ.env n hi) fun v => K v σ := E_of (by
  simp only [AOp.eval, sliceV]
  generalize bound σ.env 0 lo = l
  cases x.ev σ.env <;> (try rfl) <;> simp only
  · generalize bound σ.env 0 hi = h
    cases l with
    | none => rfl
    | some l => cases h with
      | none => cases l <;> rfl
      | some h => cases l <;> cases h <;> rfl
  · rename_i m es
    generalize bound σ.env es.length hi = h
    cases l with
    | none => rfl
    | some l => cases h with
      | none => rfl
      | some h => simp only; split <;> rfl
  · generalize bound σ.env 0 hi = h
    cases l with
    | none => rfl
    | some l => cases h with
      | none => cases l <;> rfl
      | some h => cases l <;> cases h <;> rfl
  · rename_i i j n
    cases σ.H i with
    | none => rfl
    | some o =>
      cases o <;> (try rfl)
      generalize bound σ.env n hi = h
      cases l with
      | none => rfl
      | some l => cases h with
        | none => rfl
        | some h => simp only; split <;> rfl)
theorem E_faddr {off : Nat} {x : Opd} : E tab wl id (.faddr off x) σ d K ↔ Opt (faddrV off (x.ev σ.env)) fun v => K v σ := E_of (by simp only [AOp.eval]; cases x.ev σ.env <;> rfl)
theorem E_field {off sz : Nat} {agg : Bool} {x : Opd} : E tab wl id (.field off sz agg x) σ d K ↔ Opt (fieldV off sz agg (x.ev σ.env)) fun v => K v σ := E_of (by simp only [AOp.eval]; cases x.ev σ.env <;> rfl)
theorem E_iaddr {sz : Nat} {x i : Opd} : E tab wl id (.iaddr sz x i) σ d K ↔ Opt (iaddrV σ.H sz (x.ev σ.env) (i.ev σ.env)) fun v => K v σ := E_of (by
  simp only [AOp.eval]
  cases i.ev σ.env <;> (try rfl)
  simp only [iaddrV]
  split <;> (try rfl)
  cases x.ev σ.env <;> (try rfl) <;> simp only
  · split <;> (try rfl)
    rename_i n _ m es _
    cases es[n.toNat]? <;> rfl
  · repeat' split
    all_goals first | rfl | (simp_all; done))
theorem E_iaddrA {n sz : Nat} {x i : Opd} : E tab wl id (.iaddrA n sz x i) σ d K ↔ Opt (iaddrAV n sz (x.ev σ.env) (i.ev σ.env)) fun v => K v σ := E_of (by
  simp only [AOp.eval]
  cases i.ev σ.env <;> (try rfl)
  simp only [iaddrAV]
  split <;> (try rfl)
  cases x.ev σ.env <;> rfl)
theorem E_indexA {n sz : Nat} {agg : Bool} {x i : Opd} : E tab wl id (.indexA n sz agg x i) σ d K ↔ Opt (indexAV n sz agg (x.ev σ.env) (i.ev σ.env)) fun v => K v σ := E_of (by
  simp only [AOp.eval]
  cases i.ev σ.env <;> (try rfl)
  cases x.ev σ.env <;> (try rfl)
  simp only [indexAV]
  split <;> rfl)
theorem E_extract {i : Nat} {x : Opd} : E tab wl id (.extract i x) σ d K ↔ Opt (extractV i (x.ev σ.env)) fun v => K v σ := E_of (by simp only [AOp.eval]; cases x.ev σ.env <;> rfl)
theorem E_len {x : Opd} : E tab wl id (.len x) σ d K ↔ Opt (lenV (x.ev σ.env)) fun v => K v σ := E_of (by simp only [AOp.eval]; cases x.ev σ.env <;> rfl)
theorem E_max {x y : Opd} {more : List Opd} : E tab wl id (.max x y more) σ d K ↔ Opt (maxV' maxV (x.ev σ.env) (y.ev σ.env) (more.map fun x => x.ev σ.env)) fun v => K v σ := E_of (by
  simp only [AOp.eval, maxV']; cases maxV (x.ev σ.env) (y.ev σ.env) <;> rfl)
theorem E_min {x y : Opd} {more : List Opd} : E tab wl id (.min x y more) σ d K ↔ Opt (maxV' minV (x.ev σ.env) (y.ev σ.env) (more.map fun x => x.ev σ.env)) fun v => K v σ := E_of (by
  simp only [AOp.eval, maxV']; cases minV (x.ev σ.env) (y.ev σ.env) <;> rfl)
theorem E_call {f : Opd} {args : List Opd} : E tab wl id (.call f args) σ d K ↔ Opt (cloV (f.ev σ.env)) fun p =>
    AV.nols (args.map (fun x => x.ev σ.env) ++ p.2) = true ∧ Call tab wl p.1 (args.map (fun x => x.ev σ.env) ++ p.2) σ.H σ.nx fun r H' nx' => K r { σ with H := H', nx := nx' } := by
  unfold E Call
  simp only [AOp.eval]
  cases hf : f.ev σ.env
  case clo g cap =>
    simp only [cloV]
    rw [Opt_some]
    by_cases h : AV.nols (args.map (fun x => x.ev σ.env) ++ cap) = true
    · constructor
      · rintro ⟨v, τ, e, k⟩
        rw [if_pos h] at e
        obtain ⟨r, hr, e⟩ := map_some e
        simp only [Prod.mk.injEq] at e; obtain ⟨rfl, rfl⟩ := e
        exact ⟨h, r.1, r.2.1, r.2.2, hr, k⟩
      · rintro ⟨_, r, H', nx', e, k⟩
        exact ⟨r, _, by rw [if_pos h, e]; rfl, k⟩
    · constructor
      · rintro ⟨v, τ, e, k⟩; rw [if_neg h] at e; cases e
      · rintro ⟨h', _⟩; exact absurd h' h
  all_goals simp [cloV]
theorem E_append {froz : Bool} {sz bytes : Nat} {x y : Opd} : E tab wl id (.append froz sz bytes x y) σ d K ↔
    Opt (σ.elems sz (y.ev σ.env)) fun ys => Opt (appendV wl id froz sz bytes σ.H ys (x.ev σ.env)) fun p => K p.1 { σ with H := p.2 } := by
  unfold E
  simp only [AOp.eval]
  cases σ.elems sz (y.ev σ.env) with
  | none => simp
  | some ys =>
    simp only [Opt_some]
    have : ∀ (r : Option (AV × St)) (r' : Option (AV × (Nat → Option Obj))), r = r'.map (fun p => (p.1, { σ with H := p.2 })) → ((∃ v τ, r = some (v, τ) ∧ K v τ) ↔ Opt r' fun p => K p.1 { σ with H := p.2 }) := by
      rintro r r' rfl
      cases r' <;> simp
      exact ⟨fun ⟨a, b, ⟨h1, h2⟩, h3⟩ => by subst h1; subst h2; exact h3, fun h => ⟨_, _, ⟨rfl, rfl⟩, h⟩⟩
    refine this _ _ ?_
    cases x.ev σ.env with
    | nilSlice =>
      simp only [appendV]
      split
      · rfl
      · split
        · cases froz
          · rfl
          · simp only [if_true]; split <;> rfl
        · rfl
    | eslice =>
      simp only [appendV]
      split
      · rfl
      · split
        · cases froz
          · rfl
          · simp only [if_true]; split <;> rfl
        · rfl
    | lref i j n =>
      simp only [appendV]
      split
      · cases σ.H i with
        | none => rfl
        | some o =>
          cases o with
          | arr m es =>
            simp only
            split
            · cases froz
              · simp only [Bool.false_eq_true, if_false]; split <;> rfl
              · simp only [if_true]; split <;> rfl
            · rfl
          | _ => rfl
      · rfl
    | _ => rfl

end
end Go.Proofs.Ytmbdccekcfeomaa.Am
end
/- Trees of first order as values of the abstract machine. -/
section
open Go
namespace Go.Proofs.Ytmbdccekcfeomaa.Am

/-! ### slices by value -/

/-- A slice by value; 'nil' matters when it has no elements. -/
def sl (sz : Nat) (nil : Bool) (es : List AV) : AV := if nil = true ∧ es = [] then .nilSlice else .slice sz es

theorem sl_cases {sz : Nat} {nil : Bool} {es : List AV} {P : AV → Prop} (h1 : nil = true → es = [] → P .nilSlice) (h2 : P (.slice sz es)) : P (sl sz nil es) := by
  unfold sl; split
  · rename_i h; exact h1 h.1 h.2
  · exact h2

theorem lenV_sl {sz : Nat} {nil : Bool} {es : List AV} : lenV (sl sz nil es) = some (.int .i64 es.length) :=
  sl_cases (P := fun v => lenV v = some (.int .i64 es.length)) (fun _ h => by subst h; rfl) rfl
theorem iaddrV_sl {H : Nat → Option Obj} {sz : Nat} {nil : Bool} {es : List AV} {k : IntKind} {i : Nat} (hi : i < es.length) : iaddrV H sz (sl sz nil es) (.int k i) = some (.fptr es[i] 0) := by
  refine sl_cases (P := fun v => iaddrV H sz v (.int k i) = some (.fptr es[i] 0)) (fun _ h => by subst h; simp at hi) ?_
  simp [iaddrV, hi]
theorem cells_sl {sz : Nat} {nil : Bool} {es : List AV} : (sl sz nil es).cells = [sl sz nil es] :=
  sl_cases (P := fun v => v.cells = [v]) (fun _ _ => rfl) rfl
theorem isAgg_sl {sz : Nat} {nil : Bool} {es : List AV} : (sl sz nil es).isAgg = false := sl_cases (P := fun v => v.isAgg = false) (fun _ _ => rfl) rfl
theorem one_sl {sz : Nat} {nil : Bool} {es : List AV} : (sl sz nil es).one = true := sl_cases (P := fun v => v.one = true) (fun _ _ => rfl) rfl
theorem solid_sl {sz : Nat} {nil : Bool} {es : List AV} : (sl sz nil es).solid = true := sl_cases (P := fun v => v.solid = true) (fun _ _ => rfl) rfl
theorem nol_sl {sz : Nat} {nil : Bool} {es : List AV} : (sl sz nil es).nol = true := sl_cases (P := fun v => v.nol = true) (fun _ _ => rfl) rfl
theorem storable_sl {sz : Nat} {nil : Bool} {es : List AV} : (sl sz nil es).storable = true := sl_cases (P := fun v => v.storable = true) (fun _ _ => rfl) rfl
theorem elems_sl {σ : St} {sz : Nat} {nil : Bool} {es : List AV} : σ.elems sz (sl sz nil es) = some es :=
  sl_cases (P := fun v => σ.elems sz v = some es) (fun _ h => by subst h; rfl) (by simp [St.elems])
theorem cellOf_sl {sz : Nat} {nil : Bool} {es : List AV} : cellOf (sl sz nil es) = .none := sl_cases (P := fun v => cellOf v = .none) (fun _ _ => rfl) rfl
theorem isNil_sl {sz : Nat} {nil : Bool} {es : List AV} : isNilSlice (sl sz nil es) = some (decide (nil = true ∧ es = [])) := by
  unfold sl; split <;> rename_i h <;> simp [isNilSlice, h]

/-! ### trees -/

inductive T where
  | mk (h : Int) (nil : Bool) (ks : List T)

theorem T.ind {P : T → Prop} (h : ∀ h b ks, (∀ k ∈ ks, P k) → P (.mk h b ks)) : ∀ t, P t
  | .mk a b ks => h a b ks fun k _ => T.ind h k

def T.h : T → Int
  | .mk h _ _ => h
def T.nil : T → Bool
  | .mk _ b _ => b
def T.ks : T → List T
  | .mk _ _ ks => ks

mutual
def T.av : T → AV
  | .mk h b ks => .agg [.int .i64 h, sl 2 b (T.avs ks)]
def T.avs : List T → List AV
  | [] => []
  | k :: ks => k.av :: T.avs ks
end
theorem T.avs_eq : ∀ ks : List T, T.avs ks = ks.map T.av
  | [] => rfl
  | k :: ks => by simp [T.avs, T.avs_eq ks]
theorem T.av_eq (t : T) : t.av = .agg [.int .i64 t.h, sl 2 t.nil (t.ks.map T.av)] := by
  cases t; simp [T.av, T.h, T.nil, T.ks, T.avs_eq]

end Go.Proofs.Ytmbdccekcfeomaa.Am
end
