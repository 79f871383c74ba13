/- What an operation of the abstract machine looks at, and what it leaves. -/
import Derived.Test.YtmbdccekcfeomaaT13
open Go
namespace Go.Proofs.Ytmbdccekcfeomaa.Am

def AOp.opds : AOp → List Opd
  | .mov x | .fbox x | .lbox x | .hbox x | .load _ _ x | .ncheck x | .eqnil _ x | .un _ x | .faddr _ x | .field _ _ _ x | .extract _ x | .len x | .lenstr x | .lenmap x | .clear _ x => [x]
  | .pick c a b => [c, a, b]
  | .lalloc _ | .halloc _ | .mkmap _ => []
  | .build _ ps | .bslice _ _ _ _ ps => ps.map fun p => p.2.2
  | .store _ a v => [a, v]
  | .bin _ x y | .eqb _ x y | .eqs _ _ x y | .iaddr _ x y | .iaddrA _ _ x y | .indexA _ _ _ x y | .indexS x y | .append _ _ _ x y => [x, y]
  | .mkslice _ _ _ x y | .lookup _ _ _ x y => [x, y]
  | .mapup _ m k v => [m, k, v]
  | .mkfn _ cap => cap
  | .slice _ x lo hi | .slstr x lo hi => x :: (lo.toList ++ hi.toList)
  | .slice3 x lo hi mx => x :: hi :: mx :: lo.toList
  | .call f args => f :: args
  | .max x y more | .min x y more => x :: y :: more

def Opd.slot : Opd → List Nat
  | .t n => [n]
  | .c _ => []

theorem fills_congr {env env' : Nat → AV} : ∀ {ps : List (Nat × Nat × Opd)} {cs : List AV}, (∀ x ∈ ps.map (fun p => p.2.2), x.ev env' = x.ev env) → fills env' cs ps = fills env cs ps
  | [], cs, _ => rfl
  | (off, sz, x) :: ps, cs, h => by
    have hx : x.ev env' = x.ev env := h x (by simp)
    simp only [fills, hx]
    rw [fills_congr (fun y hy => h y (by simp only [List.map_cons, List.mem_cons]; exact .inr hy))]

theorem map_congr_opds {env env' : Nat → AV} {xs : List Opd} (h : ∀ x ∈ xs, x.ev env' = x.ev env) : xs.map (fun x => x.ev env') = xs.map (fun x => x.ev env) := List.map_congr_left h

theorem bound_congr {env env' : Nat → AV} {d : Nat} {o : Option Opd} (h : ∀ x ∈ o.toList, x.ev env' = x.ev env) : bound env' d o = bound env d o := by
  cases o with
  | none => rfl
  | some x => simp only [bound, h x (by simp)]

/-- Slots that are not looked at do not matter. -/
theorem eval_slots {call : CallF} {wl id : Nat} {o : AOp} {env env' : Nat → AV} {lo : Nat → Option (Nat × AV)} {H : Nat → Option Obj} {nx : Nat} {d : Option Nat} (h : ∀ x ∈ o.opds, x.ev env' = x.ev env) {v : AV} {σ1 : St}
    (he : o.eval call wl id ⟨env, lo, H, nx⟩ d = some (v, σ1)) : o.eval call wl id ⟨env', lo, H, nx⟩ d = some (v, { σ1 with env := env' }) := by
  cases o with
  | store sz a x =>
    simp only [AOp.opds, List.mem_cons, List.not_mem_nil, or_false, forall_eq_or_imp, forall_eq] at h
    simp only [AOp.eval, h.1, h.2] at he ⊢
    obtain ⟨τ, ht, e⟩ := map_some he
    simp only [Prod.mk.injEq] at e; obtain ⟨rfl, rfl⟩ := e
    simp only [St.store] at ht ⊢
    repeat' split at ht
    all_goals (try (simp at ht; done))
    all_goals simp_all
    all_goals (subst ht; simp)
  | build z ps =>
    simp only [AOp.opds] at h
    simp only [AOp.eval, fills_congr h] at he ⊢
    obtain ⟨τ, ht, e⟩ := map_some he
    simp only [Prod.mk.injEq] at e; obtain ⟨rfl, rfl⟩ := e
    rw [ht]; rfl
  | bslice live sz n z ps =>
    simp only [AOp.opds] at h
    simp only [AOp.eval, fills_congr h] at he ⊢
    repeat' split at he
    all_goals (try (simp at he; done))
    all_goals simp_all
    all_goals (obtain ⟨rfl, rfl⟩ := he; simp)
  | mkfn f cap =>
    simp only [AOp.opds] at h
    simp only [AOp.eval, map_congr_opds h] at he ⊢
    simp only [Option.some.injEq, Prod.mk.injEq] at he ⊢
    obtain ⟨rfl, rfl⟩ := he; exact ⟨rfl, rfl⟩
  | call f args =>
    simp only [AOp.opds, List.mem_cons, forall_eq_or_imp] at h
    simp only [AOp.eval, h.1, map_congr_opds h.2] at he ⊢
    split at he
    case h_2 => simp at he
    split at he
    case isFalse => simp at he
    rename_i hn
    obtain ⟨r, hr, e⟩ := map_some he
    simp only [Prod.mk.injEq] at e; obtain ⟨rfl, rfl⟩ := e
    rw [if_pos hn, hr]; rfl
  | max x y more =>
    simp only [AOp.opds, List.mem_cons, forall_eq_or_imp] at h
    simp only [AOp.eval, h.1, h.2.1, map_congr_opds h.2.2] at he ⊢
    split at he
    case h_2 => simp at he
    obtain ⟨τ, ht, e⟩ := map_some he
    simp only [Prod.mk.injEq] at e; obtain ⟨rfl, rfl⟩ := e
    rw [ht]; rfl
  | min x y more =>
    simp only [AOp.opds, List.mem_cons, forall_eq_or_imp] at h
    simp only [AOp.eval, h.1, h.2.1, map_congr_opds h.2.2] at he ⊢
    split at he
    case h_2 => simp at he
    obtain ⟨τ, ht, e⟩ := map_some he
    simp only [Prod.mk.injEq] at e; obtain ⟨rfl, rfl⟩ := e
    rw [ht]; rfl
  | slice sz x l r =>
    simp only [AOp.opds, List.mem_cons, forall_eq_or_imp, List.mem_append] at h
    have hl : ∀ k, bound env' k l = bound env k l := fun k => bound_congr fun y hy => h.2 y (.inl hy)
    have hr : ∀ k, bound env' k r = bound env k r := fun k => bound_congr fun y hy => h.2 y (.inr hy)
    simp only [AOp.eval, h.1, hl, hr] at he ⊢
    repeat' split at he
    all_goals (try (simp at he; done))
    all_goals (simp only [Option.some.injEq, Prod.mk.injEq] at he; obtain ⟨rfl, rfl⟩ := he)
    all_goals simp_all
  | slstr x l r =>
    simp only [AOp.opds, List.mem_cons, forall_eq_or_imp, List.mem_append] at h
    have hl : ∀ k, bound env' k l = bound env k l := fun k => bound_congr fun y hy => h.2 y (.inl hy)
    have hr : ∀ k, bound env' k r = bound env k r := fun k => bound_congr fun y hy => h.2 y (.inr hy)
    simp only [AOp.eval, h.1, hl, hr] at he ⊢
    repeat' split at he
    all_goals (try (simp at he; done))
    all_goals (simp only [Option.some.injEq, Prod.mk.injEq] at he; obtain ⟨rfl, rfl⟩ := he)
    all_goals simp_all
  | slice3 x l r m =>
    simp only [AOp.opds, List.mem_cons, forall_eq_or_imp] at h
    have hl : ∀ k, bound env' k l = bound env k l := fun k => bound_congr fun y hy => h.2.2.2 y hy
    have hr : ∀ k, bound env' k (some r) = bound env k (some r) := fun k => bound_congr fun y hy => by simp at hy; subst hy; exact h.2.1
    have hm : ∀ k, bound env' k (some m) = bound env k (some m) := fun k => bound_congr fun y hy => by simp at hy; subst hy; exact h.2.2.1
    simp only [AOp.eval, h.1, hl, hr, hm] at he ⊢
    repeat' split at he
    all_goals (try (simp at he; done))
    all_goals (simp only [Option.some.injEq, Prod.mk.injEq] at he; obtain ⟨rfl, rfl⟩ := he)
    all_goals simp_all
  | load sz agg x =>
    simp only [AOp.opds, List.mem_cons, List.not_mem_nil, or_false, forall_eq] at h
    simp only [AOp.eval, h] at he ⊢
    obtain ⟨τ, ht, e⟩ := map_some he
    simp only [Prod.mk.injEq] at e; obtain ⟨rfl, rfl⟩ := e
    have : St.load ⟨env', lo, H, nx⟩ sz agg (x.ev env) = St.load ⟨env, lo, H, nx⟩ sz agg (x.ev env) := by
      cases x.ev env <;> rfl
    rw [this, ht]; rfl
  | append froz sz bytes x y =>
    simp only [AOp.opds, List.mem_cons, List.not_mem_nil, or_false, forall_eq_or_imp, forall_eq] at h
    have : St.elems ⟨env', lo, H, nx⟩ sz (y.ev env) = St.elems ⟨env, lo, H, nx⟩ sz (y.ev env) := by
      cases y.ev env <;> rfl
    simp only [AOp.eval, h.1, h.2, this] at he ⊢
    repeat' split at he
    all_goals (try (simp at he; done))
    all_goals (simp only [Option.some.injEq, Prod.mk.injEq] at he; obtain ⟨rfl, rfl⟩ := he)
    all_goals simp_all
    all_goals (intro h; omega)
  | _ =>
    simp only [AOp.opds, List.mem_cons, List.not_mem_nil, or_false, forall_eq_or_imp, forall_eq] at h
    simp only [AOp.eval, h] at he ⊢
    repeat' split at he
    all_goals first
      | (simp at he; done)
      | (simp only [Option.some.injEq, Prod.mk.injEq] at he; obtain ⟨rfl, rfl⟩ := he; simp_all; done)
      | (obtain ⟨τ, ht, e⟩ := map_some he; simp only [Prod.mk.injEq] at e; obtain ⟨rfl, rfl⟩ := e; simp_all; done)

/-! ### memory that is not looked at -/

def Fp.agree (f : Fp) (lo : Nat → Option (Nat × AV)) (H : Nat → Option Obj) (nx : Nat) (lo' : Nat → Option (Nat × AV)) (H' : Nat → Option Obj) (nx' : Nat) : Prop :=
  (∀ s b, f.lo = some (s, b) → lo' s = lo s) ∧ (match f.heap with | .none => True | .cell i => H' i = H i | _ => H' = H ∧ nx' = nx)

def HFp.writes : HFp → Bool
  | .fresh | .write => true
  | _ => false

/-- The state behind an operation, when the state ahead of it is σ', and one such came to σ1. -/
def Fp.after (f : Fp) (σ1 σ' : St) : St :=
  { env := σ'.env
    lo := match f.lo with | some (s, true) => upd σ'.lo s (σ1.lo s) | _ => σ'.lo
    H := if f.heap.writes then σ1.H else σ'.H
    nx := if f.heap.writes then σ1.nx else σ'.nx }

def PureCalls (pf : Nat → Tidy) (call : CallF) : Prop :=
  ∀ (wl g : Nat) (args : List AV) (H : Nat → Option Obj) (nx : Nat) (r : AV) (H' : Nat → Option Obj) (nx' : Nat), pf g = .pure → call wl g args H nx = some (r, H', nx') → H' = H ∧ nx' = nx

theorem eval_mem {pf : Nat → Tidy} {call : CallF} (hpure : PureCalls pf call) {wl id : Nat} {o : AOp} {env : Nat → AV} {lo lo' : Nat → Option (Nat × AV)} {H H' : Nat → Option Obj} {nx nx' : Nat} {d : Option Nat} {v : AV} {σ1 : St}
    (he : o.eval call wl id ⟨env, lo, H, nx⟩ d = some (v, σ1)) (ha : (o.fp pf env d).agree lo H nx lo' H' nx') :
    o.eval call wl id ⟨env, lo', H', nx'⟩ d = some (v, (o.fp pf env d).after σ1 ⟨env, lo', H', nx'⟩) := by
  cases o with
  | call f args =>
    simp only [AOp.eval] at he ⊢
    simp only [AOp.fp] at ha ⊢
    split at he
    case h_2 => simp at he
    rename_i g cap hf
    split at he
    case isFalse => simp at he
    rename_i hn
    obtain ⟨r, hr, e⟩ := map_some he
    simp only [Prod.mk.injEq] at e; obtain ⟨rfl, rfl⟩ := e
    simp only [hf] at ha ⊢
    obtain ⟨r, rH, rn⟩ := r
    cases hp : pf g with
    | pure =>
      rw [hp] at ha
      obtain ⟨rfl, rfl⟩ := hpure _ _ _ _ _ _ _ _ hp hr
      obtain ⟨_, h1, h2⟩ := ha
      subst h1; subst h2
      rw [if_pos hn, hr]; rfl
    | fresh =>
      rw [hp] at ha
      obtain ⟨_, h1, h2⟩ := ha
      subst h1; subst h2
      rw [if_pos hn, hr]; rfl
    | any =>
      rw [hp] at ha
      obtain ⟨_, h1, h2⟩ := ha
      subst h1; subst h2
      rw [if_pos hn, hr]; rfl
  | load sz agg x =>
    simp only [AOp.eval] at he ⊢
    simp only [AOp.fp] at ha ⊢
    obtain ⟨τ, ht, e⟩ := map_some he
    simp only [Prod.mk.injEq] at e; obtain ⟨rfl, rfl⟩ := e
    cases hx : x.ev env <;> rw [hx] at ht ha <;> simp only [St.load] at ht ⊢ <;> try (simp at ht; done)
    · rw [ht]; rfl
    · simp only [Fp.at, Fp.agree] at ha
      rw [ha.2, ht]; rfl
    · simp only [Fp.at, Fp.agree] at ha
      rw [ha.1 _ _ rfl, ht]; rfl
  | store sz a x =>
    simp only [AOp.eval] at he ⊢
    simp only [AOp.fp] at ha ⊢
    obtain ⟨τ, ht, e⟩ := map_some he
    simp only [Prod.mk.injEq] at e; obtain ⟨rfl, rfl⟩ := e
    cases hx : a.ev env <;> rw [hx] at ht ha <;> simp only [St.store] at ht ⊢ <;> try (simp at ht; done)
    · simp only [Fp.at, Fp.agree, if_true] at ha
      obtain ⟨_, h1, h2⟩ := ha
      subst h1; subst h2
      repeat' split at ht
      all_goals (try (simp at ht; done))
      simp only [Option.some.injEq] at ht; subst ht
      simp_all [Fp.after, Fp.at, HFp.writes]
    · simp only [Fp.at, Fp.agree] at ha
      have h1 := ha.1 _ _ rfl
      repeat' split at ht
      all_goals (try (simp at ht; done))
      simp only [Option.some.injEq] at ht; subst ht
      simp_all [Fp.after, Fp.at, HFp.writes]
  | append froz sz bytes x y =>
    simp only [AOp.fp] at ha ⊢
    have elems : ((froz = true ∧ cellOf (x.ev env) = .none) ∨ (H' = H ∧ nx' = nx)) → St.elems ⟨env, lo', H', nx'⟩ sz (y.ev env) = St.elems ⟨env, lo, H, nx⟩ sz (y.ev env) := by
      rintro (⟨h1, h2⟩ | ⟨h1, _⟩)
      · rw [h1, h2] at ha
        simp only at ha
        cases hy : y.ev env <;> (try rfl)
        rw [hy] at ha
        simp only [cellOf, Fp.agree] at ha
        simp only [St.elems, ha.2]
      · subst h1
        cases y.ev env <;> rfl
    have hcase : (froz = true ∧ cellOf (x.ev env) = .none) ∨ (H' = H ∧ nx' = nx) := by
      by_cases hz : froz = true ∧ cellOf (x.ev env) = .none
      · exact .inl hz
      · right
        cases hfr : froz <;> rw [hfr] at ha hz
        · exact ha.2
        · cases hc : cellOf (x.ev env) <;> rw [hc] at ha hz
          · simp at hz
          · exact ha.2
          · exact ha.2
          · exact ha.2
          · exact ha.2
    have hel := elems hcase
    simp only [AOp.eval, hel] at he ⊢
    rcases hcase with ⟨h1, h2⟩ | ⟨h1, h2⟩
    · subst h1
      repeat' split at he
      all_goals (try (simp at he; done))
      all_goals (simp only [Option.some.injEq, Prod.mk.injEq] at he; obtain ⟨rfl, rfl⟩ := he)
      all_goals simp_all [Fp.after, cellOf, HFp.writes]
      all_goals (cases hy : y.ev env <;> simp)
    · subst h1; subst h2
      repeat' split at he
      all_goals (try (simp at he; done))
      all_goals (simp only [Option.some.injEq, Prod.mk.injEq] at he; obtain ⟨rfl, rfl⟩ := he)
      all_goals simp_all [Fp.after, cellOf, HFp.writes]
      all_goals (cases froz <;> simp_all)
      all_goals (intro h; omega)
  | mov | fbox | build | ncheck | bin | eqb | eqnil | eqs | un | mkfn | slstr | faddr | field | iaddrA | indexA | indexS | extract | len | lenstr | max | min | pick =>
    simp only [AOp.eval] at he ⊢
    repeat' split at he
    all_goals first
      | (simp at he; done)
      | (simp only [Option.some.injEq, Prod.mk.injEq] at he; obtain ⟨rfl, rfl⟩ := he; simp_all [Fp.after, Fp.none, AOp.fp, HFp.writes]; done)
      | (obtain ⟨τ, ht, e⟩ := map_some he; simp only [Prod.mk.injEq] at e; obtain ⟨rfl, rfl⟩ := e; simp_all [Fp.after, Fp.none, AOp.fp, HFp.writes]; done)
  | lalloc | lbox =>
    simp only [AOp.eval] at he ⊢
    repeat' split at he
    all_goals (try (simp at he; done))
    all_goals (simp only [Option.some.injEq, Prod.mk.injEq] at he; obtain ⟨rfl, rfl⟩ := he; simp_all [Fp.after, AOp.fp, HFp.writes])
  | halloc | hbox | mkmap | mkslice | mapup | clear | lookup | lenmap =>
    simp only [AOp.fp, Fp.agree] at ha
    obtain ⟨_, h1, h2⟩ := ha
    subst h1; subst h2
    simp only [AOp.eval] at he ⊢
    repeat' split at he
    all_goals (try (simp at he; done))
    all_goals (simp only [Option.some.injEq, Prod.mk.injEq] at he; obtain ⟨rfl, rfl⟩ := he; simp_all [Fp.after, AOp.fp, HFp.writes])
  | bslice live sz n z ps =>
    simp only [AOp.eval] at he ⊢
    cases live
    · repeat' split at he
      all_goals (try (simp at he; done))
      all_goals (simp only [Option.some.injEq, Prod.mk.injEq] at he; obtain ⟨rfl, rfl⟩ := he; simp_all [Fp.after, AOp.fp, HFp.writes])
    · simp only [AOp.fp, Fp.agree, if_true] at ha
      obtain ⟨_, h1, h2⟩ := ha
      subst h1; subst h2
      repeat' split at he
      all_goals (try (simp at he; done))
      all_goals (simp only [Option.some.injEq, Prod.mk.injEq] at he; obtain ⟨rfl, rfl⟩ := he; simp_all [Fp.after, AOp.fp, HFp.writes])
  | slice sz x l r =>
    simp only [AOp.eval] at he ⊢
    simp only [AOp.fp] at ha ⊢
    cases hx : x.ev env <;> simp only [hx] at he ⊢ <;> try (simp at he; done)
    all_goals (repeat' split at he)
    all_goals (try (simp at he; done))
    all_goals (simp only [Option.some.injEq, Prod.mk.injEq] at he; obtain ⟨rfl, rfl⟩ := he; simp_all [Fp.after, Fp.agree, cellOf, HFp.writes])
  | slice3 x l r m =>
    simp only [AOp.eval] at he ⊢
    simp only [AOp.fp] at ha ⊢
    cases hx : x.ev env <;> simp only [hx] at he ⊢ <;> try (simp at he; done)
    all_goals (repeat' split at he)
    all_goals (try (simp at he; done))
    all_goals (simp only [Option.some.injEq, Prod.mk.injEq] at he; obtain ⟨rfl, rfl⟩ := he; simp_all [Fp.after, Fp.agree, cellOf, HFp.writes])
  | iaddr sz x i =>
    simp only [AOp.eval] at he ⊢
    simp only [AOp.fp] at ha ⊢
    split at he
    case h_2 => simp at he
    rename_i kd n hi
    split at he
    case isFalse => simp at he
    rename_i h0
    simp only [if_pos h0]
    cases hx : x.ev env <;> simp only [hx] at he ⊢ <;> try (simp at he; done)
    · split at he
      · rename_i hm
        obtain ⟨τ, ht, e⟩ := map_some he; simp only [Prod.mk.injEq] at e; obtain ⟨rfl, rfl⟩ := e
        simp_all [Fp.after, cellOf, HFp.writes]
      · simp at he
    · rw [hx] at ha
      simp only [cellOf, Fp.agree] at ha
      rw [ha.2]
      repeat' split at he
      all_goals (try (simp at he; done))
      all_goals (simp only [Option.some.injEq, Prod.mk.injEq] at he; obtain ⟨rfl, rfl⟩ := he; simp_all [Fp.after, cellOf, HFp.writes])

theorem fp_slots {pf : Nat → Tidy} {o : AOp} {env env' : Nat → AV} {d : Option Nat} (h : ∀ x ∈ o.opds, x.ev env' = x.ev env) : o.fp pf env' d = o.fp pf env d := by
  cases o <;> simp only [AOp.opds, List.mem_cons, List.not_mem_nil, or_false, forall_eq_or_imp, forall_eq] at h <;> simp only [AOp.fp] <;> simp [h]

def AInstr.slots (i : AInstr) : List Nat := i.op.opds.flatMap Opd.slot ++ (match i.guard with | some (s, _) => [s] | none => [])

theorem ev_slots {i : AInstr} {env env' : Nat → AV} (h : ∀ s ∈ i.slots, env' s = env s) : ∀ x ∈ i.op.opds, x.ev env' = x.ev env := by
  intro x hx
  cases x with
  | c v => rfl
  | t n => exact h n (List.mem_append_left _ (List.mem_flatMap.2 ⟨_, hx, by simp [Opd.slot]⟩))

def FreshCalls (pf : Nat → Tidy) (call : CallF) : Prop :=
  ∀ (wl g : Nat) (args : List AV) (H : Nat → Option Obj) (nx : Nat) (r : AV) (H' : Nat → Option Obj) (nx' : Nat), pf g = .fresh → call wl g args H nx = some (r, H', nx') → ∀ j, j < nx → H' j = H j

theorem eval_fresh {pf : Nat → Tidy} {call : CallF} (hf : FreshCalls pf call) {wl id base : Nat} (hb : base ≤ id) {o : AOp} {σ σ1 : St} (hn : base ≤ σ.nx) {d : Option Nat} {v : AV} (he : o.eval call wl id σ d = some (v, σ1))
    (h : (o.fp pf σ.env d).heap = .fresh) : ∀ j, j < base → σ1.H j = σ.H j := by
  intro j hj
  have hne : j ≠ id := by omega
  cases o with
  | call f args =>
    simp only [AOp.eval] at he
    simp only [AOp.fp] at h
    split at he
    case h_2 => simp at he
    rename_i g cap hg
    split at he
    case isFalse => simp at he
    obtain ⟨r, hr, e⟩ := map_some he
    simp only [Prod.mk.injEq] at e; obtain ⟨rfl, rfl⟩ := e
    rw [hg] at h
    simp only at h
    cases hp : pf g <;> rw [hp] at h <;> simp at h
    exact hf _ _ _ _ _ _ _ _ hp hr j (by omega)
  | halloc | hbox | mkmap | mkslice | bslice =>
    simp only [AOp.eval] at he
    repeat' split at he
    all_goals (try (simp at he; done))
    all_goals (simp only [Option.some.injEq, Prod.mk.injEq] at he; obtain ⟨rfl, rfl⟩ := he; simp [upd_other, hne])
  | load sz agg a =>
    simp only [AOp.fp] at h
    cases ha : a.ev σ.env <;> rw [ha] at h <;> simp [Fp.at, Fp.none] at h
  | store sz a x =>
    simp only [AOp.fp] at h
    cases ha : a.ev σ.env <;> rw [ha] at h <;> simp [Fp.at, Fp.none] at h
  | append froz sz bytes x y =>
    simp only [AOp.fp] at h
    cases froz <;> cases hx : x.ev σ.env <;> rw [hx] at h <;> simp [cellOf] at h
    all_goals (cases hy : y.ev σ.env <;> rw [hy] at h <;> simp at h)
  | slice sz x l r | slice3 x l r m | iaddr sz x i =>
    simp only [AOp.fp] at h
    cases hx : x.ev σ.env <;> rw [hx] at h <;> simp [cellOf] at h
  | _ => simp [AOp.fp, Fp.none] at h

/-- One instruction's own change. -/
theorem act_local {pf : Nat → Tidy} {call : CallF} (hpure : PureCalls pf call) (hf : FreshCalls pf call) {wl id base : Nat} (hb : base ≤ id) {i : AInstr} {σ τ : St} (hn : base ≤ σ.nx) (h : i.act call wl id σ = some τ) :
    ∃ v, τ = ((i.fp pf σ.env).after τ σ).setDst i.dst v ∧ ((i.fp pf σ.env).heap = .fresh → ∀ j, j < base → τ.H j = σ.H j) ∧
      ∀ σ' : St, (∀ s ∈ i.slots, σ'.env s = σ.env s) → (i.fp pf σ.env).agree σ.lo σ.H σ.nx σ'.lo σ'.H σ'.nx →
        i.fp pf σ'.env = i.fp pf σ.env ∧ i.act call wl id σ' = some (((i.fp pf σ.env).after τ σ').setDst i.dst v) := by
  have run : ∀ {τ : St}, (i.op.eval call wl id σ i.dst).map (fun r => r.2.setDst i.dst r.1) = some τ →
      ∃ v, τ = ((i.op.fp pf σ.env i.dst).after τ σ).setDst i.dst v ∧ ((i.op.fp pf σ.env i.dst).heap = .fresh → ∀ j, j < base → τ.H j = σ.H j) ∧
      ∀ σ' : St, (∀ s ∈ i.slots, σ'.env s = σ.env s) → (i.op.fp pf σ.env i.dst).agree σ.lo σ.H σ.nx σ'.lo σ'.H σ'.nx →
        i.op.fp pf σ'.env i.dst = i.op.fp pf σ.env i.dst ∧ (i.op.eval call wl id σ' i.dst).map (fun r => r.2.setDst i.dst r.1) = some (((i.op.fp pf σ.env i.dst).after τ σ').setDst i.dst v) := by
    intro τ hm
    obtain ⟨r, hr, e⟩ := map_some hm
    obtain ⟨v, σ1⟩ := r
    subst e
    have aft : ∀ ρ : St, (i.op.fp pf σ.env i.dst).after (σ1.setDst i.dst v) ρ = (i.op.fp pf σ.env i.dst).after σ1 ρ := by
      intro ρ; cases i.dst <;> rfl
    have hH : (σ1.setDst i.dst v).H = σ1.H := by cases i.dst <;> rfl
    refine ⟨v, ?_, fun hfr j hj => by rw [hH]; exact eval_fresh hf hb hn hr hfr j hj, ?_⟩
    · rw [aft]
      obtain ⟨env, lo, H, nx⟩ := σ
      have := eval_mem (lo' := lo) (H' := H) (nx' := nx) hpure hr ⟨fun s b _ => rfl, by split <;> first | trivial | rfl | exact ⟨rfl, rfl⟩⟩
      rw [hr] at this
      simp only [Option.some.injEq, Prod.mk.injEq, true_and] at this
      exact congrArg (fun x => St.setDst x i.dst v) this
    · intro σ' hs ha
      obtain ⟨env', lo', H', nx'⟩ := σ'
      obtain ⟨env, lo, H, nx⟩ := σ
      have hev := ev_slots hs
      refine ⟨fp_slots hev, ?_⟩
      rw [aft]
      have h1 := eval_mem hpure hr ha
      have h2 := eval_slots hev h1
      rw [h2]; rfl
  have skip : ∀ {τ : St}, some (σ.setDst i.dst (.tup [])) = some τ → ∃ v, τ = (Fp.none.after τ σ).setDst i.dst v ∧ (Fp.none.heap = .fresh → ∀ j, j < base → τ.H j = σ.H j) ∧
      ∀ σ' : St, some (σ'.setDst i.dst (.tup [])) = some ((Fp.none.after τ σ').setDst i.dst v) := by
    intro τ hτ
    simp only [Option.some.injEq] at hτ; subst hτ
    exact ⟨.tup [], rfl, fun h => by simp [Fp.none] at h, fun σ' => rfl⟩
  unfold AInstr.act at h
  cases hg : i.guard with
  | none =>
    rw [hg] at h
    have e : ∀ env, i.fp pf env = i.op.fp pf env i.dst := fun env => by simp only [AInstr.fp, hg]
    have e' : ∀ σ', i.act call wl id σ' = (i.op.eval call wl id σ' i.dst).map fun r => r.2.setDst i.dst r.1 := fun σ' => by simp only [AInstr.act, hg]
    simp only [e, e']
    exact run h
  | some p =>
    obtain ⟨s, b⟩ := p
    rw [hg] at h
    have hsl : s ∈ i.slots := List.mem_append_right _ (by simp [hg])
    simp only at h
    split at h
    · rename_i t ht
      split at h
      · rename_i htb
        obtain ⟨v, h1, h2, h3⟩ := run h
        have e0 : i.fp pf σ.env = i.op.fp pf σ.env i.dst := by simp only [AInstr.fp, hg, ht, if_pos htb]
        rw [e0]
        refine ⟨v, h1, h2, fun σ' hs ha => ?_⟩
        have hts : σ'.env s = .bool t := (hs s hsl).trans ht
        have e1 : i.fp pf σ'.env = i.op.fp pf σ'.env i.dst := by simp only [AInstr.fp, hg, hts, if_pos htb]
        have e2 : i.act call wl id σ' = (i.op.eval call wl id σ' i.dst).map fun r => r.2.setDst i.dst r.1 := by simp only [AInstr.act, hg, hts, if_pos htb]
        rw [e1, e2]; exact h3 σ' hs ha
      · rename_i htb
        obtain ⟨v, h1, h2, h3⟩ := skip h
        have e0 : i.fp pf σ.env = Fp.none := by simp only [AInstr.fp, hg, ht, if_neg htb]
        rw [e0]
        refine ⟨v, h1, h2, fun σ' hs ha => ?_⟩
        have hts : σ'.env s = .bool t := (hs s hsl).trans ht
        have e1 : i.fp pf σ'.env = Fp.none := by simp only [AInstr.fp, hg, hts, if_neg htb]
        have e2 : i.act call wl id σ' = some (σ'.setDst i.dst (.tup [])) := by simp only [AInstr.act, hg, hts, if_neg htb]
        rw [e1, e2]; exact ⟨rfl, h3 σ'⟩
    · rename_i cs hc
      split at h
      · rename_i hce
        obtain ⟨v, h1, h2, h3⟩ := skip h
        have e0 : i.fp pf σ.env = Fp.none := by simp only [AInstr.fp, hg, hc]
        rw [e0]
        refine ⟨v, h1, h2, fun σ' hs ha => ?_⟩
        have hts : σ'.env s = .tup cs := (hs s hsl).trans hc
        have e1 : i.fp pf σ'.env = Fp.none := by simp only [AInstr.fp, hg, hts]
        have e2 : i.act call wl id σ' = some (σ'.setDst i.dst (.tup [])) := by simp only [AInstr.act, hg, hts, if_pos hce]
        rw [e1, e2]; exact ⟨rfl, h3 σ'⟩
      · simp at h
    · simp at h

/-- Neither looks at what the other leaves in a slot. -/
def AInstr.apart (x y : AInstr) : Bool :=
  (match x.dst with | some d => !(y.slots.contains d) && y.dst != some d | none => true) && (match y.dst with | some d => !(x.slots.contains d) | none => true)

theorem apart_spec {x y : AInstr} (h : x.apart y = true) : (∀ d, x.dst = some d → d ∉ y.slots) ∧ (∀ d, x.dst = some d → y.dst ≠ some d) ∧ (∀ d, y.dst = some d → d ∉ x.slots) := by
  refine ⟨fun d hd => ?_, fun d hd => ?_, fun d hd => ?_⟩ <;> simp [AInstr.apart, hd] at h
  · exact h.1.1
  · exact h.1.2
  · exact h.2

theorem setDst_env {σ : St} {d : Option Nat} {v : AV} {s : Nat} (h : d ≠ some s) : (σ.setDst d v).env s = σ.env s := by
  cases d with
  | none => rfl
  | some d => exact upd_other _ _ (fun e => h (by rw [e]))
theorem setDst_lo (σ : St) (d : Option Nat) (v : AV) : (σ.setDst d v).lo = σ.lo := by cases d <;> rfl
theorem setDst_H (σ : St) (d : Option Nat) (v : AV) : (σ.setDst d v).H = σ.H := by cases d <;> rfl
theorem setDst_nx (σ : St) (d : Option Nat) (v : AV) : (σ.setDst d v).nx = σ.nx := by cases d <;> rfl

theorem upd_comm {α : Type} (f : Nat → α) {i j : Nat} (h : i ≠ j) (a b : α) : upd (upd f i a) j b = upd (upd f j b) i a := by
  funext k
  simp only [upd]
  by_cases h1 : k = i <;> by_cases h2 : k = j <;> simp_all

theorem lo_clash {nx : Nat} {f g : Fp} (h : f.clash nx g = false) {s t : Nat} {x y : Bool} (hf : f.lo = some (s, x)) (hg : g.lo = some (t, y)) : s ≠ t ∨ (x = false ∧ y = false) := by
  simp only [Fp.clash, hf, hg, Bool.or_eq_false_iff] at h
  by_cases e : s = t
  · right
    have := h.1
    simp [e] at this; exact this
  · exact .inl e
theorem heap_clash {nx : Nat} {f g : Fp} (h : f.clash nx g = false) : f.heap.clash nx g.heap = false := by
  simp only [Fp.clash, Bool.or_eq_false_iff] at h; exact h.2

theorem after_lo (f : Fp) (σ1 σ' : St) (s : Nat) : (f.after σ1 σ').lo s = if f.lo = some (s, true) then σ1.lo s else σ'.lo s := by
  obtain ⟨lo, h⟩ := f
  cases lo with
  | none => simp [Fp.after]
  | some p =>
    obtain ⟨t, b⟩ := p
    cases b
    · simp [Fp.after]
    · simp only [Fp.after, Option.some.injEq, Prod.mk.injEq, and_true]
      by_cases e : s = t
      · subst e; simp
      · rw [upd_other _ _ e, if_neg (fun e' => e e'.symm)]
theorem after_H (f : Fp) (σ1 σ' : St) : (f.after σ1 σ').H = if f.heap.writes then σ1.H else σ'.H := rfl
theorem after_nx (f : Fp) (σ1 σ' : St) : (f.after σ1 σ').nx = if f.heap.writes then σ1.nx else σ'.nx := rfl

theorem St.same {σ τ : St} (h1 : σ.env = τ.env) (h2 : σ.lo = τ.lo) (h3 : σ.H = τ.H) (h4 : σ.nx = τ.nx) : σ = τ := by
  obtain ⟨a, b, c, d⟩ := σ; obtain ⟨a', b', c', d'⟩ := τ
  simp only at h1 h2 h3 h4; subst h1; subst h2; subst h3; subst h4; rfl

theorem writes_clash {nx : Nat} {a b : HFp} (ha : a.writes = true) (hb : b.writes = true) : a.clash nx b = true := by
  cases a <;> cases b <;> simp [HFp.writes] at ha hb <;> rfl

/-- Two that do not clash, the other way round. -/
theorem act_swap {pf : Nat → Tidy} {call : CallF} (hpure : PureCalls pf call) (hf : FreshCalls pf call) {wl ix iy base : Nat} (hbx : base ≤ ix) (hby : base ≤ iy) {x y : AInstr} {σ σ1 σ2 : St} (hn : base ≤ σ.nx) (hn1 : base ≤ σ1.nx)
    (hx : x.act call wl ix σ = some σ1) (hy : y.act call wl iy σ1 = some σ2) (hc : (x.fp pf σ.env).clash base (y.fp pf σ1.env) = false) (hap : x.apart y = true) :
    ∃ ρ, y.act call wl iy σ = some ρ ∧ x.act call wl ix ρ = some σ2 ∧ y.fp pf σ.env = y.fp pf σ1.env ∧ x.fp pf ρ.env = x.fp pf σ.env := by
  obtain ⟨v, ex, frx, lx⟩ := act_local hpure hf hbx hn hx
  obtain ⟨u, ey, fry, ly⟩ := act_local hpure hf hby hn1 hy
  obtain ⟨ap1, ap2, ap3⟩ := apart_spec hap
  generalize x.fp pf σ.env = f at *
  generalize y.fp pf σ1.env = g at *
  have hcl := fun {s t x y} => @lo_clash base f g hc s t x y
  have hch := heap_clash hc
  have e1lo : ∀ s, f.lo ≠ some (s, true) → σ1.lo s = σ.lo s := by
    intro s hs
    have := congrFun (congrArg St.lo ex) s; rw [setDst_lo, after_lo, if_neg hs] at this; exact this
  have e1H : f.heap.writes = false → σ1.H = σ.H ∧ σ1.nx = σ.nx := by
    intro hw
    have h1 := congrArg St.H ex; have h2 := congrArg St.nx ex
    rw [setDst_H] at h1; rw [setDst_nx] at h2
    simp only [Fp.after, hw] at h1 h2
    exact ⟨h1, h2⟩
  have e2lo : ∀ s, g.lo ≠ some (s, true) → σ2.lo s = σ1.lo s := by
    intro s hs
    have := congrFun (congrArg St.lo ey) s; rw [setDst_lo, after_lo, if_neg hs] at this; exact this
  have e2H : g.heap.writes = false → σ2.H = σ1.H ∧ σ2.nx = σ1.nx := by
    intro hw
    have h1 := congrArg St.H ey; have h2 := congrArg St.nx ey
    rw [setDst_H] at h1; rw [setDst_nx] at h2
    simp only [Fp.after, hw] at h1 h2
    exact ⟨h1, h2⟩
  have e1env : ∀ s, x.dst ≠ some s → σ1.env s = σ.env s := by
    intro s hs
    have := congrFun (congrArg St.env ex) s; rw [setDst_env hs] at this; exact this
  -- y ahead of x
  have ay : g.agree σ1.lo σ1.H σ1.nx σ.lo σ.H σ.nx := by
    refine ⟨fun s b hg => ?_, ?_⟩
    · rw [e1lo s]
      intro hfl
      rcases hcl hfl hg with h | h
      · exact h rfl
      · simp at h
    · cases hgh : g.heap with
      | none => trivial
      | cell i =>
        cases hfh : f.heap <;> rw [hfh, hgh] at hch <;> simp [HFp.clash] at hch
        · rw [(e1H (by rw [hfh]; rfl)).1]
        · rw [(e1H (by rw [hfh]; rfl)).1]
        · rw [(e1H (by rw [hfh]; rfl)).1]
        · exact (frx hfh i hch).symm
      | all =>
        cases hfh : f.heap <;> rw [hfh, hgh] at hch <;> simp [HFp.clash] at hch
        all_goals (have := e1H (by rw [hfh]; rfl); exact ⟨this.1.symm, this.2.symm⟩)
      | fresh =>
        cases hfh : f.heap <;> rw [hfh, hgh] at hch <;> simp [HFp.clash] at hch
        all_goals (have := e1H (by rw [hfh]; rfl); exact ⟨this.1.symm, this.2.symm⟩)
      | write =>
        cases hfh : f.heap <;> rw [hfh, hgh] at hch <;> simp [HFp.clash] at hch
        all_goals (have := e1H (by rw [hfh]; rfl); exact ⟨this.1.symm, this.2.symm⟩)
  obtain ⟨fy, hy'⟩ := ly σ (fun s hs => (e1env s (fun e => ap1 s e hs)).symm) ay
  -- x behind it
  have ax : f.agree σ.lo σ.H σ.nx ((g.after σ2 σ).setDst y.dst u).lo ((g.after σ2 σ).setDst y.dst u).H ((g.after σ2 σ).setDst y.dst u).nx := by
    rw [setDst_lo, setDst_H, setDst_nx, after_H, after_nx]
    refine ⟨fun s b hfl => ?_, ?_⟩
    · rw [after_lo, if_neg]
      intro hg
      rcases hcl hfl hg with h | h
      · exact h rfl
      · simp at h
    · cases hfh : f.heap with
      | none => trivial
      | cell i =>
        cases hgh : g.heap <;> rw [hfh, hgh] at hch <;> simp [HFp.clash] at hch <;> simp [HFp.writes]
        rw [fry hgh i hch, (e1H (by rw [hfh]; rfl)).1]
      | all => cases hgh : g.heap <;> rw [hfh, hgh] at hch <;> simp [HFp.clash] at hch <;> simp [HFp.writes]
      | fresh => cases hgh : g.heap <;> rw [hfh, hgh] at hch <;> simp [HFp.clash] at hch <;> simp [HFp.writes]
      | write => cases hgh : g.heap <;> rw [hfh, hgh] at hch <;> simp [HFp.clash] at hch <;> simp [HFp.writes]
  obtain ⟨fx, hx'⟩ := lx ((g.after σ2 σ).setDst y.dst u) (fun s hs => setDst_env (σ := g.after σ2 σ) (fun e => ap3 s e hs)) ax
  refine ⟨_, hy', ?_, fy, fx⟩
  rw [hx']
  congr 1
  refine St.same ?_ ?_ ?_ ?_
  · funext s
    by_cases h1 : x.dst = some s
    · have h2 : y.dst ≠ some s := ap2 s h1
      have e1 := congrFun (congrArg St.env ey) s
      rw [setDst_env h2] at e1
      have e2 := congrFun (congrArg St.env ex) s
      rw [e1]; simp only [Fp.after]; rw [e2]; simp [h1, St.setDst]
    · rw [setDst_env h1]
      by_cases h2 : y.dst = some s
      · have e1 := congrFun (congrArg St.env ey) s
        rw [e1]; simp [h2, St.setDst, Fp.after]
      · have e1 := congrFun (congrArg St.env ey) s
        rw [setDst_env h2] at e1
        simp only [Fp.after] at e1 ⊢
        rw [setDst_env h2, e1, e1env s h1]
  · funext s
    rw [setDst_lo, after_lo, setDst_lo, after_lo]
    by_cases h1 : f.lo = some (s, true)
    · rw [if_pos h1, e2lo s]
      intro h2
      rcases hcl h1 h2 with h | h
      · exact h rfl
      · simp at h
    · rw [if_neg h1]
      by_cases h2 : g.lo = some (s, true)
      · rw [if_pos h2]
      · rw [if_neg h2, e2lo s h2, e1lo s h1]
  · rw [setDst_H, after_H, setDst_H, after_H]
    cases hw : f.heap.writes <;> cases hw' : g.heap.writes <;> simp
    · rw [(e2H hw').1, (e1H hw).1]
    · exact (e2H hw').1.symm
    · rw [writes_clash hw hw'] at hch; cases hch
  · rw [setDst_nx, after_nx, setDst_nx, after_nx]
    cases hw : f.heap.writes <;> cases hw' : g.heap.writes <;> simp
    · rw [(e2H hw').2, (e1H hw).2]
    · exact (e2H hw').2.symm
    · rw [writes_clash hw hw'] at hch; cases hch

end Go.Proofs.Ytmbdccekcfeomaa.Am
