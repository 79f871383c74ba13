/- Operations that leave memory alone do in the model what they do in the abstract machine. -/
import Derived.Test.YtmbdccekcfeomaaT04
namespace Go.Proofs.Ytmbdccekcfeomaa.Am
set_option linter.unusedVariables false
set_option linter.unusedSimpArgs false
set_option linter.unnecessarySimpa false

/-- The operation yields a value that is 'v', and changes nothing. -/
def Quiet (P : Program) (op : Op) (a : Act) (w : World) (K : Ctx) (v : AV) : Prop :=
  ∀ o : Oper, o.op = op → ∃ u, (execOp a.eval o).run P w = .ok (.value u) w ∧ Rep K v u

section
variable {P : Program} {src : Nat → Nat} {K : Ctx} {a : Act} {w : World} {env : Nat → AV}

theorem quiet_mov (hs : K.src = src) (he : Env K env a.tmps) {op : Op} {x : Opd} (h : okOp P src op (.mov x) = true) : Quiet P op a w K (x.ev env) := by
  cases op <;> simp [okOp] at h
  all_goals (intro o ho; exact ⟨_, by simp [execOp, ho], okOpd_rep hs he h⟩)

theorem quiet_pick (hs : K.src = src) (he : Env K env a.tmps) {op : Op} {c x y : Opd} (h : okOp P src op (.pick c x y) = true) {t : Bool} (hc : c.ev env = .bool t) :
    Quiet P op a w K (if t then x.ev env else y.ev env) := by
  cases op <;> simp [okOp] at h
  rename_i c' x' y'
  obtain ⟨⟨h1, h2⟩, h3⟩ := h
  intro o ho
  have r1 := okOpd_rep hs he h1
  rw [hc] at r1
  simp only [Rep] at r1
  refine ⟨if t then a.eval x' else a.eval y', by simp [execOp, ho, r1, asBool], ?_⟩
  cases t
  · exact okOpd_rep hs he h3
  · exact okOpd_rep hs he h2

theorem quiet_ncheck (hs : K.src = src) (he : Env K env a.tmps) {op : Op} {x : Opd} (h : okOp P src op (.ncheck x) = true)
    (hv : (∃ v o, x.ev env = .fptr v o) ∨ (∃ i j o, x.ev env = .ptr i j o) ∨ (∃ s t o, x.ev env = .loc s t o) ∨ (∃ f c, x.ev env = .clo f c)) : Quiet P op a w K (x.ev env) := by
  cases op <;> simp [okOp] at h
  rename_i y
  intro o ho
  have r := okOpd_rep hs he h
  refine ⟨a.eval y, ?_, r⟩
  rcases hv with ⟨v, o, e⟩ | ⟨i, j, o, e⟩ | ⟨s, t, o, e⟩ | ⟨f, c, e⟩ <;> rw [e] at r <;> simp only [Rep] at r
  · obtain ⟨_, _, e, _⟩ := r; simp [execOp, ho, e]
  · obtain ⟨_, _, e, _⟩ := r; simp [execOp, ho, e]
  · obtain ⟨_, _, e, _⟩ := r; simp [execOp, ho, e]
  · obtain ⟨_, e, _⟩ := r; simp [execOp, ho, e]

theorem run_intBin {o : BinOp} {k : IntKind} {x y : Int} {v : AV} (h : intBin o k x y = some v) (t : TypeId) (ho : ¬(o = .shl ∨ o = .shr)) :
    ∃ u, (binOp o t (.int k x) (.int k y)).run P w = .ok u w ∧ Rep K v u := by
  cases o <;> simp [intBin] at h
  case quo => obtain ⟨h0, rfl⟩ := h; exact ⟨_, by simp [binOp, Op.intDiv, h0]; rfl, by simp [Rep]⟩
  case rem => obtain ⟨h0, rfl⟩ := h; exact ⟨_, by simp [binOp, Op.intDiv, h0]; rfl, by simp [Rep]⟩
  all_goals (subst h; exact ⟨_, by simp [binOp, Op.intArith, Op.intBits, Op.intCmp]; rfl, by simp [Rep]⟩)

theorem run_shiftBin {o : BinOp} {k k' : IntKind} {x y : Int} {v : AV} (h : shiftBin o k x y = some v) (t : TypeId) :
    ∃ u, (binOp o t (.int k x) (.int k' y)).run P w = .ok u w ∧ Rep K v u := by
  unfold shiftBin at h
  split at h
  · simp at h
  · rename_i hy
    cases o <;> simp at h
    all_goals (subst h; exact ⟨_, by simp [binOp, Op.shift, hy]; rfl, by simp [Rep]⟩)

theorem quiet_bin (hs : K.src = src) (he : Env K env a.tmps) {op : Op} {o : BinOp} {x y : Opd} (h : okOp P src op (.bin o x y) = true) {v : AV} (hv : binV o (x.ev env) (y.ev env) = some v) :
    Quiet P op a w K v := by
  cases op <;> simp [okOp] at h
  rename_i o' t x' y' t'
  obtain ⟨⟨rfl, h1⟩, h2⟩ := h
  intro oo ho
  have r1 := okOpd_rep hs he h1
  have r2 := okOpd_rep hs he h2
  unfold binV at hv
  split at hv
  · rename_i k i k' j e1 e2
    rw [e1] at r1; rw [e2] at r2
    simp only [Rep] at r1 r2
    have key : ∃ u, (binOp o t (.int k i) (.int k' j)).run P w = .ok u w ∧ Rep K v u := by
      split at hv
      · exact run_shiftBin hv t
      · rename_i hsh
        split at hv
        · rename_i hk; subst hk; exact run_intBin hv t hsh
        · simp at hv
    obtain ⟨u, hu, hr⟩ := key
    exact ⟨u, by simp [execOp, ho, r1, r2, eqGuard_at_int, hu], hr⟩
  · rename_i s s' e1 e2
    rw [e1] at r1; rw [e2] at r2
    simp only [Rep] at r1 r2
    cases o <;> simp at hv
    case add =>
      obtain ⟨h0, rfl⟩ := hv
      refine ⟨_, by
        simp [execOp, ho, r1, r2, eqGuard_at_string, binOp, Op.stringOp]
        rw [if_neg (by omega)], by simp [Rep]⟩
    all_goals (subst hv; exact ⟨_, by simp [execOp, ho, r1, r2, eqGuard_at_string, binOp, Op.stringOp]; rfl, by simp [Rep]⟩)
  · simp at hv

theorem quiet_eqb (hs : K.src = src) (he : Env K env a.tmps) {op : Op} {neg : Bool} {x y : Opd} (h : okOp P src op (.eqb neg x y) = true) {b c : Bool} (hb : x.ev env = .bool b) (hc : y.ev env = .bool c) :
    Quiet P op a w K (.bool (if neg then !(b == c) else (b == c))) := by
  cases op <;> simp [okOp] at h
  rename_i o' t x' y' t'
  obtain ⟨⟨⟨h0, ht⟩, h1⟩, h2⟩ := h
  intro oo ho
  have r1 := okOpd_rep hs he h1
  have r2 := okOpd_rep hs he h2
  rw [hb] at r1; rw [hc] at r2
  simp only [Rep] at r1 r2
  have hu : P.underlying t = some .bool := by
    split at ht
    · assumption
    · simp at ht
  cases neg <;> simp at h0 <;> subst h0
  · exact ⟨.bool (b == c), by simp [execOp, ho, r1, r2, eqGuard_at_bool, run_eql_bool w t b c hu], by simp [Rep]⟩
  · exact ⟨.bool (!(b == c)), by simp [execOp, ho, r1, r2, eqGuard_at_bool, run_neq_bool w t b c hu], by simp [Rep]⟩

theorem rep_isNil {v : AV} {u : Value} {b : Bool} (h : isNilSlice v = some b) (hr : Rep K v u) : ∃ p n c, u = .slice p n c ∧ p.isNone = b := by
  cases v <;> simp [isNilSlice] at h <;> subst h <;> simp only [Rep] at hr
  · exact ⟨_, _, _, hr, rfl⟩
  · obtain ⟨_, _, e, _⟩ := hr; exact ⟨_, _, _, e, rfl⟩
  · obtain ⟨_, e⟩ := hr; exact ⟨_, _, _, e, rfl⟩
  · obtain ⟨_, _, _, e, _⟩ := hr; exact ⟨_, _, _, e, rfl⟩

theorem sliceElem_eq {t e : Nat} (h : sliceElem P t = some e) : P.underlying t = some (.slice e) := by
  unfold sliceElem at h
  split at h
  · simp at h; subst h; assumption
  · simp at h

theorem quiet_eqnil (hs : K.src = src) (he : Env K env a.tmps) {op : Op} {neg : Bool} {x : Opd} (h : okOp P src op (.eqnil neg x) = true) {b : Bool} (hb : isNilSlice (x.ev env) = some b) :
    Quiet P op a w K (.bool (if neg then !b else b)) := by
  cases op <;> simp only [okOp] at h <;> try (simp at h; done)
  rename_i o' t x' y' t'
  split at h
  · rename_i h'
    simp only [Bool.and_eq_true] at h
    obtain ⟨⟨h0, ht⟩, h1⟩ := h
    obtain ⟨e, hte⟩ := Option.isSome_iff_exists.1 ht
    have hu := sliceElem_eq hte
    have r1 := okOpd_rep hs he h1
    obtain ⟨p, n, c, hp, hpb⟩ := rep_isNil hb r1
    cases h'
    intro oo ho
    have q1 : (Op.equal t (.slice p n c) (.slice none 0 0)).run P w = .ok b w := by
      change (Op.equalIn (9999 + 1) t _ _).run P w = _
      rw [Op.equalIn]
      cases p with
      | none => simp at hpb; subst hpb; simp [run_underlying hu]
      | some z => simp at hpb; subst hpb; simp [run_underlying hu]
    have hc : a.eval (.const (.slice none 0 0)) = .slice none 0 0 := rfl
    cases neg <;> simp at h0 <;> subst h0
    · exact ⟨.bool b, by simp [execOp, ho, hp, hc, eqGuard_at_slice, binOp, q1], by simp [Rep]⟩
    · exact ⟨.bool (!b), by simp [execOp, ho, hp, hc, eqGuard_at_slice, binOp, q1], by simp [Rep]⟩
  · simp at h

theorem quiet_un (hs : K.src = src) (he : Env K env a.tmps) {op : Op} {o : UnOp} {x : Opd} (h : okOp P src op (.un o x) = true) {v : AV} (hv : unV o (x.ev env) = some v) :
    Quiet P op a w K v := by
  cases op <;> simp [okOp] at h
  rename_i o' t x'
  obtain ⟨rfl, h1⟩ := h
  intro oo ho
  have r1 := okOpd_rep hs he h1
  unfold unV at hv
  split at hv
  · rename_i k n e1
    rw [e1] at r1; simp only [Rep] at r1; simp at hv; subst hv
    exact ⟨.int k (k.wrap (0 - n)), by simp [execOp, ho, r1, Op.unary, Op.intArith], by simp [Rep]⟩
  · rename_i b e1
    rw [e1] at r1; simp only [Rep] at r1; simp at hv; subst hv
    exact ⟨.bool !b, by simp [execOp, ho, r1, Op.unary], by simp [Rep]⟩
  · simp at hv

theorem quiet_mkfn (hs : K.src = src) (he : Env K env a.tmps) {op : Op} {f : Nat} {cap : List Opd} (h : okOp P src op (.mkfn f cap) = true) :
    Quiet P op a w K (.clo f (cap.map fun x => x.ev env)) := by
  cases op <;> simp only [okOp] at h <;> try (simp at h; done)
  rename_i fn first c
  cases fn <;> (try simp only at h) <;> try (simp at h; done)
  rename_i g
  simp only [Bool.and_eq_true, beq_iff_eq, List.isEmpty_iff] at h
  obtain ⟨⟨h1, h2⟩, h3⟩ := h
  obtain rfl : first = #[] := Array.toList_inj.1 (by simpa using h2)
  intro oo ho
  refine ⟨.func (.func g) #[] (c.map a.eval), by simp [execOp, ho, Instr.makeFunc], ?_⟩
  simp only [Rep]
  refine ⟨c.map a.eval, by rw [hs, h1], ?_⟩
  have := okOpds_rep hs he h3
  simpa using this

theorem quiet_extract (hs : K.src = src) (he : Env K env a.tmps) {op : Op} {i : Nat} {x : Opd} (h : okOp P src op (.extract i x) = true) {vs : List AV} (hx : x.ev env = .tup vs) {v : AV} (hv : vs[i]? = some v) :
    Quiet P op a w K v := by
  cases op <;> simp [okOp] at h
  rename_i y j
  obtain ⟨rfl, h1⟩ := h
  intro oo ho
  have r1 := okOpd_rep hs he h1
  rw [hx] at r1
  simp only [Rep] at r1
  obtain ⟨us, e, hl⟩ := r1
  obtain ⟨u, hu, hr⟩ := RepL_get hl hv
  refine ⟨u, ?_, hr⟩
  have : us[j]? = some u := by simpa using hu
  simp [execOp, ho, e, Instr.extract, this]

theorem addr_add (b o n : Nat) : (Addr.mk b o none).add n = ⟨b, o + n, none⟩ := by
  unfold Addr.add
  split
  · rename_i h; subst h; rfl
  · rfl

/-- A pointer, so many cells on. -/
def step (n : Nat) : AV → AV
  | .fptr v o => .fptr v (o + n)
  | .ptr i j o => .ptr i j (o + n)
  | .loc s t o => .loc s t (o + n)
  | v => v
def isPtr : AV → Bool
  | .fptr .. | .ptr .. | .loc .. => true
  | _ => false

theorem rep_isPtr {v : AV} {u : Value} (h : isPtr v = true) (hr : Rep K v u) : ∃ p, u = .pointer (some p) := by
  cases v <;> simp [isPtr] at h <;> simp only [Rep] at hr
  · obtain ⟨b, o, e, _⟩ := hr; exact ⟨_, e⟩
  · obtain ⟨_, p, e, _⟩ := hr; exact ⟨p, e⟩
  · obtain ⟨_, p, e, _⟩ := hr; exact ⟨p, e⟩

theorem rep_step {v : AV} {p : Addr} (h : isPtr v = true) (n : Nat) (hr : Rep K v (.pointer (some p))) : Rep K (step n v) (.pointer (some (p.add n))) := by
  cases v <;> simp [isPtr] at h <;> simp only [Rep, step] at hr ⊢
  · obtain ⟨b, o, e, hc⟩ := hr
    injection e with e; injection e with e; subst e
    exact ⟨b, o, by rw [addr_add, Nat.add_assoc], hc⟩
  · obtain ⟨hu, q, e, hl⟩ := hr
    injection e with e; injection e with e; subst e
    exact ⟨hu, _, rfl, fun sz es hh => by rw [hl sz es hh, addr_add, Nat.add_assoc]⟩
  · obtain ⟨hu, q, e, hl⟩ := hr
    injection e with e; injection e with e; subst e
    exact ⟨hu, _, rfl, fun v hh => by rw [hl v hh, addr_add]⟩

theorem quiet_faddr (hs : K.src = src) (he : Env K env a.tmps) {op : Op} {off : Nat} {x : Opd} (h : okOp P src op (.faddr off x) = true) (hp : isPtr (x.ev env) = true) :
    Quiet P op a w K (step off (x.ev env)) := by
  cases op <;> simp only [okOp] at h <;> try (simp at h; done)
  rename_i t y f
  simp only [Bool.and_eq_true] at h
  obtain ⟨h0, h1⟩ := h
  have r1 := okOpd_rep hs he h1
  obtain ⟨p, e⟩ := rep_isPtr hp r1
  rw [e] at r1
  split at h0
  · rename_i fd hf
    simp only [Bool.and_eq_true, beq_iff_eq] at h0
    obtain ⟨rfl, h2⟩ := h0
    split at h2
    · rename_i i hi
      have hz : i.size ≠ 0 := by simpa using h2
      unfold fieldOf at hf
      split at hf
      · rename_i fs hu
        intro oo ho
        refine ⟨_, ?_, rep_step hp fd.offset r1⟩
        simp [execOp, ho, e, Instr.fieldAt, run_underlying hu, hf, Instr.sureAddr, fieldPlace, sizeOf, typeInfo, hi, hz]
      · simp at hf
    · simp at h2
  · simp at h0

theorem quiet_iaddrA (hs : K.src = src) (he : Env K env a.tmps) {op : Op} {n sz : Nat} {x i : Opd} (h : okOp P src op (.iaddrA n sz x i) = true) (hp : isPtr (x.ev env) = true) {kd : IntKind} {k : Int} (hi : i.ev env = .int kd k) (h0 : 0 ≤ k) (hn : k < n) :
    Quiet P op a w K (step (k.toNat * sz) (x.ev env)) := by
  cases op <;> simp only [okOp] at h <;> try (simp at h; done)
  rename_i t y j
  simp only [Bool.and_eq_true] at h
  obtain ⟨⟨ht, h1⟩, h2⟩ := h
  have r1 := okOpd_rep hs he h1
  have r2 := okOpd_rep hs he h2
  obtain ⟨p, e⟩ := rep_isPtr hp r1
  rw [e] at r1
  rw [hi] at r2; simp only [Rep] at r2
  split at ht
  · rename_i m el hf
    simp only [Bool.and_eq_true, beq_iff_eq] at ht
    obtain ⟨rfl, hz⟩ := ht
    have hu : P.underlying t = some (.array m el) := by
      unfold arrayOf at hf
      split at hf
      · simp at hf; obtain ⟨rfl, rfl⟩ := hf; assumption
      · simp at hf
    intro oo ho
    refine ⟨_, ?_, rep_step hp (k.toNat * sz) r1⟩
    simp [execOp, ho, e, r2, Instr.indexAt, run_underlying hu, Instr.sureAddr, asIntOf, h0, hn, run_sizeOf hz]
  · simp at ht

theorem part_rep {sz off : Nat} {agg : Bool} {cs : List AV} {us : List Value} {v : AV} (hl : RepL K cs us) (hpart : part sz agg (.agg cs) off = some v) :
    if agg then off + sz ≤ us.length ∧ Rep K v (.agg ((us.drop off).take sz).toArray) else ∃ u, us[off]? = some u ∧ Rep K v u := by
  have hlen := RepL_length hl
  have sub : ∀ {n m : Nat}, RepL K ((cs.drop n).take m) ((us.drop n).take m) := by
    intro n m
    refine RepL_mk (by simp [hlen]) fun i v u hv hu => ?_
    rw [List.getElem?_take] at hv hu
    split at hv
    · rename_i him
      rw [if_pos him] at hu
      rw [List.getElem?_drop] at hv hu
      obtain ⟨u', hu', hr⟩ := RepL_get hl hv
      rw [hu] at hu'; cases hu'; exact hr
    · simp at hv
  unfold part at hpart
  split at hpart
  · rename_i hc
    obtain ⟨rfl, h2, h3⟩ := hc
    simp only [AV.isAgg] at h3; subst h3
    simp only [Option.some.injEq] at hpart; subst hpart
    simp only [AV.cells] at h2
    simp only [if_true]
    refine ⟨by omega, ?_⟩
    simp only [Rep]
    refine ⟨_, rfl, ?_⟩
    simp only [List.drop_zero]
    rw [List.take_of_length_le (by omega)]
    exact hl
  · split at hpart
    · rename_i hg
      split at hpart
      · rename_i hle
        simp only [AV.cells] at hle
        simp only [AV.cells, Option.some.injEq] at hpart; subst hpart
        rw [if_pos hg]
        refine ⟨by omega, ?_⟩
        simp only [Rep]
        exact ⟨_, rfl, sub⟩
      · simp at hpart
    · rename_i hg
      rw [if_neg hg]
      exact RepL_get hl hpart

theorem run_part {t sz off : Nat} {agg : Bool} (ha : aggIs P t agg = true) (hz : sizeIs P t sz = true) (h1 : (agg || sz == 1) = true) {cs : List AV} {us : Array Value} {v : AV} (hl : RepL K cs us.toList) (hpart : part sz agg (.agg cs) off = some v) :
    ∃ u, (Go.part t us off).run P w = .ok u w ∧ Rep K v u := by
  have := part_rep hl hpart
  cases agg with
  | true =>
    simp only [if_true] at this
    refine ⟨_, ?_, this.2⟩
    simp only [Go.part, Sem.run_bind, run_isAgg ha, Result.andThen_ok, if_true, run_sizeOf hz, Sem.run_pure, Sem.run_ite]
    congr 2
    apply Array.ext'
    simp
  | false =>
    simp only [Bool.false_eq_true, if_false] at this
    obtain ⟨u, hu, hr⟩ := this
    refine ⟨u, ?_, hr⟩
    have hu' : us[off]? = some u := by simpa using hu
    simp [Go.part, run_isAgg ha, hu']

theorem quiet_field (hs : K.src = src) (he : Env K env a.tmps) {op : Op} {off sz : Nat} {agg : Bool} {x : Opd} (h : okOp P src op (.field off sz agg x) = true) {cs : List AV} (hx : x.ev env = .agg cs) {v : AV} (hv : part sz agg (.agg cs) off = some v) :
    Quiet P op a w K v := by
  cases op <;> simp only [okOp] at h <;> try (simp at h; done)
  rename_i t y f
  simp only [Bool.and_eq_true] at h
  obtain ⟨⟨ht, h1⟩, h2⟩ := h
  have r1 := okOpd_rep hs he h2
  rw [hx] at r1; simp only [Rep] at r1
  obtain ⟨us, e, hl⟩ := r1
  split at ht
  · rename_i fd hf
    simp only [Bool.and_eq_true, beq_iff_eq] at ht
    obtain ⟨⟨rfl, hz⟩, ha⟩ := ht
    obtain ⟨u, hu, hr⟩ := run_part (w := w) ha hz h1 hl hv
    intro oo ho
    refine ⟨u, ?_, hr⟩
    unfold fieldOf at hf
    split at hf
    · rename_i fs hu'
      simp [execOp, ho, e, Instr.field, run_underlying hu', hf, asAgg, hu]
    · simp at hf
  · simp at ht

theorem quiet_indexA (hs : K.src = src) (he : Env K env a.tmps) {op : Op} {n sz : Nat} {agg : Bool} {x i : Opd} (h : okOp P src op (.indexA n sz agg x i) = true) {kd : IntKind} {k : Int} (hi : i.ev env = .int kd k) {cs : List AV} (hx : x.ev env = .agg cs)
    (h0 : 0 ≤ k) (hn : k < n) {v : AV} (hv : part sz agg (.agg cs) (k.toNat * sz) = some v) : Quiet P op a w K v := by
  cases op <;> simp only [okOp] at h <;> try (simp at h; done)
  rename_i t y j
  simp only [Bool.and_eq_true] at h
  obtain ⟨⟨⟨ht, h1⟩, h2⟩, h3⟩ := h
  have r1 := okOpd_rep hs he h2
  have r2 := okOpd_rep hs he h3
  rw [hx] at r1; simp only [Rep] at r1
  rw [hi] at r2; simp only [Rep] at r2
  obtain ⟨us, e, hl⟩ := r1
  split at ht
  · rename_i m el hf
    simp only [Bool.and_eq_true, beq_iff_eq] at ht
    obtain ⟨⟨rfl, hz⟩, ha⟩ := ht
    have hu' : P.underlying t = some (.array m el) := by
      unfold arrayOf at hf
      split at hf
      · simp at hf; obtain ⟨rfl, rfl⟩ := hf; assumption
      · simp at hf
    obtain ⟨u, hu, hr⟩ := run_part (w := w) ha hz h1 hl hv
    intro oo ho
    refine ⟨u, ?_, hr⟩
    simp [execOp, ho, e, r2, Instr.index, run_underlying hu', asIntOf, h0, hn, run_sizeOf hz, hu]
  · simp at ht

theorem quiet_indexS (hs : K.src = src) (he : Env K env a.tmps) {op : Op} {x i : Opd} (h : okOp P src op (.indexS x i) = true) {kd : IntKind} {k : Int} (hi : i.ev env = .int kd k) {s : ByteArray} (hx : x.ev env = .str s)
    (h0 : 0 ≤ k) {b : UInt8} (hb : s[k.toNat]? = some b) : Quiet P op a w K (.int .u8 b.toNat) := by
  cases op <;> simp only [okOp] at h <;> try (simp at h; done)
  rename_i t y j
  simp only [Bool.and_eq_true] at h
  obtain ⟨⟨ht, h2⟩, h3⟩ := h
  have r1 := okOpd_rep hs he h2
  have r2 := okOpd_rep hs he h3
  rw [hx] at r1; simp only [Rep] at r1
  rw [hi] at r2; simp only [Rep] at r2
  have hu : P.underlying t = some .string := by
    split at ht
    · assumption
    · simp at ht
  intro oo ho
  exact ⟨.int .u8 b.toNat, by simp [execOp, ho, r1, r2, Instr.index, run_underlying hu, asIntOf, h0, hb], by simp [Rep]⟩

end
end Go.Proofs.Ytmbdccekcfeomaa.Am
