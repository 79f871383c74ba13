/- Operations that read memory, slice expressions, lengths: the model does what the abstract machine does. -/
import Derived.Test.YtmbdccekcfeomaaT05
namespace Go.Proofs.Ytmbdccekcfeomaa.Am
set_option linter.unusedVariables false
set_option linter.unusedSimpArgs false
set_option linter.unnecessarySimpa false

theorem list_choose {α : Type} {Q : Nat → α → Prop} : ∀ {n : Nat}, (∀ j, j < n → ∃ u, Q j u) → ∃ us : List α, us.length = n ∧ ∀ j u, us[j]? = some u → Q j u
  | 0, _ => ⟨[], rfl, fun j u h => by simp at h⟩
  | n + 1, h => by
    obtain ⟨us, hl, hq⟩ := list_choose (fun j hj => h j (Nat.lt_succ_of_lt hj)) (n := n)
    obtain ⟨u, hu⟩ := h n (Nat.lt_succ_self n)
    refine ⟨us ++ [u], by simp [hl], fun j v hv => ?_⟩
    rw [List.getElem?_append] at hv
    split at hv
    · exact hq j v hv
    · rename_i hj
      have : j = n := by
        have := (List.getElem?_eq_some_iff.1 hv).1
        simp at this; omega
      subst this
      simp [hl] at hv; subst hv; exact hu

section
variable {P : Program} {src : Nat → Nat} {K : Ctx} {a : Act} {w : World} {env : Nat → AV}

def Reads (K : Ctx) (w : World) (p : Addr) (x : AV) (off : Nat) : Prop := ∀ j c, x.cells[off + j]? = some c → ∃ u, w.cell? (p.add j) = some u ∧ Rep K c u

theorem agg_cells {x : AV} (h : x.isAgg = true) : x = .agg x.cells := by cases x <;> simp [AV.isAgg] at h; rfl

theorem run_loadVar_rep {t sz off : Nat} {agg : Bool} (ha : aggIs P t agg = true) (hz : sizeIs P t sz = true) (h1 : (agg || sz == 1) = true) {x v : AV} {p : Addr} (hr : Reads K w p x off) (hp : part sz agg x off = some v) :
    ∃ u, (loadVar t p).run P w = .ok u w ∧ Rep K v u := by
  cases agg with
  | true =>
    -- the cells
    have hv : ∃ cs, v = .agg cs ∧ cs.length = sz ∧ ∀ j c, cs[j]? = some c → x.cells[off + j]? = some c := by
      unfold part at hp
      split at hp
      · rename_i hc
        obtain ⟨rfl, h2, h3⟩ := hc
        simp only [Option.some.injEq] at hp; subst hp
        exact ⟨x.cells, agg_cells h3, h2, fun j c hj => by simpa using hj⟩
      · simp only [if_true] at hp
        split at hp
        · rename_i hle
          simp only [Option.some.injEq] at hp
          refine ⟨_, hp.symm, by simp; omega, fun j c hj => ?_⟩
          rw [List.getElem?_take] at hj
          split at hj
          · rw [List.getElem?_drop] at hj; exact hj
          · simp at hj
        · simp at hp
    obtain ⟨cs, rfl, hlen, hcs⟩ := hv
    obtain ⟨us, hl, hq⟩ := list_choose (n := sz) (Q := fun j u => w.cell? (p.add j) = some u ∧ ∀ c, cs[j]? = some c → Rep K c u) (fun j hj => by
      have hc : cs[j]? = some (cs[j]'(by omega)) := List.getElem?_eq_getElem (by omega)
      obtain ⟨u, hu, hr'⟩ := hr j _ (hcs j _ hc)
      exact ⟨u, hu, fun c hc' => by rw [hc] at hc'; cases hc'; exact hr'⟩)
    refine ⟨.agg us.toArray, ?_, ?_⟩
    · have := run_loadCells_list (P := P) w p us (fun j v hv => (hq j v hv).1)
      rw [hl] at this
      simp [loadVar, run_isAgg ha, run_sizeOf hz, this]
    · simp only [Rep]
      refine ⟨_, rfl, RepL_mk (by simp [hlen, hl]) fun i v u hv hu => ?_⟩
      exact (hq i u hu).2 v hv
  | false =>
    have hs1 : sz = 1 := by simpa using h1
    subst hs1
    have hv : x.cells[off + 0]? = some v := by
      unfold part at hp
      split at hp
      · rename_i hc
        obtain ⟨rfl, h2, h3⟩ := hc
        simp only [Option.some.injEq] at hp; subst hp
        cases x <;> simp [AV.isAgg] at h3 <;> simp [AV.cells]
      · simpa using hp
    obtain ⟨u, hu, hr'⟩ := hr 0 v hv
    refine ⟨u, ?_, hr'⟩
    rw [Addr.add_zero'] at hu
    simp [loadVar, run_isAgg ha, hu]

/-- What a load of the abstract machine reads lies where the model reads. -/
theorem load_reads {σ : St} (hH : K.H = σ.H) (hlo : K.lo = σ.lo) (hI : Inv K w) {sz : Nat} {agg : Bool} {x v : AV} {u : Value} (hr : Rep K x u) (hv : σ.load sz agg x = some v) :
    ∃ p y off, u = .pointer (some p) ∧ part sz agg y off = some v ∧ Reads K w p y off := by
  cases x <;> simp only [St.load] at hv <;> try (simp at hv; done)
  · rename_i y off
    simp only [Rep] at hr
    obtain ⟨b, o, rfl, hc⟩ := hr
    refine ⟨_, y, off, rfl, hv, fun j c hj => ?_⟩
    obtain ⟨_, _, u, hu, hr⟩ := hI.frozen b (o + (off + j)) c (hc _ _ hj)
    rw [addr_add]
    exact ⟨u, by rw [Nat.add_assoc]; exact hu, hr⟩
  · rename_i id i off
    simp only [Rep] at hr
    obtain ⟨_, p, rfl, hl⟩ := hr
    split at hv
    · rename_i m es hh
      rw [← hH] at hh
      split at hv
      · rename_i e he
        have hp := hl m es hh
        subst hp
        refine ⟨_, e, off, rfl, hv, fun j c hj => ?_⟩
        obtain ⟨_, _, hok⟩ := hI.live id _ hh
        obtain ⟨_, _, hcells⟩ := hok
        obtain ⟨_, _, hc⟩ := hcells i e he
        obtain ⟨u, hu, hr⟩ := hc (off + j) c hj
        exact ⟨u, by rw [addr_add, Nat.add_assoc]; exact hu, hr⟩
      · simp at hv
    · simp at hv
  · rename_i s st off
    simp only [Rep] at hr
    obtain ⟨_, p, rfl, hl⟩ := hr
    split at hv
    · rename_i st' y hh
      rw [← hlo] at hh
      split at hv
      · rename_i hst; subst hst
        have hp := hl y hh
        subst hp
        refine ⟨_, y, off, rfl, hv, fun j c hj => ?_⟩
        obtain ⟨_, _, _, _, hc⟩ := hI.locs s _ y hh
        obtain ⟨u, hu, hr⟩ := hc.2 (off + j) c hj
        exact ⟨u, by rw [addr_add]; simpa using hu, hr⟩
      · simp at hv
    · simp at hv

theorem quiet_load (hs : K.src = src) (he : Env K env a.tmps) {σ : St} (hH : K.H = σ.H) (hlo : K.lo = σ.lo) (hI : Inv K w) {op : Op} {sz : Nat} {agg : Bool} {x : Opd} (h : okOp P src op (.load sz agg x) = true) {v : AV} (hv : σ.load sz agg (x.ev env) = some v) :
    Quiet P op a w K v := by
  cases op <;> simp only [okOp] at h <;> try (simp at h; done)
  rename_i t y
  simp only [Bool.and_eq_true] at h
  obtain ⟨⟨⟨hz, ha⟩, h1⟩, h2⟩ := h
  have r1 := okOpd_rep hs he h2
  obtain ⟨p, z, off, e, hp, hrd⟩ := load_reads hH hlo hI r1 hv
  obtain ⟨u, hu, hr⟩ := run_loadVar_rep ha hz h1 hrd hp
  intro o ho
  exact ⟨u, by simp [execOp, ho, e, Instr.loadAt, Instr.sureAddr, hu], hr⟩

theorem quiet_iaddr_slice (hs : K.src = src) (he : Env K env a.tmps) {op : Op} {sz : Nat} {x i : Opd} (h : okOp P src op (.iaddr sz x i) = true) {kd : IntKind} {n : Int} (hi : i.ev env = .int kd n) (h0 : 0 ≤ n) {es : List AV} (hx : x.ev env = .slice sz es)
    {e : AV} (hv : es[n.toNat]? = some e) : Quiet P op a w K (.fptr e 0) := by
  cases op <;> simp only [okOp] at h <;> try (simp at h; done)
  rename_i t y j
  simp only [Bool.and_eq_true] at h
  obtain ⟨⟨ht, h1⟩, h2⟩ := h
  have r1 := okOpd_rep hs he h1
  have r2 := okOpd_rep hs he h2
  rw [hx] at r1; rw [hi] at r2
  simp only [Rep] at r1 r2
  obtain ⟨⟨b, o, sp⟩, cap, hu, hc, hn, hf⟩ := r1
  have hsp : sp = none := hn (by intro e; rw [e] at hv; simp at hv)
  subst hsp
  split at ht
  · rename_i el hel
    have hun := sliceElem_eq hel
    have hlt : n < (es.length : Int) := by have := (List.getElem?_eq_some_iff.1 hv).1; omega
    intro oo ho
    refine ⟨.pointer (some ⟨b, o + n.toNat * sz, none⟩), ?_, ?_⟩
    · simp [execOp, ho, hu, r2, Instr.indexAt, run_underlying hun, asIntOf, h0, hlt, run_sizeOf ht, addr_add]
    · simp only [Rep]
      exact ⟨b, o + n.toNat * sz, rfl, fun j c hj => (hf n.toNat e hv).2 j c hj⟩
  · simp at ht

theorem quiet_iaddr_lref (hs : K.src = src) (he : Env K env a.tmps) {op : Op} {sz : Nat} {x i : Opd} (h : okOp P src op (.iaddr sz x i) = true) {kd : IntKind} {n : Int} (hi : i.ev env = .int kd n) (h0 : 0 ≤ n) {id j len : Nat} (hx : x.ev env = .lref id j len)
    {es : List AV} (hh : K.H id = some (.arr sz es)) (hlt : n < len) : Quiet P op a w K (.ptr id (j + n.toNat) 0) := by
  cases op <;> simp only [okOp] at h <;> try (simp at h; done)
  rename_i t y jj
  simp only [Bool.and_eq_true] at h
  obtain ⟨⟨ht, h1⟩, h2⟩ := h
  have r1 := okOpd_rep hs he h1
  have r2 := okOpd_rep hs he h2
  rw [hx] at r1; rw [hi] at r2
  simp only [Rep] at r1 r2
  obtain ⟨hu, p, cap, e, hl⟩ := r1
  obtain ⟨o, rfl, hcap, hle, ho⟩ := hl sz es hh
  have hoo := ho (by omega)
  subst hoo
  split at ht
  · rename_i el hel
    have hun := sliceElem_eq hel
    intro oo hoo
    refine ⟨.pointer (some ⟨K.blk id, K.base id + j * sz + n.toNat * sz, none⟩), ?_, ?_⟩
    · simp [execOp, hoo, e, r2, Instr.indexAt, run_underlying hun, asIntOf, h0, hlt, run_sizeOf ht, addr_add]
    · simp only [Rep]
      refine ⟨hu, _, rfl, fun sz' es' hh' => ?_⟩
      rw [hh] at hh'; cases hh'
      rw [Nat.add_mul, ← Nat.add_assoc, Nat.add_zero]
  · simp at ht

/-! ### slice expressions -/

theorem run_sliceBound_ok {x : Value} {k : IntKind} {n : Int} (hx : x = .int k n) (h0 : 0 ≤ n) {m : Nat} (hm : n.toNat ≤ m) (c : BoundsCode) : (Instr.sliceBound x m c).run P w = .ok n.toNat w := by
  subst hx
  have : n ≤ (m : Int) := by omega
  simp [Instr.sliceBound, asIntOf, h0, this]

theorem run_bounds (hs : K.src = src) (he : Env K env a.tmps) {lo' hi' : Option Operand} {lo hi : Option Opd} (h1 : okOpt src lo' lo = true) (h2 : okOpt src hi' hi = true) {len cap l h : Nat}
    (hl : bound env 0 lo = some l) (hh : bound env len hi = some h) (hle : l ≤ h) (hc : h ≤ cap) (isSlice : Bool) :
    (Instr.sliceBounds isSlice len cap (lo'.map a.eval) (hi'.map a.eval) none).run P w = .ok (l, h, cap) w := by
  have key : ∀ {x' : Option Operand} {x : Option Opd} {d m : Nat}, okOpt src x' x = true → bound env d x = some m → (x' = none ∧ m = d) ∨ ∃ y k n, x' = some y ∧ a.eval y = .int k n ∧ 0 ≤ n ∧ n.toNat = m := by
    intro x' x d m ho hb
    cases x' with
    | none => cases x with
      | none => simp [bound] at hb; exact .inl ⟨rfl, hb.symm⟩
      | some x => simp [okOpt] at ho
    | some y => cases x with
      | none => simp [okOpt] at ho
      | some x =>
        simp only [okOpt] at ho
        have r := okOpd_rep hs he ho
        simp only [bound] at hb
        split at hb
        · rename_i k n e
          rw [e] at r; simp only [Rep] at r
          split at hb
          · rename_i h0; simp at hb; exact .inr ⟨y, k, n, rfl, r, h0, hb⟩
          · simp at hb
        · simp at hb
  rcases key h2 hh with ⟨rfl, rfl⟩ | ⟨y, k, n, rfl, e, h0, rfl⟩
  · rcases key h1 hl with ⟨rfl, rfl⟩ | ⟨y', k', n', rfl, e', h0', rfl⟩
    · simp [Instr.sliceBounds]
    · have : n' ≤ (h : Int) := by omega
      simp [Instr.sliceBounds, e', run_sliceBound, h0', this]
  · have : n ≤ (cap : Int) := by omega
    have en : (n.toNat : Int) = n := by omega
    rcases key h1 hl with ⟨rfl, rfl⟩ | ⟨y', k', n', rfl, e', h0', rfl⟩
    · cases isSlice <;> simp [Instr.sliceBounds, e, run_sliceBound, h0, this]
    · have : n' ≤ n := by omega
      cases isSlice <;> simp [Instr.sliceBounds, e, e', run_sliceBound, h0, h0', en, *]

theorem run_slice_ok (hs : K.src = src) (he : Env K env a.tmps) {t e sz : Nat} (ht : sliceElem P t = some e) (hz : sizeIs P e sz = true) {lo' hi' : Option Operand} {lo hi : Option Opd} (h1 : okOpt src lo' lo = true) (h2 : okOpt src hi' hi = true)
    {p : Option Addr} {len cap l h : Nat} (hl : bound env 0 lo = some l) (hh : bound env len hi = some h) (hle : l ≤ h) (hc : h ≤ cap) :
    (Instr.sliceAt t (.slice p len cap) (lo'.map a.eval) (hi'.map a.eval) none).run P w = .ok (.slice (if cap = l then p else p.map (·.add (l * sz))) (h - l) (cap - l)) w := by
  have hu := sliceElem_eq ht
  have hb := run_bounds (P := P) (w := w) hs he h1 h2 hl hh hle hc true
  simp [Instr.sliceAt, run_underlying hu, Instr.slice, hb, run_sizeOf hz]

theorem quiet_slice (hs : K.src = src) (he : Env K env a.tmps) {op : Op} {sz : Nat} {x : Opd} {lo hi : Option Opd} (h : okOp P src op (.slice sz x lo hi) = true) {v : AV}
    (hv : (x.ev env = .nilSlice ∧ bound env 0 lo = some 0 ∧ bound env 0 hi = some 0 ∧ v = .nilSlice) ∨
      (x.ev env = .eslice ∧ bound env 0 lo = some 0 ∧ bound env 0 hi = some 0 ∧ v = .eslice) ∨
      (∃ es l m, x.ev env = .slice sz es ∧ bound env 0 lo = some l ∧ bound env es.length hi = some m ∧ l ≤ m ∧ m ≤ es.length ∧ v = .slice sz ((es.drop l).take (m - l))) ∨
      (∃ id j n es l m, x.ev env = .lref id j n ∧ K.H id = some (.arr sz es) ∧ es.length ≤ K.tot id ∧ bound env 0 lo = some l ∧ bound env n hi = some m ∧ l ≤ m ∧ j + m ≤ es.length ∧ v = .lref id (j + l) (m - l))) : Quiet P op a w K v := by
  cases op <;> simp only [okOp] at h <;> try (simp at h; done)
  rename_i t y lo' hi' mx
  cases mx <;> (try simp only at h) <;> try (simp at h; done)
  simp only [Bool.and_eq_true] at h
  obtain ⟨⟨⟨ht, h1⟩, h2⟩, h3⟩ := h
  have r1 := okOpd_rep hs he h1
  split at ht
  · rename_i e hel
    intro o ho
    rcases hv with ⟨hx, hl, hh, rfl⟩ | ⟨hx, hl, hh, rfl⟩ | ⟨es, l, m, hx, hl, hh, hle, hm, rfl⟩ | ⟨id, j, n, es, l, m, hx, hid, htot, hl, hh, hle, hm, rfl⟩
    · rw [hx] at r1; simp only [Rep] at r1
      refine ⟨.slice none 0 0, ?_, by simp [Rep]⟩
      have := run_slice_ok (P := P) (w := w) (p := none) (len := 0) (cap := 0) hs he hel ht h2 h3 hl hh (Nat.le_refl 0) (Nat.le_refl 0)
      simp only [execOp, ho, r1]
      simp [this]
    · rw [hx] at r1; simp only [Rep] at r1
      obtain ⟨p, r1⟩ := r1
      refine ⟨.slice (some p) 0 0, ?_, by simp [Rep]⟩
      have := run_slice_ok (P := P) (w := w) (p := some p) (len := 0) (cap := 0) hs he hel ht h2 h3 hl hh (Nat.le_refl 0) (Nat.le_refl 0)
      simp only [execOp, ho, r1]
      simp [this]
    · rw [hx] at r1; simp only [Rep] at r1
      obtain ⟨⟨b, o', sp⟩, cap, r1, hcap, hsp, hf⟩ := r1
      have := run_slice_ok (P := P) (w := w) (p := some ⟨b, o', sp⟩) (len := es.length) (cap := cap) hs he hel ht h2 h3 hl hh hle (by omega)
      refine ⟨_, by simp only [execOp, ho, r1]; simp only [Option.map_none]; rw [Sem.run_bind, this]; rfl, ?_⟩
      simp only [Rep, Option.map_some]
      have hlen : ((es.drop l).take (m - l)).length = m - l := by simp; omega
      refine ⟨if cap = l then ⟨b, o', sp⟩ else (⟨b, o', sp⟩ : Addr).add (l * sz), cap - l, ?_, by omega, fun hne => ?_, fun i e' he' => ?_⟩
      · rw [hlen]; split <;> rfl
      · have hs0 : sp = none := hsp (fun e => hne (by rw [e]; simp))
        subst hs0
        rw [addr_add]; split <;> rfl
      · rw [List.getElem?_take] at he'
        split at he'
        · rename_i hi'
          rw [List.getElem?_drop] at he'
          have hs0 : sp = none := hsp (fun e => by rw [e] at he'; simp at he')
          subst hs0
          rw [addr_add, if_neg (by omega)]
          refine ⟨(hf _ _ he').1, fun jj c hc => ?_⟩
          have := (hf _ _ he').2 jj c hc
          rwa [Nat.add_mul, ← Nat.add_assoc] at this
        · simp at he'
    · rw [hx] at r1; simp only [Rep] at r1
      obtain ⟨hu, p, cap, r1, hl'⟩ := r1
      obtain ⟨o', rfl, hcap, hnle, hoff⟩ := hl' sz es hid
      have := run_slice_ok (P := P) (w := w) (p := some ⟨K.blk id, o', none⟩) (len := n) (cap := cap) hs he hel ht h2 h3 hl hh hle (by omega)
      refine ⟨_, by simp only [execOp, ho, r1]; simp only [Option.map_none]; rw [Sem.run_bind, this]; rfl, ?_⟩
      simp only [Rep, Option.map_some, addr_add]
      refine ⟨hu, ⟨K.blk id, if cap = l then o' else o' + l * sz, none⟩, cap - l, by split <;> rfl, fun sz' es' hh' => ?_⟩
      rw [hid] at hh'; cases hh'
      refine ⟨_, rfl, by omega, by omega, fun hlt => ?_⟩
      rw [if_neg (by omega), hoff (by omega), Nat.add_mul, Nat.add_assoc]
  · simp at ht

theorem quiet_slice3 (hs : K.src = src) (he : Env K env a.tmps) {op : Op} {x hi mx : Opd} {lo : Option Opd} (h : okOp P src op (.slice3 x lo hi mx) = true) {l m n cap len : Nat} {p : Addr}
    (hx : ∀ u, Rep K (x.ev env) u → ∃ cap p, u = .slice (some p) len cap ∧ n ≤ cap)
    (hl : bound env 0 lo = some l) (hm : bound env 0 (some hi) = some m) (hn : bound env 0 (some mx) = some n) (h1 : l ≤ m) (h2 : m ≤ n) : Quiet P op a w K .undef := by
  cases op <;> simp only [okOp] at h <;> try (simp at h; done)
  rename_i t y lo' hi' mx'
  cases hi' <;> (try simp only at h) <;> try (simp at h; done)
  cases mx' <;> (try simp only at h) <;> try (simp at h; done)
  rename_i hi' mx'
  simp only [Bool.and_eq_true] at h
  obtain ⟨⟨⟨⟨ht, g1⟩, g2⟩, g3⟩, g4⟩ := h
  obtain ⟨cap, p, r1, hcap⟩ := hx _ (okOpd_rep hs he g1)
  have key : ∀ {y : Operand} {z : Opd} {k : Nat}, okOpd src y z = true → bound env 0 (some z) = some k → ∃ kd i, a.eval y = .int kd i ∧ 0 ≤ i ∧ i.toNat = k := by
    intro y z k ho hb
    have r := okOpd_rep hs he ho
    simp only [bound] at hb
    split at hb
    · rename_i kd i e
      rw [e] at r; simp only [Rep] at r
      split at hb
      · simp at hb; exact ⟨kd, i, r, by assumption, hb⟩
      · simp at hb
    · simp at hb
  obtain ⟨k1, i1, e1, p1, q1⟩ := key g3 hm
  obtain ⟨k2, i2, e2, p2, q2⟩ := key g4 hn
  split at ht
  · rename_i el hel
    have hu := sliceElem_eq hel
    obtain ⟨inf, hinf⟩ := Option.isSome_iff_exists.1 ht
    intro o ho
    have c1 : i2 ≤ (cap : Int) := by omega
    have c2 : (i2.toNat : Int) = i2 := by omega
    have c3 : i1 ≤ i2 := by omega
    have c3' : i1 ≤ (n : Int) := by omega
    have c4 : (i1.toNat : Int) = i1 := by omega
    refine ⟨.slice (if n = l then some p else (some p).map (·.add (l * inf.size))) (m - l) (n - l), ?_, by simp [Rep]⟩
    · simp only [execOp, ho, r1, Option.map_some]
      cases lo' with
      | none => cases lo with
        | none =>
          simp [bound] at hl; subst hl
          simp [Instr.sliceAt, run_underlying hu, Instr.slice, Instr.sliceBounds, e1, e2, run_sliceBound, p1, p2, c1, c2, c3, c3', q1, q2, sizeOf, typeInfo, hinf]
        | some _ => simp [okOpt] at g2
      | some y0 => cases lo with
        | none => simp [okOpt] at g2
        | some z0 =>
          simp only [okOpt] at g2
          obtain ⟨k0, i0, e0, p0, q0⟩ := key g2 hl
          have c5 : i0 ≤ i1 := by omega
          simp [Instr.sliceAt, run_underlying hu, Instr.slice, Instr.sliceBounds, e0, e1, e2, run_sliceBound, p0, p1, p2, c1, c2, c3, c4, c5, sizeOf, typeInfo, hinf, ← q0, ← q1, ← q2]
  · simp at ht

theorem quiet_slstr (hs : K.src = src) (he : Env K env a.tmps) {op : Op} {x : Opd} {lo hi : Option Opd} (h : okOp P src op (.slstr x lo hi) = true) {s : ByteArray} {l m : Nat} (hx : x.ev env = .str s)
    (hl : bound env 0 lo = some l) (hm : bound env s.size hi = some m) (h1 : l ≤ m) (h2 : m ≤ s.size) : Quiet P op a w K (.str (s.extract l m)) := by
  cases op <;> simp only [okOp] at h <;> try (simp at h; done)
  rename_i t y lo' hi' mx
  cases mx <;> (try simp only at h) <;> try (simp at h; done)
  simp only [Bool.and_eq_true] at h
  obtain ⟨⟨⟨ht, g1⟩, g2⟩, g3⟩ := h
  have r1 := okOpd_rep hs he g1
  rw [hx] at r1; simp only [Rep] at r1
  have hu : P.underlying t = some .string := by
    split at ht
    · assumption
    · simp at ht
  have hb := run_bounds (P := P) (w := w) hs he g2 g3 hl hm h1 h2 false
  intro o ho
  exact ⟨.string (s.extract l m), by simp [execOp, ho, r1, Instr.sliceAt, run_underlying hu, Instr.slice, hb], by simp [Rep]⟩

/-! ### builtins that only tell -/

theorem run_builtin {b : Builtin} {xs : Array Operand} {ts : Array TypeId} {o : Oper} (ho : o.op = .call { callee := .builtin b, args := xs, argTypes := ts }) {r : Result Next}
    (h : ∀ cs, (builtin b ts o.type cs (xs.map a.eval)).run P w = r) : (execOp a.eval o).run P w = r := by
  simp only [execOp, ho, resolve, invoke]
  simp only [Sem.run_bind, Sem.run_pure, Result.andThen_ok]
  exact h _

theorem one_list {α : Type} {xs : Array α} {x : α} (h : xs.toList = [x]) : xs = #[x] := Array.toList_inj.1 (by simpa using h)
theorem two_list {α : Type} {xs : Array α} {x y : α} (h : xs.toList = [x, y]) : xs = #[x, y] := Array.toList_inj.1 (by simpa using h)

theorem quiet_len (hs : K.src = src) (he : Env K env a.tmps) {op : Op} {x : Opd} (h : okOp P src op (.len x) = true) {n : Nat}
    (hv : (x.ev env = .nilSlice ∧ n = 0) ∨ (x.ev env = .eslice ∧ n = 0) ∨ (∃ sz es, x.ev env = .slice sz es ∧ n = es.length) ∨ (∃ i j, x.ev env = .lref i j n)) : Quiet P op a w K (.int .i64 n) := by
  cases op <;> simp only [okOp] at h <;> try (simp at h; done)
  rename_i c
  obtain ⟨callee, args, argTypes⟩ := c
  cases callee <;> (try simp only at h) <;> try (simp at h; done)
  rename_i b
  cases b <;> (try simp only at h) <;> try (simp at h; done)
  split at h
  · rename_i t x' e1 e2
    obtain rfl := one_list e1
    obtain rfl := one_list e2
    simp only [Bool.and_eq_true] at h
    obtain ⟨ht, h1⟩ := h
    obtain ⟨e, hte⟩ := Option.isSome_iff_exists.1 ht
    have hu := sliceElem_eq hte
    have r1 := okOpd_rep hs he h1
    have key : ∃ p q, a.eval x' = .slice p n q := by
      rcases hv with ⟨hx, rfl⟩ | ⟨hx, rfl⟩ | ⟨sz, es, hx, rfl⟩ | ⟨i, j, hx⟩ <;> rw [hx] at r1 <;> simp only [Rep] at r1
      · exact ⟨_, _, r1⟩
      · obtain ⟨p, r1⟩ := r1; exact ⟨_, _, r1⟩
      · obtain ⟨_, _, r1, _⟩ := r1; exact ⟨_, _, r1⟩
      · obtain ⟨_, _, _, r1, _⟩ := r1; exact ⟨_, _, r1⟩
    obtain ⟨p, q, r1⟩ := key
    intro o ho
    refine ⟨.int .i64 n, run_builtin ho fun cs => ?_, by simp [Rep]⟩
    simp [builtin, r1, Builtin.len_, run_underlying hu, goInt]
  · simp at h

theorem quiet_lenstr (hs : K.src = src) (he : Env K env a.tmps) {op : Op} {x : Opd} (h : okOp P src op (.lenstr x) = true) {s : ByteArray} (hx : x.ev env = .str s) : Quiet P op a w K (.int .i64 s.size) := by
  cases op <;> simp only [okOp] at h <;> try (simp at h; done)
  rename_i c
  obtain ⟨callee, args, argTypes⟩ := c
  cases callee <;> (try simp only at h) <;> try (simp at h; done)
  rename_i b
  cases b <;> (try simp only at h) <;> try (simp at h; done)
  split at h
  · rename_i t x' e1 e2
    obtain rfl := one_list e1
    obtain rfl := one_list e2
    simp only [Bool.and_eq_true] at h
    obtain ⟨ht, h1⟩ := h
    have hu : P.underlying t = some .string := by
      split at ht
      · assumption
      · simp at ht
    have r1 := okOpd_rep hs he h1
    rw [hx] at r1; simp only [Rep] at r1
    intro o ho
    refine ⟨.int .i64 s.size, run_builtin ho fun cs => ?_, by simp [Rep]⟩
    simp [builtin, r1, Builtin.len_, run_underlying hu, goInt]
  · simp at h

theorem MapI_length {kd : IntKind} : ∀ {es : List (Int × AV)} {ms : List MapEntry}, MapI K kd es ms → es.length = ms.length
  | [], ms, h => by simp only [MapI] at h; simp [h]
  | (n, v) :: es, ms, h => by simp only [MapI] at h; obtain ⟨m, ms', rfl, _, _, _, h⟩ := h; simp [MapI_length h]
theorem MapS_length : ∀ {es : List (ByteArray × AV)} {ms : List MapEntry}, MapS K es ms → es.length = ms.length
  | [], ms, h => by simp only [MapS] at h; simp [h]
  | (n, v) :: es, ms, h => by simp only [MapS] at h; obtain ⟨m, ms', rfl, _, _, _, h⟩ := h; simp [MapS_length h]

theorem quiet_lenmap (hs : K.src = src) (he : Env K env a.tmps) (hI : Inv K w) {op : Op} {x : Opd} (h : okOp P src op (.lenmap x) = true) {n : Nat}
    (hv : (x.ev env = .nilMap ∧ n = 0) ∨ (∃ id kd es, x.ev env = .map id ∧ K.H id = some (.mapi kd es) ∧ n = es.length) ∨ (∃ id es, x.ev env = .map id ∧ K.H id = some (.maps es) ∧ n = es.length)) : Quiet P op a w K (.int .i64 n) := by
  cases op <;> simp only [okOp] at h <;> try (simp at h; done)
  rename_i c
  obtain ⟨callee, args, argTypes⟩ := c
  cases callee <;> (try simp only at h) <;> try (simp at h; done)
  rename_i b
  cases b <;> (try simp only at h) <;> try (simp at h; done)
  split at h
  · rename_i t x' e1 e2
    obtain rfl := one_list e1
    obtain rfl := one_list e2
    simp only [Bool.and_eq_true] at h
    obtain ⟨ht, h1⟩ := h
    split at ht
    · rename_i k e hu
      have r1 := okOpd_rep hs he h1
      intro o ho
      refine ⟨.int .i64 n, run_builtin ho fun cs => ?_, by simp [Rep]⟩
      rcases hv with ⟨hx, rfl⟩ | ⟨id, kd, es, hx, hh, rfl⟩ | ⟨id, es, hx, hh, rfl⟩ <;> rw [hx] at r1 <;> simp only [Rep] at r1
      · simp [builtin, r1, Builtin.len_, run_underlying hu, goInt]
      · obtain ⟨_, r, r1, hb⟩ := r1
        have := hb (by rw [hh]; simp); subst this
        obtain ⟨_, _, ms, cl, hm, hmi⟩ := hI.live id _ hh
        have hlen := MapI_length hmi
        simp only [Array.length_toList] at hlen
        simp [builtin, r1, Builtin.len_, run_underlying hu, goInt, getObj, Sem.run, hm, hlen]
      · obtain ⟨_, r, r1, hb⟩ := r1
        have := hb (by rw [hh]; simp); subst this
        obtain ⟨_, _, ms, cl, hm, hmi⟩ := hI.live id _ hh
        have hlen := MapS_length hmi
        simp only [Array.length_toList] at hlen
        simp [builtin, r1, Builtin.len_, run_underlying hu, goInt, getObj, Sem.run, hm, hlen]
    · simp at ht
  · simp at h

theorem fold_max {P : Program} {w : World} : ∀ {vs : List AV} {us : List Value} {x z : AV} {u : Value}, foldV maxV x vs = some z → Rep K x u → RepL K vs us → ∃ r, (us.foldlM Builtin.max2 u).run P w = .ok r w ∧ Rep K z r
  | [], us, x, z, u, h, hx, hl => by
    simp only [RepL] at hl; subst hl
    simp only [foldV, Option.some.injEq] at h; subst h
    exact ⟨u, by simp, hx⟩
  | v :: vs, us, x, z, u, h, hx, hl => by
    simp only [RepL] at hl
    obtain ⟨u', us', rfl, hv, hl⟩ := hl
    simp only [foldV] at h
    split at h
    · rename_i y hy
      unfold maxV at hy
      split at hy
      · rename_i k i k' j
        split at hy
        · simp only [Option.some.injEq] at hy; subst hy
          simp only [Rep] at hx hv; subst hx; subst hv
          obtain ⟨r, hr, hz⟩ := fold_max (u := .int k (if j > i then j else i)) h (by simp [Rep]) hl
          exact ⟨r, by simp [List.foldlM_cons, Builtin.max2]; simpa using hr, hz⟩
        · simp at hy
      · simp at hy
    · simp at h

theorem fold_min {P : Program} {w : World} : ∀ {vs : List AV} {us : List Value} {x z : AV} {u : Value}, foldV minV x vs = some z → Rep K x u → RepL K vs us → ∃ r, (us.foldlM Builtin.min2 u).run P w = .ok r w ∧ Rep K z r
  | [], us, x, z, u, h, hx, hl => by
    simp only [RepL] at hl; subst hl
    simp only [foldV, Option.some.injEq] at h; subst h
    exact ⟨u, by simp, hx⟩
  | v :: vs, us, x, z, u, h, hx, hl => by
    simp only [RepL] at hl
    obtain ⟨u', us', rfl, hv, hl⟩ := hl
    simp only [foldV] at h
    split at h
    · rename_i y hy
      unfold minV at hy
      split at hy
      · rename_i k i k' j
        split at hy
        · simp only [Option.some.injEq] at hy; subst hy
          simp only [Rep] at hx hv; subst hx; subst hv
          obtain ⟨r, hr, hz⟩ := fold_min (u := .int k (if j < i then j else i)) h (by simp [Rep]) hl
          exact ⟨r, by simp [List.foldlM_cons, Builtin.min2]; simpa using hr, hz⟩
        · simp at hy
      · simp at hy
    · simp at h

theorem quiet_max (hs : K.src = src) (he : Env K env a.tmps) {op : Op} {x y : Opd} {more : List Opd} (h : okOp P src op (.max x y more) = true) {v : AV} (hv : foldV maxV (x.ev env) (y.ev env :: more.map fun z => z.ev env) = some v) : Quiet P op a w K v := by
  cases op <;> simp only [okOp] at h <;> try (simp at h; done)
  rename_i c
  obtain ⟨callee, args, argTypes⟩ := c
  cases callee <;> (try simp only at h) <;> try (simp at h; done)
  rename_i b
  cases b <;> (try simp only at h) <;> try (simp at h; done)
  have r := okOpds_rep hs he h
  simp only [List.map_cons, RepL] at r
  obtain ⟨u, us, e, hu, hl⟩ := r
  obtain ⟨r, hr, hz⟩ := fold_max (P := P) (w := w) hv hu (by simpa [RepL] using hl)
  intro o ho
  refine ⟨r, run_builtin ho fun cs => ?_, hz⟩
  have e' : (args.map a.eval).toList = u :: us := by simpa using e
  simp [builtin, Builtin.max_, e, hr]

theorem quiet_min (hs : K.src = src) (he : Env K env a.tmps) {op : Op} {x y : Opd} {more : List Opd} (h : okOp P src op (.min x y more) = true) {v : AV} (hv : foldV minV (x.ev env) (y.ev env :: more.map fun z => z.ev env) = some v) : Quiet P op a w K v := by
  cases op <;> simp only [okOp] at h <;> try (simp at h; done)
  rename_i c
  obtain ⟨callee, args, argTypes⟩ := c
  cases callee <;> (try simp only at h) <;> try (simp at h; done)
  rename_i b
  cases b <;> (try simp only at h) <;> try (simp at h; done)
  have r := okOpds_rep hs he h
  simp only [List.map_cons, RepL] at r
  obtain ⟨u, us, e, hu, hl⟩ := r
  obtain ⟨r, hr, hz⟩ := fold_min (P := P) (w := w) hv hu (by simpa [RepL] using hl)
  intro o ho
  refine ⟨r, run_builtin ho fun cs => ?_, hz⟩
  have e' : (args.map a.eval).toList = u :: us := by simpa using e
  simp [builtin, Builtin.min_, e, hr]

end
end Go.Proofs.Ytmbdccekcfeomaa.Am
