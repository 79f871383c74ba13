/- What a value, a state of the abstract machine are in the model's memory; how that lives on. -/
import Derived.Test.YtmbdccekcfeomaaT02
import Derived.Calls
import Derived.Laws.Rows
import Derived.Laws.Cells
import Derived.Laws.Entries
import Derived.Laws.Slices
import Derived.Laws.StructEq
import Derived.Laws.Small
import Derived.Laws.Unary
import Derived.Laws.IdiomArrays
section
namespace Go.Proofs.Ytmbdccekcfeomaa.Am

structure Ctx where
  Γ : Nat → Nat → AV → Prop
  blk : Nat → Nat
  base : Nat → Nat
  tot : Nat → Nat
  ω : Nat → Nat
  src : Nat → Nat
  H : Nat → Option Obj
  lo : Nat → Option (Nat × AV)
  used : Nat → Prop

def Frozen (Γ : Nat → Nat → AV → Prop) (sz b o : Nat) (es : List AV) : Prop :=
  ∀ i e, es[i]? = some e → e.cells.length = sz ∧ ∀ j c, e.cells[j]? = some c → Γ b (o + i * sz + j) c

mutual
def Rep (K : Ctx) : AV → Value → Prop
  | .bool b, u => u = .bool b
  | .int k n, u => u = .int k n
  | .str s, u => u = .string s
  | .nilSlice, u => u = .slice none 0 0
  | .slice sz es, u => ∃ (a : Addr) (cap : Nat), u = .slice (some a) es.length cap ∧ es.length ≤ cap ∧ (es ≠ [] → a.spot = none) ∧ Frozen K.Γ sz a.block a.off es
  | .eslice, u => ∃ a, u = .slice (some a) 0 0
  | .lref id i n, u => K.used id ∧ ∃ a cap, u = .slice (some a) n cap ∧ ∀ sz es, K.H id = some (.arr sz es) →
      ∃ o, a = ⟨K.blk id, o, none⟩ ∧ i + cap = K.tot id ∧ n ≤ cap ∧ (i < K.tot id → o = K.base id + i * sz)
  | .nilPtr, u => u = .pointer none
  | .fptr x off, u => ∃ b o, u = .pointer (some ⟨b, o + off, none⟩) ∧ ∀ j c, x.cells[j]? = some c → K.Γ b (o + j) c
  | .ptr id i off, u => K.used id ∧ ∃ a, u = .pointer (some a) ∧ ∀ sz es, K.H id = some (.arr sz es) → a = ⟨K.blk id, K.base id + i * sz + off, none⟩
  | .loc s st off, u => K.used st ∧ ∃ a, u = .pointer (some a) ∧ ∀ v, K.lo s = some (st, v) → a = ⟨K.ω s, off, none⟩
  | .clo f cap, u => ∃ vs : Array Value, u = .func (.func (K.src f)) #[] vs ∧ RepL K cap vs.toList
  | .nilFunc, u => u = .nilFunc
  | .nilMap, u => u = .map none
  | .map id, u => K.used id ∧ ∃ r, u = .map (some r) ∧ (K.H id ≠ none → r = K.blk id)
  | .nilIface, u => u = .nilIface
  | .iface t x, u => ∃ y, u = .iface t y ∧ Rep K x y
  | .agg cs, u => ∃ vs : Array Value, u = .agg vs ∧ RepL K cs vs.toList
  | .tup cs, u => ∃ vs : Array Value, u = .tuple vs ∧ RepL K cs vs.toList
  | .undef, _ => True
def RepL (K : Ctx) : List AV → List Value → Prop
  | [], us => us = []
  | v :: vs, us => ∃ u us', us = u :: us' ∧ Rep K v u ∧ RepL K vs us'
end

theorem RepL_length {K : Ctx} : ∀ {vs : List AV} {us : List Value}, RepL K vs us → vs.length = us.length
  | [], us, h => by simp only [RepL] at h; simp [h]
  | v :: vs, us, h => by
    simp only [RepL] at h
    obtain ⟨u, us', rfl, _, h⟩ := h
    simp [RepL_length h]

theorem RepL_get {K : Ctx} : ∀ {vs : List AV} {us : List Value}, RepL K vs us → ∀ {i : Nat} {v : AV}, vs[i]? = some v → ∃ u, us[i]? = some u ∧ Rep K v u
  | [], us, _, i, v, hv => by simp at hv
  | w :: vs, us, h, i, v, hv => by
    simp only [RepL] at h
    obtain ⟨u, us', rfl, h1, h⟩ := h
    cases i with
    | zero => simp at hv; subst hv; exact ⟨u, by simp, h1⟩
    | succ i => simp at hv; obtain ⟨x, hx, hr⟩ := RepL_get h hv; exact ⟨x, by simpa using hx, hr⟩

theorem RepL_mk {K : Ctx} : ∀ {vs : List AV} {us : List Value}, vs.length = us.length → (∀ (i : Nat) (v : AV) (u : Value), vs[i]? = some v → us[i]? = some u → Rep K v u) → RepL K vs us
  | [], us, h, _ => by simp only [RepL]; cases us <;> simp_all
  | v :: vs, us, h, hr => by
    cases us with
    | nil => simp at h
    | cons u us =>
      simp only [RepL]
      exact ⟨u, us, rfl, hr 0 v u rfl rfl, RepL_mk (by simpa using h) (fun i v' u' hv hu => hr (i + 1) v' u' (by simpa using hv) (by simpa using hu))⟩

theorem RepL_append {K : Ctx} : ∀ {as bs : List AV} {xs ys : List Value}, RepL K as xs → RepL K bs ys → RepL K (as ++ bs) (xs ++ ys)
  | [], bs, xs, ys, h, h' => by simp only [RepL] at h; subst h; simpa using h'
  | a :: as, bs, xs, ys, h, h' => by
    simp only [RepL] at h
    obtain ⟨u, us', rfl, h1, h⟩ := h
    simp only [List.cons_append, RepL]
    exact ⟨u, us' ++ ys, rfl, h1, RepL_append h h'⟩

/-- What a later state may know of an elder one's values. -/
structure Ext (K K' : Ctx) : Prop where
  src : K'.src = K.src
  used : ∀ id, K.used id → K'.used id
  Γ : ∀ b o c, K.Γ b o c → K'.Γ b o c
  names : ∀ id, K.used id → K'.H id ≠ none → K'.blk id = K.blk id ∧ K.H id ≠ none
  arrs : ∀ id, K.used id → ∀ sz es, K'.H id = some (.arr sz es) → ∃ es', K.H id = some (.arr sz es') ∧ K'.base id = K.base id ∧ K'.tot id = K.tot id

/-- .. and of local variables. -/
def ExtLo (K K' : Ctx) : Prop := ∀ s st v, K.used st → K'.lo s = some (st, v) → ∃ v', K.lo s = some (st, v') ∧ K'.ω s = K.ω s

theorem Ext.refl (K : Ctx) : Ext K K := ⟨rfl, fun _ h => h, fun _ _ _ h => h, fun _ _ h => ⟨rfl, h⟩, fun _ _ _ es h => ⟨es, h, rfl, rfl⟩⟩
theorem ExtLo.refl (K : Ctx) : ExtLo K K := fun _ _ v _ h => ⟨v, h, rfl⟩

theorem Ext.trans {K K' K'' : Ctx} (h : Ext K K') (h' : Ext K' K'') : Ext K K'' where
  src := h'.src.trans h.src
  used id hu := h'.used id (h.used id hu)
  Γ b o c hc := h'.Γ b o c (h.Γ b o c hc)
  names id hid hh := by
    obtain ⟨e1, n1⟩ := h'.names id (h.used id hid) hh
    obtain ⟨e2, n2⟩ := h.names id hid n1
    exact ⟨e1.trans e2, n2⟩
  arrs id hid sz es hh := by
    obtain ⟨es', h1, b1, t1⟩ := h'.arrs id (h.used id hid) sz es hh
    obtain ⟨es'', h2, b2, t2⟩ := h.arrs id hid sz es' h1
    exact ⟨es'', h2, b1.trans b2, t1.trans t2⟩

theorem Frozen.ext {Γ Γ' : Nat → Nat → AV → Prop} (h : ∀ b o c, Γ b o c → Γ' b o c) {sz b o : Nat} {es : List AV} (hf : Frozen Γ sz b o es) : Frozen Γ' sz b o es :=
  fun i e he => ⟨(hf i e he).1, fun j c hc => h _ _ _ ((hf i e he).2 j c hc)⟩

mutual
theorem Rep.ext {K K' : Ctx} (h : Ext K K') : ∀ {v : AV} {u : Value}, (v.nol = true ∨ ExtLo K K') → Rep K v u → Rep K' v u
  | .bool _, _, _, hr => hr
  | .int _ _, _, _, hr => hr
  | .str _, _, _, hr => hr
  | .nilSlice, _, _, hr => hr
  | .slice sz es, u, _, hr => by
    simp only [Rep] at hr ⊢
    obtain ⟨b, cap, e, hc, hn, hf⟩ := hr
    exact ⟨b, cap, e, hc, hn, hf.ext h.Γ⟩
  | .eslice, _, _, hr => hr
  | .lref id i n, u, _, hr => by
    simp only [Rep] at hr ⊢
    obtain ⟨hid, a, cap, e, hl⟩ := hr
    refine ⟨h.used id hid, a, cap, e, fun sz es hh => ?_⟩
    obtain ⟨es', hh', hb, ht⟩ := h.arrs id hid sz es hh
    obtain ⟨o, ho, h1, h2, h3⟩ := hl sz es' hh'
    rw [(h.names id hid (by rw [hh]; simp)).1, hb, ht]
    exact ⟨o, ho, h1, h2, h3⟩
  | .nilPtr, _, _, hr => hr
  | .fptr x off, u, _, hr => by
    simp only [Rep] at hr ⊢
    obtain ⟨b, o, e, hc⟩ := hr
    exact ⟨b, o, e, fun j c hj => h.Γ _ _ _ (hc j c hj)⟩
  | .ptr id i off, u, _, hr => by
    simp only [Rep] at hr ⊢
    obtain ⟨hid, a, e, hl⟩ := hr
    refine ⟨h.used id hid, a, e, fun sz es hh => ?_⟩
    obtain ⟨es', hh', hb, ht⟩ := h.arrs id hid sz es hh
    rw [(h.names id hid (by rw [hh]; simp)).1, hb]
    exact hl sz es' hh'
  | .loc s st off, u, hlo, hr => by
    simp only [Rep] at hr ⊢
    obtain ⟨hst, a, e, hl⟩ := hr
    refine ⟨h.used st hst, a, e, fun v hv => ?_⟩
    rcases hlo with hlo | hlo
    · simp [AV.nol] at hlo
    · obtain ⟨v', hv', hw⟩ := hlo s st v hst hv
      rw [hw]; exact hl v' hv'
  | .clo f cap, u, hlo, hr => by
    simp only [Rep] at hr ⊢
    obtain ⟨vs, e, hl⟩ := hr
    exact ⟨vs, by rw [h.src]; exact e, RepL.ext h (hlo.imp (by simp [AV.nol]) id) hl⟩
  | .nilFunc, _, _, hr => hr
  | .nilMap, _, _, hr => hr
  | .map id, u, _, hr => by
    simp only [Rep] at hr ⊢
    obtain ⟨hid, r, e, hl⟩ := hr
    refine ⟨h.used id hid, r, e, fun hh => ?_⟩
    obtain ⟨e1, n1⟩ := h.names id hid hh
    rw [e1]; exact hl n1
  | .nilIface, _, _, hr => hr
  | .iface t x, u, hlo, hr => by
    simp only [Rep] at hr ⊢
    obtain ⟨y, e, hx⟩ := hr
    exact ⟨y, e, Rep.ext h (hlo.imp (by simp [AV.nol]) id) hx⟩
  | .agg cs, u, hlo, hr => by
    simp only [Rep] at hr ⊢
    obtain ⟨vs, e, hl⟩ := hr
    exact ⟨vs, e, RepL.ext h (hlo.imp (by simp [AV.nol]) id) hl⟩
  | .tup cs, u, hlo, hr => by
    simp only [Rep] at hr ⊢
    obtain ⟨vs, e, hl⟩ := hr
    exact ⟨vs, e, RepL.ext h (hlo.imp (by simp [AV.nol]) id) hl⟩
  | .undef, _, _, _ => trivial
theorem RepL.ext {K K' : Ctx} (h : Ext K K') : ∀ {vs : List AV} {us : List Value}, (AV.nols vs = true ∨ ExtLo K K') → RepL K vs us → RepL K' vs us
  | [], _, _, hr => hr
  | v :: vs, us, hlo, hr => by
    simp only [RepL] at hr ⊢
    obtain ⟨u, us', e, h1, h2⟩ := hr
    exact ⟨u, us', e, Rep.ext h (hlo.imp (by simp [AV.nols]; intro a _; exact a) id) h1, RepL.ext h (hlo.imp (by simp [AV.nols]) id) h2⟩
end

mutual
/-- What has no names is the same in every state that knows the same memory. -/
theorem Rep.solid {K K' : Ctx} (hs : K'.src = K.src) (hΓ : ∀ b o c, K.Γ b o c → K'.Γ b o c) : ∀ {v : AV} {u : Value}, v.solid = true → Rep K v u → Rep K' v u
  | .bool _, _, _, hr => hr
  | .int _ _, _, _, hr => hr
  | .str _, _, _, hr => hr
  | .nilSlice, _, _, hr => hr
  | .slice sz es, u, _, hr => by
    simp only [Rep] at hr ⊢
    obtain ⟨b, cap, e, hc, hn, hf⟩ := hr
    exact ⟨b, cap, e, hc, hn, hf.ext hΓ⟩
  | .eslice, _, _, hr => hr
  | .lref id i n, u, h, _ => by simp [AV.solid] at h
  | .nilPtr, _, _, hr => hr
  | .fptr x off, u, _, hr => by
    simp only [Rep] at hr ⊢
    obtain ⟨b, o, e, hc⟩ := hr
    exact ⟨b, o, e, fun j c hj => hΓ _ _ _ (hc j c hj)⟩
  | .ptr id i off, u, h, _ => by simp [AV.solid] at h
  | .loc s st off, u, h, _ => by simp [AV.solid] at h
  | .clo f cap, u, h, hr => by
    simp only [Rep] at hr ⊢
    obtain ⟨vs, e, hl⟩ := hr
    exact ⟨vs, by rw [hs]; exact e, RepL.solid hs hΓ (by simpa [AV.solid] using h) hl⟩
  | .nilFunc, _, _, hr => hr
  | .nilMap, _, _, hr => hr
  | .map id, u, h, _ => by simp [AV.solid] at h
  | .nilIface, _, _, hr => hr
  | .iface t x, u, h, hr => by
    simp only [Rep] at hr ⊢
    obtain ⟨y, e, hx⟩ := hr
    exact ⟨y, e, Rep.solid hs hΓ (by simpa [AV.solid] using h) hx⟩
  | .agg cs, u, h, hr => by
    simp only [Rep] at hr ⊢
    obtain ⟨vs, e, hl⟩ := hr
    exact ⟨vs, e, RepL.solid hs hΓ (by simpa [AV.solid] using h) hl⟩
  | .tup cs, u, h, hr => by
    simp only [Rep] at hr ⊢
    obtain ⟨vs, e, hl⟩ := hr
    exact ⟨vs, e, RepL.solid hs hΓ (by simpa [AV.solid] using h) hl⟩
  | .undef, _, h, _ => by simp [AV.solid] at h
theorem RepL.solid {K K' : Ctx} (hs : K'.src = K.src) (hΓ : ∀ b o c, K.Γ b o c → K'.Γ b o c) : ∀ {vs : List AV} {us : List Value}, AV.solids vs = true → RepL K vs us → RepL K' vs us
  | [], _, _, hr => hr
  | v :: vs, us, h, hr => by
    simp only [RepL] at hr ⊢
    simp only [AV.solids, Bool.and_eq_true] at h
    obtain ⟨u, us', e, h1, h2⟩ := hr
    exact ⟨u, us', e, Rep.solid hs hΓ h.1 h1, RepL.solid hs hΓ h.2 h2⟩
end

/-! ### states in memory -/

def MapI (K : Ctx) (kd : IntKind) : List (Int × AV) → List MapEntry → Prop
  | [], ms => ms = []
  | (n, v) :: es, ms => ∃ m ms', ms = m :: ms' ∧ m.key = .int kd n ∧ Rep K v m.val ∧ v.storable = true ∧ MapI K kd es ms'
def MapS (K : Ctx) : List (ByteArray × AV) → List MapEntry → Prop
  | [], ms => ms = []
  | (n, v) :: es, ms => ∃ m ms', ms = m :: ms' ∧ m.key = .string n ∧ Rep K v m.val ∧ v.storable = true ∧ MapS K es ms'

/-- Cells from a place on are a value's. -/
def CellsAt (K : Ctx) (w : World) (b o : Nat) (e : AV) : Prop :=
  e.storable = true ∧ ∀ j c, e.cells[j]? = some c → ∃ u, w.cell? ⟨b, o + j, none⟩ = some u ∧ Rep K c u

def ObjOk (K : Ctx) (w : World) (id : Nat) : Obj → Prop
  | .arr sz es => es.length ≤ K.tot id ∧ (∃ cs el, w.heap[K.blk id]? = some (.cells cs el (0, 0)) ∧ K.base id + K.tot id * sz ≤ cs.size) ∧
      ∀ i e, es[i]? = some e → e.cells.length = sz ∧ CellsAt K w (K.blk id) (K.base id + i * sz) e
  | .mapi kd es => ∃ ms clock, w.heap[K.blk id]? = some (.map ms clock) ∧ MapI K kd es ms.toList
  | .maps es => ∃ ms clock, w.heap[K.blk id]? = some (.map ms clock) ∧ MapS K es ms.toList

structure Inv (K : Ctx) (w : World) : Prop where
  frozen : ∀ b o c, K.Γ b o c → c.solid = true ∧ c.one = true ∧ ∃ u, w.cell? ⟨b, o, none⟩ = some u ∧ Rep K c u
  live : ∀ id ob, K.H id = some ob → K.used id ∧ (∀ o c, ¬ K.Γ (K.blk id) o c) ∧ ObjOk K w id ob
  dist : ∀ id id', K.H id ≠ none → K.H id' ≠ none → K.blk id = K.blk id' → id = id'
  locs : ∀ s st v, K.lo s = some (st, v) → K.used st ∧ (∀ o c, ¬ K.Γ (K.ω s) o c) ∧ (∀ id, K.H id ≠ none → K.blk id ≠ K.ω s) ∧
      (∃ cs el, w.heap[K.ω s]? = some (.cells cs el (0, 0)) ∧ v.cells.length ≤ cs.size) ∧ CellsAt K w (K.ω s) 0 v
  locd : ∀ s s', K.lo s ≠ none → K.lo s' ≠ none → K.ω s = K.ω s' → s = s'

theorem Inv.blk_lt {K : Ctx} {w : World} (h : Inv K w) {id : Nat} (hid : K.H id ≠ none) : K.blk id < w.heap.size := by
  cases ho : K.H id with
  | none => exact absurd ho hid
  | some ob =>
    obtain ⟨_, _, hok⟩ := h.live id ob ho
    have key : ∀ {x}, w.heap[K.blk id]? = some x → K.blk id < w.heap.size := fun hx => (Array.getElem?_eq_some_iff.1 hx).1
    cases ob with
    | arr sz es => obtain ⟨_, ⟨cs, el, hc, _⟩, _⟩ := hok; exact key hc
    | mapi kd es => obtain ⟨ms, c, hc, _⟩ := hok; exact key hc
    | maps es => obtain ⟨ms, c, hc, _⟩ := hok; exact key hc

theorem Inv.ω_lt {K : Ctx} {w : World} (h : Inv K w) {s : Nat} (hs : K.lo s ≠ none) : K.ω s < w.heap.size := by
  cases ho : K.lo s with
  | none => exact absurd ho hs
  | some p =>
    obtain ⟨_, _, _, ⟨cs, el, hc, _⟩, _⟩ := h.locs s p.1 p.2 (by rw [ho])
    exact (Array.getElem?_eq_some_iff.1 hc).1

theorem Inv.Γ_lt {K : Ctx} {w : World} (h : Inv K w) {b o : Nat} {c : AV} (hc : K.Γ b o c) : b < w.heap.size := by
  obtain ⟨_, _, u, hu, _⟩ := h.frozen b o c hc
  exact block_lt_of_cell (a := ⟨b, o, none⟩) hu

/-- What a world has beside memory is as it was. -/
def SameIo (w w' : World) : Prop := w'.os = w.os ∧ w'.tape = w.tape ∧ w'.output = w.output
theorem SameIo.refl (w : World) : SameIo w w := ⟨rfl, rfl, rfl⟩
theorem SameIo.trans {w w' w'' : World} (h : SameIo w w') (h' : SameIo w' w'') : SameIo w w'' := ⟨h'.1.trans h.1, h'.2.1.trans h.2.1, h'.2.2.trans h.2.2⟩

/-- From a call's begin to a later state of it. 'wl': names below are as they were. -/
structure Since (wl n₀ : Nat) (K₀ : Ctx) (w₀ : World) (K : Ctx) (w : World) : Prop where
  size : w₀.heap.size ≤ w.heap.size
  keep : ∀ b, b < w₀.heap.size → (∀ id, K₀.H id ≠ none → K₀.blk id ≠ b) → w.heap[b]? = w₀.heap[b]? ∧ ∀ o, K.Γ b o = K₀.Γ b o
  ext : Ext K₀ K
  low : ∀ id, id < wl → K.H id = K₀.H id
  mine : ∀ id, K.H id ≠ none → w₀.heap.size ≤ K.blk id ∨ ∃ id₀, K₀.H id₀ ≠ none ∧ K₀.blk id₀ = K.blk id
  locs : ∀ s, K.lo s ≠ none → w₀.heap.size ≤ K.ω s
  old : ∀ id, id < n₀ → K.used id → K₀.used id
  io : SameIo w₀ w

theorem Since.start {wl n : Nat} {K : Ctx} {w : World} (h : ∀ s, K.lo s = none) : Since wl n K w K w :=
  ⟨Nat.le_refl _, fun _ _ _ => ⟨rfl, fun _ => rfl⟩, Ext.refl K, fun _ _ => rfl, fun id h => .inr ⟨id, h, rfl⟩, fun s hs => absurd (h s) hs, fun _ _ h => h, SameIo.refl w⟩

/-- One step's change. -/
structure Evo (wl n₀ : Nat) (K : Ctx) (w : World) (K' : Ctx) (w' : World) : Prop where
  size : w.heap.size ≤ w'.heap.size
  keep : ∀ b, b < w.heap.size → (∀ id, K.H id ≠ none → K.blk id ≠ b) → (∀ s, K.lo s ≠ none → K.ω s ≠ b) → w'.heap[b]? = w.heap[b]? ∧ ∀ o, K'.Γ b o = K.Γ b o
  ext : Ext K K'
  extLo : ExtLo K K'
  low : ∀ id, id < wl → K'.H id = K.H id
  mine : ∀ id, K'.H id ≠ none → w.heap.size ≤ K'.blk id ∨ ∃ id₀, K.H id₀ ≠ none ∧ K.blk id₀ = K'.blk id
  locs : ∀ s, K'.lo s ≠ none → w.heap.size ≤ K'.ω s ∨ (K.lo s ≠ none ∧ K'.ω s = K.ω s)
  old : ∀ id, id < n₀ → K'.used id → K.used id
  io : SameIo w w'

theorem Evo.refl (wl n₀ : Nat) (K : Ctx) (w : World) : Evo wl n₀ K w K w :=
  ⟨Nat.le_refl _, fun _ _ _ _ => ⟨rfl, fun _ => rfl⟩, Ext.refl K, ExtLo.refl K, fun _ _ => rfl, fun id h => .inr ⟨id, h, rfl⟩, fun _ h => .inr ⟨h, rfl⟩, fun _ _ h => h, SameIo.refl w⟩

theorem Since.evo {wl n₀ : Nat} {K₀ K K' : Ctx} {w₀ w w' : World} (h : Since wl n₀ K₀ w₀ K w) (h' : Evo wl n₀ K w K' w') : Since wl n₀ K₀ w₀ K' w' where
  size := Nat.le_trans h.size h'.size
  keep b hb hn := by
    have hl : ∀ id, K.H id ≠ none → K.blk id ≠ b := by
      intro id hid e
      rcases h.mine id hid with g | ⟨id₀, h0, e0⟩
      · omega
      · exact hn id₀ h0 (e0.trans e)
    have hs : ∀ s, K.lo s ≠ none → K.ω s ≠ b := by
      intro s hs e
      have := h.locs s hs
      omega
    obtain ⟨a1, a2⟩ := h.keep b hb hn
    obtain ⟨b1, b2⟩ := h'.keep b (Nat.lt_of_lt_of_le hb h.size) hl hs
    exact ⟨b1.trans a1, fun o => (b2 o).trans (a2 o)⟩
  ext := h.ext.trans h'.ext
  low id hid := (h'.low id hid).trans (h.low id hid)
  mine id hid := by
    rcases h'.mine id hid with g | ⟨id₀, h0, e0⟩
    · exact .inl (Nat.le_trans h.size g)
    · rcases h.mine id₀ h0 with g | ⟨id₁, h1, e1⟩
      · exact .inl (by omega)
      · exact .inr ⟨id₁, h1, e1.trans e0⟩
  locs s hs := by
    rcases h'.locs s hs with g | ⟨g, e⟩
    · exact Nat.le_trans h.size g
    · rw [e]; exact h.locs s g
  old id hid hu := h.old id hid (h'.old id hid hu)
  io := h.io.trans h'.io

end Go.Proofs.Ytmbdccekcfeomaa.Am
end
/- The model's operations and the abstract machine's: when the one is the other's; and that they do the same: those that leave memory alone. -/
section
namespace Go.Proofs.Ytmbdccekcfeomaa.Am
set_option linter.unusedVariables false
set_option linter.unusedSimpArgs false
set_option linter.unnecessarySimpa false

mutual
def okConst (src : Nat → Nat) (v : Value) : AV → Bool
  | .bool b => match v with | .bool c => b == c | _ => false
  | .int k n => match v with | .int k' m => decide (k = k') && decide (n = m) | _ => false
  | .str s => match v with | .string t => s.data.toList == t.data.toList | _ => false
  | .nilSlice => match v with | .slice none 0 0 => true | _ => false
  | .nilPtr => match v with | .pointer none => true | _ => false
  | .nilMap => match v with | .map none => true | _ => false
  | .nilFunc => match v with | .nilFunc => true | _ => false
  | .nilIface => match v with | .nilIface => true | _ => false
  | .clo g cap => match cap with
    | [] => match v with | .func (.func f) a b => src g == f && a.toList.isEmpty && b.toList.isEmpty | _ => false
    | _ => false
  | .agg cs => match v with | .agg vs => okConsts src vs.toList cs | _ => false
  | .tup cs => match v with | .tuple vs => okConsts src vs.toList cs | _ => false
  | _ => false
def okConsts (src : Nat → Nat) (vs : List Value) : List AV → Bool
  | [] => match vs with | [] => true | _ => false
  | c :: cs => match vs with | v :: vs => okConst src v c && okConsts src vs cs | _ => false
end

theorem str_eq {s t : ByteArray} (h : (s.data.toList == t.data.toList) = true) : s = t := by
  cases s; cases t; simp_all

mutual
theorem okConst_rep {src : Nat → Nat} {K : Ctx} (hs : K.src = src) : ∀ {c : AV} {v : Value}, okConst src v c = true → Rep K c v ∧ c.solid = true
  | .bool b, v, h => by cases v <;> simp_all [okConst, Rep, AV.solid]
  | .int k n, v, h => by cases v <;> simp_all [okConst, Rep, AV.solid]
  | .str s, v, h => by
    cases v <;> simp [okConst] at h
    simp [Rep, AV.solid]
    exact (str_eq (by simpa using h)).symm
  | .nilSlice, v, h => by
    unfold okConst at h
    split at h
    · exact ⟨by simp [Rep], rfl⟩
    · simp at h
  | .slice _ _, v, h => by simp [okConst] at h
  | .eslice, v, h => by simp [okConst] at h
  | .lref .., v, h => by simp [okConst] at h
  | .nilPtr, v, h => by
    cases v <;> simp [okConst] at h
    rename_i a
    cases a <;> simp_all [Rep, AV.solid]
  | .fptr .., v, h => by simp [okConst] at h
  | .ptr .., v, h => by simp [okConst] at h
  | .loc .., v, h => by simp [okConst] at h
  | .clo g [], v, h => by
    unfold okConst at h
    dsimp only at h
    split at h
    · rename_i f a b
      simp only [Bool.and_eq_true, List.isEmpty_iff, beq_iff_eq] at h
      obtain ⟨⟨rfl, ha⟩, hb⟩ := h
      obtain rfl : a = #[] := Array.toList_inj.1 (by simpa using ha)
      obtain rfl : b = #[] := Array.toList_inj.1 (by simpa using hb)
      simp only [Rep, RepL, AV.solid, AV.solids]
      exact ⟨⟨#[], by rw [hs], rfl⟩, trivial⟩
    · simp at h
  | .clo g (_ :: _), v, h => by simp [okConst] at h
  | .nilFunc, v, h => by cases v <;> simp_all [okConst, Rep, AV.solid]
  | .nilMap, v, h => by
    cases v <;> simp [okConst] at h
    rename_i a
    cases a <;> simp_all [Rep, AV.solid]
  | .map _, v, h => by simp [okConst] at h
  | .nilIface, v, h => by cases v <;> simp_all [okConst, Rep, AV.solid]
  | .iface .., v, h => by simp [okConst] at h
  | .agg cs, v, h => by
    cases v <;> simp [okConst] at h
    rename_i vs
    obtain ⟨h1, h2⟩ := okConsts_rep hs h
    simp only [Rep, AV.solid]
    exact ⟨⟨vs, rfl, h1⟩, h2⟩
  | .tup cs, v, h => by
    cases v <;> simp [okConst] at h
    rename_i vs
    obtain ⟨h1, h2⟩ := okConsts_rep hs h
    simp only [Rep, AV.solid]
    exact ⟨⟨vs, rfl, h1⟩, h2⟩
  | .undef, v, h => by simp [okConst] at h
theorem okConsts_rep {src : Nat → Nat} {K : Ctx} (hs : K.src = src) : ∀ {cs : List AV} {vs : List Value}, okConsts src vs cs = true → RepL K cs vs ∧ AV.solids cs = true
  | [], vs, h => by cases vs <;> simp_all [okConsts, RepL, AV.solids]
  | c :: cs, vs, h => by
    cases vs with
    | nil => simp [okConsts] at h
    | cons v vs =>
      simp only [okConsts, Bool.and_eq_true] at h
      obtain ⟨a1, a2⟩ := okConst_rep hs h.1
      obtain ⟨b1, b2⟩ := okConsts_rep hs h.2
      simp only [RepL, AV.solids]
      exact ⟨⟨v, vs, rfl, a1, b1⟩, by simp [a2, b2]⟩
end

def okOpd (src : Nat → Nat) (x : Operand) : Opd → Bool
  | .t n => match x with | .tmp t => t == n | _ => false
  | .c a => match x with
    | .const v => okConst src v a
    | .func f => match a with | .clo g [] => src g == f | _ => false
    | _ => false
def okOpds (src : Nat → Nat) : List Operand → List Opd → Bool
  | [], [] => true
  | x :: xs, y :: ys => okOpd src x y && okOpds src xs ys
  | _, _ => false
def okOpt (src : Nat → Nat) : Option Operand → Option Opd → Bool
  | none, none => true
  | some x, some y => okOpd src x y
  | _, _ => false

/-- The frame's values. -/
def Env (K : Ctx) (env : Nat → AV) (tmps : Array Value) : Prop := ∀ j, Rep K (env j) (tmps.getD j undef)

theorem okOpd_rep {src : Nat → Nat} {K : Ctx} (hs : K.src = src) {env : Nat → AV} {a : Act} (he : Env K env a.tmps) {x : Operand} {y : Opd} (h : okOpd src x y = true) : Rep K (y.ev env) (a.eval x) := by
  cases y with
  | t n =>
    cases x <;> simp [okOpd] at h
    subst h
    exact he _
  | c v =>
    cases x <;> simp [okOpd] at h
    · exact (okConst_rep hs h).1
    · rename_i f
      split at h
      · rename_i g
        simp only [Opd.ev, Act.eval, Rep, RepL]
        refine ⟨#[], ?_, rfl⟩
        rw [hs, eq_of_beq h]
      · simp at h

theorem okOpds_rep {src : Nat → Nat} {K : Ctx} (hs : K.src = src) {env : Nat → AV} {a : Act} (he : Env K env a.tmps) : ∀ {xs : List Operand} {ys : List Opd}, okOpds src xs ys = true → RepL K (ys.map fun y => y.ev env) (xs.map a.eval)
  | [], [], _ => by simp [RepL]
  | [], _ :: _, h => by simp [okOpds] at h
  | _ :: _, [], h => by simp [okOpds] at h
  | x :: xs, y :: ys, h => by
    simp only [okOpds, Bool.and_eq_true] at h
    simp only [List.map_cons, RepL]
    exact ⟨_, _, rfl, okOpd_rep hs he h.1, okOpds_rep hs he h.2⟩

/-! ### types -/

def sizeIs (P : Program) (t sz : Nat) : Bool := match P.info? t with | some i => i.size == sz && decide (0 < sz) | none => false
def aggIs (P : Program) (t : Nat) (b : Bool) : Bool := match P.underlying t with
  | some (.struct _) | some (.array _ _) => b
  | some _ => !b
  | none => false
def zeroIs (P : Program) (src : Nat → Nat) (t : Nat) (z : AV) : Bool := match P.info? t with
  | some i => match i.zero with | some v => okConst src v z && z.storable && decide (z.cells.length = i.size) | none => false
  | none => false
def bytesIs (P : Program) (t n : Nat) : Bool := match P.info? t with | some i => i.bytes == n | none => false
def sliceElem (P : Program) (t : Nat) : Option Nat := match P.underlying t with | some (.slice e) => some e | _ => none
def arrayOf (P : Program) (t : Nat) : Option (Nat × Nat) := match P.underlying t with | some (.array n e) => some (n, e) | _ => none
def fieldOf (P : Program) (t f : Nat) : Option Field := match P.underlying t with | some (.struct fs) => fs[f]? | _ => none

theorem run_sizeOf {P : Program} {t sz : Nat} (h : sizeIs P t sz = true) (w : World) : (sizeOf t).run P w = .ok sz w := by
  unfold sizeIs at h
  split at h
  · rename_i i hi
    simp only [Bool.and_eq_true, beq_iff_eq] at h
    simp [sizeOf, typeInfo, hi, h.1]
  · simp at h

theorem run_isAgg {P : Program} {t : Nat} {b : Bool} (h : aggIs P t b = true) (w : World) : (isAgg t).run P w = .ok b w := by
  unfold aggIs at h
  cases hu : P.underlying t with
  | none => rw [hu] at h; simp at h
  | some d =>
    rw [hu] at h
    cases d <;> simp_all [isAgg, run_underlying hu]

theorem run_zeroValue {P : Program} {src : Nat → Nat} {t : Nat} {z : AV} (h : zeroIs P src t z = true) : ∃ v i, P.info? t = some i ∧ i.zero = some v ∧ okConst src v z = true ∧ z.storable = true ∧ z.cells.length = i.size ∧ ∀ w, (zeroValue t).run P w = .ok v w := by
  unfold zeroIs at h
  split at h
  · rename_i i hi
    split at h
    · rename_i v hv
      simp only [Bool.and_eq_true, decide_eq_true_eq] at h
      exact ⟨v, i, hi, hv, h.1.1, h.1.2, h.2, fun w => by simp [zeroValue, typeInfo, hi, hv]⟩
    · simp at h
  · simp at h

/-! ### cells -/

mutual
theorem solid_nol : ∀ {v : AV}, v.solid = true → v.nol = true
  | .bool _, _ | .int _ _, _ | .str _, _ | .nilSlice, _ | .slice _ _, _ | .eslice, _ | .nilPtr, _ | .fptr _ _, _ | .nilFunc, _ | .nilMap, _ | .nilIface, _ => rfl
  | .lref .., _ | .ptr .., _ | .map _, _ | .undef, _ => rfl
  | .loc .., h => by simp [AV.solid] at h
  | .clo _ cap, h => by simp only [AV.nol]; exact solids_nols (by simpa [AV.solid] using h)
  | .iface _ x, h => by simp only [AV.nol]; exact solid_nol (by simpa [AV.solid] using h)
  | .agg cs, h => by simp only [AV.nol]; exact solids_nols (by simpa [AV.solid] using h)
  | .tup cs, h => by simp only [AV.nol]; exact solids_nols (by simpa [AV.solid] using h)
theorem solids_nols : ∀ {vs : List AV}, AV.solids vs = true → AV.nols vs = true
  | [], _ => rfl
  | v :: vs, h => by
    simp only [AV.solids, Bool.and_eq_true] at h
    simp [AV.nols, solid_nol h.1, solids_nols h.2]
end

theorem solids_get {vs : List AV} (h : AV.solids vs = true) : ∀ {j : Nat} {c : AV}, vs[j]? = some c → c.solid = true := by
  induction vs with
  | nil => intro j c hc; simp at hc
  | cons v vs ih =>
    intro j c hc
    simp only [AV.solids, Bool.and_eq_true] at h
    cases j with
    | zero => simp at hc; subst hc; exact h.1
    | succ j => simp at hc; exact ih h.2 hc

theorem solids_of {vs : List AV} (h : ∀ (j : Nat) (c : AV), vs[j]? = some c → c.solid = true) : AV.solids vs = true := by
  induction vs with
  | nil => rfl
  | cons v vs ih =>
    simp only [AV.solids, Bool.and_eq_true]
    exact ⟨h 0 v rfl, ih fun j c hc => h (j + 1) c (by simpa using hc)⟩

theorem nols_get {vs : List AV} (h : AV.nols vs = true) : ∀ {j : Nat} {c : AV}, vs[j]? = some c → c.nol = true := by
  induction vs with
  | nil => intro j c hc; simp at hc
  | cons v vs ih =>
    intro j c hc
    simp only [AV.nols, Bool.and_eq_true] at h
    cases j with
    | zero => simp at hc; subst hc; exact h.1
    | succ j => simp at hc; exact ih h.2 hc

theorem solid_cells {x : AV} (h : x.solid = true) {j : Nat} {c : AV} (hc : x.cells[j]? = some c) : c.solid = true := by
  cases x <;> first
    | (simp only [AV.cells] at hc; exact solids_get (by simpa [AV.solid] using h) hc)
    | (simp only [AV.cells] at hc; cases j <;> simp at hc; subst hc; exact h)

theorem nol_cells {x : AV} (h : x.nol = true) {j : Nat} {c : AV} (hc : x.cells[j]? = some c) : c.nol = true := by
  cases x <;> first
    | (simp only [AV.cells] at hc; exact nols_get (by simpa [AV.nol] using h) hc)
    | (simp only [AV.cells] at hc; cases j <;> simp at hc; subst hc; exact h)

theorem storable_cells {x : AV} (h : x.storable = true) {j : Nat} {c : AV} (hc : x.cells[j]? = some c) : c.one = true := by
  simp only [AV.storable, Bool.and_eq_true, List.all_eq_true] at h
  exact h.1 c (List.mem_of_getElem? hc)

theorem storable_nol {x : AV} (h : x.storable = true) : x.nol = true := by
  simp only [AV.storable, Bool.and_eq_true] at h
  exact h.2

/-- The cells of a value that is stored. -/
theorem Rep.cells {K : Ctx} {x : AV} {u : Value} (hx : x.storable = true) (h : Rep K x u) : RepL K x.cells u.cells.toList := by
  simp only [AV.storable, Bool.and_eq_true] at hx
  replace hx := hx.1
  cases x <;> simp only [AV.cells, List.all_cons, List.all_nil, AV.one, Bool.and_true] at hx
  case agg cs =>
    simp only [Rep] at h
    obtain ⟨vs, rfl, h⟩ := h
    exact h
  all_goals try simp at hx
  all_goals (
    have hu : u.cells = #[u] := by
      simp only [Rep] at h
      cases u <;> first | rfl | simp_all
    rw [hu]
    simp only [AV.cells, RepL]
    exact ⟨u, [], rfl, h, rfl⟩)

theorem one_oneCell {K : Ctx} {c : AV} {u : Value} (hc : c.one = true) (h : Rep K c u) : u.oneCell' = true := by
  cases c <;> simp only [AV.one] at hc <;> (try simp at hc) <;> simp only [Rep] at h
  all_goals first
    | (subst h; rfl)
    | (obtain ⟨_, rfl⟩ := h; rfl)
    | (obtain ⟨_, rfl, _⟩ := h; rfl)
    | (obtain ⟨_, _, rfl, _⟩ := h; rfl)
    | (obtain ⟨_, _, _, rfl, _⟩ := h; rfl)
    | (obtain ⟨_, _, _, rfl⟩ := h; rfl)

end Go.Proofs.Ytmbdccekcfeomaa.Am
end
/- When an operation of the model is one of the abstract machine; those that leave memory alone do the same. -/
section
namespace Go.Proofs.Ytmbdccekcfeomaa.Am
set_option linter.unusedVariables false
set_option linter.unusedSimpArgs false
set_option linter.unnecessarySimpa false

def okParts (src : Nat → Nat) (place : Nat → Option (Nat × Nat)) : List (Nat × Operand) → List (Nat × Nat × Opd) → Bool
  | [], [] => true
  | (i, x) :: xs, (off, sz, y) :: ys => okOpd src x y && (match place i with | some (o, s) => o == off && s == sz | none => false) && okParts src place xs ys
  | _, _ => false

def places (P : Program) (fs : Array Field) : List (Nat × Nat) := fs.toList.map fun f => (f.offset, P.cellsOf f.type)

/-- Fields that are plain cells, of these kinds, in order from a place on. -/
def flat (P : Program) : Nat → List Field → List Nat → Bool
  | _, [], [] => true
  | n, f :: fs, k :: ks => f.offset == n && f.name != "_" && (match P.underlying f.type with | some (.int _) => k == 0 | some .bool => k == 1 | some .string => k == 2 | _ => false) && flat P (n + 1) fs ks
  | _, _, _ => false

def repl {α : Type} (n : Nat) (xs : List α) : List α := match n with | 0 => [] | n + 1 => xs ++ repl n xs

def keyIs (P : Program) (t : Nat) (s : Bool) : Bool := match P.underlying t with | some (.int _) => !s | some .string => s | _ => false

def okOp (P : Program) (src : Nat → Nat) (op : Op) : AOp → Bool
  | .mov x => match op with | .move y | .assign y => okOpd src y x | _ => false
  | .pick c a b => match op with | .pick c' a' b' => okOpd src c' c && okOpd src a' a && okOpd src b' b | _ => false
  | .lalloc z => match op with | .alloc e => zeroIs P src e z | _ => false
  | .halloc z => match op with | .alloc e => zeroIs P src e z | _ => false
  | .fbox x => match op with | .box e y => okOpd src y x | _ => false
  | .lbox x => match op with | .box e y => okOpd src y x | _ => false
  | .hbox x => match op with | .box e y => okOpd src y x | _ => false
  | .build z parts => match op with
    | .build t ps => zeroIs P src t (.agg z) && (match P.underlying t with
      | some (.struct fs) => fs.all (fun f => (P.info? f.type).isSome) && okParts src (fun i => (places P fs)[i]?) ps.toList parts
      | some (.array _ e) => (P.info? e).isSome && okParts src (fun i => some (i * P.cellsOf e, P.cellsOf e)) ps.toList parts
      | _ => false)
    | _ => false
  | .bslice _ sz n z parts => match op with
    | .buildSlice t len ps => (match sliceElem P t with
      | some e => sizeIs P e sz && len == n && decide (n * sz ≤ 2 ^ 24) && decide (z.length = n * sz) &&
          (match P.info? e with
           | some i => (match i.zero with | some v => okConsts src (repl n v.cells.toList) z && decide (v.cells.size = sz) | none => false)
           | none => false) && z.all AV.one && okParts src (fun i => some (i * sz, sz)) ps.toList parts
      | none => false)
    | _ => false
  | .load sz agg x => match op with | .load t y => sizeIs P t sz && aggIs P t agg && (agg || sz == 1) && okOpd src y x | _ => false
  | .store sz x v => match op with | .store t y u => sizeIs P t sz && okOpd src y x && okOpd src u v | _ => false
  | .ncheck x => match op with | .nilCheck y => okOpd src y x | _ => false
  | .bin o x y => match op with | .binOp o' t x' y' _ => decide (o = o') && okOpd src x' x && okOpd src y' y | _ => false
  | .eqb neg x y => match op with
    | .binOp o' t x' y' _ => (if neg then decide (o' = .neq) else decide (o' = .eql)) && (match P.underlying t with | some .bool => true | _ => false) && okOpd src x' x && okOpd src y' y
    | _ => false
  | .eqnil neg x => match op with
    | .binOp o' t x' (.const (.slice none 0 0)) _ => (if neg then decide (o' = .neq) else decide (o' = .eql)) && (sliceElem P t).isSome && okOpd src x' x
    | _ => false
  | .eqs ks neg x y => match op with
    | .binOp o' t x' y' _ => (if neg then decide (o' = .neq) else decide (o' = .eql)) && (match P.underlying t with | some (.struct fs) => flat P 0 fs.toList ks | _ => false) &&
        !(P.stoodInHeld t) && !(P.eqGuardType P.depth t) && okOpd src x' x && okOpd src y' y
    | _ => false
  | .un o x => match op with | .unOp o' t y => decide (o = o') && okOpd src y x | _ => false
  | .mkfn f cap => match op with | .makeFunc (.func g) first c => src f == g && first.toList.isEmpty && okOpds src c.toList cap | _ => false
  | .mkmap kd => match op with
    | .makeMap t none => true
    | _ => false
  | .mkslice sz bytes z l c => match op with
    | .makeSlice t l' c' => (match sliceElem P t with | some e => sizeIs P e sz && bytesIs P e bytes && decide (0 < bytes) && zeroIs P src e z | none => false) && okOpd src l' l && okOpd src c' c
    | _ => false
  | .slice sz x lo hi => match op with
    | .slice t y l h none => (match sliceElem P t with | some e => sizeIs P e sz | none => false) && okOpd src y x && okOpt src l lo && okOpt src h hi
    | _ => false
  | .slice3 x lo hi mx => match op with
    | .slice t y l (some h) (some m) => (match sliceElem P t with | some e => (P.info? e).isSome | none => false) && okOpd src y x && okOpt src l lo && okOpd src h hi && okOpd src m mx
    | _ => false
  | .slstr x lo hi => match op with
    | .slice t y l h none => (match P.underlying t with | some .string => true | _ => false) && okOpd src y x && okOpt src l lo && okOpt src h hi
    | _ => false
  | .faddr off x => match op with
    | .fieldAddr t y f => (match fieldOf P t f with | some fd => fd.offset == off && (match P.info? fd.type with | some i => i.size != 0 | none => false) | none => false) && okOpd src y x
    | _ => false
  | .field off sz agg x => match op with
    | .field t y f => (match fieldOf P t f with | some fd => fd.offset == off && sizeIs P fd.type sz && aggIs P fd.type agg | none => false) && (agg || sz == 1) && okOpd src y x
    | _ => false
  | .iaddr sz x i => match op with
    | .indexAddr t y j => (match sliceElem P t with | some e => sizeIs P e sz | none => false) && okOpd src y x && okOpd src j i
    | _ => false
  | .iaddrA n sz x i => match op with
    | .indexAddr t y j => (match arrayOf P t with | some (m, e) => m == n && sizeIs P e sz | none => false) && okOpd src y x && okOpd src j i
    | _ => false
  | .indexA n sz agg x i => match op with
    | .index t y j => (match arrayOf P t with | some (m, e) => m == n && sizeIs P e sz && aggIs P e agg | none => false) && (agg || sz == 1) && okOpd src y x && okOpd src j i
    | _ => false
  | .indexS x i => match op with
    | .index t y j => (match P.underlying t with | some .string => true | _ => false) && okOpd src y x && okOpd src j i
    | _ => false
  | .lookup s z ok m k => match op with
    | .lookup t y j c => (match P.underlying t with | some (.map kt e) => keyIs P kt s && zeroIs P src e z | _ => false) && (c == ok) && okOpd src y m && okOpd src j k
    | _ => false
  | .mapup s m k v => match op with
    | .mapUpdate t m' k' v' => (match P.underlying t with | some (.map kt e) => keyIs P kt s | _ => false) && okOpd src m' m && okOpd src k' k && okOpd src v' v
    | _ => false
  | .extract i x => match op with | .extract y j => j == i && okOpd src y x | _ => false
  | .call f args => match op with
    | .call { callee := .value g, args := xs, .. } => okOpd src g f && okOpds src xs.toList args
    | _ => false
  | .append _ sz bytes x y => match op with
    | .call { callee := .builtin .append, args := xs, argTypes := ts } => (match ts.toList, xs.toList with
      | [t, t'], [x', y'] => (match sliceElem P t with
          | some e => sizeIs P e sz && bytesIs P e bytes && decide (0 < bytes) && (match P.info? e with | some i => (match i.zero with | some v => decide (v.cells.size = sz) | none => false) | none => false)
          | none => false) && t' == t && okOpd src x' x && okOpd src y' y
      | _, _ => false)
    | _ => false
  | .len x => match op with
    | .call { callee := .builtin .len, args := xs, argTypes := ts } => (match ts.toList, xs.toList with
      | [t], [x'] => (sliceElem P t).isSome && okOpd src x' x
      | _, _ => false)
    | _ => false
  | .lenstr x => match op with
    | .call { callee := .builtin .len, args := xs, argTypes := ts } => (match ts.toList, xs.toList with
      | [t], [x'] => (match P.underlying t with | some .string => true | _ => false) && okOpd src x' x
      | _, _ => false)
    | _ => false
  | .lenmap x => match op with
    | .call { callee := .builtin .len, args := xs, argTypes := ts } => (match ts.toList, xs.toList with
      | [t], [x'] => (match P.underlying t with | some (.map _ _) => true | _ => false) && okOpd src x' x
      | _, _ => false)
    | _ => false
  | .max x y more => match op with
    | .call { callee := .builtin .max, args := xs, .. } => okOpds src xs.toList (x :: y :: more)
    | _ => false
  | .min x y more => match op with
    | .call { callee := .builtin .min, args := xs, .. } => okOpds src xs.toList (x :: y :: more)
    | _ => false
  | .clear z x => match op with
    | .call { callee := .builtin .clear, args := xs, argTypes := ts } => (match ts.toList, xs.toList with
      | [t], [x'] => (match sliceElem P t with | some e => zeroIs P src e z && sizeIs P e z.cells.length | none => false) && okOpd src x' x
      | _, _ => false)
    | _ => false

end Go.Proofs.Ytmbdccekcfeomaa.Am
end
