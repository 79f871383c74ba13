/- append, clear, a map written: the model does what the abstract machine does. -/
import Derived.Test.YtmbdccekcfeomaaT08
import Derived.Laws.Append
section
namespace Go.Proofs.Ytmbdccekcfeomaa.Am
set_option linter.unusedVariables false
set_option linter.unusedSimpArgs false
set_option linter.unnecessarySimpa false

section
variable {P : Program} {src : Nat → Nat} {K : Ctx} {a : Act} {w : World} {σ : St} {wl n₀ id : Nat}

/-- Elements that lie one behind the other. -/
def Row (K : Ctx) (w : World) (sz : Nat) (b : Addr) (ys : List AV) : Prop :=
  ∀ (i : Nat) (e : AV), ys[i]? = some e → e.cells.length = sz ∧ e.storable = true ∧ ∀ (j : Nat) (c : AV), e.cells[j]? = some c → ∃ u, w.cell? (b.add (i * sz + j)) = some u ∧ Rep K c u
def RowV (K : Ctx) (sz : Nat) (ys : List AV) (vs : List Value) : Prop :=
  ∀ (i : Nat) (e : AV), ys[i]? = some e → e.cells.length = sz ∧ e.storable = true ∧ ∀ (j : Nat) (c : AV), e.cells[j]? = some c → ∃ u, vs[i * sz + j]? = some u ∧ Rep K c u

theorem Row.values {sz : Nat} (hz : 0 < sz) {b : Addr} {ys : List AV} (h : Row K w sz b ys) : ∃ vs : List Value, vs.length = ys.length * sz ∧ (∀ j v, vs[j]? = some v → w.cell? (b.add j) = some v) ∧ (∀ v ∈ vs, v.oneCell' = true) ∧ RowV K sz ys vs := by
  obtain ⟨vs, hl, hq⟩ := list_choose (n := ys.length * sz) (Q := fun k (v : Value) => w.cell? (b.add k) = some v ∧ ∀ (i : Nat) (e : AV), ys[i]? = some e → ∀ (j : Nat) (c : AV), e.cells[j]? = some c → k = i * sz + j → Rep K c v ∧ c.one = true) (fun k hk => by
    have hi : k / sz < ys.length := by rw [Nat.div_lt_iff_lt_mul hz]; exact hk
    have hj : k % sz < sz := Nat.mod_lt _ hz
    have he := List.getElem?_eq_getElem hi
    obtain ⟨h1, h2, h3⟩ := h _ _ he
    have hc : (ys[k / sz]).cells[k % sz]? = some ((ys[k / sz]).cells[k % sz]'(by omega)) := List.getElem?_eq_getElem (by omega)
    obtain ⟨u, hu, hr⟩ := h3 _ _ hc
    have hk' : k / sz * sz + k % sz = k := by rw [Nat.mul_comm]; exact Nat.div_add_mod k sz
    rw [hk'] at hu
    refine ⟨u, hu, fun i e he' j c hc' hkk => ?_⟩
    have hj' : j < sz := by rw [← (h i e he').1]; exact (List.getElem?_eq_some_iff.1 hc').1
    have ei : i = k / sz := by rw [hkk, Nat.mul_comm, Nat.mul_add_div hz, Nat.div_eq_of_lt hj', Nat.add_zero]
    have ej : j = k % sz := by rw [hkk, Nat.mul_comm, Nat.mul_add_mod, Nat.mod_eq_of_lt hj']
    subst ei; subst ej
    rw [he] at he'; cases he'
    rw [hc] at hc'; cases hc'
    exact ⟨hr, storable_cells h2 hc⟩)
  have rowv : RowV K sz ys vs := by
    intro i e he
    obtain ⟨h1, h2, h3⟩ := h i e he
    refine ⟨h1, h2, fun j c hc => ?_⟩
    have hj' : j < sz := by rw [← h1]; exact (List.getElem?_eq_some_iff.1 hc).1
    have hi' : i < ys.length := (List.getElem?_eq_some_iff.1 he).1
    have hlt : i * sz + j < vs.length := by
      rw [hl]
      have : (i + 1) * sz ≤ ys.length * sz := Nat.mul_le_mul_right _ hi'
      rw [Nat.add_mul, Nat.one_mul] at this
      omega
    have hv := List.getElem?_eq_getElem hlt
    exact ⟨_, hv, ((hq _ _ hv).2 i e he j c hc rfl).1⟩
  refine ⟨vs, hl, fun j v hv => (hq j v hv).1, fun v hv => ?_, rowv⟩
  obtain ⟨k, hk⟩ := List.getElem?_of_mem hv
  have hkl : k < ys.length * sz := by rw [← hl]; exact (List.getElem?_eq_some_iff.1 hk).1
  have hi : k / sz < ys.length := by rw [Nat.div_lt_iff_lt_mul hz]; exact hkl
  have hj : k % sz < sz := Nat.mod_lt _ hz
  have he := List.getElem?_eq_getElem hi
  have hc : (ys[k / sz]).cells[k % sz]? = some ((ys[k / sz]).cells[k % sz]'(by rw [(h _ _ he).1]; exact hj)) := List.getElem?_eq_getElem (by rw [(h _ _ he).1]; exact hj)
  obtain ⟨r, o⟩ := (hq k v hk).2 _ _ he _ _ hc (by rw [Nat.mul_comm]; exact (Nat.div_add_mod k sz).symm)
  exact one_oneCell o r

theorem RowV.append {sz : Nat} {xs ys : List AV} {us vs : List Value} (hl : us.length = xs.length * sz) (h1 : RowV K sz xs us) (h2 : RowV K sz ys vs) : RowV K sz (xs ++ ys) (us ++ vs) := by
  intro i e he
  rw [List.getElem?_append] at he
  split at he
  · rename_i hi
    obtain ⟨g1, g2, g3⟩ := h1 i e he
    refine ⟨g1, g2, fun j c hc => ?_⟩
    obtain ⟨u, hu, hr⟩ := g3 j c hc
    exact ⟨u, by rw [List.getElem?_append_left (List.getElem?_eq_some_iff.1 hu).1]; exact hu, hr⟩
  · rename_i hi
    obtain ⟨g1, g2, g3⟩ := h2 _ e he
    refine ⟨g1, g2, fun j c hc => ?_⟩
    obtain ⟨u, hu, hr⟩ := g3 j c hc
    have hge : xs.length * sz ≤ i * sz := Nat.mul_le_mul_right _ (by omega)
    refine ⟨u, ?_, hr⟩
    rw [List.getElem?_append_right (by omega), hl, ← hu]
    congr 1
    rw [Nat.sub_mul]; omega

theorem RowV.nil (K : Ctx) (sz : Nat) : RowV K sz [] [] := fun i e he => by simp at he

/-- What a slice's elements are in memory. -/
theorem elems_row (hI : Inv K w) (hH : K.H = σ.H) {sz : Nat} {y : AV} {ys : List AV} {u : Value} (h : σ.elems sz y = some ys) (hr : Rep K y u) :
    ∃ p c, u = .slice p ys.length c ∧ (∀ b, p = some b → Row K w sz b ys) ∧ (p = none → ys = []) ∧ (∀ b, p = some b → ys ≠ [] → b.spot = none) := by
  cases y <;> simp only [St.elems] at h <;> try (simp at h; done)
  · simp only [Option.some.injEq] at h; subst h
    simp only [Rep] at hr
    exact ⟨none, 0, hr, fun b hb => by simp at hb, fun _ => rfl, fun b hb => by simp at hb⟩
  · rename_i m es
    split at h
    · rename_i hm; subst hm
      simp only [Option.some.injEq] at h; subst h
      simp only [Rep] at hr
      obtain ⟨⟨b, o, sp⟩, cap, e, hc, hsp, hf⟩ := hr
      refine ⟨_, cap, e, fun b' hb' i x hx => ?_, fun hn => by simp at hn, fun b' hb' hne => by cases hb'; exact hsp hne⟩
      cases hb'
      have hspn : sp = none := hsp (by intro e; rw [e] at hx; simp at hx)
      subst hspn
      obtain ⟨g1, g2⟩ := hf i x hx
      have hcell : ∀ (j : Nat) (c : AV), x.cells[j]? = some c → c.solid = true ∧ c.one = true ∧ ∃ u, w.cell? ⟨b, o + i * m + j, none⟩ = some u ∧ Rep K c u := fun j c hj => hI.frozen _ _ _ (g2 j c hj)
      refine ⟨g1, storable_of fun j c hj => ⟨(hcell j c hj).2.1, solid_nol (hcell j c hj).1⟩, fun j c hj => ?_⟩
      obtain ⟨_, _, u, hu, hr⟩ := hcell j c hj
      exact ⟨u, by rw [addr_add, ← Nat.add_assoc]; exact hu, hr⟩
    · simp at h
  · simp only [Option.some.injEq] at h; subst h
    simp only [Rep] at hr
    obtain ⟨p, e⟩ := hr
    exact ⟨some p, 0, e, fun b hb i x hx => by simp at hx, fun hn => by simp at hn, fun b hb hne => absurd rfl hne⟩
  · rename_i i j n
    split at h
    · rename_i m es hh
      rw [← hH] at hh
      split at h
      · rename_i hc
        obtain ⟨rfl, hle⟩ := hc
        simp only [Option.some.injEq] at h; subst h
        simp only [Rep] at hr
        obtain ⟨hu, p, cap, e, hl⟩ := hr
        obtain ⟨o, rfl, hcap, hn, ho⟩ := hl m es hh
        have hlen : ((es.drop j).take n).length = n := by simp; omega
        obtain ⟨_, _, htot, _, hcells⟩ := hI.live i _ hh
        refine ⟨_, cap, by rw [hlen]; exact e, fun b' hb' k x hx => ?_, fun hn => by simp at hn, fun b' hb' _ => by cases hb'; rfl⟩
        cases hb'
        rw [List.getElem?_take] at hx
        split at hx
        · rename_i hk
          rw [List.getElem?_drop] at hx
          obtain ⟨g1, g2, g3⟩ := hcells _ _ hx
          refine ⟨g1, g2, fun q c hq => ?_⟩
          obtain ⟨u, hu, hr⟩ := g3 q c hq
          refine ⟨u, ?_, hr⟩
          rw [addr_add, ho (by omega), ← hu]
          congr 2
          rw [Nat.add_mul]; omega
        · simp at hx
      · simp at h
    · simp at h

/-! ### a name that goes, its block that is taken over -/

def Ctx.kill (K : Ctx) (i : Nat) : Ctx := { K with H := upd K.H i none }

theorem kill_some {i j : Nat} (h : (K.kill i).H j ≠ none) : K.H j ≠ none ∧ j ≠ i := by
  by_cases e : j = i
  · subst e; simp [Ctx.kill] at h
  · refine ⟨?_, e⟩
    change upd K.H i none j ≠ none at h
    rwa [upd_other _ _ e] at h

theorem kill_eq {i j : Nat} {ob : Obj} (h : (K.kill i).H j = some ob) : K.H j = some ob := by
  have := (kill_some (K := K) (i := i) (j := j) (by rw [h]; simp)).2
  change upd K.H i none j = some ob at h
  rwa [upd_other _ _ this] at h

theorem ext_kill (i : Nat) : Ext K (K.kill i) :=
  ⟨rfl, fun _ h => h, fun _ _ _ h => h, fun j _ h => ⟨rfl, (kill_some h).1⟩, fun j _ sz es h => ⟨es, kill_eq h, rfl, rfl⟩⟩

theorem inv_kill (hI : Inv K w) (i : Nat) : Inv (K.kill i) w where
  frozen b o c hc := by
    obtain ⟨h1, h2, u, hu, hr⟩ := hI.frozen b o c hc
    exact ⟨h1, h2, u, hu, hr.ext (ext_kill i) (.inl (solid_nol h1))⟩
  live j ob ho := by
    obtain ⟨h1, h2, h3⟩ := hI.live j ob (kill_eq ho)
    exact ⟨h1, h2, h3.ext (ext_kill i) rfl rfl rfl rfl⟩
  dist j k hj hk := hI.dist j k (kill_some hj).1 (kill_some hk).1
  locs s st v hs := by
    obtain ⟨h1, h2, h3, h4, h5⟩ := hI.locs s st v hs
    exact ⟨h1, h2, fun j hj => h3 j (kill_some hj).1, h4, h5.ext (ext_kill i) rfl⟩
  locd := hI.locd

/-- Nothing is known of a block. -/
structure Free (K : Ctx) (b : Nat) : Prop where
  live : ∀ j, K.H j ≠ none → K.blk j ≠ b
  locs : ∀ s, K.lo s ≠ none → K.ω s ≠ b
  Γ : ∀ o c, ¬ K.Γ b o c

theorem free_kill (hI : Inv K w) {i : Nat} {ob : Obj} (hi : K.H i = some ob) : Free (K.kill i) (K.blk i) where
  live j hj e := (kill_some hj).2 (hI.dist j i (kill_some hj).1 (by rw [hi]; simp) e)
  locs s hs e := by
    cases h : K.lo s with
    | none => exact hs h
    | some p => exact (hI.locs s p.1 p.2 (by rw [h])).2.2.1 i (by rw [hi]; simp) e.symm
  Γ := (hI.live i ob hi).2.1

theorem free_new (hI : Inv K w) : Free K w.heap.size where
  live j hj e := by have := hI.blk_lt hj; omega
  locs s hs e := by have := hI.ω_lt hs; omega
  Γ o c := by
    intro h; have := hI.Γ_lt h; omega

/-- Blocks of which nothing is known may be anything. -/
theorem inv_free (hI : Inv K w) {b : Nat} (hf : Free K b) {w' : World} (h : ∀ c, c < w.heap.size → c ≠ b → w'.heap[c]? = w.heap[c]?) : Inv K w' where
  frozen c o x hc := by
    obtain ⟨h1, h2, u, hu, hr⟩ := hI.frozen c o x hc
    have : c ≠ b := by intro e; rw [e] at hc; exact hf.Γ _ _ hc
    exact ⟨h1, h2, u, by rw [cell_of_heap (h c (hI.Γ_lt hc) this)]; exact hu, hr⟩
  live j ob ho := by
    obtain ⟨h1, h2, h3⟩ := hI.live j ob ho
    have hj : K.H j ≠ none := by rw [ho]; simp
    exact ⟨h1, h2, h3.ext (Ext.refl K) rfl rfl rfl (h _ (hI.blk_lt hj) (hf.live j hj))⟩
  dist := hI.dist
  locs s st v hs := by
    obtain ⟨h1, h2, h3, h4, h5⟩ := hI.locs s st v hs
    have hs' : K.lo s ≠ none := by rw [hs]; simp
    have hb := h _ (hI.ω_lt hs') (hf.locs s hs')
    exact ⟨h1, h2, h3, by rw [hb]; exact h4, h5.ext (Ext.refl K) hb⟩
  locd := hI.locd

def Ctx.takeH (K : Ctx) (b base id tot : Nat) (ob : Obj) : Ctx :=
  { K with H := upd K.H id (some ob), blk := upd K.blk id b, base := upd K.base id base, tot := upd K.tot id tot, used := fun j => K.used j ∨ j = id }
def Ctx.takeΓ (K : Ctx) (b o₀ : Nat) (xs : List AV) : Ctx := { K with Γ := fun c o v => if c = b then (o₀ ≤ o ∧ xs[o - o₀]? = some v) else K.Γ c o v }

theorem ext_takeH (b base tot : Nat) (ob : Obj) (hid : ¬ K.used id) : Ext K (K.takeH b base id tot ob) := by
  have ne : ∀ j, K.used j → j ≠ id := fun j hj e => hid (e ▸ hj)
  refine ⟨rfl, fun _ h => .inl h, fun _ _ _ h => h, fun j hj h => ?_, fun j hj sz es h => ?_⟩
  · change upd K.H id (some ob) j ≠ none at h
    rw [upd_other _ _ (ne j hj)] at h
    exact ⟨upd_other _ _ (ne j hj), h⟩
  · change upd K.H id (some ob) j = _ at h
    rw [upd_other _ _ (ne j hj)] at h
    exact ⟨es, h, upd_other _ _ (ne j hj), upd_other _ _ (ne j hj)⟩

theorem inv_takeH (hI : Inv K w) {b base tot : Nat} {ob : Obj} (hf : Free K b) (hid : ¬ K.used id) (hok : ObjOk (K.takeH b base id tot ob) w id ob) : Inv (K.takeH b base id tot ob) w := by
  have hx := ext_takeH (K := K) b base tot ob hid
  have some_of : ∀ j, (K.takeH b base id tot ob).H j ≠ none → j ≠ id → K.H j ≠ none := by
    intro j h e
    change upd K.H id (some ob) j ≠ none at h
    rwa [upd_other _ _ e] at h
  have blk_of : ∀ j, j ≠ id → (K.takeH b base id tot ob).blk j = K.blk j := fun j e => upd_other _ _ e
  have blk_id : (K.takeH b base id tot ob).blk id = b := upd_same _ _ _
  refine ⟨?_, ?_, ?_, ?_, hI.locd⟩
  · intro c o x hc
    obtain ⟨h1, h2, u, hu, hr⟩ := hI.frozen c o x hc
    exact ⟨h1, h2, u, hu, hr.ext hx (.inl (solid_nol h1))⟩
  · intro j x hx'
    by_cases e : j = id
    · subst e
      change upd K.H j (some ob) j = some x at hx'
      rw [upd_same] at hx'; cases hx'
      exact ⟨.inr rfl, fun o => by rw [blk_id]; exact hf.Γ o, hok⟩
    · change upd K.H id (some ob) j = some x at hx'
      rw [upd_other _ _ e] at hx'
      obtain ⟨h1, h2, h3⟩ := hI.live j x hx'
      exact ⟨.inl h1, fun o => by rw [blk_of j e]; exact h2 o, h3.ext hx (blk_of j e) (upd_other _ _ e) (upd_other _ _ e) rfl⟩
  · intro i j hi hj he
    by_cases e1 : i = id <;> by_cases e2 : j = id
    · rw [e1, e2]
    · rw [e1, blk_id, blk_of j e2] at he; exact absurd he.symm (hf.live j (some_of j hj e2))
    · rw [e2, blk_id, blk_of i e1] at he; exact absurd he (hf.live i (some_of i hi e1))
    · rw [blk_of i e1, blk_of j e2] at he; exact hI.dist i j (some_of i hi e1) (some_of j hj e2) he
  · intro s st v hs
    obtain ⟨h1, h2, h3, h4, h5⟩ := hI.locs s st v hs
    refine ⟨.inl h1, h2, fun j hj => ?_, h4, h5.ext hx rfl⟩
    by_cases e : j = id
    · rw [e, blk_id]; exact (hf.locs s (by rw [show K.lo s = _ from hs]; simp)).symm
    · rw [blk_of j e]; exact h3 j (some_of j hj e)

theorem ext_takeΓ {b o₀ : Nat} {xs : List AV} (hf : Free K b) : Ext K (K.takeΓ b o₀ xs) :=
  ⟨rfl, fun _ h => h, fun c o x hc => by
    have : c ≠ b := by intro e; rw [e] at hc; exact hf.Γ _ _ hc
    simp only [Ctx.takeΓ]; rw [if_neg this]; exact hc, fun _ _ h => ⟨rfl, h⟩, fun _ _ _ es h => ⟨es, h, rfl, rfl⟩⟩

theorem inv_takeΓ (hI : Inv K w) {b o₀ : Nat} {xs : List AV} (hf : Free K b) (hc : ∀ (j : Nat) (c : AV), xs[j]? = some c → c.solid = true ∧ c.one = true ∧ ∃ u, w.cell? ⟨b, o₀ + j, none⟩ = some u ∧ Rep K c u) : Inv (K.takeΓ b o₀ xs) w := by
  have hx := ext_takeΓ (K := K) (o₀ := o₀) (xs := xs) hf
  refine ⟨?_, ?_, hI.dist, ?_, hI.locd⟩
  · intro c o x hcx
    simp only [Ctx.takeΓ] at hcx
    split at hcx
    · rename_i e; subst e
      obtain ⟨hle, hcx⟩ := hcx
      obtain ⟨h1, h2, u, hu, hr⟩ := hc _ _ hcx
      exact ⟨h1, h2, u, by rw [← hu]; congr 2; omega, hr.ext hx (.inl (solid_nol h1))⟩
    · obtain ⟨h1, h2, u, hu, hr⟩ := hI.frozen c o x hcx
      exact ⟨h1, h2, u, hu, hr.ext hx (.inl (solid_nol h1))⟩
  · intro j ob ho
    obtain ⟨h1, h2, h3⟩ := hI.live j ob ho
    refine ⟨h1, fun o c => ?_, h3.ext hx rfl rfl rfl rfl⟩
    simp only [Ctx.takeΓ]
    rw [if_neg (hf.live j (by rw [show K.H j = _ from ho]; simp))]; exact h2 o c
  · intro s st v hs
    obtain ⟨h1, h2, h3, h4, h5⟩ := hI.locs s st v hs
    refine ⟨h1, fun o c => ?_, h3, h4, h5.ext hx rfl⟩
    simp only [Ctx.takeΓ]
    rw [if_neg (hf.locs s (by rw [show K.lo s = _ from hs]; simp))]; exact h2 o c

/-- A step out of three: a name goes (or none), a block changes, it is taken over. -/
theorem Evo.trans {K₁ K₂ K₃ : Ctx} {w₁ w₂ w₃ : World} (h : Evo wl n₀ K₁ w₁ K₂ w₂) (h' : Evo wl n₀ K₂ w₂ K₃ w₃) : Evo wl n₀ K₁ w₁ K₃ w₃ where
  size := Nat.le_trans h.size h'.size
  keep b hb h1 h2 := by
    obtain ⟨a1, a2⟩ := h.keep b hb h1 h2
    have l1 : ∀ id, K₂.H id ≠ none → K₂.blk id ≠ b := by
      intro id hid e
      rcases h.mine id hid with g | ⟨id₀, g, e'⟩
      · omega
      · exact h1 id₀ g (e'.trans e)
    have l2 : ∀ s, K₂.lo s ≠ none → K₂.ω s ≠ b := by
      intro s hs e
      rcases h.locs s hs with g | ⟨g, e'⟩
      · omega
      · exact h2 s g (e'.symm.trans e)
    obtain ⟨b1, b2⟩ := h'.keep b (Nat.lt_of_lt_of_le hb h.size) l1 l2
    exact ⟨b1.trans a1, fun o => (b2 o).trans (a2 o)⟩
  ext := h.ext.trans h'.ext
  extLo s st v hst hv := by
    obtain ⟨v', hv', e⟩ := h'.extLo s st v (h.ext.used st hst) hv
    obtain ⟨v'', hv'', e'⟩ := h.extLo s st v' hst hv'
    exact ⟨v'', hv'', e.trans e'⟩
  low i hi := (h'.low i hi).trans (h.low i hi)
  mine i hi := by
    rcases h'.mine i hi with g | ⟨i₀, g, e⟩
    · exact .inl (Nat.le_trans h.size g)
    · rcases h.mine i₀ g with g' | ⟨i₁, g', e'⟩
      · exact .inl (by omega)
      · exact .inr ⟨i₁, g', e'.trans e⟩
  locs s hs := by
    rcases h'.locs s hs with g | ⟨g, e⟩
    · exact .inl (Nat.le_trans h.size g)
    · rcases h.locs s g with g' | ⟨g', e'⟩
      · exact .inl (by omega)
      · exact .inr ⟨g', e.trans e'⟩
  old i hi hu := h.old i hi (h'.old i hi hu)
  io := h.io.trans h'.io

theorem evo_kill {i : Nat} (hw : wl ≤ i) : Evo wl n₀ K w (K.kill i) w :=
  ⟨Nat.le_refl _, fun _ _ _ _ => ⟨rfl, fun _ => rfl⟩, ext_kill i, ExtLo.refl K, fun j hj => upd_other _ _ (by omega), fun j h => .inr ⟨j, (kill_some h).1, rfl⟩, fun _ h => .inr ⟨h, rfl⟩, fun _ _ h => h, SameIo.refl w⟩

/-- A block of something that goes, or a new one, becomes something with a name. -/
theorem evo_takeH {w' : World} {b base tot : Nat} {ob : Obj} {K₀ : Ctx} (hx : Ext K₀ K) (hsize : w.heap.size ≤ w'.heap.size) (hsame : ∀ c, c < w.heap.size → c ≠ b → w'.heap[c]? = w.heap[c]?)
    (hb : w.heap.size ≤ b ∨ ∃ i, K₀.H i ≠ none ∧ K₀.blk i = b) (hid : ¬ K.used id) (hn : n₀ ≤ id) (hw : wl ≤ id)
    (hlo : K.lo = K₀.lo) (hω : K.ω = K₀.ω) (hΓ : K.Γ = K₀.Γ) (hused : K.used = K₀.used) (hblk : K.blk = K₀.blk) (hH : ∀ j, K.H j ≠ none → K₀.H j ≠ none) (hlow : ∀ j, j < wl → K.H j = K₀.H j) (hio : SameIo w w') : Evo wl n₀ K₀ w (K.takeH b base id tot ob) w' where
  io := hio
  size := hsize
  keep c hc h1 h2 := by
    have hne : c ≠ b := by
      intro e
      rcases hb with g | ⟨i, g, e'⟩
      · omega
      · exact h1 i g (e'.trans e.symm)
    exact ⟨hsame c hc hne, fun o => by show K.Γ c o = _; rw [hΓ]⟩
  ext := hx.trans (ext_takeH b base tot ob hid)
  extLo s st v hst hv := ⟨v, by rw [← hlo]; exact hv, by show K.ω s = _; rw [hω]⟩
  low j hj := by
    show upd K.H id (some ob) j = _
    rw [upd_other _ _ (by omega)]; exact hlow j hj
  mine j hj := by
    by_cases e : j = id
    · subst e
      have e1 : (K.takeH b base j tot ob).blk j = b := upd_same _ _ _
      rw [e1]
      exact hb.imp (fun h => h) (fun ⟨i, h1, h2⟩ => ⟨i, h1, h2⟩)
    · have e1 : (K.takeH b base id tot ob).blk j = K.blk j := upd_other _ _ e
      change upd K.H id (some ob) j ≠ none at hj
      rw [upd_other _ _ e] at hj
      rw [e1, hblk]
      exact .inr ⟨j, hH j hj, rfl⟩
  locs s hs := .inr ⟨by rw [← hlo]; exact hs, by show K.ω s = _; rw [hω]⟩
  old j hj hu := by
    rcases hu with hu | rfl
    · rw [hused] at hu; exact hu
    · omega

theorem evo_takeΓ {w' : World} {b o₀ : Nat} {xs : List AV} {K₀ : Ctx} (hx : Ext K₀ K) (hf : Free K b) (hsize : w.heap.size ≤ w'.heap.size) (hsame : ∀ c, c < w.heap.size → c ≠ b → w'.heap[c]? = w.heap[c]?)
    (hb : w.heap.size ≤ b ∨ ∃ i, K₀.H i ≠ none ∧ K₀.blk i = b)
    (hlo : K.lo = K₀.lo) (hω : K.ω = K₀.ω) (hΓ : K.Γ = K₀.Γ) (hused : K.used = K₀.used) (hblk : K.blk = K₀.blk) (hH : ∀ j, K.H j ≠ none → K₀.H j ≠ none) (hlow : ∀ j, j < wl → K.H j = K₀.H j) (hio : SameIo w w') : Evo wl n₀ K₀ w (K.takeΓ b o₀ xs) w' where
  io := hio
  size := hsize
  keep c hc h1 h2 := by
    have hne : c ≠ b := by
      intro e
      rcases hb with g | ⟨i, g, e'⟩
      · omega
      · exact h1 i g (e'.trans e.symm)
    exact ⟨hsame c hc hne, fun o => by rw [← hΓ]; funext v; simp only [Ctx.takeΓ]; rw [if_neg hne]⟩
  ext := hx.trans (ext_takeΓ hf)
  extLo s st v hst hv := ⟨v, by rw [← hlo]; exact hv, by show K.ω s = _; rw [hω]⟩
  low j hj := hlow j hj
  mine j hj := .inr ⟨j, hH j hj, by show _ = K.blk j; rw [hblk]⟩
  locs s hs := .inr ⟨by rw [← hlo]; exact hs, by show K.ω s = _; rw [hω]⟩
  old j hj hu := by
    change K.used j at hu
    rw [hused] at hu; exact hu

end
end Go.Proofs.Ytmbdccekcfeomaa.Am
end
/- append: the model does what the abstract machine does. -/
section
namespace Go.Proofs.Ytmbdccekcfeomaa.Am
set_option linter.unusedVariables false
set_option linter.unusedSimpArgs false
set_option linter.unnecessarySimpa false

section
variable {P : Program} {src : Nat → Nat} {K : Ctx} {a : Act} {w : World} {σ : St} {wl n₀ id : Nat}

/-- A slice's cells as append reads them. -/
def Firsts (P : Program) (w : World) (sz n : Nat) (v : Value) (vs : List Value) : Prop := ∀ w' : World, w'.heap = w.heap → (Builtin.firstCells sz n v).run P w' = .ok vs.toArray w'

theorem row_firsts {sz n c : Nat} (hz : 0 < sz) {p : Option Addr} {ys : List AV} (hn : n = ys.length) (h1 : ∀ b, p = some b → Row K w sz b ys) (h2 : p = none → ys = []) :
    ∃ vs : List Value, vs.length = ys.length * sz ∧ Firsts P w sz n (.slice p n c) vs ∧ (∀ v ∈ vs, v.oneCell' = true) ∧ RowV K sz ys vs ∧ ∀ b, p = some b → ∀ (j : Nat) (v : Value), vs[j]? = some v → w.cell? (b.add j) = some v := by
  subst hn
  cases p with
  | none =>
    obtain rfl := h2 rfl
    exact ⟨[], by simp, fun w' _ => by simp [Builtin.firstCells], fun v hv => by simp at hv, RowV.nil K sz, fun b hb => by simp at hb⟩
  | some b =>
    obtain ⟨vs, hl, hc, ho, hr⟩ := (h1 b rfl).values hz
    refine ⟨vs, hl, fun w' hw => ?_, ho, hr, fun b' hb' => by cases hb'; exact hc⟩
    exact run_firstCells_some w' sz ys.length b _ c vs hl (fun j v hv => by
      have := hc j v hv
      simpa [World.cell?, hw] using this)

theorem run_append_room {t e sz : Nat} (ht : P.underlying t = some (.slice e)) (hz : sizeIs P e sz = true) (ty : TypeId) {b : Addr} {sLen sCap n c : Nat} {p : Option Addr} {news : List Value} (hf : Firsts P w sz n (.slice p n c) news) (hn : sLen + n ≤ sCap) :
    (Builtin.append_ #[t, t] ty #[.slice (some b) sLen sCap, .slice p n c]).run P w = ((storeCells (b.add (sLen * sz)) news).run P w).andThen fun _ w' => .ok (.slice (some b) (sLen + n) sCap) w' := by
  unfold sizeIs at hz
  split at hz
  · rename_i i hi
    simp only [Bool.and_eq_true, beq_iff_eq] at hz
    obtain ⟨rfl, _⟩ := hz
    have := hf w rfl
    simp [Builtin.append_, run_underlying ht, sizeOf, typeInfo, hi, Builtin.lenOf, hn, this]
  · simp at hz

theorem run_append_stay {t e sz : Nat} (ht : P.underlying t = some (.slice e)) (hz : sizeIs P e sz = true) (ty : TypeId) {q : Option Addr} {sLen sCap c : Nat} {p : Option Addr} (hf : Firsts P w sz 0 (.slice p 0 c) []) (hn : sLen ≤ sCap) :
    (Builtin.append_ #[t, t] ty #[.slice q sLen sCap, .slice p 0 c]).run P w = .ok (.slice q sLen sCap) w := by
  unfold sizeIs at hz
  split at hz
  · rename_i i hi
    simp only [Bool.and_eq_true, beq_iff_eq] at hz
    obtain ⟨rfl, _⟩ := hz
    have := hf w rfl
    cases q with
    | none => simp [Builtin.append_, run_underlying ht, sizeOf, typeInfo, hi, Builtin.lenOf, hn, this]
    | some b => simp [Builtin.append_, run_underlying ht, sizeOf, typeInfo, hi, Builtin.lenOf, hn, this, storeCells]
  · simp at hz

theorem run_append_new {t e sz bytes : Nat} (ht : P.underlying t = some (.slice e)) (hz : sizeIs P e sz = true) (hby : bytesIs P e bytes = true) {zv : Value} (hzv : ∃ i, P.info? e = some i ∧ i.zero = some zv) (ty : TypeId) {q p : Option Addr} {sLen sCap n c : Nat} {olds news : List Value}
    (ho : Firsts P w sz sLen (.slice q sLen sCap) olds) (hf : Firsts P w sz n (.slice p n c) news) (hn : sCap < sLen + n) (hb : (sLen + n) * bytes ≤ 140737488355328) (hb1 : 0 < bytes) :
    ∃ cap rest, sLen + n ≤ cap ∧ rest.length = (cap - (sLen + n)) * zv.cells.size ∧ (Builtin.append_ #[t, t] ty #[.slice q sLen sCap, .slice p n c]).run P w =
      .ok (.slice (some ⟨w.heap.size, 0, none⟩) (sLen + n) cap) (w.drew.alloc (.cells (olds ++ news ++ rest).toArray e)) := by
  obtain ⟨i, hi, hiz⟩ := hzv
  have hsz : i.size = sz := by unfold sizeIs at hz; rw [hi] at hz; simp at hz; exact hz.1
  have hby' : i.bytes = bytes := by unfold bytesIs at hby; rw [hi] at hby; simpa using hby
  refine ⟨grownCap w (sLen + n) sCap e, (Builtin.zeroCells zv.cells (grownCap w (sLen + n) sCap e - (sLen + n))).toList, ?_, by simp [Builtin.zeroCells], ?_⟩
  · simp [grownCap, Question.cut]
  · have hn' : ¬ (sLen + n ≤ sCap) := by omega
    have hsmall : sLen + n ≤ 140737488355328 := by
      have : (sLen + n) * 1 ≤ (sLen + n) * bytes := Nat.mul_le_mul_left _ hb1
      omega
    have h63 : ¬ (9223372036854775807 < ((sLen : Int) + (n : Int))) := by omega
    have h48 : ¬ (281474976710656 < Builtin.nextslicecap (sLen + n) sCap * i.bytes) := by
      have := growslice_fits hn hb
      rw [hby']; omega
    have f1 := hf w.drew rfl
    have f2 := ho w.drew rfl
    rw [← hsz] at f1 f2
    simp [Builtin.append_, run_underlying ht, sizeOf, typeInfo, zeroValue, hi, hiz, Builtin.lenOf, hn', h63, h48, Question.forced, f1, f2, newRow, grownCap]
    congr 2
    apply Array.ext'
    simp [List.append_assoc]

end

theorem Evo.of_drew {wl n₀ : Nat} {K K' : Ctx} {w w' : World} (h : Evo wl n₀ K w.drew K' w') : Evo wl n₀ K w K' w' :=
  ⟨h.size, h.keep, h.ext, h.extLo, h.low, h.mine, h.locs, h.old, h.io⟩

section
variable {P : Program} {src : Nat → Nat} {K : Ctx} {a : Act} {w : World} {σ : St} {wl n₀ id : Nat}

/-- What a row of values at a place of a block is: an object. -/
theorem obj_row {sz base tot b el : Nat} {es : List AV} {vs : List Value} {cs : Array Value} (hid : ¬ K.used id) (hr : RowV K sz es vs) (hb : w.heap[b]? = some (.cells cs el (0, 0))) (htot : es.length ≤ tot) (hroom : base + tot * sz ≤ cs.size)
    (hcs : ∀ k v, vs[k]? = some v → cs[base + k]? = some v) : ObjOk (K.takeH b base id tot (.arr sz es)) w id (.arr sz es) := by
  have hx := ext_takeH (K := K) b base tot (.arr sz es) hid
  simp only [ObjOk, Ctx.takeH, upd_same]
  refine ⟨htot, ⟨cs, el, hb, hroom⟩, fun i e he => ?_⟩
  obtain ⟨h1, h2, h3⟩ := hr i e he
  refine ⟨h1, h2, fun j c hj => ?_⟩
  obtain ⟨u, hu, hru⟩ := h3 j c hj
  refine ⟨u, ?_, hru.ext hx (.inl (nol_cells (storable_nol h2) hj))⟩
  rw [cell_of_row w b _ cs el (0, 0) hb, ← hcs _ _ hu]
  congr 1; omega

theorem rep_lref_taken {n b base tot sz : Nat} {es : List AV} (ht : n ≤ tot) : Rep (K.takeH b base id tot (.arr sz es)) (.lref id 0 n) (.slice (some ⟨b, base, none⟩) n tot) := by
  simp only [Rep, Ctx.takeH, upd_same]
  exact ⟨by simp, _, tot, rfl, fun sz' es' h => ⟨base, rfl, by omega, ht, fun _ => by simp⟩⟩

/-- Frozen cells out of a row of values. -/
theorem frozen_row {sz b o : Nat} (hz : 0 < sz) {es : List AV} (hl : ∀ (i : Nat) (e : AV), es[i]? = some e → e.cells.length = sz) {Γ : Nat → Nat → AV → Prop} (hΓ : ∀ k c, (es.flatMap AV.cells)[k]? = some c → Γ b (o + k) c) : Frozen Γ sz b o es := by
  have key : ∀ {es : List AV}, (∀ (i : Nat) (e : AV), es[i]? = some e → e.cells.length = sz) → ∀ (i : Nat) (e : AV), es[i]? = some e → ∀ (j : Nat) (c : AV), e.cells[j]? = some c → (es.flatMap AV.cells)[i * sz + j]? = some c := by
    intro es
    induction es with
    | nil => intro _ i e he; simp at he
    | cons x xs ih =>
      intro hl i e he j c hc
      have hx := hl 0 x rfl
      simp only [List.flatMap_cons]
      cases i with
      | zero =>
        simp at he; subst he
        rw [Nat.zero_mul, Nat.zero_add, List.getElem?_append_left (List.getElem?_eq_some_iff.1 hc).1]
        exact hc
      | succ i =>
        simp at he
        have hrec := ih (fun k y hy => hl (k + 1) y (by simpa using hy)) i e he j c hc
        rw [List.getElem?_append_right (by rw [hx, Nat.add_mul]; omega), ← hrec]
        congr 1
        rw [hx, Nat.add_mul]; omega
  intro i e he
  refine ⟨hl i e he, fun j c hc => ?_⟩
  have hj : j < sz := by rw [← hl i e he]; exact (List.getElem?_eq_some_iff.1 hc).1
  have hi : i < es.length := (List.getElem?_eq_some_iff.1 he).1
  have : (i + 1) * sz ≤ es.length * sz := Nat.mul_le_mul_right _ hi
  rw [Nat.add_mul, Nat.one_mul] at this
  rw [Nat.add_assoc]
  exact hΓ _ _ (key hl i e he j c hc)

theorem flat_get {sz : Nat} (hz : 0 < sz) : ∀ {es : List AV}, (∀ (i : Nat) (e : AV), es[i]? = some e → e.cells.length = sz) → ∀ (k : Nat) (c : AV), (es.flatMap AV.cells)[k]? = some c → ∃ i j e, es[i]? = some e ∧ e.cells[j]? = some c ∧ k = i * sz + j
  | [], _, k, c, h => by simp at h
  | x :: xs, hl, k, c, h => by
    have hx := hl 0 x rfl
    simp only [List.flatMap_cons] at h
    by_cases hk : k < sz
    · rw [List.getElem?_append_left (by omega)] at h
      exact ⟨0, k, x, rfl, h, by omega⟩
    · rw [List.getElem?_append_right (by omega)] at h
      obtain ⟨i, j, e, h1, h2, h3⟩ := flat_get hz (fun i e he => hl (i + 1) e (by simpa using he)) _ c h
      exact ⟨i + 1, j, e, by simpa using h1, h2, by rw [Nat.add_mul]; omega⟩

theorem flat_length {sz : Nat} : ∀ {es : List AV}, (∀ (i : Nat) (e : AV), es[i]? = some e → e.cells.length = sz) → (es.flatMap AV.cells).length = es.length * sz
  | [], _ => by simp
  | x :: xs, hl => by
    simp only [List.flatMap_cons, List.length_append, List.length_cons]
    rw [hl 0 x rfl, flat_length fun i e he => hl (i + 1) e (by simpa using he), Nat.add_mul]; omega

theorem solids_flat {es : List AV} (h : AV.solids es = true) {k : Nat} {c : AV} (hc : (es.flatMap AV.cells)[k]? = some c) : c.solid = true := by
  have := List.mem_of_getElem? hc
  rw [List.mem_flatMap] at this
  obtain ⟨e, he, hce⟩ := this
  obtain ⟨i, hi⟩ := List.getElem?_of_mem he
  obtain ⟨j, hj⟩ := List.getElem?_of_mem hce
  exact solid_cells (solids_get h hi) hj

/-- .. or a slice that is held by value. -/
theorem inv_row {sz o b el : Nat} (hz : 0 < sz) {es : List AV} {vs : List Value} {cs : Array Value} (hI : Inv K w) (hf : Free K b) (hs : AV.solids es = true) (hr : RowV K sz es vs) (hb : w.heap[b]? = some (.cells cs el (0, 0)))
    (hcs : ∀ k v, vs[k]? = some v → cs[o + k]? = some v) : Inv (K.takeΓ b o (es.flatMap AV.cells)) w ∧ Frozen (K.takeΓ b o (es.flatMap AV.cells)).Γ sz b o es := by
  have hl : ∀ (i : Nat) (e : AV), es[i]? = some e → e.cells.length = sz := fun i e he => (hr i e he).1
  refine ⟨inv_takeΓ hI hf fun k c hc => ?_, frozen_row hz hl fun k c hk => ?_⟩
  · obtain ⟨i, j, e, he, hj, rfl⟩ := flat_get hz hl k c hc
    obtain ⟨h1, h2, h3⟩ := hr i e he
    obtain ⟨u, hu, hru⟩ := h3 j c hj
    refine ⟨solids_flat hs hc, storable_cells h2 hj, u, ?_, hru⟩
    rw [cell_of_row w b _ cs el (0, 0) hb]
    exact hcs _ _ hu
  · simp only [Ctx.takeΓ, if_true]
    exact ⟨by omega, by rw [Nat.add_sub_cancel_left]; exact hk⟩

end
end Go.Proofs.Ytmbdccekcfeomaa.Am
end
