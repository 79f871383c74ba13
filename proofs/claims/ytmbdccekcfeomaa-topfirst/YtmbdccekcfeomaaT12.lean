/- What is held by value from some place on: nothing happens in memory. -/
import Derived.Test.YtmbdccekcfeomaaT11
namespace Go.Proofs.Ytmbdccekcfeomaa.Am
set_option linter.unusedVariables false
set_option linter.unusedSimpArgs false
set_option linter.unnecessarySimpa false

/-- Only what is known has changed. -/
structure Melt (wl : Nat) (K : Ctx) (w : World) (K' : Ctx) : Prop where
  inv : Inv K' w
  lo : K'.lo = K.lo
  ω : K'.ω = K.ω
  used : K'.used = K.used
  evo : ∀ n₀, Evo wl n₀ K w K' w

theorem Melt.refl {wl : Nat} {K : Ctx} {w : World} (hI : Inv K w) : Melt wl K w K := ⟨hI, rfl, rfl, rfl, fun n₀ => Evo.refl wl n₀ K w⟩
theorem Melt.trans {wl : Nat} {K K' K'' : Ctx} {w : World} (h : Melt wl K w K') (h' : Melt wl K' w K'') : Melt wl K w K'' :=
  ⟨h'.inv, h'.lo.trans h.lo, h'.ω.trans h.ω, h'.used.trans h.used, fun n₀ => (h.evo n₀).trans (h'.evo n₀)⟩
theorem Melt.rep {wl : Nat} {K K' : Ctx} {w : World} (h : Melt wl K w K') {v : AV} {u : Value} (hr : Rep K v u) : Rep K' v u := hr.ext (h.evo 0).ext (.inr (h.evo 0).extLo)
theorem Melt.repL {wl : Nat} {K K' : Ctx} {w : World} (h : Melt wl K w K') {v : List AV} {u : List Value} (hr : RepL K v u) : RepL K' v u := hr.ext (h.evo 0).ext (.inr (h.evo 0).extLo)

/-- What a value is changed into has as many cells, and can be stored where it could. -/
structure Like (v x : AV) : Prop where
  one : v.one = true → x.one = true
  nol : v.nol = true → x.nol = true
  cells : x.cells.length = v.cells.length
  all : v.cells.all AV.one = true → x.cells.all AV.one = true
def Alike (vs xs : List AV) : Prop := vs.length = xs.length ∧ ∀ (i : Nat) (v x : AV), vs[i]? = some v → xs[i]? = some x → Like v x

theorem Like.refl (v : AV) : Like v v := ⟨id, id, rfl, id⟩
theorem Like.storable {v x : AV} (h : Like v x) (hv : v.storable = true) : x.storable = true := by
  simp only [AV.storable, Bool.and_eq_true] at hv ⊢
  exact ⟨h.all hv.1, h.nol hv.2⟩
theorem Alike.refl (vs : List AV) : Alike vs vs := ⟨rfl, fun i v x h h' => by rw [h] at h'; cases h'; exact Like.refl v⟩
theorem Alike.cons {v x : AV} {vs xs : List AV} (h : Like v x) (h' : Alike vs xs) : Alike (v :: vs) (x :: xs) := by
  refine ⟨by simp [h'.1], fun i a b ha hb => ?_⟩
  cases i with
  | zero => simp at ha hb; subst ha; subst hb; exact h
  | succ i => simp at ha hb; exact h'.2 i a b ha hb
theorem Alike.all {vs xs : List AV} (h : Alike vs xs) (ha : vs.all AV.one = true) : xs.all AV.one = true := by
  rw [List.all_eq_true] at ha ⊢
  intro x hx
  obtain ⟨i, hi⟩ := List.getElem?_of_mem hx
  have hv := List.getElem?_eq_getElem (l := vs) (i := i) (by rw [h.1]; exact (List.getElem?_eq_some_iff.1 hi).1)
  exact (h.2 i _ x hv hi).one (ha _ (List.mem_of_getElem? hv))
theorem Alike.nols {vs xs : List AV} (h : Alike vs xs) (ha : AV.nols vs = true) : AV.nols xs = true := by
  refine nols_of fun i x hi => ?_
  have hv := List.getElem?_eq_getElem (l := vs) (i := i) (by rw [h.1]; exact (List.getElem?_eq_some_iff.1 hi).1)
  exact (h.2 i _ x hv hi).nol (nols_get ha hv)

def ThawOk (wl : Nat) (f : (Nat → Option Obj) → List AV → Option (List AV × (Nat → Option Obj))) : Prop :=
  ∀ (K : Ctx) (w : World) (vs xs : List AV) (H1 : Nat → Option Obj) (us : List Value), Inv K w → f K.H vs = some (xs, H1) → RepL K vs us → ∃ K', K'.H = H1 ∧ Melt wl K w K' ∧ RepL K' xs us ∧ Alike vs xs

theorem thaw_row {wl : Nat} {K : Ctx} {w : World} (hI : Inv K w) {id j n m : Nat} {es : List AV} (hw : wl ≤ id) (hh : K.H id = some (.arr m es)) (hle : j + n ≤ es.length) {u : Value} (hr : Rep K (.lref id j n) u) :
    ∃ b o cap, u = .slice (some ⟨b, o, none⟩) n cap ∧ n ≤ cap ∧ Row K w m ⟨b, o, none⟩ ((es.drop j).take n) := by
  have he : (⟨fun _ => .undef, K.lo, K.H, 0⟩ : St).elems m (.lref id j n) = some ((es.drop j).take n) := by simp [St.elems, hh, hle]
  obtain ⟨p, c, e1, hrow, hnil, _⟩ := elems_row (σ := ⟨fun _ => .undef, K.lo, K.H, 0⟩) hI rfl he hr
  simp only [Rep] at hr
  obtain ⟨_, a, cap, e2, hl⟩ := hr
  obtain ⟨o, rfl, h1, h2, h3⟩ := hl m es hh
  rw [e2] at e1
  injection e1 with e1 e3 e4
  subst e1
  exact ⟨_, o, cap, e2, h2, hrow _ rfl⟩

/-- The cells of a row, as they are known later. -/
theorem freeze_row {wl : Nat} {K K1 : Ctx} {w : World} {id m : Nat} {es xs : List AV} {b o : Nat} {us : List Value} (hf : Free K1 b) (hI1 : Inv K1 w) (hz : ∀ (i : Nat) (x : AV), xs[i]? = some x → x.cells.length = m ∧ x.storable = true)
    (hcells : ∀ (i : Nat) (x : AV), xs[i]? = some x → ∀ (j : Nat) (c : AV), x.cells[j]? = some c → ∃ u, w.cell? ⟨b, o + (i * m + j), none⟩ = some u ∧ Rep K1 c u) (hs : AV.solids xs = true) (hm : 0 < m) :
    Inv (K1.takeΓ b o (xs.flatMap AV.cells)) w ∧ Frozen (K1.takeΓ b o (xs.flatMap AV.cells)).Γ m b o xs := by
  have hl : ∀ (i : Nat) (e : AV), xs[i]? = some e → e.cells.length = m := fun i e he => (hz i e he).1
  refine ⟨inv_takeΓ hI1 hf fun k c hc => ?_, frozen_row hm hl fun k c hk => ?_⟩
  · obtain ⟨i, j, e, he, hj, rfl⟩ := flat_get hm hl k c hc
    obtain ⟨u, hu, hru⟩ := hcells i e he j c hj
    exact ⟨solids_flat hs hc, storable_cells (hz i e he).2 hj, u, hu, hru⟩
  · simp only [Ctx.takeΓ, if_true]
    exact ⟨by omega, by rw [Nat.add_sub_cancel_left]; exact hk⟩

/-- Elements in memory as values. -/
theorem row_values {K : Ctx} {w : World} {m : Nat} {b : Addr} {es : List AV} (h : Row K w m b es) : ∃ us : List Value, RepL K es us ∧ ∀ (i : Nat) (u : Value), us[i]? = some u → u.cells.size = m ∧ ∀ (j : Nat) (v : Value), u.cells[j]? = some v → w.cell? (b.add (i * m + j)) = some v := by
  obtain ⟨us, hl, hq⟩ := list_choose (n := es.length) (Q := fun i (u : Value) => u.cells.size = m ∧ (∀ (j : Nat) (v : Value), u.cells[j]? = some v → w.cell? (b.add (i * m + j)) = some v) ∧ ∀ e, es[i]? = some e → Rep K e u) (fun i hi => by
    have he := List.getElem?_eq_getElem hi
    obtain ⟨h1, h2, h3⟩ := h i _ he
    obtain ⟨vs, hvl, hvq⟩ := list_choose (n := m) (Q := fun j (v : Value) => w.cell? (b.add (i * m + j)) = some v ∧ ∀ c, (es[i]).cells[j]? = some c → Rep K c v) (fun j hj => by
      have hc : (es[i]).cells[j]? = some ((es[i]).cells[j]'(by omega)) := List.getElem?_eq_getElem (by omega)
      obtain ⟨u, hu, hr⟩ := h3 j _ hc
      exact ⟨u, hu, fun c hc' => by rw [hc] at hc'; cases hc'; exact hr⟩)
    have hrl : RepL K (es[i]).cells vs := RepL_mk (by omega) fun j c v hc hv => (hvq j v hv).2 c hc
    by_cases ha : (es[i]).isAgg = true
    · refine ⟨.agg vs.toArray, by simp [Value.cells, hvl], fun j v hv => (hvq j v (by simpa [Value.cells] using hv)).1, fun e he' => ?_⟩
      rw [he] at he'; cases he'
      rw [agg_cells ha]
      simp only [Rep]
      exact ⟨_, rfl, hrl⟩
    · have hcs : (es[i]).cells = [es[i]] := by cases hx : es[i] <;> simp_all [AV.isAgg, AV.cells]
      rw [hcs] at hrl
      simp only [RepL] at hrl
      obtain ⟨u, us', rfl, hr, hnil⟩ := hrl
      subst hnil
      have hone := one_oneCell (storable_cells h2 (show (es[i]).cells[0]? = some es[i] by rw [hcs]; rfl)) hr
      have huc : u.cells = #[u] := by cases u <;> first | rfl | simp [Value.oneCell'] at hone
      refine ⟨u, by rw [huc]; simpa using hvl, fun j v hv => ?_, fun e he' => by rw [he] at he'; cases he'; exact hr⟩
      rw [huc] at hv
      exact (hvq j v (by cases j <;> simp_all)).1)
  exact ⟨us, RepL_mk hl.symm fun i v u hv hu => (hq i u hu).2.2 v hv, fun i u hu => ⟨(hq i u hu).1, (hq i u hu).2.1⟩⟩

mutual
theorem thawV_ok {wl : Nat} {f : (Nat → Option Obj) → List AV → Option (List AV × (Nat → Option Obj))} (hf : ThawOk wl f) (K : Ctx) (w : World) (hI : Inv K w) : ∀ (v x : AV) (H1 : Nat → Option Obj) (u : Value), thawV f wl K.H v = some (x, H1) → Rep K v u →
    ∃ K', K'.H = H1 ∧ Melt wl K w K' ∧ Rep K' x u ∧ Like v x
  | .lref id j n, x, H1, u, h, hr => by
    simp only [thawV] at h
    split at h
    · simp only [Option.some.injEq, Prod.mk.injEq] at h; obtain ⟨rfl, rfl⟩ := h
      exact ⟨K, rfl, Melt.refl hI, hr, Like.refl _⟩
    · rename_i hw
      split at h
      case h_2 => simp at h
      rename_i m es hh
      split at h
      case isFalse => simp at h
      rename_i hle
      split at h
      case h_2 => simp at h
      rename_i xs H2 hfx
      split at h
      case isFalse => simp at h
      rename_i hsol
      simp only [Option.some.injEq, Prod.mk.injEq] at h; obtain ⟨rfl, rfl⟩ := h
      obtain ⟨b, o, cap, rfl, hncap, hrow⟩ := thaw_row (wl := 0) hI (Nat.zero_le _) hh hle hr
      have hblk : b = K.blk id := by
        simp only [Rep] at hr
        obtain ⟨_, a, c, e, hl⟩ := hr
        obtain ⟨o', rfl, _⟩ := hl m es hh
        cases e; rfl
      subst hblk
      have hlen : ((es.drop j).take n).length = n := by simp; omega
      obtain ⟨us, hus, huc⟩ := row_values hrow
      have hIk := inv_kill hI id
      have husk : RepL (K.kill id) ((es.drop j).take n) us := hus.ext (ext_kill id) (.inr (ExtLo.refl K))
      obtain ⟨K1, hH1, hm, hr1, hal⟩ := hf (K.kill id) w _ xs _ us hIk hfx husk
      have hmk : Melt wl K w (K.kill id) := ⟨hIk, rfl, rfl, rfl, fun n₀ => evo_kill (by omega)⟩
      have hm1 := hmk.trans hm
      have hfreek := free_kill hI hh
      have hb := hI.blk_lt (id := id) (by rw [hh]; simp)
      have hfree : Free K1 (K.blk id) := by
        refine ⟨fun q hq e => ?_, fun s hs e => ?_, fun o' => ?_⟩
        · rcases (hm.evo 0).mine q hq with g | ⟨q0, g, e'⟩
          · omega
          · exact hfreek.live q0 g (e'.trans e)
        · rw [hm.lo] at hs; rw [hm.ω] at e; exact hfreek.locs s hs e
        · have := ((hm.evo 0).keep (K.blk id) hb hfreek.live hfreek.locs).2 o'
          rw [this]; exact hfreek.Γ o'
      obtain ⟨hlx, hlike⟩ := hal
      have hxs : ∀ (i : Nat) (y : AV), xs[i]? = some y → y.cells.length = m ∧ y.storable = true := by
        intro i y hy
        have hv := List.getElem?_eq_getElem (l := (es.drop j).take n) (i := i) (by rw [hlx]; exact (List.getElem?_eq_some_iff.1 hy).1)
        obtain ⟨g1, g2, _⟩ := hrow i _ hv
        have hk := hlike i _ y hv hy
        exact ⟨hk.cells.trans g1, hk.storable g2⟩
      have hxc : ∀ (i : Nat) (y : AV), xs[i]? = some y → ∀ (q : Nat) (c : AV), y.cells[q]? = some c → ∃ u, w.cell? ⟨K.blk id, o + (i * m + q), none⟩ = some u ∧ Rep K1 c u := by
        intro i y hy q c hq
        obtain ⟨u, hu, hru⟩ := RepL_get hr1 hy
        obtain ⟨z, hz, hrz⟩ := RepL_get (hru.cells (hxs i y hy).2) hq
        have := (huc i u hu).2 q z (by simpa using hz)
        rw [addr_add] at this
        exact ⟨z, this, hrz⟩
      refine ⟨K1.takeΓ (K.blk id) o (xs.flatMap AV.cells), hH1, ?_, ?_, ⟨fun _ => rfl, fun _ => rfl, rfl, fun _ => rfl⟩⟩
      · have hfl : ∀ (k : Nat) (c : AV), (xs.flatMap AV.cells)[k]? = some c → c.solid = true ∧ c.one = true ∧ ∃ u, w.cell? ⟨K.blk id, o + k, none⟩ = some u ∧ Rep K1 c u := by
          intro k c hc
          have hm0 : 0 < m := by
            have hmem := List.mem_of_getElem? hc
            rw [List.mem_flatMap] at hmem
            obtain ⟨e, he, hce⟩ := hmem
            obtain ⟨i, hi⟩ := List.getElem?_of_mem he
            have := (hxs i e hi).1
            have hpos : 0 < e.cells.length := List.length_pos_of_mem hce
            omega
          obtain ⟨i, q, e, he, hq, rfl⟩ := flat_get hm0 (fun i e he => (hxs i e he).1) k c hc
          obtain ⟨u, hu, hru⟩ := hxc i e he q c hq
          exact ⟨solids_flat hsol hc, storable_cells (hxs i e he).2 hq, u, hu, hru⟩
        refine ⟨inv_takeΓ hm.inv hfree hfl, hm1.lo, hm1.ω, hm1.used, fun n₀ => ?_⟩
        have hev := hm1.evo n₀
        exact {
          size := hev.size
          keep := fun c hc h1 h2 => by
            obtain ⟨k1, k2⟩ := hev.keep c hc h1 h2
            have : c ≠ K.blk id := fun e => h1 id (by rw [hh]; simp) e.symm
            exact ⟨k1, fun o' => by rw [← k2 o']; funext c; simp only [Ctx.takeΓ]; rw [if_neg this]⟩
          ext := hev.ext.trans (ext_takeΓ hfree)
          extLo := hev.extLo
          low := hev.low
          mine := hev.mine
          locs := hev.locs
          old := hev.old
          io := hev.io }
      · simp only [Rep]
        refine ⟨⟨K.blk id, o, none⟩, cap, by rw [← hlx, hlen], by rw [← hlx, hlen]; exact hncap, fun _ => rfl, ?_⟩
        by_cases hm0 : 0 < m
        · exact frozen_row hm0 (fun i e he => (hxs i e he).1) fun k c hk => by
            simp only [Ctx.takeΓ, if_true]
            exact ⟨by omega, by rw [Nat.add_sub_cancel_left]; exact hk⟩
        · intro i e he
          have := (hxs i e he).1
          exact ⟨this, fun q c hq => by have := (List.getElem?_eq_some_iff.1 hq).1; omega⟩
  | .agg cs, x, H1, u, h, hr => by
    simp only [thawV] at h
    split at h
    case h_2 => simp at h
    rename_i r hl
    simp only [Option.some.injEq, Prod.mk.injEq] at h; obtain ⟨rfl, rfl⟩ := h
    simp only [Rep] at hr
    obtain ⟨us, rfl, hr⟩ := hr
    obtain ⟨K', h1, h2, h3, h4⟩ := thawL_ok hf K w hI cs r.1 r.2 us.toList hl hr
    refine ⟨K', h1, h2, by simp only [Rep]; exact ⟨us, rfl, h3⟩, ⟨fun h => by simp [AV.one] at h, fun h => ?_, by simp [AV.cells, h4.1], fun h => h4.all h⟩⟩
    simp only [AV.nol] at h ⊢
    exact h4.nols h
  | .bool _, x, H1, u, h, hr | .int _ _, x, H1, u, h, hr | .str _, x, H1, u, h, hr | .nilSlice, x, H1, u, h, hr | .slice _ _, x, H1, u, h, hr | .eslice, x, H1, u, h, hr
  | .nilPtr, x, H1, u, h, hr | .fptr _ _, x, H1, u, h, hr | .ptr _ _ _, x, H1, u, h, hr | .loc _ _ _, x, H1, u, h, hr | .clo _ _, x, H1, u, h, hr | .nilFunc, x, H1, u, h, hr
  | .nilMap, x, H1, u, h, hr | .map _, x, H1, u, h, hr | .nilIface, x, H1, u, h, hr | .iface _ _, x, H1, u, h, hr | .tup _, x, H1, u, h, hr | .undef, x, H1, u, h, hr => by
    simp only [thawV, Option.some.injEq, Prod.mk.injEq] at h; obtain ⟨rfl, rfl⟩ := h
    exact ⟨K, rfl, Melt.refl hI, hr, Like.refl _⟩
theorem thawL_ok {wl : Nat} {f : (Nat → Option Obj) → List AV → Option (List AV × (Nat → Option Obj))} (hf : ThawOk wl f) (K : Ctx) (w : World) (hI : Inv K w) : ∀ (vs xs : List AV) (H1 : Nat → Option Obj) (us : List Value), thawL f wl K.H vs = some (xs, H1) → RepL K vs us →
    ∃ K', K'.H = H1 ∧ Melt wl K w K' ∧ RepL K' xs us ∧ Alike vs xs
  | [], xs, H1, us, h, hr => by
    simp only [thawL, Option.some.injEq, Prod.mk.injEq] at h; obtain ⟨rfl, rfl⟩ := h
    exact ⟨K, rfl, Melt.refl hI, hr, Alike.refl _⟩
  | v :: vs, xs, H1, us, h, hr => by
    simp only [thawL] at h
    split at h
    case h_2 => simp at h
    rename_i x H2 hv
    split at h
    case h_2 => simp at h
    rename_i ys H3 hl
    simp only [Option.some.injEq, Prod.mk.injEq] at h; obtain ⟨rfl, rfl⟩ := h
    simp only [RepL] at hr
    obtain ⟨u, us', rfl, hr1, hr2⟩ := hr
    obtain ⟨K1, g1, g2, g3, g4⟩ := thawV_ok hf K w hI v x H2 u hv hr1
    subst g1
    obtain ⟨K2, k1, k2, k3, k4⟩ := thawL_ok hf K1 w g2.inv vs ys H3 us' hl (g2.repL hr2)
    exact ⟨K2, k1, g2.trans k2, by simp only [RepL]; exact ⟨u, us', rfl, k2.rep g3, k3⟩, Alike.cons g4 k4⟩
end

theorem thaw_ok (wl : Nat) : ∀ d, ThawOk wl (thaw wl d)
  | 0 => by
    intro K w vs xs H1 us hI h hr
    simp only [thaw, Option.some.injEq, Prod.mk.injEq] at h; obtain ⟨rfl, rfl⟩ := h
    exact ⟨K, rfl, Melt.refl hI, hr, Alike.refl _⟩
  | d + 1 => by
    intro K w vs xs H1 us hI h hr
    simp only [thaw] at h
    exact thawL_ok (thaw_ok wl d) K w hI vs xs H1 us h hr

/-- What is said ahead of an operation. -/
theorem pres_ok {wl : Nat} : ∀ (ps : List (Bool × Nat)) (σ τ : St) (K : Ctx) (w : World) (tmps : Array Value), pres wl ps σ = some τ → Inv K w → K.H = σ.H → K.lo = σ.lo → Env K σ.env tmps →
    ∃ K', Inv K' w ∧ K'.H = τ.H ∧ K'.lo = τ.lo ∧ Env K' τ.env tmps ∧ K'.used = K.used ∧ (∀ n₀, Evo wl n₀ K w K' w) ∧ τ.nx = σ.nx
  | [], σ, τ, K, w, tmps, h, hI, hH, hlo, he => by
    simp only [pres, Option.some.injEq] at h; subst h
    exact ⟨K, hI, hH, hlo, he, rfl, fun n₀ => Evo.refl _ _ _ _, rfl⟩
  | (false, s) :: ps, σ, τ, K, w, tmps, h, hI, hH, hlo, he => by
    simp only [pres] at h
    split at h
    case h_2 => simp at h
    rename_i v H hv
    rw [← hH] at hv
    obtain ⟨K1, g1, g2, g3, g4⟩ := thawV_ok (thaw_ok wl 0) K w hI _ v H _ hv (he s)
    obtain ⟨K', k1, k2, k3, k4, k5, k6, k7⟩ := pres_ok ps _ τ K1 w tmps h g2.inv g1 (g2.lo.trans hlo) (by
      intro j
      by_cases e : j = s
      · subst e; simp only [upd_same]; exact g3
      · simp only [upd_other _ _ e]; exact g2.rep (he j))
    exact ⟨K', k1, k2, k3, k4, k5.trans g2.used, fun n₀ => (g2.evo n₀).trans (k6 n₀), k7⟩
  | (true, s) :: ps, σ, τ, K, w, tmps, h, hI, hH, hlo, he => by
    simp only [pres] at h
    split at h
    case h_2 => simp at h
    rename_i st v hs
    split at h
    case h_2 => simp at h
    rename_i x H hv
    rw [← hH] at hv
    have hs' : K.lo s = some (st, v) := by rw [hlo]; exact hs
    obtain ⟨l1, l2, l3, ⟨cs, el, l4, l5⟩, l6⟩ := hI.locs s st v hs'
    -- what lies there, as a value
    obtain ⟨vs, hvl, hvq⟩ := list_choose (n := v.cells.length) (Q := fun j (u : Value) => w.cell? ⟨K.ω s, 0 + j, none⟩ = some u ∧ ∀ c, v.cells[j]? = some c → Rep K c u) (fun j hj => by
      have hc := List.getElem?_eq_getElem hj
      obtain ⟨u, hu, hr⟩ := l6.2 j _ hc
      exact ⟨u, hu, fun c hc' => by rw [hc] at hc'; cases hc'; exact hr⟩)
    have hrl : RepL K v.cells vs := RepL_mk hvl.symm fun j c u hc hu => (hvq j u hu).2 c hc
    have hval : ∃ u, Rep K v u ∧ u.cells.toList = vs := by
      by_cases ha : v.isAgg = true
      · refine ⟨.agg vs.toArray, ?_, by simp [Value.cells]⟩
        rw [agg_cells ha]; simp only [Rep]
        exact ⟨_, rfl, hrl⟩
      · have hcs : v.cells = [v] := by cases v <;> simp_all [AV.isAgg, AV.cells]
        rw [hcs] at hrl
        simp only [RepL] at hrl
        obtain ⟨u, us', rfl, hr, hnil⟩ := hrl
        subst hnil
        have hone := one_oneCell (storable_cells l6.1 (show v.cells[0]? = some v by rw [hcs]; rfl)) hr
        have huc : u.cells = #[u] := by cases u <;> first | rfl | simp [Value.oneCell'] at hone
        exact ⟨u, hr, by rw [huc]⟩
    obtain ⟨u, hu, huv⟩ := hval
    obtain ⟨K1, g1, g2, g3, g4⟩ := thawV_ok (thaw_ok wl 0) K w hI v x H u hv hu
    have hs1 : K1.lo s = some (st, v) := by rw [g2.lo]; exact hs'
    have hxst := g4.storable l6.1
    have hxc := g3.cells hxst
    rw [huv] at hxc
    have hx : Ext K1 { K1 with lo := upd K1.lo s (some (st, x)) } := ⟨rfl, fun _ h => h, fun _ _ _ h => h, fun _ _ h => ⟨rfl, h⟩, fun _ _ _ es h => ⟨es, h, rfl, rfl⟩⟩
    have hxl : ExtLo K1 { K1 with lo := upd K1.lo s (some (st, x)) } := by
      intro s' st' y hst' hy
      change upd K1.lo s (some (st, x)) s' = some (st', y) at hy
      by_cases e : s' = s
      · subst e; rw [upd_same] at hy; simp only [Option.some.injEq, Prod.mk.injEq] at hy; obtain ⟨rfl, rfl⟩ := hy
        exact ⟨v, hs1, rfl⟩
      · rw [upd_other _ _ e] at hy; exact ⟨y, hy, rfl⟩
    have hsome : ∀ s', (upd K1.lo s (some (st, x))) s' ≠ none → K1.lo s' ≠ none := by
      intro s' h
      by_cases e : s' = s
      · rw [e, hs1]; simp
      · rwa [upd_other _ _ e] at h
    have hω : K1.ω s = K.ω s := by rw [g2.ω]
    have hI2 : Inv { K1 with lo := upd K1.lo s (some (st, x)) } w := by
      have hI1 := g2.inv
      obtain ⟨q1, q2, q3, q4, q5⟩ := hI1.locs s st v hs1
      refine ⟨?_, ?_, hI1.dist, ?_, fun s1 s2 h1 h2 he => hI1.locd s1 s2 (hsome s1 h1) (hsome s2 h2) he⟩
      · intro b o c hc
        obtain ⟨h1, h2, y, hy, hr⟩ := hI1.frozen b o c hc
        exact ⟨h1, h2, y, hy, hr.ext hx (.inl (solid_nol h1))⟩
      · intro j ob ho
        obtain ⟨h1, h2, h3⟩ := hI1.live j ob ho
        exact ⟨h1, h2, h3.ext hx rfl rfl rfl rfl⟩
      · intro s' st' y hy
        change upd K1.lo s (some (st, x)) s' = some (st', y) at hy
        by_cases e : s' = s
        · subst e; rw [upd_same] at hy; simp only [Option.some.injEq, Prod.mk.injEq] at hy; obtain ⟨rfl, rfl⟩ := hy
          refine ⟨q1, q2, q3, ?_, hxst, fun j c hj => ?_⟩
          · obtain ⟨cs, el, e1, e2⟩ := q4
            exact ⟨cs, el, e1, by rw [g4.cells]; exact e2⟩
          · obtain ⟨z, hz, hrz⟩ := RepL_get hxc hj
            refine ⟨z, ?_, hrz.ext hx (.inl (nol_cells (storable_nol hxst) hj))⟩
            show w.cell? ⟨K1.ω s', 0 + j, none⟩ = _
            rw [hω]; exact (hvq j z hz).1
        · rw [upd_other _ _ e] at hy
          obtain ⟨h1, h2, h3, h4, h5⟩ := hI1.locs s' st' y hy
          exact ⟨h1, h2, h3, h4, h5.ext hx rfl⟩
    obtain ⟨K', k1, k2, k3, k4, k5, k6, k7⟩ := pres_ok ps _ τ { K1 with lo := upd K1.lo s (some (st, x)) } w tmps h hI2 g1 (by show upd K1.lo s _ = upd σ.lo s _; rw [g2.lo, hlo]) (fun j => (g2.rep (he j)).ext hx (.inr hxl))
    refine ⟨K', k1, k2, k3, k4, k5.trans g2.used, fun n₀ => ((g2.evo n₀).trans ?_).trans (k6 n₀), k7⟩
    exact ⟨Nat.le_refl _, fun _ _ _ _ => ⟨rfl, fun _ => rfl⟩, hx, hxl, fun _ _ => rfl, fun j h => .inr ⟨j, h, rfl⟩, fun s' h => .inr ⟨hsome s' h, rfl⟩, fun _ _ h => h, SameIo.refl w⟩

end Go.Proofs.Ytmbdccekcfeomaa.Am
