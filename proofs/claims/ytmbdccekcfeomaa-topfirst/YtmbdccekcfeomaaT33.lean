/- find.Do: a table in which all claims hold. -/
import Derived.Test.YtmbdccekcfeomaaT32
import Derived.Test.YtmbdccekcfeomaaT28
section
open Go
namespace Go.Proofs.Ytmbdccekcfeomaa.Am
set_option linter.unusedSimpArgs false
set_option linter.unusedVariables false
set_option maxRecDepth 20000

def tabAv (s : Int) (tl : List (List Int)) : AV := .agg [.int .i64 s, .slice 1 (tl.map fun r => .slice 1 (rowI r))]
def nilTab : AV := .agg [.int .i64 0, .nilSlice]
def unset (S : Nat) (k : Nat) : List (List Int) := (List.range k).map fun i => List.replicate (S ^ i) (-1)
theorem unset_get {S k i : Nat} (h : i < k) : (unset S k).getD i [] = List.replicate (S ^ i) (-1) := by
  simp [unset, List.getD_eq_getElem?_getD, h]
theorem unset_shp {S : Nat} (h : S = 1 ∨ S = 2) : Shp (S : Int) (unset S 3) where
  s12 := by omega
  len := by simp [unset]
  row k hk := by rw [unset_get hk, List.length_replicate]; simp
  cell r hr x hx := by
    simp only [unset, List.mem_map] at hr
    obtain ⟨i, _, rfl⟩ := hr
    have := List.eq_of_mem_replicate hx
    omega
theorem thaw_ints {wl id n : Nat} {H : Nat → Option Obj} {xs : List Int} (h : H id = some (.arr 1 (rowI xs))) (hw : wl ≤ id) (hn : xs.length = n) : thawV (thaw wl 0) wl H (.lref id 0 n) = some (.slice 1 (rowI xs), upd H id none) := by
  simp only [thawV]
  rw [if_neg (by omega), h]
  simp only
  have hs : AV.solids (rowI xs) = true := solids_map (fun _ => solid_int _ _) xs
  rw [if_pos (by simp [rowI, hn])]
  have : ((rowI xs).drop 0).take n = rowI xs := by rw [List.drop_zero, List.take_of_length_le (by simp [rowI, hn])]
  rw [this]
  simp [thaw, hs]
theorem three {α : Type} {l : List α} (h : l.length = 3) : ∃ a b c, l = [a, b, c] := by
  match l, h with
  | [a, b, c], _ => exact ⟨a, b, c, rfl⟩
theorem thaw_tab {lo n f ta wl : Nat} {H : Nat → Option Obj} {es : List AV} {ids : Nat → Nat} {l : Lo} {s fuel : Int} {tl : List (List Int)} (hF : Fnd H f ta es ids l s fuel tl) (hS : Shp s tl) (hI : FI lo n f ta ids) (hw : wl ≤ lo) (st : Int) :
    ∃ H', thaw wl 2 H [.int .i64 st, .agg [.int .i64 s, .lref ta 0 3], flt 0 0] = some ([.int .i64 st, tabAv s tl, flt 0 0], H') := by
  obtain ⟨r0, r1, r2, rfl⟩ := three hS.len
  obtain ⟨e0, e1, e2, rfl⟩ := three (l := es) (by rw [hF.el]; rfl)
  have g0 := hF.get 0 (by simp)
  have g1 := hF.get 1 (by simp)
  have g2 := hF.get 2 (by simp)
  have h0 := hF.row 0 (by simp)
  have h1 := hF.row 1 (by simp)
  have h2 := hF.row 2 (by simp)
  simp only [List.getElem?_cons_zero, List.getElem?_cons_succ, Option.some.injEq, List.getD_cons_zero, List.getD_cons_succ] at g0 g1 g2 h0 h1 h2
  subst g0; subst g1; subst g2
  have nt := fun k hk => (hI.ne.2 k hk).2.symm
  have l3 := hI.lo'
  have a0 := thaw_ints (wl := wl) (H := upd H ta none) (by rw [upd_other _ _ (nt 0 (by decide))]; exact h0) (by have := l3.2.2 0 (by decide); omega) rfl
  have a1 := thaw_ints (wl := wl) (H := upd (upd H ta none) (ids 0) none) (by rw [upd_other _ _ (hI.inj 1 0 (by decide) (by decide) (by decide)), upd_other _ _ (nt 1 (by decide))]; exact h1) (by have := l3.2.2 1 (by decide); omega) rfl
  have a2 := thaw_ints (wl := wl) (H := upd (upd (upd H ta none) (ids 0) none) (ids 1) none) (by rw [upd_other _ _ (hI.inj 2 1 (by decide) (by decide) (by decide)), upd_other _ _ (hI.inj 2 0 (by decide) (by decide) (by decide)), upd_other _ _ (nt 2 (by decide))]; exact h2) (by have := l3.2.2 2 (by decide); omega) rfl
  refine ⟨upd (upd (upd (upd H ta none) (ids 0) none) (ids 1) none) (ids 2) none, ?_⟩
  have e2 : ∀ H vs, thaw wl 2 H vs = thawL (thaw wl 1) wl H vs := fun _ _ => rfl
  have hl : thawV (thaw wl 1) wl H (.lref ta 0 3) = some (.slice 1 [.slice 1 (rowI r0), .slice 1 (rowI r1), .slice 1 (rowI r2)], upd (upd (upd (upd H ta none) (ids 0) none) (ids 1) none) (ids 2) none) := by
    simp only [thawV]
    rw [if_neg (by omega), hF.tel]
    simp only [thaw_one, thawL, a0, a1, a2, List.drop_zero, List.take_succ_cons, List.take_zero, List.length_cons, List.length_nil, solids_cons, solid_slice, solids_nil]
    simp
  rw [e2]
  simp only [thawL, thawV_int, hl, thawV_solid (flt 0 0) (solid_flt 0 0)]
  rw [thawV]
  simp only [thawL, thawV_int, hl]
  rfl
/-- The rows that are made. -/
structure Mk (H : Nat → Option Obj) (nx n f ta : Nat) (es : List AV) (ids : Nat → Nat) (l : Lo) (S k : Nat) : Prop where
  obj : H f = some (.arr 5 [.agg [ints l.anil l.ar, sl 1 l.cnil (l.cs.map Cl.el), .int .i64 S, lv ta k, .int .i64 400]])
  own : Own H nx n 1 ta es
  len : es.length = k
  fl : nx ≤ f ∧ f < n
  ft : k ≠ 0 → f < ta
  get : ∀ i, i < k → es[i]? = some (.lref (ids i) 0 (S ^ i))
  row : ∀ i, i < k → H (ids i) = some (.arr 1 (rowI (List.replicate (S ^ i) (-1))))
  id : ∀ i, i < k → f < ids i ∧ ids i < n ∧ ids i ≠ ta
  inj : ∀ i j, i < k → j < k → i ≠ j → ids i ≠ ids j
theorem Mk.mono {H : Nat → Option Obj} {nx n n' f ta : Nat} {es : List AV} {ids : Nat → Nat} {l : Lo} {S k : Nat} (h : Mk H nx n f ta es ids l S k) (hn : n ≤ n') : Mk H nx n' f ta es ids l S k :=
  { obj := h.obj, own := h.own.mono hn, len := h.len, fl := by have := h.fl; omega, ft := h.ft, get := h.get, row := h.row, id := fun i hi => by have := h.id i hi; omega, inj := h.inj }
theorem fill_set (m j : Nat) : (List.replicate m (-1 : Int) ++ List.replicate (j + 1) 0).set m (-1) = List.replicate (m + 1) (-1) ++ List.replicate j 0 := by
  rw [List.set_append_right _ _ (by simp), List.length_replicate, Nat.sub_self, List.replicate_succ (n := j), List.set_cons_zero, List.replicate_succ' (n := m), List.append_assoc]; rfl

theorem ne11 : ((1 : Int) != 1) = false := by decide
theorem ne21 : ((2 : Int) != 1) = true := by decide
theorem ne31 : ((3 : Int) != 1) = true := by decide
theorem withinN (a b : AV) : within nilTab 0 (.agg [a, b]) = some (.agg [a, b]) := within_whole rfl rfl
theorem tabAv_solid (s : Int) (tl : List (List Int)) : (tabAv s tl).solid = true := by simp [tabAv, solid_agg, solids_cons, solid_int, solid_slice, solids_nil]
theorem powS (s : Int) (j : Nat) : s ^ j * s = s ^ (j + 1) := (Int.pow_succ s j).symm
def FoundR (s : Int) (l : Lo) (r : AV) : Prop := (∃ st : Int, (st = 2 ∨ st = 3) ∧ r = .tup [.int .i64 st, nilTab, flt 0 0]) ∨ ∃ tl, r = .tup [.int .i64 1, tabAv s tl, flt 0 0] ∧ Shp s tl ∧ Full s tl ∧ Fine s tl l.cs

theorem finddo_spec {wl nx : Nat} {H : Nat → Option Obj} {l : Lo} {S : Nat} (hS : S = 1 ∨ S = 2) (hl : l.fin) (har : l.ar = [0, 1, 2]) (h0 : l.chk.1 = 0) (hg : ∀ c ∈ l.cs, c.good ∧ c.most ≤ 2 ∧ c.wf c.most) :
    Call tab wl 14 [l.av, .int .i64 S, .int .i64 400] H nx fun r H' nx' => FoundR S l r ∧ H' = H ∧ nx' = nx := by
  refine call_thaw tab_14 ?_
  unfold body14
  dsimp only [qm, qf, ql, qL, qs, qc, qk, qi, qn, qb, qB, qe, qx, qo, qg]
  simp only [start3]
  have hck := check_spec l hl
  rw [Lo.chk_zero h0] at hck
  have hin := in_17 S 1 4
  rw [show decide ((1 : Int) ≤ S ∧ (S : Int) ≤ 4) = true from decide_eq_true (by omega)] at hin
  have hin2 := in_17 400 0 2000
  rw [show decide ((0 : Int) ≤ 400 ∧ (400 : Int) ≤ 2000) = true from rfl] at hin2
  have hcl := hl.2.1
  simp only [↓sd0, su0, su1, resOf, pack, eqCells, ↓reduceIte, Nat.reduceEqDiff, Nat.reduceAdd, Nat.reduceLeDiff, Nat.reduceLT, reduceCtorEq, hck.callK, storable_flt, cells_flt, within_flt, part_flt, eqsF0, hin.callK, hin2.callK, eqsF]
  generalize hobj0 : (some (Obj.arr 5 [AV.agg [ints l.anil l.ar, sl 1 l.cnil (l.cs.map Cl.el), .int .i64 (S : Int), .nilSlice, .int .i64 400]])) = o0
  refine W_count l.cs.length (fun k e lo H' n => e 1 = .int .i64 S ∧ e 3 = .fptr l.av 0 ∧ (∃ f, e 10 = .ptr f 0 0 ∧ nx ≤ f ∧ f < n ∧ H' = upd H f o0) ∧ (∃ m7, e 7 = .loc 7 m7 0 ∧ lo 7 = some (m7, nilTab)) ∧ (∃ m8, e 8 = .loc 8 m8 0 ∧ lo 8 = some (m8, flt 0 0)) ∧ e 44 = sl 1 l.cnil (l.cs.map Cl.el) ∧ e 45 = .int .i64 l.cs.length ∧ e 46 = .int .i64 k) ?_ ?_ ?_
  · simp only [↓sd0, su0, su1, resOf, pack, eqCells, ↓reduceIte, Nat.reduceEqDiff, Nat.reduceAdd, Nat.reduceLeDiff, Nat.reduceLT, reduceCtorEq]
    exact ⟨⟨_, rfl, by omega, by omega, rfl⟩, ⟨_, rfl, rfl⟩, _, rfl, rfl⟩
  · rintro k e lo H' n hk ⟨h1, h3, ⟨f, h10, hf1, hf2, rfl⟩, ⟨m7, h7, hl7⟩, ⟨m8, h8, hl8⟩, h44, h45, h46⟩
    have hcm := hg l.cs[k] (List.getElem_mem hk)
    have hwk := wrap_succ hk (by omega)
    generalize hcc : l.cs[k] = c at hcm
    obtain ⟨hc1, hc2, hc3⟩ := hcm
    have hmo := cmost_spec c (by have := hc1.1; omega) (fun f hf => by have := hc1.2 f hf; exact ⟨⟨by have := this.1.1; omega, this.1.2⟩, ⟨by have := this.2.1; omega, this.2.2⟩⟩)
    generalize hv : c.most = v at hc2 hc3 hmo
    simp only [↓sd0, su0, su1, resOf, pack, eqCells, ↓reduceIte, Nat.reduceEqDiff, Nat.reduceAdd, Nat.reduceLeDiff, Nat.reduceLT, reduceCtorEq, h1, h3, h10, h7, hl7, h8, hl8, h44, h45, h46, iaddr_map hk, hcc, lt_cast hk, hmo.callK, Cl.part_el]
    refine W_count v (fun j e lo H' n => e 1 = .int .i64 S ∧ e 3 = .fptr l.av 0 ∧ (e 10 = .ptr f 0 0 ∧ f < n ∧ H' = upd H f o0) ∧ (e 7 = .loc 7 m7 0 ∧ lo 7 = some (m7, nilTab)) ∧ (e 8 = .loc 8 m8 0 ∧ lo 8 = some (m8, flt 0 0)) ∧ e 44 = sl 1 l.cnil (l.cs.map Cl.el) ∧ e 45 = .int .i64 l.cs.length ∧ e 46 = .int .i64 k ∧ e 52 = .int .i64 v ∧ e 53 = .int .i64 j ∧ e 13 = .int .i64 ((S : Int) ^ j)) ?_ ?_ ?_
    · simp only [↓sd0, su0, su1, resOf, pack, eqCells, ↓reduceIte, Nat.reduceEqDiff, Nat.reduceAdd, Nat.reduceLeDiff, Nat.reduceLT, reduceCtorEq, h1, h3, h10, h7, hl7, h8, hl8, h44, h45, h46]
      exact ⟨by omega, rfl⟩
    · rintro j e lo H' n hj ⟨h1, h3, ⟨h10, hf2, rfl⟩, ⟨h7, hl7⟩, ⟨h8, hl8⟩, h44, h45, h46, h52, h53, h13⟩
      have hpb := pow_bound (s := (S : Int)) (by omega) (j + 1) (by omega)
      have hwj := wrap_succ hj (by omega)
      have hwm : IntKind.i64.wrap ((S : Int) ^ j * S) = (S : Int) ^ (j + 1) := by rw [powS]; exact wrap64 (by omega) (by omega)
      simp only [↓sd0, su0, su1, resOf, pack, eqCells, ↓reduceIte, Nat.reduceEqDiff, Nat.reduceAdd, Nat.reduceLeDiff, Nat.reduceLT, reduceCtorEq, h1, h3, h10, h7, hl7, h8, hl8, h44, h45, h46, h52, h53, h13, lt_cast hj, hwj, hwm]
      omega
    · rintro e lo H' n ⟨h1, h3, ⟨h10, hf2, rfl⟩, ⟨h7, hl7⟩, ⟨h8, hl8⟩, h44, h45, h46, h52, h53, h13⟩
      have hpb := pow_bound (s := (S : Int)) (by omega) v (by omega)
      have q : decide ((S : Int) ^ v > 4096) = false := decide_eq_false (by omega)
      simp only [↓sd0, su0, su1, resOf, pack, eqCells, ↓reduceIte, Nat.reduceEqDiff, Nat.reduceAdd, Nat.reduceLeDiff, Nat.reduceLT, reduceCtorEq, h1, h3, h10, h7, hl7, h8, hl8, h44, h45, h46, h52, h53, h13, q, hwk]
      exact ⟨⟨_, rfl, by omega, by omega, rfl⟩, ⟨_, rfl, rfl⟩, _, rfl, rfl⟩
  · rintro e lo H' n ⟨h1, h3, ⟨f, h10, hf1, hf2, rfl⟩, ⟨m7, h7, hl7⟩, ⟨m8, h8, hl8⟩, h44, h45, h46⟩
    simp only [↓sd0, su0, su1, resOf, pack, eqCells, ↓reduceIte, Nat.reduceEqDiff, Nat.reduceAdd, Nat.reduceLeDiff, Nat.reduceLT, reduceCtorEq, h1, h3, h10, h7, hl7, h8, hl8, h44, h45, h46, lenV_ints]
    have hal : l.ar.length = 3 := by rw [har]; rfl
    have hak : ∀ k (h : k < l.ar.length), l.ar[k] = (k : Int) := fun k h => by
      have : k = 0 ∨ k = 1 ∨ k = 2 := by omega
      rcases this with rfl | rfl | rfl <;> simp [har]
    refine W_count l.ar.length (fun k e lo H' n => e 1 = .int .i64 S ∧ e 10 = .ptr f 0 0 ∧ (∃ m7, e 7 = .loc 7 m7 0 ∧ lo 7 = some (m7, nilTab)) ∧ (∃ m8, e 8 = .loc 8 m8 0 ∧ lo 8 = some (m8, flt 0 0)) ∧ e 66 = ints l.anil l.ar ∧ e 67 = .int .i64 l.ar.length ∧ e 68 = .int .i64 k ∧ ∃ ta es ids, Mk H' nx n f ta es ids l S k) ?_ ?_ ?_
    · simp only [↓sd0, su0, su1, resOf, pack, eqCells, ↓reduceIte, Nat.reduceEqDiff, Nat.reduceAdd, Nat.reduceLeDiff, Nat.reduceLT, reduceCtorEq, h1, h10]
      exact ⟨⟨_, h7, hl7⟩, ⟨_, h8, hl8⟩, 0, [], fun _ => 0, by rw [upd_same, ← hobj0]; rfl, Own.nil, rfl, ⟨hf1, by omega⟩, fun h => absurd rfl h, fun i hi => absurd hi (by omega), fun i hi => absurd hi (by omega), fun i hi => absurd hi (by omega), fun i j hi => absurd hi (by omega)⟩
    · clear h1 h3 h10 h7 hl7 h8 hl8 h44 h45 h46
      rintro k e lo H' n hk ⟨h1, h10, ⟨m7, h7, hl7⟩, ⟨m8, h8, hl8⟩, h66, h67, h68, ta, es, ids, hM⟩
      have hak' := hak k hk
      have hwk := wrap_succ hk (by omega)
      simp only [↓sd0, su0, su1, resOf, pack, eqCells, ↓reduceIte, Nat.reduceEqDiff, Nat.reduceAdd, Nat.reduceLeDiff, Nat.reduceLT, reduceCtorEq, h1, h10, h7, hl7, h8, hl8, h66, h67, h68, iaddr_ints hk, hak', lt_cast hk]
      refine W_count k (fun j e lo H1 n1 => e 1 = .int .i64 S ∧ e 10 = .ptr f 0 0 ∧ (e 7 = .loc 7 m7 0 ∧ lo 7 = some (m7, nilTab)) ∧ (e 8 = .loc 8 m8 0 ∧ lo 8 = some (m8, flt 0 0)) ∧ e 66 = ints l.anil l.ar ∧ e 67 = .int .i64 l.ar.length ∧ e 68 = .int .i64 k ∧ e 72 = .int .i64 k ∧ e 73 = .int .i64 j ∧ e 16 = .int .i64 ((S ^ j : Nat) : Int) ∧ n ≤ n1 ∧ H1 = H') ?_ ?_ ?_
      · simp only [↓sd0, su0, su1, resOf, pack, eqCells, ↓reduceIte, Nat.reduceEqDiff, Nat.reduceAdd, Nat.reduceLeDiff, Nat.reduceLT, reduceCtorEq, h1, h10, h7, hl7, h8, hl8, h66, h67, h68]
        rfl
      · clear h1 h10 h7 hl7 h8 hl8 h66 h67 h68
        rintro j e lo H1 n1 hj ⟨h1, h10, ⟨h7, hl7⟩, ⟨h8, hl8⟩, h66, h67, h68, h72, h73, h16, hn1, rfl⟩
        have hpb := pow_bound (s := (S : Int)) (by omega) (j + 1) (by omega)
        have hwj := wrap_succ hj (by omega)
        have hwm : IntKind.i64.wrap (((S ^ j : Nat) : Int) * S) = ((S ^ (j + 1) : Nat) : Int) := by
          rw [Int.natCast_pow, powS, Int.natCast_pow]; exact wrap64 (by omega) (by omega)
        simp only [↓sd0, su0, su1, resOf, pack, eqCells, ↓reduceIte, Nat.reduceEqDiff, Nat.reduceAdd, Nat.reduceLeDiff, Nat.reduceLT, reduceCtorEq, h1, h10, h7, hl7, h8, hl8, h66, h67, h68, h72, h73, h16, lt_cast hj, hwj, hwm]
        omega
      · clear h1 h10 h7 hl7 h8 hl8 h66 h67 h68
        rintro e lo H1 n1 ⟨h1, h10, ⟨h7, hl7⟩, ⟨h8, hl8⟩, h66, h67, h68, h72, h73, h16, hn1, rfl⟩
        have hpb := pow_bound (s := (S : Int)) (by omega) k (by omega)
        rw [← Int.natCast_pow] at hpb
        generalize hN : S ^ k = N at h16 hpb
        have hmk := mkV_nat (bytes := 8) (n := N) (by omega)
        simp only [↓sd0, su0, su1, resOf, pack, eqCells, ↓reduceIte, Nat.reduceEqDiff, Nat.reduceAdd, Nat.reduceLeDiff, Nat.reduceLT, reduceCtorEq, h1, h10, h7, hl7, h8, hl8, h66, h67, h68, h72, h73, h16, hmk]
        refine W_count N (fun m e lo H2 n2 => e 1 = .int .i64 S ∧ e 10 = .ptr f 0 0 ∧ (e 7 = .loc 7 m7 0 ∧ lo 7 = some (m7, nilTab)) ∧ (e 8 = .loc 8 m8 0 ∧ lo 8 = some (m8, flt 0 0)) ∧ e 66 = ints l.anil l.ar ∧ e 67 = .int .i64 l.ar.length ∧ e 68 = .int .i64 k ∧ e 82 = .int .i64 N ∧ e 83 = .int .i64 m ∧ e 17 = .lref (n1 + 2) 0 N ∧ n1 + 3 ≤ n2 ∧ m ≤ N ∧ H2 = upd H1 (n1 + 2) (some (.arr 1 (rowI (List.replicate m (-1) ++ List.replicate (N - m) 0))))) ?_ ?_ ?_
        · simp only [↓sd0, su0, su1, resOf, pack, eqCells, ↓reduceIte, Nat.reduceEqDiff, Nat.reduceAdd, Nat.reduceLeDiff, Nat.reduceLT, reduceCtorEq, h1, h10, h7, hl7, h8, hl8, h66, h67, h68]
          exact ⟨by omega, by rw [rowI_zeros]; simp⟩
        · clear h1 h10 h7 hl7 h8 hl8 h66 h67 h68 h72 h73 h16
          rintro m e lo H2 n2 hm ⟨h1, h10, ⟨h7, hl7⟩, ⟨h8, hl8⟩, h66, h67, h68, h82, h83, h17, hn2, hmN, rfl⟩
          obtain ⟨j, hj⟩ : ∃ j, N - m = j + 1 := ⟨N - m - 1, by omega⟩
          have hwm := wrap_succ hm (by omega)
          have hia := iaddr_lref (H := upd H1 (n1 + 2) (some (.arr 1 (rowI (List.replicate m (-1) ++ List.replicate (N - m) 0))))) (i := m) (n := N) (upd_same _ _ _) hm
          have hget : (rowI (List.replicate m (-1) ++ List.replicate (N - m) 0))[m]? = some (.int .i64 0) := rowI_get (by rw [hj, List.getElem?_append_right (by simp)]; simp)
          have hwl : nx ≤ n1 + 2 := by have := hM.fl; omega
          simp only [↓sd0, su0, su1, resOf, pack, eqCells, ↓reduceIte, Nat.reduceEqDiff, Nat.reduceAdd, Nat.reduceLeDiff, Nat.reduceLT, reduceCtorEq, h1, h10, h7, hl7, h8, hl8, h66, h67, h68, h82, h83, h17, lt_cast hm, hwm, hia, hget, hwl, rowI_set, upd_upd]
          refine ⟨by omega, by omega, ?_⟩
          rw [hj, fill_set, show N - (m + 1) = j by omega]
        · clear h1 h10 h7 hl7 h8 hl8 h66 h67 h68 h72 h73 h16
          rintro e lo H2 n2 ⟨h1, h10, ⟨h7, hl7⟩, ⟨h8, hl8⟩, h66, h67, h68, h82, h83, h17, hn2, hmN, rfl⟩
          rw [Nat.sub_self, List.replicate_zero, List.append_nil]
          have hfl := hM.fl
          have nf : f ≠ n1 + 2 := by omega
          have hobj := hM.obj
          have nf1 : f ≠ n2 + 8 := by omega
          have nf2 : f ≠ n2 + 9 := by omega
          have hks : ∀ X : Nat → Option Obj, kill X ta k f = X f := fun X => kill_other (fun h => by have := hM.ft h; omega)
          have hap := fun (o1 o2 : Option Obj) => append_to (wl := nx) (bytes := 24) (.lref (n1 + 2) 0 N) ((hM.own.keep (o := o1) (show n ≤ n1 + 2 by omega)).keep (o := o2) (show n ≤ n2 + 8 by omega)) hM.len (Nat.le_refl _) (by omega) (n2 + 9)
          have w1 : nx ≤ f := hfl.1
          simp only [↓sd0, su0, su1, resOf, pack, eqCells, ↓reduceIte, Nat.reduceEqDiff, Nat.reduceAdd, Nat.reduceLeDiff, Nat.reduceLT, reduceCtorEq, h1, h10, h7, hl7, h8, hl8, h66, h67, h68, h82, h83, h17, nf, nf1, nf2, hobj, part_lref, part_lv, hks, hap, w1, List.set_cons_zero, hwk]
          generalize hX : upd (upd (kill (upd (upd H1 (n1 + 2) (some (.arr 1 (rowI (List.replicate N (-1)))))) (n2 + 8) (some (.arr 1 [.lref (n1 + 2) 0 N]))) ta k) (n2 + 9) (some (.arr 1 (es ++ [.lref (n1 + 2) 0 N])))) f (some (.arr 5 [.agg [ints l.anil l.ar, sl 1 l.cnil (l.cs.map Cl.el), .int .i64 S, lv (n2 + 9) (k + 1), .int .i64 400]])) = X
          have hfr : ∀ j, j ≠ f → j ≠ n2 + 9 → j ≠ n2 + 8 → j ≠ n1 + 2 → (k ≠ 0 → j ≠ ta) → X j = H1 j := fun j a b c d e => by
            rw [← hX, upd_other _ _ a, upd_other _ _ b, kill_other e, upd_other _ _ c, upd_other _ _ d]
          have hXr : X (n1 + 2) = some (.arr 1 (rowI (List.replicate N (-1)))) := by
            rw [← hX, upd_other _ _ nf.symm, upd_other _ _ (by omega), kill_other (fun h => by
              have hne : es ≠ [] := fun he => h (by rw [← hM.len, he]; rfl)
              have := (hM.own hne).2.1; omega), upd_other _ _ (by omega), upd_same]
          refine ⟨⟨_, rfl, rfl⟩, ⟨_, rfl, rfl⟩, n2 + 9, es ++ [.lref (n1 + 2) 0 N], fun i => if i = k then n1 + 2 else ids i, ?_⟩
          exact
            { obj := by rw [← hX, upd_same]
              own := fun _ => ⟨by omega, by omega, by rw [← hX, upd_other _ _ nf2.symm, upd_same]⟩
              len := by rw [List.length_append, hM.len]; rfl
              fl := by omega
              ft := fun _ => by omega
              get := fun i hi => by
                by_cases e : i = k
                · subst e
                  rw [if_pos rfl, List.getElem?_append_right (by rw [hM.len]; omega), hM.len, hN]; simp
                · rw [if_neg e, List.getElem?_append_left (by rw [hM.len]; omega)]; exact hM.get i (by omega)
              row := fun i hi => by
                by_cases e : i = k
                · subst e; rw [if_pos rfl, hXr, hN]
                · have := hM.id i (by omega)
                  rw [if_neg e, hfr _ (by omega) (by omega) (by omega) (by omega) (fun _ => this.2.2)]; exact hM.row i (by omega)
              id := fun i hi => by
                by_cases e : i = k
                · subst e; rw [if_pos rfl]; omega
                · have := hM.id i (by omega)
                  rw [if_neg e]; omega
              inj := fun i j hi hj hij => by
                by_cases e : i = k
                · have := hM.id j (by omega)
                  rw [if_pos e, if_neg (by omega)]; omega
                · have := hM.id i (by omega)
                  rw [if_neg e]
                  by_cases e2 : j = k
                  · rw [if_pos e2]; omega
                  · rw [if_neg e2]; exact hM.inj i j (by omega) (by omega) hij }
    · clear h1 h3 h10 h7 hl7 h8 hl8 h44 h45 h46
      rintro e lo H' n ⟨h1, h10, ⟨m7, h7, hl7⟩, ⟨m8, h8, hl8⟩, h66, h67, h68, ta, es, ids, hM⟩
      simp only [↓sd0, su0, su1, resOf, pack, eqCells, ↓reduceIte, Nat.reduceEqDiff, Nat.reduceAdd, Nat.reduceLeDiff, Nat.reduceLT, reduceCtorEq, h1, h10, h7, hl7, h8, hl8, h66, h67, h68]
      rw [hal] at hM
      have hS' := unset_shp hS
      have hul : (unset S 3).length = 3 := by simp [unset]
      have hta : lv ta 3 = .lref ta 0 3 := rfl
      have hne : es ≠ [] := fun he => by have := hM.len; rw [he] at this; simp at this
      have hown := hM.own hne
      have hft := hM.ft (by decide)
      have hF : Fnd H' f ta es ids l S 400 (unset S 3) :=
        { obj := by rw [hul]; exact hM.obj
          tel := hown.2.2
          el := by rw [hM.len, hul]
          get := fun i hi => by rw [hul] at hi; rw [unset_get hi, List.length_replicate]; exact hM.get i hi
          row := fun i hi => by rw [hul] at hi; rw [unset_get hi]; exact hM.row i hi }
      have hI : FI nx n f ta ids :=
        { lo' := ⟨hM.fl.1, hown.1, fun k hk => by have := hM.id k hk; have := hM.fl; omega⟩
          lt := ⟨hM.fl.2, hown.2.1, fun k hk => (hM.id k hk).2.1⟩
          ne := ⟨by omega, fun k hk => by have := hM.id k hk; omega⟩
          inj := hM.inj }
      have hg8 : ∀ c ∈ l.cs, c.good ∧ c.most ≤ 8 ∧ c.wf c.most := fun c hc => by have := hg c hc; exact ⟨this.1, by omega, this.2.2⟩
      have hI2 := hI.mono (show n ≤ n + 4 by omega)
      refine CallK_of (fine_spec hF hS' hI2.lt.1 hI2.lt.2.1 (fun k hk => by rw [hul] at hk; exact hI2.lt.2.2 k hk) hcl hg8 nx) ?_
      rintro r H3 n3 ⟨⟨b, rfl, hb⟩, rfl, rfl⟩
      cases b
      · simp only [↓sd0, su0, su1, resOf, pack, eqCells, ↓reduceIte, Nat.reduceEqDiff, Nat.reduceAdd, Nat.reduceLeDiff, Nat.reduceLT, reduceCtorEq, h1, h10, h7, hl7, h8, hl8, withinN, agg_flt, part_flt, cells_flt, storable_flt, within_flt, within_fltt, solid_flt]
        simp only [thaw_solid, ↓sd0, su0, su1, resOf, pack, eqCells, ↓reduceIte, Nat.reduceEqDiff, Nat.reduceAdd, Nat.reduceLeDiff, Nat.reduceLT, reduceCtorEq, solid_flt]
        exact Or.inl ⟨2, Or.inl rfl, rfl⟩
      · simp only [↓sd0, su0, su1, resOf, pack, eqCells, ↓reduceIte, Nat.reduceEqDiff, Nat.reduceAdd, Nat.reduceLeDiff, Nat.reduceLT, reduceCtorEq, h1, h10, h7, hl7, h8, hl8]
        refine CallK_of (from_spec hcl hg8 (rest S 0).toNat 0 0 _ _ nx _ 400 (by omega) hF hS' (by omega) (by omega) (fun _ => Nat.zero_le _) (fun i j hij => absurd hij (by omega)) (hb rfl) (hI.mono (by omega)) (Nat.le_refl _)) ?_
        rintro r H4 n4 ⟨tl4, fuel4, hP, hR⟩
        rcases hR with ⟨rfl, hR1, hR2⟩ | ⟨rfl, hR⟩ | rfl
        · have hobj := hP.fnd.obj
          have hl4 := hP.shp.len
          rw [hl4] at hobj
          obtain ⟨H5, h5⟩ := thaw_tab hP.fnd hP.shp hI (Nat.le_refl nx) 1
          simp only [↓sd0, su0, su1, resOf, pack, eqCells, ↓reduceIte, Nat.reduceEqDiff, Nat.reduceAdd, Nat.reduceLeDiff, Nat.reduceLT, reduceCtorEq, dr0, Nat.reducePow, Nat.reduceDiv, Nat.reduceMod, Nat.reduceBEq, h1, h10, h7, hl7, h8, hl8, hobj, ne11, withinN, agg_flt, part_flt, cells_flt, storable_flt, within_flt, within_fltt, solid_flt, h5]
          exact ⟨tabAv_solid _ _, Or.inr ⟨tl4, rfl, hP.shp, hR1, hR2⟩⟩
        · simp only [↓sd0, su0, su1, resOf, pack, eqCells, ↓reduceIte, Nat.reduceEqDiff, Nat.reduceAdd, Nat.reduceLeDiff, Nat.reduceLT, reduceCtorEq, dr0, Nat.reducePow, Nat.reduceDiv, Nat.reduceMod, Nat.reduceBEq, h1, h10, h7, hl7, h8, hl8, ne21, withinN, agg_flt, part_flt, cells_flt, storable_flt, within_flt, within_fltt, solid_flt]
          simp only [thaw_solid, ↓sd0, su0, su1, resOf, pack, eqCells, ↓reduceIte, Nat.reduceEqDiff, Nat.reduceAdd, Nat.reduceLeDiff, Nat.reduceLT, reduceCtorEq, solid_flt]
          exact Or.inl ⟨2, Or.inl rfl, rfl⟩
        · simp only [↓sd0, su0, su1, resOf, pack, eqCells, ↓reduceIte, Nat.reduceEqDiff, Nat.reduceAdd, Nat.reduceLeDiff, Nat.reduceLT, reduceCtorEq, dr0, Nat.reducePow, Nat.reduceDiv, Nat.reduceMod, Nat.reduceBEq, h1, h10, h7, hl7, h8, hl8, ne31, withinN, agg_flt, part_flt, cells_flt, storable_flt, within_flt, within_fltt, solid_flt]
          simp only [thaw_solid, ↓sd0, su0, su1, resOf, pack, eqCells, ↓reduceIte, Nat.reduceEqDiff, Nat.reduceAdd, Nat.reduceLeDiff, Nat.reduceLT, reduceCtorEq, solid_flt]
          exact Or.inl ⟨3, Or.inr rfl, rfl⟩

end Go.Proofs.Ytmbdccekcfeomaa.Am
end
/- Tables: powers, values, claims that are true. -/
section
open Go
namespace Go.Proofs.Ytmbdccekcfeomaa.Am
set_option linter.unusedSimpArgs false
set_option linter.unusedVariables false
set_option maxRecDepth 20000

theorem tab_whole (s : Int) (tl : List (List Int)) : part 2 true (tabAv s tl) 0 = some (tabAv s tl) := part_whole rfl rfl
theorem tab_sz (s : Int) (tl : List (List Int)) : part 1 false (tabAv s tl) 0 = some (.int .i64 s) := by simp [tabAv, part, AV.cells, AV.isAgg]
theorem tab_tl (s : Int) (tl : List (List Int)) : part 1 false (tabAv s tl) 1 = some (.slice 1 (tl.map fun r => .slice 1 (rowI r))) := by simp [tabAv, part, AV.cells, AV.isAgg]
theorem tab_storable (s : Int) (tl : List (List Int)) : (tabAv s tl).storable = true := by simp [tabAv, storable_agg, one_int, one_slice, nols_cons, nols_nil, nol_int, nol_slice]
theorem tab_nol (s : Int) (tl : List (List Int)) : (tabAv s tl).nol = true := by simp [tabAv, nol_agg, nols_cons, nols_nil, nol_int, nol_slice]
theorem tab_cells (s : Int) (tl : List (List Int)) : (tabAv s tl).cells = [.int .i64 s, .slice 1 (tl.map fun r => .slice 1 (rowI r))] := rfl
theorem iaddr_slice {H : Nat → Option Obj} {sz i : Nat} {es : List AV} (hi : i < es.length) : iaddrV H sz (.slice sz es) (.int .i64 i) = some (.fptr es[i] 0) := by
  simp [iaddrV, hi]
theorem iaddr_row {H : Nat → Option Obj} {i : Nat} {r : List Int} (hi : i < r.length) : iaddrV H 1 (.slice 1 (rowI r)) (.int .i64 i) = some (.fptr (.int .i64 r[i]) 0) := by
  rw [iaddr_slice (by simpa [rowI] using hi)]; simp [rowI]
theorem iaddr_rows {H : Nat → Option Obj} {i : Nat} {tl : List (List Int)} (hi : i < tl.length) : iaddrV H 1 (.slice 1 (tl.map fun r => .slice 1 (rowI r))) (.int .i64 i) = some (.fptr (.slice 1 (rowI tl[i])) 0) := by
  rw [iaddr_slice (by simpa using hi)]; simp
theorem part_slice (n : Nat) (es : List AV) : part 1 false (.slice n es) 0 = some (.slice n es) := rfl

theorem power_spec {S v : Nat} (hS : S = 1 ∨ S = 2) (hv : v ≤ 2) : Gives tab 36 [.int .i64 S, .int .i64 v] (.int .i64 ((S ^ v : Nat) : Int)) := by
  refine gives tab_36 fun H nx => ?_
  unfold body36
  dsimp only [qm, qf, ql, qL, qs, qc, qk, qi, qn, qb, qB, qe, qx, qo, qg]
  simp only [start2]
  simp only [↓sd0, su0, su1, resOf, pack, eqCells, ↓reduceIte, Nat.reduceEqDiff, Nat.reduceAdd, Nat.reduceLeDiff, Nat.reduceLT, reduceCtorEq]
  refine W_count v (fun k e lo H' n => e 0 = .int .i64 S ∧ e 6 = .int .i64 v ∧ e 7 = .int .i64 k ∧ e 5 = .int .i64 ((S ^ k : Nat) : Int)) ?_ ?_ ?_
  · simp only [↓sd0, su0, su1, resOf, pack, eqCells, ↓reduceIte, Nat.reduceEqDiff, Nat.reduceAdd, Nat.reduceLeDiff, Nat.reduceLT, reduceCtorEq]; rfl
  · rintro k e lo H' n hk ⟨h0, h6, h7, h5⟩
    have hpb := pow_bound (s := (S : Int)) (by omega) (k + 1) (by omega)
    have hwk := wrap_succ hk (by omega)
    have hwm : IntKind.i64.wrap (((S ^ k : Nat) : Int) * S) = ((S ^ (k + 1) : Nat) : Int) := by
      rw [Int.natCast_pow, powS, Int.natCast_pow]; exact wrap64 (by omega) (by omega)
    simp only [↓sd0, su0, su1, resOf, pack, eqCells, ↓reduceIte, Nat.reduceEqDiff, Nat.reduceAdd, Nat.reduceLeDiff, Nat.reduceLT, reduceCtorEq, h0, h6, h7, h5, lt_cast hk, hwk, hwm]
  · rintro e lo H' n ⟨h0, h6, h7, h5⟩
    simp only [↓sd0, su0, su1, resOf, pack, eqCells, ↓reduceIte, Nat.reduceEqDiff, Nat.reduceAdd, Nat.reduceLeDiff, Nat.reduceLT, reduceCtorEq, h0, h6, h7, h5]

theorem tval_spec {H : Nat → Option Obj} {th v : Nat} {s : Int} {tl : List (List Int)} {xs : List Int} (hS : Shp s tl) (hf : Full s tl) (hth : H th = some (.arr 1 (rowI xs))) (hv : xs.length = v) (hv8 : v ≤ 8)
    (hx : ∀ x ∈ xs, 0 ≤ x ∧ x < s) (t : T) : t.wf v → t.size < 4294967296 → ∀ wl nx, C tab wl 87 [tabAv s tl, t.av, .lref th 0 v] H nx = some (.int .i64 (t.val s tl (env xs)), H, nx) := by
  have hs := hS.s12
  have hR : Rng s (env xs) := env_rng (by omega) hx
  induction t using T.ind' with
  | h t ih =>
    intro hw hsz wl nx
    have hss := t.size_eq
    have hl := T.length_le t.ks
    refine gives_at tab_87 ?_
    unfold body87
    dsimp only [qm, qf, ql, qL, qs, qc, qk, qi, qn, qb, qB, qe, qx, qo, qg]
    simp only [start3]
    rcases T.wf_iff hw with ⟨c1, c2, c3⟩ | ⟨c1, c2, c3, c4⟩
    · obtain ⟨i, hi⟩ : ∃ i : Nat, t.h = -((i : Int) + 1) := ⟨(-t.h - 1).toNat, by omega⟩
      have q : decide (t.h < 0) = true := by simp [c1]
      have hw : IntKind.i64.wrap (IntKind.i64.wrap (0 - t.h) - 1) = (i : Int) := by rw [wrap64 (n := 0 - t.h) (by omega) (by omega), wrap64 (by omega) (by omega)]; omega
      have hi2 : i < xs.length := by omega
      have hiv : i < v := by omega
      have hia := iaddr_lref (i := i) (n := v) hth (by omega)
      have hget : (rowI xs)[i]? = some (.int .i64 xs[i]) := by simp [rowI, hi2]
      rw [T.val_eq, if_pos c1]
      have e : env xs (-t.h - 1).toNat = xs[i] := by
        have : (-t.h - 1).toNat = i := by omega
        rw [this, env, List.getD_eq_getElem?_getD, List.getElem?_eq_getElem hi2]; rfl
      rw [e]
      simp only [↓sd0, su0, su1, resOf, pack, eqCells, ↓reduceIte, Nat.reduceEqDiff, Nat.reduceAdd, Nat.reduceLeDiff, Nat.reduceLT, reduceCtorEq, q, hw, hia, hth, hget, tab_storable, tabAv_solid, lt_cast hiv]
    · obtain ⟨i, hi⟩ : ∃ i : Nat, t.h = (i : Int) + 1 := ⟨(t.h - 1).toNat, by omega⟩
      have q : decide (t.h < 0) = false := by simp; omega
      have hkl : t.ks.length = i := by omega
      have hi3 : i < 3 := by omega
      have hlen := hS.len
      rw [T.val_eq, if_neg (by omega)]
      have hin : ∀ x ∈ t.ks.map (T.val s tl (env xs)), 0 ≤ x := fun x hx => by
        obtain ⟨k, _, rfl⟩ := List.mem_map.1 hx; exact (val_in hf hR k).1
      have hvr := vatI_pos (s := s) (by omega) hin 0 (by omega)
      rw [if_neg (by omega)]
      generalize hv0 : vatI s (t.ks.map (T.val s tl (env xs))) 0 = v0 at hvr
      simp only [↓sd0, su0, su1, resOf, pack, eqCells, ↓reduceIte, Nat.reduceEqDiff, Nat.reduceAdd, Nat.reduceLeDiff, Nat.reduceLT, reduceCtorEq, q, tab_storable, tabAv_solid]
      refine W_count t.ks.length (fun k e lo H' n => H' = H ∧ e 3 = .fptr (tabAv s tl) 0 ∧ e 2 = .lref th 0 v ∧ e 4 = .fptr t.av 0 ∧ e 27 = sl 2 t.nil (t.ks.map T.av) ∧ e 29 = .int .i64 k ∧ e 28 = .int .i64 t.ks.length ∧ ∃ a : Int, e 8 = .int .i64 a ∧ 0 ≤ a ∧ a + 1 ≤ s ^ k ∧ vatI s ((t.ks.map (T.val s tl (env xs))).drop k) a = v0) ?_ ?_ ?_
      · simp only [↓sd0, su0, su1, resOf, pack, eqCells, ↓reduceIte, Nat.reduceEqDiff, Nat.reduceAdd, Nat.reduceLeDiff, Nat.reduceLT, reduceCtorEq]; exact ⟨0, rfl, by omega, by simp, hv0⟩
      · rintro k e lo H' n hk ⟨rfl, h3, h2, h4, h27, h29, h28, a, h8, ha0, ha1, hq⟩
        have hz := T.size_kid hk
        have ih' := ih t.ks[k] (List.getElem_mem hk) (c4 _ (List.getElem_mem hk)) (by omega)
        rw [vatI_drop (by simpa using hk), List.getElem_map] at hq
        have hvk := val_in hf hR t.ks[k]
        generalize hxv : T.val s tl (env xs) t.ks[k] = x at hq ih' hvk
        have hpb := pow_bound hs k (by omega)
        have hwk := wrap_succ hk (by omega)
        rw [if_neg (by omega)] at hq
        have hsb := step_bound hs ha0 ha1 (x := x) (by omega) hvk.2
        have hpb2 := pow_bound hs (k + 1) (by omega)
        have e1 : 0 ≤ a * s ∧ a * s ≤ 8 := by rcases hs with rfl | rfl <;> omega
        have hw1 : IntKind.i64.wrap (a * s) = a * s := wrap64 (by omega) (by omega)
        have hw2 : IntKind.i64.wrap (a * s + x) = a * s + x := wrap64 (by omega) (by omega)
        simp only [↓sd0, su0, su1, resOf, pack, eqCells, ↓reduceIte, Nat.reduceEqDiff, Nat.reduceAdd, Nat.reduceLeDiff, Nat.reduceLT, reduceCtorEq, dr0, Nat.reducePow, Nat.reduceDiv, Nat.reduceMod, Nat.reduceBEq, h3, h2, h4, h27, h29, h28, h8, iaddr_map hk, lt_cast hk, callK_eq (ih' _ _), hw1, hw2, hwk, tab_whole, tab_sz, tab_nol]
        exact ⟨_, rfl, hsb.1, hsb.2, hq⟩
      · rintro e lo H' n ⟨rfl, h3, h2, h4, h27, h29, h28, a, h8, ha0, ha1, hq⟩
        rw [List.drop_eq_nil_of_le (by simp)] at hq
        simp only [vatI] at hq
        subst hq
        have hw : IntKind.i64.wrap (t.h - 1) = (i : Int) := by rw [wrap64 (by omega) (by omega)]; omega
        have hil : i < tl.length := by omega
        have hrl := hS.row i hi3
        rw [hkl] at ha1
        have eD : tl.getD i [] = tl[i] := by rw [List.getD_eq_getElem?_getD, List.getElem?_eq_getElem hil]; rfl
        obtain ⟨j, rfl⟩ : ∃ j : Nat, a = (j : Int) := ⟨a.toNat, by omega⟩
        have hj : j < tl[i].length := by rw [← eD]; omega
        have hti : (t.h - 1).toNat = i := by omega
        have hg : tl[i].getD j 0 = tl[i][j] := by rw [List.getD_eq_getElem?_getD, List.getElem?_eq_getElem hj]; rfl
        simp only [↓sd0, su0, su1, resOf, pack, eqCells, ↓reduceIte, Nat.reduceEqDiff, Nat.reduceAdd, Nat.reduceLeDiff, Nat.reduceLT, reduceCtorEq, dr0, Nat.reducePow, Nat.reduceDiv, Nat.reduceMod, Nat.reduceBEq, h3, h2, h4, h27, h29, h28, h8, hw, tab_tl, iaddr_rows hil, iaddr_row hj, part_slice, hti, Int.toNat_natCast, eD, hg]

def Cl.tru (s : Int) (tl : List (List Int)) (ρ : Nat → Int) (c : Cl) : Bool := c.fs.any fun f => (f.l.val s tl ρ == f.r.val s tl ρ) != f.n
theorem ho_tru {s : Int} {tl : List (List Int)} {ρ : Nat → Int} {c : Cl} (h : c.ho s tl ρ) : c.tru s tl ρ = true := by
  obtain ⟨f, hf, hh⟩ := h
  refine List.any_eq_true.2 ⟨f, hf, ?_⟩
  unfold Fa.ho at hh
  cases hn : f.n <;> rw [hn] at hh <;> simp_all
theorem true_spec {H : Nat → Option Obj} {th v : Nat} {s : Int} {tl : List (List Int)} {xs : List Int} (hS : Shp s tl) (hf : Full s tl) (hth : H th = some (.arr 1 (rowI xs))) (hv : xs.length = v) (hv8 : v ≤ 8)
    (hx : ∀ x ∈ xs, 0 ≤ x ∧ x < s) (c : Cl) (hc : c.wf v) (wl nx : Nat) : C tab wl 57 [tabAv s tl, c.av, .lref th 0 v] H nx = some (.bool (c.tru s tl (env xs)), H, nx) := by
  refine gives_at tab_57 ?_
  unfold body57
  dsimp only [qm, qf, ql, qL, qs, qc, qk, qi, qn, qb, qB, qe, qx, qo, qg]
  simp only [start3]
  simp only [↓sd0, su0, su1, resOf, pack, eqCells, ↓reduceIte, Nat.reduceEqDiff, Nat.reduceAdd, Nat.reduceLeDiff, Nat.reduceLT, reduceCtorEq, tab_storable, tabAv_solid]
  refine W_count c.fs.length (fun k e lo H' n => H' = H ∧ e 3 = .fptr (tabAv s tl) 0 ∧ e 2 = .lref th 0 v ∧ e 10 = sl 5 c.nil (c.fs.map Fa.av) ∧ e 12 = .int .i64 k ∧ e 11 = .int .i64 c.fs.length ∧ c.tru s tl (env xs) = (c.fs.drop k).any fun f => (f.l.val s tl (env xs) == f.r.val s tl (env xs)) != f.n) ?_ ?_ ?_
  · simp only [↓sd0, su0, su1, resOf, pack, eqCells, ↓reduceIte, Nat.reduceEqDiff, Nat.reduceAdd, Nat.reduceLeDiff, Nat.reduceLT, reduceCtorEq]; rfl
  · rintro k e lo H' n hk ⟨rfl, h3, h2, h10, h12, h11, hq⟩
    rw [List.drop_eq_getElem_cons hk, List.any_cons] at hq
    have hcf := hc.2 c.fs[k] (List.getElem_mem hk)
    have h1 := tval_spec hS hf hth hv hv8 hx c.fs[k].l hcf.1.1 hcf.1.2
    have h4 := tval_spec hS hf hth hv hv8 hx c.fs[k].r hcf.2.1 hcf.2.2
    have hwk := wrap_succ hk (by have := hc.1; omega)
    generalize c.fs[k].l.val s tl (env xs) = a at h1 hq
    generalize c.fs[k].r.val s tl (env xs) = b at h4 hq
    cases q3 : (a == b) <;> cases q4 : c.fs[k].n <;> rw [q3, q4] at hq <;>
      simp only [Bool.or_true, Bool.or_false, Bool.true_or, Bool.false_or, bne_self_eq_false, Bool.bne_true, Bool.bne_false, Bool.not_false, Bool.not_true] at hq <;>
      simp only [↓sd0, su0, su1, resOf, pack, eqCells, ↓reduceIte, Nat.reduceEqDiff, Nat.reduceAdd, Nat.reduceLeDiff, Nat.reduceLT, reduceCtorEq, dr0, Nat.reducePow, Nat.reduceDiv, Nat.reduceMod, Nat.reduceBEq, h3, h2, h10, h12, h11, iaddr_map hk, lt_cast hk, callK_eq (h1 _ _), callK_eq (h4 _ _), q3, q4, hwk, hq, tab_whole, tab_nol]
    all_goals first | done | simp
  · rintro e lo H' n ⟨rfl, h3, h2, h10, h12, h11, hq⟩
    rw [List.drop_length] at hq
    simp only [↓sd0, su0, su1, resOf, pack, eqCells, ↓reduceIte, Nat.reduceEqDiff, Nat.reduceAdd, Nat.reduceLeDiff, Nat.reduceLT, reduceCtorEq, h3, h2, h10, h12, h11, hq]
    simp

end Go.Proofs.Ytmbdccekcfeomaa.Am
end
