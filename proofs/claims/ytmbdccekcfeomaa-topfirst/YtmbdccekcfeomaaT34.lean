/- Tables: claims that hold of all things, tables that are in order. -/
import Derived.Test.YtmbdccekcfeomaaT33
import Derived.Test.YtmbdccekcfeomaaT31
section
open Go
namespace Go.Proofs.Ytmbdccekcfeomaa.Am
set_option linter.unusedSimpArgs false
set_option linter.unusedVariables false
set_option maxRecDepth 20000

theorem zset {m : Nat} {suf : List Int} (y : Int) : (List.replicate (m + 1) 0 ++ suf).set m y = List.replicate m 0 ++ y :: suf := by
  rw [List.replicate_succ', List.append_assoc, List.set_append_right _ _ (by simp), List.length_replicate, Nat.sub_self]; simp
theorem rowI_length (r : List Int) : (rowI r).length = r.length := by simp [rowI]
theorem zget {m : Nat} {suf : List Int} : (List.replicate (m + 1) (0 : Int) ++ suf)[m]? = some 0 := by
  rw [List.replicate_succ', List.append_assoc, List.getElem?_append_right (by simp), List.length_replicate, Nat.sub_self]; simp

theorem all_spec {S : Nat} {s : Int} {tl : List (List Int)} (hSs : s = (S : Int)) (hS : Shp s tl) (hf : Full s tl) (c : Cl) (hc1 : c.good) (hc2 : c.most ≤ 2) (hc3 : c.wf c.most) (hev : c.every s tl) : Gives tab 37 [tabAv s tl, c.av] (.bool true) := by
  refine gives tab_37 fun H nx => ?_
  unfold body37
  dsimp only [qm, qf, ql, qL, qs, qc, qk, qi, qn, qb, qB, qe, qx, qo, qg]
  simp only [start2]
  have hS12 : S = 1 ∨ S = 2 := by have := hS.s12; omega
  have hS1 : 1 ≤ S := by omega
  have hmo := cmost_spec c (by have := hc1.1; omega) (fun f hf => by have := hc1.2 f hf; exact ⟨⟨by have := this.1.1; omega, this.1.2⟩, ⟨by have := this.2.1; omega, this.2.2⟩⟩)
  generalize hv : c.most = v at hc2 hc3 hmo
  have hpw := power_spec hS12 hc2
  have hpb := pow_bound (s := (S : Int)) (by omega) v (by omega)
  rw [← Int.natCast_pow] at hpb
  generalize hN : S ^ v = N at hpw hpb
  rw [← hSs] at hpw
  have hmk := mkV_nat (bytes := 8) (n := v) (by omega)
  simp only [↓sd0, su0, su1, resOf, pack, eqCells, ↓reduceIte, Nat.reduceEqDiff, Nat.reduceAdd, Nat.reduceLeDiff, Nat.reduceLT, reduceCtorEq, tab_storable, tabAv_solid, hmo.callK, tab_sz, hpw.callK]
  refine W_count N (fun k e lo H' n => e 2 = .fptr (tabAv s tl) 0 ∧ e 3 = .fptr c.av 0 ∧ e 5 = .int .i64 v ∧ e 14 = .int .i64 N ∧ e 15 = .int .i64 k ∧ nx ≤ n) ?_ ?_ ?_
  · simp only [↓sd0, su0, su1, resOf, pack, eqCells, ↓reduceIte, Nat.reduceEqDiff, Nat.reduceAdd, Nat.reduceLeDiff, Nat.reduceLT, reduceCtorEq]
  · rintro k e lo H' n hk ⟨h2, h3, h5, h14, h15, hn⟩
    have hwk := wrap_succ hk (by omega)
    have hwv : IntKind.i64.wrap ((v : Int) - 1) = (v : Int) - 1 := wrap64 (by omega) (by omega)
    simp only [↓sd0, su0, su1, resOf, pack, eqCells, ↓reduceIte, Nat.reduceEqDiff, Nat.reduceAdd, Nat.reduceLeDiff, Nat.reduceLT, reduceCtorEq, h2, h3, h5, h14, h15, lt_cast hk, hmk, hwv]
    refine W_down v (fun m e lo H1 n1 => e 2 = .fptr (tabAv s tl) 0 ∧ e 3 = .fptr c.av 0 ∧ e 5 = .int .i64 v ∧ e 14 = .int .i64 N ∧ e 15 = .int .i64 k ∧ nx ≤ n1 ∧ m ≤ v ∧ (∃ x : Int, e 8 = .int .i64 x ∧ x = (m : Int) - 1) ∧ ∃ th cur suf, e 7 = .lref th 0 v ∧ nx ≤ th ∧ e 6 = .int .i64 ((cur : Nat) : Int) ∧ cur ≤ k ∧ H1 th = some (.arr 1 (rowI (List.replicate m 0 ++ suf))) ∧ dg S m cur ++ suf = dg S v k) ?_ ?_
    · simp only [↓sd0, su0, su1, resOf, pack, eqCells, ↓reduceIte, Nat.reduceEqDiff, Nat.reduceAdd, Nat.reduceLeDiff, Nat.reduceLT, reduceCtorEq, h2, h3, h5, h14, h15]
      exact ⟨by omega, ⟨_, rfl, rfl⟩, n + 4, k, [], rfl, by omega, rfl, Nat.le_refl _, by rw [if_pos rfl, rowI_zeros, List.append_nil], by simp⟩
    · clear h2 h3 h5 h14 h15 hn
      rintro m e lo H1 n1 ⟨h2, h3, h5, h14, h15, hn, hmv, ⟨x, h8, hx⟩, th, cur, suf, h7, hth1, h6, hck, hth, hq⟩
      cases m with
      | zero =>
        have q1 : decide (x ≥ 0) = false := decide_eq_false (by omega)
        simp only [dg, List.nil_append, List.replicate_zero] at hq hth
        subst hq
        have htr := fun wl nx => true_spec hS hf hth (dg_length v k) (by omega) (fun x hx => by rw [hSs]; exact dg_range hS1 v k x hx) c hc3 wl nx
        rw [ho_tru (hev (env (dg S v k)) (env_rng (by omega) fun x hx => by rw [hSs]; exact dg_range hS1 v k x hx))] at htr
        simp only [↓sd0, su0, su1, resOf, pack, eqCells, ↓reduceIte, Nat.reduceEqDiff, Nat.reduceAdd, Nat.reduceLeDiff, Nat.reduceLT, reduceCtorEq, h2, h3, h5, h14, h15, h8, h7, h6, q1, tab_whole, tab_nol, callK_eq (htr _ _), hwk]
        omega
      | succ m =>
        obtain rfl : x = (m : Int) := by omega
        have q1 : decide ((m : Int) ≥ 0) = true := decide_eq_true (by omega)
        have hia := iaddr_lref (i := m) (n := v) hth (by omega)
        have hget := rowI_get (zget (m := m) (suf := suf))
        have hz : (s = 0) = False := by simp; omega
        have hrem : (cur : Int).tmod s = ((cur % S : Nat) : Int) := by rw [hSs]; exact (Int.ofNat_tmod cur S).symm
        have hquo : IntKind.i64.wrap ((cur : Int).tdiv s) = ((cur / S : Nat) : Int) := by
          rw [hSs, ← Int.ofNat_tdiv]
          have := Nat.div_le_self cur S
          generalize cur / S = d at this
          exact wrap64 (by omega) (by omega)
        have hwm : IntKind.i64.wrap ((m : Int) - 1) = (m : Int) - 1 := wrap64 (by omega) (by omega)
        simp only [↓sd0, su0, su1, resOf, pack, eqCells, ↓reduceIte, Nat.reduceEqDiff, Nat.reduceAdd, Nat.reduceLeDiff, Nat.reduceLT, reduceCtorEq, h2, h3, h5, h14, h15, h8, h7, h6, q1, tab_sz, hia, hth, hget, hth1, hz, hrem, hquo, hwm, rowI_set, binV_rem, binV_quo]
        exact ⟨m, by omega, by omega, by omega, ⟨_, rfl, rfl⟩, th, cur / S, ((cur % S : Nat) : Int) :: suf, rfl, hth1, rfl, Nat.le_trans (Nat.div_le_self _ _) hck, by rw [if_pos rfl, zset], by rw [← hq, dg, List.append_assoc]; rfl⟩
  · rintro e lo H' n ⟨h2, h3, h5, h14, h15, hn⟩
    simp only [↓sd0, su0, su1, resOf, pack, eqCells, ↓reduceIte, Nat.reduceEqDiff, Nat.reduceAdd, Nat.reduceLeDiff, Nat.reduceLT, reduceCtorEq, h2, h3, h5, h14, h15]

theorem tabcheck_spec {S : Nat} {s : Int} {tl : List (List Int)} (hSs : s = (S : Int)) (hS : Shp s tl) (hf : Full s tl) (l : Lo) (hl : l.fin) (har : l.ar = [0, 1, 2]) (h0 : l.chk.1 = 0) : Gives tab 35 [l.av, tabAv s tl] (flt 0 0) := by
  refine gives tab_35 fun H nx => ?_
  unfold body35
  dsimp only [qm, qf, ql, qL, qs, qc, qk, qi, qn, qb, qB, qe, qx, qo, qg]
  simp only [start2]
  have hck := check_spec l hl
  rw [Lo.chk_zero h0] at hck
  have hs := hS.s12
  have hS12 : S = 1 ∨ S = 2 := by omega
  have hlen := hS.len
  have hin := in_17 s 1 4
  rw [show decide ((1 : Int) ≤ s ∧ s ≤ 4) = true from decide_eq_true (by omega)] at hin
  have hal : l.ar.length = 3 := by rw [har]; rfl
  have hak : ∀ k (h : k < l.ar.length), l.ar[k] = (k : Int) := fun k h => by
    have : k = 0 ∨ k = 1 ∨ k = 2 := by omega
    rcases this with rfl | rfl | rfl <;> simp [har]
  have q1 : ((tl.length : Int) != (l.ar.length : Int)) = false := by simp [hal, hlen]
  simp only [↓sd0, su0, su1, resOf, pack, eqCells, ↓reduceIte, Nat.reduceEqDiff, Nat.reduceAdd, Nat.reduceLeDiff, Nat.reduceLT, reduceCtorEq, tab_storable, tabAv_solid, hck.callK, agg_flt, part_flt, cells_flt, storable_flt, within_flt, within_fltt, solid_flt, eqsF, eqsF0, tab_sz, hin.callK, tab_tl, lenV_slice, List.length_map, q1]
  refine W_count tl.length (fun k e lo H' n => e 2 = .fptr l.av 0 ∧ e 3 = .fptr (tabAv s tl) 0 ∧ (∃ m4, e 4 = .loc 4 m4 0 ∧ lo 4 = some (m4, flt 0 0)) ∧ e 30 = .slice 1 (tl.map fun r => .slice 1 (rowI r)) ∧ e 31 = .int .i64 tl.length ∧ e 32 = .int .i64 k) ?_ ?_ ?_
  · simp only [↓sd0, su0, su1, resOf, pack, eqCells, ↓reduceIte, Nat.reduceEqDiff, Nat.reduceAdd, Nat.reduceLeDiff, Nat.reduceLT, reduceCtorEq]
    exact ⟨_, rfl, rfl⟩
  · rintro k e lo H' n hk ⟨h2, h3, ⟨m4, h4, hl4⟩, h30, h31, h32⟩
    have hwk := wrap_succ hk (by omega)
    have hk2 : k < l.ar.length := by omega
    have hpw := power_spec hS12 (show k ≤ 2 by omega)
    rw [← hSs] at hpw
    have hrl := hS.row k (by omega)
    have eD : tl.getD k [] = tl[k] := by rw [List.getD_eq_getElem?_getD, List.getElem?_eq_getElem hk]; rfl
    rw [eD] at hrl
    have hpb := pow_bound hs k (by omega)
    have q2 : ((tl[k].length : Int) != ((S ^ k : Nat) : Int)) = false := by
      rw [Int.natCast_pow, ← hSs, ← hrl]; simp
    have hrow := hf.2 tl[k] (List.getElem_mem hk)
    simp only [↓sd0, su0, su1, resOf, pack, eqCells, ↓reduceIte, Nat.reduceEqDiff, Nat.reduceAdd, Nat.reduceLeDiff, Nat.reduceLT, reduceCtorEq, dr0, Nat.reducePow, Nat.reduceDiv, Nat.reduceMod, Nat.reduceBEq, h2, h3, h4, hl4, h30, h31, h32, lt_cast hk, iaddr_rows hk, part_slice, lenV_slice, tab_sz, iaddr_ints hk2, hak k hk2, hpw.callK, rowI_length, q2]
    refine W_count tl[k].length (fun j e lo H' n => e 2 = .fptr l.av 0 ∧ e 3 = .fptr (tabAv s tl) 0 ∧ (e 4 = .loc 4 m4 0 ∧ lo 4 = some (m4, flt 0 0)) ∧ e 30 = .slice 1 (tl.map fun r => .slice 1 (rowI r)) ∧ e 31 = .int .i64 tl.length ∧ e 32 = .int .i64 k ∧ e 50 = .slice 1 (rowI tl[k]) ∧ e 51 = .int .i64 tl[k].length ∧ e 52 = .int .i64 j) ?_ ?_ ?_
    · simp only [↓sd0, su0, su1, resOf, pack, eqCells, ↓reduceIte, Nat.reduceEqDiff, Nat.reduceAdd, Nat.reduceLeDiff, Nat.reduceLT, reduceCtorEq, h2, h3, h4, hl4, h30, h31, h32, rowI_length]
    · clear h2 h3 h4 hl4 h30 h31 h32
      rintro j e lo H' n hj ⟨h2, h3, ⟨h4, hl4⟩, h30, h31, h32, h50, h51, h52⟩
      have hwj := wrap_succ hj (by omega)
      have hc := hrow tl[k][j] (List.getElem_mem hj)
      have hws : IntKind.i64.wrap (s - 1) = s - 1 := wrap64 (by omega) (by omega)
      have hi2 := in_17 tl[k][j] 0 (s - 1)
      rw [show decide (0 ≤ tl[k][j] ∧ tl[k][j] ≤ s - 1) = true from decide_eq_true (by omega)] at hi2
      simp only [↓sd0, su0, su1, resOf, pack, eqCells, ↓reduceIte, Nat.reduceEqDiff, Nat.reduceAdd, Nat.reduceLeDiff, Nat.reduceLT, reduceCtorEq, h2, h3, h4, hl4, h30, h31, h32, h50, h51, h52, lt_cast hj, hwj, iaddr_row hj, tab_sz, hws, hi2.callK]
    · clear h2 h3 h4 hl4 h30 h31 h32
      rintro e lo H' n ⟨h2, h3, ⟨h4, hl4⟩, h30, h31, h32, h50, h51, h52⟩
      simp only [↓sd0, su0, su1, resOf, pack, eqCells, ↓reduceIte, Nat.reduceEqDiff, Nat.reduceAdd, Nat.reduceLeDiff, Nat.reduceLT, reduceCtorEq, h2, h3, h4, hl4, h30, h31, h32, h50, h51, h52, hwk]
      exact ⟨_, rfl, rfl⟩
  · rintro e lo H' n ⟨h2, h3, ⟨m4, h4, hl4⟩, h30, h31, h32⟩
    simp only [↓sd0, su0, su1, resOf, pack, eqCells, ↓reduceIte, Nat.reduceEqDiff, Nat.reduceAdd, Nat.reduceLeDiff, Nat.reduceLT, reduceCtorEq, h2, h3, h4, hl4, h30, h31, h32, agg_flt, part_flt, cells_flt, storable_flt, within_flt, within_fltt, solid_flt]

theorem tabholds_spec {S : Nat} {s : Int} {tl : List (List Int)} (hSs : s = (S : Int)) (hS : Shp s tl) (hf : Full s tl) (l : Lo) (hl : l.fin) (har : l.ar = [0, 1, 2]) (h0 : l.chk.1 = 0) (hg : ∀ c ∈ l.cs, (c.good ∧ c.most ≤ 2 ∧ c.wf c.most) ∧ c.every s tl) :
    Gives tab 15 [l.av, tabAv s tl] (.tup [sl 1 true (List.replicate l.cs.length (.bool true)), flt 0 0]) := by
  refine gives_thaw tab_15 fun H nx => ?_
  unfold body15
  dsimp only [qm, qf, ql, qL, qs, qc, qk, qi, qn, qb, qB, qe, qx, qo, qg]
  simp only [start2]
  have hck := tabcheck_spec hSs hS hf l hl har h0
  have hcl := hl.2.1
  have hS12 : S = 1 ∨ S = 2 := by have := hS.s12; omega
  simp only [↓sd0, su0, su1, resOf, pack, eqCells, ↓reduceIte, Nat.reduceEqDiff, Nat.reduceAdd, Nat.reduceLeDiff, Nat.reduceLT, reduceCtorEq, tab_storable, tabAv_solid, tab_whole, tab_nol, hck.callK, agg_flt, part_flt, cells_flt, storable_flt, within_flt, within_fltt, solid_flt, eqsF, eqsF0]
  refine W_count l.cs.length (fun k e lo H' n => e 2 = .fptr l.av 0 ∧ e 3 = .fptr (tabAv s tl) 0 ∧ (∃ m5, e 5 = .loc 5 m5 0 ∧ lo 5 = some (m5, flt 0 0)) ∧ e 18 = sl 1 l.cnil (l.cs.map Cl.el) ∧ e 19 = .int .i64 l.cs.length ∧ e 20 = .int .i64 k ∧ nx ≤ n ∧ ∃ id, e 7 = lv id k ∧ Own H' nx n 1 id (List.replicate k (.bool true))) ?_ ?_ ?_
  · simp only [↓sd0, su0, su1, resOf, pack, eqCells, ↓reduceIte, Nat.reduceEqDiff, Nat.reduceAdd, Nat.reduceLeDiff, Nat.reduceLT, reduceCtorEq]
    exact ⟨⟨_, rfl, rfl⟩, 0, rfl, Own.nil⟩
  · rintro k e lo H' n hk ⟨h2, h3, ⟨m5, h5, hl5⟩, h18, h19, h20, hn, id, h7, ho⟩
    obtain ⟨⟨hc1, hc2, hc3⟩, hev⟩ := hg l.cs[k] (List.getElem_mem hk)
    have hwk := wrap_succ hk (by omega)
    have hmo := cmost_spec l.cs[k] (by have := hc1.1; omega) (fun f hf => by have := hc1.2 f hf; exact ⟨⟨by have := this.1.1; omega, this.1.2⟩, ⟨by have := this.2.1; omega, this.2.2⟩⟩)
    have hall := all_spec hSs hS hf l.cs[k] hc1 hc2 hc3 hev
    have hpw := power_spec hS12 hc2
    rw [← hSs] at hpw
    have hpb := pow_bound (s := (S : Int)) (by omega) l.cs[k].most hc2
    rw [← Int.natCast_pow] at hpb
    generalize hN : S ^ l.cs[k].most = N at hpw hpb
    have q : decide ((N : Int) > 4096) = false := decide_eq_false (by omega)
    have hap := append_to (wl := nx) (bytes := 1) (.bool true) ho (n := k) (by simp) (Nat.le_refl _) (by omega)
    simp only [↓sd0, su0, su1, resOf, pack, eqCells, ↓reduceIte, Nat.reduceEqDiff, Nat.reduceAdd, Nat.reduceLeDiff, Nat.reduceLT, reduceCtorEq, dr0, Nat.reducePow, Nat.reduceDiv, Nat.reduceMod, Nat.reduceBEq, h2, h3, h5, hl5, h18, h19, h20, h7, iaddr_map hk, lt_cast hk, Cl.part_el, hmo.callK, tab_sz, hpw.callK, q, tab_whole, tab_nol, hall.callK, hap, hwk]
    exact ⟨⟨_, rfl, rfl⟩, by omega, _, rfl, by rw [List.replicate_succ']; exact (Own.append (by omega)).mono (by omega)⟩
  · rintro e lo H' n ⟨h2, h3, ⟨m5, h5, hl5⟩, h18, h19, h20, hn, id, h7, ho⟩
    obtain ⟨H'', hth⟩ := thaw_slice2 (w := flt 0 0) (solid_flt 0 0) ho (n := l.cs.length) (by simp) (Nat.le_refl _) (by rw [show (List.replicate l.cs.length (AV.bool true)) = (List.replicate l.cs.length ()).map (fun _ => .bool true) by simp]; exact solids_map (fun _ => solid_bool _) _)
    simp only [↓sd0, su0, su1, resOf, pack, eqCells, ↓reduceIte, Nat.reduceEqDiff, Nat.reduceAdd, Nat.reduceLeDiff, Nat.reduceLT, reduceCtorEq, h2, h3, h5, hl5, h18, h19, h20, h7, agg_flt, part_flt, cells_flt, storable_flt, within_flt, within_fltt, hth, solid_flt]

end Go.Proofs.Ytmbdccekcfeomaa.Am
end
/- Lores that are made of raw numbers. -/
section
open Go
namespace Go.Proofs.Ytmbdccekcfeomaa.Am
set_option linter.unusedSimpArgs false
set_option linter.unusedVariables false
set_option maxRecDepth 20000

def pk (a n : Int) : Int := if a.tmod n < 0 then a.tmod n + n else a.tmod n
theorem pk_in (a : Int) {n : Int} (h : 0 < n) : 0 ≤ pk a n ∧ pk a n < n := by
  have h1 := Int.tmod_lt_of_pos a h
  have h2 : -n < a.tmod n := Int.lt_tmod_of_pos a h
  unfold pk
  split <;> omega
theorem picked_spec (a : Int) {n : Int} (h : 0 < n) (h2 : n < 1000000) : Gives tab 13 [.int .i64 a, .int .i64 n] (.int .i64 (pk a n)) := by
  refine gives tab_13 fun H nx => ?_
  unfold body13
  dsimp only [qm, qf, ql, qL, qs, qc, qk, qi, qn, qb, qB, qe, qx, qo, qg]
  simp only [start2]
  have hz : (n = 0) = False := by simp; omega
  have h1 := Int.tmod_lt_of_pos a h
  have h3 : -n < a.tmod n := Int.lt_tmod_of_pos a h
  unfold pk
  by_cases c : a.tmod n < 0
  · rw [if_pos c]
    have q : decide (a.tmod n < 0) = true := decide_eq_true c
    have hw : IntKind.i64.wrap (a.tmod n + n) = a.tmod n + n := wrap64 (by omega) (by omega)
    simp only [↓sd0, su0, su1, resOf, pack, eqCells, ↓reduceIte, Nat.reduceEqDiff, Nat.reduceAdd, Nat.reduceLeDiff, Nat.reduceLT, reduceCtorEq, binV_rem, hz, q, hw]
  · rw [if_neg c]
    have q : decide (a.tmod n < 0) = false := decide_eq_false c
    simp only [↓sd0, su0, su1, resOf, pack, eqCells, ↓reduceIte, Nat.reduceEqDiff, Nat.reduceAdd, Nat.reduceLeDiff, Nat.reduceLT, reduceCtorEq, binV_rem, hz, q]

def leaf1 : T := .mk 1 true []
theorem leaf1_wf : leaf1.wf 2 := .node 1 true [] (by omega) (by omega) rfl (by simp)
theorem leaf1_av : AV.agg [.int .i64 1, .nilSlice] = leaf1.av := var_av 1
theorem one_kid (t : T) : AV.agg [.int .i64 2, .slice 2 [t.av]] = (T.mk 2 false [t]).av := by rw [T.av_eq (T.mk 2 false [t])]; rfl
theorem two_kids (t u : T) : AV.agg [.int .i64 3, .slice 2 [t.av, u.av]] = (T.mk 3 false [t, u]).av := by rw [T.av_eq (T.mk 3 false [t, u])]; rfl
theorem chop_2T (t u : T) : chop 2 2 [.int .i64 t.h, sl 2 t.nil (t.ks.map T.av), .int .i64 u.h, sl 2 u.nil (u.ks.map T.av)] = [t.av, u.av] := by rw [T.av_eq, T.av_eq]; rfl
theorem gt20 : decide ((2 : Int) > 0) = true := by decide
theorem treeof_spec : ∀ (d : Nat), d ≤ 2 → ∀ (l : List Int) (b : Bool) (wl nx : Nat) (H : Nat → Option Obj), Call tab wl 31 [ints b l, .int .i64 d, .int .i64 2] H nx fun r H' nx' => (∃ t b' l', r = .tup [T.av t, ints b' l'] ∧ t.wf 2 ∧ t.size < 2 ^ (d + 1) ∧ l'.length ≤ l.length) ∧ H' = H ∧ nx' = nx := by
  intro d
  induction d using Nat.strongRecOn with
  | _ d ih =>
    intro hd l b wl nx H
    refine call_solid tab_31 ?_
    unfold body31
    dsimp only [qm, qf, ql, qL, qs, qc, qk, qi, qn, qb, qB, qe, qx, qo, qg]
    simp only [start3]
    have h2d : 2 ≤ 2 ^ (d + 1) := by rw [Nat.pow_succ]; have := Nat.one_le_two_pow (n := d); omega
    cases l with
    | nil =>
      have q : (((([] : List Int).length : Nat) : Int) == 0) = true := rfl
      simp only [↓sd0, su0, su1, resOf, pack, eqCells, ↓reduceIte, Nat.reduceEqDiff, Nat.reduceAdd, Nat.reduceLeDiff, Nat.reduceLT, reduceCtorEq, lenV_ints, q]
      exact ⟨leaf1, b, [], by rw [leaf1_av], leaf1_wf, by show 1 < _; omega, Nat.le_refl _⟩
    | cons x l =>
      have q : (((l.length + 1 : Nat) : Int) == 0) = false := by simp; omega
      have hia : ∀ H, iaddrV H 1 (ints b (x :: l)) (.int .i64 0) = some (.fptr (.int .i64 x) 0) := fun H => iaddr_ints (i := 0) (by simp)
      have hpk := picked_spec x (n := 5) (by omega) (by omega)
      have hpi := pk_in x (n := 5) (by omega)
      generalize pk x 5 = n at hpk hpi
      cases qa : (n == 0)
      · cases qb : ((d : Int) == 0)
        · cases qc : (n == 1)
          · have hn0 : n ≠ 0 := by simpa using qa
            have hn1 : n ≠ 1 := by simpa using qc
            have hd0 : d ≠ 0 := by intro h; subst h; exact absurd qb (by decide)
            obtain ⟨d', rfl⟩ : ∃ d', d = d' + 1 := ⟨d - 1, by omega⟩
            have hwd : IntKind.i64.wrap (((d' + 1 : Nat) : Int) - 1) = (d' : Int) := by rw [wrap64 (by omega) (by omega)]; omega
            have hp : 2 ^ (d' + 1 + 1) = 2 * 2 ^ (d' + 1) := by rw [Nat.pow_succ, Nat.mul_comm]
            cases qd : decide (n < 4)
            · simp only [↓sd0, su0, su1, resOf, pack, eqCells, ↓reduceIte, Nat.reduceEqDiff, Nat.reduceAdd, Nat.reduceLeDiff, Nat.reduceLT, reduceCtorEq, lenV_ints, q, hia, hpk.callK, sliceV_tail, natV_one, qa, qb, qc, qd, hwd]
              refine CallK_of (ih d' (by omega) (by omega) l false _ _ _) ?_
              rintro r H1 n1 ⟨⟨t, b1, l1, rfl, ht1, ht2, ht3⟩, rfl, rfl⟩
              simp only [↓sd0, su0, su1, resOf, pack, eqCells, ↓reduceIte, Nat.reduceEqDiff, Nat.reduceAdd, Nat.reduceLeDiff, Nat.reduceLT, reduceCtorEq, qd, hwd]
              refine CallK_of (ih d' (by omega) (by omega) l1 b1 _ _ _) ?_
              rintro r H1 n1 ⟨⟨u, b2, l2, rfl, hu1, hu2, hu3⟩, rfl, rfl⟩
              simp only [↓sd0, su0, su1, resOf, pack, eqCells, ↓reduceIte, Nat.reduceEqDiff, Nat.reduceAdd, Nat.reduceLeDiff, Nat.reduceLT, reduceCtorEq]
              exact ⟨.mk 3 false [t, u], b2, l2, by rw [chop_2T, two_kids], .node 3 false [t, u] (by omega) (by omega) rfl (by intro k hk; simp at hk; rcases hk with rfl | rfl; exact ht1; exact hu1), by rw [T.size_mk, T.sizes, T.sizes, T.sizes, hp]; omega, by omega⟩
            · simp only [↓sd0, su0, su1, resOf, pack, eqCells, ↓reduceIte, Nat.reduceEqDiff, Nat.reduceAdd, Nat.reduceLeDiff, Nat.reduceLT, reduceCtorEq, lenV_ints, q, hia, hpk.callK, sliceV_tail, natV_one, qa, qb, qc, qd, hwd]
              refine CallK_of (ih d' (by omega) (by omega) l false _ _ _) ?_
              rintro r H1 n1 ⟨⟨t, b1, l1, rfl, ht1, ht2, ht3⟩, rfl, rfl⟩
              simp only [↓sd0, su0, su1, resOf, pack, eqCells, ↓reduceIte, Nat.reduceEqDiff, Nat.reduceAdd, Nat.reduceLeDiff, Nat.reduceLT, reduceCtorEq, qd]
              exact ⟨.mk 2 false [t], b1, l1, by rw [one_kid], .node 2 false [t] (by omega) (by omega) rfl (by intro k hk; simp at hk; subst hk; exact ht1), by rw [T.size_mk, T.sizes, T.sizes, hp]; omega, by omega⟩
          · have hpl := picked_spec (l.length : Int) (n := 2) (by omega) (by omega)
            have hpli := pk_in (l.length : Int) (n := 2) (by omega)
            generalize pk (l.length : Int) 2 = m at hpl hpli
            have hwm : IntKind.i64.wrap (-1 - m) = -1 - m := wrap64 (by omega) (by omega)
            simp only [↓sd0, su0, su1, resOf, pack, eqCells, ↓reduceIte, Nat.reduceEqDiff, Nat.reduceAdd, Nat.reduceLeDiff, Nat.reduceLT, reduceCtorEq, lenV_ints, q, hia, hpk.callK, sliceV_tail, natV_one, qa, qb, qc, gt20, hpl.callK, hwm]
            exact ⟨T.var (-1 - m), false, l, by rw [var_av], .var _ true (by omega) (by omega), by rw [var_size]; omega, by omega⟩
        · simp only [↓sd0, su0, su1, resOf, pack, eqCells, ↓reduceIte, Nat.reduceEqDiff, Nat.reduceAdd, Nat.reduceLeDiff, Nat.reduceLT, reduceCtorEq, lenV_ints, q, hia, hpk.callK, sliceV_tail, natV_one, qa, qb]
          exact ⟨leaf1, false, l, by rw [leaf1_av], leaf1_wf, by show 1 < _; omega, by omega⟩
      · simp only [↓sd0, su0, su1, resOf, pack, eqCells, ↓reduceIte, Nat.reduceEqDiff, Nat.reduceAdd, Nat.reduceLeDiff, Nat.reduceLT, reduceCtorEq, lenV_ints, q, hia, hpk.callK, sliceV_tail, natV_one, qa]
        exact ⟨leaf1, false, l, by rw [leaf1_av], leaf1_wf, by show 1 < _; omega, by omega⟩

end Go.Proofs.Ytmbdccekcfeomaa.Am
end
/- loreOf: lores of three claims at most. -/
section
open Go
namespace Go.Proofs.Ytmbdccekcfeomaa.Am
set_option linter.unusedSimpArgs false
set_option linter.unusedVariables false
set_option maxRecDepth 20000

theorem thawV_lvk {wl lo hi sz id : Nat} {H : Nat → Option Obj} {es : List AV} (ho : Own H lo hi sz id es) (hw : wl ≤ lo) (hs : AV.solids es = true) : thawV (thaw wl 0) wl H (lv id es.length) = some (sl sz true es, kill H id es.length) := by
  cases es with
  | nil => rfl
  | cons x xs =>
    obtain ⟨h1, h2, h3⟩ := ho (by simp)
    have : lv id (x :: xs).length = .lref id 0 (x :: xs).length := by unfold lv; rw [if_neg (by simp)]
    rw [this]
    simp only [thawV]
    rw [if_neg (by omega), h3]
    simp only
    rw [if_pos (by simp)]
    simp [thaw, hs, sl, kill]
theorem Own.frame {H H' : Nat → Option Obj} {lo hi sz id : Nat} {es : List AV} (h : Own H lo hi sz id es) (hf : ∀ j, j < hi → H' j = H j) : Own H' lo hi sz id es := fun hne => by
  have := h hne; exact ⟨this.1, this.2.1, by rw [hf _ this.2.1]; exact this.2.2⟩
structure FaOk (f : Fa) : Prop where
  l : f.l.wf 2
  ls : f.l.size < 8
  r : f.r.wf 2
  rs : f.r.size < 8
structure ClOk (c : Cl) : Prop where
  len : c.fs.length ≤ 2
  fs : ∀ f ∈ c.fs, FaOk f
structure LoOk (l : Lo) : Prop where
  ar : l.ar = [0, 1, 2]
  len : l.cs.length ≤ 3
  cs : ∀ c ∈ l.cs, ClOk c
def zT : T := .mk 0 true []
theorem fa0 (q : Bool) : AV.agg [.bool q, .int .i64 0, .nilSlice, .int .i64 0, .nilSlice] = Fa.av ⟨q, zT, zT⟩ := rfl
theorem arity0 : AV.slice 1 [.int .i64 0, .int .i64 1, .int .i64 2] = ints false [0, 1, 2] := rfl

theorem thaw_lo {wl lo hi id n : Nat} {H : Nat → Option Obj} {cs : List Cl} {ar : List Int} (ho : Own H lo hi 1 id (cs.map Cl.el)) (hn : cs.length = n) (hw : wl ≤ lo) : ∃ H', thaw wl 1 H [.agg [ints false ar, lv id n]] = some ([Lo.av ⟨false, ar, true, cs⟩], H') := by
  obtain ⟨H', hh, hj⟩ := thawV_lv ho hw (solids_map Cl.solid_el cs)
  refine ⟨H', ?_⟩
  subst hn
  rw [List.length_map] at hh
  rw [thaw_one]
  simp only [thawL, thawV, thawV_solid (ints false ar) (solid_ints _ _), hh]
  rfl
theorem two0 : ((2 : Int) = 0) = False := by simp
theorem pres_lo {wl s st n : Nat} {e : Nat → AV} {lo : Nat → Option (Nat × AV)} {H H' : Nat → Option Obj} {v v' : AV} (h : lo s = some (st, v)) (ht : thawV (thaw wl 0) wl H v = some (v', H')) : pres wl [(true, s)] ⟨e, lo, H, n⟩ = some ⟨e, upd lo s (some (st, v')), H', n⟩ := by
  simp [pres, h, ht]
theorem thawV_cl {wl id n : Nat} {H H' : Nat → Option Obj} {fs : List Fa} (h : thawV (thaw wl 0) wl H (lv id n) = some (sl 5 true (fs.map Fa.av), H')) : thawV (thaw wl 0) wl H (.agg [lv id n]) = some (Cl.av ⟨true, fs⟩, H') := by
  rw [thawV]
  simp only [thawL, h]
  rfl
theorem loreof_spec {wl nx : Nat} {H : Nat → Option Obj} (l : List Int) (b : Bool) : Call tab wl 12 [ints b l, .int .i64 3] H nx fun r H' nx' => (∃ lo, r = Lo.av lo ∧ LoOk lo) ∧ H' = H ∧ nx' = nx := by
  refine call_thaw tab_12 ?_
  unfold body12
  dsimp only [qm, qf, ql, qL, qs, qc, qk, qi, qn, qb, qB, qe, qx, qo, qg]
  simp only [start2]
  simp only [↓sd0, su0, su1, resOf, pack, eqCells, ↓reduceIte, Nat.reduceEqDiff, Nat.reduceAdd, Nat.reduceLeDiff, Nat.reduceLT, reduceCtorEq]
  refine W_down 3 (fun m e lo H' n => nx ≤ n ∧ (∃ m4, e 4 = .loc 4 m4 0 ∧ lo 4 = some (m4, .agg [.nilSlice, .nilSlice])) ∧ e 1 = .int .i64 3 ∧ ∃ (k : Nat) (cs : List Cl) (idc : Nat) (lst : List Int) (b : Bool) (m5 : Nat), m + k = 3 ∧ e 0 = ints b lst ∧ e 5 = .loc 5 m5 0 ∧ lo 5 = some (m5, .agg [ints false [0, 1, 2], lv idc k]) ∧ cs.length = k ∧ Own H' nx n 1 idc (cs.map Cl.el) ∧ ∀ c ∈ cs, ClOk c) ?_ ?_
  · simp only [↓sd0, su0, su1, resOf, pack, eqCells, ↓reduceIte, Nat.reduceEqDiff, Nat.reduceAdd, Nat.reduceLeDiff, Nat.reduceLT, reduceCtorEq]
    exact ⟨⟨_, rfl, rfl⟩, 0, [], 0, l, b, _, rfl, rfl, rfl, rfl, rfl, Own.nil, by simp⟩
  · rintro m e lo H' n ⟨hn, ⟨m4, h4, hl4⟩, h1, k, cs, idc, lst, b, m5, hmk, h0, h5, hl5, hcl, ho, hok⟩
    obtain ⟨H2, hth⟩ := thaw_lo (ar := [0, 1, 2]) ho hcl (Nat.le_refl nx)
    have fin : Opt (thaw nx 1 H' [AV.agg [ints false [0, 1, 2], lv idc k]]) fun p => AV.solids p.1 = true ∧ ∃ lo, pack p.1 = Lo.av lo ∧ LoOk lo := ⟨_, hth, by simp [solids_cons, Lo.solid_av, solids_nil], ⟨false, [0, 1, 2], true, cs⟩, rfl, ⟨rfl, by show cs.length ≤ 3; omega, hok⟩⟩
    cases hk3 : decide ((k : Int) < 3)
    · cases hq : decide ((lst.length : Int) > 0)
      · simp only [↓sd0, su0, su1, resOf, pack, eqCells, ↓reduceIte, Nat.reduceEqDiff, Nat.reduceAdd, Nat.reduceLeDiff, Nat.reduceLT, reduceCtorEq, h4, hl4, h1, h0, h5, hl5, hk3, lenV_ints, hq]
        exact fin
      · simp only [↓sd0, su0, su1, resOf, pack, eqCells, ↓reduceIte, Nat.reduceEqDiff, Nat.reduceAdd, Nat.reduceLeDiff, Nat.reduceLT, reduceCtorEq, h4, hl4, h1, h0, h5, hl5, hk3, lenV_ints, hq]
        exact fin
    · have hk3' := of_decide_eq_true hk3
      cases lst with
      | nil => 
        have q : decide ((0 : Int) > 0) = false := by decide
        simp only [↓sd0, su0, su1, resOf, pack, eqCells, ↓reduceIte, Nat.reduceEqDiff, Nat.reduceAdd, Nat.reduceLeDiff, Nat.reduceLT, reduceCtorEq, h4, hl4, h1, h0, h5, hl5, hk3, lenV_ints, q]
        exact fin
      | cons x lst =>
        have q : decide (((lst.length + 1 : Nat) : Int) > 0) = true := decide_eq_true (by omega)
        have hia : ∀ H, iaddrV H 1 (ints b (x :: lst)) (.int .i64 0) = some (.fptr (.int .i64 x) 0) := fun H => iaddr_ints (i := 0) (by simp)
        have hpk := picked_spec x (n := 2) (by omega) (by omega)
        have hpi := pk_in x (n := 2) (by omega)
        have hp3 := fun a => picked_spec a (n := 3) (by omega) (by omega)
        generalize pk x 2 = p at hpk hpi
        simp only [↓sd0, su0, su1, resOf, pack, eqCells, ↓reduceIte, Nat.reduceEqDiff, Nat.reduceAdd, Nat.reduceLeDiff, Nat.reduceLT, reduceCtorEq, h4, hl4, h1, h0, h5, hl5, hk3, lenV_ints, q, hia, sliceV_tail, natV_one]
        refine W_down 2 (fun m' e lo H1 n1 => n ≤ n1 ∧ (e 4 = .loc 4 m4 0 ∧ lo 4 = some (m4, .agg [.nilSlice, .nilSlice])) ∧ e 1 = .int .i64 3 ∧ (e 5 = .loc 5 m5 0 ∧ lo 5 = some (m5, .agg [ints false [0, 1, 2], lv idc k])) ∧ e 6 = .int .i64 x ∧ Own H1 nx n 1 idc (cs.map Cl.el) ∧ ∃ (i : Nat) (fs : List Fa) (idf : Nat) (lst : List Int) (b : Bool) (m7 : Nat), m' + i = 2 ∧ e 0 = ints b lst ∧ e 8 = .int .i64 ((i : Nat) : Int) ∧ e 7 = .loc 7 m7 0 ∧ lo 7 = some (m7, .agg [lv idf i]) ∧ fs.length = i ∧ Own H1 n n1 5 idf (fs.map Fa.av) ∧ ∀ f ∈ fs, FaOk f) ?_ ?_
        · simp only [↓sd0, su0, su1, resOf, pack, eqCells, ↓reduceIte, Nat.reduceEqDiff, Nat.reduceAdd, Nat.reduceLeDiff, Nat.reduceLT, reduceCtorEq]
          exact ⟨⟨h4, hl4⟩, h1, ⟨h5, hl5⟩, ho, 0, [], 0, lst, false, _, rfl, rfl, rfl, rfl, rfl, rfl, Own.nil, by simp⟩
        · clear h4 hl4 h1 h0 h5 hl5 q hia
          rintro m' e lo H1 n1 ⟨hn1, ⟨h4, hl4⟩, h1, ⟨h5, hl5⟩, h6, ho1, i, fs, idf, lst, b, m7, hmi, h0, h8, h7, hl7, hfl, hof, hfo⟩
          cases qi : decide ((i : Int) ≤ p)
          · simp only [↓sd0, su0, su1, resOf, pack, eqCells, ↓reduceIte, Nat.reduceEqDiff, Nat.reduceAdd, Nat.reduceLeDiff, Nat.reduceLT, reduceCtorEq, h4, hl4, h1, h5, hl5, h6, h0, h8, h7, hl7, hpk.callK, qi]
            
            rw [← hfl] at hl7
            have hthv := thawV_lvk hof hn (solids_map Fa.solid_av fs)
            rw [List.length_map] at hthv
            have hpr := fun e n => pres_lo (wl := nx) (e := e) (n := n) hl7 (thawV_cl hthv)
            rw [hfl] at hpr
            have hap := append_to (wl := nx) (bytes := 24) (Cl.el ⟨true, fs⟩) (ho1.frame (H' := kill H1 idf i) (fun j hj => kill_other (fun h => by
              have hne : fs.map Fa.av ≠ [] := by intro he; rw [List.map_eq_nil_iff] at he; rw [he] at hfl; simp at hfl; omega
              have := (hof hne).1; omega))) (n := k) (by simpa using hcl) (Nat.le_refl _) (by omega)
            simp only [hpr, ↓sd0, su0, su1, resOf, pack, eqCells, ↓reduceIte, Nat.reduceEqDiff, Nat.reduceAdd, Nat.reduceLeDiff, Nat.reduceLT, reduceCtorEq, h4, hl4, h1, h5, hl5, h6, h0, h8, h7, hap]
            exact ⟨m - 1, by omega, by omega, ⟨_, rfl, rfl⟩, k + 1, cs ++ [⟨true, fs⟩], n1 + 8, lst, b, m5, by omega, rfl, rfl, rfl, by simp [hcl], by
              simp only [List.map_append, List.map_cons, List.map_nil]
              exact (Own.append (by omega)).mono (by omega), fun c hc => by
              rcases List.mem_append.1 hc with h | h
              · exact hok c h
              · simp at h; subst h; exact ⟨by show fs.length ≤ 2; omega, hfo⟩⟩
          · simp only [↓sd0, su0, su1, resOf, pack, eqCells, ↓reduceIte, Nat.reduceEqDiff, Nat.reduceAdd, Nat.reduceLeDiff, Nat.reduceLT, reduceCtorEq, h4, hl4, h1, h5, hl5, h6, h0, h8, h7, hl7, hpk.callK, qi, (hp3 _).callK, binV_quo, two0, fa0]
            
            generalize hqq : (pk (IntKind.i64.wrap (IntKind.i64.wrap (x.tdiv 2) + (i : Int))) 3 == 0) = qq
            have qi' := of_decide_eq_true qi
            refine CallK_of (treeof_spec 2 (Nat.le_refl _) lst b _ _ _) ?_
            rintro r H2 n2 ⟨⟨t, b1, l1, rfl, ht1, ht2, ht3⟩, rfl, rfl⟩
            simp only [↓sd0, su0, su1, resOf, pack, eqCells, ↓reduceIte, Nat.reduceEqDiff, Nat.reduceAdd, Nat.reduceLeDiff, Nat.reduceLT, reduceCtorEq, h1, h5, hl5, h6, h8, h7, hl7]
            refine CallK_of (treeof_spec 2 (Nat.le_refl _) l1 b1 _ _ _) ?_
            rintro r H3 n3 ⟨⟨u, b2, l2, rfl, hu1, hu2, hu3⟩, rfl, rfl⟩
            have hap := append_to (wl := nx) (bytes := 72) (Fa.av ⟨qq, t, u⟩) hof (n := i) (by simpa using hfl) hn (by omega)
            have hwi : IntKind.i64.wrap ((i : Int) + 1) = ((i + 1 : Nat) : Int) := wrap_succ (N := 3) (by omega) (by omega)
            simp only [↓sd0, su0, su1, resOf, pack, eqCells, ↓reduceIte, Nat.reduceEqDiff, Nat.reduceAdd, Nat.reduceLeDiff, Nat.reduceLT, reduceCtorEq, h1, h5, hl5, h6, h8, h7, hl7, hap, hwi]
            exact ⟨m' - 1, by omega, by omega, ⟨h4, hl4⟩, ho1.frame (fun j hj => by
              rw [upd_other _ _ (by omega), kill_other (fun h => by
                have hne : fs.map Fa.av ≠ [] := by intro he; rw [List.map_eq_nil_iff] at he; rw [he] at hfl; simp at hfl; omega
                have := (hof hne).1; omega)]), i + 1, fs ++ [⟨qq, t, u⟩], n1 + 33, l2, b2, m7, by omega, rfl, rfl, rfl, rfl, by simp [hfl], by
              simp only [List.map_append, List.map_cons, List.map_nil]
              exact (Own.append (by omega)).mono (by omega), fun f hf => by
              rcases List.mem_append.1 hf with h | h
              · exact hfo f h
              · simp at h; subst h; exact ⟨ht1, ht2, hu1, hu2⟩⟩

end Go.Proofs.Ytmbdccekcfeomaa.Am
end
/- Claims named anew. -/
section
open Go
namespace Go.Proofs.Ytmbdccekcfeomaa.Am
set_option linter.unusedSimpArgs false
set_option linter.unusedVariables false
set_option maxRecDepth 20000

theorem isAgg_nilMap : AV.nilMap.isAgg = false := _root_.id rfl
theorem cells_nilMap : AV.nilMap.cells = [.nilMap] := _root_.id rfl
theorem turn1061 {lo ic iw im : Nat} (c : Cl) {es : List (Int × AV)} {wl : Nat} {H : Nat → Option Obj} {nx : Nat} (hR : NM H lo ic iw im es) (hlt : ic < nx ∧ iw < nx ∧ im < nx) (hwl : wl ≤ lo) (hl : c.fs.length < 4294967296)
    (hc : ∀ f ∈ c.fs, f.l.size < 1099511627776 ∧ f.r.size < 1099511627776) :
    Call tab wl 1061 [c.av, .clo 69 [.ptr ic 0 0, .ptr iw 0 0]] H nx fun r H' nx' => ∃ c' : Cl, r = c'.av ∧ c'.fs.length = c.fs.length ∧ (∀ f ∈ c'.fs, f.l.size < 1099511627776 ∧ f.r.size < 1099511627776) ∧ nx ≤ nx' := by
  refine call_mutf tab_1061 ?_
  unfold body1061
  dsimp only [qm, qf, ql, qL, qs, qc, qk, qi, qn, qb, qB, qe, qx, qo, qg]
  simp only [start2]
  simp only [↓sd0, su0, su1, resOf, pack, eqCells, ↓reduceIte, Nat.reduceEqDiff, Nat.reduceAdd, Nat.reduceLeDiff, Nat.reduceLT, reduceCtorEq]
  refine W_count c.fs.length (fun k e l H' n => e 9 = sl 5 c.nil (c.fs.map Fa.av) ∧ e 1 = .clo 69 [.ptr ic 0 0, .ptr iw 0 0] ∧ e 11 = .int .i64 k ∧ e 10 = .int .i64 c.fs.length ∧ nx ≤ n ∧ (∃ m, e 4 = .loc 4 m 0 ∧ l 4 = some (m, .agg [.nilSlice])) ∧ (∃ es', NM H' lo ic iw im es') ∧
    ∃ m id, ∃ us : List Fa, e 5 = .loc 5 m 0 ∧ l 5 = some (m, .agg [lv id k]) ∧ us.length = k ∧ (∀ f ∈ us, f.l.size < 1099511627776 ∧ f.r.size < 1099511627776) ∧ Own H' nx n 5 id (us.map Fa.av)) ?_ ?_ ?_
  · simp only [↓sd0, su0, su1, resOf, pack, eqCells, ↓reduceIte, Nat.reduceEqDiff, Nat.reduceAdd, Nat.reduceLeDiff, Nat.reduceLT, reduceCtorEq]
    exact ⟨⟨_, rfl, rfl⟩, ⟨_, hR⟩, _, 0, [], rfl, rfl, rfl, by simp, Own.nil⟩
  · rintro k e l H' n hk ⟨h9, h1, h11, h10, hn, ⟨m4, h4, hl4⟩, ⟨es', hR'⟩, m5, id, us, h5, hl5, hus, hsz, ho⟩
    have hx := hc c.fs[k] (List.getElem_mem hk)
    have hwk := wrap_succ hk (by omega)
    have hcap : AV.nols [AV.ptr ic 0 0, AV.ptr iw 0 0] = true := rfl
    simp only [↓sd0, su0, su1, resOf, pack, eqCells, ↓reduceIte, Nat.reduceEqDiff, Nat.reduceAdd, Nat.reduceLeDiff, Nat.reduceLT, reduceCtorEq, dr0, Nat.reducePow, Nat.reduceDiv, Nat.reduceMod, Nat.reduceBEq, h9, h1, h11, h10, h4, hl4, h5, hl5, iaddr_map hk, lt_cast hk]
    refine CallK_of (named1_spec c.fs[k].l es' wl H' _ hR' (by omega) hwl hx.1) ?_
    rintro r H2 n2 ⟨u, es2, rfl, hu, hR2, hn2, hf2⟩
    simp only [↓sd0, su0, su1, resOf, pack, eqCells, ↓reduceIte, Nat.reduceEqDiff, Nat.reduceAdd, Nat.reduceLeDiff, Nat.reduceLT, reduceCtorEq, dr0, Nat.reducePow, Nat.reduceDiv, Nat.reduceMod, Nat.reduceBEq, h9, h1, h11, h10, h4, hl4, h5, hl5]
    refine CallK_of (named1_spec c.fs[k].r es2 wl H2 _ hR2 (by omega) hwl hx.2) ?_
    rintro r H3 n3 ⟨v, es3, rfl, hv, hR3, hn3, hf3⟩
    have ho3 : Own H3 nx n3 5 id (us.map Fa.av) := fun hne => by
      obtain ⟨a, b, c⟩ := ho hne
      have := hR'.lo'
      exact ⟨a, by omega, by rw [hf3 id (by omega) (by omega), hf2 id (by omega) (by omega)]; exact c⟩
    have hap := append_to (wl := wl) (bytes := 72) (Fa.av ⟨c.fs[k].n, u, v⟩) ho3 (n := k) (by simpa using hus) (by have := hR'.lo'; omega) (by omega)
    simp only [↓sd0, su0, su1, resOf, pack, eqCells, ↓reduceIte, Nat.reduceEqDiff, Nat.reduceAdd, Nat.reduceLeDiff, Nat.reduceLT, reduceCtorEq, dr0, Nat.reducePow, Nat.reduceDiv, Nat.reduceMod, Nat.reduceBEq, h9, h1, h11, h10, h4, hl4, h5, hl5, hap, hwk]
    have hk1 : ∀ n' j, j < nx → upd (kill H3 id k) n' (some (.arr 5 (us.map Fa.av ++ [(Fa.av ⟨c.fs[k].n, u, v⟩)]))) j = if j = n' then some (.arr 5 (us.map Fa.av ++ [(Fa.av ⟨c.fs[k].n, u, v⟩)])) else H3 j := fun n' j hj => by
      rw [upd_apply]
      split
      · rfl
      · refine kill_other fun hk0 => ?_
        have hne : us.map Fa.av ≠ [] := by intro h; rw [List.map_eq_nil_iff] at h; rw [h] at hus; exact hk0 hus.symm
        have := (ho hne).1; omega
    refine ⟨by omega, ⟨_, rfl, rfl⟩, ⟨es3, hR3.of ?_ ?_ ?_⟩, _, _, us ++ [⟨c.fs[k].n, u, v⟩], rfl, rfl, by simp [hus], ?_, ?_⟩
    · rw [hk1 _ _ hlt.1, if_neg (by omega)]
    · rw [hk1 _ _ hlt.2.1, if_neg (by omega)]
    · rw [hk1 _ _ hlt.2.2, if_neg (by omega)]
    · intro f hf
      rcases List.mem_append.1 hf with h | h
      · exact hsz f h
      · simp at h; subst h; simp only; omega
    · simp only [List.map_append, List.map_cons, List.map_nil]
      exact (Own.append (by omega)).mono (by omega)
  · rintro e l H' n ⟨h9, h1, h11, h10, hn, ⟨m4, h4, hl4⟩, ⟨es', hR'⟩, m5, id, us, h5, hl5, hus, hsz, ho⟩
    obtain ⟨H2, hth, hH2⟩ := thaw_claim ho (n := c.fs.length) hus (Nat.le_refl _)
    simp only [↓sd0, su0, su1, resOf, pack, eqCells, ↓reduceIte, Nat.reduceEqDiff, Nat.reduceAdd, Nat.reduceLeDiff, Nat.reduceLT, reduceCtorEq, dr0, Nat.reducePow, Nat.reduceDiv, Nat.reduceMod, Nat.reduceBEq, h9, h1, h11, h10, h4, hl4, h5, hl5, hth]
    exact ⟨_, rfl, hus, hsz, by omega⟩

theorem named_spec (c : Cl) (hl : c.fs.length < 4294967296) (hc : ∀ f ∈ c.fs, f.l.size < 1099511627776 ∧ f.r.size < 1099511627776) {wl nx : Nat} {H : Nat → Option Obj} :
    Call tab wl 43 [c.av] H nx fun r H' nx' => (∃ c' : Cl, r = c'.av ∧ c'.fs.length = c.fs.length ∧ ∀ f ∈ c'.fs, f.l.size < 1099511627776 ∧ f.r.size < 1099511627776) ∧ H' = H ∧ nx' = nx := by
  refine call_solid tab_43 ?_
  unfold body43
  dsimp only [qm, qf, ql, qL, qs, qc, qk, qi, qn, qb, qB, qe, qx, qo, qg]
  simp only [start1]
  simp only [↓sd0, su0, su1, resOf, pack, eqCells, ↓reduceIte, Nat.reduceEqDiff, Nat.reduceAdd, Nat.reduceLeDiff, Nat.reduceLT, reduceCtorEq, ↓RK_lookup, ↓RK_mapup, ↓RK_lenmap, lookV_map, mapupV_map, lenmapV_map, List.set_cons_zero, newMap, isAgg_nilMap, cells_nilMap]
  refine CallK_of (turn1061 (lo := nx) (ic := nx + 3) (iw := nx + 5) (im := nx + 2) (es := []) c { hc := by simp [upd], hw := by simp [upd], hm := by simp [upd], int := by simp, lo' := by omega, ne := by omega } (by omega) (Nat.le_refl _) hl hc) ?_
  rintro r H2 n2 ⟨c', rfl, h1, h2, hn⟩
  simp only [↓sd0, su0, su1, resOf, pack, eqCells, ↓reduceIte, Nat.reduceEqDiff, Nat.reduceAdd, Nat.reduceLeDiff, Nat.reduceLT, reduceCtorEq]
  exact ⟨c', rfl, h1, h2⟩

end Go.Proofs.Ytmbdccekcfeomaa.Am
end
