/- Unification: what makes trees one. -/
import Derived.Test.YtmbdccekcfeomaaT36
section
open Go
namespace Go.Proofs.Ytmbdccekcfeomaa.Am
set_option linter.unusedSimpArgs false
set_option linter.unusedVariables false
set_option maxRecDepth 20000

theorem full_spec {m S cid lid wl : Nat} {ts : List T} (hC : CL m S ts) (hS : S < 1099511627776) (hm : m < 1099511627776) (hne : lid ≠ cid) (hwl : wl ≤ lid) : ∀ (L : Nat) (t : T), L < 1099511627776 → t.vt m → t.size ≤ S → ∀ (H : Nat → Option Obj) (nx : Nat), wl ≤ nx → cid < nx → lid < nx → H cid = some (.arr 2 (ts.map T.av)) → H lid = some (.arr 1 [.int .i64 L]) →
    Call tab wl 98 [.lref cid 0 m, t.av, .ptr lid 0 0] H nx fun r H' nx' => ∃ (u : T) (L' : Int), r = u.av ∧ -1 ≤ L' ∧ (u.size : Int) + L' = L ∧ H' lid = some (.arr 1 [.int .i64 L']) ∧ (∀ j, j < nx → j ≠ lid → H' j = H j) ∧ nx ≤ nx' := by
  intro L
  induction L using Nat.strongRecOn with
  | ind L ih =>
  intro t hL ht hts H nx hwn hcn hln hHc hHl
  refine call_mutf tab_98 ?_
  unfold body98
  dsimp only [qm, qf, ql, qL, qs, qc, qk, qi, qn, qb, qB, qe, qx, qo, qg]
  simp only [start3]
  rw [W_assoc, W_assoc, W_assoc]
  refine W_cut (fun e l H' n => nx ≤ n ∧ e 0 = .lref cid 0 m ∧ e 2 = .ptr lid 0 0 ∧ H' = upd H lid (some (.arr 1 [.int .i64 ((L : Int) - 1)])) ∧ (∃ m, e 6 = .loc 6 m 0 ∧ l 6 = some (m, .agg [.int .i64 0, .nilSlice])) ∧
    ∃ s : T, s.vt m ∧ s.size ≤ S ∧ (∃ m, e 4 = .loc 4 m 0 ∧ l 4 = some (m, s.av)) ∧ (∃ m, e 7 = .loc 7 m 0 ∧ l 7 = some (m, .agg [.int .i64 s.h, .nilSlice]))) ?_ ?_
  · simp only [↓sd0, su0, su1, resOf, pack, eqCells, ↓reduceIte, Nat.reduceEqDiff, Nat.reduceAdd, Nat.reduceLeDiff, Nat.reduceLT, reduceCtorEq]
    refine CallK_of (look_spec hC hS hm hHc t ht hts) ?_
    rintro r H1 n1 ⟨⟨s, rfl, h1, h2, h3, h4⟩, rfl, rfl⟩
    have hw : IntKind.i64.wrap ((L : Int) - 1) = (L : Int) - 1 := by rw [wrap64 (by omega) (by omega)]
    simp only [↓sd0, su0, su1, resOf, pack, eqCells, ↓reduceIte, Nat.reduceEqDiff, Nat.reduceAdd, Nat.reduceLeDiff, Nat.reduceLT, reduceCtorEq, hHl, hw, hwl, List.set_cons_zero]
    exact ⟨⟨_, rfl, rfl⟩, s, h1, h2, ⟨_, rfl, rfl⟩, ⟨_, rfl, rfl⟩⟩
  rintro e l H1 n ⟨hn, h0, h2, rfl, ⟨m6, h6, hl6⟩, s, hvs, hss, ⟨m4, h4, hl4⟩, m7, h7, hl7⟩
  have hlen := T.length_le s.ks
  have hsz := s.size_eq
  refine W_cut (fun e l H' n => nx ≤ n ∧ (∃ m, e 6 = .loc 6 m 0 ∧ l 6 = some (m, .agg [.int .i64 0, .nilSlice])) ∧ (∀ j, j < nx → j ≠ lid → H' j = H j) ∧
    ∃ (us : List T) (L' : Int) (m' id : Nat), e 7 = .loc 7 m' 0 ∧ l 7 = some (m', .agg [.int .i64 s.h, lv id us.length]) ∧ Own H' nx n 2 id (us.map T.av) ∧ -1 ≤ L' ∧ (T.sizes us : Int) + 1 + L' = L ∧ H' lid = some (.arr 1 [.int .i64 L'])) ?_ ?_
  · simp only [↓sd0, su0, su1, resOf, pack, eqCells, ↓reduceIte, Nat.reduceEqDiff, Nat.reduceAdd, Nat.reduceLeDiff, Nat.reduceLT, reduceCtorEq, h0, h2, h6, hl6, h4, hl4, h7, hl7]
    refine W_count s.ks.length (fun k e l H' n => nx ≤ n ∧ e 0 = .lref cid 0 m ∧ e 2 = .ptr lid 0 0 ∧ (∃ m, e 6 = .loc 6 m 0 ∧ l 6 = some (m, .agg [.int .i64 0, .nilSlice])) ∧ (∀ j, j < nx → j ≠ lid → H' j = H j) ∧ e 22 = sl 2 s.nil (s.ks.map T.av) ∧ e 24 = .int .i64 k ∧ e 23 = .int .i64 s.ks.length ∧
      ∃ (us : List T) (L' : Int) (m' id : Nat), e 7 = .loc 7 m' 0 ∧ l 7 = some (m', .agg [.int .i64 s.h, lv id us.length]) ∧ Own H' nx n 2 id (us.map T.av) ∧ us.length ≤ k ∧ -1 ≤ L' ∧ (T.sizes us : Int) + 1 + L' = L ∧ H' lid = some (.arr 1 [.int .i64 L'])) ?_ ?_ ?_
    · simp only [↓sd0, su0, su1, resOf, pack, eqCells, ↓reduceIte, Nat.reduceEqDiff, Nat.reduceAdd, Nat.reduceLeDiff, Nat.reduceLT, reduceCtorEq, h0, h2, h6, hl6, h4, hl4, h7, hl7]
      refine ⟨by omega, ⟨_, rfl, rfl⟩, fun j hj hne => by rw [if_neg hne], [], (L : Int) - 1, _, 0, rfl, rfl, Own.nil, by simp, by omega, by simp [T.sizes]; omega, rfl⟩
    · clear h0 h2 h6 hl6 h4 hl4 h7 hl7 hn
      clear m4 m6 m7 e l n
      rintro k e l H' n hk ⟨hn, h0, h2, ⟨m6, h6, hl6⟩, hf, h22, h24, h23, us, L', m7, id, h7, hl7, ho, husl, hL1, hL2, hHl'⟩
      by_cases c : L' < 0
      · have q : decide (L' < 0) = true := by simp [c]
        simp only [↓sd0, su0, su1, resOf, pack, eqCells, ↓reduceIte, Nat.reduceEqDiff, Nat.reduceAdd, Nat.reduceLeDiff, Nat.reduceLT, reduceCtorEq, h0, h2, h6, hl6, h22, h24, h23, h7, hl7, iaddr_map hk, lt_cast hk, hHl', q]
        exact ⟨by omega, ⟨_, rfl, rfl⟩, hf, us, L', _, _, rfl, rfl, ho.mono (by omega), hL1, hL2, rfl⟩
      · have q : decide (L' < 0) = false := by simp; omega
        obtain ⟨Ln, hLn⟩ : ∃ Ln : Nat, L' = (Ln : Int) := ⟨L'.toNat, by omega⟩
        subst hLn
        have hz := T.size_kid hk
        simp only [↓sd0, su0, su1, resOf, pack, eqCells, ↓reduceIte, Nat.reduceEqDiff, Nat.reduceAdd, Nat.reduceLeDiff, Nat.reduceLT, reduceCtorEq, dr0, Nat.reducePow, Nat.reduceDiv, Nat.reduceMod, Nat.reduceBEq, h0, h2, h6, hl6, h22, h24, h23, h7, hl7, iaddr_map hk, lt_cast hk, hHl', q]
        refine CallK_of (ih Ln (by omega) s.ks[k] (by omega) (((T.vt_iff m s).1 hvs).2 _ (List.getElem_mem hk)) (by omega) H' _ (by omega) (by omega) (by omega) (by rw [hf cid hcn hne.symm]; exact hHc) hHl') ?_
        rintro r H2 n2 ⟨u, L2, rfl, hL3, hL4, hHl2, hf2, hn2⟩
        have ho2 : Own H2 nx n 2 id (us.map T.av) := fun hne' => by
          obtain ⟨a, b, c⟩ := ho hne'
          exact ⟨a, b, by rw [hf2 id (by omega) (by omega)]; exact c⟩
        have hap := append_to (wl := wl) (bytes := 32) u.av ho2 (n := us.length) (by simp) hwn (by omega)
        simp only [↓sd0, su0, su1, resOf, pack, eqCells, ↓reduceIte, Nat.reduceEqDiff, Nat.reduceAdd, Nat.reduceLeDiff, Nat.reduceLT, reduceCtorEq, dr0, Nat.reducePow, Nat.reduceDiv, Nat.reduceMod, Nat.reduceBEq, h0, h2, h6, hl6, h22, h24, h23, h7, hl7, hap, wrap_succ hk (by omega : s.ks.length < 4611686018427387904)]
        have hk1 : ∀ n' j, j < nx → nx ≤ n' → (if j = n' then some (Obj.arr 2 (us.map T.av ++ [u.av])) else kill H2 id us.length j) = H2 j := fun n' j hj hn' => by
          rw [if_neg (by omega)]
          refine kill_other fun hk0 => ?_
          have hne' : us.map T.av ≠ [] := by intro h; rw [List.map_eq_nil_iff] at h; rw [h] at hk0; exact hk0 rfl
          have := (ho hne').1; omega
        refine ⟨by omega, ⟨_, rfl, rfl⟩, fun j hj hne => by rw [hk1 _ j hj (by omega), hf2 j (by omega) hne, hf j hj hne], us ++ [u], L2, _, _, rfl, by simp; rfl, ?_, by simp; omega, hL3, by rw [sizes_snoc]; omega, by rw [hk1 _ lid hln (by omega)]; exact hHl2⟩
        simp only [List.map_append, List.map_cons, List.map_nil]
        exact (Own.append (by omega)).mono (by omega)
    · clear h0 h2 h6 hl6 h4 hl4 h7 hl7 hn
      clear m4 m6 m7 e l n
      rintro e l H' n ⟨hn, h0, h2, ⟨m6, h6, hl6⟩, hf, h22, h24, h23, us, L', m7, id, h7, hl7, ho, husl, hL1, hL2, hHl'⟩
      simp only [↓sd0, su0, su1, resOf, pack, eqCells, ↓reduceIte, Nat.reduceEqDiff, Nat.reduceAdd, Nat.reduceLeDiff, Nat.reduceLT, reduceCtorEq, h0, h2, h6, hl6, h22, h24, h23, h7, hl7]
      exact ⟨by omega, ⟨_, rfl, rfl⟩, hf, us, L', _, _, rfl, rfl, ho.mono (by omega), hL1, hL2, hHl'⟩
  clear h0 h2 h6 hl6 h4 hl4 h7 hl7 hn
  clear m4 m6 m7 e l n
  rintro e l H' n ⟨hn, ⟨m6, h6, hl6⟩, hf, us, L', m7, id, h7, hl7, ho, hL1, hL2, hHl'⟩
  obtain ⟨H2, hth, hH2⟩ := thaw_tree (h := s.h) ho (n := us.length) rfl (Nat.le_refl _)
  simp only [↓sd0, su0, su1, resOf, pack, eqCells, ↓reduceIte, Nat.reduceEqDiff, Nat.reduceAdd, Nat.reduceLeDiff, Nat.reduceLT, reduceCtorEq, h6, hl6, h7, hl7, hth]
  exact ⟨_, L', rfl, hL1, by rw [T.size_mk]; omega, by rw [if_pos hln, hH2 _ hln]; exact hHl', fun j hj hne => by rw [if_pos hj, hH2 j hj, hf j hj hne], by omega⟩

theorem CL.init (m S : Nat) (hS : 1 ≤ S) : CL m S (List.replicate m (T.var 0)) where
  len := by simp
  vt s hs h0 := by rw [(List.mem_replicate.1 hs).2] at h0; exact absurd rfl h0
  size s hs := by rw [(List.mem_replicate.1 hs).2]; exact hS
  acy := ⟨fun _ => 0, fun i hi h0 => by simp at h0; exact absurd rfl h0⟩

theorem mgu_spec {m S : Nat} (hS : S < 1099511627776) (hS1 : 1 ≤ S) (hm : m < 4294967296) (a b : T) (ha : a.vt m) (hb : b.vt m) (hsa : a.size ≤ S) (hsb : b.size ≤ S) {wl nx : Nat} {H : Nat → Option Obj} :
    Call tab wl 79 [a.av, b.av, .int .i64 m] H nx fun r H' nx' => ((∃ bs : List T, r = .tup [.slice 2 (bs.map T.av), .bool true, .bool true] ∧ bs.length = m ∧ ∀ t ∈ bs, t.size ≤ 41) ∨ r = .tup [.nilSlice, .bool false, .bool true] ∨ r = .tup [.nilSlice, .bool true, .bool false]) ∧ H' = H ∧ nx' = nx := by
  refine call_thaw tab_79 ?_
  unfold body79
  dsimp only [qm, qf, ql, qL, qs, qc, qk, qi, qn, qb, qB, qe, qx, qo, qg]
  simp only [start3]
  have hmk : mkV 32 (.int .i64 m) (.int .i64 m) = some m := mkV_nat (by omega)
  have hinit := CL.init m S hS1
  obtain ⟨v, hV⟩ := hinit.vp
  have hrep : List.replicate m (AV.agg [.int .i64 0, .nilSlice]) = (List.replicate m (T.var 0)).map T.av := by simp [var_av]
  simp only [↓sd0, su0, su1, resOf, pack, eqCells, ↓reduceIte, Nat.reduceEqDiff, Nat.reduceAdd, Nat.reduceLeDiff, Nat.reduceLT, reduceCtorEq, hmk]
  refine CallK_of (join_spec (S := S) (cid := nx + 6) (wl := nx) hS (by omega) (by omega) _ _ hinit rfl v hV _ a b ha hb hsa hsb rfl _ _ (by omega) (by omega) (by rw [upd_same, hrep])) ?_
  rintro r H1 n1 ⟨⟨x, rfl⟩, hn1, hf1, ts, hHc, hts⟩
  have hCt : CL m S ts := by
    rcases hts with rfl | ⟨h, _⟩
    · exact hinit
    · exact h
  cases x
  · simp only [↓sd0, su0, su1, resOf, pack, eqCells, ↓reduceIte, Nat.reduceEqDiff, Nat.reduceAdd, Nat.reduceLeDiff, Nat.reduceLT, reduceCtorEq]
    have := thaw_solid (wl := nx) (H := H1) (vs := [.nilSlice, .bool false, .bool true]) rfl 1
    simp only [this, ↓sd0, su0, su1, resOf, pack, eqCells, ↓reduceIte, Nat.reduceEqDiff, Nat.reduceAdd, Nat.reduceLeDiff, Nat.reduceLT, reduceCtorEq]
    simp
  · simp only [↓sd0, su0, su1, resOf, pack, eqCells, ↓reduceIte, Nat.reduceEqDiff, Nat.reduceAdd, Nat.reduceLeDiff, Nat.reduceLT, reduceCtorEq, hmk]
    have hcn : nx + 6 < n1 := by omega
    have hlen := hCt.len
    refine W_count m (fun k e l H' n => nx ≤ n ∧ e 9 = .lref (nx + 6) 0 m ∧ e 23 = .int .i64 k ∧ e 22 = .int .i64 m ∧ H' (nx + 6) = some (.arr 2 (ts.map T.av)) ∧ nx + 6 < n ∧
      ∃ oid, e 6 = .lref oid 0 m ∧ oid ≠ nx + 6 ∧ nx ≤ oid ∧ oid < n ∧ ∃ os : List T, H' oid = some (.arr 2 (os.map T.av)) ∧ os.length = m ∧ ∀ t ∈ os, t.size ≤ 41) ?_ ?_ ?_
    · simp only [↓sd0, su0, su1, resOf, pack, eqCells, ↓reduceIte, Nat.reduceEqDiff, Nat.reduceAdd, Nat.reduceLeDiff, Nat.reduceLT, reduceCtorEq]
      refine ⟨by omega, ?_, by omega, _, rfl, by omega, by omega, by omega, List.replicate m (T.var 0), ?_, by simp, fun t ht => ?_⟩
      · rw [if_neg (by omega)]; exact hHc
      · rw [if_pos rfl, hrep]
      · rw [(List.mem_replicate.1 ht).2]; decide
    · rintro k e l H' n hk ⟨hn, h9, h23, h22, hHc', hcn', oid, h6, hoc, hon, hon2, os, hHo, hol, hos⟩
      have hkt : k < ts.length := by omega
      have hko : k < os.length := by omega
      have hia := fun H (h : H (nx + 6) = some (.arr 2 (ts.map T.av))) => iaddr_lref (H := H) (i := k) (n := m) h hk
      have hget : (ts.map T.av)[k]? = some ts[k].av := by simp [hkt]
      have hwk := wrap_succ hk (by omega)
      by_cases cz : ts[k].h = 0
      · have q : (ts[k].h == 0) = true := by simp [cz]
        simp only [↓sd0, su0, su1, resOf, pack, eqCells, ↓reduceIte, Nat.reduceEqDiff, Nat.reduceAdd, Nat.reduceLeDiff, Nat.reduceLT, reduceCtorEq, h9, h23, h22, h6, lt_cast hk, hia _ hHc', hHc', hget, q, hwk]
        exact ⟨by omega, by omega, oid, rfl, hoc, hon, by omega, os, hHo, hol, hos⟩
      · have q : (ts[k].h == 0) = false := by simp [cz]
        have hn9 : nx ≤ n + 9 := by omega
        have hG1 : upd H' (n + 9) (some (.arr 1 [.int .i64 40])) (nx + 6) = some (.arr 2 (ts.map T.av)) := by rw [upd_other _ _ (by omega)]; exact hHc'
        have hG2 : upd H' (n + 9) (some (.arr 1 [.int .i64 40])) oid = some (.arr 2 (os.map T.av)) := by rw [upd_other _ _ (by omega)]; exact hHo
        have hne1 : ¬ (nx + 6 = n + 9) := by omega
        have hne2 : ¬ (oid = n + 9) := by omega
        simp only [↓sd0, su0, su1, resOf, pack, eqCells, ↓reduceIte, Nat.reduceEqDiff, Nat.reduceAdd, Nat.reduceLeDiff, Nat.reduceLT, reduceCtorEq, h9, h23, h22, h6, lt_cast hk, hia _ hHc', hHc', hget, q, List.set_cons_zero, upd_upd, hn9, hia _ hG1, hne1]
        refine CallK_of (full_spec (lid := n + 9) (wl := nx) hCt hS (by omega) (by omega) (by omega) 40 ts[k] (by omega) (hCt.vt _ (List.getElem_mem hkt) cz) (hCt.size _ (List.getElem_mem hkt)) _ _ (by omega) (by omega) (by omega) hG1 (upd_same _ _ _)) ?_
        rintro r H2 n2 ⟨u, L', rfl, hL1, hL2, hHl2, hf2, hn2⟩
        have hHo2 : H2 oid = some (.arr 2 (os.map T.av)) := by rw [hf2 oid (by omega) (by omega)]; exact hG2
        have hHc2 : H2 (nx + 6) = some (.arr 2 (ts.map T.av)) := by rw [hf2 (nx + 6) (by omega) (by omega)]; exact hG1
        have hio := iaddr_lref (i := k) (n := m) hHo2 hk
        have hgeto : (os.map T.av)[k]? = some os[k].av := by simp [hko]
        have hseto : (os.map T.av).set k u.av = (os.set k u).map T.av := by rw [List.map_set]
        have hne3 : ¬ (n + 9 = oid) := by omega
        have hne4 : ¬ (nx + 6 = oid) := by omega
        have hio2 := iaddr_lref (H := upd H2 oid (some (.arr 2 ((os.set k u).map T.av)))) (i := k) (n := m) (upd_same _ _ _) hk
        have hget2 : ((os.set k u).map T.av)[k]? = some u.av := by simp [hko]
        have hus : u.size ≤ 41 := by omega
        have hG3 : ∀ t ∈ os.set k u, t.size ≤ 41 := fun t ht => by
          rcases List.mem_or_eq_of_mem_set ht with h | h
          · exact hos t h
          · subst h; exact hus
        by_cases cL : L' < 0
        · have qL : decide (L' < 0) = true := by simp [cL]
          simp only [↓sd0, su0, su1, resOf, pack, eqCells, ↓reduceIte, Nat.reduceEqDiff, Nat.reduceAdd, Nat.reduceLeDiff, Nat.reduceLT, reduceCtorEq, h9, h23, h22, h6, hio, hHo2, hgeto, hseto, hon, hne3, hHl2, qL]
          have := thaw_solid (wl := nx) (H := upd H2 oid (some (.arr 2 ((os.set k u).map T.av)))) (vs := [.nilSlice, .bool true, .bool false]) rfl 1
          simp only [this, ↓sd0, su0, su1, resOf, pack, eqCells, ↓reduceIte, Nat.reduceEqDiff, Nat.reduceAdd, Nat.reduceLeDiff, Nat.reduceLT, reduceCtorEq]
          simp
        · have qL : decide (L' < 0) = false := by simp; omega
          cases qd : decide ((u.deep : Int) > 12)
          · simp only [↓sd0, su0, su1, resOf, pack, eqCells, ↓reduceIte, Nat.reduceEqDiff, Nat.reduceAdd, Nat.reduceLeDiff, Nat.reduceLT, reduceCtorEq, h9, h23, h22, h6, hio, hHo2, hgeto, hseto, hon, hne3, hHl2, qL, hio2, hget2, (deep_spec u (by omega)).callK, qd, hwk]
            exact ⟨by omega, by rw [if_neg hne4]; exact hHc2, by omega, oid, rfl, hoc, hon, by omega, os.set k u, by rw [if_pos rfl], by simp [hol], hG3⟩
          · simp only [↓sd0, su0, su1, resOf, pack, eqCells, ↓reduceIte, Nat.reduceEqDiff, Nat.reduceAdd, Nat.reduceLeDiff, Nat.reduceLT, reduceCtorEq, h9, h23, h22, h6, hio, hHo2, hgeto, hseto, hon, hne3, hHl2, qL, hio2, hget2, (deep_spec u (by omega)).callK, qd]
            have := thaw_solid (wl := nx) (H := upd H2 oid (some (.arr 2 ((os.set k u).map T.av)))) (vs := [.nilSlice, .bool true, .bool false]) rfl 1
            simp only [this, ↓sd0, su0, su1, resOf, pack, eqCells, ↓reduceIte, Nat.reduceEqDiff, Nat.reduceAdd, Nat.reduceLeDiff, Nat.reduceLT, reduceCtorEq]
            simp
    · rintro e l H' n ⟨hn, h9, h23, h22, hHc', hcn', oid, h6, hoc, hon, hon2, os, hHo, hol, hos⟩
      have hth : ∃ H2, thaw nx 1 H' [.lref oid 0 m, .bool true, .bool true] = some ([.slice 2 (os.map T.av), .bool true, .bool true], H2) := by
        rw [thaw_one]
        simp only [thawL, thawV]
        rw [if_neg (by omega), hHo]
        simp only
        rw [if_pos (by rw [List.length_map, hol]; omega)]
        refine ⟨upd H' oid none, ?_⟩
        rw [show (os.map T.av).drop 0 = os.map T.av from rfl, List.take_of_length_le (by rw [List.length_map, hol]; exact Nat.le_refl _)]
        simp [thaw, solids_map T.solid_av]
      obtain ⟨H2, hth⟩ := hth
      simp only [↓sd0, su0, su1, resOf, pack, eqCells, ↓reduceIte, Nat.reduceEqDiff, Nat.reduceAdd, Nat.reduceLeDiff, Nat.reduceLT, reduceCtorEq, h9, h23, h22, h6, hth]
      exact Or.inl ⟨os, rfl, hol, hos⟩

end Go.Proofs.Ytmbdccekcfeomaa.Am
end
/- The search's state; steps added. -/
section
open Go
namespace Go.Proofs.Ytmbdccekcfeomaa.Am
set_option linter.unusedSimpArgs false
set_option linter.unusedVariables false
set_option maxRecDepth 20000

/-! ### claims in order, with eight variables at most -/
def T.ok (t : T) : Prop := t.size ≤ 40 ∧ t.vt 8
def Cl.ok (c : Cl) : Prop := c.fs.length ≤ 6 ∧ ∀ f ∈ c.fs, f.l.ok ∧ f.r.ok
theorem vt_small {m : Nat} (hm : m < 1099511627776) (t : T) : t.vt m → t.small := by
  induction t using T.ind' with
  | h t ih =>
    intro h
    obtain ⟨⟨h0, h1, h2, h3⟩, hk⟩ := (T.vt_iff m t).1 h
    exact T.small_of (by omega) fun k hk' => ih k hk' (hk k hk')
theorem vt_most {m : Nat} (t : T) : t.vt m → t.most ≤ m := by
  induction t using T.ind' with
  | h t ih =>
    intro h
    obtain ⟨⟨h0, h1, h2, h3⟩, hk⟩ := (T.vt_iff m t).1 h
    rw [T.most_eq]
    have : T.mosts t.ks ≤ m := by
      generalize t.ks = ks at ih hk
      induction ks with
      | nil => rw [T.mosts]; omega
      | cons k ks ihk =>
        have a := ih k (List.mem_cons_self ..) (hk k (List.mem_cons_self ..))
        have b := ihk (fun x hx => ih x (List.mem_cons_of_mem _ hx)) (fun x hx => hk x (List.mem_cons_of_mem _ hx))
        rw [T.mosts]; omega
    omega
theorem nd_vt (t : T) : ∀ p, (t.nd p).1 = 0 → t.vt 8 := by
  induction t using T.ind' with
  | h t ih =>
    intro p h
    rw [T.nd_eq] at h
    split at h
    · simp at h
    · rename_i hh
      split at h
      · simp at h
      · rename_i hh2
        refine (T.vt_iff 8 t).2 ⟨⟨by omega, by omega, by omega, fun hn => ?_⟩, ?_⟩
        · exact List.length_eq_zero_iff.1 (by omega)
        generalize t.ks = ks at ih h
        clear hh2
        induction ks generalizing p with
        | nil => simp
        | cons k ks ihk =>
          rw [T.nds] at h
          split at h
          · rename_i hz
            intro x hx
            rcases List.mem_cons.1 hx with rfl | hx
            · exact ih _ (List.mem_cons_self ..) _ hz
            · exact ihk _ (fun y hy => ih y (List.mem_cons_of_mem _ hy)) h x hx
          · rename_i hz; exact absurd h hz
theorem bad_ok {t : T} (h : t.bad.1 = 0) : t.ok := by
  unfold T.bad at h
  split at h
  · simp at h
  · split at h
    · simp at h
    · split at h
      · rename_i a b c; exact ⟨by omega, nd_vt t 0 c⟩
      · rename_i a b c; exact absurd h c
theorem copy_vt {m : Nat} (t : T) : t.vt m → t.copy.vt m := by
  induction t using T.ind' with
  | h t ih =>
    intro h
    obtain ⟨⟨h0, h1, h2, h3⟩, hk⟩ := (T.vt_iff m t).1 h
    rw [T.copy_eq]
    refine (T.vt_iff m _).2 ⟨⟨h0, h1, h2, fun hn => ?_⟩, ?_⟩
    · show t.ks.map T.copy = []
      rw [h3 hn]; rfl
    · intro k hk'
      have hk'' : k ∈ t.ks.map T.copy := hk'
      rw [List.mem_map] at hk''
      obtain ⟨k0, hk0, rfl⟩ := hk''
      exact ih k0 hk0 (hk k0 hk0)
theorem copy_ok {t : T} (h : t.ok) : t.copy.ok := ⟨by rw [copy_size]; exact h.1, copy_vt t h.2⟩
theorem chk_ok {ar : List Int} {c : Cl} (h : c.chk ar = 0) : c.ok := by
  have := chk_trees h
  exact ⟨this.1, fun f hf => ⟨bad_ok (tchk_bad (this.2 f hf).1).1, bad_ok (tchk_bad (this.2 f hf).2).1⟩⟩
theorem T.ok_good {t : T} (h : t.ok) : t.good := ⟨h.1, vt_small (by omega) t h.2⟩
theorem Cl.ok_good {c : Cl} (h : c.ok) : c.good := ⟨h.1, fun f hf => ⟨T.ok_good (h.2 f hf).1, T.ok_good (h.2 f hf).2⟩⟩
theorem next_okc {l : Lo} {had : List Cl} {g : Gt} (h0 : l.chk.1 = 0) (h : (l.next had g).2 = 0) : (l.next had g).1.ok := by
  obtain ⟨c, hc, _⟩ := next_ok h
  rw [hc] at h ⊢
  obtain ⟨h1, h2⟩ := done_ok h0 h
  rw [h2]
  have hk := chk_ok h1
  refine ⟨by simpa [Cl.turn] using hk.1, ?_⟩
  intro x hx
  simp only [Cl.turn, List.mem_map] at hx
  obtain ⟨y, hy, rfl⟩ := hx
  exact ⟨copy_ok (hk.2 y hy).1, copy_ok (hk.2 y hy).2⟩

/-! ### the search's state -/
def nint (k : Nat) : AV := .int .i64 k
def opv (nil : Bool) (id n : Nat) : AV := if nil = true then .nilSlice else .lref id 0 n
structure SI where
  i2 : Nat
  i3 : Nat
  i4 : Nat
  i5 : Nat
  nil4 : Bool
  junk : List AV
structure SS where
  steps : List Gt
  had : List Cl
  opn : List Nat
  dn : List Nat
  lost : Bool
def sobj (l : Lo) (x : SI) (s : SS) : AV := .agg [ints l.anil l.ar, sl 1 l.cnil (l.cs.map Cl.el), lv x.i2 s.steps.length, lv x.i3 s.had.length, opv x.nil4 x.i4 s.opn.length, lv x.i5 s.dn.length, .bool s.lost]
structure Srch (H : Nat → Option Obj) (lo n sid : Nat) (l : Lo) (x : SI) (s : SS) : Prop where
  obj : H sid = some (.arr 7 [sobj l x s])
  lo' : lo ≤ sid ∧ lo ≤ x.i2 ∧ lo ≤ x.i3 ∧ lo ≤ x.i4 ∧ lo ≤ x.i5
  lt : sid < n ∧ x.i2 < n ∧ x.i3 < n ∧ x.i4 < n ∧ x.i5 < n
  ne : (sid ≠ x.i2 ∧ sid ≠ x.i3 ∧ sid ≠ x.i4 ∧ sid ≠ x.i5) ∧ (x.i2 ≠ x.i3 ∧ x.i2 ≠ x.i4 ∧ x.i2 ≠ x.i5) ∧ (x.i3 ≠ x.i4 ∧ x.i3 ≠ x.i5) ∧ x.i4 ≠ x.i5
  o2 : s.steps ≠ [] → H x.i2 = some (.arr 8 (s.steps.map Gt.av))
  o3 : s.had ≠ [] → H x.i3 = some (.arr 1 (s.had.map Cl.el))
  o4 : x.nil4 = true → s.opn = []
  o4' : x.nil4 = false → H x.i4 = some (.arr 1 (s.opn.map nint ++ x.junk))
  o5 : s.dn ≠ [] → H x.i5 = some (.arr 1 (s.dn.map nint))
/-- What is true of it. -/
structure Gd (l : Lo) (s : SS) : Prop where
  tk : l.takes [] s.steps = some s.had
  gf : ∀ g ∈ s.steps, g.fin
  gl : s.steps.length ≤ 400
  hl : s.had.length = s.steps.length
  ok : ∀ c ∈ s.had, c.ok
  op : ∀ k ∈ s.opn, k < s.had.length
  dn : ∀ k ∈ s.dn, k < s.had.length
  dl : s.opn.length ≤ s.had.length ∧ s.dn.length ≤ 100000
/-- What stays behind a call on it. -/
structure Ev (nx nx' sid : Nat) (x x' : SI) (s s' : SS) (H H' : Nat → Option Obj) : Prop where
  le : nx ≤ nx'
  i5 : x'.i5 = x.i5
  dn : s'.dn = s.dn
  i2 : x'.i2 = x.i2 ∨ nx ≤ x'.i2
  i3 : x'.i3 = x.i3 ∨ nx ≤ x'.i3
  i4 : x'.i4 = x.i4 ∨ nx ≤ x'.i4
  fr : ∀ j, j < nx → j ≠ sid → j ≠ x.i2 → j ≠ x.i3 → j ≠ x.i4 → H' j = H j
  had : s.had.length ≤ s'.had.length
theorem Ev.refl {nx nx' sid : Nat} {x : SI} {s : SS} {H : Nat → Option Obj} (h : nx ≤ nx') : Ev nx nx' sid x x s s H H := ⟨h, rfl, rfl, Or.inl rfl, Or.inl rfl, Or.inl rfl, fun _ _ _ _ _ _ => rfl, Nat.le_refl _⟩
theorem Ev.trans {n1 n2 n3 n4 sid : Nat} {x1 x2 x3 : SI} {s1 s2 s3 : SS} {H1 H2 H3 : Nat → Option Obj} (h1 : Ev n1 n2 sid x1 x2 s1 s2 H1 H2) (h2 : Ev n3 n4 sid x2 x3 s2 s3 H2 H3) (hn : n2 ≤ n3) : Ev n1 n4 sid x1 x3 s1 s3 H1 H3 where
  le := by have := h1.le; have := h2.le; omega
  i5 := by rw [h2.i5, h1.i5]
  dn := by rw [h2.dn, h1.dn]
  i2 := by have := h1.le; rcases h2.i2 with h | h; { rw [h]; exact h1.i2 }; { exact Or.inr (by omega) }
  i3 := by have := h1.le; rcases h2.i3 with h | h; { rw [h]; exact h1.i3 }; { exact Or.inr (by omega) }
  i4 := by have := h1.le; rcases h2.i4 with h | h; { rw [h]; exact h1.i4 }; { exact Or.inr (by omega) }
  fr j hj a b c d := by
    have := h1.le
    rw [h2.fr j (by omega) a (by rcases h1.i2 with h | h <;> omega) (by rcases h1.i3 with h | h <;> omega) (by rcases h1.i4 with h | h <;> omega), h1.fr j hj a b c d]
  had := by have := h1.had; have := h2.had; omega
theorem Srch.mono {H : Nat → Option Obj} {lo n n' sid : Nat} {l : Lo} {x : SI} {s : SS} (h : Srch H lo n sid l x s) (hn : n ≤ n') : Srch H lo n' sid l x s :=
  { obj := h.obj, lo' := h.lo', lt := by have := h.lt; omega, ne := h.ne, o2 := h.o2, o3 := h.o3, o4 := h.o4, o4' := h.o4', o5 := h.o5 }
theorem Srch.keep {H H' : Nat → Option Obj} {lo n sid : Nat} {l : Lo} {x : SI} {s : SS} (h : Srch H lo n sid l x s) (hf : ∀ j, j < n → H' j = H j) : Srch H' lo n sid l x s :=
  { obj := by rw [hf _ h.lt.1]; exact h.obj, lo' := h.lo', lt := h.lt, ne := h.ne
    o2 := fun a => by rw [hf _ h.lt.2.1]; exact h.o2 a
    o3 := fun a => by rw [hf _ h.lt.2.2.1]; exact h.o3 a
    o4 := h.o4
    o4' := fun a => by rw [hf _ h.lt.2.2.2.1]; exact h.o4' a
    o5 := fun a => by rw [hf _ h.lt.2.2.2.2]; exact h.o5 a }
theorem Srch.own3 {H : Nat → Option Obj} {lo n sid : Nat} {l : Lo} {x : SI} {s : SS} (h : Srch H lo n sid l x s) : Own H lo n 1 x.i3 (s.had.map Cl.el) := fun hne => ⟨h.lo'.2.2.1, h.lt.2.2.1, h.o3 fun h0 => hne (by rw [h0]; rfl)⟩
theorem Srch.own2 {H : Nat → Option Obj} {lo n sid : Nat} {l : Lo} {x : SI} {s : SS} (h : Srch H lo n sid l x s) : Own H lo n 8 x.i2 (s.steps.map Gt.av) := fun hne => ⟨h.lo'.2.1, h.lt.2.1, h.o2 fun h0 => hne (by rw [h0]; rfl)⟩
theorem Srch.own5 {H : Nat → Option Obj} {lo n sid : Nat} {l : Lo} {x : SI} {s : SS} (h : Srch H lo n sid l x s) : Own H lo n 1 x.i5 (s.dn.map nint) := fun hne => ⟨h.lo'.2.2.2.2, h.lt.2.2.2.2, h.o5 fun h0 => hne (by rw [h0]; rfl)⟩

/-- What a call on the search leaves. -/
def SP (lo sid : Nat) (l : Lo) (x : SI) (s : SS) (H : Nat → Option Obj) (nx : Nat) (H' : Nat → Option Obj) (nx' : Nat) (x' : SI) (s' : SS) : Prop :=
  Srch H' lo nx' sid l x' s' ∧ Gd l s' ∧ Ev nx nx' sid x x' s s' H H'

theorem chop_G (g : Gt) : chop 8 1 [.int .i64 g.kind, .int .i64 g.a, .int .i64 g.b, .int .i64 g.i, .int .i64 g.j, .bool g.turn, ints g.pnil g.place, sl 2 g.bnil (g.bind.map T.av)] = [g.av] := _root_.id rfl
theorem add_spec {lo sid wl nx : Nat} {l : Lo} {x : SI} {s : SS} {H : Nat → Option Obj} (hl : l.fin) (h0 : l.chk.1 = 0) (hs : Srch H lo nx sid l x s) (hg : Gd l s) (hwl : wl ≤ lo) (g : Gt) (hgf : g.fin) :
    Call tab wl 19 [.ptr sid 0 0, g.av] H nx fun r H' nx' => ∃ x' s', SP lo sid l x s H nx H' nx' x' s' ∧ s'.opn = s.opn ∧
      ((r = .tup [.int .i64 0, .bool false] ∧ s'.had = s.had) ∨ (∃ c, s'.had = s.had ++ [c] ∧ r = .tup [.int .i64 s.had.length, .bool true])) := by
  refine call_mut tab_19 ?_
  unfold body19
  dsimp only [qm, qf, ql, qL, qs, qc, qk, qi, qn, qb, qB, qe, qx, qo, qg]
  simp only [start2]
  have hobj := hs.obj
  unfold sobj at hobj
  have w1 : wl ≤ sid := by have := hs.lo'; omega
  have gf : ∀ g ∈ s.steps, g.fin := hg.gf
  -- the same, lost
  have lostOk : ∀ n', nx ≤ n' → ∃ x' s', SP lo sid l x s H nx (upd H sid (some (.arr 7 [sobj l x { s with lost := true }]))) n' x' s' ∧ s'.opn = s.opn ∧ s'.had = s.had := fun n' hn' => by
    obtain ⟨⟨n1, n2, n3, n4⟩, _⟩ := hs.ne
    refine ⟨x, { s with lost := true }, ⟨{ obj := upd_same _ _ _, lo' := hs.lo', lt := by have := hs.lt; omega, ne := hs.ne, o2 := fun a => ?_, o3 := fun a => ?_, o4 := hs.o4, o4' := fun a => ?_, o5 := fun a => ?_ }, { tk := hg.tk, gf := hg.gf, gl := hg.gl, hl := hg.hl, ok := hg.ok, op := hg.op, dn := hg.dn, dl := hg.dl }, ⟨hn', rfl, rfl, Or.inl rfl, Or.inl rfl, Or.inl rfl, fun j _ a _ _ _ => upd_other _ _ a, Nat.le_refl _⟩⟩, rfl, rfl⟩
    · rw [upd_other _ _ n1.symm]; exact hs.o2 a
    · rw [upd_other _ _ n2.symm]; exact hs.o3 a
    · rw [upd_other _ _ n3.symm]; exact hs.o4' a
    · rw [upd_other _ _ n4.symm]; exact hs.o5 a
  unfold sobj at lostOk
  by_cases c1 : s.steps.length = 400
  · have q1 : ((s.steps.length : Int) == 400) = true := by simp [c1]
    simp only [↓sd0, su0, su1, resOf, pack, eqCells, ↓reduceIte, Nat.reduceEqDiff, Nat.reduceAdd, Nat.reduceLeDiff, Nat.reduceLT, reduceCtorEq, hobj, q1, w1, List.set_cons_zero]
    obtain ⟨x', s', hsp, ho, hh⟩ := lostOk _ (Nat.le_add_right nx 15)
    exact ⟨x', s', hsp, ho, Or.inl hh⟩
  · have q1 : ((s.steps.length : Int) == 400) = false := by simp; omega
    have hhl : s.had.length < 4294967296 := by have := hg.hl; have := hg.gl; omega
    have hnx : ∀ n', C tab wl 40 [.agg [ints l.anil l.ar, sl 1 l.cnil (l.cs.map Cl.el)], lv x.i3 s.had.length, g.av] H n' = some (.tup [(l.next s.had g).1.av, .int .i64 (l.next s.had g).2], H, n') := fun n' => next_spec l hl s.had (fun c hc => Cl.ok_good (hg.ok c hc)) hhl g hgf (Sees.lv hs.own3 rfl Cl.part_el) (wl := wl) (nx := n')
    by_cases c2 : (l.next s.had g).2 = 0
    · rw [c2] at hnx
      generalize hcc : (l.next s.had g).1 = c at hnx
      have hcok : c.ok := by rw [← hcc]; exact next_okc h0 c2
      have hap1 := append_to (wl := wl) (bytes := 96) g.av hs.own2 (n := s.steps.length) (by simp) hwl (by have := hg.gl; omega)
      obtain ⟨⟨n1, n2, n3, n4⟩, ⟨n5, n6, n7⟩, ⟨n8, n9⟩, n10⟩ := hs.ne
      obtain ⟨t1, t2, t3, t4, t5⟩ := hs.lt
      obtain ⟨p1, p2, p3, p4, p5⟩ := hs.lo'
      have kn := fun j => @kill_other H x.i2 s.steps.length j
      have hG : ∀ (k : Nat) (o : Option Obj), upd (kill H x.i2 s.steps.length) (nx + k) o sid = H sid := fun k o => by
        rw [upd_other _ _ (by omega), kill_other (fun _ => n1)]
      have hap2 := fun (k : Nat) (o : Option Obj) (o2 : Option Obj) => append_to (wl := wl) (lo := lo) (hi := nx) (bytes := 24) (H := upd (upd (kill H x.i2 s.steps.length) (nx + k) o) sid o2) (id := x.i3) (sz := 1) (es := s.had.map Cl.el) c.el (fun hne => ⟨p3, t3, by
        rw [upd_other _ _ n2.symm, upd_other _ _ (by omega), kill_other (fun _ => n5.symm)]; exact hs.o3 fun h => hne (by rw [h]; rfl)⟩) (n := s.had.length) (by simp) hwl (by omega)
      have hwm : IntKind.i64.wrap (((s.had.length + 1 : Nat) : Int) - 1) = (s.had.length : Int) := by rw [wrap64 (by omega) (by omega)]; omega
      have hks : kill H x.i2 s.steps.length sid = H sid := kill_other (fun _ => n1)
      have hks3 : ∀ F : Nat → Option Obj, kill F x.i3 s.had.length sid = F sid := fun F => kill_other (fun _ => n2)
      have hsn : ∀ k, ¬ (sid = nx + k) := fun k => by omega
      simp only [↓sd0, su0, su1, resOf, pack, eqCells, ↓reduceIte, Nat.reduceEqDiff, Nat.reduceAdd, Nat.reduceLeDiff, Nat.reduceLT, reduceCtorEq, dr0, Nat.reducePow, Nat.reduceDiv, Nat.reduceMod, Nat.reduceBEq, hobj, q1, w1, List.set_cons_zero, callK_eq (hnx _), chop_G, hap1, hap2, hwm, hks, hks3, hsn]
      generalize hF : upd (upd (kill (upd (upd (kill H x.i2 s.steps.length) (nx + 34) (some (.arr 8 (s.steps.map Gt.av ++ [g.av])))) sid (some (.arr 7 [.agg [ints l.anil l.ar, sl 1 l.cnil (l.cs.map Cl.el), lv (nx + 34) (s.steps.length + 1), lv x.i3 s.had.length, opv x.nil4 x.i4 s.opn.length, lv x.i5 s.dn.length, .bool s.lost]]))) x.i3 s.had.length) (nx + 45) (some (.arr 1 (s.had.map Cl.el ++ [c.el])))) sid (some (.arr 7 [.agg [ints l.anil l.ar, sl 1 l.cnil (l.cs.map Cl.el), lv (nx + 34) (s.steps.length + 1), lv (nx + 45) (s.had.length + 1), opv x.nil4 x.i4 s.opn.length, lv x.i5 s.dn.length, .bool s.lost]])) = F
      have hfr : ∀ j, j < nx → j ≠ sid → j ≠ x.i2 → j ≠ x.i3 → F j = H j := fun j hj a b c => by
        rw [← hF, upd_other _ _ a, upd_other _ _ (by omega), kill_other (fun _ => c), upd_other _ _ a, upd_other _ _ (by omega), kill_other (fun _ => b)]
      refine ⟨{ x with i2 := nx + 34, i3 := nx + 45 }, { s with steps := s.steps ++ [g], had := s.had ++ [c] }, ⟨?_, ?_, ?_⟩, rfl, Or.inr ⟨c, by first | rfl | exact ⟨rfl, rfl⟩⟩⟩
      · exact
          { obj := by rw [← hF, upd_same]; simp [sobj]
            lo' := by simp only; omega
            lt := by simp only; omega
            ne := by simp only; omega
            o2 := fun _ => by
              simp only
              rw [← hF, upd_other _ _ (by omega), upd_other _ _ (by omega), kill_other (fun _ => by omega), upd_other _ _ (by omega), upd_same]; simp
            o3 := fun _ => by
              simp only
              rw [← hF, upd_other _ _ (by omega), upd_same]; simp
            o4 := hs.o4
            o4' := fun a => by
              simp only
              rw [hfr _ t4 (by omega) (by omega) (by omega)]; exact hs.o4' a
            o5 := fun a => by
              simp only
              rw [hfr _ t5 (by omega) (by omega) (by omega)]; exact hs.o5 a }
      · exact
          { tk := by
              simp only
              rw [← hcc]; exact takes_add _ _ _ _ hg.tk c2
            gf := fun y hy => by
              rcases List.mem_append.1 hy with h | h
              · exact hg.gf y h
              · simp at h; subst h; exact hgf
            gl := by have := hg.gl; simp; omega
            hl := by simp [hg.hl]
            ok := fun y hy => by
              rcases List.mem_append.1 hy with h | h
              · exact hg.ok y h
              · simp at h; subst h; exact hcok
            op := fun k hk => by have := hg.op k hk; simp; omega
            dn := fun k hk => by have := hg.dn k hk; simp; omega
            dl := by have := hg.dl; refine ⟨?_, this.2⟩; simp; omega }
      · exact ⟨by omega, rfl, rfl, Or.inr (by simp only; omega), Or.inr (by simp only; omega), Or.inl rfl, fun j hj a b c _ => hfr j hj a b c, by simp⟩
    · have q2 : ((l.next s.had g).2 != 0) = true := by simp [c2]
      simp only [↓sd0, su0, su1, resOf, pack, eqCells, ↓reduceIte, Nat.reduceEqDiff, Nat.reduceAdd, Nat.reduceLeDiff, Nat.reduceLT, reduceCtorEq, dr0, Nat.reducePow, Nat.reduceDiv, Nat.reduceMod, Nat.reduceBEq, hobj, q1, w1, List.set_cons_zero, callK_eq (hnx _), q2]
      obtain ⟨x', s', hsp, ho, hh⟩ := lostOk _ (Nat.le_add_right nx 33)
      exact ⟨x', s', hsp, ho, Or.inl hh⟩

end Go.Proofs.Ytmbdccekcfeomaa.Am
end
