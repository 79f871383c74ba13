/- The search: into. -/
import Derived.Test.YtmbdccekcfeomaaT41
section
open Go
namespace Go.Proofs.Ytmbdccekcfeomaa.Am
set_option linter.unusedSimpArgs false
set_option linter.unusedVariables false
set_option maxRecDepth 20000

theorem vt_up {m m' : Nat} (t : T) : t.vt m → m ≤ m' → t.vt m' := fun h hm => vt_le t h (by have := vt_most t h; omega)
theorem into_spec {lo sid wl nx : Nat} {l : Lo} {x : SI} {s : SS} {H : Nat → Option Obj} (hl : l.fin) (h0 : l.chk.1 = 0) (hs : Srch H lo nx sid l x s) (hg : Gd l s) (hwl : wl ≤ lo) (hwn : wl ≤ nx) {a b : Nat} (ha : a < s.had.length) (hb : b < s.had.length) :
    Call tab wl 51 [.ptr sid 0 0, .int .i64 a, .int .i64 b] H nx fun r H' nx' => KeepR lo sid l x s H nx r H' nx' := by
  refine call_mut tab_51 ?_
  unfold body51
  dsimp only [qm, qf, ql, qL, qs, qc, qk, qi, qn, qb, qB, qe, qx, qo, qg]
  simp only [start3]
  have hobj := hs.obj
  unfold sobj at hobj
  have hha := hs.had_at ha
  have hhb := hs.had_at hb
  have hoa := hg.ok _ (List.getElem_mem ha)
  have hob := hg.ok _ (List.getElem_mem hb)
  have hma := cmost_ok hoa
  have hmb := cmost_ok hob
  have hmak := most_ok hoa
  have hmbk := most_ok hob
  have hib : ∀ (H1 : Nat → Option Obj), (∀ j, j < nx → H1 j = H j) → iaddrV H1 1 (lv x.i3 s.had.length) (.int .i64 b) = some (.ptr x.i3 b 0) := fun H1 hf => ((hs.keep hf).had_at hb).1
  have hia : ∀ (H1 : Nat → Option Obj), (∀ j, j < nx → H1 j = H j) → iaddrV H1 1 (lv x.i3 s.had.length) (.int .i64 a) = some (.ptr x.i3 a 0) := fun H1 hf => ((hs.keep hf).had_at ha).1
  generalize s.had[a] = ca at *
  generalize s.had[b] = cb at *
  have hlt := hs.lt
  have hsn : ∀ j, ¬ (sid = nx + j) := fun j => by omega
  have hin : ∀ j, ¬ (x.i3 = nx + j) := fun j => by omega
  have hwq : ∀ k, wl ≤ nx + k := fun k => by omega
  have cal : ca.fs.length < 4294967296 := by have := hoa.1; omega
  have cbl : cb.fs.length < 4294967296 := by have := hob.1; omega
  have hib2 := fun k o o2 => hib (upd (upd H (nx + k) o) (nx + k) o2) (fun j hj => by rw [upd_other _ _ (by omega), upd_other _ _ (by omega)])
  simp only [↓sd0, su0, su1, resOf, pack, eqCells, ↓reduceIte, Nat.reduceEqDiff, Nat.reduceAdd, Nat.reduceLeDiff, Nat.reduceLT, reduceCtorEq, hobj, hha.1, hha.2, hhb.1, hhb.2, hma.callK, hsn, hin, hwq, true_and, hib2, List.set_cons_zero]
  generalize hH1 : upd (upd H (nx + 9) (some (.arr 1 [.int .i64 0]))) (nx + 9) (some (.arr 1 [.int .i64 ca.most])) = H1
  have hf1 : ∀ j, j < nx → H1 j = H j := fun j hj => by rw [← hH1, upd_other _ _ (by omega), upd_other _ _ (by omega)]
  have hv1 : H1 (nx + 9) = some (.arr 1 [.int .i64 ca.most]) := by rw [← hH1, upd_same]
  have hgood : ∀ t : T, t.ok → t.size < 1099511627776 ∧ t.small := fun t ht => by have := T.ok_good ht; exact ⟨by have := this.1; omega, this.2⟩
  refine CallK_of (turn_at cb 81 [.ptr (nx + 9) 0 0] (T.moved ca.most) pureOf_81 rfl (by omega) (fun f hf wl' H' n' hfr => ?_)) ?_
  · have hv' : H' (nx + 9) = some (.arr 1 [.int .i64 ca.most]) := by rw [hfr _ (by omega)]; exact hv1
    have h1 := hgood _ (hob.2 f hf).1
    have h2 := hgood _ (hob.2 f hf).2
    exact ⟨into1_spec hv' (by omega) _ h1.1 h1.2, into1_spec hv' (by omega) _ h2.1 h2.2⟩
  rintro r H2 n2 ⟨rfl, rfl, rfl⟩
  have hmo : ∀ f ∈ (cb.turn (T.moved ca.most)).fs, (f.l.size ≤ 40 ∧ f.r.size ≤ 40) ∧ f.l.vt 16 ∧ f.r.vt 16 := fun f hf => by
    simp only [Cl.turn, List.mem_map] at hf
    obtain ⟨g, hg', rfl⟩ := hf
    have hgo := hob.2 g hg'
    refine ⟨⟨by rw [moved_size]; exact hgo.1.1, by rw [moved_size]; exact hgo.2.1⟩, ?_, ?_⟩
    · exact vt_up _ (moved_vt _ hgo.1.2) (by omega)
    · exact vt_up _ (moved_vt _ hgo.2.2) (by omega)
  have htl : (cb.turn (T.moved ca.most)).fs.length < 4294967296 := by simp [Cl.turn]; exact cbl
  have hmm := cmost_spec (cb.turn (T.moved ca.most)) htl (fun f hf => by
    have := hmo f hf
    exact ⟨⟨by omega, vt_small (by omega) _ this.2.1⟩, by omega, vt_small (by omega) _ this.2.2⟩)
  generalize hct : cb.turn (T.moved ca.most) = ct at hmo hmm htl
  have hmc : ∀ g ∈ ct.fs, g.l.vt (max ca.most ct.most) ∧ g.r.vt (max ca.most ct.most) := fun g hg' => by
    have h1 := hmo g hg'
    have h2 := mostsF_mem hg'
    have h3 : ct.most = mostsF ct.fs := rfl
    exact ⟨vt_le _ h1.2.1 (by omega), vt_le _ h1.2.2 (by omega)⟩
  have hcam : ca.most = mostsF ca.fs := rfl
  have hvn : ∀ k, ¬ (nx + 9 = nx + k) ∨ k = 9 := fun k => by omega
  have hmx : maxI (ca.most : Int) (ct.most : Int) = ((max ca.most ct.most : Nat) : Int) := by unfold maxI; split <;> omega
  have hs1 := hs.keep hf1
  have hobj1 := hs1.obj
  unfold sobj at hobj1
  have w1 : wl ≤ sid := by have := hs.lo'; omega
  by_cases c8 : max ca.most ct.most > 8
  · have q : decide (((max ca.most ct.most : Nat) : Int) > 8) = true := decide_eq_true (by omega)
    simp only [↓sd0, su0, su1, resOf, pack, eqCells, ↓reduceIte, Nat.reduceEqDiff, Nat.reduceAdd, Nat.reduceLeDiff, Nat.reduceLT, reduceCtorEq, dr0, Nat.reducePow, Nat.reduceDiv, Nat.reduceMod, Nat.reduceBEq, hv1, hmm.callK, hmx, q, hobj1, w1, List.set_cons_zero]
    have hlost := lost_SP (hs1.mono (n' := nx + 22) (by omega)) hg (n' := nx + 22) (Nat.le_refl _)
    unfold sobj at hlost
    have hsp := SP.trans (SP.start hs hg (n' := nx + 22) (by omega) hf1) hlost (Nat.le_refl _) (fun _ _ => rfl)
    exact ⟨x, _, false, hsp.more (by omega) (fun _ _ => rfl), rfl, by simp⟩
  have q : decide (((max ca.most ct.most : Nat) : Int) > 8) = false := decide_eq_false (by omega)
  have hib1 := hib H2 hf1
  have hmk : mkV 32 (.int .i64 cb.most) (.int .i64 cb.most) = some cb.most := mkV_nat (by omega)
  have hrep : List.replicate cb.most (AV.agg [.int .i64 0, .nilSlice]) = (List.replicate cb.most (T.var 0)).map T.av := by simp [var_av]
  have hhb1 : objV b (H2 x.i3) = some cb.el := by rw [hf1 _ hlt.2.2.1]; exact hhb.2
  simp only [↓sd0, su0, su1, resOf, pack, eqCells, ↓reduceIte, Nat.reduceEqDiff, Nat.reduceAdd, Nat.reduceLeDiff, Nat.reduceLT, reduceCtorEq, dr0, Nat.reducePow, Nat.reduceDiv, Nat.reduceMod, Nat.reduceBEq, hv1, hmm.callK, hmb.callK, hmx, q, hobj1, hib1, hhb1, hmk, hrep]
  refine W_count cb.most (fun i e lc H' n => nx ≤ n ∧ (∀ j, j < nx → H' j = H j) ∧ H' (nx + 9) = some (.arr 1 [.int .i64 ca.most]) ∧ (e 0 = .ptr sid 0 0 ∧ e 1 = .int .i64 a ∧ e 2 = .int .i64 b ∧ e 7 = .ptr (nx + 9) 0 0 ∧ e 9 = .int .i64 (max ca.most ct.most : Nat) ∧ ∃ m, e 8 = .loc 8 m 0 ∧ lc 8 = some (m, ct.av)) ∧ (∃ idr, nx + 10 ≤ idr ∧ e 10 = .lref idr 0 cb.most ∧ ∃ ts : List T, H' idr = some (.arr 2 (ts.map T.av)) ∧ ts.length = cb.most ∧ ∀ t ∈ ts, t.size ≤ 1) ∧ e 63 = .int .i64 cb.most ∧ e 64 = .int .i64 i) ?_ ?_ ?_
  · simp only [↓sd0, su0, su1, resOf, pack, eqCells, ↓reduceIte, Nat.reduceEqDiff, Nat.reduceAdd, Nat.reduceLeDiff, Nat.reduceLT, reduceCtorEq]
    refine ⟨fun j hj => ?_, ?_, ⟨_, rfl, rfl⟩, _, ?_, rfl, List.replicate cb.most (T.var 0), ?_, by simp, fun t ht => ?_⟩
    · rw [if_neg (by omega)]; exact hf1 j hj
    · rw [if_neg (by omega)]; exact hv1
    · omega
    · simp
    · rw [(List.mem_replicate.1 ht).2]; decide
  · rintro i e lc H' n hi ⟨hn, hf, hv, ⟨e0', e1, e2, e7, e9, m8, e8, l8⟩, ⟨idr, hidr, e10, ts, hts, htsl, htss⟩, e63, e64⟩
    have hia3 := iaddr_lref (i := i) (n := cb.most) hts hi
    have hi3 : i < ts.length := by omega
    have hget : (ts.map T.av)[i]? = some ts[i].av := by simp [hi3]
    have hwi := wrap_succ hi (by omega)
    have l2 : wl ≤ idr := by omega
    simp only [↓sd0, su0, su1, resOf, pack, eqCells, ↓reduceIte, Nat.reduceEqDiff, Nat.reduceAdd, Nat.reduceLeDiff, Nat.reduceLT, reduceCtorEq, e0', e1, e2, e7, e9, e8, l8, e10, e63, e64, lt_cast hi, hv, hia3, hts, hget, l2, var_av, hwi]
    generalize IntKind.i64.wrap (IntKind.i64.wrap (IntKind.i64.wrap (0 - (i : Int)) - 1) - (ca.most : Int)) = z
    refine ⟨by omega, fun j hj => by rw [if_neg (by omega)]; exact hf j hj, by rw [if_neg (by omega)], ⟨_, rfl, rfl⟩, idr, hidr, rfl, ts.set i (T.var z), by rw [if_pos rfl, List.map_set], by simpa using htsl, fun t ht => ?_⟩
    rcases List.mem_or_eq_of_mem_set ht with h | rfl
    · exact htss t h
    · rw [var_size]; omega
  · rintro e lc H' n ⟨hn, hf, hv, ⟨e0', e1, e2, e7, e9, m8, e8, l8⟩, ⟨idr, hidr, e10, ts, hts, htsl, htss⟩, e63, e64⟩
    have q : decide (((cb.most : Nat) : Int) < cb.most) = false := by simp
    have hth : ∀ (e : Nat → AV) (lo' : Nat → Option (Nat × AV)) (n : Nat), e 10 = .lref idr 0 cb.most → pres wl [(false, 10)] ⟨e, lo', H', n⟩ = some ⟨upd e 10 (.slice 2 (ts.map T.av)), lo', upd H' idr none, n⟩ := fun e lo' n he => thaw_bind (wl := wl) (n := n) (lo' := lo') he (by omega) hts htsl
    have hf5 : ∀ j, j < nx → upd H' idr none j = H j := fun j hj => by rw [upd_other _ _ (by omega)]; exact hf j hj
    generalize upd H' idr none = H5 at hf5 hth
    have hobj5 := (hs.keep hf5).obj
    unfold sobj at hobj5
    have hia5 := hia H5 hf5
    have hha5 : objV a (H5 x.i3) = some ca.el := by rw [hf5 _ hlt.2.2.1]; exact hha.2
    have hpa := Cl.part_elfs ca
    simp only [↓sd0, su0, su1, resOf, pack, eqCells, ↓reduceIte, Nat.reduceEqDiff, Nat.reduceAdd, Nat.reduceLeDiff, Nat.reduceLT, reduceCtorEq, e0', e1, e2, e7, e9, e8, l8, e10, e63, e64, q, hth, hobj5, hia5, hha5, hpa]
    refine W_count ca.fs.length (fun i e lc H' n => (∃ x' s', SP lo sid l x s H nx H' n x' s') ∧ (e 0 = .ptr sid 0 0 ∧ e 1 = .int .i64 a ∧ e 2 = .int .i64 b ∧ e 9 = .int .i64 (max ca.most ct.most : Nat) ∧ e 8 = .loc 8 m8 0 ∧ lc 8 = some (m8, ct.av) ∧ e 10 = .slice 2 (ts.map T.av) ∧ e 84 = sl 5 ca.nil (ca.fs.map Fa.av) ∧ e 85 = .int .i64 ca.fs.length) ∧ e 86 = .int .i64 i) ?_ ?_ ?_
    · simp only [↓sd0, su0, su1, resOf, pack, eqCells, ↓reduceIte, Nat.reduceEqDiff, Nat.reduceAdd, Nat.reduceLeDiff, Nat.reduceLT, reduceCtorEq, e0', e1, e2, e7, e9, e8, l8]
      exact ⟨x, s, SP.start hs hg (by omega) hf5⟩
    · clear e0' e1 e2 e7 e9 e8 l8 e10 e63 e64 hth hobj5 hia5 hha5 hf5 hts hv hf hn
      clear e lc H' n H5
      rintro i e lc H' n hi ⟨⟨x2, s2, hsp⟩, ⟨e0', e1, e2, e9, e8, l8, e10, e84, e85⟩, e86⟩
      have hwi := wrap_succ hi (by omega)
      have hfo := hoa.2 _ (List.getElem_mem hi)
      have hfm := mostsF_mem (List.getElem_mem hi)
      have hif : ∀ H, iaddrV H 5 (sl 5 ca.nil (ca.fs.map Fa.av)) (.int .i64 i) = some (.fptr ca.fs[i].av 0) := fun H => iaddr_map hi
      generalize ca.fs[i] = f at hfo hfm hif
      cases hfn : f.n
      · simp only [↓sd0, su0, su1, resOf, pack, eqCells, ↓reduceIte, Nat.reduceEqDiff, Nat.reduceAdd, Nat.reduceLeDiff, Nat.reduceLT, reduceCtorEq, e0', e1, e2, e9, e8, l8, e10, e84, e85, e86, lt_cast hi, hif, hfn]
        refine W_count 2 (fun d e lc H' n => (∃ x' s', SP lo sid l x s H nx H' n x' s') ∧ (e 0 = .ptr sid 0 0 ∧ e 1 = .int .i64 a ∧ e 2 = .int .i64 b ∧ e 9 = .int .i64 (max ca.most ct.most : Nat) ∧ e 8 = .loc 8 m8 0 ∧ lc 8 = some (m8, ct.av) ∧ e 10 = .slice 2 (ts.map T.av) ∧ e 84 = sl 5 ca.nil (ca.fs.map Fa.av) ∧ e 85 = .int .i64 ca.fs.length) ∧ e 86 = .int .i64 i ∧ e 12 = .int .i64 i ∧ (∃ m, e 13 = .loc 13 m 0 ∧ lc 13 = some (m, f.av)) ∧ e 93 = .agg [.bool false, .bool true] ∧ e 94 = .int .i64 d) ?_ ?_ ?_
        · simp only [↓sd0, su0, su1, resOf, pack, eqCells, ↓reduceIte, Nat.reduceEqDiff, Nat.reduceAdd, Nat.reduceLeDiff, Nat.reduceLT, reduceCtorEq, e0', e1, e2, e9, e8, l8, e10, e84, e85, e86]
          exact ⟨⟨x2, s2, hsp.more (by omega) (fun _ _ => rfl)⟩, _, rfl, rfl⟩
        · clear hsp e0' e1 e2 e9 e8 l8 e10 e84 e85 e86
          clear e lc H' n x2 s2
          rintro d e lc H' n hd ⟨⟨x2, s2, hsp⟩, ⟨e0', e1, e2, e9, e8, l8, e10, e84, e85⟩, e86, e12, ⟨m13, e13, l13⟩, e93, e94⟩
          have hwd := wrap_succ hd (by omega)
          by_cases h1 : d = 1
          · have hix := indexA_bool hd
            have qt : decide (d = 1) = true := by simp [h1]
            rw [qt] at hix
            obtain ⟨ro, hov⟩ := over_spec f.l f.r (by have := hfo.1.1; have := hfo.2.1; omega) (by have := hfo.1.1; have := hfo.2.1; omega)
            cases q1 : decide (f.r.h < 0)
            · cases ro
              · simp only [↓sd0, su0, su1, resOf, pack, eqCells, ↓reduceIte, Nat.reduceEqDiff, Nat.reduceAdd, Nat.reduceLeDiff, Nat.reduceLT, reduceCtorEq, dr0, Nat.reducePow, Nat.reduceDiv, Nat.reduceMod, Nat.reduceBEq, e0', e1, e2, e9, e8, l8, e10, e84, e85, e86, e12, e13, l13, e93, e94, lt_two hd, hix, q1, hov.callK]
                refine W_block.1 (into6 (sid := sid) (x := x) (s := s) (H := H) (H' := H') (x' := x2) (s' := s2) (n := _) (m := max ca.most ct.most) hl h0 hwl hwn (by omega) a b (rs := ts) (by omega) (fun t ht => by have := htss t ht; omega) (u := f.r) (by have := hfo; have := hfm; exact vt_le _ (by first | exact hfo.1.2 | exact hfo.2.2) (by omega)) (by have := hfo.1.1; have := hfo.2.1; omega) (gn := ct.nil) (gs := ct.fs) htl (fun g hg' => ⟨(hmo g hg').1, hmc g hg'⟩) (i := i) (t := true) ?_ ?_ ?_ ?_ ?_ ?_ ?_ ?_ ?_ ?_ ?_ ?_ ?_ ?_)
                · exact hsp.more (by omega) (fun _ _ => rfl)
                all_goals try (simp only [↓sd0, su0, su1, resOf, pack, eqCells, ↓reduceIte, Nat.reduceEqDiff, Nat.reduceAdd, Nat.reduceLeDiff, Nat.reduceLT, reduceCtorEq, e0', e1, e2, e9, e8, l8, e10, e84, e85, e86, e12, e13, l13, e93, e94])
                · exact ⟨_, rfl, rfl⟩
                · intro e' lc' H3 n' x3 s3 hsp3 b0 b1 b2 b8 b9 b10 b12 b13 b15 b16 b84 b85 b86 b93 b94 d8 d13 d16
                  try simp only [↓sd0, su0, su1, resOf, pack, eqCells, ↓reduceIte, Nat.reduceEqDiff, Nat.reduceAdd, Nat.reduceLeDiff, Nat.reduceLT, reduceCtorEq, e0', e1, e2, e9, e8, l8, e10, e84, e85, e86, e12, e13, l13, e93, e94] at b0 b1 b2 b8 b9 b10 b12 b13 b15 b16 b84 b85 b86 b93 b94 d8 d13 d16
                  simp only [↓sd0, su0, su1, resOf, pack, eqCells, ↓reduceIte, Nat.reduceEqDiff, Nat.reduceAdd, Nat.reduceLeDiff, Nat.reduceLT, reduceCtorEq, b0, b1, b2, b8, b9, b10, b12, b13, b15, b16, b84, b85, b86, b93, b94, d8, d13, d16, hwd]
                  exact ⟨⟨x3, s3, hsp3.more (by omega) (fun _ _ => rfl)⟩, _, rfl, rfl⟩
                · intro e' lc' H3 n' x3 s3 hsp3 b6 hb
                  simp only [↓sd0, su0, su1, resOf, pack, eqCells, ↓reduceIte, Nat.reduceEqDiff, Nat.reduceAdd, Nat.reduceLeDiff, Nat.reduceLT, reduceCtorEq, b6]
                  exact ⟨x3, s3, true, hsp3, rfl, fun _ => hb⟩
              · simp only [↓sd0, su0, su1, resOf, pack, eqCells, ↓reduceIte, Nat.reduceEqDiff, Nat.reduceAdd, Nat.reduceLeDiff, Nat.reduceLT, reduceCtorEq, dr0, Nat.reducePow, Nat.reduceDiv, Nat.reduceMod, Nat.reduceBEq, e0', e1, e2, e9, e8, l8, e10, e84, e85, e86, e12, e13, l13, e93, e94, lt_two hd, hix, q1, hov.callK, hwd]
                exact ⟨⟨x2, s2, hsp.more (by omega) (fun _ _ => rfl)⟩, _, rfl, rfl⟩
            · simp only [↓sd0, su0, su1, resOf, pack, eqCells, ↓reduceIte, Nat.reduceEqDiff, Nat.reduceAdd, Nat.reduceLeDiff, Nat.reduceLT, reduceCtorEq, dr0, Nat.reducePow, Nat.reduceDiv, Nat.reduceMod, Nat.reduceBEq, e0', e1, e2, e9, e8, l8, e10, e84, e85, e86, e12, e13, l13, e93, e94, lt_two hd, hix, q1, hwd]
              exact ⟨⟨x2, s2, hsp.more (by omega) (fun _ _ => rfl)⟩, _, rfl, rfl⟩
          · have hix := indexA_bool hd
            have qt : decide (d = 1) = false := by simp [h1]
            rw [qt] at hix
            obtain ⟨ro, hov⟩ := over_spec f.r f.l (by have := hfo.1.1; have := hfo.2.1; omega) (by have := hfo.1.1; have := hfo.2.1; omega)
            cases q1 : decide (f.l.h < 0)
            · cases ro
              · simp only [↓sd0, su0, su1, resOf, pack, eqCells, ↓reduceIte, Nat.reduceEqDiff, Nat.reduceAdd, Nat.reduceLeDiff, Nat.reduceLT, reduceCtorEq, dr0, Nat.reducePow, Nat.reduceDiv, Nat.reduceMod, Nat.reduceBEq, e0', e1, e2, e9, e8, l8, e10, e84, e85, e86, e12, e13, l13, e93, e94, lt_two hd, hix, q1, hov.callK]
                refine W_block.1 (into6 (sid := sid) (x := x) (s := s) (H := H) (H' := H') (x' := x2) (s' := s2) (n := _) (m := max ca.most ct.most) hl h0 hwl hwn (by omega) a b (rs := ts) (by omega) (fun t ht => by have := htss t ht; omega) (u := f.l) (by have := hfo; have := hfm; exact vt_le _ (by first | exact hfo.1.2 | exact hfo.2.2) (by omega)) (by have := hfo.1.1; have := hfo.2.1; omega) (gn := ct.nil) (gs := ct.fs) htl (fun g hg' => ⟨(hmo g hg').1, hmc g hg'⟩) (i := i) (t := false) ?_ ?_ ?_ ?_ ?_ ?_ ?_ ?_ ?_ ?_ ?_ ?_ ?_ ?_)
                · exact hsp.more (by omega) (fun _ _ => rfl)
                all_goals try (simp only [↓sd0, su0, su1, resOf, pack, eqCells, ↓reduceIte, Nat.reduceEqDiff, Nat.reduceAdd, Nat.reduceLeDiff, Nat.reduceLT, reduceCtorEq, e0', e1, e2, e9, e8, l8, e10, e84, e85, e86, e12, e13, l13, e93, e94])
                · exact ⟨_, rfl, rfl⟩
                · intro e' lc' H3 n' x3 s3 hsp3 b0 b1 b2 b8 b9 b10 b12 b13 b15 b16 b84 b85 b86 b93 b94 d8 d13 d16
                  try simp only [↓sd0, su0, su1, resOf, pack, eqCells, ↓reduceIte, Nat.reduceEqDiff, Nat.reduceAdd, Nat.reduceLeDiff, Nat.reduceLT, reduceCtorEq, e0', e1, e2, e9, e8, l8, e10, e84, e85, e86, e12, e13, l13, e93, e94] at b0 b1 b2 b8 b9 b10 b12 b13 b15 b16 b84 b85 b86 b93 b94 d8 d13 d16
                  simp only [↓sd0, su0, su1, resOf, pack, eqCells, ↓reduceIte, Nat.reduceEqDiff, Nat.reduceAdd, Nat.reduceLeDiff, Nat.reduceLT, reduceCtorEq, b0, b1, b2, b8, b9, b10, b12, b13, b15, b16, b84, b85, b86, b93, b94, d8, d13, d16, hwd]
                  exact ⟨⟨x3, s3, hsp3.more (by omega) (fun _ _ => rfl)⟩, _, rfl, rfl⟩
                · intro e' lc' H3 n' x3 s3 hsp3 b6 hb
                  simp only [↓sd0, su0, su1, resOf, pack, eqCells, ↓reduceIte, Nat.reduceEqDiff, Nat.reduceAdd, Nat.reduceLeDiff, Nat.reduceLT, reduceCtorEq, b6]
                  exact ⟨x3, s3, true, hsp3, rfl, fun _ => hb⟩
              · simp only [↓sd0, su0, su1, resOf, pack, eqCells, ↓reduceIte, Nat.reduceEqDiff, Nat.reduceAdd, Nat.reduceLeDiff, Nat.reduceLT, reduceCtorEq, dr0, Nat.reducePow, Nat.reduceDiv, Nat.reduceMod, Nat.reduceBEq, e0', e1, e2, e9, e8, l8, e10, e84, e85, e86, e12, e13, l13, e93, e94, lt_two hd, hix, q1, hov.callK, hwd]
                exact ⟨⟨x2, s2, hsp.more (by omega) (fun _ _ => rfl)⟩, _, rfl, rfl⟩
            · simp only [↓sd0, su0, su1, resOf, pack, eqCells, ↓reduceIte, Nat.reduceEqDiff, Nat.reduceAdd, Nat.reduceLeDiff, Nat.reduceLT, reduceCtorEq, dr0, Nat.reducePow, Nat.reduceDiv, Nat.reduceMod, Nat.reduceBEq, e0', e1, e2, e9, e8, l8, e10, e84, e85, e86, e12, e13, l13, e93, e94, lt_two hd, hix, q1, hwd]
              exact ⟨⟨x2, s2, hsp.more (by omega) (fun _ _ => rfl)⟩, _, rfl, rfl⟩
        · rintro e lc H' n ⟨⟨x2, s2, hsp⟩, ⟨e0', e1, e2, e9, e8, l8, e10, e84, e85⟩, e86, e12, ⟨m13, e13, l13⟩, e93, e94⟩
          have q : decide (((2 : Nat) : Int) < 2) = false := by decide
          simp only [↓sd0, su0, su1, resOf, pack, eqCells, ↓reduceIte, Nat.reduceEqDiff, Nat.reduceAdd, Nat.reduceLeDiff, Nat.reduceLT, reduceCtorEq, e0', e1, e2, e9, e8, l8, e10, e84, e85, e86, e94, q, hwi]
          exact ⟨x2, s2, hsp.more (by omega) (fun _ _ => rfl)⟩
      · simp only [↓sd0, su0, su1, resOf, pack, eqCells, ↓reduceIte, Nat.reduceEqDiff, Nat.reduceAdd, Nat.reduceLeDiff, Nat.reduceLT, reduceCtorEq, e0', e1, e2, e9, e8, l8, e10, e84, e85, e86, lt_cast hi, hif, hfn, hwi]
        exact ⟨x2, s2, hsp.more (by omega) (fun _ _ => rfl)⟩
    · rintro e lc H' n ⟨⟨x2, s2, hsp⟩, ⟨e0', e1, e2, e9, e8, l8, e10, e84, e85⟩, e86⟩
      have q : decide (((ca.fs.length : Nat) : Int) < ca.fs.length) = false := by simp
      simp only [↓sd0, su0, su1, resOf, pack, eqCells, ↓reduceIte, Nat.reduceEqDiff, Nat.reduceAdd, Nat.reduceLeDiff, Nat.reduceLT, reduceCtorEq, e85, e86, q]
      exact ⟨x2, s2, false, hsp.more (by omega) (fun _ _ => rfl), rfl, by simp⟩

end Go.Proofs.Ytmbdccekcfeomaa.Am
end
/- The search: given. -/
section
open Go
namespace Go.Proofs.Ytmbdccekcfeomaa.Am
set_option linter.unusedSimpArgs false
set_option linter.unusedVariables false
set_option maxRecDepth 20000

/-- What a call leaves that may also take a claim as done. -/
def GivR (lo sid : Nat) (l : Lo) (s : SS) (nx : Nat) (r : AV) (H' : Nat → Option Obj) (nx' : Nat) : Prop :=
  ∃ x' s' b, Srch H' lo nx' sid l x' s' ∧ Gd l s' ∧ nx ≤ nx' ∧ s'.dn.length ≤ s.dn.length + 1 ∧ s.had.length ≤ s'.had.length ∧ r = .bool b ∧ (b = true → endsB s'.had = true)

theorem given_spec {lo sid wl nx : Nat} {l : Lo} {x : SI} {s : SS} {H : Nat → Option Obj} (hl : l.fin) (h0 : l.chk.1 = 0) (hs : Srch H lo nx sid l x s) (hg : Gd l s) (hwl : wl ≤ lo) (hwn : wl ≤ nx) {k : Nat} (hk : k < s.had.length) (hdn : s.dn.length < 50000) :
    Call tab wl 23 [.ptr sid 0 0, .int .i64 k] H nx fun r H' nx' => GivR lo sid l s nx r H' nx' := by
  refine call_mut tab_23 ?_
  unfold body23
  dsimp only [qm, qf, ql, qL, qs, qc, qk, qi, qn, qb, qB, qe, qx, qo, qg]
  simp only [start2]
  simp only [↓sd0, su0, su1, resOf, pack, eqCells, ↓reduceIte, Nat.reduceEqDiff, Nat.reduceAdd, Nat.reduceLeDiff, Nat.reduceLT, reduceCtorEq]
  refine CallK_of (lower_spec hl h0 (hs.mono (by omega)) hg hwl hk (by omega)) ?_
  rintro r H2 n2 ⟨x2, s2, hsp2, ho2, hr⟩
  have hsp2 := SP.trans (SP.start hs hg (Nat.le_refl nx) (fun _ _ => rfl)) hsp2 (by omega) (fun _ _ => rfl)
  have hn2 := hsp2.2.2.le
  have hh2 := hsp2.2.2.had
  have hd2 := hsp2.2.2.dn
  rcases hr with rfl | ⟨j, rfl, hj⟩
  · simp only [↓sd0, su0, su1, resOf, pack, eqCells, ↓reduceIte, Nat.reduceEqDiff, Nat.reduceAdd, Nat.reduceLeDiff, Nat.reduceLT, reduceCtorEq]
    refine CallK_of (single_spec hl h0 (hsp2.1.mono (by omega)) hsp2.2.1 hwl (k := k) (by omega) (by omega)) ?_
    rintro r H3 n3 ⟨x3, s3, b3, hsp3, rfl, hb3⟩
    have hsp3 := SP.trans hsp2 hsp3 (by omega) (fun _ _ => rfl)
    have hn3 := hsp3.2.2.le
    have hh3 := hsp3.2.2.had
    have hd3 := hsp3.2.2.dn
    cases b3
    · have hobj := hsp3.1.obj
      unfold sobj at hobj
      have hap := append_to (wl := wl) (bytes := 8) (.int .i64 k) hsp3.1.own5 (n := s3.dn.length) (by simp) hwl (by have := hsp3.2.1.dl; omega)
      have hks : kill H3 x3.i5 s3.dn.length sid = H3 sid := kill_other (fun _ => hsp3.1.ne.1.2.2.2)
      have hsn : ∀ k, ¬ (sid = n3 + k) := fun k => by have := hsp3.1.lt; omega
      have w1 : wl ≤ sid := by have := hsp3.1.lo'; omega
      simp only [↓sd0, su0, su1, resOf, pack, eqCells, ↓reduceIte, Nat.reduceEqDiff, Nat.reduceAdd, Nat.reduceLeDiff, Nat.reduceLT, reduceCtorEq, hobj, hap, hks, hsn, w1, List.set_cons_zero]
      generalize hF : upd (upd (kill H3 x3.i5 s3.dn.length) (n3 + 7) (some (.arr 1 (s3.dn.map nint ++ [.int .i64 k])))) sid (some (.arr 7 [.agg [ints l.anil l.ar, sl 1 l.cnil (l.cs.map Cl.el), lv x3.i2 s3.steps.length, lv x3.i3 s3.had.length, opv x3.nil4 x3.i4 s3.opn.length, lv (n3 + 7) (s3.dn.length + 1), .bool s3.lost]])) = F
      have hg3 := hsp3.2.1
      have hS : Srch F lo (n3 + 17) sid l { x3 with i5 := n3 + 7 } { s3 with dn := s3.dn ++ [k] } := by
        have g := hsp3.1
        obtain ⟨⟨m1, m2, m3, m4⟩, ⟨m5, m6, m7⟩, ⟨m8, m9⟩, m10⟩ := g.ne
        obtain ⟨t1, t2, t3, t4, t5⟩ := g.lt
        obtain ⟨p1, p2, p3, p4, p5⟩ := g.lo'
        have hfr : ∀ j, j < n3 → j ≠ sid → j ≠ x3.i5 → F j = H3 j := fun j hj a b => by
          rw [← hF, upd_other _ _ a, upd_other _ _ (by omega), kill_other (fun _ => b)]
        exact
          { obj := by rw [← hF, upd_same]; simp [sobj]
            lo' := by simp only; omega
            lt := by simp only; omega
            ne := by simp only; omega
            o2 := fun a => (hfr x3.i2 (by omega) (by omega) (by omega)).trans (g.o2 a)
            o3 := fun a => (hfr x3.i3 (by omega) (by omega) (by omega)).trans (g.o3 a)
            o4 := g.o4
            o4' := fun a => (hfr x3.i4 (by omega) (by omega) (by omega)).trans (g.o4' a)
            o5 := fun _ => by
              simp only
              rw [← hF, upd_other _ _ (by omega), upd_same]; simp [nint] }
      have hG : Gd l { s3 with dn := s3.dn ++ [k] } :=
        { tk := hg3.tk, gf := hg3.gf, gl := hg3.gl, hl := hg3.hl, ok := hg3.ok, op := hg3.op
          dn := fun u hu => by
            rcases List.mem_append.1 hu with h | h
            · exact hg3.dn u h
            · simp at h; rw [h]; show k < s3.had.length; omega
          dl := ⟨hg3.dl.1, by simp only [List.length_append, List.length_cons, List.length_nil]; rw [hd3]; omega⟩ }
      have hlen : (s3.dn ++ [k]).length = s3.dn.length + 1 := by simp
      have hd50 : s3.dn.length < 50000 := by rw [hd3]; exact hdn
      have hhk : k < s3.had.length := by omega
      generalize hx5 : ({ x3 with i5 := n3 + 7 } : SI) = x5 at hS
      have hx5i : x5.i5 = n3 + 7 := by rw [← hx5]
      generalize hs5 : ({ s3 with dn := s3.dn ++ [k] } : SS) = s5 at hS hG
      have hs5d : s5.dn = s3.dn ++ [k] := by rw [← hs5]
      have hs5h : s5.had = s3.had := by rw [← hs5]
      have hsl : s5.dn.length = s3.dn.length + 1 := by rw [hs5d]; simp
      rw [← hsl, ← hx5i]
      have fin : ∀ (x' : SI) (s' : SS) (b : Bool) (H' : Nat → Option Obj) (n' : Nat), SP lo sid l x5 s5 F (n3 + 17) H' n' x' s' → (b = true → endsB s'.had = true) → GivR lo sid l s nx (.bool b) H' n' := fun x' s' b H' n' hsp hb =>
        ⟨x', s', b, hsp.1, hsp.2.1, by have := hsp.2.2.le; omega, by rw [hsp.2.2.dn, hsl, hd3]; omega, by have := hsp.2.2.had; rw [hs5h] at this; omega, rfl, hb⟩
      refine W_count s5.dn.length (fun i e lc H' n => (∃ x' s', SP lo sid l x5 s5 F (n3 + 17) H' n x' s') ∧ e 0 = .ptr sid 0 0 ∧ e 1 = .int .i64 k ∧ e 35 = lv x5.i5 s5.dn.length ∧ e 36 = .int .i64 s5.dn.length ∧ e 37 = .int .i64 i) ?_ ?_ ?_
      · simp only [↓sd0, su0, su1, resOf, pack, eqCells, ↓reduceIte, Nat.reduceEqDiff, Nat.reduceAdd, Nat.reduceLeDiff, Nat.reduceLT, reduceCtorEq]
        exact ⟨x5, s5, SP.start hS hG (by omega) (fun _ _ => rfl)⟩
      · rintro i e lc H' n hi ⟨⟨x6, s6, hsp6⟩, e0', e1, e35, e36, e37⟩
        have hwi := wrap_succ hi (by omega)
        have hdl6 : s6.dn = s5.dn := hsp6.2.2.dn
        have hi6 : i < s6.dn.length := by rw [hdl6]; exact hi
        have hda := hsp6.1.dn_at hi6
        have hd6 := hsp6.2.1.dn _ (List.getElem_mem hi6)
        generalize s6.dn[i] = u at hda hd6
        rw [hdl6, hsp6.2.2.i5] at hda
        have hk6 : k < s6.had.length := by have := hsp6.2.2.had; rw [hs5h] at this; omega
        have hn6 := hsp6.2.2.le
        simp only [↓sd0, su0, su1, resOf, pack, eqCells, ↓reduceIte, Nat.reduceEqDiff, Nat.reduceAdd, Nat.reduceLeDiff, Nat.reduceLT, reduceCtorEq, e0', e1, e35, e36, e37, lt_cast hi, hda.1, hda.2]
        refine CallK_of (into_spec hl h0 (hsp6.1.mono (by omega)) hsp6.2.1 hwl (by omega) hd6 hk6) ?_
        rintro r H7 n7 ⟨x7, s7, b7, hsp7a, rfl, hb7⟩
        have hsp7 := SP.trans hsp6 hsp7a (by omega) (fun _ _ => rfl)
        have hn7 := hsp7.2.2.le
        have hh7 := hsp7a.2.2.had
        cases b7
        · cases hne : ((u : Int) != (k : Int))
          · simp only [↓sd0, su0, su1, resOf, pack, eqCells, ↓reduceIte, Nat.reduceEqDiff, Nat.reduceAdd, Nat.reduceLeDiff, Nat.reduceLT, reduceCtorEq, hne, e0', e1, e35, e36, e37, hwi]
            exact ⟨x7, s7, hsp7.more (by omega) (fun _ _ => rfl)⟩
          · simp only [↓sd0, su0, su1, resOf, pack, eqCells, ↓reduceIte, Nat.reduceEqDiff, Nat.reduceAdd, Nat.reduceLeDiff, Nat.reduceLT, reduceCtorEq, hne, e0', e1, e35, e36, e37, hwi]
            refine CallK_of (into_spec hl h0 (hsp7.1.mono (by omega)) hsp7.2.1 hwl (by omega) (by omega) (by omega)) ?_
            rintro r H8 n8 ⟨x8, s8, b8, hsp8, rfl, hb8⟩
            have hsp8 := SP.trans hsp7 hsp8 (by omega) (fun _ _ => rfl)
            cases b8
            · simp only [↓sd0, su0, su1, resOf, pack, eqCells, ↓reduceIte, Nat.reduceEqDiff, Nat.reduceAdd, Nat.reduceLeDiff, Nat.reduceLT, reduceCtorEq, hne, e0', e1, e35, e36, e37, hwi]
              exact ⟨x8, s8, hsp8.more (by omega) (fun _ _ => rfl)⟩
            · simp only [↓sd0, su0, su1, resOf, pack, eqCells, ↓reduceIte, Nat.reduceEqDiff, Nat.reduceAdd, Nat.reduceLeDiff, Nat.reduceLT, reduceCtorEq]
              exact fin x8 s8 true _ _ (hsp8.more (by omega) (fun _ _ => rfl)) hb8
        · simp only [↓sd0, su0, su1, resOf, pack, eqCells, ↓reduceIte, Nat.reduceEqDiff, Nat.reduceAdd, Nat.reduceLeDiff, Nat.reduceLT, reduceCtorEq]
          exact fin x7 s7 true _ _ (hsp7.more (by omega) (fun _ _ => rfl)) hb7
      · rintro e lc H' n ⟨⟨x6, s6, hsp6⟩, e0', e1, e35, e36, e37⟩
        have q : decide (((s5.dn.length : Nat) : Int) < s5.dn.length) = false := by simp
        simp only [↓sd0, su0, su1, resOf, pack, eqCells, ↓reduceIte, Nat.reduceEqDiff, Nat.reduceAdd, Nat.reduceLeDiff, Nat.reduceLT, reduceCtorEq, e36, e37, q]
        exact fin x6 s6 false _ _ (hsp6.more (by omega) (fun _ _ => rfl)) (by simp)
    · simp only [↓sd0, su0, su1, resOf, pack, eqCells, ↓reduceIte, Nat.reduceEqDiff, Nat.reduceAdd, Nat.reduceLeDiff, Nat.reduceLT, reduceCtorEq]
      exact ⟨x3, s3, true, hsp3.1.mono (by omega), hsp3.2.1, by omega, by rw [hd3]; omega, hh3, rfl, hb3⟩
  · simp only [↓sd0, su0, su1, resOf, pack, eqCells, ↓reduceIte, Nat.reduceEqDiff, Nat.reduceAdd, Nat.reduceLeDiff, Nat.reduceLT, reduceCtorEq]
    refine CallK_of (keep_spec hl h0 (hsp2.1.mono (by omega)) hsp2.2.1 hwl (k := k) (by omega) (by omega)) ?_
    rintro r H3 n3 ⟨x3, s3, b3, hsp3, rfl, hb3⟩
    have hsp3 := SP.trans hsp2 hsp3 (by omega) (fun _ _ => rfl)
    have hd3 := hsp3.2.2.dn
    simp only [↓sd0, su0, su1, resOf, pack, eqCells, ↓reduceIte, Nat.reduceEqDiff, Nat.reduceAdd, Nat.reduceLeDiff, Nat.reduceLT, reduceCtorEq]
    exact ⟨x3, s3, b3, hsp3.1.mono (by omega), hsp3.2.1, by have := hsp3.2.2.le; omega, by rw [hd3]; omega, hsp3.2.2.had, rfl, hb3⟩

end Go.Proofs.Ytmbdccekcfeomaa.Am
end
/- A number taken out of a list. -/
section
open Go
namespace Go.Proofs.Ytmbdccekcfeomaa.Am
set_option linter.unusedSimpArgs false
set_option linter.unusedVariables false
set_option maxRecDepth 20000

def slice3V (H : Nat → Option Obj) (x : AV) (l h m : Option Nat) : Option AV := match x with
  | .slice _ es => match l, h, m with
    | some l, some h, some m => if l ≤ h ∧ h ≤ m ∧ m ≤ es.length then some .undef else none
    | _, _, _ => none
  | .lref i j _ => match H i with
    | some (.arr _ es) => match l, h, m with
      | some l, some h, some m => if l ≤ h ∧ h ≤ m ∧ j + m ≤ es.length then some .undef else none
      | _, _, _ => none
    | _ => none
  | _ => none
def clearV (wl : Nat) (H : Nat → Option Obj) (z : AV) : AV → Option (Nat → Option Obj)
  | .nilSlice | .eslice => some H
  | .lref i j n => if wl ≤ i then
      match H i with
      | some (.arr m es) => if z.cells.length = m ∧ j + n ≤ es.length then some (upd H i (some (.arr m (es.take j ++ List.replicate n z ++ es.drop (j + n))))) else none
      | _ => none
    else none
  | _ => none
section
variable {tab : Nat → Option AFun} {wl id : Nat} {σ : St} {d : Option Nat} {K : AV → St → Prop}
theorem E_slice3 {x hi mx : Opd} {lo : Option Opd} : E tab wl id (.slice3 x lo hi mx) σ d K ↔ Opt (slice3V σ.H (x.ev σ.env) (bound σ.env 0 lo) (bound σ.env 0 (some hi)) (bound σ.env 0 (some mx))) fun v => K v σ := E_of (by
  simp only [AOp.eval, slice3V]
  generalize bound σ.env 0 lo = a
  generalize bound σ.env 0 (some hi) = b
  generalize bound σ.env 0 (some mx) = c
  cases x.ev σ.env <;> (try rfl) <;> simp only
  · cases a <;> (try rfl) <;> cases b <;> (try rfl) <;> cases c <;> (try rfl)
    simp only
    split <;> rfl
  · rename_i i j n
    cases hh : σ.H i with
    | none => rfl
    | some o =>
      cases o <;> (try rfl)
      cases a <;> (try rfl) <;> cases b <;> (try rfl) <;> cases c <;> (try rfl)
      simp only
      split <;> rfl)
theorem E_clear {z : AV} {x : Opd} : E tab wl id (.clear z x) σ d K ↔ Opt (clearV wl σ.H z (x.ev σ.env)) fun H' => K (.tup []) { σ with H := H' } := by
  rw [E_to (r := (clearV wl σ.H z (x.ev σ.env)).map fun H' => (.tup [], { σ with H := H' })) (by
    simp only [AOp.eval, clearV]
    cases x.ev σ.env <;> (try rfl)
    rename_i i j n
    simp only
    by_cases c : wl ≤ i
    · rw [if_pos c, if_pos c]
      cases hh : σ.H i with
      | none => rfl
      | some o =>
        cases o <;> (try rfl)
        simp only
        split <;> rfl
    · rw [if_neg c, if_neg c]; rfl)]
  rw [Opt_map]
end
section
variable {tab : Nat → Option AFun} {wl id : Nat} {is : List AInstr} {e : Nat → AV} {l : Nat → Option (Nat × AV)} {H : Nat → Option Obj} {n : Nat} {K : St → Prop} {m : Mark K} {Q : AExit → St → Prop}
theorem RK_slice3 {d : Nat} {x hi mx : Opd} {lo : Option Opd} : RK tab wl id (⟨some d, .slice3 x lo hi mx, none, []⟩ :: is) e l H n K m ↔ OptK (slice3V H (lookE e x) (bound e 0 lo) (bound e 0 (some hi)) (bound e 0 (some mx))) (fun v => RK tab wl (id + 1) is (upd e d v) l H n K m) .mk := by rw [RK_some, E_slice3]; rfl
theorem RK_clear {z : AV} {x : Opd} : RK tab wl id (⟨none, .clear z x, none, []⟩ :: is) e l H n K m ↔ OptK (clearV wl H z (lookE e x)) (fun H' => RK tab wl (id + 1) is e l H' n K m) .mk := by rw [RK_none, E_clear]; rfl
end

theorem slice3_lref {H : Nat → Option Obj} {i n sz l h m : Nat} {es : List AV} (hH : H i = some (.arr sz es)) (h1 : l ≤ h) (h2 : h ≤ m) (h3 : m ≤ es.length) : slice3V H (.lref i 0 n) (some l) (some h) (some m) = some .undef := by
  simp only [slice3V, hH]; rw [if_pos ⟨h1, h2, by omega⟩]
theorem slice_lref {H : Nat → Option Obj} {i n sz l h : Nat} {es : List AV} {f : Nat → Option Nat} (hH : H i = some (.arr sz es)) (hf : f n = some h) (h1 : l ≤ h) (h3 : h ≤ es.length) : sliceV H sz (.lref i 0 n) (some l) f = some (.lref i (0 + l) (h - l)) := by
  simp only [sliceV, hH, hf]; rw [if_pos ⟨trivial, h1, by omega⟩]

theorem delete_spec {wl nx i4 i : Nat} {os : List Nat} {junk : List AV} {H : Nat → Option Obj} (hw : wl ≤ i4) (hlt : i4 < nx) (hH : H i4 = some (.arr 1 (os.map nint ++ junk))) (hi : i < os.length) (hl : os.length < 4294967296) :
    Call tab wl 22 [.lref i4 0 os.length, .int .i64 i, .int .i64 (i + 1 : Nat)] H nx fun r H' nx' => r = .lref i4 0 (os.length - 1) ∧ nx ≤ nx' ∧ ∃ junk', H' = upd H i4 (some (.arr 1 ((os.eraseIdx i).map nint ++ junk'))) := by
  refine call_mut tab_22 ?_
  unfold body22
  dsimp only [qm, qf, ql, qL, qs, qc, qk, qi, qn, qb, qB, qe, qx, qo, qg]
  simp only [start3]
  have q : ((i : Int) == ((i + 1 : Nat) : Int)) = false := by simp; omega
  have hs3 := slice3_lref (n := os.length) hH (l := i) (h := i + 1) (m := os.length) (by omega) (by omega) (by simp)
  have hs1 := slice_lref (n := os.length) (f := fun _ => some i) hH rfl (l := 0) (by omega) (by simp; omega)
  have hs2 := slice_lref (n := os.length) (f := fun k => some k) hH rfl (l := i + 1) (by omega) (by simp)
  have hlen : lenV (.lref i4 0 os.length) = some (.int .i64 os.length) := rfl
  rw [Nat.zero_add, Nat.sub_zero] at hs1
  rw [Nat.zero_add] at hs2
  have hel : elemsV H 1 (.lref i4 (i + 1) (os.length - (i + 1))) = some ((os.drop (i + 1)).map nint) := by
    rw [elemsV_lref, hH]
    simp only
    rw [if_pos ⟨trivial, by simp; omega⟩, List.drop_append_of_le_length (by simp; omega), List.take_append_of_le_length (by simp), List.take_of_length_le (by simp), List.map_drop]
  obtain ⟨J, hJ, hap⟩ : ∃ J : List AV, 1 ≤ J.length ∧ ∀ nid, appendV wl nid false 1 8 H ((os.drop (i + 1)).map nint) (.lref i4 0 i) = some (.lref i4 0 (os.length - 1), upd H i4 (some (.arr 1 ((os.eraseIdx i).map nint ++ J)))) := by
    refine ⟨(os.map nint ++ junk).drop (0 + i + (os.length - (i + 1))), by simp; omega, fun nid => ?_⟩
    simp only [appendV]
    rw [if_pos hw, hH]
    simp only
    rw [if_pos ⟨trivial, by simp; omega, by simp; omega⟩]
    simp only [Bool.false_eq_true, if_false]
    rw [if_pos (by simp; omega)]
    rw [List.eraseIdx_eq_take_drop_succ, List.map_append, Nat.zero_add, List.take_append_of_le_length (by simp; omega), ← List.map_take]
    simp only [List.length_map, List.length_drop]
    rw [show i + (os.length - (i + 1)) = os.length - 1 by omega]
  have hle : (os.eraseIdx i).length = os.length - 1 := by rw [List.length_eraseIdx, if_pos hi]
  generalize hH2 : upd H i4 (some (.arr 1 ((os.eraseIdx i).map nint ++ J))) = H2 at hap
  have hH2i : H2 i4 = some (.arr 1 ((os.eraseIdx i).map nint ++ J)) := by rw [← hH2, upd_same]
  have hs4 := slice_lref (n := os.length - 1) (f := fun _ => some os.length) hH2i rfl (l := os.length - 1) (by omega) (by simp [hle]; omega)
  rw [Nat.zero_add, show os.length - (os.length - 1) = 1 by omega] at hs4
  have hlen2 : lenV (.lref i4 0 (os.length - 1)) = some (.int .i64 (os.length - 1 : Nat)) := rfl
  have hcl : clearV wl H2 (.int .i64 0) (.lref i4 (os.length - 1) 1) = some (upd H2 i4 (some (.arr 1 ((os.eraseIdx i).map nint ++ (AV.int .i64 0 :: J.drop 1))))) := by
    simp only [clearV]
    rw [if_pos hw, hH2i]
    simp only
    rw [if_pos ⟨rfl, by simp [hle]; omega⟩]
    have e1 : List.take (os.length - 1) ((os.eraseIdx i).map nint ++ J) = (os.eraseIdx i).map nint := by
      rw [List.take_append_of_le_length (by simp [hle]), List.take_of_length_le (by simp [hle])]
    have e2 : List.drop (os.length - 1 + 1) ((os.eraseIdx i).map nint ++ J) = J.drop 1 := by
      rw [show os.length - 1 + 1 = ((os.eraseIdx i).map nint).length + 1 by simp [hle], List.drop_append]
      simp
    rw [e1, e2]; simp
  simp only [↓sd0, su0, su1, resOf, pack, eqCells, ↓reduceIte, Nat.reduceEqDiff, Nat.reduceAdd, Nat.reduceLeDiff, Nat.reduceLT, reduceCtorEq, dr0, Nat.reducePow, Nat.reduceDiv, Nat.reduceMod, Nat.reduceBEq, RK_slice3, RK_clear, hs3, hs1, hs2, q, hlen, boundV_some, natV_cast, hel, hap, hs4, hlen2, hcl]
  exact ⟨_, by rw [← hH2, upd_upd]⟩

end Go.Proofs.Ytmbdccekcfeomaa.Am
end
