/- The search, whole. -/
import Derived.Test.YtmbdccekcfeomaaT40
open Go
namespace Go.Proofs.Ytmbdccekcfeomaa.Am
set_option linter.unusedSimpArgs false
set_option linter.unusedVariables false
set_option maxRecDepth 20000

/-- What the search answers. -/
def DoR (l : Lo) (fuel : Int) (r : AV) : Prop :=
  (l.chk.1 ≠ 0 ∧ r = .tup [.int .i64 0, .nilSlice, flt l.chk.1 l.chk.2]) ∨
  (l.chk.1 = 0 ∧ ¬ (0 ≤ fuel ∧ fuel ≤ 2000) ∧ r = .tup [.int .i64 0, .nilSlice, flt 3 (-1)]) ∨
  (l.chk.1 = 0 ∧ (0 ≤ fuel ∧ fuel ≤ 2000) ∧ (r = .tup [.int .i64 1, .nilSlice, flt 0 0] ∨ r = .tup [.int .i64 3, .nilSlice, flt 0 0] ∨
    (l.cs ≠ [] ∧ ∃ (b : Bool) (steps : List Gt) (had : List Cl), r = .tup [.int .i64 2, sl 8 b (steps.map Gt.av), flt 0 0] ∧ l.takes [] steps = some had ∧ endsB had = true ∧ (∀ g ∈ steps, g.fin) ∧ steps.length ≤ 400)))

theorem thaw_do {wl lo hi sz id n : Nat} {H : Nat → Option Obj} {es : List AV} {u w : AV} (hu' : u.solid = true) (hw' : w.solid = true) (ho : Own H lo hi sz id es) (hn : es.length = n) (hw : wl ≤ lo) (hs : AV.solids es = true) : ∃ H', thaw wl 1 H [u, lv id n, w] = some ([u, sl sz true es, w], H') := by
  obtain ⟨H', hh, hj⟩ := thawV_lv ho hw hs
  refine ⟨H', ?_⟩
  subst hn
  rw [thaw_one]
  simp only [thawL, thawV_solid u hu', hh, thawV_solid w hw']
/-- The state of the loops. -/
def Dn (l : Lo) (H' : Nat → Option Obj) (nx n sid : Nat) (x : SI) (s : SS) (d : Nat) : Prop := Srch H' nx n sid l x s ∧ Gd l s ∧ s.dn.length ≤ d ∧ (l.cs = [] → s.opn = [])
theorem do_spec {wl nx : Nat} {l : Lo} {H : Nat → Option Obj} (hl : l.fin) (fuel : Int) : Call tab wl 5 [l.av, .int .i64 fuel] H nx fun r H' nx' => DoR l fuel r ∧ H' = H ∧ nx' = nx := by
  refine call_thaw tab_5 ?_
  unfold body5
  simp only [start2]
  have hc := check_spec l hl
  have hin := in_17 fuel 0 2000
  by_cases c0 : l.chk.1 = 0
  · have c1 : l.chk.2 = 0 := by rw [Lo.chk_zero c0]
    by_cases cf : 0 ≤ fuel ∧ fuel ≤ 2000
    · have qf : decide (0 ≤ fuel ∧ fuel ≤ 2000) = true := decide_eq_true cf
      rw [qf] at hin
      simp only [↓sd0, su0, su1, resOf, pack, eqCells, ↓reduceIte, Nat.reduceEqDiff, Nat.reduceAdd, Nat.reduceLeDiff, Nat.reduceLT, reduceCtorEq, hc.callK, hin.callK, c0, c1, part_flt, part_fltc, storable_flt, cells_flt, within_flt, eqsF0, solid_flt]
      have fin2 : ∀ (x : SI) (s : SS) (H' : Nat → Option Obj) (n : Nat) (sid : Nat), Srch H' nx n sid l x s → Gd l s → l.cs ≠ [] → endsB s.had = true →
          Opt (thaw nx 1 H' [.int .i64 2, lv x.i2 s.steps.length, .agg [.int .i64 0, .int .i64 0]]) fun p => AV.solids p.1 = true ∧ DoR l fuel (match p.1 with | [v] => v | vs => .tup vs) := fun x s H' n sid hs hg hne he => by
        obtain ⟨H2, hth⟩ := thaw_do (wl := nx) (u := .int .i64 2) (w := .agg [.int .i64 0, .int .i64 0]) rfl (by simp [AV.solid, AV.solids]) hs.own2 (n := s.steps.length) (by simp) (Nat.le_refl _) (solids_map Gt.solid_av s.steps)
        rw [hth]
        exact ⟨_, rfl, by simp [AV.solids, AV.solid, solid_sl], Or.inr (Or.inr ⟨c0, cf, Or.inr (Or.inr ⟨hne, true, s.steps, s.had, rfl, hg.tk, he, hg.gf, hg.gl⟩)⟩)⟩
      have hcl := hl.2.1
      refine W_count l.cs.length (fun i e lc H' n => ∃ sid x s, Dn l H' nx n sid x s 0 ∧ (i = 0 → s.opn = []) ∧ e 8 = .ptr sid 0 0 ∧ (∃ m, e 6 = .loc 6 m 0 ∧ lc 6 = some (m, .agg [.int .i64 0, .int .i64 0])) ∧ e 1 = .int .i64 fuel ∧ e 31 = .int .i64 l.cs.length ∧ e 32 = .int .i64 i) ?_ ?_ ?_
      · simp only [↓sd0, su0, su1, resOf, pack, eqCells, ↓reduceIte, Nat.reduceEqDiff, Nat.reduceAdd, Nat.reduceLeDiff, Nat.reduceLT, reduceCtorEq]
        refine ⟨nx + 16, ⟨nx, nx + 1, nx + 2, nx + 3, true, []⟩, ⟨[], [], [], [], false⟩, ⟨{ obj := by rw [upd_same]; rfl, lo' := by simp only; omega, lt := by simp only; omega, ne := by simp only; omega, o2 := fun h => absurd rfl h, o3 := fun h => absurd rfl h, o4 := fun _ => rfl, o4' := fun h => by simp at h, o5 := fun h => absurd rfl h }, { tk := rfl, gf := by simp, gl := by simp, hl := rfl, ok := by simp, op := by simp, dn := by simp, dl := by simp }, by simp, fun _ => rfl⟩, by simp⟩
      · rintro i e lc H' n hi ⟨sid, x, s, ⟨hs, hg, hd, hnil⟩, h00, e8, ⟨m6, e6, l6⟩, e1, e31, e32⟩
        have hne : l.cs ≠ [] := by intro h; rw [h] at hi; simp at hi
        have hwi := wrap_succ hi (by omega)
        simp only [↓sd0, su0, su1, resOf, pack, eqCells, ↓reduceIte, Nat.reduceEqDiff, Nat.reduceAdd, Nat.reduceLeDiff, Nat.reduceLT, reduceCtorEq, e8, e6, l6, e1, e31, e32, lt_cast hi, agg_claim]
        refine CallK_of (add_spec hl c0 (hs.mono (by omega)) hg (Nat.le_refl _) ⟨1, i, 0, 0, 0, false, true, [], true, []⟩ ⟨by simp, by simp, by simp, by simp⟩) ?_
        rintro r H2 n2 ⟨x2, s2, hsp2, ho2, hr⟩
        have hd2 := hsp2.2.2.dn
        have hn2 := hsp2.2.2.le
        have hnn : nx ≤ n := by have := hs.lt; have := hs.lo'; omega
        rcases hr with ⟨rfl, hr⟩ | ⟨c, hr, rfl⟩
        · simp only [↓sd0, su0, su1, resOf, pack, eqCells, ↓reduceIte, Nat.reduceEqDiff, Nat.reduceAdd, Nat.reduceLeDiff, Nat.reduceLT, reduceCtorEq, e8, e6, l6, e1, e31, e32, hwi]
          exact ⟨sid, x2, s2, ⟨hsp2.1.mono (by omega), hsp2.2.1, by rw [hd2]; exact hd, fun h => absurd h hne⟩, by simp⟩
        · simp only [↓sd0, su0, su1, resOf, pack, eqCells, ↓reduceIte, Nat.reduceEqDiff, Nat.reduceAdd, Nat.reduceLeDiff, Nat.reduceLT, reduceCtorEq, e8, e6, l6, e1, e31, e32]
          refine CallK_of (keep_spec hl c0 (hsp2.1.mono (by omega)) hsp2.2.1 (Nat.le_refl _) (k := s.had.length) (by rw [hr]; simp) (by omega)) ?_
          rintro r H3 n3 ⟨x3, s3, bb, hsp3, rfl, hbb⟩
          have hd3 := hsp3.2.2.dn
          cases bb
          · simp only [↓sd0, su0, su1, resOf, pack, eqCells, ↓reduceIte, Nat.reduceEqDiff, Nat.reduceAdd, Nat.reduceLeDiff, Nat.reduceLT, reduceCtorEq, e8, e6, l6, e1, e31, e32, hwi]
            exact ⟨sid, x3, s3, ⟨hsp3.1.mono (by omega), hsp3.2.1, by rw [hd3, hd2]; exact hd, fun h => absurd h hne⟩, by simp⟩
          · have hobj := hsp3.1.obj
            unfold sobj at hobj
            simp only [↓sd0, su0, su1, resOf, pack, eqCells, ↓reduceIte, Nat.reduceEqDiff, Nat.reduceAdd, Nat.reduceLeDiff, Nat.reduceLT, reduceCtorEq, dr0, Nat.reducePow, Nat.reduceDiv, Nat.reduceMod, Nat.reduceBEq, e8, e6, l6, e1, e31, e32, hobj]
            exact fin2 x3 s3 H3 n3 sid hsp3.1 hsp3.2.1 hne (hbb rfl)
      · rintro e lc H' n ⟨sid, x, s, ⟨hs, hg, hd, hnil⟩, h00, e8, ⟨m6, e6, l6⟩, e1, e31, e32⟩
        have q : decide (((l.cs.length : Nat) : Int) < l.cs.length) = false := by simp
        have hnil2 : l.cs = [] → s.opn = [] := fun h => h00 (by rw [h]; rfl)
        obtain ⟨F, rfl⟩ : ∃ F : Nat, fuel = F := ⟨fuel.toNat, by omega⟩
        simp only [↓sd0, su0, su1, resOf, pack, eqCells, ↓reduceIte, Nat.reduceEqDiff, Nat.reduceAdd, Nat.reduceLeDiff, Nat.reduceLT, reduceCtorEq, e8, e6, l6, e1, e31, e32, q]
        have hF : F ≤ 2000 := by omega
        have fin13 : ∀ (v : Int) (H' : Nat → Option Obj), (v = 1 ∨ v = 3) → Opt (thaw nx 1 H' [.int .i64 v, .nilSlice, .agg [.int .i64 0, .int .i64 0]]) fun p => AV.solids p.1 = true ∧ DoR l F (match p.1 with | [v] => v | vs => .tup vs) := fun v H' hv => by
          rw [thaw_solid (by simp [AV.solids, AV.solid]) 1]
          refine ⟨_, rfl, by simp [AV.solids, AV.solid], Or.inr (Or.inr ⟨c0, cf, ?_⟩)⟩
          rcases hv with rfl | rfl
          · exact Or.inl rfl
          · exact Or.inr (Or.inl rfl)
        refine W_down F (fun f e lc H' n => ∃ sid x s, Dn l H' nx n sid x s (2000 - f) ∧ f ≤ 2000 ∧ e 8 = .ptr sid 0 0 ∧ (∃ m, e 6 = .loc 6 m 0 ∧ lc 6 = some (m, .agg [.int .i64 0, .int .i64 0])) ∧ e 1 = .int .i64 f) ?_ ?_
        · simp only [↓sd0, su0, su1, resOf, pack, eqCells, ↓reduceIte, Nat.reduceEqDiff, Nat.reduceAdd, Nat.reduceLeDiff, Nat.reduceLT, reduceCtorEq, e8, e6, l6, e1]
          exact ⟨sid, x, s, ⟨hs.mono (by omega), hg, by omega, hnil2⟩, hF, by simp⟩
        · clear e8 e6 l6 e1 e31 e32 hs hg hd hnil hnil2 h00
          clear e lc H' n sid x s q
          rintro f e lc H' n ⟨sid, x, s, ⟨hs, hg, hd, hnil⟩, hf2, e8, ⟨m6, e6, l6⟩, e1⟩
          have hobj := hs.obj
          unfold sobj at hobj
          have hlen := lenV_opv (b := x.nil4) (i := x.i4) (n := s.opn.length) (fun h => by rw [hs.o4 h]; rfl)
          by_cases f0 : f = 0
          · have q0 : decide ((f : Int) > 0) = false := decide_eq_false (by omega)
            cases q1 : decide ((s.opn.length : Int) > 0)
            · cases q2 : s.lost
              · simp only [↓sd0, su0, su1, resOf, pack, eqCells, ↓reduceIte, Nat.reduceEqDiff, Nat.reduceAdd, Nat.reduceLeDiff, Nat.reduceLT, reduceCtorEq, e8, e6, l6, e1, q0, hobj, hlen, q1, q2]
                exact fin13 1 _ (Or.inl rfl)
              · simp only [↓sd0, su0, su1, resOf, pack, eqCells, ↓reduceIte, Nat.reduceEqDiff, Nat.reduceAdd, Nat.reduceLeDiff, Nat.reduceLT, reduceCtorEq, e8, e6, l6, e1, q0, hobj, hlen, q1, q2]
                exact fin13 3 _ (Or.inr rfl)
            · simp only [↓sd0, su0, su1, resOf, pack, eqCells, ↓reduceIte, Nat.reduceEqDiff, Nat.reduceAdd, Nat.reduceLeDiff, Nat.reduceLT, reduceCtorEq, e8, e6, l6, e1, q0, hobj, hlen, q1]
              exact fin13 3 _ (Or.inr rfl)
          · have q0 : decide ((f : Int) > 0) = true := decide_eq_true (by omega)
            cases q1 : decide ((s.opn.length : Int) > 0)
            · cases q2 : s.lost
              · simp only [↓sd0, su0, su1, resOf, pack, eqCells, ↓reduceIte, Nat.reduceEqDiff, Nat.reduceAdd, Nat.reduceLeDiff, Nat.reduceLT, reduceCtorEq, e8, e6, l6, e1, q0, hobj, hlen, q1, q2]
                exact fin13 1 _ (Or.inl rfl)
              · simp only [↓sd0, su0, su1, resOf, pack, eqCells, ↓reduceIte, Nat.reduceEqDiff, Nat.reduceAdd, Nat.reduceLeDiff, Nat.reduceLT, reduceCtorEq, e8, e6, l6, e1, q0, hobj, hlen, q1, q2]
                exact fin13 3 _ (Or.inr rfl)
            · have hpos : 0 < s.opn.length := by have := of_decide_eq_true q1; omega
              simp only [↓sd0, su0, su1, resOf, pack, eqCells, ↓reduceIte, Nat.reduceEqDiff, Nat.reduceAdd, Nat.reduceLeDiff, Nat.reduceLT, reduceCtorEq, e8, e6, l6, e1, q0, hobj, hlen, q1]
              have hn4 : x.nil4 = false := by
                cases h : x.nil4
                · rfl
                · rw [hs.o4 h] at hpos; simp at hpos
              have hop : opv x.nil4 x.i4 s.opn.length = .lref x.i4 0 s.opn.length := by unfold opv; rw [hn4]; rfl
              have ho4 := hs.o4' hn4
              have hne : l.cs ≠ [] := fun h => by rw [hnil h] at hpos; simp at hpos
              have hol : s.opn.length < 4294967296 := by have := hg.dl; have := hg.hl; have := hg.gl; omega
              have hoi : ∀ j, j < s.opn.length → iaddrV H' 1 (.lref x.i4 0 s.opn.length) (.int .i64 j) = some (.ptr x.i4 j 0) := fun j hj => iaddr_lref ho4 hj
              have hoo : ∀ j (hj : j < s.opn.length), objV j (H' x.i4) = some (.int .i64 s.opn[j]) := fun j hj => by
                rw [ho4, objV_arr, List.getElem?_append_left (by simpa using hj)]; simp [hj, nint]
              rw [hop] at hobj ⊢
              refine W_count s.opn.length (fun i e lc H2 n2 => H2 = H' ∧ n ≤ n2 ∧ e 8 = .ptr sid 0 0 ∧ (∃ m, e 6 = .loc 6 m 0 ∧ lc 6 = some (m, .agg [.int .i64 0, .int .i64 0])) ∧ e 1 = .int .i64 f ∧ e 69 = .lref x.i4 0 s.opn.length ∧ e 70 = .int .i64 s.opn.length ∧ e 71 = .int .i64 i ∧ ∃ best : Nat, best < s.opn.length ∧ e 12 = .int .i64 best) ?_ ?_ ?_
              · simp only [↓sd0, su0, su1, resOf, pack, eqCells, ↓reduceIte, Nat.reduceEqDiff, Nat.reduceAdd, Nat.reduceLeDiff, Nat.reduceLT, reduceCtorEq, e8, e6, l6, e1]
                first | exact ⟨by omega, ⟨_, rfl, rfl⟩, 0, hpos, rfl⟩ | exact ⟨⟨_, rfl, rfl⟩, 0, hpos, rfl⟩ | exact ⟨⟨_, rfl, rfl⟩, hpos⟩ | (refine ⟨⟨_, rfl, rfl⟩, 0, ?_⟩; simpa using hpos)
              · clear e8 e6 l6 e1 m6
                clear e lc
                rintro i e lc H2 n2 hi ⟨rfl, hn2, e8, ⟨m6, e6, l6⟩, e1, e69, e70, e71, best, hb, e12⟩
                have hwi := wrap_succ hi (by omega)
                have hu := hg.op _ (List.getElem_mem hi)
                have hv := hg.op _ (List.getElem_mem hb)
                have h1 := hoo i hi
                have h2 := hoo best hb
                generalize s.opn[i] = u at hu h1
                generalize s.opn[best] = w at hv h2
                have hcl3 : cellOf (lv x.i3 s.had.length) = .cell x.i3 := by unfold lv; rw [if_neg (by omega)]; rfl
                have hne34 := hs.ne.2.2.1.1
                have hne3 := hs.ne.1.2.1
                have hne4 := hs.ne.1.2.2.1
                have hhu := hs.had_at hu
                have hhv := hs.had_at hv
                have hwu := weight_spec _ (Cl.ok_good (hg.ok _ (List.getElem_mem hu)))
                have hwv := weight_spec _ (Cl.ok_good (hg.ok _ (List.getElem_mem hv)))
                cases q2 : decide ((weightF s.had[u].fs : Int) < weightF s.had[w].fs)
                · simp only [↓sd0, su0, su1, resOf, pack, eqCells, ↓reduceIte, Nat.reduceEqDiff, Nat.reduceAdd, Nat.reduceLeDiff, Nat.reduceLT, reduceCtorEq, dr0, Nat.reducePow, Nat.reduceDiv, Nat.reduceMod, Nat.reduceBEq, e8, e6, l6, e1, e69, e70, e71, e12, lt_cast hi, hoi i hi, hoi best hb, h1, h2, hobj, hhu.1, hhu.2, hhv.1, hhv.2, hwu.callK, hwv.callK, q2, hwi, hcl3, hne34, hne3, hne4, hne34.symm, hne3.symm, hne4.symm]
                  exact ⟨by omega, ⟨_, rfl, rfl⟩, best, hb, rfl⟩
                · simp only [↓sd0, su0, su1, resOf, pack, eqCells, ↓reduceIte, Nat.reduceEqDiff, Nat.reduceAdd, Nat.reduceLeDiff, Nat.reduceLT, reduceCtorEq, dr0, Nat.reducePow, Nat.reduceDiv, Nat.reduceMod, Nat.reduceBEq, e8, e6, l6, e1, e69, e70, e71, e12, lt_cast hi, hoi i hi, hoi best hb, h1, h2, hobj, hhu.1, hhu.2, hhv.1, hhv.2, hwu.callK, hwv.callK, q2, hwi, hcl3, hne34, hne3, hne4, hne34.symm, hne3.symm, hne4.symm]
                  exact ⟨by omega, ⟨_, rfl, rfl⟩, i, hi, rfl⟩
              · clear e8 e6 l6 e1 m6
                clear e lc
                rintro e lc H2 n2 ⟨rfl, hn2, e8, ⟨m6, e6, l6⟩, e1, e69, e70, e71, best, hb, e12⟩
                have q : decide (((s.opn.length : Nat) : Int) < s.opn.length) = false := by simp
                have hu := hg.op _ (List.getElem_mem hb)
                have h1 := hoo best hb
                generalize s.opn[best] = u at hu h1
                have hwb := wrap_succ hb (by omega)
                simp only [↓sd0, su0, su1, resOf, pack, eqCells, ↓reduceIte, Nat.reduceEqDiff, Nat.reduceAdd, Nat.reduceLeDiff, Nat.reduceLT, reduceCtorEq, e8, e6, l6, e1, e69, e70, e71, e12, q, hobj, hoi best hb, h1, hwb]
                refine CallK_of (delete_spec (by have := hs.lo'; omega) (by have := hs.lt; omega) ho4 hb hol) ?_
                rintro r H3 n3 ⟨rfl, hn3, junk', rfl⟩
                have hs4 : ¬ (sid = x.i4) := hs.ne.1.2.2.1
                have w1 : nx ≤ sid := hs.lo'.1
                simp only [↓sd0, su0, su1, resOf, pack, eqCells, ↓reduceIte, Nat.reduceEqDiff, Nat.reduceAdd, Nat.reduceLeDiff, Nat.reduceLT, reduceCtorEq, hs4, hobj, w1, List.set_cons_zero, e8, e1]
                have hle : (s.opn.eraseIdx best).length = s.opn.length - 1 := by rw [List.length_eraseIdx, if_pos hb]
                generalize hFF : upd (upd H2 x.i4 (some (.arr 1 ((s.opn.eraseIdx best).map nint ++ junk')))) sid (some (.arr 7 [.agg [ints l.anil l.ar, sl 1 l.cnil (l.cs.map Cl.el), lv x.i2 s.steps.length, lv x.i3 s.had.length, .lref x.i4 0 (s.opn.length - 1), lv x.i5 s.dn.length, .bool s.lost]])) = FF
                have hS : Srch FF nx n3 sid l { x with junk := junk' } { s with opn := s.opn.eraseIdx best } := by
                  obtain ⟨⟨m1, m2, m3, m4⟩, ⟨m5, m6, m7⟩, ⟨m8, m9⟩, m10⟩ := hs.ne
                  obtain ⟨t1, t2, t3, t4, t5⟩ := hs.lt
                  have hfr : ∀ j, j ≠ sid → j ≠ x.i4 → FF j = H2 j := fun j a b => by rw [← hFF, upd_other _ _ a, upd_other _ _ b]
                  exact
                    { obj := by rw [← hFF, upd_same]; simp [sobj, opv, hn4, hle]
                      lo' := hs.lo'
                      lt := by simp only; omega
                      ne := hs.ne
                      o2 := fun a => (hfr x.i2 m1.symm m6).trans (hs.o2 a)
                      o3 := fun a => (hfr x.i3 m2.symm m8).trans (hs.o3 a)
                      o4 := fun h => by rw [hn4] at h; simp at h
                      o4' := fun _ => by
                        simp only
                        rw [← hFF, upd_other _ _ m3.symm, upd_same]
                      o5 := fun a => (hfr x.i5 m4.symm m10.symm).trans (hs.o5 a) }
                have hG : Gd l { s with opn := s.opn.eraseIdx best } :=
                  { tk := hg.tk, gf := hg.gf, gl := hg.gl, hl := hg.hl, ok := hg.ok, op := fun u hu => hg.op u (List.mem_of_mem_eraseIdx hu), dn := hg.dn, dl := ⟨by have := hg.dl.1; simp only [hle]; omega, hg.dl.2⟩ }
                have hwf : IntKind.i64.wrap ((f : Int) - 1) = ((f - 1 : Nat) : Int) := by rw [wrap64 (by omega) (by omega)]; omega
                refine CallK_of (given_spec hl c0 (hS.mono (by omega)) hG (Nat.le_refl _) (by have := hs.lo'; have := hs.lt; omega) hu (by show s.dn.length < 50000; omega)) ?_
                rintro r H5 n5 ⟨x5, s5, bb, g1, g2, g3, g4, g5, rfl, g6⟩
                have g4' : s5.dn.length ≤ s.dn.length + 1 := g4
                cases bb
                · simp only [↓sd0, su0, su1, resOf, pack, eqCells, ↓reduceIte, Nat.reduceEqDiff, Nat.reduceAdd, Nat.reduceLeDiff, Nat.reduceLT, reduceCtorEq, e8, e6, l6, e1, hwf]
                  exact ⟨f - 1, by omega, sid, x5, s5, ⟨g1.mono (by omega), g2, by omega, fun h => absurd h hne⟩, by omega, by simp⟩
                · have hobj5 := g1.obj
                  unfold sobj at hobj5
                  simp only [↓sd0, su0, su1, resOf, pack, eqCells, ↓reduceIte, Nat.reduceEqDiff, Nat.reduceAdd, Nat.reduceLeDiff, Nat.reduceLT, reduceCtorEq, dr0, Nat.reducePow, Nat.reduceDiv, Nat.reduceMod, Nat.reduceBEq, e8, e6, l6, e1, hobj5]
                  exact fin2 x5 s5 H5 n5 sid g1 g2 hne (g6 rfl)
    · have qf : decide (0 ≤ fuel ∧ fuel ≤ 2000) = false := decide_eq_false cf
      rw [qf] at hin
      simp only [↓sd0, su0, su1, resOf, pack, eqCells, ↓reduceIte, Nat.reduceEqDiff, Nat.reduceAdd, Nat.reduceLeDiff, Nat.reduceLT, reduceCtorEq, hc.callK, hin.callK, c0, c1, (fault_18 _ _).callK, part_flt, part_fltc, storable_flt, cells_flt, within_flt, eqsF0, solid_flt]
      rw [thaw_solid (by simp [AV.solids, solid_flt, AV.solid]) 1]
      exact ⟨_, rfl, by simp [AV.solids, solid_flt, AV.solid], Or.inr (Or.inl ⟨c0, cf, rfl⟩)⟩
  · have q0 : (l.chk.1 == 0) = false := by simp; exact c0
    simp only [↓sd0, su0, su1, resOf, pack, eqCells, ↓reduceIte, Nat.reduceEqDiff, Nat.reduceAdd, Nat.reduceLeDiff, Nat.reduceLT, reduceCtorEq, dr0, Nat.reducePow, Nat.reduceDiv, Nat.reduceMod, Nat.reduceBEq, hc.callK, q0, part_flt, part_fltc, storable_flt, cells_flt, within_flt, eqsF0, solid_flt]
    rw [thaw_solid (by simp [AV.solids, solid_flt, AV.solid]) 1]
    exact ⟨_, rfl, by simp [AV.solids, solid_flt, AV.solid], Or.inl ⟨c0, rfl⟩⟩
end Go.Proofs.Ytmbdccekcfeomaa.Am
