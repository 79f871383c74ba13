/- TopFirst holds: for every list of raw numbers, size and fuel that the call can be handed, Go's call of umpirage/umpiragetop.TopFirst returns, answers true and leaves its arguments reading as they read before: a set of first-order clauses of which a finite model is found has no refutation, and a refutation that is found by saturation is a derivation of the empty clause. Conditions: none beyond the statement's own (Rows.TopFirstSaid, the full form, without the bound). -/
import Derived.Test.YtmbdccekcfeomaaT42
import Derived.Test.YtmbdccekcfeomaaT34
import Derived.Test.YtmbdccekcfeomaaRows
import Derived.WalkKit
import Derived.ProofKit
import Derived.OpenShut
import Derived.JoinedOf
import Derived.Carry
import Derived.ChangeSlices
import Derived.Test.YtmbdccekcfeomaaT27
section
/- The search, whole. -/
open Go
namespace Go.Proofs.Ytmbdccekcfeomaa.Am
set_option linter.unusedSimpArgs false
set_option linter.unusedVariables false
set_option maxRecDepth 20000

/-- What the search answers. -/
def DoR (l : Lo) (fuel : Int) (r : AV) : Prop :=
  (l.chk.1 ≠ 0 ∧ r = .tup [.int .i64 0, .nilSlice, flt l.chk.1 l.chk.2]) ∨
  (l.chk.1 = 0 ∧ ¬ (0 ≤ fuel ∧ fuel ≤ 2000) ∧ r = .tup [.int .i64 0, .nilSlice, flt 3 (-1)]) ∨
  (l.chk.1 = 0 ∧ (0 ≤ fuel ∧ fuel ≤ 2000) ∧ (r = .tup [.int .i64 1, .nilSlice, flt 0 0] ∨ r = .tup [.int .i64 3, .nilSlice, flt 0 0] ∨
    (l.cs ≠ [] ∧ ∃ (b : Bool) (steps : List Gt) (had : List Cl), r = .tup [.int .i64 2, sl 8 b (steps.map Gt.av), flt 0 0] ∧ l.takes [] steps = some had ∧ endsB had = true ∧ (∀ g ∈ steps, g.fin) ∧ steps.length ≤ 400)))

theorem thaw_do {wl lo hi sz id n : Nat} {H : Nat → Option Obj} {es : List AV} {u w : AV} (hu' : u.solid = true) (hw' : w.solid = true) (ho : Own H lo hi sz id es) (hn : es.length = n) (hw : wl ≤ lo) (hs : AV.solids es = true) : ∃ H', thaw wl 1 H [u, lv id n, w] = some ([u, sl sz true es, w], H') := by
  obtain ⟨H', hh, hj⟩ := thawV_lv ho hw hs
  refine ⟨H', ?_⟩
  subst hn
  rw [thaw_one]
  simp only [thawL, thawV_solid u hu', hh, thawV_solid w hw']
/-- The state of the loops. -/
def Dn (l : Lo) (H' : Nat → Option Obj) (nx n sid : Nat) (x : SI) (s : SS) (d : Nat) : Prop := Srch H' nx n sid l x s ∧ Gd l s ∧ s.dn.length ≤ d ∧ (l.cs = [] → s.opn = [])
theorem do_spec {wl nx : Nat} {l : Lo} {H : Nat → Option Obj} (hl : l.fin) (fuel : Int) : Call tab wl 5 [l.av, .int .i64 fuel] H nx fun r H' nx' => DoR l fuel r ∧ H' = H ∧ nx' = nx := by
  refine call_thaw tab_5 ?_
  unfold body5
  dsimp only [qm, qf, ql, qL, qs, qc, qk, qi, qn, qb, qB, qe, qx, qo, qg]
  simp only [start2]
  have hc := check_spec l hl
  have hin := in_17 fuel 0 2000
  by_cases c0 : l.chk.1 = 0
  · have c1 : l.chk.2 = 0 := by rw [Lo.chk_zero c0]
    by_cases cf : 0 ≤ fuel ∧ fuel ≤ 2000
    · have qf : decide (0 ≤ fuel ∧ fuel ≤ 2000) = true := decide_eq_true cf
      rw [qf] at hin
      simp only [↓sd0, su0, su1, resOf, pack, eqCells, ↓reduceIte, Nat.reduceEqDiff, Nat.reduceAdd, Nat.reduceLeDiff, Nat.reduceLT, reduceCtorEq, hc.callK, hin.callK, c0, c1, part_flt, part_fltc, storable_flt, cells_flt, within_flt, eqsF0, solid_flt]
      have fin2 : ∀ (x : SI) (s : SS) (H' : Nat → Option Obj) (n : Nat) (sid : Nat), Srch H' nx n sid l x s → Gd l s → l.cs ≠ [] → endsB s.had = true →
          Opt (thaw nx 1 H' [.int .i64 2, lv x.i2 s.steps.length, .agg [.int .i64 0, .int .i64 0]]) fun p => AV.solids p.1 = true ∧ DoR l fuel (match p.1 with | [v] => v | vs => .tup vs) := fun x s H' n sid hs hg hne he => by
        obtain ⟨H2, hth⟩ := thaw_do (wl := nx) (u := .int .i64 2) (w := .agg [.int .i64 0, .int .i64 0]) rfl (by simp [AV.solid, AV.solids]) hs.own2 (n := s.steps.length) (by simp) (Nat.le_refl _) (solids_map Gt.solid_av s.steps)
        rw [hth]
        exact ⟨_, rfl, by simp [AV.solids, AV.solid, solid_sl], Or.inr (Or.inr ⟨c0, cf, Or.inr (Or.inr ⟨hne, true, s.steps, s.had, rfl, hg.tk, he, hg.gf, hg.gl⟩)⟩)⟩
      have hcl := hl.2.1
      refine W_count l.cs.length (fun i e lc H' n => ∃ sid x s, Dn l H' nx n sid x s 0 ∧ (i = 0 → s.opn = []) ∧ e 8 = .ptr sid 0 0 ∧ (∃ m, e 6 = .loc 6 m 0 ∧ lc 6 = some (m, .agg [.int .i64 0, .int .i64 0])) ∧ e 1 = .int .i64 fuel ∧ e 31 = .int .i64 l.cs.length ∧ e 32 = .int .i64 i) ?_ ?_ ?_
      · simp only [↓sd0, su0, su1, resOf, pack, eqCells, ↓reduceIte, Nat.reduceEqDiff, Nat.reduceAdd, Nat.reduceLeDiff, Nat.reduceLT, reduceCtorEq]
        refine ⟨nx + 16, ⟨nx, nx + 1, nx + 2, nx + 3, true, []⟩, ⟨[], [], [], [], false⟩, ⟨{ obj := by rw [upd_same]; rfl, lo' := by simp only; omega, lt := by simp only; omega, ne := by simp only; omega, o2 := fun h => absurd rfl h, o3 := fun h => absurd rfl h, o4 := fun _ => rfl, o4' := fun h => by simp at h, o5 := fun h => absurd rfl h }, { tk := rfl, gf := by simp, gl := by simp, hl := rfl, ok := by simp, op := by simp, dn := by simp, dl := by simp }, by simp, fun _ => rfl⟩, by simp⟩
      · rintro i e lc H' n hi ⟨sid, x, s, ⟨hs, hg, hd, hnil⟩, h00, e8, ⟨m6, e6, l6⟩, e1, e31, e32⟩
        have hne : l.cs ≠ [] := by intro h; rw [h] at hi; simp at hi
        have hwi := wrap_succ hi (by omega)
        simp only [↓sd0, su0, su1, resOf, pack, eqCells, ↓reduceIte, Nat.reduceEqDiff, Nat.reduceAdd, Nat.reduceLeDiff, Nat.reduceLT, reduceCtorEq, e8, e6, l6, e1, e31, e32, lt_cast hi, agg_claim]
        refine CallK_of (add_spec hl c0 (hs.mono (by omega)) hg (Nat.le_refl _) ⟨1, i, 0, 0, 0, false, true, [], true, []⟩ ⟨by simp, by simp, by simp, by simp⟩) ?_
        rintro r H2 n2 ⟨x2, s2, hsp2, ho2, hr⟩
        have hd2 := hsp2.2.2.dn
        have hn2 := hsp2.2.2.le
        have hnn : nx ≤ n := by have := hs.lt; have := hs.lo'; omega
        rcases hr with ⟨rfl, hr⟩ | ⟨c, hr, rfl⟩
        · simp only [↓sd0, su0, su1, resOf, pack, eqCells, ↓reduceIte, Nat.reduceEqDiff, Nat.reduceAdd, Nat.reduceLeDiff, Nat.reduceLT, reduceCtorEq, e8, e6, l6, e1, e31, e32, hwi]
          exact ⟨sid, x2, s2, ⟨hsp2.1.mono (by omega), hsp2.2.1, by rw [hd2]; exact hd, fun h => absurd h hne⟩, by simp⟩
        · simp only [↓sd0, su0, su1, resOf, pack, eqCells, ↓reduceIte, Nat.reduceEqDiff, Nat.reduceAdd, Nat.reduceLeDiff, Nat.reduceLT, reduceCtorEq, e8, e6, l6, e1, e31, e32]
          refine CallK_of (keep_spec hl c0 (hsp2.1.mono (by omega)) hsp2.2.1 (Nat.le_refl _) (k := s.had.length) (by rw [hr]; simp) (by omega)) ?_
          rintro r H3 n3 ⟨x3, s3, bb, hsp3, rfl, hbb⟩
          have hd3 := hsp3.2.2.dn
          cases bb
          · simp only [↓sd0, su0, su1, resOf, pack, eqCells, ↓reduceIte, Nat.reduceEqDiff, Nat.reduceAdd, Nat.reduceLeDiff, Nat.reduceLT, reduceCtorEq, e8, e6, l6, e1, e31, e32, hwi]
            exact ⟨sid, x3, s3, ⟨hsp3.1.mono (by omega), hsp3.2.1, by rw [hd3, hd2]; exact hd, fun h => absurd h hne⟩, by simp⟩
          · have hobj := hsp3.1.obj
            unfold sobj at hobj
            simp only [↓sd0, su0, su1, resOf, pack, eqCells, ↓reduceIte, Nat.reduceEqDiff, Nat.reduceAdd, Nat.reduceLeDiff, Nat.reduceLT, reduceCtorEq, dr0, Nat.reducePow, Nat.reduceDiv, Nat.reduceMod, Nat.reduceBEq, e8, e6, l6, e1, e31, e32, hobj]
            exact fin2 x3 s3 H3 n3 sid hsp3.1 hsp3.2.1 hne (hbb rfl)
      · rintro e lc H' n ⟨sid, x, s, ⟨hs, hg, hd, hnil⟩, h00, e8, ⟨m6, e6, l6⟩, e1, e31, e32⟩
        have q : decide (((l.cs.length : Nat) : Int) < l.cs.length) = false := by simp
        have hnil2 : l.cs = [] → s.opn = [] := fun h => h00 (by rw [h]; rfl)
        obtain ⟨F, rfl⟩ : ∃ F : Nat, fuel = F := ⟨fuel.toNat, by omega⟩
        simp only [↓sd0, su0, su1, resOf, pack, eqCells, ↓reduceIte, Nat.reduceEqDiff, Nat.reduceAdd, Nat.reduceLeDiff, Nat.reduceLT, reduceCtorEq, e8, e6, l6, e1, e31, e32, q]
        have hF : F ≤ 2000 := by omega
        have fin13 : ∀ (v : Int) (H' : Nat → Option Obj), (v = 1 ∨ v = 3) → Opt (thaw nx 1 H' [.int .i64 v, .nilSlice, .agg [.int .i64 0, .int .i64 0]]) fun p => AV.solids p.1 = true ∧ DoR l F (match p.1 with | [v] => v | vs => .tup vs) := fun v H' hv => by
          rw [thaw_solid (by simp [AV.solids, AV.solid]) 1]
          refine ⟨_, rfl, by simp [AV.solids, AV.solid], Or.inr (Or.inr ⟨c0, cf, ?_⟩)⟩
          rcases hv with rfl | rfl
          · exact Or.inl rfl
          · exact Or.inr (Or.inl rfl)
        refine W_down F (fun f e lc H' n => ∃ sid x s, Dn l H' nx n sid x s (2000 - f) ∧ f ≤ 2000 ∧ e 8 = .ptr sid 0 0 ∧ (∃ m, e 6 = .loc 6 m 0 ∧ lc 6 = some (m, .agg [.int .i64 0, .int .i64 0])) ∧ e 1 = .int .i64 f) ?_ ?_
        · simp only [↓sd0, su0, su1, resOf, pack, eqCells, ↓reduceIte, Nat.reduceEqDiff, Nat.reduceAdd, Nat.reduceLeDiff, Nat.reduceLT, reduceCtorEq, e8, e6, l6, e1]
          exact ⟨sid, x, s, ⟨hs.mono (by omega), hg, by omega, hnil2⟩, hF, by simp⟩
        · clear e8 e6 l6 e1 e31 e32 hs hg hd hnil hnil2 h00
          clear e lc H' n sid x s q
          rintro f e lc H' n ⟨sid, x, s, ⟨hs, hg, hd, hnil⟩, hf2, e8, ⟨m6, e6, l6⟩, e1⟩
          have hobj := hs.obj
          unfold sobj at hobj
          have hlen := lenV_opv (b := x.nil4) (i := x.i4) (n := s.opn.length) (fun h => by rw [hs.o4 h]; rfl)
          by_cases f0 : f = 0
          · have q0 : decide ((f : Int) > 0) = false := decide_eq_false (by omega)
            cases q1 : decide ((s.opn.length : Int) > 0)
            · cases q2 : s.lost
              · simp only [↓sd0, su0, su1, resOf, pack, eqCells, ↓reduceIte, Nat.reduceEqDiff, Nat.reduceAdd, Nat.reduceLeDiff, Nat.reduceLT, reduceCtorEq, e8, e6, l6, e1, q0, hobj, hlen, q1, q2]
                exact fin13 1 _ (Or.inl rfl)
              · simp only [↓sd0, su0, su1, resOf, pack, eqCells, ↓reduceIte, Nat.reduceEqDiff, Nat.reduceAdd, Nat.reduceLeDiff, Nat.reduceLT, reduceCtorEq, e8, e6, l6, e1, q0, hobj, hlen, q1, q2]
                exact fin13 3 _ (Or.inr rfl)
            · simp only [↓sd0, su0, su1, resOf, pack, eqCells, ↓reduceIte, Nat.reduceEqDiff, Nat.reduceAdd, Nat.reduceLeDiff, Nat.reduceLT, reduceCtorEq, e8, e6, l6, e1, q0, hobj, hlen, q1]
              exact fin13 3 _ (Or.inr rfl)
          · have q0 : decide ((f : Int) > 0) = true := decide_eq_true (by omega)
            cases q1 : decide ((s.opn.length : Int) > 0)
            · cases q2 : s.lost
              · simp only [↓sd0, su0, su1, resOf, pack, eqCells, ↓reduceIte, Nat.reduceEqDiff, Nat.reduceAdd, Nat.reduceLeDiff, Nat.reduceLT, reduceCtorEq, e8, e6, l6, e1, q0, hobj, hlen, q1, q2]
                exact fin13 1 _ (Or.inl rfl)
              · simp only [↓sd0, su0, su1, resOf, pack, eqCells, ↓reduceIte, Nat.reduceEqDiff, Nat.reduceAdd, Nat.reduceLeDiff, Nat.reduceLT, reduceCtorEq, e8, e6, l6, e1, q0, hobj, hlen, q1, q2]
                exact fin13 3 _ (Or.inr rfl)
            · have hpos : 0 < s.opn.length := by have := of_decide_eq_true q1; omega
              simp only [↓sd0, su0, su1, resOf, pack, eqCells, ↓reduceIte, Nat.reduceEqDiff, Nat.reduceAdd, Nat.reduceLeDiff, Nat.reduceLT, reduceCtorEq, e8, e6, l6, e1, q0, hobj, hlen, q1]
              have hn4 : x.nil4 = false := by
                cases h : x.nil4
                · rfl
                · rw [hs.o4 h] at hpos; simp at hpos
              have hop : opv x.nil4 x.i4 s.opn.length = .lref x.i4 0 s.opn.length := by unfold opv; rw [hn4]; rfl
              have ho4 := hs.o4' hn4
              have hne : l.cs ≠ [] := fun h => by rw [hnil h] at hpos; simp at hpos
              have hol : s.opn.length < 4294967296 := by have := hg.dl; have := hg.hl; have := hg.gl; omega
              have hoi : ∀ j, j < s.opn.length → iaddrV H' 1 (.lref x.i4 0 s.opn.length) (.int .i64 j) = some (.ptr x.i4 j 0) := fun j hj => iaddr_lref ho4 hj
              have hoo : ∀ j (hj : j < s.opn.length), objV j (H' x.i4) = some (.int .i64 s.opn[j]) := fun j hj => by
                rw [ho4, objV_arr, List.getElem?_append_left (by simpa using hj)]; simp [hj, nint]
              rw [hop] at hobj ⊢
              refine W_count s.opn.length (fun i e lc H2 n2 => H2 = H' ∧ n ≤ n2 ∧ e 8 = .ptr sid 0 0 ∧ (∃ m, e 6 = .loc 6 m 0 ∧ lc 6 = some (m, .agg [.int .i64 0, .int .i64 0])) ∧ e 1 = .int .i64 f ∧ e 69 = .lref x.i4 0 s.opn.length ∧ e 70 = .int .i64 s.opn.length ∧ e 71 = .int .i64 i ∧ ∃ best : Nat, best < s.opn.length ∧ e 12 = .int .i64 best) ?_ ?_ ?_
              · simp only [↓sd0, su0, su1, resOf, pack, eqCells, ↓reduceIte, Nat.reduceEqDiff, Nat.reduceAdd, Nat.reduceLeDiff, Nat.reduceLT, reduceCtorEq, e8, e6, l6, e1]
                first | exact ⟨by omega, ⟨_, rfl, rfl⟩, 0, hpos, rfl⟩ | exact ⟨⟨_, rfl, rfl⟩, 0, hpos, rfl⟩ | exact ⟨⟨_, rfl, rfl⟩, hpos⟩ | (refine ⟨⟨_, rfl, rfl⟩, 0, ?_⟩; simpa using hpos)
              · clear e8 e6 l6 e1 m6
                clear e lc
                rintro i e lc H2 n2 hi ⟨rfl, hn2, e8, ⟨m6, e6, l6⟩, e1, e69, e70, e71, best, hb, e12⟩
                have hwi := wrap_succ hi (by omega)
                have hu := hg.op _ (List.getElem_mem hi)
                have hv := hg.op _ (List.getElem_mem hb)
                have h1 := hoo i hi
                have h2 := hoo best hb
                generalize s.opn[i] = u at hu h1
                generalize s.opn[best] = w at hv h2
                have hcl3 : cellOf (lv x.i3 s.had.length) = .cell x.i3 := by unfold lv; rw [if_neg (by omega)]; rfl
                have hne34 := hs.ne.2.2.1.1
                have hne3 := hs.ne.1.2.1
                have hne4 := hs.ne.1.2.2.1
                have hhu := hs.had_at hu
                have hhv := hs.had_at hv
                have hwu := weight_spec _ (Cl.ok_good (hg.ok _ (List.getElem_mem hu)))
                have hwv := weight_spec _ (Cl.ok_good (hg.ok _ (List.getElem_mem hv)))
                cases q2 : decide ((weightF s.had[u].fs : Int) < weightF s.had[w].fs)
                · simp only [↓sd0, su0, su1, resOf, pack, eqCells, ↓reduceIte, Nat.reduceEqDiff, Nat.reduceAdd, Nat.reduceLeDiff, Nat.reduceLT, reduceCtorEq, dr0, Nat.reducePow, Nat.reduceDiv, Nat.reduceMod, Nat.reduceBEq, e8, e6, l6, e1, e69, e70, e71, e12, lt_cast hi, hoi i hi, hoi best hb, h1, h2, hobj, hhu.1, hhu.2, hhv.1, hhv.2, hwu.callK, hwv.callK, q2, hwi, hcl3, hne34, hne3, hne4, hne34.symm, hne3.symm, hne4.symm]
                  exact ⟨by omega, ⟨_, rfl, rfl⟩, best, hb, rfl⟩
                · simp only [↓sd0, su0, su1, resOf, pack, eqCells, ↓reduceIte, Nat.reduceEqDiff, Nat.reduceAdd, Nat.reduceLeDiff, Nat.reduceLT, reduceCtorEq, dr0, Nat.reducePow, Nat.reduceDiv, Nat.reduceMod, Nat.reduceBEq, e8, e6, l6, e1, e69, e70, e71, e12, lt_cast hi, hoi i hi, hoi best hb, h1, h2, hobj, hhu.1, hhu.2, hhv.1, hhv.2, hwu.callK, hwv.callK, q2, hwi, hcl3, hne34, hne3, hne4, hne34.symm, hne3.symm, hne4.symm]
                  exact ⟨by omega, ⟨_, rfl, rfl⟩, i, hi, rfl⟩
              · clear e8 e6 l6 e1 m6
                clear e lc
                rintro e lc H2 n2 ⟨rfl, hn2, e8, ⟨m6, e6, l6⟩, e1, e69, e70, e71, best, hb, e12⟩
                have q : decide (((s.opn.length : Nat) : Int) < s.opn.length) = false := by simp
                have hu := hg.op _ (List.getElem_mem hb)
                have h1 := hoo best hb
                generalize s.opn[best] = u at hu h1
                have hwb := wrap_succ hb (by omega)
                simp only [↓sd0, su0, su1, resOf, pack, eqCells, ↓reduceIte, Nat.reduceEqDiff, Nat.reduceAdd, Nat.reduceLeDiff, Nat.reduceLT, reduceCtorEq, e8, e6, l6, e1, e69, e70, e71, e12, q, hobj, hoi best hb, h1, hwb]
                refine CallK_of (delete_spec (by have := hs.lo'; omega) (by have := hs.lt; omega) ho4 hb hol) ?_
                rintro r H3 n3 ⟨rfl, hn3, junk', rfl⟩
                have hs4 : ¬ (sid = x.i4) := hs.ne.1.2.2.1
                have w1 : nx ≤ sid := hs.lo'.1
                simp only [↓sd0, su0, su1, resOf, pack, eqCells, ↓reduceIte, Nat.reduceEqDiff, Nat.reduceAdd, Nat.reduceLeDiff, Nat.reduceLT, reduceCtorEq, hs4, hobj, w1, List.set_cons_zero, e8, e1]
                have hle : (s.opn.eraseIdx best).length = s.opn.length - 1 := by rw [List.length_eraseIdx, if_pos hb]
                generalize hFF : upd (upd H2 x.i4 (some (.arr 1 ((s.opn.eraseIdx best).map nint ++ junk')))) sid (some (.arr 7 [.agg [ints l.anil l.ar, sl 1 l.cnil (l.cs.map Cl.el), lv x.i2 s.steps.length, lv x.i3 s.had.length, .lref x.i4 0 (s.opn.length - 1), lv x.i5 s.dn.length, .bool s.lost]])) = FF
                have hS : Srch FF nx n3 sid l { x with junk := junk' } { s with opn := s.opn.eraseIdx best } := by
                  obtain ⟨⟨m1, m2, m3, m4⟩, ⟨m5, m6, m7⟩, ⟨m8, m9⟩, m10⟩ := hs.ne
                  obtain ⟨t1, t2, t3, t4, t5⟩ := hs.lt
                  have hfr : ∀ j, j ≠ sid → j ≠ x.i4 → FF j = H2 j := fun j a b => by rw [← hFF, upd_other _ _ a, upd_other _ _ b]
                  exact
                    { obj := by rw [← hFF, upd_same]; simp [sobj, opv, hn4, hle]
                      lo' := hs.lo'
                      lt := by simp only; omega
                      ne := hs.ne
                      o2 := fun a => (hfr x.i2 m1.symm m6).trans (hs.o2 a)
                      o3 := fun a => (hfr x.i3 m2.symm m8).trans (hs.o3 a)
                      o4 := fun h => by rw [hn4] at h; simp at h
                      o4' := fun _ => by
                        simp only
                        rw [← hFF, upd_other _ _ m3.symm, upd_same]
                      o5 := fun a => (hfr x.i5 m4.symm m10.symm).trans (hs.o5 a) }
                have hG : Gd l { s with opn := s.opn.eraseIdx best } :=
                  { tk := hg.tk, gf := hg.gf, gl := hg.gl, hl := hg.hl, ok := hg.ok, op := fun u hu => hg.op u (List.mem_of_mem_eraseIdx hu), dn := hg.dn, dl := ⟨by have := hg.dl.1; simp only [hle]; omega, hg.dl.2⟩ }
                have hwf : IntKind.i64.wrap ((f : Int) - 1) = ((f - 1 : Nat) : Int) := by rw [wrap64 (by omega) (by omega)]; omega
                refine CallK_of (given_spec hl c0 (hS.mono (by omega)) hG (Nat.le_refl _) (by have := hs.lo'; have := hs.lt; omega) hu (by show s.dn.length < 50000; omega)) ?_
                rintro r H5 n5 ⟨x5, s5, bb, g1, g2, g3, g4, g5, rfl, g6⟩
                have g4' : s5.dn.length ≤ s.dn.length + 1 := g4
                cases bb
                · simp only [↓sd0, su0, su1, resOf, pack, eqCells, ↓reduceIte, Nat.reduceEqDiff, Nat.reduceAdd, Nat.reduceLeDiff, Nat.reduceLT, reduceCtorEq, e8, e6, l6, e1, hwf]
                  exact ⟨f - 1, by omega, sid, x5, s5, ⟨g1.mono (by omega), g2, by omega, fun h => absurd h hne⟩, by omega, by simp⟩
                · have hobj5 := g1.obj
                  unfold sobj at hobj5
                  simp only [↓sd0, su0, su1, resOf, pack, eqCells, ↓reduceIte, Nat.reduceEqDiff, Nat.reduceAdd, Nat.reduceLeDiff, Nat.reduceLT, reduceCtorEq, dr0, Nat.reducePow, Nat.reduceDiv, Nat.reduceMod, Nat.reduceBEq, e8, e6, l6, e1, hobj5]
                  exact fin2 x5 s5 H5 n5 sid g1 g2 hne (g6 rfl)
    · have qf : decide (0 ≤ fuel ∧ fuel ≤ 2000) = false := decide_eq_false cf
      rw [qf] at hin
      simp only [↓sd0, su0, su1, resOf, pack, eqCells, ↓reduceIte, Nat.reduceEqDiff, Nat.reduceAdd, Nat.reduceLeDiff, Nat.reduceLT, reduceCtorEq, hc.callK, hin.callK, c0, c1, (fault_18 _ _).callK, part_flt, part_fltc, storable_flt, cells_flt, within_flt, eqsF0, solid_flt]
      rw [thaw_solid (by simp [AV.solids, solid_flt, AV.solid]) 1]
      exact ⟨_, rfl, by simp [AV.solids, solid_flt, AV.solid], Or.inr (Or.inl ⟨c0, cf, rfl⟩)⟩
  · have q0 : (l.chk.1 == 0) = false := by simp; exact c0
    simp only [↓sd0, su0, su1, resOf, pack, eqCells, ↓reduceIte, Nat.reduceEqDiff, Nat.reduceAdd, Nat.reduceLeDiff, Nat.reduceLT, reduceCtorEq, dr0, Nat.reducePow, Nat.reduceDiv, Nat.reduceMod, Nat.reduceBEq, hc.callK, q0, part_flt, part_fltc, storable_flt, cells_flt, within_flt, eqsF0, solid_flt]
    rw [thaw_solid (by simp [AV.solids, solid_flt, AV.solid]) 1]
    exact ⟨_, rfl, by simp [AV.solids, solid_flt, AV.solid], Or.inl ⟨c0, rfl⟩⟩
end Go.Proofs.Ytmbdccekcfeomaa.Am
end
/- The law of first order, on the abstract machine. -/
section
open Go
namespace Go.Proofs.Ytmbdccekcfeomaa.Am
set_option linter.unusedSimpArgs false
set_option linter.unusedVariables false
set_option maxRecDepth 20000

/-! ### what loreOf makes is in order -/
theorem wf_ind {v : Nat} {P : T → Prop} (hv : ∀ h b, h < 0 → -h ≤ (v : Int) → P (.mk h b [])) (hn : ∀ h b ks, 1 ≤ h → h ≤ 3 → (ks.length : Int) = h - 1 → (∀ k ∈ ks, T.wf v k) → (∀ k ∈ ks, P k) → P (.mk h b ks)) (t : T) : t.wf v → P t := by
  induction t using T.ind with
  | h h b ks ih =>
    intro hw
    cases hw with
    | var _ _ h1 h2 => exact hv h b h1 h2
    | node _ _ _ h1 h2 h3 h4 => exact hn h b ks h1 h2 h3 h4 fun k hk => ih k hk (h4 k hk)
theorem deep_size (t : T) : t.deep ≤ t.size := by
  induction t using T.ind' with
  | h t ih =>
    rw [T.deep_eq, T.size_eq]
    generalize t.ks = ks at ih
    have : T.deeps ks ≤ T.sizes ks := by
      induction ks with
      | nil => rw [T.deeps]; omega
      | cons k ks ihk =>
        have a := ih k (List.mem_cons_self ..)
        have b := ihk fun x hx => ih x (List.mem_cons_of_mem _ hx)
        rw [T.deeps, T.sizes]; omega
    omega
theorem wf_nd (t : T) : t.wf 2 → ∀ p, (t.nd p).1 = 0 := by
  refine wf_ind (P := fun t => ∀ p, (t.nd p).1 = 0) (fun h b h1 h2 p => ?_) (fun h b ks h1 h2 h3 h4 ih p => ?_) t
  · rw [T.nd, if_neg (by omega), if_neg (by simp)]; rfl
  · rw [T.nd, if_neg (by omega), if_neg (by omega)]
    clear h3 h4
    induction ks generalizing p with
    | nil => rfl
    | cons k ks ihk =>
      rw [T.nds, if_pos (ih k (List.mem_cons_self ..) _)]
      exact ihk (fun x hx => ih x (List.mem_cons_of_mem _ hx)) _
theorem wf_sg (t : T) : t.wf 2 → t.sg [0, 1, 2] = 0 := by
  refine wf_ind (P := fun t => t.sg [0, 1, 2] = 0) (fun h b h1 h2 => ?_) (fun h b ks h1 h2 h3 h4 ih => ?_) t
  · rw [T.sg, if_neg (by omega)]; rfl
  · have hks : T.sgs [0, 1, 2] ks = 0 := by
      clear h3 h4
      induction ks with
      | nil => rfl
      | cons k ks ihk =>
        rw [T.sgs, if_pos (ih k (List.mem_cons_self ..))]
        exact ihk fun x hx => ih x (List.mem_cons_of_mem _ hx)
    have : h = 1 ∨ h = 2 ∨ h = 3 := by omega
    have e : arAt [0, 1, 2] h = h - 1 := by rcases this with rfl | rfl | rfl <;> rfl
    rw [T.sg, if_pos (by omega), hks, e, if_neg (by simp; omega), if_neg (by omega)]
theorem wf_most (t : T) : t.wf 2 → t.most ≤ 2 := by
  refine wf_ind (P := fun t => t.most ≤ 2) (fun h b h1 h2 => ?_) (fun h b ks h1 h2 h3 h4 ih => ?_) t
  · rw [T.most, T.mosts]; omega
  · rw [T.most]
    have : T.mosts ks ≤ 2 := by
      clear h3 h4
      induction ks with
      | nil => rw [T.mosts]; omega
      | cons k ks ihk =>
        rw [T.mosts]
        have := ih k (List.mem_cons_self ..)
        have := ihk fun x hx => ih x (List.mem_cons_of_mem _ hx)
        omega
    omega
theorem wf_less {v : Nat} (t : T) : t.wf 2 → t.most ≤ v → t.wf v := by
  refine wf_ind (P := fun t => t.most ≤ v → t.wf v) (fun h b h1 h2 hm => ?_) (fun h b ks h1 h2 h3 h4 ih hm => ?_) t
  · rw [T.most, T.mosts] at hm; exact .var h b h1 (by omega)
  · rw [T.most] at hm
    refine .node h b ks h1 h2 h3 fun k hk => ih k hk ?_
    have : T.mosts ks ≤ v := by omega
    clear h3 h4 ih hm
    induction ks with
    | nil => simp at hk
    | cons x ks ihk =>
      rw [T.mosts] at this
      rcases List.mem_cons.1 hk with rfl | hk
      · omega
      · exact ihk hk (by omega)
theorem wf_bad {t : T} (h : t.wf 2) (hs : t.size < 8) : t.bad.1 = 0 := by
  have := deep_size t
  unfold T.bad
  rw [if_neg (by omega), if_neg (by omega), if_pos (wf_nd t h 0)]
theorem first_none {α : Type} {g : α → Int} {l : List α} (h : ∀ a ∈ l, g a = 0) : first g l = 0 := by
  induction l with
  | nil => rfl
  | cons a l ih => rw [first, if_pos (h a (List.mem_cons_self ..))]; exact ih fun x hx => h x (List.mem_cons_of_mem _ hx)
theorem firstAt_none {α : Type} {g : α → Int} {l : List α} (h : ∀ a ∈ l, g a = 0) : ∀ k, firstAt g l k = (0, 0) := by
  induction l with
  | nil => intro k; rfl
  | cons a l ih => intro k; rw [firstAt, if_pos (h a (List.mem_cons_self ..))]; exact ih (fun x hx => h x (List.mem_cons_of_mem _ hx)) _
theorem ClOk.chk {c : Cl} (h : ClOk c) : c.chk [0, 1, 2] = 0 := by
  unfold Cl.chk
  have := h.len
  rw [if_neg (by omega)]
  refine first_none fun t ht => ?_
  obtain ⟨f, hf, ht⟩ := List.mem_flatMap.1 ht
  have hfo := h.fs f hf
  unfold T.chk
  simp only [List.mem_cons, List.not_mem_nil, or_false] at ht
  rcases ht with rfl | rfl
  · rw [if_pos (wf_bad hfo.l hfo.ls)]; exact wf_sg _ hfo.l
  · rw [if_pos (wf_bad hfo.r hfo.rs)]; exact wf_sg _ hfo.r
theorem LoOk.chk {l : Lo} (h : LoOk l) : l.chk.1 = 0 := by
  unfold Lo.chk
  rw [h.ar]
  have := h.len
  have e : firstAt arOk [0, 1, 2] 0 = (0, 0) := by decide
  rw [if_neg (by simp; omega), e, if_pos rfl, firstAt_none fun c hc => (h.cs c hc).chk]
theorem ClOk.good {c : Cl} (h : ClOk c) : c.good := chk_good h.chk
theorem ClOk.most {c : Cl} (h : ClOk c) : c.most ≤ 2 := by
  unfold Cl.most
  have := h.fs
  generalize c.fs = fs at this
  induction fs with
  | nil => rw [mostsF]; omega
  | cons f fs ih =>
    have a := this f (List.mem_cons_self ..)
    have b := ih fun x hx => this x (List.mem_cons_of_mem _ hx)
    have := wf_most _ a.l
    have := wf_most _ a.r
    rw [mostsF]; omega
theorem most_mem {fs : List Fa} {f : Fa} (h : f ∈ fs) : f.l.most ≤ mostsF fs ∧ f.r.most ≤ mostsF fs := by
  induction fs with
  | nil => simp at h
  | cons g fs ih =>
    rw [mostsF]
    rcases List.mem_cons.1 h with rfl | h
    · omega
    · have := ih h; omega
theorem ClOk.wf {c : Cl} (h : ClOk c) : c.wf c.most := by
  refine ⟨by have := h.len; omega, fun f hf => ?_⟩
  have a := h.fs f hf
  have m := most_mem hf
  have := a.ls
  have := a.rs
  exact ⟨⟨wf_less _ a.l m.1, by omega⟩, ⟨wf_less _ a.r m.2, by omega⟩⟩
theorem LoOk.fin {l : Lo} (h : LoOk l) : l.fin := ⟨by rw [h.ar]; simp, by have := h.len; omega, fun c hc => Cl.good_fin (h.cs c hc).good⟩

/-! ### claims that are not broken hold of all things -/
theorem val_env {s : Int} {tl : List (List Int)} {ρ σ : Nat → Int} {v : Nat} (h : ∀ i, i < v → ρ i = σ i) (t : T) : t.wf v → t.val s tl ρ = t.val s tl σ := by
  refine wf_ind (P := fun t => t.val s tl ρ = t.val s tl σ) (fun h1 b h2 h3 => ?_) (fun h1 b ks h2 h3 h4 h5 ih => ?_) t
  · rw [T.val_mk, T.val_mk, if_pos h2, if_pos h2]; exact h _ (by omega)
  · rw [T.val_mk, T.val_mk]
    have : ks.map (T.val s tl ρ) = ks.map (T.val s tl σ) := List.map_congr_left ih
    have hlt : ¬ h1 < 0 := by omega
    rw [this]; simp only [if_neg hlt]
theorem fine_every {s : Int} {tl : List (List Int)} {cs : List Cl} (hf : Full s tl) (h : Fine s tl cs) {c : Cl} (hc : c ∈ cs) (hw : c.wf c.most) : c.every s tl := by
  intro ρ hr
  have hb := h c hc ((List.range c.most).map ρ) (by simp) (fun x hx => by
    obtain ⟨i, _, rfl⟩ := List.mem_map.1 hx; exact hr i)
  obtain ⟨f, hff, hh⟩ := brk_ho hf (env_rng (by have := hf.1; omega) (fun x hx => by
    obtain ⟨i, _, rfl⟩ := List.mem_map.1 hx; exact hr i)) hb
  refine ⟨f, hff, ?_⟩
  have he : ∀ i, i < c.most → env ((List.range c.most).map ρ) i = ρ i := fun i hi => by
    simp [env, List.getD_eq_getElem?_getD, hi]
  have hcf := hw.2 f hff
  unfold Fa.ho at hh ⊢
  rw [← val_env he _ hcf.1.1, ← val_env he _ hcf.2.1]; exact hh

theorem takes_lenK {l : Lo} : ∀ (gs : List Gt) (had cs : List Cl), l.takes had gs = some cs → cs.length = had.length + gs.length := by
  intro gs
  induction gs with
  | nil => intro had cs h; rw [Lo.takes] at h; simp at h; rw [h]; simp
  | cons g gs ih =>
    intro had cs h
    rw [Lo.takes] at h
    split at h
    · have := ih _ _ h; simp at this; rw [this, List.length_cons]; omega
    · simp at h

/-! ### a derivation of one step -/
def lo0 : Lo := ⟨false, [0], false, [⟨true, []⟩]⟩
def gt0 : Gt := ⟨1, 0, 0, 0, 0, false, true, [], true, []⟩
theorem one_ends : Gives tab 11 [lo0.av, sl 8 false ([gt0].map Gt.av)] (.tup [.bool true, flt 0 0]) := by
  have hc : lo0.chk.1 = 0 := by decide
  have ht : lo0.takes [] [gt0] = some [⟨true, []⟩] := by
    have hn : lo0.next [] gt0 = (⟨true, []⟩, 0) := by
      have hd : (Lo.mk lo0.anil lo0.ar false [⟨true, []⟩]).chk.1 = 0 := by decide
      unfold Lo.next
      rw [if_pos (by decide)]
      show (if 0 ≤ gt0.a then _ else _) = _
      rw [if_pos (by decide), if_pos (by decide)]
      unfold Lo.done
      rw [if_pos hd]; rfl
    rw [Lo.takes, hn]; rfl
  exact ends_spec lo0 ⟨by decide, by decide, fun c hc => by simp [lo0] at hc; subst hc; exact ⟨by decide, by simp⟩⟩ hc false [gt0] (fun g hg => by simp at hg; subst hg; exact ⟨by decide, by simp [gt0], by decide, by simp [gt0]⟩) (by decide) ht (by decide)

end Go.Proofs.Ytmbdccekcfeomaa.Am
end
/- TopFirst on the abstract machine. -/
section
open Go
namespace Go.Proofs.Ytmbdccekcfeomaa.Am
set_option linter.unusedSimpArgs false
set_option linter.unusedVariables false
set_option maxRecDepth 20000

theorem n10 : ((1 : Int) != 0) = true := by decide
theorem d00 : ((0 : Int) != 0) = false := by decide
theorem e11 : ((1 : Int) == 1) = true := by decide
theorem e21 : ((2 : Int) == 1) = false := by decide
theorem e31 : ((3 : Int) == 1) = false := by decide
theorem e12 : ((1 : Int) == 2) = false := by decide
theorem e32 : ((3 : Int) == 2) = false := by decide
theorem e22 : ((2 : Int) == 2) = true := by decide
theorem e00 : ((0 : Int) == 0) = true := by decide
theorem n12 : ((1 : Int) != 2) = true := by decide
theorem n22 : ((2 : Int) != 2) = false := by decide
theorem n32 : ((3 : Int) != 2) = true := by decide
theorem lo0_av : AV.agg [.slice 1 [.int .i64 0], .slice 1 [.nilSlice]] = lo0.av := rfl
theorem gt0_av : AV.agg [.int .i64 1, .int .i64 0, .int .i64 0, .int .i64 0, .int .i64 0, .bool false, .nilSlice, .nilSlice] = gt0.av := rfl

theorem nt1 : nilTab.cells = [.int .i64 0, .nilSlice] := rfl
theorem nt2 : nilTab.storable = true := by simp [nilTab, storable_agg, one_int, one_nil, nols_cons, nols_nil, nol_int, nol_nil]
theorem nt3 (a b : AV) : within (.agg [a, b]) 0 nilTab = some nilTab := within_whole rfl rfl
theorem nt4 : part 2 true nilTab 0 = some nilTab := part_whole rfl rfl
theorem tabw (a b : AV) (s : Int) (tl : List (List Int)) : within (.agg [a, b]) 0 (tabAv s tl) = some (tabAv s tl) := within_whole rfl rfl
theorem first_law {wl nx : Nat} {H : Nat → Option Obj} (raw : List Int) (b : Bool) (size fuel : Int) : Call tab wl 4 [ints b raw, .int .i64 size, .int .i64 fuel] H nx fun r H' nx' => r = .bool true ∧ H' = H ∧ nx' = nx := by
  refine call_solid tab_4 ?_
  unfold body4
  dsimp only [qm, qf, ql, qL, qs, qc, qk, qi, qn, qb, qB, qe, qx, qo, qg]
  simp only [start3]
  have hp2 := picked_spec size (n := 2) (by omega) (by omega)
  have hp2i := pk_in size (n := 2) (by omega)
  have hpf := picked_spec fuel (n := 200) (by omega) (by omega)
  have hpfi := pk_in fuel (n := 200) (by omega)
  generalize pk size 2 = p at hp2 hp2i
  generalize pk fuel 200 = q at hpf hpfi
  obtain ⟨S, hS⟩ : ∃ S : Nat, 1 + p = (S : Int) := ⟨(1 + p).toNat, by omega⟩
  have hS12 : S = 1 ∨ S = 2 := by omega
  have hwS : IntKind.i64.wrap (1 + p) = (S : Int) := by rw [wrap64 (by omega) (by omega)]; exact hS
  simp only [↓sd0, su0, su1, resOf, pack, eqCells, ↓reduceIte, Nat.reduceEqDiff, Nat.reduceAdd, Nat.reduceLeDiff, Nat.reduceLT, reduceCtorEq]
  refine CallK_of (loreof_spec raw b) ?_
  rintro r H1 n1 ⟨⟨l, rfl, hl⟩, rfl, rfl⟩
  have hfin := hl.fin
  have hchk := hl.chk
  simp only [↓sd0, su0, su1, resOf, pack, eqCells, ↓reduceIte, Nat.reduceEqDiff, Nat.reduceAdd, Nat.reduceLeDiff, Nat.reduceLT, reduceCtorEq, dr0, Nat.reducePow, Nat.reduceDiv, Nat.reduceMod, Nat.reduceBEq, hpf.callK]
  refine CallK_of (do_spec hfin q) ?_
  rintro r H1 n1 ⟨hR, rfl, rfl⟩
  have hR' : ∃ (st : Int) (b0 : Bool) (steps : List Gt), r = .tup [.int .i64 st, sl 8 b0 (steps.map Gt.av), flt 0 0] ∧ (((st = 1 ∨ st = 3) ∧ steps = []) ∨ (st = 2 ∧ ∃ had, l.takes [] steps = some had ∧ endsB had = true ∧ (∀ g ∈ steps, g.fin) ∧ steps.length ≤ 400)) := by
    rcases hR with ⟨h, _⟩ | ⟨_, h, _⟩ | ⟨_, _, rfl | rfl | ⟨hne, b0, steps, had, rfl, htk, hen, hgf, hgl⟩⟩
    · exact absurd hchk h
    · exact absurd ⟨hpfi.1, by omega⟩ h
    · exact ⟨1, true, [], rfl, Or.inl ⟨Or.inl rfl, rfl⟩⟩
    · exact ⟨3, true, [], rfl, Or.inl ⟨Or.inr rfl, rfl⟩⟩
    · exact ⟨2, b0, steps, rfl, Or.inr ⟨rfl, had, htk, hen, hgf, hgl⟩⟩
  clear hR
  obtain ⟨st, b0, steps, rfl, hR⟩ := hR'
  simp only [↓sd0, su0, su1, resOf, pack, eqCells, ↓reduceIte, Nat.reduceEqDiff, Nat.reduceAdd, Nat.reduceLeDiff, Nat.reduceLT, reduceCtorEq, dr0, Nat.reducePow, Nat.reduceDiv, Nat.reduceMod, Nat.reduceBEq, hp2.callK, hwS, agg_flt, part_flt, cells_flt, storable_flt, within_flt, within_fltt, solid_flt]
  refine CallK_of (finddo_spec hS12 hfin hl.ar hchk (fun c hc => ⟨(hl.cs c hc).good, (hl.cs c hc).most, (hl.cs c hc).wf⟩)) ?_
  rintro r H1 n1 ⟨hF, rfl, rfl⟩
  have hoe : Gives tab 11 [lo0.av, .slice 8 [gt0.av]] (.tup [.bool true, flt 0 0]) := one_ends
  rcases hF with ⟨fs, hfs, rfl⟩ | ⟨tl, rfl, hSh, hFu, hFi⟩
  · rcases hR with ⟨hst, rfl⟩ | ⟨rfl, had, htk, hen, hgf, hgl⟩
    · rcases hst with rfl | rfl <;> rcases hfs with rfl | rfl <;> simp only [↓sd0, su0, su1, resOf, pack, eqCells, ↓reduceIte, Nat.reduceEqDiff, Nat.reduceAdd, Nat.reduceLeDiff, Nat.reduceLT, reduceCtorEq, dr0, Nat.reducePow, Nat.reduceDiv, Nat.reduceMod, Nat.reduceBEq, agg_flt, part_flt, part_fltc, cells_flt, storable_flt, within_flt, within_fltt, solid_flt, lo0_av, gt0_av, chop_G, hoe.callK, nt1, nt2, nt3, nt4, tab_cells, tab_storable, tabw, tab_whole, tab_nol, n10, d00, e11, e21, e31, e12, e32, e22, e00, n12, n22, n32]
    · have hes := ends_spec l hfin hchk b0 steps hgf hgl htk (by have := takes_lenK _ _ _ htk; simp at this; omega)
      rw [hen] at hes
      rcases hfs with rfl | rfl <;> simp only [↓sd0, su0, su1, resOf, pack, eqCells, ↓reduceIte, Nat.reduceEqDiff, Nat.reduceAdd, Nat.reduceLeDiff, Nat.reduceLT, reduceCtorEq, dr0, Nat.reducePow, Nat.reduceDiv, Nat.reduceMod, Nat.reduceBEq, agg_flt, part_flt, part_fltc, cells_flt, storable_flt, within_flt, within_fltt, solid_flt, lo0_av, gt0_av, chop_G, hoe.callK, nt1, nt2, nt3, nt4, tab_cells, tab_storable, tabw, tab_whole, tab_nol, n10, d00, e11, e21, e31, e12, e32, e22, e00, n12, n22, n32, hes.callK]
  · have hev : ∀ c ∈ l.cs, c.every S tl := fun c hc => fine_every hFu hFi hc (hl.cs c hc).wf
    rcases hR with ⟨hst, rfl⟩ | ⟨rfl, had, htk, hen, hgf, hgl⟩
    · have hho := tabholds_spec (S := S) rfl hSh hFu l hfin hl.ar hchk (fun c hc => ⟨⟨(hl.cs c hc).good, (hl.cs c hc).most, (hl.cs c hc).wf⟩, hev c hc⟩)
      have hcl := hl.len
      have q1 : ((l.cs.length : Int) != (l.cs.length : Int)) = false := by simp
      rcases hst with rfl | rfl <;> simp only [↓sd0, su0, su1, resOf, pack, eqCells, ↓reduceIte, Nat.reduceEqDiff, Nat.reduceAdd, Nat.reduceLeDiff, Nat.reduceLT, reduceCtorEq, dr0, Nat.reducePow, Nat.reduceDiv, Nat.reduceMod, Nat.reduceBEq, agg_flt, part_flt, part_fltc, cells_flt, storable_flt, within_flt, within_fltt, solid_flt, lo0_av, gt0_av, chop_G, hoe.callK, nt1, nt2, nt3, nt4, tab_cells, tab_storable, tabw, tab_whole, tab_nol, n10, d00, e11, e21, e31, e12, e32, e22, e00, n12, n22, n32, hho.callK, q1, List.length_replicate]
      all_goals
        refine W_count l.cs.length (fun k e lo H' n => (∃ st : Int, e 8 = .int .i64 st ∧ (st != 2) = true) ∧ (∃ b0, e 9 = sl 8 b0 []) ∧ e 16 = sl 1 true (List.replicate l.cs.length (.bool true)) ∧ e 18 = .int .i64 k) ?_ ?_ ?_
        · simp only [↓sd0, su0, su1, resOf, pack, eqCells, ↓reduceIte, Nat.reduceEqDiff, Nat.reduceAdd, Nat.reduceLeDiff, Nat.reduceLT, reduceCtorEq]
          exact ⟨⟨_, rfl, by decide⟩, _, rfl⟩
        · rintro k e lo H' n hk ⟨⟨st, h8, hst⟩, ⟨b1, h9⟩, h16, h18⟩
          have hwk := wrap_succ hk (by omega)
          have hia : ∀ H, iaddrV H 1 (sl 1 true (List.replicate l.cs.length (.bool true))) (.int .i64 k) = some (.fptr (.bool true) 0) := fun H => by
            rw [iaddrV_sl (by simpa using hk), List.getElem_replicate]
          simp only [↓sd0, su0, su1, resOf, pack, eqCells, ↓reduceIte, Nat.reduceEqDiff, Nat.reduceAdd, Nat.reduceLeDiff, Nat.reduceLT, reduceCtorEq, h8, h9, h16, h18, List.length_replicate, lt_cast hk, hia, hwk]
          exact ⟨⟨_, rfl, hst⟩, _, rfl⟩
        · rintro e lo H' n ⟨⟨st, h8, hst⟩, ⟨b1, h9⟩, h16, h18⟩
          simp only [↓sd0, su0, su1, resOf, pack, eqCells, ↓reduceIte, Nat.reduceEqDiff, Nat.reduceAdd, Nat.reduceLeDiff, Nat.reduceLT, reduceCtorEq, h8, h9, h16, h18, List.length_replicate, hst, e00]
    · have := no_end hFu hchk hev htk
      rw [hen] at this; exact absurd this (by simp)

end Go.Proofs.Ytmbdccekcfeomaa.Am
end
/- The row of TopFirst. -/
section
namespace Go.Proofs.Ytmbdccekcfeomaa.Am
open Go.ChangeShapes Go.WideShapes Go.ChangeAt Go.RowKit
set_option linter.unusedVariables false
set_option maxRecDepth 100000

theorem own4 : ownKnob Try.prog.godebug = none := by kernel_rfl
theorem laid4 : laidOutB Try.prog = true := by kernel_rfl
theorem src4 : srcOf tab 4 = 4 := rfl
theorem cells3' : Try.prog.cellsOf 3 = 1 := by kernel_rfl

theorem contract4 (H : Type) (enc : TypeId × Value → H) (W : World) (base : Nat) (args : Array Value) (ds gs : List (DataW H)) (before : List MemPlace)
    (hval : ∀ (j : Nat) t v, Try.f4.params[j]? = some t → args[j]? = some v → Value.okWide Try.prog W .any base t v)
    (hW : DataW.Whole enc Try.prog Try.f4.params.toList Rows.topFirstSpec.vars false W args.toList ds gs before) :
    Calls Try.prog 4 args W fun e W' => ∃ v, e = .returned v ∧ Rows.topFirstSpec.post enc Try.prog Try.f4 false true false false W args v W' := by
  have hW' := hW
  obtain ⟨p, q, hA0, hV, rfl, hfz, hnd⟩ := hW
  have hA : DataW.TrodAll enc Try.prog W 0 (fun _ => true) true Try.f4.params.toList args.toList ds p := hA0
  rw [Try.params4] at hA hval
  obtain ⟨v0, vs0, d0, ds0, p0, q0, hargs, rfl, rfl, h0, r0⟩ := trodAll_cons hA
  obtain ⟨v1, vs1, d1, ds1, p1, q1, rfl, rfl, rfl, h1, r1⟩ := trodAll_cons r0
  obtain ⟨v2, vs2, d2, ds2, p2, q2, rfl, rfl, rfl, h2, r2⟩ := trodAll_cons r1
  obtain ⟨rfl, rfl, rfl⟩ := trodAll_nil r2
  obtain rfl : args = #[v0, v1, v2] := by cases args; simp_all
  obtain ⟨rfl, rfl⟩ := trodVars_none hV
  obtain ⟨a, rfl, rfl, rfl, wa⟩ := open_int Try.underlying3 (hval 1 3 v1 rfl rfl) h1
  obtain ⟨c, rfl, rfl, rfl, wc⟩ := open_int Try.underlying3 (hval 2 3 v2 rfl rfl) h2
  obtain ⟨ad0, dl, dc, rfl⟩ := okWide_slice Try.underlying22 (hval 0 22 v0 rfl rfl)
  obtain ⟨fu, hfu⟩ := h0
  obtain ⟨b, zs, u, hcs, hr, _, _⟩ := read_slice (f := AV.int .i64) (wt := fun _ => 0) (sz := 1) Try.underlying22 cells3' (by omega) (fun t => rfl) (fun z c hc => by simp [AV.cells] at hc; subst hc; exact ⟨solid_int _ _, one_int _ _⟩) (fun m' cs' x' hm' h' => by
    obtain ⟨z, hz, _⟩ := DataW.trod_int Try.underlying3 h'
    subst hz
    exact ⟨z, by simp [RepL, Rep, AV.cells], by omega⟩) hfu
  have hu : u = .slice ad0 dl dc := by simp [Value.cells] at hcs; exact hcs.symm
  subst hu
  have hrep : RepL (KG (Gam W)) [ints b zs, .int .i64 a, .int .i64 c] [.slice ad0 dl dc, .int .i64 a, .int .i64 c] := by
    exact ⟨_, _, rfl, hr, _, _, rfl, by simp [Rep], _, _, rfl, by simp [Rep], rfl⟩
  obtain ⟨r, H', n', hc, rfl, rfl, rfl⟩ := first_law (wl := 0) (nx := 0) (H := fun _ => none) zs b a c
  have hcalls := enter hc hrep (by simp [AV.nols, nol_int, nol_ints])
  rw [src4] at hcalls
  refine Calls.mono hcalls ?_
  rintro e W' ⟨rfl, hkb, hfr, hbelow⟩
  have hlt : ∀ x ∈ p0, x.block < W.heap.size := fun x hx => hW'.lt x (by simp [hx])
  refine ⟨_, rfl, ?_⟩
  refine ⟨_, _, _, [], p0 ++ ([] ++ ([] ++ [])), [], hW', trodAll_cons_mk (shut_bool Try.underlying4 _) trodAll_mk0, ?_, ?_, ?_, fun h => by cases h⟩
  · exact trodAll_cons_mk (Below.trod laid4 (by kernel_rfl) (of_decide_eq_true (by kernel_rfl)) ⟨fu, hfu⟩ hbelow hlt) (trodAll_cons_mk (shut_int Try.underlying3 wa) (trodAll_cons_mk (shut_int Try.underlying3 wc) trodAll_mk0))
  · rfl
  · exact World.keptBut_mono (fun _ f => f.elim) hkb

theorem lifted4 (os : Os) (started : os.Started) (H : Type) (enc : TypeId × Value → H) :
    ReturnsInHanded {} Try.checked os 4 .any (Rows.topFirstSpec.pre6 enc Try.prog Try.f4 Rows.topFirstRow.domain false) (Rows.topFirstSpec.post enc Try.prog Try.f4 false true false false) := by
  refine returnsInHanded_of_change (C := Try.checked) own4 started (by kernel_rfl) Try.func4
    (ChangeSpec.witness6 (enc := enc) (C := Try.checked) false ⟨#[], #[.slice none 0 0, .int .i64 0, .int .i64 0], []⟩ 8 (by kernel_rfl) (by kernel_rfl) (by kernel_rfl) (by kernel_rfl)) ?_
  intro W base args ds gs before hval hW _ _
  exact contract4 H enc W base args ds gs before hval hW

theorem first_holds : Rows.TopFirstSaid :=
  OpenClaim.holds_of_wide 4 Try.f4 rfl rfl rfl rfl rfl rfl rfl ⟨rfl, rfl, rfl, rfl, rfl⟩ rfl rfl rfl rfl rfl (by kernel_rfl) Try.func4 (by kernel_rfl)
    (of_decide_eq_true (by kernel_rfl)) (by unfold Func.isWrapper; first | (rw [if_pos (by decide +kernel)]; kernel_rfl) | (rw [if_neg (by decide +kernel)]; exact ⟨rfl, rfl⟩))
    (fun os started H enc _ => lifted4 os started H enc)

end Go.Proofs.Ytmbdccekcfeomaa.Am
end
namespace Go.Proofs.Ytmbdccekcfeomaa
theorem topfirst_holds : Rows.TopFirstSaid := Am.first_holds
end Go.Proofs.Ytmbdccekcfeomaa
