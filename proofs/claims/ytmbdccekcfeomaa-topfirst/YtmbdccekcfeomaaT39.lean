/- The search: less, keep. -/
import Derived.Test.YtmbdccekcfeomaaT38
section
open Go
namespace Go.Proofs.Ytmbdccekcfeomaa.Am
set_option linter.unusedSimpArgs false
set_option linter.unusedVariables false
set_option maxRecDepth 20000

theorem SP.trans {lo n1 n2 n3 n4 sid : Nat} {l : Lo} {x1 x2 x3 : SI} {s1 s2 s3 : SS} {H1 H2 H3 H4 : Nat → Option Obj} (h1 : SP lo sid l x1 s1 H1 n1 H2 n2 x2 s2) (h2 : SP lo sid l x2 s2 H3 n3 H4 n4 x3 s3) (hn : n2 ≤ n3) (hf : ∀ j, j < n2 → H3 j = H2 j) : SP lo sid l x1 s1 H1 n1 H4 n4 x3 s3 :=
  ⟨h2.1, h2.2.1, h1.2.2.trans ((Ev.keep (Nat.le_refl n2) hf).trans h2.2.2 hn) (Nat.le_refl _)⟩
theorem SP.start {lo n n' sid : Nat} {l : Lo} {x : SI} {s : SS} {H H' : Nat → Option Obj} (hs : Srch H lo n sid l x s) (hg : Gd l s) (hn : n ≤ n') (hf : ∀ j, j < n → H' j = H j) : SP lo sid l x s H n H' n' x s :=
  ⟨(hs.keep hf).mono hn, hg, Ev.keep hn hf⟩
theorem SP.more {lo n n' n'' sid : Nat} {l : Lo} {x x' : SI} {s s' : SS} {H H' H'' : Nat → Option Obj} (h : SP lo sid l x s H n H' n' x' s') (hn : n' ≤ n'') (hf : ∀ j, j < n' → H'' j = H' j) : SP lo sid l x s H n H'' n'' x' s' :=
  ⟨(h.1.keep hf).mono hn, h.2.1, h.2.2.trans (Ev.keep hn hf) (Nat.le_refl _)⟩
theorem lt_forty {k : Nat} (h : k < 40) : decide ((k : Int) < 40) = true := by simp; omega

theorem less_spec {lo sid wl nx : Nat} {l : Lo} {x : SI} {s : SS} {H : Nat → Option Obj} (hl : l.fin) (h0 : l.chk.1 = 0) (hs : Srch H lo nx sid l x s) (hg : Gd l s) (hwl : wl ≤ lo) {k : Nat} (hk : k < s.had.length) (hwn : wl ≤ nx) :
    Call tab wl 42 [.ptr sid 0 0, .int .i64 k] H nx fun r H' nx' => ∃ x' s', SP lo sid l x s H nx H' nx' x' s' ∧ s'.opn = s.opn ∧ (r = .tup [.int .i64 0, .bool false] ∨ ∃ j : Nat, r = .tup [.int .i64 j, .bool true] ∧ j + 1 = s'.had.length ∧ s.had.length < s'.had.length) := by
  refine call_mut tab_42 ?_
  unfold body42
  dsimp only [qm, qf, ql, qL, qs, qc, qk, qi, qn, qb, qB, qe, qx, qo, qg]
  simp only [start2]
  rw [W_assoc]
  refine W_cut (fun e lc H' n => e 0 = .ptr sid 0 0 ∧ nx ≤ n ∧ ∃ x' s', ∃ k' : Nat, SP lo sid l x s H nx H' n x' s' ∧ s'.opn = s.opn ∧ e 1 = .int .i64 k' ∧ k' < s'.had.length) ?_ ?_
  · simp only [↓sd0, su0, su1, resOf, pack, eqCells, ↓reduceIte, Nat.reduceEqDiff, Nat.reduceAdd, Nat.reduceLeDiff, Nat.reduceLT, reduceCtorEq]
    refine W_count 40 (fun i e lc H' n => e 0 = .ptr sid 0 0 ∧ nx ≤ n ∧ e 8 = .int .i64 i ∧ ∃ x' s', ∃ k' : Nat, SP lo sid l x s H nx H' n x' s' ∧ s'.opn = s.opn ∧ e 1 = .int .i64 k' ∧ k' < s'.had.length) ?_ ?_ ?_
    · simp only [↓sd0, su0, su1, resOf, pack, eqCells, ↓reduceIte, Nat.reduceEqDiff, Nat.reduceAdd, Nat.reduceLeDiff, Nat.reduceLT, reduceCtorEq]
      exact ⟨x, s, k, SP.start hs hg (by omega) (fun _ _ => rfl), rfl, rfl, hk⟩
    · rintro i e lc H' n hi ⟨e0', hn, e8, x', s', k', hsp, ho, e1, hk'⟩
      have hwi := wrap_succ hi (by omega)
      simp only [↓sd0, su0, su1, resOf, pack, eqCells, ↓reduceIte, Nat.reduceEqDiff, Nat.reduceAdd, Nat.reduceLeDiff, Nat.reduceLT, reduceCtorEq, e0', e8, e1, lt_forty hi]
      refine CallK_of (lower_spec hl h0 (hsp.1.mono (by omega)) hsp.2.1 hwl hk' (by omega)) ?_
      rintro r H2 n2 ⟨x2, s2, hsp2, ho2, hr⟩
      have hsp3 := SP.trans hsp hsp2 (by omega) (fun _ _ => rfl)
      have hn2 := hsp2.2.2.le
      have hh2 := hsp2.2.2.had
      rcases hr with rfl | ⟨j, rfl, hj⟩
      · simp only [↓sd0, su0, su1, resOf, pack, eqCells, ↓reduceIte, Nat.reduceEqDiff, Nat.reduceAdd, Nat.reduceLeDiff, Nat.reduceLT, reduceCtorEq, e0', e8, e1]
        exact ⟨by omega, x2, s2, k', hsp3.more (by omega) (fun _ _ => rfl), by rw [ho2, ho], rfl, by omega⟩
      · simp only [↓sd0, su0, su1, resOf, pack, eqCells, ↓reduceIte, Nat.reduceEqDiff, Nat.reduceAdd, Nat.reduceLeDiff, Nat.reduceLT, reduceCtorEq, e0', e8, e1, hwi]
        exact ⟨by omega, x2, s2, j, hsp3.more (by omega) (fun _ _ => rfl), by rw [ho2, ho], rfl, hj⟩
    · rintro e lc H' n ⟨e0', hn, e8, x', s', k', hsp, ho, e1, hk'⟩
      have q : decide (((40 : Nat) : Int) < 40) = false := by decide
      simp only [↓sd0, su0, su1, resOf, pack, eqCells, ↓reduceIte, Nat.reduceEqDiff, Nat.reduceAdd, Nat.reduceLeDiff, Nat.reduceLT, reduceCtorEq, e0', e8, e1, q]
      exact ⟨by omega, x', s', k', hsp.more (by omega) (fun _ _ => rfl), ho, rfl, hk'⟩
  · rintro e lc H' n ⟨e0', hn, x', s', k', hsp, ho, e1, hk'⟩
    simp only [↓sd0, su0, su1, resOf, pack, eqCells, ↓reduceIte, Nat.reduceEqDiff, Nat.reduceAdd, Nat.reduceLeDiff, Nat.reduceLT, reduceCtorEq, e0', e1]
    refine CallK_of (sonce_spec hl h0 (hsp.1.mono (by omega)) hsp.2.1 hwl k') ?_
    rintro r H2 n2 ⟨x2, s2, hsp2, ho2, hr⟩
    have hsp3 := SP.trans hsp hsp2 (by omega) (fun _ _ => rfl)
    have hh := hsp.2.2.had
    rcases hr with ⟨rfl, hr⟩ | ⟨c, hr, rfl⟩
    · simp only [↓sd0, su0, su1, resOf, pack, eqCells, ↓reduceIte, Nat.reduceEqDiff, Nat.reduceAdd, Nat.reduceLeDiff, Nat.reduceLT, reduceCtorEq]
      exact ⟨x2, s2, hsp3, by rw [ho2, ho], by first | exact Or.inl rfl | exact Or.inl trivial⟩
    · simp only [↓sd0, su0, su1, resOf, pack, eqCells, ↓reduceIte, Nat.reduceEqDiff, Nat.reduceAdd, Nat.reduceLeDiff, Nat.reduceLT, reduceCtorEq]
      exact ⟨x2, s2, hsp3, by rw [ho2, ho], Or.inr ⟨_, rfl, by rw [hr]; simp, by rw [hr]; simp; omega⟩⟩

theorem isNil_opv (b : Bool) (i n : Nat) : isNilSlice (opv b i n) = some b := by unfold opv; cases b <;> rfl
theorem nol_opv (b : Bool) (i n : Nat) : (opv b i n).nol = true := by unfold opv; cases b; { exact nol_lref _ _ _ }; { exact nol_nil }
theorem lenV_opv {b : Bool} {i n : Nat} (h : b = true → n = 0) : lenV (opv b i n) = some (.int .i64 n) := by
  unfold opv; cases b
  · rfl
  · rw [h rfl]; rfl
theorem part_opv (b : Bool) (i n : Nat) : part 1 false (opv b i n) 0 = some (opv b i n) := by unfold opv; cases b <;> rfl
theorem elems_opv {H : Nat → Option Obj} {b : Bool} {i : Nat} {es junk : List AV} (h1 : b = true → es = []) (h2 : b = false → H i = some (.arr 1 (es ++ junk))) : elemsV H 1 (opv b i es.length) = some es := by
  unfold opv
  cases b
  · rw [if_neg (by simp), elemsV_lref, h2 rfl]
    simp only
    rw [if_pos ⟨trivial, by simp⟩]; simp
  · rw [h1 rfl]; rfl
theorem frozN {wl : Nat} {H : Nat → Option Obj} {es ys : List AV} {b : Bool} {r : AV} {nx nx' : Nat} (hs : AV.solids (es ++ ys) = true) (hl : es.length + ys.length < 4294967296) (hw : wl ≤ nx) (h : (b = true ∧ r = .nilSlice ∧ es = []) ∨ (b = false ∧ ∃ id, nx ≤ id ∧ id < nx' ∧ r = .lref id 0 es.length ∧ H id = some (.arr 1 es))) :
    ∃ H', (∀ nid, appendV wl nid true 1 8 H ys r = some (sl 1 b (es ++ ys), H')) ∧ ∀ j, j < nx → H' j = H j := by
  rcases h with ⟨rfl, rfl, rfl⟩ | ⟨rfl, id, h1, h2, rfl, h3⟩
  · refine ⟨H, fun nid => ?_, fun _ _ => rfl⟩
    cases ys with
    | nil => rfl
    | cons y ys =>
      simp only [appendV]
      rw [if_neg (by simp), if_pos (by simp at hl ⊢; omega)]
      simp only [if_true, List.nil_append]
      rw [if_pos (by simpa using hs)]
      simp [sl]
  · refine ⟨upd H id none, fun nid => ?_, fun j hj => upd_other _ _ (by omega)⟩
    simp only [appendV]
    rw [if_pos (by omega), h3]
    simp only
    rw [if_pos ⟨trivial, by simp, by omega⟩]
    simp only [if_true, List.drop_zero, List.take_length]
    rw [if_pos hs]
    simp [sl]
theorem nint_solids (l : List Nat) : AV.solids (l.map nint) = true := solids_map (fun n => solid_int _ _) l

theorem endsB_last {cs : List Cl} {k : Nat} (hk : k < cs.length) (hl : k + 1 = cs.length) (h : cs[k].fs = []) : endsB cs = true := by
  unfold endsB
  rw [List.getLast?_eq_getElem?, show cs.length - 1 = k by omega, List.getElem?_eq_getElem hk]
  show cs[k].fs.isEmpty = true
  rw [h]; rfl

theorem append_opn {wl : Nat} {H : Nat → Option Obj} {b : Bool} {i : Nat} {os : List Nat} {junk : List AV} (k : Nat) (hw : wl ≤ i) (h1 : b = true → os = []) (h2 : b = false → H i = some (.arr 1 (os.map nint ++ junk))) (hl : os.length < 4294967296) :
    (∃ junk', ∀ nid, appendV wl nid false 1 8 H [.int .i64 k] (opv b i os.length) = some (.lref i 0 (os.length + 1), upd H i (some (.arr 1 ((os ++ [k]).map nint ++ junk'))))) ∨
    (∃ G : Nat → Option Obj, (∀ j, j ≠ i → G j = H j) ∧ ∀ nid, appendV wl nid false 1 8 H [.int .i64 k] (opv b i os.length) = some (.lref nid 0 (os.length + 1), upd G nid (some (.arr 1 ((os ++ [k]).map nint))))) := by
  have htk : List.take os.length (os.map nint) = os.map nint := List.take_of_length_le (by simp)
  unfold opv
  cases b
  · have hH := h2 rfl
    simp only [Bool.false_eq_true, if_false]
    cases junk with
    | nil =>
      refine Or.inr ⟨upd H i none, fun j hj => upd_other _ _ hj, fun nid => ?_⟩
      simp only [appendV]
      rw [if_pos hw, hH]
      simp only
      rw [if_pos ⟨trivial, by simp, by simp; omega⟩]
      simp only [Bool.false_eq_true, if_false]
      rw [if_neg (by simp)]
      simp [nint, htk]
    | cons q junk =>
      refine Or.inl ⟨junk, fun nid => ?_⟩
      simp only [appendV]
      rw [if_pos hw, hH]
      simp only
      rw [if_pos ⟨trivial, by simp, by simp; omega⟩]
      simp only [Bool.false_eq_true, if_false]
      rw [if_pos (by simp)]
      have e1 : List.take (0 + os.length) (os.map nint ++ q :: junk) = os.map nint := by rw [List.take_append_of_le_length (by simp), Nat.zero_add]; exact htk
      have e2 : List.drop (0 + os.length + 1) (os.map nint ++ q :: junk) = junk := by
        rw [show 0 + os.length + 1 = (os.map nint).length + 1 by simp, List.drop_append]; simp
      simp only [List.length_cons, List.length_nil]
      rw [e1, e2]; simp [nint]
  · have e := h1 rfl
    subst e
    refine Or.inr ⟨H, fun _ _ => rfl, fun nid => ?_⟩
    simp [appendV, nint]

end Go.Proofs.Ytmbdccekcfeomaa.Am
end
/- The search: keep. -/
section
open Go
namespace Go.Proofs.Ytmbdccekcfeomaa.Am
set_option linter.unusedSimpArgs false
set_option linter.unusedVariables false
set_option maxRecDepth 20000

/-- What a call answers that may find the claim without facts. -/
def KeepR (lo sid : Nat) (l : Lo) (x : SI) (s : SS) (H : Nat → Option Obj) (nx : Nat) (r : AV) (H' : Nat → Option Obj) (nx' : Nat) : Prop :=
  ∃ x' s' b, SP lo sid l x s H nx H' nx' x' s' ∧ r = .bool b ∧ (b = true → endsB s'.had = true)

theorem cmost_ok {c : Cl} (h : c.ok) : Gives tab 32 [c.av] (.int .i64 c.most) :=
  cmost_spec c (by have := h.1; omega) fun f hf => by have := (Cl.ok_good h).2 f hf; exact ⟨⟨by have := this.1.1; omega, this.1.2⟩, ⟨by have := this.2.1; omega, this.2.2⟩⟩
theorem most_ok {c : Cl} (h : c.ok) : c.most ≤ 8 := by
  unfold Cl.most
  have := h.2
  generalize c.fs = fs at this
  induction fs with
  | nil => rw [mostsF]; omega
  | cons f fs ih =>
    rw [mostsF]
    have a := this f (List.mem_cons_self ..)
    have b := ih fun x hx => this x (List.mem_cons_of_mem _ hx)
    have := vt_most _ a.1.2
    have := vt_most _ a.2.2
    omega

theorem elems_lv {H : Nat → Option Obj} {lo hi sz id : Nat} {es : List AV} (ho : Own H lo hi sz id es) : elemsV H sz (lv id es.length) = some es := by
  by_cases c : es = []
  · subst c; rfl
  · have := (ho c).2.2
    have h0 : es.length ≠ 0 := fun h => c (List.length_eq_zero_iff.1 h)
    unfold lv
    rw [if_neg h0, elemsV_lref, this]
    simp

theorem Cl.part_elfs' (c : Cl) : fieldV 0 1 false c.av = some (sl 5 c.nil (c.fs.map Fa.av)) := by
  have h : (AV.agg [sl 5 c.nil (c.fs.map Fa.av)]).isAgg = true := rfl
  simp [fieldV, Cl.av, Cl.el, part, AV.cells, cells_sl, isAgg_sl, h]
theorem push_SP {lo sid nx n1 n' : Nat} {l : Lo} {x x1 : SI} {s s1 : SS} {H H2 F : Nat → Option Obj} (h : SP lo sid l x s H nx H2 n1 x1 s1) (hdl : s1.opn.length < s1.had.length) {k1 i4' : Nat} {junk' : List AV} (hk : k1 < s1.had.length) (hi : i4' = x1.i4 ∨ n1 ≤ i4') (hi2 : i4' < n') (hn : n1 ≤ n')
    (hF : ∀ j, j < n1 → j ≠ sid → j ≠ x1.i4 → F j = H2 j) (hS : F sid = some (.arr 7 [sobj l { x1 with i4 := i4', nil4 := false, junk := junk' } { s1 with opn := s1.opn ++ [k1] }])) (hI : F i4' = some (.arr 1 ((s1.opn ++ [k1]).map nint ++ junk'))) :
    SP lo sid l x s H nx F n' { x1 with i4 := i4', nil4 := false, junk := junk' } { s1 with opn := s1.opn ++ [k1] } := by
  have h1 := h.1.lo'
  have h2 := h.1.lt
  have h3 := h.1.ne
  have hi3 : i4' ≠ sid ∧ i4' ≠ x1.i2 ∧ i4' ≠ x1.i3 ∧ i4' ≠ x1.i5 ∧ lo ≤ i4' := by rcases hi with h | h <;> omega
  refine ⟨{ obj := hS, lo' := by simp only; omega, lt := by simp only; omega, ne := by simp only; omega, o2 := fun a => ?_, o3 := fun a => ?_, o4 := by simp, o4' := fun _ => hI, o5 := fun a => ?_ }, ?_, ?_⟩
  · exact (hF x1.i2 (by omega) (by omega) (by omega)).trans (h.1.o2 a)
  · exact (hF x1.i3 (by omega) (by omega) (by omega)).trans (h.1.o3 a)
  · exact (hF x1.i5 (by omega) (by omega) (by omega)).trans (h.1.o5 a)
  · have g := h.2.1
    refine { tk := g.tk, gf := g.gf, gl := g.gl, hl := g.hl, ok := g.ok, op := fun u hu => ?_, dn := g.dn, dl := by refine ⟨?_, g.dl.2⟩; simp; omega }
    rcases List.mem_append.1 hu with h | h
    · exact g.op u h
    · simp at h; rw [h]; exact hk
  · have e := h.2.2
    refine ⟨by have := e.le; omega, e.i5, e.dn, e.i2, e.i3, ?_, fun j hj a b c d => ?_, e.had⟩
    · rcases hi with h | h
      · simp only; rw [h]; exact e.i4
      · have := e.le; exact Or.inr (by simp only; omega)
    · have := e.le
      rw [hF j (by omega) a (by rcases e.i4 with h | h <;> omega)]
      exact e.fr j hj a b c d

theorem keep_spec {lo sid wl nx : Nat} {l : Lo} {x : SI} {s : SS} {H : Nat → Option Obj} (hl : l.fin) (h0 : l.chk.1 = 0) (hs : Srch H lo nx sid l x s) (hg : Gd l s) (hwl : wl ≤ lo) {k : Nat} (hk : k < s.had.length) (hwn : wl ≤ nx) :
    Call tab wl 20 [.ptr sid 0 0, .int .i64 k] H nx fun r H' nx' => KeepR lo sid l x s H nx r H' nx' := by
  refine call_mut tab_20 ?_
  unfold body20
  dsimp only [qm, qf, ql, qL, qs, qc, qk, qi, qn, qb, qB, qe, qx, qo, qg]
  simp only [start2]
  rw [W_assoc]
  refine W_cut (fun e lc H' n => e 0 = .ptr sid 0 0 ∧ nx ≤ n ∧ ∃ x' s', ∃ k' : Nat, SP lo sid l x s H nx H' n x' s' ∧ e 1 = .int .i64 k' ∧ k' < s'.had.length) ?_ ?_
  · have hh := hs.had_at hk
    have hobj := hs.obj
    unfold sobj at hobj
    have hko := hg.ok _ (List.getElem_mem hk)
    have hcm := cmost_ok hko
    cases q : decide ((s.had[k].most : Int) > 0)
    · simp only [↓sd0, su0, su1, resOf, pack, eqCells, ↓reduceIte, Nat.reduceEqDiff, Nat.reduceAdd, Nat.reduceLeDiff, Nat.reduceLT, reduceCtorEq, hobj, hh.1, hh.2, hcm.callK, q]
      exact ⟨x, s, k, SP.start hs hg (by omega) (fun _ _ => rfl), rfl, hk⟩
    · simp only [↓sd0, su0, su1, resOf, pack, eqCells, ↓reduceIte, Nat.reduceEqDiff, Nat.reduceAdd, Nat.reduceLeDiff, Nat.reduceLT, reduceCtorEq, hobj, hh.1, hh.2, hcm.callK, q]
      refine CallK_of (renaming_spec _ (Cl.ok_good hko)) ?_
      rintro r H1 n1 ⟨⟨ts, rfl, htl, hts⟩, rfl, rfl⟩
      have hmk := most_ok hko
      simp only [↓sd0, su0, su1, resOf, pack, eqCells, ↓reduceIte, Nat.reduceEqDiff, Nat.reduceAdd, Nat.reduceLeDiff, Nat.reduceLT, reduceCtorEq, agg_bound]
      refine CallK_of (add_spec hl h0 (hs.mono (by omega)) hg hwl ⟨2, k, 0, 0, 0, false, true, [], false, ts⟩ ⟨by simp, by simp, by show ts.length < _; omega, fun t ht => by rw [hts t ht]; omega⟩) ?_
      rintro r H2 n2 ⟨x2, s2, hsp, ho, hr⟩
      have hsp' := SP.trans (SP.start hs hg (Nat.le_refl nx) (fun _ _ => rfl)) hsp (by omega) (fun _ _ => rfl)
      have hn2 := hsp.2.2.le
      rcases hr with ⟨rfl, hr⟩ | ⟨c, hr, rfl⟩
      · simp only [↓sd0, su0, su1, resOf, pack, eqCells, ↓reduceIte, Nat.reduceEqDiff, Nat.reduceAdd, Nat.reduceLeDiff, Nat.reduceLT, reduceCtorEq]
        exact ⟨x2, s2, false, hsp'.more (by omega) (fun _ _ => rfl), rfl, by simp⟩
      · simp only [↓sd0, su0, su1, resOf, pack, eqCells, ↓reduceIte, Nat.reduceEqDiff, Nat.reduceAdd, Nat.reduceLeDiff, Nat.reduceLT, reduceCtorEq]
        exact ⟨by omega, x2, s2, _, hsp'.more (by omega) (fun _ _ => rfl), rfl, by rw [hr]; simp⟩
  rintro e lc H1 n1 ⟨e0', hn1, x1, s1, k1, hsp1, e1, hk1⟩
  rw [W_assoc]
  refine W_cut (fun e lc H' n => e 0 = .ptr sid 0 0 ∧ nx ≤ n ∧ ∃ x' s', ∃ k' : Nat, SP lo sid l x s H nx H' n x' s' ∧ e 1 = .int .i64 k' ∧ k' + 1 = s'.had.length ∧ s'.opn.length < s'.had.length) ?_ ?_
  · simp only [↓sd0, su0, su1, resOf, pack, eqCells, ↓reduceIte, Nat.reduceEqDiff, Nat.reduceAdd, Nat.reduceLeDiff, Nat.reduceLT, reduceCtorEq, e0', e1]
    refine CallK_of (less_spec hl h0 (hsp1.1.mono (by omega)) hsp1.2.1 hwl hk1 (by omega)) ?_
    rintro r H2 n2 ⟨x2, s2, hsp2, ho2, hr⟩
    have hsp3 := SP.trans hsp1 hsp2 (by omega) (fun _ _ => rfl)
    have hn2 := hsp2.2.2.le
    rcases hr with rfl | ⟨j, rfl, hj, hj2⟩
    · simp only [↓sd0, su0, su1, resOf, pack, eqCells, ↓reduceIte, Nat.reduceEqDiff, Nat.reduceAdd, Nat.reduceLeDiff, Nat.reduceLT, reduceCtorEq, e0']
      exact ⟨x2, s2, false, hsp3.more (by omega) (fun _ _ => rfl), rfl, by simp⟩
    · simp only [↓sd0, su0, su1, resOf, pack, eqCells, ↓reduceIte, Nat.reduceEqDiff, Nat.reduceAdd, Nat.reduceLeDiff, Nat.reduceLT, reduceCtorEq, e0']
      have h1 := hsp1.2.1.dl
      have h2 := hsp2.2.2.dn
      exact ⟨by omega, x2, s2, j, hsp3.more (by omega) (fun _ _ => rfl), rfl, hj, by rw [ho2]; omega⟩
  clear e0' hn1 hsp1 e1 hk1
  clear e lc H1 n1 x1 s1 k1
  rintro e lc H1 n1 ⟨e0', hn1, x1, s1, k1, hsp1, e1, hk1, hdl⟩
  have hs1 := hsp1.1
  have hg1 := hsp1.2.1
  have hk1' : k1 < s1.had.length := by omega
  have hhl2 : s1.had.length ≤ 400 := by have := hg1.hl; have := hg1.gl; omega
  have hhl : s1.had.length < 4294967296 := by have := hg1.hl; have := hg1.gl; omega
  have hh := hs1.had_at hk1'
  have hobj := hs1.obj
  unfold sobj at hobj
  have hko := hg1.ok _ (List.getElem_mem hk1')
  have hfin : ∀ c : Cl, c.ok → c.fs.length < 4294967296 ∧ ∀ f ∈ c.fs, f.l.size < 1099511627776 ∧ f.r.size < 1099511627776 := fun c hc => Cl.good_fin (Cl.ok_good hc)
  simp only [↓sd0, su0, su1, resOf, pack, eqCells, ↓reduceIte, Nat.reduceEqDiff, Nat.reduceAdd, Nat.reduceLeDiff, Nat.reduceLT, reduceCtorEq, e0', e1, hobj, hh.1, hh.2]
  refine CallK_of (named_spec _ (hfin _ hko).1 (hfin _ hko).2) ?_
  rintro r H2 n2 ⟨⟨c', rfl, hcl, hcf⟩, rfl, rfl⟩
  by_cases cz : s1.had[k1].fs.length = 0
  · have q : ((c'.fs.length : Int) == 0) = true := by simp; exact List.length_eq_zero_iff.1 (by omega)
    simp only [↓sd0, su0, su1, resOf, pack, eqCells, ↓reduceIte, Nat.reduceEqDiff, Nat.reduceAdd, Nat.reduceLeDiff, Nat.reduceLT, reduceCtorEq, q]
    exact ⟨x1, s1, true, hsp1.more (by omega) (fun _ _ => rfl), rfl, fun _ => endsB_last hk1' hk1 (List.length_eq_zero_iff.1 cz)⟩
  · have q : ((c'.fs.length : Int) == 0) = false := by
      have : c'.fs.length ≠ 0 := by omega
      simp; intro h; rw [h] at this; exact this rfl
    have hid := idle_spec c' (by have := (hfin _ hko).1; omega) (fun f hf => by have := (hcf f hf).1; omega)
    cases ci : c'.fs.any Fa.idle
    · rw [ci] at hid
      have hnil : isNilSlice (opv x1.nil4 x1.i4 s1.opn.length) = some x1.nil4 := isNil_opv _ _ _
      simp only [↓sd0, su0, su1, resOf, pack, eqCells, ↓reduceIte, Nat.reduceEqDiff, Nat.reduceAdd, Nat.reduceLeDiff, Nat.reduceLT, reduceCtorEq, dr0, Nat.reducePow, Nat.reduceDiv, Nat.reduceMod, Nat.reduceBEq, e0', e1, q, hid.callK, hobj, nol_opv, part_opv]
      have helm : ∀ H3 : Nat → Option Obj, (∀ j, j < n1 → H3 j = H2 j) → elemsV H3 1 (opv x1.nil4 x1.i4 s1.opn.length) = some (s1.opn.map nint) := fun H3 hf => by
        have := elems_opv (H := H3) (b := x1.nil4) (i := x1.i4) (es := s1.opn.map nint) (junk := x1.junk) (fun h => by rw [hs1.o4 h]; rfl) (fun h => by rw [hf _ hs1.lt.2.2.2.1]; exact hs1.o4' h)
        rw [List.length_map] at this; exact this
      refine CallK_of (clone45 hnil (nol_opv _ _ _) (fun H3 hf => helm H3 fun j hj => hf j (by omega)) (by have := hg1.dl; simp; omega)) ?_
      rintro r H3 n3 ⟨hn3, hf3, hr⟩
      have hobj3 : H3 sid = some (.arr 7 [sobj l x1 s1]) := by rw [hf3 _ (by have := hs1.lt; omega)]; exact hs1.obj
      unfold sobj at hobj3
      have hs3 := hs1.keep (H' := H3) (fun j hj => hf3 j (by omega))
      obtain ⟨H4, hap, hf4⟩ := frozN (wl := wl) (H := H3) (es := s1.opn.map nint) (ys := s1.dn.map nint) (b := x1.nil4) (r := r) (nx := n1 + 28) (nx' := n3) (by rw [← List.map_append]; exact nint_solids _) (by have := hg1.dl; simp; omega) (by omega) (by
        rcases hr with ⟨a, b⟩ | hr
        · exact Or.inl ⟨a, b, by rw [hs1.o4 a]; rfl⟩
        · exact Or.inr hr)
      have he5 := elems_lv hs3.own5
      rw [List.length_map] at he5
      simp only [↓sd0, su0, su1, resOf, pack, eqCells, ↓reduceIte, Nat.reduceEqDiff, Nat.reduceAdd, Nat.reduceLeDiff, Nat.reduceLT, reduceCtorEq, dr0, Nat.reducePow, Nat.reduceDiv, Nat.reduceMod, Nat.reduceBEq, e0', e1, hobj3, he5, hap]
      have hw1 : (!decide (n1 + 16 ≤ sid)) = true := by have := hs1.lt; simp; omega
      have hks : ∀ u ∈ s1.opn ++ s1.dn, u < s1.had.length := fun u hu => by
        rcases List.mem_append.1 hu with h | h
        · exact hg1.op u h
        · exact hg1.dn u h
      have hkl : (s1.opn ++ s1.dn).length < 4294967296 := by have := hg1.dl; simp; omega
      have hfr4 : ∀ j, j < n1 → H4 j = H2 j := fun j hj => by rw [hf4 _ (by omega), hf3 _ (by omega)]
      simp only [hw1, true_and, ← List.map_append]
      generalize s1.opn ++ s1.dn = ks at hks hkl
      refine W_count ks.length (fun i e lc H' n => n1 ≤ n ∧ (∀ j, j < n1 → H' j = H2 j) ∧ e 0 = .ptr sid 0 0 ∧ e 1 = .int .i64 k1 ∧ (∃ m, e 8 = .loc 8 m 0 ∧ lc 8 = some (m, c'.av)) ∧ e 69 = sl 1 x1.nil4 (ks.map nint) ∧ e 70 = .int .i64 ks.length ∧ e 71 = .int .i64 i) ?_ ?_ ?_
      · simp only [↓sd0, su0, su1, resOf, pack, eqCells, ↓reduceIte, Nat.reduceEqDiff, Nat.reduceAdd, Nat.reduceLeDiff, Nat.reduceLT, reduceCtorEq, e0', e1]
        exact ⟨by omega, hfr4, _, rfl, rfl⟩
      · clear hap hf4 hfr4 hr he5 hs3 hobj3 hf3 hn3 e0' e1
        clear e lc r H3 n3
        rintro i e lc H' n hi ⟨hn, hf, e0', e1, ⟨m8, e8, l8⟩, e69, e70, e71⟩
        have hs' := hs1.keep hf
        have hob := hs'.obj
        unfold sobj at hob
        have hwi := wrap_succ hi (by omega)
        have hia : ∀ H, iaddrV H 1 (sl 1 x1.nil4 (ks.map nint)) (.int .i64 i) = some (.fptr (nint ks[i]) 0) := fun H => iaddr_map hi
        have hu := hks _ (List.getElem_mem hi)
        generalize ks[i] = u at hia hu
        have hhu := hs'.had_at hu
        have huo := hg1.ok _ (List.getElem_mem hu)
        simp only [↓sd0, su0, su1, resOf, pack, eqCells, ↓reduceIte, Nat.reduceEqDiff, Nat.reduceAdd, Nat.reduceLeDiff, Nat.reduceLT, reduceCtorEq, dr0, Nat.reducePow, Nat.reduceDiv, Nat.reduceMod, Nat.reduceBEq, e0', e1, e8, l8, e69, e70, e71, lt_cast hi, hia, nint, hob, hhu.1, hhu.2]
        refine CallK_of (named_spec _ (hfin _ huo).1 (hfin _ huo).2) ?_
        rintro r H3 n3 ⟨⟨c2, rfl, hc2, hcf2⟩, rfl, rfl⟩
        obtain ⟨b, heq⟩ := equalf_spec c2.fs c'.fs c2.nil c'.nil (by have := (hfin _ huo).1; omega) (fun f hf => by have := hcf2 f hf; omega)
        have hfl : fieldV 0 1 false c2.av = some (sl 5 c2.nil (c2.fs.map Fa.av)) := Cl.part_elfs' c2
        cases b
        · simp only [↓sd0, su0, su1, resOf, pack, eqCells, ↓reduceIte, Nat.reduceEqDiff, Nat.reduceAdd, Nat.reduceLeDiff, Nat.reduceLT, reduceCtorEq, dr0, Nat.reducePow, Nat.reduceDiv, Nat.reduceMod, Nat.reduceBEq, hfl, heq.callK, e0', e1, e8, l8, e69, e70, e71, hwi]
          exact ⟨by omega, hf, _, rfl, rfl⟩
        · simp only [↓sd0, su0, su1, resOf, pack, eqCells, ↓reduceIte, Nat.reduceEqDiff, Nat.reduceAdd, Nat.reduceLeDiff, Nat.reduceLT, reduceCtorEq, dr0, Nat.reducePow, Nat.reduceDiv, Nat.reduceMod, Nat.reduceBEq, hfl, heq.callK, e0', e1, e8, l8, e69, e70, e71]
          exact ⟨x1, s1, false, hsp1.more (by omega) hf, rfl, by simp⟩
      · clear hap hf4 hfr4 hr he5 hs3 hobj3 hf3 hn3 e0' e1
        clear e lc r H3 n3
        rintro e lc H' n ⟨hn, hf, e0', e1, ⟨m8, e8, l8⟩, e69, e70, e71⟩
        have hs' := hs1.keep hf
        have hob := hs'.obj
        unfold sobj at hob
        have q : decide (((ks.length : Nat) : Int) < ks.length) = false := by simp
        simp only [↓sd0, su0, su1, resOf, pack, eqCells, ↓reduceIte, Nat.reduceEqDiff, Nat.reduceAdd, Nat.reduceLeDiff, Nat.reduceLT, reduceCtorEq, dr0, Nat.reducePow, Nat.reduceDiv, Nat.reduceMod, Nat.reduceBEq, e0', e1, e8, l8, e69, e70, e71, q, hob]
        have hjl := hs1.lo'
        have hlt := hs1.lt
        have hne := hs1.ne
        rcases append_opn (wl := wl) (H := H') (b := x1.nil4) (i := x1.i4) (os := s1.opn) (junk := x1.junk) k1 (by omega) hs'.o4 hs'.o4' (by have := hg1.dl; omega) with ⟨junk', hap⟩ | ⟨G, hG, hap⟩
        · have hoth : ¬ (sid = x1.i4) := by omega
          have hw2 : wl ≤ sid := by omega
          simp only [↓sd0, su0, su1, resOf, pack, eqCells, ↓reduceIte, Nat.reduceEqDiff, Nat.reduceAdd, Nat.reduceLeDiff, Nat.reduceLT, reduceCtorEq, hap, hoth, hob, hw2, List.set_cons_zero]
          refine ⟨_, _, false, push_SP hsp1 hdl hk1' (i4' := x1.i4) (junk' := junk') (Or.inl rfl) (by omega) (by omega) (fun j hj a b => ?_) ?_ ?_, rfl, by simp⟩
          · rw [upd_other _ _ a, upd_other _ _ b]; exact hf j hj
          · rw [upd_same]; simp [sobj, opv]
          · rw [upd_other _ _ (by omega), upd_same]; try simp
        · have hoth : ∀ k, ¬ (sid = n + k) := fun k => by omega
          have hw2 : wl ≤ sid := by omega
          have hGs := hG sid (by omega)
          simp only [↓sd0, su0, su1, resOf, pack, eqCells, ↓reduceIte, Nat.reduceEqDiff, Nat.reduceAdd, Nat.reduceLeDiff, Nat.reduceLT, reduceCtorEq, hap, hoth, hGs, hob, hw2, List.set_cons_zero]
          refine ⟨_, _, false, push_SP hsp1 hdl hk1' (i4' := n + 8) (junk' := []) (Or.inr (by omega)) (by omega) (by omega) (fun j hj a b => ?_) ?_ ?_, rfl, by simp⟩
          · rw [upd_other _ _ a, upd_other _ _ (by omega), hG _ b]; exact hf j hj
          · rw [upd_same]; simp [sobj, opv]
          · rw [upd_other _ _ (by omega), upd_same]; try simp
    · rw [ci] at hid
      simp only [↓sd0, su0, su1, resOf, pack, eqCells, ↓reduceIte, Nat.reduceEqDiff, Nat.reduceAdd, Nat.reduceLeDiff, Nat.reduceLT, reduceCtorEq, q, hid.callK]
      exact ⟨x1, s1, false, hsp1.more (by omega) (fun _ _ => rfl), rfl, by simp⟩

end Go.Proofs.Ytmbdccekcfeomaa.Am
end
/- The search: single. -/
section
open Go
namespace Go.Proofs.Ytmbdccekcfeomaa.Am
set_option linter.unusedSimpArgs false
set_option linter.unusedVariables false
set_option maxRecDepth 20000

theorem T.mosts_mem {ks : List T} {k : T} (h : k ∈ ks) : k.most ≤ T.mosts ks := by
  induction ks with
  | nil => simp at h
  | cons a as ih =>
    rw [T.mosts]
    rcases List.mem_cons.1 h with rfl | h
    · omega
    · have := ih h; omega
theorem vt_le {m m' : Nat} (t : T) : t.vt m → t.most ≤ m' → t.vt m' := by
  induction t using T.ind' with
  | h t ih =>
    intro h hm
    obtain ⟨⟨h0, h1, h2, h3⟩, hk⟩ := (T.vt_iff m t).1 h
    rw [T.most_eq] at hm
    exact (T.vt_iff m' t).2 ⟨⟨h0, by omega, h2, h3⟩, fun k hk' => ih k hk' (hk k hk') (by have := T.mosts_mem hk'; omega)⟩
theorem pair_vt {m : Nat} {a b : T} (ha : a.vt m) (hb : b.vt m) : (T.pair a b).vt m :=
  (T.vt_iff m _).2 ⟨⟨by show (13 : Int) ≠ 0; omega, by show _ ≤ (13 : Int); omega, by show (13 : Int) < _; omega, fun h => absurd h (by show ¬ (13 : Int) < 0; omega)⟩, fun k hk => by
    have hk' : k ∈ [a, b] := hk
    simp at hk'; rcases hk' with rfl | rfl <;> assumption⟩

/-- Facts lost. -/
theorem lost_SP {lo sid nx n' : Nat} {l : Lo} {x : SI} {s : SS} {H : Nat → Option Obj} (hs : Srch H lo nx sid l x s) (hg : Gd l s) (hn' : nx ≤ n') :
    SP lo sid l x s H nx (upd H sid (some (.arr 7 [sobj l x { s with lost := true }]))) n' x { s with lost := true } := by
  obtain ⟨⟨n1, n2, n3, n4⟩, _⟩ := hs.ne
  refine ⟨{ obj := upd_same _ _ _, lo' := hs.lo', lt := by have := hs.lt; omega, ne := hs.ne, o2 := fun a => ?_, o3 := fun a => ?_, o4 := hs.o4, o4' := fun a => ?_, o5 := fun a => ?_ }, { tk := hg.tk, gf := hg.gf, gl := hg.gl, hl := hg.hl, ok := hg.ok, op := hg.op, dn := hg.dn, dl := hg.dl }, ⟨hn', rfl, rfl, Or.inl rfl, Or.inl rfl, Or.inl rfl, fun j _ a _ _ _ => upd_other _ _ a, Nat.le_refl _⟩⟩
  · rw [upd_other _ _ n1.symm]; exact hs.o2 a
  · rw [upd_other _ _ n2.symm]; exact hs.o3 a
  · rw [upd_other _ _ n3.symm]; exact hs.o4' a
  · rw [upd_other _ _ n4.symm]; exact hs.o5 a

/-- Cells outside the search. -/
structure Side (H : Nat → Option Obj) (n sid : Nat) (x : SI) (p : Nat) (o : Obj) : Prop where
  at' : H p = some o
  lt : p < n
  ne : p ≠ sid ∧ p ≠ x.i2 ∧ p ≠ x.i3 ∧ p ≠ x.i4 ∧ p ≠ x.i5
theorem Side.ev {H H' : Nat → Option Obj} {n n' sid p : Nat} {x x' : SI} {s s' : SS} {o : Obj} (h : Side H n sid x p o) (e : Ev n n' sid x x' s s' H H') : Side H' n' sid x' p o where
  at' := by rw [e.fr p h.lt h.ne.1 h.ne.2.1 h.ne.2.2.1 h.ne.2.2.2.1]; exact h.at'
  lt := by have := e.le; have := h.lt; omega
  ne := by
    have := h.lt
    refine ⟨h.ne.1, ?_, ?_, ?_, by rw [e.i5]; exact h.ne.2.2.2.2⟩
    · rcases e.i2 with h' | h'; { rw [h']; exact h.ne.2.1 }; { omega }
    · rcases e.i3 with h' | h'; { rw [h']; exact h.ne.2.2.1 }; { omega }
    · rcases e.i4 with h' | h'; { rw [h']; exact h.ne.2.2.2.1 }; { omega }
theorem Side.keep {H H' : Nat → Option Obj} {n n' sid p : Nat} {x : SI} {o : Obj} (h : Side H n sid x p o) (hn : n ≤ n') (hf : ∀ j, j < n → H' j = H j) : Side H' n' sid x p o where
  at' := by rw [hf _ h.lt]; exact h.at'
  lt := by have := h.lt; omega
  ne := h.ne

theorem part_ptr (i j k : Nat) : part 1 false (.ptr i j k) 0 = some (.ptr i j k) := by simp [part, AV.cells, AV.isAgg]
theorem single1_spec {lo sid wl nx v p m : Nat} {l : Lo} {x : SI} {s : SS} {H : Nat → Option Obj} (hl : l.fin) (h0 : l.chk.1 = 0) (hs : Srch H lo nx sid l x s) (hg : Gd l s) (hwl : wl ≤ lo) {k : Nat} (hk : k < s.had.length) (hwn : wl ≤ nx)
    (hv : Side H nx sid x v (.arr 1 [.int .i64 m])) (hp : Side H nx sid x p (.arr 1 [.ptr sid 0 0])) (hm : m ≤ 8) {a b : T} (ha : a.vt m) (hb : b.vt m) (sa : a.size ≤ 100) (sb : b.size ≤ 100) :
    Call tab wl 78 [a.av, b.av, .ptr v 0 0, .ptr p 0 0, .fptr (.int .i64 k) 0] H nx fun r H' nx' => KeepR lo sid l x s H nx r H' nx' := by
  refine call_mut tab_78 ?_
  unfold body78
  dsimp only [qm, qf, ql, qL, qs, qc, qk, qi, qn, qb, qB, qe, qx, qo, qg]
  simp only [start5]
  have hobj := hs.obj
  unfold sobj at hobj
  have hvl := hv.at'
  have hpl := hp.at'
  have hlv : ∀ (a : T), T.av a = T.av a := fun _ => rfl
  simp only [↓sd0, su0, su1, resOf, pack, eqCells, ↓reduceIte, Nat.reduceEqDiff, Nat.reduceAdd, Nat.reduceLeDiff, Nat.reduceLT, reduceCtorEq, hvl, hpl, part_ptr]
  refine CallK_of (mgu_spec (S := 100) (by omega) (by omega) (by omega) a b ha hb sa sb) ?_
  rintro r H1 n1 ⟨hr, rfl, rfl⟩
  have w1 : wl ≤ sid := by have := hs.lo'; omega
  rcases hr with ⟨bs, rfl, hbl, hbs⟩ | rfl | rfl
  · simp only [↓sd0, su0, su1, resOf, pack, eqCells, ↓reduceIte, Nat.reduceEqDiff, Nat.reduceAdd, Nat.reduceLeDiff, Nat.reduceLT, reduceCtorEq, hvl, hpl, part_ptr]
    refine CallK_of (sbound_spec hl h0 (hs.mono (by omega)) hg hwl k bs (by omega) (fun t ht => by have := hbs t ht; omega)) ?_
    rintro r H2 n2 ⟨x2, s2, hsp, ho, hr⟩
    have hsp' := SP.trans (SP.start hs hg (Nat.le_refl nx) (fun _ _ => rfl)) hsp (by omega) (fun _ _ => rfl)
    rcases hr with ⟨rfl, hr⟩ | ⟨c, hr, rfl⟩
    · simp only [↓sd0, su0, su1, resOf, pack, eqCells, ↓reduceIte, Nat.reduceEqDiff, Nat.reduceAdd, Nat.reduceLeDiff, Nat.reduceLT, reduceCtorEq]
      exact ⟨x2, s2, false, hsp'.more (by omega) (fun _ _ => rfl), rfl, by simp⟩
    · have hp2 := (hp.ev hsp'.2.2).at'
      simp only [↓sd0, su0, su1, resOf, pack, eqCells, ↓reduceIte, Nat.reduceEqDiff, Nat.reduceAdd, Nat.reduceLeDiff, Nat.reduceLT, reduceCtorEq, hp2, part_ptr]
      have hn2 := hsp'.2.2.le
      refine CallK_of (keep_spec hl h0 (hsp'.1.mono (by omega)) hsp'.2.1 hwl (k := s.had.length) (by rw [hr]; simp) (by omega)) ?_
      rintro r H3 n3 ⟨x3, s3, bb, hsp3, rfl, hbb⟩
      simp only [↓sd0, su0, su1, resOf, pack, eqCells, ↓reduceIte, Nat.reduceEqDiff, Nat.reduceAdd, Nat.reduceLeDiff, Nat.reduceLT, reduceCtorEq]
      exact ⟨x3, s3, bb, (SP.trans hsp' hsp3 (by omega) (fun _ _ => rfl)).more (by omega) (fun _ _ => rfl), rfl, hbb⟩
  · simp only [↓sd0, su0, su1, resOf, pack, eqCells, ↓reduceIte, Nat.reduceEqDiff, Nat.reduceAdd, Nat.reduceLeDiff, Nat.reduceLT, reduceCtorEq]
    exact ⟨x, s, false, SP.start hs hg (by omega) (fun _ _ => rfl), rfl, by simp⟩
  · simp only [↓sd0, su0, su1, resOf, pack, eqCells, ↓reduceIte, Nat.reduceEqDiff, Nat.reduceAdd, Nat.reduceLeDiff, Nat.reduceLT, reduceCtorEq, hpl, part_ptr, hobj, w1, List.set_cons_zero]
    have := lost_SP hs hg (n' := nx) (by omega)
    unfold sobj at this
    exact ⟨x, { s with lost := true }, false, this.more (by omega) (fun _ _ => rfl), rfl, by simp⟩

end Go.Proofs.Ytmbdccekcfeomaa.Am
end
