/- Equals put for equals. -/
import Derived.Test.YtmbdccekcfeomaaT25
section
open Go
namespace Go.Proofs.Ytmbdccekcfeomaa.Am
set_option linter.unusedSimpArgs false
set_option linter.unusedVariables false
set_option maxRecDepth 20000

def nilC : Cl := ⟨true, []⟩
theorem nilC_av : nilC.av = .agg [.nilSlice] := _root_.id rfl
def Gt.sides (g : Gt) (f : Fa) : T × T := if g.turn = true then (f.r, f.l) else (f.l, f.r)
def Gt.right (g : Gt) (a b : Cl) : Cl × Int :=
  if 0 ≤ g.i ∧ g.i ≤ (a.fs.length : Int) - 1 ∧ 0 ≤ g.j ∧ g.j ≤ (b.fs.length : Int) - 1 then
    match a.fs[g.i.toNat]?, b.fs[g.j.toNat]? with
    | some f, some h =>
      if f.n = true then (nilC, 5) else
      match h.stands g.place with
      | none => (nilC, 6)
      | some s => if s.same (g.sides f).1 = true then (⟨true, a.fs.take g.i.toNat ++ a.fs.drop (g.i.toNat + 1) ++ b.fs.take g.j.toNat ++ b.fs.drop (g.j.toNat + 1) ++ [h.changed g.place (g.sides f).2]⟩, 0) else (nilC, 11)
    | _, _ => (nilC, 3)
  else (nilC, 3)

theorem thaw_claim2 {wl lo hi id n : Nat} {H : Nat → Option Obj} {fs : List Fa} (k : IntKind) (z : Int) (ho : Own H lo hi 5 id (fs.map Fa.av)) (hn : fs.length = n) (hw : wl ≤ lo) : ∃ H', thaw wl 1 H [.agg [lv id n], .int k z] = some ([(Cl.mk true fs).av, .int k z], H') ∧ ∀ j, j < wl → H' j = H j := by
  obtain ⟨H', hh, hj⟩ := thawV_lv ho hw (solids_map Fa.solid_av fs)
  refine ⟨H', ?_, hj⟩
  subst hn
  rw [List.length_map] at hh
  rw [thaw_one]
  simp only [thawL, thawV, hh]
  rfl
theorem append_fs {wl lo hi id n : Nat} {H : Nat → Option Obj} (es ys : List Fa) (ho : Own H lo hi 5 id (es.map Fa.av)) (hn : es.length = n) (hw : wl ≤ lo) (hb : n + ys.length < 1099511627776) (nid : Nat) :
    appendV wl nid false 5 72 H (ys.map Fa.av) (lv id n) = some (lv (appId id nid (ys.map Fa.av)) (n + ys.length), appH H id n nid 5 (es.map Fa.av) (ys.map Fa.av)) := by
  have := append_any (bytes := 72) (ys.map Fa.av) ho (n := n) (by simp [hn]) hw (by simp; omega) nid
  rw [List.length_map] at this; exact this
theorem Own.fs {H : Nat → Option Obj} {lo hi nid id n : Nat} {es ys : List Fa} (ho : Own H lo hi 5 id (es.map Fa.av)) (h : lo ≤ nid) (h2 : hi ≤ nid) : Own (appH H id n nid 5 (es.map Fa.av) (ys.map Fa.av)) lo (nid + 1) 5 (appId id nid (ys.map Fa.av)) ((es ++ ys).map Fa.av) := by
  rw [List.map_append]; exact ho.any h h2

theorem right_spec (g : Gt) (a b : Cl) (ha : a.fs.length < 4294967296) (hb : b.fs.length < 4294967296) (hpl : g.place.length < 4611686018427387904) (hp : ∀ s ∈ g.place, -4611686018427387904 < s ∧ s < 4611686018427387904)
    (hfa : ∀ f ∈ a.fs, f.l.size < 1099511627776 ∧ f.r.size < 1099511627776) (hfb : ∀ f ∈ b.fs, f.l.size < 1099511627776 ∧ f.r.size < 1099511627776) (hst : ∀ f ∈ b.fs, ∀ s, f.stands g.place = some s → s.size < 1099511627776) :
    Gives tab 64 [g.av, a.av, b.av] (.tup [(g.right a b).1.av, .int .i64 (g.right a b).2]) := by
  refine gives_thaw tab_64 fun H nx => ?_
  unfold body64 Gt.right
  dsimp only [qm, qf, ql, qL, qs, qc, qk, qi, qn, qb, qB, qe, qx, qo, qg]
  simp only [start3]
  have hwa : IntKind.i64.wrap ((a.fs.length : Int) - 1) = (a.fs.length : Int) - 1 := wrap64 (by omega) (by omega)
  have hwb : IntKind.i64.wrap ((b.fs.length : Int) - 1) = (b.fs.length : Int) - 1 := wrap64 (by omega) (by omega)
  by_cases c1 : 0 ≤ g.i ∧ g.i ≤ (a.fs.length : Int) - 1
  · by_cases c2 : 0 ≤ g.j ∧ g.j ≤ (b.fs.length : Int) - 1
    · rw [if_pos ⟨c1.1, c1.2, c2.1, c2.2⟩]
      obtain ⟨i, hi⟩ : ∃ i : Nat, g.i = (i : Int) := ⟨g.i.toNat, by omega⟩
      obtain ⟨j, hj⟩ : ∃ j : Nat, g.j = (j : Int) := ⟨g.j.toNat, by omega⟩
      have hi2 : i < a.fs.length := by omega
      have hj2 : j < b.fs.length := by omega
      rw [hi, hj, Int.toNat_natCast, Int.toNat_natCast, List.getElem?_eq_getElem hi2, List.getElem?_eq_getElem hj2]
      rw [hi] at c1
      rw [hj] at c2
      simp only
      have hx := hfa a.fs[i] (List.getElem_mem hi2)
      have hy := hfb b.fs[j] (List.getElem_mem hj2)
      have hs := (stands_spec b.fs[j] g.pnil g.place hpl hp)
      cases c3 : a.fs[i].n
      · have hsame : ∀ s, b.fs[j].stands g.place = some s → Gives tab 72 [s.av, (g.sides a.fs[i]).1.av] (.bool (s.same (g.sides a.fs[i]).1)) := fun s h => same_spec s _ (by have := hst _ (List.getElem_mem hj2) s h; omega)
        rw [W_assoc, W_assoc, W_assoc, W_assoc, W_assoc, W_assoc]
        refine W_cut (fun e l H n => e 3 = .fptr g.av 0 ∧ e 4 = .fptr a.av 0 ∧ e 5 = .fptr b.av 0 ∧ nx ≤ n ∧ (∃ m, e 6 = .loc 6 m 0 ∧ l 6 = some (m, .agg [.nilSlice])) ∧ (∃ m, e 9 = .loc 9 m 0 ∧ l 9 = some (m, (g.sides a.fs[i]).1.av)) ∧ (∃ m, e 10 = .loc 10 m 0 ∧ l 10 = some (m, (g.sides a.fs[i]).2.av)) ∧
          (∃ m, e 11 = .loc 11 m 0 ∧ ∃ v, l 11 = some (m, v) ∧ standsV (b.fs[j].stands g.place) = .tup [v, e 12])) ?_ ?_
        · unfold Gt.sides
          cases c4 : g.turn
          · cases c5 : b.fs[j].stands g.place <;> simp only [c5] at hs <;> simp only [standsV] at hs
            all_goals simp only [↓sd0, su0, su1, resOf, pack, eqCells, ↓reduceIte, Nat.reduceEqDiff, Nat.reduceAdd, Nat.reduceLeDiff, Nat.reduceLT, reduceCtorEq, dr0, Nat.reducePow, Nat.reduceDiv, Nat.reduceMod, Nat.reduceBEq, (in_17 _ _ _).callK, hwa, hwb, hi, hj, c1, c2, iaddr_map hi2, iaddr_map hj2, c3, c4, hs.callK]
            all_goals simp [c3, c4, standsV]
          · cases c5 : b.fs[j].stands g.place <;> simp only [c5] at hs <;> simp only [standsV] at hs
            all_goals simp only [↓sd0, su0, su1, resOf, pack, eqCells, ↓reduceIte, Nat.reduceEqDiff, Nat.reduceAdd, Nat.reduceLeDiff, Nat.reduceLT, reduceCtorEq, dr0, Nat.reducePow, Nat.reduceDiv, Nat.reduceMod, Nat.reduceBEq, (in_17 _ _ _).callK, hwa, hwb, hi, hj, c1, c2, iaddr_map hi2, iaddr_map hj2, c3, c4, hs.callK]
            all_goals simp [c3, c4, standsV]
        · rintro e l H n ⟨h3, h4, h5, hn, ⟨m6, h6, hl6⟩, ⟨m9, h9, hl9⟩, ⟨m10, h10, hl10⟩, m11, h11, v, hl11, hv⟩
          cases c5 : b.fs[j].stands g.place with
          | none =>
            rw [c5] at hv
            simp only [standsV, AV.tup.injEq, List.cons.injEq, and_true] at hv
            obtain ⟨hv1, hv2⟩ := hv
            simp only [↓sd0, su0, su1, resOf, pack, eqCells, ↓reduceIte, Nat.reduceEqDiff, Nat.reduceAdd, Nat.reduceLeDiff, Nat.reduceLT, reduceCtorEq, dr0, Nat.reducePow, Nat.reduceDiv, Nat.reduceMod, Nat.reduceBEq, h3, h4, h5, h6, hl6, ← hv2, nilC_av]
            simp only [thaw_solid, ↓sd0, su0, su1, resOf, pack, eqCells, ↓reduceIte, Nat.reduceEqDiff, Nat.reduceAdd, Nat.reduceLeDiff, Nat.reduceLT, reduceCtorEq]
          | some s =>
            rw [c5] at hv
            simp only [standsV, AV.tup.injEq, List.cons.injEq, and_true] at hv
            obtain ⟨hv1, hv2⟩ := hv
            have hsm := hsame s c5
            simp only
            cases c6 : s.same (g.sides a.fs[i]).1
            · simp only [↓sd0, su0, su1, resOf, pack, eqCells, ↓reduceIte, Nat.reduceEqDiff, Nat.reduceAdd, Nat.reduceLeDiff, Nat.reduceLT, reduceCtorEq, dr0, Nat.reducePow, Nat.reduceDiv, Nat.reduceMod, Nat.reduceBEq, h3, h4, h5, h6, hl6, h9, hl9, h10, hl10, h11, hl11, ← hv1, ← hv2, hsm.callK, c6, nilC_av]
              simp only [thaw_solid, ↓sd0, su0, su1, resOf, pack, eqCells, ↓reduceIte, Nat.reduceEqDiff, Nat.reduceAdd, Nat.reduceLeDiff, Nat.reduceLT, reduceCtorEq]
            · rw [W_assoc]
              refine W_cut (fun e l H n => e 3 = .fptr g.av 0 ∧ e 4 = .fptr a.av 0 ∧ e 5 = .fptr b.av 0 ∧ nx ≤ n ∧ (∃ m, e 6 = .loc 6 m 0 ∧ l 6 = some (m, .agg [.nilSlice])) ∧ (∃ m, e 10 = .loc 10 m 0 ∧ l 10 = some (m, (g.sides a.fs[i]).2.av)) ∧ (∃ m, e 13 = .loc 13 m 0 ∧ l 13 = some (m, .agg [.nilSlice]))) ?_ ?_
              · simp only [↓sd0, su0, su1, resOf, pack, eqCells, ↓reduceIte, Nat.reduceEqDiff, Nat.reduceAdd, Nat.reduceLeDiff, Nat.reduceLT, reduceCtorEq, dr0, Nat.reducePow, Nat.reduceDiv, Nat.reduceMod, Nat.reduceBEq, h3, h4, h5, h6, hl6, h9, hl9, h10, hl10, h11, hl11, ← hv1, ← hv2, hsm.callK, c6]
                exact ⟨by omega, ⟨_, rfl, rfl⟩, ⟨_, rfl, rfl⟩, ⟨_, rfl, rfl⟩⟩
              clear h3 h4 h5 hn h6 hl6 h9 hl9 h10 hl10 h11 hl11 hv1 hv2
              clear m6 m9 m10 m11 v e l H n
              rintro e l H n ⟨h3, h4, h5, hn, ⟨m6, h6, hl6⟩, ⟨m10, h10, hl10⟩, m13, h13, hl13⟩
              have ea1 : (a.fs.map Fa.av).take i = (a.fs.take i).map Fa.av := (List.map_take ..).symm
              have ea2 : (a.fs.map Fa.av).drop (i + 1) = (a.fs.drop (i + 1)).map Fa.av := (List.map_drop ..).symm
              have eb1 : (b.fs.map Fa.av).take j = (b.fs.take j).map Fa.av := (List.map_take ..).symm
              have eb2 : (b.fs.map Fa.av).drop (j + 1) = (b.fs.drop (j + 1)).map Fa.av := (List.map_drop ..).symm
              have hwi : IntKind.i64.wrap ((i : Int) + 1) = ((i + 1 : Nat) : Int) := wrap_succ hi2 (by omega)
              have hwj : IntKind.i64.wrap ((j : Int) + 1) = ((j + 1 : Nat) : Int) := wrap_succ hj2 (by omega)
              have hla1 : (a.fs.take i).length = i := by simp; omega
              have hlb1 : (b.fs.take j).length = j := by simp; omega
              have hla2 : (a.fs.drop (i + 1)).length = a.fs.length - (i + 1) := by simp
              have hlb2 : (b.fs.drop (j + 1)).length = b.fs.length - (j + 1) := by simp
              have hnea : a.fs.map Fa.av ≠ [] := by intro h; rw [List.map_eq_nil_iff] at h; rw [h] at hi2; simp at hi2
              have hneb : b.fs.map Fa.av ≠ [] := by intro h; rw [List.map_eq_nil_iff] at h; rw [h] at hj2; simp at hj2
              have s1 : ∀ H, sliceV H 5 (sl 5 a.nil (a.fs.map Fa.av)) (some 0) (fun _ => some i) = some (.slice 5 ((a.fs.take i).map Fa.av)) := fun H => by rw [← ea1]; exact sliceV_take (by simpa using hi2)
              have s2 : ∀ H, sliceV H 5 (sl 5 a.nil (a.fs.map Fa.av)) (some (i + 1)) (fun k => some k) = some (.slice 5 ((a.fs.drop (i + 1)).map Fa.av)) := fun H => by rw [← ea2]; exact sliceV_drop (by simp; omega) hnea
              have s3 : ∀ H, sliceV H 5 (sl 5 b.nil (b.fs.map Fa.av)) (some 0) (fun _ => some j) = some (.slice 5 ((b.fs.take j).map Fa.av)) := fun H => by rw [← eb1]; exact sliceV_take (by simpa using hj2)
              have s4 : ∀ H, sliceV H 5 (sl 5 b.nil (b.fs.map Fa.av)) (some (j + 1)) (fun k => some k) = some (.slice 5 ((b.fs.drop (j + 1)).map Fa.av)) := fun H => by rw [← eb2]; exact sliceV_drop (by simp; omega) hneb
              refine W_cut (fun e l H n => e 3 = .fptr g.av 0 ∧ e 4 = .fptr a.av 0 ∧ e 5 = .fptr b.av 0 ∧ nx ≤ n ∧ (∃ m, e 6 = .loc 6 m 0 ∧ l 6 = some (m, .agg [.nilSlice])) ∧ (∃ m, e 10 = .loc 10 m 0 ∧ l 10 = some (m, (g.sides a.fs[i]).2.av)) ∧
                (∃ m id, e 13 = .loc 13 m 0 ∧ l 13 = some (m, .agg [lv id (i + (a.fs.length - (i + 1)))]) ∧ Own H nx n 5 id ((a.fs.take i ++ a.fs.drop (i + 1)).map Fa.av))) ?_ ?_
              · have hap1 := append_fs (wl := nx) (lo := nx) (hi := n) (id := 0) (n := 0) (H := H) [] (a.fs.take i) Own.nil rfl (Nat.le_refl _) (by omega)
                rw [lv_zero] at hap1
                simp only [Nat.zero_add, hla1] at hap1
                have hap2 := fun j1 : Nat => append_fs (wl := nx) (lo := nx) (n := i) ([] ++ a.fs.take i) (a.fs.drop (i + 1)) (Own.fs (n := 0) (nid := n + j1) (ys := a.fs.take i) (Own.nil (H := H) (lo := nx) (hi := n) (id := 0)) (by omega) (by omega)) (by simp; omega) (Nat.le_refl _) (by omega)
                simp only [List.map_nil, List.nil_append, hla2] at hap1 hap2
                simp only [↓sd0, su0, su1, resOf, pack, eqCells, ↓reduceIte, Nat.reduceEqDiff, Nat.reduceAdd, Nat.reduceLeDiff, Nat.reduceLT, reduceCtorEq, dr0, Nat.reducePow, Nat.reduceDiv, Nat.reduceMod, Nat.reduceBEq, h3, h4, h5, h6, hl6, h10, hl10, h13, hl13, hi, hj, s1, s2, hwi, hap1, hap2]
                exact ⟨by omega, ⟨_, rfl, rfl⟩, ⟨_, rfl, rfl⟩, _, _, rfl, rfl, by
                  have o1 : Own (appH H 0 0 (n + 7) 5 (([] : List Fa).map Fa.av) ((a.fs.take i).map Fa.av)) nx (n + 7 + 1) 5 (appId 0 (n + 7) ((a.fs.take i).map Fa.av)) (([] ++ a.fs.take i).map Fa.av) := Own.fs (hi := n) (es := []) Own.nil (by omega) (by omega)
                  have := Own.fs (n := i) (nid := n + 14) (ys := a.fs.drop (i + 1)) o1 (by omega) (by omega)
                  simp only [List.nil_append, List.map_nil] at this; exact this.mono (by omega)⟩
              clear h3 h4 h5 hn h6 hl6 h10 hl10 h13 hl13
              clear m6 m10 m13 e l H n
              rintro e l H n ⟨h3, h4, h5, hn, ⟨m6, h6, hl6⟩, ⟨m10, h10, hl10⟩, m13, id, h13, hl13, ho⟩
              generalize hes : a.fs.take i ++ a.fs.drop (i + 1) = es at ho
              generalize hN : i + (a.fs.length - (i + 1)) = N at hl13
              have hesl : es.length = N := by rw [← hes, ← hN]; simp; omega
              refine W_cut (fun e l H n => e 3 = .fptr g.av 0 ∧ e 4 = .fptr a.av 0 ∧ e 5 = .fptr b.av 0 ∧ nx ≤ n ∧ (∃ m, e 6 = .loc 6 m 0 ∧ l 6 = some (m, .agg [.nilSlice])) ∧ (∃ m, e 10 = .loc 10 m 0 ∧ l 10 = some (m, (g.sides a.fs[i]).2.av)) ∧
                (∃ m id, e 13 = .loc 13 m 0 ∧ l 13 = some (m, .agg [lv id (N + j + (b.fs.length - (j + 1)))]) ∧ Own H nx n 5 id ((es ++ b.fs.take j ++ b.fs.drop (j + 1)).map Fa.av))) ?_ ?_
              · have hap1 := append_fs (wl := nx) (n := N) es (b.fs.take j) ho hesl (Nat.le_refl _) (by omega)
                simp only [hlb1] at hap1
                have hap2 := fun j1 : Nat => append_fs (wl := nx) (lo := nx) (n := N + j) (es ++ b.fs.take j) (b.fs.drop (j + 1)) (Own.fs (n := N) (nid := n + j1) (ys := b.fs.take j) ho (by omega) (by omega)) (by simp; omega) (Nat.le_refl _) (by omega)
                simp only [hlb2] at hap2
                simp only [↓sd0, su0, su1, resOf, pack, eqCells, ↓reduceIte, Nat.reduceEqDiff, Nat.reduceAdd, Nat.reduceLeDiff, Nat.reduceLT, reduceCtorEq, dr0, Nat.reducePow, Nat.reduceDiv, Nat.reduceMod, Nat.reduceBEq, h3, h4, h5, h6, hl6, h10, hl10, h13, hl13, hi, hj, s3, s4, hwj, hap1, hap2]
                have hap3 := fun j1 : Nat => Nat.add_assoc N j (b.fs.length - (j + 1))
                exact ⟨by omega, ⟨_, rfl, rfl⟩, ⟨_, rfl, rfl⟩, _, _, rfl, rfl, by
                  have := Own.fs (n := N + j) (nid := n + 14) (ys := b.fs.drop (j + 1)) (Own.fs (n := N) (nid := n + 7) (ys := b.fs.take j) ho (by omega) (by omega)) (by omega) (by omega)
                  exact this.mono (by omega)⟩
              clear h3 h4 h5 hn h6 hl6 h10 hl10 h13 hl13 ho
              clear m6 m10 m13 id e l H n
              rintro e l H n ⟨h3, h4, h5, hn, ⟨m6, h6, hl6⟩, ⟨m10, h10, hl10⟩, m13, id, h13, hl13, ho⟩
              generalize hes2 : es ++ b.fs.take j ++ b.fs.drop (j + 1) = es2 at ho
              generalize hN2 : N + j + (b.fs.length - (j + 1)) = N2 at hl13
              have hesl2 : es2.length = N2 := by rw [← hes2, ← hN2]; simp; omega
              have hap := fun x : Fa => append_to (bytes := 72) x.av ho (n := N2) (by simpa using hesl2) (Nat.le_refl _) (by omega)
              have hch := changed_spec b.fs[j] g.pnil g.place (g.sides a.fs[i]).2 hpl hp hy.1 hy.2 (by rw [c5]; rfl)
              obtain ⟨H', hth, _⟩ := thaw_claim2 (wl := nx) (lo := nx) (hi := n + 14) (id := n + 13) (H := upd (kill H id N2) (n + 13) (some (.arr 5 (es2.map Fa.av ++ [(b.fs[j].changed g.place (g.sides a.fs[i]).2).av])))) (fs := es2 ++ [b.fs[j].changed g.place (g.sides a.fs[i]).2]) .i64 0 (n := N2 + 1) (fun _ => ⟨by omega, by omega, by simp⟩) (by simp [hesl2]) (Nat.le_refl _)
              simp only [↓sd0, su0, su1, resOf, pack, eqCells, ↓reduceIte, Nat.reduceEqDiff, Nat.reduceAdd, Nat.reduceLeDiff, Nat.reduceLT, reduceCtorEq, dr0, Nat.reducePow, Nat.reduceDiv, Nat.reduceMod, Nat.reduceBEq, h3, h4, h5, h6, hl6, h10, hl10, h13, hl13, hi, hj, iaddr_map hj2, hch.callK, hap, hth]
      · simp only [↓sd0, su0, su1, resOf, pack, eqCells, ↓reduceIte, Nat.reduceEqDiff, Nat.reduceAdd, Nat.reduceLeDiff, Nat.reduceLT, reduceCtorEq, (in_17 _ _ _).callK, hwa, hwb, hi, hj, c1, c2, iaddr_map hi2, c3, nilC_av]
        simp only [thaw_solid, ↓sd0, su0, su1, resOf, pack, eqCells, ↓reduceIte, Nat.reduceEqDiff, Nat.reduceAdd, Nat.reduceLeDiff, Nat.reduceLT, reduceCtorEq]
    · rw [if_neg (by omega)]
      simp only [↓sd0, su0, su1, resOf, pack, eqCells, ↓reduceIte, Nat.reduceEqDiff, Nat.reduceAdd, Nat.reduceLeDiff, Nat.reduceLT, reduceCtorEq, (in_17 _ _ _).callK, hwa, hwb, c1, c2, nilC_av]
      simp only [thaw_solid, ↓sd0, su0, su1, resOf, pack, eqCells, ↓reduceIte, Nat.reduceEqDiff, Nat.reduceAdd, Nat.reduceLeDiff, Nat.reduceLT, reduceCtorEq]
  · rw [if_neg (by omega)]
    simp only [↓sd0, su0, su1, resOf, pack, eqCells, ↓reduceIte, Nat.reduceEqDiff, Nat.reduceAdd, Nat.reduceLeDiff, Nat.reduceLT, reduceCtorEq, (in_17 _ _ _).callK, hwa, hwb, c1, nilC_av]
    simp only [thaw_solid, ↓sd0, su0, su1, resOf, pack, eqCells, ↓reduceIte, Nat.reduceEqDiff, Nat.reduceAdd, Nat.reduceLeDiff, Nat.reduceLT, reduceCtorEq]

end Go.Proofs.Ytmbdccekcfeomaa.Am
end
/- What is wrong with claims and theories. -/
section
open Go
namespace Go.Proofs.Ytmbdccekcfeomaa.Am
set_option linter.unusedSimpArgs false
set_option linter.unusedVariables false
set_option maxRecDepth 20000

def first {α : Type} (g : α → Int) : List α → Int
  | [] => 0
  | a :: as => if g a = 0 then first g as else g a
theorem first_drop {α : Type} {g : α → Int} {l : List α} {k : Nat} (h : k < l.length) : first g (l.drop k) = if g l[k] = 0 then first g (l.drop (k + 1)) else g l[k] := by
  rw [List.drop_eq_getElem_cons h]; rfl
def firstAt {α : Type} (g : α → Int) : List α → Int → Int × Int
  | [], _ => (0, 0)
  | a :: as, k => if g a = 0 then firstAt g as (k + 1) else (g a, k)
theorem firstAt_drop {α : Type} {g : α → Int} {l : List α} {k : Nat} (h : k < l.length) (i : Int) : firstAt g (l.drop k) i = if g l[k] = 0 then firstAt g (l.drop (k + 1)) (i + 1) else (g l[k], i) := by
  rw [List.drop_eq_getElem_cons h]; rfl
def T.chk (ar : List Int) (t : T) : Int := if t.bad.1 = 0 then t.sg ar else t.bad.1
def trees (fs : List Fa) : List T := fs.flatMap fun f => [f.l, f.r]
def Cl.chk (ar : List Int) (c : Cl) : Int := if 6 < c.fs.length then 2 else first (T.chk ar) (trees c.fs)
def arOk (n : Int) : Int := if 0 ≤ n ∧ n ≤ 3 then 0 else 3
def Lo.chk (l : Lo) : Int × Int :=
  if 12 < l.ar.length ∨ 60 < l.cs.length then (2, 0) else
  if (firstAt arOk l.ar 0).1 = 0 then firstAt (Cl.chk l.ar) l.cs 0 else firstAt arOk l.ar 0
theorem trees_drop {fs : List Fa} {k : Nat} (h : k < fs.length) : trees (fs.drop k) = fs[k].l :: fs[k].r :: trees (fs.drop (k + 1)) := by
  rw [List.drop_eq_getElem_cons h]; rfl

def Cl.fin (c : Cl) : Prop := c.fs.length < 4294967296 ∧ ∀ f ∈ c.fs, f.l.size < 1099511627776 ∧ f.r.size < 1099511627776
def Lo.fin (l : Lo) : Prop := l.ar.length < 4294967296 ∧ l.cs.length < 4294967296 ∧ ∀ c ∈ l.cs, c.fin

theorem indexA2' {t u : T} {m : Nat} (hm : m < [t, u].length) : indexAV 2 2 true (.agg [.int .i64 t.h, sl 2 t.nil (t.ks.map T.av), .int .i64 u.h, sl 2 u.nil (u.ks.map T.av)]) (.int .i64 m) = some ([t, u][m].av) := by
  rw [indexA2 (by simpa using hm)]
  have : m = 0 ∨ m = 1 := by simp at hm; omega
  rcases this with rfl | rfl <;> simp
theorem fieldV_flt (c a : Int) : fieldV 0 1 false (flt c a) = some (.int .i64 c) := by simp [fieldV, flt, part, AV.cells, AV.isAgg]
theorem cells_flt (c a : Int) : (flt c a).cells = [.int .i64 c, .int .i64 a] := _root_.id rfl
theorem isAgg_flt (c a : Int) : (flt c a).isAgg = true := _root_.id rfl
theorem lt_two {m : Nat} (h : m < 2) : decide ((m : Int) < 2) = true := by simp; omega

theorem check_spec (l : Lo) (hl : l.fin) : Gives tab 16 [l.av] (flt l.chk.1 l.chk.2) := by
  refine gives tab_16 fun H nx => ?_
  obtain ⟨ha, hc, hcs⟩ := hl
  unfold body16
  dsimp only [qm, qf, ql, qL, qs, qc, qk, qi, qn, qb, qB, qe, qx, qo, qg]
  simp only [start1]
  rw [W_assoc]
  refine W_cut (fun e lo H n => e 1 = .fptr l.av 0 ∧ (∃ m, e 2 = .loc 2 m 0 ∧ lo 2 = some (m, .agg [.int .i64 0, .int .i64 0])) ∧ l.chk = if (firstAt arOk l.ar 0).1 = 0 then firstAt (Cl.chk l.ar) l.cs 0 else firstAt arOk l.ar 0) ?_ ?_
  · unfold Lo.chk
    cases c1 : decide ((l.ar.length : Int) > 12)
    · have c1' := of_decide_eq_false c1
      cases c2 : decide ((l.cs.length : Int) > 60)
      · have c2' := of_decide_eq_false c2
        rw [if_neg (by omega)]
        simp only [↓sd0, su0, su1, resOf, pack, eqCells, ↓reduceIte, Nat.reduceEqDiff, Nat.reduceAdd, Nat.reduceLeDiff, Nat.reduceLT, reduceCtorEq, c1, c2]
        exact ⟨_, rfl, rfl⟩
      · have c2' := of_decide_eq_true c2
        rw [if_pos (by omega)]
        simp only [↓sd0, su0, su1, resOf, pack, eqCells, ↓reduceIte, Nat.reduceEqDiff, Nat.reduceAdd, Nat.reduceLeDiff, Nat.reduceLT, reduceCtorEq, c1, c2, (fault_18 _ _).callK, flt]
    · have c1' := of_decide_eq_true c1
      rw [if_pos (by omega)]
      simp only [↓sd0, su0, su1, resOf, pack, eqCells, ↓reduceIte, Nat.reduceEqDiff, Nat.reduceAdd, Nat.reduceLeDiff, Nat.reduceLT, reduceCtorEq, c1, (fault_18 _ _).callK, flt]
  rintro e lo H n ⟨h1, ⟨m, h2, hl2⟩, hchk⟩
  refine W_cut (fun e lo H n => e 1 = .fptr l.av 0 ∧ (∃ m, e 2 = .loc 2 m 0 ∧ lo 2 = some (m, .agg [.int .i64 0, .int .i64 0])) ∧ l.chk = firstAt (Cl.chk l.ar) l.cs 0) ?_ ?_
  · simp only [↓sd0, su0, su1, resOf, pack, eqCells, ↓reduceIte, Nat.reduceEqDiff, Nat.reduceAdd, Nat.reduceLeDiff, Nat.reduceLT, reduceCtorEq, h1, h2, hl2]
    refine W_count l.ar.length (fun k e lo H' n => e 1 = .fptr l.av 0 ∧ (∃ m, e 2 = .loc 2 m 0 ∧ lo 2 = some (m, .agg [.int .i64 0, .int .i64 0])) ∧ e 25 = ints l.anil l.ar ∧ e 27 = .int .i64 k ∧ e 26 = .int .i64 l.ar.length ∧
      firstAt arOk l.ar 0 = firstAt arOk (l.ar.drop k) k) ?_ ?_ ?_
    · simp only [↓sd0, su0, su1, resOf, pack, eqCells, ↓reduceIte, Nat.reduceEqDiff, Nat.reduceAdd, Nat.reduceLeDiff, Nat.reduceLT, reduceCtorEq, h1, h2, hl2]; exact ⟨⟨_, rfl, rfl⟩, rfl⟩
    · rintro k e lo H' n hk ⟨h1, ⟨m, h2, hl2⟩, h25, h27, h26, hq⟩
      rw [firstAt_drop hk] at hq
      by_cases cz : 0 ≤ l.ar[k] ∧ l.ar[k] ≤ 3
      · have e0 : arOk l.ar[k] = 0 := by unfold arOk; rw [if_pos cz]
        rw [if_pos e0] at hq
        simp only [↓sd0, su0, su1, resOf, pack, eqCells, ↓reduceIte, Nat.reduceEqDiff, Nat.reduceAdd, Nat.reduceLeDiff, Nat.reduceLT, reduceCtorEq, h1, h2, hl2, h25, h27, h26, iaddr_ints hk, lt_cast hk, (in_17 _ _ _).callK, cz, wrap_succ hk (by omega : l.ar.length < 4611686018427387904)]
        exact ⟨⟨_, rfl, rfl⟩, hq⟩
      · have e0 : arOk l.ar[k] = 3 := by unfold arOk; rw [if_neg cz]
        rw [if_neg (by rw [e0]; decide), e0] at hq
        rw [hq] at hchk
        simp only [↓sd0, su0, su1, resOf, pack, eqCells, ↓reduceIte, Nat.reduceEqDiff, Nat.reduceAdd, Nat.reduceLeDiff, Nat.reduceLT, reduceCtorEq, h1, h2, hl2, h25, h27, h26, iaddr_ints hk, lt_cast hk, (in_17 _ _ _).callK, cz, (fault_18 _ _).callK, flt, hchk]
        simp
    · rintro e lo H' n ⟨h1, ⟨m, h2, hl2⟩, h25, h27, h26, hq⟩
      rw [List.drop_length] at hq
      simp only [firstAt] at hq
      rw [hq] at hchk
      simp only [if_pos] at hchk
      simp only [↓sd0, su0, su1, resOf, pack, eqCells, ↓reduceIte, Nat.reduceEqDiff, Nat.reduceAdd, Nat.reduceLeDiff, Nat.reduceLT, reduceCtorEq, h1, h2, hl2, h25, h27, h26, hchk]
      exact ⟨_, rfl, rfl⟩
  clear h1 h2 hl2 hchk
  clear m e lo H n
  rintro e lo H n ⟨h1, ⟨m, h2, hl2⟩, hchk⟩
  simp only [↓sd0, su0, su1, resOf, pack, eqCells, ↓reduceIte, Nat.reduceEqDiff, Nat.reduceAdd, Nat.reduceLeDiff, Nat.reduceLT, reduceCtorEq, h1, h2, hl2]
  refine W_count l.cs.length (fun k e lo H' n => e 1 = .fptr l.av 0 ∧ (∃ m, e 2 = .loc 2 m 0 ∧ lo 2 = some (m, .agg [.int .i64 0, .int .i64 0])) ∧ e 39 = sl 1 l.cnil (l.cs.map Cl.el) ∧ e 41 = .int .i64 k ∧ e 40 = .int .i64 l.cs.length ∧
      l.chk = firstAt (Cl.chk l.ar) (l.cs.drop k) k) ?_ ?_ ?_
  · simp only [↓sd0, su0, su1, resOf, pack, eqCells, ↓reduceIte, Nat.reduceEqDiff, Nat.reduceAdd, Nat.reduceLeDiff, Nat.reduceLT, reduceCtorEq, h1, h2, hl2]; exact ⟨⟨_, rfl, rfl⟩, hchk⟩
  · clear h1 h2 hl2 hchk
    clear m e lo H n
    rintro k e lo H' n hk ⟨h1, ⟨m, h2, hl2⟩, h39, h41, h40, hq⟩
    have hck := hcs l.cs[k] (List.getElem_mem hk)
    have hwk := wrap_succ hk (by omega : l.cs.length < 4611686018427387904)
    rw [firstAt_drop hk] at hq
    unfold Cl.chk at hq
    by_cases cb : 6 < l.cs[k].fs.length
    · rw [if_pos cb] at hq
      rw [if_neg (by decide)] at hq
      have q : decide ((l.cs[k].fs.length : Int) > 6) = true := by simp; omega
      simp only [↓sd0, su0, su1, resOf, pack, eqCells, ↓reduceIte, Nat.reduceEqDiff, Nat.reduceAdd, Nat.reduceLeDiff, Nat.reduceLT, reduceCtorEq, h1, h2, hl2, h39, h41, h40, iaddr_map hk, lt_cast hk, q, (fault_18 _ _).callK, flt, hq]
    · rw [if_neg cb] at hq
      have q : decide ((l.cs[k].fs.length : Int) > 6) = false := by simp; omega
      simp only [↓sd0, su0, su1, resOf, pack, eqCells, ↓reduceIte, Nat.reduceEqDiff, Nat.reduceAdd, Nat.reduceLeDiff, Nat.reduceLT, reduceCtorEq, h1, h2, hl2, h39, h41, h40, iaddr_map hk, lt_cast hk, q]
      refine W_count l.cs[k].fs.length (fun i e lo H' n => e 1 = .fptr l.av 0 ∧ (∃ m, e 2 = .loc 2 m 0 ∧ lo 2 = some (m, .agg [.int .i64 0, .int .i64 0])) ∧ e 39 = sl 1 l.cnil (l.cs.map Cl.el) ∧ e 41 = .int .i64 k ∧ e 40 = .int .i64 l.cs.length ∧
        e 5 = .int .i64 k ∧ e 53 = sl 5 l.cs[k].nil (l.cs[k].fs.map Fa.av) ∧ e 55 = .int .i64 i ∧ e 54 = .int .i64 l.cs[k].fs.length ∧
        first (T.chk l.ar) (trees l.cs[k].fs) = first (T.chk l.ar) (trees (l.cs[k].fs.drop i))) ?_ ?_ ?_
      · simp only [↓sd0, su0, su1, resOf, pack, eqCells, ↓reduceIte, Nat.reduceEqDiff, Nat.reduceAdd, Nat.reduceLeDiff, Nat.reduceLT, reduceCtorEq, h1, h2, hl2, h39, h41, h40]; exact ⟨_, rfl, rfl⟩
      · clear h1 h2 hl2 h39 h41 h40
        clear m e lo n
        rintro i e lo H' n hi ⟨h1, ⟨m, h2, hl2⟩, h39, h41, h40, h5, h53, h55, h54, hr⟩
        have hx := hck.2 l.cs[k].fs[i] (List.getElem_mem hi)
        have hwi := wrap_succ hi (by have := hck.1; omega : l.cs[k].fs.length < 4611686018427387904)
        rw [trees_drop hi] at hr
        simp only [↓sd0, su0, su1, resOf, pack, eqCells, ↓reduceIte, Nat.reduceEqDiff, Nat.reduceAdd, Nat.reduceLeDiff, Nat.reduceLT, reduceCtorEq, h1, h2, hl2, h39, h41, h40, h5, h53, h55, h54, iaddr_map hi, lt_cast hi]
        refine W_count 2 (fun j e lo H' n => e 1 = .fptr l.av 0 ∧ (∃ m, e 2 = .loc 2 m 0 ∧ lo 2 = some (m, .agg [.int .i64 0, .int .i64 0])) ∧ e 39 = sl 1 l.cnil (l.cs.map Cl.el) ∧ e 41 = .int .i64 k ∧ e 40 = .int .i64 l.cs.length ∧
          e 5 = .int .i64 k ∧ e 53 = sl 5 l.cs[k].nil (l.cs[k].fs.map Fa.av) ∧ e 55 = .int .i64 i ∧ e 54 = .int .i64 l.cs[k].fs.length ∧
          e 63 = .agg [.int .i64 l.cs[k].fs[i].l.h, sl 2 l.cs[k].fs[i].l.nil (l.cs[k].fs[i].l.ks.map T.av), .int .i64 l.cs[k].fs[i].r.h, sl 2 l.cs[k].fs[i].r.nil (l.cs[k].fs[i].r.ks.map T.av)] ∧ e 64 = .int .i64 j ∧
          first (T.chk l.ar) (trees l.cs[k].fs) = first (T.chk l.ar) ([l.cs[k].fs[i].l, l.cs[k].fs[i].r].drop j ++ trees (l.cs[k].fs.drop (i + 1)))) ?_ ?_ ?_
        · simp only [↓sd0, su0, su1, resOf, pack, eqCells, ↓reduceIte, Nat.reduceEqDiff, Nat.reduceAdd, Nat.reduceLeDiff, Nat.reduceLT, reduceCtorEq, h1, h2, hl2, h39, h41, h40, h5, h53, h55, h54]; exact ⟨⟨_, rfl, rfl⟩, hr⟩
        · clear h1 h2 hl2 h39 h41 h40 h5 h53 h55 h54 hr
          clear m e lo n
          rintro j e lo H' n hj ⟨h1, ⟨m, h2, hl2⟩, h39, h41, h40, h5, h53, h55, h54, h63, h64, hr⟩
          have hj' : j < [l.cs[k].fs[i].l, l.cs[k].fs[i].r].length := hj
          rw [List.drop_eq_getElem_cons hj', List.cons_append, first] at hr
          have hix := indexA2' hj'
          have hu : [l.cs[k].fs[i].l, l.cs[k].fs[i].r][j].size < 1099511627776 := by
            have : j = 0 ∨ j = 1 := by omega
            rcases this with rfl | rfl
            · exact hx.1
            · exact hx.2
          generalize [l.cs[k].fs[i].l, l.cs[k].fs[i].r][j] = u at hr hix hu
          have hwj := wrap_succ hj (by omega)
          have htc := tcheck_spec u (by omega)
          have hsg := signs_spec u l.anil l.ar (by omega) (by omega)
          have hcu : T.chk l.ar u = if u.bad.1 = 0 then u.sg l.ar else u.bad.1 := rfl
          rw [hcu] at hr
          by_cases cz : u.bad.1 = 0
          · rw [if_pos cz] at hr
            by_cases cz2 : u.sg l.ar = 0
            · rw [if_pos cz2] at hr
              simp only [↓sd0, su0, su1, resOf, pack, eqCells, ↓reduceIte, Nat.reduceEqDiff, Nat.reduceAdd, Nat.reduceLeDiff, Nat.reduceLT, reduceCtorEq, h1, h2, hl2, h39, h41, h40, h5, h53, h55, h54, h63, h64, lt_two hj, hix, htc.callK, fieldV_flt, hsg.callK, cz, cz2, hwj]
              exact ⟨⟨_, rfl, rfl⟩, hr⟩
            · rw [if_neg cz2] at hr
              have q : (u.sg l.ar != 0) = true := by simp [cz2]
              rw [hr, if_neg cz2] at hq
              simp only [↓sd0, su0, su1, resOf, pack, eqCells, ↓reduceIte, Nat.reduceEqDiff, Nat.reduceAdd, Nat.reduceLeDiff, Nat.reduceLT, reduceCtorEq, h1, h2, hl2, h39, h41, h40, h5, h53, h55, h54, h63, h64, lt_two hj, hix, htc.callK, fieldV_flt, hsg.callK, cz, q, (fault_18 _ _).callK, flt, hq]
          · rw [if_neg cz, if_neg cz] at hr
            have q : (u.bad.1 != 0) = true := by simp [cz]
            rw [hr, if_neg cz] at hq
            simp only [↓sd0, su0, su1, resOf, pack, eqCells, ↓reduceIte, Nat.reduceEqDiff, Nat.reduceAdd, Nat.reduceLeDiff, Nat.reduceLT, reduceCtorEq, h1, h2, hl2, h39, h41, h40, h5, h53, h55, h54, h63, h64, lt_two hj, hix, htc.callK, fieldV_flt, q, (fault_18 _ _).callK, flt, hq]
        · clear h1 h2 hl2 h39 h41 h40 h5 h53 h55 h54 hr
          clear m e lo n
          rintro e lo H' n ⟨h1, ⟨m, h2, hl2⟩, h39, h41, h40, h5, h53, h55, h54, h63, h64, hr⟩
          have q : decide (((2 : Nat) : Int) < 2) = false := by decide
          simp only [↓sd0, su0, su1, resOf, pack, eqCells, ↓reduceIte, Nat.reduceEqDiff, Nat.reduceAdd, Nat.reduceLeDiff, Nat.reduceLT, reduceCtorEq, h1, h2, hl2, h39, h41, h40, h5, h53, h55, h54, h63, h64, q, hwi]
          exact ⟨⟨_, rfl, rfl⟩, by simpa using hr⟩
      · clear h1 h2 hl2 h39 h41 h40
        clear m e lo n
        rintro e lo H' n ⟨h1, ⟨m, h2, hl2⟩, h39, h41, h40, h5, h53, h55, h54, hr⟩
        rw [List.drop_length] at hr
        simp only [trees, List.flatMap_nil, first] at hr
        unfold trees at hq
        rw [hr, if_pos rfl] at hq
        simp only [↓sd0, su0, su1, resOf, pack, eqCells, ↓reduceIte, Nat.reduceEqDiff, Nat.reduceAdd, Nat.reduceLeDiff, Nat.reduceLT, reduceCtorEq, h1, h2, hl2, h39, h41, h40, h55, h54, hwk]
        exact ⟨⟨_, rfl, rfl⟩, hq⟩
  · clear h1 h2 hl2 hchk
    clear m e lo H n
    rintro e lo H' n ⟨h1, ⟨m, h2, hl2⟩, h39, h41, h40, hq⟩
    rw [List.drop_length] at hq
    simp only [firstAt] at hq
    simp only [↓sd0, su0, su1, resOf, pack, eqCells, ↓reduceIte, Nat.reduceEqDiff, Nat.reduceAdd, Nat.reduceLeDiff, Nat.reduceLT, reduceCtorEq, h1, h2, hl2, h39, h41, h40, hq, flt]

end Go.Proofs.Ytmbdccekcfeomaa.Am
end
