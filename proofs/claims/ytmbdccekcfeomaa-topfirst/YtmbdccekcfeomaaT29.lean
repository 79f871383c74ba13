/- trace.Next. -/
import Derived.Test.YtmbdccekcfeomaaT28
section
open Go
namespace Go.Proofs.Ytmbdccekcfeomaa.Am
set_option linter.unusedSimpArgs false
set_option linter.unusedVariables false
set_option maxRecDepth 20000

def Gt.fin (g : Gt) : Prop := g.place.length < 4294967296 ∧ (∀ s ∈ g.place, -4611686018427387904 < s ∧ s < 4611686018427387904) ∧ g.bind.length < 4294967296 ∧ ∀ t ∈ g.bind, t.size < 1099511627776
theorem binds_size {bs : List T} (h : (binds bs).1 = 0) : ∀ s ∈ bs, s.size ≤ 40 := by
  unfold binds at h
  split at h
  · simp at h
  · split at h
    · rename_i a
      intro s hs
      have := firstAt_all a s hs
      unfold bindG at this
      split at this
      · split at this
        · simp at this
        · rename_i h1 h2
          have e : s.ks = [] := by cases hk : s.ks with
            | nil => rfl
            | cons x xs => rw [hk] at h2; simp at h2
          rw [T.size_eq, e, T.sizes]; omega
      · exact (bad_good this).1
    · rename_i a; exact absurd h a
theorem one_av (l : Lo) (c : Cl) : AV.agg [ints l.anil l.ar, .slice 1 [c.el]] = (Lo.mk l.anil l.ar false [c]).av := _root_.id rfl
theorem turn_fin {c : Cl} {f : T → T} (h : c.fs.length < 4294967296) (hs : ∀ x ∈ c.fs, (f x.l).size < 1099511627776 ∧ (f x.r).size < 1099511627776) : (c.turn f).fin := by
  refine ⟨by simpa [Cl.turn] using h, ?_⟩
  intro x hx
  simp only [Cl.turn, List.mem_map] at hx
  obtain ⟨y, hy, rfl⟩ := hx
  exact hs y hy
theorem onceGo_mem : ∀ (fs acc : List Fa) (x : Fa), x ∈ onceGo acc fs → x ∈ acc ∨ x ∈ fs := by
  intro fs
  induction fs with
  | nil => intro acc x h; exact Or.inl h
  | cons f fs ih =>
    intro acc x h
    rw [onceGo] at h
    split at h
    · rcases ih _ _ h with h | h
      · exact Or.inl h
      · exact Or.inr (List.mem_cons_of_mem _ h)
    · rcases ih _ _ h with h | h
      · rcases List.mem_append.1 h with h | h
        · exact Or.inl h
        · simp at h; subst h; exact Or.inr (List.mem_cons_self ..)
      · exact Or.inr (List.mem_cons_of_mem _ h)
theorem onceGo_length : ∀ (fs acc : List Fa), (onceGo acc fs).length ≤ acc.length + fs.length := by
  intro fs
  induction fs with
  | nil => intro acc; simp [onceGo]
  | cons f fs ih =>
    intro acc
    rw [onceGo]
    split
    · have := ih acc; simp only [List.length_cons]; omega
    · have := ih (acc ++ [f]); simp only [List.length_append, List.length_cons, List.length_nil] at this ⊢; omega
theorem once_fin {c : Cl} (h : c.fin) : c.once.fin := by
  refine ⟨?_, ?_⟩
  · have := onceGo_length c.fs []; have := h.1; simp only [Cl.once, List.length_nil] at *; omega
  · intro x hx
    rcases onceGo_mem _ _ _ hx with h' | h'
    · simp at h'
    · exact h.2 x h'
theorem right_fin {g : Gt} {a b : Cl} (ha : a.good) (hb : b.good) : (g.right a b).1.fin := by
  unfold Gt.right
  have hn : nilC.fin := ⟨by simp [nilC], by simp [nilC]⟩
  split
  · split
    · rename_i f h hf hh
      have hfa := ha.2 f (List.mem_of_getElem? hf)
      have hhb := hb.2 h (List.mem_of_getElem? hh)
      split
      · exact hn
      · split
        · exact hn
        · split
          · have l1 := ha.1
            have l2 := hb.1
            refine ⟨by simp; omega, ?_⟩
            intro x hx
            have sz : ∀ f : Fa, f.l.good ∧ f.r.good → f.l.size < 1099511627776 ∧ f.r.size < 1099511627776 := fun f hf => ⟨by have := hf.1.1; omega, by have := hf.2.1; omega⟩
            simp only [List.mem_append, List.mem_singleton] at hx
            rcases hx with (((hx | hx) | hx) | hx) | hx
            · exact sz _ (ha.2 x (List.mem_of_mem_take hx))
            · exact sz _ (ha.2 x (List.mem_of_mem_drop hx))
            · exact sz _ (hb.2 x (List.mem_of_mem_take hx))
            · exact sz _ (hb.2 x (List.mem_of_mem_drop hx))
            · subst hx
              have cs := changed_size h g.place (g.sides f).2
              have st : (g.sides f).2.size ≤ 40 := by
                unfold Gt.sides; split
                · exact hfa.1.1
                · exact hfa.2.1
              have := hhb.1.1
              have := hhb.2.1
              omega
          · exact hn
    · exact hn
  · exact hn

theorem next_spec (l : Lo) (hl : l.fin) (had : List Cl) (hhad : ∀ c ∈ had, c.good) (hhl : had.length < 4294967296) (g : Gt) (hg : g.fin) {v : AV} {H : Nat → Option Obj} (hv : Sees H 1 true v (had.map Cl.av)) {wl nx : Nat} :
    C tab wl 40 [l.av, v, g.av] H nx = some (.tup [(l.next had g).1.av, .int .i64 (l.next had g).2], H, nx) := by
  refine gives_at tab_40 ?_
  generalize hr : l.next had g = r
  unfold body40
  dsimp only [qm, qf, ql, qL, qs, qc, qk, qi, qn, qb, qB, qe, qx, qo, qg]
  simp only [start3]
  generalize hL : (if g.kind = 1 then l.cs else had) = L
  generalize hw : (if g.kind = 1 then sl 1 l.cnil (l.cs.map Cl.el) else v) = w
  have hLl : L.length < 4294967296 := by rw [← hL]; split; exact hl.2.1; exact hhl
  have hsw : Sees H 1 true w (L.map Cl.av) := by
    rw [← hL, ← hw]; split
    · exact Sees.sl Cl.part_el
    · exact hv
  have hlen := hsw.len
  rw [List.length_map] at hlen
  rw [W_assoc, W_assoc]
  refine W_cut (fun e lo H' n => e 3 = .fptr l.av 0 ∧ e 5 = .fptr g.av 0 ∧ (∃ m, e 6 = .loc 6 m 0 ∧ lo 6 = some (m, .agg [.nilSlice])) ∧ e 8 = w ∧ H' = H) ?_ ?_
  · by_cases c : g.kind = 1
    · rw [if_pos c] at hw
      subst hw
      have q : (g.kind == 1) = true := by simp [c]
      simp only [↓sd0, su0, su1, resOf, pack, eqCells, ↓reduceIte, Nat.reduceEqDiff, Nat.reduceAdd, Nat.reduceLeDiff, Nat.reduceLT, reduceCtorEq, q]
      exact ⟨_, rfl, rfl⟩
    · rw [if_neg c] at hw
      subst hw
      have q : (g.kind == 1) = false := by simp [c]
      simp only [↓sd0, su0, su1, resOf, pack, eqCells, ↓reduceIte, Nat.reduceEqDiff, Nat.reduceAdd, Nat.reduceLeDiff, Nat.reduceLT, reduceCtorEq, q]
      exact ⟨_, rfl, rfl⟩
  rintro e lo H' n ⟨h3, h5, ⟨m6, h6, hl6⟩, h8, rfl⟩
  have hwl : IntKind.i64.wrap ((L.length : Int) - 1) = (L.length : Int) - 1 := by rw [wrap64 (by omega) (by omega)]
  rw [W_assoc, W_assoc]
  refine W_cut (fun e lo H'' n => e 3 = .fptr l.av 0 ∧ e 5 = .fptr g.av 0 ∧ (∃ m, e 6 = .loc 6 m 0 ∧ lo 6 = some (m, .agg [.nilSlice])) ∧ e 8 = w ∧ H'' = H' ∧ (1 ≤ g.kind ∧ g.kind ≤ 4) ∧
    (∃ i : Nat, g.a = i ∧ ∃ hi : i < L.length, (∃ m, e 9 = .loc 9 m 0 ∧ lo 9 = some (m, L[i].av)) ∧ (∃ m, e 10 = .loc 10 m 0 ∧ lo 10 = some (m, .agg [.nilSlice]))) ∧ (g.kind = 3 → ∃ j : Nat, g.b = j ∧ j < L.length)) ?_ ?_
  · by_cases c0 : 1 ≤ g.kind ∧ g.kind ≤ 4
    · by_cases c1 : 0 ≤ g.a ∧ g.a ≤ (L.length : Int) - 1
      · obtain ⟨i, hi⟩ : ∃ i : Nat, g.a = (i : Int) := ⟨g.a.toNat, by omega⟩
        have hi2 : i < L.length := by omega
        obtain ⟨p, hp, hld, _⟩ := hsw.at_ i (by simpa using hi2)
        simp only [List.getElem_map] at hld
        rw [hi] at c1
        by_cases c3 : g.kind = 3
        · have q3 : (g.kind == 3) = true := by simp [c3]
          by_cases c2 : 0 ≤ g.b ∧ g.b ≤ (L.length : Int) - 1
          · simp only [↓sd0, su0, su1, resOf, pack, eqCells, ↓reduceIte, Nat.reduceEqDiff, Nat.reduceAdd, Nat.reduceLeDiff, Nat.reduceLT, reduceCtorEq, h3, h5, h6, hl6, h8, hlen, (in_17 _ _ _).callK, c0, c1, hwl, q3, c2, hi, hp, hld]
            exact ⟨⟨_, rfl, rfl⟩, ⟨i, rfl, hi2, ⟨_, rfl, rfl⟩, ⟨_, rfl, rfl⟩⟩, fun _ => ⟨g.b.toNat, by omega, by omega⟩⟩
          · have hr' : r = (nilC, 3) := by
              rw [← hr]; unfold Lo.next
              rw [if_pos c0, hL, hi, Int.toNat_natCast, List.getElem?_eq_getElem hi2]
              simp only
              rw [if_pos (by omega), if_neg (by omega), if_neg (by omega), if_pos c3]
              have hLh : L = had := by rw [← hL, if_neg (by omega)]
              cases hj : had[g.b.toNat]? with
              | none => rfl
              | some b =>
                simp only
                by_cases hb0 : 0 ≤ g.b
                · exfalso
                  have : g.b.toNat < had.length := by
                    rcases Nat.lt_or_ge g.b.toNat had.length with h | h
                    · exact h
                    · rw [List.getElem?_eq_none h] at hj; simp at hj
                  rw [← hLh] at this; omega
                · rw [if_neg hb0]
            simp only [↓sd0, su0, su1, resOf, pack, eqCells, ↓reduceIte, Nat.reduceEqDiff, Nat.reduceAdd, Nat.reduceLeDiff, Nat.reduceLT, reduceCtorEq, h3, h5, h6, hl6, h8, hlen, (in_17 _ _ _).callK, c0, c1, hwl, q3, c2, hi, hp, hld, hr', nilC_av]
        · have q3 : (g.kind == 3) = false := by simp [c3]
          simp only [↓sd0, su0, su1, resOf, pack, eqCells, ↓reduceIte, Nat.reduceEqDiff, Nat.reduceAdd, Nat.reduceLeDiff, Nat.reduceLT, reduceCtorEq, h3, h5, h6, hl6, h8, hlen, (in_17 _ _ _).callK, c0, c1, hwl, q3, hi, hp, hld]
          exact ⟨⟨_, rfl, rfl⟩, ⟨i, rfl, hi2, ⟨_, rfl, rfl⟩, ⟨_, rfl, rfl⟩⟩, fun h => absurd h c3⟩
      · have hr' : r = (nilC, 3) := by
          rw [← hr]; unfold Lo.next
          rw [if_pos c0, hL]
          cases hj : L[g.a.toNat]? with
          | none => rfl
          | some a =>
            simp only
            by_cases ha0 : 0 ≤ g.a
            · exfalso
              have : g.a.toNat < L.length := by
                rcases Nat.lt_or_ge g.a.toNat L.length with h | h
                · exact h
                · rw [List.getElem?_eq_none h] at hj; simp at hj
              omega
            · rw [if_neg ha0]
        simp only [↓sd0, su0, su1, resOf, pack, eqCells, ↓reduceIte, Nat.reduceEqDiff, Nat.reduceAdd, Nat.reduceLeDiff, Nat.reduceLT, reduceCtorEq, h3, h5, h6, hl6, h8, hlen, (in_17 _ _ _).callK, c0, c1, hwl, hr', nilC_av]
    · have hr' : r = (nilC, 4) := by rw [← hr]; unfold Lo.next; rw [if_neg c0]
      simp only [↓sd0, su0, su1, resOf, pack, eqCells, ↓reduceIte, Nat.reduceEqDiff, Nat.reduceAdd, Nat.reduceLeDiff, Nat.reduceLT, reduceCtorEq, h3, h5, h6, hl6, h8, hlen, (in_17 _ _ _).callK, c0, hr', nilC_av]
  clear h3 h5 h6 hl6 h8
  clear m6 e lo n
  rintro e lo H'' n ⟨h3, h5, ⟨m6, h6, hl6⟩, h8, rfl, c0, ⟨i, hi, hi2, ⟨m9, h9, hl9⟩, m10, h10, hl10⟩, hj⟩
  have hr2 : r = if g.kind = 1 then l.done L[i]
        else if g.kind = 2 then (if (binds g.bind).1 = 0 then l.done (L[i].turn (T.bound g.bind)) else (nilC, (binds g.bind).1))
        else if g.kind = 3 then match had[g.b.toNat]? with
          | none => (nilC, 3)
          | some b => if 0 ≤ g.b then (if (g.right L[i] b).2 = 0 then l.done (g.right L[i] b).1 else (nilC, (g.right L[i] b).2)) else (nilC, 3)
        else l.done L[i].once := by
    rw [← hr]; unfold Lo.next
    rw [if_pos c0, hL, hi, Int.toNat_natCast, List.getElem?_eq_getElem hi2]
    simp only
    rw [if_pos (by omega)]
    rfl
  have hgood : g.kind ≠ 1 → L[i].good := by
    intro h
    have hLh : L = had := by rw [← hL, if_neg h]
    exact hhad _ (by rw [← hLh]; exact List.getElem_mem hi2)
  refine W_cut (fun e lo H' n => e 3 = .fptr l.av 0 ∧ H' = H'' ∧ (∃ m, e 6 = .loc 6 m 0 ∧ lo 6 = some (m, .agg [.nilSlice])) ∧ (∃ m out, e 10 = .loc 10 m 0 ∧ lo 10 = some (m, Cl.av out) ∧ out.fin ∧ r = l.done out)) ?_ ?_
  · by_cases k1 : g.kind = 1
    · have q1 : (g.kind == 1) = true := by simp [k1]
      rw [if_pos k1] at hr2
      have hfin : L[i].fin := hl.2.2 _ (by rw [if_pos k1] at hL; rw [hL]; exact List.getElem_mem hi2)
      simp only [↓sd0, su0, su1, resOf, pack, eqCells, ↓reduceIte, Nat.reduceEqDiff, Nat.reduceAdd, Nat.reduceLeDiff, Nat.reduceLT, reduceCtorEq, h3, h5, h6, hl6, h8, h9, hl9, h10, hl10, q1]
      exact ⟨⟨_, rfl, rfl⟩, _, _, rfl, rfl, hfin, hr2⟩
    · have q1 : (g.kind == 1) = false := by simp [k1]
      rw [if_neg k1] at hr2
      have hg1 := hgood k1
      by_cases k2 : g.kind = 2
      · have q2 : (g.kind == 2) = true := by simp [k2]
        rw [if_pos k2] at hr2
        have hb := bind_spec g.bnil g.bind hg.2.2.1 hg.2.2.2
        by_cases cb : (binds g.bind).1 = 0
        · rw [if_pos cb] at hr2
          have hbz : binds g.bind = (0, 0) := by
            unfold binds at cb ⊢
            split at cb
            · simp at cb
            · rename_i a; rw [if_neg a]
              split at cb
              · rename_i b; rw [if_pos b]
              · rename_i b; exact absurd cb b
          have hbs := binds_size cb
          have htu := turn_spec L[i] 62 [.fptr g.av 0] (T.bound g.bind) pureOf_62 rfl (by have := hg1.1; omega) (fun x hx => by
            have := hg1.2 x hx
            exact ⟨next1_spec x.l g (by have := hg.2.2.1; omega) hg.2.2.2 (by have := this.1.1; omega) this.1.2, next1_spec x.r g (by have := hg.2.2.1; omega) hg.2.2.2 (by have := this.2.1; omega) this.2.2⟩)
          have hfin : (L[i].turn (T.bound g.bind)).fin := turn_fin (by have := hg1.1; omega) fun x hx => by
            have := hg1.2 x hx
            have a := bound_size (m := 40) (by omega) hbs x.l
            have b := bound_size (m := 40) (by omega) hbs x.r
            exact ⟨by have := this.1.1; omega, by have := this.2.1; omega⟩
          rw [hbz] at hb
          simp only [↓sd0, su0, su1, resOf, pack, eqCells, ↓reduceIte, Nat.reduceEqDiff, Nat.reduceAdd, Nat.reduceLeDiff, Nat.reduceLT, reduceCtorEq, h3, h5, h6, hl6, h8, h9, hl9, h10, hl10, q1, q2, hb.callK, storable_flt, cells_flt, within_flt, part_flt, eqsF0, htu.callK]
          exact ⟨⟨_, rfl, rfl⟩, _, _, rfl, rfl, hfin, hr2⟩
        · rw [if_neg cb] at hr2
          have cb' : ((binds g.bind).1 == 0) = false := by simp [cb]
          simp only [↓sd0, su0, su1, resOf, pack, eqCells, ↓reduceIte, Nat.reduceEqDiff, Nat.reduceAdd, Nat.reduceLeDiff, Nat.reduceLT, reduceCtorEq, dr0, Nat.reducePow, Nat.reduceDiv, Nat.reduceMod, Nat.reduceBEq, h3, h5, h6, hl6, h8, h9, hl9, h10, hl10, q1, q2, hb.callK, storable_flt, cells_flt, within_flt, part_flt, part_fltc, eqsF0, cb', hr2, nilC_av]
      · have q2 : (g.kind == 2) = false := by simp [k2]
        rw [if_neg k2] at hr2
        by_cases k3 : g.kind = 3
        · have q3 : (g.kind == 3) = true := by simp [k3]
          rw [if_pos k3] at hr2
          obtain ⟨j, hj1, hj2⟩ := hj k3
          have hLh : L = had := by rw [← hL, if_neg k1]
          obtain ⟨p, hp, hld, hh, hfp⟩ := hsw.at_ j (by simpa using hj2)
          simp only [List.getElem_map] at hld
          have hgj : L[j].good := hhad _ (by rw [← hLh]; exact List.getElem_mem hj2)
          have hri := right_spec g L[i] L[j] (by have := hg1.1; omega) (by have := hgj.1; omega) (by have := hg.1; omega) hg.2.1 (Cl.good_fin hg1).2 (Cl.good_fin hgj).2 (fun f hf s hs => by
            have := stands_size hs
            have := (hgj.2 f hf).1.1
            have := (hgj.2 f hf).2.1
            omega)
          rw [hj1, Int.toNat_natCast, ← hLh, List.getElem?_eq_getElem hj2] at hr2
          simp only at hr2
          rw [if_pos (by omega)] at hr2
          have hfin := right_fin (g := g) hg1 hgj
          by_cases cr : (g.right L[i] L[j]).2 = 0
          · rw [if_pos cr] at hr2
            simp only [↓sd0, su0, su1, resOf, pack, eqCells, ↓reduceIte, Nat.reduceEqDiff, Nat.reduceAdd, Nat.reduceLeDiff, Nat.reduceLT, reduceCtorEq, dr0, Nat.reducePow, Nat.reduceDiv, Nat.reduceMod, Nat.reduceBEq, h3, h5, h6, hl6, h8, h9, hl9, h10, hl10, q1, q2, q3, hj1, hp, hld, hfp, hsw.nol, hri.callK, cr]
            exact ⟨⟨_, rfl, rfl⟩, _, _, rfl, rfl, hfin, hr2⟩
          · rw [if_neg cr] at hr2
            have cr' : ((g.right L[i] L[j]).2 != 0) = true := by simp [cr]
            simp only [↓sd0, su0, su1, resOf, pack, eqCells, ↓reduceIte, Nat.reduceEqDiff, Nat.reduceAdd, Nat.reduceLeDiff, Nat.reduceLT, reduceCtorEq, dr0, Nat.reducePow, Nat.reduceDiv, Nat.reduceMod, Nat.reduceBEq, h3, h5, h6, hl6, h8, h9, hl9, h10, hl10, q1, q2, q3, hj1, hp, hld, hfp, hsw.nol, hri.callK, cr', hr2, nilC_av]
        · have q3 : (g.kind == 3) = false := by simp [k3]
          have q4 : (g.kind == 4) = true := by simp; omega
          rw [if_neg k3] at hr2
          have hon := once_spec L[i] (by have := hg1.1; omega) (fun f hf => by have := hg1.2 f hf; exact ⟨by have := this.1.1; omega, by have := this.2.1; omega⟩)
          simp only [↓sd0, su0, su1, resOf, pack, eqCells, ↓reduceIte, Nat.reduceEqDiff, Nat.reduceAdd, Nat.reduceLeDiff, Nat.reduceLT, reduceCtorEq, h3, h5, h6, hl6, h8, h9, hl9, h10, hl10, q1, q2, q3, q4, hon.callK]
          exact ⟨⟨_, rfl, rfl⟩, _, _, rfl, rfl, once_fin (Cl.good_fin hg1), hr2⟩
  clear h3 h5 h6 hl6 h8 h9 hl9 h10 hl10 hr2 hgood hj
  clear m6 m9 m10 e lo n
  rintro e lo H1 n ⟨h3, rfl, ⟨m6, h6, hl6⟩, m10, out, h10, hl10, hfin, hr3⟩
  have hone : (Lo.mk l.anil l.ar false [out]).fin := ⟨hl.1, by simp, fun c hc => by simp at hc; subst hc; exact hfin⟩
  have hck := check_spec _ hone
  unfold Lo.done at hr3
  by_cases cc : (Lo.mk l.anil l.ar false [out]).chk.1 = 0
  · rw [if_pos cc] at hr3
    rw [Lo.chk_zero cc] at hck
    have htu := turn_spec out 66 [] T.copy pureOf_66 rfl (by have := hfin.1; omega) (fun x hx => by
      have := hfin.2 x hx
      exact ⟨copy_spec x.l this.1, copy_spec x.r this.2⟩)
    simp only [↓sd0, su0, su1, resOf, pack, eqCells, ↓reduceIte, Nat.reduceEqDiff, Nat.reduceAdd, Nat.reduceLeDiff, Nat.reduceLT, reduceCtorEq, h3, h6, hl6, h10, hl10, one_av, hck.callK, storable_flt, cells_flt, within_flt, part_flt, eqsF0, htu.callK, hr3]
  · rw [if_neg cc] at hr3
    have cc' : ((Lo.mk l.anil l.ar false [out]).chk.1 == 0) = false := by simp [cc]
    simp only [↓sd0, su0, su1, resOf, pack, eqCells, ↓reduceIte, Nat.reduceEqDiff, Nat.reduceAdd, Nat.reduceLeDiff, Nat.reduceLT, reduceCtorEq, h3, h6, hl6, h10, hl10, one_av, hck.callK, storable_flt, cells_flt, within_flt, part_flt, eqsF0, cc', hr3, nilC_av]

end Go.Proofs.Ytmbdccekcfeomaa.Am
end
/- Derivations. -/
section
open Go
namespace Go.Proofs.Ytmbdccekcfeomaa.Am
set_option linter.unusedSimpArgs false
set_option linter.unusedVariables false
set_option maxRecDepth 20000

theorem done_ok {l : Lo} {c : Cl} (h0 : l.chk.1 = 0) (h : (l.done c).2 = 0) : c.chk l.ar = 0 ∧ (l.done c).1 = c.turn T.copy := by
  unfold Lo.done at h ⊢
  split at h
  · rename_i a
    rw [if_pos a]
    rw [Lo.one_chk h0] at a
    exact ⟨a, rfl⟩
  · simp at h
theorem nilC_good : nilC.good := ⟨by simp [nilC], by simp [nilC]⟩
theorem turn_good {c : Cl} (h : c.good) : (c.turn T.copy).good := by
  refine ⟨by simpa [Cl.turn] using h.1, ?_⟩
  intro x hx
  simp only [Cl.turn, List.mem_map] at hx
  obtain ⟨y, hy, rfl⟩ := hx
  have := h.2 y hy
  exact ⟨⟨by rw [copy_size]; exact this.1.1, copy_small this.1.2⟩, ⟨by rw [copy_size]; exact this.2.1, copy_small this.2.2⟩⟩
/-- What a step comes to. -/
theorem next_ok {l : Lo} {had : List Cl} {g : Gt} (h : (l.next had g).2 = 0) : ∃ c, l.next had g = l.done c ∧
    ((g.kind = 1 ∧ c ∈ l.cs) ∨ (g.kind = 2 ∧ ∃ a ∈ had, c = a.turn (T.bound g.bind)) ∨ (g.kind = 3 ∧ ∃ a ∈ had, ∃ b ∈ had, (g.right a b).2 = 0 ∧ c = (g.right a b).1) ∨ (∃ a ∈ had, c = a.once)) := by
  unfold Lo.next at h ⊢
  by_cases c0 : 1 ≤ g.kind ∧ g.kind ≤ 4
  · rw [if_pos c0] at h ⊢
    cases hj : (if g.kind = 1 then l.cs else had)[g.a.toNat]? with
    | none => rw [hj] at h; simp at h
    | some a =>
      rw [hj] at h
      simp only at h ⊢
      have hmem := List.mem_of_getElem? hj
      by_cases c1 : 0 ≤ g.a
      · rw [if_pos c1] at h ⊢
        by_cases k1 : g.kind = 1
        · rw [if_pos k1] at h hmem ⊢
          exact ⟨a, rfl, Or.inl ⟨k1, hmem⟩⟩
        · rw [if_neg k1] at h hmem ⊢
          by_cases k2 : g.kind = 2
          · rw [if_pos k2] at h ⊢
            split at h
            · rename_i b; rw [if_pos b]; exact ⟨_, rfl, Or.inr (Or.inl ⟨k2, a, hmem, rfl⟩)⟩
            · rename_i b; exact absurd h b
          · rw [if_neg k2] at h ⊢
            by_cases k3 : g.kind = 3
            · rw [if_pos k3] at h ⊢
              cases hj2 : had[g.b.toNat]? with
              | none => rw [hj2] at h; simp at h
              | some b =>
                rw [hj2] at h
                simp only at h ⊢
                split at h
                · rename_i b0
                  rw [if_pos b0]
                  split at h
                  · rename_i b1; rw [if_pos b1]; exact ⟨_, rfl, Or.inr (Or.inr (Or.inl ⟨k3, a, hmem, b, List.mem_of_getElem? hj2, b1, rfl⟩))⟩
                  · rename_i b1; exact absurd h b1
                · simp at h
            · rw [if_neg k3]
              exact ⟨_, rfl, Or.inr (Or.inr (Or.inr ⟨a, hmem, rfl⟩))⟩
      · rw [if_neg c1] at h; simp at h
  · rw [if_neg c0] at h; simp at h
theorem next_good {l : Lo} {had : List Cl} {g : Gt} (h0 : l.chk.1 = 0) (h : (l.next had g).2 = 0) : (l.next had g).1.good := by
  obtain ⟨c, hc, _⟩ := next_ok h
  rw [hc] at h ⊢
  obtain ⟨h1, h2⟩ := done_ok h0 h
  rw [h2]; exact turn_good (chk_good h1)

def Lo.takes (l : Lo) : List Cl → List Gt → Option (List Cl)
  | had, [] => some had
  | had, g :: gs => if (l.next had g).2 = 0 then l.takes (had ++ [(l.next had g).1]) gs else none
theorem takes_drop {l : Lo} {had : List Cl} {gs : List Gt} {k : Nat} (h : k < gs.length) : l.takes had (gs.drop k) = if (l.next had gs[k]).2 = 0 then l.takes (had ++ [(l.next had gs[k]).1]) (gs.drop (k + 1)) else none := by
  rw [List.drop_eq_getElem_cons h]; rfl
theorem takes_add {l : Lo} : ∀ (gs : List Gt) (had : List Cl) (cs : List Cl) (g : Gt), l.takes had gs = some cs → (l.next cs g).2 = 0 → l.takes had (gs ++ [g]) = some (cs ++ [(l.next cs g).1]) := by
  intro gs
  induction gs with
  | nil =>
    intro had cs g h hn
    simp only [Lo.takes, Option.some.injEq] at h
    subst h
    simp only [List.nil_append, Lo.takes]
    rw [if_pos hn]
  | cons x gs ih =>
    intro had cs g h hn
    rw [Lo.takes] at h
    split at h
    · rename_i hx
      rw [List.cons_append, Lo.takes, if_pos hx]
      exact ih _ _ _ h hn
    · simp at h

theorem thaw_slice2 {wl lo hi sz id n : Nat} {H : Nat → Option Obj} {es : List AV} {w : AV} (hw' : w.solid = true) (ho : Own H lo hi sz id es) (hn : es.length = n) (hw : wl ≤ lo) (hs : AV.solids es = true) : ∃ H', thaw wl 1 H [lv id n, w] = some ([sl sz true es, w], H') := by
  obtain ⟨H', hh, hj⟩ := thawV_lv ho hw hs
  refine ⟨H', ?_⟩
  subst hn
  rw [thaw_one]
  simp only [thawL, hh, thawV_solid w hw']

theorem take_spec (l : Lo) (hl : l.fin) (h0 : l.chk.1 = 0) (b : Bool) (gs : List Gt) (hg : ∀ g ∈ gs, g.fin) (hgl : gs.length ≤ 400) {cs : List Cl} (hcs : l.takes [] gs = some cs) :
    Gives tab 30 [l.av, sl 8 b (gs.map Gt.av)] (.tup [sl 1 true (cs.map Cl.el), flt 0 0]) := by
  refine gives_thaw tab_30 fun H nx => ?_
  unfold body30
  dsimp only [qm, qf, ql, qL, qs, qc, qk, qi, qn, qb, qB, qe, qx, qo, qg]
  simp only [start2]
  have hck := check_spec l hl
  rw [Lo.chk_zero h0] at hck
  have q : decide ((gs.length : Int) > 400) = false := decide_eq_false (by omega)
  simp only [↓sd0, su0, su1, resOf, pack, eqCells, ↓reduceIte, Nat.reduceEqDiff, Nat.reduceAdd, Nat.reduceLeDiff, Nat.reduceLT, reduceCtorEq, hck.callK, storable_flt, cells_flt, within_flt, part_flt, eqsF0, q]
  refine W_count gs.length (fun k e lo H' n => e 2 = .fptr l.av 0 ∧ (∃ m, e 5 = .loc 5 m 0 ∧ lo 5 = some (m, .agg [.int .i64 0, .int .i64 0])) ∧ e 22 = sl 8 b (gs.map Gt.av) ∧ e 24 = .int .i64 k ∧ e 23 = .int .i64 gs.length ∧ nx ≤ n ∧
    ∃ id had, e 7 = lv id k ∧ had.length = k ∧ Own H' nx n 1 id (had.map Cl.el) ∧ (∀ c ∈ had, c.good) ∧ l.takes had (gs.drop k) = some cs) ?_ ?_ ?_
  · simp only [↓sd0, su0, su1, resOf, pack, eqCells, ↓reduceIte, Nat.reduceEqDiff, Nat.reduceAdd, Nat.reduceLeDiff, Nat.reduceLT, reduceCtorEq]; exact ⟨⟨_, rfl, rfl⟩, 0, [], rfl, rfl, Own.nil, by simp, hcs⟩
  · rintro k e lo H' n hk ⟨h2, ⟨m5, h5, hl5⟩, h22, h24, h23, hn, id, had, h7, hhl, ho, hgood, hq⟩
    rw [takes_drop hk] at hq
    have hfin := hg gs[k] (List.getElem_mem hk)
    have hwk := wrap_succ hk (by omega)
    split at hq
    · rename_i hok
      have hnx := fun n' => next_spec l hl had hgood (by omega) gs[k] hfin (Sees.lv ho hhl Cl.part_el) (wl := nx) (nx := n')
      rw [hok] at hnx
      have hap := append_to (bytes := 24) (l.next had gs[k]).1.el ho (n := k) (by simpa using hhl) (Nat.le_refl _) (by omega)
      simp only [↓sd0, su0, su1, resOf, pack, eqCells, ↓reduceIte, Nat.reduceEqDiff, Nat.reduceAdd, Nat.reduceLeDiff, Nat.reduceLT, reduceCtorEq, h2, h5, hl5, h22, h24, h23, h7, iaddr_map hk, lt_cast hk, callK_eq (hnx _), hap, hwk]
      exact ⟨⟨_, rfl, rfl⟩, by omega, _, had ++ [(l.next had gs[k]).1], rfl, by simp [hhl], by
        simp only [List.map_append, List.map_cons, List.map_nil]
        exact (Own.append (by omega)).mono (by omega), by
        intro c hc
        rcases List.mem_append.1 hc with h | h
        · exact hgood c h
        · simp at h; subst h; exact next_good h0 hok, hq⟩
    · simp at hq
  · rintro e lo H' n ⟨h2, ⟨m5, h5, hl5⟩, h22, h24, h23, hn, id, had, h7, hhl, ho, hgood, hq⟩
    rw [List.drop_length] at hq
    simp only [Lo.takes, Option.some.injEq] at hq
    subst hq
    obtain ⟨H'', hth⟩ := thaw_slice2 (w := flt 0 0) (solid_flt 0 0) ho (n := gs.length) (by simpa using hhl) (Nat.le_refl _) (solids_map Cl.solid_el had)
    simp only [↓sd0, su0, su1, resOf, pack, eqCells, ↓reduceIte, Nat.reduceEqDiff, Nat.reduceAdd, Nat.reduceLeDiff, Nat.reduceLT, reduceCtorEq, h2, h5, hl5, h22, h24, h23, h7, agg_flt, part_flt, cells_flt, storable_flt, within_flt, within_fltt, hth, solid_flt]

def endsB (cs : List Cl) : Bool := match cs.getLast? with
  | some c => c.fs.isEmpty
  | none => false
theorem ends_spec (l : Lo) (hl : l.fin) (h0 : l.chk.1 = 0) (b : Bool) (gs : List Gt) (hg : ∀ g ∈ gs, g.fin) (hgl : gs.length ≤ 400) {cs : List Cl} (hcs : l.takes [] gs = some cs) (hcl : cs.length < 4294967296) :
    Gives tab 11 [l.av, sl 8 b (gs.map Gt.av)] (.tup [.bool (endsB cs), flt 0 0]) := by
  refine gives tab_11 fun H nx => ?_
  unfold body11 endsB
  dsimp only [qm, qf, ql, qL, qs, qc, qk, qi, qn, qb, qB, qe, qx, qo, qg]
  simp only [start2]
  have htk := take_spec l hl h0 b gs hg hgl hcs
  cases hc : cs with
  | nil =>
    rw [hc] at htk
    have q : decide ((([] : List Cl).length : Int) > 0) = false := by simp
    simp only [↓sd0, su0, su1, resOf, pack, eqCells, ↓reduceIte, Nat.reduceEqDiff, Nat.reduceAdd, Nat.reduceLeDiff, Nat.reduceLT, reduceCtorEq, htk.callK, agg_flt, part_flt, cells_flt, storable_flt, within_flt, within_fltt, eqsF, q, solid_flt]
    simp [solid_bool]
  | cons c0 cs0 =>
    rw [← hc]
    have hlen : cs.length = cs0.length + 1 := by rw [hc]; rfl
    have q : decide ((cs.length : Int) > 0) = true := decide_eq_true (by omega)
    have hi : cs0.length < cs.length := by omega
    have hw : IntKind.i64.wrap ((cs.length : Int) - 1) = (cs0.length : Int) := by rw [wrap64 (by omega) (by omega)]; omega
    have hlast : cs.getLast? = some cs[cs0.length] := by
      rw [List.getLast?_eq_getElem?, show cs.length - 1 = cs0.length by omega, List.getElem?_eq_getElem hi]
    have q2 : ((cs[cs0.length].fs.length : Int) == 0) = cs[cs0.length].fs.isEmpty := by
      cases cs[cs0.length].fs <;> simp
      omega
    simp only [↓sd0, su0, su1, resOf, pack, eqCells, ↓reduceIte, Nat.reduceEqDiff, Nat.reduceAdd, Nat.reduceLeDiff, Nat.reduceLT, reduceCtorEq, htk.callK, agg_flt, part_flt, cells_flt, storable_flt, within_flt, within_fltt, eqsF, q, hw, iaddr_map hi, solid_flt, hlast, q2]

end Go.Proofs.Ytmbdccekcfeomaa.Am
end
