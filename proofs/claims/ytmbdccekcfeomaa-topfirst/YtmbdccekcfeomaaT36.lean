/- Unification: it ends. -/
import Derived.Test.YtmbdccekcfeomaaT35
section
open Go
namespace Go.Proofs.Ytmbdccekcfeomaa.Am
set_option linter.unusedSimpArgs false
set_option linter.unusedVariables false
set_option maxRecDepth 20000

inductive Reach (ts : List T) : Nat → Nat → Prop
  | refl (i : Nat) : Reach ts i i
  | step {i j k : Nat} (h : i < ts.length) (h0 : ts[i].h ≠ 0) (hj : j ∈ ts[i].vars) (r : Reach ts j k) : Reach ts i k
theorem QS.reach {ts : List T} {k m : Nat} {ss : List Bool} (hc : CS ts k (List.replicate m false) ss) {i z : Nat} (r : Reach ts i z) (h : QS ts k ss i) : QS ts k ss z := by
  induction r with
  | refl i => exact h
  | step hlt h0 hj r ih =>
    apply ih
    rcases h with h | h
    · rcases hc _ h with h | h
      · rw [List.getElem?_replicate] at h; split at h <;> simp at h
      · exact h.2 hlt h0 _ hj
    · exact absurd (h.2 hlt) h0
theorem not_reach {ts : List T} {k m : Nat} {ss : List Bool} (hc : CS ts k (List.replicate m false) ss) {i : Nat} (h : QS ts k ss i) : ¬ Reach ts i k := by
  intro r
  rcases h.reach hc r with h | h
  · rcases hc _ h with h | h
    · rw [List.getElem?_replicate] at h; split at h <;> simp at h
    · exact h.1 rfl
  · exact h.1 rfl
theorem le_sum {l : List Nat} {a : Nat} (h : a ∈ l) : a ≤ l.sum := by
  induction l with
  | nil => simp at h
  | cons x xs ih =>
    rw [List.sum_cons]
    rcases List.mem_cons.1 h with rfl | h
    · omega
    · have := ih h; omega
theorem CL.bind {m S k : Nat} {ts : List T} {t : T} (hC : CL m S ts) (hk : k < ts.length) (hkz : ts[k].h = 0) (ht : t.vt m) (hts : t.size ≤ S) (hno : ∀ i ∈ t.vars, ¬ Reach ts i k) : CL m S (ts.set k t) := by
  obtain ⟨rk, hrk⟩ := hC.acy
  refine { len := by simpa using hC.len, vt := ?_, size := ?_, acy := ?_ }
  · intro s hs h0
    rcases List.mem_or_eq_of_mem_set hs with h | h
    · exact hC.vt s h h0
    · subst h; exact ht
  · intro s hs
    rcases List.mem_or_eq_of_mem_set hs with h | h
    · exact hC.size s h
    · subst h; exact hts
  · classical
    refine ⟨fun i => if Reach ts i k then rk i + ((t.vars.map rk).sum + 1) else rk i, ?_⟩
    intro i hi h0 j hj
    have hi' : i < ts.length := by simpa using hi
    by_cases hik : k = i
    · subst hik
      rw [List.getElem_set_self] at hj
      have hnr := hno j hj
      have := le_sum (List.mem_map_of_mem (f := rk) hj)
      simp only
      rw [if_neg hnr, if_pos (Reach.refl _)]
      omega
    · rw [List.getElem_set_ne hik] at hj h0
      have hlt := hrk i hi' h0 j hj
      simp only
      by_cases hr : Reach ts j k
      · rw [if_pos hr, if_pos (Reach.step hi' h0 hj hr)]; omega
      · rw [if_neg hr]; split <;> omega

def unb (ts : List T) : Nat := ts.countP fun s => s.h == 0
theorem unb_set {ts : List T} {k : Nat} {t : T} (hk : k < ts.length) (hkz : ts[k].h = 0) (ht : t.h ≠ 0) : unb (ts.set k t) < unb ts := by
  unfold unb
  induction ts generalizing k with
  | nil => simp at hk
  | cons s ss ih => cases k with
    | zero =>
      simp at hkz
      rw [List.set_cons_zero, List.countP_cons, List.countP_cons]
      have a : (t.h == 0) = false := by simp [ht]
      have b : (s.h == 0) = true := by simp [hkz]
      rw [a, b]; simp
    | succ k =>
      rw [List.set_cons_succ, List.countP_cons, List.countP_cons]
      have := ih (k := k) (by simpa using hk) (by simpa using hkz)
      omega

mutual
def T.esz (v : Nat → Nat) : T → Nat
  | .mk h _ ks => if h < 0 then v (-h - 1).toNat else T.eszs v ks + 1
def T.eszs (v : Nat → Nat) : List T → Nat
  | [] => 0
  | k :: ks => T.esz v k + T.eszs v ks
end
theorem T.esz_neg (v : Nat → Nat) {t : T} (h : t.h < 0) : t.esz v = v (-t.h - 1).toNat := by cases t; rw [T.esz]; exact if_pos h
theorem T.esz_pos (v : Nat → Nat) {t : T} (h : ¬ t.h < 0) : t.esz v = T.eszs v t.ks + 1 := by cases t; rw [T.esz]; exact if_neg h
theorem T.esz_kid (v : Nat → Nat) {ks : List T} {k : Nat} (h : k < ks.length) : ks[k].esz v ≤ T.eszs v ks := by
  induction ks generalizing k with
  | nil => simp at h
  | cons t ts ih => cases k with
    | zero => simp only [T.eszs, List.getElem_cons_zero]; omega
    | succ k => simp only [T.eszs, List.getElem_cons_succ]; have := ih (by simpa using h); omega
theorem esz_le {v : Nat → Nat} {P : Nat} (hP : 1 ≤ P) (t : T) : (∀ j ∈ t.vars, v j ≤ P) → t.esz v ≤ t.size * P := by
  induction t using T.ind' with
  | h t ih =>
    intro hv
    by_cases c : t.h < 0
    · rw [T.esz_neg v c]
      have := hv (-t.h - 1).toNat (by rw [T.vars_neg c]; simp)
      have h1 : 1 * P ≤ t.size * P := Nat.mul_le_mul_right P (by rw [T.size_eq]; omega)
      omega
    · rw [T.esz_pos v c, T.size_eq, Nat.add_mul]
      have : T.eszs v t.ks ≤ T.sizes t.ks * P := by
        have hv' : ∀ x ∈ t.ks, ∀ j ∈ x.vars, v j ≤ P := fun x hx j hj => hv j ((T.vars_pos c j).2 ⟨x, hx, hj⟩)
        generalize t.ks = ks at ih hv'
        induction ks with
        | nil => simp [T.eszs]
        | cons k ks ihk =>
          have a := ih k (List.mem_cons_self ..) (hv' k (List.mem_cons_self ..))
          have b := ihk (fun x hx => ih x (List.mem_cons_of_mem _ hx)) (fun x hx => hv' x (List.mem_cons_of_mem _ hx))
          simp only [T.eszs, T.sizes, Nat.add_mul]; omega
      omega
def VP (ts : List T) (v : Nat → Nat) : Prop := ∀ i (h : i < ts.length), ts[i].h ≠ 0 → ts[i].esz v ≤ v i
theorem CL.vp {m S : Nat} {ts : List T} (hC : CL m S ts) : ∃ v, VP ts v := by
  obtain ⟨rk, hrk⟩ := hC.acy
  refine ⟨fun i => (S + 1) ^ (rk i + 1), ?_⟩
  intro i hi h0
  have h1 : 1 ≤ (S + 1) ^ rk i := Nat.pow_pos (by omega)
  have := esz_le (v := fun i => (S + 1) ^ (rk i + 1)) h1 ts[i] (fun j hj => Nat.pow_le_pow_right (by omega) (hrk i hi h0 j hj))
  have hs := hC.size _ (List.getElem_mem hi)
  have h2 : ts[i].size * (S + 1) ^ rk i ≤ (S + 1) * (S + 1) ^ rk i := Nat.mul_le_mul_right _ (by omega)
  show T.esz _ _ ≤ (S + 1) ^ (rk i + 1)
  rw [Nat.pow_succ, Nat.mul_comm ((S + 1) ^ rk i)]
  omega

/-- A tree that is no variable with something for it. -/
def Lk (ts : List T) (s : T) : Prop := s.h < 0 → ∀ h : (-s.h - 1).toNat < ts.length, ts[(-s.h - 1).toNat].h = 0
theorem look_spec {m S cid wl nx : Nat} {ts : List T} {H : Nat → Option Obj} (hC : CL m S ts) (hS : S < 1099511627776) (hm : m < 1099511627776) (hH : H cid = some (.arr 2 (ts.map T.av))) (t : T) (ht : t.vt m) (hts : t.size ≤ S) :
    Call tab wl 102 [.lref cid 0 m, t.av] H nx fun r H' nx' => (∃ s : T, r = s.av ∧ s.vt m ∧ s.size ≤ S ∧ Lk ts s ∧ ∀ v, VP ts v → s.esz v ≤ t.esz v) ∧ H' = H ∧ nx' = nx := by
  refine call_solid tab_102 ?_
  obtain ⟨rk, hrk⟩ := hC.acy
  unfold body102
  dsimp only [qm, qf, ql, qL, qs, qc, qk, qi, qn, qb, qB, qe, qx, qo, qg]
  simp only [start2]
  simp only [↓sd0, su0, su1, resOf, pack, eqCells, ↓reduceIte, Nat.reduceEqDiff, Nat.reduceAdd, Nat.reduceLeDiff, Nat.reduceLT, reduceCtorEq]
  refine W_down (if t.h < 0 then rk (-t.h - 1).toNat + 1 else 0) (fun d e l H' n => e 0 = .lref cid 0 m ∧ H' = H ∧ (∃ m, e 4 = .loc 4 m 0 ∧ l 4 = some (m, .agg [.int .i64 0, .nilSlice])) ∧ ∃ m', ∃ u : T, e 3 = .loc 3 m' 0 ∧ l 3 = some (m', u.av) ∧ u.vt m ∧ u.size ≤ S ∧ d = (if u.h < 0 then rk (-u.h - 1).toNat + 1 else 0) ∧ ∀ v, VP ts v → u.esz v ≤ t.esz v) ?_ ?_
  · simp only [↓sd0, su0, su1, resOf, pack, eqCells, ↓reduceIte, Nat.reduceEqDiff, Nat.reduceAdd, Nat.reduceLeDiff, Nat.reduceLT, reduceCtorEq]
    exact ⟨⟨_, rfl, rfl⟩, _, t, rfl, rfl, ht, hts, rfl, fun v _ => Nat.le_refl _⟩
  · rintro d e l H' n ⟨h0, rfl, ⟨m4, h4, hl4⟩, m3, u, h3, hl3, hu, hus, rfl, hv⟩
    obtain ⟨⟨hv0, hv1, hv2, hv3⟩, hvk⟩ := (T.vt_iff m u).1 hu
    by_cases c : u.h < 0
    · obtain ⟨j, hj⟩ : ∃ j : Nat, u.h = -((j : Int) + 1) := ⟨(-u.h - 1).toNat, by omega⟩
      have q : decide (u.h < 0) = true := by simp [c]
      have hw : IntKind.i64.wrap (IntKind.i64.wrap (0 - u.h) - 1) = (j : Int) := by rw [wrap64 (n := 0 - u.h) (by omega) (by omega), wrap64 (by omega) (by omega)]; omega
      have hjm : j < m := by omega
      have hjt : j < ts.length := by have := hC.len; omega
      have hjj : (-u.h - 1).toNat = j := by omega
      have hia := iaddr_lref (i := j) (n := m) hH hjm
      have hget : (ts.map T.av)[j]? = some ts[j].av := by simp [hjt]
      by_cases cz : ts[j].h = 0
      · have q2 : (ts[j].h != 0) = false := by simp [cz]
        simp only [↓sd0, su0, su1, resOf, pack, eqCells, ↓reduceIte, Nat.reduceEqDiff, Nat.reduceAdd, Nat.reduceLeDiff, Nat.reduceLT, reduceCtorEq, h0, h4, hl4, h3, hl3, q, hw, hia, hH, hget, q2]
        exact ⟨u, rfl, hu, hus, fun _ h => by simp only [hjj]; exact cz, hv⟩
      · have q2 : (ts[j].h != 0) = true := by simp [cz]
        simp only [↓sd0, su0, su1, resOf, pack, eqCells, ↓reduceIte, Nat.reduceEqDiff, Nat.reduceAdd, Nat.reduceLeDiff, Nat.reduceLT, reduceCtorEq, h0, h4, hl4, h3, hl3, q, hw, hia, hH, hget, q2]
        refine ⟨_, ?_, ⟨_, rfl, rfl⟩, _, ts[j], rfl, rfl, hC.vt _ (List.getElem_mem hjt) cz, hC.size _ (List.getElem_mem hjt), rfl, fun v hV => ?_⟩
        · rw [if_pos c, hjj]
          split
          · rename_i hneg
            have := hrk j hjt cz (-ts[j].h - 1).toNat (by rw [T.vars_neg hneg]; simp)
            omega
          · omega
        · have a := hV j hjt cz
          have b := hv v hV
          rw [T.esz_neg v c, hjj] at b
          omega
    · have q : decide (u.h < 0) = false := by simp; omega
      simp only [↓sd0, su0, su1, resOf, pack, eqCells, ↓reduceIte, Nat.reduceEqDiff, Nat.reduceAdd, Nat.reduceLeDiff, Nat.reduceLT, reduceCtorEq, h0, h4, hl4, h3, hl3, q]
      exact ⟨u, rfl, hu, hus, fun h => absurd h c, hv⟩

theorem bind103 {m S cid k wl nx : Nat} {ts : List T} {H : Nat → Option Obj} (hC : CL m S ts) (hS : S < 1099511627776) (hm : m < 1099511627776) (hwl : wl ≤ nx) (hwc : wl ≤ cid) (hcn : cid < nx) (hk : k < ts.length) (hkz : ts[k].h = 0) (hH : H cid = some (.arr 2 (ts.map T.av))) (t : T) (ht : t.vt m) (hts : t.size ≤ S) :
    Call tab wl 103 [.lref cid 0 m, .int .i64 k, t.av] H nx fun r H' nx' => (∃ b, r = .bool b) ∧ nx ≤ nx' ∧ (∀ j, j < nx → j ≠ cid → H' j = H j) ∧ ∃ ts' : List T, H' cid = some (.arr 2 (ts'.map T.av)) ∧ (ts' = ts ∨ (CL m S ts' ∧ unb ts' < unb ts)) := by
  refine call_mut tab_103 ?_
  unfold body103
  dsimp only [qm, qf, ql, qL, qs, qc, qk, qi, qn, qb, qB, qe, qx, qo, qg]
  simp only [start3]
  have hkm : k < m := by have := hC.len; omega
  have hmk : mkV 1 (.int .i64 m) (.int .i64 m) = some m := mkV_nat (by omega)
  simp only [↓sd0, su0, su1, resOf, pack, eqCells, ↓reduceIte, Nat.reduceEqDiff, Nat.reduceAdd, Nat.reduceLeDiff, Nat.reduceLT, reduceCtorEq, dr0, Nat.reducePow, Nat.reduceDiv, Nat.reduceMod, Nat.reduceBEq, hmk]
  have hrep : (List.replicate m (AV.bool false)) = (List.replicate m false).map AV.bool := by simp
  refine CallK_of (within_spec (S := S) (cid := cid) (sid := nx + 7) (k := k) (wl := wl) (ts := ts) hC hS hm (by omega) (by omega) hkm m t (List.replicate m false) _ _ (by simp) ht hts (by simp) (by rw [upd_other _ _ (by omega)]; exact hH) (by rw [upd_same, hrep])) ?_
  rintro r H2 n2 ⟨b, ss', rfl, hl', rfl, hn, hc', hle, hQ⟩
  have hH2 : ∀ j, j < nx → upd (upd H (nx + 7) (some (.arr 1 (List.replicate m (AV.bool false))))) (nx + 7) (some (.arr 1 (ss'.map AV.bool))) j = H j := fun j hj => by rw [upd_other _ _ (by omega), upd_other _ _ (by omega)]
  have hH2c := hH2 cid hcn
  rw [hH] at hH2c
  generalize hG : upd (upd H (nx + 7) (some (.arr 1 (List.replicate m (AV.bool false))))) (nx + 7) (some (.arr 1 (ss'.map AV.bool))) = G at hH2 hH2c ⊢
  cases b
  · obtain ⟨hq1, hq2⟩ := hQ rfl
    have hia := iaddr_lref (i := k) (n := m) hH2c hkm
    have hget : (ts.map T.av)[k]? = some ts[k].av := by simp [hk]
    have hset : (ts.map T.av).set k t.av = (ts.set k t).map T.av := by rw [List.map_set]
    simp only [↓sd0, su0, su1, resOf, pack, eqCells, ↓reduceIte, Nat.reduceEqDiff, Nat.reduceAdd, Nat.reduceLeDiff, Nat.reduceLT, reduceCtorEq, dr0, Nat.reducePow, Nat.reduceDiv, Nat.reduceMod, Nat.reduceBEq, hia, hH2c, hget, hwc, hset]
    refine ⟨⟨_, rfl⟩, by omega, fun j hj hne => by rw [if_neg hne]; exact hH2 j hj, ts.set k t, rfl, Or.inr ⟨?_, unb_set hk hkz ((T.vt_iff m t).1 ht).1.1⟩⟩
    exact hC.bind hk hkz ht hts fun i hi => not_reach hq2 (hq1 i hi)
  · simp only [↓sd0, su0, su1, resOf, pack, eqCells, ↓reduceIte, Nat.reduceEqDiff, Nat.reduceAdd, Nat.reduceLeDiff, Nat.reduceLT, reduceCtorEq, dr0, Nat.reducePow, Nat.reduceDiv, Nat.reduceMod, Nat.reduceBEq]
    exact ⟨⟨_, rfl⟩, by omega, fun j hj hne => hH2 j hj, ts, hH2c, Or.inl rfl⟩

end Go.Proofs.Ytmbdccekcfeomaa.Am
end
/- Unification: joined. -/
section
open Go
namespace Go.Proofs.Ytmbdccekcfeomaa.Am
set_option linter.unusedSimpArgs false
set_option linter.unusedVariables false
set_option maxRecDepth 20000

/-- What a join leaves. -/
def JP (m S cid : Nat) (ts : List T) (H : Nat → Option Obj) (nx : Nat) (H' : Nat → Option Obj) (nx' : Nat) : Prop :=
  nx ≤ nx' ∧ (∀ j, j < nx → j ≠ cid → H' j = H j) ∧ ∃ ts' : List T, H' cid = some (.arr 2 (ts'.map T.av)) ∧ (ts' = ts ∨ (CL m S ts' ∧ unb ts' < unb ts))

theorem vt_var {m : Nat} {t : T} (ht : t.vt m) (h : t.h < 0) : ∃ j : Nat, t.h = -((j : Int) + 1) ∧ j < m ∧ t.vars = [j] := by
  obtain ⟨⟨hv0, hv1, hv2, hv3⟩, hvk⟩ := (T.vt_iff m t).1 ht
  refine ⟨(-t.h - 1).toNat, by omega, by omega, T.vars_neg h⟩

theorem join_spec {m S cid wl : Nat} (hS : S < 1099511627776) (hm : m < 1099511627776) (hwc : wl ≤ cid) : ∀ (u : Nat) (ts : List T), CL m S ts → unb ts = u → ∀ v, VP ts v → ∀ (E : Nat) (a b : T), a.vt m → b.vt m → a.size ≤ S → b.size ≤ S → a.esz v + b.esz v = E →
    ∀ (H : Nat → Option Obj) (nx : Nat), wl ≤ nx → cid < nx → H cid = some (.arr 2 (ts.map T.av)) → Call tab wl 97 [.lref cid 0 m, a.av, b.av] H nx fun r H' nx' => (∃ x, r = .bool x) ∧ JP m S cid ts H nx H' nx' := by
  intro u
  induction u using Nat.strongRecOn with
  | ind u ihu =>
  intro ts hC hu v hV E
  induction E using Nat.strongRecOn with
  | ind E ihE =>
  intro a b ha hb hsa hsb hE H nx hwn hcn hH
  refine call_mut tab_97 ?_
  unfold body97
  dsimp only [qm, qf, ql, qL, qs, qc, qk, qi, qn, qb, qB, qe, qx, qo, qg]
  simp only [start3]
  rw [W_assoc]
  refine W_cut (fun e l H' n => H' = H ∧ nx ≤ n ∧ e 0 = .lref cid 0 m ∧ ∃ a' b' : T, (∃ m, e 4 = .loc 4 m 0 ∧ l 4 = some (m, a'.av)) ∧ (∃ m, e 5 = .loc 5 m 0 ∧ l 5 = some (m, b'.av)) ∧ a'.vt m ∧ b'.vt m ∧ a'.size ≤ S ∧ b'.size ≤ S ∧ Lk ts a' ∧ Lk ts b' ∧ a'.esz v + b'.esz v ≤ E) ?_ ?_
  · simp only [↓sd0, su0, su1, resOf, pack, eqCells, ↓reduceIte, Nat.reduceEqDiff, Nat.reduceAdd, Nat.reduceLeDiff, Nat.reduceLT, reduceCtorEq, dr0, Nat.reducePow, Nat.reduceDiv, Nat.reduceMod, Nat.reduceBEq]
    refine CallK_of (look_spec hC hS hm hH a ha hsa) ?_
    rintro r H1 n1 ⟨⟨a', rfl, h1, h2, h3, h4⟩, rfl, rfl⟩
    simp only [↓sd0, su0, su1, resOf, pack, eqCells, ↓reduceIte, Nat.reduceEqDiff, Nat.reduceAdd, Nat.reduceLeDiff, Nat.reduceLT, reduceCtorEq, dr0, Nat.reducePow, Nat.reduceDiv, Nat.reduceMod, Nat.reduceBEq]
    refine CallK_of (look_spec hC hS hm hH b hb hsb) ?_
    rintro r H1 n1 ⟨⟨b', rfl, h5, h6, h7, h8⟩, rfl, rfl⟩
    simp only [↓sd0, su0, su1, resOf, pack, eqCells, ↓reduceIte, Nat.reduceEqDiff, Nat.reduceAdd, Nat.reduceLeDiff, Nat.reduceLT, reduceCtorEq, dr0, Nat.reducePow, Nat.reduceDiv, Nat.reduceMod, Nat.reduceBEq]
    have := h4 v hV
    have := h8 v hV
    exact ⟨a', b', ⟨_, rfl, rfl⟩, ⟨_, rfl, rfl⟩, h1, h5, h2, h6, h3, h7, by omega⟩
  rintro e l H' n ⟨rfl, hn, h0, a', b', ⟨m4, h4, hl4⟩, ⟨m5, h5, hl5⟩, hva, hvb, hsa', hsb', hla, hlb, hE'⟩
  have hlen := hC.len
  -- a variable put for another one, or nothing
  have varvar : ∀ (k : Nat) (t : T), k < m → (∀ h : k < ts.length, ts[k].h = 0) → t.vt m → t.size ≤ S → (∀ i ∈ t.vars, i ≠ k ∧ ∀ h : i < ts.length, ts[i].h = 0) → CL m S (ts.set k t) ∧ unb (ts.set k t) < unb ts := by
    intro k t hk hkz ht hts hno
    have hk' : k < ts.length := by omega
    refine ⟨hC.bind hk' (hkz hk') ht hts fun i hi hr => ?_, unb_set hk' (hkz hk') ((T.vt_iff m t).1 ht).1.1⟩
    cases hr with
    | refl => exact (hno _ hi).1 rfl
    | step h hz _ _ => exact hz ((hno _ hi).2 h)
  refine W_cut (fun e l H1 n => H1 = H' ∧ nx ≤ n ∧ e 0 = .lref cid 0 m ∧ (∃ m, e 4 = .loc 4 m 0 ∧ l 4 = some (m, a'.av)) ∧ (∃ m, e 5 = .loc 5 m 0 ∧ l 5 = some (m, b'.av)) ∧ ¬ a'.h < 0 ∧ ¬ b'.h < 0 ∧ a'.ks.length = b'.ks.length) ?_ ?_
  · by_cases ca : a'.h < 0
    · obtain ⟨i, hi, him, hiv⟩ := vt_var hva ca
      have hit : i < ts.length := by omega
      have qa : decide (a'.h < 0) = true := by simp [ca]
      have wa : IntKind.i64.wrap (IntKind.i64.wrap (0 - a'.h) - 1) = (i : Int) := by rw [wrap64 (n := 0 - a'.h) (by omega) (by omega), wrap64 (by omega) (by omega)]; omega
      have hai : ∀ h : i < ts.length, ts[i].h = 0 := by
        have := hla ca
        rw [show (-a'.h - 1).toNat = i by omega] at this; exact this
      by_cases cb : b'.h < 0
      · obtain ⟨j, hj, hjm, hjv⟩ := vt_var hvb cb
        have hjt : j < ts.length := by omega
        have qb : decide (b'.h < 0) = true := by simp [cb]
        have wb : IntKind.i64.wrap (IntKind.i64.wrap (0 - b'.h) - 1) = (j : Int) := by rw [wrap64 (n := 0 - b'.h) (by omega) (by omega), wrap64 (by omega) (by omega)]; omega
        have hbj : ∀ h : j < ts.length, ts[j].h = 0 := by
          have := hlb cb
          rw [show (-b'.h - 1).toNat = j by omega] at this; exact this
        by_cases cs : a'.h < b'.h
        · have q1 : decide (a'.h < b'.h) = true := by simp [cs]
          have q2 : (b'.h != a'.h) = true := by simp; omega
          have hia := iaddr_lref (i := i) (n := m) hH him
          have hget : (ts.map T.av)[i]? = some ts[i].av := by simp [hit]
          have hset : (ts.map T.av).set i b'.av = (ts.set i b').map T.av := by rw [List.map_set]
          simp only [↓sd0, su0, su1, resOf, pack, eqCells, ↓reduceIte, Nat.reduceEqDiff, Nat.reduceAdd, Nat.reduceLeDiff, Nat.reduceLT, reduceCtorEq, h0, h4, hl4, h5, hl5, qa, qb, q1, q2, wa, hia, hH, hget, hwc, hset]
          refine ⟨⟨_, rfl⟩, by omega, fun k hk hne => by rw [upd_other _ _ hne], ts.set i b', upd_same _ _ _, Or.inr (varvar i b' him hai hvb hsb' fun k hk => ?_)⟩
          rw [hjv] at hk; simp at hk; subst hk
          exact ⟨by omega, hbj⟩
        · have q1 : decide (a'.h < b'.h) = false := by simp; omega
          by_cases ce : a'.h = b'.h
          · have q2 : (a'.h != b'.h) = false := by simp [ce]
            simp only [↓sd0, su0, su1, resOf, pack, eqCells, ↓reduceIte, Nat.reduceEqDiff, Nat.reduceAdd, Nat.reduceLeDiff, Nat.reduceLT, reduceCtorEq, h0, h4, hl4, h5, hl5, qa, qb, q1, q2]
            exact ⟨⟨_, rfl⟩, by omega, fun _ _ _ => rfl, ts, hH, Or.inl rfl⟩
          · have q2 : (a'.h != b'.h) = true := by simp [ce]
            have hia := iaddr_lref (i := j) (n := m) hH hjm
            have hget : (ts.map T.av)[j]? = some ts[j].av := by simp [hjt]
            have hset : (ts.map T.av).set j a'.av = (ts.set j a').map T.av := by rw [List.map_set]
            simp only [↓sd0, su0, su1, resOf, pack, eqCells, ↓reduceIte, Nat.reduceEqDiff, Nat.reduceAdd, Nat.reduceLeDiff, Nat.reduceLT, reduceCtorEq, h0, h4, hl4, h5, hl5, qa, qb, q1, q2, wb, hia, hH, hget, hwc, hset]
            refine ⟨⟨_, rfl⟩, by omega, fun k hk hne => by rw [upd_other _ _ hne], ts.set j a', upd_same _ _ _, Or.inr (varvar j a' hjm hbj hva hsa' fun k hk => ?_)⟩
            rw [hiv] at hk; simp at hk; subst hk
            exact ⟨by omega, hai⟩
      · have qb : decide (b'.h < 0) = false := by simp; omega
        simp only [↓sd0, su0, su1, resOf, pack, eqCells, ↓reduceIte, Nat.reduceEqDiff, Nat.reduceAdd, Nat.reduceLeDiff, Nat.reduceLT, reduceCtorEq, h0, h4, hl4, h5, hl5, qa, qb, wa]
        refine CallK_of (bind103 hC hS hm (by omega) hwc (by omega) (by omega) (hai (by omega)) hH b' hvb hsb') ?_
        rintro r H2 n2 ⟨⟨x, rfl⟩, hn2, hf, hts⟩
        simp only [↓sd0, su0, su1, resOf, pack, eqCells, ↓reduceIte, Nat.reduceEqDiff, Nat.reduceAdd, Nat.reduceLeDiff, Nat.reduceLT, reduceCtorEq]
        exact ⟨⟨_, rfl⟩, by omega, fun k hk hne => hf k (by omega) hne, hts⟩
    · have qa : decide (a'.h < 0) = false := by simp; omega
      by_cases cb : b'.h < 0
      · obtain ⟨j, hj, hjm, hjv⟩ := vt_var hvb cb
        have hjt : j < ts.length := by omega
        have qb : decide (b'.h < 0) = true := by simp [cb]
        have wb : IntKind.i64.wrap (IntKind.i64.wrap (0 - b'.h) - 1) = (j : Int) := by rw [wrap64 (n := 0 - b'.h) (by omega) (by omega), wrap64 (by omega) (by omega)]; omega
        have hbj : ∀ h : j < ts.length, ts[j].h = 0 := by
          have := hlb cb
          rw [show (-b'.h - 1).toNat = j by omega] at this; exact this
        simp only [↓sd0, su0, su1, resOf, pack, eqCells, ↓reduceIte, Nat.reduceEqDiff, Nat.reduceAdd, Nat.reduceLeDiff, Nat.reduceLT, reduceCtorEq, h0, h4, hl4, h5, hl5, qa, qb, wb]
        refine CallK_of (bind103 hC hS hm (by omega) hwc (by omega) (by omega) (hbj (by omega)) hH a' hva hsa') ?_
        rintro r H2 n2 ⟨⟨x, rfl⟩, hn2, hf, hts⟩
        simp only [↓sd0, su0, su1, resOf, pack, eqCells, ↓reduceIte, Nat.reduceEqDiff, Nat.reduceAdd, Nat.reduceLeDiff, Nat.reduceLT, reduceCtorEq]
        exact ⟨⟨_, rfl⟩, by omega, fun k hk hne => hf k (by omega) hne, hts⟩
      · have qb : decide (b'.h < 0) = false := by simp; omega
        cases c1 : (a'.h != b'.h)
        · cases c2 : ((a'.ks.length : Int) != (b'.ks.length : Int))
          · have : a'.ks.length = b'.ks.length := by simp at c2; omega
            simp only [↓sd0, su0, su1, resOf, pack, eqCells, ↓reduceIte, Nat.reduceEqDiff, Nat.reduceAdd, Nat.reduceLeDiff, Nat.reduceLT, reduceCtorEq, h0, h4, hl4, h5, hl5, qa, qb, c1, c2]
            exact ⟨by omega, ⟨_, rfl, rfl⟩, ⟨_, rfl, rfl⟩, ca, cb, this⟩
          · simp only [↓sd0, su0, su1, resOf, pack, eqCells, ↓reduceIte, Nat.reduceEqDiff, Nat.reduceAdd, Nat.reduceLeDiff, Nat.reduceLT, reduceCtorEq, h0, h4, hl4, h5, hl5, qa, qb, c1, c2]
            exact ⟨⟨_, rfl⟩, by omega, fun _ _ _ => rfl, ts, hH, Or.inl rfl⟩
        · simp only [↓sd0, su0, su1, resOf, pack, eqCells, ↓reduceIte, Nat.reduceEqDiff, Nat.reduceAdd, Nat.reduceLeDiff, Nat.reduceLT, reduceCtorEq, h0, h4, hl4, h5, hl5, qa, qb, c1]
          exact ⟨⟨_, rfl⟩, by omega, fun _ _ _ => rfl, ts, hH, Or.inl rfl⟩
  clear h0 h4 hl4 h5 hl5 hn
  clear m4 m5 e l n
  rintro e l H1 n ⟨rfl, hn, h0, ⟨m4, h4, hl4⟩, ⟨m5, h5, hl5⟩, ca, cb, hkl⟩
  have hea := T.esz_pos v ca
  have heb := T.esz_pos v cb
  have hsza := a'.size_eq
  have hszb := b'.size_eq
  have hla2 := T.length_le a'.ks
  have hvak := ((T.vt_iff m a').1 hva).2
  have hvbk := ((T.vt_iff m b').1 hvb).2
  simp only [↓sd0, su0, su1, resOf, pack, eqCells, ↓reduceIte, Nat.reduceEqDiff, Nat.reduceAdd, Nat.reduceLeDiff, Nat.reduceLT, reduceCtorEq, h0, h4, hl4, h5, hl5]
  refine W_count a'.ks.length (fun k e l H2 n => e 0 = .lref cid 0 m ∧ (∃ m, e 4 = .loc 4 m 0 ∧ l 4 = some (m, a'.av)) ∧ (∃ m, e 5 = .loc 5 m 0 ∧ l 5 = some (m, b'.av)) ∧ e 82 = .int .i64 k ∧ e 81 = .int .i64 a'.ks.length ∧ nx ≤ n ∧
    (∀ j, j < nx → j ≠ cid → H2 j = H1 j) ∧ ∃ ts' : List T, H2 cid = some (.arr 2 (ts'.map T.av)) ∧ (ts' = ts ∨ (CL m S ts' ∧ unb ts' < unb ts))) ?_ ?_ ?_
  · simp only [↓sd0, su0, su1, resOf, pack, eqCells, ↓reduceIte, Nat.reduceEqDiff, Nat.reduceAdd, Nat.reduceLeDiff, Nat.reduceLT, reduceCtorEq, h0, h4, hl4, h5, hl5]
    exact ⟨⟨_, rfl, rfl⟩, ⟨_, rfl, rfl⟩, by omega, fun _ _ _ => trivial, ts, hH, Or.inl rfl⟩
  · clear h0 h4 hl4 h5 hl5 hn
    clear m4 m5 e l n
    rintro k e l H2 n hk ⟨h0, ⟨m4, h4, hl4⟩, ⟨m5, h5, hl5⟩, h82, h81, hn, hf, ts1, hH1, hts1⟩
    have hk2 : k < b'.ks.length := by omega
    have z1 := T.size_kid hk
    have z2 := T.size_kid hk2
    have k1 := T.esz_kid v hk
    have k2 := T.esz_kid v hk2
    have ih : Call tab wl 97 [.lref cid 0 m, a'.ks[k].av, b'.ks[k].av] H2 (n + 16) fun r H' nx' => (∃ x, r = .bool x) ∧ JP m S cid ts1 H2 (n + 16) H' nx' := by
      rcases hts1 with rfl | ⟨hC1, hu1⟩
      · exact ihE (a'.ks[k].esz v + b'.ks[k].esz v) (by omega) a'.ks[k] b'.ks[k] (hvak _ (List.getElem_mem hk)) (hvbk _ (List.getElem_mem hk2)) (by omega) (by omega) rfl H2 _ (by omega) (by omega) hH1
      · obtain ⟨v1, hV1⟩ := hC1.vp
        exact ihu (unb ts1) (by omega) ts1 hC1 rfl v1 hV1 _ a'.ks[k] b'.ks[k] (hvak _ (List.getElem_mem hk)) (hvbk _ (List.getElem_mem hk2)) (by omega) (by omega) rfl H2 _ (by omega) (by omega) hH1
    simp only [↓sd0, su0, su1, resOf, pack, eqCells, ↓reduceIte, Nat.reduceEqDiff, Nat.reduceAdd, Nat.reduceLeDiff, Nat.reduceLT, reduceCtorEq, dr0, Nat.reducePow, Nat.reduceDiv, Nat.reduceMod, Nat.reduceBEq, h0, h4, hl4, h5, hl5, h82, h81, iaddr_map hk, iaddr_map hk2, lt_cast hk]
    refine CallK_of ih ?_
    rintro r H3 n3 ⟨⟨x, rfl⟩, hn3, hf3, ts3, hH3, hts3⟩
    have hJ : (∀ j, j < nx → j ≠ cid → H3 j = H1 j) ∧ ∃ ts' : List T, H3 cid = some (.arr 2 (ts'.map T.av)) ∧ (ts' = ts ∨ (CL m S ts' ∧ unb ts' < unb ts)) := by
      refine ⟨fun j hj hne => by rw [hf3 j (by omega) hne, hf j hj hne], ts3, hH3, ?_⟩
      rcases hts3 with rfl | ⟨h1, h2⟩
      · exact hts1
      · rcases hts1 with rfl | ⟨h3, h4⟩
        · exact Or.inr ⟨h1, h2⟩
        · exact Or.inr ⟨h1, by omega⟩
    cases x
    · simp only [↓sd0, su0, su1, resOf, pack, eqCells, ↓reduceIte, Nat.reduceEqDiff, Nat.reduceAdd, Nat.reduceLeDiff, Nat.reduceLT, reduceCtorEq, dr0, Nat.reducePow, Nat.reduceDiv, Nat.reduceMod, Nat.reduceBEq, h0, h4, hl4, h5, hl5, h82, h81]
      exact ⟨⟨_, rfl⟩, by omega, hJ⟩
    · simp only [↓sd0, su0, su1, resOf, pack, eqCells, ↓reduceIte, Nat.reduceEqDiff, Nat.reduceAdd, Nat.reduceLeDiff, Nat.reduceLT, reduceCtorEq, dr0, Nat.reducePow, Nat.reduceDiv, Nat.reduceMod, Nat.reduceBEq, h0, h4, hl4, h5, hl5, h82, h81, wrap_succ hk (by omega : a'.ks.length < 4611686018427387904)]
      exact ⟨⟨_, rfl, rfl⟩, ⟨_, rfl, rfl⟩, by omega, hJ⟩
  · clear h0 h4 hl4 h5 hl5 hn
    clear m4 m5 e l n
    rintro e l H2 n ⟨h0, ⟨m4, h4, hl4⟩, ⟨m5, h5, hl5⟩, h82, h81, hn, hf, ts1, hH1, hts1⟩
    simp only [↓sd0, su0, su1, resOf, pack, eqCells, ↓reduceIte, Nat.reduceEqDiff, Nat.reduceAdd, Nat.reduceLeDiff, Nat.reduceLT, reduceCtorEq, dr0, Nat.reducePow, Nat.reduceDiv, Nat.reduceMod, Nat.reduceBEq, h0, h4, hl4, h5, hl5, h82, h81]
    exact ⟨⟨_, rfl⟩, by omega, hf, ts1, hH1, hts1⟩

end Go.Proofs.Ytmbdccekcfeomaa.Am
end
