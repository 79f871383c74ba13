/- Greatest variables, weights, the order. -/
import Derived.Test.YtmbdccekcfeomaaT29
section
open Go
namespace Go.Proofs.Ytmbdccekcfeomaa.Am
set_option linter.unusedSimpArgs false
set_option linter.unusedVariables false
set_option maxRecDepth 20000

mutual
def T.most : T → Nat
  | .mk h _ ks => max (-h).toNat (T.mosts ks)
def T.mosts : List T → Nat
  | [] => 0
  | k :: ks => max k.most (T.mosts ks)
end
theorem T.most_eq (t : T) : t.most = max (-t.h).toNat (T.mosts t.ks) := by cases t; rw [T.most]; rfl
theorem T.mosts_drop {ks : List T} {k : Nat} (h : k < ks.length) : T.mosts (ks.drop k) = max ks[k].most (T.mosts (ks.drop (k + 1))) := by
  rw [List.drop_eq_getElem_cons h]; rfl

theorem most_spec (t : T) : t.size < 1099511627776 → t.small → Gives tab 55 [t.av] (.int .i64 t.most) := by
  induction t using T.ind' with
  | h t ih =>
    intro ht hsm
    have hs := t.size_eq
    have hl := T.length_le t.ks
    have hh := T.small_h hsm
    refine gives tab_55 fun H nx => ?_
    unfold body55
    dsimp only [qm, qf, ql, qL, qs, qc, qk, qi, qn, qb, qB, qe, qx, qo, qg]
    simp only [start1]
    have hw : IntKind.i64.wrap (0 - t.h) = -t.h := by rw [wrap64 (by omega) (by omega)]; omega
    have hm : maxI 0 (-t.h) = (((-t.h).toNat : Nat) : Int) := by unfold maxI; split <;> omega
    simp only [↓sd0, su0, su1, resOf, pack, eqCells, ↓reduceIte, Nat.reduceEqDiff, Nat.reduceAdd, Nat.reduceLeDiff, Nat.reduceLT, reduceCtorEq, hw, hm]
    refine W_count t.ks.length (fun k e l H n => e 11 = sl 2 t.nil (t.ks.map T.av) ∧ e 13 = .int .i64 k ∧ e 12 = .int .i64 t.ks.length ∧ ∃ a : Nat, e 3 = .int .i64 a ∧ max a (T.mosts (t.ks.drop k)) = t.most) ?_ ?_ ?_
    · simp only [↓sd0, su0, su1, resOf, pack, eqCells, ↓reduceIte, Nat.reduceEqDiff, Nat.reduceAdd, Nat.reduceLeDiff, Nat.reduceLT, reduceCtorEq]; exact ⟨_, rfl, (T.most_eq t).symm⟩
    · rintro k e l H n hk ⟨h7, h9, h8, a, h3, ha⟩
      have hz := T.size_kid hk
      have ih' := (ih t.ks[k] (List.getElem_mem hk) (by omega) (T.smalls_get (T.small_ks hsm) hk))
      rw [T.mosts_drop hk] at ha
      simp only [↓sd0, su0, su1, resOf, pack, eqCells, ↓reduceIte, Nat.reduceEqDiff, Nat.reduceAdd, Nat.reduceLeDiff, Nat.reduceLT, reduceCtorEq, h7, h3, h8, h9, iaddr_map hk, lt_cast hk, ih'.callK, wrap_succ hk (by omega : t.ks.length < 4611686018427387904), maxI_cast]
      exact ⟨_, rfl, by omega⟩
    · rintro e l H n ⟨h7, h9, h8, a, h3, ha⟩
      rw [List.drop_length, T.mosts] at ha
      have : a = t.most := by omega
      simp only [↓sd0, su0, su1, resOf, pack, eqCells, ↓reduceIte, Nat.reduceEqDiff, Nat.reduceAdd, Nat.reduceLeDiff, Nat.reduceLT, reduceCtorEq, h7, h3, h8, h9, this]

def mostsF : List Fa → Nat
  | [] => 0
  | f :: fs => max (max f.l.most f.r.most) (mostsF fs)
def Cl.most (c : Cl) : Nat := mostsF c.fs
theorem mostsF_drop {fs : List Fa} {k : Nat} (h : k < fs.length) : mostsF (fs.drop k) = max (max fs[k].l.most fs[k].r.most) (mostsF (fs.drop (k + 1))) := by
  rw [List.drop_eq_getElem_cons h]; rfl
theorem cmost_spec (c : Cl) (hl : c.fs.length < 4294967296) (hc : ∀ f ∈ c.fs, (f.l.size < 1099511627776 ∧ f.l.small) ∧ (f.r.size < 1099511627776 ∧ f.r.small)) : Gives tab 32 [c.av] (.int .i64 c.most) := by
  refine gives tab_32 fun H nx => ?_
  unfold body32 Cl.most
  dsimp only [qm, qf, ql, qL, qs, qc, qk, qi, qn, qb, qB, qe, qx, qo, qg]
  simp only [start1]
  simp only [↓sd0, su0, su1, resOf, pack, eqCells, ↓reduceIte, Nat.reduceEqDiff, Nat.reduceAdd, Nat.reduceLeDiff, Nat.reduceLT, reduceCtorEq]
  refine W_count c.fs.length (fun k e l H' n => e 7 = sl 5 c.nil (c.fs.map Fa.av) ∧ e 9 = .int .i64 k ∧ e 8 = .int .i64 c.fs.length ∧ ∃ a : Nat, e 3 = .int .i64 a ∧ max a (mostsF (c.fs.drop k)) = mostsF c.fs) ?_ ?_ ?_
  · simp only [↓sd0, su0, su1, resOf, pack, eqCells, ↓reduceIte, Nat.reduceEqDiff, Nat.reduceAdd, Nat.reduceLeDiff, Nat.reduceLT, reduceCtorEq]; exact ⟨0, rfl, by omega⟩
  · rintro k e l H n hk ⟨h7, h9, h8, a, h3, ha⟩
    have hx := hc c.fs[k] (List.getElem_mem hk)
    have h1 := most_spec c.fs[k].l hx.1.1 hx.1.2
    have h2 := most_spec c.fs[k].r hx.2.1 hx.2.2
    rw [mostsF_drop hk] at ha
    simp only [↓sd0, su0, su1, resOf, pack, eqCells, ↓reduceIte, Nat.reduceEqDiff, Nat.reduceAdd, Nat.reduceLeDiff, Nat.reduceLT, reduceCtorEq, dr0, Nat.reducePow, Nat.reduceDiv, Nat.reduceMod, Nat.reduceBEq, h7, h3, h8, h9, iaddr_map hk, lt_cast hk, h1.callK, h2.callK, wrap_succ hk (by omega : c.fs.length < 4611686018427387904), maxI_cast]
    exact ⟨_, rfl, by omega⟩
  · rintro e l H n ⟨h7, h9, h8, a, h3, ha⟩
    rw [List.drop_length, mostsF] at ha
    have : a = mostsF c.fs := by omega
    simp only [↓sd0, su0, su1, resOf, pack, eqCells, ↓reduceIte, Nat.reduceEqDiff, Nat.reduceAdd, Nat.reduceLeDiff, Nat.reduceLT, reduceCtorEq, h7, h3, h8, h9, this]

def weightF : List Fa → Nat
  | [] => 0
  | f :: fs => f.l.size + f.r.size + weightF fs
theorem weightF_drop {fs : List Fa} {k : Nat} (h : k < fs.length) : weightF (fs.drop k) = fs[k].l.size + fs[k].r.size + weightF (fs.drop (k + 1)) := by
  rw [List.drop_eq_getElem_cons h]; rfl
theorem weight_good {c : Cl} (h : c.good) : weightF c.fs ≤ 480 := by
  have key : ∀ fs : List Fa, (∀ f ∈ fs, f.l.good ∧ f.r.good) → weightF fs ≤ 80 * fs.length := by
    intro fs
    induction fs with
    | nil => intro _; simp [weightF]
    | cons f fs ih =>
      intro hf
      have a := hf f (List.mem_cons_self ..)
      have b := ih fun x hx => hf x (List.mem_cons_of_mem _ hx)
      have := a.1.1
      have := a.2.1
      simp only [weightF, List.length_cons]; omega
  have := key c.fs h.2
  have := h.1
  omega
theorem weight_spec (c : Cl) (hc : c.good) : Gives tab 21 [c.av] (.int .i64 (weightF c.fs)) := by
  have hw := weight_good hc
  have hl := hc.1
  refine gives tab_21 fun H nx => ?_
  unfold body21
  dsimp only [qm, qf, ql, qL, qs, qc, qk, qi, qn, qb, qB, qe, qx, qo, qg]
  simp only [start1]
  simp only [↓sd0, su0, su1, resOf, pack, eqCells, ↓reduceIte, Nat.reduceEqDiff, Nat.reduceAdd, Nat.reduceLeDiff, Nat.reduceLT, reduceCtorEq]
  refine W_count c.fs.length (fun k e l H' n => e 7 = sl 5 c.nil (c.fs.map Fa.av) ∧ e 9 = .int .i64 k ∧ e 8 = .int .i64 c.fs.length ∧ ∃ a : Nat, e 3 = .int .i64 a ∧ a + weightF (c.fs.drop k) = weightF c.fs) ?_ ?_ ?_
  · simp only [↓sd0, su0, su1, resOf, pack, eqCells, ↓reduceIte, Nat.reduceEqDiff, Nat.reduceAdd, Nat.reduceLeDiff, Nat.reduceLT, reduceCtorEq]; exact ⟨0, rfl, by omega⟩
  · rintro k e l H n hk ⟨h7, h9, h8, a, h3, ha⟩
    have hx := hc.2 c.fs[k] (List.getElem_mem hk)
    have h1 := size_spec c.fs[k].l (by have := hx.1.1; omega)
    have h2 := size_spec c.fs[k].r (by have := hx.2.1; omega)
    have := hx.1.1
    have := hx.2.1
    rw [weightF_drop hk] at ha
    have w1 : IntKind.i64.wrap ((c.fs[k].l.size : Int) + (c.fs[k].r.size : Int)) = ((c.fs[k].l.size + c.fs[k].r.size : Nat) : Int) := by rw [wrap64 (by omega) (by omega)]; simp
    have w2 : IntKind.i64.wrap ((a : Int) + ((c.fs[k].l.size + c.fs[k].r.size : Nat) : Int)) = ((a + (c.fs[k].l.size + c.fs[k].r.size) : Nat) : Int) := by rw [wrap64 (by omega) (by omega)]; simp
    simp only [↓sd0, su0, su1, resOf, pack, eqCells, ↓reduceIte, Nat.reduceEqDiff, Nat.reduceAdd, Nat.reduceLeDiff, Nat.reduceLT, reduceCtorEq, dr0, Nat.reducePow, Nat.reduceDiv, Nat.reduceMod, Nat.reduceBEq, h7, h3, h8, h9, iaddr_map hk, lt_cast hk, h1.callK, h2.callK, wrap_succ hk (by omega : c.fs.length < 4611686018427387904), w1, w2]
    exact ⟨_, rfl, by omega⟩
  · rintro e l H n ⟨h7, h9, h8, a, h3, ha⟩
    rw [List.drop_length, weightF] at ha
    have : a = weightF c.fs := by omega
    simp only [↓sd0, su0, su1, resOf, pack, eqCells, ↓reduceIte, Nat.reduceEqDiff, Nat.reduceAdd, Nat.reduceLeDiff, Nat.reduceLT, reduceCtorEq, h7, h3, h8, h9, this]

/-! ### trees that are searched -/
theorem index101 {f : Nat} {cap : List AV} {b : Bool} {ks : List T} {p : T → Bool} (hl : ks.length < 4611686018427387904) (hcap : AV.nols cap = true)
    (hf : ∀ x ∈ ks, Gives tab f (x.av :: cap) (.bool (p x))) : Gives tab 101 [sl 2 b (ks.map T.av), .clo f cap] (.int .i64 (idx p ks)) := by
  refine gives tab_101 fun H nx => ?_
  unfold idx
  unfold body101
  dsimp only [qm, qf, ql, qL, qs, qc, qk, qi, qn, qb, qB, qe, qx, qo, qg]
  simp only [start2]
  simp only [↓sd0, su0, su1, resOf, pack, eqCells, ↓reduceIte, Nat.reduceEqDiff, Nat.reduceAdd, Nat.reduceLeDiff, Nat.reduceLT, reduceCtorEq]
  refine W_count ks.length (fun k e l H' n => e 0 = sl 2 b (ks.map T.av) ∧ e 1 = .clo f cap ∧ e 8 = .int .i64 k ∧ e 7 = .int .i64 ks.length ∧ (∀ j (h : j < ks.length), j < k → p ks[j] = false)) ?_ ?_ ?_
  · simp only [↓sd0, su0, su1, resOf, pack, eqCells, ↓reduceIte, Nat.reduceEqDiff, Nat.reduceAdd, Nat.reduceLeDiff, Nat.reduceLT, reduceCtorEq]; intro j _ hj; omega
  · rintro k e l H' n hk ⟨h0, h1, h8, h7, hno⟩
    have hc := hf ks[k] (List.getElem_mem hk)
    cases cz : p ks[k]
    · simp only [↓sd0, su0, su1, resOf, pack, eqCells, ↓reduceIte, Nat.reduceEqDiff, Nat.reduceAdd, Nat.reduceLeDiff, Nat.reduceLT, reduceCtorEq, h0, h1, h8, h7, lt_cast hk, iaddr_map hk, hcap, hc.callK, cz, wrap_succ hk hl]
      intro j hj hjk
      rcases Nat.lt_or_ge j k with h | h
      · exact hno j hj h
      · have : j = k := by omega
        subst this; exact cz
    · have hfi : ks.findIdx? p = some k := by
        rw [List.findIdx?_eq_some_iff_getElem]; exact ⟨hk, cz, fun j hj => by simp [hno j (by omega) hj]⟩
      simp only [↓sd0, su0, su1, resOf, pack, eqCells, ↓reduceIte, Nat.reduceEqDiff, Nat.reduceAdd, Nat.reduceLeDiff, Nat.reduceLT, reduceCtorEq, h0, h1, h8, h7, lt_cast hk, iaddr_map hk, hcap, hc.callK, cz, hfi]
  · rintro e l H' n ⟨h0, h1, h8, h7, hno⟩
    have hfi : ks.findIdx? p = none := by
      rw [List.findIdx?_eq_none_iff]; intro x hx
      obtain ⟨j, hj, rfl⟩ := List.getElem_of_mem hx
      exact hno j hj hj
    simp only [↓sd0, su0, su1, resOf, pack, eqCells, ↓reduceIte, Nat.reduceEqDiff, Nat.reduceAdd, Nat.reduceLeDiff, Nat.reduceLT, reduceCtorEq, h0, h1, h8, h7, hfi]
theorem contains94 {f : Nat} {cap : List AV} {b : Bool} {ks : List T} {p : T → Bool} (hl : ks.length < 4611686018427387904) (hcap : AV.nols cap = true)
    (hf : ∀ x ∈ ks, Gives tab f (x.av :: cap) (.bool (p x))) : Gives tab 94 [sl 2 b (ks.map T.av), .clo f cap] (.bool (ks.any p)) := by
  refine gives tab_94 fun H nx => ?_
  unfold body94
  dsimp only [qm, qf, ql, qL, qs, qc, qk, qi, qn, qb, qB, qe, qx, qo, qg]
  simp only [start2]
  simp only [↓sd0, su0, su1, resOf, pack, eqCells, ↓reduceIte, Nat.reduceEqDiff, Nat.reduceAdd, Nat.reduceLeDiff, Nat.reduceLT, reduceCtorEq, hcap, (index101 hl hcap hf).callK, idx_any]

mutual
def T.holds (h : Int) : T → Bool
  | .mk g _ ks => g == h || T.holdss h ks
def T.holdss (h : Int) : List T → Bool
  | [] => false
  | k :: ks => T.holds h k || T.holdss h ks
end
theorem T.holdss_eq (h : Int) : ∀ ks : List T, T.holdss h ks = ks.any (T.holds h)
  | [] => rfl
  | k :: ks => by simp [T.holdss, T.holdss_eq h ks]
theorem T.holds_eq (h : Int) (t : T) : t.holds h = (t.h == h || t.ks.any (T.holds h)) := by cases t; rw [T.holds, T.holdss_eq]; rfl
theorem holds_spec (h : Int) (t : T) : t.size < 1099511627776 → Gives tab 93 [t.av, .int .i64 h] (.bool (t.holds h)) := by
  induction t using T.ind' with
  | h t ih =>
    intro ht
    have hs := t.size_eq
    have hl := T.length_le t.ks
    refine gives tab_93 fun H nx => ?_
    unfold body93
    dsimp only [qm, qf, ql, qL, qs, qc, qk, qi, qn, qb, qB, qe, qx, qo, qg]
    simp only [start2]
    have h100 : ∀ x ∈ t.ks, Gives tab 100 (x.av :: [.fptr (.int .i64 h) 0]) (.bool (x.holds h)) := by
      intro x hx
      refine gives tab_100 fun H nx => ?_
      unfold body100
      dsimp only [qm, qf, ql, qL, qs, qc, qk, qi, qn, qb, qB, qe, qx, qo, qg]
      simp only [start2]
      have := ih x hx (by obtain ⟨i, hi, rfl⟩ := List.getElem_of_mem hx; have := T.size_kid hi; omega)
      simp only [↓sd0, su0, su1, resOf, pack, eqCells, ↓reduceIte, Nat.reduceEqDiff, Nat.reduceAdd, Nat.reduceLeDiff, Nat.reduceLT, reduceCtorEq, this.callK]
    have hc := contains94 (b := t.nil) (by omega) rfl h100
    rw [T.holds_eq]
    cases c : (t.h == h) <;> simp only [↓sd0, su0, su1, resOf, pack, eqCells, ↓reduceIte, Nat.reduceEqDiff, Nat.reduceAdd, Nat.reduceLeDiff, Nat.reduceLT, reduceCtorEq, c, hc.callK]

/-! ### the order -/
def overL (ov : T → T → Bool) : List T → List T → Bool
  | x :: xs, y :: ys => if x.same y = true then overL ov xs ys else ov x y
  | _, _ => false
def overF (ov : T → T → Bool) (a b : T) : Bool :=
  if a.h < 0 then false else if b.h < 0 then a.holds b.h
  else if (a.ks.any fun k => k.same b || ov k b) = true then true
  else if (b.ks.any fun k => !ov a k) = true then false
  else if a.h = b.h then (if a.ks.length = b.ks.length then overL ov a.ks b.ks else decide (a.ks.length > b.ks.length)) else decide (a.h > b.h)
theorem overL_drop {ov : T → T → Bool} {as bs : List T} {k : Nat} (h : k < as.length) (h2 : k < bs.length) : overL ov (as.drop k) (bs.drop k) = if as[k].same bs[k] = true then overL ov (as.drop (k + 1)) (bs.drop (k + 1)) else ov as[k] bs[k] := by
  rw [List.drop_eq_getElem_cons h, List.drop_eq_getElem_cons h2]; rfl

theorem over_step (a b : T) (ov : T → T → Bool) (ha : a.size < 1099511627776) (hb : b.size < 1099511627776) (ih : ∀ x y, x.size + y.size < a.size + b.size → x.size < 1099511627776 → y.size < 1099511627776 → Gives tab 73 [x.av, y.av] (.bool (ov x y))) :
    Gives tab 73 [a.av, b.av] (.bool (overF ov a b)) := by
  have hs := a.size_eq
  have hl := T.length_le a.ks
  have hs2 := b.size_eq
  have hl2 := T.length_le b.ks
  have kid : ∀ {t x : T}, x ∈ t.ks → x.size < t.size := by
    intro t x hx; obtain ⟨i, hi, rfl⟩ := List.getElem_of_mem hx; have := T.size_kid hi; have := t.size_eq; omega
  have h95 : ∀ x ∈ a.ks, Gives tab 95 (x.av :: [.fptr b.av 0]) (.bool (x.same b || ov x b)) := by
    intro x hx
    have hk := kid hx
    refine gives tab_95 fun H nx => ?_
    unfold body95
    dsimp only [qm, qf, ql, qL, qs, qc, qk, qi, qn, qb, qB, qe, qx, qo, qg]
    simp only [start2]
    cases c : x.same b <;> simp only [↓sd0, su0, su1, resOf, pack, eqCells, ↓reduceIte, Nat.reduceEqDiff, Nat.reduceAdd, Nat.reduceLeDiff, Nat.reduceLT, reduceCtorEq, (same_spec x b (by omega)).callK, c, (ih x b (by omega) (by omega) hb).callK]
  have h96 : ∀ x ∈ b.ks, Gives tab 96 (x.av :: [.fptr a.av 0]) (.bool (!ov a x)) := by
    intro x hx
    have hk := kid hx
    refine gives tab_96 fun H nx => ?_
    unfold body96
    dsimp only [qm, qf, ql, qL, qs, qc, qk, qi, qn, qb, qB, qe, qx, qo, qg]
    simp only [start2]
    simp only [↓sd0, su0, su1, resOf, pack, eqCells, ↓reduceIte, Nat.reduceEqDiff, Nat.reduceAdd, Nat.reduceLeDiff, Nat.reduceLT, reduceCtorEq, (ih a x (by omega) ha (by omega)).callK]
  have c95 := contains94 (b := a.nil) (by omega) rfl h95
  have c96 := contains94 (b := b.nil) (by omega) rfl h96
  refine gives tab_73 fun H nx => ?_
  unfold body73 overF
  dsimp only [qm, qf, ql, qL, qs, qc, qk, qi, qn, qb, qB, qe, qx, qo, qg]
  simp only [start2]
  by_cases k1 : a.h < 0
  · simp only [↓sd0, su0, su1, resOf, pack, eqCells, ↓reduceIte, Nat.reduceEqDiff, Nat.reduceAdd, Nat.reduceLeDiff, Nat.reduceLT, reduceCtorEq, k1]
  · by_cases k2 : b.h < 0
    · simp only [↓sd0, su0, su1, resOf, pack, eqCells, ↓reduceIte, Nat.reduceEqDiff, Nat.reduceAdd, Nat.reduceLeDiff, Nat.reduceLT, reduceCtorEq, k1, k2, (holds_spec b.h a ha).callK]
    · cases k3 : (a.ks.any fun k => k.same b || ov k b)
      · rw [k3] at c95
        cases k4 : (b.ks.any fun k => !ov a k)
        · rw [k4] at c96
          by_cases k5 : a.h = b.h
          · have q5 : (a.h != b.h) = false := by simp [k5]
            by_cases k6 : a.ks.length = b.ks.length
            · have q6 : ((a.ks.length : Int) != (b.ks.length : Int)) = false := by simp [k6]
              simp only [↓sd0, su0, su1, resOf, pack, eqCells, ↓reduceIte, Nat.reduceEqDiff, Nat.reduceAdd, Nat.reduceLeDiff, Nat.reduceLT, reduceCtorEq, k1, k2, c95.callK, c96.callK, q5, q6]
              rw [if_neg k1, if_neg k2, if_neg (by simp), if_neg (by simp), if_pos k5, if_pos k6]
              refine W_count a.ks.length (fun k e l H' n => e 2 = .fptr a.av 0 ∧ e 3 = .fptr b.av 0 ∧ e 57 = .int .i64 k ∧ e 56 = .int .i64 a.ks.length ∧ overL ov a.ks b.ks = overL ov (a.ks.drop k) (b.ks.drop k)) ?_ ?_ ?_
              · simp only [↓sd0, su0, su1, resOf, pack, eqCells, ↓reduceIte, Nat.reduceEqDiff, Nat.reduceAdd, Nat.reduceLeDiff, Nat.reduceLT, reduceCtorEq]
              · rintro k e l H' n hk ⟨h2, h3, h57, h56, hq⟩
                have hk2 : k < b.ks.length := by omega
                rw [overL_drop hk hk2] at hq
                have z1 := kid (List.getElem_mem hk)
                have z2 := kid (List.getElem_mem hk2)
                rw [hq]
                cases cs : a.ks[k].same b.ks[k]
                · simp only [↓sd0, su0, su1, resOf, pack, eqCells, ↓reduceIte, Nat.reduceEqDiff, Nat.reduceAdd, Nat.reduceLeDiff, Nat.reduceLT, reduceCtorEq, dr0, Nat.reducePow, Nat.reduceDiv, Nat.reduceMod, Nat.reduceBEq, h2, h3, h57, h56, iaddr_map hk, iaddr_map hk2, lt_cast hk, (same_spec a.ks[k] b.ks[k] (by omega)).callK, cs, (ih a.ks[k] b.ks[k] (by omega) (by omega) (by omega)).callK, wrap_succ hk (by omega : a.ks.length < 4611686018427387904)]
                · simp only [↓sd0, su0, su1, resOf, pack, eqCells, ↓reduceIte, Nat.reduceEqDiff, Nat.reduceAdd, Nat.reduceLeDiff, Nat.reduceLT, reduceCtorEq, dr0, Nat.reducePow, Nat.reduceDiv, Nat.reduceMod, Nat.reduceBEq, h2, h3, h57, h56, iaddr_map hk, iaddr_map hk2, lt_cast hk, (same_spec a.ks[k] b.ks[k] (by omega)).callK, cs, wrap_succ hk (by omega : a.ks.length < 4611686018427387904)]
              · rintro e l H' n ⟨h2, h3, h57, h56, hq⟩
                rw [List.drop_length] at hq
                simp only [overL] at hq
                simp only [↓sd0, su0, su1, resOf, pack, eqCells, ↓reduceIte, Nat.reduceEqDiff, Nat.reduceAdd, Nat.reduceLeDiff, Nat.reduceLT, reduceCtorEq, h2, h3, h57, h56, hq]
            · have q6 : ((a.ks.length : Int) != (b.ks.length : Int)) = true := by simp; omega
              simp only [↓sd0, su0, su1, resOf, pack, eqCells, ↓reduceIte, Nat.reduceEqDiff, Nat.reduceAdd, Nat.reduceLeDiff, Nat.reduceLT, reduceCtorEq, k1, k2, c95.callK, c96.callK, q5, q6]
              simp [k1, k2, k3, k4, k5, k6]
          · have q5 : (a.h != b.h) = true := by simp [k5]
            simp only [↓sd0, su0, su1, resOf, pack, eqCells, ↓reduceIte, Nat.reduceEqDiff, Nat.reduceAdd, Nat.reduceLeDiff, Nat.reduceLT, reduceCtorEq, k1, k2, c95.callK, c96.callK, q5]
            simp [k1, k2, k3, k4, k5]
        · rw [k4] at c96
          simp only [↓sd0, su0, su1, resOf, pack, eqCells, ↓reduceIte, Nat.reduceEqDiff, Nat.reduceAdd, Nat.reduceLeDiff, Nat.reduceLT, reduceCtorEq, k1, k2, c95.callK, c96.callK]
      · rw [k3] at c95
        simp only [↓sd0, su0, su1, resOf, pack, eqCells, ↓reduceIte, Nat.reduceEqDiff, Nat.reduceAdd, Nat.reduceLeDiff, Nat.reduceLT, reduceCtorEq, k1, k2, c95.callK]


theorem over_ex (n : Nat) : ∃ ov : T → T → Bool, ∀ a b : T, a.size + b.size < n → a.size < 1099511627776 → b.size < 1099511627776 → Gives tab 73 [a.av, b.av] (.bool (ov a b)) := by
  induction n with
  | zero => exact ⟨fun _ _ => false, fun a b h => absurd h (by omega)⟩
  | succ n ih =>
    obtain ⟨ov, hov⟩ := ih
    exact ⟨overF ov, fun a b h ha hb => over_step a b ov ha hb fun x y hxy hx hy => hov x y (by omega) hx hy⟩
theorem over_spec (a b : T) (ha : a.size < 1099511627776) (hb : b.size < 1099511627776) : ∃ r, Gives tab 73 [a.av, b.av] (.bool r) := by
  obtain ⟨ov, h⟩ := over_ex (a.size + b.size + 1)
  exact ⟨_, h a b (by omega) ha hb⟩

end Go.Proofs.Ytmbdccekcfeomaa.Am
end
/- What holds in a table: each step of a derivation keeps it. -/
section
open Go
namespace Go.Proofs.Ytmbdccekcfeomaa.Am
set_option linter.unusedSimpArgs false
set_option linter.unusedVariables false
set_option maxRecDepth 20000

section
variable (s : Int) (tl : List (List Int)) (ρ : Nat → Int)
mutual
/-- The value of a tree in a table; -1: a cell is not set. -/
def T.val : T → Int
  | .mk h _ ks => if h < 0 then ρ (-h - 1).toNat else if T.vats ks 0 < 0 then -1 else (tl.getD (h - 1).toNat []).getD (T.vats ks 0).toNat 0
def T.vats : List T → Int → Int
  | [], a => a
  | k :: ks, a => if T.val k < 0 then -1 else T.vats ks (a * s + T.val k)
end
def vatI : List Int → Int → Int
  | [], a => a
  | x :: xs, a => if x < 0 then -1 else vatI xs (a * s + x)
end

variable {s : Int} {tl : List (List Int)} {ρ : Nat → Int}
theorem T.vats_eq (ks : List T) : ∀ a, T.vats s tl ρ ks a = vatI s (ks.map (T.val s tl ρ)) a := by
  induction ks with
  | nil => intro a; rfl
  | cons k ks ih => intro a; rw [T.vats, List.map_cons, vatI, ih]
theorem T.val_eq (t : T) : t.val s tl ρ = if t.h < 0 then ρ (-t.h - 1).toNat else if vatI s (t.ks.map (T.val s tl ρ)) 0 < 0 then -1 else (tl.getD (t.h - 1).toNat []).getD (vatI s (t.ks.map (T.val s tl ρ)) 0).toNat 0 := by
  cases t; rw [T.val, T.vats_eq]; rfl

theorem T.val_mk (h : Int) (b : Bool) (ks : List T) : (T.mk h b ks).val s tl ρ = if h < 0 then ρ (-h - 1).toNat else if vatI s (ks.map (T.val s tl ρ)) 0 < 0 then -1 else (tl.getD (h - 1).toNat []).getD (vatI s (ks.map (T.val s tl ρ)) 0).toNat 0 := T.val_eq _

/-- All cells are set. -/
def Full (s : Int) (tl : List (List Int)) : Prop := 1 ≤ s ∧ ∀ row ∈ tl, ∀ x ∈ row, 0 ≤ x ∧ x < s
def Rng (s : Int) (ρ : Nat → Int) : Prop := ∀ i, 0 ≤ ρ i ∧ ρ i < s
theorem vatI_pos {xs : List Int} (hs : 0 ≤ s) (h : ∀ x ∈ xs, 0 ≤ x) : ∀ a, 0 ≤ a → 0 ≤ vatI s xs a := by
  induction xs with
  | nil => intro a ha; exact ha
  | cons x xs ih =>
    intro a ha
    have hx := h x (List.mem_cons_self ..)
    rw [vatI, if_neg (by omega)]
    exact ih (fun y hy => h y (List.mem_cons_of_mem _ hy)) _ (by have := Int.mul_nonneg ha hs; omega)
theorem getD_in {l : List Int} (hs : 1 ≤ s) (h : ∀ x ∈ l, 0 ≤ x ∧ x < s) (i : Nat) : 0 ≤ l.getD i 0 ∧ l.getD i 0 < s := by
  rw [List.getD_eq_getElem?_getD]
  rcases Nat.lt_or_ge i l.length with hi | hi
  · rw [List.getElem?_eq_getElem hi]; exact h _ (List.getElem_mem hi)
  · rw [List.getElem?_eq_none hi]; simp; omega
theorem row_in (hf : Full s tl) (i : Nat) : ∀ x ∈ tl.getD i [], 0 ≤ x ∧ x < s := by
  rw [List.getD_eq_getElem?_getD]
  rcases Nat.lt_or_ge i tl.length with hi | hi
  · rw [List.getElem?_eq_getElem hi]; exact hf.2 _ (List.getElem_mem hi)
  · rw [List.getElem?_eq_none hi]; simp
theorem val_in (hf : Full s tl) (hr : Rng s ρ) (t : T) : 0 ≤ t.val s tl ρ ∧ t.val s tl ρ < s := by
  induction t using T.ind' with
  | h t ih =>
    rw [T.val_eq]
    split
    · exact hr _
    · have := hf.1
      have hp : 0 ≤ vatI s (t.ks.map (T.val s tl ρ)) 0 := vatI_pos (by omega) (fun x hx => by
        obtain ⟨k, hk, rfl⟩ := List.mem_map.1 hx; exact (ih k hk).1) 0 (by omega)
      rw [if_neg (by omega)]
      exact getD_in hf.1 (row_in hf _) _

theorem val_same (a : T) : ∀ b, a.same b = true → a.val s tl ρ = b.val s tl ρ := by
  induction a using T.ind' with
  | h a ih =>
    intro b h
    rw [T.same_eq, Bool.and_eq_true] at h
    have hh : a.h = b.h := by simpa using h.1
    have hk : a.ks.map (T.val s tl ρ) = b.ks.map (T.val s tl ρ) := by
      generalize a.ks = as at ih h
      generalize b.ks = bs at h
      have h2 := h.2
      clear h
      induction as generalizing bs with
      | nil => cases bs with
        | nil => rfl
        | cons b bs => simp [T.sames] at h2
      | cons a as iha => cases bs with
        | nil => simp [T.sames] at h2
        | cons b bs =>
          simp only [T.sames, Bool.and_eq_true] at h2
          simp only [List.map_cons]
          rw [ih a (List.mem_cons_self ..) b h2.1, iha (fun k hk => ih k (List.mem_cons_of_mem _ hk)) bs h2.2]
    rw [T.val_eq, T.val_eq, hh, hk]
theorem val_copy (t : T) : t.copy.val s tl ρ = t.val s tl ρ := by
  induction t using T.ind' with
  | h t ih =>
    rw [T.copy_eq, T.val_mk, T.val_eq t]
    have : (t.ks.map T.copy).map (T.val s tl ρ) = t.ks.map (T.val s tl ρ) := by
      rw [List.map_map]
      exact List.map_congr_left fun k hk => ih k hk
    rw [this]
/-- Variables as what stands for them. -/
def bindR (s : Int) (tl : List (List Int)) (bs : List T) (ρ : Nat → Int) (i : Nat) : Int := match bs[i]? with
  | some b => if b.h = 0 then ρ i else b.val s tl ρ
  | none => ρ i
theorem bindR_in (hf : Full s tl) (hr : Rng s ρ) (bs : List T) : Rng s (bindR s tl bs ρ) := by
  intro i
  unfold bindR
  split
  · split
    · exact hr i
    · exact val_in hf hr _
  · exact hr i
theorem val_bound (bs : List T) (t : T) : (t.bound bs).val s tl ρ = t.val s tl (bindR s tl bs ρ) := by
  induction t using T.ind' with
  | h t ih =>
    rw [T.bound_eq, T.val_eq t]
    by_cases c : t.h < 0
    · rw [if_pos c, if_pos c]
      unfold stood bindR
      cases hb : bs[(-t.h - 1).toNat]? with
      | none => simp only; rw [T.val_eq, if_pos c]
      | some b =>
        simp only
        by_cases cz : b.h = 0
        · rw [if_pos cz, if_pos cz]; simp only; rw [T.val_eq, if_pos c]
        · rw [if_neg cz, if_neg cz]; simp only; exact val_copy b
    · rw [if_neg c, if_neg c, T.val_mk, if_neg c]
      have : (t.ks.map (T.bound bs)).map (T.val s tl ρ) = t.ks.map (T.val s tl (bindR s tl bs ρ)) := by
        rw [List.map_map]
        exact List.map_congr_left fun k hk => ih k hk
      rw [this]
theorem val_put (x : T) : ∀ (p : List Int) (t c : T), t.walk p = some c → c.val s tl ρ = x.val s tl ρ → (T.put x t p).val s tl ρ = t.val s tl ρ := by
  intro p
  induction p with
  | nil => intro t c h hv; simp only [T.walk, Option.some.injEq] at h; subst h; rw [T.put]; exact hv.symm
  | cons k p ih =>
    intro t c h hv
    rw [T.walk] at h
    split at h
    · rw [T.put]
      cases hk : t.ks[(k - 1).toNat]? with
      | none => rfl
      | some u =>
        rw [hk] at h
        simp only at h ⊢
        have := ih u c h hv
        rw [T.val_mk, T.val_eq t]
        have e : (t.ks.set (k - 1).toNat (T.put x u p)).map (T.val s tl ρ) = t.ks.map (T.val s tl ρ) := by
          rw [List.map_set, this]
          obtain ⟨hlt, hu⟩ := List.getElem?_eq_some_iff.1 hk
          apply List.ext_getElem (by simp)
          intro i h1 h2
          rw [List.getElem_set]
          split
          · rename_i e; subst e; rw [List.getElem_map, hu]
          · rfl
        rw [e]
    · simp at h

/-! ### facts and claims -/
def Fa.ho (s : Int) (tl : List (List Int)) (ρ : Nat → Int) (f : Fa) : Prop := f.l.val s tl ρ = f.r.val s tl ρ ↔ f.n = false
def Cl.ho (s : Int) (tl : List (List Int)) (ρ : Nat → Int) (c : Cl) : Prop := ∃ f ∈ c.fs, f.ho s tl ρ
def Cl.every (s : Int) (tl : List (List Int)) (c : Cl) : Prop := ∀ ρ, Rng s ρ → c.ho s tl ρ

theorem every_copy {c : Cl} (h : c.every s tl) : (c.turn T.copy).every s tl := by
  intro ρ hr
  obtain ⟨f, hf, hh⟩ := h ρ hr
  refine ⟨⟨f.n, f.l.copy, f.r.copy⟩, by simp only [Cl.turn]; exact List.mem_map.2 ⟨f, hf, rfl⟩, ?_⟩
  unfold Fa.ho at hh ⊢
  simp only [val_copy]; exact hh
theorem every_bound (hf : Full s tl) {c : Cl} (h : c.every s tl) (bs : List T) : (c.turn (T.bound bs)).every s tl := by
  intro ρ hr
  obtain ⟨f, hff, hh⟩ := h _ (bindR_in hf hr bs)
  refine ⟨⟨f.n, f.l.bound bs, f.r.bound bs⟩, by simp only [Cl.turn]; exact List.mem_map.2 ⟨f, hff, rfl⟩, ?_⟩
  unfold Fa.ho at hh ⊢
  simp only [val_bound]; exact hh
theorem same_ho {f g : Fa} (h : f.same g = true) (hh : f.ho s tl ρ) : g.ho s tl ρ := by
  unfold Fa.same at h
  simp only [Bool.and_eq_true, beq_iff_eq] at h
  unfold Fa.ho at hh ⊢
  rw [← val_same f.l g.l h.1.2, ← val_same f.r g.r h.2, ← h.1.1]; exact hh
theorem once_ho : ∀ (fs acc : List Fa), ((∃ f ∈ acc, f.ho s tl ρ) ∨ ∃ f ∈ fs, f.ho s tl ρ) → ∃ f ∈ onceGo acc fs, f.ho s tl ρ := by
  intro fs
  induction fs with
  | nil => rintro acc (h | ⟨f, hf, _⟩); exact h; simp at hf
  | cons x fs ih =>
    intro acc h
    rw [onceGo]
    split
    · rename_i hx
      apply ih
      rcases h with h | ⟨f, hf, hh⟩
      · exact Or.inl h
      · rcases List.mem_cons.1 hf with rfl | hf
        · simp only [Bool.or_eq_true, Bool.and_eq_true, List.any_eq_true] at hx
          rcases hx with ⟨hn, hs⟩ | ⟨g, hg, hs⟩
          · unfold Fa.ho at hh
            have := val_same (s := s) (tl := tl) (ρ := ρ) _ _ hs
            have := hh.1 this
            rw [hn] at this; exact absurd this (by decide)
          · exact Or.inl ⟨g, hg, same_ho hs hh⟩
        · exact Or.inr ⟨f, hf, hh⟩
    · apply ih
      rcases h with ⟨f, hf, hh⟩ | ⟨f, hf, hh⟩
      · exact Or.inl ⟨f, List.mem_append_left _ hf, hh⟩
      · rcases List.mem_cons.1 hf with rfl | hf
        · exact Or.inl ⟨f, by simp, hh⟩
        · exact Or.inr ⟨f, hf, hh⟩
theorem every_once {c : Cl} (h : c.every s tl) : c.once.every s tl := fun ρ hr => once_ho _ _ (Or.inr (h ρ hr))
theorem changed_ho {h : Fa} {p : List Int} {x y : T} (hs : h.stands p = some x) (he : x.val s tl ρ = y.val s tl ρ) (hh : h.ho s tl ρ) : (h.changed p y).ho s tl ρ := by
  cases p with
  | nil => simp [Fa.stands] at hs
  | cons k p =>
    have h' : (if k = 1 then h.l.walk p else if k = 2 then h.r.walk p else none) = some x := hs
    simp only [Fa.changed]
    unfold Fa.ho at hh ⊢
    split at h'
    · rename_i k1; rw [if_pos k1]; simp only; rw [val_put y p h.l x h' he]; exact hh
    · rename_i k1; rw [if_neg k1]
      split at h'
      · simp only; rw [val_put y p h.r x h' he]; exact hh
      · simp at h'
theorem mem_but {α : Type} {l : List α} {i : Nat} {x : α} {b : α} (hi : l[i]? = some x) (hb : b ∈ l) : b = x ∨ b ∈ l.take i ∨ b ∈ l.drop (i + 1) := by
  obtain ⟨hlt, rfl⟩ := List.getElem?_eq_some_iff.1 hi
  have : b ∈ l.take i ++ l[i] :: l.drop (i + 1) := by rw [← List.drop_eq_getElem_cons hlt, List.take_append_drop]; exact hb
  rcases List.mem_append.1 this with h | h
  · exact Or.inr (Or.inl h)
  · rcases List.mem_cons.1 h with h | h
    · exact Or.inl h
    · exact Or.inr (Or.inr h)
theorem every_right {a b : Cl} {g : Gt} (ha : a.every s tl) (hb : b.every s tl) (h0 : (g.right a b).2 = 0) : (g.right a b).1.every s tl := by
  intro ρ hr
  unfold Gt.right at h0 ⊢
  split at h0
  · rename_i c0
    rw [if_pos c0]
    split at h0
    · rename_i f h hf hh
      split at h0
      · simp at h0
      · rename_i fn
        cases hst : h.stands g.place with
        | none => rw [hst] at h0; simp at h0
        | some x =>
          rw [hst] at h0
          simp only at h0 ⊢
          split at h0
          · rename_i hsm
            rw [if_neg fn, if_pos hsm]
            have hv := val_same (s := s) (tl := tl) (ρ := ρ) _ _ hsm
            obtain ⟨fa, hfa, hta⟩ := ha ρ hr
            obtain ⟨fb, hfb, htb⟩ := hb ρ hr
            rcases mem_but hf hfa with e | e | e
            · subst e
              rcases mem_but hh hfb with e | e | e
              · subst e
                refine ⟨_, List.mem_append_right _ (List.mem_singleton.2 rfl), changed_ho hst ?_ htb⟩
                rw [hv]
                have := hta.2 (by simpa using fn)
                unfold Gt.sides; split
                · exact this.symm
                · exact this
              · exact ⟨fb, by simp [e], htb⟩
              · exact ⟨fb, by simp [e], htb⟩
            · exact ⟨fa, by simp [e], hta⟩
            · exact ⟨fa, by simp [e], hta⟩
          · simp at h0
    · simp at h0
  · simp at h0

theorem next_every (hf : Full s tl) {l : Lo} {had : List Cl} {g : Gt} (h0 : l.chk.1 = 0) (hl : ∀ c ∈ l.cs, c.every s tl) (hh : ∀ c ∈ had, c.every s tl) (h : (l.next had g).2 = 0) : (l.next had g).1.every s tl := by
  obtain ⟨c, hc, hk⟩ := next_ok h
  rw [hc] at h ⊢
  rw [(done_ok h0 h).2]
  refine every_copy ?_
  rcases hk with ⟨_, hm⟩ | ⟨_, a, ha, rfl⟩ | ⟨_, a, ha, b, hb, hz, rfl⟩ | ⟨a, ha, rfl⟩
  · exact hl c hm
  · exact every_bound hf (hh a ha) _
  · exact every_right (hh a ha) (hh b hb) hz
  · exact every_once (hh a ha)
theorem takes_every (hf : Full s tl) {l : Lo} (h0 : l.chk.1 = 0) (hl : ∀ c ∈ l.cs, c.every s tl) : ∀ (gs : List Gt) (had cs : List Cl), (∀ c ∈ had, c.every s tl) → l.takes had gs = some cs → ∀ c ∈ cs, c.every s tl := by
  intro gs
  induction gs with
  | nil => intro had cs hh h; simp only [Lo.takes, Option.some.injEq] at h; subst h; exact hh
  | cons g gs ih =>
    intro had cs hh h
    rw [Lo.takes] at h
    split at h
    · rename_i hz
      refine ih _ _ ?_ h
      intro c hc
      rcases List.mem_append.1 hc with hc | hc
      · exact hh c hc
      · simp at hc; subst hc; exact next_every hf h0 hl hh hz
    · simp at h
/-- What holds in a table has no derivation that ends. -/
theorem no_end (hf : Full s tl) {l : Lo} (h0 : l.chk.1 = 0) (hl : ∀ c ∈ l.cs, c.every s tl) {gs : List Gt} {cs : List Cl} (h : l.takes [] gs = some cs) : endsB cs = false := by
  cases he : endsB cs
  · rfl
  · unfold endsB at he
    split at he
    · rename_i c hc
      have hm : c ∈ cs := List.mem_of_getLast? hc
      obtain ⟨f, hff, _⟩ := takes_every hf h0 hl gs [] cs (by simp) h c hm (fun _ => 0) (fun _ => ⟨Int.le_refl 0, by have := hf.1; show (0 : Int) < s; omega⟩)
      have : c.fs = [] := by simpa using he
      rw [this] at hff; simp at hff
    · simp at he

end Go.Proofs.Ytmbdccekcfeomaa.Am
end
