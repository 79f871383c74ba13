/- Greatest variables, weights, the order. -/
import Derived.Test.YtmbdccekcfeomaaT30
open Go
namespace Go.Proofs.Ytmbdccekcfeomaa.Am
set_option linter.unusedSimpArgs false
set_option linter.unusedVariables false
set_option maxRecDepth 20000

mutual
def T.most : T → Nat
  | .mk h _ ks => max (-h).toNat (T.mosts ks)
def T.mosts : List T → Nat
  | [] => 0
  | k :: ks => max k.most (T.mosts ks)
end
theorem T.most_eq (t : T) : t.most = max (-t.h).toNat (T.mosts t.ks) := by cases t; rw [T.most]; rfl
theorem T.mosts_drop {ks : List T} {k : Nat} (h : k < ks.length) : T.mosts (ks.drop k) = max ks[k].most (T.mosts (ks.drop (k + 1))) := by
  rw [List.drop_eq_getElem_cons h]; rfl

theorem most_spec (t : T) : t.size < 1099511627776 → t.small → Gives tab 55 [t.av] (.int .i64 t.most) := by
  induction t using T.ind' with
  | h t ih =>
    intro ht hsm
    have hs := t.size_eq
    have hl := T.length_le t.ks
    have hh := T.small_h hsm
    refine gives tab_55 fun H nx => ?_
    unfold body55
    simp only [start1]
    have hw : IntKind.i64.wrap (0 - t.h) = -t.h := by rw [wrap64 (by omega) (by omega)]; omega
    have hm : maxI 0 (-t.h) = (((-t.h).toNat : Nat) : Int) := by unfold maxI; split <;> omega
    simp only [↓sd0, su0, su1, resOf, pack, eqCells, ↓reduceIte, Nat.reduceEqDiff, Nat.reduceAdd, Nat.reduceLeDiff, Nat.reduceLT, reduceCtorEq, hw, hm]
    refine W_count t.ks.length (fun k e l H n => e 11 = sl 2 t.nil (t.ks.map T.av) ∧ e 13 = .int .i64 k ∧ e 12 = .int .i64 t.ks.length ∧ ∃ a : Nat, e 3 = .int .i64 a ∧ max a (T.mosts (t.ks.drop k)) = t.most) ?_ ?_ ?_
    · simp only [↓sd0, su0, su1, resOf, pack, eqCells, ↓reduceIte, Nat.reduceEqDiff, Nat.reduceAdd, Nat.reduceLeDiff, Nat.reduceLT, reduceCtorEq]; exact ⟨_, rfl, (T.most_eq t).symm⟩
    · rintro k e l H n hk ⟨h7, h9, h8, a, h3, ha⟩
      have hz := T.size_kid hk
      have ih' := (ih t.ks[k] (List.getElem_mem hk) (by omega) (T.smalls_get (T.small_ks hsm) hk))
      rw [T.mosts_drop hk] at ha
      simp only [↓sd0, su0, su1, resOf, pack, eqCells, ↓reduceIte, Nat.reduceEqDiff, Nat.reduceAdd, Nat.reduceLeDiff, Nat.reduceLT, reduceCtorEq, h7, h3, h8, h9, iaddr_map hk, lt_cast hk, ih'.callK, wrap_succ hk (by omega : t.ks.length < 4611686018427387904), maxI_cast]
      exact ⟨_, rfl, by omega⟩
    · rintro e l H n ⟨h7, h9, h8, a, h3, ha⟩
      rw [List.drop_length, T.mosts] at ha
      have : a = t.most := by omega
      simp only [↓sd0, su0, su1, resOf, pack, eqCells, ↓reduceIte, Nat.reduceEqDiff, Nat.reduceAdd, Nat.reduceLeDiff, Nat.reduceLT, reduceCtorEq, h7, h3, h8, h9, this]

def mostsF : List Fa → Nat
  | [] => 0
  | f :: fs => max (max f.l.most f.r.most) (mostsF fs)
def Cl.most (c : Cl) : Nat := mostsF c.fs
theorem mostsF_drop {fs : List Fa} {k : Nat} (h : k < fs.length) : mostsF (fs.drop k) = max (max fs[k].l.most fs[k].r.most) (mostsF (fs.drop (k + 1))) := by
  rw [List.drop_eq_getElem_cons h]; rfl
theorem cmost_spec (c : Cl) (hl : c.fs.length < 4294967296) (hc : ∀ f ∈ c.fs, (f.l.size < 1099511627776 ∧ f.l.small) ∧ (f.r.size < 1099511627776 ∧ f.r.small)) : Gives tab 32 [c.av] (.int .i64 c.most) := by
  refine gives tab_32 fun H nx => ?_
  unfold body32 Cl.most
  simp only [start1]
  simp only [↓sd0, su0, su1, resOf, pack, eqCells, ↓reduceIte, Nat.reduceEqDiff, Nat.reduceAdd, Nat.reduceLeDiff, Nat.reduceLT, reduceCtorEq]
  refine W_count c.fs.length (fun k e l H' n => e 7 = sl 5 c.nil (c.fs.map Fa.av) ∧ e 9 = .int .i64 k ∧ e 8 = .int .i64 c.fs.length ∧ ∃ a : Nat, e 3 = .int .i64 a ∧ max a (mostsF (c.fs.drop k)) = mostsF c.fs) ?_ ?_ ?_
  · simp only [↓sd0, su0, su1, resOf, pack, eqCells, ↓reduceIte, Nat.reduceEqDiff, Nat.reduceAdd, Nat.reduceLeDiff, Nat.reduceLT, reduceCtorEq]; exact ⟨0, rfl, by omega⟩
  · rintro k e l H n hk ⟨h7, h9, h8, a, h3, ha⟩
    have hx := hc c.fs[k] (List.getElem_mem hk)
    have h1 := most_spec c.fs[k].l hx.1.1 hx.1.2
    have h2 := most_spec c.fs[k].r hx.2.1 hx.2.2
    rw [mostsF_drop hk] at ha
    simp only [↓sd0, su0, su1, resOf, pack, eqCells, ↓reduceIte, Nat.reduceEqDiff, Nat.reduceAdd, Nat.reduceLeDiff, Nat.reduceLT, reduceCtorEq, dr0, Nat.reducePow, Nat.reduceDiv, Nat.reduceMod, Nat.reduceBEq, h7, h3, h8, h9, iaddr_map hk, lt_cast hk, h1.callK, h2.callK, wrap_succ hk (by omega : c.fs.length < 4611686018427387904), maxI_cast]
    exact ⟨_, rfl, by omega⟩
  · rintro e l H n ⟨h7, h9, h8, a, h3, ha⟩
    rw [List.drop_length, mostsF] at ha
    have : a = mostsF c.fs := by omega
    simp only [↓sd0, su0, su1, resOf, pack, eqCells, ↓reduceIte, Nat.reduceEqDiff, Nat.reduceAdd, Nat.reduceLeDiff, Nat.reduceLT, reduceCtorEq, h7, h3, h8, h9, this]

def weightF : List Fa → Nat
  | [] => 0
  | f :: fs => f.l.size + f.r.size + weightF fs
theorem weightF_drop {fs : List Fa} {k : Nat} (h : k < fs.length) : weightF (fs.drop k) = fs[k].l.size + fs[k].r.size + weightF (fs.drop (k + 1)) := by
  rw [List.drop_eq_getElem_cons h]; rfl
theorem weight_good {c : Cl} (h : c.good) : weightF c.fs ≤ 480 := by
  have key : ∀ fs : List Fa, (∀ f ∈ fs, f.l.good ∧ f.r.good) → weightF fs ≤ 80 * fs.length := by
    intro fs
    induction fs with
    | nil => intro _; simp [weightF]
    | cons f fs ih =>
      intro hf
      have a := hf f (List.mem_cons_self ..)
      have b := ih fun x hx => hf x (List.mem_cons_of_mem _ hx)
      have := a.1.1
      have := a.2.1
      simp only [weightF, List.length_cons]; omega
  have := key c.fs h.2
  have := h.1
  omega
theorem weight_spec (c : Cl) (hc : c.good) : Gives tab 21 [c.av] (.int .i64 (weightF c.fs)) := by
  have hw := weight_good hc
  have hl := hc.1
  refine gives tab_21 fun H nx => ?_
  unfold body21
  simp only [start1]
  simp only [↓sd0, su0, su1, resOf, pack, eqCells, ↓reduceIte, Nat.reduceEqDiff, Nat.reduceAdd, Nat.reduceLeDiff, Nat.reduceLT, reduceCtorEq]
  refine W_count c.fs.length (fun k e l H' n => e 7 = sl 5 c.nil (c.fs.map Fa.av) ∧ e 9 = .int .i64 k ∧ e 8 = .int .i64 c.fs.length ∧ ∃ a : Nat, e 3 = .int .i64 a ∧ a + weightF (c.fs.drop k) = weightF c.fs) ?_ ?_ ?_
  · simp only [↓sd0, su0, su1, resOf, pack, eqCells, ↓reduceIte, Nat.reduceEqDiff, Nat.reduceAdd, Nat.reduceLeDiff, Nat.reduceLT, reduceCtorEq]; exact ⟨0, rfl, by omega⟩
  · rintro k e l H n hk ⟨h7, h9, h8, a, h3, ha⟩
    have hx := hc.2 c.fs[k] (List.getElem_mem hk)
    have h1 := size_spec c.fs[k].l (by have := hx.1.1; omega)
    have h2 := size_spec c.fs[k].r (by have := hx.2.1; omega)
    have := hx.1.1
    have := hx.2.1
    rw [weightF_drop hk] at ha
    have w1 : IntKind.i64.wrap ((c.fs[k].l.size : Int) + (c.fs[k].r.size : Int)) = ((c.fs[k].l.size + c.fs[k].r.size : Nat) : Int) := by rw [wrap64 (by omega) (by omega)]; simp
    have w2 : IntKind.i64.wrap ((a : Int) + ((c.fs[k].l.size + c.fs[k].r.size : Nat) : Int)) = ((a + (c.fs[k].l.size + c.fs[k].r.size) : Nat) : Int) := by rw [wrap64 (by omega) (by omega)]; simp
    simp only [↓sd0, su0, su1, resOf, pack, eqCells, ↓reduceIte, Nat.reduceEqDiff, Nat.reduceAdd, Nat.reduceLeDiff, Nat.reduceLT, reduceCtorEq, dr0, Nat.reducePow, Nat.reduceDiv, Nat.reduceMod, Nat.reduceBEq, h7, h3, h8, h9, iaddr_map hk, lt_cast hk, h1.callK, h2.callK, wrap_succ hk (by omega : c.fs.length < 4611686018427387904), w1, w2]
    exact ⟨_, rfl, by omega⟩
  · rintro e l H n ⟨h7, h9, h8, a, h3, ha⟩
    rw [List.drop_length, weightF] at ha
    have : a = weightF c.fs := by omega
    simp only [↓sd0, su0, su1, resOf, pack, eqCells, ↓reduceIte, Nat.reduceEqDiff, Nat.reduceAdd, Nat.reduceLeDiff, Nat.reduceLT, reduceCtorEq, h7, h3, h8, h9, this]

/-! ### trees that are searched -/
theorem index101 {f : Nat} {cap : List AV} {b : Bool} {ks : List T} {p : T → Bool} (hl : ks.length < 4611686018427387904) (hcap : AV.nols cap = true)
    (hf : ∀ x ∈ ks, Gives tab f (x.av :: cap) (.bool (p x))) : Gives tab 101 [sl 2 b (ks.map T.av), .clo f cap] (.int .i64 (idx p ks)) := by
  refine gives tab_101 fun H nx => ?_
  unfold idx
  unfold body101
  simp only [start2]
  simp only [↓sd0, su0, su1, resOf, pack, eqCells, ↓reduceIte, Nat.reduceEqDiff, Nat.reduceAdd, Nat.reduceLeDiff, Nat.reduceLT, reduceCtorEq]
  refine W_count ks.length (fun k e l H' n => e 0 = sl 2 b (ks.map T.av) ∧ e 1 = .clo f cap ∧ e 8 = .int .i64 k ∧ e 7 = .int .i64 ks.length ∧ (∀ j (h : j < ks.length), j < k → p ks[j] = false)) ?_ ?_ ?_
  · simp only [↓sd0, su0, su1, resOf, pack, eqCells, ↓reduceIte, Nat.reduceEqDiff, Nat.reduceAdd, Nat.reduceLeDiff, Nat.reduceLT, reduceCtorEq]; intro j _ hj; omega
  · rintro k e l H' n hk ⟨h0, h1, h8, h7, hno⟩
    have hc := hf ks[k] (List.getElem_mem hk)
    cases cz : p ks[k]
    · simp only [↓sd0, su0, su1, resOf, pack, eqCells, ↓reduceIte, Nat.reduceEqDiff, Nat.reduceAdd, Nat.reduceLeDiff, Nat.reduceLT, reduceCtorEq, h0, h1, h8, h7, lt_cast hk, iaddr_map hk, hcap, hc.callK, cz, wrap_succ hk hl]
      intro j hj hjk
      rcases Nat.lt_or_ge j k with h | h
      · exact hno j hj h
      · have : j = k := by omega
        subst this; exact cz
    · have hfi : ks.findIdx? p = some k := by
        rw [List.findIdx?_eq_some_iff_getElem]; exact ⟨hk, cz, fun j hj => by simp [hno j (by omega) hj]⟩
      simp only [↓sd0, su0, su1, resOf, pack, eqCells, ↓reduceIte, Nat.reduceEqDiff, Nat.reduceAdd, Nat.reduceLeDiff, Nat.reduceLT, reduceCtorEq, h0, h1, h8, h7, lt_cast hk, iaddr_map hk, hcap, hc.callK, cz, hfi]
  · rintro e l H' n ⟨h0, h1, h8, h7, hno⟩
    have hfi : ks.findIdx? p = none := by
      rw [List.findIdx?_eq_none_iff]; intro x hx
      obtain ⟨j, hj, rfl⟩ := List.getElem_of_mem hx
      exact hno j hj hj
    simp only [↓sd0, su0, su1, resOf, pack, eqCells, ↓reduceIte, Nat.reduceEqDiff, Nat.reduceAdd, Nat.reduceLeDiff, Nat.reduceLT, reduceCtorEq, h0, h1, h8, h7, hfi]
theorem contains94 {f : Nat} {cap : List AV} {b : Bool} {ks : List T} {p : T → Bool} (hl : ks.length < 4611686018427387904) (hcap : AV.nols cap = true)
    (hf : ∀ x ∈ ks, Gives tab f (x.av :: cap) (.bool (p x))) : Gives tab 94 [sl 2 b (ks.map T.av), .clo f cap] (.bool (ks.any p)) := by
  refine gives tab_94 fun H nx => ?_
  unfold body94
  simp only [start2]
  simp only [↓sd0, su0, su1, resOf, pack, eqCells, ↓reduceIte, Nat.reduceEqDiff, Nat.reduceAdd, Nat.reduceLeDiff, Nat.reduceLT, reduceCtorEq, hcap, (index101 hl hcap hf).callK, idx_any]

mutual
def T.holds (h : Int) : T → Bool
  | .mk g _ ks => g == h || T.holdss h ks
def T.holdss (h : Int) : List T → Bool
  | [] => false
  | k :: ks => T.holds h k || T.holdss h ks
end
theorem T.holdss_eq (h : Int) : ∀ ks : List T, T.holdss h ks = ks.any (T.holds h)
  | [] => rfl
  | k :: ks => by simp [T.holdss, T.holdss_eq h ks]
theorem T.holds_eq (h : Int) (t : T) : t.holds h = (t.h == h || t.ks.any (T.holds h)) := by cases t; rw [T.holds, T.holdss_eq]; rfl
theorem holds_spec (h : Int) (t : T) : t.size < 1099511627776 → Gives tab 93 [t.av, .int .i64 h] (.bool (t.holds h)) := by
  induction t using T.ind' with
  | h t ih =>
    intro ht
    have hs := t.size_eq
    have hl := T.length_le t.ks
    refine gives tab_93 fun H nx => ?_
    unfold body93
    simp only [start2]
    have h100 : ∀ x ∈ t.ks, Gives tab 100 (x.av :: [.fptr (.int .i64 h) 0]) (.bool (x.holds h)) := by
      intro x hx
      refine gives tab_100 fun H nx => ?_
      unfold body100
      simp only [start2]
      have := ih x hx (by obtain ⟨i, hi, rfl⟩ := List.getElem_of_mem hx; have := T.size_kid hi; omega)
      simp only [↓sd0, su0, su1, resOf, pack, eqCells, ↓reduceIte, Nat.reduceEqDiff, Nat.reduceAdd, Nat.reduceLeDiff, Nat.reduceLT, reduceCtorEq, this.callK]
    have hc := contains94 (b := t.nil) (by omega) rfl h100
    rw [T.holds_eq]
    cases c : (t.h == h) <;> simp only [↓sd0, su0, su1, resOf, pack, eqCells, ↓reduceIte, Nat.reduceEqDiff, Nat.reduceAdd, Nat.reduceLeDiff, Nat.reduceLT, reduceCtorEq, c, hc.callK]

/-! ### the order -/
def overL (ov : T → T → Bool) : List T → List T → Bool
  | x :: xs, y :: ys => if x.same y = true then overL ov xs ys else ov x y
  | _, _ => false
def overF (ov : T → T → Bool) (a b : T) : Bool :=
  if a.h < 0 then false else if b.h < 0 then a.holds b.h
  else if (a.ks.any fun k => k.same b || ov k b) = true then true
  else if (b.ks.any fun k => !ov a k) = true then false
  else if a.h = b.h then (if a.ks.length = b.ks.length then overL ov a.ks b.ks else decide (a.ks.length > b.ks.length)) else decide (a.h > b.h)
theorem overL_drop {ov : T → T → Bool} {as bs : List T} {k : Nat} (h : k < as.length) (h2 : k < bs.length) : overL ov (as.drop k) (bs.drop k) = if as[k].same bs[k] = true then overL ov (as.drop (k + 1)) (bs.drop (k + 1)) else ov as[k] bs[k] := by
  rw [List.drop_eq_getElem_cons h, List.drop_eq_getElem_cons h2]; rfl

theorem over_step (a b : T) (ov : T → T → Bool) (ha : a.size < 1099511627776) (hb : b.size < 1099511627776) (ih : ∀ x y, x.size + y.size < a.size + b.size → x.size < 1099511627776 → y.size < 1099511627776 → Gives tab 73 [x.av, y.av] (.bool (ov x y))) :
    Gives tab 73 [a.av, b.av] (.bool (overF ov a b)) := by
  have hs := a.size_eq
  have hl := T.length_le a.ks
  have hs2 := b.size_eq
  have hl2 := T.length_le b.ks
  have kid : ∀ {t x : T}, x ∈ t.ks → x.size < t.size := by
    intro t x hx; obtain ⟨i, hi, rfl⟩ := List.getElem_of_mem hx; have := T.size_kid hi; have := t.size_eq; omega
  have h95 : ∀ x ∈ a.ks, Gives tab 95 (x.av :: [.fptr b.av 0]) (.bool (x.same b || ov x b)) := by
    intro x hx
    have hk := kid hx
    refine gives tab_95 fun H nx => ?_
    unfold body95
    simp only [start2]
    cases c : x.same b <;> simp only [↓sd0, su0, su1, resOf, pack, eqCells, ↓reduceIte, Nat.reduceEqDiff, Nat.reduceAdd, Nat.reduceLeDiff, Nat.reduceLT, reduceCtorEq, (same_spec x b (by omega)).callK, c, (ih x b (by omega) (by omega) hb).callK]
  have h96 : ∀ x ∈ b.ks, Gives tab 96 (x.av :: [.fptr a.av 0]) (.bool (!ov a x)) := by
    intro x hx
    have hk := kid hx
    refine gives tab_96 fun H nx => ?_
    unfold body96
    simp only [start2]
    simp only [↓sd0, su0, su1, resOf, pack, eqCells, ↓reduceIte, Nat.reduceEqDiff, Nat.reduceAdd, Nat.reduceLeDiff, Nat.reduceLT, reduceCtorEq, (ih a x (by omega) ha (by omega)).callK]
  have c95 := contains94 (b := a.nil) (by omega) rfl h95
  have c96 := contains94 (b := b.nil) (by omega) rfl h96
  refine gives tab_73 fun H nx => ?_
  unfold body73 overF
  simp only [start2]
  by_cases k1 : a.h < 0
  · simp only [↓sd0, su0, su1, resOf, pack, eqCells, ↓reduceIte, Nat.reduceEqDiff, Nat.reduceAdd, Nat.reduceLeDiff, Nat.reduceLT, reduceCtorEq, k1]
  · by_cases k2 : b.h < 0
    · simp only [↓sd0, su0, su1, resOf, pack, eqCells, ↓reduceIte, Nat.reduceEqDiff, Nat.reduceAdd, Nat.reduceLeDiff, Nat.reduceLT, reduceCtorEq, k1, k2, (holds_spec b.h a ha).callK]
    · cases k3 : (a.ks.any fun k => k.same b || ov k b)
      · rw [k3] at c95
        cases k4 : (b.ks.any fun k => !ov a k)
        · rw [k4] at c96
          by_cases k5 : a.h = b.h
          · have q5 : (a.h != b.h) = false := by simp [k5]
            by_cases k6 : a.ks.length = b.ks.length
            · have q6 : ((a.ks.length : Int) != (b.ks.length : Int)) = false := by simp [k6]
              simp only [↓sd0, su0, su1, resOf, pack, eqCells, ↓reduceIte, Nat.reduceEqDiff, Nat.reduceAdd, Nat.reduceLeDiff, Nat.reduceLT, reduceCtorEq, k1, k2, c95.callK, c96.callK, q5, q6]
              rw [if_neg k1, if_neg k2, if_neg (by simp), if_neg (by simp), if_pos k5, if_pos k6]
              refine W_count a.ks.length (fun k e l H' n => e 2 = .fptr a.av 0 ∧ e 3 = .fptr b.av 0 ∧ e 57 = .int .i64 k ∧ e 56 = .int .i64 a.ks.length ∧ overL ov a.ks b.ks = overL ov (a.ks.drop k) (b.ks.drop k)) ?_ ?_ ?_
              · simp only [↓sd0, su0, su1, resOf, pack, eqCells, ↓reduceIte, Nat.reduceEqDiff, Nat.reduceAdd, Nat.reduceLeDiff, Nat.reduceLT, reduceCtorEq]
              · rintro k e l H' n hk ⟨h2, h3, h57, h56, hq⟩
                have hk2 : k < b.ks.length := by omega
                rw [overL_drop hk hk2] at hq
                have z1 := kid (List.getElem_mem hk)
                have z2 := kid (List.getElem_mem hk2)
                rw [hq]
                cases cs : a.ks[k].same b.ks[k]
                · simp only [↓sd0, su0, su1, resOf, pack, eqCells, ↓reduceIte, Nat.reduceEqDiff, Nat.reduceAdd, Nat.reduceLeDiff, Nat.reduceLT, reduceCtorEq, dr0, Nat.reducePow, Nat.reduceDiv, Nat.reduceMod, Nat.reduceBEq, h2, h3, h57, h56, iaddr_map hk, iaddr_map hk2, lt_cast hk, (same_spec a.ks[k] b.ks[k] (by omega)).callK, cs, (ih a.ks[k] b.ks[k] (by omega) (by omega) (by omega)).callK, wrap_succ hk (by omega : a.ks.length < 4611686018427387904)]
                · simp only [↓sd0, su0, su1, resOf, pack, eqCells, ↓reduceIte, Nat.reduceEqDiff, Nat.reduceAdd, Nat.reduceLeDiff, Nat.reduceLT, reduceCtorEq, dr0, Nat.reducePow, Nat.reduceDiv, Nat.reduceMod, Nat.reduceBEq, h2, h3, h57, h56, iaddr_map hk, iaddr_map hk2, lt_cast hk, (same_spec a.ks[k] b.ks[k] (by omega)).callK, cs, wrap_succ hk (by omega : a.ks.length < 4611686018427387904)]
              · rintro e l H' n ⟨h2, h3, h57, h56, hq⟩
                rw [List.drop_length] at hq
                simp only [overL] at hq
                simp only [↓sd0, su0, su1, resOf, pack, eqCells, ↓reduceIte, Nat.reduceEqDiff, Nat.reduceAdd, Nat.reduceLeDiff, Nat.reduceLT, reduceCtorEq, h2, h3, h57, h56, hq]
            · have q6 : ((a.ks.length : Int) != (b.ks.length : Int)) = true := by simp; omega
              simp only [↓sd0, su0, su1, resOf, pack, eqCells, ↓reduceIte, Nat.reduceEqDiff, Nat.reduceAdd, Nat.reduceLeDiff, Nat.reduceLT, reduceCtorEq, k1, k2, c95.callK, c96.callK, q5, q6]
              simp [k1, k2, k3, k4, k5, k6]
          · have q5 : (a.h != b.h) = true := by simp [k5]
            simp only [↓sd0, su0, su1, resOf, pack, eqCells, ↓reduceIte, Nat.reduceEqDiff, Nat.reduceAdd, Nat.reduceLeDiff, Nat.reduceLT, reduceCtorEq, k1, k2, c95.callK, c96.callK, q5]
            simp [k1, k2, k3, k4, k5]
        · rw [k4] at c96
          simp only [↓sd0, su0, su1, resOf, pack, eqCells, ↓reduceIte, Nat.reduceEqDiff, Nat.reduceAdd, Nat.reduceLeDiff, Nat.reduceLT, reduceCtorEq, k1, k2, c95.callK, c96.callK]
      · rw [k3] at c95
        simp only [↓sd0, su0, su1, resOf, pack, eqCells, ↓reduceIte, Nat.reduceEqDiff, Nat.reduceAdd, Nat.reduceLeDiff, Nat.reduceLT, reduceCtorEq, k1, k2, c95.callK]


theorem over_ex (n : Nat) : ∃ ov : T → T → Bool, ∀ a b : T, a.size + b.size < n → a.size < 1099511627776 → b.size < 1099511627776 → Gives tab 73 [a.av, b.av] (.bool (ov a b)) := by
  induction n with
  | zero => exact ⟨fun _ _ => false, fun a b h => absurd h (by omega)⟩
  | succ n ih =>
    obtain ⟨ov, hov⟩ := ih
    exact ⟨overF ov, fun a b h ha hb => over_step a b ov ha hb fun x y hxy hx hy => hov x y (by omega) hx hy⟩
theorem over_spec (a b : T) (ha : a.size < 1099511627776) (hb : b.size < 1099511627776) : ∃ r, Gives tab 73 [a.av, b.av] (.bool r) := by
  obtain ⟨ov, h⟩ := over_ex (a.size + b.size + 1)
  exact ⟨_, h a b (by omega) ha hb⟩

end Go.Proofs.Ytmbdccekcfeomaa.Am
