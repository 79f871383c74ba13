/- Facts that are broken in a table; numbers as digits. -/
import Derived.Test.YtmbdccekcfeomaaT31
section
open Go
namespace Go.Proofs.Ytmbdccekcfeomaa.Am
set_option linter.unusedSimpArgs false
set_option linter.unusedVariables false
set_option maxRecDepth 20000

def Fa.brk (s : Int) (tl : List (List Int)) (ρ : Nat → Int) (f : Fa) : Bool := !(decide (f.l.val s tl ρ < 0) || decide (f.r.val s tl ρ < 0) || ((f.l.val s tl ρ == f.r.val s tl ρ) != f.n))
def Cl.brk (s : Int) (tl : List (List Int)) (ρ : Nat → Int) (c : Cl) : Bool := c.fs.all (Fa.brk s tl ρ)
theorem brk_ho {s : Int} {tl : List (List Int)} {ρ : Nat → Int} (hf : Full s tl) (hr : Rng s ρ) {c : Cl} (h : c.brk s tl ρ = false) : c.ho s tl ρ := by
  unfold Cl.brk at h
  obtain ⟨f, hm, hb⟩ := List.all_eq_false.1 h
  refine ⟨f, hm, ?_⟩
  have h1 := val_in hf hr f.l
  have h2 := val_in hf hr f.r
  unfold Fa.brk at hb
  unfold Fa.ho
  generalize f.l.val s tl ρ = a at *
  generalize f.r.val s tl ρ = b at *
  have q1 : decide (a < 0) = false := decide_eq_false (by omega)
  have q2 : decide (b < 0) = false := decide_eq_false (by omega)
  rw [q1, q2] at hb
  cases hn : f.n <;> rw [hn] at hb <;> by_cases e : a = b <;> simp_all
def Cl.wf (v : Nat) (c : Cl) : Prop := c.fs.length ≤ 6 ∧ ∀ f ∈ c.fs, (f.l.wf v ∧ f.l.size < 4294967296) ∧ (f.r.wf v ∧ f.r.size < 4294967296)

theorem broken_spec {H : Nat → Option Obj} {f ta th v : Nat} {es : List AV} {ids : Nat → Nat} {l : Lo} {s fuel : Int} {tl : List (List Int)} {xs : List Int} (hF : Fnd H f ta es ids l s fuel tl) (hS : Shp s tl) (hth : H th = some (.arr 1 (rowI xs))) (hv : xs.length = v) (hv8 : v ≤ 8)
    (hx : ∀ x ∈ xs, 0 ≤ x ∧ x < s) (c : Cl) (hc : c.wf v) (wl nx : Nat) : C tab wl 56 [.ptr f 0 0, c.av, .lref th 0 v] H nx = some (.bool (c.brk s tl (env xs)), H, nx) := by
  refine gives_at tab_56 ?_
  unfold body56
  dsimp only [qm, qf, ql, qL, qs, qc, qk, qi, qn, qb, qB, qe, qx, qo, qg]
  simp only [start3]
  simp only [↓sd0, su0, su1, resOf, pack, eqCells, ↓reduceIte, Nat.reduceEqDiff, Nat.reduceAdd, Nat.reduceLeDiff, Nat.reduceLT, reduceCtorEq]
  refine W_count c.fs.length (fun k e lo H' n => H' = H ∧ e 0 = .ptr f 0 0 ∧ e 2 = .lref th 0 v ∧ e 12 = sl 5 c.nil (c.fs.map Fa.av) ∧ e 14 = .int .i64 k ∧ e 13 = .int .i64 c.fs.length ∧ c.brk s tl (env xs) = (c.fs.drop k).all (Fa.brk s tl (env xs))) ?_ ?_ ?_
  · simp only [↓sd0, su0, su1, resOf, pack, eqCells, ↓reduceIte, Nat.reduceEqDiff, Nat.reduceAdd, Nat.reduceLeDiff, Nat.reduceLT, reduceCtorEq]; rfl
  · rintro k e lo H' n hk ⟨rfl, h0, h2, h12, h14, h13, hq⟩
    rw [List.drop_eq_getElem_cons hk, List.all_cons] at hq
    have hcf := hc.2 c.fs[k] (List.getElem_mem hk)
    have h1 := fval_spec hF hS hth hv hv8 hx c.fs[k].l hcf.1.1 hcf.1.2
    have h3 := fval_spec hF hS hth hv hv8 hx c.fs[k].r hcf.2.1 hcf.2.2
    have hwk := wrap_succ hk (by have := hc.1; omega)
    rw [show Fa.brk s tl (env xs) c.fs[k] = !(decide (c.fs[k].l.val s tl (env xs) < 0) || decide (c.fs[k].r.val s tl (env xs) < 0) || ((c.fs[k].l.val s tl (env xs) == c.fs[k].r.val s tl (env xs)) != c.fs[k].n)) from rfl] at hq
    generalize c.fs[k].l.val s tl (env xs) = a at h1 hq
    generalize c.fs[k].r.val s tl (env xs) = b at h3 hq
    cases q1 : decide (a < 0) <;> cases q2 : decide (b < 0) <;> cases q3 : (a == b) <;> cases q4 : c.fs[k].n <;> rw [q1, q2, q3, q4] at hq <;>
      simp only [Bool.or_true, Bool.or_false, Bool.true_or, Bool.false_or, Bool.not_true, Bool.not_false, Bool.false_and, Bool.true_and, bne_self_eq_false, Bool.bne_true, Bool.bne_false, Bool.not_false, Bool.not_true] at hq <;>
      simp only [↓sd0, su0, su1, resOf, pack, eqCells, ↓reduceIte, Nat.reduceEqDiff, Nat.reduceAdd, Nat.reduceLeDiff, Nat.reduceLT, reduceCtorEq, dr0, Nat.reducePow, Nat.reduceDiv, Nat.reduceMod, Nat.reduceBEq, h0, h2, h12, h14, h13, iaddr_map hk, lt_cast hk, callK_eq (h1 _ _), callK_eq (h3 _ _), q1, q2, q3, q4, hwk, hq]
    all_goals first | done | simp
  · rintro e lo H' n ⟨rfl, h0, h2, h12, h14, h13, hq⟩
    rw [List.drop_length] at hq
    simp only [↓sd0, su0, su1, resOf, pack, eqCells, ↓reduceIte, Nat.reduceEqDiff, Nat.reduceAdd, Nat.reduceLeDiff, Nat.reduceLT, reduceCtorEq, h0, h2, h12, h14, h13, hq]

/-! ### digits -/
def dg (S : Nat) : Nat → Nat → List Int
  | 0, _ => []
  | v + 1, n => dg S v (n / S) ++ [((n % S : Nat) : Int)]
theorem dg_length {S : Nat} : ∀ v n, (dg S v n).length = v
  | 0, _ => rfl
  | v + 1, n => by rw [dg, List.length_append, dg_length v]; rfl
theorem dg_range {S : Nat} (hS : 1 ≤ S) : ∀ v n, ∀ x ∈ dg S v n, 0 ≤ x ∧ x < (S : Int)
  | 0, _ => by simp [dg]
  | v + 1, n => fun x hx => by
    rw [dg] at hx
    rcases List.mem_append.1 hx with h | h
    · exact dg_range hS v _ x h
    · have := Nat.mod_lt n (by omega : 0 < S)
      simp at h; subst h; omega
theorem dg_cover {S : Nat} (hS : 1 ≤ S) : ∀ (v : Nat) (xs : List Int), xs.length = v → (∀ x ∈ xs, 0 ≤ x ∧ x < (S : Int)) → ∃ n, n < S ^ v ∧ dg S v n = xs := by
  intro v
  induction v with
  | zero => intro xs h _; exact ⟨0, by simp, by rw [List.length_eq_zero_iff.1 h]; rfl⟩
  | succ v ih =>
    intro xs h hx
    have hne : xs ≠ [] := by intro e; rw [e] at h; simp at h
    obtain ⟨ys, y, rfl⟩ : ∃ ys y, xs = ys ++ [y] := ⟨xs.dropLast, xs.getLast hne, (List.dropLast_concat_getLast hne).symm⟩
    obtain ⟨n, hn, hd⟩ := ih ys (by simpa using h) fun x hx' => hx x (List.mem_append_left _ hx')
    have hy := hx y (by simp)
    obtain ⟨z, rfl⟩ : ∃ z : Nat, y = (z : Int) := ⟨y.toNat, by omega⟩
    have hz : z < S := by omega
    refine ⟨n * S + z, ?_, ?_⟩
    · rw [Nat.pow_succ]
      have : (n + 1) * S ≤ S ^ v * S := Nat.mul_le_mul_right S hn
      rw [Nat.add_mul] at this; omega
    · rw [dg, Nat.mul_comm n S, Nat.mul_add_div (by omega), Nat.div_eq_of_lt hz, Nat.mul_add_mod, Nat.mod_eq_of_lt hz, Nat.add_zero, hd]
theorem dg_zeros {S : Nat} (hS : 1 ≤ S) (k q : Nat) : ∀ j, dg S (k + j) (q * S ^ j) = dg S k q ++ List.replicate j 0
  | 0 => by simp
  | j + 1 => by
    have e : q * S ^ (j + 1) = S * (q * S ^ j) := by rw [Nat.pow_succ]; rw [Nat.mul_comm S]; rw [Nat.mul_assoc]
    rw [show k + (j + 1) = (k + j) + 1 by omega, dg, e, Nat.mul_div_cancel_left _ (by omega), Nat.mul_mod_right, dg_zeros hS k q j, List.replicate_succ', List.append_assoc]; rfl
theorem dg_zero {S : Nat} (hS : 1 ≤ S) (v : Nat) : dg S v 0 = List.replicate v 0 := by
  have := dg_zeros hS 0 0 v
  simpa [dg] using this
/-- One more, where the last digit is not the greatest. -/
theorem dg_one {S : Nat} (hS : 1 ≤ S) (k q : Nat) (h : q % S + 1 ≠ S) : dg S (k + 1) (q + 1) = dg S k (q / S) ++ [((q % S : Nat) : Int) + 1] ∧ q + 1 ≠ S ^ (k + 1) := by
  have hm := Nat.mod_lt q (by omega : 0 < S)
  have e : q + 1 = S * (q / S) + (q % S + 1) := by have := Nat.div_add_mod q S; omega
  have hlt : q % S + 1 < S := by omega
  have hd : (q + 1) / S = q / S := by rw [e, Nat.mul_add_div (by omega), Nat.div_eq_of_lt hlt, Nat.add_zero]
  have hr : (q + 1) % S = q % S + 1 := by rw [e, Nat.mul_add_mod, Nat.mod_eq_of_lt hlt]
  refine ⟨by rw [dg, hd, hr]; simp, fun h2 => ?_⟩
  rw [h2, Nat.pow_succ, Nat.mul_mod_left] at hr; omega

end Go.Proofs.Ytmbdccekcfeomaa.Am
end
/- Whether no claim is broken in a table. -/
section
open Go
namespace Go.Proofs.Ytmbdccekcfeomaa.Am
set_option linter.unusedSimpArgs false
set_option linter.unusedVariables false
set_option maxRecDepth 20000

theorem Fnd.keep {H H' : Nat → Option Obj} {f ta n : Nat} {es : List AV} {ids : Nat → Nat} {l : Lo} {s fuel : Int} {tl : List (List Int)} (h : Fnd H f ta es ids l s fuel tl) (hf : ∀ j, j < n → H' j = H j) (h1 : f < n) (h2 : ta < n) (h3 : ∀ k, k < tl.length → ids k < n) : Fnd H' f ta es ids l s fuel tl :=
  { obj := by rw [hf _ h1]; exact h.obj, tel := by rw [hf _ h2]; exact h.tel, el := h.el, get := h.get, row := fun k hk => by rw [hf _ (h3 k hk)]; exact h.row k hk }
theorem rowI_set (xs : List Int) (i : Nat) (y : Int) : (rowI xs).set i (.int .i64 y) = rowI (xs.set i y) := by unfold rowI; rw [List.map_set]
theorem rowI_get {xs : List Int} {i : Nat} {y : Int} (h : xs[i]? = some y) : (rowI xs)[i]? = some (.int .i64 y) := by simp [rowI, h]
theorem rowI_zeros (v : Nat) : List.replicate v (AV.int .i64 0) = rowI (List.replicate v 0) := by simp [rowI]
theorem dg_get {S m p j : Nat} : (dg S (m + 1) p ++ List.replicate j 0)[m]? = some ((p % S : Nat) : Int) := by
  rw [dg, List.append_assoc, List.getElem?_append_right (by rw [dg_length]; omega), dg_length]; simp
theorem dg_set {S m p j : Nat} (y : Int) : (dg S (m + 1) p ++ List.replicate j 0).set m y = (dg S m (p / S) ++ [y]) ++ List.replicate j 0 := by
  rw [dg, List.append_assoc, List.set_append_right _ _ (by rw [dg_length]; omega), dg_length, Nat.sub_self]; simp
theorem frame {H H' : Nat → Option Obj} {nx th j : Nat} {o : Option Obj} (h : ∀ j, j < nx → H' j = H j) (ht : nx ≤ th) (hj : j < nx) : (if j = th then o else H' j) = H j := by rw [if_neg (by omega)]; exact h j hj
/-- No claim is broken. -/
def Fine (s : Int) (tl : List (List Int)) (cs : List Cl) : Prop := ∀ c ∈ cs, ∀ xs : List Int, xs.length = c.most → (∀ x ∈ xs, 0 ≤ x ∧ x < s) → c.brk s tl (env xs) = false
structure Base (H : Nat → Option Obj) (nx f th v : Nat) (l : Lo) (c : Cl) (k : Nat) (e : Nat → AV) (lo : Nat → Option (Nat × AV)) (H' : Nat → Option Obj) (n : Nat) : Prop where
  h0 : e 0 = .ptr f 0 0
  h12 : e 12 = sl 1 l.cnil (l.cs.map Cl.el)
  h13 : e 13 = .int .i64 l.cs.length
  h14 : e 14 = .int .i64 k
  h5 : e 5 = .int .i64 v
  h6 : e 6 = .lref th 0 v
  h4 : ∃ m4, e 4 = .loc 4 m4 0 ∧ lo 4 = some (m4, c.av)
  hn : nx ≤ n
  ht : nx ≤ th ∧ th < n
  fr : ∀ j, j < nx → H' j = H j

theorem fine_spec {H : Nat → Option Obj} {f ta nx : Nat} {es : List AV} {ids : Nat → Nat} {l : Lo} {s fuel : Int} {tl : List (List Int)} (hF : Fnd H f ta es ids l s fuel tl) (hS : Shp s tl) (h1 : f < nx) (h2 : ta < nx) (h3 : ∀ k, k < tl.length → ids k < nx)
    (hcl : l.cs.length < 4294967296) (hg : ∀ c ∈ l.cs, c.good ∧ c.most ≤ 8 ∧ c.wf c.most) (wl : Nat) : Call tab wl 33 [.ptr f 0 0] H nx fun r H' nx' => (∃ b, r = .bool b ∧ (b = true → Fine s tl l.cs)) ∧ H' = H ∧ nx' = nx := by
  refine call_solid tab_33 ?_
  unfold body33
  dsimp only [qm, qf, ql, qL, qs, qc, qk, qi, qn, qb, qB, qe, qx, qo, qg]
  simp only [start1]
  have hobj := hF.obj
  obtain ⟨S, hSs⟩ : ∃ S : Nat, s = (S : Int) := ⟨s.toNat, by have := hS.s12; omega⟩
  have hS12 : S = 1 ∨ S = 2 := by have := hS.s12; omega
  simp only [↓sd0, su0, su1, resOf, pack, eqCells, ↓reduceIte, Nat.reduceEqDiff, Nat.reduceAdd, Nat.reduceLeDiff, Nat.reduceLT, reduceCtorEq, hobj]
  refine W_count l.cs.length (fun k e lo H' n => e 0 = .ptr f 0 0 ∧ e 12 = sl 1 l.cnil (l.cs.map Cl.el) ∧ e 13 = .int .i64 l.cs.length ∧ e 14 = .int .i64 k ∧ nx ≤ n ∧ (∀ j, j < nx → H' j = H j) ∧ Fine s tl (l.cs.take k)) ?_ ?_ ?_
  · simp only [↓sd0, su0, su1, resOf, pack, eqCells, ↓reduceIte, Nat.reduceEqDiff, Nat.reduceAdd, Nat.reduceLeDiff, Nat.reduceLT, reduceCtorEq]
    exact ⟨fun _ _ => trivial, fun c hc => by simp at hc⟩
  · rintro k e lo H' n hk ⟨h0, h12, h13, h14, hn, hfr, hfin⟩
    have hcm := hg l.cs[k] (List.getElem_mem hk)
    have hwk := wrap_succ hk (by omega)
    generalize hcc : l.cs[k] = c at hcm
    obtain ⟨hc1, hc2, hc3⟩ := hcm
    have hmo := cmost_spec c (by have := hc1.1; omega) (fun f hf => by have := hc1.2 f hf; exact ⟨⟨by have := this.1.1; omega, this.1.2⟩, ⟨by have := this.2.1; omega, this.2.2⟩⟩)
    generalize hv : c.most = v at hc2 hc3 hmo
    have hmk := mkV_nat (bytes := 8) (n := v) (by omega)
    simp only [↓sd0, su0, su1, resOf, pack, eqCells, ↓reduceIte, Nat.reduceEqDiff, Nat.reduceAdd, Nat.reduceLeDiff, Nat.reduceLT, reduceCtorEq, h0, h12, h13, h14, iaddr_map hk, hcc, lt_cast hk, hmo.callK, hmk, hwk, Cl.part_el]
    have hS1 : 1 ≤ S := by omega
    have hp1 : 1 ≤ S ^ v := Nat.one_le_pow _ _ (by omega)
    have hvc : v < 1099511627776 := by omega
    refine W_down (S ^ v) (fun m e lo H' n => ∃ th, Base H nx f th v l c k e lo H' n ∧ ∃ q, m + q = S ^ v ∧ q < S ^ v ∧ H' th = some (.arr 1 (rowI (dg S v q))) ∧ ∀ p, p < q → c.brk s tl (env (dg S v p)) = false) ?_ ?_
    · refine ⟨n + 9, ⟨by simp [upd_apply, h0], by simp [upd_apply, h12], by simp [upd_apply, h13], by simp [upd_apply, h14], by simp [upd_apply], by simp [upd_apply], ⟨n + 3, by simp [upd_apply], by simp [upd_apply]⟩, by omega, by omega, fun j hj => ?_⟩, 0, by omega, by omega, ?_, fun p hp => absurd hp (by omega)⟩
      · rw [upd_other _ _ (by omega)]; exact hfr j hj
      · rw [upd_same, rowI_zeros, dg_zero hS1]
    · rintro m e lo H' n ⟨th, hB, q, hmq, hq, hth, hall⟩
      have hobj' := (hF.keep hB.fr h1 h2 h3).obj
      have hbr := fun wl nx => broken_spec (hF.keep hB.fr h1 h2 h3) hS hth (dg_length v q) hc2 (fun x hx => by rw [hSs]; exact dg_range hS1 v q x hx) c hc3 wl nx
      obtain ⟨h0, h12, h13, h14, h5, h6, ⟨m4, h4, hl4⟩, hn', ht, hfr'⟩ := hB
      have hwv : IntKind.i64.wrap ((v : Int) - 1) = (v : Int) - 1 := wrap64 (by omega) (by omega)
      cases hb : c.brk s tl (env (dg S v q))
      · rw [hb] at hbr
        simp only [↓sd0, su0, su1, resOf, pack, eqCells, ↓reduceIte, Nat.reduceEqDiff, Nat.reduceAdd, Nat.reduceLeDiff, Nat.reduceLT, reduceCtorEq, h0, h12, h13, h14, h5, h6, h4, hl4, callK_eq (hbr _ _), hwv]
        refine W_down v (fun m' e lo H' n => ∃ x : Int, e 7 = .int .i64 x ∧ x = (m' : Int) - 1 ∧ Base H nx f th v l c k e lo H' n ∧ m' ≤ v ∧ ∃ p, q + 1 = (p + 1) * S ^ (v - m') ∧ p < S ^ m' ∧ H' th = some (.arr 1 (rowI (dg S m' p ++ List.replicate (v - m') 0)))) ?_ ?_
        · exact ⟨_, upd_same _ _ _, rfl, ⟨by simp [upd_apply, h0], by simp [upd_apply, h12], by simp [upd_apply, h13], by simp [upd_apply, h14], by simp [upd_apply, h5], by simp [upd_apply, h6], ⟨m4, by simp [upd_apply, h4], hl4⟩, by omega, by omega, hfr'⟩, Nat.le_refl _, q, by simp, hq, by simpa using hth⟩
        · rintro m' e lo H' n ⟨x, h7, hx, hB, hmv, p, hpq, hps, hth⟩
          have hobj' := (hF.keep hB.fr h1 h2 h3).obj
          obtain ⟨h0, h12, h13, h14, h5, h6, ⟨m4, h4, hl4⟩, hn', ht, hfr'⟩ := hB
          cases m' with
          | zero =>
            have q1 : decide (x ≥ 0) = false := decide_eq_false (by omega)
            have q2 : decide (x < 0) = true := decide_eq_true (by omega)
            simp only [↓sd0, su0, su1, resOf, pack, eqCells, ↓reduceIte, Nat.reduceEqDiff, Nat.reduceAdd, Nat.reduceLeDiff, Nat.reduceLT, reduceCtorEq, dr0, Nat.reducePow, Nat.reduceDiv, Nat.reduceMod, Nat.reduceBEq, h0, h12, h13, h14, h5, h6, h7, q1, q2, hwk]
            refine ⟨by omega, hfr', fun c' hc' xs hxl hxr => ?_⟩
            rw [take_one hk] at hc'
            rcases List.mem_append.1 hc' with h | h
            · exact hfin c' h xs hxl hxr
            · simp at h
              rw [hcc] at h
              subst h
              obtain ⟨p', hp', rfl⟩ := dg_cover hS1 v xs (by rw [hxl, hv]) (by rw [← hSs]; exact hxr)
              have hp0 : p = 0 := by simpa using hps
              subst hp0
              simp only [Nat.sub_zero, Nat.zero_add, Nat.one_mul] at hpq
              rcases Nat.lt_or_ge p' q with h | h
              · exact hall p' h
              · obtain rfl : p' = q := by omega
                exact hb
          | succ m' =>
            obtain rfl : x = (m' : Int) := by omega
            have q1 : decide ((m' : Int) ≥ 0) = true := decide_eq_true (by omega)
            have q2 : decide ((m' : Int) < 0) = false := decide_eq_false (by omega)
            have hia := iaddr_lref (i := m') (n := v) hth (by omega)
            have hget := rowI_get (dg_get (S := S) (m := m') (p := p) (j := v - (m' + 1)))
            have hws : IntKind.i64.wrap (s - 1) = s - 1 := wrap64 (by omega) (by omega)
            have hwm : IntKind.i64.wrap ((m' : Int) - 1) = (m' : Int) - 1 := wrap64 (by omega) (by omega)
            have hwl : nx ≤ th := ht.1
            have hmod := Nat.mod_lt p (by omega : 0 < S)
            cases q3 : (((p % S : Nat) : Int) == s - 1)
            · have hwp : IntKind.i64.wrap (((p % S : Nat) : Int) + 1) = ((p % S : Nat) : Int) + 1 := wrap64 (by omega) (by omega)
              simp only [↓sd0, su0, su1, resOf, pack, eqCells, ↓reduceIte, Nat.reduceEqDiff, Nat.reduceAdd, Nat.reduceLeDiff, Nat.reduceLT, reduceCtorEq, dr0, Nat.reducePow, Nat.reduceDiv, Nat.reduceMod, Nat.reduceBEq, h0, h12, h13, h14, h5, h6, h7, q1, q2, q3, hia, hth, hget, hobj', hws, hwl, hwp]
              have q3' : p % S + 1 ≠ S := by
                intro h
                have : (((p % S : Nat) : Int) == s - 1) = true := by rw [hSs]; simp; omega
                rw [this] at q3; exact absurd q3 (by simp)
              obtain ⟨hd1, hd2⟩ := dg_one hS1 m' p q3'
              have hlt : p + 1 < S ^ (m' + 1) := by omega
              have hjv : m' + 1 + (v - (m' + 1)) = v := by omega
              have hq1 : q + 1 < S ^ v := by
                rw [hpq, ← hjv, Nat.pow_add]
                rw [show m' + 1 + (v - (m' + 1)) - (m' + 1) = v - (m' + 1) by omega]
                exact Nat.mul_lt_mul_of_pos_right hlt (Nat.pow_pos (by omega))
              refine ⟨m - 1, by omega, th, ⟨by simp [upd_apply, h0], by simp [upd_apply, h12], by simp [upd_apply, h13], by simp [upd_apply, h14], by simp [upd_apply, h5], by simp [upd_apply, h6], ⟨m4, by simp [upd_apply, h4], hl4⟩, by omega, by omega, fun j hj => frame hfr' ht.1 hj⟩, q + 1, by omega, hq1, ?_, fun p' hp' => ?_⟩
              · simp only [upd_apply, if_true]
                rw [rowI_set, dg_set, ← hd1, ← dg_zeros hS1, hjv, ← hpq]
              · rcases Nat.lt_or_ge p' q with h | h
                · exact hall p' h
                · obtain rfl : p' = q := by omega
                  exact hb
            · simp only [↓sd0, su0, su1, resOf, pack, eqCells, ↓reduceIte, Nat.reduceEqDiff, Nat.reduceAdd, Nat.reduceLeDiff, Nat.reduceLT, reduceCtorEq, dr0, Nat.reducePow, Nat.reduceDiv, Nat.reduceMod, Nat.reduceBEq, h0, h12, h13, h14, h5, h6, h7, q1, q2, q3, hia, hth, hget, hobj', hws, hwl, hwm]
              have q3' : p % S + 1 = S := by
                have := of_decide_eq_true q3
                rw [hSs] at this; omega
              have hpS : p + 1 = (p / S + 1) * S := by
                have := Nat.div_add_mod p S
                rw [Nat.add_mul, Nat.mul_comm (p / S)]; omega
              refine ⟨m', by omega, _, rfl, rfl, ⟨by simp [upd_apply, h0], by simp [upd_apply, h12], by simp [upd_apply, h13], by simp [upd_apply, h14], by simp [upd_apply, h5], by simp [upd_apply, h6], ⟨m4, by simp [upd_apply, h4], hl4⟩, by omega, by omega, fun j hj => frame hfr' ht.1 hj⟩, by omega, p / S, ?_, ?_, ?_⟩
              · rw [hpq, hpS, Nat.mul_assoc, Nat.mul_comm S, ← Nat.pow_succ]; congr 2; omega
              · rw [Nat.pow_succ] at hps
                exact Nat.div_lt_of_lt_mul (by rw [Nat.mul_comm]; exact hps)
              · rw [rowI_set, dg_set, List.append_assoc]
                rw [show v - m' = v - (m' + 1) + 1 by omega, List.replicate_succ]; rfl
      · rw [hb] at hbr
        simp only [↓sd0, su0, su1, resOf, pack, eqCells, ↓reduceIte, Nat.reduceEqDiff, Nat.reduceAdd, Nat.reduceLeDiff, Nat.reduceLT, reduceCtorEq, h0, h12, h13, h14, h5, h6, h4, hl4, callK_eq (hbr _ _)]
        exact ⟨false, rfl, fun h => absurd h (by simp)⟩
  · rintro e lo H' n ⟨h0, h12, h13, h14, hn, hfr, hfin⟩
    rw [List.take_length] at hfin
    simp only [↓sd0, su0, su1, resOf, pack, eqCells, ↓reduceIte, Nat.reduceEqDiff, Nat.reduceAdd, Nat.reduceLeDiff, Nat.reduceLT, reduceCtorEq, h0, h12, h13, h14]
    exact ⟨true, rfl, fun _ => hfin⟩

end Go.Proofs.Ytmbdccekcfeomaa.Am
end
/- The search for a table. -/
section
open Go
namespace Go.Proofs.Ytmbdccekcfeomaa.Am
set_option linter.unusedSimpArgs false
set_option linter.unusedVariables false
set_option maxRecDepth 20000

structure FI (lo n f ta : Nat) (ids : Nat → Nat) : Prop where
  lo' : lo ≤ f ∧ lo ≤ ta ∧ ∀ k, k < 3 → lo ≤ ids k
  lt : f < n ∧ ta < n ∧ ∀ k, k < 3 → ids k < n
  ne : f ≠ ta ∧ ∀ k, k < 3 → f ≠ ids k ∧ ta ≠ ids k
  inj : ∀ j k, j < 3 → k < 3 → j ≠ k → ids j ≠ ids k
theorem FI.mono {lo n n' f ta : Nat} {ids : Nat → Nat} (h : FI lo n f ta ids) (hn : n ≤ n') : FI lo n' f ta ids :=
  { lo' := h.lo', lt := ⟨by have := h.lt; omega, by have := h.lt; omega, fun k hk => by have := h.lt.2.2 k hk; omega⟩, ne := h.ne, inj := h.inj }
def setT (tl : List (List Int)) (i j : Nat) (y : Int) : List (List Int) := tl.set i ((tl.getD i []).set j y)
theorem setT_length (tl : List (List Int)) (i j : Nat) (y : Int) : (setT tl i j y).length = tl.length := by simp [setT]
theorem setT_row {tl : List (List Int)} {i : Nat} (j : Nat) (y : Int) (hi : i < tl.length) (k : Nat) : (setT tl i j y).getD k [] = if k = i then (tl.getD i []).set j y else tl.getD k [] := by
  unfold setT
  simp only [List.getD_eq_getElem?_getD, List.getElem?_set]
  by_cases h : i = k
  · subst h; simp [hi]
  · rw [if_neg h, if_neg (fun e => h e.symm)]
theorem setT_rowlen {tl : List (List Int)} {i : Nat} (j : Nat) (y : Int) (hi : i < tl.length) (k : Nat) : ((setT tl i j y).getD k []).length = (tl.getD k []).length := by
  rw [setT_row j y hi]; split
  · rename_i h; subst h; simp
  · rfl
theorem Shp.set {s : Int} {tl : List (List Int)} (h : Shp s tl) {i : Nat} (j : Nat) {y : Int} (hi : i < 3) (hy : -1 ≤ y ∧ y < s) : Shp s (setT tl i j y) where
  s12 := h.s12
  len := by rw [setT_length]; exact h.len
  row k hk := by rw [setT_rowlen j y (by rw [h.len]; exact hi)]; exact h.row k hk
  cell r hr x hx := by
    unfold setT at hr
    rcases List.mem_or_eq_of_mem_set hr with h1 | h1
    · exact h.cell r h1 x hx
    · subst h1
      rcases List.mem_or_eq_of_mem_set hx with h2 | h2
      · refine h.cell (tl.getD i []) ?_ x h2
        rw [List.getD_eq_getElem?_getD, List.getElem?_eq_getElem (by rw [h.len]; exact hi)]
        exact List.getElem_mem _
      · subst h2; exact hy
theorem Fnd.put {H : Nat → Option Obj} {lo n f ta : Nat} {es : List AV} {ids : Nat → Nat} {l : Lo} {s fuel : Int} {tl : List (List Int)} (h : Fnd H f ta es ids l s fuel tl) (hS : Shp s tl) (hI : FI lo n f ta ids) {i : Nat} (j : Nat) (y : Int) (hi : i < 3) :
    Fnd (upd H (ids i) (some (.arr 1 (rowI ((tl.getD i []).set j y))))) f ta es ids l s fuel (setT tl i j y) where
  obj := by rw [upd_other _ _ (hI.ne.2 i hi).1, setT_length]; exact h.obj
  tel := by rw [upd_other _ _ (hI.ne.2 i hi).2]; exact h.tel
  el := by rw [setT_length]; exact h.el
  get k hk := by rw [setT_rowlen j y (by rw [hS.len]; exact hi)]; exact h.get k (by rw [setT_length] at hk; exact hk)
  row k hk := by
    rw [setT_length] at hk
    rw [setT_row j y (by rw [hS.len]; exact hi)]
    by_cases e : k = i
    · subst e; rw [if_pos rfl, upd_same]
    · rw [if_neg e, upd_other _ _ (hI.inj k i (by rw [hS.len] at hk; exact hk) hi e)]; exact h.row k hk
theorem Fnd.fuel {H : Nat → Option Obj} {lo n f ta : Nat} {es : List AV} {ids : Nat → Nat} {l : Lo} {s fuel : Int} {tl : List (List Int)} (h : Fnd H f ta es ids l s fuel tl) (hS : Shp s tl) (hI : FI lo n f ta ids) (x : Int) :
    Fnd (upd H f (some (.arr 5 [.agg [ints l.anil l.ar, sl 1 l.cnil (l.cs.map Cl.el), .int .i64 s, .lref ta 0 tl.length, .int .i64 x]]))) f ta es ids l s x tl where
  obj := upd_same _ _ _
  tel := by rw [upd_other _ _ hI.ne.1.symm]; exact h.tel
  el := h.el
  get := h.get
  row k hk := by rw [upd_other _ _ (hI.ne.2 k (by rw [hS.len] at hk; exact hk)).1.symm]; exact h.row k hk
/-- The cells ahead of a place are set. -/
def Setb (tl : List (List Int)) (sg cell : Nat) : Prop := ∀ i j, (i < sg ∨ (i = sg ∧ j < cell)) → j < (tl.getD i []).length → 0 ≤ (tl.getD i []).getD j 0
theorem Setb.next {tl : List (List Int)} {sg : Nat} (h : Setb tl sg (tl.getD sg []).length) : Setb tl (sg + 1) 0 := fun i j hij hj => by
  rcases hij with h1 | ⟨h1, h2⟩
  · rcases Nat.lt_or_ge i sg with h3 | h3
    · exact h i j (Or.inl h3) hj
    · obtain rfl : i = sg := by omega
      exact h i j (Or.inr ⟨rfl, hj⟩) hj
  · omega
theorem Setb.back {tl : List (List Int)} {sg cell : Nat} (h : Setb tl (sg + 1) 0) : Setb tl sg cell := fun i j hij hj => h i j (by omega) hj
theorem Setb.less {tl : List (List Int)} {sg cell : Nat} (h : Setb tl sg (cell + 1)) : Setb tl sg cell := fun i j hij hj => h i j (by omega) hj
theorem Setb.put {tl : List (List Int)} {sg cell : Nat} {y : Int} (h : Setb tl sg cell) (hs : sg < tl.length) (hy : 0 ≤ y) : Setb (setT tl sg cell y) sg (cell + 1) := fun i j hij hj => by
  rw [setT_rowlen cell y hs] at hj
  rw [setT_row cell y hs]
  by_cases e : i = sg
  · subst e
    rw [if_pos rfl, List.getD_eq_getElem?_getD, List.getElem?_set]
    by_cases e2 : cell = j
    · subst e2; rw [if_pos rfl, if_pos hj]; exact hy
    · rw [if_neg e2, ← List.getD_eq_getElem?_getD]
      exact h i j (by omega) hj
  · rw [if_neg e]; exact h i j (by omega) hj
theorem Setb.same {tl : List (List Int)} {sg cell : Nat} {y : Int} (h : Setb tl sg cell) (hs : sg < tl.length) : Setb (setT tl sg cell y) sg cell := fun i j hij hj => by
  rw [setT_rowlen cell y hs] at hj
  rw [setT_row cell y hs]
  by_cases e : i = sg
  · subst e
    rw [if_pos rfl, List.getD_eq_getElem?_getD, List.getElem?_set]
    have : cell ≠ j := by omega
    rw [if_neg this, ← List.getD_eq_getElem?_getD]
    exact h i j (by omega) hj
  · rw [if_neg e]; exact h i j (by omega) hj
theorem Setb.full {s : Int} {tl : List (List Int)} {cell : Nat} (h : Setb tl 3 cell) (hS : Shp s tl) : Full s tl := by
  refine ⟨by have := hS.s12; omega, fun row hr x hx => ⟨?_, (hS.cell row hr x hx).2⟩⟩
  obtain ⟨i, hi, rfl⟩ := List.getElem_of_mem hr
  obtain ⟨j, hj, rfl⟩ := List.getElem_of_mem hx
  have e : tl.getD i [] = tl[i] := by rw [List.getD_eq_getElem?_getD, List.getElem?_eq_getElem hi]; rfl
  have := h i j (Or.inl (by rw [hS.len] at hi; exact hi)) (by rw [e]; exact hj)
  rw [e, List.getD_eq_getElem?_getD, List.getElem?_eq_getElem hj] at this
  exact this
def rest (s : Int) : Nat → Int
  | 0 => s + s * s + 4
  | 1 => s + s * s + 2
  | 2 => s * s + 1
  | _ => 0
theorem rest_next {s : Int} (hs : s = 1 ∨ s = 2) {sg : Nat} (h : sg < 3) : 0 ≤ rest s (sg + 1) ∧ rest s (sg + 1) < rest s sg - s ^ sg := by
  have : sg = 0 ∨ sg = 1 ∨ sg = 2 := by omega
  rcases hs with rfl | rfl <;> rcases this with rfl | rfl | rfl <;> decide
theorem ne12 : ((1 : Int) != 2) = true := by decide
theorem ne22 : ((2 : Int) != 2) = false := by decide
theorem ne32 : ((3 : Int) != 2) = true := by decide
/-- What a search leaves. -/
structure FP (lo f ta : Nat) (es : List AV) (ids : Nat → Nat) (l : Lo) (s : Int) (H : Nat → Option Obj) (nx : Nat) (H' : Nat → Option Obj) (nx' : Nat) (tl' : List (List Int)) (fuel' : Int) : Prop where
  fnd : Fnd H' f ta es ids l s fuel' tl'
  shp : Shp s tl'
  fu : 0 ≤ fuel' ∧ fuel' ≤ 2000
  le : nx ≤ nx'
  fr : ∀ j, j < nx → j ≠ f → (∀ k, k < 3 → j ≠ ids k) → H' j = H j

theorem from_spec {lo f ta : Nat} {es : List AV} {ids : Nat → Nat} {l : Lo} {s : Int} (hcl : l.cs.length < 4294967296) (hg : ∀ c ∈ l.cs, c.good ∧ c.most ≤ 8 ∧ c.wf c.most) :
    ∀ (m : Nat) (sg cell : Nat) (H : Nat → Option Obj) (nx wl : Nat) (tl : List (List Int)) (fuel : Int), rest s sg - cell ≤ m → Fnd H f ta es ids l s fuel tl → Shp s tl → 0 ≤ fuel ∧ fuel ≤ 2000 → sg ≤ 3 → (sg < 3 → cell ≤ (tl.getD sg []).length) → Setb tl sg cell → Fine s tl l.cs → FI lo nx f ta ids → wl ≤ lo →
    Call tab wl 34 [.ptr f 0 0, .int .i64 sg, .int .i64 cell] H nx fun r H' nx' => ∃ tl' fuel', FP lo f ta es ids l s H nx H' nx' tl' fuel' ∧ ((r = .int .i64 1 ∧ Full s tl' ∧ Fine s tl' l.cs) ∨ (r = .int .i64 2 ∧ Setb tl' sg cell) ∨ r = .int .i64 3) := by
  intro m
  induction m using Nat.strongRecOn with
  | _ m ih =>
    intro sg cell H nx wl tl fuel hm hF hS hfu hsg hce hsb hfi hI hwl
    refine call_mut tab_34 ?_
    unfold body34
    dsimp only [qm, qf, ql, qL, qs, qc, qk, qi, qn, qb, qB, qe, qx, qo, qg]
    simp only [start3]
    have hobj := hF.obj
    have hlen := hS.len
    by_cases c3 : sg = 3
    · have q1 : ((sg : Int) == (tl.length : Int)) = true := by simp; omega
      simp only [↓sd0, su0, su1, resOf, pack, eqCells, ↓reduceIte, Nat.reduceEqDiff, Nat.reduceAdd, Nat.reduceLeDiff, Nat.reduceLT, reduceCtorEq, hobj, q1]
      subst c3
      exact ⟨tl, fuel, ⟨hF, hS, hfu, by omega, fun _ _ _ _ => rfl⟩, Or.inl ⟨hsb.full hS, hfi⟩⟩
    · have q1 : ((sg : Int) == (tl.length : Int)) = false := by simp; omega
      have hsg3 : sg < 3 := by omega
      have hce' := hce hsg3
      have hia1 := iaddr_lref (i := sg) (n := tl.length) hF.tel (by omega)
      have hg1 := hF.get sg (by omega)
      have hrl := hS.row sg hsg3
      have hrn := rest_next hS.s12 hsg3
      have hpb := pow_bound hS.s12 sg (by omega)
      by_cases cl : cell = (tl.getD sg []).length
      · have q2 : ((cell : Int) == ((tl.getD sg []).length : Int)) = true := beq_iff_eq.2 (by omega)
        have hws := wrap_succ hsg3 (by omega)
        simp only [↓sd0, su0, su1, resOf, pack, eqCells, ↓reduceIte, Nat.reduceEqDiff, Nat.reduceAdd, Nat.reduceLeDiff, Nat.reduceLT, reduceCtorEq, hobj, q1, hia1, hF.tel, hg1, q2, hws, part_lref]
        refine CallK_of (ih (rest s (sg + 1)).toNat (by omega) (sg + 1) 0 H (nx + 25) wl tl fuel (by omega) hF hS hfu (by omega) (fun _ => Nat.zero_le _) (by subst cl; exact hsb.next) hfi (hI.mono (by omega)) hwl) ?_
        rintro r H' nx' ⟨tl', fuel', hP, hR⟩
        have hP' : FP lo f ta es ids l s H nx H' nx' tl' fuel' := ⟨hP.fnd, hP.shp, hP.fu, by have := hP.le; omega, fun j hj a b => hP.fr j (by omega) a b⟩
        rcases hR with ⟨rfl, hR1, hR2⟩ | ⟨rfl, hR⟩ | rfl
        · simp only [↓sd0, su0, su1, resOf, pack, eqCells, ↓reduceIte, Nat.reduceEqDiff, Nat.reduceAdd, Nat.reduceLeDiff, Nat.reduceLT, reduceCtorEq]; exact ⟨tl', fuel', hP', Or.inl ⟨hR1, hR2⟩⟩
        · simp only [↓sd0, su0, su1, resOf, pack, eqCells, ↓reduceIte, Nat.reduceEqDiff, Nat.reduceAdd, Nat.reduceLeDiff, Nat.reduceLT, reduceCtorEq]; exact ⟨tl', fuel', hP', Or.inr (Or.inl hR.back)⟩
        · simp only [↓sd0, su0, su1, resOf, pack, eqCells, ↓reduceIte, Nat.reduceEqDiff, Nat.reduceAdd, Nat.reduceLeDiff, Nat.reduceLT, reduceCtorEq]; exact ⟨tl', fuel', hP', Or.inr (Or.inr trivial)⟩
      · have q2 : ((cell : Int) == ((tl.getD sg []).length : Int)) = false := beq_eq_false_iff_ne.2 (by omega)
        obtain ⟨S, hSs⟩ : ∃ S : Nat, s = (S : Int) := ⟨s.toNat, by have := hS.s12; omega⟩
        simp only [↓sd0, su0, su1, resOf, pack, eqCells, ↓reduceIte, Nat.reduceEqDiff, Nat.reduceAdd, Nat.reduceLeDiff, Nat.reduceLT, reduceCtorEq, hobj, q1, hia1, hF.tel, hg1, q2, part_lref]
        refine W_count S (fun k e lo' H' n => e 0 = .ptr f 0 0 ∧ e 1 = .int .i64 sg ∧ e 2 = .int .i64 cell ∧ e 36 = .int .i64 s ∧ e 37 = .int .i64 k ∧ ∃ tl' fuel', FP lo f ta es ids l s H nx H' n tl' fuel' ∧ Setb tl' sg cell) ?_ ?_ ?_
        · simp only [↓sd0, su0, su1, resOf, pack, eqCells, ↓reduceIte, Nat.reduceEqDiff, Nat.reduceAdd, Nat.reduceLeDiff, Nat.reduceLT, reduceCtorEq]; exact ⟨tl, fuel, ⟨hF, hS, hfu, by omega, fun _ _ _ _ => rfl⟩, hsb⟩
        · rintro k e lo' H' n hk ⟨h0, h1, h2, h36, h37, tl', fuel', hP, hsb'⟩
          have hobj' := hP.fnd.obj
          have q3 : decide ((k : Int) < s) = true := decide_eq_true (by omega)
          have hwk := wrap_succ hk (by have := hS.s12; omega)
          by_cases cf : fuel' = 0
          · have q4 : (fuel' == 0) = true := by simp [cf]
            simp only [↓sd0, su0, su1, resOf, pack, eqCells, ↓reduceIte, Nat.reduceEqDiff, Nat.reduceAdd, Nat.reduceLeDiff, Nat.reduceLT, reduceCtorEq, h0, h1, h2, h36, h37, q3, hobj', q4]
            exact ⟨tl', fuel', ⟨hP.fnd, hP.shp, hP.fu, by have := hP.le; omega, hP.fr⟩, Or.inr (Or.inr trivial)⟩
          · have q4 : (fuel' == 0) = false := by simp [cf]
            have hfu' := hP.fu
            have hwf : IntKind.i64.wrap (fuel' - 1) = fuel' - 1 := wrap64 (by omega) (by omega)
            have hS' := hP.shp
            have hlen' := hS'.len
            have hI' := hI.mono hP.le
            have hrl' := hS'.row sg hsg3
            have hce2 : cell < (tl'.getD sg []).length := by omega
            have hF1 := hP.fnd.fuel hS' hI' (fuel' - 1)
            have hia2 := iaddr_lref (i := sg) (n := tl'.length) hF1.tel (by omega)
            have hg2 := hP.fnd.get sg (by omega)
            have hr2 := hF1.row sg (by omega)
            have hia3 := iaddr_lref (i := cell) (n := (tl'.getD sg []).length) hr2 hce2
            have hgr := rowI_get (List.getElem?_eq_getElem hce2)
            have hF2 := hF1.put hS' hI' cell (k : Int) hsg3
            have hS2 := hS'.set cell hsg3 (y := (k : Int)) (by omega)
            have w1 : wl ≤ f := by have := hI.lo'; omega
            have w2 : wl ≤ ids sg := by have := hI.lo'.2.2 sg hsg3; omega
            have nf := hI.ne.1.symm
            have nr := (hI.ne.2 sg hsg3).1.symm
            have htel := hP.fnd.tel
            have hrow := hP.fnd.row sg (by omega)
            simp only [↓sd0, su0, su1, resOf, pack, eqCells, ↓reduceIte, Nat.reduceEqDiff, Nat.reduceAdd, Nat.reduceLeDiff, Nat.reduceLT, reduceCtorEq, h0, h1, h2, h36, h37, q3, hobj', q4, hwf, w1, w2, List.set_cons_zero, hia2, hia3, nf, nr, htel, hg2, hrow, hgr, rowI_set, part_lref]
            have hfr2 : ∀ (a b : Option Obj) (j : Nat), j < nx → j ≠ f → (∀ k, k < 3 → j ≠ ids k) → upd (upd H' f a) (ids sg) b j = H j := fun a b j hj c d => by
              rw [upd_other _ _ (d sg hsg3), upd_other _ _ c]; exact hP.fr j hj c d
            refine CallK_of (fine_spec hF2 hS2 (by have := hI'.lt; omega) (by have := hI'.lt; omega) (fun k hk => by rw [setT_length] at hk; have := hI'.lt.2.2 k (by omega); omega) hcl hg wl) ?_
            rintro r H3 n3 ⟨⟨b, rfl, hb⟩, rfl, rfl⟩
            cases b
            · simp only [↓sd0, su0, su1, resOf, pack, eqCells, ↓reduceIte, Nat.reduceEqDiff, Nat.reduceAdd, Nat.reduceLeDiff, Nat.reduceLT, reduceCtorEq, h0, h1, h2, h36, h37, hwk]
              exact ⟨setT tl' sg cell k, fuel' - 1, ⟨hF2, hS2, by omega, by have := hP.le; omega, hfr2 _ _⟩, hsb'.same (by omega)⟩
            · have hwc := wrap_succ hce2 (by omega)
              simp only [↓sd0, su0, su1, resOf, pack, eqCells, ↓reduceIte, Nat.reduceEqDiff, Nat.reduceAdd, Nat.reduceLeDiff, Nat.reduceLT, reduceCtorEq, h0, h1, h2, h36, h37, hwc]
              refine CallK_of (ih (rest s sg - (cell + 1 : Nat)).toNat (by omega) sg (cell + 1) _ _ wl (setT tl' sg cell k) (fuel' - 1) (by omega) hF2 hS2 (by omega) hsg (fun _ => by rw [setT_rowlen cell k (by omega)]; omega) (hsb'.put (by omega) (by omega)) (hb rfl) (hI'.mono (by omega)) hwl) ?_
              rintro r H4 n4 ⟨tl4, fuel4, hP4, hR⟩
              have hP' : ∀ n', n4 ≤ n' → FP lo f ta es ids l s H nx H4 n' tl4 fuel4 := fun n' hn' => ⟨hP4.fnd, hP4.shp, hP4.fu, by have := hP4.le; have := hP.le; omega, fun j hj a b => by rw [hP4.fr j (by have := hP.le; omega) a b]; exact hfr2 _ _ j hj a b⟩
              rcases hR with ⟨rfl, hR1, hR2⟩ | ⟨rfl, hR⟩ | rfl
              · simp only [↓sd0, su0, su1, resOf, pack, eqCells, ↓reduceIte, Nat.reduceEqDiff, Nat.reduceAdd, Nat.reduceLeDiff, Nat.reduceLT, reduceCtorEq, ne12]; exact ⟨tl4, fuel4, hP' _ (by omega), Or.inl ⟨hR1, hR2⟩⟩
              · simp only [↓sd0, su0, su1, resOf, pack, eqCells, ↓reduceIte, Nat.reduceEqDiff, Nat.reduceAdd, Nat.reduceLeDiff, Nat.reduceLT, reduceCtorEq, ne22, h0, h1, h2, h36, h37, hwk]; exact ⟨tl4, fuel4, hP' _ (by omega), hR.less⟩
              · simp only [↓sd0, su0, su1, resOf, pack, eqCells, ↓reduceIte, Nat.reduceEqDiff, Nat.reduceAdd, Nat.reduceLeDiff, Nat.reduceLT, reduceCtorEq, ne32]; exact ⟨tl4, fuel4, hP' _ (by omega), Or.inr (Or.inr trivial)⟩
        · rintro e lo' H' n ⟨h0, h1, h2, h36, h37, tl', fuel', hP, hsb'⟩
          have q3 : decide ((S : Int) < s) = false := decide_eq_false (by omega)
          have hobj' := hP.fnd.obj
          have hS' := hP.shp
          have hlen' := hS'.len
          have hI' := hI.mono hP.le
          have hrl' := hS'.row sg hsg3
          have hce2 : cell < (tl'.getD sg []).length := by omega
          have hia2 := iaddr_lref (i := sg) (n := tl'.length) hP.fnd.tel (by omega)
          have hg2 := hP.fnd.get sg (by omega)
          have hrow := hP.fnd.row sg (by omega)
          have hia3 := iaddr_lref (i := cell) (n := (tl'.getD sg []).length) hrow hce2
          have hgr := rowI_get (List.getElem?_eq_getElem hce2)
          have hF2 := hP.fnd.put hS' hI' cell (-1) hsg3
          have hS2 := hS'.set cell hsg3 (y := -1) (by have := hS.s12; omega)
          have w2 : wl ≤ ids sg := by have := hI.lo'.2.2 sg hsg3; omega
          simp only [↓sd0, su0, su1, resOf, pack, eqCells, ↓reduceIte, Nat.reduceEqDiff, Nat.reduceAdd, Nat.reduceLeDiff, Nat.reduceLT, reduceCtorEq, h0, h1, h2, h36, h37, q3, hobj', w2, hia2, hia3, hP.fnd.tel, hg2, hrow, hgr, rowI_set, part_lref]
          exact ⟨setT tl' sg cell (-1), fuel', ⟨hF2, hS2, hP.fu, by have := hP.le; omega, fun j hj a b => by rw [upd_other _ _ (b sg hsg3)]; exact hP.fr j hj a b⟩, Or.inr (Or.inl (hsb'.same (by omega)))⟩

end Go.Proofs.Ytmbdccekcfeomaa.Am
end
