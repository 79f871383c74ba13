/- Structs compared and built, maps asked: the model does what the abstract machine does. -/
import Derived.Test.YtmbdccekcfeomaaT06
import Derived.Laws.Tables
import Derived.Laws.MakeOwn
section
namespace Go.Proofs.Ytmbdccekcfeomaa.Am
set_option linter.unusedVariables false
set_option linter.unusedSimpArgs false
set_option linter.unnecessarySimpa false

theorem put_length {α : Type} : ∀ (cs : List α) (n : Nat) (vs : List α), (put cs n vs).length = cs.length
  | [], 0, [] => rfl
  | [], 0, _ :: _ => rfl
  | [], _ + 1, _ => by cases ‹List α› <;> rfl
  | _ :: _, 0, [] => rfl
  | _ :: cs, 0, _ :: vs => by simp [put, put_length cs 0 vs]
  | _ :: cs, n + 1, vs => by simp [put, put_length cs n vs]

theorem put_get {α : Type} : ∀ (cs : List α) (n : Nat) (vs : List α) (j : Nat), n + vs.length ≤ cs.length → (put cs n vs)[j]? = if n ≤ j ∧ j < n + vs.length then vs[j - n]? else cs[j]?
  | cs, 0, [], j, h => by
    have : put cs 0 [] = cs := by cases cs <;> rfl
    rw [this, if_neg (by simp)]
  | [], 0, _ :: _, j, h => by simp at h
  | [], n + 1, vs, j, h => by simp at h
  | c :: cs, 0, v :: vs, j, h => by
    simp only [put]
    cases j with
    | zero => simp
    | succ j =>
      rw [List.getElem?_cons_succ, put_get cs 0 vs j (by simp at h ⊢; omega)]
      simp only [Nat.zero_le, true_and, Nat.zero_add, List.length_cons, Nat.add_lt_add_iff_right, Nat.sub_zero, List.getElem?_cons_succ]
  | c :: cs, n + 1, vs, j, h => by
    simp only [put]
    cases j with
    | zero => simp
    | succ j =>
      rw [List.getElem?_cons_succ, put_get cs n vs j (by simp at h ⊢; omega)]
      have e : n + 1 + vs.length = n + vs.length + 1 := by omega
      simp only [e, Nat.add_le_add_iff_right, Nat.add_lt_add_iff_right, Nat.add_sub_add_right, List.getElem?_cons_succ]

theorem fold_put (vs : Array Value) : ∀ (us : Array Value) (off : Nat), off + vs.size ≤ us.size → (vs.zipIdx.foldl (fun cs (c, j) => cs.setIfInBounds (off + j) c) us).toList = put us.toList off vs.toList := by
  obtain ⟨vs⟩ := vs
  intro us off h
  simp only [List.size_toArray] at h
  have key : ∀ (vs : List Value) (k : Nat) (us : Array Value), off + k + vs.length ≤ us.size → ((vs.zipIdx k).foldl (fun cs (c, j) => cs.setIfInBounds (off + j) c) us).toList = put us.toList (off + k) vs := by
    intro vs
    induction vs with
    | nil =>
      intro k us h
      simp only [List.zipIdx_nil, List.foldl_nil]
      apply List.ext_getElem?
      intro j
      rw [put_get _ _ _ _ (by simpa using h), if_neg (by simp)]
    | cons v vs ih =>
      intro k us h
      simp only [List.length_cons] at h
      simp only [List.zipIdx_cons, List.foldl_cons]
      rw [ih (k + 1) _ (by simp; omega)]
      apply List.ext_getElem?
      intro j
      rw [put_get _ _ _ _ (by simp; omega), put_get _ _ _ _ (by simp; omega)]
      simp only [Array.toList_setIfInBounds, List.length_cons]
      by_cases h1 : off + (k + 1) ≤ j ∧ j < off + (k + 1) + vs.length
      · rw [if_pos h1, if_pos (by omega)]
        have e : j - (off + k) = (j - (off + (k + 1))) + 1 := by omega
        rw [e, List.getElem?_cons_succ]
      · rw [if_neg h1]
        by_cases h2 : j = off + k
        · subst h2
          rw [if_pos (by omega), Nat.sub_self]
          have hlt : off + k < us.size := by omega
          simp [hlt]
        · rw [if_neg (by omega)]
          rw [List.getElem?_set_ne (by omega)]
  have := key vs 0 us (by simpa using h)
  simpa using this

section
variable {P : Program} {src : Nat → Nat} {K : Ctx} {a : Act} {w : World} {env : Nat → AV}

theorem RepL_put {cs vs : List AV} {us ws : List Value} (h : RepL K cs us) (h' : RepL K vs ws) {off : Nat} (hle : off + vs.length ≤ cs.length) : RepL K (put cs off vs) (put us off ws) := by
  have l1 := RepL_length h
  have l2 := RepL_length h'
  refine RepL_mk (by rw [put_length, put_length, l1]) fun i v u hv hu => ?_
  rw [put_get _ _ _ _ hle] at hv
  rw [put_get _ _ _ _ (by omega)] at hu
  rw [← l2] at hu
  split at hv
  · rename_i hc
    rw [if_pos hc] at hu
    obtain ⟨u', hu', hr⟩ := RepL_get h' hv
    rw [hu] at hu'; cases hu'; exact hr
  · rename_i hc
    rw [if_neg hc] at hu
    obtain ⟨u', hu', hr⟩ := RepL_get h hv
    rw [hu] at hu'; cases hu'; exact hr

/-- Cells that are filled are what the abstract machine fills. -/
theorem fill_rep (hs : K.src = src) (he : Env K env a.tmps) (place : Nat → Option (Nat × Nat)) : ∀ {ps : List (Nat × Operand)} {qs : List (Nat × Nat × Opd)} {cs cs' : List AV} {us : Array Value},
    okParts src place ps qs = true → fills env cs qs = some cs' → RepL K cs us.toList →
    ∃ us', Instr.fill place us (ps.map fun (i, x) => (i, a.eval x)) = some us' ∧ RepL K cs' us'.toList ∧ ((∀ c ∈ cs, c.one = true) → ∀ c ∈ cs', c.one = true) ∧ cs'.length = cs.length
  | [], [], cs, cs', us, h, hf, hr => by
    simp only [fills, Option.some.injEq] at hf; subst hf
    exact ⟨us, by simp [Instr.fill], hr, fun h => h, rfl⟩
  | [], _ :: _, cs, cs', us, h, hf, hr => by simp [okParts] at h
  | _ :: _, [], cs, cs', us, h, hf, hr => by simp [okParts] at h
  | (i, x) :: ps, (off, sz, y) :: qs, cs, cs', us, h, hf, hr => by
    simp only [okParts, Bool.and_eq_true] at h
    obtain ⟨⟨h1, h2⟩, h3⟩ := h
    simp only [fills] at hf
    split at hf
    · rename_i hc
      obtain ⟨c1, c2, c3⟩ := hc
      have rx := okOpd_rep hs he h1
      have rc := rx.cells c1
      have lc := RepL_length rc
      have lu := RepL_length hr
      simp only [Array.length_toList] at lc lu
      split at h2
      · rename_i o s hpl
        simp only [Bool.and_eq_true, beq_iff_eq] at h2
        obtain ⟨rfl, rfl⟩ := h2
        have hput := RepL_put hr rc (off := o) (by omega)
        rw [← fold_put (a.eval x).cells us o (by omega)] at hput
        obtain ⟨us', hu', hr', ho', hl'⟩ := fill_rep hs he place h3 hf hput
        refine ⟨us', ?_, hr', fun hone => ho' fun c hc => ?_, by rw [hl', put_length]⟩
        · simp only [List.map_cons, Instr.fill, hpl]
          rw [if_neg (by simp; omega)]
          exact hu'
        · obtain ⟨j, hj⟩ := List.getElem?_of_mem hc
          rw [put_get _ _ _ _ (by omega)] at hj
          split at hj
          · exact storable_cells c1 hj
          · exact hone c (List.mem_of_getElem? hj)
      · simp at h2
    · simp at hf

theorem mapM_places : ∀ {fs : List Field}, fs.all (fun f => (P.info? f.type).isSome) = true → fs.mapM (fun f => (P.info? f.type).map fun i => (f.offset, i.size)) = some (fs.map fun f => (f.offset, P.cellsOf f.type))
  | [], _ => by simp
  | f :: fs, h => by
    simp only [List.all_cons, Bool.and_eq_true] at h
    obtain ⟨i, hi⟩ := Option.isSome_iff_exists.1 h.1
    simp [List.mapM_cons, hi, mapM_places h.2, Program.cellsOf]

theorem quiet_build (hs : K.src = src) (he : Env K env a.tmps) {op : Op} {z : List AV} {qs : List (Nat × Nat × Opd)} (h : okOp P src op (.build z qs) = true) {cs : List AV} (hf : fills env z qs = some cs) : Quiet P op a w K (.agg cs) := by
  cases op <;> simp only [okOp] at h <;> try (simp at h; done)
  rename_i t ps
  simp only [Bool.and_eq_true] at h
  obtain ⟨hz, h1⟩ := h
  obtain ⟨v, i, hi, hiz, hok, hst, hlen, hrun⟩ := run_zeroValue hz
  obtain ⟨hrz, _⟩ := okConst_rep (K := K) hs hok
  simp only [Rep] at hrz
  obtain ⟨zs, rfl, hzs⟩ := hrz
  have eps : ((ps.map fun (i, x) => (i, a.eval x)).toList) = ps.toList.map fun (i, x) => (i, a.eval x) := by simp
  intro o ho
  have fin : ∀ {us'}, P.built t (ps.toList.map fun (i, x) => (i, a.eval x)) = some us' → (execOp a.eval o).run P w = .ok (.value (.agg us')) w := by
    intro us' hb
    have := run_build (P := P) w t (ps.map fun (i, x) => (i, a.eval x)) us' (by rw [eps]; exact hb)
    simp only [execOp, ho]
    rw [Sem.run_bind, this]; rfl
  split at h1
  · rename_i fs hu
    simp only [Bool.and_eq_true] at h1
    obtain ⟨h1, h2⟩ := h1
    rw [← Array.all_toList] at h1
    obtain ⟨us', hu', hr', _, _⟩ := fill_rep hs he _ h2 hf hzs
    refine ⟨.agg us', fin ?_, by simp only [Rep]; exact ⟨us', rfl, hr'⟩⟩
    simp only [Program.built, hu, hi, hiz, mapM_places h1]
    have e : (fun i : Nat => (fs.toList.map fun f => (f.offset, P.cellsOf f.type)).toArray[i]?) = fun i : Nat => (places P fs)[i]? := by funext i; simp [places]
    rw [e]
    exact hu'
  · rename_i n e hu
    simp only [Bool.and_eq_true] at h1
    obtain ⟨h1, h2⟩ := h1
    obtain ⟨ie, hie⟩ := Option.isSome_iff_exists.1 h1
    obtain ⟨us', hu', hr', _, _⟩ := fill_rep hs he _ h2 hf hzs
    refine ⟨.agg us', fin ?_, by simp only [Rep]; exact ⟨us', rfl, hr'⟩⟩
    simp only [Program.built, hu, hi, hiz, hie]
    have : P.cellsOf e = ie.size := by simp [Program.cellsOf, hie]
    rw [this] at hu'
    exact hu'
  · simp at h1

/-! ### structs compared -/

theorem eqFields_flat (d : Nat) (us vs : Array Value) : ∀ {fs : List Field} {ks : List Nat} {n : Nat} {cs ds : List AV} {b : Bool}, flat P n fs ks = true → RepL K cs (us.toList.drop n) → RepL K ds (vs.toList.drop n) → eqCells ks cs ds = some b →
    (Op.eqFields (d + 1) us vs fs).run P w = .ok b w
  | [], [], n, cs, ds, b, hf, h1, h2, hb => by
    cases cs <;> cases ds <;> simp [eqCells] at hb
    subst hb; simp [Op.eqFields]
  | [], _ :: _, n, cs, ds, b, hf, h1, h2, hb => by simp [flat] at hf
  | _ :: _, [], n, cs, ds, b, hf, h1, h2, hb => by simp [flat] at hf
  | f :: fs, k :: ks, n, cs, ds, b, hf, h1, h2, hb => by
    simp only [flat, Bool.and_eq_true, beq_iff_eq, bne_iff_ne] at hf
    obtain ⟨⟨⟨hoff, hname⟩, hty⟩, hrest⟩ := hf
    cases cs with
    | nil => cases ds <;> simp [eqCells] at hb
    | cons c cs =>
      cases ds with
      | nil => simp [eqCells] at hb
      | cons c' ds =>
        simp only [RepL] at h1 h2
        obtain ⟨u, us', e1, r1, l1⟩ := h1
        obtain ⟨v, vs', e2, r2, l2⟩ := h2
        have gu : us[n]? = some u := by
          have : (us.toList.drop n)[0]? = some u := by rw [e1]; rfl
          simpa using this
        have gv : vs[n]? = some v := by
          have : (vs.toList.drop n)[0]? = some v := by rw [e2]; rfl
          simpa using this
        have tu : us.toList.drop (n + 1) = us' := by rw [← List.drop_drop, e1]; rfl
        have tv : vs.toList.drop (n + 1) = vs' := by rw [← List.drop_drop, e2]; rfl
        have nag : aggIs P f.type false = true := by
          unfold aggIs
          cases hu : P.underlying f.type with
          | none => rw [hu] at hty; simp at hty
          | some d => rw [hu] at hty; cases d <;> simp_all
        have pu : (Go.part f.type us f.offset).run P w = .ok u w := by simp [Go.part, run_isAgg nag, hoff, gu]
        have pv : (Go.part f.type vs f.offset).run P w = .ok v w := by simp [Go.part, run_isAgg nag, hoff, gv]
        have next : ∀ {b'}, eqCells ks cs ds = some b' → (Op.eqFields (d + 1) us vs fs).run P w = .ok b' w := fun hb' => eqFields_flat d us vs hrest (by rw [tu]; exact l1) (by rw [tv]; exact l2) hb'
        have eqv : ∃ b0 b' : Bool, (Op.equalIn (d + 1) f.type u v).run P w = .ok b0 w ∧ eqCells ks cs ds = some b' ∧ b = (b0 && b') := by
          unfold eqCells at hb
          split at hb
          · rename_i heq _ _; simp at heq
          · rename_i k1 x1 k2 x2 y1 y2 y3 e1 e2 e3
            simp only [List.cons.injEq] at e1 e2 e3
            obtain ⟨rfl, rfl⟩ := e1; obtain ⟨rfl, rfl⟩ := e2; obtain ⟨rfl, rfl⟩ := e3
            split at hb
            · rename_i hk; subst hk
              simp only [Option.map_eq_some_iff] at hb
              obtain ⟨b', hb', rfl⟩ := hb
              simp only [Rep] at r1 r2; subst r1; subst r2
              cases hu : P.underlying f.type with
              | none => rw [hu] at hty; simp at hty
              | some dd =>
                rw [hu] at hty
                cases dd <;> simp at hty
                exact ⟨_, b', run_equalIn_int w d _ _ _ _ _ hu, hb', rfl⟩
            · simp at hb
          · rename_i k1 x1 k2 x2 y1 e1 e2 e3
            simp only [List.cons.injEq] at e1 e2 e3
            obtain ⟨rfl, rfl⟩ := e1; obtain ⟨rfl, rfl⟩ := e2; obtain ⟨rfl, rfl⟩ := e3
            simp only [Option.map_eq_some_iff] at hb
            obtain ⟨b', hb', rfl⟩ := hb
            simp only [Rep] at r1 r2; subst r1; subst r2
            cases hu : P.underlying f.type with
            | none => rw [hu] at hty; simp at hty
            | some dd =>
              rw [hu] at hty
              cases dd <;> simp at hty
              exact ⟨_, b', run_equalIn_bool w d _ _ _ hu, hb', rfl⟩
          · rename_i k1 x1 k2 x2 y1 e1 e2 e3
            simp only [List.cons.injEq] at e1 e2 e3
            obtain ⟨rfl, rfl⟩ := e1; obtain ⟨rfl, rfl⟩ := e2; obtain ⟨rfl, rfl⟩ := e3
            simp only [Option.map_eq_some_iff] at hb
            obtain ⟨b', hb', rfl⟩ := hb
            simp only [Rep] at r1 r2; subst r1; subst r2
            cases hu : P.underlying f.type with
            | none => rw [hu] at hty; simp at hty
            | some dd =>
              rw [hu] at hty
              cases dd <;> simp at hty
              exact ⟨_, b', run_equalIn_string w d _ _ _ hu, hb', rfl⟩
          · simp at hb
        obtain ⟨b0, b', he, hb', rfl⟩ := eqv
        simp only [Op.eqFields, hname, ne_eq, not_false_eq_true, if_true, Sem.run_bind, pu, pv, he, Result.andThen_ok, Sem.run_ite, Sem.run_pure]
        cases b0
        · simp
        · simp [next hb']

theorem quiet_eqs (hs : K.src = src) (he : Env K env a.tmps) {op : Op} {ks : List Nat} {neg : Bool} {x y : Opd} (h : okOp P src op (.eqs ks neg x y) = true) {xs ys : List AV} (hx : x.ev env = .agg xs) (hy : y.ev env = .agg ys) {b : Bool} (hb : eqCells ks xs ys = some b) :
    Quiet P op a w K (.bool (if neg then !b else b)) := by
  cases op <;> simp only [okOp] at h <;> try (simp at h; done)
  rename_i o' t x' y' t'
  simp only [Bool.and_eq_true, Bool.not_eq_true'] at h
  obtain ⟨⟨⟨⟨⟨h0, hfl⟩, hp⟩, hg⟩, h1⟩, h2⟩ := h
  have r1 := okOpd_rep hs he h1
  have r2 := okOpd_rep hs he h2
  rw [hx] at r1; rw [hy] at r2
  simp only [Rep] at r1 r2
  obtain ⟨us, e1, l1⟩ := r1
  obtain ⟨vs, e2, l2⟩ := r2
  split at hfl
  · rename_i fs hu
    have hfo : P.fieldsOf t = fs := by simp [Program.fieldsOf, hu]
    have q : (Op.equalIn 10000 t (.agg us) (.agg vs)).run P w = .ok b w := by
      have := run_equalIn_agg (P := P) w 9999 t us vs (by rw [hfo]; exact hu) hp
      rw [this, hfo]
      exact eqFields_flat 9998 us vs hfl (by simpa using l1) (by simpa using l2) hb
    intro o ho
    cases neg <;> simp at h0 <;> subst h0
    · exact ⟨.bool b, by simp [execOp, ho, e1, e2, run_eqGuard_agg w _ t _ _ us vs hg, run_eql_struct w t us vs, q], by simp [Rep]⟩
    · exact ⟨.bool (!b), by simp [execOp, ho, e1, e2, run_eqGuard_agg w _ t _ _ us vs hg, run_neq_struct w t us vs, q], by simp [Rep]⟩
  · simp at hfl

/-! ### maps asked -/

theorem findNow_i {kd : IntKind} {k' : IntKind} (n : Int) : ∀ {es : List (Int × AV)} {ms : List MapEntry} (i : Nat), MapI K kd es ms →
    (∃ r, Instr.findNow (.int k') (.int kd n) ms i = some r ∧ match geti n es with
      | none => r = none
      | some v => ∃ j u, r = some (j, u) ∧ Rep K v u)
  | [], ms, i, h => by simp only [MapI] at h; subst h; exact ⟨none, by simp [Instr.findNow], by simp [geti]⟩
  | (m, v) :: es, ms, i, h => by
    simp only [MapI] at h
    obtain ⟨e, ms', rfl, hk, hv, hn, h⟩ := h
    simp only [Instr.findNow, hk, Instr.sameNow, if_true, geti]
    by_cases hnm : n = m
    · subst hnm
      simp only [beq_self_eq_true, if_true]
      exact ⟨_, rfl, i, e.val, rfl, hv⟩
    · have : (n == m) = false := by simpa using hnm
      rw [this, if_neg hnm]
      exact findNow_i n (i + 1) h

theorem findNow_s (n : ByteArray) : ∀ {es : List (ByteArray × AV)} {ms : List MapEntry} (i : Nat), MapS K es ms →
    (∃ r, Instr.findNow .string (.string n) ms i = some r ∧ match gets n es with
      | none => r = none
      | some v => ∃ j u, r = some (j, u) ∧ Rep K v u)
  | [], ms, i, h => by simp only [MapS] at h; subst h; exact ⟨none, by simp [Instr.findNow], by simp [gets]⟩
  | (m, v) :: es, ms, i, h => by
    simp only [MapS] at h
    obtain ⟨e, ms', rfl, hk, hv, hn, h⟩ := h
    simp only [Instr.findNow, hk, Instr.sameNow, if_true, gets]
    by_cases hnm : n = m
    · subst hnm
      have : (n == n) = true := by rw [beq_toListBytes]; simp
      simp only [this, if_true]
      exact ⟨_, rfl, i, e.val, rfl, hv⟩
    · have : (n == m) = false := by
        rw [beq_toListBytes, ByteArray.toList_eq, ByteArray.toList_eq]
        simp only [beq_eq_false_iff_ne, ne_eq]
        intro hh
        exact hnm (str_eq (by simpa using hh))
      rw [this, if_neg hnm]
      exact findNow_s n (i + 1) h

theorem run_checkKey_plain {kt : Nat} {s e : Bool} (h : keyIs P kt s = true) {v : Value} (hv : (∃ k n, v = .int k n) ∨ ∃ b, v = .string b) : (Instr.checkKey e 10000 kt v).run P w = .ok () w := by
  unfold keyIs at h
  have key : ∀ d, P.underlying kt = some d → ((∃ k, d = .int k) ∨ d = .string) → (Instr.checkKey e (9999 + 1) kt v).run P w = .ok () w := by
    intro d hd hdd
    rw [Instr.checkKey]
    rcases hv with ⟨k, n, rfl⟩ | ⟨b, rfl⟩ <;> rcases hdd with ⟨q, rfl⟩ | rfl <;> simp [run_underlying hd]
  cases hu : P.underlying kt with
  | none => rw [hu] at h; simp at h
  | some d =>
    rw [hu] at h
    cases d <;> simp at h
    · exact key _ hu (.inl ⟨_, rfl⟩)
    · exact key _ hu (.inr rfl)

theorem keyIs_int {kt : Nat} (h : keyIs P kt false = true) : ∃ q, P.underlying kt = some (.int q) := by
  unfold keyIs at h
  cases hu : P.underlying kt with
  | none => rw [hu] at h; simp at h
  | some d => rw [hu] at h; cases d <;> simp at h; exact ⟨_, rfl⟩
theorem keyIs_str {kt : Nat} (h : keyIs P kt true = true) : P.underlying kt = some .string := by
  unfold keyIs at h
  cases hu : P.underlying kt with
  | none => rw [hu] at h; simp at h
  | some d => rw [hu] at h; cases d <;> simp at h; rfl

theorem quiet_lookup (hs : K.src = src) (he : Env K env a.tmps) (hI : Inv K w) {op : Op} {s : Bool} {z : AV} {ok : Bool} {m k : Opd} (h : okOp P src op (.lookup s z ok m k) = true) {v : AV}
    (hv : (∃ id kd n es, s = false ∧ m.ev env = .map id ∧ k.ev env = .int kd n ∧ K.H id = some (.mapi kd es) ∧ v = if ok then .tup [(geti n es).getD z, .bool (geti n es).isSome] else (geti n es).getD z) ∨
      (∃ id q es, s = true ∧ m.ev env = .map id ∧ k.ev env = .str q ∧ K.H id = some (.maps es) ∧ v = if ok then .tup [(gets q es).getD z, .bool (gets q es).isSome] else (gets q es).getD z)) : Quiet P op a w K v := by
  cases op <;> simp only [okOp] at h <;> try (simp at h; done)
  rename_i t y j c
  simp only [Bool.and_eq_true, beq_iff_eq] at h
  obtain ⟨⟨⟨h0, rfl⟩, h1⟩, h2⟩ := h
  have r1 := okOpd_rep hs he h1
  have r2 := okOpd_rep hs he h2
  split at h0
  · rename_i kt e hu
    simp only [Bool.and_eq_true] at h0
    obtain ⟨hkey, hz⟩ := h0
    obtain ⟨zv, i, hi, hiz, hok, hst, hlen, hrun⟩ := run_zeroValue hz
    obtain ⟨hrz, _⟩ := okConst_rep (K := K) hs hok
    intro o ho
    have fin : ∀ {x : Option AV} {r : Option (Nat × Value)} {es : Array MapEntry} {cl : Nat}, w.heap[K.blk (match m.ev env with | .map id => id | _ => 0)]? = some (.map es cl) → a.eval y = .map (some (K.blk (match m.ev env with | .map id => id | _ => 0))) →
        (Instr.findKey kt (a.eval j) es.toList).run P w = .ok r w → (Instr.checkKey es.isEmpty 10000 kt (a.eval j)).run P w = .ok () w → (match x with | none => r = none | some v => ∃ j u, r = some (j, u) ∧ Rep K v u) →
        ∃ u, (execOp a.eval o).run P w = .ok (.value u) w ∧ Rep K (if c then .tup [x.getD z, .bool x.isSome] else x.getD z) u := by
      intro x r es cl hheap hy hfind hck hx
      cases x with
      | none =>
        simp only at hx; subst hx
        refine ⟨if c then .tuple #[zv, .bool false] else zv, ?_, ?_⟩
        · simp only [execOp, ho, hy]
          simp [Instr.lookup, run_underlying hu, getObj, Sem.run, hheap, hck, hfind, hrun]
        · cases c
          · simpa using hrz
          · simp only [if_true, Option.getD_none, Option.isSome_none, Rep, RepL]
            exact ⟨_, rfl, zv, _, rfl, hrz, _, [], rfl, rfl, rfl⟩
      | some v =>
        simp only at hx
        obtain ⟨jj, u, rfl, hr⟩ := hx
        refine ⟨if c then .tuple #[u, .bool true] else u, ?_, ?_⟩
        · simp only [execOp, ho, hy]
          simp [Instr.lookup, run_underlying hu, getObj, Sem.run, hheap, hck, hfind, hrun]
        · cases c
          · simpa using hr
          · simp only [if_true, Option.getD_some, Option.isSome_some, Rep, RepL]
            exact ⟨_, rfl, u, _, rfl, hr, _, [], rfl, rfl, rfl⟩
    rcases hv with ⟨id, kd, n, es, rfl, hm, hk, hh, rfl⟩ | ⟨id, q, es, rfl, hm, hk, hh, rfl⟩
    · rw [hm] at r1 fin; rw [hk] at r2
      simp only [Rep] at r1 r2
      obtain ⟨_, r, r1, hb⟩ := r1
      have := hb (by rw [hh]; simp); subst this
      obtain ⟨_, _, ms, cl, hms, hmi⟩ := hI.live id _ hh
      obtain ⟨kk, hkk⟩ := keyIs_int hkey
      obtain ⟨r, hf, hx⟩ := findNow_i (k' := kk) n 0 hmi
      refine fin hms r1 ?_ (run_checkKey_plain hkey (.inl ⟨kd, n, r2⟩)) hx
      simp [Instr.findKey, run_underlying hkk, r2, hf]
    · rw [hm] at r1 fin; rw [hk] at r2
      simp only [Rep] at r1 r2
      obtain ⟨_, r, r1, hb⟩ := r1
      have := hb (by rw [hh]; simp); subst this
      obtain ⟨_, _, ms, cl, hms, hmi⟩ := hI.live id _ hh
      have hkk := keyIs_str hkey
      obtain ⟨r, hf, hx⟩ := findNow_s q 0 hmi
      refine fin hms r1 ?_ (run_checkKey_plain hkey (.inr ⟨q, r2⟩)) hx
      simp [Instr.findKey, run_underlying hkk, r2, hf]
  · simp at h0

end
end Go.Proofs.Ytmbdccekcfeomaa.Am
end
/- How memory that is made, or written, keeps what is known of it. -/
section
namespace Go.Proofs.Ytmbdccekcfeomaa.Am
set_option linter.unusedVariables false
set_option linter.unusedSimpArgs false
set_option linter.unnecessarySimpa false

theorem cell_of_heap {w w' : World} {b : Nat} (h : w'.heap[b]? = w.heap[b]?) (o : Nat) : w'.cell? ⟨b, o, none⟩ = w.cell? ⟨b, o, none⟩ := by
  simp [World.cell?, h]

section
variable {P : Program} {src : Nat → Nat} {K K' : Ctx} {a : Act} {w w' : World}

theorem CellsAt.ext (h : Ext K K') {b : Nat} (hb : w'.heap[b]? = w.heap[b]?) {o : Nat} {e : AV} (hc : CellsAt K w b o e) : CellsAt K' w' b o e := by
  refine ⟨hc.1, fun j c hj => ?_⟩
  obtain ⟨u, hu, hr⟩ := hc.2 j c hj
  exact ⟨u, by rw [cell_of_heap hb]; exact hu, hr.ext h (.inl (nol_cells (storable_nol hc.1) hj))⟩

theorem MapI.ext (h : Ext K K') {kd : IntKind} : ∀ {es : List (Int × AV)} {ms : List MapEntry}, MapI K kd es ms → MapI K' kd es ms
  | [], _, hm => hm
  | (n, v) :: es, ms, hm => by
    simp only [MapI] at hm ⊢
    obtain ⟨m, ms', e, hk, hv, hn, hm⟩ := hm
    exact ⟨m, ms', e, hk, hv.ext h (.inl (storable_nol hn)), hn, MapI.ext h hm⟩
theorem MapS.ext (h : Ext K K') : ∀ {es : List (ByteArray × AV)} {ms : List MapEntry}, MapS K es ms → MapS K' es ms
  | [], _, hm => hm
  | (n, v) :: es, ms, hm => by
    simp only [MapS] at hm ⊢
    obtain ⟨m, ms', e, hk, hv, hn, hm⟩ := hm
    exact ⟨m, ms', e, hk, hv.ext h (.inl (storable_nol hn)), hn, MapS.ext h hm⟩

theorem ObjOk.ext (h : Ext K K') {id : Nat} {ob : Obj} (e1 : K'.blk id = K.blk id) (e2 : K'.base id = K.base id) (e3 : K'.tot id = K.tot id) (hb : w'.heap[K.blk id]? = w.heap[K.blk id]?) (hok : ObjOk K w id ob) : ObjOk K' w' id ob := by
  cases ob with
  | arr sz es =>
    obtain ⟨h1, h2, h3⟩ := hok
    refine ⟨by rw [e3]; exact h1, ?_, fun i e he => ⟨(h3 i e he).1, ?_⟩⟩
    · rw [e1, e2, e3, hb]; exact h2
    · rw [e1, e2]; exact (h3 i e he).2.ext h hb
  | mapi kd es =>
    obtain ⟨ms, c, h1, h2⟩ := hok
    exact ⟨ms, c, by rw [e1, hb]; exact h1, h2.ext h⟩
  | maps es =>
    obtain ⟨ms, c, h1, h2⟩ := hok
    exact ⟨ms, c, by rw [e1, hb]; exact h1, h2.ext h⟩

/-- Nothing that was there has changed. -/
theorem Inv.agree (hI : Inv K w) (h : ∀ b, b < w.heap.size → w'.heap[b]? = w.heap[b]?) : Inv K w' where
  frozen b o c hc := by
    obtain ⟨h1, h2, u, hu, hr⟩ := hI.frozen b o c hc
    exact ⟨h1, h2, u, by rw [cell_of_heap (h b (hI.Γ_lt hc))]; exact hu, hr⟩
  live id ob ho := by
    obtain ⟨h1, h2, h3⟩ := hI.live id ob ho
    exact ⟨h1, h2, h3.ext (Ext.refl K) rfl rfl rfl (h _ (hI.blk_lt (by rw [ho]; simp)))⟩
  dist := hI.dist
  locs s st v hs := by
    obtain ⟨h1, h2, h3, h4, h5⟩ := hI.locs s st v hs
    have hb := h _ (hI.ω_lt (s := s) (by rw [hs]; simp))
    exact ⟨h1, h2, h3, by rw [hb]; exact h4, h5.ext (Ext.refl K) hb⟩
  locd := hI.locd

/-- What one operation of the abstract machine leaves behind in the model. -/
structure Post (wl n₀ id : Nat) (K : Ctx) (w : World) (σ σ' : St) (K' : Ctx) (w' : World) : Prop where
  H : K'.H = σ'.H
  lo : K'.lo = σ'.lo
  inv : Inv K' w'
  evo : Evo wl n₀ K w K' w'
  used : ∀ j, K'.used j → K.used j ∨ j = id ∨ (σ.nx ≤ j ∧ j < σ'.nx)

def Does (P : Program) (wl n₀ id : Nat) (op : Op) (a : Act) (w : World) (K : Ctx) (σ σ' : St) (v : AV) : Prop :=
  ∀ o : Oper, o.op = op → ∃ u K' w', ((execOp a.eval o).run P w = .ok (.value u) w' ∨ ((execOp a.eval o).run P w = .ok .skip w' ∧ u = undef)) ∧ Post wl n₀ id K w σ σ' K' w' ∧ Rep K' v u

theorem Quiet.does {op : Op} {v : AV} (h : Quiet P op a w K v) (hI : Inv K w) {wl n₀ id : Nat} {σ : St} (hH : K.H = σ.H) (hlo : K.lo = σ.lo) : Does P wl n₀ id op a w K σ σ v := by
  intro o ho
  obtain ⟨u, hu, hr⟩ := h o ho
  exact ⟨u, K, w, .inl hu, ⟨hH, hlo, hI, Evo.refl _ _ _ _, fun j hj => .inl hj⟩, hr⟩

/-! ### a block that is made -/

theorem heap_old (o : Go.Obj) : ∀ b, b < w.heap.size → (w.alloc o).heap[b]? = w.heap[b]? := fun b hb => heap_alloc_old w o b hb

/-- .. and never written. -/
def Ctx.frz (K : Ctx) (n : Nat) (xs : List AV) : Ctx := { K with Γ := fun b o c => if b = n then xs[o]? = some c else K.Γ b o c }

theorem ext_frz (hI : Inv K w) (xs : List AV) : Ext K (K.frz w.heap.size xs) :=
  ⟨rfl, fun _ h => h, fun b o c hc => by
    have := hI.Γ_lt hc
    simp only [Ctx.frz]
    rw [if_neg (by omega)]; exact hc, fun _ _ h => ⟨rfl, h⟩, fun _ _ _ es h => ⟨es, h, rfl, rfl⟩⟩

theorem post_frz (hI : Inv K w) {xs : List AV} {us : List Value} {el : Nat} (hs : AV.solids xs = true) (hone : ∀ c ∈ xs, c.one = true) (hr : RepL K xs us) {wl n₀ id : Nat} {σ : St} (hH : K.H = σ.H) (hlo : K.lo = σ.lo) :
    Post wl n₀ id K w σ σ (K.frz w.heap.size xs) (w.alloc (.cells us.toArray el)) := by
  have hx := ext_frz hI xs
  have ho := heap_old (w := w) (.cells us.toArray el)
  refine ⟨hH, hlo, ⟨?_, ?_, hI.dist, ?_, hI.locd⟩, ⟨by simp, ?_, hx, ExtLo.refl K, fun _ _ => rfl, fun id h => .inr ⟨id, h, rfl⟩, fun _ h => .inr ⟨h, rfl⟩, fun _ _ h => h, ⟨rfl, rfl, rfl⟩⟩, fun j hj => .inl hj⟩
  · intro b o c hc
    simp only [Ctx.frz] at hc
    split at hc
    · rename_i hb; subst hb
      obtain ⟨u, hu, hru⟩ := RepL_get hr hc
      have hsc := solids_get hs hc
      refine ⟨hsc, hone c (List.mem_of_getElem? hc), u, ?_, hru.ext hx (.inl (solid_nol hsc))⟩
      rw [World.cell?_alloc_new]
      simpa using hu
    · obtain ⟨h1, h2, u, hu, hru⟩ := hI.frozen b o c hc
      exact ⟨h1, h2, u, by rw [cell_of_heap (ho b (hI.Γ_lt hc))]; exact hu, hru.ext hx (.inl (solid_nol h1))⟩
  · intro id ob hob
    obtain ⟨h1, h2, h3⟩ := hI.live id ob hob
    have hlt := hI.blk_lt (id := id) (by rw [show K.H id = _ from hob]; simp)
    refine ⟨h1, fun o c => ?_, h3.ext hx rfl rfl rfl (ho _ hlt)⟩
    simp only [Ctx.frz]
    rw [if_neg (by omega)]; exact h2 o c
  · intro s st v hs'
    obtain ⟨h1, h2, h3, h4, h5⟩ := hI.locs s st v hs'
    have hlt := hI.ω_lt (s := s) (by rw [show K.lo s = _ from hs']; simp)
    refine ⟨h1, fun o c => ?_, h3, ?_, h5.ext hx (ho _ hlt)⟩
    · simp only [Ctx.frz]
      rw [if_neg (by omega)]; exact h2 o c
    · obtain ⟨cs, el', hc, hl⟩ := h4; exact ⟨cs, el', (ho _ hlt).trans hc, hl⟩
  · intro b hb _ _
    refine ⟨ho b hb, fun o => funext fun c => ?_⟩
    simp only [Ctx.frz]
    rw [if_neg (by omega)]

/-- .. and a local variable. -/
def Ctx.mkLo (K : Ctx) (n d id : Nat) (v : AV) : Ctx := { K with lo := upd K.lo d (some (id, v)), ω := upd K.ω d n, used := fun j => K.used j ∨ j = id }

theorem ext_mkLo (n d id : Nat) (v : AV) : Ext K (K.mkLo n d id v) := ⟨rfl, fun _ h => .inl h, fun _ _ _ h => h, fun _ _ h => ⟨rfl, h⟩, fun _ _ _ es h => ⟨es, h, rfl, rfl⟩⟩
theorem extLo_mkLo (n d id : Nat) (v : AV) (hid : ¬ K.used id) : ExtLo K (K.mkLo n d id v) := by
  intro s st x hst hx
  simp only [Ctx.mkLo, upd] at hx ⊢
  split at hx
  · simp only [Option.some.injEq, Prod.mk.injEq] at hx; obtain ⟨rfl, rfl⟩ := hx; exact absurd hst hid
  · rename_i hne; rw [if_neg hne]; exact ⟨x, hx, rfl⟩

theorem post_mkLo (hI : Inv K w) {v : AV} {us : List Value} {el d : Nat} (hv : v.storable = true) (hr : RepL K v.cells us) {wl n₀ id : Nat} (hid : ¬ K.used id) (hn : n₀ ≤ id) {σ : St} (hH : K.H = σ.H) (hlo : K.lo = σ.lo) :
    Post wl n₀ id K w σ { σ with lo := upd σ.lo d (some (id, v)) } (K.mkLo w.heap.size d id v) (w.alloc (.cells us.toArray el)) := by
  have hx := ext_mkLo (K := K) w.heap.size d id v
  have ho := heap_old (w := w) (.cells us.toArray el)
  have hlen := RepL_length hr
  refine ⟨hH, by simp [Ctx.mkLo, hlo], ⟨?_, ?_, hI.dist, ?_, ?_⟩, ⟨by simp, fun b hb _ _ => ⟨ho b hb, fun _ => rfl⟩, hx, extLo_mkLo _ _ _ _ hid, fun _ _ => rfl, fun id h => .inr ⟨id, h, rfl⟩, ?_, ?_, ⟨rfl, rfl, rfl⟩⟩, fun j hj => hj.elim .inl (fun h => .inr (.inl h))⟩
  · intro b o c hc
    obtain ⟨h1, h2, u, hu, hru⟩ := hI.frozen b o c hc
    exact ⟨h1, h2, u, by rw [cell_of_heap (ho b (hI.Γ_lt hc))]; exact hu, hru.ext hx (.inl (solid_nol h1))⟩
  · intro id' ob hob
    obtain ⟨h1, h2, h3⟩ := hI.live id' ob hob
    have hlt := hI.blk_lt (id := id') (by rw [show K.H id' = _ from hob]; simp)
    exact ⟨.inl h1, h2, h3.ext hx rfl rfl rfl (ho _ hlt)⟩
  · intro s st x hs'
    simp only [Ctx.mkLo, upd] at hs' ⊢
    split at hs'
    · rename_i hsd
      simp only [Option.some.injEq, Prod.mk.injEq] at hs'; obtain ⟨rfl, rfl⟩ := hs'
      rw [if_pos hsd]
      refine ⟨.inr rfl, fun o => ?_, fun id' hid' => ?_, ⟨_, _, heap_alloc_new w _, by simp [hlen]⟩, hv, fun j c hj => ?_⟩
      · intro c hg; have := hI.Γ_lt hg; omega
      · have := hI.blk_lt hid'; omega
      · obtain ⟨u, hu, hru⟩ := RepL_get hr hj
        refine ⟨u, ?_, hru.ext hx (.inl (nol_cells (storable_nol hv) hj))⟩
        rw [World.cell?_alloc_new]
        simpa using hu
    · rename_i hsd
      rw [if_neg hsd]
      obtain ⟨h1, h2, h3, h4, h5⟩ := hI.locs s st x hs'
      have hlt := hI.ω_lt (s := s) (by rw [show K.lo s = _ from hs']; simp)
      refine ⟨.inl h1, h2, h3, ?_, h5.ext hx (ho _ hlt)⟩
      obtain ⟨cs, el', hc, hl⟩ := h4; exact ⟨cs, el', (ho _ hlt).trans hc, hl⟩
  · intro s s' h1 h2 he
    simp only [Ctx.mkLo, upd] at h1 h2 he
    by_cases e1 : s = d <;> by_cases e2 : s' = d
    · rw [e1, e2]
    · rw [if_neg e2] at h2 he; rw [if_pos e1] at he
      have := hI.ω_lt h2; omega
    · rw [if_neg e1] at h1 he; rw [if_pos e2] at he
      have := hI.ω_lt h1; omega
    · rw [if_neg e1] at h1 he; rw [if_neg e2] at h2 he
      exact hI.locd s s' h1 h2 he
  · intro s hs'
    simp only [Ctx.mkLo, upd] at hs' ⊢
    by_cases e : s = d
    · rw [if_pos e]; exact .inl (Nat.le_refl _)
    · rw [if_neg e] at hs' ⊢; exact .inr ⟨hs', rfl⟩
  · intro j hj hu
    rcases hu with hu | rfl
    · exact hu
    · omega

/-- .. and something that may be written, with a name. -/
def Ctx.mkH (K : Ctx) (n id tot : Nat) (ob : Obj) : Ctx :=
  { K with H := upd K.H id (some ob), blk := upd K.blk id n, base := upd K.base id 0, tot := upd K.tot id tot, used := fun j => K.used j ∨ j = id }

theorem ext_mkH (n id tot : Nat) (ob : Obj) (hid : ¬ K.used id) : Ext K (K.mkH n id tot ob) := by
  have ne : ∀ j, K.used j → j ≠ id := fun j hj e => hid (e ▸ hj)
  refine ⟨rfl, fun _ h => .inl h, fun _ _ _ h => h, fun j hj h => ?_, fun j hj sz es h => ?_⟩
  · simp only [Ctx.mkH, upd] at h ⊢
    rw [if_neg (ne j hj)] at h ⊢
    exact ⟨rfl, h⟩
  · simp only [Ctx.mkH, upd] at h ⊢
    rw [if_neg (ne j hj)] at h
    rw [if_neg (ne j hj), if_neg (ne j hj)]
    exact ⟨es, h, rfl, rfl⟩

theorem post_mkH (hI : Inv K w) {ob : Obj} {gob : Go.Obj} {tot : Nat} {wl n₀ id : Nat} (hid : ¬ K.used id) (hn : n₀ ≤ id) (hw : wl ≤ id) {σ : St} (hH : K.H = σ.H) (hlo : K.lo = σ.lo)
    (hok : ObjOk (K.mkH w.heap.size id tot ob) (w.alloc gob) id ob) :
    Post wl n₀ id K w σ { σ with H := upd σ.H id (some ob) } (K.mkH w.heap.size id tot ob) (w.alloc gob) := by
  have hx := ext_mkH (K := K) w.heap.size id tot ob hid
  have ho := heap_old (w := w) gob
  have ne : ∀ j, K.H j ≠ none → j ≠ id := by
    intro j hj e
    cases hh : K.H j with
    | none => exact hj hh
    | some o => exact hid (e ▸ (hI.live j o hh).1)
  refine ⟨by simp [Ctx.mkH, hH], hlo, ⟨?_, ?_, ?_, ?_, hI.locd⟩, ⟨by simp, fun b hb _ _ => ⟨ho b hb, fun _ => rfl⟩, hx, ExtLo.refl K, ?_, ?_, fun _ h => .inr ⟨h, rfl⟩, ?_, ⟨rfl, rfl, rfl⟩⟩, fun j hj => hj.elim .inl (fun h => .inr (.inl h))⟩
  · intro b o c hc
    obtain ⟨h1, h2, u, hu, hru⟩ := hI.frozen b o c hc
    exact ⟨h1, h2, u, by rw [cell_of_heap (ho b (hI.Γ_lt hc))]; exact hu, hru.ext hx (.inl (solid_nol h1))⟩
  · intro j x hx'
    simp only [Ctx.mkH, upd] at hx'
    split at hx'
    · rename_i e; subst e
      simp only [Option.some.injEq] at hx'; subst hx'
      refine ⟨.inr rfl, fun o => ?_, hok⟩
      simp only [Ctx.mkH, upd_same]
      intro c hg; have := hI.Γ_lt hg; omega
    · rename_i e
      obtain ⟨h1, h2, h3⟩ := hI.live j x hx'
      have hlt := hI.blk_lt (id := j) (by rw [hx']; simp)
      refine ⟨.inl h1, fun o => ?_, h3.ext hx (by simp [Ctx.mkH, upd, e]) (by simp [Ctx.mkH, upd, e]) (by simp [Ctx.mkH, upd, e]) (ho _ hlt)⟩
      simp only [Ctx.mkH, upd, if_neg e]; exact h2 o
  · intro i j hi hj he
    simp only [Ctx.mkH, upd] at hi hj he
    by_cases e1 : i = id <;> by_cases e2 : j = id
    · rw [e1, e2]
    · rw [if_pos e1, if_neg e2] at he; rw [if_neg e2] at hj
      have := hI.blk_lt hj; omega
    · rw [if_neg e1, if_pos e2] at he; rw [if_neg e1] at hi
      have := hI.blk_lt hi; omega
    · rw [if_neg e1, if_neg e2] at he; rw [if_neg e1] at hi; rw [if_neg e2] at hj
      exact hI.dist i j hi hj he
  · intro s st v hs'
    obtain ⟨h1, h2, h3, h4, h5⟩ := hI.locs s st v hs'
    have hlt := hI.ω_lt (s := s) (by rw [show K.lo s = _ from hs']; simp)
    refine ⟨.inl h1, h2, fun j hj => ?_, ?_, h5.ext hx (ho _ hlt)⟩
    · simp only [Ctx.mkH, upd] at hj ⊢
      by_cases e : j = id
      · rw [if_pos e]; show w.heap.size ≠ K.ω s; omega
      · rw [if_neg e] at hj ⊢; exact h3 j hj
    · obtain ⟨cs, el', hc, hl⟩ := h4; exact ⟨cs, el', (ho _ hlt).trans hc, hl⟩
  · intro j hj
    simp only [Ctx.mkH, upd]
    rw [if_neg (by omega)]
  · intro j hj
    simp only [Ctx.mkH, upd] at hj ⊢
    by_cases e : j = id
    · rw [if_pos e]; exact .inl (Nat.le_refl _)
    · rw [if_neg e] at hj ⊢; exact .inr ⟨j, hj, rfl⟩
  · intro j hj hu
    rcases hu with hu | rfl
    · exact hu
    · omega

end
end Go.Proofs.Ytmbdccekcfeomaa.Am
end
