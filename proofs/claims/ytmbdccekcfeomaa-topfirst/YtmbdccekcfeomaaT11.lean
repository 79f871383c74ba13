/- clear, a map written: the model does what the abstract machine does. -/
import Derived.Test.YtmbdccekcfeomaaT10
namespace Go.Proofs.Ytmbdccekcfeomaa.Am
set_option linter.unusedVariables false
set_option linter.unusedSimpArgs false
set_option linter.unnecessarySimpa false

section
variable {P : Program} {src : Nat → Nat} {K : Ctx} {a : Act} {w : World} {σ : St} {wl n₀ id : Nat}

/-- Elements of an array that are written over. -/
theorem obj_over (hI : Inv K w) {i m k₀ el : Nat} {es xs : List AV} {vs : List Value} {cs : Array Value} (hh : K.H i = some (.arr m es)) (hcs : w.heap[K.blk i]? = some (.cells cs el (0, 0))) (hroom : K.base i + K.tot i * m ≤ cs.size)
    (hv : vs.length = xs.length * m) (hr : RowV K m xs vs) (hk : k₀ + xs.length ≤ es.length) :
    ObjOk { K with H := upd K.H i (some (.arr m (es.take k₀ ++ xs ++ es.drop (k₀ + xs.length)))) } (setBlk w (K.blk i) (.cells (putA cs (K.base i + k₀ * m) vs) el (0, 0))) i (.arr m (es.take k₀ ++ xs ++ es.drop (k₀ + xs.length))) := by
  obtain ⟨_, _, htot, _, hcells⟩ := hI.live i _ hh
  have hb := hI.blk_lt (id := i) (by rw [hh]; simp)
  have hx' : Ext K { K with H := upd K.H i (some (.arr m (es.take k₀ ++ xs ++ es.drop (k₀ + xs.length)))) } := by
    refine ⟨rfl, fun _ h => h, fun _ _ _ h => h, fun q _ h => ⟨rfl, ?_⟩, fun q _ sz es' h => ?_⟩
    · by_cases eq : q = i
      · rw [eq, hh]; simp
      · change upd K.H i _ q ≠ none at h; rwa [upd_other _ _ eq] at h
    · change upd K.H i _ q = _ at h
      by_cases eq : q = i
      · subst eq; rw [upd_same] at h; cases h; exact ⟨es, hh, rfl, rfl⟩
      · rw [upd_other _ _ eq] at h; exact ⟨es', h, rfl, rfl⟩
  have hl' : (es.take k₀ ++ xs ++ es.drop (k₀ + xs.length)).length = es.length := by simp; omega
  have hfit : (k₀ + xs.length) * m ≤ K.tot i * m := Nat.mul_le_mul_right _ (by omega)
  rw [Nat.add_mul] at hfit
  refine ⟨by rw [hl']; exact htot, ⟨_, el, setBlk_same hb, by rw [putA_size]; exact hroom⟩, fun k x hx2 => ?_⟩
  have hcell : ∀ q, (setBlk w (K.blk i) (.cells (putA cs (K.base i + k₀ * m) vs) el (0, 0))).cell? ⟨K.blk i, q, none⟩ = if K.base i + k₀ * m ≤ q ∧ q < K.base i + k₀ * m + vs.length then vs[q - (K.base i + k₀ * m)]? else w.cell? ⟨K.blk i, q, none⟩ := by
    intro q
    rw [cell_of_row _ _ _ _ el (0, 0) (setBlk_same hb), putA_get _ _ _ (by rw [hv]; omega), cell_of_row w _ _ cs el (0, 0) hcs]
  have old : ∀ {k : Nat} {x : AV}, es[k]? = some x → (k < k₀ ∨ k₀ + xs.length ≤ k) → x.cells.length = m ∧ CellsAt { K with H := upd K.H i (some (.arr m (es.take k₀ ++ xs ++ es.drop (k₀ + xs.length)))) } (setBlk w (K.blk i) (.cells (putA cs (K.base i + k₀ * m) vs) el (0, 0))) (K.blk i) (K.base i + k * m) x := by
    intro k x hx2 hk
    obtain ⟨g1, g2, g3⟩ := hcells k x hx2
    refine ⟨g1, g2, fun q c hq => ?_⟩
    obtain ⟨u, hu', hr⟩ := g3 q c hq
    have hqm : q < m := by rw [← g1]; exact (List.getElem?_eq_some_iff.1 hq).1
    refine ⟨u, ?_, hr.ext hx' (.inl (nol_cells (storable_nol g2) hq))⟩
    rw [hcell, if_neg, ← hu']
    rw [hv]
    rcases hk with hk | hk
    · have : (k + 1) * m ≤ k₀ * m := Nat.mul_le_mul_right _ hk
      rw [Nat.add_mul, Nat.one_mul] at this
      omega
    · have : (k₀ + xs.length) * m ≤ k * m := Nat.mul_le_mul_right _ hk
      rw [Nat.add_mul] at this
      omega
  show x.cells.length = m ∧ CellsAt _ _ (K.blk i) (K.base i + k * m) x
  rw [List.append_assoc, List.getElem?_append] at hx2
  split at hx2
  · rename_i hk2
    have hk' : k < k₀ := by simp at hk2; omega
    rw [List.getElem?_take, if_pos hk'] at hx2
    exact old hx2 (.inl hk')
  · rename_i hk2
    have hk0 : (es.take k₀).length = k₀ := by simp; omega
    rw [hk0] at hk2 hx2
    rw [List.getElem?_append] at hx2
    split at hx2
    · rename_i hk3
      obtain ⟨g1, g2, g3⟩ := hr _ x hx2
      refine ⟨g1, g2, fun q c hq => ?_⟩
      obtain ⟨u, hu', hr⟩ := g3 q c hq
      have hlt := (List.getElem?_eq_some_iff.1 hu').1
      refine ⟨u, ?_, hr.ext hx' (.inl (nol_cells (storable_nol g2) hq))⟩
      have hkk : k * m = k₀ * m + (k - k₀) * m := by rw [← Nat.add_mul]; congr 1; omega
      rw [hcell, if_pos (by omega), ← hu']
      congr 1
      omega
    · rename_i hk3
      rw [List.getElem?_drop] at hx2
      refine old (k := k) ?_ (.inr (by omega))
      rw [← hx2]; congr 1; omega

theorem zeroCells_repl (zs : Array Value) (n : Nat) (hz : 0 < zs.size) : (Builtin.zeroCells zs n).toList = repl n zs.toList := zeros_repl zs n hz

theorem rowV_zeros {sz n : Nat} {z : AV} {zs : List Value} (hst : z.storable = true) (hl : z.cells.length = sz) (hz : 0 < sz) (hr : RepL K z.cells zs) : RowV K sz (List.replicate n z) (repl n zs) := by
  have hzl := RepL_length hr
  intro i e he
  rw [List.getElem?_replicate] at he
  split at he
  · rename_i hi
    simp only [Option.some.injEq] at he; subst he
    refine ⟨hl, hst, fun j c hc => ?_⟩
    have hj : j < sz := by rw [← hl]; exact (List.getElem?_eq_some_iff.1 hc).1
    obtain ⟨u, hu, hru⟩ := RepL_get hr hc
    refine ⟨u, ?_, hru⟩
    have hlt : i * sz + j < n * zs.length := by
      have : (i + 1) * sz ≤ n * sz := Nat.mul_le_mul_right _ hi
      rw [Nat.add_mul, Nat.one_mul] at this
      rw [← hzl, hl]; omega
    rw [repl_get zs (by omega) n _ hlt, ← hu]
    congr 1
    rw [← hzl, hl, Nat.mul_comm, Nat.mul_add_mod, Nat.mod_eq_of_lt hj]
  · simp at he

theorem does_clear (hs : K.src = src) {env : Nat → AV} (he : Env K env a.tmps) (henv : env = σ.env) (hI : Inv K w) (hH : K.H = σ.H) (hlo : K.lo = σ.lo) {op : Op} {z : AV} {x : Opd}
    (h : okOp P src op (.clear z x) = true) {call : CallF} {dst : Option Nat} {v : AV} {σ' : St} (hev : AOp.eval call wl id (.clear z x) σ dst = some (v, σ')) : Does P wl n₀ id op a w K σ σ' v := by
  subst henv
  cases op <;> simp only [okOp] at h <;> try (simp at h; done)
  rename_i c
  obtain ⟨callee, args, argTypes⟩ := c
  cases callee <;> (try simp only at h) <;> try (simp at h; done)
  rename_i b
  cases b <;> (try simp only at h) <;> try (simp at h; done)
  split at h
  · rename_i t x' e1 e2
    obtain rfl := one_list e1
    obtain rfl := one_list e2
    simp only [Bool.and_eq_true] at h
    obtain ⟨ht, h1⟩ := h
    have rx := okOpd_rep hs he h1
    split at ht
    · rename_i e hel
      simp only [Bool.and_eq_true] at ht
      obtain ⟨hzz, hsz⟩ := ht
      have hu := sliceElem_eq hel
      obtain ⟨zv, inf, hi, hiz, hok, hst, hlen, hrun⟩ := run_zeroValue hzz
      have hrz := ((okConst_rep (K := K) hs hok).1).cells hst
      have hzl := RepL_length hrz
      have hpos : 0 < z.cells.length := by unfold sizeIs at hsz; rw [hi] at hsz; simp at hsz; exact hsz.2
      have nothing : ∀ {p : Option Addr} {q : Nat}, a.eval x' = .slice p 0 q → ∀ o : Oper, o.op = .call { callee := .builtin .clear, args := #[x'], argTypes := #[t] } → (execOp a.eval o).run P w = .ok (.value (.tuple #[])) w := by
        intro p q hx o ho
        refine run_builtin ho fun cs => ?_
        cases p <;> simp [builtin, hx, Builtin.clear_, run_underlying hu]
      simp only [AOp.eval] at hev
      split at hev
      · rename_i hx
        simp only [Option.some.injEq, Prod.mk.injEq] at hev
        obtain ⟨rfl, rfl⟩ := hev
        rw [hx] at rx; simp only [Rep] at rx
        intro o ho
        exact ⟨_, K, w, .inl (nothing rx o ho), ⟨hH, hlo, hI, Evo.refl _ _ _ _, fun j hj => .inl hj⟩, by simp only [Rep, RepL]; exact ⟨#[], rfl, rfl⟩⟩
      · rename_i hx
        simp only [Option.some.injEq, Prod.mk.injEq] at hev
        obtain ⟨rfl, rfl⟩ := hev
        rw [hx] at rx; simp only [Rep] at rx
        obtain ⟨p, rx⟩ := rx
        intro o ho
        exact ⟨_, K, w, .inl (nothing rx o ho), ⟨hH, hlo, hI, Evo.refl _ _ _ _, fun j hj => .inl hj⟩, by simp only [Rep, RepL]; exact ⟨#[], rfl, rfl⟩⟩
      · rename_i i j n hx
        split at hev
        case isFalse => simp at hev
        rename_i hwl
        split at hev
        case h_2 => simp at hev
        rename_i m es hh
        split at hev
        case isFalse => simp at hev
        rename_i hle
        simp only [Option.some.injEq, Prod.mk.injEq] at hev
        obtain ⟨hm, hle⟩ := hle
        obtain ⟨rfl, rfl⟩ := hev
        rw [hx] at rx; simp only [Rep] at rx
        obtain ⟨hui, p, cap0, ex, hl⟩ := rx
        rw [← hH] at hh
        obtain ⟨o₀, rfl, hcap0, hncap, hoff⟩ := hl m es hh
        obtain ⟨_, _, htot, ⟨cs, el, hcs, hroom⟩, _⟩ := hI.live i _ hh
        by_cases hn0 : n = 0
        · subst hn0
          have hHs : upd σ.H i (some (.arr m (es.take j ++ List.replicate 0 z ++ es.drop (j + 0)))) = σ.H := by
            funext q
            by_cases e : q = i
            · rw [e, upd_same, ← hH, hh]; simp
            · rw [upd_other _ _ e]
          intro o ho
          exact ⟨_, K, w, .inl (nothing ex o ho), ⟨by rw [hHs]; exact hH, hlo, hI, Evo.refl _ _ _ _, fun j hj => .inl hj⟩, by simp only [Rep, RepL]; exact ⟨#[], rfl, rfl⟩⟩
        · have e0 := hoff (by omega)
          subst e0
          have hvl : (repl n zv.cells.toList).length = (List.replicate n z).length * m := by rw [repl_length, List.length_replicate, ← hzl, hm]
          have hfit : (j + n) * m ≤ K.tot i * m := Nat.mul_le_mul_right _ (by omega)
          rw [Nat.add_mul] at hfit
          have hone : ∀ v ∈ repl n zv.cells.toList, v.oneCell' = true := by
            have key : ∀ n, ∀ v ∈ repl n zv.cells.toList, v.oneCell' = true := by
              intro n
              induction n with
              | zero => intro v hv; simp [repl] at hv
              | succ n ih =>
                intro v hv
                simp only [repl, List.mem_append] at hv
                rcases hv with hv | hv
                · obtain ⟨k, hk⟩ := List.getElem?_of_mem hv
                  have hkl : k < z.cells.length := by rw [hzl]; exact (List.getElem?_eq_some_iff.1 hk).1
                  obtain ⟨u, hu', hr⟩ := RepL_get hrz (List.getElem?_eq_getElem hkl)
                  rw [hk] at hu'; cases hu'
                  exact one_oneCell (storable_cells hst (List.getElem?_eq_getElem hkl)) hr
                · exact ih v hv
            exact key n
          have hsto := run_storeCells (P := P) (b := K.blk i) (o := K.base i + j * m) (repl n zv.cells.toList) 0 w cs hcs (by rw [hvl, List.length_replicate]; omega) hone
          have hover := obj_over (vs := repl n zv.cells.toList) (xs := List.replicate n z) (k₀ := j) hI hh hcs hroom hvl (rowV_zeros hst hm (by omega) hrz) (by simpa using hle)
          rw [List.length_replicate] at hover
          intro o ho
          refine ⟨.tuple #[], _, _, .inl ?_, post_setH (σ := σ) (gob := .cells (putA cs (K.base i + j * m) (repl n zv.cells.toList)) el (0, 0)) hI hh hwl (fun sz es' he' => by cases he'; exact ⟨es, rfl⟩) hover hH hlo, by simp only [Rep, RepL]; exact ⟨#[], rfl, rfl⟩⟩
          refine run_builtin ho fun cs' => ?_
          obtain ⟨n', rfl⟩ : ∃ n', n = n' + 1 := ⟨n - 1, by omega⟩
          have hzr : (Builtin.zeroCells zv.cells (n' + 1)).toList = repl (n' + 1) zv.cells.toList := zeroCells_repl _ _ (by simp only [Array.length_toList] at hzl; omega)
          simp [builtin, ex, Builtin.clear_, run_underlying hu, hrun, hzr, hsto]
      · simp at hev
    · simp at ht
  · simp at h

/-! ### a map written -/

theorem findAt_i {kd : IntKind} {k' : IntKind} (n : Int) (v : AV) : ∀ {es : List (Int × AV)} {ms : List MapEntry} (i : Nat), MapI K kd es ms →
    (Instr.findNow (.int k') (.int kd n) ms i = some none ∧ seti n v es = es ++ [(n, v)]) ∨
    (∃ q e, Instr.findNow (.int k') (.int kd n) ms i = some (some (i + q, e.val)) ∧ ms[q]? = some e ∧ e.key = .int kd n ∧ seti n v es = es.set q (n, v))
  | [], ms, i, h => by simp only [MapI] at h; subst h; exact .inl ⟨by simp [Instr.findNow], by simp [seti]⟩
  | (m, x) :: es, ms, i, h => by
    simp only [MapI] at h
    obtain ⟨e, ms', rfl, hk, hv, hn, h⟩ := h
    simp only [Instr.findNow, hk, Instr.sameNow, if_true, seti]
    by_cases hnm : n = m
    · subst hnm
      simp only [beq_self_eq_true, if_true]
      exact .inr ⟨0, e, rfl, rfl, hk, rfl⟩
    · have : (n == m) = false := by simpa using hnm
      rw [this, if_neg hnm]
      rcases findAt_i n v (i + 1) h with ⟨h1, h2⟩ | ⟨q, e', h1, h2, h3, h4⟩
      · exact .inl ⟨h1, by rw [h2]; rfl⟩
      · exact .inr ⟨q + 1, e', by rw [h1, show i + 1 + q = i + (q + 1) by omega], by simpa using h2, h3, by rw [h4]; rfl⟩

theorem findAt_s (n : ByteArray) (v : AV) : ∀ {es : List (ByteArray × AV)} {ms : List MapEntry} (i : Nat), MapS K es ms →
    (Instr.findNow .string (.string n) ms i = some none ∧ sets n v es = es ++ [(n, v)]) ∨
    (∃ q e, Instr.findNow .string (.string n) ms i = some (some (i + q, e.val)) ∧ ms[q]? = some e ∧ e.key = .string n ∧ sets n v es = es.set q (n, v))
  | [], ms, i, h => by simp only [MapS] at h; subst h; exact .inl ⟨by simp [Instr.findNow], by simp [sets]⟩
  | (m, x) :: es, ms, i, h => by
    simp only [MapS] at h
    obtain ⟨e, ms', rfl, hk, hv, hn, h⟩ := h
    simp only [Instr.findNow, hk, Instr.sameNow, if_true, sets]
    by_cases hnm : n = m
    · subst hnm
      have : (n == n) = true := by rw [beq_toListBytes]; simp
      simp only [this, if_true]
      exact .inr ⟨0, e, rfl, rfl, hk, rfl⟩
    · have : (n == m) = false := by
        rw [beq_toListBytes, ByteArray.toList_eq, ByteArray.toList_eq]
        simp only [beq_eq_false_iff_ne, ne_eq]
        intro hh
        exact hnm (str_eq (by simpa using hh))
      rw [this, if_neg hnm]
      rcases findAt_s n v (i + 1) h with ⟨h1, h2⟩ | ⟨q, e', h1, h2, h3, h4⟩
      · exact .inl ⟨h1, by rw [h2]; rfl⟩
      · exact .inr ⟨q + 1, e', by rw [h1, show i + 1 + q = i + (q + 1) by omega], by simpa using h2, h3, by rw [h4]; rfl⟩

theorem MapI_set {kd : IntKind} {n : Int} {v : AV} {m : MapEntry} (hk : m.key = .int kd n) (hv : Rep K v m.val) (hst : v.storable = true) : ∀ {es : List (Int × AV)} {ms : List MapEntry} (q : Nat), MapI K kd es ms → MapI K kd (es.set q (n, v)) (ms.set q m)
  | [], ms, q, h => by simp only [MapI] at h; subst h; simp [MapI]
  | (a, x) :: es, ms, q, h => by
    simp only [MapI] at h
    obtain ⟨e, ms', rfl, h1, h2, h3, h⟩ := h
    cases q with
    | zero => simp only [List.set_cons_zero, MapI]; exact ⟨m, ms', rfl, hk, hv, hst, h⟩
    | succ q => simp only [List.set_cons_succ, MapI]; exact ⟨e, _, rfl, h1, h2, h3, MapI_set hk hv hst q h⟩
theorem MapI_push {kd : IntKind} {n : Int} {v : AV} {m : MapEntry} (hk : m.key = .int kd n) (hv : Rep K v m.val) (hst : v.storable = true) : ∀ {es : List (Int × AV)} {ms : List MapEntry}, MapI K kd es ms → MapI K kd (es ++ [(n, v)]) (ms ++ [m])
  | [], ms, h => by simp only [MapI] at h; subst h; simp only [List.nil_append, MapI]; exact ⟨m, [], rfl, hk, hv, hst, rfl⟩
  | (a, x) :: es, ms, h => by
    simp only [MapI] at h
    obtain ⟨e, ms', rfl, h1, h2, h3, h⟩ := h
    simp only [List.cons_append, MapI]; exact ⟨e, _, rfl, h1, h2, h3, MapI_push hk hv hst h⟩
theorem MapS_set {n : ByteArray} {v : AV} {m : MapEntry} (hk : m.key = .string n) (hv : Rep K v m.val) (hst : v.storable = true) : ∀ {es : List (ByteArray × AV)} {ms : List MapEntry} (q : Nat), MapS K es ms → MapS K (es.set q (n, v)) (ms.set q m)
  | [], ms, q, h => by simp only [MapS] at h; subst h; simp [MapS]
  | (a, x) :: es, ms, q, h => by
    simp only [MapS] at h
    obtain ⟨e, ms', rfl, h1, h2, h3, h⟩ := h
    cases q with
    | zero => simp only [List.set_cons_zero, MapS]; exact ⟨m, ms', rfl, hk, hv, hst, h⟩
    | succ q => simp only [List.set_cons_succ, MapS]; exact ⟨e, _, rfl, h1, h2, h3, MapS_set hk hv hst q h⟩
theorem MapS_push {n : ByteArray} {v : AV} {m : MapEntry} (hk : m.key = .string n) (hv : Rep K v m.val) (hst : v.storable = true) : ∀ {es : List (ByteArray × AV)} {ms : List MapEntry}, MapS K es ms → MapS K (es ++ [(n, v)]) (ms ++ [m])
  | [], ms, h => by simp only [MapS] at h; subst h; simp only [List.nil_append, MapS]; exact ⟨m, [], rfl, hk, hv, hst, rfl⟩
  | (a, x) :: es, ms, h => by
    simp only [MapS] at h
    obtain ⟨e, ms', rfl, h1, h2, h3, h⟩ := h
    simp only [List.cons_append, MapS]; exact ⟨e, _, rfl, h1, h2, h3, MapS_push hk hv hst h⟩

theorem does_mapup (hs : K.src = src) {env : Nat → AV} (he : Env K env a.tmps) (hI : Inv K w) (hH : K.H = σ.H) (hlo : K.lo = σ.lo) {op : Op} {s : Bool} {m k x : Opd} (h : okOp P src op (.mapup s m k x) = true) (hst : (x.ev env).storable = true) {i : Nat} (hm : m.ev env = .map i) (hw : wl ≤ i) {ob : Obj}
    (hv : (∃ kd n es, s = false ∧ k.ev env = .int kd n ∧ K.H i = some (.mapi kd es) ∧ ob = .mapi kd (seti n (x.ev env) es)) ∨ (∃ q es, s = true ∧ k.ev env = .str q ∧ K.H i = some (.maps es) ∧ ob = .maps (sets q (x.ev env) es))) :
    Does P wl n₀ id op a w K σ { σ with H := upd σ.H i (some ob) } .undef := by
  cases op <;> simp only [okOp] at h <;> try (simp at h; done)
  rename_i t m' k' x'
  simp only [Bool.and_eq_true] at h
  obtain ⟨⟨⟨h0, h1⟩, h2⟩, h3⟩ := h
  have r1 := okOpd_rep hs he h1
  have r2 := okOpd_rep hs he h2
  have r3 := okOpd_rep hs he h3
  rw [hm] at r1; simp only [Rep] at r1
  obtain ⟨hui, r, r1, hb⟩ := r1
  split at h0
  · rename_i kt e hu
    have ext : ∀ {ob ob' : Obj}, K.H i = some ob → (∀ sz es, ob' ≠ .arr sz es) → Ext K { K with H := upd K.H i (some ob') } := by
      intro ob ob' hh hna
      refine ⟨rfl, fun _ h => h, fun _ _ _ h => h, fun q _ h => ⟨rfl, ?_⟩, fun q _ sz es' h => ?_⟩
      · by_cases eq : q = i
        · rw [eq, hh]; simp
        · change upd K.H i _ q ≠ none at h; rwa [upd_other _ _ eq] at h
      · change upd K.H i _ q = _ at h
        by_cases eq : q = i
        · subst eq; rw [upd_same] at h; simp only [Option.some.injEq] at h; exact absurd h (hna sz es')
        · rw [upd_other _ _ eq] at h; exact ⟨es', h, rfl, rfl⟩
    rcases hv with ⟨kd, n, es, rfl, hk, hh, rfl⟩ | ⟨n, es, rfl, hk, hh, rfl⟩
    · rw [hk] at r2; simp only [Rep] at r2
      have := hb (by rw [hh]; simp); subst this
      obtain ⟨_, _, ms, cl, hms, hmi⟩ := hI.live i _ hh
      have hbl := hI.blk_lt (id := i) (by rw [hh]; simp)
      obtain ⟨kk, hkk⟩ := keyIs_int h0
      have hck := run_checkKey_plain (P := P) (w := w) (e := false) h0 (v := .int kd n) (.inl ⟨kd, n, rfl⟩)
      have hx := ext (ob' := .mapi kd (seti n (x.ev env) es)) hh (by intro _ _ h; cases h)
      have r3' := r3.ext hx (.inl (storable_nol hst))
      intro o ho
      rcases findAt_i (k' := kk) n (x.ev env) 0 hmi with ⟨g1, g2⟩ | ⟨q, e', g1, g2, g3, g4⟩
      · refine ⟨undef, _, _, .inr ⟨?_, rfl⟩, post_setH (σ := σ) (gob := .map (ms.push { key := .int kd n, val := a.eval x', born := cl }) (cl + 1)) hI hh hw (fun _ _ h => by cases h) ?_ hH hlo, by simp [Rep]⟩
        · simp [execOp, ho, r1, r2, Instr.mapUpdate, run_underlying hu, getObj, Sem.run, hms, hck, Instr.findKey, run_underlying hkk, g1, setObj, setBlk]
        · refine ⟨_, _, setBlk_same hbl, ?_⟩
          have key := MapI_push (m := { key := .int kd n, val := a.eval x', born := cl }) rfl r3' hst (hmi.ext hx)
          rw [← g2] at key
          rw [Array.toList_push]
          exact key
      · rw [Nat.zero_add] at g1
        refine ⟨undef, _, _, .inr ⟨?_, rfl⟩, post_setH (σ := σ) (gob := .map (ms.modify q fun e => { e with key := .int kd n, val := a.eval x' }) cl) hI hh hw (fun _ _ h => by cases h) ?_ hH hlo, by simp [Rep]⟩
        · have g2' : ms[q]? = some e' := by simpa using g2
          have hsame : Instr.sameBits 10000 (.int kd n) (.int kd n) = true := by simp [Instr.sameBits]
          simp [execOp, ho, r1, r2, Instr.mapUpdate, run_underlying hu, getObj, Sem.run, hms, hck, Instr.findKey, run_underlying hkk, g1, g2', g3, Instr.keyThatStays, hsame, setObj, setBlk]
        · refine ⟨_, _, setBlk_same hbl, ?_⟩
          have : (ms.modify q fun e => { e with key := .int kd n, val := a.eval x' }).toList = ms.toList.set q { e' with key := .int kd n, val := a.eval x' } := by
            rw [Array.toList_modify]
            apply List.ext_getElem?
            intro j
            rw [List.getElem?_modify, List.getElem?_set]
            by_cases hj : q = j
            · subst hj; simp [g2]; exact (List.getElem?_eq_some_iff.1 g2).1
            · simp [hj]
          have key := MapI_set (m := { e' with key := .int kd n, val := a.eval x' }) rfl r3' hst q (hmi.ext hx)
          rw [← g4] at key
          rw [this]
          exact key
    · rw [hk] at r2; simp only [Rep] at r2
      have := hb (by rw [hh]; simp); subst this
      obtain ⟨_, _, ms, cl, hms, hmi⟩ := hI.live i _ hh
      have hbl := hI.blk_lt (id := i) (by rw [hh]; simp)
      have hkk := keyIs_str h0
      have hck := run_checkKey_plain (P := P) (w := w) (e := false) h0 (v := .string n) (.inr ⟨n, rfl⟩)
      have hx := ext (ob' := .maps (sets n (x.ev env) es)) hh (by intro _ _ h; cases h)
      have r3' := r3.ext hx (.inl (storable_nol hst))
      intro o ho
      rcases findAt_s n (x.ev env) 0 hmi with ⟨g1, g2⟩ | ⟨q, e', g1, g2, g3, g4⟩
      · refine ⟨undef, _, _, .inr ⟨?_, rfl⟩, post_setH (σ := σ) (gob := .map (ms.push { key := .string n, val := a.eval x', born := cl }) (cl + 1)) hI hh hw (fun _ _ h => by cases h) ?_ hH hlo, by simp [Rep]⟩
        · simp [execOp, ho, r1, r2, Instr.mapUpdate, run_underlying hu, getObj, Sem.run, hms, hck, Instr.findKey, run_underlying hkk, g1, setObj, setBlk]
        · refine ⟨_, _, setBlk_same hbl, ?_⟩
          have key := MapS_push (m := { key := .string n, val := a.eval x', born := cl }) rfl r3' hst (hmi.ext hx)
          rw [← g2] at key
          rw [Array.toList_push]
          exact key
      · rw [Nat.zero_add] at g1
        refine ⟨undef, _, _, .inr ⟨?_, rfl⟩, post_setH (σ := σ) (gob := .map (ms.modify q fun e => { e with key := .string n, val := a.eval x' }) cl) hI hh hw (fun _ _ h => by cases h) ?_ hH hlo, by simp [Rep]⟩
        · have g2' : ms[q]? = some e' := by simpa using g2
          have hsame : Instr.sameBits 10000 (.string n) (.string n) = true := by simp [Instr.sameBits, beq_toListBytes]
          simp [execOp, ho, r1, r2, Instr.mapUpdate, run_underlying hu, getObj, Sem.run, hms, hck, Instr.findKey, run_underlying hkk, g1, g2', g3, Instr.keyThatStays, hsame, setObj, setBlk]
        · refine ⟨_, _, setBlk_same hbl, ?_⟩
          have : (ms.modify q fun e => { e with key := .string n, val := a.eval x' }).toList = ms.toList.set q { e' with key := .string n, val := a.eval x' } := by
            rw [Array.toList_modify]
            apply List.ext_getElem?
            intro j
            rw [List.getElem?_modify, List.getElem?_set]
            by_cases hj : q = j
            · subst hj; simp [g2]; exact (List.getElem?_eq_some_iff.1 g2).1
            · simp [hj]
          have key := MapS_set (m := { e' with key := .string n, val := a.eval x' }) rfl r3' hst q (hmi.ext hx)
          rw [← g4] at key
          rw [this]
          exact key
  · simp at h0

end
end Go.Proofs.Ytmbdccekcfeomaa.Am
