/- Variables, literals, maps and slices that are made: the model does what the abstract machine does. -/
import Derived.Test.YtmbdccekcfeomaaT07
section
namespace Go.Proofs.Ytmbdccekcfeomaa.Am
set_option linter.unusedVariables false
set_option linter.unusedSimpArgs false
set_option linter.unnecessarySimpa false

section
variable {P : Program} {src : Nat → Nat} {K : Ctx} {a : Act} {w : World} {σ : St} {wl n₀ id : Nat}

theorem run_newVar (e : TypeId) (v : Value) : (newVar e v).run P w = .ok ⟨w.heap.size, 0, none⟩ (w.alloc (.cells v.cells.toList.toArray e)) := by
  simp [newVar, newRow]

theorem run_alloc {e : TypeId} {zv : Value} (hz : ∀ w, (zeroValue e).run P w = .ok zv w) : (Instr.alloc e true (.tuple #[])).run P w = .ok (.pointer (some ⟨w.heap.size, 0, none⟩)) (w.alloc (.cells zv.cells.toList.toArray e)) := by
  simp [Instr.alloc, hz, run_newVar]

theorem run_box {e : TypeId} {v : Value} : (Instr.box e v).run P w = .ok (.pointer (some ⟨w.heap.size, 0, none⟩)) (w.alloc (.cells v.cells.toList.toArray e)) := by
  simp [Instr.box, run_newVar]

theorem rep_loc_made {n d : Nat} {v : AV} : Rep (K.mkLo n d id v) (.loc d id 0) (.pointer (some ⟨n, 0, none⟩)) := by
  simp only [Rep, Ctx.mkLo, upd_same]
  exact ⟨by simp, _, rfl, fun _ _ => rfl⟩

theorem rep_ptr_made {n tot : Nat} {sz : Nat} {es : List AV} : Rep (K.mkH n id tot (.arr sz es)) (.ptr id 0 0) (.pointer (some ⟨n, 0, none⟩)) := by
  simp only [Rep, Ctx.mkH, upd_same]
  exact ⟨by simp, _, rfl, fun sz' es' h => by simp⟩

theorem does_lalloc (hs : K.src = src) (hI : Inv K w) (hH : K.H = σ.H) (hlo : K.lo = σ.lo) (hid : ¬ K.used id) (hn : n₀ ≤ id) {op : Op} {z : AV} (h : okOp P src op (.lalloc z) = true) (d : Nat) :
    Does P wl n₀ id op a w K σ { σ with lo := upd σ.lo d (some (id, z)) } (.loc d id 0) := by
  cases op <;> simp only [okOp] at h <;> try (simp at h; done)
  rename_i e
  obtain ⟨zv, i, hi, hiz, hok, hst, hlen, hrun⟩ := run_zeroValue h
  have hr := (okConst_rep (K := K) hs hok).1
  intro o ho
  refine ⟨_, _, _, .inl ?_, post_mkLo (el := e) hI hst (hr.cells hst) hid hn hH hlo, rep_loc_made⟩
  simp only [execOp, ho]
  rw [Sem.run_bind, run_alloc hrun]; rfl

theorem does_lbox (hs : K.src = src) {env : Nat → AV} (he : Env K env a.tmps) (hI : Inv K w) (hH : K.H = σ.H) (hlo : K.lo = σ.lo) (hid : ¬ K.used id) (hn : n₀ ≤ id) {op : Op} {x : Opd} (h : okOp P src op (.lbox x) = true) (hst : (x.ev env).storable = true) (d : Nat) :
    Does P wl n₀ id op a w K σ { σ with lo := upd σ.lo d (some (id, x.ev env)) } (.loc d id 0) := by
  cases op <;> simp only [okOp] at h <;> try (simp at h; done)
  rename_i e y
  have hr := okOpd_rep hs he h
  intro o ho
  refine ⟨_, _, _, .inl ?_, post_mkLo (el := e) hI hst (hr.cells hst) hid hn hH hlo, rep_loc_made⟩
  simp only [execOp, ho]
  rw [Sem.run_bind, run_box]; rfl

theorem obj_one {x : AV} {us : List Value} {el : Nat} (hid : ¬ K.used id) (hst : x.storable = true) (hr : RepL K x.cells us) : ObjOk (K.mkH w.heap.size id 1 (.arr x.cells.length [x])) (w.alloc (.cells us.toArray el)) id (.arr x.cells.length [x]) := by
  have hlen := RepL_length hr
  simp only [ObjOk, Ctx.mkH, upd_same]
  refine ⟨by simp, ⟨us.toArray, el, heap_alloc_new w _, by simp [hlen]⟩, fun i e he => ?_⟩
  cases i with
  | zero =>
    simp at he; subst he
    refine ⟨rfl, hst, fun j c hj => ?_⟩
    obtain ⟨u, hu, hru⟩ := RepL_get hr hj
    refine ⟨u, ?_, hru.ext (ext_mkH _ _ _ _ hid) (.inl (nol_cells (storable_nol hst) hj))⟩
    have : w.heap.size = w.heap.size := rfl
    simp only [Nat.zero_mul, Nat.add_zero, Nat.zero_add]
    rw [World.cell?_alloc_new]
    simpa using hu
  | succ i => simp at he

theorem does_halloc (hs : K.src = src) (hI : Inv K w) (hH : K.H = σ.H) (hlo : K.lo = σ.lo) (hid : ¬ K.used id) (hn : n₀ ≤ id) (hw : wl ≤ id) {op : Op} {z : AV} (h : okOp P src op (.halloc z) = true) :
    Does P wl n₀ id op a w K σ { σ with H := upd σ.H id (some (.arr z.cells.length [z])) } (.ptr id 0 0) := by
  cases op <;> simp only [okOp] at h <;> try (simp at h; done)
  rename_i e
  obtain ⟨zv, i, hi, hiz, hok, hst, hlen, hrun⟩ := run_zeroValue h
  have hr := (okConst_rep (K := K) hs hok).1
  intro o ho
  refine ⟨_, _, _, .inl ?_, post_mkH (tot := 1) hI hid hn hw hH hlo (obj_one (el := e) hid hst (hr.cells hst)), rep_ptr_made⟩
  simp only [execOp, ho]
  rw [Sem.run_bind, run_alloc hrun]; rfl

theorem does_hbox (hs : K.src = src) {env : Nat → AV} (he : Env K env a.tmps) (hI : Inv K w) (hH : K.H = σ.H) (hlo : K.lo = σ.lo) (hid : ¬ K.used id) (hn : n₀ ≤ id) (hw : wl ≤ id) {op : Op} {x : Opd} (h : okOp P src op (.hbox x) = true) (hst : (x.ev env).storable = true) :
    Does P wl n₀ id op a w K σ { σ with H := upd σ.H id (some (.arr (x.ev env).cells.length [x.ev env])) } (.ptr id 0 0) := by
  cases op <;> simp only [okOp] at h <;> try (simp at h; done)
  rename_i e y
  have hr := okOpd_rep hs he h
  intro o ho
  refine ⟨_, _, _, .inl ?_, post_mkH (tot := 1) hI hid hn hw hH hlo (obj_one (el := e) hid hst (hr.cells hst)), rep_ptr_made⟩
  simp only [execOp, ho]
  rw [Sem.run_bind, run_box]; rfl

theorem does_fbox (hs : K.src = src) {env : Nat → AV} (he : Env K env a.tmps) (hI : Inv K w) (hH : K.H = σ.H) (hlo : K.lo = σ.lo) {op : Op} {x : Opd} (h : okOp P src op (.fbox x) = true) (hso : (x.ev env).solid = true) (hst : (x.ev env).storable = true) :
    Does P wl n₀ id op a w K σ σ (.fptr (x.ev env) 0) := by
  cases op <;> simp only [okOp] at h <;> try (simp at h; done)
  rename_i e y
  have hr := okOpd_rep hs he h
  intro o ho
  refine ⟨.pointer (some ⟨w.heap.size, 0, none⟩), _, _, .inl ?_, post_frz (el := e) (xs := (x.ev env).cells) hI (solids_of fun j c hc => solid_cells hso hc) (fun c hc => by
    obtain ⟨j, hj⟩ := List.getElem?_of_mem hc; exact storable_cells hst hj) (hr.cells hst) hH hlo, ?_⟩
  · simp only [execOp, ho]
    rw [Sem.run_bind, run_box]; rfl
  · simp only [Rep, Ctx.frz]
    exact ⟨w.heap.size, 0, rfl, fun j c hj => by rw [if_pos rfl, Nat.zero_add]; exact hj⟩

theorem does_mkmap (hI : Inv K w) (hH : K.H = σ.H) (hlo : K.lo = σ.lo) (hid : ¬ K.used id) (hn : n₀ ≤ id) (hw : wl ≤ id) {op : Op} {kd : Option IntKind} (h : okOp P src op (.mkmap kd) = true) :
    Does P wl n₀ id op a w K σ { σ with H := upd σ.H id (some (newMap kd)) } (.map id) := by
  cases op <;> simp only [okOp] at h <;> try (simp at h; done)
  rename_i t r
  cases r <;> (try simp only at h) <;> try (simp at h; done)
  intro o ho
  refine ⟨.map (some w.heap.size), _, _, .inl ?_, post_mkH (tot := 0) (gob := .map #[] 0) hI hid hn hw hH hlo ?_, ?_⟩
  · simp [execOp, ho, Instr.makeMap]
  · cases kd with
    | none => exact ⟨#[], 0, by simp only [Ctx.mkH, upd_same]; exact heap_alloc_new w _, by simp [MapS]⟩
    | some k => exact ⟨#[], 0, by simp only [Ctx.mkH, upd_same]; exact heap_alloc_new w _, by simp [MapI]⟩
  · simp only [Rep, Ctx.mkH, upd_same]
    exact ⟨by simp, _, rfl, fun _ => rfl⟩

/-! ### rows of elements -/

theorem chop_length (sz : Nat) : ∀ n cs, (chop sz n cs).length = n
  | 0, _ => rfl
  | n + 1, cs => by simp [chop, chop_length sz n]

theorem chop_get {sz : Nat} (hz : 0 < sz) : ∀ {n : Nat} {cs : List AV}, cs.length = n * sz → (∀ c ∈ cs, c.one = true) → ∀ {i : Nat} {e : AV}, (chop sz n cs)[i]? = some e →
    e.cells.length = sz ∧ ∀ j c, e.cells[j]? = some c → cs[i * sz + j]? = some c
  | 0, cs, _, _, i, e, h => by simp [chop] at h
  | n + 1, cs, hl, ho, i, e, h => by
    simp only [chop] at h
    have hl' : sz ≤ cs.length := by rw [hl, Nat.add_mul]; omega
    cases i with
    | zero =>
      simp only [List.getElem?_cons_zero, Option.some.injEq] at h
      subst h
      split
      · rename_i h1; subst h1
        obtain ⟨c, cs', rfl⟩ : ∃ c cs', cs = c :: cs' := by cases cs <;> simp_all
        have hc : c.one = true := ho c (by simp)
        have e1 : ((c :: cs').head?).getD AV.undef = c := rfl
        rw [e1]
        have e2 : c.cells = [c] := by cases c <;> simp [AV.one] at hc <;> rfl
        rw [e2]
        refine ⟨rfl, fun j d hd => ?_⟩
        cases j <;> simp at hd
        subst hd; simp
      · refine ⟨by simp [AV.cells]; omega, fun j c hj => ?_⟩
        simp only [AV.cells, List.getElem?_take] at hj
        split at hj
        · simpa using hj
        · simp at hj
    | succ i =>
      simp only [List.getElem?_cons_succ] at h
      obtain ⟨h1, h2⟩ := chop_get hz (n := n) (cs := cs.drop sz) (by simp [hl, Nat.add_mul]) (fun c hc => ho c (List.mem_of_mem_drop hc)) h
      refine ⟨h1, fun j c hj => ?_⟩
      have := h2 j c hj
      rw [List.getElem?_drop] at this
      rw [Nat.add_mul, Nat.one_mul]
      rw [← this]; congr 1; omega

theorem repl_length {α : Type} (xs : List α) : ∀ n, (repl n xs).length = n * xs.length
  | 0 => by simp [repl]
  | n + 1 => by simp [repl, repl_length xs n, Nat.add_mul]; omega

theorem repl_get {α : Type} (xs : List α) (hx : 0 < xs.length) : ∀ (n i : Nat), i < n * xs.length → (repl n xs)[i]? = xs[i % xs.length]?
  | 0, i, h => by simp at h
  | n + 1, i, h => by
    simp only [repl]
    by_cases hi : i < xs.length
    · rw [List.getElem?_append_left hi, Nat.mod_eq_of_lt hi]
    · rw [List.getElem?_append_right (by omega), repl_get xs hx n _ (by rw [Nat.add_mul] at h; omega)]
      rw [← Nat.mod_eq_sub_mod (by omega)]

theorem zeros_repl (zs : Array Value) (n : Nat) (hz : 0 < zs.size) : ((Array.range (n * zs.size)).map (zs[· % zs.size]!)).toList = repl n zs.toList := by
  apply List.ext_getElem?
  intro i
  by_cases hi : i < n * zs.size
  · rw [repl_get _ (by simpa using hz) n i (by simpa using hi)]
    have hm : i % zs.size < zs.size := Nat.mod_lt _ hz
    simp [hi, hm]
  · rw [List.getElem?_eq_none (by simp; omega), List.getElem?_eq_none (by rw [repl_length]; simp; omega)]

theorem obj_chop {sz n tot : Nat} (hz : 0 < sz) {cs : List AV} {us : List Value} {el : Nat} (hid : ¬ K.used id) (hl : cs.length = n * sz) (ho : ∀ c ∈ cs, c.one = true) (hnol : AV.nols cs = true) (hr : RepL K cs us) (ht : n ≤ tot) {vs : List Value} (hv : tot * sz ≤ us.length + vs.length) :
    ObjOk (K.mkH w.heap.size id tot (.arr sz (chop sz n cs))) (w.alloc (.cells (us ++ vs).toArray el)) id (.arr sz (chop sz n cs)) := by
  have hlen := RepL_length hr
  simp only [ObjOk, Ctx.mkH, upd_same]
  refine ⟨by rw [chop_length]; exact ht, ⟨_, el, heap_alloc_new w _, by simp; omega⟩, fun i e he => ?_⟩
  obtain ⟨h1, h2⟩ := chop_get hz hl ho he
  have hnol' : ∀ {j : Nat} {c : AV}, e.cells[j]? = some c → c.nol = true := fun hj => nols_get hnol (h2 _ _ hj)
  have hst : e.storable = true := by
    simp only [AV.storable, Bool.and_eq_true, List.all_eq_true]
    refine ⟨fun c hc => ?_, ?_⟩
    · obtain ⟨j, hj⟩ := List.getElem?_of_mem hc
      exact ho c (List.mem_of_getElem? (h2 j c hj))
    · have key : ∀ {xs : List AV}, (∀ (j : Nat) (c : AV), xs[j]? = some c → c.nol = true) → AV.nols xs = true := by
        intro xs
        induction xs with
        | nil => intro _; rfl
        | cons x xs ih => intro h; simp only [AV.nols, Bool.and_eq_true]; exact ⟨h 0 x rfl, ih fun j c hj => h (j + 1) c (by simpa using hj)⟩
      cases e <;> first
        | (simp only [AV.nol]; exact key fun j c hj => hnol' hj)
        | exact hnol' (j := 0) rfl
  refine ⟨h1, hst, fun j c hj => ?_⟩
  obtain ⟨u, hu, hru⟩ := RepL_get hr (h2 j c hj)
  refine ⟨u, ?_, hru.ext (ext_mkH _ _ _ _ hid) (.inl (hnol' hj))⟩
  rw [Nat.zero_add, World.cell?_alloc_new]
  have : i * sz + j < us.length := (List.getElem?_eq_some_iff.1 hu).1
  simp only [List.getElem?_toArray]
  rw [List.getElem?_append_left this]; exact hu

theorem rep_lref_made {n m tot : Nat} {sz : Nat} {es : List AV} (ht : n ≤ tot) : Rep (K.mkH m id tot (.arr sz es)) (.lref id 0 n) (.slice (some ⟨m, 0, none⟩) n tot) := by
  simp only [Rep, Ctx.mkH, upd_same]
  exact ⟨by simp, _, tot, rfl, fun sz' es' h => ⟨0, rfl, by omega, ht, fun _ => by simp⟩⟩

theorem frozen_chop {sz n : Nat} (hz : 0 < sz) {cs : List AV} (hl : cs.length = n * sz) (ho : ∀ c ∈ cs, c.one = true) {Γ : Nat → Nat → AV → Prop} {b : Nat} (hΓ : ∀ o c, cs[o]? = some c → Γ b o c) : Frozen Γ sz b 0 (chop sz n cs) := by
  intro i e he
  obtain ⟨h1, h2⟩ := chop_get hz hl ho he
  exact ⟨h1, fun j c hj => by rw [Nat.zero_add]; exact hΓ _ _ (h2 j c hj)⟩

theorem does_bslice (hs : K.src = src) {env : Nat → AV} (he : Env K env a.tmps) (hI : Inv K w) (hH : K.H = σ.H) (hlo : K.lo = σ.lo) (hid : ¬ K.used id) (hn : n₀ ≤ id) (hw : wl ≤ id) {op : Op} {live : Bool} {sz n : Nat} {z : List AV} {qs : List (Nat × Nat × Opd)}
    (h : okOp P src op (.bslice live sz n z qs) = true) {cs : List AV} (hf : fills env z qs = some cs) :
    (AV.nols cs = true → Does P wl n₀ id op a w K σ { σ with H := upd σ.H id (some (.arr sz (chop sz n cs))) } (.lref id 0 n)) ∧ (AV.solids cs = true → Does P wl n₀ id op a w K σ σ (.slice sz (chop sz n cs))) := by
  cases op <;> simp only [okOp] at h <;> try (simp at h; done)
  rename_i t len ps
  split at h
  · rename_i e hel
    simp only [Bool.and_eq_true, beq_iff_eq, decide_eq_true_eq] at h
    obtain ⟨⟨⟨⟨⟨⟨hsz, rfl⟩, hbig⟩, hzl⟩, hinfo⟩, hone⟩, hps⟩ := h
    have hu := sliceElem_eq hel
    split at hinfo
    · rename_i i hi
      split at hinfo
      · rename_i zv hzv
        simp only [Bool.and_eq_true, decide_eq_true_eq] at hinfo
        obtain ⟨hrep, hvs⟩ := hinfo
        obtain ⟨hsz0, hpos⟩ : i.size = sz ∧ 0 < sz := by
          unfold sizeIs at hsz
          rw [hi] at hsz
          simpa using hsz
        have hzs : ((Array.range (len * sz)).map (zv.cells[· % zv.cells.size]!)).toList = repl len zv.cells.toList := by
          rw [show len * sz = len * zv.cells.size by rw [hvs]]
          exact zeros_repl zv.cells len (by omega)
        have hrz := (okConsts_rep (K := K) hs hrep).1
        rw [← hzs] at hrz
        obtain ⟨us', hu', hr', ho', hl'⟩ := fill_rep hs he _ hps hf hrz
        have hones : ∀ c ∈ cs, c.one = true := ho' (by rw [List.all_eq_true] at hone; exact hone)
        have hcl : cs.length = len * sz := by rw [hl', hzl]
        have hul := RepL_length hr'
        have run : ∀ o : Oper, o.op = .buildSlice t len ps → (execOp a.eval o).run P w = .ok (.value (.slice (some ⟨w.heap.size, 0, none⟩) len len)) (w.alloc (.cells us'.toList.toArray e)) := by
          intro o ho
          have e1 : (ps.map fun (j, x) => (j, a.eval x)).toList = ps.toList.map fun (j, x) => (j, a.eval x) := by simp
          have hb : ¬ (16777216 < len * sz) := by omega
          rw [← e1] at hu'
          simp only [execOp, ho]
          by_cases h0 : len * sz = 0
          · rw [h0] at hu'
            simp only [Array.range_zero', List.map_toArray, List.map_nil] at hu'
            simp [Instr.buildSlice, run_underlying hu, sizeOf, typeInfo, hi, hsz0, h0, Array.range_zero']
            simp only [Array.toList_map] at hu'
            rw [hu']
            simp [newRow]
          · simp [Instr.buildSlice, run_underlying hu, sizeOf, typeInfo, hi, hsz0, h0, hb, zeroValue, hzv]
            simp only [Array.toList_map] at hu'
            rw [hu']
            simp [newRow]
        constructor
        · intro hnol o ho
          refine ⟨_, _, _, .inl (run o ho), post_mkH (tot := len) hI hid hn hw hH hlo ?_, rep_lref_made (Nat.le_refl _)⟩
          have := obj_chop (w := w) (el := e) (tot := len) (vs := []) hpos hid hcl hones hnol hr' (Nat.le_refl _) (by simp at hul ⊢; omega)
          simpa using this
        · intro hsol o ho
          refine ⟨_, _, _, .inl (run o ho), post_frz (el := e) hI hsol hones hr' hH hlo, ?_⟩
          simp only [Rep]
          refine ⟨⟨w.heap.size, 0, none⟩, len, by rw [chop_length], by rw [chop_length]; exact Nat.le_refl _, fun _ => rfl, frozen_chop hpos hcl hones fun o c ho => by simp only [Ctx.frz, if_true]; exact ho⟩
      · simp at hinfo
    · simp at hinfo
  · simp at h

theorem does_mkslice (hs : K.src = src) {env : Nat → AV} (he : Env K env a.tmps) (hI : Inv K w) (hH : K.H = σ.H) (hlo : K.lo = σ.lo) (hid : ¬ K.used id) (hn : n₀ ≤ id) (hw : wl ≤ id) {op : Op} {sz bytes : Nat} {z : AV} {lx cx : Opd}
    (h : okOp P src op (.mkslice sz bytes z lx cx) = true) {l c : Int} (hl : lx.ev env = .int .i64 l) (hc : cx.ev env = .int .i64 c) (h0 : 0 ≤ l) (hlc : l ≤ c) (hb : c * bytes ≤ 140737488355328) :
    Does P wl n₀ id op a w K σ { σ with H := upd σ.H id (some (.arr sz (List.replicate l.toNat z))) } (.lref id 0 l.toNat) := by
  cases op <;> simp only [okOp] at h <;> try (simp at h; done)
  rename_i t l' c'
  simp only [Bool.and_eq_true] at h
  obtain ⟨⟨ht, h1⟩, h2⟩ := h
  have r1 := okOpd_rep hs he h1
  have r2 := okOpd_rep hs he h2
  rw [hl] at r1; rw [hc] at r2
  simp only [Rep] at r1 r2
  split at ht
  · rename_i e hel
    simp only [Bool.and_eq_true] at ht
    obtain ⟨⟨⟨hsz, hby⟩, hbp⟩, hzz⟩ := ht
    have hbp' : 0 < bytes := by simpa using hbp
    have hu := sliceElem_eq hel
    obtain ⟨zv, i, hi, hiz, hok, hst, hlen, hrun⟩ := run_zeroValue hzz
    obtain ⟨hr, hsol⟩ := okConst_rep (K := K) hs hok
    have hrc := hr.cells hst
    have hcl := RepL_length hrc
    obtain ⟨hsz0, hpos⟩ : i.size = sz ∧ 0 < sz := by
      unfold sizeIs at hsz; rw [hi] at hsz; simpa using hsz
    have hby0 : i.bytes = bytes := by
      unfold bytesIs at hby; rw [hi] at hby; simpa using hby
    have hbound : (i.bytes : Int) * c ≤ 281474976710656 := by rw [hby0, Int.mul_comm]; omega
    intro o ho
    by_cases h63 : c ≤ 9223372036854775807
    · have hrn := run_make (P := P) w t e i zv hu hi hiz .i64 .i64 l c h0 hlc hbound h63
      refine ⟨_, _, _, .inl (by simp only [execOp, ho, r1, r2]; rw [Sem.run_bind, hrn]; rfl), post_mkH (tot := c.toNat) hI hid hn hw hH hlo ?_, rep_lref_made (by omega)⟩
      simp only [ObjOk, Ctx.mkH, upd_same]
      refine ⟨by simp; omega, ⟨_, e, heap_alloc_new w _, by simp [size_madeCells, hsz0]⟩, fun j x hx => ?_⟩
      rw [List.getElem?_replicate] at hx
      split at hx
      · rename_i hj
        simp only [Option.some.injEq] at hx; subst hx
        refine ⟨by omega, hst, fun q d hd => ?_⟩
        obtain ⟨u, hu', hru⟩ := RepL_get hrc hd
        refine ⟨u, ?_, hru.ext (ext_mkH _ _ _ _ hid) (.inl (nol_cells (storable_nol hst) hd))⟩
        rw [Nat.zero_add, World.cell?_alloc_new]
        have hq : q < sz := by have := (List.getElem?_eq_some_iff.1 hd).1; omega
        have hjq : j * sz + q < c.toNat * i.size := by
          rw [hsz0]
          calc j * sz + q < j * sz + sz := by omega
            _ = (j + 1) * sz := by rw [Nat.add_mul, Nat.one_mul]
            _ ≤ c.toNat * sz := Nat.mul_le_mul_right _ (by omega)
        have hm : (j * sz + q) % zv.cells.size = q := by
          have : zv.cells.size = sz := by simp only [Array.length_toList] at hcl; omega
          rw [this, Nat.mul_comm, Nat.mul_add_mod, Nat.mod_eq_of_lt hq]
        have hu2 : zv.cells[q]? = some u := by simpa using hu'
        have hqs : q < zv.cells.size := (Array.getElem?_eq_some_iff.1 hu2).1
        simp only [madeCells]
        simp [hjq, hm, hqs, hu2]
        exact (Array.getElem?_eq_some_iff.1 hu2).2
      · simp at hx
    · exact absurd hb (by
        have : c ≤ c * bytes := by
          have := Int.mul_le_mul_of_nonneg_left (show (1 : Int) ≤ bytes by omega) (show (0 : Int) ≤ c by omega)
          simpa using this
        omega)
  · simp at ht

end
end Go.Proofs.Ytmbdccekcfeomaa.Am
end
/- Memory that is written: stores. -/
section
namespace Go.Proofs.Ytmbdccekcfeomaa.Am
set_option linter.unusedVariables false
set_option linter.unusedSimpArgs false
set_option linter.unnecessarySimpa false

def setBlk (w : World) (b : Nat) (o : Go.Obj) : World := { w with heap := w.heap.setIfInBounds b o }

theorem setBlk_size (w : World) (b : Nat) (o : Go.Obj) : (setBlk w b o).heap.size = w.heap.size := by simp [setBlk]
theorem setBlk_same {w : World} {b : Nat} {o : Go.Obj} (h : b < w.heap.size) : (setBlk w b o).heap[b]? = some o := by simp [setBlk, h]
theorem setBlk_other {w : World} {b c : Nat} {o : Go.Obj} (h : c ≠ b) : (setBlk w b o).heap[c]? = w.heap[c]? := by
  simp only [setBlk]
  rw [Array.getElem?_setIfInBounds_ne (Ne.symm h)]
theorem setBlk_setBlk (w : World) (b : Nat) (o o' : Go.Obj) : setBlk (setBlk w b o) b o' = setBlk w b o' := by
  simp [setBlk]

theorem setCell_setBlk {w : World} {b : Nat} {cs : Array Value} {el : Nat} {fr : Nat × Nat} (h : w.heap[b]? = some (.cells cs el fr)) (o : Nat) (v : Value) : w.setCell ⟨b, o, none⟩ v = setBlk w b (.cells (cs.setIfInBounds o v) el fr) := by
  have hb : b < w.heap.size := (Array.getElem?_eq_some_iff.1 h).1
  have hv : w.heap[b] = .cells cs el fr := (Array.getElem?_eq_some_iff.1 h).2
  simp only [World.setCell, setBlk]
  congr 1
  apply Array.ext_getElem?
  intro i
  rw [Array.getElem?_modify, Array.getElem?_setIfInBounds]
  by_cases hi : b = i
  · subst hi
    simp [hb, hv]
  · simp [hi]

def putA (cs : Array Value) (n : Nat) (vs : List Value) : Array Value := (put cs.toList n vs).toArray

theorem putA_get (cs : Array Value) (n : Nat) (vs : List Value) (h : n + vs.length ≤ cs.size) (j : Nat) : (putA cs n vs)[j]? = if n ≤ j ∧ j < n + vs.length then vs[j - n]? else cs[j]? := by
  simp only [putA, List.getElem?_toArray]
  rw [put_get _ _ _ _ (by simpa using h)]
  simp
theorem putA_size (cs : Array Value) (n : Nat) (vs : List Value) : (putA cs n vs).size = cs.size := by simp [putA, put_length]

theorem run_storeCells {P : Program} {b o el : Nat} : ∀ (vs : List Value) (i : Nat) (w : World) (cs : Array Value), w.heap[b]? = some (.cells cs el (0, 0)) → o + i + vs.length ≤ cs.size → (∀ v ∈ vs, v.oneCell' = true) →
    (storeCells ⟨b, o, none⟩ vs i).run P w = .ok () (setBlk w b (.cells (putA cs (o + i) vs) el (0, 0)))
  | [], i, w, cs, h, _, _ => by
    have hb : b < w.heap.size := (Array.getElem?_eq_some_iff.1 h).1
    have hv : w.heap[b] = .cells cs el (0, 0) := (Array.getElem?_eq_some_iff.1 h).2
    simp only [storeCells, Sem.run_pure, Result.ok.injEq, true_and]
    have e : putA cs (o + i) [] = cs := by
      apply Array.ext_getElem?
      intro j
      rw [putA_get _ _ _ (by simpa using by omega), if_neg (by simp)]
    rw [e, ← hv]
    cases w
    simp only [setBlk]
    congr 1
    apply Array.ext_getElem?
    intro j
    rw [Array.getElem?_setIfInBounds]
    split
    · rename_i hj; subst hj; simp_all
    · rfl
  | v :: vs, i, w, cs, h, hle, hone => by
    simp only [List.length_cons] at hle
    have hcell : w.cell? ⟨b, o + i, none⟩ = some (cs[o + i]'(by omega)) := by
      rw [cell_of_row w b _ cs el (0, 0) h]; simp
    have hfr : w.frozen? ⟨b, o + i, none⟩ = false := frozen_of_row w b _ cs el h
    have hb : b < w.heap.size := (Array.getElem?_eq_some_iff.1 h).1
    have hst : (store ((Addr.mk b o none).add i) v).run P w = .ok () (setBlk w b (.cells (cs.setIfInBounds (o + i) v) el (0, 0))) := by
      rw [addr_add, run_store P w _ v _ (hone v (by simp)), hcell]
      simp only [hfr, Bool.false_eq_true, if_false, setCell_setBlk h]
    simp only [storeCells, Sem.run_bind, hst, Result.andThen_ok]
    rw [run_storeCells vs (i + 1) _ _ (setBlk_same hb) (by simp; omega) (fun u hu => hone u (by simp [hu])), setBlk_setBlk]
    congr 3
    apply Array.ext_getElem?
    intro j
    rw [putA_get _ _ _ (by simp; omega), putA_get _ _ _ (by simp; omega)]
    simp only [List.length_cons]
    by_cases h1 : o + (i + 1) ≤ j ∧ j < o + (i + 1) + vs.length
    · rw [if_pos h1, if_pos (by omega)]
      have e : j - (o + i) = (j - (o + (i + 1))) + 1 := by omega
      rw [e, List.getElem?_cons_succ]
    · rw [if_neg h1]
      by_cases h2 : j = o + i
      · subst h2
        rw [if_pos (by omega), Nat.sub_self]
        have : o + i < cs.size := by omega
        simp [this]
      · rw [if_neg (by omega), Array.getElem?_setIfInBounds_ne (by omega)]

section
variable {P : Program} {src : Nat → Nat} {K : Ctx} {a : Act} {w : World} {σ : St} {wl n₀ id : Nat}

/-! ### what is known behind a write -/

theorem post_setLo (hI : Inv K w) {s st : Nat} {v v' : AV} (hs : K.lo s = some (st, v)) {cs' : Array Value} {el : Nat} (hsize : v'.cells.length ≤ cs'.size) (hst : v'.storable = true) (hc : ∀ (j : Nat) (c : AV), v'.cells[j]? = some c → ∃ u, cs'[j]? = some u ∧ Rep K c u)
    (hH : K.H = σ.H) (hlo : K.lo = σ.lo) : Post wl n₀ id K w σ { σ with lo := upd σ.lo s (some (st, v')) } { K with lo := upd K.lo s (some (st, v')) } (setBlk w (K.ω s) (.cells cs' el (0, 0))) := by
  have hne : K.lo s ≠ none := by rw [hs]; simp
  have hb := hI.ω_lt hne
  have hx : Ext K { K with lo := upd K.lo s (some (st, v')) } := ⟨rfl, fun _ h => h, fun _ _ _ h => h, fun _ _ h => ⟨rfl, h⟩, fun _ _ _ es h => ⟨es, h, rfl, rfl⟩⟩
  have hxl : ExtLo K { K with lo := upd K.lo s (some (st, v')) } := by
    intro s' st' x hst' hy
    change upd K.lo s (some (st, v')) s' = some (st', x) at hy
    simp only [upd] at hy
    split at hy
    · rename_i e; subst e
      simp only [Option.some.injEq, Prod.mk.injEq] at hy
      obtain ⟨rfl, rfl⟩ := hy
      exact ⟨v, hs, rfl⟩
    · exact ⟨x, hy, rfl⟩
  obtain ⟨g1, g2, g3, g4, g5⟩ := hI.locs s st v hs
  have hsome : ∀ s', (upd K.lo s (some (st, v'))) s' ≠ none → K.lo s' ≠ none := by
    intro s' h
    by_cases e : s' = s
    · rw [e]; exact hne
    · rwa [upd_other _ _ e] at h
  refine ⟨hH, by simp [hlo], ⟨?_, ?_, hI.dist, ?_, ?_⟩, ⟨by rw [setBlk_size]; exact Nat.le_refl _, ?_, hx, hxl, fun _ _ => rfl, fun j h => .inr ⟨j, h, rfl⟩, fun s' h => .inr ⟨hsome s' h, rfl⟩, fun _ _ h => h, SameIo.refl w⟩, fun j hj => .inl hj⟩
  · intro b o c hcc
    obtain ⟨h1, h2, u, hu, hru⟩ := hI.frozen b o c hcc
    have : b ≠ K.ω s := by intro e; rw [e] at hcc; exact g2 _ _ hcc
    exact ⟨h1, h2, u, by rw [cell_of_heap (setBlk_other this)]; exact hu, hru.ext hx (.inl (solid_nol h1))⟩
  · intro j ob hob
    obtain ⟨h1, h2, h3⟩ := hI.live j ob hob
    exact ⟨h1, h2, h3.ext hx rfl rfl rfl (setBlk_other (g3 j (by rw [show K.H j = _ from hob]; simp)))⟩
  · intro s' st' x hs'
    change upd K.lo s (some (st, v')) s' = some (st', x) at hs'
    simp only [upd] at hs'
    split at hs'
    · rename_i e; subst e
      simp only [Option.some.injEq, Prod.mk.injEq] at hs'
      obtain ⟨rfl, rfl⟩ := hs'
      refine ⟨g1, g2, g3, ⟨cs', el, setBlk_same hb, hsize⟩, hst, fun j c hj => ?_⟩
      obtain ⟨u, hu, hru⟩ := hc j c hj
      refine ⟨u, ?_, hru.ext hx (.inl (nol_cells (storable_nol hst) hj))⟩
      rw [cell_of_row _ _ _ cs' el (0, 0) (setBlk_same hb), Nat.zero_add]; exact hu
    · rename_i e
      obtain ⟨h1, h2, h3, h4, h5⟩ := hI.locs s' st' x hs'
      have : K.ω s' ≠ K.ω s := fun e' => e (hI.locd s' s (by rw [hs']; simp) hne e')
      refine ⟨h1, h2, h3, ?_, h5.ext hx (setBlk_other this)⟩
      obtain ⟨cs, el', hc', hl⟩ := h4; exact ⟨cs, el', (setBlk_other this).trans hc', hl⟩
  · intro s1 s2 h1 h2 he
    exact hI.locd s1 s2 (hsome s1 h1) (hsome s2 h2) he
  · intro b hb' _ hnl
    exact ⟨setBlk_other (fun e => hnl s hne e.symm), fun _ => rfl⟩

theorem post_setH (hI : Inv K w) {i : Nat} {ob ob' : Obj} (hi : K.H i = some ob) {gob : Go.Obj} (hw : wl ≤ i)
    (hkind : ∀ sz es, ob' = .arr sz es → ∃ es', ob = .arr sz es')
    (hok : ObjOk { K with H := upd K.H i (some ob') } (setBlk w (K.blk i) gob) i ob') (hH : K.H = σ.H) (hlo : K.lo = σ.lo) :
    Post wl n₀ id K w σ { σ with H := upd σ.H i (some ob') } { K with H := upd K.H i (some ob') } (setBlk w (K.blk i) gob) := by
  have hne : K.H i ≠ none := by rw [hi]; simp
  have hsome : ∀ j, (upd K.H i (some ob')) j ≠ none → K.H j ≠ none := by
    intro j h
    by_cases e : j = i
    · rw [e]; exact hne
    · rwa [upd_other _ _ e] at h
  have hx : Ext K { K with H := upd K.H i (some ob') } := by
    refine ⟨rfl, fun _ h => h, fun _ _ _ h => h, fun j _ h => ⟨rfl, hsome j h⟩, fun j _ sz es h => ?_⟩
    change upd K.H i (some ob') j = some (.arr sz es) at h
    simp only [upd] at h
    split at h
    · rename_i e; subst e
      simp only [Option.some.injEq] at h
      obtain ⟨es', he⟩ := hkind sz es h
      exact ⟨es', by rw [hi, he], rfl, rfl⟩
    · exact ⟨es, h, rfl, rfl⟩
  obtain ⟨g1, g2, g3⟩ := hI.live i ob hi
  refine ⟨by simp [hH], hlo, ⟨?_, ?_, ?_, ?_, hI.locd⟩, ⟨by rw [setBlk_size]; exact Nat.le_refl _, ?_, hx, ExtLo.refl K, ?_, fun j h => .inr ⟨j, hsome j h, rfl⟩, fun s' h => .inr ⟨h, rfl⟩, fun _ _ h => h, SameIo.refl w⟩, fun j hj => .inl hj⟩
  · intro b o c hcc
    obtain ⟨h1, h2, u, hu, hru⟩ := hI.frozen b o c hcc
    have : b ≠ K.blk i := by intro e; rw [e] at hcc; exact g2 _ _ hcc
    exact ⟨h1, h2, u, by rw [cell_of_heap (setBlk_other this)]; exact hu, hru.ext hx (.inl (solid_nol h1))⟩
  · intro j ob1 hob
    change upd K.H i (some ob') j = some ob1 at hob
    simp only [upd] at hob
    split at hob
    · rename_i e; subst e
      simp only [Option.some.injEq] at hob; subst hob
      exact ⟨g1, g2, hok⟩
    · rename_i e
      obtain ⟨h1, h2, h3⟩ := hI.live j ob1 hob
      have : K.blk j ≠ K.blk i := fun e' => e (hI.dist j i (by rw [hob]; simp) hne e')
      exact ⟨h1, h2, h3.ext hx rfl rfl rfl (setBlk_other this)⟩
  · intro j k hj hk he
    exact hI.dist j k (hsome j hj) (hsome k hk) he
  · intro s st x hs'
    obtain ⟨h1, h2, h3, h4, h5⟩ := hI.locs s st x hs'
    have : K.ω s ≠ K.blk i := fun e' => h3 i hne e'.symm
    refine ⟨h1, h2, fun j hj => h3 j (hsome j hj), ?_, h5.ext hx (setBlk_other this)⟩
    obtain ⟨cs, el', hc', hl⟩ := h4; exact ⟨cs, el', (setBlk_other this).trans hc', hl⟩
  · intro b hb' hnl _
    exact ⟨setBlk_other (fun e => hnl i hne e.symm), fun _ => rfl⟩
  · intro j hj
    exact upd_other _ _ (by omega)

/-! ### stores -/

theorem within_cells {e x e' : AV} {off : Nat} (h : within e off x = some e') : off + x.cells.length ≤ e.cells.length ∧ e'.cells = put e.cells off x.cells ∧ e'.isAgg = e.isAgg := by
  unfold within at h
  split at h
  · rename_i hc
    obtain ⟨rfl, h2, h3⟩ := hc
    simp only [Option.some.injEq] at h; subst h
    refine ⟨by omega, ?_, h3⟩
    apply List.ext_getElem?
    intro j
    rw [put_get _ _ _ _ (by omega)]
    simp only [Nat.zero_le, true_and, Nat.zero_add, Nat.sub_zero]
    split
    · rfl
    · rw [List.getElem?_eq_none (by omega), List.getElem?_eq_none (by omega)]
  · split at h
    · rename_i cs _
      split at h
      · simp only [Option.some.injEq] at h; subst h
        exact ⟨by assumption, rfl, rfl⟩
      · simp at h
    · simp at h

theorem nols_of {xs : List AV} (h : ∀ (j : Nat) (c : AV), xs[j]? = some c → c.nol = true) : AV.nols xs = true := by
  induction xs with
  | nil => rfl
  | cons x xs ih => simp only [AV.nols, Bool.and_eq_true]; exact ⟨h 0 x rfl, ih fun j c hj => h (j + 1) c (by simpa using hj)⟩

theorem storable_of {e : AV} (h1 : ∀ (j : Nat) (c : AV), e.cells[j]? = some c → c.one = true ∧ c.nol = true) : e.storable = true := by
  simp only [AV.storable, Bool.and_eq_true, List.all_eq_true]
  refine ⟨fun c hc => ?_, ?_⟩
  · obtain ⟨j, hj⟩ := List.getElem?_of_mem hc
    exact (h1 j c hj).1
  · cases e <;> first
      | (simp only [AV.nol]; exact nols_of fun j c hj => (h1 j c hj).2)
      | exact (h1 0 _ rfl).2

theorem within_storable {e x e' : AV} {off : Nat} (h : within e off x = some e') (he : e.storable = true) (hx : x.storable = true) : e'.storable = true := by
  obtain ⟨hle, hc, _⟩ := within_cells h
  refine storable_of fun j c hj => ?_
  rw [hc, put_get _ _ _ _ hle] at hj
  split at hj
  · exact ⟨storable_cells hx hj, nol_cells (storable_nol hx) hj⟩
  · exact ⟨storable_cells he hj, nol_cells (storable_nol he) hj⟩

theorem does_store (hs : K.src = src) {env : Nat → AV} (he : Env K env a.tmps) (hI : Inv K w) (hH : K.H = σ.H) (hlo : K.lo = σ.lo) {op : Op} {sz : Nat} {x v : Opd} (h : okOp P src op (.store sz x v) = true) {σ' : St} (hst : σ.store wl sz (x.ev env) (v.ev env) = some σ') :
    Does P wl n₀ id op a w K σ σ' .undef := by
  cases op <;> simp only [okOp] at h <;> try (simp at h; done)
  rename_i t y u
  simp only [Bool.and_eq_true] at h
  obtain ⟨⟨hz, h1⟩, h2⟩ := h
  have r1 := okOpd_rep hs he h1
  have r2 := okOpd_rep hs he h2
  unfold St.store at hst
  split at hst
  · rename_i hsz
    obtain ⟨hsz, hstor⟩ := hsz
    have rc := r2.cells hstor
    have lc := RepL_length rc
    have hone : ∀ q ∈ (a.eval u).cells.toList, q.oneCell' = true := by
      intro q hq
      obtain ⟨j, hj⟩ := List.getElem?_of_mem hq
      have hjl : j < (v.ev env).cells.length := by rw [lc]; exact (List.getElem?_eq_some_iff.1 hj).1
      obtain ⟨q', hq', hr⟩ := RepL_get rc (List.getElem?_eq_getElem hjl)
      rw [hj] at hq'; cases hq'
      exact one_oneCell (storable_cells hstor (List.getElem?_eq_getElem hjl)) hr
    have hcsz : (a.eval u).cells.size = sz := by simp only [Array.length_toList] at lc; omega
    have run : ∀ {b o el : Nat} {cs : Array Value}, a.eval y = .pointer (some ⟨b, o, none⟩) → w.heap[b]? = some (.cells cs el (0, 0)) → o + (v.ev env).cells.length ≤ cs.size → ∀ oo : Oper, oo.op = .store t y u →
        (execOp a.eval oo).run P w = .ok .skip (setBlk w b (.cells (putA cs o (a.eval u).cells.toList) el (0, 0))) := by
      intro b o el cs hp hb hle oo ho
      have hrs := run_storeCells (P := P) (o := o) (a.eval u).cells.toList 0 w cs hb (by rw [← lc]; simpa using hle) hone
      simp only [execOp, ho, hp, Instr.storeAt, Instr.sureAddr, storeVar]
      simp only [Sem.run_bind, Sem.run_pure, Result.andThen_ok, run_sizeOf hz, hcsz, ne_eq, not_true_eq_false, if_false, hrs, Nat.add_zero]
    split at hst
    · rename_i s st off hx
      rw [hx] at r1; simp only [Rep] at r1
      obtain ⟨hu, p, e, hl⟩ := r1
      split at hst
      · rename_i st' z hlz
        split at hst
        · rename_i hstt; subst hstt
          rw [← hlo] at hlz
          split at hst
          · rename_i z' hw
            simp only [Option.some.injEq] at hst; subst hst
            have hp := hl z hlz; subst hp
            obtain ⟨g1, g2, g3, ⟨cs, el, hcs, hcl⟩, g5⟩ := hI.locs s _ z hlz
            obtain ⟨hle, hcells, _⟩ := within_cells hw
            intro o ho
            refine ⟨undef, _, _, .inr ⟨run e hcs (by omega) o ho, rfl⟩, post_setLo (σ := σ) hI hlz ?_ (within_storable hw g5.1 hstor) ?_ hH hlo, by simp [Rep]⟩
            · rw [putA_size, hcells, put_length]; exact hcl
            · intro j c hj
              rw [hcells, put_get _ _ _ _ hle] at hj
              rw [putA_get _ _ _ (by rw [← lc]; omega), ← lc]
              split at hj
              · rename_i hc; rw [if_pos hc]; exact RepL_get rc hj
              · rename_i hc; rw [if_neg hc]
                obtain ⟨q, hq, hr⟩ := g5.2 j c hj
                rw [cell_of_row w _ _ cs el (0, 0) hcs, Nat.zero_add] at hq
                exact ⟨q, hq, hr⟩
          · simp at hst
        · simp at hst
      · simp at hst
    · rename_i i j off hx
      rw [hx] at r1; simp only [Rep] at r1
      obtain ⟨hu, p, e, hl⟩ := r1
      split at hst
      · rename_i hwl
        split at hst
        · rename_i n es hh
          rw [← hH] at hh
          split at hst
          · rename_i z hz'
            split at hst
            · rename_i z' hw
              simp only [Option.some.injEq] at hst; subst hst
              have hp := hl n es hh; subst hp
              obtain ⟨g1, g2, htot, ⟨cs, el, hcs, hcl⟩, g5⟩ := hI.live i _ hh
              obtain ⟨hle, hcells, _⟩ := within_cells hw
              obtain ⟨zl, zst, zc⟩ := g5 j z hz'
              have hjl : j < es.length := (List.getElem?_eq_some_iff.1 hz').1
              have hroom : K.base i + j * n + n ≤ cs.size := by
                have : (j + 1) * n ≤ K.tot i * n := Nat.mul_le_mul_right _ (by omega)
                rw [Nat.add_mul, Nat.one_mul] at this
                omega
              intro o ho
              refine ⟨undef, _, _, .inr ⟨run e hcs (by omega) o ho, rfl⟩, post_setH (σ := σ) hI hh hwl (fun sz es' he => by cases he; exact ⟨es, rfl⟩) ?_ hH hlo, by simp [Rep]⟩
              have hx : Ext K { K with H := upd K.H i (some (.arr n (es.set j z'))) } := by
                refine ⟨rfl, fun _ h => h, fun _ _ _ h => h, fun q _ h => ⟨rfl, ?_⟩, fun q _ sz es' h => ?_⟩
                · by_cases eq : q = i
                  · rw [eq, hh]; simp
                  · change upd K.H i _ q ≠ none at h; rwa [upd_other _ _ eq] at h
                · change upd K.H i _ q = _ at h
                  simp only [upd] at h
                  split at h
                  · rename_i eq; subst eq; cases h; exact ⟨es, hh, rfl, rfl⟩
                  · exact ⟨es', h, rfl, rfl⟩
              refine ⟨by simpa using htot, ⟨_, el, setBlk_same (Array.getElem?_eq_some_iff.1 hcs).1, by rw [putA_size]; exact hcl⟩, fun k e' he' => ?_⟩
              have hcell : ∀ m, (setBlk w (K.blk i) (.cells (putA cs (K.base i + j * n + off) (a.eval u).cells.toList) el (0, 0))).cell? ⟨K.blk i, m, none⟩ = if K.base i + j * n + off ≤ m ∧ m < K.base i + j * n + off + (v.ev env).cells.length then (a.eval u).cells.toList[m - (K.base i + j * n + off)]? else w.cell? ⟨K.blk i, m, none⟩ := by
                intro m
                rw [cell_of_row _ _ _ _ el (0, 0) (setBlk_same (Array.getElem?_eq_some_iff.1 hcs).1), putA_get _ _ _ (by rw [← lc]; omega), ← lc, cell_of_row w _ _ cs el (0, 0) hcs]
              rw [List.getElem?_set] at he'
              split at he'
              · rename_i hjk; subst hjk
                simp only [hjl, if_true, Option.some.injEq] at he'; subst he'
                refine ⟨by rw [hcells, put_length]; exact zl, within_storable hw zst hstor, fun q c hq => ?_⟩
                have hqn : c.nol = true := nol_cells (storable_nol (within_storable hw zst hstor)) hq
                rw [hcells, put_get _ _ _ _ hle] at hq
                show ∃ u', (setBlk w (K.blk i) _).cell? ⟨K.blk i, K.base i + j * n + q, none⟩ = some u' ∧ _
                rw [hcell]
                split at hq
                · rename_i hc
                  rw [if_pos (by omega)]
                  obtain ⟨q', hq', hr⟩ := RepL_get rc hq
                  exact ⟨q', by rw [← hq']; congr 1; omega, hr.ext hx (.inl hqn)⟩
                · rename_i hc
                  rw [if_neg (by omega)]
                  obtain ⟨q', hq', hr⟩ := zc q c hq
                  exact ⟨q', hq', hr.ext hx (.inl hqn)⟩
              · rename_i hjk
                obtain ⟨el1, est, ec⟩ := g5 k e' he'
                refine ⟨el1, est, fun q c hq => ?_⟩
                show ∃ u', (setBlk w (K.blk i) _).cell? ⟨K.blk i, K.base i + k * n + q, none⟩ = some u' ∧ _
                have hqn : q < n := by rw [← el1]; exact (List.getElem?_eq_some_iff.1 hq).1
                have hout : ¬ (K.base i + j * n + off ≤ K.base i + k * n + q ∧ K.base i + k * n + q < K.base i + j * n + off + (v.ev env).cells.length) := by
                  rcases Nat.lt_or_gt_of_ne hjk with hlt | hgt
                  · have : (j + 1) * n ≤ k * n := Nat.mul_le_mul_right _ (by omega)
                    rw [Nat.add_mul, Nat.one_mul] at this
                    omega
                  · have : (k + 1) * n ≤ j * n := Nat.mul_le_mul_right _ (by omega)
                    rw [Nat.add_mul, Nat.one_mul] at this
                    omega
                rw [hcell, if_neg hout]
                obtain ⟨q', hq', hr⟩ := ec q c hq
                exact ⟨q', hq', hr.ext hx (.inl (nol_cells (storable_nol est) hq))⟩
            · simp at hst
          · simp at hst
        · simp at hst
      · simp at hst
    · simp at hst
  · simp at hst

end
end Go.Proofs.Ytmbdccekcfeomaa.Am
end
