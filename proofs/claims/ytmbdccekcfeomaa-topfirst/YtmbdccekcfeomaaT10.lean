/- append, clear, a map written: the model does what the abstract machine does. -/
import Derived.Test.YtmbdccekcfeomaaT09
namespace Go.Proofs.Ytmbdccekcfeomaa.Am
set_option linter.unusedVariables false
set_option linter.unusedSimpArgs false
set_option linter.unnecessarySimpa false

section
variable {P : Program} {src : Nat → Nat} {K : Ctx} {a : Act} {w : World} {σ : St} {wl n₀ id : Nat}

/-- A new block behind what K knows becomes what an append made. -/
theorem new_row {K₁ : Ctx} (hI₁ : Inv K₁ w) (hx : Ext K K₁) {sz cap zc e : Nat} (hz : 0 < sz) {es : List AV} {vs rest : List Value} (hl : vs.length = es.length * sz) (hr : RowV K₁ sz es vs) (hcap : es.length ≤ cap) (hrest : rest.length = (cap - es.length) * zc) (hzc : zc = sz)
    (hid : ¬ K₁.used id) (hn : n₀ ≤ id) (hw : wl ≤ id) (hlo : K₁.lo = K.lo) (hω : K₁.ω = K.ω) (hΓ : K₁.Γ = K.Γ) (hused : K₁.used = K.used) (hblk : K₁.blk = K.blk) (hH : ∀ j, K₁.H j ≠ none → K.H j ≠ none) (hlow : ∀ j, j < wl → K₁.H j = K.H j) :
    (Inv (K₁.takeH w.heap.size 0 id cap (.arr sz es)) (w.drew.alloc (.cells (vs ++ rest).toArray e)) ∧ Evo wl n₀ K w (K₁.takeH w.heap.size 0 id cap (.arr sz es)) (w.drew.alloc (.cells (vs ++ rest).toArray e))) ∧
    (AV.solids es = true → Inv (K₁.takeΓ w.heap.size 0 (es.flatMap AV.cells)) (w.drew.alloc (.cells (vs ++ rest).toArray e)) ∧ Evo wl n₀ K w (K₁.takeΓ w.heap.size 0 (es.flatMap AV.cells)) (w.drew.alloc (.cells (vs ++ rest).toArray e)) ∧
      Frozen (K₁.takeΓ w.heap.size 0 (es.flatMap AV.cells)).Γ sz w.heap.size 0 es) := by
  rw [hzc] at hrest
  have hsame : ∀ c, c < w.heap.size → (w.drew.alloc (.cells (vs ++ rest).toArray e)).heap[c]? = w.heap[c]? := fun c hc => heap_old (w := w.drew) _ c hc
  have hb : (w.drew.alloc (.cells (vs ++ rest).toArray e)).heap[w.heap.size]? = some (.cells (vs ++ rest).toArray e (0, 0)) := heap_alloc_new w.drew _
  have hI' := hI₁.agree hsame
  have hf := free_new hI₁
  have hcs : ∀ k v, vs[k]? = some v → (vs ++ rest).toArray[0 + k]? = some v := by
    intro k v hv
    simp only [Nat.zero_add, List.getElem?_toArray]
    rw [List.getElem?_append_left (List.getElem?_eq_some_iff.1 hv).1]; exact hv
  have hroom : 0 + cap * sz ≤ (vs ++ rest).toArray.size := by
    simp only [List.size_toArray, List.length_append, hl, hrest, Nat.zero_add]
    rw [← Nat.add_mul]
    exact Nat.mul_le_mul_right _ (by omega)
  refine ⟨⟨inv_takeH hI' hf hid (obj_row hid hr hb hcap hroom hcs), ?_⟩, fun hs => ?_⟩
  · exact evo_takeH hx (by simp) (fun c hc _ => hsame c hc) (.inl (Nat.le_refl _)) hid hn hw hlo hω hΓ hused hblk hH hlow ⟨rfl, rfl, rfl⟩
  · obtain ⟨h1, h2⟩ := inv_row hz hI' hf hs hr hb hcs
    exact ⟨h1, evo_takeΓ hx hf (by simp) (fun c hc _ => hsame c hc) (.inl (Nat.le_refl _)) hlo hω hΓ hused hblk hH hlow ⟨rfl, rfl, rfl⟩, h2⟩

theorem append_ok {op : Op} {froz : Bool} {sz bytes : Nat} {x y : Opd} (h : okOp P src op (.append froz sz bytes x y) = true) :
    ∃ xs ts t e x' y' zv, op = .call { callee := .builtin .append, args := xs, argTypes := ts } ∧ ts = #[t, t] ∧ xs = #[x', y'] ∧ P.underlying t = some (.slice e) ∧ sizeIs P e sz = true ∧ bytesIs P e bytes = true ∧ 0 < bytes ∧ 0 < sz ∧
      (∃ i, P.info? e = some i ∧ i.zero = some zv) ∧ zv.cells.size = sz ∧ okOpd src x' x = true ∧ okOpd src y' y = true := by
  cases op <;> simp only [okOp] at h <;> try (simp at h; done)
  rename_i c
  obtain ⟨callee, args, argTypes⟩ := c
  cases callee <;> (try simp only at h) <;> try (simp at h; done)
  rename_i b
  cases b <;> (try simp only at h) <;> try (simp at h; done)
  split at h
  · rename_i t t' x' y' e1 e2
    simp only [Bool.and_eq_true, beq_iff_eq] at h
    obtain ⟨⟨⟨h0, rfl⟩, h1⟩, h2⟩ := h
    split at h0
    · rename_i e hel
      simp only [Bool.and_eq_true, decide_eq_true_eq] at h0
      obtain ⟨⟨⟨hz, hby⟩, hb1⟩, hzv⟩ := h0
      split at hzv
      · rename_i i hi
        split at hzv
        · rename_i zv hzv'
          refine ⟨args, argTypes, t', e, x', y', zv, rfl, two_list e1, two_list e2, sliceElem_eq hel, hz, hby, hb1, ?_, ⟨i, hi, hzv'⟩, by simpa using hzv, h1, h2⟩
          unfold sizeIs at hz; rw [hi] at hz; simp at hz; exact hz.2
        · simp at hzv
      · simp at hzv
    · simp at h0
  · simp at h

theorem does_append (hs : K.src = src) {env : Nat → AV} (he : Env K env a.tmps) (henv : env = σ.env) (hI : Inv K w) (hH : K.H = σ.H) (hlo : K.lo = σ.lo) (hid : ¬ K.used id) (hn : n₀ ≤ id) (hw : wl ≤ id) {op : Op} {froz : Bool} {sz bytes : Nat} {x y : Opd}
    (h : okOp P src op (.append froz sz bytes x y) = true) {call : CallF} {dst : Option Nat} {v : AV} {σ' : St} (hev : AOp.eval call wl id (.append froz sz bytes x y) σ dst = some (v, σ')) : Does P wl n₀ id op a w K σ σ' v := by
  subst henv
  obtain ⟨xs, ts, t, e, x', y', zv, rfl, rfl, rfl, hu, hz, hby, hb1, hpos, hzv, hzvs, h1, h2⟩ := append_ok h
  have rx := okOpd_rep hs he h1
  have ry := okOpd_rep hs he h2
  simp only [AOp.eval] at hev
  split at hev
  · simp at hev
  · rename_i ys hys
    obtain ⟨p, c, ey, hrow, hnil, _⟩ := elems_row hI hH hys ry
    obtain ⟨news, hnl, hnf, hno, hnr, _⟩ := row_firsts (P := P) (c := c) hpos rfl hrow hnil
    have run : ∀ {q : Option Addr} {sLen sCap : Nat} {r : Result Value}, a.eval x' = .slice q sLen sCap → (∀ ty, (Builtin.append_ #[t, t] ty #[.slice q sLen sCap, .slice p ys.length c]).run P w = r) → ∀ o : Oper, o.op = .call { callee := .builtin .append, args := #[x', y'], argTypes := #[t, t] } →
        (execOp a.eval o).run P w = r.andThen fun v w' => .ok (.value v) w' := by
      intro q sLen sCap r hx hr o ho
      refine run_builtin ho fun cs => ?_
      simp only [builtin, Sem.run_bind, Sem.run_pure]
      have : (#[x', y'] : Array Operand).map a.eval = #[.slice q sLen sCap, .slice p ys.length c] := by simp [hx, ey]
      rw [this, hr]
    -- nothing was there
    have none_there : ∀ {q : Option Addr}, a.eval x' = .slice q 0 0 → ys.length ≠ 0 → ys.length * bytes ≤ 140737488355328 →
        (froz = true → AV.solids ys = true → Does P wl n₀ id (.call { callee := .builtin .append, args := #[x', y'], argTypes := #[t, t] }) a w K σ σ (.slice sz ys)) ∧
        Does P wl n₀ id (.call { callee := .builtin .append, args := #[x', y'], argTypes := #[t, t] }) a w K σ { σ with H := upd σ.H id (some (.arr sz ys)) } (.lref id 0 ys.length) := by
      intro q hx hne hbd
      have hof : Firsts P w sz 0 (.slice q 0 0) [] := by
        intro w' hw'
        cases q with
        | none => simp [Builtin.firstCells]
        | some b => simp [Builtin.firstCells, loadCells, loadCellsFrom]
      obtain ⟨cap, rest, hcap, hrl, hrun⟩ := (fun ty => run_append_new (P := P) hu hz hby hzv ty hof hnf (by omega) (by simpa using hbd) hb1) 0
      have hruns : ∀ ty, (Builtin.append_ #[t, t] ty #[.slice q 0 0, .slice p ys.length c]).run P w = .ok (.slice (some ⟨w.heap.size, 0, none⟩) (0 + ys.length) cap) (w.drew.alloc (.cells ([] ++ news ++ rest).toArray e)) := fun ty => hrun
      simp only [Nat.zero_add, List.nil_append] at hruns hcap hrl
      obtain ⟨⟨i1, v1⟩, fz⟩ := new_row (n₀ := n₀) (wl := wl) (e := e) (K := K) hI (Ext.refl K) hpos hnl hnr hcap hrl hzvs hid hn hw rfl rfl rfl rfl rfl (fun _ h => h) (fun _ _ => rfl)
      refine ⟨fun _ hsol o ho => ?_, fun o ho => ?_⟩
      · obtain ⟨i2, v2, fr⟩ := fz hsol
        exact ⟨_, K.takeΓ w.heap.size 0 (ys.flatMap AV.cells), _, .inl (run hx hruns o ho), ⟨hH, hlo, i2, v2, fun j hj => .inl hj⟩, by simp only [Rep]; exact ⟨⟨w.heap.size, 0, none⟩, cap, rfl, hcap, fun _ => rfl, fr⟩⟩
      · exact ⟨_, K.takeH w.heap.size 0 id cap (.arr sz ys), _, .inl (run hx hruns o ho), ⟨by simp [Ctx.takeH, hH], hlo, i1, v1, fun j hj => hj.elim .inl (fun h => .inr (.inl h))⟩, rep_lref_taken hcap⟩
    split at hev
    · rename_i hx
      rw [hx] at rx; simp only [Rep] at rx
      split at hev
      · rename_i h0
        simp only [Option.some.injEq, Prod.mk.injEq] at hev
        obtain ⟨rfl, rfl⟩ := hev
        have hn0 : news = [] := List.length_eq_zero_iff.1 (by rw [hnl, h0, Nat.zero_mul])
        rw [h0, hn0] at hnf
        intro o ho
        refine ⟨.slice none 0 0, K, w, .inl ?_, ⟨hH, hlo, hI, Evo.refl _ _ _ _, fun j hj => .inl hj⟩, by simp [Rep]⟩
        exact run rx (r := .ok (.slice none 0 0) w) (fun ty => by rw [h0]; exact run_append_stay hu hz ty hnf (Nat.le_refl _)) o ho
      · rename_i h0
        split at hev
        · rename_i hbd
          obtain ⟨d1, d2⟩ := none_there rx h0 hbd
          split at hev
          · split at hev
            · rename_i hf hsol
              simp only [Option.some.injEq, Prod.mk.injEq] at hev
              obtain ⟨rfl, rfl⟩ := hev
              exact d1 hf hsol
            · simp at hev
          · simp only [Option.some.injEq, Prod.mk.injEq] at hev
            obtain ⟨rfl, rfl⟩ := hev
            exact d2
        · simp at hev
    · rename_i hx
      rw [hx] at rx; simp only [Rep] at rx
      obtain ⟨q, rx⟩ := rx
      split at hev
      · rename_i h0
        simp only [Option.some.injEq, Prod.mk.injEq] at hev
        obtain ⟨rfl, rfl⟩ := hev
        have hn0 : news = [] := List.length_eq_zero_iff.1 (by rw [hnl, h0, Nat.zero_mul])
        rw [h0, hn0] at hnf
        intro o ho
        refine ⟨.slice (some q) 0 0, K, w, .inl ?_, ⟨hH, hlo, hI, Evo.refl _ _ _ _, fun j hj => .inl hj⟩, by simp [Rep]⟩
        exact run rx (r := .ok (.slice (some q) 0 0) w) (fun ty => by rw [h0]; exact run_append_stay hu hz ty hnf (Nat.le_refl _)) o ho
      · rename_i h0
        split at hev
        · rename_i hbd
          obtain ⟨d1, d2⟩ := none_there rx h0 hbd
          split at hev
          · split at hev
            · rename_i hf hsol
              simp only [Option.some.injEq, Prod.mk.injEq] at hev
              obtain ⟨rfl, rfl⟩ := hev
              exact d1 hf hsol
            · simp at hev
          · simp only [Option.some.injEq, Prod.mk.injEq] at hev
            obtain ⟨rfl, rfl⟩ := hev
            exact d2
        · simp at hev
    · -- a slice with a name
      rename_i i j n hx
      split at hev
      case isFalse => simp at hev
      rename_i hwl
      split at hev
      case h_2 => simp at hev
      rename_i m es hh
      split at hev
      case isFalse => simp at hev
      rename_i hc
      obtain ⟨rfl, hle, hbd⟩ := hc
      have helem : σ.elems m (x.ev σ.env) = some ((es.drop j).take n) := by
        rw [hx]; simp [St.elems, hh, hle]
      obtain ⟨q, c', ex, hrowx, hnilx, _⟩ := elems_row hI hH helem rx
      rw [hx] at rx; simp only [Rep] at rx
      obtain ⟨hui, q', cap0, ex', hl⟩ := rx
      rw [← hH] at hh
      obtain ⟨o₀, rfl, hcap0, hncap, hoff⟩ := hl m es hh
      have hlen : ((es.drop j).take n).length = n := by simp; omega
      rw [ex', hlen] at ex
      injection ex with ex1 ex2 ex3
      subst ex1; subst ex3
      obtain ⟨olds, hol, hof, hoo, hor, hoc⟩ := row_firsts (P := P) (c := cap0) hpos hlen.symm hrowx hnilx
      rw [hlen] at hol
      obtain ⟨gu, gΓ, htot, ⟨cs, el, hcs, hroom⟩, hcells⟩ := hI.live i _ hh
      have hb := hI.blk_lt (id := i) (by rw [hh]; simp)
      -- the values that lie there
      have holds : ∀ (k : Nat) (v : Value), olds[k]? = some v → cs[o₀ + k]? = some v := by
        intro k v hk
        have := hoc _ rfl k v hk
        rwa [addr_add, cell_of_row w _ _ cs el (0, 0) hcs] at this
      have hall : RowV K m ((es.drop j).take n ++ ys) (olds ++ news) := RowV.append (by rw [hol, hlen]) hor hnr
      have hallL : (olds ++ news).length = ((es.drop j).take n ++ ys).length * m := by
        rw [List.length_append, List.length_append, hol, hnl, hlen, Nat.add_mul]
      -- what is written in place
      have placed : ∀ (k : Nat) (v : Value), o₀ + (n + ys.length) * m ≤ cs.size → (olds ++ news)[k]? = some v → (putA cs (o₀ + n * m) news)[o₀ + k]? = some v := by
        intro k v hsz hk
        rw [Nat.add_mul] at hsz
        rw [putA_get _ _ _ (by rw [hnl]; omega)]
        rw [List.getElem?_append] at hk
        split at hk
        · rename_i hlt
          rw [hol] at hlt
          rw [if_neg (by omega)]; exact holds k v hk
        · rename_i hge
          rw [hol] at hge hk
          have := (List.getElem?_eq_some_iff.1 hk).1
          rw [if_pos (by omega), ← hk]; congr 1; omega
      have roomIn : n + ys.length ≤ cap0 → 0 < cap0 → o₀ = K.base i + j * m ∧ o₀ + cap0 * m ≤ cs.size ∧ o₀ + (n + ys.length) * m ≤ cs.size := by
        intro h1 h2
        have e0 := hoff (by omega)
        have e1 : K.tot i * m = j * m + cap0 * m := by rw [← hcap0, Nat.add_mul]
        have e2 : (n + ys.length) * m ≤ cap0 * m := Nat.mul_le_mul_right _ h1
        refine ⟨e0, by omega, by omega⟩
      have hnes : K.H i ≠ none := by rw [hh]; simp
      have runIn : ∀ (h1 : n + ys.length ≤ cap0) (h2 : 0 < cap0) (o : Oper), o.op = .call { callee := .builtin .append, args := #[x', y'], argTypes := #[t, t] } →
          (execOp a.eval o).run P w = .ok (.value (.slice (some ⟨K.blk i, o₀, none⟩) (n + ys.length) cap0)) (setBlk w (K.blk i) (.cells (putA cs (o₀ + n * m) news) el (0, 0))) := by
        intro h1 h2 o ho
        obtain ⟨_, _, r3⟩ := roomIn h1 h2
        have hst := run_storeCells (P := P) (b := K.blk i) (o := o₀ + n * m) news 0 w cs hcs (by rw [hnl, Nat.add_zero]; rw [Nat.add_mul] at r3; omega) hno
        rw [run ex' (fun ty => run_append_room (P := P) hu hz ty hnf h1) o ho, addr_add, hst]
        simp
      have runNew : ∀ (h1 : cap0 < n + ys.length), ∃ cap rest, n + ys.length ≤ cap ∧ rest.length = (cap - (n + ys.length)) * zv.cells.size ∧ ∀ o : Oper, o.op = .call { callee := .builtin .append, args := #[x', y'], argTypes := #[t, t] } →
          (execOp a.eval o).run P w = .ok (.value (.slice (some ⟨w.heap.size, 0, none⟩) (n + ys.length) cap)) (w.drew.alloc (.cells (olds ++ news ++ rest).toArray e)) := by
        intro h1
        obtain ⟨cap, rest, g1, g2, g3⟩ := run_append_new (P := P) hu hz hby hzv 0 hof hnf h1 hbd hb1
        exact ⟨cap, rest, g1, g2, fun o ho => by rw [run ex' (fun ty => g3) o ho]; rfl⟩
      have hI₁ := inv_kill hI i
      have hfree := free_kill hI hh
      have hidk : ¬ (K.kill i).used id := hid
      have hallK : RowV (K.kill i) m ((es.drop j).take n ++ ys) (olds ++ news) := by
        intro k x hx
        obtain ⟨g1, g2, g3⟩ := hall k x hx
        refine ⟨g1, g2, fun q c hq => ?_⟩
        obtain ⟨u, hu', hr⟩ := g3 q c hq
        exact ⟨u, hu', hr.ext (ext_kill i) (.inl (nol_cells (storable_nol g2) hq))⟩
      have hlenall : ((es.drop j).take n ++ ys).length = n + ys.length := by rw [List.length_append, hlen]
      have kH : ∀ q, (K.kill i).H q ≠ none → K.H q ≠ none := fun q hq => (kill_some hq).1
      have klow : ∀ q, q < wl → (K.kill i).H q = K.H q := fun q hq => upd_other _ _ (by omega)
      have hin : ∀ h1 : n + ys.length ≤ cap0, 0 < cap0 → Inv (K.kill i) (setBlk w (K.blk i) (.cells (putA cs (o₀ + n * m) news) el (0, 0))) := fun _ _ =>
        inv_free hI₁ hfree (fun c _ hcb => setBlk_other hcb)
      split at hev
      · -- held by value
        split at hev
        case isFalse => simp at hev
        rename_i hfz hsol
        simp only [Option.some.injEq, Prod.mk.injEq] at hev
        obtain ⟨rfl, rfl⟩ := hev
        intro o ho
        by_cases h1 : n + ys.length ≤ cap0
        · by_cases h2 : 0 < cap0
          · obtain ⟨r1, r2, r3⟩ := roomIn h1 h2
            obtain ⟨i2, fr⟩ := inv_row hpos (hin h1 h2) hfree hsol hallK (setBlk_same hb) (fun k v hk => placed k v r3 hk)
            refine ⟨_, (K.kill i).takeΓ (K.blk i) o₀ (((es.drop j).take n ++ ys).flatMap AV.cells), _, .inl (runIn h1 h2 o ho), ⟨by simp [Ctx.takeΓ, Ctx.kill, hH], hlo, i2, ?_, fun q hq => .inl hq⟩, ?_⟩
            · exact evo_takeΓ (ext_kill i) hfree (by rw [setBlk_size]; exact Nat.le_refl _) (fun c _ hcb => setBlk_other hcb) (.inr ⟨i, hnes, rfl⟩) rfl rfl rfl rfl rfl kH klow ⟨rfl, rfl, rfl⟩
            · simp only [Rep]
              exact ⟨⟨_, o₀, none⟩, cap0, by rw [hlenall], by rw [hlenall]; exact h1, fun _ => rfl, fr⟩
          · -- nothing at all
            have hy0 : ys.length = 0 := by omega
            have hn0 : n = 0 := by omega
            have hnews : news = [] := List.length_eq_zero_iff.1 (by rw [hnl, hy0, Nat.zero_mul])
            have hnf0 := hnf
            rw [hy0, hnews] at hnf0
            refine ⟨.slice (some ⟨K.blk i, o₀, none⟩) n cap0, K.kill i, w, .inl ?_, ⟨by simp [Ctx.kill, hH], hlo, hI₁, evo_kill hwl, fun q hq => .inl hq⟩, ?_⟩
            · exact run ex' (r := .ok (.slice (some ⟨K.blk i, o₀, none⟩) n cap0) w) (fun ty => by rw [hy0]; exact run_append_stay hu hz ty hnf0 hncap) o ho
            · simp only [Rep]
              have e0 : (es.drop j).take n ++ ys = [] := List.length_eq_zero_iff.1 (by rw [hlenall]; omega)
              rw [e0]
              exact ⟨⟨K.blk i, o₀, none⟩, cap0, by rw [hn0]; rfl, by simp, fun _ => rfl, fun k x hx => by simp at hx⟩
        · obtain ⟨cap, rest, g1, g2, g3⟩ := runNew (by omega)
          obtain ⟨_, fz⟩ := new_row (n₀ := n₀) (wl := wl) (e := e) (K := K) hI₁ (ext_kill i) hpos hallL hallK (by rw [hlenall]; exact g1) (by rw [hlenall]; exact g2) hzvs hidk hn hw rfl rfl rfl rfl rfl kH klow
          obtain ⟨i2, v2, fr⟩ := fz hsol
          refine ⟨_, (K.kill i).takeΓ w.heap.size 0 (((es.drop j).take n ++ ys).flatMap AV.cells), _, .inl (g3 o ho), ⟨by simp [Ctx.takeΓ, Ctx.kill, hH], hlo, i2, v2, fun q hq => .inl hq⟩, ?_⟩
          simp only [Rep]
          exact ⟨⟨w.heap.size, 0, none⟩, cap, by rw [hlenall], by rw [hlenall]; exact g1, fun _ => rfl, fr⟩
      · split at hev
        · -- what was there is enough
          rename_i hfz hfit
          simp only [Option.some.injEq, Prod.mk.injEq] at hev
          obtain ⟨rfl, rfl⟩ := hev
          have h1 : n + ys.length ≤ cap0 := by omega
          by_cases hy0 : ys.length = 0
          · have hnews : news = [] := List.length_eq_zero_iff.1 (by rw [hnl, hy0, Nat.zero_mul])
            have hys0 : ys = [] := List.length_eq_zero_iff.1 hy0
            have hnf0 := hnf
            rw [hy0, hnews] at hnf0
            have hes : es.take (j + n) ++ ys ++ es.drop (j + n + ys.length) = es := by rw [hys0]; simp
            have hHs : upd σ.H i (some (.arr m (es.take (j + n) ++ ys ++ es.drop (j + n + ys.length)))) = σ.H := by
              rw [hes]
              funext q
              by_cases e : q = i
              · rw [e, upd_same, ← hH, hh]
              · rw [upd_other _ _ e]
            intro o ho
            refine ⟨.slice (some ⟨K.blk i, o₀, none⟩) n cap0, K, w, .inl ?_, ⟨by rw [hHs]; exact hH, hlo, hI, Evo.refl _ _ _ _, fun q hq => .inl hq⟩, ?_⟩
            · exact run ex' (r := .ok (.slice (some ⟨K.blk i, o₀, none⟩) n cap0) w) (fun ty => by rw [hy0]; exact run_append_stay hu hz ty hnf0 hncap) o ho
            · simp only [Rep]
              refine ⟨hui, _, cap0, by rw [hy0, Nat.add_zero], fun sz' es' hh' => ?_⟩
              rw [hh] at hh'; cases hh'
              exact ⟨o₀, rfl, hcap0, by omega, hoff⟩
          · have h2 : 0 < cap0 := by omega
            obtain ⟨r1, r2, r3⟩ := roomIn h1 h2
            intro o ho
            refine ⟨_, _, _, .inl (runIn h1 h2 o ho), post_setH (σ := σ) hI hh hwl (fun sz es' he' => by cases he'; exact ⟨es, rfl⟩) ?_ hH hlo, ?_⟩
            · have hx' : Ext K { K with H := upd K.H i (some (.arr m (es.take (j + n) ++ ys ++ es.drop (j + n + ys.length)))) } := by
                refine ⟨rfl, fun _ h => h, fun _ _ _ h => h, fun q _ h => ⟨rfl, ?_⟩, fun q _ sz es' h => ?_⟩
                · by_cases eq : q = i
                  · rw [eq]; exact hnes
                  · change upd K.H i _ q ≠ none at h; rwa [upd_other _ _ eq] at h
                · change upd K.H i _ q = _ at h
                  by_cases eq : q = i
                  · subst eq; rw [upd_same] at h; cases h; exact ⟨es, hh, rfl, rfl⟩
                  · rw [upd_other _ _ eq] at h; exact ⟨es', h, rfl, rfl⟩
              have hl' : (es.take (j + n) ++ ys ++ es.drop (j + n + ys.length)).length = es.length := by simp; omega
              refine ⟨by rw [hl']; exact htot, ⟨_, el, setBlk_same hb, by rw [putA_size]; exact hroom⟩, fun k x hx2 => ?_⟩
              have hcell : ∀ q, (setBlk w (K.blk i) (.cells (putA cs (o₀ + n * m) news) el (0, 0))).cell? ⟨K.blk i, q, none⟩ = if o₀ + n * m ≤ q ∧ q < o₀ + n * m + news.length then news[q - (o₀ + n * m)]? else w.cell? ⟨K.blk i, q, none⟩ := by
                intro q
                rw [cell_of_row _ _ _ _ el (0, 0) (setBlk_same hb), putA_get _ _ _ (by rw [hnl]; rw [Nat.add_mul] at r3; omega), cell_of_row w _ _ cs el (0, 0) hcs]
              have hjn : o₀ + n * m = K.base i + (j + n) * m := by rw [r1, Nat.add_mul]; omega
              have old : ∀ {k : Nat} {x : AV}, es[k]? = some x → (k < j + n ∨ j + n + ys.length ≤ k) → x.cells.length = m ∧ CellsAt { K with H := upd K.H i (some (.arr m (es.take (j + n) ++ ys ++ es.drop (j + n + ys.length)))) } (setBlk w (K.blk i) (.cells (putA cs (o₀ + n * m) news) el (0, 0))) (K.blk i) (K.base i + k * m) x := by
                intro k x hx2 hk
                obtain ⟨g1, g2, g3⟩ := hcells k x hx2
                refine ⟨g1, g2, fun q c hq => ?_⟩
                obtain ⟨u, hu', hr⟩ := g3 q c hq
                have hqm : q < m := by rw [← g1]; exact (List.getElem?_eq_some_iff.1 hq).1
                refine ⟨u, ?_, hr.ext hx' (.inl (nol_cells (storable_nol g2) hq))⟩
                rw [hcell, if_neg, ← hu']
                rw [hnl, hjn]
                rcases hk with hk | hk
                · have : (k + 1) * m ≤ (j + n) * m := Nat.mul_le_mul_right _ hk
                  rw [Nat.add_mul, Nat.one_mul] at this
                  omega
                · have : (j + n + ys.length) * m ≤ k * m := Nat.mul_le_mul_right _ hk
                  rw [Nat.add_mul] at this
                  omega
              show x.cells.length = m ∧ CellsAt _ _ (K.blk i) (K.base i + k * m) x
              rw [List.append_assoc, List.getElem?_append] at hx2
              split at hx2
              · rename_i hk
                have hk' : k < j + n := by simp at hk; omega
                rw [List.getElem?_take, if_pos hk'] at hx2
                exact old hx2 (.inl hk')
              · rename_i hk
                have hk0 : (es.take (j + n)).length = j + n := by simp; omega
                rw [hk0] at hk hx2
                rw [List.getElem?_append] at hx2
                split at hx2
                · rename_i hk2
                  obtain ⟨g1, g2, g3⟩ := hnr _ x hx2
                  refine ⟨g1, g2, fun q c hq => ?_⟩
                  obtain ⟨u, hu', hr⟩ := g3 q c hq
                  have hlt := (List.getElem?_eq_some_iff.1 hu').1
                  refine ⟨u, ?_, hr.ext hx' (.inl (nol_cells (storable_nol g2) hq))⟩
                  have hkk : k * m = (j + n) * m + (k - (j + n)) * m := by rw [← Nat.add_mul]; congr 1; omega
                  rw [hcell, if_pos (by rw [hjn]; omega), ← hu']
                  congr 1
                  rw [hjn]; omega
                · rename_i hk2
                  rw [List.getElem?_drop] at hx2
                  refine old (k := k) ?_ (.inr (by omega))
                  rw [← hx2]; congr 1; omega
            · simp only [Rep]
              refine ⟨hui, _, cap0, rfl, fun sz' es' hh' => ?_⟩
              rw [upd_same] at hh'; cases hh'
              exact ⟨o₀, rfl, hcap0, h1, hoff⟩
        · -- a new name
          rename_i hfz hfit
          simp only [Option.some.injEq, Prod.mk.injEq] at hev
          obtain ⟨rfl, rfl⟩ := hev
          intro o ho
          by_cases h1 : n + ys.length ≤ cap0
          · have h2 : 0 < cap0 := by omega
            obtain ⟨r1, r2, r3⟩ := roomIn h1 h2
            have hok := obj_row (K := K.kill i) (tot := cap0) (base := o₀) hidk hallK (setBlk_same (o := .cells (putA cs (o₀ + n * m) news) el (0, 0)) hb) (by rw [hlenall]; exact h1) (by rw [putA_size]; exact r2) (fun k v hk => placed k v r3 hk)
            refine ⟨_, (K.kill i).takeH (K.blk i) o₀ id cap0 (.arr m ((es.drop j).take n ++ ys)), _, .inl (runIn h1 h2 o ho), ⟨by simp [Ctx.takeH, Ctx.kill, hH], hlo, inv_takeH (hin h1 h2) hfree hidk hok, ?_, fun q hq => hq.elim .inl (fun h => .inr (.inl h))⟩, ?_⟩
            · exact evo_takeH (ext_kill i) (by rw [setBlk_size]; exact Nat.le_refl _) (fun c _ hcb => setBlk_other hcb) (.inr ⟨i, hnes, rfl⟩) hidk hn hw rfl rfl rfl rfl rfl kH klow ⟨rfl, rfl, rfl⟩
            · exact rep_lref_taken h1
          · obtain ⟨cap, rest, g1, g2, g3⟩ := runNew (by omega)
            obtain ⟨⟨i1, v1⟩, _⟩ := new_row (n₀ := n₀) (wl := wl) (e := e) (K := K) hI₁ (ext_kill i) hpos hallL hallK (by rw [hlenall]; exact g1) (by rw [hlenall]; exact g2) hzvs hidk hn hw rfl rfl rfl rfl rfl kH klow
            refine ⟨_, (K.kill i).takeH w.heap.size 0 id cap (.arr m ((es.drop j).take n ++ ys)), _, .inl (g3 o ho), ⟨by simp [Ctx.takeH, Ctx.kill, hH], hlo, i1, v1, fun q hq => hq.elim .inl (fun h => .inr (.inl h))⟩, rep_lref_taken g1⟩
    · simp at hev

end
end Go.Proofs.Ytmbdccekcfeomaa.Am
