/- Stepping: values by parts, locals, counted loops, ends of calls. -/
import Derived.Test.YtmbdccekcfeomaaT19
import Derived.Test.YtmbdccekcfeomaaT03
open Go
namespace Go.Proofs.Ytmbdccekcfeomaa.Am
set_option linter.unusedSimpArgs false
set_option linter.unusedVariables false

theorem upd_apply {α : Type} (f : Nat → α) (i : Nat) (v : α) (j : Nat) : upd f i v j = if j = i then v else f j := _root_.id rfl
theorem load_fptr (σ : St) (sz : Nat) (agg : Bool) (x : AV) (off : Nat) : σ.load sz agg (.fptr x off) = part sz agg x off := _root_.id rfl
theorem load_loc (σ : St) (sz : Nat) (agg : Bool) (s st off : Nat) : σ.load sz agg (.loc s st off) = match σ.lo s with
    | some (st', v) => if st' = st then part sz agg v off else none
    | none => none := _root_.id rfl
theorem load_ptr (σ : St) (sz : Nat) (agg : Bool) (id i off : Nat) : σ.load sz agg (.ptr id i off) = match σ.H id with
    | some (.arr _ es) => match es[i]? with
      | some e => part sz agg e off
      | none => none
    | _ => none := rfl
theorem part_whole {sz : Nat} {agg : Bool} {x : AV} (h1 : x.cells.length = sz) (h2 : x.isAgg = agg) : part sz agg x 0 = some x := by simp [part, h1, h2]
theorem store_loc (σ : St) (wl sz : Nat) (s st off : Nat) (x : AV) : σ.store wl sz (.loc s st off) x = if x.cells.length = sz ∧ x.storable = true then
    (match σ.lo s with
      | some (st', v) => if st' = st then
          match within v off x with
          | some v' => some { σ with lo := upd σ.lo s (some (st, v')) }
          | none => none
        else none
      | none => none) else none := _root_.id rfl
theorem store_ptr (σ : St) (wl sz : Nat) (id i off : Nat) (x : AV) : σ.store wl sz (.ptr id i off) x = if x.cells.length = sz ∧ x.storable = true then
    (if wl ≤ id then
        match σ.H id with
        | some (.arr n es) => match es[i]? with
          | some e => match within e off x with
            | some e' => some { σ with H := upd σ.H id (some (.arr n (es.set i e'))) }
            | none => none
          | none => none
        | _ => none
      else none) else none := _root_.id rfl

/-! ### constructors -/
theorem cells_int (k : IntKind) (n : Int) : (AV.int k n).cells = [.int k n] := _root_.id rfl
theorem cells_bool (b : Bool) : (AV.bool b).cells = [.bool b] := _root_.id rfl
theorem cells_agg (cs : List AV) : (AV.agg cs).cells = cs := _root_.id rfl
theorem cells_nil : AV.nilSlice.cells = [.nilSlice] := _root_.id rfl
theorem cells_slice (n : Nat) (es : List AV) : (AV.slice n es).cells = [.slice n es] := _root_.id rfl
theorem cells_eslice : AV.eslice.cells = [.eslice] := _root_.id rfl
theorem cells_lref (i j n : Nat) : (AV.lref i j n).cells = [.lref i j n] := _root_.id rfl
theorem cells_ptr (i j n : Nat) : (AV.ptr i j n).cells = [.ptr i j n] := _root_.id rfl
theorem cells_fptr (x : AV) (n : Nat) : (AV.fptr x n).cells = [.fptr x n] := _root_.id rfl
theorem cells_clo (f : Nat) (c : List AV) : (AV.clo f c).cells = [.clo f c] := _root_.id rfl
theorem cells_map (i : Nat) : (AV.map i).cells = [.map i] := _root_.id rfl
theorem cells_nilFunc : AV.nilFunc.cells = [.nilFunc] := _root_.id rfl
theorem isAgg_int (k : IntKind) (n : Int) : (AV.int k n).isAgg = false := _root_.id rfl
theorem isAgg_bool (b : Bool) : (AV.bool b).isAgg = false := _root_.id rfl
theorem isAgg_agg (cs : List AV) : (AV.agg cs).isAgg = true := _root_.id rfl
theorem isAgg_nil : AV.nilSlice.isAgg = false := _root_.id rfl
theorem isAgg_slice (n : Nat) (es : List AV) : (AV.slice n es).isAgg = false := _root_.id rfl
theorem isAgg_eslice : AV.eslice.isAgg = false := _root_.id rfl
theorem isAgg_lref (i j n : Nat) : (AV.lref i j n).isAgg = false := _root_.id rfl
theorem isAgg_ptr (i j n : Nat) : (AV.ptr i j n).isAgg = false := _root_.id rfl
theorem isAgg_fptr (x : AV) (n : Nat) : (AV.fptr x n).isAgg = false := _root_.id rfl
theorem isAgg_clo (f : Nat) (c : List AV) : (AV.clo f c).isAgg = false := _root_.id rfl
theorem isAgg_map (i : Nat) : (AV.map i).isAgg = false := _root_.id rfl
theorem isAgg_nilFunc : AV.nilFunc.isAgg = false := _root_.id rfl
theorem one_int (k : IntKind) (n : Int) : (AV.int k n).one = true := _root_.id rfl
theorem one_bool (b : Bool) : (AV.bool b).one = true := _root_.id rfl
theorem one_nil : AV.nilSlice.one = true := _root_.id rfl
theorem one_slice (n : Nat) (es : List AV) : (AV.slice n es).one = true := _root_.id rfl
theorem one_eslice : AV.eslice.one = true := _root_.id rfl
theorem one_lref (i j n : Nat) : (AV.lref i j n).one = true := _root_.id rfl
theorem one_ptr (i j n : Nat) : (AV.ptr i j n).one = true := _root_.id rfl
theorem one_fptr (x : AV) (n : Nat) : (AV.fptr x n).one = true := _root_.id rfl
theorem one_clo (f : Nat) (c : List AV) : (AV.clo f c).one = true := _root_.id rfl
theorem one_map (i : Nat) : (AV.map i).one = true := _root_.id rfl
theorem one_nilFunc : AV.nilFunc.one = true := _root_.id rfl
theorem nol_int (k : IntKind) (n : Int) : (AV.int k n).nol = true := by rw [AV.nol]; all_goals (intros; contradiction)
theorem nol_bool (b : Bool) : (AV.bool b).nol = true := by rw [AV.nol]; all_goals (intros; contradiction)
theorem nol_nil : AV.nilSlice.nol = true := by rw [AV.nol]; all_goals (intros; contradiction)
theorem nol_slice (n : Nat) (es : List AV) : (AV.slice n es).nol = true := by rw [AV.nol]; all_goals (intros; contradiction)
theorem nol_eslice : AV.eslice.nol = true := by rw [AV.nol]; all_goals (intros; contradiction)
theorem nol_lref (i j n : Nat) : (AV.lref i j n).nol = true := by rw [AV.nol]; all_goals (intros; contradiction)
theorem nol_ptr (i j n : Nat) : (AV.ptr i j n).nol = true := by rw [AV.nol]; all_goals (intros; contradiction)
theorem nol_fptr (x : AV) (n : Nat) : (AV.fptr x n).nol = true := by rw [AV.nol]; all_goals (intros; contradiction)
theorem nol_clo (f : Nat) (c : List AV) : (AV.clo f c).nol = AV.nols c := by rw [AV.nol]
theorem nol_agg (c : List AV) : (AV.agg c).nol = AV.nols c := by rw [AV.nol]
theorem nol_tup (c : List AV) : (AV.tup c).nol = AV.nols c := by rw [AV.nol]
theorem nol_map (i : Nat) : (AV.map i).nol = true := by rw [AV.nol]; all_goals (intros; contradiction)
theorem nol_nilFunc : AV.nilFunc.nol = true := by rw [AV.nol]; all_goals (intros; contradiction)
theorem nols_nil : AV.nols [] = true := _root_.id rfl
theorem nols_cons (v : AV) (vs : List AV) : AV.nols (v :: vs) = (v.nol && AV.nols vs) := by rw [AV.nols]
theorem solid_int (k : IntKind) (n : Int) : (AV.int k n).solid = true := by rw [AV.solid]; all_goals (intros; contradiction)
theorem solid_bool (b : Bool) : (AV.bool b).solid = true := by rw [AV.solid]; all_goals (intros; contradiction)
theorem solid_nil : AV.nilSlice.solid = true := by rw [AV.solid]; all_goals (intros; contradiction)
theorem solid_slice (n : Nat) (es : List AV) : (AV.slice n es).solid = true := by rw [AV.solid]; all_goals (intros; contradiction)
theorem solid_eslice : AV.eslice.solid = true := by rw [AV.solid]; all_goals (intros; contradiction)
theorem solid_fptr (x : AV) (n : Nat) : (AV.fptr x n).solid = true := by rw [AV.solid]; all_goals (intros; contradiction)
theorem solid_clo (f : Nat) (c : List AV) : (AV.clo f c).solid = AV.solids c := by rw [AV.solid]
theorem solid_agg (c : List AV) : (AV.agg c).solid = AV.solids c := by rw [AV.solid]
theorem solid_tup (c : List AV) : (AV.tup c).solid = AV.solids c := by rw [AV.solid]
theorem solids_nil : AV.solids [] = true := _root_.id rfl
theorem solids_cons (v : AV) (vs : List AV) : AV.solids (v :: vs) = (v.solid && AV.solids vs) := by rw [AV.solids]
theorem storable_int (k : IntKind) (n : Int) : (AV.int k n).storable = true := by simp [AV.storable, cells_int, one_int, nol_int]
theorem storable_bool (b : Bool) : (AV.bool b).storable = true := by simp [AV.storable, cells_bool, one_bool, nol_bool]
theorem storable_nil : AV.nilSlice.storable = true := by simp [AV.storable, cells_nil, one_nil, nol_nil]
theorem storable_slice (n : Nat) (es : List AV) : (AV.slice n es).storable = true := by simp [AV.storable, cells_slice, one_slice, nol_slice]
theorem storable_eslice : AV.eslice.storable = true := by simp [AV.storable, cells_eslice, one_eslice, nol_eslice]
theorem storable_lref (i j n : Nat) : (AV.lref i j n).storable = true := by simp [AV.storable, cells_lref, one_lref, nol_lref]
theorem storable_ptr (i j n : Nat) : (AV.ptr i j n).storable = true := by simp [AV.storable, cells_ptr, one_ptr, nol_ptr]
theorem storable_fptr (x : AV) (n : Nat) : (AV.fptr x n).storable = true := by simp [AV.storable, cells_fptr, one_fptr, nol_fptr]
theorem storable_map (i : Nat) : (AV.map i).storable = true := by simp [AV.storable, cells_map, one_map, nol_map]
theorem storable_nilFunc : AV.nilFunc.storable = true := by simp [AV.storable, cells_nilFunc, one_nilFunc, nol_nilFunc]
theorem storable_clo (f : Nat) (c : List AV) : (AV.clo f c).storable = AV.nols c := by simp [AV.storable, cells_clo, one_clo, nol_clo]
theorem storable_agg (cs : List AV) : (AV.agg cs).storable = (cs.all AV.one && AV.nols cs) := by simp [AV.storable, cells_agg, nol_agg]

theorem boolV_bool (b : Bool) : boolV (.bool b) = some b := _root_.id rfl
theorem cloV_clo (f : Nat) (c : List AV) : cloV (.clo f c) = some (f, c) := _root_.id rfl
theorem ncheckV_fptr (x : AV) (o : Nat) : ncheckV (.fptr x o) = some (.fptr x o) := _root_.id rfl
theorem ncheckV_ptr (a b c : Nat) : ncheckV (.ptr a b c) = some (.ptr a b c) := _root_.id rfl
theorem ncheckV_loc (a b c : Nat) : ncheckV (.loc a b c) = some (.loc a b c) := _root_.id rfl
theorem ncheckV_clo (f : Nat) (c : List AV) : ncheckV (.clo f c) = some (.clo f c) := _root_.id rfl
theorem lenV_nil : lenV .nilSlice = some (.int .i64 0) := _root_.id rfl
theorem lenV_eslice : lenV .eslice = some (.int .i64 0) := _root_.id rfl
theorem lenV_slice (n : Nat) (es : List AV) : lenV (.slice n es) = some (.int .i64 es.length) := _root_.id rfl
theorem lenV_lref (i j n : Nat) : lenV (.lref i j n) = some (.int .i64 n) := _root_.id rfl
theorem eqbV_bool (neg a b : Bool) : eqbV neg (.bool a) (.bool b) = some (.bool (if neg then !(a == b) else (a == b))) := _root_.id rfl
theorem eqsV_agg (ks : List Nat) (neg : Bool) (a b : List AV) : eqsV ks neg (.agg a) (.agg b) = (eqCells ks a b).map fun b => .bool (if neg then !b else b) := _root_.id rfl
theorem faddrV_fptr (off : Nat) (v : AV) (o : Nat) : faddrV off (.fptr v o) = some (.fptr v (o + off)) := _root_.id rfl
theorem faddrV_ptr (off i j o : Nat) : faddrV off (.ptr i j o) = some (.ptr i j (o + off)) := _root_.id rfl
theorem faddrV_loc (off i j o : Nat) : faddrV off (.loc i j o) = some (.loc i j (o + off)) := _root_.id rfl
theorem fieldV_agg (off sz : Nat) (agg : Bool) (cs : List AV) : fieldV off sz agg (.agg cs) = part sz agg (.agg cs) off := _root_.id rfl
theorem extractV_tup (i : Nat) (vs : List AV) : extractV i (.tup vs) = vs[i]? := _root_.id rfl
theorem unV_not (b : Bool) : unV .not (.bool b) = some (.bool (!b)) := _root_.id rfl
theorem unV_neg (k : IntKind) (n : Int) : unV .neg (.int k n) = some (.int k (k.wrap (0 - n))) := _root_.id rfl
theorem binV_add (k : IntKind) (a b : Int) : binV .add (.int k a) (.int k b) = some (.int k (k.wrap (a + b))) := by simp [binV, intBin]
theorem binV_sub (k : IntKind) (a b : Int) : binV .sub (.int k a) (.int k b) = some (.int k (k.wrap (a - b))) := by simp [binV, intBin]
theorem binV_mul (k : IntKind) (a b : Int) : binV .mul (.int k a) (.int k b) = some (.int k (k.wrap (a * b))) := by simp [binV, intBin]
theorem binV_quo (k : IntKind) (a b : Int) : binV .quo (.int k a) (.int k b) = if b = 0 then none else some (.int k (k.wrap (a.tdiv b))) := by simp [binV, intBin]
theorem binV_rem (k : IntKind) (a b : Int) : binV .rem (.int k a) (.int k b) = if b = 0 then none else some (.int k (a.tmod b)) := by simp [binV, intBin]
theorem binV_eql (k : IntKind) (a b : Int) : binV .eql (.int k a) (.int k b) = some (.bool (a == b)) := by simp [binV, intBin]
theorem binV_neq (k : IntKind) (a b : Int) : binV .neq (.int k a) (.int k b) = some (.bool (a != b)) := by simp [binV, intBin]
theorem binV_lss (k : IntKind) (a b : Int) : binV .lss (.int k a) (.int k b) = some (.bool (decide (a < b))) := by simp [binV, intBin]
theorem binV_leq (k : IntKind) (a b : Int) : binV .leq (.int k a) (.int k b) = some (.bool (decide (a ≤ b))) := by simp [binV, intBin]
theorem binV_gtr (k : IntKind) (a b : Int) : binV .gtr (.int k a) (.int k b) = some (.bool (decide (a > b))) := by simp [binV, intBin]
theorem binV_geq (k : IntKind) (a b : Int) : binV .geq (.int k a) (.int k b) = some (.bool (decide (a ≥ b))) := by simp [binV, intBin]
theorem within_zero {v x : AV} (h : x.cells.length = v.cells.length) (h2 : x.isAgg = v.isAgg) : within v 0 x = some x := by
  simp [within, h, h2]
theorem cells_of (v : AV) (h : v.isAgg = false) : v.cells.length = 1 := by
  cases v <;> first | rfl | exact absurd h (by simp [AV.isAgg])
theorem within_cell (v x : AV) (h : v.isAgg = false) (h2 : x.isAgg = false) : within v 0 x = some x := within_zero (by rw [cells_of v h, cells_of x h2]) (by rw [h, h2])
theorem within_agg (cs : List AV) (off : Nat) (x : AV) (h : x.isAgg = false) (h2 : off + x.cells.length ≤ cs.length) : within (.agg cs) off x = some (.agg (put cs off x.cells)) := by
  unfold within
  rw [if_neg (by rintro ⟨_, _, h3⟩; simp [h, isAgg_agg] at h3)]
  simp only; rw [if_pos h2]
theorem within_aggs (cs ds : List AV) (h : ds.length = cs.length) : within (.agg cs) 0 (.agg ds) = some (.agg ds) := within_zero h rfl
theorem put_zero_nil {α : Type} (cs : List α) : put cs 0 [] = cs := by cases cs <;> rfl
theorem put_zero {α : Type} (c v : α) (cs vs : List α) : put (c :: cs) 0 (v :: vs) = v :: put cs 0 vs := _root_.id rfl
theorem put_succ {α : Type} (c : α) (n : Nat) (cs vs : List α) : put (c :: cs) (n + 1) vs = c :: put cs n vs := _root_.id rfl
theorem W_condV {tab : Nat → Option AFun} {wl : Nat} {σ : St} {Q : AExit → St → Prop} {c : Opd} {a b : ACode} : W tab wl (.cond c a b) σ Q ↔ Opt (boolV (c.ev σ.env)) fun t => if t = true then W tab wl a σ Q else W tab wl b σ Q := by
  rw [W_cond]; cases c.ev σ.env <;> rfl

/-! ### the start of a call -/
def e0 : Nat → AV := fun _ => .undef
def l0 : Nat → Option (Nat × AV) := fun _ => none
theorem start0 {H : Nat → Option Obj} {nx : Nat} : start [] H nx = ⟨e0, l0, H, nx⟩ := _root_.id rfl
theorem start1 {a : AV} {H : Nat → Option Obj} {nx : Nat} : start [a] H nx = ⟨upd e0 0 a, l0, H, nx⟩ := by
  unfold start; congr 1; funext j; rcases j with _ | j <;> simp [upd, e0]
theorem start2 {a b : AV} {H : Nat → Option Obj} {nx : Nat} : start [a, b] H nx = ⟨upd (upd e0 0 a) 1 b, l0, H, nx⟩ := by
  unfold start; congr 1; funext j; rcases j with _ | _ | j <;> simp [upd, e0]
theorem start3 {a b c : AV} {H : Nat → Option Obj} {nx : Nat} : start [a, b, c] H nx = ⟨upd (upd (upd e0 0 a) 1 b) 2 c, l0, H, nx⟩ := by
  unfold start; congr 1; funext j; rcases j with _ | _ | _ | j <;> simp [upd, e0]
theorem start4 {a b c d : AV} {H : Nat → Option Obj} {nx : Nat} : start [a, b, c, d] H nx = ⟨upd (upd (upd (upd e0 0 a) 1 b) 2 c) 3 d, l0, H, nx⟩ := by
  unfold start; congr 1; funext j; rcases j with _ | _ | _ | _ | j <;> simp [upd, e0]
theorem start5 {a b c d e : AV} {H : Nat → Option Obj} {nx : Nat} : start [a, b, c, d, e] H nx = ⟨upd (upd (upd (upd (upd e0 0 a) 1 b) 2 c) 3 d) 4 e, l0, H, nx⟩ := by
  unfold start; congr 1; funext j; rcases j with _ | _ | _ | _ | _ | j <;> simp [upd, e0]
theorem start6 {a b c d e f : AV} {H : Nat → Option Obj} {nx : Nat} : start [a, b, c, d, e, f] H nx = ⟨upd (upd (upd (upd (upd (upd e0 0 a) 1 b) 2 c) 3 d) 4 e) 5 f, l0, H, nx⟩ := by
  unfold start; congr 1; funext j; rcases j with _ | _ | _ | _ | _ | _ | j <;> simp [upd, e0]

/-! ### solid values stay -/
mutual
theorem thawV_solid {f : (Nat → Option Obj) → List AV → Option (List AV × (Nat → Option Obj))} {wl : Nat} {H : Nat → Option Obj} : ∀ v : AV, v.solid = true → thawV f wl H v = some (v, H)
  | .agg cs, h => by
    have := thawL_solid (f := f) (wl := wl) (H := H) cs (by simpa [AV.solid] using h)
    simp [thawV, this]
  | .bool _, _ | .int .., _ | .str _, _ | .nilSlice, _ | .slice .., _ | .eslice, _ | .nilPtr, _ | .fptr .., _ | .clo .., _ | .nilFunc, _ | .nilMap, _ | .nilIface, _ | .iface .., _ | .tup _, _ => rfl
  | .lref .., h | .ptr .., h | .loc .., h | .map _, h | .undef, h => by simp [AV.solid] at h
theorem thawL_solid {f : (Nat → Option Obj) → List AV → Option (List AV × (Nat → Option Obj))} {wl : Nat} {H : Nat → Option Obj} : ∀ vs : List AV, AV.solids vs = true → thawL f wl H vs = some (vs, H)
  | [], _ => rfl
  | v :: vs, h => by
    simp only [AV.solids, Bool.and_eq_true] at h
    simp [thawL, thawV_solid v h.1, thawL_solid vs h.2]
end
theorem thaw_solid {wl : Nat} {H : Nat → Option Obj} {vs : List AV} (h : AV.solids vs = true) (d : Nat) : thaw wl d H vs = some (vs, H) := by
  cases d
  · rfl
  · exact thawL_solid vs h

/-! ### calls -/
section
variable {tab : Nat → Option AFun} {wl f : Nat} {args : List AV} {H : Nat → Option Obj} {nx : Nat} {K : AV → (Nat → Option Obj) → Nat → Prop}

/-- A function that writes nothing, with a result by value. -/
theorem call_solid {d s : Nat} {body : ACode} {res : List ARes} (hf : tab f = some ⟨.pure, d, s, body, res⟩)
    (h : W tab nx body (start args H nx) (Ends fun τ => Opt (resOf τ res) fun vs => AV.solids vs = true ∧ K (pack vs) H nx)) : Call tab wl f args H nx K := by
  refine call_body hf (W_mono h ?_)
  have key : ∀ τ : St, (Opt (resOf τ res) fun vs => AV.solids vs = true ∧ K (pack vs) H nx) → Opt (answer ⟨.pure, d, s, body, res⟩ H nx τ) fun r => K r.1 r.2.1 r.2.2 := by
    rintro τ ⟨vs, hr, hs, hk⟩
    simp only [answer, hr, thaw_solid hs, hs, if_true, Opt_some]; exact hk
  intro e τ hq
  cases e
  · exact key τ hq
  · exact hq.elim
  · exact key τ hq
/-- .. with a result that is taken out of what it made. -/
theorem call_thaw {d s : Nat} {body : ACode} {res : List ARes} (hf : tab f = some ⟨.pure, d, s, body, res⟩)
    (h : W tab nx body (start args H nx) (Ends fun τ => Opt (resOf τ res) fun vs => Opt (thaw nx d τ.H vs) fun p => AV.solids p.1 = true ∧ K (pack p.1) H nx)) : Call tab wl f args H nx K := by
  refine call_body hf (W_mono h ?_)
  have key : ∀ τ : St, (Opt (resOf τ res) fun vs => Opt (thaw nx d τ.H vs) fun p => AV.solids p.1 = true ∧ K (pack p.1) H nx) → Opt (answer ⟨.pure, d, s, body, res⟩ H nx τ) fun r => K r.1 r.2.1 r.2.2 := by
    rintro τ ⟨vs, hr, p, hp, hs, hk⟩
    simp only [answer, hr, hp, hs, if_true, Opt_some]; exact hk
  intro e τ hq
  cases e
  · exact key τ hq
  · exact hq.elim
  · exact key τ hq
/-- A function that may write. -/
theorem call_mut {d s : Nat} {body : ACode} {res : List ARes} (hf : tab f = some ⟨.mut, d, s, body, res⟩)
    (h : W tab wl body (start args H nx) (Ends fun τ => Opt (resOf τ res) fun vs => AV.nols vs = true ∧ K (pack vs) τ.H τ.nx)) : Call tab wl f args H nx K := by
  refine call_body hf (W_mono h ?_)
  have key : ∀ τ : St, (Opt (resOf τ res) fun vs => AV.nols vs = true ∧ K (pack vs) τ.H τ.nx) → Opt (answer ⟨.mut, d, s, body, res⟩ H nx τ) fun r => K r.1 r.2.1 r.2.2 := by
    rintro τ ⟨vs, hr, hs, hk⟩
    simp only [answer, hr, hs, if_true, Opt_some]; exact hk
  intro e τ hq
  cases e
  · exact key τ hq
  · exact hq.elim
  · exact key τ hq
theorem call_mutf {d s : Nat} {body : ACode} {res : List ARes} (hf : tab f = some ⟨.mutf, d, s, body, res⟩)
    (h : W tab wl body (start args H nx) (Ends fun τ => Opt (resOf τ res) fun vs => Opt (thaw nx d τ.H vs) fun p => AV.solids p.1 = true ∧ K (pack p.1) (fun id => if id < nx then p.2 id else none) τ.nx)) : Call tab wl f args H nx K := by
  refine call_body hf (W_mono h ?_)
  have key : ∀ τ : St, (Opt (resOf τ res) fun vs => Opt (thaw nx d τ.H vs) fun p => AV.solids p.1 = true ∧ K (pack p.1) (fun id => if id < nx then p.2 id else none) τ.nx) → Opt (answer ⟨.mutf, d, s, body, res⟩ H nx τ) fun r => K r.1 r.2.1 r.2.2 := by
    rintro τ ⟨vs, hr, p, hp, hs, hk⟩
    simp only [answer, hr, hp, hs, if_true, Opt_some]; exact hk
  intro e τ hq
  cases e
  · exact key τ hq
  · exact hq.elim
  · exact key τ hq
theorem call_new {d s : Nat} {body : ACode} {res : List ARes} (hf : tab f = some ⟨.new, d, s, body, res⟩)
    (h : W tab nx body (start args H nx) (Ends fun τ => Opt (resOf τ res) fun vs => AV.nols vs = true ∧ K (pack vs) τ.H τ.nx)) : Call tab wl f args H nx K := by
  refine call_body hf (W_mono h ?_)
  have key : ∀ τ : St, (Opt (resOf τ res) fun vs => AV.nols vs = true ∧ K (pack vs) τ.H τ.nx) → Opt (answer ⟨.new, d, s, body, res⟩ H nx τ) fun r => K r.1 r.2.1 r.2.2 := by
    rintro τ ⟨vs, hr, hs, hk⟩
    simp only [answer, hr, hs, if_true, Opt_some]; exact hk
  intro e τ hq
  cases e
  · exact key τ hq
  · exact hq.elim
  · exact key τ hq

theorem Call_mono {K' : AV → (Nat → Option Obj) → Nat → Prop} (h : Call tab wl f args H nx K) (hk : ∀ r H' nx', K r H' nx' → K' r H' nx') : Call tab wl f args H nx K' := by
  obtain ⟨r, H', nx', h, k⟩ := h; exact ⟨r, H', nx', h, hk _ _ _ k⟩
/-- A call whose answer is known. -/
def Gives (tab : Nat → Option AFun) (f : Nat) (args : List AV) (r : AV) : Prop := ∀ wl H nx, C tab wl f args H nx = some (r, H, nx)
theorem Gives.call {r : AV} (h : Gives tab f args r) : Call tab wl f args H nx K ↔ K r H nx := by
  unfold Call
  constructor
  · rintro ⟨x, H1, n, e, k⟩; rw [h] at e; simp only [Option.some.injEq, Prod.mk.injEq] at e; obtain ⟨rfl, rfl, rfl⟩ := e; exact k
  · intro k; exact ⟨_, _, _, h _ _ _, k⟩
theorem Gives.of {r : AV} (h : ∀ wl H nx, Call tab wl f args H nx fun x H1 n => x = r ∧ H1 = H ∧ n = nx) : Gives tab f args r := by
  intro wl H nx
  obtain ⟨x, H1, n, e, rfl, rfl, rfl⟩ := h wl H nx; exact e
/-- A pure function's result, by a walk whose end is known. -/
theorem gives {d s : Nat} {body : ACode} {res : List ARes} {r : AV} (hf : tab f = some ⟨.pure, d, s, body, res⟩)
    (h : ∀ H nx, W tab nx body (start args H nx) (Ends fun τ => Opt (resOf τ res) fun vs => AV.solids vs = true ∧ pack vs = r)) : Gives tab f args r := by
  refine Gives.of fun wl H nx => call_solid hf (W_mono (h H nx) ?_)
  intro e τ hq
  cases e
  · obtain ⟨vs, a, b, c⟩ := hq; exact ⟨vs, a, b, c, rfl, rfl⟩
  · exact hq
  · obtain ⟨vs, a, b, c⟩ := hq; exact ⟨vs, a, b, c, rfl, rfl⟩
theorem gives_thaw {d s : Nat} {body : ACode} {res : List ARes} {r : AV} (hf : tab f = some ⟨.pure, d, s, body, res⟩)
    (h : ∀ H nx, W tab nx body (start args H nx) (Ends fun τ => Opt (resOf τ res) fun vs => Opt (thaw nx d τ.H vs) fun p => AV.solids p.1 = true ∧ pack p.1 = r)) : Gives tab f args r := by
  refine Gives.of fun wl H nx => call_thaw hf (W_mono (h H nx) ?_)
  intro e τ hq
  cases e
  · obtain ⟨vs, a, p, b, c, d⟩ := hq; exact ⟨vs, a, p, b, c, d, rfl, rfl⟩
  · exact hq
  · obtain ⟨vs, a, p, b, c, d⟩ := hq; exact ⟨vs, a, p, b, c, d, rfl, rfl⟩
end

/-! ### counted loops -/
theorem wrap64 {n : Int} (h1 : -9223372036854775808 ≤ n) (h2 : n < 9223372036854775808) : IntKind.i64.wrap n = n := by
  have e1 : (2 : Int) ^ 64 = 18446744073709551616 := rfl
  have e2 : (2 : Int) ^ (64 - 1) = 9223372036854775808 := rfl
  simp only [IntKind.wrap, IntKind.bits, IntKind.signed, Bool.true_and, decide_eq_true_eq, e1, e2]
  by_cases h : n % 18446744073709551616 ≥ 9223372036854775808
  · rw [if_pos h]; omega
  · rw [if_neg h]; omega

section
variable {tab : Nat → Option AFun} {wl : Nat} {Q : AExit → St → Prop}

/-- for i := i; i < n; i++, with c the condition's slot, j that of the sum. -/
theorem W_for {c i n j : Nat} {body : ACode} {e : Nat → AV} {l : Nat → Option (Nat × AV)} {H : Nat → Option Obj} {nx : Nat} (N : Nat)
    (I : Nat → (Nat → AV) → (Nat → Option (Nat × AV)) → (Nat → Option Obj) → Nat → Prop)
    (hN : N < 9223372036854775808) (hi : e i = .int .i64 0) (hn : e n = .int .i64 N) (h0 : I 0 e l H nx) (hij : (i ≠ j ∧ n ≠ j ∧ n ≠ i) ∧ c ≠ i ∧ c ≠ n)
    (step : ∀ k e l H nx, k < N → e i = .int .i64 k → e n = .int .i64 N → I k e l H nx → W tab wl body ⟨upd e c (.bool true), l, H, nx + 1⟩
      (Out 1 (Next (fun τ => τ.env i = .int .i64 k ∧ τ.env n = .int .i64 N ∧ I (k + 1) (upd (upd τ.env j (.int .i64 ((k + 1 : Nat) : Int))) i (.int .i64 ((k + 1 : Nat) : Int))) τ.lo τ.H (τ.nx + 2)) Q)))
    (done : ∀ e l H nx, e i = .int .i64 N → e n = .int .i64 N → I N e l H nx → Q (.exit 0) ⟨upd e c (.bool false), l, H, nx + 1⟩) :
    W tab wl (.loop (.seq (.region none [⟨some c, .bin .lss (.t i) (.t n), none, []⟩]) (.seq (.cond (.t c) .skip (.exit 0)) (.seq (.block 1 body)
      (.region none [⟨some j, .bin .add (.t i) (.c (.int .i64 1)), none, []⟩, ⟨some i, .mov (.t j), none, []⟩]))))) ⟨e, l, H, nx⟩ Q := by
  refine W_up N (fun k σ => σ.env i = .int .i64 k ∧ σ.env n = .int .i64 N ∧ I k σ.env σ.lo σ.H σ.nx) ⟨hi, hn, h0⟩ ?_
  rintro k ⟨e, l, H, nx⟩ hk ⟨h1, h2, h3⟩
  simp only at h1 h2 h3
  rw [W_seq, W_region]
  simp only [R_cons, R_nil, S_act, A_free, E_bin, Opd.ev, h1, h2, binV, reduceCtorEq, or_self, if_false, if_true, intBin, Opt_some, St.setDst, List.length_cons, List.length_nil, Next_normal, Nat.zero_add]
  rw [W_seq, W_cond]
  simp only [Opd.ev, upd_same, Opt_some, decide_eq_true_eq, W_skip, W_exit, Next_normal, Next_exit]
  split
  · rename_i hlt
    have hlt' : k < N := by omega
    rw [W_seq, W_block]
    have := step k e l H nx hlt' h1 h2 h3
    rw [show decide ((k : Int) < (N : Int)) = true by simp [hlt']]
    refine W_mono this ?_
    have key : ∀ τ : St, (τ.env i = .int .i64 k ∧ τ.env n = .int .i64 N ∧ I (k + 1) (upd (upd τ.env j (.int .i64 ((k + 1 : Nat) : Int))) i (.int .i64 ((k + 1 : Nat) : Int))) τ.lo τ.H (τ.nx + 2)) →
        W tab wl (.region none [⟨some j, .bin .add (.t i) (.c (.int .i64 1)), none, []⟩, ⟨some i, .mov (.t j), none, []⟩]) τ (Next (fun τ => k < N ∧ τ.env i = .int .i64 ((k + 1 : Nat) : Int) ∧ τ.env n = .int .i64 N ∧ I (k + 1) τ.env τ.lo τ.H τ.nx) Q) := by
      rintro ⟨e, l, H, nx⟩ ⟨a1, a2, a3⟩
      simp only at a1 a2 a3
      have hw : IntKind.i64.wrap ((k : Int) + 1) = ((k + 1 : Nat) : Int) := by rw [wrap64 (by omega) (by omega)]; omega
      rw [W_region]
      simp only [R_cons, R_nil, S_act, A_free, E_bin, E_mov, Opd.ev, a1, binV, reduceCtorEq, or_self, if_false, if_true, intBin, Opt_some, St.setDst, List.length_cons, List.length_nil, Next_normal, Nat.zero_add, hw, upd_same]
      refine ⟨hlt', trivial, ?_, a3⟩
      rw [upd_other _ _ hij.1.2.2, upd_other _ _ hij.1.2.1]; exact a2
    intro e' τ hq
    cases e' with
    | normal => exact key τ hq
    | exit m =>
      simp only [Out, Next] at hq ⊢
      by_cases hm : m = 1
      · rw [if_pos hm] at hq ⊢; exact key τ hq
      · rw [if_neg hm] at hq ⊢; exact hq
    | ret => exact hq
  · rename_i hlt
    have : k = N := by omega
    subst this
    rw [show decide ((k : Int) < (k : Int)) = false by simp]
    exact done e l H nx h1 h2 h3

/-- Rounds that are counted by the invariant alone. -/
theorem W_count {body : ACode} {e : Nat → AV} {l : Nat → Option (Nat × AV)} {H : Nat → Option Obj} {nx : Nat} (N : Nat)
    (I : Nat → (Nat → AV) → (Nat → Option (Nat × AV)) → (Nat → Option Obj) → Nat → Prop) (h0 : I 0 e l H nx)
    (step : ∀ k e l H nx, k < N → I k e l H nx → W tab wl body ⟨e, l, H, nx⟩ (Next (fun τ => I (k + 1) τ.env τ.lo τ.H τ.nx) Q))
    (done : ∀ e l H nx, I N e l H nx → W tab wl body ⟨e, l, H, nx⟩ (Next (fun _ => False) Q)) :
    W tab wl (.loop body) ⟨e, l, H, nx⟩ Q := by
  refine W_up N (fun k σ => I k σ.env σ.lo σ.H σ.nx) h0 ?_
  rintro k ⟨e, l, H, nx⟩ hk hI
  rcases Nat.lt_or_ge k N with h | h
  · refine W_mono (step k e l H nx h hI) ?_
    intro e' τ hq
    cases e' with
    | normal => exact ⟨h, hq⟩
    | exit m => exact hq
    | ret => exact hq
  · have : k = N := by omega
    subst this
    refine W_mono (done e l H nx hI) ?_
    intro e' τ hq
    cases e' with
    | normal => exact hq.elim
    | exit m => exact hq
    | ret => exact hq
/-- Rounds with a measure that goes down. -/
theorem W_down {body : ACode} {e : Nat → AV} {l : Nat → Option (Nat × AV)} {H : Nat → Option Obj} {nx : Nat} (m : Nat)
    (I : Nat → (Nat → AV) → (Nat → Option (Nat × AV)) → (Nat → Option Obj) → Nat → Prop) (h0 : I m e l H nx)
    (step : ∀ m e l H nx, I m e l H nx → W tab wl body ⟨e, l, H, nx⟩ (Next (fun τ => ∃ m', m' < m ∧ I m' τ.env τ.lo τ.H τ.nx) Q)) :
    W tab wl (.loop body) ⟨e, l, H, nx⟩ Q :=
  W_loop (fun m σ => I m σ.env σ.lo σ.H σ.nx) m h0 fun m σ hI => step m σ.env σ.lo σ.H σ.nx hI

theorem wrap_succ {k N : Nat} (hk : k < N) (hN : N < 4611686018427387904) : IntKind.i64.wrap ((k : Int) + 1) = ((k + 1 : Nat) : Int) := by
  rw [wrap64 (by omega) (by omega)]; omega
theorem lt_cast {k N : Nat} (h : k < N) : decide ((k : Int) < (N : Int)) = true := by simp [h]
theorem not_lt_cast (N : Nat) : decide ((N : Int) < (N : Int)) = false := by simp
theorem zero_cast : (AV.int .i64 ((0 : Nat) : Int)) = .int .i64 0 := _root_.id rfl

def guardV (b : Bool) : AV → Option Bool
  | .bool t => some (t == b)
  | .tup cs => if cs.isEmpty then some false else none
  | _ => none
theorem guardV_bool (b t : Bool) : guardV b (.bool t) = some (t == b) := _root_.id rfl
theorem beq_tt : ((true : Bool) == true) = true := _root_.id rfl
theorem beq_tf : ((true : Bool) == false) = false := _root_.id rfl
theorem beq_ft : ((false : Bool) == true) = false := _root_.id rfl
theorem beq_ff : ((false : Bool) == false) = true := _root_.id rfl
theorem guardV_tup (b : Bool) : guardV b (.tup []) = some false := _root_.id rfl
theorem A_guardV {σ : St} {K : St → Prop} {id s : Nat} {b : Bool} {d : Option Nat} {o : AOp} {ps : List (Bool × Nat)} : A tab wl id ⟨d, o, some (s, b), ps⟩ σ K ↔
    Opt (guardV b (σ.env s)) fun t => if t = true then E tab wl id o σ d (fun v τ => K (τ.setDst d v)) else K (σ.setDst d (.tup [])) := by
  rw [A_guard]; rfl

def maxI (a b : Int) : Int := if b > a then b else a
def minI (a b : Int) : Int := if b < a then b else a
theorem maxV2 (k : IntKind) (a b : Int) : maxV' maxV (.int k a) (.int k b) [] = some (.int k (maxI a b)) := by simp [maxV', maxV, foldV, maxI]
theorem maxV3 (k : IntKind) (a b c : Int) : maxV' maxV (.int k a) (.int k b) [.int k c] = some (.int k (maxI (maxI a b) c)) := by simp [maxV', maxV, foldV, maxI]
theorem minV2 (k : IntKind) (a b : Int) : maxV' minV (.int k a) (.int k b) [] = some (.int k (minI a b)) := by simp [maxV', minV, foldV, minI]
theorem fills_nil (e : Nat → AV) (cs : List AV) : fills e cs [] = some cs := _root_.id rfl
theorem fills_cons (e : Nat → AV) (cs : List AV) (off sz : Nat) (x : Opd) (ps : List (Nat × Nat × Opd)) :
    fills e cs ((off, sz, x) :: ps) = if (x.ev e).storable = true ∧ (x.ev e).cells.length = sz ∧ off + sz ≤ cs.length then fills e (put cs off (x.ev e).cells) ps else none := rfl
theorem chop_one (sz : Nat) (cs : List AV) (h : sz ≠ 1) : chop sz 1 cs = [.agg (cs.take sz)] := by simp [chop, h]
theorem part_agg (sz off : Nat) (cs : List AV) (h : ¬ (off = 0 ∧ cs.length = sz)) (h2 : off + sz ≤ cs.length) : part sz true (.agg cs) off = some (.agg ((cs.drop off).take sz)) := by
  unfold part
  rw [if_neg (by rintro ⟨a, b, _⟩; exact h ⟨a, b⟩), if_pos rfl, cells_agg, if_pos h2]
theorem part_aggw (sz : Nat) (cs : List AV) (h : cs.length = sz) : part sz true (.agg cs) 0 = some (.agg cs) := part_whole h rfl
theorem part_cell (off : Nat) (cs : List AV) : part 1 false (.agg cs) off = cs[off]? := by
  unfold part
  rw [if_neg (by rintro ⟨_, _, h⟩; simp [isAgg_agg] at h), if_neg (by simp), cells_agg]
end

/-! ### what comes behind, kept as it is -/
inductive Mark {α : Type} (a : α) : Type
  | mk
section
variable {tab : Nat → Option AFun} {wl : Nat} {σ : St} {Q : AExit → St → Prop}
def NextK (N : St → Prop) (Q : AExit → St → Prop) (_ : Mark N) : AExit → St → Prop := Next N Q
theorem NextK_normal {N : St → Prop} {τ : St} {m : Mark N} : NextK N Q m .normal τ ↔ N τ := Iff.rfl
theorem NextK_exit {N : St → Prop} {τ : St} {j : Nat} {m : Mark N} : NextK N Q m (.exit j) τ ↔ Q (.exit j) τ := Iff.rfl
theorem NextK_ret {N : St → Prop} {τ : St} {m : Mark N} : NextK N Q m .ret τ ↔ Q .ret τ := Iff.rfl
theorem W_seqK {a b : ACode} : W tab wl (.seq a b) σ Q ↔ W tab wl a σ (NextK (fun τ => W tab wl b τ Q) Q .mk) := W_seq
def CallK (tab : Nat → Option AFun) (wl f : Nat) (args : List AV) (H : Nat → Option Obj) (nx : Nat) (K : AV → (Nat → Option Obj) → Nat → Prop) (_ : Mark K) : Prop := Call tab wl f args H nx K
theorem E_callK {id : Nat} {d : Option Nat} {K : AV → St → Prop} {f : Opd} {args : List Opd} : E tab wl id (.call f args) σ d K ↔ Opt (cloV (f.ev σ.env)) fun p =>
    AV.nols (args.map (fun x => x.ev σ.env) ++ p.2) = true ∧ CallK tab wl p.1 (args.map (fun x => x.ev σ.env) ++ p.2) σ.H σ.nx (fun r H' nx' => K r { σ with H := H', nx := nx' }) .mk := E_call
theorem Gives.callK {f : Nat} {args : List AV} {r : AV} {H : Nat → Option Obj} {nx : Nat} {K : AV → (Nat → Option Obj) → Nat → Prop} {m : Mark K} (h : Gives tab f args r) : CallK tab wl f args H nx K m ↔ K r H nx := h.call
theorem CallK_of {f : Nat} {args : List AV} {H : Nat → Option Obj} {nx : Nat} {K K' : AV → (Nat → Option Obj) → Nat → Prop} {m : Mark K} (h : Call tab wl f args H nx K') (hk : ∀ r H' nx', K' r H' nx' → K r H' nx') : CallK tab wl f args H nx K m := Call_mono h hk
end
theorem upd_self {α : Type} {f : Nat → α} {i : Nat} {v : α} (h : f i = v) : upd f i v = f := by
  funext j; unfold upd; split
  · rename_i hj; rw [hj, h]
  · rfl
theorem upd_upd {α : Type} (f : Nat → α) (i : Nat) (v w : α) : upd (upd f i v) i w = upd f i w := by
  funext j; unfold upd; split <;> rfl
/-- In two. -/
theorem W_cut {tab : Nat → Option AFun} {wl : Nat} {σ : St} {Q : AExit → St → Prop} {a b : ACode} (P : (Nat → AV) → (Nat → Option (Nat × AV)) → (Nat → Option Obj) → Nat → Prop)
    (h : W tab wl a σ (Next (fun τ => P τ.env τ.lo τ.H τ.nx) Q)) (hb : ∀ e l H n, P e l H n → W tab wl b ⟨e, l, H, n⟩ Q) : W tab wl (.seq a b) σ Q := by
  rw [W_seq]
  refine W_mono h ?_
  intro e τ hq
  cases e with
  | normal => exact hb _ _ _ _ hq
  | exit m => exact hq
  | ret => exact hq

/-! ### footprints -/
theorem cellOf_nil : cellOf .nilSlice = .none := _root_.id rfl
theorem cellOf_eslice : cellOf .eslice = .none := _root_.id rfl
theorem cellOf_slice (n : Nat) (es : List AV) : cellOf (.slice n es) = .none := _root_.id rfl
theorem cellOf_lref (i j n : Nat) : cellOf (.lref i j n) = .cell i := _root_.id rfl
theorem fpAt_loc (w : Bool) (s a b : Nat) : Fp.at w (.loc s a b) = ⟨some (s, w), .none⟩ := _root_.id rfl
theorem fpAt_fptr (w : Bool) (x : AV) (o : Nat) : Fp.at w (.fptr x o) = ⟨none, .none⟩ := _root_.id rfl
theorem fpAt_ptr (w : Bool) (i a b : Nat) : Fp.at w (.ptr i a b) = ⟨none, if w then .write else .cell i⟩ := _root_.id rfl
theorem clash_none_l (nx : Nat) (x : HFp) : HFp.clash nx .none x = false := by cases x <;> rfl
theorem clash_none_r (nx : Nat) (x : HFp) : HFp.clash nx x .none = false := by cases x <;> rfl
theorem clash_cc (nx i j : Nat) : HFp.clash nx (.cell i) (.cell j) = false := _root_.id rfl
theorem clash_ca (nx i : Nat) : HFp.clash nx (.cell i) .all = false := _root_.id rfl
theorem clash_ac (nx i : Nat) : HFp.clash nx .all (.cell i) = false := _root_.id rfl
theorem clash_aa (nx : Nat) : HFp.clash nx .all .all = false := _root_.id rfl
theorem clash_wx (nx : Nat) (x : HFp) (h : x ≠ .none) : HFp.clash nx .write x = true := by cases x <;> first | rfl | exact absurd rfl h
theorem clash_ff (nx : Nat) : HFp.clash nx .fresh .fresh = true := _root_.id rfl
theorem clash_fa (nx : Nat) : HFp.clash nx .fresh .all = true := _root_.id rfl
theorem clash_af (nx : Nat) : HFp.clash nx .all .fresh = true := _root_.id rfl
theorem clash_fc (nx i : Nat) : HFp.clash nx .fresh (.cell i) = decide (nx ≤ i) := _root_.id rfl
theorem clash_cf (nx i : Nat) : HFp.clash nx (.cell i) .fresh = decide (nx ≤ i) := _root_.id rfl
theorem clash_fw (nx : Nat) : HFp.clash nx .fresh .write = true := _root_.id rfl
theorem clash_cw (nx i : Nat) : HFp.clash nx (.cell i) .write = true := _root_.id rfl
theorem clash_aw (nx : Nat) : HFp.clash nx .all .write = true := _root_.id rfl
theorem fpNone : Fp.none = ⟨none, .none⟩ := _root_.id rfl
def loClash : Option (Nat × Bool) → Option (Nat × Bool) → Bool
  | some (s, x), some (t, y) => s == t && (x || y)
  | _, _ => false
theorem fpClash (nx : Nat) (a b : Option (Nat × Bool)) (x y : HFp) : Fp.clash nx ⟨a, x⟩ ⟨b, y⟩ = (loClash a b || x.clash nx y) := by
  simp only [Fp.clash]; cases a <;> cases b <;> rfl
theorem loClash_l (x : Option (Nat × Bool)) : loClash none x = false := _root_.id rfl
theorem loClash_r (x : Option (Nat × Bool)) : loClash x none = false := by cases x <;> rfl
theorem loClash_s (s t : Nat) (x y : Bool) : loClash (some (s, x)) (some (t, y)) = (s == t && (x || y)) := _root_.id rfl
theorem clear1_nil (nx m : Nat) (f : Fp) : clear1 nx m f [] = true := _root_.id rfl
theorem clear1_cons (nx m : Nat) (f g : Fp) (gs : List Fp) : clear1 nx m f (g :: gs) = ((!(g.clash nx f) || m.testBit gs.length) && clear1 nx m f gs) := _root_.id rfl
def fpOf (pf : Nat → Tidy) (o : AOp) (e : Nat → AV) (d : Option Nat) : Fp := o.fp pf e d
def fpCall (pf : Nat → Tidy) : AV → Fp
  | .clo g _ => ⟨none, match pf g with | .pure => .all | .fresh => .fresh | .any => .write⟩
  | _ => ⟨none, .write⟩
theorem fpCall_clo (pf : Nat → Tidy) (g : Nat) (c : List AV) : fpCall pf (.clo g c) = ⟨none, match pf g with | .pure => .all | .fresh => .fresh | .any => .write⟩ := _root_.id rfl
section
variable {pf : Nat → Tidy} {e : Nat → AV} {d : Option Nat} {s : Nat} {b : Bool}
theorem fp_free {o : AOp} : (AInstr.mk d o none []).fp pf e = fpOf pf o e d := _root_.id rfl
def fpG (b : Bool) (v : AV) (f : Fp) : Fp := match v with
  | .bool t => if t = b then f else ⟨none, .none⟩
  | _ => ⟨none, .none⟩
theorem fp_guard {o : AOp} : (AInstr.mk d o (some (s, b)) []).fp pf e = fpG b (e s) (fpOf pf o e d) := by
  simp only [AInstr.fp, fpG, fpOf]; cases e s <;> rfl
theorem fpG_bool (b t : Bool) (f : Fp) : fpG b (.bool t) f = if t = b then f else ⟨none, .none⟩ := _root_.id rfl
theorem fpG_tup (b : Bool) (c : List AV) (f : Fp) : fpG b (.tup c) f = ⟨none, .none⟩ := _root_.id rfl
theorem fpOf_lalloc {z : AV} : fpOf pf (.lalloc z) e d = ⟨d.map fun d => (d, true), .none⟩ := _root_.id rfl
theorem fpOf_lbox {x : Opd} : fpOf pf (.lbox x) e d = ⟨d.map fun d => (d, true), .none⟩ := _root_.id rfl
theorem fpOf_halloc {z : AV} : fpOf pf (.halloc z) e d = ⟨none, .fresh⟩ := _root_.id rfl
theorem fpOf_hbox {x : Opd} : fpOf pf (.hbox x) e d = ⟨none, .fresh⟩ := _root_.id rfl
theorem fpOf_mkmap {k : Option IntKind} : fpOf pf (.mkmap k) e d = ⟨none, .fresh⟩ := _root_.id rfl
theorem fpOf_mkslice {a c : Nat} {z : AV} {x y : Opd} : fpOf pf (.mkslice a c z x y) e d = ⟨none, .fresh⟩ := _root_.id rfl
theorem fpOf_mapup {a : Bool} {x y z : Opd} : fpOf pf (.mapup a x y z) e d = ⟨none, .write⟩ := _root_.id rfl
theorem fpOf_clear {z : AV} {x : Opd} : fpOf pf (.clear z x) e d = ⟨none, .write⟩ := _root_.id rfl
theorem fpOf_bslice {v : Bool} {a c : Nat} {z : List AV} {ps : List (Nat × Nat × Opd)} : fpOf pf (.bslice v a c z ps) e d = ⟨none, if v then .fresh else .none⟩ := _root_.id rfl
theorem fpOf_load {a : Nat} {c : Bool} {x : Opd} : fpOf pf (.load a c x) e d = Fp.at false (x.ev e) := _root_.id rfl
theorem fpOf_store {a : Nat} {x y : Opd} : fpOf pf (.store a x y) e d = Fp.at true (x.ev e) := _root_.id rfl
theorem fpOf_slice {a : Nat} {x : Opd} {p q : Option Opd} : fpOf pf (.slice a x p q) e d = ⟨none, cellOf (x.ev e)⟩ := _root_.id rfl
theorem fpOf_iaddr {a : Nat} {x y : Opd} : fpOf pf (.iaddr a x y) e d = ⟨none, cellOf (x.ev e)⟩ := _root_.id rfl
theorem fpOf_lookup {a : Bool} {z : AV} {o : Bool} {x y : Opd} : fpOf pf (.lookup a z o x y) e d = ⟨none, .all⟩ := _root_.id rfl
theorem fpOf_lenmap {x : Opd} : fpOf pf (.lenmap x) e d = ⟨none, .all⟩ := _root_.id rfl
theorem fpOf_call {x : Opd} {as : List Opd} : fpOf pf (.call x as) e d = fpCall pf (x.ev e) := by
  simp only [fpOf, AOp.fp]; cases x.ev e <;> rfl
theorem fpOf_append {v : Bool} {a c : Nat} {x y : Opd} : fpOf pf (.append v a c x y) e d = ⟨none, match v, cellOf (x.ev e) with | true, .none => cellOf (y.ev e) | _, _ => .write⟩ := _root_.id rfl
theorem fpOf_mov {x : Opd} : fpOf pf (.mov x) e d = ⟨none, .none⟩ := _root_.id rfl
theorem fpOf_pick {x y z : Opd} : fpOf pf (.pick x y z) e d = ⟨none, .none⟩ := _root_.id rfl
theorem fpOf_fbox {x : Opd} : fpOf pf (.fbox x) e d = ⟨none, .none⟩ := _root_.id rfl
theorem fpOf_build {z : List AV} {ps : List (Nat × Nat × Opd)} : fpOf pf (.build z ps) e d = ⟨none, .none⟩ := _root_.id rfl
theorem fpOf_ncheck {x : Opd} : fpOf pf (.ncheck x) e d = ⟨none, .none⟩ := _root_.id rfl
theorem fpOf_bin {o : BinOp} {x y : Opd} : fpOf pf (.bin o x y) e d = ⟨none, .none⟩ := _root_.id rfl
theorem fpOf_eqb {o : Bool} {x y : Opd} : fpOf pf (.eqb o x y) e d = ⟨none, .none⟩ := _root_.id rfl
theorem fpOf_eqnil {o : Bool} {x : Opd} : fpOf pf (.eqnil o x) e d = ⟨none, .none⟩ := _root_.id rfl
theorem fpOf_eqs {k : List Nat} {o : Bool} {x y : Opd} : fpOf pf (.eqs k o x y) e d = ⟨none, .none⟩ := _root_.id rfl
theorem fpOf_un {o : UnOp} {x : Opd} : fpOf pf (.un o x) e d = ⟨none, .none⟩ := _root_.id rfl
theorem fpOf_mkfn {f : Nat} {xs : List Opd} : fpOf pf (.mkfn f xs) e d = ⟨none, .none⟩ := _root_.id rfl
theorem fpOf_faddr {o : Nat} {x : Opd} : fpOf pf (.faddr o x) e d = ⟨none, .none⟩ := _root_.id rfl
theorem fpOf_field {o a : Nat} {c : Bool} {x : Opd} : fpOf pf (.field o a c x) e d = ⟨none, .none⟩ := _root_.id rfl
theorem fpOf_iaddrA {o a : Nat} {x y : Opd} : fpOf pf (.iaddrA o a x y) e d = ⟨none, .none⟩ := _root_.id rfl
theorem fpOf_indexA {o a : Nat} {c : Bool} {x y : Opd} : fpOf pf (.indexA o a c x y) e d = ⟨none, .none⟩ := _root_.id rfl
theorem fpOf_extract {i : Nat} {x : Opd} : fpOf pf (.extract i x) e d = ⟨none, .none⟩ := _root_.id rfl
theorem fpOf_len {x : Opd} : fpOf pf (.len x) e d = ⟨none, .none⟩ := _root_.id rfl
theorem fpOf_max {x y : Opd} {m : List Opd} : fpOf pf (.max x y m) e d = ⟨none, .none⟩ := _root_.id rfl
theorem fpOf_min {x y : Opd} {m : List Opd} : fpOf pf (.min x y m) e d = ⟨none, .none⟩ := _root_.id rfl
end
theorem ev_t (e : Nat → AV) (n : Nat) : (Opd.t n).ev e = e n := _root_.id rfl
theorem ev_c (e : Nat → AV) (v : AV) : (Opd.c v).ev e = v := _root_.id rfl

/-! ### what functions do with memory -/
theorem pureOf_3 : pureOf tab 3 = .pure := _root_.id rfl
theorem pureOf_4 : pureOf tab 4 = .pure := _root_.id rfl
theorem pureOf_5 : pureOf tab 5 = .pure := _root_.id rfl
theorem pureOf_6 : pureOf tab 6 = .pure := _root_.id rfl
theorem pureOf_7 : pureOf tab 7 = .pure := _root_.id rfl
theorem pureOf_8 : pureOf tab 8 = .pure := _root_.id rfl
theorem pureOf_9 : pureOf tab 9 = .pure := _root_.id rfl
theorem pureOf_10 : pureOf tab 10 = .pure := _root_.id rfl
theorem pureOf_11 : pureOf tab 11 = .pure := _root_.id rfl
theorem pureOf_12 : pureOf tab 12 = .pure := _root_.id rfl
theorem pureOf_13 : pureOf tab 13 = .pure := _root_.id rfl
theorem pureOf_14 : pureOf tab 14 = .pure := _root_.id rfl
theorem pureOf_15 : pureOf tab 15 = .pure := _root_.id rfl
theorem pureOf_16 : pureOf tab 16 = .pure := _root_.id rfl
theorem pureOf_17 : pureOf tab 17 = .pure := _root_.id rfl
theorem pureOf_18 : pureOf tab 18 = .pure := _root_.id rfl
theorem pureOf_19 : pureOf tab 19 = .any := _root_.id rfl
theorem pureOf_20 : pureOf tab 20 = .any := _root_.id rfl
theorem pureOf_21 : pureOf tab 21 = .pure := _root_.id rfl
theorem pureOf_22 : pureOf tab 22 = .any := _root_.id rfl
theorem pureOf_23 : pureOf tab 23 = .any := _root_.id rfl
theorem pureOf_24 : pureOf tab 24 = .pure := _root_.id rfl
theorem pureOf_25 : pureOf tab 25 = .pure := _root_.id rfl
theorem pureOf_26 : pureOf tab 26 = .pure := _root_.id rfl
theorem pureOf_27 : pureOf tab 27 = .pure := _root_.id rfl
theorem pureOf_28 : pureOf tab 28 = .pure := _root_.id rfl
theorem pureOf_29 : pureOf tab 29 = .pure := _root_.id rfl
theorem pureOf_30 : pureOf tab 30 = .pure := _root_.id rfl
theorem pureOf_31 : pureOf tab 31 = .pure := _root_.id rfl
theorem pureOf_32 : pureOf tab 32 = .pure := _root_.id rfl
theorem pureOf_33 : pureOf tab 33 = .pure := _root_.id rfl
theorem pureOf_34 : pureOf tab 34 = .any := _root_.id rfl
theorem pureOf_35 : pureOf tab 35 = .pure := _root_.id rfl
theorem pureOf_36 : pureOf tab 36 = .pure := _root_.id rfl
theorem pureOf_37 : pureOf tab 37 = .pure := _root_.id rfl
theorem pureOf_38 : pureOf tab 38 = .pure := _root_.id rfl
theorem pureOf_39 : pureOf tab 39 = .pure := _root_.id rfl
theorem pureOf_40 : pureOf tab 40 = .pure := _root_.id rfl
theorem pureOf_41 : pureOf tab 41 = .pure := _root_.id rfl
theorem pureOf_42 : pureOf tab 42 = .any := _root_.id rfl
theorem pureOf_43 : pureOf tab 43 = .pure := _root_.id rfl
theorem pureOf_44 : pureOf tab 44 = .pure := _root_.id rfl
theorem pureOf_45 : pureOf tab 45 = .fresh := _root_.id rfl
theorem pureOf_46 : pureOf tab 46 = .pure := _root_.id rfl
theorem pureOf_47 : pureOf tab 47 = .pure := _root_.id rfl
theorem pureOf_48 : pureOf tab 48 = .pure := _root_.id rfl
theorem pureOf_49 : pureOf tab 49 = .any := _root_.id rfl
theorem pureOf_50 : pureOf tab 50 = .any := _root_.id rfl
theorem pureOf_51 : pureOf tab 51 = .any := _root_.id rfl
theorem pureOf_52 : pureOf tab 52 = .pure := _root_.id rfl
theorem pureOf_53 : pureOf tab 53 = .pure := _root_.id rfl
theorem pureOf_54 : pureOf tab 54 = .pure := _root_.id rfl
theorem pureOf_55 : pureOf tab 55 = .pure := _root_.id rfl
theorem pureOf_56 : pureOf tab 56 = .pure := _root_.id rfl
theorem pureOf_57 : pureOf tab 57 = .pure := _root_.id rfl
theorem pureOf_58 : pureOf tab 58 = .pure := _root_.id rfl
theorem pureOf_59 : pureOf tab 59 = .any := _root_.id rfl
theorem pureOf_60 : pureOf tab 60 = .pure := _root_.id rfl
theorem pureOf_61 : pureOf tab 61 = .pure := _root_.id rfl
theorem pureOf_1061 : pureOf tab 1061 = .any := _root_.id rfl
theorem pureOf_62 : pureOf tab 62 = .pure := _root_.id rfl
theorem pureOf_63 : pureOf tab 63 = .pure := _root_.id rfl
theorem pureOf_64 : pureOf tab 64 = .pure := _root_.id rfl
theorem pureOf_65 : pureOf tab 65 = .pure := _root_.id rfl
theorem pureOf_66 : pureOf tab 66 = .pure := _root_.id rfl
theorem pureOf_67 : pureOf tab 67 = .any := _root_.id rfl
theorem pureOf_68 : pureOf tab 68 = .any := _root_.id rfl
theorem pureOf_69 : pureOf tab 69 = .any := _root_.id rfl
theorem pureOf_70 : pureOf tab 70 = .pure := _root_.id rfl
theorem pureOf_71 : pureOf tab 71 = .pure := _root_.id rfl
theorem pureOf_72 : pureOf tab 72 = .pure := _root_.id rfl
theorem pureOf_73 : pureOf tab 73 = .pure := _root_.id rfl
theorem pureOf_74 : pureOf tab 74 = .pure := _root_.id rfl
theorem pureOf_75 : pureOf tab 75 = .any := _root_.id rfl
theorem pureOf_76 : pureOf tab 76 = .pure := _root_.id rfl
theorem pureOf_77 : pureOf tab 77 = .any := _root_.id rfl
theorem pureOf_78 : pureOf tab 78 = .any := _root_.id rfl
theorem pureOf_79 : pureOf tab 79 = .pure := _root_.id rfl
theorem pureOf_80 : pureOf tab 80 = .pure := _root_.id rfl
theorem pureOf_81 : pureOf tab 81 = .pure := _root_.id rfl
theorem pureOf_82 : pureOf tab 82 = .pure := _root_.id rfl
theorem pureOf_83 : pureOf tab 83 = .any := _root_.id rfl
theorem pureOf_84 : pureOf tab 84 = .pure := _root_.id rfl
theorem pureOf_85 : pureOf tab 85 = .pure := _root_.id rfl
theorem pureOf_86 : pureOf tab 86 = .pure := _root_.id rfl
theorem pureOf_87 : pureOf tab 87 = .pure := _root_.id rfl
theorem pureOf_88 : pureOf tab 88 = .pure := _root_.id rfl
theorem pureOf_89 : pureOf tab 89 = .pure := _root_.id rfl
theorem pureOf_90 : pureOf tab 90 = .pure := _root_.id rfl
theorem pureOf_91 : pureOf tab 91 = .pure := _root_.id rfl
theorem pureOf_92 : pureOf tab 92 = .pure := _root_.id rfl
theorem pureOf_93 : pureOf tab 93 = .pure := _root_.id rfl
theorem pureOf_94 : pureOf tab 94 = .pure := _root_.id rfl
theorem pureOf_95 : pureOf tab 95 = .pure := _root_.id rfl
theorem pureOf_96 : pureOf tab 96 = .pure := _root_.id rfl
theorem pureOf_97 : pureOf tab 97 = .any := _root_.id rfl
theorem pureOf_98 : pureOf tab 98 = .any := _root_.id rfl
theorem pureOf_99 : pureOf tab 99 = .pure := _root_.id rfl
theorem pureOf_100 : pureOf tab 100 = .pure := _root_.id rfl
theorem pureOf_101 : pureOf tab 101 = .pure := _root_.id rfl
theorem pureOf_102 : pureOf tab 102 = .pure := _root_.id rfl
theorem pureOf_103 : pureOf tab 103 = .any := _root_.id rfl
theorem pureOf_104 : pureOf tab 104 = .fresh := _root_.id rfl
theorem pureOf_105 : pureOf tab 105 = .any := _root_.id rfl
theorem testBit_lit (m k : Nat) : m.testBit k = decide (m / 2 ^ k % 2 = 1) := Nat.testBit_eq_decide_div_mod_eq
theorem W_assoc {tab : Nat → Option AFun} {wl : Nat} {σ : St} {Q : AExit → St → Prop} {a b c : ACode} : W tab wl (.seq a (.seq b c)) σ Q ↔ W tab wl (.seq (.seq a b) c) σ Q := by
  rw [W_seq, W_seq, W_seq]
  constructor
  · intro h
    refine W_mono h ?_
    intro e τ hq
    cases e with
    | normal =>
      have : W tab wl (.seq b c) τ Q := hq
      rw [W_seq] at this
      refine W_mono this ?_
      intro e τ hq; cases e <;> exact hq
    | exit m => exact hq
    | ret => exact hq
  · intro h
    refine W_mono h ?_
    intro e τ hq
    cases e with
    | normal =>
      show W tab wl (.seq b c) τ Q
      rw [W_seq]
      refine W_mono hq ?_
      intro e τ hq; cases e <;> exact hq
    | exit m => exact hq
    | ret => exact hq
end Go.Proofs.Ytmbdccekcfeomaa.Am
