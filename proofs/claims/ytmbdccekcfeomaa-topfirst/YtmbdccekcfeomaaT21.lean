/- Stepping, with all that is known put into its form as one goes. -/
import Derived.Test.YtmbdccekcfeomaaT20
open Go
namespace Go.Proofs.Ytmbdccekcfeomaa.Am
set_option linter.unusedSimpArgs false
set_option linter.unusedVariables false

def OptK {α : Type} (o : Option α) (K : α → Prop) (_ : Mark K) : Prop := Opt o K
theorem OptK_some {α : Type} (v : α) (K : α → Prop) (m : Mark K) : OptK (some v) K m ↔ K v := Opt_some v K
theorem OptK_none {α : Type} (K : α → Prop) (m : Mark K) : OptK none K m ↔ False := Opt_none K
theorem Opt_ext {α : Type} {o : Option α} {K K' : α → Prop} {m : Mark K'} (h : ∀ a, K a ↔ K' a) : Opt o K ↔ OptK o K' m := by
  unfold OptK Opt; exact ⟨fun ⟨v, a, b⟩ => ⟨v, a, (h v).1 b⟩, fun ⟨v, a, b⟩ => ⟨v, a, (h v).2 b⟩⟩
theorem OptK_iff {α : Type} (o : Option α) (K : α → Prop) (m : Mark K) : OptK o K m ↔ Opt o K := Iff.rfl

def loadV (l : Nat → Option (Nat × AV)) (H : Nat → Option Obj) (sz : Nat) (agg : Bool) (a : AV) : Option AV := (St.mk (fun _ => .undef) l H 0).load sz agg a
theorem loadV_eq (e : Nat → AV) (l : Nat → Option (Nat × AV)) (H : Nat → Option Obj) (n sz : Nat) (agg : Bool) (a : AV) : (St.mk e l H n).load sz agg a = loadV l H sz agg a := by
  cases a <;> rfl
def locV (st : Nat) : Option (Nat × AV) → Option AV
  | some (st', v) => if st' = st then some v else none
  | none => none
theorem locV_some (st st' : Nat) (v : AV) : locV st (some (st', v)) = if st' = st then some v else none := _root_.id rfl
def objV (i : Nat) : Option Obj → Option AV
  | some (.arr _ es) => es[i]?
  | _ => none
def setO (i : Nat) (w : AV) : Option Obj → Option Obj
  | some (.arr k es) => some (.arr k (es.set i w))
  | _ => none
theorem setO_arr (i : Nat) (w : AV) (k : Nat) (es : List AV) : setO i w (some (.arr k es)) = some (.arr k (es.set i w)) := _root_.id rfl
theorem objV_arr (i sz : Nat) (es : List AV) : objV i (some (.arr sz es)) = es[i]? := _root_.id rfl
theorem loadV_fptr (l : Nat → Option (Nat × AV)) (H : Nat → Option Obj) (sz : Nat) (agg : Bool) (x : AV) (off : Nat) : loadV l H sz agg (.fptr x off) = part sz agg x off := _root_.id rfl
theorem loadV_loc (l : Nat → Option (Nat × AV)) (H : Nat → Option Obj) (sz : Nat) (agg : Bool) (s st off : Nat) : loadV l H sz agg (.loc s st off) = (locV st (l s)).bind fun v => part sz agg v off := by
  simp only [loadV, load_loc]
  cases l s with
  | none => rfl
  | some p => obtain ⟨a, b⟩ := p; simp only [locV]; split <;> rfl
theorem loadV_ptr (l : Nat → Option (Nat × AV)) (H : Nat → Option Obj) (sz : Nat) (agg : Bool) (id i off : Nat) : loadV l H sz agg (.ptr id i off) = (objV i (H id)).bind fun v => part sz agg v off := by
  simp only [loadV, load_ptr]
  cases H id with
  | none => rfl
  | some o => cases o with
    | arr n es => simp only [objV]; cases es[i]? <;> rfl
    | _ => rfl
def elemsV (H : Nat → Option Obj) (sz : Nat) (a : AV) : Option (List AV) := (St.mk (fun _ => .undef) (fun _ => none) H 0).elems sz a
theorem elemsV_eq (e : Nat → AV) (l : Nat → Option (Nat × AV)) (H : Nat → Option Obj) (n sz : Nat) (a : AV) : (St.mk e l H n).elems sz a = elemsV H sz a := by
  cases a <;> rfl
theorem elemsV_nil (H : Nat → Option Obj) (sz : Nat) : elemsV H sz .nilSlice = some [] := _root_.id rfl
theorem elemsV_eslice (H : Nat → Option Obj) (sz : Nat) : elemsV H sz .eslice = some [] := _root_.id rfl
theorem elemsV_slice (H : Nat → Option Obj) (sz : Nat) (es : List AV) : elemsV H sz (.slice sz es) = some es := by simp [elemsV, St.elems]
theorem elemsV_sl (H : Nat → Option Obj) (sz : Nat) (b : Bool) (es : List AV) : elemsV H sz (sl sz b es) = some es := elems_sl
theorem elemsV_lref (H : Nat → Option Obj) (sz i j n : Nat) : elemsV H sz (.lref i j n) = match H i with
    | some (.arr m es) => if m = sz ∧ j + n ≤ es.length then some ((es.drop j).take n) else none
    | _ => none := rfl
def lookE (e : Nat → AV) (x : Opd) : AV := x.ev e
theorem lookE_t (e : Nat → AV) (n : Nat) : lookE e (.t n) = e n := _root_.id rfl
theorem lookE_c (e : Nat → AV) (v : AV) : lookE e (.c v) = v := _root_.id rfl
def lookL (e : Nat → AV) (xs : List Opd) : List AV := xs.map fun x => x.ev e
theorem lookL_nil (e : Nat → AV) : lookL e [] = [] := _root_.id rfl
theorem lookL_cons (e : Nat → AV) (x : Opd) (xs : List Opd) : lookL e (x :: xs) = lookE e x :: lookL e xs := _root_.id rfl
def fillV (e : Nat → AV) (cs : List AV) (ps : List (Nat × Nat × Opd)) : Option (List AV) := fills e cs ps
theorem fillV_nil (e : Nat → AV) (cs : List AV) : fillV e cs [] = some cs := _root_.id rfl
def putV (cs : List AV) (off sz : Nat) (x : AV) : Option (List AV) := if x.storable = true ∧ x.cells.length = sz ∧ off + sz ≤ cs.length then some (put cs off x.cells) else none
theorem putV_of (cs : List AV) (off sz : Nat) (x : AV) : putV cs off sz x = if x.storable = true ∧ x.cells.length = sz ∧ off + sz ≤ cs.length then some (put cs off x.cells) else none := _root_.id rfl
theorem fillV_cons (e : Nat → AV) (cs : List AV) (off sz : Nat) (x : Opd) (ps : List (Nat × Nat × Opd)) : fillV e cs ((off, sz, x) :: ps) = (putV cs off sz (lookE e x)).bind fun ds => fillV e ds ps := by
  change fills e cs ((off, sz, x) :: ps) = (putV cs off sz (x.ev e)).bind fun ds => fills e ds ps
  rw [fills_cons, putV_of]
  by_cases h : (x.ev e).storable = true ∧ (x.ev e).cells.length = sz ∧ off + sz ≤ cs.length
  · rw [if_pos h, if_pos h]; rfl
  · rw [if_neg h, if_neg h]; rfl
theorem boundV (e : Nat → AV) (d : Nat) : bound e d none = some d := _root_.id rfl
def natV : AV → Option Nat
  | .int _ n => if 0 ≤ n then some n.toNat else none
  | _ => none
theorem natV_int (k : IntKind) (n : Int) : natV (.int k n) = if 0 ≤ n then some n.toNat else none := _root_.id rfl
theorem natV_one (k : IntKind) : natV (.int k 1) = some 1 := _root_.id rfl
theorem natV_zero (k : IntKind) : natV (.int k 0) = some 0 := _root_.id rfl
theorem natV_cast (k : IntKind) (n : Nat) : natV (.int k (n : Int)) = some n := by simp [natV]
theorem boundV_some (e : Nat → AV) (d : Nat) (x : Opd) : bound e d (some x) = natV (lookE e x) := by
  simp only [bound, lookE]; cases x.ev e <;> rfl

section
variable {tab : Nat → Option AFun} {wl id : Nat} {is : List AInstr} {e : Nat → AV} {l : Nat → Option (Nat × AV)} {H : Nat → Option Obj} {n : Nat} {K : St → Prop} {m : Mark K} {Q : AExit → St → Prop}

def RK (tab : Nat → Option AFun) (wl id : Nat) (is : List AInstr) (e : Nat → AV) (l : Nat → Option (Nat × AV)) (H : Nat → Option Obj) (n : Nat) (K : St → Prop) (_ : Mark K) : Prop := R tab wl id is ⟨e, l, H, n⟩ K

theorem W_regionK : W tab wl (.region none is) ⟨e, l, H, n⟩ Q ↔ OptK (some (n + is.length)) (fun n' => RK tab wl n is e l H n' (fun τ => Q .normal τ) .mk) .mk := by rw [W_region, OptK_some]; try exact Iff.rfl
theorem W_condK {c : Opd} {a b : ACode} : W tab wl (.cond c a b) ⟨e, l, H, n⟩ Q ↔ OptK (boolV (lookE e c)) (fun t => if t = true then W tab wl a ⟨e, l, H, n⟩ Q else W tab wl b ⟨e, l, H, n⟩ Q) .mk := W_condV
theorem RK_nil : RK tab wl id [] e l H n K m ↔ K ⟨e, l, H, n⟩ := R_nil

theorem RK_some {d : Nat} {o : AOp} : RK tab wl id (⟨some d, o, none, []⟩ :: is) e l H n K m ↔ E tab wl id o ⟨e, l, H, n⟩ (some d) fun v τ => RK tab wl (id + 1) is (upd τ.env d v) τ.lo τ.H τ.nx K m := by
  unfold RK; rw [R_cons, S_act, A_free]; rfl
theorem RK_none {o : AOp} : RK tab wl id (⟨none, o, none, []⟩ :: is) e l H n K m ↔ E tab wl id o ⟨e, l, H, n⟩ none fun v τ => RK tab wl (id + 1) is τ.env τ.lo τ.H τ.nx K m := by
  unfold RK; rw [R_cons, S_act, A_free]; rfl
theorem RK_guard {d : Nat} {o : AOp} {s : Nat} {b : Bool} : RK tab wl id (⟨some d, o, some (s, b), []⟩ :: is) e l H n K m ↔ OptK (guardV b (e s)) (fun t => if t = true then RK tab wl id (⟨some d, o, none, []⟩ :: is) e l H n K m else RK tab wl (id + 1) is (upd e d (.tup [])) l H n K m) .mk := by
  unfold RK OptK; rw [R_cons, S_act, A_guardV]
  refine iff_of_eq (congrArg _ ?_)
  funext t; rw [R_cons, S_act, A_free]; rfl
theorem RK_pre {d : Option Nat} {o : AOp} {g : Option (Nat × Bool)} {p : Bool × Nat} {ps : List (Bool × Nat)} : RK tab wl id (⟨d, o, g, p :: ps⟩ :: is) e l H n K m ↔ OptK (pres wl (p :: ps) ⟨e, l, H, n⟩) (fun τ => RK tab wl id (⟨d, o, g, []⟩ :: is) τ.env τ.lo τ.H τ.nx K m) .mk := by
  unfold RK OptK; rw [R_cons, S_pre]
  refine iff_of_eq (congrArg _ ?_)
  funext t; rw [R_cons, S_act]

theorem RK_mov {d : Nat} {x : Opd} : RK tab wl id (⟨some d, .mov x, none, []⟩ :: is) e l H n K m ↔ OptK (some (lookE e x)) (fun v => RK tab wl (id + 1) is (upd e d v) l H n K m) .mk := by
  rw [RK_some, E_mov, OptK_some]; rfl
theorem RK_pick {d : Nat} {c a b : Opd} : RK tab wl id (⟨some d, .pick c a b, none, []⟩ :: is) e l H n K m ↔ OptK (boolV (lookE e c)) (fun t => OptK (some (if t = true then lookE e a else lookE e b)) (fun v => RK tab wl (id + 1) is (upd e d v) l H n K m) .mk) .mk := by
  rw [RK_some, E_pick]; exact Opt_ext fun t => by rw [OptK_some]; try exact Iff.rfl
theorem RK_lalloc {d : Nat} {z : AV} : RK tab wl id (⟨some d, .lalloc z, none, []⟩ :: is) e l H n K m ↔ RK tab wl (id + 1) is (upd e d (.loc d id 0)) (upd l d (some (id, z))) H n K m := by
  rw [RK_some, E_lalloc]
theorem RK_halloc {d : Nat} {z : AV} : RK tab wl id (⟨some d, .halloc z, none, []⟩ :: is) e l H n K m ↔ RK tab wl (id + 1) is (upd e d (.ptr id 0 0)) l (upd H id (some (.arr z.cells.length [z]))) n K m := by
  rw [RK_some, E_halloc]
theorem RK_fbox {d : Nat} {x : Opd} : RK tab wl id (⟨some d, .fbox x, none, []⟩ :: is) e l H n K m ↔ OptK (some (lookE e x)) (fun v => (v.solid = true ∧ v.storable = true) ∧ RK tab wl (id + 1) is (upd e d (.fptr v 0)) l H n K m) .mk := by
  rw [RK_some, E_fbox, OptK_some]; rfl
theorem RK_lbox {d : Nat} {x : Opd} : RK tab wl id (⟨some d, .lbox x, none, []⟩ :: is) e l H n K m ↔ OptK (some (lookE e x)) (fun v => v.storable = true ∧ RK tab wl (id + 1) is (upd e d (.loc d id 0)) (upd l d (some (id, v))) H n K m) .mk := by
  rw [RK_some, E_lbox, OptK_some]; rfl
theorem RK_hbox {d : Nat} {x : Opd} : RK tab wl id (⟨some d, .hbox x, none, []⟩ :: is) e l H n K m ↔ OptK (some (lookE e x)) (fun v => v.storable = true ∧ RK tab wl (id + 1) is (upd e d (.ptr id 0 0)) l (upd H id (some (.arr v.cells.length [v]))) n K m) .mk := by
  rw [RK_some, E_hbox, OptK_some]; rfl
theorem RK_build {d : Nat} {z : List AV} {ps : List (Nat × Nat × Opd)} : RK tab wl id (⟨some d, .build z ps, none, []⟩ :: is) e l H n K m ↔ OptK (fillV e z ps) (fun cs => RK tab wl (id + 1) is (upd e d (.agg cs)) l H n K m) .mk := by
  rw [RK_some, E_build]; rfl
theorem RK_bslice_live {d sz k : Nat} {z : List AV} {ps : List (Nat × Nat × Opd)} : RK tab wl id (⟨some d, .bslice true sz k z ps, none, []⟩ :: is) e l H n K m ↔ OptK (fillV e z ps) (fun cs => AV.nols cs = true ∧ OptK (some (chop sz k cs)) (fun es => RK tab wl (id + 1) is (upd e d (.lref id 0 k)) l (upd H id (some (.arr sz es))) n K m) .mk) .mk := by
  rw [RK_some, E_bslice_live]; exact Opt_ext fun t => and_congr_right fun _ => by rw [OptK_some]; try exact Iff.rfl
theorem RK_bslice {d sz k : Nat} {z : List AV} {ps : List (Nat × Nat × Opd)} : RK tab wl id (⟨some d, .bslice false sz k z ps, none, []⟩ :: is) e l H n K m ↔ OptK (fillV e z ps) (fun cs => AV.solids cs = true ∧ OptK (some (chop sz k cs)) (fun es => RK tab wl (id + 1) is (upd e d (.slice sz es)) l H n K m) .mk) .mk := by
  rw [RK_some, E_bslice]; exact Opt_ext fun t => and_congr_right fun _ => by rw [OptK_some]; try exact Iff.rfl
theorem RK_load {d sz : Nat} {agg : Bool} {a : Opd} : RK tab wl id (⟨some d, .load sz agg a, none, []⟩ :: is) e l H n K m ↔ OptK (loadV l H sz agg (lookE e a)) (fun v => RK tab wl (id + 1) is (upd e d v) l H n K m) .mk := by
  rw [RK_some, E_load, loadV_eq]; rfl
def StoreK (tab : Nat → Option AFun) (wl id sz : Nat) (a x : AV) (is : List AInstr) (e : Nat → AV) (l : Nat → Option (Nat × AV)) (H : Nat → Option Obj) (n : Nat) (K : St → Prop) (m : Mark K) : Prop :=
  Opt ((St.mk e l H n).store wl sz a x) fun τ => RK tab wl id is τ.env τ.lo τ.H τ.nx K m
theorem RK_store {sz : Nat} {a v : Opd} : RK tab wl id (⟨none, .store sz a v, none, []⟩ :: is) e l H n K m ↔ OptK (some (lookE e v)) (fun x => OptK (some (lookE e a)) (fun p => StoreK tab wl (id + 1) sz p x is e l H n K m) .mk) .mk := by
  rw [RK_none, E_store, OptK_some, OptK_some]; rfl
theorem StoreK_loc {sz s st off : Nat} {x : AV} : StoreK tab wl id sz (.loc s st off) x is e l H n K m ↔ (x.cells.length = sz ∧ x.storable = true) ∧ OptK (locV st (l s)) (fun v => OptK (within v off x) (fun w => RK tab wl id is e (upd l s (some (st, w))) H n K m) .mk) .mk := by
  unfold StoreK
  rw [store_loc]
  by_cases h : x.cells.length = sz ∧ x.storable = true
  · rw [if_pos h]; simp only [h, and_self, true_and]
    cases hl : l s with
    | none => simp [locV, OptK_none]
    | some p =>
      obtain ⟨a, b⟩ := p
      simp only [locV]
      by_cases ha : a = st
      · simp only [ha, if_true, OptK_some]; cases within b off x <;> simp [OptK_none, OptK_some]
      · simp [ha, OptK_none]
  · rw [if_neg h]; simp only [Opt_none, false_iff]; exact fun hh => h hh.1
theorem StoreK_ptr {sz p i off : Nat} {x : AV} : StoreK tab wl id sz (.ptr p i off) x is e l H n K m ↔ (x.cells.length = sz ∧ x.storable = true) ∧ wl ≤ p ∧ OptK (objV i (H p)) (fun v => OptK (within v off x) (fun w => OptK (setO i w (H p)) (fun o => RK tab wl id is e l (upd H p (some o)) n K m) .mk) .mk) .mk := by
  unfold StoreK
  rw [store_ptr]
  by_cases h : x.cells.length = sz ∧ x.storable = true
  · rw [if_pos h]; simp only [h, and_self, true_and]
    by_cases hw : wl ≤ p
    · rw [if_pos hw]; simp only [hw, true_and]
      cases hl : H p with
      | none => simp [objV, OptK_none]
      | some o =>
        cases o with
        | arr k es =>
          simp only [objV, setO]
          cases es[i]? with
          | none => simp [OptK_none]
          | some v => simp only [OptK_some]; cases within v off x <;> simp [OptK_none, OptK_some]
        | _ => simp [objV, OptK_none]
    · rw [if_neg hw]; simp [hw]
  · rw [if_neg h]; simp only [Opt_none, false_iff]; exact fun hh => h hh.1
theorem RK_ncheck {d : Nat} {x : Opd} : RK tab wl id (⟨some d, .ncheck x, none, []⟩ :: is) e l H n K m ↔ OptK (ncheckV (lookE e x)) (fun v => RK tab wl (id + 1) is (upd e d v) l H n K m) .mk := by rw [RK_some, E_ncheck]; rfl
theorem RK_bin {d : Nat} {op : BinOp} {x y : Opd} : RK tab wl id (⟨some d, .bin op x y, none, []⟩ :: is) e l H n K m ↔ OptK (binV op (lookE e x) (lookE e y)) (fun v => RK tab wl (id + 1) is (upd e d v) l H n K m) .mk := by rw [RK_some, E_bin]; rfl
theorem RK_eqb {d : Nat} {neg : Bool} {x y : Opd} : RK tab wl id (⟨some d, .eqb neg x y, none, []⟩ :: is) e l H n K m ↔ OptK (eqbV neg (lookE e x) (lookE e y)) (fun v => RK tab wl (id + 1) is (upd e d v) l H n K m) .mk := by rw [RK_some, E_eqb]; rfl
theorem RK_eqnil {d : Nat} {neg : Bool} {x : Opd} : RK tab wl id (⟨some d, .eqnil neg x, none, []⟩ :: is) e l H n K m ↔ OptK (isNilSlice (lookE e x)) (fun b => RK tab wl (id + 1) is (upd e d (.bool (if neg then !b else b))) l H n K m) .mk := by rw [RK_some, E_eqnil]; rfl
theorem RK_eqs {d : Nat} {ks : List Nat} {neg : Bool} {x y : Opd} : RK tab wl id (⟨some d, .eqs ks neg x y, none, []⟩ :: is) e l H n K m ↔ OptK (eqsV ks neg (lookE e x) (lookE e y)) (fun v => RK tab wl (id + 1) is (upd e d v) l H n K m) .mk := by rw [RK_some, E_eqs]; rfl
theorem RK_un {d : Nat} {op : UnOp} {x : Opd} : RK tab wl id (⟨some d, .un op x, none, []⟩ :: is) e l H n K m ↔ OptK (unV op (lookE e x)) (fun v => RK tab wl (id + 1) is (upd e d v) l H n K m) .mk := by rw [RK_some, E_un]; rfl
theorem RK_mkfn {d f : Nat} {cap : List Opd} : RK tab wl id (⟨some d, .mkfn f cap, none, []⟩ :: is) e l H n K m ↔ OptK (some (lookL e cap)) (fun c => RK tab wl (id + 1) is (upd e d (.clo f c)) l H n K m) .mk := by rw [RK_some, E_mkfn, OptK_some]; rfl
theorem RK_mkmap {d : Nat} {kd : Option IntKind} : RK tab wl id (⟨some d, .mkmap kd, none, []⟩ :: is) e l H n K m ↔ RK tab wl (id + 1) is (upd e d (.map id)) l (upd H id (some (newMap kd))) n K m := by rw [RK_some, E_mkmap]
theorem RK_mkslice {d sz bytes : Nat} {z : AV} {x y : Opd} : RK tab wl id (⟨some d, .mkslice sz bytes z x y, none, []⟩ :: is) e l H n K m ↔ OptK (mkV bytes (lookE e x) (lookE e y)) (fun k => RK tab wl (id + 1) is (upd e d (.lref id 0 k)) l (upd H id (some (.arr sz (List.replicate k z)))) n K m) .mk := by rw [RK_some, E_mkslice]; rfl
theorem RK_slice {d sz : Nat} {x : Opd} {lo hi : Option Opd} : RK tab wl id (⟨some d, .slice sz x lo hi, none, []⟩ :: is) e l H n K m ↔ OptK (sliceV H sz (lookE e x) (bound e 0 lo) fun k => bound e k hi) (fun v => RK tab wl (id + 1) is (upd e d v) l H n K m) .mk := by rw [RK_some, E_slice]; rfl
theorem RK_faddr {d off : Nat} {x : Opd} : RK tab wl id (⟨some d, .faddr off x, none, []⟩ :: is) e l H n K m ↔ OptK (faddrV off (lookE e x)) (fun v => RK tab wl (id + 1) is (upd e d v) l H n K m) .mk := by rw [RK_some, E_faddr]; rfl
theorem RK_field {d off sz : Nat} {agg : Bool} {x : Opd} : RK tab wl id (⟨some d, .field off sz agg x, none, []⟩ :: is) e l H n K m ↔ OptK (fieldV off sz agg (lookE e x)) (fun v => RK tab wl (id + 1) is (upd e d v) l H n K m) .mk := by rw [RK_some, E_field]; rfl
theorem RK_iaddr {d sz : Nat} {x i : Opd} : RK tab wl id (⟨some d, .iaddr sz x i, none, []⟩ :: is) e l H n K m ↔ OptK (iaddrV H sz (lookE e x) (lookE e i)) (fun v => RK tab wl (id + 1) is (upd e d v) l H n K m) .mk := by rw [RK_some, E_iaddr]; rfl
theorem RK_iaddrA {d k sz : Nat} {x i : Opd} : RK tab wl id (⟨some d, .iaddrA k sz x i, none, []⟩ :: is) e l H n K m ↔ OptK (iaddrAV k sz (lookE e x) (lookE e i)) (fun v => RK tab wl (id + 1) is (upd e d v) l H n K m) .mk := by rw [RK_some, E_iaddrA]; rfl
theorem RK_indexA {d k sz : Nat} {agg : Bool} {x i : Opd} : RK tab wl id (⟨some d, .indexA k sz agg x i, none, []⟩ :: is) e l H n K m ↔ OptK (indexAV k sz agg (lookE e x) (lookE e i)) (fun v => RK tab wl (id + 1) is (upd e d v) l H n K m) .mk := by rw [RK_some, E_indexA]; rfl
theorem RK_extract {d i : Nat} {x : Opd} : RK tab wl id (⟨some d, .extract i x, none, []⟩ :: is) e l H n K m ↔ OptK (extractV i (lookE e x)) (fun v => RK tab wl (id + 1) is (upd e d v) l H n K m) .mk := by rw [RK_some, E_extract]; rfl
theorem RK_len {d : Nat} {x : Opd} : RK tab wl id (⟨some d, .len x, none, []⟩ :: is) e l H n K m ↔ OptK (lenV (lookE e x)) (fun v => RK tab wl (id + 1) is (upd e d v) l H n K m) .mk := by rw [RK_some, E_len]; rfl
theorem RK_max {d : Nat} {x y : Opd} {more : List Opd} : RK tab wl id (⟨some d, .max x y more, none, []⟩ :: is) e l H n K m ↔ OptK (maxV' maxV (lookE e x) (lookE e y) (lookL e more)) (fun v => RK tab wl (id + 1) is (upd e d v) l H n K m) .mk := by rw [RK_some, E_max]; rfl
theorem RK_min {d : Nat} {x y : Opd} {more : List Opd} : RK tab wl id (⟨some d, .min x y more, none, []⟩ :: is) e l H n K m ↔ OptK (maxV' minV (lookE e x) (lookE e y) (lookL e more)) (fun v => RK tab wl (id + 1) is (upd e d v) l H n K m) .mk := by rw [RK_some, E_min]; rfl
theorem RK_append {d sz bytes : Nat} {froz : Bool} {x y : Opd} : RK tab wl id (⟨some d, .append froz sz bytes x y, none, []⟩ :: is) e l H n K m ↔ OptK (elemsV H sz (lookE e y)) (fun ys => OptK (appendV wl id froz sz bytes H ys (lookE e x)) (fun p => RK tab wl (id + 1) is (upd e d p.1) l p.2 n K m) .mk) .mk := by rw [RK_some, E_append, elemsV_eq]; rfl
theorem RK_call {d : Nat} {f : Opd} {args : List Opd} : RK tab wl id (⟨some d, .call f args, none, []⟩ :: is) e l H n K m ↔ OptK (cloV (lookE e f)) (fun p => OptK (some (lookL e args ++ p.2)) (fun as => AV.nols as = true ∧ CallK tab wl p.1 as H n (fun r H' nx' => RK tab wl (id + 1) is (upd e d r) l H' nx' K m) .mk) .mk) .mk := by
  rw [RK_some, E_call]; exact Opt_ext fun t => by rw [OptK_some]; try exact Iff.rfl
theorem RK_call_none {f : Opd} {args : List Opd} : RK tab wl id (⟨none, .call f args, none, []⟩ :: is) e l H n K m ↔ OptK (cloV (lookE e f)) (fun p => OptK (some (lookL e args ++ p.2)) (fun as => AV.nols as = true ∧ CallK tab wl p.1 as H n (fun r H' nx' => RK tab wl (id + 1) is e l H' nx' K m) .mk) .mk) .mk := by
  rw [RK_none, E_call]; exact Opt_ext fun t => by rw [OptK_some]; try exact Iff.rfl

/-! ### regions that draw their order -/
def DK (tab : Nat → Option AFun) (wl base id : Nat) (acc : List Fp) (ms : List Nat) (is : List AInstr) (e : Nat → AV) (l : Nat → Option (Nat × AV)) (H : Nat → Option Obj) (n : Nat) (K : St → Prop) (_ : Mark K) : Prop := D tab wl base id acc ms is ⟨e, l, H, n⟩ K
theorem W_drawK {ms : List Nat} : W tab wl (.region (some ms) is) ⟨e, l, H, n⟩ Q ↔ OptK (some (n + is.length)) (fun n' => DK tab wl n n [] ms is e l H n' (fun τ => Q .normal τ) .mk) .mk := by rw [W_draw, OptK_some]; try exact Iff.rfl
theorem DK_nil {base : Nat} {acc : List Fp} : DK tab wl base id acc [] [] e l H n K m ↔ K ⟨e, l, H, n⟩ := D_nil
theorem DK_cons {base k : Nat} {acc : List Fp} {ms : List Nat} {d : Option Nat} {o : AOp} {g : Option (Nat × Bool)} :
    DK tab wl base id acc (k :: ms) (⟨d, o, g, []⟩ :: is) e l H n K m ↔ OptK (some ((AInstr.mk d o g []).fp (pureOf tab) e)) (fun f => clear1 base k f acc = true ∧ RK tab wl id [⟨d, o, g, []⟩] e l H n (fun τ => DK tab wl base (id + 1) (f :: acc) ms is τ.env τ.lo τ.H τ.nx K m) .mk) .mk := by
  rw [OptK_some]
  unfold DK RK
  rw [D_cons, R_cons, S_act]
  unfold A
  simp only [R_nil]
  exact ⟨fun ⟨τ, h, a, b⟩ => ⟨a, τ, h, b⟩, fun ⟨a, τ, h, b⟩ => ⟨τ, h, a, b⟩⟩
end
end Go.Proofs.Ytmbdccekcfeomaa.Am
