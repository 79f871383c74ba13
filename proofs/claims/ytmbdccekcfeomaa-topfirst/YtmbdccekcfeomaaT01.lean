/- The abstract machine: values, states, operations, code, calls. Nothing here speaks of the model's memory. -/
import GoSem.Machine.Return
namespace Go.Proofs.Ytmbdccekcfeomaa.Am

/-- Values: what was written and is never written again is held by value ('slice', 'fptr'); what may be written has a name. -/
inductive AV where
  | bool (b : Bool) | int (k : IntKind) (n : Int) | str (s : ByteArray)
  | nilSlice | slice (sz : Nat) (es : List AV) | eslice | lref (id i n : Nat)
  | nilPtr | fptr (x : AV) (off : Nat) | ptr (id i off : Nat) | loc (s st off : Nat)
  | clo (f : Nat) (cap : List AV) | nilFunc
  | nilMap | map (id : Nat)
  | nilIface | iface (t : Nat) (x : AV)
  | agg (cs : List AV) | tup (vs : List AV) | undef
  deriving Inhabited

def AV.cells : AV → List AV
  | .agg cs => cs
  | v => [v]

def AV.isAgg : AV → Bool
  | .agg _ => true
  | _ => false

/-- May it lie in one cell? -/
def AV.one : AV → Bool
  | .agg _ | .tup _ | .undef => false
  | _ => true

mutual
/-- No names of anything that may be written. -/
def AV.solid : AV → Bool
  | .lref .. | .ptr .. | .loc .. | .map _ | .undef => false
  | .clo _ cap => AV.solids cap
  | .iface _ x => x.solid
  | .agg cs => AV.solids cs
  | .tup vs => AV.solids vs
  | _ => true
def AV.solids : List AV → Bool
  | [] => true
  | v :: vs => v.solid && AV.solids vs
end

mutual
/-- No local variable's address in it. -/
def AV.nol : AV → Bool
  | .loc .. => false
  | .clo _ cap => AV.nols cap
  | .iface _ x => x.nol
  | .agg cs => AV.nols cs
  | .tup vs => AV.nols vs
  | _ => true
def AV.nols : List AV → Bool
  | [] => true
  | v :: vs => v.nol && AV.nols vs
end

inductive Obj where
  | arr (sz : Nat) (es : List AV)
  | mapi (kd : IntKind) (es : List (Int × AV))
  | maps (es : List (ByteArray × AV))

structure St where
  env : Nat → AV
  lo : Nat → Option (Nat × AV)
  H : Nat → Option Obj
  nx : Nat

def upd {α : Type} (f : Nat → α) (i : Nat) (v : α) : Nat → α := fun j => if j = i then v else f j

@[simp] theorem upd_same {α : Type} (f : Nat → α) (i : Nat) (v : α) : upd f i v i = v := by simp [upd]
theorem upd_other {α : Type} (f : Nat → α) {i j : Nat} (v : α) (h : j ≠ i) : upd f i v j = f j := by simp [upd, h]

inductive Opd where
  | t (n : Nat)
  | c (v : AV)

def Opd.ev (x : Opd) (env : Nat → AV) : AV :=
  match x with
  | .t n => env n
  | .c v => v

inductive AOp where
  | mov (x : Opd)
  | pick (c a b : Opd)
  | lalloc (z : AV)
  | halloc (z : AV)
  | fbox (x : Opd)
  | lbox (x : Opd)
  | hbox (x : Opd)
  | build (z : List AV) (parts : List (Nat × Nat × Opd))
  | bslice (live : Bool) (sz n : Nat) (z : List AV) (parts : List (Nat × Nat × Opd))
  | load (sz : Nat) (agg : Bool) (a : Opd)
  | store (sz : Nat) (a v : Opd)
  | ncheck (x : Opd)
  | bin (op : BinOp) (x y : Opd)
  | eqb (neg : Bool) (x y : Opd)
  | eqnil (neg : Bool) (x : Opd)
  | eqs (ks : List Nat) (neg : Bool) (x y : Opd)
  | un (op : UnOp) (x : Opd)
  | mkfn (f : Nat) (cap : List Opd)
  | mkmap (kd : Option IntKind)
  | mkslice (sz bytes : Nat) (z : AV) (len cap : Opd)
  | slice (sz : Nat) (x : Opd) (lo hi : Option Opd)
  | slice3 (x : Opd) (lo : Option Opd) (hi mx : Opd)
  | slstr (x : Opd) (lo hi : Option Opd)
  | faddr (off : Nat) (x : Opd)
  | field (off sz : Nat) (agg : Bool) (x : Opd)
  | iaddr (sz : Nat) (x i : Opd)
  | iaddrA (n sz : Nat) (x i : Opd)
  | indexA (n sz : Nat) (agg : Bool) (x i : Opd)
  | indexS (x i : Opd)
  | lookup (s : Bool) (z : AV) (ok : Bool) (m k : Opd)
  | mapup (s : Bool) (m k v : Opd)
  | extract (i : Nat) (x : Opd)
  | call (f : Opd) (args : List Opd)
  | append (froz : Bool) (sz bytes : Nat) (x y : Opd)
  | len (x : Opd)
  | lenstr (x : Opd)
  | lenmap (x : Opd)
  | max (x y : Opd) (more : List Opd)
  | min (x y : Opd) (more : List Opd)
  | clear (z : AV) (x : Opd)

/-- 'pre': slots (false) and local variables (true) that are held by value from here on (nothing happens in the machine). -/
structure AInstr where
  dst : Option Nat
  op : AOp
  guard : Option (Nat × Bool)
  pre : List (Bool × Nat)

inductive ACode where
  | skip
  | region (draw : Option (List Nat)) (ops : List AInstr)   -- of a region that draws its order: what must come ahead of what
  | seq (a b : ACode)
  | cond (c : Opd) (thn els : ACode)
  | block (id : Nat) (body : ACode)
  | loop (body : ACode)
  | exit (id : Nat)
  | ret

/-- What a call may do: 'pure': it writes nothing that was there, its result is held by value, what it made goes; 'new': it writes nothing that was there, its result may have names; 'mut': it may write what its caller may; 'mutf': so, too, but its result is held by value and what it made goes. -/
inductive AMode where
  | pure | new | mut | mutf
  deriving DecidableEq

inductive ARes where
  | t (n : Nat)
  | cell (n sz : Nat) (agg : Bool)

structure AFun where
  mode : AMode
  deep : Nat
  src : Nat
  body : ACode
  res : List ARes

/-! ### memory -/

/-- A part of a value's cells. -/
def part (sz : Nat) (agg : Bool) (x : AV) (off : Nat) : Option AV :=
  if off = 0 ∧ x.cells.length = sz ∧ x.isAgg = agg then some x
  else if agg then (if off + sz ≤ x.cells.length then some (.agg ((x.cells.drop off).take sz)) else none)
  else x.cells[off]?

def put {α : Type} : List α → Nat → List α → List α
  | cs, 0, [] => cs
  | [], _, _ => []
  | _ :: cs, 0, v :: vs => v :: put cs 0 vs
  | c :: cs, n + 1, vs => c :: put cs n vs

/-- A value with a part of its cells changed. -/
def within (e : AV) (off : Nat) (x : AV) : Option AV :=
  if off = 0 ∧ x.cells.length = e.cells.length ∧ x.isAgg = e.isAgg then some x
  else match e with
    | .agg cs => if off + x.cells.length ≤ cs.length then some (.agg (put cs off x.cells)) else none
    | _ => none

def St.load (σ : St) (sz : Nat) (agg : Bool) : AV → Option AV
  | .fptr x off => part sz agg x off
  | .loc s st off => match σ.lo s with
    | some (st', v) => if st' = st then part sz agg v off else none
    | none => none
  | .ptr id i off => match σ.H id with
    | some (.arr _ es) => match es[i]? with
      | some e => part sz agg e off
      | none => none
    | _ => none
  | _ => none

def AV.storable (x : AV) : Bool := x.cells.all AV.one && x.nol

def St.store (σ : St) (wl sz : Nat) (a x : AV) : Option St :=
  if x.cells.length = sz ∧ x.storable = true then
    match a with
    | .loc s st off => match σ.lo s with
      | some (st', v) => if st' = st then
          match within v off x with
          | some v' => some { σ with lo := upd σ.lo s (some (st, v')) }
          | none => none
        else none
      | none => none
    | .ptr id i off => if wl ≤ id then
        match σ.H id with
        | some (.arr n es) => match es[i]? with
          | some e => match within e off x with
            | some e' => some { σ with H := upd σ.H id (some (.arr n (es.set i e'))) }
            | none => none
          | none => none
        | _ => none
      else none
    | _ => none
  else none

/-- A slice's elements. -/
def St.elems (σ : St) (sz : Nat) : AV → Option (List AV)
  | .nilSlice | .eslice => some []
  | .slice n es => if n = sz then some es else none
  | .lref id i n => match σ.H id with
    | some (.arr m es) => if m = sz ∧ i + n ≤ es.length then some ((es.drop i).take n) else none
    | _ => none
  | _ => none

/-! ### numbers -/

def intBin (op : BinOp) (k : IntKind) (a b : Int) : Option AV :=
  match op with
  | .add => some (.int k (k.wrap (a + b)))
  | .sub => some (.int k (k.wrap (a - b)))
  | .mul => some (.int k (k.wrap (a * b)))
  | .quo => if b = 0 then none else some (.int k (k.wrap (a.tdiv b)))
  | .rem => if b = 0 then none else some (.int k (a.tmod b))
  | .eql => some (.bool (a == b))
  | .neq => some (.bool (a != b))
  | .lss => some (.bool (decide (a < b)))
  | .leq => some (.bool (decide (a ≤ b)))
  | .gtr => some (.bool (decide (a > b)))
  | .geq => some (.bool (decide (a ≥ b)))
  | .and => some (.int k (k.wrap (BitVec.ofInt k.bits a &&& BitVec.ofInt k.bits b).toNat))
  | .or => some (.int k (k.wrap (BitVec.ofInt k.bits a ||| BitVec.ofInt k.bits b).toNat))
  | .xor => some (.int k (k.wrap (BitVec.ofInt k.bits a ^^^ BitVec.ofInt k.bits b).toNat))
  | .andNot => some (.int k (k.wrap (BitVec.ofInt k.bits a &&& ~~~(BitVec.ofInt k.bits b)).toNat))
  | _ => none

def shiftBin (op : BinOp) (k : IntKind) (a b : Int) : Option AV :=
  if b < 0 then none else
  match op with
  | .shl => some (.int k (k.wrap (a * 2 ^ (Nat.min b.toNat k.bits))))
  | .shr => some (.int k (a.fdiv (2 ^ (Nat.min b.toNat k.bits))))
  | _ => none

def isNilSlice : AV → Option Bool
  | .nilSlice => some true
  | .slice .. | .eslice | .lref .. => some false
  | _ => none

def binV (op : BinOp) (x y : AV) : Option AV :=
  match x, y with
  | .int k a, .int k' b =>
    if op = .shl ∨ op = .shr then shiftBin op k a b
    else if k = k' then intBin op k a b else none
  | .str a, .str b =>
    match op with
    | .add => if a.size + b.size ≤ 140737488355328 then some (.str (a ++ b)) else none
    | .eql => some (.bool (a.toList == b.toList))
    | .neq => some (.bool (!(a.toList == b.toList)))
    | .lss => some (.bool (Op.bytesLess a.toList b.toList))
    | .leq => some (.bool (Op.bytesLess a.toList b.toList || a.toList == b.toList))
    | .gtr => some (.bool (!(Op.bytesLess a.toList b.toList || a.toList == b.toList)))
    | .geq => some (.bool (!(Op.bytesLess a.toList b.toList)))
    | _ => none
  | _, _ => none

def unV (op : UnOp) (x : AV) : Option AV :=
  match op, x with
  | .neg, .int k n => some (.int k (k.wrap (0 - n)))
  | .not, .bool b => some (.bool (!b))
  | _, _ => none

/-- Whether rows of plain cells (0: numbers, 1: bools, 2: strings) are the same. -/
def eqCells : List Nat → List AV → List AV → Option Bool
  | [], [], [] => some true
  | 0 :: ks, .int k a :: xs, .int k' b :: ys => if k = k' then (eqCells ks xs ys).map fun r => (a == b) && r else none
  | 1 :: ks, .bool a :: xs, .bool b :: ys => (eqCells ks xs ys).map fun r => (a == b) && r
  | 2 :: ks, .str a :: xs, .str b :: ys => (eqCells ks xs ys).map fun r => (a.toList == b.toList) && r
  | _, _, _ => none

def maxV : AV → AV → Option AV
  | .int k a, .int k' b => if k = k' then some (.int k (if b > a then b else a)) else none
  | _, _ => none
def minV : AV → AV → Option AV
  | .int k a, .int k' b => if k = k' then some (.int k (if b < a then b else a)) else none
  | _, _ => none
def foldV (f : AV → AV → Option AV) : AV → List AV → Option AV
  | x, [] => some x
  | x, y :: ys => match f x y with
    | some z => foldV f z ys
    | none => none

/-- A bound of a slice expression. -/
def bound (env : Nat → AV) (d : Nat) : Option Opd → Option Nat
  | none => some d
  | some x => match x.ev env with
    | .int _ n => if 0 ≤ n then some n.toNat else none
    | _ => none

def geti {α : Type} (k : Int) : List (Int × α) → Option α
  | [] => none
  | (j, v) :: es => if k = j then some v else geti k es
def seti {α : Type} (k : Int) (x : α) : List (Int × α) → List (Int × α)
  | [] => [(k, x)]
  | (j, v) :: es => if k = j then (k, x) :: es else (j, v) :: seti k x es
def gets {α : Type} (k : ByteArray) : List (ByteArray × α) → Option α
  | [] => none
  | (j, v) :: es => if k = j then some v else gets k es
def sets {α : Type} (k : ByteArray) (x : α) : List (ByteArray × α) → List (ByteArray × α)
  | [] => [(k, x)]
  | (j, v) :: es => if k = j then (k, x) :: es else (j, v) :: sets k x es

/-- Cells with parts put in: where, how many, what. -/
def fills (env : Nat → AV) : List AV → List (Nat × Nat × Opd) → Option (List AV)
  | cs, [] => some cs
  | cs, (off, sz, x) :: ps =>
    if (x.ev env).storable = true ∧ (x.ev env).cells.length = sz ∧ off + sz ≤ cs.length then fills env (put cs off (x.ev env).cells) ps else none

/-- Rows of cells, so many each, as elements. -/
def chop (sz : Nat) : Nat → List AV → List AV
  | 0, _ => []
  | n + 1, cs => (if sz = 1 then (cs.head?).getD .undef else .agg (cs.take sz)) :: chop sz n (cs.drop sz)

/-! ### calls -/

/-- What a call answers: the result, and the named memory behind it. -/
abbrev Ans := AV × (Nat → Option Obj) × Nat
abbrev CallF := Nat → Nat → List AV → (Nat → Option Obj) → Nat → Option Ans   -- wl, function, arguments, names, next

def newMap : Option IntKind → Obj
  | some k => .mapi k []
  | none => .maps []

def AOp.eval (call : CallF) (wl id : Nat) (o : AOp) (σ : St) (dst : Option Nat) : Option (AV × St) :=
  match o with
  | .mov x => some (x.ev σ.env, σ)
  | .pick c a b => match c.ev σ.env with
    | .bool t => some (if t then a.ev σ.env else b.ev σ.env, σ)
    | _ => none
  | .lalloc z => match dst with
    | some d => some (.loc d id 0, { σ with lo := upd σ.lo d (some (id, z)) })
    | none => none
  | .halloc z => some (.ptr id 0 0, { σ with H := upd σ.H id (some (.arr z.cells.length [z])) })
  | .fbox x => if (x.ev σ.env).solid = true ∧ (x.ev σ.env).storable = true then some (.fptr (x.ev σ.env) 0, σ) else none
  | .lbox x => match dst with
    | some d => if (x.ev σ.env).storable = true then some (.loc d id 0, { σ with lo := upd σ.lo d (some (id, x.ev σ.env)) }) else none
    | none => none
  | .hbox x => if (x.ev σ.env).storable = true then some (.ptr id 0 0, { σ with H := upd σ.H id (some (.arr (x.ev σ.env).cells.length [x.ev σ.env])) }) else none
  | .build z parts => (fills σ.env z parts).map fun cs => (.agg cs, σ)
  | .bslice live sz n z parts =>
    match fills σ.env z parts with
    | some cs => if live then (if AV.nols cs = true then some (.lref id 0 n, { σ with H := upd σ.H id (some (.arr sz (chop sz n cs))) }) else none)
      else if AV.solids cs = true then some (.slice sz (chop sz n cs), σ) else none
    | none => none
  | .load sz agg a => (σ.load sz agg (a.ev σ.env)).map fun v => (v, σ)
  | .store sz a v => (σ.store wl sz (a.ev σ.env) (v.ev σ.env)).map fun τ => (.undef, τ)
  | .ncheck x => match x.ev σ.env with
    | .fptr .. | .ptr .. | .loc .. | .clo .. => some (x.ev σ.env, σ)
    | _ => none
  | .bin op x y => (binV op (x.ev σ.env) (y.ev σ.env)).map fun v => (v, σ)
  | .eqb neg x y => match x.ev σ.env, y.ev σ.env with
    | .bool a, .bool b => some (.bool (if neg then !(a == b) else (a == b)), σ)
    | _, _ => none
  | .eqnil neg x => (isNilSlice (x.ev σ.env)).map fun b => (.bool (if neg then !b else b), σ)
  | .eqs ks neg x y => match x.ev σ.env, y.ev σ.env with
    | .agg xs, .agg ys => (eqCells ks xs ys).map fun b => (.bool (if neg then !b else b), σ)
    | _, _ => none
  | .un op x => (unV op (x.ev σ.env)).map fun v => (v, σ)
  | .mkfn f cap => some (.clo f (cap.map fun x => x.ev σ.env), σ)
  | .mkmap kd => some (.map id, { σ with H := upd σ.H id (some (newMap kd)) })
  | .mkslice sz bytes z lx cx => match lx.ev σ.env, cx.ev σ.env with
    | .int .i64 l, .int .i64 c => if 0 ≤ l ∧ l ≤ c ∧ c * bytes ≤ 140737488355328 then
        some (.lref id 0 l.toNat, { σ with H := upd σ.H id (some (.arr sz (List.replicate l.toNat z))) }) else none
    | _, _ => none
  | .slice sz x lo hi => match x.ev σ.env with
    | .nilSlice => match bound σ.env 0 lo, bound σ.env 0 hi with
      | some 0, some 0 => some (.nilSlice, σ)
      | _, _ => none
    | .eslice => match bound σ.env 0 lo, bound σ.env 0 hi with
      | some 0, some 0 => some (.eslice, σ)
      | _, _ => none
    | .slice m es => match bound σ.env 0 lo, bound σ.env es.length hi with
      | some l, some h => if m = sz ∧ l ≤ h ∧ h ≤ es.length then some (.slice sz ((es.drop l).take (h - l)), σ) else none
      | _, _ => none
    | .lref i j n => match σ.H i with
      | some (.arr m es) => match bound σ.env 0 lo, bound σ.env n hi with
        | some l, some h => if m = sz ∧ l ≤ h ∧ j + h ≤ es.length then some (.lref i (j + l) (h - l), σ) else none
        | _, _ => none
      | _ => none
    | _ => none
  | .slice3 x lo hi mx => match x.ev σ.env with
    | .slice _ es => match bound σ.env 0 lo, bound σ.env 0 (some hi), bound σ.env 0 (some mx) with
      | some l, some h, some m => if l ≤ h ∧ h ≤ m ∧ m ≤ es.length then some (.undef, σ) else none
      | _, _, _ => none
    | .lref i j _ => match σ.H i with
      | some (.arr _ es) => match bound σ.env 0 lo, bound σ.env 0 (some hi), bound σ.env 0 (some mx) with
        | some l, some h, some m => if l ≤ h ∧ h ≤ m ∧ j + m ≤ es.length then some (.undef, σ) else none
        | _, _, _ => none
      | _ => none
    | _ => none
  | .slstr x lo hi => match x.ev σ.env with
    | .str s => match bound σ.env 0 lo, bound σ.env s.size hi with
      | some l, some h => if l ≤ h ∧ h ≤ s.size then some (.str (s.extract l h), σ) else none
      | _, _ => none
    | _ => none
  | .faddr off x => match x.ev σ.env with
    | .fptr v o => some (.fptr v (o + off), σ)
    | .ptr i j o => some (.ptr i j (o + off), σ)
    | .loc s st o => some (.loc s st (o + off), σ)
    | _ => none
  | .field off sz agg x => match x.ev σ.env with
    | .agg cs => (part sz agg (.agg cs) off).map fun v => (v, σ)
    | _ => none
  | .iaddr sz x i => match i.ev σ.env with
    | .int _ n => if 0 ≤ n then
        match x.ev σ.env with
        | .slice m es => if m = sz then (es[n.toNat]?).map fun e => (.fptr e 0, σ) else none
        | .lref id j m0 => match σ.H id with
          | some (.arr m _) => if m = sz ∧ n < m0 then some (.ptr id (j + n.toNat) 0, σ) else none
          | _ => none
        | _ => none
      else none
    | _ => none
  | .iaddrA n sz x i => match i.ev σ.env with
    | .int _ k => if 0 ≤ k ∧ k < n then
        match x.ev σ.env with
        | .fptr v o => some (.fptr v (o + k.toNat * sz), σ)
        | .ptr i j o => some (.ptr i j (o + k.toNat * sz), σ)
        | .loc s st o => some (.loc s st (o + k.toNat * sz), σ)
        | _ => none
      else none
    | _ => none
  | .indexA n sz agg x i => match i.ev σ.env, x.ev σ.env with
    | .int _ k, .agg cs => if 0 ≤ k ∧ k < n then (part sz agg (.agg cs) (k.toNat * sz)).map fun v => (v, σ) else none
    | _, _ => none
  | .indexS x i => match i.ev σ.env, x.ev σ.env with
    | .int _ k, .str s => if 0 ≤ k then (s[k.toNat]?).map fun b => (.int .u8 b.toNat, σ) else none
    | _, _ => none
  | .lookup s z ok m k => match s, m.ev σ.env, k.ev σ.env with
    | false, .map i, .int kd n => match σ.H i with
      | some (.mapi kd' es) => if kd = kd' then
          some (if ok then .tup [(geti n es).getD z, .bool (geti n es).isSome] else (geti n es).getD z, σ) else none
      | _ => none
    | true, .map i, .str s => match σ.H i with
      | some (.maps es) => some (if ok then .tup [(gets s es).getD z, .bool (gets s es).isSome] else (gets s es).getD z, σ)
      | _ => none
    | _, _, _ => none
  | .mapup s m k v => match s, m.ev σ.env, k.ev σ.env with
    | false, .map i, .int kd n => match σ.H i with
      | some (.mapi kd' es) => if kd = kd' ∧ wl ≤ i ∧ (v.ev σ.env).storable = true then
          some (.undef, { σ with H := upd σ.H i (some (.mapi kd' (seti n (v.ev σ.env) es))) }) else none
      | _ => none
    | true, .map i, .str s => match σ.H i with
      | some (.maps es) => if wl ≤ i ∧ (v.ev σ.env).storable = true then
          some (.undef, { σ with H := upd σ.H i (some (.maps (sets s (v.ev σ.env) es))) }) else none
      | _ => none
    | _, _, _ => none
  | .extract i x => match x.ev σ.env with
    | .tup vs => (vs[i]?).map fun v => (v, σ)
    | _ => none
  | .call f args => match f.ev σ.env with
    | .clo g cap => if AV.nols (args.map (fun x => x.ev σ.env) ++ cap) = true then (call wl g (args.map (fun x => x.ev σ.env) ++ cap) σ.H σ.nx).map fun r => (r.1, { σ with H := r.2.1, nx := r.2.2 }) else none
    | _ => none
  | .append froz sz bytes x y => match σ.elems sz (y.ev σ.env) with
    | none => none
    | some ys =>
      match x.ev σ.env with
      | .nilSlice => if ys.length = 0 then some (.nilSlice, σ) else
          if ys.length * bytes ≤ 140737488355328 then
            (if froz then (if AV.solids ys = true then some (.slice sz ys, σ) else none)
             else some (.lref id 0 ys.length, { σ with H := upd σ.H id (some (.arr sz ys)) }))
          else none
      | .eslice => if ys.length = 0 then some (.eslice, σ) else
          if ys.length * bytes ≤ 140737488355328 then
            (if froz then (if AV.solids ys = true then some (.slice sz ys, σ) else none)
             else some (.lref id 0 ys.length, { σ with H := upd σ.H id (some (.arr sz ys)) }))
          else none
      | .lref i j n => if wl ≤ i then
          match σ.H i with
          | some (.arr m es) => if m = sz ∧ j + n ≤ es.length ∧ (n + ys.length) * bytes ≤ 140737488355328 then
              (if froz then (if AV.solids ((es.drop j).take n ++ ys) = true then
                  some (.slice sz ((es.drop j).take n ++ ys), { σ with H := upd σ.H i none }) else none)
               else if j + n + ys.length ≤ es.length then
                some (.lref i j (n + ys.length), { σ with H := upd σ.H i (some (.arr m (es.take (j + n) ++ ys ++ es.drop (j + n + ys.length)))) })
               else some (.lref id 0 (n + ys.length), { σ with H := upd (upd σ.H i none) id (some (.arr sz ((es.drop j).take n ++ ys))) }))
            else none
          | _ => none
        else none
      | _ => none
  | .len x => match x.ev σ.env with
    | .nilSlice | .eslice => some (.int .i64 0, σ)
    | .slice _ es => some (.int .i64 es.length, σ)
    | .lref _ _ n => some (.int .i64 n, σ)
    | _ => none
  | .lenstr x => match x.ev σ.env with
    | .str s => some (.int .i64 s.size, σ)
    | _ => none
  | .lenmap x => match x.ev σ.env with
    | .nilMap => some (.int .i64 0, σ)
    | .map i => match σ.H i with
      | some (.mapi _ es) => some (.int .i64 es.length, σ)
      | some (.maps es) => some (.int .i64 es.length, σ)
      | _ => none
    | _ => none
  | .max x y more => match maxV (x.ev σ.env) (y.ev σ.env) with
    | some z => (foldV maxV z (more.map fun x => x.ev σ.env)).map fun v => (v, σ)
    | none => none
  | .min x y more => match minV (x.ev σ.env) (y.ev σ.env) with
    | some z => (foldV minV z (more.map fun x => x.ev σ.env)).map fun v => (v, σ)
    | none => none
  | .clear z x => match x.ev σ.env with
    | .nilSlice | .eslice => some (.tup [], σ)
    | .lref i j n => if wl ≤ i then
        match σ.H i with
        | some (.arr m es) => if z.cells.length = m ∧ j + n ≤ es.length then
            some (.tup [], { σ with H := upd σ.H i (some (.arr m (es.take j ++ List.replicate n z ++ es.drop (j + n)))) }) else none
        | _ => none
      else none
    | _ => none

def St.setDst (σ : St) (d : Option Nat) (v : AV) : St :=
  match d with
  | some d => { σ with env := upd σ.env d v }
  | none => σ

mutual
/-- A value with what has names from 'wl' on held by value, and the names that are left; 'f' does so with elements. -/
def thawV (f : (Nat → Option Obj) → List AV → Option (List AV × (Nat → Option Obj))) (wl : Nat) (H : Nat → Option Obj) : AV → Option (AV × (Nat → Option Obj))
  | .lref id j n => if id < wl then some (.lref id j n, H) else
      match H id with
      | some (.arr m es) => if j + n ≤ es.length then
          match f (upd H id none) ((es.drop j).take n) with
          | some (xs, H1) => if AV.solids xs = true then some (.slice m xs, H1) else none
          | none => none
        else none
      | _ => none
  | .agg cs => match thawL f wl H cs with
    | some r => some (.agg r.1, r.2)
    | none => none
  | v => some (v, H)
def thawL (f : (Nat → Option Obj) → List AV → Option (List AV × (Nat → Option Obj))) (wl : Nat) (H : Nat → Option Obj) : List AV → Option (List AV × (Nat → Option Obj))
  | [] => some ([], H)
  | v :: vs => match thawV f wl H v with
    | some (x, H1) => match thawL f wl H1 vs with
      | some (xs, H2) => some (x :: xs, H2)
      | none => none
    | none => none
end

/-- .. so deep. -/
def thaw (wl : Nat) : Nat → (Nat → Option Obj) → List AV → Option (List AV × (Nat → Option Obj))
  | 0, H, vs => some (vs, H)
  | d + 1, H, vs => thawL (thaw wl d) wl H vs

def pres (wl : Nat) : List (Bool × Nat) → St → Option St
  | [], σ => some σ
  | (false, s) :: ps, σ => match thawV (thaw wl 0) wl σ.H (σ.env s) with
    | some (v, H) => pres wl ps { σ with env := upd σ.env s v, H }
    | none => none
  | (true, s) :: ps, σ => match σ.lo s with
    | some (st, v) => match thawV (thaw wl 0) wl σ.H v with
      | some (x, H) => pres wl ps { σ with lo := upd σ.lo s (some (st, x)), H }
      | none => none
    | none => none

def AInstr.act (call : CallF) (wl id : Nat) (i : AInstr) (σ : St) : Option St :=
  match i.guard with
  | none => (i.op.eval call wl id σ i.dst).map fun r => r.2.setDst i.dst r.1
  | some (s, b) => match σ.env s with
    | .bool t => if t = b then (i.op.eval call wl id σ i.dst).map fun r => r.2.setDst i.dst r.1 else some (σ.setDst i.dst (.tup []))
    | .tup cs => if cs.isEmpty then some (σ.setDst i.dst (.tup [])) else none
    | _ => none

def AInstr.exec (call : CallF) (wl id : Nat) (i : AInstr) (σ : St) : Option St :=
  match pres wl i.pre σ with
  | some τ => i.act call wl id τ
  | none => none

def execOps (call : CallF) (wl : Nat) : Nat → List AInstr → St → Option St
  | _, [], σ => some σ
  | id, i :: is, σ => match i.exec call wl id σ with
    | some τ => execOps call wl (id + 1) is τ
    | none => none

inductive AExit where
  | normal | exit (id : Nat) | ret
  deriving DecidableEq

def iter (f : St → Option (AExit × St)) : Nat → St → Option (AExit × St)
  | 0, _ => none
  | n + 1, σ => match f σ with
    | some (.normal, τ) => iter f n τ
    | r => r

/-- What of the named memory an operation touches: one object that is read; all of it, read; fresh ones written; anything written. -/
inductive HFp where
  | none | cell (i : Nat) | all | fresh | write
  deriving DecidableEq

/-- What of memory an operation touches: a local variable (true: it writes), what has names. -/
structure Fp where
  lo : Option (Nat × Bool)
  heap : HFp

def Fp.none : Fp := ⟨.none, .none⟩
def Fp.at (w : Bool) : AV → Fp
  | .loc s _ _ => ⟨some (s, w), .none⟩
  | .ptr i _ _ => ⟨.none, if w then .write else .cell i⟩
  | _ => Fp.none
def cellOf : AV → HFp
  | .lref i _ _ => .cell i
  | _ => .none

/-- What a function does with what has names: it leaves all as it was; it writes fresh ones; it writes any. -/
inductive Tidy where
  | pure | fresh | any
  deriving DecidableEq

def AOp.fp (pf : Nat → Tidy) (o : AOp) (env : Nat → AV) (dst : Option Nat) : Fp :=
  match o with
  | .lalloc _ | .lbox _ => ⟨dst.map fun d => (d, true), .none⟩
  | .halloc _ | .hbox _ | .mkmap _ | .mkslice .. => ⟨.none, .fresh⟩
  | .mapup .. | .clear .. => ⟨.none, .write⟩
  | .bslice live .. => ⟨.none, if live then .fresh else .none⟩
  | .load _ _ a => Fp.at false (a.ev env)
  | .store _ a _ => Fp.at true (a.ev env)
  | .slice _ x _ _ | .slice3 x _ _ _ => ⟨.none, cellOf (x.ev env)⟩
  | .iaddr _ x _ => ⟨.none, cellOf (x.ev env)⟩
  | .lookup .. | .lenmap _ => ⟨.none, .all⟩
  | .call f _ => match f.ev env with
    | .clo g _ => ⟨.none, match pf g with | .pure => .all | .fresh => .fresh | .any => .write⟩
    | _ => ⟨.none, .write⟩
  | .append froz _ _ x y => ⟨.none, match froz, cellOf (x.ev env) with | true, .none => cellOf (y.ev env) | _, _ => .write⟩
  | _ => Fp.none

def AInstr.fp (pf : Nat → Tidy) (i : AInstr) (env : Nat → AV) : Fp :=
  match i.guard with
  | .none => i.op.fp pf env i.dst
  | some (s, b) => match env s with
    | .bool t => if t = b then i.op.fp pf env i.dst else Fp.none
    | _ => Fp.none

/-- 'nx': names from here on are fresh. -/
def HFp.clash (nx : Nat) : HFp → HFp → Bool
  | .none, _ => false
  | _, .none => false
  | .write, _ => true
  | _, .write => true
  | .fresh, .fresh => true
  | .fresh, .all => true
  | .all, .fresh => true
  | .fresh, .cell i => decide (nx ≤ i)
  | .cell i, .fresh => decide (nx ≤ i)
  | _, _ => false

def Fp.clash (nx : Nat) (a b : Fp) : Bool :=
  (match a.lo, b.lo with
    | some (s, x), some (t, y) => s == t && (x || y)
    | _, _ => false) || a.heap.clash nx b.heap

/-- One operation's, against those ahead of it, the last one first: each that it clashes with must come ahead. -/
def clear1 (nx m : Nat) (f : Fp) : List Fp → Bool
  | [] => true
  | g :: gs => (!(g.clash nx f) || m.testBit gs.length) && clear1 nx m f gs
/-- .. and all. -/
def clears (nx : Nat) (acc : List Fp) : List Nat → List Fp → Bool
  | m :: ms, f :: fs => clear1 nx m f acc && clears nx (f :: acc) ms fs
  | [], [] => true
  | _, _ => false

def execD (call : CallF) (pf : Nat → Tidy) (wl : Nat) : Nat → List AInstr → St → Option (St × List Fp)
  | _, [], σ => some (σ, [])
  | id, i :: is, σ => if i.pre.isEmpty then
      match i.act call wl id σ with
      | some τ => match execD call pf wl (id + 1) is τ with
        | some (υ, fs) => some (υ, i.fp pf σ.env :: fs)
        | none => none
      | none => none
    else none

def exec (call : CallF) (pf : Nat → Tidy) (wl k : Nat) : ACode → St → Option (AExit × St)
  | .skip, σ => some (.normal, σ)
  | .region none ops, σ => (execOps call wl σ.nx ops { σ with nx := σ.nx + ops.length }).map fun τ => (.normal, τ)
  | .region (some ms) ops, σ => match execD call pf wl σ.nx ops { σ with nx := σ.nx + ops.length } with
    | some (τ, fs) => if clears σ.nx [] ms fs = true then some (.normal, τ) else none
    | none => none
  | .seq a b, σ => match exec call pf wl k a σ with
    | some (.normal, τ) => exec call pf wl k b τ
    | r => r
  | .cond c a b, σ => match c.ev σ.env with
    | .bool t => if t then exec call pf wl k a σ else exec call pf wl k b σ
    | _ => none
  | .block id c, σ => match exec call pf wl k c σ with
    | some (.exit j, τ) => if j = id then some (.normal, τ) else some (.exit j, τ)
    | r => r
  | .loop c, σ => iter (exec call pf wl k c) k σ
  | .exit id, σ => some (.exit id, σ)
  | .ret, σ => some (.ret, σ)

/-! ### a call's end -/

def resOf (σ : St) : List ARes → Option (List AV)
  | [] => some []
  | .t n :: rs => (resOf σ rs).map (σ.env n :: ·)
  | .cell n sz agg :: rs => match σ.load sz agg (σ.env n) with
    | some v => (resOf σ rs).map (v :: ·)
    | none => none

def pack : List AV → AV
  | [v] => v
  | vs => .tup vs

end Go.Proofs.Ytmbdccekcfeomaa.Am
