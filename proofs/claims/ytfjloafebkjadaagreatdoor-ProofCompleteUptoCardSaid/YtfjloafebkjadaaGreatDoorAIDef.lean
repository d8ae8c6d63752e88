/- An abstract machine for the model's code, over named objects. -/
import GoSem.Dispatch
import GoSem.Step
/- The abstract machine: a deterministic evaluator of Code over a heap of named objects; a slice's spare capacity is unknown where an append may have grown it. -/
namespace Go.AI

inductive AV where
  | undef
  | bool (b : Bool)
  | int (k : IntKind) (n : Int)
  | str (s : List UInt8)
  | ptr (id off : Nat)
  | glob (g off : Nat)
  | nilPtr
  | slice (id off len cap : Nat) (ex : Bool)
  | nilSlice
  | eslice
  | map (r : Nat)
  | nilMap
  | func (f : FuncId) (cap : List AV)
  | meth (f : FuncId) (first : List AV)
  | nilFunc
  | iface (t : TypeId) (v : AV)
  | nilIface
  | agg (cs : List AV)
  | tuple (vs : List AV)
  deriving Inhabited, Repr

def AV.cells : AV → List AV
  | .agg cs => cs
  | v => [v]

structure AEntry where
  key : AV
  val : AV
  born : Nat
  deriving Inhabited, Repr

inductive AObj where
  | cells (cs : List AV) (elem : TypeId) (ro : Bool)
  | map (es : List AEntry) (clock : Nat)
  | siter (s : List UInt8) (pos : Nat)
  | miter (m : Option Nat) (since : Nat) (seen : List Nat) (stepped : Nat)
  | dead
  deriving Inhabited, Repr

inductive Tree (α : Type) where
  | leaf
  | node (l : Tree α) (v : Option α) (r : Tree α)
  deriving Inhabited

def Tree.get {α : Type} : Tree α → Nat → Option α
  | .leaf, _ => none
  | .node l v r, n => if n = 0 then v else if n % 2 = 1 then l.get (n / 2) else r.get (n / 2 - 1)

def Tree.set {α : Type} : Nat → Tree α → Nat → Option α → Tree α
  | 0, t, _, _ => t
  | k + 1, .leaf, n, x => if n = 0 then .node .leaf x .leaf else if n % 2 = 1 then .node (Tree.set k .leaf (n / 2) x) none .leaf else .node .leaf none (Tree.set k .leaf (n / 2 - 1) x)
  | k + 1, .node l v r, n, x => if n = 0 then .node l x r else if n % 2 = 1 then .node (Tree.set k l (n / 2) x) v r else .node l v (Tree.set k r (n / 2 - 1) x)


def Tree.put {α : Type} (t : Tree α) (n : Nat) (x : α) : Tree α := Tree.set (n + 1) t n (some x)

structure AH where
  t : Tree AObj
  next : Nat
  deriving Inhabited

def AH.new (h : AH) (o : AObj) : Nat × AH := (h.next, { t := h.t.put h.next o, next := h.next + 1 })
def AH.upd (h : AH) (i : Nat) (o : AObj) : AH := { h with t := h.t.put i o }

/-! ### Tables -/
mutual
def toAV : Value → AV
  | .bool b => .bool b
  | .int k n => .int k n
  | .string s => .str s.data.toList
  | .pointer none => .nilPtr
  | .slice none 0 0 => .nilSlice
  | .map none => .nilMap
  | .nilFunc => .nilFunc
  | .nilIface => .nilIface
  | .func (.func f) ⟨[]⟩ ⟨[]⟩ => .func f []
  | .agg ⟨cs⟩ => .agg (toAVs cs)
  | _ => .undef
def toAVs : List Value → List AV
  | [] => []
  | v :: vs => toAV v :: toAVs vs
end

def known : AV → Bool
  | .undef => false
  | _ => true

structure TInfo where
  desc : TypeDesc
  size : Nat
  bytes : Nat
  zero : List AV
  zeroV : AV
  isAgg : Bool
  plainEq : Bool
  deriving Inhabited

structure AFunc where
  ntmps : Nat
  nargs : Nat
  results : List ResultVar
  body : Code
  deriving Inhabited

structure Tab where
  tt : Tree TInfo
  ft : Tree AFunc
  xt : Tree Nat
  gt : Tree (List AV)

def aggDesc : TypeDesc → Bool
  | .struct _ | .array _ _ => true
  | _ => false
def mkTInfo (P : Program) (t : TypeId) : Option TInfo :=
  match P.info? t, P.underlying t with
  | some i, some d => match i.zero with
    | some z => if known (toAV z) = false then none else some ⟨d, i.size, i.bytes, (toAV z).cells, toAV z, aggDesc d, !P.eqGuardType P.depth t && !P.stoodInHeld t⟩
    | none => none
  | _, _ => none
def mkTT (P : Program) : Nat → Tree TInfo → Tree TInfo
  | 0, t => t
  | n + 1, t => mkTT P n (match mkTInfo P n with | some x => t.put n x | none => t)
def mkAFunc (f : Func) : Option AFunc :=
  if f.name == "runtime.NumGoroutine" then none else
  match f.body with
  | some c => some { ntmps := f.ntmps, nargs := f.params.size + f.nfree, results := f.results.toList, body := c }
  | none => none
def mkFT : List Func → Nat → Tree AFunc → Tree AFunc
  | [], _, t => t
  | f :: fs, n, t => mkFT fs (n + 1) (match mkAFunc f with | some x => t.put n x | none => t)
/-- Functions without a body that are known: abi.NoEscape gives its argument. -/
def mkExt (f : Func) : Option Nat := if f.name == "internal/abi.NoEscape" && f.origin == "" && f.body.isNone then some 0 else none
def mkXT : List Func → Nat → Tree Nat → Tree Nat
  | [], _, t => t
  | f :: fs, n, t => mkXT fs (n + 1) (match mkExt f with | some x => t.put n x | none => t)
def mkTab (P : Program) (gt : Tree (List AV) := .leaf) : Tab := { tt := mkTT P P.types.size .leaf, ft := mkFT P.funcs.toList 0 .leaf, xt := mkXT P.funcs.toList 0 .leaf, gt := gt }

/-! ### Operations -/
abbrev Env := Tree AV
def Env.at (env : Env) (t : Nat) : AV := (env.get t).getD (.tuple [])
def aev (env : Env) : Operand → AV
  | .tmp t => Env.at env t
  | .const v => toAV v
  | .global g => .glob g 0
  | .func f => .func f []

def lset {α : Type} : List α → Nat → α → List α
  | [], _, _ => []
  | _ :: xs, 0, y => y :: xs
  | x :: xs, n + 1, y => x :: lset xs n y
def lsetMany {α : Type} (l : List α) : Nat → List α → List α
  | _, [] => l
  | i, v :: vs => lsetMany (lset l i v) (i + 1) vs
def lget {α : Type} : List α → Nat → Option α
  | [], _ => none
  | x :: _, 0 => some x
  | _ :: xs, n + 1 => lget xs n
def rep {α : Type} : Nat → List α → List α
  | 0, _ => []
  | n + 1, z => z ++ rep n z
def sub {α : Type} (l : List α) (i n : Nat) : Option (List α) := if i + n ≤ l.length then some ((l.drop i).take n) else none

def cellsOf (h : AH) (id : Nat) : Option (List AV) :=
  match h.t.get id with
  | some (.cells cs _ _) => some cs
  | _ => none
/-- The cells of an object that may be written. -/
def ownOf (h : AH) (id : Nat) : Option (List AV × TypeId) :=
  match h.t.get id with
  | some (.cells cs e false) => some (cs, e)
  | _ => none
def szOf (T : Tab) (e : TypeId) : Nat := match T.tt.get e with | some i => i.size | none => 0
def scalar : AV → Bool
  | .undef | .agg _ | .tuple _ => false
  | _ => true
def put? (h : AH) (id : Nat) (cs : List AV) (e : TypeId) (off : Nat) (vs : List AV) : Option AH :=
  if vs.all scalar ∧ off + vs.length ≤ cs.length then some (h.upd id (.cells (lsetMany cs off vs) e false)) else none

def apart (T : Tab) (t : TypeId) (cs : List AV) (off : Nat) : Option AV :=
  match T.tt.get t with
  | some i => if i.isAgg then (sub cs off i.size).map .agg else lget cs off
  | none => none

def afill (place : Nat → Option (Nat × Nat)) (cells : List AV) : List (Nat × AV) → Option (List AV)
  | [] => some cells
  | (i, v) :: rest =>
    match place i with
    | none => none
    | some (off, n) => if v.cells.length = n ∧ off + n ≤ cells.length ∧ known v = true then afill place (lsetMany cells off v.cells) rest else none

def aload (T : Tab) (h : AH) (t : TypeId) (a : AV) : Option AV :=
  match a with
  | .ptr id off => match cellsOf h id with
    | some cs => apart T t cs off
    | none => none
  | .glob g off => match T.gt.get g with
    | some cs => apart T t cs off
    | none => none
  | _ => none
def astore (T : Tab) (h : AH) (t : TypeId) (a v : AV) : Option AH :=
  match a with
  | .ptr id off => match ownOf h id, T.tt.get t with
    | some (cs, e), some i => if v.cells.length = i.size then put? h id cs e off v.cells else none
    | _, _ => none
  | _ => none

def abin (op : BinOp) (k : IntKind) (a b : Int) : Option AV :=
  match op with
  | .add => some (.int k (k.wrap (a + b)))
  | .sub => some (.int k (k.wrap (a - b)))
  | .mul => some (.int k (k.wrap (a * b)))
  | .quo => if b = 0 then none else some (.int k (k.wrap (a.tdiv b)))
  | .rem => if b = 0 then none else some (.int k (a.tmod b))
  | .and => some (.int k (k.wrap (BitVec.ofInt k.bits a &&& BitVec.ofInt k.bits b).toNat))
  | .or => some (.int k (k.wrap (BitVec.ofInt k.bits a ||| BitVec.ofInt k.bits b).toNat))
  | .xor => some (.int k (k.wrap (BitVec.ofInt k.bits a ^^^ BitVec.ofInt k.bits b).toNat))
  | .andNot => some (.int k (k.wrap (BitVec.ofInt k.bits a &&& ~~~ BitVec.ofInt k.bits b).toNat))
  | .eql => some (.bool (a == b))
  | .neq => some (.bool (a != b))
  | .lss => some (.bool (a < b))
  | .leq => some (.bool (a ≤ b))
  | .gtr => some (.bool (a > b))
  | .geq => some (.bool (a ≥ b))
  | .shl | .shr => none
def ashift (shl : Bool) (k : IntKind) (a b : Int) : Option AV :=
  if b < 0 then none else
    let n := min b.toNat k.bits
    if shl then some (.int k (k.wrap (a * 2 ^ n))) else some (.int k (a.fdiv (2 ^ n)))
def bytesLess : List UInt8 → List UInt8 → Bool
  | _, [] => false
  | [], _ :: _ => true
  | a :: x, b :: y => a < b || (a == b && bytesLess x y)
def astr (op : BinOp) (a b : List UInt8) : Option AV :=
  match op with
  | .add => if a.length + b.length ≤ 2 ^ 60 then some (.str (a ++ b)) else none
  | .eql => some (.bool (a == b))
  | .neq => some (.bool !(a == b))
  | .lss => some (.bool (bytesLess a b))
  | .leq => some (.bool (bytesLess a b || a == b))
  | .gtr => some (.bool !(bytesLess a b || a == b))
  | .geq => some (.bool !(bytesLess a b))
  | _ => none

def aeqList (T : Tab) (eq : TypeId → AV → AV → Option Bool) (xs ys : List AV) : List (TypeId × Nat) → Option Bool
  | [] => some true
  | (t, off) :: rest =>
    match apart T t xs off, apart T t ys off with
    | some x, some y => match eq t x y with
      | some true => aeqList T eq xs ys rest
      | some false => some false
      | none => none
    | _, _ => none
def slots (e n : Nat) : Nat → Nat → List (TypeId × Nat)
  | 0, _ => []
  | k + 1, i => (e, i * n) :: slots e n k (i + 1)
def aeqFlat (d : TypeDesc) (x y : AV) : Option Bool :=
  match d, x, y with
  | .bool, .bool a, .bool b => some (a == b)
  | .int _, .int k a, .int k' b => if k = k' then some (a == b) else none
  | .string, .str a, .str b => some (a == b)
  | .pointer _, .nilPtr, .nilPtr => some true
  | .pointer _, .nilPtr, .ptr .. => some false
  | .pointer _, .ptr .., .nilPtr => some false
  | .slice _, .nilSlice, .nilSlice => some true
  | .slice _, .nilSlice, .slice .. => some false
  | .slice _, .nilSlice, .eslice => some false
  | .slice _, .slice .., .nilSlice => some false
  | .slice _, .eslice, .nilSlice => some false
  | .map _ _, .nilMap, .nilMap => some true
  | .map _ _, .nilMap, .map _ => some false
  | .map _ _, .map _, .nilMap => some false
  | .func _ _ _, .nilFunc, .nilFunc => some true
  | .func _ _ _, .nilFunc, .func .. => some false
  | .func _ _ _, .func .., .nilFunc => some false
  | .interface _, .nilIface, .nilIface => some true
  | .interface _, .nilIface, .iface .. => some false
  | .interface _, .iface .., .nilIface => some false
  | _, _, _ => none
def aeq (T : Tab) : Nat → TypeId → AV → AV → Option Bool
  | 0, _, _, _ => none
  | d + 1, t, x, y =>
    match T.tt.get t with
    | none => none
    | some i => match x, y with
      | .agg xs, .agg ys => if !i.plainEq then none else match i.desc with
        | .struct fs => aeqList T (aeq T d) xs ys ((fs.toList.filter fun f => f.name != "_").map fun f => (f.type, f.offset))
        | .array len e => match T.tt.get e with
          | some ie => aeqList T (aeq T d) xs ys (slots e ie.size len 0)
          | none => none
        | _ => none
      | x, y => aeqFlat i.desc x y
def descOf (T : Tab) (t : TypeId) : TypeDesc := match T.tt.get t with | some i => i.desc | none => .invalid
/-- '==' at a type; 'c': one of the operands is written out. -/
def aeqTop (T : Tab) (c : Bool) (t : TypeId) (x y : AV) : Option Bool :=
  match x, y with
  | .nilIface, .nilIface => if c then aeq T 9 t x y else none
  | .undef, _ => none
  | _, .undef => none
  | .ptr i o, .ptr j p => if i = j ∧ o = p then (match descOf T t with | .pointer te => if (T.tt.get te).isSome then some true else none | _ => none) else none
  | x, y => aeq T 9 t x y
def isConst : Operand → Bool
  | .const _ => true
  | _ => false
def abinOp (T : Tab) (op : BinOp) (c : Bool) (t : TypeId) (x y : AV) : Option AV :=
  match x, y with
  | .int k a, .int k' b => match op with
    | .shl => ashift true k a b
    | .shr => ashift false k a b
    | op => if k = k' then abin op k a b else none
  | .str a, .str b => astr op a b
  | x, y => match op with
    | .eql => (aeqTop T c t x y).map .bool
    | .neq => (aeqTop T c t x y).map fun b => .bool (!b)
    | _ => none
def aunOp (op : UnOp) (x : AV) : Option AV :=
  match op, x with
  | .neg, .int k n => abin .sub k 0 n
  | .xor, .int k n => abin .xor k (if k.signed then -1 else k.max) n
  | .not, .bool b => some (.bool !b)
  | _, _ => none
def toBytes : List AV → Option (List UInt8)
  | [] => some []
  | .int .u8 n :: rest => (toBytes rest).map (UInt8.ofNat n.toNat :: ·)
  | _ => none
def isByte (T : Tab) (e : TypeId) : Bool := match descOf T e with | .int .u8 => true | _ => false
def abytes (h : AH) : AV → Option AV
  | .nilSlice => some (.str [])
  | .eslice => some (.str [])
  | .slice id off len _ _ => match cellsOf h id with
    | some cs => match sub cs off len with
      | some l => (toBytes l).map .str
      | none => none
    | none => none
  | _ => none
/-- The pointer as it is, to unsafe.Pointer and back. -/
def aunsafe (T : Tab) (h : AH) (t : TypeId) (id off : Nat) : Option AV :=
  match T.tt.get t, h.t.get id with
  | some it, some (.cells cs _ _) => if it.size ≠ 0 ∧ off < cs.length then some (.ptr id off) else none
  | _, _ => none
def afromUnsafe (T : Tab) (h : AH) (u : TypeId) (id off : Nat) : Option AV :=
  match T.tt.get u, h.t.get id with
  | some iu, some (.cells cs e _) => if Nat.beq u e = true ∧ iu.size ≠ 0 ∧ off % iu.size = 0 ∧ off + iu.size ≤ cs.length then some (.ptr id off) else none
  | _, _ => none
def aconvert (T : Tab) (h : AH) (src dst : TypeId) (x : AV) : Option AV :=
  match T.tt.get src with
  | none => none
  | some si => match descOf T dst, x with
    | .int k, .int _ n => some (.int k (k.wrap n))
    | .string, .str s => some (.str s)
    | .string, x => match si.desc with
      | .slice e => if isByte T e then abytes h x else none
      | _ => none
    | .unsafePointer, .ptr id off => match si.desc with
      | .pointer t => aunsafe T h t id off
      | _ => none
    | .pointer u, .ptr id off => match si.desc with
      | .unsafePointer => afromUnsafe T h u id off
      | _ => none
    | _, _ => none

def bound (y : Nat) : AV → Option Nat
  | .int _ i => if 0 ≤ i ∧ i ≤ y then some i.toNat else none
  | _ => none
def optBound (y d : Nat) : Option AV → Option Nat
  | some v => bound y v
  | none => some d
/-- low, high, max of a slice expression over len, cap. -/
def bounds (len cap : Nat) (low high max : Option AV) : Option (Nat × Nat × Nat) :=
  if max.isSome && high.isNone then none else
  match optBound cap cap max with
  | none => none
  | some m => match optBound m len high with
    | none => none
    | some h => match optBound h 0 low with
      | none => none
      | some l => some (l, h, m)
/-- A part of a row: exact capacity. -/
def cut (id off sz : Nat) : Option (Nat × Nat × Nat) → Option AV
  | some (l, h, m) => some (.slice id (if m = l then off else off + l * sz) (h - l) (m - l) true)
  | none => none
def aslice (T : Tab) (h : AH) (t : TypeId) (x : AV) (low high max : Option AV) : Option AV :=
  match descOf T t, x with
  | .array n e, .ptr id off => match T.tt.get e with
    | some ie => cut id off ie.size (bounds n n low high max)
    | none => none
  | .pointer arr, .ptr id off => match descOf T arr with
    | .array n e => match T.tt.get e with
      | some ie => cut id off ie.size (bounds n n low high max)
      | none => none
    | _ => none
  | .string, .str s => match max with
    | some _ => none
    | none => match bounds s.length s.length low high none with
      | some (l, hi, _) => some (.str ((s.take hi).drop l))
      | none => none
  | .slice e, .nilSlice => match T.tt.get e, bounds 0 0 low high max with
    | some _, some _ => some .nilSlice
    | _, _ => none
  | .slice e, .slice id off len cap true => match T.tt.get e with
    | some ie => cut id off ie.size (bounds len cap low high max)
    | none => none
  | .slice e, .slice id off len _ false => match T.tt.get e, ownOf h id with
    | some ie, some (cs, el) =>
      if ie.size = 0 ∨ szOf T el ≠ ie.size ∨ cs.length < off then none else
      let known := (cs.length - off) / ie.size
      match bounds len known low high max with
      | some (l, hi, m) => if known < hi then none else match max with
        | some _ => some (.slice id (if m = l then off else off + l * ie.size) (hi - l) (m - l) true)
        | none => if l = known ∧ 0 < l then some .eslice else some (.slice id (off + l * ie.size) (hi - l) 0 false)
      | none => none
    | _, _ => none
  | .slice e, .eslice => match T.tt.get e, max, bounds 0 0 low high none with
    | some _, none, some _ => some .eslice
    | _, _, _ => none
  | _, _ => none

def aindexAddr (T : Tab) (t : TypeId) (x ix : AV) : Option AV :=
  match ix, descOf T t, x with
  | .int _ i, .array len e, .ptr id off => match T.tt.get e with
    | some ie => if 0 ≤ i ∧ i < len then some (.ptr id (off + i.toNat * ie.size)) else none
    | none => none
  | .int _ i, .slice e, .slice id off len _ _ => match T.tt.get e with
    | some ie => if 0 ≤ i ∧ i < len then some (.ptr id (off + i.toNat * ie.size)) else none
    | none => none
  | .int _ i, .array len e, .glob g off => match T.tt.get e with
    | some ie => if 0 ≤ i ∧ i < len then some (.glob g (off + i.toNat * ie.size)) else none
    | none => none
  | _, _, _ => none
def aindex (T : Tab) (t : TypeId) (x ix : AV) : Option AV :=
  match ix, descOf T t, x with
  | .int _ i, .array len e, .agg cs => match T.tt.get e with
    | some ie => if 0 ≤ i ∧ i < len then apart T e cs (i.toNat * ie.size) else none
    | none => none
  | .int _ i, .string, .str s => if 0 ≤ i then (lget s i.toNat).map fun b => .int .u8 b.toNat else none
  | _, _, _ => none
def afieldAddr (T : Tab) (s : TypeId) (x : AV) (f : Nat) : Option AV :=
  match descOf T s, x with
  | .struct fs, .ptr id off => match lget fs.toList f with
    | some f => match T.tt.get f.type with
      | some i => if i.size = 0 then none else some (.ptr id (off + f.offset))
      | none => none
    | none => none
  | _, _ => none
def afield (T : Tab) (t : TypeId) (x : AV) (f : Nat) : Option AV :=
  match descOf T t, x with
  | .struct fs, .agg cs => match lget fs.toList f with
    | some f => apart T f.type cs f.offset
    | none => none
  | _, _ => none

/-! Maps -/
def isInt : AV → Bool
  | .int _ _ => true
  | _ => false
def sameInts : List AV → List AV → Bool
  | [], [] => true
  | .int k a :: x, .int k' b :: y => decide (k = k') && a == b && sameInts x y
  | _, _ => false
/-- Keys of whole numbers, strings, bools; arrays of whole numbers. -/
def samekey (T : Tab) (d : TypeId × TypeDesc) (k e : AV) : Option Bool := match d.2, k, e with
  | .int _, .int k a, .int k' b => if k = k' then some (a == b) else none
  | .string, .str a, .str b => some (a == b)
  | .bool, .bool a, .bool b => some (a == b)
  | .array _ _, .agg a, .agg b => match aeq T 9 d.1 (.agg a) (.agg b) with
    | some true => if sameInts a b then some true else none
    | r => r
  | _, _, _ => none
def findkey (T : Tab) (d : TypeId × TypeDesc) (k : AV) : List AEntry → Nat → Option (Option (Nat × AV))
  | [], _ => some none
  | e :: es, i =>
    match samekey T d k e.key with
    | some true => some (some (i, e.val))
    | some false => findkey T d k es (i + 1)
    | none => none
def entriesOf (h : AH) (r : Nat) : Option (List AEntry × Nat) :=
  match h.t.get r with
  | some (.map es c) => some (es, c)
  | _ => none
def plainKey : AV → Bool
  | .int .. | .str _ | .bool _ => true
  | _ => false
/-- The key's kind and the element's zero, of a map whose keys are plain. -/
def keyed (T : Tab) (t : TypeId) (k : AV) : Option ((TypeId × TypeDesc) × AV) :=
  match descOf T t with
  | .map kt et => match T.tt.get et with
    | some ei => if plainKey k then
        match descOf T kt with
        | .int q => some ((kt, .int q), ei.zeroV)
        | .string => some ((kt, .string), ei.zeroV)
        | .bool => some ((kt, .bool), ei.zeroV)
        | _ => none
      else match descOf T kt, k with
        | .array n e, .agg cs => match T.tt.get e with
          | some ie => match ie.desc with
            | .int _ => if (slots e ie.size n 0).all (fun s => (apart T s.1 cs s.2).isSome) then some ((kt, .array n e), ei.zeroV) else none
            | _ => none
          | none => none
        | _, _ => none
    | none => none
  | _ => none
def alookup (T : Tab) (h : AH) (t : TypeId) (m k : AV) (ok : Bool) : Option AV :=
  match keyed T t k with
  | none => none
  | some (kd, z) => match (match m with | .nilMap => some [] | .map r => (entriesOf h r).map (·.1) | _ => none) with
    | none => none
    | some es => match findkey T kd k es 0 with
      | some (some (_, v)) => some (if ok then .tuple [v, .bool true] else v)
      | some none => some (if ok then .tuple [z, .bool false] else z)
      | none => none
def modEntry (f : AEntry → AEntry) : List AEntry → Nat → List AEntry
  | [], _ => []
  | e :: es, 0 => f e :: es
  | e :: es, i + 1 => e :: modEntry f es i
def amapUpdate (T : Tab) (h : AH) (t : TypeId) (m k v : AV) : Option AH :=
  match m, keyed T t k with
  | .map r, some (kd, _) => match entriesOf h r with
    | some (es, c) => match findkey T kd k es 0 with
      | some (some (i, _)) => some (h.upd r (.map (modEntry (fun e => { e with key := k, val := v }) es i) c))
      | some none => some (h.upd r (.map (es ++ [{ key := k, val := v, born := c }]) (c + 1)))
      | none => none
    | none => none
  | _, _ => none
def amapEntry (T : Tab) (h : AH) (t : TypeId) (m k : AV) : Option (AV × AH) :=
  match m, keyed T t k with
  | .map r, some (kd, z) => match entriesOf h r with
    | some (es, c) => match findkey T kd k es 0 with
      | some (some (i, v)) => match lget es i with
        | some e => some (.tuple [v, .int .i64 e.born], h.upd r (.map (modEntry (fun e => { e with key := k }) es i) c))
        | none => none
      | some none => some (.tuple [z, .int .i64 c], h.upd r (.map (es ++ [{ key := k, val := z, born := c }]) (c + 1)))
      | none => none
    | none => none
  | _, _ => none
def findBorn (b : Int) : List AEntry → Nat → Option Nat
  | [], _ => none
  | e :: es, i => if (e.born : Int) == b then some i else findBorn b es (i + 1)
def aentryStore (h : AH) (m s v : AV) : Option AH :=
  match m, s with
  | .map r, .int _ b => match entriesOf h r with
    | some (es, c) => match findBorn b es 0 with
      | some i => some (h.upd r (.map (modEntry (fun e => { e with val := v }) es i) c))
      | none => none
    | none => none
  | _, _ => none
def adelete (T : Tab) (h : AH) (t : TypeId) (m k : AV) : Option AH :=
  match keyed T t k, m with
  | some _, .nilMap => some h
  | some (kd, _), .map r => match entriesOf h r with
    | some (es, c) => match findkey T kd k es 0 with
      | some (some (i, _)) => some (h.upd r (.map (es.eraseIdx i) c))
      | some none => some h
      | none => none
    | none => none
  | _, _ => none
def arange (T : Tab) (h : AH) (t : TypeId) (x : AV) : Option AObj :=
  match descOf T t, x with
  | .string, .str s => some (.siter s 0)
  | .map _ _, .nilMap => some (.miter none 0 [] 0)
  | .map _ _, .map r => match entriesOf h r with
    | some (_, c) => some (.miter (some r) c [] c)
    | none => none
  | _, _ => none
def anext (h : AH) (it : AV) (isString : Bool) : Option (AV × AH) :=
  match it with
  | .ptr r 0 => match h.t.get r, isString with
    | some (.siter s pos), true =>
      if pos < s.length then
        let d := Utf8.decode ⟨⟨s⟩⟩ pos
        some (.tuple [.bool true, .int .i64 pos, .int .i32 d.1], h.upd r (.siter s (pos + d.2)))
      else some (.tuple [.bool false], h)
    | some (.miter none _ _ _), false => some (.tuple [.bool false], h)
    | some (.miter (some m) since seen last), false => match entriesOf h m with
      | some (es, clock) =>
        if !seen.isEmpty && !es.isEmpty && es.all (fun e => last ≤ e.born) then none else
        match es.filter (fun e => !seen.contains e.born) with
        | [] => some (.tuple [.bool false], h)
        | [e] => if e.born < since then some (.tuple [.bool true, e.key, e.val], h.upd r (.miter (some m) since (seen ++ [e.born]) clock)) else none
        | _ => none
      | none => none
    | _, _ => none
  | _ => none

/-! Slices -/
def alen (T : Tab) (h : AH) (t : TypeId) (x : AV) : Option AV :=
  match descOf T t, x with
  | .string, .str s => some (.int .i64 s.length)
  | .array n _, _ => some (.int .i64 n)
  | .pointer arr, _ => match descOf T arr with | .array n _ => some (.int .i64 n) | _ => none
  | .slice _, .slice _ _ n _ _ => some (.int .i64 n)
  | .slice _, .nilSlice => some (.int .i64 0)
  | .slice _, .eslice => some (.int .i64 0)
  | .map _ _, .nilMap => some (.int .i64 0)
  | .map _ _, .map r => match entriesOf h r with
    | some (es, _) => some (.int .i64 es.length)
    | none => none
  | _, _ => none
def alenOf : AV → Option Nat
  | .slice _ _ n _ _ => some n
  | .nilSlice => some 0
  | .eslice => some 0
  | .str s => some s.length
  | _ => none
def afirst (h : AH) (size n : Nat) : AV → Option (List AV)
  | .slice id off _ _ _ => match cellsOf h id with
    | some cs => sub cs off (n * size)
    | none => none
  | .nilSlice => if n = 0 then some [] else none
  | .eslice => if n = 0 then some [] else none
  | .str s => if n ≤ s.length then some ((s.take n).map fun b => .int .u8 b.toNat) else none
  | _ => none
def maxBytes : Nat := 2 ^ 46
/-- So many zeroes behind no row. -/
def appendZ (T : Tab) (h : AH) (e : TypeId) (s x : AV) : Option (AV × AH) :=
  match s, x, T.tt.get e with
  | .nilSlice, .int .i64 n, some ei =>
    if 0 < n ∧ n ≤ 2 ^ 40 ∧ n.toNat * ei.bytes ≤ maxBytes ∧ 0 < ei.size ∧ ei.zero.length = ei.size then
      some (.slice h.next 0 n.toNat 0 false, (h.new (.cells (rep n.toNat ei.zero) e false)).2)
    else none
  | _, _, _ => none
def aappend (T : Tab) (h : AH) (t xt : TypeId) (s x : AV) : Option (AV × AH) :=
  match descOf T t, descOf T xt with
  | _, .invalid => none
  | .slice e, .int _ => appendZ T h e s x
  | _, .int _ => none
  | .slice e, _ => match T.tt.get e, alenOf x with
    | some ei, some n => match afirst h ei.size n x with
      | none => none
      | some new =>
        if new.length ≠ n * ei.size then none else
        if n = 0 then (match s with
          | .nilSlice => some (s, h)
          | .eslice => some (s, h)
          | .slice _ _ len cap true => if len ≤ cap then some (s, h) else none
          | .slice id off len _ false => match ownOf h id with
            | some (cs, el) => if 0 < ei.size ∧ szOf T el = ei.size ∧ off + len * ei.size ≤ cs.length then some (s, h) else none
            | none => none
          | _ => none)
        else match s with
        | .nilSlice =>
          if n * ei.bytes ≤ maxBytes ∧ n ≤ 2 ^ 40 ∧ 0 < ei.size ∧ ei.zero.length = ei.size then
            some (.slice h.next 0 n 0 false, (h.new (.cells new e false)).2)
          else none
        | .slice id off len cap true =>
          if len + n ≤ cap then
            match ownOf h id with
            | some (cs, el) => (put? h id cs el (off + len * ei.size) new).map fun h => (.slice id off (len + n) cap true, h)
            | none => none
          else if (len + n) * ei.bytes ≤ maxBytes ∧ len + n ≤ 2 ^ 40 ∧ 0 < ei.size ∧ ei.zero.length = ei.size then
            match cellsOf h id with
            | some cs => match sub cs off (len * ei.size) with
              | some old => some (.slice h.next 0 (len + n) 0 false, (h.new (.cells (old ++ new) e false)).2)
              | none => none
            | none => none
          else none
        | .slice id off len _ false => match ownOf h id with
          | some (cs, el) =>
            if szOf T el ≠ ei.size ∨ ei.size = 0 ∨ el ≠ e ∨ off % ei.size ≠ 0 then none
            else if off + (len + n) * ei.size ≤ cs.length then
              (put? h id cs el (off + len * ei.size) new).map fun h => (.slice id off (len + n) 0 false, h)
            else if (len + n) * ei.bytes ≤ maxBytes ∧ len + n ≤ 2 ^ 40 ∧ ei.zero.length = ei.size ∧ new.all scalar then
              match sub cs off (len * ei.size) with
              | some old => some (.slice h.next 0 (len + n) 0 false, ((h.upd id .dead).new (.cells (old ++ new) e false)).2)
              | none => none
            else none
          | none => none
        | _ => none
    | _, _ => none
  | _, _ => none
def acopy (T : Tab) (h : AH) (t : TypeId) (d s : AV) : Option (AV × AH) :=
  match descOf T t with
  | .slice e => match T.tt.get e, alenOf s, alenOf d with
    | some ei, some m, some dl => match afirst h ei.size (Nat.min m dl) s with
      | some new => if new.length ≠ Nat.min m dl * ei.size then none else match d with
        | .slice id off _ _ _ =>
          if new = [] then some (.int .i64 (Nat.min m dl), h) else
          match ownOf h id with
          | some (cs, el) => (put? h id cs el off new).map fun h => (.int .i64 (Nat.min m dl), h)
          | none => none
        | .nilSlice => some (.int .i64 (Nat.min m dl), h)
        | .eslice => some (.int .i64 (Nat.min m dl), h)
        | _ => none
      | none => none
    | _, _, _ => none
  | _ => none
def aclear (T : Tab) (h : AH) (t : TypeId) (x : AV) : Option AH :=
  match descOf T t, x with
  | .map _ _, .nilMap => some h
  | .map _ _, .map r => match entriesOf h r with
    | some (_, c) => some (h.upd r (.map [] c))
    | none => none
  | .slice _, .nilSlice => some h
  | .slice _, .eslice => some h
  | .slice e, .slice id off len _ _ => match T.tt.get e, ownOf h id with
    | some ei, some (cs, el) => if ei.zero.length = ei.size then put? h id cs el off (rep len ei.zero) else none
    | _, _ => none
  | _, _ => none

/-- A row's capacity, where it is known. -/
def acap (T : Tab) (t : TypeId) (x : AV) : Option AV :=
  match descOf T t, x with
  | .slice _, .slice _ _ _ c true => some (.int .i64 c)
  | .slice _, .nilSlice => some (.int .i64 0)
  | _, _ => none

/-! ### Three kinds of operations -/
inductive Kind where
  | quiet | fresh | eff
  deriving DecidableEq
def kindOf (T : Tab) : Op → Kind
  | .alloc _ | .box .. | .buildSlice .. | .makeMap .. | .makeSlice .. => .fresh
  | .convert _ d _ => match descOf T d with | .slice _ => .fresh | _ => .quiet
  | .store .. | .mapUpdate .. | .insert .. | .mapEntry .. | .entryStore .. | .next .. | .range .. => .eff
  | .call c => match c.callee with
    | .builtin .len | .builtin .min | .builtin .max | .builtin .unsafeSliceData | .builtin .cap => .quiet
    | _ => .eff
  | _ => .quiet

def minmax (max : Bool) : List AV → AV → Option AV
  | [], v => some v
  | .int _ y :: rest, .int k x => minmax max rest (.int k (if max then (if x < y then y else x) else (if y < x then y else x)))
  | _, _ => none
def aminmax (max : Bool) : List AV → Option AV
  | .int k x :: rest => minmax max rest (.int k x)
  | _ => none
def aextract : AV → Nat → Option AV
  | .tuple vs, i => lget vs i
  | _, _ => none
def allFields (T : Tab) (fs : List Field) : Bool := fs.all fun f => (T.tt.get f.type).isSome
def placeIn (T : Tab) (fs : List Field) (k : Nat) : Option (Nat × Nat) :=
  match lget fs k with
  | some f => (T.tt.get f.type).map fun j => (f.offset, j.size)
  | none => none
def abuild (T : Tab) (t : TypeId) (parts : List (Nat × AV)) : Option AV :=
  match T.tt.get t with
  | some i => match i.desc with
    | .struct fs => if !allFields T fs.toList then none else (afill (placeIn T fs.toList) i.zero parts).map .agg
    | .array _ e => match T.tt.get e with
      | some ei => (afill (fun k => some (k * ei.size, ei.size)) i.zero parts).map .agg
      | none => none
    | _ => none
  | none => none

def asliceData : AV → Option AV
  | .nilSlice => some .nilPtr
  | .slice id off len cap ex => if (ex = true ∧ cap ≠ 0) ∨ (ex = false ∧ len ≠ 0) then some (.ptr id off) else none
  | _ => none
/-- So many bytes at a pointer; they are frozen. -/
def aunsafeString (T : Tab) (h : AH) (pt : TypeId) (p n : AV) : Option (AV × AH) :=
  match n, p with
  | .int .i64 0, .nilPtr => some (.str [], h)
  | .int .i64 0, .ptr _ _ => some (.str [], h)
  | .int _ n, .ptr id off => match descOf T pt, ownOf h id with
    | .pointer e, some (cs, e') => if Nat.beq e e' = true ∧ szOf T e = 1 ∧ 0 < n ∧ n ≤ 9223372036854775807 then
        match sub cs off n.toNat with
        | some l => match toBytes l with
          | some bs => some (.str bs, h.upd id (.cells cs e' true))
          | none => none
        | none => none
      else none
    | _, _ => none
  | _, _ => none
def aquiet (T : Tab) (env : Env) (h : AH) : Op → Option AV
  | .move x => some (aev env x)
  | .assign x => some (aev env x)
  | .pick c a b => match aev env c with
    | .bool t => some (if t then aev env a else aev env b)
    | _ => none
  | .build t ps => abuild T t (ps.toList.map fun p => (p.1, aev env p.2))
  | .load t a => aload T h t (aev env a)
  | .nilCheck x => match aev env x with
    | .ptr i o => some (.ptr i o)
    | .func f cs => some (.func f cs)
    | .meth f cs => some (.meth f cs)
    | .iface t v => some (.iface t v)
    | _ => none
  | .binOp op t x y _ => abinOp T op (isConst x || isConst y) t (aev env x) (aev env y)
  | .unOp op _ x => aunOp op (aev env x)
  | .convert s d x => aconvert T h s d (aev env x)
  | .makeInterface t x => match T.tt.get t with
    | some i => match i.desc with | .interface _ => none | _ => some (.iface t (aev env x))
    | none => none
  | .makeFunc (.func f) first cap => if first.toList.length = 0 then some (.func f (cap.toList.map (aev env))) else if cap.toList.length = 0 then some (.meth f (first.toList.map (aev env))) else none
  | .slice t x lo hi mx => aslice T h t (aev env x) (lo.map (aev env)) (hi.map (aev env)) (mx.map (aev env))
  | .fieldAddr s x f => afieldAddr T s (aev env x) f
  | .field t x f => afield T t (aev env x) f
  | .indexAddr t x i => aindexAddr T t (aev env x) (aev env i)
  | .index t x i => aindex T t (aev env x) (aev env i)
  | .lookup t x i ok => alookup T h t (aev env x) (aev env i) ok
  | .extract t i => aextract (aev env t) i
  | .call c => match c.callee with
    | .builtin .len => match c.argTypes.toList, c.args.toList with
      | t :: _, [x] => alen T h t (aev env x)
      | _, _ => none
    | .builtin .min => aminmax false (c.args.toList.map (aev env))
    | .builtin .max => aminmax true (c.args.toList.map (aev env))
    | .builtin .unsafeSliceData => match c.args.toList with
      | [x] => asliceData (aev env x)
      | _ => none
    | .builtin .cap => match c.argTypes.toList, c.args.toList with
      | t :: _, [x] => acap T t (aev env x)
      | _, _ => none
    | _ => none
  | _ => none

inductive Mk where
  | ptr
  | slice (len cap : Nat) (ex : Bool)
  | map
def Mk.av : Mk → Nat → AV
  | .ptr, id => .ptr id 0
  | .slice l c ex, id => .slice id 0 l c ex
  | .map, id => .map id
def amakeSlice (T : Tab) (t : TypeId) (l c : AV) : Option (AObj × Mk) :=
  match descOf T t, l, c with
  | .slice e, .int _ l, .int _ c => match T.tt.get e with
    | some ei =>
      if 0 ≤ l ∧ l ≤ c ∧ c ≤ 2 ^ 40 ∧ c * ei.bytes ≤ (maxBytes : Int) ∧ ei.zero.length = ei.size then
        some (.cells (rep c.toNat ei.zero) e false, .slice l.toNat c.toNat true)
      else none
    | none => none
  | _, _, _ => none
def abuildSlice (T : Tab) (t : TypeId) (len : Nat) (parts : List (Nat × AV)) : Option (AObj × Mk) :=
  match descOf T t with
  | .slice e => match T.tt.get e with
    | some ei =>
      if len * ei.size ≤ 2 ^ 24 ∧ ei.zero.length = ei.size then
        match afill (fun i => some (i * ei.size, ei.size)) (rep len ei.zero) parts with
        | some cs => some (.cells cs e false, .slice len len true)
        | none => none
      else none
    | none => none
  | _ => none
def afresh (T : Tab) (env : Env) : Op → Option (AObj × Mk)
  | .alloc e => match T.tt.get e with
    | some i => some (.cells i.zero e false, .ptr)
    | none => none
  | .box e x => match T.tt.get e with
    | some _ => if known (aev env x) then some (.cells (aev env x).cells e false, .ptr) else none
    | none => none
  | .buildSlice t n ps => abuildSlice T t n (ps.toList.map fun p => (p.1, aev env p.2))
  | .makeMap t none => match T.tt.get t with
    | some _ => some (.map [] 0, .map)
    | none => none
  | .makeMap t (some x) => match descOf T t, aev env x with
    | .map _ _, .int _ _ => some (.map [] 0, .map)
    | _, _ => none
  | .makeSlice t l c => amakeSlice T t (aev env l) (aev env c)
  | .convert sr d x => match T.tt.get sr, descOf T d, aev env x with
    | some _, .slice e, .str s => if isByte T e ∧ szOf T e = 1 then some (.cells (s.map fun b => .int .u8 b.toNat) e false, .slice s.length 0 false) else none
    | _, _, _ => none
  | _ => none

inductive Res where
  | val (v : AV) (h : AH)
  | enter (f : FuncId) (args : List AV)
def rh (x : Option AH) : Option Res := x.map fun h => .val (.tuple []) h
def rb (x : Option (AV × AH)) : Option Res := x.map fun p => .val p.1 p.2
def aeff (T : Tab) (env : Env) (h : AH) : Op → Option Res
  | .store t a x => rh (astore T h t (aev env a) (aev env x))
  | .mapUpdate t m k x => rh (amapUpdate T h t (aev env m) (aev env k) (aev env x))
  | .insert t m k x => rh (amapUpdate T h t (aev env m) (aev env k) (aev env x))
  | .mapEntry t m k => rb (amapEntry T h t (aev env m) (aev env k))
  | .entryStore _ m s x => rh (aentryStore h (aev env m) (aev env s) (aev env x))
  | .next it isString => rb (anext h (aev env it) isString)
  | .range t x => rb ((arange T h t (aev env x)).map fun o => (.ptr h.next 0, (h.new o).2))
  | .call c => match c.callee with
    | .builtin .append => match c.argTypes.toList, c.args.toList with
      | t :: xt :: _, [s, x] => rb (aappend T h t xt (aev env s) (aev env x))
      | _, _ => none
    | .builtin .copy => match c.argTypes.toList, c.args.toList with
      | t :: _, [s, x] => rb (acopy T h t (aev env s) (aev env x))
      | _, _ => none
    | .builtin .delete => match c.argTypes.toList, c.args.toList with
      | t :: _, [m, k] => rh (adelete T h t (aev env m) (aev env k))
      | _, _ => none
    | .builtin .clear => match c.argTypes.toList, c.args.toList with
      | t :: _, [x] => rh (aclear T h t (aev env x))
      | _, _ => none
    | .builtin .unsafeString => match c.argTypes.toList, c.args.toList with
      | [t, _], [p, n] => rb (aunsafeString T h t (aev env p) (aev env n))
      | _, _ => none
    | .value f => match aev env f with
      | .func g cap => match T.xt.get g with
        | none => some (.enter g (c.args.toList.map (aev env) ++ cap))
        | some _ => match c.args.toList, cap with
          | [x], [] => some (.val (aev env x) h)
          | _, _ => none
      | .meth g first => match T.xt.get g with
        | none => some (.enter g (first ++ c.args.toList.map (aev env)))
        | some _ => none
      | _ => none
    | _ => none
  | _ => none

/-! ### Regions that draw their order -/
def edges (o : Oper) : List Nat := (o.after.toList.filter (Region.binds .any)).map (·.on)
def looks (ops : List Oper) (o : Oper) : List Tmp :=
  (o.op.operands.toList.filterMap fun | .tmp t => some t | _ => none) ++
  (match o.guard with | some (g, _) => ((lget ops g).bind (·.dst)).toList | none => [])
structure PStep where
  idx : Nat
  eff : Bool
  lo : Nat
  hi : Nat
  deriving Inhabited
def PStep.post (s : PStep) : Nat := if s.eff then s.lo + 1 else s.lo
def PStep.cap (s : PStep) : Nat := if s.eff then s.lo else s.hi
def pickStep (ready : Nat × Oper → Bool) : List (Nat × Oper) → Option ((Nat × Oper) × List (Nat × Oper))
  | [] => none
  | x :: xs => if ready x then some (x, xs) else (pickStep ready xs).map fun (y, ys) => (y, x :: ys)
def order (T : Tab) : Nat → List (Nat × Oper) → List Nat → Nat → List (Nat × Oper × Bool × Nat)
  | 0, _, _, _ => []
  | k + 1, left, done, ph =>
    let free (x : Nat × Oper) : Bool := (edges x.2).all done.contains
    match pickStep (fun x => kindOf T x.2.op ≠ .eff && free x) left with
    | some ((i, o), rest) => (i, o, false, ph) :: order T k rest (i :: done) ph
    | none => match pickStep free left with
      | some ((i, o), rest) => (i, o, true, ph) :: order T k rest (i :: done) (ph + 1)
      | none => []
/-- The steps with the last phase at which each may come up; beside them each one's edges and bound. -/
def bounded (m : Nat) : List (Nat × Oper × Bool × Nat) → List PStep × List (List Nat × Nat)
  | [] => ([], [])
  | (i, o, e, lo) :: rest =>
    let (ss, bs) := bounded m rest
    let hi := bs.foldl (fun a b => if b.1.contains i then Nat.min a b.2 else a) m
    let s : PStep := ⟨i, e, lo, hi⟩
    (s :: ss, (edges o, s.cap) :: bs)
def plan (T : Tab) (ops : List Oper) : List PStep :=
  let l := order T ops.length (ops.zipIdx.map fun (o, i) => (i, o)) [] 0
  let m := (l.filter fun x => x.2.2.1).length
  (bounded m l).1
def phases (prev : List PStep) : Nat := (prev.filter (·.eff)).length
def okStep (T : Tab) (ops : List Oper) (m : Nat) (prev : List PStep) (s : PStep) (rest : List PStep) : Bool :=
  match lget ops s.idx with
  | none => false
  | some o =>
    (edges o).all (fun e => prev.any (·.idx == e)) && !(prev.any (·.idx == s.idx)) && (s.eff == decide (kindOf T o.op = .eff)) &&
    (s.lo == phases prev) && (s.lo == 0 || (edges o).any fun e => prev.any fun r => r.idx == e && r.post == s.lo) &&
    (match o.dst with
     | none => true
     | some d => prev.all fun r => ((lget ops r.idx).bind (·.dst)) != some d) &&
    ((looks ops o).all fun t => ops.zipIdx.all fun (p, i) => p.dst != some t || (edges o).contains i || (edges p).contains s.idx) &&
    (match o.guard with
     | none => true
     | some (g, _) => ((lget ops g).bind (·.dst)).isSome) &&
    (s.eff || s.hi == m || rest.any fun u => u.cap == s.hi && ((lget ops u.idx).map fun p => (edges p).contains s.idx).getD false) &&
    (match o.op with | .select .. => false | _ => true)
def okFrom (T : Tab) (ops : List Oper) (m : Nat) (prev : List PStep) : List PStep → Bool
  | [] => true
  | s :: rest => okStep T ops m prev s rest && okFrom T ops m (prev ++ [s]) rest
def planOk (T : Tab) (ops : List Oper) (p : List PStep) : Bool := p.length == ops.length && (List.range ops.length).all (fun i => p.any (·.idx == i)) && okFrom T ops (phases p) [] p

/-! ### Equality of values, to look a second time -/
mutual
def veq : AV → AV → Bool
  | .bool a, .bool b => a == b
  | .int k a, .int k' b => decide (k = k') && a == b
  | .str a, .str b => a == b
  | .ptr i o, .ptr j p => i == j && o == p
  | .glob i o, .glob j p => i == j && o == p
  | .nilPtr, .nilPtr => true
  | .slice i o l c e, .slice j p m d f => i == j && o == p && l == m && c == d && e == f
  | .nilSlice, .nilSlice => true
  | .eslice, .eslice => true
  | .map r, .map q => r == q
  | .nilMap, .nilMap => true
  | .func f c, .func g d => f == g && veqs c d
  | .meth f c, .meth g d => f == g && veqs c d
  | .nilFunc, .nilFunc => true
  | .iface t v, .iface u w => t == u && veq v w
  | .nilIface, .nilIface => true
  | .agg a, .agg b => veqs a b
  | .tuple a, .tuple b => veqs a b
  | _, _ => false
def veqs : List AV → List AV → Bool
  | [], [] => true
  | a :: x, b :: y => veq a b && veqs x y
  | _, _ => false
end
def oeq : AObj → AObj → Bool
  | .cells a e r, .cells b f q => veqs a b && e == f && r == q
  | .map [] c, .map [] d => c == d
  | _, _ => false

/-! ### Control -/
inductive AExit where
  | normal | ret | exit (id : Nat)
  deriving Inhabited

def guardOk (env : Env) (ops : List Oper) (o : Oper) : Option Bool :=
  match o.guard with
  | none => some true
  | some (j, want) => match (lget ops j).bind (·.dst) with
    | some d => match Env.at env d with
      | .bool b => some (b == want)
      | .undef => none
      | _ => some false
    | none => none
def putDst (n : Nat) (env : Env) (dst : Option Tmp) (v : AV) : Option Env :=
  match dst with
  | none => some env
  | some d => if d < n then some (env.put d v) else none
def aresults (T : Tab) (env : Env) (h : AH) : List ResultVar → Option (List AV)
  | [] => some []
  | .tmp t :: rs => (aresults T env h rs).map (Env.at env t :: ·)
  | .cell a t :: rs => match aload T h t (Env.at env a) with
    | some v => (aresults T env h rs).map (v :: ·)
    | none => none
def packRes : List AV → AV
  | [v] => v
  | vs => .tuple vs
def bindArgs : Env → Nat → List AV → Env
  | e, _, [] => e
  | e, i, v :: vs => bindArgs (e.put i v) (i + 1) vs

/-- What a step of a region found and left. -/
structure Rec where
  s : PStep
  o : Oper
  env : Env
  h : AH
  go : Bool
  v : AV
  h' : AH
/-- Look once more, behind another step that acts. -/
def again (T : Tab) (r : Rec) (h : AH) : Bool :=
  !r.go || match kindOf T r.o.op with
  | .quiet => match aquiet T r.env h r.o.op with | some v => veq r.v v | none => false
  | .fresh => match afresh T r.env r.o.op, h.t.get r.h.next with | some (o, _), some o' => oeq o o' | _, _ => false
  | .eff => true
def recheck (T : Tab) : List Rec → Bool
  | [] => true
  | r :: rest => (r.s.eff || ((rest.filter (·.s.eff)).take (r.s.hi - r.s.lo)).all fun e => again T r e.h') && recheck T rest

abbrev Oracle := FuncId → List AV → AH → Option (AV × AH)
mutual
def aop (T : Tab) (X : Oracle) : Nat → Env → AH → Op → Option (AV × AH)
  | 0, _, _, _ => none
  | k + 1, env, h, o => match kindOf T o with
    | .quiet => match aquiet T env h o with
      | some v => some (v, h)
      | none => none
    | .fresh => match afresh T env o, h.t.get h.next with
      | some (b, mk), none => some (mk.av h.next, (h.new b).2)
      | _, _ => none
    | .eff => match aeff T env h o with
      | some (.val v h) => some (v, h)
      | some (.enter f args) => acall T X k f args h
      | none => none
/-- In the order of the text. -/
def aops (T : Tab) (X : Oracle) : Nat → Nat → List Oper → List Oper → Env → AH → Option (Env × AH)
  | 0, _, _, _, _, _ => none
  | _ + 1, _, _, [], env, h => some (env, h)
  | k + 1, n, ops, o :: rest, env, h =>
    match guardOk env ops o with
    | none => none
    | some false => match putDst n env o.dst (.tuple []) with
      | some env => aops T X k n ops rest env h
      | none => none
    | some true => match aop T X k env h o.op with
      | some (v, h) => match putDst n env o.dst v with
        | some env => aops T X k n ops rest env h
        | none => none
      | none => none
/-- In the plan's order, all that was found. -/
def arun (T : Tab) (X : Oracle) : Nat → Nat → List Oper → List PStep → Env → AH → Option (List Rec × Env × AH)
  | 0, _, _, _, _, _ => none
  | _ + 1, _, _, [], env, h => some ([], env, h)
  | k + 1, n, ops, s :: rest, env, h =>
    match lget ops s.idx with
    | none => none
    | some o => match guardOk env ops o with
      | none => none
      | some false => match putDst n env o.dst (.tuple []) with
        | some env' => match arun T X k n ops rest env' h with
          | some (rs, e) => some (⟨s, o, env, h, false, .tuple [], h⟩ :: rs, e)
          | none => none
        | none => none
      | some true => match aop T X k env h o.op with
        | some (v, h') => if h'.next < h.next then none else match putDst n env o.dst v with
          | some env' => match arun T X k n ops rest env' h' with
            | some (rs, e) => some (⟨s, o, env, h, true, v, h'⟩ :: rs, e)
            | none => none
          | none => none
        | none => none
def acall (T : Tab) (X : Oracle) : Nat → FuncId → List AV → AH → Option (AV × AH)
  | 0, _, _, _ => none
  | k + 1, f, args, h =>
    match T.ft.get f with
    | none => none
    | some fn => match X f args h with
      | some r => some r
      | none =>
        if args.length ≤ fn.ntmps then
          match acode T X k fn.ntmps fn.body (bindArgs .leaf 0 args) h with
          | some (.normal, env, h) => (aresults T env h fn.results).map fun vs => (packRes vs, h)
          | some (.ret, env, h) => (aresults T env h fn.results).map fun vs => (packRes vs, h)
          | _ => none
        else none
def acode (T : Tab) (X : Oracle) : Nat → Nat → Code → Env → AH → Option (AExit × Env × AH)
  | 0, _, _, _, _ => none
  | k + 1, n, c, env, h => match c with
    | .skip => some (.normal, env, h)
    | .label _ => some (.normal, env, h)
    | .region _ ops false => match aops T X k n ops.toList ops.toList env h with
      | some (env, h) => some (.normal, env, h)
      | none => none
    | .region _ ops true =>
      if planOk T ops.toList (plan T ops.toList) then
        match arun T X k n ops.toList (plan T ops.toList) env h with
        | some (rs, env, h) => if recheck T rs then some (.normal, env, h) else none
        | none => none
      else none
    | .seq a b => match acode T X k n a env h with
      | some (.normal, env, h) => acode T X k n b env h
      | r => r
    | .cond c a b => match aev env c with
      | .bool t => acode T X k n (if t then a else b) env h
      | _ => none
    | .block id b => match acode T X k n b env h with
      | some (.exit i, env, h) => if i = id then some (.normal, env, h) else some (.exit i, env, h)
      | r => r
    | .loop b => match acode T X k n b env h with
      | some (.normal, env, h) => acode T X k n (.loop b) env h
      | r => r
    | .exit id => some (.exit id, env, h)
    | .ret => some (.ret, env, h)
    | .scope b => acode T X k n b env h
    | _ => none
end
end Go.AI
