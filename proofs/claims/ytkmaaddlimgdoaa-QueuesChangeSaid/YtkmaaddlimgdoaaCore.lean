/-
  An executable abstract machine for the model's code: values without capacities that the run draws, a heap whose blocks have names of their own. No program in sight.
-/
import Derived.Calls
import Derived.LoopN
import Derived.Scope
set_option linter.unusedVariables false
set_option linter.unusedSimpArgs false
set_option linter.unusedSectionVars false
namespace Go.V

inductive Val where
  | undef
  | bool (b : Bool)
  | int (k : IntKind) (n : Int)
  | str (s : List UInt8)
  | nilp
  | ptr (b o : Nat)
  | nils
  | slice (b o len cap : Nat) (ls : Nat)
  | nilm
  | map (b : Nat)
  | nilf
  | func (fn : Fn) (first captured : List Val)
  | nili
  | iface (t : TypeId) (v : Val)
  | agg (l : List Val)
  | tup (l : List Val)
  deriving Inhabited

inductive Blk where
  | cells (c : List Val)
  | map (es : List (Val × Val))
  deriving Inhabited

inductive Tr where
  | leaf
  | node (l : Tr) (v : Option Blk) (r : Tr)

def Tr.get : Tr → Nat → Option Blk
  | .leaf, _ => none
  | .node l v r, k => if k = 0 then v else if k % 2 = 0 then r.get (k / 2 - 1) else l.get (k / 2)

def Tr.set : Nat → Tr → Nat → Option Blk → Tr
  | 0, t, _, _ => t
  | f + 1, .leaf, k, x => if k = 0 then .node .leaf x .leaf else if k % 2 = 0 then .node .leaf none (Tr.set f .leaf (k / 2 - 1) x) else .node (Tr.set f .leaf (k / 2) x) none .leaf
  | f + 1, .node l v r, k, x => if k = 0 then .node l x r else if k % 2 = 0 then .node l v (Tr.set f r (k / 2 - 1) x) else .node (Tr.set f l (k / 2) x) v r

structure Heap where
  next : Nat
  t : Tr
  hid : List (Nat × Nat)
  floor : Nat
  base : Nat

def Heap.hidden (h : Heap) (b : Nat) : Bool := h.hid.any fun r => r.1 ≤ b && b < r.2

def Heap.get (h : Heap) (b : Nat) : Option Blk := if h.hidden b then none else h.t.get b

def Heap.put (h : Heap) (b : Nat) (x : Option Blk) : Heap := { h with t := h.t.set (b + 1) b x }

/-- A new block. -/
def Heap.new (h : Heap) (x : Blk) : Nat × Heap := (h.next, { h.put h.next (some x) with next := h.next + 1 })

/-- 'n' cells of a block from 'o' on. -/
def Heap.load (h : Heap) (b o n : Nat) : Option (List Val) :=
  match h.get b with
  | some (.cells c) => if o + n ≤ c.length then some ((c.drop o).take n) else none
  | _ => none

def Heap.isCells (h : Heap) (b : Nat) : Bool :=
  match h.get b with
  | some (.cells _) => true
  | _ => false

def splice (c : List Val) (o : Nat) (vs : List Val) : List Val := c.take o ++ vs ++ c.drop (o + vs.length)

def Val.one : Val → Bool
  | .agg _ | .tup _ | .undef => false
  | _ => true

def Heap.store (h : Heap) (b o : Nat) (vs : List Val) : Option Heap :=
  if h.floor ≤ b then
    match h.get b with
    | some (.cells c) => if o + vs.length ≤ c.length ∧ vs.all Val.one = true then some (h.put b (some (.cells (splice c o vs)))) else none
    | _ => none
  else none

inductive Opd where
  | t (n : Nat)
  | c (v : Val)
  deriving Inhabited

def ev (fr : List Val) : Opd → Val
  | .t n => fr.getD n .undef
  | .c v => v

/-- The cells of a value that is stored or put together. -/
def Val.cells : Val → List Val
  | .agg l => l
  | v => [v]

inductive Ext where
  | compareString
  | indexByteString
  | countString
  | indexByte
  | count
  | overlaps
  deriving DecidableEq, Inhabited

/-- What is compared at a place. -/
inductive Ek where
  | i
  | b
  | s
  deriving DecidableEq, Inhabited

/-- Types that have a nil. -/
inductive Nk where
  | p
  | s
  | f
  | m
  | i
  deriving DecidableEq, Inhabited

/-- How values of a type are compared: are they structs or arrays, and at which places. -/
structure Eqs where
  agg : Bool
  offs : List (Nat × Ek)
  deriving Inhabited

inductive VOp where
  | mov (x : Opd)
  | pick (c a b : Opd)
  | alloc (zero : List Val)
  | box (x : Opd) (n : Nat)
  | build (zero : List Val) (parts : List (Nat × Nat × Opd))
  | bslice (len : Nat) (zero : List Val) (parts : List (Nat × Nat × Opd))
  | load (agg : Bool) (n : Nat) (a : Opd)
  | store (n : Nat) (a v : Opd)
  | nilCheck (x : Opd)
  | arith (op : BinOp) (x y : Opd)
  | eql (neg : Bool) (es : Eqs) (x y : Opd)
  | eqnil (neg : Bool) (k : Nk) (x y : Opd)
  | un (op : UnOp) (x : Opd)
  | convInt (k : IntKind) (x : Opd)
  | convSame (x : Opd)
  | b2s (x : Opd)
  | s2b (x : Opd)
  | mkiface (t : TypeId) (x : Opd)
  | mkfunc (fn : Fn) (first captured : List Opd)
  | mkslice (size bytes : Nat) (zero : List Val) (l c : Opd)
  | sliceStr (x : Opd) (lo hi : Option Opd)
  | slice (size : Nat) (x : Opd) (lo hi mx : Option Opd)
  | sliceArr (n size : Nat) (x : Opd) (lo hi mx : Option Opd)
  | faddr (off : Nat) (x : Opd)
  | field (agg : Bool) (off n : Nat) (x : Opd)
  | iaddr (size : Nat) (x i : Opd)
  | iaddrArr (len size : Nat) (x i : Opd)
  | index (x i : Opd)
  | indexArr (len : Nat) (agg : Bool) (size : Nat) (x i : Opd)
  | ext (x : Opd) (i : Nat)
  | call (f : FuncId) (args : List Opd)
  | callv (x : Opd) (args : List Opd)
  | invoke (recv : Opd) (name : String) (args : List Opd)
  | outer (e : Ext) (args : List Opd)
  | lenOf (x : Opd)
  | lenStr (x : Opd)
  | lenMap (x : Opd)
  | lenConst (n : Nat)
  | capOf (x : Opd)
  | append (size bytes : Nat) (x y : Opd)
  | appendZ (size bytes : Nat) (zero : List Val) (x y : Opd)
  | copy (size : Nat) (x y : Opd)
  | minmax (isMax : Bool) (l : List Opd)
  | clear (zero : List Val) (x : Opd)
  | mkmap
  | lookup (es : Eqs) (zero : Val) (ok : Bool) (x k : Opd)
  | mapUpdate (es : Eqs) (m k v : Opd)
  | bad
  deriving Inhabited

structure VOper where
  dst : Option Nat
  op : VOp
  guard : Option (Nat × Bool)
  full : Bool
  hide : List Nat
  deriving Inhabited

inductive VC where
  | skip
  | region (ops : List VOper)
  | draw (ops : List VOper)
  | seq (a b : VC)
  | cond (c : Opd) (a b : VC)
  | block (id : Nat) (a : VC)
  | loop (a : VC)
  | exit (id : Nat)
  | ret
  deriving Inhabited

inductive Ex where
  | normal
  | exit (id : Nat)
  | ret
  deriving DecidableEq, Inhabited

structure VFn where
  ntmps : Nat
  results : List (Nat × Option (Bool × Nat))
  body : VC
  deriving Inhabited

def toByte : UInt8 → Val := fun b => .int .u8 (b.toNat : Int)

def ofByte : Val → Option UInt8
  | .int .u8 n => if 0 ≤ n ∧ n < 256 then some (UInt8.ofNat n.toNat) else none
  | _ => none

def bytesOf : List Val → Option (List UInt8)
  | [] => some []
  | v :: r => match ofByte v, bytesOf r with
    | some b, some l => some (b :: l)
    | _, _ => none

def bytesLess : List UInt8 → List UInt8 → Bool
  | _, [] => false
  | [], _ :: _ => true
  | a :: x, b :: y => a < b || (a == b && bytesLess x y)

/-- Are two plain values equal? -/
def eqv : Ek → Val → Val → Option Bool
  | .i, .int k a, .int k' b => if k = k' then some (a == b) else none
  | .b, .bool a, .bool b => some (a == b)
  | .s, .str a, .str b => some (a == b)
  | _, _, _ => none

/-- Are the cells at these places equal? -/
def eqAt (l m : List Val) : List (Nat × Ek) → Option Bool
  | [] => some true
  | (i, k) :: r => match l[i]?, m[i]?, eqAt l m r with
    | some a, some b, some q => match eqv k a b with
      | some p => some (p && q)
      | none => none
    | _, _, _ => none

def Val.isAgg : Val → Bool
  | .agg _ => true
  | _ => false

def eqVal (e : Eqs) (x y : Val) : Option Bool := if x.isAgg = e.agg ∧ y.isAgg = e.agg then eqAt x.cells y.cells e.offs else none

/-- Two values of which one is nil. -/
def eqNil : Nk → Val → Val → Option Bool
  | .p, .nilp, .nilp => some true
  | .p, .nilp, .ptr .. | .p, .ptr .., .nilp => some false
  | .s, .nils, .nils => some true
  | .s, .nils, .slice .. | .s, .slice .., .nils => some false
  | .f, .nilf, .nilf => some true
  | .f, .nilf, .func .. | .f, .func .., .nilf => some false
  | .m, .nilm, .nilm => some true
  | .m, .nilm, .map .. | .m, .map .., .nilm => some false
  | .i, .nili, .nili => some true
  | .i, .nili, .iface .. | .i, .iface .., .nili => some false
  | _, _, _ => none

def intBin (op : BinOp) (k : IntKind) (a b : Int) : Option Val :=
  match op with
  | .add => some (.int k (k.wrap (a + b)))
  | .sub => some (.int k (k.wrap (a - b)))
  | .mul => some (.int k (k.wrap (a * b)))
  | .quo => if b = 0 then none else some (.int k (k.wrap (a.tdiv b)))
  | .rem => if b = 0 then none else some (.int k (a.tmod b))
  | .and => some (.int k (k.wrap ((BitVec.ofInt k.bits a &&& BitVec.ofInt k.bits b).toNat : Int)))
  | .or => some (.int k (k.wrap ((BitVec.ofInt k.bits a ||| BitVec.ofInt k.bits b).toNat : Int)))
  | .xor => some (.int k (k.wrap ((BitVec.ofInt k.bits a ^^^ BitVec.ofInt k.bits b).toNat : Int)))
  | .andNot => some (.int k (k.wrap ((BitVec.ofInt k.bits a &&& ~~~ BitVec.ofInt k.bits b).toNat : Int)))
  | .lss => some (.bool (a < b))
  | .leq => some (.bool (a ≤ b))
  | .gtr => some (.bool (a > b))
  | .geq => some (.bool (a ≥ b))
  | _ => none

def arith (op : BinOp) (x y : Val) : Option Val :=
  match op, x, y with
  | .shl, .int k a, .int _ b => if b < 0 then none else some (.int k (k.wrap (a * 2 ^ (min b.toNat k.bits))))
  | .shr, .int k a, .int _ b => if b < 0 then none else some (.int k (a.fdiv (2 ^ (min b.toNat k.bits))))
  | op, .int k a, .int k' b => if k = k' then intBin op k a b else none
  | .add, .str a, .str b => if (a.length + b.length : Nat) ≤ 9223372036854775807 then some (.str (a ++ b)) else none
  | .lss, .str a, .str b => some (.bool (bytesLess a b))
  | .leq, .str a, .str b => some (.bool (bytesLess a b || a == b))
  | .gtr, .str a, .str b => some (.bool !(bytesLess a b || a == b))
  | .geq, .str a, .str b => some (.bool !(bytesLess a b))
  | _, _, _ => none

def unary (op : UnOp) (x : Val) : Option Val :=
  match op, x with
  | .neg, .int k n => some (.int k (k.wrap (0 - n)))
  | .xor, .int k n => some (.int k (k.wrap ((BitVec.ofInt k.bits (if k.signed then -1 else k.max) ^^^ BitVec.ofInt k.bits n).toNat : Int)))
  | .not, .bool b => some (.bool !b)
  | _, _ => none

def intOf? : Val → Option Int
  | .int _ n => some n
  | _ => none

/-- A slice's bound: of 0 .. y. -/
def bnd (fr : List Val) (y : Nat) : Opd → Option Nat := fun x =>
  match ev fr x with
  | .int _ n => if 0 ≤ n ∧ n ≤ y then some n.toNat else none
  | _ => none

/-- low, high, max of a slice expression. -/
def bounds (fr : List Val) (len cap : Nat) (lo hi mx : Option Opd) : Option (Nat × Nat × Nat) :=
  match (match mx with | some v => bnd fr cap v | none => some cap) with
  | none => none
  | some m =>
    match (match hi with | some v => bnd fr m v | none => if mx.isSome then none else some len) with
    | none => none
    | some h =>
      match (match lo with | some v => bnd fr h v | none => some 0) with
      | none => none
      | some l => some (l, h, m)

/-- Parts laid into cells. -/
def fill (fr : List Val) (cells : List Val) : List (Nat × Nat × Opd) → Option (List Val)
  | [] => some cells
  | (off, size, x) :: rest =>
    let vs := (ev fr x).cells
    if vs.length = size ∧ off + size ≤ cells.length then fill fr (splice cells off vs) rest else none

def evs (fr : List Val) : List Opd → List Val
  | [] => []
  | x :: r => ev fr x :: evs fr r

def repeatL (z : List Val) : Nat → List Val
  | 0 => []
  | n + 1 => z ++ repeatL z n

/-- The first n elements of what is appended or copied, as cells. -/
def firstCells (h : Heap) (size n : Nat) : Val → Option (List Val)
  | .nils => if n = 0 then some [] else none
  | .slice b o len _ _ => if n ≤ len then (if n * size = 0 then some [] else h.load b o (n * size)) else none
  | .str s => if n ≤ s.length ∧ size = 1 then some ((s.take n).map toByte) else none
  | _ => none

def lenVal : Val → Option Nat
  | .nils => some 0
  | .slice _ _ n _ _ => some n
  | .str s => some s.length
  | _ => none

def maxBytes : Nat := 2 ^ 46

/-- append of n elements. A slice whose capacity is not known is moved: its old block is gone. -/
def appendN (h : Heap) (size bytes : Nat) (x : Val) (n : Nat) (new : List Val) : Option (Val × Heap) :=
      match x with
      | .nils =>
        if n = 0 then some (.nils, h)
        else if n * bytes ≤ maxBytes ∧ n ≤ maxBytes ∧ 0 < size then
          let (b, h') := h.new (.cells new)
          some (.slice b 0 n n size, h')
        else none
      | .slice b o len cap ls =>
        if len + n ≤ cap then
          if n * size = 0 then some (.slice b o (len + n) cap ls, h)
          else match h.store b (o + len * size) new with
            | some h' => some (.slice b o (len + n) cap ls, h')
            | none => none
        else if (len + n) * bytes ≤ maxBytes ∧ len + n ≤ maxBytes ∧ 0 < size then
          match firstCells h size len x with
          | none => none
          | some old =>
            if ls = 0 then
              let (b', h') := h.new (.cells (old ++ new))
              some (.slice b' 0 (len + n) (len + n) size, h')
            else if h.floor ≤ b ∧ ls = size ∧ new.all Val.one = true ∧ h.isCells b = true then
              let (b', h') := (h.put b none).new (.cells (old ++ new))
              some (.slice b' 0 (len + n) (len + n) size, h')
            else none
        else none
      | _ => none

def append (h : Heap) (size bytes : Nat) (x y : Val) : Option (Val × Heap) :=
  match lenVal y with
  | none => none
  | some n =>
    match firstCells h size n y with
    | none => none
    | some new => appendN h size bytes x n new

def minmaxL (isMax : Bool) : Val → List Val → Option Val
  | v, [] => some v
  | .int k a, .int _ b :: r => minmaxL isMax (.int k (if isMax then (if b > a then b else a) else (if b < a then b else a))) r
  | _, _ :: _ => none

def cmpBytes (a b : List UInt8) : Int := if bytesLess a b then -1 else if a == b then 0 else 1

def idxByte (c : UInt8) : List UInt8 → Nat → Int
  | [], _ => -1
  | x :: r, i => if x == c then (i : Int) else idxByte c r (i + 1)

def countB (c : UInt8) : List UInt8 → Nat
  | [] => 0
  | x :: r => (if x == c then 1 else 0) + countB c r

def outer (h : Heap) (e : Ext) (args : List Val) : Option Val :=
  match e, args with
  | .compareString, [.str a, .str b] => some (.int .i64 (cmpBytes a b))
  | .indexByteString, [.str a, c] => (ofByte c).map fun c => .int .i64 (idxByte c a 0)
  | .countString, [.str a, c] => (ofByte c).map fun c => .int .i64 (countB c a)
  | _, _ => none

def findKey (es : Eqs) (k : Val) : List (Val × Val) → Option (Option Val)
  | [] => some none
  | (k', v) :: r => match eqVal es k k' with
    | some true => some (some v)
    | some false => findKey es k r
    | none => none

def setKey (es : Eqs) (k v : Val) : List (Val × Val) → List (Val × Val)
  | [] => [(k, v)]
  | (k', v') :: r => if eqVal es k k' = some true then (k, v) :: r else (k', v') :: setKey es k v r

abbrev CallT := FuncId → List Val → Heap → Option (Val × Heap)

/-- The functions: by their code, or as a whole ('prims'); and the methods behind interface values. -/
structure Env where
  fns : FuncId → Option VFn
  prims : FuncId → Option (List Val → Heap → Option (Val × Heap))
  meth : TypeId → Val → String → Option (FuncId × Val)

def pureV (h : Heap) : Option Val → Option (Val × Heap)
  | some v => some (v, h)
  | none => none

def sliceVal (fr : List Val) (size : Nat) (x : Val) (lo hi mx : Option Opd) : Option Val :=
  match x with
  | .nils => match bounds fr 0 0 lo hi mx with
    | some _ => some .nils
    | none => none
  | .slice b o len cap ls => if ls = 0 ∨ ls = size then (match bounds fr len cap lo hi mx with
    | some (l, k, m) => some (.slice b (o + l * size) (k - l) (m - l) (if mx.isSome then 0 else ls))
    | none => none) else none
  | _ => none

def nilOk : Val → Bool
  | .nilp | .nili | .nilf | .undef | .func (.method _) .. => false
  | _ => true

/-- One operation. -/
def step (meth : TypeId → Val → String → Option (FuncId × Val)) (call : CallT) (fr : List Val) (h : Heap) (o : VOp) : Option (Val × Heap) :=
  match o with
  | .mov x => some (ev fr x, h)
  | .pick c a b => match ev fr c with
    | .bool true => some (ev fr a, h)
    | .bool false => some (ev fr b, h)
    | _ => none
  | .alloc zero => let (b, h') := h.new (.cells zero); some (.ptr b 0, h')
  | .box x n => let c := (ev fr x).cells; if c.length = n then (let (b, h') := h.new (.cells c); some (.ptr b 0, h')) else none
  | .build zero parts => match fill fr zero parts with
    | some c => some (.agg c, h)
    | none => none
  | .bslice len zero parts => match fill fr zero parts with
    | some c => let (b, h') := h.new (.cells c); some (.slice b 0 len len 0, h')
    | none => none
  | .load agg n a => match ev fr a with
    | .ptr b o => match h.load b o n with
      | some l => if agg then some (.agg l, h) else match l with
        | [v] => some (v, h)
        | _ => none
      | none => none
    | _ => none
  | .store n a v => match ev fr a with
    | .ptr b o =>
      let c := (ev fr v).cells
      if c.length = n then (match h.store b o c with
        | some h' => some (.undef, h')
        | none => none) else none
    | _ => none
  | .nilCheck x => if nilOk (ev fr x) then some (ev fr x, h) else none
  | .arith op x y => pureV h (arith op (ev fr x) (ev fr y))
  | .eql neg es x y => match eqVal es (ev fr x) (ev fr y) with
    | some p => some (.bool (if neg then !p else p), h)
    | none => none
  | .eqnil neg k x y => match eqNil k (ev fr x) (ev fr y) with
    | some p => some (.bool (if neg then !p else p), h)
    | none => none
  | .un op x => pureV h (unary op (ev fr x))
  | .convInt k x => match ev fr x with
    | .int _ n => some (.int k (k.wrap n), h)
    | _ => none
  | .convSame x => match ev fr x with
    | .str s => some (.str s, h)
    | _ => none
  | .b2s x => match ev fr x with
    | .nils => some (.str [], h)
    | .slice b o len _ _ => match (if len = 0 then some [] else h.load b o len) with
      | some l => match bytesOf l with
        | some s => some (.str s, h)
        | none => none
      | none => none
    | _ => none
  | .s2b x => match ev fr x with
    | .str s => let (b, h') := h.new (.cells (s.map toByte)); some (.slice b 0 s.length s.length 1, h')
    | _ => none
  | .mkiface t x => match ev fr x with
    | .undef => none
    | v => some (.iface t v, h)
  | .mkfunc fn first captured => some (.func fn (evs fr first) (evs fr captured), h)
  | .mkslice size bytes zero l c => match ev fr l, ev fr c with
    | .int _ l, .int _ c =>
      if 0 ≤ l ∧ l ≤ c ∧ c ≤ maxBytes ∧ c.toNat * bytes ≤ maxBytes ∧ size = zero.length then
        let (b, h') := h.new (.cells (repeatL zero c.toNat))
        some (.slice b 0 l.toNat c.toNat 0, h')
      else none
    | _, _ => none
  | .sliceStr x lo hi => match ev fr x with
    | .str s => match bounds fr s.length s.length lo hi none with
      | some (l, k, _) => some (.str ((s.take k).drop l), h)
      | none => none
    | _ => none
  | .slice size x lo hi mx => pureV h (sliceVal fr size (ev fr x) lo hi mx)
  | .sliceArr n size x lo hi mx => match ev fr x with
    | .ptr b o => match bounds fr n n lo hi mx with
      | some (l, k, m) => some (.slice b (o + l * size) (k - l) (m - l) 0, h)
      | none => none
    | _ => none
  | .faddr off x => match ev fr x with
    | .ptr b o => some (.ptr b (o + off), h)
    | _ => none
  | .field agg off n x => match ev fr x with
    | .agg l => if off + n ≤ l.length then (if agg then some (.agg ((l.drop off).take n), h) else match l[off]? with
        | some v => some (v, h)
        | none => none) else none
    | _ => none
  | .iaddr size x i => match ev fr x, ev fr i with
    | .slice b o len _ _, .int _ i => if 0 ≤ i ∧ i < len then some (.ptr b (o + i.toNat * size), h) else none
    | _, _ => none
  | .iaddrArr len size x i => match ev fr x, ev fr i with
    | .ptr b o, .int _ i => if 0 ≤ i ∧ i < len then some (.ptr b (o + i.toNat * size), h) else none
    | _, _ => none
  | .index x i => match ev fr x, ev fr i with
    | .str s, .int _ i => if 0 ≤ i then (match s[i.toNat]? with
        | some c => some (toByte c, h)
        | none => none) else none
    | _, _ => none
  | .indexArr len agg size x i => match ev fr x, ev fr i with
    | .agg l, .int _ i => if 0 ≤ i ∧ i < len ∧ i.toNat * size + size ≤ l.length then
        (if agg then some (.agg ((l.drop (i.toNat * size)).take size), h) else match l[i.toNat * size]? with
          | some v => some (v, h)
          | none => none) else none
    | _, _ => none
  | .ext x i => match ev fr x with
    | .tup l => match l[i]? with
      | some v => some (v, h)
      | none => none
    | _ => none
  | .call f args => call f (evs fr args) h
  | .callv x args => match ev fr x with
    | .func (.func f) first captured => call f (first ++ evs fr args ++ captured) h
    | _ => none
  | .invoke recv name args => match ev fr recv with
    | .iface t v => match meth t v name with
      | some (f, r) => call f (r :: evs fr args) h
      | none => none
    | _ => none
  | .outer e args => pureV h (outer h e (evs fr args))
  | .lenOf x => match ev fr x with
    | .nils => some (.int .i64 0, h)
    | .slice _ _ n _ _ => some (.int .i64 n, h)
    | _ => none
  | .lenStr x => match ev fr x with
    | .str s => some (.int .i64 s.length, h)
    | _ => none
  | .lenMap x => match ev fr x with
    | .nilm => some (.int .i64 0, h)
    | .map b => match h.get b with
      | some (.map es) => some (.int .i64 es.length, h)
      | _ => none
    | _ => none
  | .lenConst n => some (.int .i64 n, h)
  | .capOf x => match ev fr x with
    | .nils => some (.int .i64 0, h)
    | .slice _ _ _ cap 0 => some (.int .i64 cap, h)
    | _ => none
  | .append size bytes x y => append h size bytes (ev fr x) (ev fr y)
  | .appendZ size bytes zero x y => match ev fr y with
    | .int _ n => if 0 ≤ n ∧ n ≤ maxBytes ∧ n.toNat * bytes ≤ maxBytes ∧ zero.length = size then appendN h size bytes (ev fr x) n.toNat (repeatL zero n.toNat) else none
    | _ => none
  | .copy size x y => match lenVal (ev fr y) with
    | none => none
    | some m => match ev fr x with
      | .nils => some (.int .i64 0, h)
      | .slice b o len _ _ =>
        let n := min m len
        match firstCells h size n (ev fr y) with
        | none => none
        | some c => if n * size = 0 then some (.int .i64 n, h) else match h.store b o c with
          | some h' => some (.int .i64 n, h')
          | none => none
      | _ => none
  | .minmax isMax l => match evs fr l with
    | [] => none
    | v :: r => pureV h (minmaxL isMax v r)
  | .clear zero x => match ev fr x with
    | .nils => some (.tup [], h)
    | .slice b o len _ _ => if len * zero.length = 0 then some (.tup [], h) else match h.store b o (repeatL zero len) with
      | some h' => some (.tup [], h')
      | none => none
    | _ => none
  | .mkmap => let (b, h') := h.new (.map []); some (.map b, h')
  | .lookup q zero ok x k =>
    match (match ev fr x with
      | .nilm => some none
      | .map b => match h.get b with
        | some (.map es) => findKey q (ev fr k) es
        | _ => none
      | _ => none) with
    | none => none
    | some r =>
      let v := r.getD zero
      some (if ok then .tup [v, .bool r.isSome] else v, h)
  | .mapUpdate q m k v => match ev fr m with
    | .map b => if h.floor ≤ b then (match h.get b with
      | some (.map es) => match findKey q (ev fr k) es with
        | some _ => some (.undef, h.put b (some (.map (setKey q (ev fr k) (ev fr v) es))))
        | none => none
      | _ => none) else none
    | _ => none
  | .bad => none

def setDst (fr : List Val) : Option Nat → Val → List Val
  | some d, v => fr.set d v
  | none, _ => fr

/-- Is an operation wanted? 'none': it can't be told. -/
def wanted (fr : List Val) : Option (Nat × Bool) → Option Bool
  | none => some true
  | some (t, want) => match fr.getD t .undef with
    | .bool b => some (b == want)
    | .undef => some false
    | _ => none

def runOps (meth : TypeId → Val → String → Option (FuncId × Val)) (call : CallT) : List VOper → List Val → Heap → Option (List Val × Heap)
  | [], fr, h => some (fr, h)
  | o :: r, fr, h =>
    match wanted fr o.guard with
    | none => none
    | some false => runOps meth call r (setDst fr o.dst .undef) h
    | some true =>
      match step meth call fr h o.op with
      | some (v, h') => runOps meth call r (setDst fr o.dst v) h'
      | none => none

/-- What an operation does with the heap: 0 nothing, 1 it makes a block, 2 it reads, 3 it writes. -/
def VOp.kind : VOp → Nat
  | .alloc _ | .box .. | .bslice .. | .mkslice .. | .mkmap | .s2b _ => 1
  | .load .. | .b2s _ | .call .. | .callv .. | .invoke .. | .outer .. | .lenMap _ | .lookup .. => 2
  | .store .. | .append .. | .appendZ .. | .copy .. | .clear .. | .mapUpdate .. => 3
  | _ => 0

def hiddenOf (rs : List (Nat × Nat)) : List Nat → List (Nat × Nat)
  | [] => []
  | i :: r => rs.getD i (0, 0) :: hiddenOf rs r

/-- A region that draws its order, in the order of the text: an operation does not see what those make that need not run before it. 'rs': the blocks that each has made. -/
def runDraw (meth : TypeId → Val → String → Option (FuncId × Val)) (call : CallT) : List VOper → List (Nat × Nat) → List Val → Heap → Option (List Val × Heap)
  | [], _, fr, h => some (fr, h)
  | o :: r, rs, fr, h =>
    match wanted fr o.guard with
    | none => none
    | some false => runDraw meth call r (rs ++ [(h.next, h.next)]) (setDst fr o.dst .undef) h
    | some true =>
      if o.op.kind ≤ 1 ∨ o.full = true then
        match step meth call fr h o.op with
        | some (v, h') => runDraw meth call r (rs ++ [(h.next, h'.next)]) (setDst fr o.dst v) h'
        | none => none
      else if o.op.kind = 2 then
        match step meth call fr { h with hid := hiddenOf rs o.hide ++ h.hid, floor := h.next } o.op with
        | some (v, h') => runDraw meth call r (rs ++ [(h.next, h'.next)]) (setDst fr o.dst v) { h' with hid := h.hid, floor := h.floor }
        | none => none
      else none

def readResults (fr : List Val) (h : Heap) : List (Nat × Option (Bool × Nat)) → Option (List Val)
  | [] => some []
  | (t, none) :: r => match readResults fr h r with
    | some l => some (fr.getD t .undef :: l)
    | none => none
  | (t, some (agg, n)) :: r =>
    match fr.getD t .undef with
    | .ptr b o => match h.load b o n, readResults fr h r with
      | some c, some l => if agg then some (.agg c :: l) else match c with
        | [v] => some (v :: l)
        | _ => none
      | _, _ => none
    | _ => none

def resultOf : List Val → Val
  | [v] => v
  | l => .tup l

def enter (ntmps : Nat) (args : List Val) : List Val := args ++ List.replicate (ntmps - args.length) .undef


def callF (E : Env) (ex : VC → List Val → Heap → Option (Ex × List Val × Heap)) : CallT := fun f args h =>
  match E.prims f with
  | some p => p args h
  | none =>
  match E.fns f with
  | none => none
  | some vf => match ex vf.body (enter vf.ntmps args) h with
    | some (.exit _, _, _) => none
    | some (_, fr, h') => match readResults fr h' vf.results with
      | some l => some (resultOf l, h')
      | none => none
    | none => none

def exec (E : Env) : Nat → VC → List Val → Heap → Option (Ex × List Val × Heap)
  | 0, _, _, _ => none
  | n + 1, c, fr, h =>
    match c with
    | .skip => some (.normal, fr, h)
    | .region ops => match runOps E.meth (callF E (exec E n)) ops fr h with
      | some (fr', h') => some (.normal, fr', h')
      | none => none
    | .draw ops => match runDraw E.meth (callF E (exec E n)) ops [] fr h with
      | some (fr', h') => some (.normal, fr', h')
      | none => none
    | .seq a b => match exec E n a fr h with
      | some (.normal, fr', h') => exec E n b fr' h'
      | r => r
    | .cond c a b => match ev fr c with
      | .bool true => exec E n a fr h
      | .bool false => exec E n b fr h
      | _ => none
    | .block id a => match exec E n a fr h with
      | some (.exit i, fr', h') => if i = id then some (.normal, fr', h') else some (.exit i, fr', h')
      | r => r
    | .loop a => match exec E n a fr h with
      | some (.normal, fr', h') => exec E n (.loop a) fr' h'
      | r => r
    | .exit id => some (.exit id, fr, h)
    | .ret => some (.ret, fr, h)

/-- A call with fuel. -/
def run (E : Env) (n : Nat) : CallT := callF E (exec E n)

end Go.V
