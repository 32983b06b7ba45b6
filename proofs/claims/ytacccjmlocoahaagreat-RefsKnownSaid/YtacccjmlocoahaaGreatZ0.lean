/-
  Parts of the proof, from: An executable abstract machine for the model's code: values without capacities that the run draws, a heap whose blocks have names of their own. No program in sight.
-/
import Derived.Calls
import Derived.LoopN
import Derived.Scope
import Derived.Laws.Cells
import Derived.Laws.Append
import Derived.Laws.CopyRow
import Derived.Laws.AppendOwn
import Derived.Laws.StructEq
import Derived.ChangeKeysEq
import Derived.MapKept
import Derived.Lib.ConvBytes
import Derived.Laws.BytesArg

set_option linter.unusedVariables false
set_option linter.unusedSimpArgs false
set_option linter.unusedSectionVars false
section
namespace Go.V
inductive Val where
 |undef
 |bool (b:Bool)
 |int (k:IntKind) (n:Int)
 |str (s:List UInt8)
 |nilp
 |ptr (b o:Nat)
 |nils
 |slice (b o len cap:Nat) (ls:Nat)
 |nilm
 |map (b:Nat)
 |nilf
 |func (fn:Fn) (first captured:List Val)
 |nili
 |iface (t:TypeId) (v:Val)
 |agg (l:List Val)
 |tup (l:List Val)
 |ref (c:List Val) (o:Nat)
 |list (c:List Val) (len x:Nat)
 |vmap (ks vs:List Val)
 |zp
 |junk
 deriving Inhabited
inductive Blk where
 |cells (c:List Val)
 |map (es:List (Val×Val))
 |rnd (st:Nat)
 deriving Inhabited
inductive Tr where
 |leaf
 |node (l:Tr) (v:Option Blk) (r:Tr)
def Tr.get:Tr→Nat→Option Blk
 | .leaf,_=>none
 | .node l v r,k=>if k=0 then v else if k%2=0 then r.get (k/2 - 1) else l.get (k/2)
def Tr.set:Nat→Tr→Nat→Option Blk→Tr
 |0,t,_,_=>t
 |f+1,.leaf,k,x=>if k=0 then .node .leaf x .leaf else if k%2=0 then .node .leaf none (Tr.set f .leaf (k/2 - 1) x) else .node (Tr.set f .leaf (k/2) x) none .leaf
 |f+1,.node l v r,k,x=>if k=0 then .node l x r else if k%2=0 then .node l v (Tr.set f r (k/2 - 1) x) else .node (Tr.set f l (k/2) x) v r
structure Heap where
 next:Nat
 t:Tr
 hid:List (Nat×Nat)
 floor:Nat
 base:Nat
def Heap.hidden (h:Heap) (b:Nat):Bool:=h.hid.any fun r=>r.1≤b&&b<r.2
def Heap.get (h:Heap) (b:Nat):Option Blk:=if h.hidden b then none else h.t.get b
def Heap.put (h:Heap) (b:Nat) (x:Option Blk):Heap:={h with t:=h.t.set (b+1) b x}
def Heap.new (h:Heap) (x:Blk):Nat×Heap:=(h.next,{h.put h.next (some x) with next:=h.next+1})
def Heap.load (h:Heap) (b o n:Nat):Option (List Val):=
 match h.get b with
 |some (.cells c)=>if o+n≤c.length then some ((c.drop o).take n) else none
 |_=>none
def Heap.endsBy (h:Heap) (b n:Nat):Bool:=
 match h.get b with
 |some (.cells c)=>decide (c.length≤n)
 |_=>false
def splice (c:List Val) (o:Nat) (vs:List Val):List Val:=c.take o++vs++c.drop (o+vs.length)
def Val.one:Val→Bool
 | .agg _| .tup _| .undef | .junk | .zp =>false
 |_=>true
def Heap.store (h:Heap) (b o:Nat) (vs:List Val):Option Heap:=
 if h.floor≤b then
  match h.get b with
  |some (.cells c)=>if o+vs.length≤c.length∧vs.all Val.one=true then some (h.put b (some (.cells (splice c o vs)))) else none
  |_=>none
 else none
inductive Opd where
 |t (n:Nat)
 |c (v:Val)
 deriving Inhabited
def ev (fr:List Val):Opd→Val
 | .t n=>fr.getD n .undef
 | .c v=>v
def Val.cells:Val→List Val
 | .agg l=>l
 |v=>[v]
inductive Ext where
 |compareString
 |indexByteString
 |countString
 |indexByte
 |count
 |overlaps
 deriving DecidableEq,Inhabited
inductive Ek where
 |i
 |b
 |s
 deriving DecidableEq,Inhabited
inductive Nk where
 |p
 |s
 |f
 |m
 |i
 deriving DecidableEq,Inhabited
structure Eqs where
 agg:Bool
 offs:List (Nat×Ek)
 deriving Inhabited
inductive VOp where
 |mov (x:Opd)
 |pick (c a b:Opd)
 |alloc (zero:List Val)
 |box (x:Opd) (n:Nat)
 |build (zero:List Val) (parts:List (Nat×Nat×Opd))
 |bslice (len:Nat) (zero:List Val) (parts:List (Nat×Nat×Opd))
 |load (agg:Bool) (n:Nat) (a:Opd)
 |store (n:Nat) (a v:Opd)
 |nilCheck (x:Opd)
 |arith (op:BinOp) (x y:Opd)
 |eql (neg:Bool) (es:Eqs) (x y:Opd)
 |eqnil (neg:Bool) (k:Nk) (x y:Opd)
 |un (op:UnOp) (x:Opd)
 |convInt (k:IntKind) (x:Opd)
 |convSame (x:Opd)
 |b2s (x:Opd)
 |s2b (x:Opd)
 |mkiface (t:TypeId) (x:Opd)
 |mkfunc (fn:Fn) (first captured:List Opd)
 |mkslice (size bytes:Nat) (zero:List Val) (l c:Opd)
 |sliceStr (x:Opd) (lo hi:Option Opd)
 |slice (size:Nat) (x:Opd) (lo hi mx:Option Opd)
 |sliceArr (n size:Nat) (x:Opd) (lo hi mx:Option Opd)
 |faddr (off:Nat) (x:Opd)
 |faddrZ (x:Opd)
 |field (agg:Bool) (off n:Nat) (x:Opd)
 |iaddr (size:Nat) (x i:Opd)
 |iaddrArr (len size:Nat) (x i:Opd)
 |index (x i:Opd)
 |indexArr (len:Nat) (agg:Bool) (size:Nat) (x i:Opd)
 |ext (x:Opd) (i:Nat)
 |call (f:FuncId) (args:List Opd)
 |callv (x:Opd) (args:List Opd)
 |invoke (recv:Opd) (name:String) (args:List Opd)
 |outer (e:Ext) (args:List Opd)
 |lenOf (x:Opd)
 |lenStr (x:Opd)
 |lenMap (x:Opd)
 |lenConst (n:Nat)
 |capOf (x:Opd)
 |append (size bytes:Nat) (x y:Opd)
 |appendZ (size bytes:Nat) (zero:List Val) (x y:Opd)
 |copy (size:Nat) (x y:Opd)
 |minmax (isMax:Bool) (l:List Opd)
 |clear (zero:List Val) (x:Opd)
 |mkmap
 |lookup (es:Eqs) (zero:Val) (ok:Bool) (x k:Opd)
 |mapUpdate (es:Eqs) (m k v:Opd)
 |bad
 deriving Inhabited
structure VOper where
 dst:Option Nat
 op:VOp
 guard:Option (Nat×Bool)
 full:Bool
 hide:List Nat
 deriving Inhabited
inductive VC where
 |skip
 |region (ops:List VOper)
 |draw (ops:List VOper)
 |seq (a b:VC)
 |cond (c:Opd) (a b:VC)
 |block (id:Nat) (a:VC)
 |loop (a:VC)
 |range (x:Opd) (r:Nat) (ps:List Nat) (a b:VC)
 |exit (id:Nat)
 |ret
 deriving Inhabited
inductive Ex where
 |normal
 |exit (id:Nat)
 |ret
 deriving DecidableEq,Inhabited
structure Rnd where
 ps:List Nat
 a:VC
 b:VC
 deriving Inhabited
structure VFn where
 ntmps:Nat
 results:List (Nat×Option (Bool×Nat))
 body:VC
 deriving Inhabited
def toByte:UInt8→Val:=fun b=>.int .u8 (b.toNat:Int)
def ofByte:Val→Option UInt8
 | .int .u8 n=>if 0≤n∧n<256 then some (UInt8.ofNat n.toNat) else none
 |_=>none
def bytesOf:List Val→Option (List UInt8)
 |[]=>some []
 |v::r=>match ofByte v,bytesOf r with
  |some b,some l=>some (b::l)
  |_,_=>none
def bytesLess:List UInt8→List UInt8→Bool
 |_,[]=>false
 |[],_::_=>true
 |a::x,b::y=>a<b||(a==b&&bytesLess x y)
def eqv:Ek→Val→Val→Option Bool
 | .i,.int k a,.int k' b=>if k=k' then some (a==b) else none
 | .b,.bool a,.bool b=>some (a==b)
 | .s,.str a,.str b=>some (a==b)
 |_,_,_=>none
def eqAt (l m:List Val):List (Nat×Ek)→Option Bool
 |[]=>some true
 |(i,k)::r=>match l[i]?,m[i]?,eqAt l m r with
  |some a,some b,some q=>match eqv k a b with
   |some p=>some (p&&q)
   |none=>none
  |_,_,_=>none
def Val.isAgg:Val→Bool
 | .agg _=>true
 |_=>false
def eqVal (e:Eqs) (x y:Val):Option Bool:=if x.isAgg=e.agg∧y.isAgg=e.agg then eqAt x.cells y.cells e.offs else none
def eqNil:Nk→Val→Val→Option Bool
 | .p,.nilp,.nilp =>some true
 | .p,.nilp,.ptr .. | .p,.ptr ..,.nilp | .p,.nilp,.ref .. | .p,.ref ..,.nilp =>some false
 | .s,.nils,.nils =>some true
 | .s,.nils,.slice .. | .s,.slice ..,.nils | .s,.nils,.list .. | .s,.list ..,.nils =>some false
 | .f,.nilf,.nilf =>some true
 | .f,.nilf,.func .. | .f,.func ..,.nilf =>some false
 | .m,.nilm,.nilm =>some true
 | .m,.nilm,.map .. | .m,.map ..,.nilm | .m,.nilm,.vmap .. | .m,.vmap ..,.nilm =>some false
 | .i,.nili,.nili =>some true
 | .i,.nili,.iface .. | .i,.iface ..,.nili =>some false
 |_,_,_=>none
def intBin (op:BinOp) (k:IntKind) (a b:Int):Option Val:=
 match op with
 | .add =>some (.int k (k.wrap (a+b)))
 | .sub =>some (.int k (k.wrap (a - b)))
 | .mul =>some (.int k (k.wrap (a*b)))
 | .quo =>if b=0 then none else some (.int k (k.wrap (a.tdiv b)))
 | .rem =>if b=0 then none else some (.int k (a.tmod b))
 | .and =>some (.int k (k.wrap ((BitVec.ofInt k.bits a&&& BitVec.ofInt k.bits b).toNat :Int)))
 | .or =>some (.int k (k.wrap ((BitVec.ofInt k.bits a|||BitVec.ofInt k.bits b).toNat :Int)))
 | .xor =>some (.int k (k.wrap ((BitVec.ofInt k.bits a^^^BitVec.ofInt k.bits b).toNat :Int)))
 | .andNot =>some (.int k (k.wrap ((BitVec.ofInt k.bits a&&& ~~~ BitVec.ofInt k.bits b).toNat :Int)))
 | .lss =>some (.bool (a<b))
 | .leq =>some (.bool (a≤b))
 | .gtr =>some (.bool (a>b))
 | .geq =>some (.bool (a≥b))
 |_=>none
def arith (op:BinOp) (x y:Val):Option Val:=
 match op,x,y with
 | .shl,.int k a,.int _ b=>if b<0 then none else some (.int k (k.wrap (a*2^(min b.toNat k.bits))))
 | .shr,.int k a,.int _ b=>if b<0 then none else some (.int k (a.fdiv (2^(min b.toNat k.bits))))
 |op,.int k a,.int k' b=>if k=k' then intBin op k a b else none
 | .add,.str a,.str b=>if (a.length+b.length:Nat)≤9223372036854775807 then some (.str (a++b)) else none
 | .lss,.str a,.str b=>some (.bool (bytesLess a b))
 | .leq,.str a,.str b=>some (.bool (bytesLess a b||a==b))
 | .gtr,.str a,.str b=>some (.bool !(bytesLess a b||a==b))
 | .geq,.str a,.str b=>some (.bool !(bytesLess a b))
 |_,_,_=>none
def unary (op:UnOp) (x:Val):Option Val:=
 match op,x with
 | .neg,.int k n=>some (.int k (k.wrap (0 - n)))
 | .xor,.int k n=>some (.int k (k.wrap ((BitVec.ofInt k.bits (if k.signed then -1 else k.max)^^^BitVec.ofInt k.bits n).toNat :Int)))
 | .not,.bool b=>some (.bool !b)
 |_,_=>none
def intOf?:Val→Option Int
 | .int _ n=>some n
 |_=>none
def bnd (fr:List Val) (y:Nat):Opd→Option Nat:=fun x=>
 match ev fr x with
 | .int _ n=>if 0≤n∧n≤y then some n.toNat else none
 |_=>none
def bounds (fr:List Val) (len cap:Nat) (lo hi mx:Option Opd):Option (Nat×Nat×Nat):=
 match (match mx with|some v=>bnd fr cap v|none=>some cap) with
 |none=>none
 |some m=>
  match (match hi with|some v=>bnd fr m v|none=>if mx.isSome then none else some len) with
  |none=>none
  |some h=>
   match (match lo with|some v=>bnd fr h v|none=>some 0) with
   |none=>none
   |some l=>some (l,h,m)
def fill (fr:List Val) (cells:List Val):List (Nat×Nat×Opd)→Option (List Val)
 |[]=>some cells
 |(off,size,x)::rest=>
  let vs:=(ev fr x).cells
  if vs.length=size∧off+size≤cells.length then fill fr (splice cells off vs) rest else none
def evs (fr:List Val):List Opd→List Val
 |[]=>[]
 |x::r=>ev fr x::evs fr r
def repeatL (z:List Val):Nat→List Val
 |0=>[]
 |n+1=>z++repeatL z n
def firstCells (h:Heap) (size n:Nat):Val→Option (List Val)
 | .nils =>if n=0 then some [] else none
 | .slice b o len _ _=>if n≤len then (if n*size=0 then some [] else h.load b o (n*size)) else none
 | .str s=>if n≤s.length∧size=1 then some ((s.take n).map toByte) else none
 | .list c len _=>if n≤len∧c.length=len*size then some (c.take (n*size)) else none
 |_=>none
def lenVal:Val→Option Nat
 | .nils =>some 0
 | .slice _ _ n _ _=>some n
 | .list _ n _=>some n
 | .str s=>some s.length
 |_=>none
def maxBytes:Nat:=2^46
def appendN (h:Heap) (size bytes:Nat) (x:Val) (n:Nat) (new:List Val):Option (Val×Heap):=
   match x with
   | .nils =>
    if n=0 then some (.nils,h)
    else if n*bytes≤maxBytes∧n≤maxBytes∧0<size then
     let (b,h'):=h.new (.cells new)
     some (.slice b 0 n n size,h')
    else none
   | .slice b o len cap ls=>
    if len+n≤cap then
     if n*size=0 then some (.slice b o (len+n) cap ls,h)
     else match h.store b (o+len*size) new with
      |some h'=>some (.slice b o (len+n) cap ls,h')
      |none=>none
    else if (len+n)*bytes≤maxBytes∧len+n≤maxBytes∧0<size then
     match firstCells h size len x with
     |none=>none
     |some old=>
      if ls=0 then
       let (b',h'):=h.new (.cells (old++new))
       some (.slice b' 0 (len+n) (len+n) size,h')
      else if h.floor≤b∧ls=size∧new.all Val.one=true∧h.endsBy b (o+(len+n)*size)=true then
       let (b',h'):=(h.put b none).new (.cells (old++new))
       some (.slice b' 0 (len+n) (len+n) size,h')
      else none
    else none
   | .list c len x=>
    if n=0 then some (.list c len x,h)
    else if x=0∧(len+n)*bytes≤maxBytes∧len+n≤maxBytes∧0<size∧c.length=len*size then
     let (b',h'):=h.new (.cells (c++new))
     some (.slice b' 0 (len+n) (len+n) size,h')
    else none
   |_=>none
def append (h:Heap) (size bytes:Nat) (x y:Val):Option (Val×Heap):=
 match lenVal y with
 |none=>none
 |some n=>
  match firstCells h size n y with
  |none=>none
  |some new=>appendN h size bytes x n new
def minmaxL (isMax:Bool):Val→List Val→Option Val
 |v,[]=>some v
 | .int k a,.int _ b::r=>minmaxL isMax (.int k (if isMax then (if b>a then b else a) else (if b<a then b else a))) r
 |_,_::_=>none
def cmpBytes (a b:List UInt8):Int:=if bytesLess a b then -1 else if a==b then 0 else 1
def idxByte (c:UInt8):List UInt8→Nat→Int
 |[],_=> -1
 |x::r,i=>if x==c then (i:Int) else idxByte c r (i+1)
def countB (c:UInt8):List UInt8→Nat
 |[]=>0
 |x::r=>(if x==c then 1 else 0)+countB c r
def outer (h:Heap) (e:Ext) (args:List Val):Option Val:=
 match e,args with
 | .compareString,[.str a,.str b]=>some (.int .i64 (cmpBytes a b))
 | .indexByteString,[.str a,c]=>(ofByte c).map fun c=>.int .i64 (idxByte c a 0)
 | .countString,[.str a,c]=>(ofByte c).map fun c=>.int .i64 (countB c a)
 | .overlaps,[.slice b _ n _ _,.slice b' _ n' _ _]=>
  if b≠b'∧h.base≤b∧n≠0∧n'≠0 then
   match h.get b,h.get b' with
   |some (.cells _),some (.cells (_::_))=>some (.bool false)
   |_,_=>none
  else none
 |_,_=>none
def findKey (es:Eqs) (k:Val):List (Val×Val)→Option (Option Val)
 |[]=>some none
 |(k',v)::r=>match eqVal es k k' with
  |some true=>some (some v)
  |some false=>findKey es k r
  |none=>none
def Eqs.covers (es:Eqs) (n:Nat):Bool:=(List.range n).all fun i=>es.offs.any fun p=>p.1==i
def setKey (es:Eqs) (k v:Val):List (Val×Val)→Option (List (Val×Val))
 |[]=>some [(k,v)]
 |(k',v')::r=>match eqVal es k k' with
  |some true=>if k'.cells.length=k.cells.length∧es.covers k.cells.length=true then some ((k,v)::r) else none
  |some false=>match setKey es k v r with
   |some l=>some ((k',v')::l)
   |none=>none
  |none=>none
structure DFn where
 ntmps:Nat
 results:List (Nat×Option (Bool×Nat))
 pre:VC
 t:Nat
 body:VC
 deriving Inhabited
abbrev CallT:=FuncId→List Val→Heap→Option (Val×Heap)
structure Env where
 fns:FuncId→Option VFn
 prims:FuncId→Option (List Val→Heap→Option (Val×Heap))
 meth:TypeId→Val→String→Option (FuncId×Val)
 rnd:Nat→Option Rnd:=fun _=>none
 dfr:FuncId→Option DFn:=fun _=>none
def big:Nat:=1000000
def pureV (h:Heap):Option Val→Option (Val×Heap)
 |some v=>some (v,h)
 |none=>none
def sliceVal (fr:List Val) (size:Nat) (x:Val) (lo hi mx:Option Opd):Option Val:=
  match x with
  | .nils =>match bounds fr 0 0 lo hi mx with
    |some _=>some .nils
    |none=>none
  | .slice b o len cap ls => if ls = 0 ∨ ls = size then (match bounds fr len cap lo hi mx with
    |some (l,k,m)=>some (.slice b (o+l*size) (k - l) (m - l) (if mx.isSome then 0 else ls))
    |none=>none) else none
  | .list c len x => if c.length = len * size ∧ (x ≤ 1 ∨ x = 2 * size) then (match bounds fr len len lo hi mx with
    |some (l,k,m)=>some (.list ((c.drop (l*size)).take ((k - l)*size)) (k - l) (if mx.isSome then (if m=k then 0 else 1) else if k=len then x else if x=0 then 1 else x))
    |none=>none) else none
  |_=>none
def nilOk:Val→Bool
 | .nilp | .nili | .nilf | .undef | .zp | .func (.method _) .. =>false
 |_=>true
def methOk (meth:TypeId→Val→String→Option (FuncId×Val)):Val→Bool
 | .func (.method n) (.iface t v::_) _=>(meth t v n).isSome
 |_=>false
def step (meth:TypeId→Val→String→Option (FuncId×Val)) (call:CallT) (fr:List Val) (h:Heap) (o:VOp):Option (Val×Heap):=
  match o with
  | .mov x=>some (ev fr x,h)
  | .pick c a b=>match ev fr c with
    | .bool true=>some (ev fr a,h)
    | .bool false=>some (ev fr b,h)
    |_=>none
  | .alloc zero=>let (b,h'):=h.new (.cells zero);some (.ptr b 0,h')
  | .box x n=>let c:=(ev fr x).cells;if c.length=n then (let (b,h'):=h.new (.cells c);some (.ptr b 0,h')) else none
  | .build zero parts=>match fill fr zero parts with
    |some c=>some (.agg c,h)
    |none=>none
  | .bslice len zero parts=>match fill fr zero parts with
    |some c=>let (b,h'):=h.new (.cells c);some (.slice b 0 len len 0,h')
    |none=>none
  | .load agg n a=>match ev fr a with
    | .ptr b o=>match h.load b o n with
      |some l=>if agg then some (.agg l,h) else match l with
        |[v]=>some (v,h)
        |_=>none
      |none=>none
    | .ref c o => if o + n ≤ c.length then (if agg then some (.agg ((c.drop o).take n), h) else if n = 1 then (match c[o]? with
        |some v=>some (v,h)
        |none=>none) else none) else none
    | .zp =>if agg=true∧n=0 then some (.agg [],h) else none
    |_=>none
  | .store n a v=>match ev fr a with
    | .ptr b o=>
      let c:=(ev fr v).cells
      if c.length = n then (match h.store b o c with
        |some h'=>some (.undef,h')
        |none=>none) else none
    |_=>none
  | .nilCheck x=>if nilOk (ev fr x)=true∨methOk meth (ev fr x)=true then some (ev fr x,h) else none
  | .arith op x y=>pureV h (arith op (ev fr x) (ev fr y))
  | .eql neg es x y=>match eqVal es (ev fr x) (ev fr y) with
    |some p=>some (.bool (if neg then !p else p),h)
    |none=>none
  | .eqnil neg k x y=>match eqNil k (ev fr x) (ev fr y) with
    |some p=>some (.bool (if neg then !p else p),h)
    |none=>none
  | .un op x=>pureV h (unary op (ev fr x))
  | .convInt k x=>match ev fr x with
    | .int _ n=>some (.int k (k.wrap n),h)
    |_=>none
  | .convSame x=>match ev fr x with
    | .str s=>some (.str s,h)
    |_=>none
  | .b2s x=>match ev fr x with
    | .nils =>some (.str [],h)
    | .slice b o len _ _=>match (if len=0 then some [] else h.load b o len) with
      |some l=>match bytesOf l with
        |some s=>some (.str s,h)
        |none=>none
      |none=>none
    | .list c len _ => if c.length = len then (match bytesOf c with
      |some s=>some (.str s,h)
      |none=>none) else none
    |_=>none
  | .s2b x=>match ev fr x with
    | .str s=>let (b,h'):=h.new (.cells (s.map toByte));some (.slice b 0 s.length s.length 1,h')
    |_=>none
  | .mkiface t x=>match ev fr x with
    | .undef =>none
    |v=>some (.iface t v,h)
  | .mkfunc fn first captured=>some (.func fn (evs fr first) (evs fr captured),h)
  | .mkslice size bytes zero l c=>match ev fr l,ev fr c with
    | .int _ l,.int _ c=>
      if 0≤l∧l≤c∧c≤maxBytes∧c.toNat*bytes≤maxBytes∧size=zero.length then
        let (b,h'):=h.new (.cells (repeatL zero c.toNat))
        some (.slice b 0 l.toNat c.toNat 0,h')
      else none
    |_,_=>none
  | .sliceStr x lo hi=>match ev fr x with
    | .str s=>match bounds fr s.length s.length lo hi none with
      |some (l,k,_)=>some (.str ((s.take k).drop l),h)
      |none=>none
    |_=>none
  | .slice size x lo hi mx=>pureV h (sliceVal fr size (ev fr x) lo hi mx)
  | .sliceArr n size x lo hi mx=>match ev fr x with
    | .ptr b o=>match bounds fr n n lo hi mx with
      |some (l,k,m)=>some (.slice b (o+l*size) (k - l) (m - l) 0,h)
      |none=>none
    |_=>none
  | .faddr off x=>match ev fr x with
    | .ptr b o=>some (.ptr b (o+off),h)
    | .ref c o=>some (.ref c (o+off),h)
    |_=>none
  | .faddrZ x=>match ev fr x with
    | .ptr b _=>match h.get b with
      |some (.cells _)=>some (.zp,h)
      |_=>none
    | .ref _ _=>some (.zp,h)
    |_=>none
  | .field agg off n x=>match ev fr x with
    | .agg l => if off + n ≤ l.length then (if agg then some (.agg ((l.drop off).take n), h) else match l[off]? with
        |some v=>some (v,h)
        |none=>none) else none
    |_=>none
  | .iaddr size x i=>match ev fr x,ev fr i with
    | .slice b o len _ _,.int _ i=>if 0≤i∧i<len then some (.ptr b (o+i.toNat*size),h) else none
    | .list c len _,.int _ i=>if 0≤i∧i<len then some (.ref c (i.toNat*size),h) else none
    |_,_=>none
  | .iaddrArr len size x i=>match ev fr x,ev fr i with
    | .ptr b o,.int _ i=>if 0≤i∧i<len then some (.ptr b (o+i.toNat*size),h) else none
    | .ref c o,.int _ i=>if 0≤i∧i<len then some (.ref c (o+i.toNat*size),h) else none
    |_,_=>none
  | .index x i=>match ev fr x,ev fr i with
    | .str s, .int _ i => if 0 ≤ i then (match s[i.toNat]? with
        |some c=>some (toByte c,h)
        |none=>none) else none
    |_,_=>none
  | .indexArr len agg size x i=>match ev fr x,ev fr i with
    | .agg l,.int _ i=>if 0≤i∧i<len∧i.toNat*size+size≤l.length then
        (if agg then some (.agg ((l.drop (i.toNat * size)).take size), h) else match l[i.toNat * size]? with
          |some v=>some (v,h)
          |none=>none) else none
    |_,_=>none
  | .ext x i=>match ev fr x with
    | .tup l=>match l[i]? with
      |some v=>some (v,h)
      |none=>none
    |_=>none
  | .call f args=>call f (evs fr args) h
  | .callv x args=>match ev fr x with
    | .func (.func f) first captured=>call f (first++evs fr args++captured) h
    | .func (.yield r) first captured=>call (big+r) (captured++.tup (evs fr args)::first) h
    |_=>none
  | .invoke recv name args=>match ev fr recv with
    | .iface t v=>match meth t v name with
      |some (f,r)=>call f (r::evs fr args) h
      |none=>none
    |_=>none
  | .outer e args=>pureV h (outer h e (evs fr args))
  | .lenOf x=>match ev fr x with
    | .nils =>some (.int .i64 0,h)
    | .slice _ _ n _ _=>some (.int .i64 n,h)
    | .list _ n _=>some (.int .i64 n,h)
    |_=>none
  | .lenStr x=>match ev fr x with
    | .str s=>some (.int .i64 s.length,h)
    |_=>none
  | .lenMap x=>match ev fr x with
    | .nilm =>some (.int .i64 0,h)
    | .map b=>match h.get b with
      |some (.map es)=>some (.int .i64 es.length,h)
      |_=>none
    | .vmap ks _=>some (.int .i64 ks.length,h)
    |_=>none
  | .lenConst n=>some (.int .i64 n,h)
  | .capOf x=>match ev fr x with
    | .nils =>some (.int .i64 0,h)
    | .slice _ _ _ cap 0=>some (.int .i64 cap,h)
    | .list _ n 0=>some (.int .i64 n,h)
    |_=>none
  | .append size bytes x y=>append h size bytes (ev fr x) (ev fr y)
  | .appendZ size bytes zero x y=>match ev fr y with
    | .int _ n=>if 0≤n∧n≤maxBytes∧n.toNat*bytes≤maxBytes∧zero.length=size then appendN h size bytes (ev fr x) n.toNat (repeatL zero n.toNat) else none
    |_=>none
  | .copy size x y=>match lenVal (ev fr y) with
    |none=>none
    |some m=>match ev fr x with
      | .nils =>some (.int .i64 0,h)
      | .slice b o len _ _=>
        let n:=min m len
        match firstCells h size n (ev fr y) with
        |none=>none
        |some c=>if n*size=0 then some (.int .i64 n,h) else match h.store b o c with
          |some h'=>some (.int .i64 n,h')
          |none=>none
      |_=>none
  | .minmax isMax l=>match evs fr l with
    |[]=>none
    |v::r=>pureV h (minmaxL isMax v r)
  | .clear zero x=>match ev fr x with
    | .nils =>some (.tup [],h)
    | .slice b o len _ _=>if len*zero.length=0 then some (.tup [],h) else match h.store b o (repeatL zero len) with
      |some h'=>some (.tup [],h')
      |none=>none
    | .nilm =>some (.tup [],h)
    | .map b => if h.floor ≤ b then (match h.get b with
      |some (.map _)=>some (.tup [],h.put b (some (.map [])))
      |_=>none) else none
    |_=>none
  | .mkmap =>let (b,h'):=h.new (.map []);some (.map b,h')
  | .lookup q zero ok x k=>
    if eqVal q (ev fr k) (ev fr k)=some true then
    match (match ev fr x with
      | .nilm =>some none
      | .map b=>match h.get b with
        |some (.map es)=>findKey q (ev fr k) es
        |_=>none
      | .vmap ks vs=>findKey q (ev fr k) (ks.zip vs)
      |_=>none) with
    |none=>none
    |some r=>
      let v:=r.getD zero
      some (if ok then .tup [v,.bool r.isSome] else v,h)
    else none
  | .mapUpdate q m k v=>match ev fr m with
    | .map b => if h.floor ≤ b ∧ eqVal q (ev fr k) (ev fr k) = some true then (match h.get b with
      |some (.map es)=>match setKey q (ev fr k) (ev fr v) es with
        |some es'=>some (.undef,h.put b (some (.map es')))
        |none=>none
      |_=>none) else none
    |_=>none
  | .bad =>none
def setDst (fr:List Val):Option Nat→Val→List Val
 |some d,v=>fr.set d v
 |none,_=>fr
def wanted (fr:List Val):Option (Nat×Bool)→Option Bool
 |none=>some true
 |some (t,want)=>match fr.getD t .undef with
  | .bool b=>some (b==want)
  | .undef =>some false
  |_=>none
def runOps (meth:TypeId→Val→String→Option (FuncId×Val)) (call:CallT):List VOper→List Val→Heap→Option (List Val×Heap)
 |[],fr,h=>some (fr,h)
 |o::r,fr,h=>
  match wanted fr o.guard with
  |none=>none
  |some false=>runOps meth call r (setDst fr o.dst .undef) h
  |some true=>
   match step meth call fr h o.op with
   |some (v,h')=>runOps meth call r (setDst fr o.dst v) h'
   |none=>none
def VOp.kind:VOp→Nat
 | .alloc _| .box .. | .bslice .. | .mkslice .. | .mkmap | .s2b _=>1
 | .load .. | .faddrZ _| .b2s _| .call .. | .callv .. | .invoke .. | .outer .. | .lenMap _| .lookup .. =>2
 | .store .. | .append .. | .appendZ .. | .copy .. | .clear .. | .mapUpdate .. =>3
 |_=>0
def hiddenOf (rs:List (Nat×Nat)):List Nat→List (Nat×Nat)
 |[]=>[]
 |i::r=>if (rs.getD i (0,0)).1<(rs.getD i (0,0)).2 then rs.getD i (0,0)::hiddenOf rs r else hiddenOf rs r
def isLoose:Val→Bool
 | .slice _ _ _ _ ls=>ls != 0
 |_=>false
def isApp (fr:List Val):VOp→Bool
 | .append _ _ x _=> !isLoose (ev fr x)
 |_=>false
def wrBlocks (fr:List Val):VOp→Option (List Nat)
 | .store _ x _=>match ev fr x with
  | .ptr b _=>some [b]
  |_=>none
 | .append _ _ x y=>match ev fr x,ev fr y with
  | .slice b _ _ _ _,.slice s _ _ _ _=>if b<s then some [b,s] else if s<b then some [s,b] else none
  |_,_=>none
 |_=>none
def unseen (all:List VOper) (fr:List Val) (bs:List Nat) (i:Nat):Bool:=match all[i]? with
  | some q => decide (q.op.kind ≤ 1) || (match q.op with
    | .load _ _ (.t t) => q.guard.isNone && (all.drop i).all (fun z => decide (z.dst ≠ some t)) && (match fr.getD t .undef with
      | .ptr c _=> !bs.contains c
      |_=>false)
    |_=>false)
  |none=>false
def dropL:List Nat→Heap→Heap
 |[],h=>h
 |b::r,h=>dropL r (h.put b none)
def wrEnd:VOp→List Nat→Heap→Heap
 | .append ..,bs,h=>dropL bs h
 |_,_,h=>h
def wrRange:VOp→List Nat→Heap→Heap→Nat×Nat
 | .append ..,_,h,h'=>(h.next,h'.next)
 |_,b::_,_,_=>(b,b+1)
 |_,[],_,_=>(0,0)
def wrOk (all:List VOper) (hide:List Nat) (fr:List Val) (bs:List Nat) (h hv:Heap):Bool:=bs.all (fun b=>decide (h.floor≤b)&&(hv.get b).isSome)&&hide.all (unseen all fr bs)
def runDraw (meth:TypeId→Val→String→Option (FuncId×Val)) (call:CallT) (all:List VOper):List VOper→List (Nat×Nat)→List Val→Heap→Option (List Val×Heap)
 |[],_,fr,h=>some (fr,h)
 |o::r,rs,fr,h=>
  match wanted fr o.guard with
  |none=>none
  |some false=>runDraw meth call all r (rs++[(h.next,h.next)]) (setDst fr o.dst .undef) h
  |some true=>
   if o.op.kind≤1∨o.full=true then
    match step meth call fr h o.op with
    |some (v,h')=>runDraw meth call all r (rs++[(h.next,h'.next)]) (setDst fr o.dst v) h'
    |none=>none
   else if o.op.kind=2∨isApp fr o.op=true then
    match step meth call fr {h with hid:=hiddenOf rs o.hide++h.hid,floor:=h.next} o.op with
    |some (v,h')=>runDraw meth call all r (rs++[(h.next,h'.next)]) (setDst fr o.dst v) {h' with hid:=h.hid,floor:=h.floor}
    |none=>none
   else match wrBlocks fr o.op with
    |none=>none
    |some bs=>if wrOk all o.hide fr bs h {h with hid:=hiddenOf rs o.hide++h.hid}=true then
      match step meth call fr {h with hid:=hiddenOf rs o.hide++h.hid} o.op with
      |some (v,h')=>runDraw meth call all r (rs++[wrRange o.op bs h (wrEnd o.op bs {h' with hid:=h.hid})]) (setDst fr o.dst v) (wrEnd o.op bs {h' with hid:=h.hid})
      |none=>none
     else none
def readResults (fr:List Val) (h:Heap):List (Nat×Option (Bool×Nat))→Option (List Val)
 |[]=>some []
 |(t,none)::r=>match readResults fr h r with
  |some l=>some (fr.getD t .undef ::l)
  |none=>none
 |(t,some (agg,n))::r=>
  match fr.getD t .undef with
  | .ptr b o=>match h.load b o n,readResults fr h r with
   |some c,some l=>if agg then some (.agg c::l) else match c with
    |[v]=>some (v::l)
    |_=>none
   |_,_=>none
  |_=>none
def resultOf:List Val→Val
 |[v]=>v
 |l=>.tup l
def enter (ntmps:Nat) (args:List Val):List Val:=args++List.replicate (ntmps - args.length) .undef
def setAll:List Val→List (Nat×Val)→List Val
 |fr,[]=>fr
 |fr,(t,v)::r=>setAll (fr.set t v) r
def Ex.code:Ex→Nat
 | .normal =>0
 | .ret =>2
 | .exit i=>i+3
def Ex.isNormal:Ex→Bool
 | .normal =>true
 |_=>false
def roundF (ex:VC→List Val→Heap→Option (Ex×List Val×Heap)) (rd:Rnd) (j:Nat) (vals fr:List Val) (h:Heap):Option (Val×Heap):=
 if vals.length=rd.ps.length∧h.floor≤j then
  match h.get j with
  |some (.rnd 0)=>
   match ex rd.a (setAll fr (rd.ps.zip vals)) h with
   |some (.normal,fr1,h1)=>
    match h1.get j with
    |some (.rnd 0)=>
     match ex rd.b fr1 (h1.put j (some (.rnd 1))) with
     |some (e,_,h2)=>match h2.get j with
      |some (.rnd _)=>some (.bool e.isNormal,h2.put j (some (.rnd e.code)))
      |_=>none
     |none=>none
    |_=>none
   |_=>none
  |_=>none
 else none
def VC.plain:VC→Bool
 | .seq a b| .cond _ a b=>a.plain&&b.plain
 | .block _ a| .loop a=>a.plain
 | .range .. =>false
 |_=>true
def deferF (E:Env) (ex:VC→List Val→Heap→Option (Ex×List Val×Heap)) (df:DFn) (args:List Val) (h:Heap):Option (Val×Heap):=
 match ex df.pre (enter df.ntmps args) h with
 |some (.normal,fr1,h1)=>match fr1.getD df.t .undef with
  | .func (.func g) first captured=>match E.prims g,E.fns g with
   |none,some vg=>match ex df.body fr1 h1 with
    |some (.exit _,_,_)=>none
    |some (_,fr2,h2)=>match ex vg.body (enter vg.ntmps (first++captured)) h2 with
     |some (.exit _,_,_)=>none
     |some (_,fr3,h3)=>match vg.body.plain,readResults fr3 h3 vg.results,readResults fr2 h3 df.results with
      |true,some _,some l=>some (resultOf l,h3)
      |_,_,_=>none
     |none=>none
    |none=>none
   |_,_=>none
  |_=>none
 |_=>none
def callF (E:Env) (ex:VC→List Val→Heap→Option (Ex×List Val×Heap)):CallT:=fun f args h=>
  match E.prims f with
  |some p=>p args h
  |none=>
  match E.fns f with
  |some vf=>
    match ex vf.body (enter vf.ntmps args) h with
    |some (.exit _,_,_)=>none
    |some (_,fr,h')=>match readResults fr h' vf.results with
      |some l=>some (resultOf l,h')
      |none=>none
    |none=>none
  |none=>
    if f < big then (match E.dfr f with
      |some df=>deferF E ex df args h
      |none=>none) else
    match E.rnd (f - big),args with
    |some rd,.ptr j _::.tup vals::fr=>roundF ex rd j vals fr h
    |_,_=>none
def endRange (fr:List Val) (j:Nat) (h:Heap):Option (Ex×List Val×Heap):=
 match h.get j with
 |some (.rnd 0)=>some (.normal,fr,h.put j (some (.rnd 1)))
 |some (.rnd 2)=>some (.ret,fr,h.put j (some (.rnd 1)))
 |some (.rnd (i+3))=>some (.exit i,fr,h.put j (some (.rnd 1)))
 |_=>none
def exec (E:Env):Nat→VC→List Val→Heap→Option (Ex×List Val×Heap)
 |0,_,_,_=>none
 |n+1,c,fr,h=>
  match c with
  | .skip =>some (.normal,fr,h)
  | .region ops=>match runOps E.meth (callF E (exec E n)) ops fr h with
   |some (fr',h')=>some (.normal,fr',h')
   |none=>none
  | .draw ops=>match runDraw E.meth (callF E (exec E n)) ops ops [] fr h with
   |some (fr',h')=>some (.normal,fr',h')
   |none=>none
  | .seq a b=>match exec E n a fr h with
   |some (.normal,fr',h')=>exec E n b fr' h'
   |r=>r
  | .cond c a b=>match ev fr c with
   | .bool true=>exec E n a fr h
   | .bool false=>exec E n b fr h
   |_=>none
  | .block id a=>match exec E n a fr h with
   |some (.exit i,fr',h')=>if i=id then some (.normal,fr',h') else some (.exit i,fr',h')
   |r=>r
  | .loop a=>match exec E n a fr h with
   |some (.normal,fr',h')=>exec E n (.loop a) fr' h'
   |r=>r
  | .range x r _ _ _=>match ev fr x with
   | .func (.func f) first captured=>match callF E (exec E n) f (first++.func (.yield r) fr [.ptr h.next 0]::captured) (h.new (.rnd 0)).2 with
    |some (_,h')=>if h'.floor≤h.next then endRange fr h.next h' else none
    |none=>none
   |_=>none
  | .exit id=>some (.exit id,fr,h)
  | .ret =>some (.ret,fr,h)
def run (E:Env) (n:Nat):CallT:=callF E (exec E n)
end Go.V
end
section
namespace Go.V
mutual
def cVal:Value→Option Val
 | .bool b=>some (.bool b)
 | .int k n=>some (.int k n)
 | .string s=>some (.str s.data.toList)
 | .pointer none=>some .nilp
 | .slice none n c=>if n=0∧c=0 then some .nils else none
 | .map none=>some .nilm
 | .nilFunc =>some .nilf
 | .nilIface =>some .nili
 | .agg a=>match cVals a.toList with
  |some l=>some (.agg l)
  |none=>none
 | .tuple a=>match a.toList with
  |[]=>some .undef
  |_=>none
 |_=>none
def cVals:List Value→Option (List Val)
 |[]=>some []
 |v::r=>match cVal v,cVals r with
  |some x,some l=>some (x::l)
  |_,_=>none
end
def cOpd:Operand→Option Opd
 | .tmp t=>some (.t t)
 | .const v=>(cVal v).map .c
 | .func f=>if f<big then some (.c (.func (.func f) [] [])) else none
 | .global _=>none
def cOpds:List Operand→Option (List Opd)
 |[]=>some []
 |x::r=>match cOpd x,cOpds r with
  |some a,some l=>some (a::l)
  |_,_=>none
def cOpt:Option Operand→Option (Option Opd)
 |none=>some none
 |some x=>(cOpd x).map some
def cZero (P:Program) (t:TypeId):Option (List Val):=
 match (P.info? t).bind (·.zero) with
 |some v=>(cVal v).map Val.cells
 |none=>none
def typeOk (P:Program) (e:TypeId):Bool:=(List.range (P.cellsOf e)).all fun i=>(byteOfCell P P.depth e i).isSome
def smallFn:Fn→Bool
 | .func f=>decide (f<big)
 | .yield _=>false
 |_=>true
def aggType (P:Program) (t:TypeId):Bool:=
 match P.underlying t with
 |some (.struct _)|some (.array _ _)=>true
 |_=>false
def shift (k:Nat) (os:List (Nat×Ek)):List (Nat×Ek):=os.map fun p=>(p.1+k,p.2)
def fieldLeaves (P:Program) (leaf:TypeId→Option (List (Nat×Ek))):List Field→Option (List (Nat×Ek))
 |[]=>some []
 |f::r=>if f.name= "_" then none else match P.underlying f.type,leaf f.type,fieldLeaves P leaf r with
  |some _,some os,some rs=>if os.all (fun p=>decide (p.1<P.cellsOf f.type))=true then some (shift f.offset os++rs) else none
  |_,_,_=>none
def itemLeaves (os:List (Nat×Ek)) (size:Nat):List Nat→List (Nat×Ek)
 |[]=>[]
 |i::r=>shift (i*size) os++itemLeaves os size r
def leaves (P:Program):Nat→TypeId→Option (List (Nat×Ek))
 |0,_=>none
 |d+1,t=>
  match P.underlying t with
  |some (.int _)=>some [(0,.i)]
  |some .bool =>some [(0,.b)]
  |some .string =>some [(0,.s)]
  |some (.struct fs)=>if P.stoodInHeld t=true then none else fieldLeaves P (leaves P d) fs.toList
  |some (.array n e)=>match P.underlying e,leaves P d e with
   |some _,some os=>if os.all (fun p=>decide (p.1<P.cellsOf e))=true then some (itemLeaves os (P.cellsOf e) (List.range n)) else none
   |_,_=>none
  |_=>none
def cNil (P:Program) (t:TypeId):Option Nk:=
 match P.underlying t with
 |some (.pointer _)=>some .p
 |some (.slice _)=>some .s
 |some (.func _ _ _)=>some .f
 |some (.map _ _)=>some .m
 |some (.interface _)=>some .i
 |_=>none
def isNilConst:Operand→Bool
 | .const (.pointer none)| .const (.slice none _ _)| .const (.map none)| .const .nilFunc | .const .nilIface =>true
 |_=>false
def cParts (place:Nat→Option (Nat×Nat)):List (Nat×Operand)→Option (List (Nat×Nat×Opd))
 |[]=>some []
 |(i,x)::r=>match place i,cOpd x,cParts place r with
  |some (o,n),some y,some l=>some ((o,n,y)::l)
  |_,_,_=>none
def csName:String:=match Extern.BytealgCompare.rows with
 |[_,x]=>x.1
 |_=> ""
def isCmpStr (fn:Func):Bool:=fn.body.isNone&&fn.name==csName&&(Extern.allNextRows.lookup fn.origin).isNone
def cOp (P:Program) (o:Oper):Option VOp:=
  match o.op with
  | .move x| .assign x=>(cOpd x).map .mov
  | .pick c a b=>match cOpd c,cOpd a,cOpd b with
    |some c,some a,some b=>some (.pick c a b)
    |_,_,_=>none
  | .alloc e=>if typeOk P e=true then (cZero P e).map .alloc else none
  | .box e x=>match cOpd x with
    |some x=>if typeOk P e=true then some (.box x (P.cellsOf e)) else none
    |none=>none
  | .build t parts=>match cZero P t,P.underlying t with
    |some z,some (.struct fs)=>if fs.toList.all (fun f=>(P.info? f.type).isSome) then (cParts (fun i=>(fs[i]?).map fun f=>(f.offset,P.cellsOf f.type)) parts.toList).map (.build z) else none
    |some z,some (.array _ e)=>if (P.info? e).isSome then (cParts (fun i=>some (i*P.cellsOf e,P.cellsOf e)) parts.toList).map (.build z) else none
    |_,_=>none
  | .buildSlice t len parts=>match P.underlying t with
    |some (.slice e)=>match cZero P e with
      |some z=>if (z.length=P.cellsOf e∧len*z.length≤2^24)∧typeOk P e=true then (cParts (fun i=>some (i*P.cellsOf e,P.cellsOf e)) parts.toList).map (.bslice len (repeatL z len)) else none
      |none=>none
    |_=>none
  | .load t a=>match P.underlying t,cOpd a with
    |some _,some a=>some (.load (aggType P t) (P.cellsOf t) a)
    |_,_=>none
  | .store t a v=>match P.info? t,cOpd a,cOpd v with
    |some _,some a,some v=>some (.store (P.cellsOf t) a v)
    |_,_,_=>none
  | .nilCheck x=>(cOpd x).map .nilCheck
  | .binOp op t x y _=>match cOpd x,cOpd y with
    |some a,some b=>
      if op=.eql ∨op=.neq then
        (if isNilConst x || isNilConst y then (cNil P t).map fun k => .eqnil (op = .neq) k a b
        else if P.eqGuardType P.depth t then none else (leaves P 8 t).map fun os=>.eql (op=.neq) ⟨aggType P t,os⟩ a b)
      else some (.arith op a b)
    |_,_=>none
  | .unOp op _ x=>(cOpd x).map (.un op)
  | .convert s t x=>match P.underlying s,P.underlying t,cOpd x with
    |some (.int _),some (.int k),some x=>some (.convInt k x)
    |some .string,some .string,some x=>some (.convSame x)
    |some .string,some (.slice e),some x=>match P.underlying e with
      |some (.int .u8)=>if typeOk P e=true then some (.s2b x) else none
      |_=>none
    |some (.slice e),some .string,some x=>match P.underlying e with
      |some (.int .u8)=>some (.b2s x)
      |_=>none
    |_,_,_=>none
  | .makeInterface t x=>match P.underlying t with
    |some (.interface _)=>none
    |some _=>(cOpd x).map (.mkiface t)
    |none=>none
  | .makeFunc fn first captured=>match cOpds first.toList,cOpds captured.toList with
    |some a,some b=>if smallFn fn=true then some (.mkfunc fn a b) else none
    |_,_=>none
  | .makeSlice t l c=>match P.underlying t,cOpd l,cOpd c with
    |some (.slice e),some l,some c=>match cZero P e with
      |some z=>if P.cellsOf e=z.length∧typeOk P e=true then some (.mkslice (P.cellsOf e) (P.bytesOf e) z l c) else none
      |none=>none
    |_,_,_=>none
  | .slice t x lo hi mx=>match P.underlying t,cOpd x,cOpt lo,cOpt hi,cOpt mx with
    |some .string,some x,some lo,some hi,some none=>some (.sliceStr x lo hi)
    |some (.slice e),some x,some lo,some hi,some mx=>if (P.info? e).isSome then some (.slice (P.cellsOf e) x lo hi mx) else none
    |some (.array n e),some x,some lo,some hi,some mx=>if (P.info? e).isSome then some (.sliceArr n (P.cellsOf e) x lo hi mx) else none
    |_,_,_,_,_=>none
  | .fieldAddr t x f=>match P.underlying t,cOpd x with
    |some (.struct fs),some x=>match fs[f]? with
      |some f=>if (P.info? f.type).isSome then (if P.cellsOf f.type=0 then some (.faddrZ x) else some (.faddr f.offset x)) else none
      |none=>none
    |_,_=>none
  | .field t x f=>match P.underlying t,cOpd x with
    |some (.struct fs),some x=>match fs[f]? with
      |some f=>if (P.underlying f.type).isSome then some (.field (aggType P f.type) f.offset (P.cellsOf f.type) x) else none
      |none=>none
    |_,_=>none
  | .indexAddr t x i=>match P.underlying t,cOpd x,cOpd i with
    |some (.slice e),some x,some i=>if (P.info? e).isSome then some (.iaddr (P.cellsOf e) x i) else none
    |some (.array n e),some x,some i=>if (P.info? e).isSome then some (.iaddrArr n (P.cellsOf e) x i) else none
    |_,_,_=>none
  | .index t x i=>match P.underlying t,cOpd x,cOpd i with
    |some .string,some x,some i=>some (.index x i)
    |some (.array n e),some x,some i=>if (P.underlying e).isSome then some (.indexArr n (aggType P e) (P.cellsOf e) x i) else none
    |_,_,_=>none
  | .extract x i=>(cOpd x).map (.ext · i)
  | .makeMap t none=>match P.underlying t with
    |some (.map _ _)=>some .mkmap
    |_=>none
  | .lookup t x i ok=>match P.underlying t,cOpd x,cOpd i with
    |some (.map k e),some x,some i=>match leaves P 8 k,((P.info? e).bind (·.zero)).bind cVal with
      |some os,some z=>some (.lookup ⟨aggType P k,os⟩ z ok x i)
      |_,_=>none
    |_,_,_=>none
  | .mapUpdate t m k v| .insert t m k v=>match P.underlying t,cOpd m,cOpd k,cOpd v with
    |some (.map kt _),some m,some k,some v=>match leaves P 8 kt with
      |some os=>some (.mapUpdate ⟨aggType P kt,os⟩ m k v)
      |none=>none
    |_,_,_,_=>none
  | .call c=>match cOpds c.args.toList with
    |none=>none
    |some args=>match c.callee with
      | .value (.func f)=>match P.funcs[f]? with
        |some fn=>if fn.name== "runtime.NumGoroutine" then none else if fn.body.isSome then (if f<big then some (.call f args) else none) else if isCmpStr fn then some (.outer .compareString args) else none
        |none=>none
      | .value x=>(cOpd x).map (.callv · args)
      | .invoke r name=>(cOpd r).map (.invoke · name args)
      | .builtin .len =>match c.argTypes.toList,args with
        |[t],[x]=>match P.underlying t with
          |some .string =>some (.lenStr x)
          |some (.slice _)=>some (.lenOf x)
          |some (.map _ _)=>some (.lenMap x)
          |some (.array n _)=>some (.lenConst n)
          |some (.pointer a)=>match P.underlying a with
            |some (.array n _)=>some (.lenConst n)
            |_=>none
          |_=>none
        |_,_=>none
      | .builtin .cap =>match c.argTypes.toList,args with
        |[t],[x]=>match P.underlying t with
          |some (.slice _)=>some (.capOf x)
          |some (.array n _)=>some (.lenConst n)
          |_=>none
        |_,_=>none
      | .builtin .append =>match c.argTypes.toList,args with
        |[t,u],[x,y]=>match P.underlying t,P.underlying u with
          |some (.slice e),some d=>match cZero P e with
            | some z => if z.length = P.cellsOf e ∧ typeOk P e = true then (match d with
              | .int _=>some (.appendZ (P.cellsOf e) (P.bytesOf e) z x y)
              | .slice _| .string =>some (.append (P.cellsOf e) (P.bytesOf e) x y)
              |_=>none) else none
            |none=>none
          |_,_=>none
        |_,_=>none
      | .builtin .copy =>match c.argTypes.toList,args with
        |[t,_],[x,y]=>match P.underlying t with
          |some (.slice e)=>if (P.info? e).isSome then some (.copy (P.cellsOf e) x y) else none
          |_=>none
        |_,_=>none
      | .builtin .min =>some (.minmax false args)
      | .builtin .max =>some (.minmax true args)
      | .builtin .clear =>match c.argTypes.toList,args with
        |[t],[x]=>match P.underlying t with
          |some (.slice e)=>(cZero P e).map (.clear · x)
          |some (.map _ _)=>some (.clear [.undef] x)
          |_=>none
        |_,_=>none
      |_=>none
  | .panic _=>some .bad
  |_=>none
def touching:List VOp→Nat→List Nat
 |[],_=>[]
 |o::r,i=>if o.kind=0 then touching r (i+1) else i::touching r (i+1)
def cOps (P:Program):List Oper→Option (List VOp)
 |[]=>some []
 |o::r=>match cOp P o,cOps P r with
  |some a,some l=>some (a::l)
  |_,_=>none
def cGuard (ops:Array Oper):Option (Nat×Bool)→Option (Option (Nat×Bool))
 |none=>some none
 |some (j,want)=>match (ops[j]?).bind (·.dst) with
  |some t=>some (some (t,want))
  |none=>none
def cOpers (ops:Array Oper) (b:Array Nat) (ts:List Nat):List Oper→List VOp→Nat→Option (List VOper)
 |[],[],_=>some []
 |o::r,v::rv,i=>
  let bi:=b.getD i 0
  match cGuard ops o.guard,cOpers ops b ts r rv (i+1) with
  |some g,some l=>some ({dst:=o.dst,op:=v,guard:=g,full:=ts.all (fun j=>j==i||(if j<i then bi.testBit j else (b.getD j 0).testBit i)),hide:=ts.filter fun j=>j<i&& !bi.testBit j}::l)
  |_,_=>none
 |_,_,_=>none
def Opd.tmp:Opd→List Nat
 | .t n=>[n]
 | .c _=>[]
def optTmp:Option Opd→List Nat
 |some x=>x.tmp
 |none=>[]
def VOp.tmps:VOp→List Nat
 | .mov x| .box x _| .load _ _ x| .nilCheck x| .un _ x| .convInt _ x| .convSame x| .b2s x| .s2b x| .mkiface _ x| .faddr _ x| .faddrZ x| .field _ _ _ x| .ext x _| .lenOf x| .lenStr x| .lenMap x| .capOf x| .clear _ x=>x.tmp
 | .alloc _| .lenConst _| .mkmap | .bad =>[]
 | .pick a b c| .mapUpdate _ a b c=>a.tmp++b.tmp++c.tmp
 | .build _ ps| .bslice _ _ ps=>ps.flatMap fun p=>p.2.2.tmp
 | .store _ a b| .arith _ a b| .eql _ _ a b| .eqnil _ _ a b| .mkslice _ _ _ a b| .iaddr _ a b| .iaddrArr _ _ a b| .index a b| .indexArr _ _ _ a b| .append _ _ a b| .appendZ _ _ _ a b| .copy _ a b| .lookup _ _ _ a b=>a.tmp++b.tmp
 | .mkfunc _ a b=>a.flatMap Opd.tmp++b.flatMap Opd.tmp
 | .sliceStr x l h=>x.tmp++optTmp l++optTmp h
 | .slice _ x l h m| .sliceArr _ _ x l h m=>x.tmp++optTmp l++optTmp h++optTmp m
 | .call _ l| .outer _ l| .minmax _ l=>l.flatMap Opd.tmp
 | .callv x l| .invoke x _ l=>x.tmp++l.flatMap Opd.tmp
def operandTmps (o:Oper):List Nat:=o.op.operands.toList.flatMap fun| .tmp t=>[t]|_=>[]
def namesOf (o:Oper) (v:VOper):List Nat:=v.dst.toList++operandTmps o++v.op.tmps++(match v.guard with|some (t,_)=>[t]|none=>[])
def writersOf:List VOper→Nat→List (Nat×Nat)
 |[],_=>[]
 |v::r,i=>match v.dst with
  |some d=>(d,i)::writersOf r (i+1)
  |none=>writersOf r (i+1)
def tmpsOk (b:Array Nat) (ws:List (Nat×Nat)):List Oper→List VOper→Nat→Bool
 |o::r,v::rv,j=>((namesOf o v).all fun t=>ws.all fun p=>p.1 != t||p.2==j||(b.getD (max p.2 j) 0).testBit (min p.2 j))&&tmpsOk b ws r rv (j+1)
 |[],[],_=>true
 |_,_,_=>false
def edgesOk:List Oper→Nat→Bool
 |[],_=>true
 |o::r,i=>(o.after.toList.all fun e=> !Region.binds .any e||decide (e.on<i))&&edgesOk r (i+1)
def notSelect:Op→Bool
 | .select .. =>false
 |_=>true
def cRegion (P:Program) (ops:Array Oper) (draw:Bool):Option VC:=
 match cOps P ops.toList with
 |none=>none
 |some vs=>
  let b:=Region.before ops
  let ts:=touching vs 0
  if draw then
   match cOpers ops b ts ops.toList vs 0 with
   |some l=>if P.follows .mixedOrders &&tmpsOk b (writersOf l 0) ops.toList l 0&&edgesOk ops.toList 0&&ops.toList.all (fun o=>notSelect o.op) then some (.draw l) else none
   |none=>none
  else (cOpers ops b [] ops.toList vs 0).map .region
def firstId:Code→Nat
 | .region i _ _=>i
 | .seq a _=>firstId a
 |_=>0
def cCode (P:Program) (b:Option Nat):Code→Option VC
 | .skip =>some .skip
 | .region _ ops draw=>cRegion P ops draw
 | .seq x y=>match cCode P b x,cCode P b y with
  |some x,some y=>some (.seq x y)
  |_,_=>none
 | .cond c x y=>match cOpd c,cCode P b x,cCode P b y with
  |some c,some x,some y=>some (.cond c x y)
  |_,_,_=>none
 | .block id a=>(cCode P b a).map (.block id)
 | .loop a=>(cCode P b a).map .loop
 | .exit id=>some (.exit id)
 | .ret =>some .ret
 | .scope a=>cCode P b a
 | .label _=>some .skip
 | .rangeFunc f ps x y=>match b,cOpd f,cCode P none x,cCode P none y with
  |some k,some f,some vx,some vy=>some (.range f (k+firstId x) ps.toList vx vy)
  |_,_,_,_=>none
 |_=>none
def cTail (P:Program) (b:Option Nat) (l:Nat):Code→Option VC
 | .goto l'=>if l'=l then some .skip else none
 | .seq x y=>match cCode P b x,cTail P b l y with
  |some x,some y=>some (.seq x y)
  |_,_=>none
 |_=>none
def cScope (P:Program) (b:Option Nat):Code→Option (Nat×VC)
 | .seq (.label l) y=>(cTail P b l y).map fun v=>(l,.loop v)
 | .seq x y=>match cCode P b x,cScope P b y with
  |some vx,some (l,vy)=>if (findLabel x l).isNone =true then some (l,.seq vx vy) else none
  |_,_=>none
 |_=>none
def cGo (P:Program) (b:Option Nat):Code→Option VC
 | .seq x y=>match cCode P b x,cGo P b y with
  |some x,some y=>some (.seq x y)
  |_,_=>none
 | .scope c=>(cScope P b c).map (·.2)
 |_=>none
def cBody (P:Program) (b:Option Nat) (c:Code):Option VC:=match cCode P b c with
 |some v=>some v
 |none=>cGo P b c
theorem cBody_or {P:Program} {b:Option Nat} {c:Code} {v:VC} (h:cBody P b c=some v):cCode P b c=some v∨cGo P b c=some v:=by
 unfold cBody at h
 split at h
 ·cases h;rename_i e;exact .inl e
 ·exact .inr h
def cRnd (P:Program) (ps:Array Tmp) (x y:Code):Option Rnd:=
 match cCode P none x,cCode P none y with
 |some vx,some vy=>some ⟨ps.toList,vx,vy⟩
 |_,_=>none
def VC.known (E:Env):VC→Prop
 | .seq a b| .cond _ a b=>a.known E∧b.known E
 | .block _ a| .loop a=>a.known E
 | .range _ r ps a b=>E.rnd r=some ⟨ps,a,b⟩
 |_=>True
theorem VC.known_of_plain {E:Env}: ∀ c:VC,c.plain=true→c.known E
 | .seq a b,h| .cond _ a b,h=>by
  simp only [VC.plain,Bool.and_eq_true] at h
  exact ⟨known_of_plain a h.1,known_of_plain b h.2⟩
 | .block _ a,h| .loop a,h=>by
  simp only [VC.plain] at h
  exact known_of_plain a h
 | .range ..,h=>by cases h
 | .skip,_| .region _,_| .draw _,_| .exit _,_| .ret,_=>trivial
def cResults (P:Program):List ResultVar→List (Nat×Option (Bool×Nat))
 |[]=>[]
 | .tmp t::r=>(t,none)::cResults P r
 | .cell a t::r=>(a,some (aggType P t,P.cellsOf t))::cResults P r
def cFn (P:Program) (b:Option Nat) (fn:Func):Option VFn:=
 match fn.body with
 |none=>none
 |some c=>if (fn.results.toList.all fun r=>match r with| .tmp _=>true| .cell _ t=>(P.underlying t).isSome)=true then (cBody P b c).map fun b=>{ntmps:=fn.ntmps,results:=cResults P fn.results.toList,body:=b} else none
def cDfn (P:Program) (fn:Func):Option DFn:=
  match fn.body with
  |some (.seq c0 (.seq (.region _ ops false) c1))=>
    match ops.toList.getLast? with
    |some o=>match o.op with
      | .defer c=>match c.callee,c.args.toList with
        | .value (.tmp t),[]=>if o.dst=none∧o.guard=none∧(fn.results.toList.all fun r=>match r with| .tmp _=>true| .cell _ t=>(P.underlying t).isSome)=true then
            (match cCode P none c0, cRegion P ops.pop false, cCode P none c1 with
            |some v0,some v1,some v2=>some {ntmps:=fn.ntmps,results:=cResults P fn.results.toList,pre:=.seq v0 v1,t:=t,body:=v2}
            |_,_,_=>none) else none
        |_,_=>none
      |_=>none
    |none=>none
  |_=>none
end Go.V
end
section
namespace Go.V
structure Loc where
 c:Nat
 s:Nat
 e:Nat
 t:Bool
 rd:Option (Nat×Array Value)
class Gd where
 ty:TypeId→Prop
 rd:Nat→Array Tmp→Code→Code→Prop
abbrev Ren:=Nat→Option Loc
mutual
def VRel (ρ:Ren):Val→Value→Prop
 | .undef,v=>v=.tuple #[]
 | .bool b,v=>v=.bool b
 | .int k n,v=>v=.int k n
 | .str s,v=>v=.string ⟨⟨s⟩⟩
 | .nilp,v=>v=.pointer none
 | .ptr b o,v=> ∃ l,ρ b=some l∧v=.pointer (some ⟨l.c,l.s+o,none⟩)
 | .nils,v=>v=.slice none 0 0
 | .slice b o n cap ls,v=> ∃ a cap',v=.slice (some a) n cap'∧n≤cap∧cap≤cap'∧(ls=0→cap'=cap)∧
   ((cap'=0∧(ls=0∨ ∃ l,ρ b=some l))∨ ∃ l,ρ b=some l∧a=⟨l.c,l.s+o,none⟩∧(ls≠0→l.s+o+cap'*ls≤l.e))
 | .nilm,v=>v=.map none
 | .map b,v=> ∃ l,ρ b=some l∧v=.map (some l.c)
 | .nilf,v=>v=.nilFunc
 | .func f a c,v=>(smallFn f=true∧ ∃ a' c',v=.func f a' c'∧VRels ρ a a'.toList∧VRels ρ c c'.toList)∨
   ∃ r j o l ts,f=.yield r∧c=[.ptr j o]∧ρ j=some l∧l.rd=some (r,ts)∧v=.func (.yield l.c) #[] #[]∧VRels ρ a ts.toList
 | .nili,v=>v=.nilIface
 | .iface t x,v=> ∃ x',v=.iface t x'∧VRel ρ x x'
 | .agg l,v=> ∃ a,v=.agg a∧VRels ρ l a.toList
 | .tup l,v=> ∃ a,v=.tuple a∧VRels ρ l a.toList
 | .zp,v=> ∃ a,v=.pointer (some a)
 | .ref ..,_| .list ..,_| .vmap ..,_| .junk,_=>False
def VRels (ρ:Ren):List Val→List Value→Prop
 |[],l=>l=[]
 |x::r,l=> ∃ y s,l=y::s∧VRel ρ x y∧VRels ρ r s
end
def Ren.le (ρ ρ':Ren):Prop:= ∀ b l,ρ b=some l→ρ' b=some l
theorem Ren.le_refl (ρ:Ren):ρ.le ρ:=fun _ _ h=>h
theorem Ren.le.trans {a b c:Ren} (h:a.le b) (k:b.le c):a.le c:=fun _ _ x=>k _ _ (h _ _ x)
mutual
theorem VRel.mono {ρ ρ':Ren} (h:ρ.le ρ'): ∀ (x:Val) (v:Value),VRel ρ x v→VRel ρ' x v
 | .undef,_,r| .bool _,_,r| .int _ _,_,r| .str _,_,r| .nilp,_,r| .nils,_,r| .nilm,_,r| .nilf,_,r| .nili,_,r| .zp,_,r=>by
  simpa only [VRel] using r
 | .ptr b o,v,r=>by
  simp only [VRel] at r ⊢
  obtain ⟨l,hl,e⟩:=r
  exact ⟨l,h _ _ hl,e⟩
 | .slice b o n cap ls,v,r=>by
  simp only [VRel] at r ⊢
  obtain ⟨a,cap',e,h1,h2,h3,h4⟩:=r
  refine ⟨a,cap',e,h1,h2,h3,?_⟩
  rcases h4 with h4|⟨l,hl,h5⟩
  ·exact .inl ⟨h4.1,h4.2.imp id fun ⟨l,hl⟩=>⟨l,h _ _ hl⟩⟩
  ·exact .inr ⟨l,h _ _ hl,h5⟩
 | .map b,v,r=>by
  simp only [VRel] at r ⊢
  obtain ⟨l,hl,e⟩:=r
  exact ⟨l,h _ _ hl,e⟩
 | .func f a c,v,r=>by
  simp only [VRel] at r ⊢
  rcases r with ⟨e0,a',c',e,h1,h2⟩|⟨r,j,o,l,ts,e1,e2,e3,e4,e5,h1⟩
  ·exact .inl ⟨e0,a',c',e,VRels.mono h _ _ h1,VRels.mono h _ _ h2⟩
  ·exact .inr ⟨r,j,o,l,ts,e1,e2,h _ _ e3,e4,e5,VRels.mono h _ _ h1⟩
 | .iface t x,v,r=>by
  simp only [VRel] at r ⊢
  obtain ⟨x',e,h1⟩:=r
  exact ⟨x',e,VRel.mono h _ _ h1⟩
 | .agg l,v,r=>by
  simp only [VRel] at r ⊢
  obtain ⟨a,e,h1⟩:=r
  exact ⟨a,e,VRels.mono h _ _ h1⟩
 | .tup l,v,r=>by
  simp only [VRel] at r ⊢
  obtain ⟨a,e,h1⟩:=r
  exact ⟨a,e,VRels.mono h _ _ h1⟩
 | .ref ..,_,r| .list ..,_,r| .vmap ..,_,r| .junk,_,r=>by simp only [VRel] at r
theorem VRels.mono {ρ ρ':Ren} (h:ρ.le ρ'): ∀ (x:List Val) (v:List Value),VRels ρ x v→VRels ρ' x v
 |[],_,r=>by simpa only [VRels] using r
 |x::r,v,q=>by
  simp only [VRels] at q ⊢
  obtain ⟨y,s,e,h1,h2⟩:=q
  exact ⟨y,s,e,VRel.mono h _ _ h1,VRels.mono h _ _ h2⟩
end
theorem VRels.nil {ρ:Ren}:VRels ρ [] []:=by simp only [VRels]
theorem VRels.cons {ρ:Ren} {x:Val} {v:Value} {l:List Val} {m:List Value} (h:VRel ρ x v) (t:VRels ρ l m):VRels ρ (x::l) (v::m):=by
 simp only [VRels];exact ⟨_,_,rfl,h,t⟩
theorem VRels.length {ρ:Ren}: ∀ {l:List Val} {m:List Value},VRels ρ l m→m.length=l.length
 |[],m,h=>by simp only [VRels] at h;subst h;rfl
 |x::l,m,h=>by
  simp only [VRels] at h
  obtain ⟨y,s,rfl,_,h2⟩:=h
  simp [VRels.length h2]
theorem VRels.append {ρ:Ren}: ∀ {l l':List Val} {m m':List Value},VRels ρ l m→VRels ρ l' m'→VRels ρ (l++l') (m++m')
 |[],_,m,_,h,k=>by simp only [VRels] at h;subst h;simpa using k
 |x::l,_,m,_,h,k=>by
  simp only [VRels] at h
  obtain ⟨y,s,rfl,h1,h2⟩:=h
  exact .cons h1 (VRels.append h2 k)
theorem VRels.get {ρ:Ren}: ∀ {l:List Val} {m:List Value} (_:VRels ρ l m) (i:Nat) (x:Val),l[i]? =some x→ ∃ v,m[i]? =some v∧VRel ρ x v
 |[],m,_,i,x,e=>by simp at e
 |y::l,m,h,i,x,e=>by
  simp only [VRels] at h
  obtain ⟨z,s,rfl,h1,h2⟩:=h
  cases i with
  |zero=>simp at e;subst e;exact ⟨z,by simp,h1⟩
  |succ i=>simpa using VRels.get h2 i x (by simpa using e)
theorem VRels.of_get {ρ:Ren}: ∀ {l:List Val} {m:List Value},m.length=l.length→(∀ (i:Nat) (x:Val) (v:Value),l[i]? =some x→m[i]? =some v→VRel ρ x v)→VRels ρ l m
 |[],m,e,_=>by
  cases m with
  |nil=>exact .nil
  |cons _ _=>simp at e
 |x::l,m,e,h=>by
  cases m with
  |nil=>simp at e
  |cons v m=>exact .cons (h 0 x v (by simp) (by simp)) (VRels.of_get (by simpa using e) fun i x v a b=>h (i+1) x v (by simpa using a) (by simpa using b))
theorem VRels.drop {ρ:Ren} {l:List Val} {m:List Value} (h:VRels ρ l m) (n:Nat):VRels ρ (l.drop n) (m.drop n):=by
 refine .of_get (by simp [h.length]) fun i x v a b=> ?_
 rw [List.getElem?_drop] at a b
 obtain ⟨v',hv,r⟩:=h.get _ _ a
 rw [b] at hv;cases hv;exact r
theorem VRels.take {ρ:Ren} {l:List Val} {m:List Value} (h:VRels ρ l m) (n:Nat):VRels ρ (l.take n) (m.take n):=by
 refine .of_get (by simp [h.length]) fun i x v a b=> ?_
 rw [List.getElem?_take] at a b
 split at a<;>simp_all
 obtain ⟨v',hv,r⟩:=h.get _ _ a
 rw [b] at hv;cases hv;exact r
theorem VRels.set {ρ:Ren} {l:List Val} {m:List Value} (h:VRels ρ l m) (n:Nat) {x:Val} {v:Value} (hx:VRel ρ x v):VRels ρ (l.set n x) (m.set n v):=by
 refine .of_get (by simp [h.length]) fun i y w a b=> ?_
 rw [List.getElem?_set] at a b
 by_cases hi:n=i
 ·subst hi
  simp only [h.length] at b
  split at a<;>simp_all
 ·simp [hi] at a b
  obtain ⟨v',hv,r⟩:=h.get _ _ a
  rw [b] at hv;cases hv;exact r
theorem VRels.replicate {ρ:Ren} {x:Val} {v:Value} (h:VRel ρ x v) (n:Nat):VRels ρ (List.replicate n x) (List.replicate n v):=by
 refine .of_get (by simp) fun i y w a b=> ?_
 rw [List.getElem?_replicate] at a b
 split at a<;>simp_all
def RSt:Nat→Loop→Prop
 |0,r=>r.state=.ready ∧r.pending=none
 |1,_=>True
 |2,r=>r.state=.done ∧r.pending=some .ret
 |i+3,r=>r.state=.done ∧r.pending=some (.exit i)
section
variable [Gd]
def BRel (ρ:Ren) (w:World) (l:Loc):Blk→Prop
 | .cells c=> ∃ (arr:Array Value) (e:TypeId) (lo hi:Nat),w.heap[l.c]? =some (.cells arr e (lo,hi))∧Gd.ty e∧(∀ j,l.s≤j→(j<l.s+c.length∨j<l.e)→ ¬ (lo≤j∧j<hi))∧l.s+c.length≤arr.size∧l.e≤arr.size∧
   VRels ρ c ((arr.toList.drop l.s).take c.length)∧ ∃ t,(∀ ρ,VRels ρ t ((arr.toList.drop (l.s+c.length)).take (l.e - (l.s+c.length))))∧True
 | .map es=> ∃ (ent:Array MapEntry) (clock:Nat),w.heap[l.c]? =some (.map ent clock)∧
   VRels ρ (es.map Prod.fst) (ent.toList.map (·.key))∧VRels ρ (es.map Prod.snd) (ent.toList.map (·.val))
 | .rnd st=> ∃ (rc:Loop) (r:Nat),w.heap[l.c]? =some (.loop rc)∧l.rd=some (r,rc.tmps)∧Gd.rd r rc.params rc.assign rc.body∧RSt st rc
theorem BRel.lt {ρ:Ren} {w:World} {l:Loc} {x:Blk} (h:BRel ρ w l x):l.c<w.heap.size:=by
 cases x with
 |cells c=>
  obtain ⟨_,_,_,_,h,_⟩:=h
  exact (Array.getElem?_eq_some_iff.1 h).1
 |map es=>
  obtain ⟨_,_,h,_⟩:=h
  exact (Array.getElem?_eq_some_iff.1 h).1
 |rnd st=>
  obtain ⟨_,_,h,_⟩:=h
  exact (Array.getElem?_eq_some_iff.1 h).1
theorem BRel.mono {ρ ρ':Ren} {w w':World} {l:Loc} {x:Blk} (h:BRel ρ w l x) (hr:ρ.le ρ') (hw:w'.heap[l.c]? =w.heap[l.c]?):BRel ρ' w' l x:=by
 cases x with
 |cells c=>
  obtain ⟨arr,e,lo,hi,h1,h0,h2,h3,h4,h5,t,h6⟩:=h
  exact ⟨arr,e,lo,hi,hw.trans h1,h0,h2,h3,h4,VRels.mono hr _ _ h5,t,h6⟩
 |map es=>
  obtain ⟨ent,clock,h1,h2,h3⟩:=h
  exact ⟨ent,clock,hw.trans h1,VRels.mono hr _ _ h2,VRels.mono hr _ _ h3⟩
 |rnd st=>
  obtain ⟨rc,r,h1,h2⟩:=h
  exact ⟨rc,r,hw.trans h1,h2⟩
structure HRel (ρ:Ren) (h:Heap) (w:World):Prop where
 blk: ∀ b x,h.get b=some x→ ∃ l,ρ b=some l∧BRel ρ w l x
 inj: ∀ b b' x x' l l',h.get b=some x→h.get b'=some x'→ρ b=some l→ρ b'=some l'→l.c=l'.c→b=b'∨(b<h.base∧b'<h.base)
 top: ∀ b,h.next≤b→ρ b=none
 low: ∀ b x,h.t.get b=some x→b<h.next
 bs:h.base≤h.floor∧h.base≤h.next
 tight: ∀ b l,h.base≤b→ρ b=some l→l.t=true
structure Post (ρ:Ren) (h:Heap) (w:World) (ρ':Ren) (h':Heap) (w':World):Prop where
 ext:ρ.le ρ'
 hrel:HRel ρ' h' w'
 hid:h'.hid=h.hid
 floor:h'.floor=h.floor
 base:h'.base=h.base
 next:h.next≤h'.next
 live: ∀ b,b<h.next→(h'.get b).isSome =true→(h.get b).isSome =true
 os:w'.os=w.os
 tape:w'.tape=w.tape
 output:w'.output=w.output
 size:w.heap.size≤w'.heap.size
 frame: ∀ c,c<w.heap.size→(∀ b x l,h.get b=some x→h.floor≤b→ρ b=some l→l.c≠c)→w'.heap[c]? =w.heap[c]?
 fresh: ∀ b l,ρ' b=some l→ρ b=none→w.heap.size≤l.c∨ ∃ b0 x0 l0,h.get b0=some x0∧h.floor≤b0∧ρ b0=some l0∧l0.c=l.c
 born: ∀ b l,ρ' b=some l→ρ b=none→h.next≤b
theorem Post.refl {ρ:Ren} {h:Heap} {w:World} (hr:HRel ρ h w):Post ρ h w ρ h w:=
 ⟨Ren.le_refl _,hr,rfl,rfl,rfl,Nat.le_refl _,fun _ _ h=>h,rfl,rfl,rfl,Nat.le_refl _,fun _ _ _=>rfl,fun b l h1 h2=>(by rw [h1] at h2;cases h2),fun b l h1 h2=>(by rw [h1] at h2;cases h2)⟩
theorem Post.trans {ρ ρ1 ρ2:Ren} {h h1 h2:Heap} {w w1 w2:World} (a:Post ρ h w ρ1 h1 w1) (b:Post ρ1 h1 w1 ρ2 h2 w2) (hr:HRel ρ h w):Post ρ h w ρ2 h2 w2:=by
 have live1: ∀ b x l,h1.get b=some x→ρ b=some l→ ∃ x0,h.get b=some x0:=by
  intro b x l e r
  have hb:b<h.next:=by
   rcases Nat.lt_or_ge b h.next with k|k
   ·exact k
   ·rw [hr.top b k] at r;cases r
  have:=a.live b hb (by simp [e])
  exact Option.isSome_iff_exists.1 this
 have back: ∀ c,c<w.heap.size→(∃ b x l,h1.get b=some x∧h1.floor≤b∧ρ1 b=some l∧l.c=c)→ ∃ b x l,h.get b=some x∧h.floor≤b∧ρ b=some l∧l.c=c:=by
  rintro c hc ⟨b,x,l,e,f,r,rfl⟩
  cases hb:ρ b with
  |some l'=>
   have:=a.ext _ _ hb
   rw [r] at this;cases this
   obtain ⟨x0,hx0⟩:=live1 b x l e hb
   exact ⟨b,x0,l,hx0,by rw [←a.floor];exact f,hb,rfl⟩
  |none=>
   rcases a.fresh b l r hb with k|⟨b0,x0,l0,k1,k2,k3,k4⟩
   ·omega
   ·exact ⟨b0,x0,l0,k1,k2,k3,k4⟩
 refine ⟨a.ext.trans b.ext,b.hrel,b.hid.trans a.hid,b.floor.trans a.floor,b.base.trans a.base,Nat.le_trans a.next b.next,?_,b.os.trans a.os,b.tape.trans a.tape,b.output.trans a.output,Nat.le_trans a.size b.size,?_,?_,?_⟩
 ·intro i hi k
  exact a.live i hi (b.live i (Nat.lt_of_lt_of_le hi a.next) k)
 ·intro c hc k
  rw [b.frame c (Nat.lt_of_lt_of_le hc a.size) ?_,a.frame c hc k]
  intro b x l e f r hcc
  obtain ⟨b',x',l',k1,k2,k3,k4⟩:=back c hc ⟨b,x,l,e,f,r,hcc⟩
  exact k b' x' l' k1 k2 k3 k4
 ·intro i l r hn
  cases hb:ρ1 i with
  |some l'=>
   have:=b.ext _ _ hb
   rw [r] at this;cases this
   exact a.fresh i l hb hn
  |none=>
   rcases b.fresh i l r hb with k|⟨b0,x0,l0,k1,k2,k3,k4⟩
   ·exact .inl (Nat.le_trans a.size k)
   ·by_cases hc:l.c<w.heap.size
    ·obtain ⟨b',x',l',q1,q2,q3,q4⟩:=back l.c hc ⟨b0,x0,l0,k1,k2,k3,k4⟩
     exact .inr ⟨b',x',l',q1,q2,q3,q4⟩
    ·exact .inl (by omega)
 ·intro i l r hn
  cases hb:ρ1 i with
  |some l'=>
   have:=b.ext _ _ hb
   rw [r] at this;cases this
   exact a.born i l hb hn
  |none=>exact Nat.le_trans a.next (b.born i l r hb)
theorem Post.draw {ρ:Ren} {h:Heap} {w w':World} (hr:HRel ρ h w) (hh:w'.heap=w.heap) (ho:w'.os=w.os) (ht:w'.tape=w.tape) (hp:w'.output=w.output):Post ρ h w ρ h w':=by
 refine ⟨Ren.le_refl _,⟨?_,hr.inj,hr.top,hr.low,hr.bs,hr.tight⟩,rfl,rfl,rfl,Nat.le_refl _,fun _ _ h=>h,ho,ht,hp,by rw [hh];exact Nat.le_refl _,fun _ _ _=>by rw [hh],fun b l h1 h2=>(by rw [h1] at h2;cases h2),fun b l h1 h2=>(by rw [h1] at h2;cases h2)⟩
 intro b x e
 obtain ⟨l,h1,h2⟩:=hr.blk b x e
 exact ⟨l,h1,h2.mono (Ren.le_refl _) (by rw [hh])⟩
end
theorem Tr.get_leaf (k:Nat):Tr.leaf.get k=none:=rfl
theorem Tr.get_set: ∀ (f:Nat) (t:Tr) (k j:Nat) (x:Option Blk),k<f→(Tr.set f t k x).get j=if j=k then x else t.get j
 |0,_,k,_,_,h=>by omega
 |f+1,.leaf,k,j,x,h=>by
  unfold Tr.set
  by_cases h0:k=0
  ·subst h0;simp only [if_true,Tr.get]
   by_cases hj:j=0
   ·simp [hj]
   ·simp only [hj,if_false];split<;>rfl
  ·simp only [h0,if_false]
   by_cases h2:k%2=0
   ·simp only [h2,if_true,Tr.get]
    by_cases hj:j=0
    ·subst hj;simp only [if_true];rw [if_neg (by omega)]
    ·simp only [hj,if_false]
     by_cases hj2:j%2=0
     ·simp only [hj2,if_true];rw [Tr.get_set f .leaf (k/2 - 1) (j/2 - 1) x (by omega)]
      by_cases e:j=k
      ·subst e;simp
      ·rw [if_neg (by omega),if_neg e];rfl
     ·simp only [hj2,if_false];rw [if_neg (by omega)]
   ·simp only [h2,if_false,Tr.get]
    by_cases hj:j=0
    ·subst hj;simp only [if_true];rw [if_neg (by omega)]
    ·simp only [hj,if_false]
     by_cases hj2:j%2=0
     ·simp only [hj2,if_true];rw [if_neg (by omega)]
     ·simp only [hj2,if_false];rw [Tr.get_set f .leaf (k/2) (j/2) x (by omega)]
      by_cases e:j=k
      ·subst e;simp
      ·rw [if_neg (by omega),if_neg e];rfl
 |f+1,.node l v r,k,j,x,h=>by
  unfold Tr.set
  by_cases h0:k=0
  ·subst h0;simp only [if_true,Tr.get]
   by_cases hj:j=0
   ·simp [hj]
   ·simp [hj]
  ·simp only [h0,if_false]
   by_cases h2:k%2=0
   ·simp only [h2,if_true,Tr.get]
    by_cases hj:j=0
    ·subst hj;simp only [if_true];rw [if_neg (by omega)]
    ·simp only [hj,if_false]
     by_cases hj2:j%2=0
     ·simp only [hj2,if_true];rw [Tr.get_set f r (k/2 - 1) (j/2 - 1) x (by omega)]
      by_cases e:j=k
      ·subst e;simp
      ·rw [if_neg (by omega),if_neg e]
     ·simp only [hj2,if_false];rw [if_neg (by omega)]
   ·simp only [h2,if_false,Tr.get]
    by_cases hj:j=0
    ·subst hj;simp only [if_true];rw [if_neg (by omega)]
    ·simp only [hj,if_false]
     by_cases hj2:j%2=0
     ·simp only [hj2,if_true];rw [if_neg (by omega)]
     ·simp only [hj2,if_false];rw [Tr.get_set f l (k/2) (j/2) x (by omega)]
      by_cases e:j=k
      ·subst e;simp
      ·rw [if_neg (by omega),if_neg e]
theorem Heap.get_put (h:Heap) (b j:Nat) (x:Option Blk):(h.put b x).get j=if h.hidden j then none else if j=b then x else h.t.get j:=by
 unfold Heap.get Heap.put Heap.hidden
 simp only []
 split
 ·rfl
 ·rw [Tr.get_set _ _ _ _ _ (by omega)]
theorem Heap.get_t {h:Heap} {b:Nat} {x:Blk} (e:h.get b=some x):h.t.get b=some x:=by
 unfold Heap.get at e
 split at e
 ·cases e
 ·exact e
theorem Heap.get_nh {h:Heap} {b:Nat} {x:Blk} (e:h.get b=some x):h.hidden b=false:=by
 unfold Heap.get at e
 split at e
 ·cases e
 ·simpa using ‹¬ h.hidden b=true›
end Go.V
end
section
namespace Go.V
variable [Gd]
def Ren.upd (ρ:Ren) (b:Nat) (l:Loc):Ren:=fun i=>if i=b then some l else ρ i
omit [Gd] in
theorem Ren.le_upd {ρ:Ren} {b:Nat} {l:Loc} (h:ρ b=none):ρ.le (ρ.upd b l):=by
 intro i l' e
 unfold Ren.upd
 split
 ·rename_i hi;subst hi;rw [h] at e;cases e
 ·exact e
omit [Gd] in
theorem tight_upd {ρ:Ren} {n k:Nat} {l:Loc} (h: ∀ b l,k≤b→ρ b=some l→l.t=true) (hl:k≤n→l.t=true): ∀ b l',k≤b→ρ.upd n l b=some l'→l'.t=true:=by
 intro b l' hb e
 unfold Ren.upd at e
 split at e
 ·rename_i q;subst q;cases e;exact hl hb
 ·exact h b l' hb e
omit [Gd] in
theorem Heap.new_get (h:Heap) (x:Blk) (j:Nat):(h.new x).2.get j=if h.hidden j then none else if j=h.next then some x else h.t.get j:=by
 exact Heap.get_put h h.next j (some x)
theorem Post.new {ρ:Ren} {h:Heap} {w:World} (hr:HRel ρ h w) (x:Blk) (o:Obj) (w':World) (l:Loc) (hw:w'.heap=w.heap.push o) (hc:l.c=w.heap.size) (hlt:l.t=true)
  (ho:w'.os=w.os) (ht:w'.tape=w.tape) (hp:w'.output=w.output) (hb:BRel (ρ.upd h.next l) w' l x):
  Post ρ h w (ρ.upd h.next l) (h.new x).2 w':=by
 have hold: ∀ c,c<w.heap.size→w'.heap[c]? =w.heap[c]? :=by
  intro c hcl
  rw [hw,Array.getElem?_push,if_neg (by omega)]
 have htop:ρ h.next=none:=hr.top _ (Nat.le_refl _)
 have hle:ρ.le (ρ.upd h.next l):=Ren.le_upd htop
 have hget: ∀ j y,(h.new x).2.get j=some y→(j=h.next∧y=x)∨(j≠h.next∧h.get j=some y):=by
  intro j y e
  rw [Heap.new_get] at e
  split at e
  ·cases e
  ·rename_i hh
   split at e
   ·rename_i hj;cases e;exact .inl ⟨hj,rfl⟩
   ·rename_i hj;exact .inr ⟨hj,by simp [Heap.get,hh,e]⟩
 refine ⟨hle,⟨?_,?_,?_,?_,⟨hr.bs.1,Nat.le_succ_of_le hr.bs.2⟩,tight_upd hr.tight fun _=>hlt⟩,rfl,rfl,rfl,by simp [Heap.new,Heap.put],?_,ho,ht,hp,by rw [hw];simp,fun c hcl _=>hold c hcl,?_,?_⟩
 ·intro b y e
  rcases hget b y e with ⟨rfl,rfl⟩|⟨hne,e'⟩
  ·exact ⟨l,by simp [Ren.upd],hb⟩
  ·obtain ⟨l',h1,h2⟩:=hr.blk b y e'
   exact ⟨l',hle _ _ h1,h2.mono hle (hold _ h2.lt)⟩
 ·intro b b' y y' l1 l2 e e' r r' hcc
  rcases hget b y e with ⟨rfl,rfl⟩|⟨hne,e1⟩<;>rcases hget b' y' e' with ⟨rfl,rfl⟩|⟨hne',e1'⟩
  ·exact .inl rfl
  ·simp only [Ren.upd,if_true,if_neg hne'] at r r'
   cases r
   obtain ⟨l',h1,h2⟩:=hr.blk b' y' e1'
   rw [r'] at h1;cases h1
   have:=h2.lt;omega
  ·simp only [Ren.upd,if_true,if_neg hne] at r r'
   cases r'
   obtain ⟨l',h1,h2⟩:=hr.blk b y e1
   rw [r] at h1;cases h1
   have:=h2.lt;omega
  ·simp only [Ren.upd,if_neg hne,if_neg hne'] at r r'
   exact hr.inj b b' y y' l1 l2 e1 e1' r r' hcc
 ·intro b hb'
  simp only [Heap.new,Heap.put] at hb'
  simp only [Ren.upd,if_neg (show ¬ b=h.next by omega)]
  exact hr.top b (by omega)
 ·intro b y e
  have:(h.new x).2.t =h.t.set (h.next+1) h.next (some x):=rfl
  rw [this,Tr.get_set _ _ _ _ _ (by omega)] at e
  simp only [Heap.new,Heap.put]
  split at e
  ·omega
  ·have:=hr.low b y e;omega
 ·intro b hb' e
  obtain ⟨y,hy⟩:=Option.isSome_iff_exists.1 e
  rcases hget b y hy with ⟨rfl,rfl⟩|⟨_,e'⟩
  ·omega
  ·simp [e']
 ·intro b l' r hn
  unfold Ren.upd at r
  split at r
  ·cases r;exact .inl (by omega)
  ·rw [hn] at r;cases r
 ·intro b l' r hn
  unfold Ren.upd at r
  split at r
  ·omega
  ·rw [hn] at r;cases r
omit [Gd] in
theorem Heap.load_some {h:Heap} {b o n:Nat} {c:List Val} (e:h.load b o n=some c): ∃ cs,h.get b=some (.cells cs)∧o+n≤cs.length∧c=(cs.drop o).take n:=by
 unfold Heap.load at e
 split at e
 ·rename_i cs hg
  split at e
  ·cases e;exact ⟨cs,hg,by assumption,rfl⟩
  ·cases e
 ·cases e
omit [Gd] in
theorem Addr.add_none (g o i:Nat):(⟨g,o,none⟩:Addr).add i=⟨g,o+i,none⟩:=by
 unfold Addr.add;split<;>simp_all
theorem HRel.load {ρ:Ren} {h:Heap} {w:World} (hr:HRel ρ h w) {b o n:Nat} {c:List Val} (e:h.load b o n=some c) {l:Loc} (hl:ρ b=some l):
  ∃ m:List Value,VRels ρ c m∧ ∀ j v,m[j]? =some v→w.cell? ((⟨l.c,l.s+o,none⟩:Addr).add j)=some v:=by
 obtain ⟨cs,hg,hn,rfl⟩:=Heap.load_some e
 obtain ⟨l',hl',arr,t,lo,hi,h1,_,h2,h3,h4,h5,_⟩:=hr.blk b _ hg
 rw [hl] at hl';cases hl'
 refine ⟨_,(h5.drop o).take n,fun j v hv=> ?_⟩
 rw [Addr.add_none]
 simp only [World.cell?,h1]
 rw [List.getElem?_take] at hv
 split at hv
 ·rw [List.getElem?_drop,List.getElem?_take] at hv
  split at hv
  ·rw [List.getElem?_drop] at hv
   simp only [Option.isSome_none,Bool.false_eq_true,if_false]
   rw [←Array.getElem?_toList,←hv]
   congr 1
   omega
  ·cases hv
 ·cases hv
omit [Gd] in
theorem run_loadCells_of {P:Program} {w:World} {a:Addr} {m:List Value} (h: ∀ j v,m[j]? =some v→w.cell? (a.add j)=some v):(loadCells a m.length).run P w=.ok m.toArray w:=
 run_loadCells_list w a m h
omit [Gd] in
theorem run_storeCells_fr (P:Program) (g o:Nat) (t:TypeId) (lo hi:Nat): ∀ (vs:List Value) (i:Nat) (cur:Array Value) (w:World),w.heap[g]? =some (.cells cur t (lo,hi))→(∀ j,o+i≤j→j<o+i+vs.length→ ¬ (lo≤j∧j<hi))→o+i+vs.length≤cur.size→(∀ v∈vs,v.oneCell'=true)→
  (storeCells ⟨g,o,none⟩ vs i).run P w=.ok () (w.setRow g (cur.toList.take (o+i)++vs++cur.toList.drop (o+i+vs.length)).toArray)
 |[],i,cur,w,hg,_,_,_=>by
  simp only [storeCells,List.append_nil,List.length_nil,Nat.add_zero,List.take_append_drop,Array.toArray_toList]
  rw [setRow_self w g cur t (lo,hi) hg]
  rfl
 |v::rest,i,cur,w,hg,hf,hl,h1=>by
  have hi':o+i<cur.size:=by simp at hl;omega
  have hadd:(⟨g,o,none⟩:Addr).add i=⟨g,o+i,none⟩:=by unfold Addr.add;split<;>simp_all
  have hcell:w.cell? ⟨g,o+i,none⟩=some cur[o+i]:=by simp [World.cell?,hg,hi']
  have hfro:w.frozen? ⟨g,o+i,none⟩=false:=by
   have:=hf (o+i) (Nat.le_refl _) (by simp)
   simp [World.frozen?,hg];omega
  have hst:(store ((⟨g,o,none⟩:Addr).add i) v).run P w=.ok () (w.setRow g (cur.setIfInBounds (o+i) v)):=by
   rw [hadd,run_store P w _ v _ (h1 v (by simp)),hcell]
   simp [hfro,setCell_eq_setRow w g (o+i) cur t (lo,hi) v hg]
  have ih:=run_storeCells_fr P g o t lo hi rest (i+1) (cur.setIfInBounds (o+i) v) (w.setRow g (cur.setIfInBounds (o+i) v)) (setRow_heap w g cur _ t _ hg) (fun j h1 h2=>hf j (by omega) (by simp only [List.length_cons];omega)) (by simp at hl ⊢;omega) (fun x hx=>h1 x (by simp [hx]))
  simp only [storeCells,Sem.run_bind,hst,Result.andThen_ok,ih,setRow_setRow]
  congr 3
  have e:=list_seg_step cur.toList (o+i) v rest (by simp at hl ⊢;omega)
  simpa [Array.toList_setIfInBounds,Nat.add_assoc] using e
omit [Gd] in
theorem VRel.one {ρ:Ren} {x:Val} {v:Value} (h:VRel ρ x v) (k:x.one=true):v.oneCell'=true:=by
 cases x<;>simp only [VRel,Val.one] at h k<;>first
  |(subst h;rfl)
  |(cases k;done)
  |(rcases h with ⟨_,_,_,h,_⟩|⟨_,_,_,_,_,_,_,_,_,h,_⟩<;>subst h<;>rfl)
  |(obtain ⟨_,_,h⟩:=h;subst h;rfl)
  |(obtain ⟨_,_,h,_⟩:=h;subst h;rfl)
  |(obtain ⟨_,h,_⟩:=h;subst h;rfl)
omit [Gd] in
theorem VRels.ones {ρ:Ren}: ∀ {l:List Val} {m:List Value},VRels ρ l m→l.all Val.one=true→ ∀ v∈m,v.oneCell'=true
 |[],m,h,_,v,hv=>by simp only [VRels] at h;subst h;cases hv
 |x::l,m,h,k,v,hv=>by
  simp only [VRels] at h
  obtain ⟨y,s,rfl,h1,h2⟩:=h
  simp only [List.all_cons,Bool.and_eq_true] at k
  cases hv with
  |head=>exact h1.one k.1
  |tail _ hv=>exact VRels.ones h2 k.2 v hv
omit [Gd] in
theorem VRels.splice {ρ:Ren} {c vs:List Val} {m ms:List Value} (h:VRels ρ c m) (k:VRels ρ vs ms) (o:Nat):VRels ρ (V.splice c o vs) (m.take o++ms++m.drop (o+ms.length)):=by
 unfold V.splice
 rw [k.length]
 exact ((h.take o).append k).append (h.drop _)
omit [Gd] in
theorem length_splice {c vs:List Val} {o:Nat} (h:o+vs.length≤c.length):(splice c o vs).length =c.length:=by
 unfold splice;simp;omega
omit [Gd] in
theorem drop_take_splice (arr ms:List Value) (s o n:Nat) (hn:o+ms.length≤n) (ha:s+n≤arr.length):
  ((arr.take (s+o)++ms++arr.drop (s+o+ms.length)).drop s).take n=((arr.drop s).take n).take o++ms++((arr.drop s).take n).drop (o+ms.length):=by
 apply List.ext_getElem?
 intro i
 simp only [List.getElem?_take,List.getElem?_drop,List.getElem?_append,List.length_append,List.length_take,List.length_drop]
 by_cases h1:i<n
 ·simp only [h1,if_true]
  by_cases h2:i<o
  ·rw [if_pos (by omega),if_pos (by omega),if_pos (by omega),if_pos (by omega)]
   rw [if_pos (by omega),if_pos h2]
  ·by_cases h3:i<o+ms.length
   ·rw [if_pos (by omega),if_neg (by omega),if_pos (by omega),if_neg (by omega)]
    congr 1;omega
   ·rw [if_neg (by omega),if_neg (by omega)]
    rw [if_pos (by omega)]
    congr 1;omega
 ·rw [if_neg h1]
  rw [if_neg (by omega)]
  rw [if_neg (by omega)]
omit [Gd] in
theorem Heap.store_some {h h':Heap} {b o:Nat} {vs:List Val} (e:h.store b o vs=some h'):h.floor≤b∧vs.all Val.one=true∧ ∃ cs,h.get b=some (.cells cs)∧o+vs.length≤cs.length∧h'=h.put b (some (.cells (V.splice cs o vs))):=by
 unfold Heap.store at e
 split at e
 ·rename_i hf
  split at e
  ·rename_i cs hg
   split at e
   ·rename_i hh
    cases e
    exact ⟨hf,hh.2,cs,hg,hh.1,rfl⟩
   ·cases e
  ·cases e
 ·cases e
theorem Post.put {ρ:Ren} {h:Heap} {w w':World} (hr:HRel ρ h w) {b:Nat} {x y:Blk} {l:Loc} (hg:h.get b=some x) (hf:h.floor≤b) (hl:ρ b=some l)
  (hw: ∀ c,c≠l.c→w'.heap[c]? =w.heap[c]?) (hs:w'.heap.size=w.heap.size) (ho:w'.os=w.os) (ht:w'.tape=w.tape) (hp:w'.output=w.output) (hb:BRel ρ w' l y):
  Post ρ h w ρ (h.put b (some y)) w':=by
 have hget: ∀ j z,(h.put b (some y)).get j=some z→(j=b∧z=y)∨(j≠b∧h.get j=some z):=by
  intro j z e
  rw [Heap.get_put] at e
  split at e
  ·cases e
  ·rename_i hh
   split at e
   ·cases e;exact .inl ⟨by assumption,rfl⟩
   ·exact .inr ⟨by assumption,by simp [Heap.get,hh,e]⟩
 have hlow:=hr.low b x (Heap.get_t hg)
 refine ⟨Ren.le_refl _,⟨?_,?_,?_,?_,hr.bs,hr.tight⟩,rfl,rfl,rfl,Nat.le_refl _,?_,ho,ht,hp,by omega,?_,?_,?_⟩
 ·intro j z e
  rcases hget j z e with ⟨rfl,rfl⟩|⟨hne,e'⟩
  ·exact ⟨l,hl,hb⟩
  ·obtain ⟨l',h1,h2⟩:=hr.blk j z e'
   refine ⟨l',h1,h2.mono (Ren.le_refl _) (hw _ fun hc=>hne ?_)⟩
   have:=hr.bs.1
   rcases hr.inj j b z x l' l e' hg h1 hl hc with k|⟨_,k⟩
   ·exact k
   ·omega
 ·intro j j' z z' l1 l2 e e' r r' hc
  have q: ∀ j z,(h.put b (some y)).get j=some z→ ∃ z',h.get j=some z':=by
   intro j z e
   rcases hget j z e with ⟨rfl,rfl⟩|⟨_,e'⟩
   ·exact ⟨x,hg⟩
   ·exact ⟨z,e'⟩
  obtain ⟨u,hu⟩:=q j z e
  obtain ⟨u',hu'⟩:=q j' z' e'
  exact hr.inj j j' u u' l1 l2 hu hu' r r' hc
 ·exact hr.top
 ·intro j z e
  have:(h.put b (some y)).t =h.t.set (b+1) b (some y):=rfl
  rw [this,Tr.get_set _ _ _ _ _ (by omega)] at e
  split at e
  ·subst j;exact hlow
  ·exact hr.low j z e
 ·intro j _ e
  obtain ⟨z,hz⟩:=Option.isSome_iff_exists.1 e
  rcases hget j z hz with ⟨rfl,rfl⟩|⟨_,e'⟩
  ·simp [hg]
  ·simp [e']
 ·intro c hc k
  exact hw c fun hcc=>k b x l hg hf hl hcc.symm
 ·intro j l' r hn;rw [r] at hn;cases hn
 ·intro j l' r hn;rw [r] at hn;cases hn
theorem HRel.store {P:Program} {ρ:Ren} {h h':Heap} {w:World} (hr:HRel ρ h w) {b o:Nat} {vs:List Val} (e:h.store b o vs=some h') {l:Loc} (hl:ρ b=some l) {ms:List Value} (hm:VRels ρ vs ms):
  ∃ w',(storeCells ⟨l.c,l.s+o,none⟩ ms).run P w=.ok () w'∧Post ρ h w ρ h' w':=by
 obtain ⟨hf,h1,cs,hg,hlen,rfl⟩:=Heap.store_some e
 obtain ⟨l',hl',arr,t,lo,hi,a1,a0,a2,a3,a4,a5,tl,a6⟩:=hr.blk b _ hg
 rw [hl] at hl';cases hl'
 have hml:=hm.length
 have hst:=run_storeCells_fr P l.c (l.s+o) t lo hi ms 0 arr w a1 (fun j h1 h2=>a2 j (by omega) (.inl (by omega))) (by omega) (hm.ones h1)
 refine ⟨_,hst,?_⟩
 have hlt:l.c<w.heap.size:=(Array.getElem?_eq_some_iff.1 a1).1
 refine Post.put hr hg hf hl (fun c hc=>setRow_other w l.c c _ hc) (by simp [World.setRow]) rfl rfl rfl ?_
 refine ⟨_,t,lo,hi,setRow_heap w l.c arr _ t (lo,hi) a1,a0,?_,?_,?_,?_,tl,?_⟩
 ·rw [length_splice hlen];exact a2
 ·rw [length_splice hlen];simp only [List.size_toArray,List.length_append,List.length_take,List.length_drop,Array.length_toList];omega
 ·simp only [List.size_toArray,List.length_append,List.length_take,List.length_drop,Array.length_toList];omega
 ·rw [length_splice hlen]
  simp only [Nat.add_zero]
  rw [drop_take_splice arr.toList ms l.s o cs.length (by omega) (by simpa using a3)]
  exact a5.splice hm o
 ·rw [length_splice hlen]
  have e1:(arr.toList.take (l.s+o+0)++ms++arr.toList.drop (l.s+o+0+ms.length)).drop (l.s+cs.length)=arr.toList.drop (l.s+cs.length):=by
   rw [Nat.add_zero,List.drop_append,List.drop_eq_nil_of_le (by simp only [List.length_append,List.length_take,Array.length_toList];omega),List.nil_append,List.drop_drop]
   congr 1
   simp only [List.length_append,List.length_take,Array.length_toList];omega
  simp only [e1]
  exact ⟨a6.1,a6.2⟩
end Go.V
end
section
namespace Go.V
variable [Gd]
theorem rel_undef {ρ:Ren}:VRel ρ .undef Go.undef:=by simp only [VRel];rfl
mutual
theorem cVal_rel {ρ:Ren}: ∀ (v:Value) (x:Val),cVal v=some x→VRel ρ x v
 | .bool b,x,h=>by simp only [cVal,Option.some.injEq] at h;subst h;simp only [VRel]
 | .int k n,x,h=>by simp only [cVal,Option.some.injEq] at h;subst h;simp only [VRel]
 | .string s,x,h=>by simp only [cVal,Option.some.injEq] at h;subst h;simp only [VRel]
 | .pointer none,x,h=>by simp only [cVal,Option.some.injEq] at h;subst h;simp only [VRel]
 | .pointer (some _),x,h=>by simp [cVal] at h
 | .slice none n c,x,h=>by
  simp only [cVal] at h
  split at h
  ·rename_i hh;cases h;obtain ⟨rfl,rfl⟩:=hh;simp only [VRel]
  ·cases h
 | .slice (some _) _ _,x,h=>by simp [cVal] at h
 | .map none,x,h=>by simp only [cVal,Option.some.injEq] at h;subst h;simp only [VRel]
 | .map (some _),x,h=>by simp [cVal] at h
 | .nilFunc,x,h=>by simp only [cVal,Option.some.injEq] at h;subst h;simp only [VRel]
 | .nilIface,x,h=>by simp only [cVal,Option.some.injEq] at h;subst h;simp only [VRel]
 | .agg ⟨l⟩,x,h=>by
  simp only [cVal] at h
  split at h
  ·rename_i l' hl;cases h;simp only [VRel];exact ⟨_,rfl,cVals_rel l l' hl⟩
  ·cases h
 | .tuple a,x,h=>by
  simp only [cVal] at h
  split at h
  ·rename_i hl;cases h;simp only [VRel]
   congr 1
   exact Array.ext' (by simpa using hl)
  ·cases h
 | .float _ _,x,h=>by simp [cVal] at h
 | .complex _ _ _,x,h=>by simp [cVal] at h
 | .chan _,x,h=>by simp [cVal] at h
 | .func _ _ _,x,h=>by simp [cVal] at h
 | .iface _ _,x,h=>by simp [cVal] at h
theorem cVals_rel {ρ:Ren}: ∀ (v:List Value) (x:List Val),cVals v=some x→VRels ρ x v
 |[],x,h=>by simp only [cVals,Option.some.injEq] at h;subst h;exact .nil
 |v::r,x,h=>by
  simp only [cVals] at h
  split at h
  ·rename_i a b ha hb;cases h;exact .cons (cVal_rel v a ha) (cVals_rel r b hb)
  ·cases h
end
def FRel (ρ:Ren) (fr:List Val) (a:Act):Prop:=VRels ρ fr a.tmps.toList
theorem FRel.getD {ρ:Ren} {fr:List Val} {a:Act} (h:FRel ρ fr a) (t:Nat):VRel ρ (fr.getD t .undef) (a.tmps.getD t Go.undef):=by
 unfold FRel at h
 have hl:=h.length
 rw [Array.getD_eq_getD_getElem?,List.getD_eq_getElem?_getD]
 cases e:fr[t]? with
 |none=>
  have:a.tmps[t]? =none:=by
   rw [List.getElem?_eq_none_iff] at e
   rw [Array.getElem?_eq_none_iff]
   simp at hl;omega
  rw [this];exact rel_undef
 |some x=>
  obtain ⟨v,hv,r⟩:=h.get t x e
  rw [Array.getElem?_toList] at hv
  rw [hv];exact r
theorem FRel.ev {ρ:Ren} {fr:List Val} {a:Act} (h:FRel ρ fr a) {x:Operand} {y:Opd} (e:cOpd x=some y):VRel ρ (V.ev fr y) (a.eval x):=by
 cases x with
 |tmp t=>simp only [cOpd,Option.some.injEq] at e;subst e;exact h.getD t
 |const v=>
  simp only [cOpd,Option.map_eq_some_iff] at e
  obtain ⟨z,hz,rfl⟩:=e
  exact cVal_rel v z hz
 |func f=>
  simp only [cOpd] at e
  split at e
  ·rename_i hf
   simp only [Option.some.injEq] at e;subst e;simp only [V.ev,VRel];exact .inl ⟨by simpa [smallFn] using hf,_,_,rfl,.nil,.nil⟩
  ·cases e
 |global g=>simp [cOpd] at e
theorem FRel.evs {ρ:Ren} {fr:List Val} {a:Act} (h:FRel ρ fr a): ∀ {xs:List Operand} {ys:List Opd},cOpds xs=some ys→VRels ρ (V.evs fr ys) (xs.map a.eval)
 |[],ys,e=>by simp only [cOpds,Option.some.injEq] at e;subst e;exact .nil
 |x::r,ys,e=>by
  simp only [cOpds] at e
  split at e
  ·rename_i p q hp hq;cases e;exact .cons (h.ev hp) (h.evs hq)
  ·cases e
theorem FRel.mono {ρ ρ':Ren} (k:ρ.le ρ') {fr:List Val} {a:Act} (h:FRel ρ fr a):FRel ρ' fr a:=VRels.mono k _ _ h
theorem VRel.cells {ρ:Ren} {x:Val} {v:Value} (h:VRel ρ x v):VRels ρ x.cells v.cells.toList:=by
 cases x with
 |agg l=>simp only [VRel] at h;obtain ⟨a,rfl,h⟩:=h;exact h
 |_=>
  have hv:v.cells= #[v]:=by
   simp only [VRel] at h<;>first
    |(subst h;rfl)
    |(rcases h with ⟨_,_,_,h,_⟩|⟨_,_,_,_,_,_,_,_,_,h,_⟩<;>subst h<;>rfl)
    |(obtain ⟨_,h⟩:=h;subst h;rfl)
    |(obtain ⟨_,_,h⟩:=h;subst h;rfl)
    |(obtain ⟨_,_,h,_⟩:=h;subst h;rfl)
    |(obtain ⟨_,h,_⟩:=h;subst h;rfl)
  rw [hv]
  exact .cons h .nil
section
variable {P:Program}
theorem info_of_underlying {t:TypeId} {d:TypeDesc} (h:P.underlying t=some d): ∃ i,P.info? t=some i:=by
 unfold Program.underlying at h
 split at h
 ·rename_i i hi;exact ⟨_,hi⟩
 ·rename_i i hi;exact ⟨_,hi⟩
 ·cases h
theorem run_isAgg_of {t:TypeId} {d:TypeDesc} (h:P.underlying t=some d) (w:World):(isAgg t).run P w=.ok (aggType P t) w:=by
 simp only [isAgg,Sem.run_bind,run_underlying h,Result.andThen_ok,aggType,h]
 split<;>simp_all
theorem run_sizeOf_of {t:TypeId} {i:TypeInfo} (h:P.info? t=some i) (w:World):(sizeOf t).run P w=.ok (P.cellsOf t) w:=by
 simp [sizeOf,typeInfo,h,Program.cellsOf]
theorem run_typeInfo_of {t:TypeId} {i:TypeInfo} (h:P.info? t=some i) (w:World):(typeInfo t).run P w=.ok i w:=by
 simp [typeInfo,h]
theorem cZero_rel {ρ:Ren} {t:TypeId} {z:List Val} (h:cZero P t=some z): ∃ (i:TypeInfo) (v:Value),P.info? t=some i∧i.zero=some v∧VRels ρ z v.cells.toList∧(∀ w,(zeroValue t).run P w=.ok v w):=by
 unfold cZero at h
 split at h
 ·rename_i v hv
  simp only [Option.map_eq_some_iff] at h
  obtain ⟨x,hx,rfl⟩:=h
  cases hi:P.info? t with
  |none=>rw [hi] at hv;cases hv
  |some i=>
   rw [hi] at hv
   simp only [Option.bind_some] at hv
   exact ⟨i,v,rfl,hv,(cVal_rel v x hx).cells,fun w=>by simp [zeroValue,typeInfo,hi,hv]⟩
 ·cases h
end
def Sound (P:Program) (s:Sem Next) (ρ:Ren) (h:Heap) (w:World) (v:Val) (h':Heap):Prop:=
 ∃ nx w' cv ρ',s.run P w=.ok nx w'∧(nx=.value cv∨(nx=.skip ∧cv=Go.undef))∧Post ρ h w ρ' h' w'∧VRel ρ' v cv
theorem Sound.pure {P:Program} {ρ:Ren} {h:Heap} {w:World} (hr:HRel ρ h w) {s:Sem Next} {v:Val} {cv:Value} (hs:s.run P w=.ok (.value cv) w) (hv:VRel ρ v cv):Sound P s ρ h w v h:=
 ⟨_,w,cv,ρ,hs,.inl rfl,.refl hr,hv⟩
section
variable {P:Program} {ρ:Ren} {h h':Heap} {w:World} (hr:HRel ρ h w)
include hr
theorem s_new {s:Sem Next} {c:List Val} {m:List Value} (hc:VRels ρ c m) {e:TypeId} (hty:Gd.ty e) {pv:Value} {v:Val}
  (hs:s.run P w=.ok (.value pv) {w with heap:=w.heap.push (.cells m.toArray e)})
  (hv:VRel (ρ.upd h.next ⟨w.heap.size,0,m.length,true,none⟩) v pv):Sound P s ρ h w v (h.new (.cells c)).2:=by
 refine ⟨_,_,pv,_,hs,.inl rfl,Post.new hr (.cells c) (.cells m.toArray e) _ ⟨w.heap.size,0,m.length,true,none⟩ rfl rfl rfl rfl rfl rfl ?_,hv⟩
 refine ⟨m.toArray,e,0,0,?_,hty,fun _ _ _ h=>by omega,?_,?_,?_,[],?_⟩
 rotate_right
 ·exact ⟨by intro ρ;simp only [Nat.zero_add,hc.length,Nat.sub_self,List.take_zero];exact .nil,trivial⟩
 ·simp
 ·simp [hc.length]
 ·simp
 ·simp only [List.drop_zero]
  rw [List.take_of_length_le (by simp [hc.length])]
  exact VRels.mono (Ren.le_upd (hr.top _ (Nat.le_refl _))) _ _ hc
theorem s_alloc {e:TypeId} (hty:Gd.ty e) {z:List Val} (hz:cZero P e=some z):Sound P (do pure (.value (←Instr.alloc e true (.tuple #[])))) ρ h w (.ptr h.next 0) (h.new (.cells z)).2:=by
 obtain ⟨i,v,hi,hzv,hc,hrun⟩:=cZero_rel (ρ:=ρ) hz
 refine s_new hr hc hty (pv:=.pointer (some ⟨w.heap.size,0,none⟩)) ?_ ?_
 ·simp [Instr.alloc,hrun,newVar,newRow]
 ·simp [VRel,Ren.upd]
theorem s_box {e:TypeId} (hty:Gd.ty e) {x:Val} {v:Value} (hx:VRel ρ x v):Sound P (do pure (.value (←Instr.box e v))) ρ h w (.ptr h.next 0) (h.new (.cells x.cells)).2:=by
 refine s_new hr hx.cells hty (pv:=.pointer (some ⟨w.heap.size,0,none⟩)) ?_ ?_
 ·simp [Instr.box,newVar,newRow]
 ·simp [VRel,Ren.upd]
theorem s_load {t:TypeId} {d:TypeDesc} (ht:P.underlying t=some d) {b o:Nat} {c:List Val} (e:h.load b o (P.cellsOf t)=some c) {v:Value} (hv:VRel ρ (.ptr b o) v) {x:Val}
  (hx:(aggType P t=true∧x=.agg c)∨(aggType P t=false∧c=[x])):Sound P (do pure (.value (←Instr.loadAt t v))) ρ h w x h:=by
 simp only [VRel] at hv
 obtain ⟨l,hl,rfl⟩:=hv
 obtain ⟨m,hm,hcell⟩:=hr.load e hl
 obtain ⟨i,hi⟩:=info_of_underlying ht
 have hlen:m.length=P.cellsOf t:=by
  rw [hm.length]
  obtain ⟨cs,_,h2,rfl⟩:=Heap.load_some e
  simp;omega
 rcases hx with ⟨ha,rfl⟩|⟨ha,rfl⟩
 ·have hrun:=run_loadCells_of (P:=P) hcell
  rw [hlen] at hrun
  refine Sound.pure hr (cv:=.agg m.toArray) ?_ ?_
  ·simp only [Instr.loadAt,Instr.sureAddr,loadVar,Sem.run_bind,Sem.run_pure,Result.andThen_ok,run_isAgg_of ht,ha,if_true,run_sizeOf_of hi,hrun]
  ·simp only [VRel];exact ⟨_,rfl,hm⟩
 ·cases m with
  |nil=>exact absurd hm.length (by simp)
  |cons v m=>
   have h0:=hcell 0 v (by simp)
   simp only [Addr.add_none,Nat.add_zero] at h0
   simp only [VRels] at hm
   obtain ⟨y,s,he,hy,_⟩:=hm
   cases he
   refine Sound.pure hr (cv:=v) ?_ hy
   simp only [Instr.loadAt,Instr.sureAddr,loadVar,Sem.run_bind,Sem.run_pure,Result.andThen_ok,run_isAgg_of ht,ha,Bool.false_eq_true,if_false,run_load,h0]
theorem s_store {t:TypeId} {i:TypeInfo} (hi:P.info? t=some i) {b o:Nat} {x:Val} (hn:x.cells.length=P.cellsOf t) (e:h.store b o x.cells=some h') {v pv:Value} (hv:VRel ρ x v) (hp:VRel ρ (.ptr b o) pv):
  Sound P (do Instr.storeAt t pv v;pure .skip) ρ h w .undef h':=by
 simp only [VRel] at hp
 obtain ⟨l,hl,rfl⟩:=hp
 obtain ⟨w',hrun,hpost⟩:=hr.store (P:=P) e hl hv.cells
 refine ⟨.skip,w',Go.undef,ρ,?_,.inr ⟨rfl,rfl⟩,hpost,rel_undef⟩
 have hsz:v.cells.size=P.cellsOf t:=by rw [←hn];have:=hv.cells.length;simpa using this
 simp [Instr.storeAt,Instr.sureAddr,storeVar,run_sizeOf_of hi,hsz,hrun]
end
end Go.V
end
section
namespace Go.V
variable [Gd]
theorem list_set_append (l:List Value) (k:Nat) (v:Value) (rest:List Value) (hk:k+(rest.length+1)≤l.length):
  (l.set k v).take (k+1)++rest++(l.set k v).drop (k+1+rest.length)=l.take k++(v::rest)++l.drop (k+(rest.length+1)):=list_seg_step l k v rest hk
theorem foldl_fill (off:Nat): ∀ (vs:List Value) (j:Nat) (cs:Array Value),off+j+vs.length≤cs.size→
  ((vs.zipIdx j).foldl (fun cs (p:Value×Nat)=>cs.setIfInBounds (off+p.2) p.1) cs).toList =cs.toList.take (off+j)++vs++cs.toList.drop (off+j+vs.length)
 |[],j,cs,_=>by simp
 |v::r,j,cs,h=>by
  simp only [List.zipIdx_cons,List.foldl_cons]
  rw [foldl_fill off r (j+1) _ (by simp at h ⊢;omega)]
  have e:=list_set_append cs.toList (off+j) v r (by simp at h ⊢;omega)
  simpa [Array.toList_setIfInBounds,Nat.add_assoc] using e
theorem fill_rel {ρ:Ren} {fr:List Val} {a:Act} (hf:FRel ρ fr a) (place:Nat→Option (Nat×Nat)): ∀ (parts:List (Nat×Operand)) (ps:List (Nat×Nat×Opd)) (cells:List Val) (m:Array Value) (c:List Val),
  cParts place parts=some ps→VRels ρ cells m.toList→V.fill fr cells ps=some c→ ∃ m',Instr.fill place m (parts.map fun p=>(p.1,a.eval p.2))=some m'∧VRels ρ c m'.toList
 |[],ps,cells,m,c,h1,h2,h3=>by
  simp only [cParts,Option.some.injEq] at h1;subst h1
  simp only [V.fill,Option.some.injEq] at h3;subst h3
  exact ⟨m,by simp [Instr.fill],h2⟩
 |(i,x)::r,ps,cells,m,c,h1,h2,h3=>by
  simp only [cParts] at h1
  split at h1
  ·rename_i o n y l hp hx hr
   cases h1
   simp only [V.fill] at h3
   split at h3
   ·rename_i hh
    have hv:=(hf.ev hx).cells
    have hvl:=hv.length
    have hml:=h2.length
    simp only [Array.length_toList] at hvl hml
    have e:((a.eval x).cells.zipIdx.foldl (fun cs (p:Value×Nat)=>cs.setIfInBounds (o+p.2) p.1) m).toList =m.toList.take o++(a.eval x).cells.toList ++m.toList.drop (o+(a.eval x).cells.toList.length):=by
     have:=foldl_fill o (a.eval x).cells.toList 0 m (by simp;omega)
     rw [←Array.foldl_toList]
     simpa [Array.toList_zipIdx] using this
    have h2':VRels ρ (V.splice cells o (V.ev fr y).cells) ((a.eval x).cells.zipIdx.foldl (fun cs (p:Value×Nat)=>cs.setIfInBounds (o+p.2) p.1) m).toList :=by
     rw [e];exact h2.splice hv o
    obtain ⟨m',k1,k2⟩:=fill_rel hf place r l _ _ c hr h2' h3
    refine ⟨m',?_,k2⟩
    simp only [List.map_cons,Instr.fill,hp]
    rw [if_neg (by simp;omega)]
    exact k1
   ·cases h3
  ·cases h1
theorem repeatL_rel {ρ:Ren} {z:List Val} {m:List Value} (h:VRels ρ z m): ∀ n,VRels ρ (repeatL z n) (List.replicate n m).flatten
 |0=>by simp only [repeatL,List.replicate_zero,List.flatten_nil];exact .nil
 |n+1=>by simp only [repeatL,List.replicate_succ,List.flatten_cons];exact h.append (repeatL_rel h n)
theorem zeroCells_flat (m:Array Value) (n:Nat):((Array.range (n*m.size)).map fun i=>m[i%m.size]!).toList =(List.replicate n m.toList).flatten :=by
 induction n with
 |zero=>simp
 |succ n ih=>
  rw [List.replicate_succ',List.flatten_append]
  rw [←ih]
  apply List.ext_getElem?
  intro i
  simp only [Array.getElem?_toList,Array.getElem?_map,List.getElem?_append,Array.length_toList,Array.size_map,Array.size_range,List.flatten_cons,List.flatten_nil,List.append_nil]
  by_cases h:i<n*m.size
  ·simp only [h,if_true]
   rw [Array.getElem?_range,Array.getElem?_range,if_pos h,if_pos (by rw [Nat.succ_mul];omega)]
  ·simp only [h,if_false]
   rw [Array.getElem?_range]
   by_cases h2:i<(n+1)*m.size
   ·rw [if_pos h2]
    rw [Nat.succ_mul] at h2
    have hlt:i - n*m.size<m.size:=by omega
    have hm:i%m.size=i - n*m.size:=by
     have:i=(i - n*m.size)+n*m.size:=by omega
     rw [this,Nat.add_mul_mod_self_right,Nat.mod_eq_of_lt hlt]
     omega
    simp only [Option.map_some,hm]
    rw [getElem!_pos m _ hlt,Array.getElem?_eq_getElem hlt]
   ·rw [if_neg h2]
    rw [Nat.succ_mul] at h2
    rw [Array.getElem?_eq_none (by omega)]
    rfl
section
variable {P:Program} {ρ:Ren} {h h':Heap} {w:World} (hr:HRel ρ h w) {fr:List Val} {a:Act} (hf:FRel ρ fr a)
include hr
theorem s_value {cv:Value} {v:Val} (hv:VRel ρ v cv):Sound P (pure (.value cv)) ρ h w v h:=Sound.pure hr (by simp) hv
theorem s_pick {c x y:Val} {cv xv yv:Value} (hc:VRel ρ c cv) (hx:VRel ρ x xv) (hy:VRel ρ y yv) {b:Bool} (hb:c=.bool b):Sound P (do pure (.value (if←asBool cv then xv else yv))) ρ h w (if b then x else y) h:=by
 subst hb
 simp only [VRel] at hc;subst hc
 cases b
 ·exact Sound.pure hr (by simp [asBool];rfl) (by simpa using hy)
 ·exact Sound.pure hr (by simp [asBool];rfl) (by simpa using hx)
include hf in
theorem s_build_struct {t:TypeId} {fs:Array Field} (ht:P.underlying t=some (.struct fs)) {z:List Val} (hz:cZero P t=some z) {parts:Array (Nat×Operand)} {ps:List (Nat×Nat×Opd)}
  (hp:cParts (fun i=>(fs[i]?).map fun f=>(f.offset,P.cellsOf f.type)) parts.toList=some ps) (hfs:fs.toList.all (fun f=>(P.info? f.type).isSome)=true) {c:List Val} (hc:V.fill fr z ps=some c):
  Sound P (do pure (.value (←Instr.build t (parts.map fun (i,x)=>(i,a.eval x))))) ρ h w (.agg c) h:=by
 obtain ⟨i,v,hi,hzv,hzc,hrun⟩:=cZero_rel (ρ:=ρ) hz
 obtain ⟨m',k1,k2⟩:=fill_rel hf _ parts.toList ps z v.cells c hp hzc hc
 have hmap: ∀ (l:List Field),(l.all fun f=>(P.info? f.type).isSome)=true→(l.mapM (m:=Sem) fun f=>do pure (f.offset,←sizeOf f.type)).run P w=.ok (l.map fun f=>(f.offset,P.cellsOf f.type)) w:=by
  intro l
  induction l with
  |nil=>intro _;simp
  |cons f l ih=>
   intro hl
   simp only [List.all_cons,Bool.and_eq_true] at hl
   obtain ⟨j,hj⟩:=Option.isSome_iff_exists.1 hl.1
   have ih':=ih hl.2
   simp only [bind_pure_comp] at ih' ⊢
   simp [List.mapM_cons,run_sizeOf_of hj,ih']
 have hmapA:(fs.mapM (m:=Sem) fun f=>do pure (f.offset,←sizeOf f.type)).run P w=.ok (fs.map fun f=>(f.offset,P.cellsOf f.type)) w:=by
  have:=hmap fs.toList hfs
  rw [Array.mapM_eq_mapM_toList]
  simp only [Sem.run_map,this,Result.andThen_ok]
  congr 1
  exact Array.ext' (by simp)
 refine Sound.pure hr (cv:=.agg m') ?_ (by simp only [VRel];exact ⟨_,rfl,k2⟩)
 simp only [Instr.build,Sem.run_bind,hrun,Result.andThen_ok,run_underlying ht,hmapA]
 have hpl:(fun (i:Nat)=>(fs.map fun (f:Field)=>(f.offset,P.cellsOf f.type))[i]?)=fun (i:Nat)=>(fs[i]?).map fun (f:Field)=>(f.offset,P.cellsOf f.type):=by
  funext i;simp
 have hpa:(parts.map fun (x:Nat×Operand)=>(x.1,a.eval x.2)).toList =parts.toList.map fun p=>(p.1,a.eval p.2):=by simp
 simp only [hpl,hpa,k1]
 simp
include hf in
theorem s_build_array {t:TypeId} {n:Nat} {e:TypeId} (ht:P.underlying t=some (.array n e)) {z:List Val} (hz:cZero P t=some z) {i:TypeInfo} (hi:P.info? e=some i) {parts:Array (Nat×Operand)} {ps:List (Nat×Nat×Opd)}
  (hp:cParts (fun i=>some (i*P.cellsOf e,P.cellsOf e)) parts.toList=some ps) {c:List Val} (hc:V.fill fr z ps=some c):
  Sound P (do pure (.value (←Instr.build t (parts.map fun (i,x)=>(i,a.eval x))))) ρ h w (.agg c) h:=by
 obtain ⟨j,v,hj,hzv,hzc,hrun⟩:=cZero_rel (ρ:=ρ) hz
 obtain ⟨m',k1,k2⟩:=fill_rel hf _ parts.toList ps z v.cells c hp hzc hc
 refine Sound.pure hr (cv:=.agg m') ?_ (by simp only [VRel];exact ⟨_,rfl,k2⟩)
 have hpa:(parts.map fun (x:Nat×Operand)=>(x.1,a.eval x.2)).toList =parts.toList.map fun p=>(p.1,a.eval p.2):=by simp
 simp only [Instr.build,Sem.run_bind,hrun,Result.andThen_ok,run_underlying ht,run_sizeOf_of hi,hpa,k1]
 simp
include hf in
theorem s_bslice {t:TypeId} {e:TypeId} (hty:Gd.ty e) (ht:P.underlying t=some (.slice e)) {z:List Val} (hz:cZero P e=some z) {len:Nat} (hzl:z.length=P.cellsOf e) (hle:len*z.length≤2^24) {parts:Array (Nat×Operand)} {ps:List (Nat×Nat×Opd)}
  (hp:cParts (fun i=>some (i*P.cellsOf e,P.cellsOf e)) parts.toList=some ps) {c:List Val} (hc:V.fill fr (repeatL z len) ps=some c):
  Sound P (do pure (.value (←Instr.buildSlice t len (parts.map fun (i,x)=>(i,a.eval x))))) ρ h w (.slice h.next 0 len len 0) (h.new (.cells c)).2:=by
 obtain ⟨j,v,hj,hzv,hzc,hrun⟩:=cZero_rel (ρ:=ρ) hz
 have hvs:v.cells.size=P.cellsOf e:=by have:=hzc.length;simp at this;omega
 have hcells:VRels ρ (repeatL z len) ((Array.range (len*P.cellsOf e)).map fun i=>v.cells[i%v.cells.size]!).toList :=by
  rw [←hvs,zeroCells_flat];exact repeatL_rel hzc len
 obtain ⟨m',k1,k2⟩:=fill_rel hf _ parts.toList ps _ _ c hp hcells hc
 refine s_new hr k2 hty (pv:=.slice (some ⟨w.heap.size,0,none⟩) len len) ?_ ?_
 ·have hpa:(parts.map fun (x:Nat×Operand)=>(x.1,a.eval x.2)).toList =parts.toList.map fun p=>(p.1,a.eval p.2):=by simp
  have hgt: ¬ (len*P.cellsOf e>2^24):=by rw [←hzl];omega
  have hrow: ∀ (zs:Array Value),(len*P.cellsOf e≠0→zs=v.cells)→((Array.range (len*P.cellsOf e)).map fun i=>zs[i%zs.size]!)=((Array.range (len*P.cellsOf e)).map fun i=>v.cells[i%v.cells.size]!):=by
   intro zs hzs
   by_cases h0:len*P.cellsOf e=0
   ·rw [h0];exact Array.ext' (by simp [Array.toList_range])
   ·rw [hzs h0]
  by_cases h0:len*P.cellsOf e=0
  ·have hk:=k1
   rw [←hrow #[] (fun k=>absurd h0 k)] at hk
   simp only [List.size_toArray,List.length_nil] at hk
   simp [Instr.buildSlice,run_underlying ht,run_sizeOf_of hj,h0]
   rw [h0] at hk
   simp at hk
   simp [hk,newRow]
  ·have hk:=k1
   simp only [Instr.buildSlice,Sem.run_bind,run_underlying ht,Result.andThen_ok,run_sizeOf_of hj,if_neg hgt,if_neg h0,hrun,Sem.run_pure,hpa]
   simp only [hk]
   simp [newRow]
 ·simp only [VRel]
  exact ⟨_,_,rfl,Nat.le_refl _,Nat.le_refl _,fun _=>rfl,.inr ⟨⟨w.heap.size,0,m'.toList.length,true,none⟩,by simp [Ren.upd],rfl,fun h=>absurd rfl h⟩⟩
end
end Go.V
end
section
namespace Go.V
variable [Gd]
theorem ByteArray.toList_mk (l:List UInt8):(ByteArray.mk ⟨l⟩).toList =l:=by
 have h: ∀ (n i:Nat) (r:List UInt8),n=l.length - i→i≤l.length→ByteArray.toList.loop (ByteArray.mk ⟨l⟩) i r=r.reverse++l.drop i:=by
  intro n
  induction n with
  |zero=>
   intro i r hn hi
   unfold ByteArray.toList.loop
   have hs:(ByteArray.mk ⟨l⟩).size =l.length:=rfl
   rw [if_neg (by rw [hs];omega),List.drop_of_length_le (by omega)];simp
  |succ n ih=>
   intro i r hn hi
   unfold ByteArray.toList.loop
   have hs:(ByteArray.mk ⟨l⟩).size =l.length:=rfl
   rw [if_pos (by rw [hs];omega),ih (i+1) _ (by omega) (by omega)]
   have hlt:i<l.length:=by omega
   have hg:(ByteArray.mk ⟨l⟩).get! i=l[i]:=by
    simp [ByteArray.get!,hlt]
   rw [hg,List.drop_eq_getElem_cons hlt]
   simp
 unfold ByteArray.toList
 rw [h l.length 0 [] (by omega) (by omega)]
 simp
theorem bytesLess_eq: ∀ (a b:List UInt8),Op.bytesLess a b=V.bytesLess a b
 |_,[]=>by cases ‹List UInt8› <;>rfl
 |[],_::_=>rfl
 |a::x,b::y=>by simp only [Op.bytesLess,V.bytesLess,bytesLess_eq x y]
theorem eqGuard_other {P:Program} {op:BinOp} (ho: ¬ (op=.eql ∨op=.neq)) (t:TypeId) (p q:Operand) (xv yv:Value) (w:World):(eqGuard op t p q xv yv).run P w=.ok () w:=by
 cases op<;>first|(exact absurd (.inl rfl) ho)|(exact absurd (.inr rfl) ho)|(simp [eqGuard])
def plainConc:Val→Value
 | .int k n=>.int k n
 | .bool b=>.bool b
 | .str s=>.string ⟨⟨s⟩⟩
 |_=>Go.undef
theorem binOp_int {P:Program} {ρ:Ren} {op:BinOp} (ho: ¬ (op=.eql ∨op=.neq)) {k k':IntKind} {m n:Int} {r:Val} (e:arith op (.int k m) (.int k' n)=some r) (t:TypeId) (w:World):
  (binOp op t (.int k m) (.int k' n)).run P w=.ok (plainConc r) w∧VRel ρ r (plainConc r):=by
 by_cases hs:op=.shl ∨op=.shr
 ·rcases hs with rfl|rfl<;>simp only [arith] at e<;>split at e<;>(try (cases e;done))<;>simp only [Option.some.injEq] at e<;>subst e<;>simp only [plainConc,VRel,and_true]
  ·rename_i hn;simp [binOp,Op.shift,hn]
  ·rename_i hn;simp [binOp,Op.shift,hn]
 ·by_cases hk:k=k'
  ·subst hk
   cases op<;>simp only [arith,intBin,if_true] at e<;>(try (exact absurd (.inl rfl) hs))<;>(try (exact absurd (.inr rfl) hs))<;>(try (exact absurd (.inl rfl) ho))<;>(try (exact absurd (.inr rfl) ho))<;>
    (try split at e)<;>(try (cases e;done))<;>simp only [Option.some.injEq] at e<;>subst e<;>simp only [plainConc,VRel,and_true]<;>
    simp_all [binOp,Op.intArith,Op.intDiv,Op.intBits,Op.intCmp]
  ·cases op<;>simp_all [arith]
theorem binOp_str {P:Program} {ρ:Ren} {op:BinOp} (ho: ¬ (op=.eql ∨op=.neq)) {a b:List UInt8} {r:Val} (e:arith op (.str a) (.str b)=some r) (t:TypeId) (w:World):
  (binOp op t (.string ⟨⟨a⟩⟩) (.string ⟨⟨b⟩⟩)).run P w=.ok (plainConc r) w∧VRel ρ r (plainConc r):=by
 cases op<;>simp only [arith] at e<;>(try (exact absurd (.inl rfl) ho))<;>(try (exact absurd (.inr rfl) ho))<;>(try (cases e;done))
 case add=>
  split at e
  ·rename_i hlen
   simp only [Option.some.injEq] at e;subst e
   simp only [plainConc,VRel,and_true]
   have h1: ¬ ((9223372036854775807:Int)<((ByteArray.mk ⟨a⟩).size :Int)+((ByteArray.mk ⟨b⟩).size :Int)):=by
    have e1:(ByteArray.mk ⟨a⟩).size =a.length:=rfl
    have e2:(ByteArray.mk ⟨b⟩).size =b.length:=rfl
    rw [e1,e2];omega
   simp [binOp,Op.stringOp]
   rw [if_neg h1]
   congr 2
  ·cases e
 all_goals
  simp only [Option.some.injEq] at e;subst e
  simp only [plainConc,VRel,and_true]
  simp [binOp,Op.stringOp,ByteArray.toList_mk,bytesLess_eq]
section
variable {P:Program} {ρ:Ren} {h h':Heap} {w:World} (hr:HRel ρ h w) {fr:List Val} {a:Act} (hf:FRel ρ fr a)
include hr
theorem s_arith {op:BinOp} (ho: ¬ (op=.eql ∨op=.neq)) {t:TypeId} {p q:Operand} {x y r:Val} {xv yv:Value} (hx:VRel ρ x xv) (hy:VRel ρ y yv) (e:arith op x y=some r):
  Sound P (do pure (.value (←(do eqGuard op t p q xv yv;binOp op t xv yv)))) ρ h w r h:=by
 have hg:=eqGuard_other (P:=P) ho t p q xv yv
 have key:(binOp op t xv yv).run P w=.ok (plainConc r) w∧VRel ρ r (plainConc r):=by
  cases x<;>cases y<;>simp only [VRel] at hx hy<;>(try (cases op<;>simp [arith] at e;done))
  case int.int k m k' n=>subst hx hy;exact binOp_int ho e t w
  case str.str s s'=>subst hx hy;exact binOp_str ho e t w
 exact Sound.pure hr (by simp [hg,key.1]) key.2
theorem s_un {op:UnOp} {x r:Val} {xv:Value} (hx:VRel ρ x xv) (e:unary op x=some r):Sound P (do pure (.value (←Op.unary op xv))) ρ h w r h:=by
 cases x<;>simp only [VRel] at hx<;>cases op<;>simp only [unary,Option.some.injEq,reduceCtorEq] at e<;>subst e<;>subst hx
 ·exact Sound.pure hr (by simp [Op.unary];rfl) (by simp only [VRel])
 ·exact Sound.pure hr (by simp only [Op.unary,Op.intArith,Sem.run_bind,Sem.run_pure,Result.andThen_ok];rfl) (by simp only [VRel])
 ·exact Sound.pure hr (by simp only [Op.unary,Op.intBits,Sem.run_bind,Sem.run_pure,Result.andThen_ok];rfl) (by simp only [VRel])
theorem s_convInt {s t:TypeId} {k k0:IntKind} (hs:P.underlying s=some (.int k0)) (ht:P.underlying t=some (.int k)) {x:Val} {xv:Value} (hx:VRel ρ x xv) {k':IntKind} {n:Int} (e:x=.int k' n):
  Sound P (do pure (.value (←convert s t xv))) ρ h w (.int k (k.wrap n)) h:=by
 subst e;simp only [VRel] at hx;subst hx
 exact Sound.pure hr (by simp [convert,run_underlying hs,run_underlying ht,Conv.intToInt];rfl) (by simp only [VRel])
theorem s_convSame {s t:TypeId} (hs:P.underlying s=some .string) (ht:P.underlying t=some .string) {x:Val} {xv:Value} (hx:VRel ρ x xv) {l:List UInt8} (e:x=.str l):
  Sound P (do pure (.value (←convert s t xv))) ρ h w (.str l) h:=by
 subst e;simp only [VRel] at hx;subst hx
 exact Sound.pure hr (by simp [convert,run_underlying hs,run_underlying ht];rfl) (by simp only [VRel])
theorem s_nilCheck {o:Oper} {p:Operand} (ho:o.op=.nilCheck p) {ρo:Operand→Value} {x:Val} (hx:VRel ρ x (ρo p)) (h1:nilOk x=true):
  Sound P (execOp ρo o) ρ h w x h:=by
 have hrun:(execOp ρo o).run P w=.ok (.value (ρo p)) w:=by
  unfold execOp
  simp only [ho]
  generalize ρo p=v at hx
  cases x<;>simp only [VRel] at hx<;>simp [nilOk] at h1
  all_goals first
   |(subst hx;simp;done)
   |(obtain ⟨_,_,hx⟩:=hx;subst hx;simp;done)
   |(obtain ⟨_,_,hx,_⟩:=hx;subst hx;simp;done)
   |(obtain ⟨_,hx,_⟩:=hx;subst hx;simp;done)
   |skip
  rename_i f b c
  rcases hx with ⟨_,a',c',rfl,_,_⟩|⟨r,j,o,l,ts,rfl,_,_,_,rfl,_⟩
  ·cases f<;>simp at h1 ⊢
  ·simp
 exact Sound.pure hr hrun hx
theorem s_mkiface {t:TypeId} {d:TypeDesc} (ht:P.underlying t=some d) (hd: ∀ m,d≠.interface m) {x:Val} {xv:Value} (hx:VRel ρ x xv):Sound P (do pure (.value (←Instr.makeInterface t xv))) ρ h w (.iface t x) h:=by
 refine Sound.pure hr (cv:=.iface t xv) ?_ (by simp only [VRel];exact ⟨_,rfl,hx⟩)
 simp only [Instr.makeInterface,Sem.run_bind,run_underlying ht,Result.andThen_ok]
 cases d<;>simp_all
theorem s_mkfunc {f:Fn} (hsm:smallFn f=true) {xs ys:List Val} {xv yv:List Value} (hx:VRels ρ xs xv) (hy:VRels ρ ys yv):Sound P (do pure (.value (←Instr.makeFunc f xv.toArray yv.toArray))) ρ h w (.func f xs ys) h:=
 Sound.pure hr (by simp [Instr.makeFunc];rfl) (by simp only [VRel];exact .inl ⟨hsm,_,_,rfl,hx,hy⟩)
theorem s_faddr {t:TypeId} {fs:Array Field} (ht:P.underlying t=some (.struct fs)) {i:Nat} {f:Field} (hfi:fs[i]? =some f) {j:TypeInfo} (hj:P.info? f.type=some j) (hfz:P.cellsOf f.type≠0) {b o:Nat} {v:Value} (hv:VRel ρ (.ptr b o) v):
  Sound P (do pure (.value (←Instr.fieldAt t v i))) ρ h w (.ptr b (o+f.offset)) h:=by
 simp only [VRel] at hv
 obtain ⟨l,hl,rfl⟩:=hv
 refine Sound.pure hr (cv:=.pointer (some ⟨l.c,l.s+(o+f.offset),none⟩)) ?_ (by simp only [VRel];exact ⟨l,hl,rfl⟩)
 simp only [Instr.fieldAt,Sem.run_bind,run_underlying ht,Result.andThen_ok,hfi,Instr.sureAddr,Sem.run_pure,fieldPlace,run_sizeOf_of hj,if_neg hfz,Addr.add_none,Nat.add_assoc]
theorem s_faddrZ {t:TypeId} {fs:Array Field} (ht:P.underlying t=some (.struct fs)) {i:Nat} {f:Field} (hfi:fs[i]? =some f) {j:TypeInfo} (hj:P.info? f.type=some j) (hfz:P.cellsOf f.type=0) (hgd: ∀ e,Gd.ty e→typeOk P e=true)
  {b o:Nat} {cs:List Val} (hg:h.get b=some (.cells cs)) {v:Value} (hv:VRel ρ (.ptr b o) v):Sound P (do pure (.value (←Instr.fieldAt t v i))) ρ h w .zp h:=by
 simp only [VRel] at hv
 obtain ⟨l,hl,rfl⟩:=hv
 obtain ⟨l',hl',arr,e,lo,hi,a1,a0,_⟩:=hr.blk b _ hg
 rw [hl] at hl';cases hl'
 have hok:=hgd e a0
 have hsh:w.shape? l.c=some (e,arr.size):=by simp [World.shape?,a1]
 have byte: ∀ off,∃ n,(byteOf ⟨l.c,off,none⟩).run P w=.ok n w:=by
  intro off
  by_cases hs:P.cellsOf e=0
  ·exact ⟨0,by simp [byteOf,noView,viewAt,shape,program,Sem.run,hsh,hs]⟩
  ·have:off%P.cellsOf e<P.cellsOf e:=Nat.mod_lt _ (by omega)
   unfold typeOk at hok
   rw [List.all_eq_true] at hok
   obtain ⟨k,hk⟩:=Option.isSome_iff_exists.1 (hok _ (by simpa using this))
   exact ⟨off/P.cellsOf e*P.bytesOf e+k,by simp [byteOf,noView,viewAt,shape,program,Sem.run,hsh,hs,hk]⟩
 obtain ⟨n1,h1⟩:=byte (l.s+o)
 obtain ⟨n2,h2⟩:=byte (l.s+o+f.offset)
 refine ⟨.value (.pointer (some (if n2=n1+f.byteOffset then ⟨l.c,l.s+o+f.offset,none⟩ else ⟨l.c,l.s+o+f.offset,some (n1+f.byteOffset)⟩))),w,_,ρ,?_,.inl rfl,.refl hr,by simp only [VRel];exact ⟨_,rfl⟩⟩
 simp [Instr.fieldAt,run_underlying ht,hfi,Instr.sureAddr,fieldPlace,run_sizeOf_of hj,hfz,partAt,h1,h2]
theorem s_ext {x:Val} {xv:Value} (hx:VRel ρ x xv) {l:List Val} (e:x=.tup l) {i:Nat} {v:Val} (hi:l[i]? =some v):Sound P (do pure (.value (←Instr.extract xv i))) ρ h w v h:=by
 subst e;simp only [VRel] at hx
 obtain ⟨a,rfl,hl⟩:=hx
 obtain ⟨y,hy,r⟩:=hl.get i v hi
 rw [Array.getElem?_toList] at hy
 exact Sound.pure hr (by simp [Instr.extract,hy]) r
end
end Go.V
end
section
namespace Go.V
variable [Gd]
theorem bnd_rel {P:Program} {ρ:Ren} {fr:List Val} {a:Act} (hf:FRel ρ fr a) {x:Operand} {y:Opd} (hx:cOpd x=some y) {n m k:Nat} (hnm:n≤m) (e:bnd fr n y=some k) (code:BoundsCode) (w:World):
  (Instr.sliceBound (a.eval x) m code).run P w=.ok k w∧k≤n:=by
 unfold bnd at e
 have hv:=hf.ev hx
 split at e
 ·rename_i kk i hi
  rw [hi] at hv
  simp only [VRel] at hv
  split at e
  ·rename_i hh
   cases e
   refine ⟨?_,by omega⟩
   simp only [Instr.sliceBound,hv,asIntOf,Sem.run_bind,Sem.run_pure,Result.andThen_ok]
   rw [if_pos ⟨hh.1,by omega⟩];simp
  ·cases e
 ·cases e
theorem bounds_rel {P:Program} {ρ:Ren} {fr:List Val} {a:Act} (hf:FRel ρ fr a) {lo hi mx:Option Operand} {lo' hi' mx':Option Opd} (hl:cOpt lo=some lo') (hh:cOpt hi=some hi') (hm:cOpt mx=some mx') {len cap cap' l k m:Nat} (hlc:len≤cap) (hcc:cap≤cap')
  (e:bounds fr len cap lo' hi' mx'=some (l,k,m)) (sl:Bool) (w:World):
  ∃ m',(Instr.sliceBounds sl len cap' (lo.map a.eval) (hi.map a.eval) (mx.map a.eval)).run P w=.ok (l,k,m') w∧l≤k∧k≤m∧m≤cap∧(mx'.isSome=true→m'=m)∧(mx'.isSome=false→m'=cap'∧m=cap):=by
 unfold bounds at e
 cases mx with
 |none=>
  simp only [cOpt,Option.some.injEq] at hm;subst hm
  simp only at e
  cases hi with
  |none=>
   simp only [cOpt,Option.some.injEq] at hh;subst hh
   simp only [Option.isSome_none,Bool.false_eq_true,if_false] at e
   cases lo with
   |none=>
    simp only [cOpt,Option.some.injEq] at hl;subst hl
    simp only [Option.some.injEq,Prod.mk.injEq] at e
    obtain ⟨rfl,rfl,rfl⟩:=e
    exact ⟨cap',by simp [Instr.sliceBounds],Nat.zero_le _,hlc,Nat.le_refl _,by simp,by simp⟩
   |some x=>
    simp only [cOpt,Option.map_eq_some_iff] at hl
    obtain ⟨y,hy,rfl⟩:=hl
    simp only at e
    split at e
    ·cases e
    ·rename_i l' hb
     simp only [Option.some.injEq,Prod.mk.injEq] at e
     obtain ⟨rfl,rfl,rfl⟩:=e
     have:=bnd_rel (P:=P) hf hy (Nat.le_refl _) hb (.sliceB) w
     exact ⟨cap',by simp [Instr.sliceBounds,this.1],this.2,hlc,Nat.le_refl _,by simp,by simp⟩
  |some z=>
   simp only [cOpt,Option.map_eq_some_iff] at hh
   obtain ⟨y,hy,rfl⟩:=hh
   simp only at e
   split at e
   ·cases e
   ·rename_i k' hk
    have h1:=fun code=>bnd_rel (P:=P) hf hy hcc hk code w
    have h1':=(h1 .sliceB).2
    cases lo with
    |none=>
     simp only [cOpt,Option.some.injEq] at hl;subst hl
     simp only [Option.some.injEq,Prod.mk.injEq] at e
     obtain ⟨rfl,rfl,rfl⟩:=e
     exact ⟨cap',by simp [Instr.sliceBounds,(h1 _).1],Nat.zero_le _,h1',Nat.le_refl _,by simp,by simp⟩
    |some x=>
     simp only [cOpt,Option.map_eq_some_iff] at hl
     obtain ⟨y',hy',rfl⟩:=hl
     simp only at e
     split at e
     ·cases e
     ·rename_i l' hb
      simp only [Option.some.injEq,Prod.mk.injEq] at e
      obtain ⟨rfl,rfl,rfl⟩:=e
      have:=bnd_rel (P:=P) hf hy' (Nat.le_refl _) hb (.sliceB) w
      exact ⟨cap',by simp [Instr.sliceBounds,(h1 _).1,this.1],this.2,h1',Nat.le_refl _,by simp,by simp⟩
 |some q=>
  simp only [cOpt,Option.map_eq_some_iff] at hm
  obtain ⟨y0,hy0,rfl⟩:=hm
  simp only at e
  split at e
  ·cases e
  ·rename_i m0 hm0
   have h0:=fun code=>bnd_rel (P:=P) hf hy0 hcc hm0 code w
   have h0':=(h0 .sliceB).2
   cases hi with
   |none=>
    simp only [cOpt,Option.some.injEq] at hh;subst hh
    simp at e
   |some z=>
    simp only [cOpt,Option.map_eq_some_iff] at hh
    obtain ⟨y,hy,rfl⟩:=hh
    simp only at e
    split at e
    ·cases e
    ·rename_i k' hk
     have h1:=fun code=>bnd_rel (P:=P) hf hy (Nat.le_refl _) hk code w
     have h1':=(h1 .sliceB).2
     cases lo with
     |none=>
      simp only [cOpt,Option.some.injEq] at hl;subst hl
      simp only [Option.some.injEq,Prod.mk.injEq] at e
      obtain ⟨rfl,rfl,rfl⟩:=e
      exact ⟨m0,by simp [Instr.sliceBounds,(h0 _).1,(h1 _).1],Nat.zero_le _,h1',h0',by simp,by simp⟩
     |some x=>
      simp only [cOpt,Option.map_eq_some_iff] at hl
      obtain ⟨y',hy',rfl⟩:=hl
      simp only at e
      split at e
      ·cases e
      ·rename_i l' hb
       simp only [Option.some.injEq,Prod.mk.injEq] at e
       obtain ⟨rfl,rfl,rfl⟩:=e
       have:=bnd_rel (P:=P) hf hy' (Nat.le_refl _) hb (.slice3C) w
       exact ⟨m0,by simp [Instr.sliceBounds,(h0 _).1,(h1 _).1,this.1],this.2,h1',h0',by simp,by simp⟩
section
variable {P:Program} {ρ:Ren} {h h':Heap} {w:World} (hr:HRel ρ h w) {fr:List Val} {a:Act} (hf:FRel ρ fr a)
include hr
include hf in
theorem s_sliceStr {t:TypeId} (ht:P.underlying t=some .string) {x:Val} {xv:Value} (hx:VRel ρ x xv) {s:List UInt8} (e:x=.str s) {lo hi:Option Operand} {lo' hi':Option Opd} (hl:cOpt lo=some lo') (hh:cOpt hi=some hi')
  {l k m:Nat} (hb:bounds fr s.length s.length lo' hi' none=some (l,k,m)):Sound P (do pure (.value (←Instr.sliceAt t xv (lo.map a.eval) (hi.map a.eval) none))) ρ h w (.str ((s.take k).drop l)) h:=by
 subst e;simp only [VRel] at hx;subst hx
 obtain ⟨m',hrun,h1,h2,_⟩:=bounds_rel (P:=P) hf hl hh (mx:=none) (by simp [cOpt]) (Nat.le_refl _) (Nat.le_refl _) hb false w
 simp only [Option.map_none] at hrun
 have hs:(ByteArray.mk ⟨s⟩).size =s.length:=rfl
 refine Sound.pure hr (cv:=.string ⟨⟨(s.take k).drop l⟩⟩) ?_ (by simp only [VRel])
 simp only [Instr.sliceAt,Instr.slice,Sem.run_bind,run_underlying ht,Result.andThen_ok,hs]
 simp [hrun]
 apply ByteArray.ext
 apply Array.ext'
 simp [ByteArray.data_extract,List.extract_eq_take_drop,List.drop_take]
include hf in
theorem s_slice {t e:TypeId} (ht:P.underlying t=some (.slice e)) {i:TypeInfo} (hi:P.info? e=some i) {x v:Val} {xv:Value} (hx:VRel ρ x xv) {lo hg mx:Option Operand} {lo' hg' mx':Option Opd} (hl:cOpt lo=some lo') (hh:cOpt hg=some hg') (hm:cOpt mx=some mx')
  (hv:sliceVal fr (P.cellsOf e) x lo' hg' mx'=some v):
  Sound P (do pure (.value (←Instr.sliceAt t xv (lo.map a.eval) (hg.map a.eval) (mx.map a.eval)))) ρ h w v h:=by
 unfold sliceVal at hv
 cases x
 case nils=>
  simp only [VRel] at hx;subst hx
  simp only at hv
  split at hv
  ·rename_i r hb
   cases hv
   obtain ⟨l,k,m⟩:=r
   obtain ⟨m',hrun,h1,h2,h3,h4,h5⟩:=bounds_rel (P:=P) hf hl hh hm (Nat.le_refl _) (Nat.le_refl _) hb true w
   have hm0:m'=0:=by
    cases hms:mx'.isSome
    ·exact (h5 hms).1
    ·rw [h4 hms];omega
   have hl0:l=0:=by omega
   have hk0:k=0:=by omega
   subst hm0 hl0 hk0
   refine Sound.pure hr (cv:=.slice none 0 0) ?_ (by simp only [VRel])
   simp only [Instr.sliceAt,Instr.slice,Sem.run_bind,run_underlying ht,Result.andThen_ok,hrun,run_sizeOf_of hi]
   simp
  ·cases hv
 case list=>simp only [VRel] at hx
 case slice b o len cap ls=>
  simp only [VRel] at hx
  obtain ⟨ad,cap',rfl,c1,c2,c3,c4⟩:=hx
  simp only at hv
  split at hv
  ·rename_i hls
   split at hv
   ·rename_i l k m hb
    cases hv
    obtain ⟨m',hrun,h1,h2,h3,h4,h5⟩:=bounds_rel (P:=P) hf hl hh hm c1 c2 hb true w
    have hmm:m≤m'∧m'≤cap':=by
     cases hms:mx'.isSome
     ·have:=h5 hms;omega
     ·have:=h4 hms;omega
    refine Sound.pure hr (cv:=.slice (if m'=l then some ad else some (ad.add (l*P.cellsOf e))) (k - l) (m' - l)) ?_ ?_
    ·simp only [Instr.sliceAt,Instr.slice,Sem.run_bind,run_underlying ht,Result.andThen_ok,hrun,run_sizeOf_of hi]
     simp
    ·simp only [VRel]
     refine ⟨if m'=l then ad else ad.add (l*P.cellsOf e),m' - l,by split<;>rfl,by omega,by omega,?_,?_⟩
     ·intro hz
      cases hms:mx'.isSome
      ·have h6:=h5 hms
       rw [hms] at hz
       simp only [Bool.false_eq_true,if_false] at hz
       have:=c3 hz;omega
      ·rw [h4 hms]
     ·by_cases hml:m'=l
      ·left
       refine ⟨by omega,?_⟩
       rcases c4 with ⟨_,c4⟩|⟨L,hL,_⟩
       ·rcases c4 with c4|c4
        ·left;rw [c4];split<;>rfl
        ·exact .inr c4
       ·exact .inr ⟨L,hL⟩
      ·right
       rcases c4 with ⟨c4,_⟩|⟨L,hL,ha,hloose⟩
       ·omega
       ·refine ⟨L,hL,?_,?_⟩
        ·rw [if_neg hml,ha,Addr.add_none,Nat.add_assoc]
        ·intro hz
         cases hms:mx'.isSome
         ·rw [hms] at hz
          simp only [Bool.false_eq_true,if_false] at hz ⊢
          have h6:=h5 hms
          have h7:=hloose hz
          have h8:ls=P.cellsOf e:=hls.resolve_left hz
          rw [←h8]
          have h9:(m' - l)*ls+l*ls=cap'*ls:=by rw [←Nat.add_mul,h6.1];congr 1;omega
          omega
         ·rw [hms] at hz;simp at hz
   ·cases hv
  ·cases hv
 all_goals (simp at hv)
include hf in
theorem s_sliceArr {t e:TypeId} {n:Nat} (ht:P.underlying t=some (.array n e)) {i:TypeInfo} (hi:P.info? e=some i) {b o:Nat} {xv:Value} (hx:VRel ρ (.ptr b o) xv) {lo hg mx:Option Operand} {lo' hg' mx':Option Opd} (hl:cOpt lo=some lo') (hh:cOpt hg=some hg') (hm:cOpt mx=some mx')
  {l k m:Nat} (hb:bounds fr n n lo' hg' mx'=some (l,k,m)):
  Sound P (do pure (.value (←Instr.sliceAt t xv (lo.map a.eval) (hg.map a.eval) (mx.map a.eval)))) ρ h w (.slice b (o+l*P.cellsOf e) (k - l) (m - l) 0) h:=by
 simp only [VRel] at hx
 obtain ⟨L,hL,rfl⟩:=hx
 obtain ⟨m',hrun,h1,h2,h3,h4,h5⟩:=bounds_rel (P:=P) hf hl hh hm (Nat.le_refl _) (Nat.le_refl _) hb false w
 have hmm:m'=m:=by
  cases hms:mx'.isSome
  ·have:=h5 hms;omega
  ·exact h4 hms
 subst hmm
 refine Sound.pure hr (cv:=.slice (some (if m'=l then ⟨L.c,L.s+o,none⟩ else (⟨L.c,L.s+o,none⟩:Addr).add (l*P.cellsOf e))) (k - l) (m' - l)) ?_ ?_
 ·simp only [Instr.sliceAt,Sem.run_bind,run_underlying ht,Result.andThen_ok,Instr.sureAddr,Sem.run_pure,hrun,run_sizeOf_of hi]
 ·simp only [VRel]
  refine ⟨_,_,rfl,by omega,Nat.le_refl _,fun _=>rfl,?_⟩
  by_cases hml:m'=l
  ·left;exact ⟨by omega,.inl trivial⟩
  ·right
   exact ⟨L,hL,by rw [if_neg hml,Addr.add_none,Nat.add_assoc],fun hz=>absurd rfl hz⟩
theorem s_field {t:TypeId} {fs:Array Field} (ht:P.underlying t=some (.struct fs)) {j:Nat} {f:Field} (hj:fs[j]? =some f) {d:TypeDesc} (hd:P.underlying f.type=some d) {l:List Val} {xv:Value} (hx:VRel ρ (.agg l) xv) {v:Val}
  (hv:(aggType P f.type=true∧v=.agg ((l.drop f.offset).take (P.cellsOf f.type)))∨(aggType P f.type=false∧l[f.offset]? =some v)):
  Sound P (do pure (.value (←Instr.field t xv j))) ρ h w v h:=by
 simp only [VRel] at hx
 obtain ⟨arr,rfl,hl⟩:=hx
 obtain ⟨i,hi⟩:=info_of_underlying hd
 rcases hv with ⟨ha,rfl⟩|⟨ha,hv⟩
 ·refine Sound.pure hr (cv:=.agg (arr.extract f.offset (f.offset+P.cellsOf f.type))) ?_ ?_
  ·simp only [Instr.field,Sem.run_bind,run_underlying ht,Result.andThen_ok,hj,asAgg,Sem.run_pure,part,run_isAgg_of hd,ha,if_true,run_sizeOf_of hi]
  ·simp only [VRel]
   refine ⟨_,rfl,?_⟩
   have:=(hl.drop f.offset).take (P.cellsOf f.type)
   simpa [Array.toList_extract,List.extract_eq_take_drop,List.drop_take] using this
 ·obtain ⟨y,hy,r⟩:=hl.get _ _ hv
  rw [Array.getElem?_toList] at hy
  refine Sound.pure hr (cv:=y) ?_ r
  simp only [Instr.field,Sem.run_bind,run_underlying ht,Result.andThen_ok,hj,asAgg,Sem.run_pure,part,run_isAgg_of hd,ha,Bool.false_eq_true,if_false,hy]
theorem s_iaddr {t e:TypeId} (ht:P.underlying t=some (.slice e)) {i:TypeInfo} (hi:P.info? e=some i) {b o len cap ls:Nat} {xv iv:Value} (hx:VRel ρ (.slice b o len cap ls) xv) {k:IntKind} {n:Int} (hn:VRel ρ (.int k n) iv) (h0:0≤n∧n<len):
  Sound P (do pure (.value (←Instr.indexAt t xv iv))) ρ h w (.ptr b (o+n.toNat*P.cellsOf e)) h:=by
 simp only [VRel] at hx hn
 obtain ⟨ad,cap',rfl,c1,c2,c3,c4⟩:=hx
 subst hn
 rcases c4 with c4|⟨L,hL,ha,_⟩
 ·omega
 ·refine Sound.pure hr (cv:=.pointer (some ⟨L.c,L.s+(o+n.toNat*P.cellsOf e),none⟩)) ?_ (by simp only [VRel];exact ⟨L,hL,rfl⟩)
  simp [Instr.indexAt,asIntOf,run_underlying ht,h0,run_sizeOf_of hi,ha,Addr.add_none,Nat.add_assoc]
theorem s_iaddrArr {t e:TypeId} {len:Nat} (ht:P.underlying t=some (.array len e)) {i:TypeInfo} (hi:P.info? e=some i) {b o:Nat} {xv iv:Value} (hx:VRel ρ (.ptr b o) xv) {k:IntKind} {n:Int} (hn:VRel ρ (.int k n) iv) (h0:0≤n∧n<len):
  Sound P (do pure (.value (←Instr.indexAt t xv iv))) ρ h w (.ptr b (o+n.toNat*P.cellsOf e)) h:=by
 simp only [VRel] at hx hn
 obtain ⟨L,hL,rfl⟩:=hx
 subst hn
 refine Sound.pure hr (cv:=.pointer (some ⟨L.c,L.s+(o+n.toNat*P.cellsOf e),none⟩)) ?_ (by simp only [VRel];exact ⟨L,hL,rfl⟩)
 simp [Instr.indexAt,Instr.sureAddr,asIntOf,run_underlying ht,h0,run_sizeOf_of hi,Addr.add_none,Nat.add_assoc]
theorem s_index {t:TypeId} (ht:P.underlying t=some .string) {s:List UInt8} {xv iv:Value} (hx:VRel ρ (.str s) xv) {k:IntKind} {n:Int} (hn:VRel ρ (.int k n) iv) (h0:0≤n) {c:UInt8} (hc:s[n.toNat]? =some c):
  Sound P (do pure (.value (←Instr.index t xv iv))) ρ h w (toByte c) h:=by
 simp only [VRel] at hx hn
 subst hx hn
 refine Sound.pure hr (cv:=.int .u8 c.toNat) ?_ (by simp only [toByte,VRel])
 have hlt:n.toNat<s.length:=(List.getElem?_eq_some_iff.1 hc).1
 have hg:(ByteArray.mk ⟨s⟩)[n.toNat]? =some c:=by
  rw [getElem?_pos (ByteArray.mk ⟨s⟩) n.toNat hlt]
  congr 1
  exact (List.getElem?_eq_some_iff.1 hc).2
 simp [Instr.index,asIntOf,run_underlying ht,h0,hg]
theorem s_indexArr {t e:TypeId} {len:Nat} (ht:P.underlying t=some (.array len e)) {d:TypeDesc} (hd:P.underlying e=some d) {l:List Val} {xv iv:Value} (hx:VRel ρ (.agg l) xv) {k:IntKind} {n:Int} (hn:VRel ρ (.int k n) iv) (h0:0≤n∧n<len∧n.toNat*P.cellsOf e+P.cellsOf e≤l.length) {v:Val}
  (hv:(aggType P e=true∧v=.agg ((l.drop (n.toNat*P.cellsOf e)).take (P.cellsOf e)))∨(aggType P e=false∧l[n.toNat*P.cellsOf e]? =some v)):
  Sound P (do pure (.value (←Instr.index t xv iv))) ρ h w v h:=by
 simp only [VRel] at hx hn
 obtain ⟨arr,rfl,hl⟩:=hx
 subst hn
 obtain ⟨i,hi⟩:=info_of_underlying hd
 rcases hv with ⟨ha,rfl⟩|⟨ha,hv⟩
 ·refine Sound.pure hr (cv:=.agg (arr.extract (n.toNat*P.cellsOf e) (n.toNat*P.cellsOf e+P.cellsOf e))) ?_ ?_
  ·simp [Instr.index,asIntOf,run_underlying ht,h0.1,h0.2.1,run_sizeOf_of hi,part,run_isAgg_of hd,ha]
  ·simp only [VRel]
   refine ⟨_,rfl,?_⟩
   have:=(hl.drop (n.toNat*P.cellsOf e)).take (P.cellsOf e)
   simpa [Array.toList_extract,List.extract_eq_take_drop,List.drop_take] using this
 ·obtain ⟨y,hy,r⟩:=hl.get _ _ hv
  rw [Array.getElem?_toList] at hy
  exact Sound.pure hr (cv:=y) (by simp [Instr.index,asIntOf,run_underlying ht,h0.1,h0.2.1,run_sizeOf_of hi,part,run_isAgg_of hd,ha,hy]) r
end
end Go.V
end
section
namespace Go.V
variable [Gd]
theorem wrap_small {n:Int} (h0:0≤n) (h1:n≤70368744177664):IntKind.i64.wrap n=n:=by
 have e:n%18446744073709551616=n:=Int.emod_eq_of_lt h0 (by omega)
 have k:IntKind.i64.wrap n=if n%18446744073709551616≥9223372036854775808 then n%18446744073709551616 - 18446744073709551616 else n%18446744073709551616:=by
  simp [IntKind.wrap,IntKind.bits,IntKind.signed]
 rw [k,e,if_neg (by omega)]
theorem sound_of {P:Program} {ρ ρ':Ren} {h h':Heap} {w w':World} {s:Sem Value} {v:Val} {cv:Value} (hs:s.run P w=.ok cv w') (hp:Post ρ h w ρ' h' w') (hv:VRel ρ' v cv):Sound P (do pure (Next.value (←s))) ρ h w v h':=
 ⟨_,w',cv,ρ',by simp [hs],.inl rfl,hp,hv⟩
theorem growBy_le (n:Nat): ∀ (r c:Nat),c<n→Builtin.growBy n r c≤n+(n+768)/4
 |0,c,h=>by simp only [Builtin.growBy];omega
 |r+1,c,h=>by
  simp only [Builtin.growBy]
  split
  ·omega
  ·by_cases h2:c+(c+768)/4<n
   ·exact growBy_le n r _ h2
   ·have: ∀ r,Builtin.growBy n r (c+(c+768)/4)=c+(c+768)/4:=by
     intro r
     cases r with
     |zero=>rfl
     |succ r=>simp only [Builtin.growBy];rw [if_pos (by omega)]
    rw [this]
    have:(c+768)/4≤(n+768)/4:=Nat.div_le_div_right (by omega)
    omega
theorem nextslicecap_le {need old:Nat} (h:old<need):Builtin.nextslicecap need old≤3*need:=by
 unfold Builtin.nextslicecap
 split
 ·omega
 ·split
  ·omega
  ·have:=growBy_le need 4 old h
   omega
theorem nextslicecap_bytes {need old bytes:Nat} (h:old<need) (hb:need*bytes≤maxBytes): ¬ (Builtin.nextslicecap need old*bytes>2^48):=by
 have h1:=Nat.mul_le_mul_right bytes (nextslicecap_le h)
 have h2:3*need*bytes=3*(need*bytes):=Nat.mul_assoc _ _ _
 have h3:maxBytes=2^46:=rfl
 omega
theorem firstCells_rel {P:Program} {ρ:Ren} {h:Heap} {w:World} (hr:HRel ρ h w) {size n:Nat} {y:Val} {yv:Value} (hy:VRel ρ y yv) {c:List Val} (e:firstCells h size n y=some c):
  ∃ m:List Value,VRels ρ c m∧m.length=n*size∧ ∀ w',w'.heap=w.heap→(Builtin.firstCells size n yv).run P w'=.ok m.toArray w':=by
 cases y<;>simp only [firstCells] at e<;>(try (cases e;done))<;>simp only [VRel] at hy
 case nils=>
  subst hy
  split at e
  ·rename_i h0;cases e;subst h0
   exact ⟨[],.nil,by simp,fun w' _=>by simp [Builtin.firstCells]⟩
  ·cases e
 case slice b o len cap ls=>
  obtain ⟨ad,cap',rfl,c1,c2,c3,c4⟩:=hy
  split at e
  ·rename_i hle
   split at e
   ·rename_i h0;cases e
    exact ⟨[],.nil,by simp [h0],fun w' _=>by simp [Builtin.firstCells,h0,loadCells,loadCellsFrom]⟩
   ·rename_i h0
    rcases c4 with c4|⟨L,hL,ha,_⟩
    ·have:n=0:=by omega
     subst this;simp at h0
    ·obtain ⟨m,hm,hcell⟩:=hr.load e hL
     have hlen:m.length=n*size:=by
      rw [hm.length]
      obtain ⟨cs,_,h2,rfl⟩:=Heap.load_some e
      simp;omega
     refine ⟨m,hm,hlen,fun w' hw'=> ?_⟩
     have hcell': ∀ j v,m[j]? =some v→w'.cell? (ad.add j)=some v:=by
      intro j v hv
      have:=hcell j v hv
      rw [←ha] at this
      simpa only [World.cell?,hw'] using this
     have:=run_loadCells_of (P:=P) hcell'
     rw [hlen] at this
     simp only [Builtin.firstCells,this]
  ·cases e
 case str s=>
  subst hy
  split at e
  ·rename_i hh;cases e
   obtain ⟨hn,rfl⟩:=hh
   refine ⟨(s.take n).map fun b=>.int .u8 b.toNat,?_,by simp;omega,fun w' _=> ?_⟩
   ·refine .of_get (by simp) fun i x v a b=> ?_
    simp only [List.getElem?_map,Option.map_eq_some_iff] at a b
    obtain ⟨c,hc,rfl⟩:=a
    obtain ⟨c',hc',rfl⟩:=b
    rw [hc] at hc';cases hc'
    simp only [toByte,VRel]
   ·simp only [Builtin.firstCells,Sem.run_pure]
    congr 1
    apply Array.ext'
    simp [ByteArray.data_extract,List.extract_eq_take_drop]
  ·cases e
theorem lenOf_rel {P:Program} {ρ:Ren} {y:Val} {yv:Value} (hy:VRel ρ y yv) {n:Nat} (e:lenVal y=some n) (w:World):(Builtin.lenOf yv).run P w=.ok n w:=by
 cases y<;>simp only [lenVal] at e<;>(try (cases e;done))<;>simp only [VRel] at hy<;>simp only [Option.some.injEq] at e<;>subst e
 ·subst hy;simp [Builtin.lenOf]
  rfl
 ·subst hy;simp [Builtin.lenOf]
 ·obtain ⟨_,_,rfl,_⟩:=hy;simp [Builtin.lenOf]
theorem Post.move {ρ:Ren} {h:Heap} {w w':World} (hr:HRel ρ h w) {b:Nat} {x0 x:Blk} {L l:Loc} (hg:h.get b=some x0) (hf:h.floor≤b) (hL:ρ b=some L) (hc:l.c=L.c) (htt:l.t=L.t)
  (hw: ∀ c,c≠L.c→w'.heap[c]? =w.heap[c]?) (hs:w'.heap.size=w.heap.size) (ho:w'.os=w.os) (ht:w'.tape=w.tape) (hp:w'.output=w.output) (hb:BRel (ρ.upd h.next l) w' l x):
  Post ρ h w (ρ.upd h.next l) ((h.put b none).new x).2 w':=by
 have htop:ρ h.next=none:=hr.top _ (Nat.le_refl _)
 have hle:ρ.le (ρ.upd h.next l):=Ren.le_upd htop
 have hlow:=hr.low b x0 (Heap.get_t hg)
 have hnx:(h.put b none).next =h.next:=rfl
 have hget: ∀ j y,((h.put b none).new x).2.get j=some y→(j=h.next∧y=x)∨(j≠h.next∧j≠b∧h.get j=some y):=by
  intro j y e
  rw [Heap.new_get] at e
  have hhid:(h.put b none).hidden j=h.hidden j:=rfl
  rw [hhid,hnx] at e
  split at e
  ·cases e
  ·rename_i hh
   split at e
   ·cases e;exact .inl ⟨by assumption,rfl⟩
   ·rename_i hj
    have e':(h.put b none).get j=some y:=by
     unfold Heap.get;rw [hhid,if_neg hh];exact e
    rw [Heap.get_put,if_neg hh] at e'
    split at e'
    ·cases e'
    ·rename_i hjb;exact .inr ⟨hj,hjb,by unfold Heap.get;rw [if_neg hh];exact e'⟩
 have only: ∀ j y l2,h.get j=some y→ρ j=some l2→L.c=l2.c→b=j:=fun j y l2 e r k=>by
  have:=hr.bs.1
  rcases hr.inj b j x0 y L l2 hg e hL r k with q|⟨q,_⟩
  ·exact q
  ·omega
 refine ⟨hle,⟨?_,?_,?_,?_,⟨hr.bs.1,Nat.le_succ_of_le hr.bs.2⟩,tight_upd hr.tight fun _=>htt.trans (hr.tight b L (Nat.le_trans hr.bs.1 hf) hL)⟩,rfl,rfl,rfl,by simp [Heap.new,Heap.put],?_,ho,ht,hp,by omega,?_,?_,?_⟩
 ·intro j y e
  rcases hget j y e with ⟨rfl,rfl⟩|⟨hne,hjb,e'⟩
  ·exact ⟨l,by simp [Ren.upd],hb⟩
  ·obtain ⟨l',h1,h2⟩:=hr.blk j y e'
   exact ⟨l',hle _ _ h1,h2.mono hle (hw _ fun hcc=>hjb (only j y l' e' h1 hcc.symm).symm)⟩
 ·intro j j' y y' l1 l2 e e' r r' hcc
  rcases hget j y e with ⟨rfl,rfl⟩|⟨hne,hjb,e1⟩<;>rcases hget j' y' e' with ⟨rfl,rfl⟩|⟨hne',hjb',e1'⟩
  ·exact .inl rfl
  ·simp only [Ren.upd,if_true,if_neg hne'] at r r'
   cases r
   exact absurd (only j' y' l2 e1' r' (by omega)).symm hjb'
  ·simp only [Ren.upd,if_true,if_neg hne] at r r'
   cases r'
   exact absurd (only j y l1 e1 r (by omega)).symm hjb
  ·simp only [Ren.upd,if_neg hne,if_neg hne'] at r r'
   exact hr.inj j j' y y' l1 l2 e1 e1' r r' hcc
 ·intro j hj
  simp only [Heap.new,Heap.put] at hj
  simp only [Ren.upd,if_neg (show ¬ j=h.next by omega)]
  exact hr.top j (by omega)
 ·intro j y e
  have q:((h.put b none).new x).2.t =(h.t.set (b+1) b none).set (h.next+1) h.next (some x):=rfl
  rw [q,Tr.get_set _ _ _ _ _ (by omega)] at e
  show j<h.next+1
  split at e
  ·omega
  ·rw [Tr.get_set _ _ _ _ _ (by omega)] at e
   split at e
   ·cases e
   ·have:=hr.low j y e;omega
 ·intro j hj e
  obtain ⟨y,hy⟩:=Option.isSome_iff_exists.1 e
  rcases hget j y hy with ⟨rfl,rfl⟩|⟨_,_,e'⟩
  ·omega
  ·simp [e']
 ·intro c hcl k
  exact hw c fun hcc=>k b x0 L hg hf hL hcc.symm
 ·intro j l' r hn
  unfold Ren.upd at r
  split at r
  ·cases r;exact .inr ⟨b,x0,L,hg,hf,hL,hc.symm⟩
  ·rw [hn] at r;cases r
 ·intro j l' r hn
  unfold Ren.upd at r
  split at r
  ·omega
  ·rw [hn] at r;cases r
theorem Post.kill {ρ:Ren} {h:Heap} {w:World} (hr:HRel ρ h w) (b:Nat):Post ρ h w ρ (h.put b none) w:=by
 have hget: ∀ j y,(h.put b none).get j=some y→h.get j=some y:=by
  intro j y e
  rw [Heap.get_put] at e
  split at e
  ·cases e
  ·rename_i hh
   split at e
   ·cases e
   ·unfold Heap.get;rw [if_neg hh];exact e
 refine ⟨Ren.le_refl _,⟨?_,?_,hr.top,?_,hr.bs,hr.tight⟩,rfl,rfl,rfl,Nat.le_refl _,?_,rfl,rfl,rfl,Nat.le_refl _,fun _ _ _=>rfl,fun j l r hn=>(by rw [r] at hn;cases hn),fun j l r hn=>(by rw [r] at hn;cases hn)⟩
 ·intro j y e;exact hr.blk j y (hget j y e)
 ·intro j j' y y' l l' e e' r r' hc;exact hr.inj j j' y y' l l' (hget j y e) (hget j' y' e') r r' hc
 ·intro j y e
  have q:(h.put b none).t =h.t.set (b+1) b none:=rfl
  rw [q,Tr.get_set _ _ _ _ _ (by omega)] at e
  split at e
  ·cases e
  ·exact hr.low j y e
 ·intro j _ e
  obtain ⟨y,hy⟩:=Option.isSome_iff_exists.1 e
  simp [hget j y hy]
theorem flat_rel {ρ:Ren} {zl:List Val} {m:List Value} (h:VRels ρ zl m): ∀ N,VRels ρ (List.replicate N zl).flatten (List.replicate N m).flatten
 |0=>by simpa using VRels.nil
 |N+1=>by
  rw [List.replicate_succ,List.replicate_succ,List.flatten_cons,List.flatten_cons]
  exact h.append (flat_rel h N)
theorem zeroRest_rel {z:Value} (h: ∃ zl,∀ ρ,VRels ρ zl z.cells.toList) (N:Nat): ∃ t,∀ ρ,VRels ρ t (Builtin.zeroCells z.cells N).toList :=by
 obtain ⟨zl,h⟩:=h
 refine ⟨(List.replicate N zl).flatten,fun ρ=> ?_⟩
 have:=zeroCells_flat z.cells N
 unfold Builtin.zeroCells
 rw [this]
 exact flat_rel (h ρ) N
theorem zero_any {P:Program} {e:TypeId} {z:List Val} (h:cZero P e=some z) {i:TypeInfo} (hi:P.info? e=some i) {v:Value} (hz:i.zero=some v): ∃ zl,∀ ρ,VRels ρ zl v.cells.toList:=by
 refine ⟨z,fun ρ=> ?_⟩
 obtain ⟨i',v',hi',hz',hc,_⟩:=cZero_rel (ρ:=ρ) h
 rw [hi] at hi'
 cases hi'
 rw [hz] at hz'
 cases hz'
 exact hc
structure Appends (P:Program) (t u:TypeId) (size:Nat) (w:World) (yv:Value) (n:Nat) (m:List Value):Prop where
 fit: ∀ (w0 w1:World) (ty:TypeId) (base:Option Addr) (sLen sCap:Nat),w0.heap=w.heap→sLen+n≤sCap→
  (∀ a,base=some a→(storeCells (a.add (sLen*size)) m).run P w0=.ok () w1)→(base=none→w1=w0)→
  (Builtin.append_ #[t,u] ty #[.slice base sLen sCap,yv]).run P w0=.ok (.slice base (sLen+n) sCap) w1
 grow: ∀ (w0:World) (ty:TypeId) (base:Option Addr) (sLen sCap bytes:Nat) (old:List Value),w0.heap=w.heap→sCap<sLen+n→P.bytesOf (match P.underlying t with|some (.slice e)=>e|_=>0)=bytes→(sLen+n)*bytes≤maxBytes→sLen+n≤maxBytes→
  (∀ w',w'.heap=w.heap→(Builtin.firstCells size sLen (.slice base sLen sCap)).run P w'=.ok old.toArray w')→
  ∃ (newCap:Nat) (w1:World) (e:TypeId) (rest:List Value),(Builtin.append_ #[t,u] ty #[.slice base sLen sCap,yv]).run P w0=.ok (.slice (some ⟨w0.heap.size,0,none⟩) (sLen+n) newCap) w1∧sLen+n≤newCap∧rest.length=(newCap - (sLen+n))*size∧(∃ t,∀ ρ,VRels ρ t rest)∧Gd.ty e∧
   w1.heap=w0.heap.push (.cells (old++m++rest).toArray e)∧w1.os=w0.os∧w1.tape=w0.tape∧w1.output=w0.output
theorem appends_cells {P:Program} {t u e:TypeId} {d:TypeDesc} (ht:P.underlying t=some (.slice e)) (hu:P.underlying u=some d) (hd: ∀ k,d≠.int k) {i:TypeInfo} {z:Value} (hi:P.info? e=some i) (hz:i.zero=some z) (hzs:z.cells.size=P.cellsOf e) (hzr: ∃ zl,∀ ρ,VRels ρ zl z.cells.toList) (hty:Gd.ty e) {w:World} {yv:Value} {n:Nat} {m:List Value}
  (hl: ∀ w,(Builtin.lenOf yv).run P w=.ok n w) (hc: ∀ w',w'.heap=w.heap→(Builtin.firstCells (P.cellsOf e) n yv).run P w'=.ok m.toArray w'):Appends P t u (P.cellsOf e) w yv n m:=by
 have hsz:i.size=P.cellsOf e:=by simp [Program.cellsOf,hi]
 have hbz:i.bytes=P.bytesOf e:=by simp [Program.bytesOf,hi]
 have hdi: ∀ w,(underlying u).run P w=.ok d w:=fun w=>run_underlying hu w
 constructor
 ·intro w0 w1 ty base sLen sCap hw hfit hst hnone
  have hc':=hc w0 hw
  cases base with
  |none=>
   have:=hnone rfl;subst this
   simp [Builtin.append_,run_underlying ht,hdi,run_sizeOf_of hi,hl,hfit,hc']
  |some a=>
   have:=hst a rfl
   simp [Builtin.append_,run_underlying ht,hdi,run_sizeOf_of hi,hl,hfit,hc',this]
 ·intro w0 ty base sLen sCap bytes old hw hgrow hb hmax hmax2 hold
  simp only [ht] at hb
  subst hb
  have h1: ¬ (sLen+n≤sCap):=by omega
  have h2: ¬ (Builtin.nextslicecap (sLen+n) sCap*i.bytes>2^48):=by rw [hbz];exact nextslicecap_bytes hgrow hmax
  have h3: ¬ (((sLen+n:Nat):Int)>IntKind.i64.max):=by
   have e3:IntKind.i64.max=9223372036854775807:=by decide
   have:maxBytes=2^46:=rfl
   rw [e3];omega
  have hc':=hc w0.drew (by exact hw)
  have hold':=hold w0.drew (by exact hw)
  refine ⟨grownCap w0 (sLen+n) sCap e,w0.drew.alloc (.cells (old++m++(Builtin.zeroCells z.cells (grownCap w0 (sLen+n) sCap e - (sLen+n))).toList).toArray e),e,_,?_,?_,?_,?_,hty,rfl,rfl,rfl,rfl⟩
  ·have h2': ¬ (281474976710656<Builtin.nextslicecap (sLen+n) sCap*i.bytes):=h2
   have h3': ¬ (9223372036854775807<((sLen:Int)+(n:Int))):=by
    have:maxBytes=2^46:=rfl
    omega
   simp [Builtin.append_,run_underlying ht,hdi,run_sizeOf_of hi,hl,h1,h2',h3',run_typeInfo_of hi,Question.forced,hold',hc',zeroValue,hz,newRow]
   refine ⟨rfl,?_⟩
   congr 2
   exact Array.ext' (by simp [grownCap])
  ·unfold grownCap Question.cut;simp only;omega
  ·simp [Builtin.zeroCells,hzs]
  ·exact zeroRest_rel hzr _
theorem appends_zeros {P:Program} {t u e:TypeId} {k0:IntKind} (ht:P.underlying t=some (.slice e)) (hu:P.underlying u=some (.int k0)) {i:TypeInfo} {z:Value} (hi:P.info? e=some i) (hz:i.zero=some z) (hzs:z.cells.size=P.cellsOf e) (hzr: ∃ zl,∀ ρ,VRels ρ zl z.cells.toList) (hty:Gd.ty e) {w:World} {k:IntKind} {n:Int} (h0:0≤n) (h1:n≤maxBytes) (h2:n.toNat*P.bytesOf e≤maxBytes):
  Appends P t u (P.cellsOf e) w (.int k n) n.toNat (List.replicate n.toNat z.cells.toList).flatten :=by
 have hbz:i.bytes=P.bytesOf e:=by simp [Program.bytesOf,hi]
 have hmb:maxBytes=2^46:=rfl
 obtain ⟨N,rfl⟩:=Int.eq_ofNat_of_zero_le h0
 simp only [Int.toNat_natCast] at*
 have hwrap:IntKind.i64.wrap (N:Int)=N:=wrap_small h0 (by simpa [maxBytes] using h1)
 have hlt: ¬ ((N:Int)<0):=by omega
 have hbig: ¬ (281474976710656<(N:Int)*(i.bytes:Int)):=by
  rw [hbz]
  have:(N:Int)*(P.bytesOf e:Int)=((N*P.bytesOf e:Nat):Int):=by simp
  rw [this];omega
 constructor
 ·intro w0 w1 ty base sLen sCap hw hfit hst hnone
  have hzz:=zeroCells_flat z.cells N
  cases base with
  |none=>
   have:=hnone rfl;subst this
   by_cases hz0:N*P.cellsOf e=0
   ·simp [Builtin.append_,run_underlying ht,run_underlying hu,run_sizeOf_of hi,asInt,asIntOf,hwrap,hlt,run_typeInfo_of hi,hbig,hfit,hz0]
   ·simp [Builtin.append_,run_underlying ht,run_underlying hu,run_sizeOf_of hi,asInt,asIntOf,hwrap,hlt,run_typeInfo_of hi,hbig,hfit,zeroValue,hz]
  |some a=>
   have:=hst a rfl
   by_cases hz0:N*P.cellsOf e=0
   ·have hnil:(List.replicate N z.cells.toList).flatten =[]:=List.length_eq_zero_iff.1 (by simp [hzs,hz0])
    rw [hnil] at this
    simp [Builtin.append_,run_underlying ht,run_underlying hu,run_sizeOf_of hi,asInt,asIntOf,hwrap,hlt,run_typeInfo_of hi,hbig,hfit,hz0,this]
   ·have hq:(Builtin.zeroCells z.cells N).toList =(List.replicate N z.cells.toList).flatten :=by simpa [Builtin.zeroCells] using hzz
    simp [Builtin.append_,run_underlying ht,run_underlying hu,run_sizeOf_of hi,asInt,asIntOf,hwrap,hlt,run_typeInfo_of hi,hbig,hfit,hz0,zeroValue,hz,hq,this]
 ·intro w0 ty base sLen sCap bytes old hw hgrow hb hmax hmax2 hold
  simp only [ht] at hb
  subst hb
  have h1': ¬ (sLen+N≤sCap):=by omega
  have h2': ¬ (281474976710656<Builtin.nextslicecap (sLen+N) sCap*i.bytes):=by rw [hbz];exact nextslicecap_bytes hgrow hmax
  have h3': ¬ (9223372036854775807<((sLen:Int)+(N:Int))):=by omega
  have hold':=hold w0.drew (by exact hw)
  have hzz:=zeroCells_flat z.cells N
  refine ⟨grownCap w0 (sLen+N) sCap e,w0.drew.alloc (.cells (old++(List.replicate N z.cells.toList).flatten ++(Builtin.zeroCells z.cells (grownCap w0 (sLen+N) sCap e - (sLen+N))).toList).toArray e),e,_,?_,?_,?_,?_,hty,rfl,rfl,rfl,rfl⟩
  ·by_cases hz0:N*P.cellsOf e=0
   ·have hnil:(List.replicate N z.cells.toList).flatten =[]:=List.length_eq_zero_iff.1 (by simp [hzs,hz0])
    rw [hnil]
    simp [Builtin.append_,run_underlying ht,run_underlying hu,run_sizeOf_of hi,asInt,asIntOf,hwrap,hlt,hbig,h1',h2',h3',run_typeInfo_of hi,Question.forced,hold',zeroValue,hz,newRow,hz0]
    refine ⟨rfl,?_⟩
    congr 2
    exact Array.ext' (by simp [grownCap])
   ·simp [Builtin.append_,run_underlying ht,run_underlying hu,run_sizeOf_of hi,asInt,asIntOf,hwrap,hlt,hbig,h1',h2',h3',run_typeInfo_of hi,Question.forced,hold',zeroValue,hz,newRow,hz0]
    refine ⟨rfl,?_⟩
    congr 2
    refine Array.ext' ?_
    have:(Builtin.zeroCells z.cells N).toList =(List.replicate N z.cells.toList).flatten :=by simpa [Builtin.zeroCells] using hzz
    simp [grownCap,this]
  ·unfold grownCap Question.cut;simp only;omega
  ·simp [Builtin.zeroCells,hzs]
  ·exact zeroRest_rel hzr _
theorem s_appendN {P:Program} {ρ:Ren} {h h':Heap} {w:World} (hr:HRel ρ h w) {t u e:TypeId} (ht:P.underlying t=some (.slice e)) {yv:Value} {n:Nat} {m:List Value} {new:List Val} (ha:Appends P t u (P.cellsOf e) w yv n m)
  (hm:VRels ρ new m) (hml:m.length=n*P.cellsOf e) {x v:Val} {xv:Value} (hx:VRel ρ x xv) (ev:appendN h (P.cellsOf e) (P.bytesOf e) x n new=some (v,h')) (ty:TypeId):
  Sound P (do pure (.value (←Builtin.append_ #[t,u] ty #[xv,yv]))) ρ h w v h':=by
 have hbytes:P.bytesOf (match P.underlying t with|some (.slice e)=>e|_=>0)=P.bytesOf e:=by simp [ht]
 cases x<;>simp only [appendN] at ev<;>(try (cases ev;done))<;>simp only [VRel] at hx
 case nils=>
  subst hx
  split at ev
  ·rename_i h0;subst h0;cases ev
   have:=ha.fit w w ty none 0 0 rfl (Nat.le_refl _) (fun a h=>by cases h) (fun _=>rfl)
   exact Sound.pure hr (by simp [this];rfl) (by simp only [VRel])
  ·rename_i h0
   split at ev
   ·rename_i hb
    cases ev
    obtain ⟨newCap,w1,e1,rest,hrun,hcap,hrest,⟨tr,htr⟩,hty,hheap,ho,htp,hp⟩:=ha.grow w ty none 0 0 _ [] rfl (by omega) hbytes (by simpa using hb.1) (by simpa using hb.2.1) (fun w' _=>by simp [Builtin.firstCells])
    simp only [Nat.zero_add,List.nil_append] at hrun hcap hrest hheap
    refine sound_of hrun (Post.new hr (.cells new) _ w1 ⟨w.heap.size,0,n*P.cellsOf e+rest.length,true,none⟩ hheap rfl rfl ho htp hp ?_) ?_
    ·refine ⟨(m++rest).toArray,e1,0,0,(by rw [hheap];simp),hty,(fun _ _ _ h=>by omega),?_,?_,?_,tr,?_⟩
     rotate_right
     ·have e1:((m++rest).toArray.toList.drop (0+new.length)).take (n*P.cellsOf e+rest.length - (0+new.length))=rest:=by
       simp only [Nat.zero_add,←hm.length,List.drop_left']
       rw [List.take_of_length_le (by omega)]
      simp only [e1];exact ⟨htr,trivial⟩
     ·simp [←hm.length]
     ·simp [hml]
     ·simp only [List.drop_zero]
      rw [←hm.length,List.take_left']
      ·exact VRels.mono (Ren.le_upd (hr.top _ (Nat.le_refl _))) _ _ hm
      ·rfl
    ·simp only [VRel]
     refine ⟨_,newCap,rfl,Nat.le_refl _,hcap,fun hz=>by omega,.inr ⟨⟨w.heap.size,0,n*P.cellsOf e+rest.length,true,none⟩,by simp [Ren.upd,Heap.new],rfl,fun _=> ?_⟩⟩
     simp only [hrest,Nat.zero_add]
     rw [←Nat.add_mul]
     apply Nat.le_of_eq;congr 1<;>omega
   ·cases ev
 case slice b o len cap ls=>
  obtain ⟨ad,cap',rfl,c1,c2,c3,c4⟩:=hx
  split at ev
  ·rename_i hfit
   split at ev
   ·rename_i h0;cases ev
    have hm0:m=[]:=List.length_eq_zero_iff.1 (by rw [hml,h0])
    subst hm0
    have:=ha.fit w w ty (some ad) len cap' rfl (by omega) (fun a h=>by simp [storeCells]) (fun h=>by cases h)
    refine Sound.pure hr (cv:=.slice (some ad) (len+n) cap') (by simp [this]) ?_
    simp only [VRel]
    exact ⟨ad,cap',rfl,hfit,c2,c3,c4⟩
   ·rename_i h0
    split at ev
    ·rename_i h1 hst
     cases ev
     rcases c4 with c4|⟨L,hL,had,hloose⟩
     ·have:n=0:=by omega
      subst this;simp at h0
     ·obtain ⟨w',hrun,hpost⟩:=hr.store (P:=P) hst hL hm
      have:=ha.fit w w' ty (some ad) len cap' rfl (by omega) (fun a h=>by cases h;rw [had,Addr.add_none,Nat.add_assoc];exact hrun) (fun h=>by cases h)
      refine sound_of this hpost ?_
      simp only [VRel]
      exact ⟨ad,cap',rfl,hfit,c2,c3,.inr ⟨L,hL,had,hloose⟩⟩
    ·cases ev
  ·rename_i hnf
   split at ev
   ·rename_i hb
    split at ev
    ·cases ev
    ·rename_i old hold
     obtain ⟨om,hom,homl,homr⟩:=firstCells_rel (P:=P) hr (size:=P.cellsOf e) (n:=len) (y:=.slice b o len cap ls) (yv:=.slice (some ad) len cap') (by simp only [VRel];exact ⟨ad,cap',rfl,c1,c2,c3,c4⟩) hold
     have fresh:cap'<len+n→Sound P (do pure (.value (←Builtin.append_ #[t,u] ty #[.slice (some ad) len cap',yv]))) ρ h w (.slice h.next 0 (len+n) (len+n) (P.cellsOf e)) (h.new (.cells (old++new))).2:=by
      intro hgr
      obtain ⟨newCap,w1,e1,rest,hrun,hcap,hrest,⟨tr,htr⟩,hty,hheap,ho,htp,hp⟩:=ha.grow w ty (some ad) len cap' _ om rfl hgr hbytes hb.1 hb.2.1 homr
      refine sound_of hrun (Post.new hr (.cells (old++new)) _ w1 ⟨w.heap.size,0,(len+n)*P.cellsOf e+rest.length,true,none⟩ hheap rfl rfl ho htp hp ?_) ?_
      ·refine ⟨(om++m++rest).toArray,e1,0,0,(by rw [hheap];simp),hty,(fun _ _ _ h=>by omega),?_,?_,?_,tr,?_⟩
       rotate_right
       ·have e1:((om++m++rest).toArray.toList.drop (0+(old++new).length)).take ((len+n)*P.cellsOf e+rest.length - (0+(old++new).length))=rest:=by
         simp only [Nat.zero_add,List.length_append,←hm.length,←hom.length]
         have hq:(len+n)*P.cellsOf e=om.length+m.length:=by rw [Nat.add_mul,homl,hml]
         rw [←List.length_append,List.drop_left',List.take_of_length_le (by simp only [List.length_append];omega)]
         rfl
        simp only [e1];exact ⟨htr,trivial⟩
       ·simp [←hm.length,←hom.length]
       ·simp [hml,homl,Nat.add_mul];omega
       ·simp only [List.drop_zero]
        rw [List.length_append,←hm.length,←hom.length,←List.length_append,List.take_left']
        ·exact VRels.mono (Ren.le_upd (hr.top _ (Nat.le_refl _))) _ _ (hom.append hm)
        ·rfl
      ·simp only [VRel]
       refine ⟨_,newCap,rfl,Nat.le_refl _,hcap,fun hz=>by omega,.inr ⟨⟨w.heap.size,0,(len+n)*P.cellsOf e+rest.length,true,none⟩,by simp [Ren.upd],rfl,fun _=> ?_⟩⟩
       simp only [hrest,Nat.zero_add]
       rw [←Nat.add_mul]
       apply Nat.le_of_eq;congr 1<;>omega
     split at ev
     ·rename_i hls
      cases ev
      exact fresh (by rw [c3 hls];omega)
     ·rename_i hls
      split at ev
      ·rename_i hk
       obtain ⟨hfl,hlse,hone,halive⟩:=hk
       cases ev
       by_cases hgr:cap'<len+n
       ·obtain ⟨newCap,w1,e1,rest,hrun,hcap,hrest,⟨tr,htr⟩,hty,hheap,ho,htp,hp⟩:=ha.grow w ty (some ad) len cap' _ om rfl hgr hbytes hb.1 hb.2.1 homr
        have hkill:=Post.kill hr b
        have hr1:=hkill.hrel
        refine sound_of hrun (hkill.trans (Post.new hr1 (.cells (old++new)) _ w1 ⟨w.heap.size,0,(len+n)*P.cellsOf e+rest.length,true,none⟩ hheap rfl rfl ho htp hp ?_) hr) ?_
        ·refine ⟨(om++m++rest).toArray,e1,0,0,(by rw [hheap];simp),hty,(fun _ _ _ h=>by omega),?_,?_,?_,tr,?_⟩
         rotate_right
         ·have e1:((om++m++rest).toArray.toList.drop (0+(old++new).length)).take ((len+n)*P.cellsOf e+rest.length - (0+(old++new).length))=rest:=by
           simp only [Nat.zero_add,List.length_append,←hm.length,←hom.length]
           have hq:(len+n)*P.cellsOf e=om.length+m.length:=by rw [Nat.add_mul,homl,hml]
           rw [←List.length_append,List.drop_left',List.take_of_length_le (by simp only [List.length_append];omega)]
           rfl
          simp only [e1];exact ⟨htr,trivial⟩
         ·simp [←hm.length,←hom.length]
         ·simp [hml,homl,Nat.add_mul];omega
         ·simp only [List.drop_zero]
          rw [List.length_append,←hm.length,←hom.length,←List.length_append,List.take_left']
          ·exact VRels.mono (Ren.le_upd (hr1.top _ (Nat.le_refl _))) _ _ (hom.append hm)
          ·rfl
        ·simp only [VRel]
         refine ⟨_,newCap,rfl,Nat.le_refl _,hcap,fun hz=>by omega,.inr ⟨⟨w.heap.size,0,(len+n)*P.cellsOf e+rest.length,true,none⟩,by simp [Ren.upd,Heap.new,Heap.put],rfl,fun _=> ?_⟩⟩
         simp only [hrest,Nat.zero_add]
         rw [←Nat.add_mul]
         apply Nat.le_of_eq;congr 1<;>omega
       ·
        rcases c4 with c4|⟨L,hL,had,hloose⟩
        ·omega
        ·have hlo:=hloose (by omega)
         obtain ⟨cs,hget,hend⟩: ∃ cs,h.get b=some (.cells cs)∧cs.length≤o+(len+n)*P.cellsOf e:=by
          unfold Heap.endsBy at halive
          split at halive
          ·exact ⟨_,by assumption,by simpa using halive⟩
          ·cases halive
         rw [Nat.add_mul,←hml] at hend
         obtain ⟨L',hL',arr,t0,lo,hi,a1,a0,a2,a3,a4,a5,tl,a6⟩:=hr.blk b _ hget
         rw [hL] at hL';cases hL'
         have hmul:(len+n)*P.cellsOf e≤cap'*ls:=by rw [hlse];exact Nat.mul_le_mul_right _ (by omega)
         rw [Nat.add_mul] at hmul
         have hst:=run_storeCells_fr P L.c (L.s+o+len*P.cellsOf e) t0 lo hi m 0 arr w a1 (fun j h1 h2=>a2 j (by omega) (.inr (by omega))) (by rw [hml];omega) (hm.ones hone)
         simp only [Nat.add_zero] at hst
         have hfitrun:=ha.fit w _ ty (some ad) len cap' rfl (by omega) (fun a h=>by cases h;rw [had,Addr.add_none];exact hst) (fun h=>by cases h)
         have holdl:VRels ρ old ((arr.toList.drop (L.s+o)).take (len*P.cellsOf e))∧old.length=len*P.cellsOf e:=by
          simp only [firstCells] at hold
          rw [if_pos (Nat.le_refl _)] at hold
          split at hold
          ·rename_i h0;cases hold;rw [h0];exact ⟨by simpa using VRels.nil,by simp⟩
          ·obtain ⟨cs',hg',hlen',rfl⟩:=Heap.load_some hold
           rw [hget] at hg';cases hg'
           have:=(a5.drop o).take (len*P.cellsOf e)
           refine ⟨?_,by simp;omega⟩
           rw [List.drop_take,List.drop_drop,List.take_take,Nat.min_eq_left (by omega)] at this
           exact this
         have hlen':(arr.toList.take (L.s+o+len*P.cellsOf e)++m++arr.toList.drop (L.s+o+len*P.cellsOf e+m.length)).length =arr.size:=by
          simp only [List.length_append,List.length_take,List.length_drop,Array.length_toList];omega
         refine sound_of hfitrun (Post.move (l:=⟨L.c,L.s+o,L.e,L.t,none⟩) hr hget hfl hL rfl rfl (fun c hc=>setRow_other w L.c c _ hc) (by simp [World.setRow]) rfl rfl rfl ?_) ?_
         ·refine ⟨_,t0,lo,hi,setRow_heap w L.c arr _ t0 (lo,hi) a1,a0,?_,?_,?_,?_,tl.drop (o+len*P.cellsOf e+m.length - cs.length),?_⟩
          rotate_right
          ·have e2:(arr.toList.take (L.s+o+len*P.cellsOf e)++m++arr.toList.drop (L.s+o+len*P.cellsOf e+m.length)).drop (L.s+o+(old++new).length)=arr.toList.drop (L.s+o+len*P.cellsOf e+m.length):=by
            rw [List.length_append,holdl.2,←hm.length,List.drop_append,List.drop_eq_nil_of_le (by simp only [List.length_append,List.length_take,Array.length_toList];omega),List.nil_append,List.drop_drop]
            congr 1
            simp only [List.length_append,List.length_take,Array.length_toList];omega
           simp only [e2]
           refine ⟨?_,a6.2⟩
           intro ρ
           have q:=((a6.1 ρ).drop (o+len*P.cellsOf e+m.length - cs.length))
           rw [List.drop_take,List.drop_drop] at q
           have e4:L.s+cs.length+(o+len*P.cellsOf e+m.length - cs.length)=L.s+o+len*P.cellsOf e+m.length:=by omega
           rw [e4] at q
           have e5:L.e - (L.s+o+(old++new).length)=L.e - (L.s+cs.length) - (o+len*P.cellsOf e+m.length - cs.length):=by
            rw [List.length_append,holdl.2,←hm.length];omega
           rw [e5]
           exact q
          ·intro j h1 h2
           simp only [List.length_append,holdl.2,←hm.length] at h1 h2
           exact a2 j (by omega) (.inr (by omega))
          ·simp only [List.size_toArray,hlen',List.length_append,holdl.2,←hm.length];omega
          ·simp only [List.size_toArray,hlen'];exact a4
          ·have e1:((arr.toList.take (L.s+o+len*P.cellsOf e)++m++arr.toList.drop (L.s+o+len*P.cellsOf e+m.length)).drop (L.s+o)).take (old++new).length =(arr.toList.drop (L.s+o)).take (len*P.cellsOf e)++m:=by
            rw [List.length_append,holdl.2,←hm.length,List.append_assoc,List.drop_append_of_le_length (by simp;omega),List.drop_take]
            rw [show L.s+o+len*P.cellsOf e - (L.s+o)=len*P.cellsOf e by omega]
            rw [←List.append_assoc,List.take_left']
            simp;omega
           simp only [e1]
           exact VRels.mono (Ren.le_upd (hr.top _ (Nat.le_refl _))) _ _ (holdl.1.append hm)
         ·simp only [VRel]
          refine ⟨ad,cap',rfl,Nat.le_refl _,by omega,fun hz=>by omega,.inr ⟨⟨L.c,L.s+o,L.e,L.t,none⟩,by simp [Ren.upd,Heap.new,Heap.put],by simp [had],fun _=> ?_⟩⟩
          simp only [Nat.add_zero,←hlse];exact hlo
      ·cases ev
   ·cases ev
end Go.V
end
section
namespace Go.V
variable [Gd]
theorem rel_int {ρ:Ren} {k:IntKind} {n:Int}:VRel ρ (.int k n) (.int k n):=by simp only [VRel]
theorem minmaxL_rel {P:Program} {ρ:Ren} {w:World} (isMax:Bool): ∀ (l:List Val) (m:List Value) (x v:Val) (xv:Value),VRel ρ x xv→VRels ρ l m→minmaxL isMax x l=some v→
  ∃ cv,(m.foldlM (m:=Sem) (if isMax then Builtin.max2 else Builtin.min2) xv).run P w=.ok cv w∧VRel ρ v cv:=by
 intro l
 induction l with
 |nil=>intro m x v xv hx hm e;simp only [VRels] at hm;subst hm;cases x<;>simp only [minmaxL,Option.some.injEq] at e<;>subst e<;>exact ⟨xv,by simp,hx⟩
 |cons y l ih=>
  intro m x v xv hx hm e
  simp only [VRels] at hm
  obtain ⟨yv,m',rfl,hy,hm'⟩:=hm
  cases x<;>cases y<;>simp only [minmaxL] at e<;>(try (cases e;done))
  simp only [VRel] at hx hy;subst hx hy
  have:=ih m' _ v _ rel_int hm' e
  obtain ⟨cv,h1,h2⟩:=this
  refine ⟨cv,?_,h2⟩
  cases isMax<;>simp [Builtin.max2,Builtin.min2] at h1 ⊢ <;>exact h1
section
variable {P:Program} {ρ:Ren} {h h':Heap} {w:World} (hr:HRel ρ h w) {fr:List Val} {a:Act} (hf:FRel ρ fr a)
include hr
theorem s_mkslice {t e:TypeId} (hty:Gd.ty e) (ht:P.underlying t=some (.slice e)) {z:List Val} (hz:cZero P e=some z) (hzl:P.cellsOf e=z.length) {lv cv:Value} {k k':IntKind} {l c:Int} (hl:VRel ρ (.int k l) lv) (hc:VRel ρ (.int k' c) cv)
  (hb:0≤l∧l≤c∧c≤maxBytes∧c.toNat*P.bytesOf e≤maxBytes):
  Sound P (do pure (.value (←Instr.makeSlice t lv cv))) ρ h w (.slice h.next 0 l.toNat c.toNat 0) (h.new (.cells (repeatL z c.toNat))).2:=by
 simp only [VRel] at hl hc;subst hl hc
 obtain ⟨i,v,hi,hzv,hzc,hrun⟩:=cZero_rel (ρ:=ρ) hz
 obtain ⟨h1,h2,h3,h4⟩:=hb
 have hmb:maxBytes=2^46:=rfl
 obtain ⟨C,rfl⟩:=Int.eq_ofNat_of_zero_le (show 0≤c by omega)
 obtain ⟨L,rfl⟩:=Int.eq_ofNat_of_zero_le h1
 simp only [Int.toNat_natCast] at*
 have hwc:=wrap_small (n:=(C:Int)) (by omega) (by omega)
 have hwl:=wrap_small (n:=(L:Int)) (by omega) (by omega)
 have hbz:i.bytes=P.bytesOf e:=by simp [Program.bytesOf,hi]
 have hvs:v.cells.size=P.cellsOf e:=by have:=hzc.length;simp at this;omega
 have hbig: ¬ (281474976710656<(i.bytes:Int)*(C:Int)):=by
  rw [hbz]
  have:(P.bytesOf e:Int)*(C:Int)=((C*P.bytesOf e:Nat):Int):=by rw [Nat.mul_comm];simp
  rw [this];omega
 have hc0: ¬ ((C:Int)<0):=by omega
 have hl0: ¬ ((L:Int)<0):=by omega
 have hlc: ¬ (C<L):=by omega
 have hcells:VRels ρ (repeatL z C) ((Array.range (C*P.cellsOf e)).map fun i=>v.cells[i%v.cells.size]!).toList :=by
  rw [←hvs,zeroCells_flat];exact repeatL_rel hzc C
 refine s_new hr hcells hty (pv:=.slice (some ⟨w.heap.size,0,none⟩) L C) ?_ ?_
 ·by_cases h0:C*P.cellsOf e=0
  ·simp [Instr.makeSlice,run_underlying ht,asInt,asIntOf,run_typeInfo_of hi,hwc,hwl,hc0,hl0,hlc,hbig,run_sizeOf_of hi,h0,newRow]
   congr 2
   exact Array.ext' (by simp)
  ·simp [Instr.makeSlice,run_underlying ht,asInt,asIntOf,run_typeInfo_of hi,hwc,hwl,hc0,hl0,hlc,hbig,run_sizeOf_of hi,h0,hrun,newRow]
   congr 2
   exact Array.ext' (by simp)
 ·simp only [VRel]
  exact ⟨_,_,rfl,by omega,Nat.le_refl _,fun _=>rfl,.inr ⟨⟨w.heap.size,0,_,true,none⟩,by simp only [Ren.upd,if_true];rfl,rfl,fun hz=>absurd rfl hz⟩⟩
theorem s_len_slice {t e:TypeId} (ht:P.underlying t=some (.slice e)) {x:Val} {xv:Value} (hx:VRel ρ x xv) {n:Nat} (e:lenVal x=some n) (hs: ∀ s,x≠.str s) (ty:TypeId):Sound P (do pure (.value (←Builtin.len_ #[t] ty #[xv]))) ρ h w (.int .i64 n) h:=by
 cases x<;>simp only [lenVal] at e<;>(try (cases e;done))<;>simp only [VRel] at hx<;>simp only [Option.some.injEq] at e<;>subst e
 ·exact absurd rfl (hs _)
 ·subst hx;exact Sound.pure hr (by simp [Builtin.len_,run_underlying ht];rfl) (by simp only [VRel];rfl)
 ·obtain ⟨_,_,rfl,_⟩:=hx;exact Sound.pure hr (by simp [Builtin.len_,run_underlying ht];rfl) (by simp only [VRel];rfl)
theorem s_len_str {t:TypeId} (ht:P.underlying t=some .string) {s:List UInt8} {xv:Value} (hx:VRel ρ (.str s) xv) (ty:TypeId):Sound P (do pure (.value (←Builtin.len_ #[t] ty #[xv]))) ρ h w (.int .i64 s.length) h:=by
 simp only [VRel] at hx;subst hx
 exact Sound.pure hr (by simp [Builtin.len_,run_underlying ht];rfl) (by simp only [VRel];rfl)
theorem s_len_map {t k e:TypeId} (ht:P.underlying t=some (.map k e)) {b:Nat} {es:List (Val×Val)} (hg:h.get b=some (.map es)) {xv:Value} (hx:VRel ρ (.map b) xv) (ty:TypeId):Sound P (do pure (.value (←Builtin.len_ #[t] ty #[xv]))) ρ h w (.int .i64 es.length) h:=by
 simp only [VRel] at hx
 obtain ⟨l,hl,rfl⟩:=hx
 obtain ⟨l',hl',ent,clock,h1,h2,h3⟩:=hr.blk b _ hg
 rw [hl] at hl';cases hl'
 have hlen:ent.size=es.length:=by have:=h2.length;simpa using this
 refine Sound.pure hr (cv:=.int .i64 ent.size) ?_ (by simp only [VRel];rw [hlen])
 simp [Builtin.len_,run_underlying ht,getObj,Sem.run,h1,goInt]
theorem s_len_nilmap {t k e:TypeId} (ht:P.underlying t=some (.map k e)) {xv:Value} (hx:VRel ρ .nilm xv) (ty:TypeId):Sound P (do pure (.value (←Builtin.len_ #[t] ty #[xv]))) ρ h w (.int .i64 0) h:=by
 simp only [VRel] at hx;subst hx
 exact Sound.pure hr (by simp [Builtin.len_,run_underlying ht];rfl) (by simp only [VRel];rfl)
theorem s_len_array {t e:TypeId} {n:Nat} (ht:P.underlying t=some (.array n e)) (xv:Value) (ty:TypeId):Sound P (do pure (.value (←Builtin.len_ #[t] ty #[xv]))) ρ h w (.int .i64 n) h:=
 Sound.pure hr (by simp [Builtin.len_,run_underlying ht];rfl) (by simp only [VRel];rfl)
theorem s_len_ptr {t p e:TypeId} {n:Nat} (ht:P.underlying t=some (.pointer p)) (hp:P.underlying p=some (.array n e)) (xv:Value) (ty:TypeId):Sound P (do pure (.value (←Builtin.len_ #[t] ty #[xv]))) ρ h w (.int .i64 n) h:=
 Sound.pure hr (by simp [Builtin.len_,run_underlying ht,run_underlying hp];rfl) (by simp only [VRel];rfl)
theorem s_cap {t e:TypeId} (ht:P.underlying t=some (.slice e)) {x:Val} {xv:Value} (hx:VRel ρ x xv) {n:Nat} (e:x=.nils ∧n=0∨ ∃ b o l,x=.slice b o l n 0) (ty:TypeId):Sound P (do pure (.value (←Builtin.cap_ #[t] ty #[xv]))) ρ h w (.int .i64 n) h:=by
 rcases e with ⟨rfl,rfl⟩|⟨b,o,l,rfl⟩<;>simp only [VRel] at hx
 ·subst hx;exact Sound.pure hr (by simp [Builtin.cap_,run_underlying ht];rfl) (by simp only [VRel];rfl)
 ·obtain ⟨ad,cap',rfl,_,_,c3,_⟩:=hx
  have:=c3 trivial;subst this
  exact Sound.pure hr (by simp [Builtin.cap_,run_underlying ht];rfl) (by simp only [VRel];rfl)
theorem s_cap_array {t e:TypeId} {n:Nat} (ht:P.underlying t=some (.array n e)) (xv:Value) (ty:TypeId):Sound P (do pure (.value (←Builtin.cap_ #[t] ty #[xv]))) ρ h w (.int .i64 n) h:=
 Sound.pure hr (by simp [Builtin.cap_,run_underlying ht];rfl) (by simp only [VRel];rfl)
theorem s_copy_nil {t u e:TypeId} (ht:P.underlying t=some (.slice e)) {i:TypeInfo} (hi:P.info? e=some i) {y:Val} {yv xv:Value} (hx:VRel ρ .nils xv) (hy:VRel ρ y yv) {m:Nat} (hm:lenVal y=some m) (ty:TypeId):
  Sound P (do pure (.value (←Builtin.copy_ #[t,u] ty #[xv,yv]))) ρ h w (.int .i64 0) h:=by
 simp only [VRel] at hx;subst hx
 have hc:(Builtin.firstCells (P.cellsOf e) 0 yv).run P w=.ok #[] w:=by
  cases y<;>simp only [lenVal] at hm<;>(try (cases hm;done))<;>simp only [VRel] at hy
  ·subst hy;simp [Builtin.firstCells]
  ·subst hy;simp [Builtin.firstCells]
  ·obtain ⟨_,_,rfl,_⟩:=hy;simp [Builtin.firstCells,loadCells,loadCellsFrom]
 exact Sound.pure hr (by simp [Builtin.copy_,run_underlying ht,lenOf_rel hy hm,run_sizeOf_of hi,hc];rfl) (by simp only [VRel];rfl)
theorem s_copy {t u e:TypeId} (ht:P.underlying t=some (.slice e)) {i:TypeInfo} (hi:P.info? e=some i) {b o len cap ls:Nat} {y:Val} {yv xv:Value} (hx:VRel ρ (.slice b o len cap ls) xv) (hy:VRel ρ y yv) {m:Nat} (hm:lenVal y=some m) {c:List Val} (hc:firstCells h (P.cellsOf e) (min m len) y=some c)
  (hst:(min m len*P.cellsOf e=0∧h'=h)∨(min m len*P.cellsOf e≠0∧h.store b o c=some h')) (ty:TypeId):
  Sound P (do pure (.value (←Builtin.copy_ #[t,u] ty #[xv,yv]))) ρ h w (.int .i64 ((min m len:Nat):Int)) h':=by
 simp only [VRel] at hx
 obtain ⟨ad,cap',rfl,c1,c2,c3,c4⟩:=hx
 obtain ⟨ml,hml,hlen,hrun⟩:=firstCells_rel (P:=P) hr hy hc
 have hmin:Nat.min m len=min m len:=rfl
 have hrun':=hrun w rfl
 rcases hst with ⟨h0,rfl⟩|⟨h0,hst⟩
 ·have hnil:ml=[]:=List.length_eq_zero_iff.1 (by rw [hlen,h0])
  subst hnil
  refine Sound.pure hr (cv:=.int .i64 ((min m len:Nat):Int)) ?_ (by simp only [VRel])
  simp [Builtin.copy_,run_underlying ht,lenOf_rel hy hm,run_sizeOf_of hi,hmin,hrun',storeCells,goInt]
 ·rcases c4 with c4|⟨L,hL,had,hloose⟩
  ·have:len=0:=by omega
   subst this;simp at h0
  ·obtain ⟨w',hrunst,hpost⟩:=hr.store (P:=P) hst hL hml
   rw [←had] at hrunst
   refine sound_of (cv:=.int .i64 ((min m len:Nat):Int)) ?_ hpost (by simp only [VRel])
   simp [Builtin.copy_,run_underlying ht,lenOf_rel hy hm,run_sizeOf_of hi,hmin,hrun',hrunst,goInt]
theorem s_clear_nil {t:TypeId} {d:TypeDesc} (ht:P.underlying t=some d) {xv:Value} (hx:VRel ρ .nils xv) (ty:TypeId):Sound P (do pure (.value (←Builtin.clear_ #[t] ty #[xv]))) ρ h w (.tup []) h:=by
 simp only [VRel] at hx;subst hx
 exact Sound.pure hr (cv:=.tuple #[]) (by simp [Builtin.clear_,run_underlying ht]) (by simp only [VRel];exact ⟨_,rfl,.nil⟩)
theorem s_clear_nilm {t:TypeId} {d:TypeDesc} (ht:P.underlying t=some d) {xv:Value} (hx:VRel ρ .nilm xv) (ty:TypeId):Sound P (do pure (.value (←Builtin.clear_ #[t] ty #[xv]))) ρ h w (.tup []) h:=by
 simp only [VRel] at hx;subst hx
 exact Sound.pure hr (cv:=.tuple #[]) (by simp [Builtin.clear_,run_underlying ht]) (by simp only [VRel];exact ⟨_,rfl,.nil⟩)
theorem s_clear_zero {t:TypeId} {d:TypeDesc} (ht:P.underlying t=some d) {b o cap ls:Nat} {xv:Value} (hx:VRel ρ (.slice b o 0 cap ls) xv) (ty:TypeId):Sound P (do pure (.value (←Builtin.clear_ #[t] ty #[xv]))) ρ h w (.tup []) h:=by
 simp only [VRel] at hx
 obtain ⟨ad,cap',rfl,_⟩:=hx
 exact Sound.pure hr (cv:=.tuple #[]) (by simp [Builtin.clear_,run_underlying ht]) (by simp only [VRel];exact ⟨_,rfl,.nil⟩)
theorem s_clear {t e:TypeId} (ht:P.underlying t=some (.slice e)) {z:List Val} (hz:cZero P e=some z) {b o len cap ls:Nat} {xv:Value} (hx:VRel ρ (.slice b o len cap ls) xv)
  (hst:(len*z.length=0∧h'=h)∨(len*z.length≠0∧h.store b o (repeatL z len)=some h')) (ty:TypeId):Sound P (do pure (.value (←Builtin.clear_ #[t] ty #[xv]))) ρ h w (.tup []) h':=by
 simp only [VRel] at hx
 obtain ⟨ad,cap',rfl,c1,c2,c3,c4⟩:=hx
 obtain ⟨i,v,hi,hzv,hzc,hrun⟩:=cZero_rel (ρ:=ρ) hz
 have hzs:v.cells.size=z.length:=by have:=hzc.length;simpa using this
 have hcells:=repeatL_rel hzc len
 have hflat:(Builtin.zeroCells v.cells len).toList =(List.replicate len v.cells.toList).flatten :=by
  have:=zeroCells_flat v.cells len
  simpa [Builtin.zeroCells] using this
 by_cases hl0:len=0
 ·subst hl0
  rcases hst with ⟨_,rfl⟩|⟨h0,_⟩
  ·exact Sound.pure hr (cv:=.tuple #[]) (by simp [Builtin.clear_,run_underlying ht]) (by simp only [VRel];exact ⟨_,rfl,.nil⟩)
  ·simp at h0
 ·rcases hst with ⟨h0,rfl⟩|⟨h0,hst⟩
  ·have hnil:(List.replicate len v.cells.toList).flatten =[]:=List.length_eq_zero_iff.1 (by simp [hzs,h0])
   rw [hnil] at hflat
   refine Sound.pure hr (cv:=.tuple #[]) ?_ (by simp only [VRel];exact ⟨_,rfl,.nil⟩)
   simp [Builtin.clear_,run_underlying ht,hrun,hflat,storeCells]
  ·rcases c4 with c4|⟨L,hL,had,hloose⟩
   ·omega
   ·obtain ⟨w',hrunst,hpost⟩:=hr.store (P:=P) hst hL hcells
    rw [←had,←hflat] at hrunst
    refine sound_of (cv:=.tuple #[]) ?_ hpost (by simp only [VRel];exact ⟨_,rfl,.nil⟩)
    simp [Builtin.clear_,run_underlying ht,hrun,hrunst]
theorem s_minmax {isMax:Bool} {x v:Val} {l:List Val} {xv:Value} {m:List Value} (hx:VRel ρ x xv) (hm:VRels ρ l m) (e:minmaxL isMax x l=some v) (tys:Array TypeId) (ty:TypeId):
  Sound P (do pure (.value (←if isMax then Builtin.max_ tys ty (xv::m).toArray else Builtin.min_ tys ty (xv::m).toArray))) ρ h w v h:=by
 obtain ⟨cv,h1,h2⟩:=minmaxL_rel (P:=P) (w:=w) isMax l m x v xv hx hm e
 refine Sound.pure hr (cv:=cv) ?_ h2
 cases isMax<;>simp [Builtin.max_,Builtin.min_] at h1 ⊢ <;>simp [h1]
end
end Go.V
end
section
namespace Go.V
variable [Gd]
omit [Gd] in
theorem eqAt_shift (l m:List Val) (k:Nat): ∀ os:List (Nat×Ek),eqAt l m (shift k os)=eqAt (l.drop k) (m.drop k) os
 |[]=>rfl
 |(i,e)::r=>by
  have:=eqAt_shift l m k r
  simp only [shift] at this
  simp only [shift,List.map_cons,eqAt,List.getElem?_drop,this,Nat.add_comm k i]
omit [Gd] in
theorem eqAt_take (l m:List Val) (n:Nat): ∀ os:List (Nat×Ek),os.all (fun p=>decide (p.1<n))=true→eqAt (l.take n) (m.take n) os=eqAt l m os
 |[],_=>rfl
 |(i,e)::r,h=>by
  simp only [List.all_cons,Bool.and_eq_true,decide_eq_true_eq] at h
  simp only [eqAt,List.getElem?_take,h.1,if_true,eqAt_take l m n r h.2]
omit [Gd] in
theorem eqAt_append (l m:List Val): ∀ (os rs:List (Nat×Ek)) (p:Bool),eqAt l m (os++rs)=some p→ ∃ a b,eqAt l m os=some a∧eqAt l m rs=some b∧p=(a&&b)
 |[],rs,p,h=>⟨true,p,rfl,h,by simp⟩
 |(i,e)::os,rs,p,h=>by
  simp only [List.cons_append,eqAt] at h
  split at h
  ·rename_i x y q hx hy hq
   obtain ⟨a,b,h1,h2,h3⟩:=eqAt_append l m os rs q hq
   split at h
   ·rename_i r hr
    simp only [Option.some.injEq] at h
    refine ⟨r&&a,b,?_,h2,by rw [←h,h3,Bool.and_assoc]⟩
    simp only [eqAt,hx,hy,h1,hr]
   ·cases h
  ·cases h
def Ek.fits (P:Program) (t:TypeId):Ek→Prop
 | .i => ∃ k,P.underlying t=some (.int k)
 | .b =>P.underlying t=some .bool
 | .s =>P.underlying t=some .string
theorem eqv_run {P:Program} {ρ:Ren} {D:Nat} {t:TypeId} {k:Ek} {x y:Val} {xv yv:Value} (hx:VRel ρ x xv) (hy:VRel ρ y yv) {p:Bool} (e:eqv k x y=some p)
  (ht:k.fits P t) (w:World):(Op.equalIn (D+1) t xv yv).run P w=.ok p w:=by
 cases k<;>cases x<;>cases y<;>simp only [eqv] at e<;>(try (cases e;done))<;>simp only [VRel] at hx hy<;>subst hx hy
 ·split at e
  ·rename_i hk
   cases hk;cases e
   obtain ⟨k,ht⟩:=ht
   exact run_equalIn_int w D t _ k _ _ ht
  ·cases e
 ·simp only [Option.some.injEq] at e;subst e
  exact run_equalIn_bool w D t _ _ ht
 ·simp only [Option.some.injEq] at e;subst e
  rw [run_equalIn_string w D t _ _ ht,ByteArray.toList_mk,ByteArray.toList_mk]
def EqOk (P:Program) (t:TypeId) (D:Nat) (os:List (Nat×Ek)):Prop:=
 ∀ (ρ:Ren) (x y:Val) (xv yv:Value) (p:Bool) (w:World),VRel ρ x xv→VRel ρ y yv→x.isAgg=aggType P t→y.isAgg=aggType P t→eqAt x.cells y.cells os=some p→(Op.equalIn D t xv yv).run P w=.ok p w
omit [Gd] in
theorem agg_of_isAgg {x:Val} (h:x.isAgg=true): ∃ l,x=.agg l:=by
 cases x<;>simp [Val.isAgg] at h
 exact ⟨_,rfl⟩
theorem run_part_agg {P:Program} {ρ:Ren} {e:TypeId} {d:TypeDesc} (hd:P.underlying e=some d) (ha:aggType P e=true) {l:List Val} {arr:Array Value} (hl:VRels ρ l arr.toList) (off:Nat) (w:World):
  ∃ pv,(part e arr off).run P w=.ok pv w∧VRel ρ (.agg ((l.drop off).take (P.cellsOf e))) pv:=by
 obtain ⟨i,hi⟩:=info_of_underlying hd
 refine ⟨.agg (arr.extract off (off+P.cellsOf e)),by simp only [part,Sem.run_bind,run_isAgg_of hd,ha,Result.andThen_ok,if_true,run_sizeOf_of hi,Sem.run_pure],?_⟩
 simp only [VRel]
 refine ⟨_,rfl,?_⟩
 have:=(hl.drop off).take (P.cellsOf e)
 simpa [Array.toList_extract,List.extract_eq_take_drop,List.drop_take] using this
theorem run_part_one {P:Program} {ρ:Ren} {e:TypeId} {d:TypeDesc} (hd:P.underlying e=some d) (ha:aggType P e=false) {l:List Val} {arr:Array Value} (hl:VRels ρ l arr.toList) {off:Nat} {x:Val} (hx:l[off]? =some x) (w:World):
  ∃ pv,(part e arr off).run P w=.ok pv w∧VRel ρ x pv:=by
 obtain ⟨y,hy,r⟩:=hl.get _ _ hx
 rw [Array.getElem?_toList] at hy
 exact ⟨y,by simp only [part,Sem.run_bind,run_isAgg_of hd,ha,Result.andThen_ok,Bool.false_eq_true,if_false,hy,Sem.run_pure],r⟩
theorem part_eq {P:Program} {D:Nat} {e:TypeId} {d:TypeDesc} (hd:P.underlying e=some d) {os:List (Nat×Ek)} (hok:EqOk P e D os) (hos:os.all (fun p=>decide (p.1<P.cellsOf e))=true) (hne:aggType P e=false→ ∃ k,os=[(0,k)])
  {ρ:Ren} {l m:List Val} {xs ys:Array Value} (hl:VRels ρ l xs.toList) (hm:VRels ρ m ys.toList) {off:Nat} {p:Bool} (e1:eqAt l m (shift off os)=some p) (w:World):
  ∃ a b,(part e xs off).run P w=.ok a w∧(part e ys off).run P w=.ok b w∧(Op.equalIn D e a b).run P w=.ok p w:=by
 cases hag:aggType P e
 ·obtain ⟨k,rfl⟩:=hne hag
  simp only [shift,List.map_cons,List.map_nil,Nat.zero_add,eqAt] at e1
  split at e1
  ·rename_i x y q hx hy hq
   simp only [Option.some.injEq] at hq;subst hq
   split at e1
   ·rename_i p' hp
    simp only [Option.some.injEq,Bool.and_true] at e1;subst e1
    obtain ⟨a,ha,ra⟩:=run_part_one hd hag hl hx w
    obtain ⟨b,hb,rb⟩:=run_part_one hd hag hm hy w
    have hxa:x.isAgg=false:=by
     cases x<;>first|rfl|(simp [eqv] at hp)
    have hya:y.isAgg=false:=by
     cases y<;>first|rfl|(cases x<;>simp [eqv] at hp)
    have cx:x.cells=[x]:=by cases x<;>simp [Val.isAgg,Val.cells] at hxa ⊢
    have cy:y.cells=[y]:=by cases y<;>simp [Val.isAgg,Val.cells] at hya ⊢
    exact ⟨a,b,ha,hb,hok ρ x y a b p' w ra rb (by rw [hag];exact hxa) (by rw [hag];exact hya) (by rw [cx,cy];simp [eqAt,hp])⟩
   ·cases e1
  ·cases e1
 ·obtain ⟨a,ha,ra⟩:=run_part_agg hd hag hl off w
  obtain ⟨b,hb,rb⟩:=run_part_agg hd hag hm off w
  rw [eqAt_shift,←eqAt_take _ _ (P.cellsOf e) os hos] at e1
  exact ⟨a,b,ha,hb,hok ρ _ _ a b p w ra rb (by simp [Val.isAgg,hag]) (by simp [Val.isAgg,hag]) (by simpa [Val.cells] using e1)⟩
theorem leaves_single {P:Program}: ∀ (d:Nat) (t:TypeId) (os:List (Nat×Ek)),leaves P d t=some os→aggType P t=false→ ∃ k,os=[(0,k)]
 |0,t,os,h,_=>by simp [leaves] at h
 |d+1,t,os,h,ha=>by
  simp only [leaves] at h
  unfold aggType at ha
  split at h
  ·cases h;exact ⟨_,rfl⟩
  ·cases h;exact ⟨_,rfl⟩
  ·cases h;exact ⟨_,rfl⟩
  ·rename_i hu;simp [hu] at ha
  ·rename_i hu;simp [hu] at ha
  ·cases h
theorem fields_eq {P:Program} {D:Nat} {leaf:TypeId→Option (List (Nat×Ek))} (hleaf: ∀ t os,leaf t=some os→EqOk P t D os∧(aggType P t=false→ ∃ k,os=[(0,k)])) {ρ:Ren} {l m:List Val} {xs ys:Array Value} (hl:VRels ρ l xs.toList) (hm:VRels ρ m ys.toList):
  ∀ (fs:List Field) (os:List (Nat×Ek)) (p:Bool) (w:World),fieldLeaves P leaf fs=some os→eqAt l m os=some p→(Op.eqFields D xs ys fs).run P w=.ok p w
 |[],os,p,w,h,e=>by
  simp only [fieldLeaves,Option.some.injEq] at h;subst h
  simp only [eqAt,Option.some.injEq] at e;subst e
  simp [Op.eqFields]
 |f::fs,os,p,w,h,e=>by
  simp only [fieldLeaves] at h
  split at h
  ·cases h
  ·rename_i hn
   split at h
   ·rename_i d o1 rs hd h1 h2
    split at h
    ·rename_i hh
     cases h
     obtain ⟨a,b,e1,e2,rfl⟩:=eqAt_append l m _ _ p e
     obtain ⟨x,y,r1,r2,r3⟩:=part_eq hd (hleaf _ _ h1).1 hh (hleaf _ _ h1).2 hl hm e1 w
     have ih:=fields_eq hleaf hl hm fs rs b w h2 e2
     simp only [Op.eqFields,ne_eq,hn,not_false_eq_true,if_true,Sem.run_bind,r1,r2,r3,Result.andThen_ok]
     cases a
     ·simp
     ·simp [ih]
    ·cases h
   ·cases h
theorem items_eq {P:Program} {D:Nat} {e:TypeId} {d:TypeDesc} (hd:P.underlying e=some d) {os:List (Nat×Ek)} (hok:EqOk P e D os) (hos:os.all (fun p=>decide (p.1<P.cellsOf e))=true) (hne:aggType P e=false→ ∃ k,os=[(0,k)])
  {ρ:Ren} {l m:List Val} {xs ys:Array Value} (hl:VRels ρ l xs.toList) (hm:VRels ρ m ys.toList):
  ∀ (is:List Nat) (p:Bool) (w:World),eqAt l m (itemLeaves os (P.cellsOf e) is)=some p→(Op.eqItems D e (P.cellsOf e) xs ys is).run P w=.ok p w
 |[],p,w,h=>by
  simp only [itemLeaves,eqAt,Option.some.injEq] at h;subst h
  simp [Op.eqItems]
 |i::is,p,w,h=>by
  simp only [itemLeaves] at h
  obtain ⟨a,b,e1,e2,rfl⟩:=eqAt_append l m _ _ p h
  obtain ⟨x,y,r1,r2,r3⟩:=part_eq hd hok hos hne hl hm e1 w
  have ih:=items_eq hd hok hos hne hl hm is b w e2
  simp only [Op.eqItems,Sem.run_bind,r1,r2,r3,Result.andThen_ok]
  cases a
  ·simp
  ·simp [ih]
theorem leaves_ok {P:Program}: ∀ (d:Nat) (t:TypeId) (os:List (Nat×Ek)),leaves P d t=some os→ ∀ D,d≤D→EqOk P t D os
 |0,t,os,h,_,_=>by simp [leaves] at h
 |d+1,t,os,h,0,hD=>by omega
 |d+1,t,os,h,D+1,hD=>by
  intro ρ x y xv yv p w hx hy hxa hya e
  have ih: ∀ (t:TypeId) (os:List (Nat×Ek)),leaves P d t=some os→EqOk P t D os:=fun t os h=>leaves_ok d t os h D (by omega)
  simp only [leaves] at h
  have prim: ∀ k,os=[(0,k)]→aggType P t=false→k.fits P t→(Op.equalIn (D+1) t xv yv).run P w=.ok p w:=by
   intro k hos ha hk
   subst hos
   rw [ha] at hxa hya
   have cx:x.cells=[x]:=by cases x<;>simp [Val.isAgg,Val.cells] at hxa ⊢
   have cy:y.cells=[y]:=by cases y<;>simp [Val.isAgg,Val.cells] at hya ⊢
   rw [cx,cy] at e
   simp only [eqAt,List.getElem?_cons_zero] at e
   split at e
   ·rename_i q hq
    simp only [Option.some.injEq,Bool.and_true] at e;subst e
    exact eqv_run hx hy hq hk w
   ·cases e
  split at h
  ·rename_i k hu;cases h;exact prim .i rfl (by simp [aggType,hu]) ⟨k,hu⟩
  ·rename_i hu;cases h;exact prim .b rfl (by simp [aggType,hu]) hu
  ·rename_i hu;cases h;exact prim .s rfl (by simp [aggType,hu]) hu
  ·rename_i fs hu
   split at h
   ·cases h
   ·rename_i hst
    have ha:aggType P t=true:=by simp [aggType,hu]
    rw [ha] at hxa hya
    obtain ⟨l,rfl⟩:=agg_of_isAgg hxa
    obtain ⟨m,rfl⟩:=agg_of_isAgg hya
    simp only [VRel] at hx hy
    obtain ⟨xs,rfl,hl⟩:=hx
    obtain ⟨ys,rfl,hm⟩:=hy
    have hfs:P.fieldsOf t=fs:=by simp [Program.fieldsOf,hu]
    rw [run_equalIn_struct w D t xs ys (by rw [hfs];exact hu) (by simpa using hst),hfs]
    exact fields_eq (fun t os h=>⟨ih t os h,leaves_single d t os h⟩) hl hm fs.toList os p w h e
  ·rename_i n el hu
   split at h
   ·rename_i dd o1 hd ho
    split at h
    ·rename_i hos
     cases h
     have ha:aggType P t=true:=by simp [aggType,hu]
     rw [ha] at hxa hya
     obtain ⟨l,rfl⟩:=agg_of_isAgg hxa
     obtain ⟨m,rfl⟩:=agg_of_isAgg hya
     simp only [VRel] at hx hy
     obtain ⟨xs,rfl,hl⟩:=hx
     obtain ⟨ys,rfl,hm⟩:=hy
     obtain ⟨i,hi⟩:=info_of_underlying hd
     rw [run_equalIn_array w D xs ys hu hi]
     exact items_eq hd (ih el o1 ho) hos (leaves_single d el o1 ho) hl hm (List.range n) p w e
    ·cases h
   ·cases h
  ·cases h
section
variable {P:Program} {ρ:Ren} {h h':Heap} {w:World} (hr:HRel ρ h w)
include hr
theorem s_eql {op:BinOp} (ho:op=.eql ∨op=.neq) {t:TypeId} {p q:Operand} (hg:P.eqGuardType P.depth t=false) {os:List (Nat×Ek)} (hos:leaves P 8 t=some os) {x y:Val} {xv yv:Value} (hx:VRel ρ x xv) (hy:VRel ρ y yv) {b:Bool} (e:eqVal ⟨aggType P t,os⟩ x y=some b):
  Sound P (do pure (.value (←(do eqGuard op t p q xv yv;binOp op t xv yv)))) ρ h w (.bool (if decide (op=.neq) then !b else b)) h:=by
 unfold eqVal at e
 split at e
 ·rename_i hh
  have heq:=leaves_ok 8 t os hos 10000 (by omega) ρ x y xv yv b w hx hy hh.1 hh.2 e
  refine Sound.pure hr (cv:=.bool (if decide (op=.neq) then !b else b)) ?_ (by simp only [VRel])
  cases hag:aggType P t
  ·obtain ⟨k,rfl⟩:=leaves_single 8 t os hos hag
   rw [hag] at hh
   have cx:x.cells=[x]:=by have:=hh.1;cases x<;>simp [Val.isAgg,Val.cells] at this ⊢
   have cy:y.cells=[y]:=by have:=hh.2;cases y<;>simp [Val.isAgg,Val.cells] at this ⊢
   simp only [cx,cy,eqAt,List.getElem?_cons_zero] at e
   split at e
   ·rename_i b' hb
    simp only [Option.some.injEq,Bool.and_true] at e;subst e
    cases k<;>cases x<;>cases y<;>simp only [eqv] at hb<;>(try (cases hb;done))<;>simp only [VRel] at hx hy<;>subst hx hy
    ·split at hb
     ·rename_i hk;cases hk;cases hb
      rcases ho with rfl|rfl<;>simp [eqGuard,binOp,Op.intCmp]<;>rfl
     ·cases hb
    ·simp only [Option.some.injEq] at hb;subst hb
     rcases ho with rfl|rfl<;>simp [eqGuard,binOp,Op.equal,Op.maxDepth,heq]
    ·simp only [Option.some.injEq] at hb;subst hb
     rcases ho with rfl|rfl<;>simp [eqGuard,binOp,Op.stringOp]
   ·cases e
  ·rw [hag] at hh
   obtain ⟨l,rfl⟩:=agg_of_isAgg hh.1
   obtain ⟨m,rfl⟩:=agg_of_isAgg hh.2
   simp only [VRel] at hx hy
   obtain ⟨xs,rfl,hl⟩:=hx
   obtain ⟨ys,rfl,hm⟩:=hy
   rcases ho with rfl|rfl
   ·simp [eqGuard,hg,run_eql_struct,heq]
   ·simp [eqGuard,hg,run_neq_struct,heq]
 ·cases e
omit hr in
theorem bin_eq {op:BinOp} (ho:op=.eql ∨op=.neq) {t:TypeId} {p q:Operand} {xv yv:Value} {b:Bool} (h1:binOp .eql t xv yv=(do pure (.bool (←Op.equal t xv yv)))) (h2:binOp .neq t xv yv=(do pure (.bool (!(←Op.equal t xv yv)))))
  (hg: ∀ op,(eqGuard op t p q xv yv).run P w=.ok () w) (he': ∀ d,(Op.equalIn (d+1) t xv yv).run P w=.ok b w):
  (do eqGuard op t p q xv yv;binOp op t xv yv:Sem Value).run P w=.ok (.bool (if decide (op=.neq) then !b else b)) w:=by
 have he:(Op.equalIn 10000 t xv yv).run P w=.ok b w:=he' 9999
 rcases ho with rfl|rfl
 ·simp [hg,h1,Op.equal,Op.maxDepth,he]
 ·simp [hg,h2,Op.equal,Op.maxDepth,he]
set_option maxHeartbeats 2000000 in
theorem s_eqnil {op:BinOp} (ho:op=.eql ∨op=.neq) {t:TypeId} {p q:Operand} (hc:(isNilConst p||isNilConst q)=true) {k:Nk} (hd:cNil P t=some k) {x y:Val} {xv yv:Value} (hx:VRel ρ x xv) (hy:VRel ρ y yv) {b:Bool} (e:eqNil k x y=some b):
  Sound P (do pure (.value (←(do eqGuard op t p q xv yv;binOp op t xv yv)))) ρ h w (.bool (if decide (op=.neq) then !b else b)) h:=by
 refine sound_of (cv:=.bool (if decide (op=.neq) then !b else b)) ?_ (.refl hr) (by simp only [VRel])
 have g1: ∀ op,(eqGuard op t p q .nilIface .nilIface).run P w=.ok () w:=by
  intro op
  clear hx hy e hd ho
  cases op<;>cases p<;>cases q<;>first|(simp [isNilConst] at hc;done)|(simp [eqGuard];done)
 unfold cNil at hd
 split at hd<;>(try (cases hd;done))<;>rename_i hu<;>cases hd
 ·
  cases x<;>cases y<;>simp only [eqNil] at e<;>(try (cases e;done))<;>simp only [Option.some.injEq] at e<;>subst e<;>simp only [VRel] at hx hy
  ·subst hx hy;exact bin_eq ho rfl rfl (fun op=>by cases op<;>rfl) (fun d=>by simp [Op.equalIn,run_underlying hu])
  ·obtain ⟨_,_,hy⟩:=hy;subst hx hy;exact bin_eq ho rfl rfl (fun op=>by cases op<;>rfl) (fun d=>by simp [Op.equalIn,run_underlying hu])
  ·obtain ⟨_,_,hx⟩:=hx;subst hx hy;exact bin_eq ho rfl rfl (fun op=>by cases op<;>rfl) (fun d=>by simp [Op.equalIn,run_underlying hu])
 ·cases x<;>cases y<;>simp only [eqNil] at e<;>(try (cases e;done))<;>simp only [Option.some.injEq] at e<;>subst e<;>simp only [VRel] at hx hy
  ·subst hx hy;exact bin_eq ho rfl rfl (fun op=>by cases op<;>rfl) (fun d=>by simp [Op.equalIn,run_underlying hu])
  ·obtain ⟨_,_,hy,_⟩:=hy;subst hx hy;exact bin_eq ho rfl rfl (fun op=>by cases op<;>rfl) (fun d=>by simp [Op.equalIn,run_underlying hu])
  ·obtain ⟨_,_,hx,_⟩:=hx;subst hx hy;exact bin_eq ho rfl rfl (fun op=>by cases op<;>rfl) (fun d=>by simp [Op.equalIn,run_underlying hu])
 ·cases x<;>cases y<;>simp only [eqNil] at e<;>(try (cases e;done))<;>simp only [Option.some.injEq] at e<;>subst e<;>simp only [VRel] at hx hy
  ·subst hx hy;exact bin_eq ho rfl rfl (fun op=>by cases op<;>rfl) (fun d=>by simp [Op.equalIn,run_underlying hu])
  ·rcases hy with ⟨_,_,_,hy,_⟩|⟨_,_,_,_,_,_,_,_,_,hy,_⟩<;>subst hx hy<;>exact bin_eq ho rfl rfl (fun op=>by cases op<;>rfl) (fun d=>by simp [Op.equalIn,run_underlying hu])
  ·rcases hx with ⟨_,_,_,hx,_⟩|⟨_,_,_,_,_,_,_,_,_,hx,_⟩<;>subst hx hy<;>exact bin_eq ho rfl rfl (fun op=>by cases op<;>rfl) (fun d=>by simp [Op.equalIn,run_underlying hu])
 ·cases x<;>cases y<;>simp only [eqNil] at e<;>(try (cases e;done))<;>simp only [Option.some.injEq] at e<;>subst e<;>simp only [VRel] at hx hy
  ·subst hx hy;exact bin_eq ho rfl rfl (fun op=>by cases op<;>rfl) (fun d=>by simp [Op.equalIn,run_underlying hu])
  ·obtain ⟨_,_,hy⟩:=hy;subst hx hy;exact bin_eq ho rfl rfl (fun op=>by cases op<;>rfl) (fun d=>by simp [Op.equalIn,run_underlying hu])
  ·obtain ⟨_,_,hx⟩:=hx;subst hx hy;exact bin_eq ho rfl rfl (fun op=>by cases op<;>rfl) (fun d=>by simp [Op.equalIn,run_underlying hu])
 ·cases x<;>cases y<;>simp only [eqNil] at e<;>(try (cases e;done))<;>simp only [Option.some.injEq] at e<;>subst e<;>simp only [VRel] at hx hy
  ·subst hx hy;exact bin_eq ho rfl rfl g1 (fun d=>by simp [Op.equalIn,run_underlying hu])
  ·obtain ⟨_,hy,_⟩:=hy;subst hx hy;exact bin_eq ho rfl rfl (fun op=>by cases op<;>rfl) (fun d=>by simp [Op.equalIn,run_underlying hu])
  ·obtain ⟨_,hx,_⟩:=hx;subst hx hy;exact bin_eq ho rfl rfl (fun op=>by cases op<;>rfl) (fun d=>by simp [Op.equalIn,run_underlying hu])
end
end Go.V
end
section
namespace Go.V
variable [Gd]
def CkOk (P:Program) (em:Bool) (t:TypeId) (D:Nat) (os:List (Nat×Ek)):Prop:=
 ∀ (ρ:Ren) (x:Val) (xv:Value) (w:World),VRel ρ x xv→x.isAgg=aggType P t→(∃ p,eqAt x.cells x.cells os=some p)→(Instr.checkKey em D t xv).run P w=.ok () w
theorem part_ck {P:Program} {em:Bool} {D:Nat} {e:TypeId} {d:TypeDesc} (hd:P.underlying e=some d) {os:List (Nat×Ek)} (hok:CkOk P em e D os) (hos:os.all (fun p=>decide (p.1<P.cellsOf e))=true) (hne:aggType P e=false→ ∃ k,os=[(0,k)])
  {ρ:Ren} {l:List Val} {xs:Array Value} (hl:VRels ρ l xs.toList) {off:Nat} {p:Bool} (e1:eqAt l l (shift off os)=some p) (w:World):
  ∃ a,(part e xs off).run P w=.ok a w∧(Instr.checkKey em D e a).run P w=.ok () w:=by
 cases hag:aggType P e
 ·obtain ⟨k,rfl⟩:=hne hag
  simp only [shift,List.map_cons,List.map_nil,Nat.zero_add,eqAt] at e1
  split at e1
  ·rename_i x y q hx hy hq
   simp only [Option.some.injEq] at hq;subst hq
   rw [hx] at hy;cases hy
   split at e1
   ·rename_i p' hp
    obtain ⟨a,ha,ra⟩:=run_part_one hd hag hl hx w
    have hxa:x.isAgg=false:=by
     cases x<;>first|rfl|(simp [eqv] at hp)
    have cx:x.cells=[x]:=by cases x<;>simp [Val.isAgg,Val.cells] at hxa ⊢
    exact ⟨a,ha,hok ρ x a w ra (by rw [hag];exact hxa) ⟨p',by rw [cx];simp [eqAt,hp]⟩⟩
   ·cases e1
  ·cases e1
 ·obtain ⟨a,ha,ra⟩:=run_part_agg hd hag hl off w
  rw [eqAt_shift,←eqAt_take _ _ (P.cellsOf e) os hos] at e1
  exact ⟨a,ha,hok ρ _ a w ra (by simp [Val.isAgg,hag]) ⟨p,by simpa [Val.cells] using e1⟩⟩
theorem leaves_ck {P:Program} {em:Bool}: ∀ (d:Nat) (t:TypeId) (os:List (Nat×Ek)),leaves P d t=some os→ ∀ D,d≤D→CkOk P em t D os
 |0,t,os,h,_,_=>by simp [leaves] at h
 |d+1,t,os,h,0,hD=>by omega
 |d+1,t,os,h,D+1,hD=>by
  intro ρ x xv w hx hxa ⟨p,e⟩
  have ih: ∀ (t:TypeId) (os:List (Nat×Ek)),leaves P d t=some os→CkOk P em t D os:=fun t os h=>leaves_ck d t os h D (by omega)
  simp only [leaves] at h
  split at h
  ·rename_i k hu;rw [Instr.checkKey];simp [run_underlying hu]
  ·rename_i hu;rw [Instr.checkKey];simp [run_underlying hu]
  ·rename_i hu;rw [Instr.checkKey];simp [run_underlying hu]
  ·rename_i fs hu
   split at h
   ·cases h
   ·have ha:aggType P t=true:=by simp [aggType,hu]
    rw [ha] at hxa
    obtain ⟨l,rfl⟩:=agg_of_isAgg hxa
    simp only [VRel] at hx
    obtain ⟨xs,rfl,hl⟩:=hx
    rw [Instr.checkKey]
    simp only [Sem.run_bind,run_underlying hu,Result.andThen_ok]
    rw [←Array.forIn_toList]
    simp only [Val.cells] at e
    generalize fs.toList=L at h
    clear hu
    induction L generalizing os p with
    |nil=>simp
    |cons f L ihl=>
     simp only [fieldLeaves] at h
     split at h
     ·cases h
     ·rename_i hn
      split at h
      ·rename_i dd o1 rs hd h1 h2
       split at h
       ·rename_i hh
        cases h
        obtain ⟨a,b,e1,e2,rfl⟩:=eqAt_append l l _ _ p e
        obtain ⟨x,r1,r2⟩:=part_ck hd (ih _ _ h1) hh (leaves_single d _ _ h1) hl e1 w
        have ih2:=ihl rs b e2 h2
        simp only [List.forIn_cons,Sem.run_bind,hn,ne_eq,not_false_eq_true,if_true,Result.andThen_ok,r1,r2,Sem.run_pure]
        exact ih2
       ·cases h
      ·cases h
  ·rename_i n el hu
   split at h
   ·rename_i dd o1 hd ho
    split at h
    ·rename_i hos
     cases h
     have ha:aggType P t=true:=by simp [aggType,hu]
     rw [ha] at hxa
     obtain ⟨l,rfl⟩:=agg_of_isAgg hxa
     simp only [VRel] at hx
     obtain ⟨xs,rfl,hl⟩:=hx
     obtain ⟨i,hi⟩:=info_of_underlying hd
     rw [Instr.checkKey]
     simp only [Sem.run_bind,run_underlying hu,Result.andThen_ok]
     simp only [Std.Legacy.Range.forIn_eq_forIn_range',Std.Legacy.Range.size,Nat.sub_zero,Nat.add_one_sub_one,Nat.div_one]
     simp only [Val.cells] at e
     rw [List.range_eq_range'] at e
     generalize List.range' 0 n=is at e
     clear hu
     induction is generalizing p with
     |nil=>simp
     |cons j is ihl=>
      simp only [itemLeaves] at e
      obtain ⟨a,b,e1,e2,rfl⟩:=eqAt_append l l _ _ p e
      obtain ⟨x,r1,r2⟩:=part_ck hd (ih el o1 ho) hos (leaves_single d el o1 ho) hl e1 w
      have ih2:=ihl b e2
      simp only [List.forIn_cons,Sem.run_bind,run_sizeOf_of hi,Result.andThen_ok,r1,r2,Sem.run_pure]
      exact ih2
    ·cases h
   ·cases h
  ·cases h
theorem run_makeMap {P:Program} {w:World} (t:TypeId):(Instr.makeMap t none).run P w=.ok (.map (some w.heap.size)) (w.alloc (.map #[] 0)):=by
 simp [Instr.makeMap,Result.andThen]
theorem s_mkmap {P:Program} {ρ:Ren} {h:Heap} {w:World} (hr:HRel ρ h w) (t:TypeId):Sound P (do pure (.value (←Instr.makeMap t none))) ρ h w (.map h.next) (h.new (.map [])).2:=by
 refine ⟨.value (.map (some w.heap.size)),w.alloc (.map #[] 0),.map (some w.heap.size),_,by simp [run_makeMap],.inl rfl,Post.new hr (.map []) (.map #[] 0) _ ⟨w.heap.size,0,0,true,none⟩ rfl rfl rfl rfl rfl rfl ?_,?_⟩
 ·refine ⟨#[],0,?_,?_,?_⟩
  ·show (w.heap.push (Obj.map #[] 0))[w.heap.size]? =_
   simp
  ·simp [VRels]
  ·simp [VRels]
 ·simp [VRel,Ren.upd]
def FAt (q:Eqs) (k:Val) (es:List (Val×Val)) (i:Nat) (ent:List MapEntry):Option (Nat×Value)→Prop
 |none=>findKey q k es=some none∧ ∀ v,setKey q k v es=some (es++[(k,v)])
 |some (n,cv)=> ∃ pre a b post m,es=pre++(a,b)::post∧n=i+pre.length∧ent[pre.length]? =some m∧m.val=cv∧eqVal q k a=some true∧findKey q k es=some (some b)∧
   ∀ v,setKey q k v es=if a.cells.length=k.cells.length∧q.covers k.cells.length=true then some (pre++(k,v)::post) else none
theorem FAt.nil {q:Eqs} {k:Val} {i:Nat} {ent:List MapEntry}:FAt q k [] i ent none:=by
 simp [FAt,findKey,setKey]
theorem FAt.hit {q:Eqs} {k a b:Val} {es:List (Val×Val)} {i:Nat} {m:MapEntry} {ent:List MapEntry} (h:eqVal q k a=some true):FAt q k ((a,b)::es) i (m::ent) (some (i,m.val)):=
 ⟨[],a,b,es,m,rfl,by simp,by simp,rfl,h,by simp [findKey,h],fun v=>by simp [setKey,h]⟩
theorem FAt.step {q:Eqs} {k a b:Val} {es:List (Val×Val)} {i:Nat} {m:MapEntry} {ent:List MapEntry} (h:eqVal q k a=some false): ∀ {r:Option (Nat×Value)},FAt q k es (i+1) ent r→FAt q k ((a,b)::es) i (m::ent) r
 |none,⟨h1,h2⟩=>⟨by simp [findKey,h,h1],fun v=>by simp [setKey,h,h2 v]⟩
 |some (n,cv),⟨pre,x,y,post,m',e1,e2,e3,e4,e5,e6,e7⟩=>by
  refine ⟨(a,b)::pre,x,y,post,m',by simp [e1],by simp [e2];omega,by simpa using e3,e4,e5,by simp [findKey,h,e6],fun v=> ?_⟩
  simp only [setKey,h,e7 v]
  split<;>rename_i hh
  ·split at hh
   ·rename_i hc;cases hh;rw [if_pos hc];simp
   ·cases hh
  ·split at hh
   ·cases hh
   ·rename_i hc;rw [if_neg hc]
variable {P:Program} {ρ:Ren} {w:World}
theorem eqVal_run {t:TypeId} {os:List (Nat×Ek)} (hos:leaves P 8 t=some os) {k a:Val} {kv av:Value} (hk:VRel ρ k kv) (ha:VRel ρ a av) {b:Bool} (hb:eqVal ⟨aggType P t,os⟩ k a=some b):(Op.equal t kv av).run P w=.ok b w:=by
 unfold eqVal at hb
 split at hb
 ·rename_i hh
  exact leaves_ok 8 t os hos 10000 (by omega) ρ k a kv av b w hk ha hh.1 hh.2 hb
 ·cases hb
theorem findAsking_at {t:TypeId} {os:List (Nat×Ek)} (hos:leaves P 8 t=some os) {k:Val} {kv:Value} (hk:VRel ρ k kv): ∀ (es:List (Val×Val)) (ent:List MapEntry) (i:Nat) (r:Option Val),VRels ρ (es.map Prod.fst) (ent.map (·.key))→findKey ⟨aggType P t,os⟩ k es=some r→
  ∃ r',(Instr.findAsking t kv ent i).run P w=.ok r' w∧FAt ⟨aggType P t,os⟩ k es i ent r'
 |[],ent,i,r,h1,e=>by
  simp only [List.map_nil,VRels,List.map_eq_nil_iff] at h1;subst h1
  exact ⟨none,by simp [Instr.findAsking],.nil⟩
 |(a,b)::es,ent,i,r,h1,e=>by
  cases ent with
  |nil=>simp only [List.map_cons,VRels,List.map_nil] at h1;obtain ⟨_,_,h1,_⟩:=h1;cases h1
  |cons m ent=>
   simp only [List.map_cons,VRels,List.cons.injEq] at h1
   obtain ⟨_,_,⟨rfl,rfl⟩,q1,q2⟩:=h1
   simp only [findKey] at e
   split at e
   ·rename_i hq
    exact ⟨some (i,m.val),by simp [Instr.findAsking,eqVal_run hos hk q1 hq],.hit hq⟩
   ·rename_i hq
    obtain ⟨r',g1,g2⟩:=findAsking_at hos hk es ent (i+1) r q2 e
    exact ⟨r',by simp [Instr.findAsking,eqVal_run hos hk q1 hq,g1],.step hq g2⟩
   ·cases e
theorem sameNow_at {t:TypeId} {d:TypeDesc} (hd:P.underlying t=some d) {os:List (Nat×Ek)} (hos:leaves P 8 t=some os) {k a:Val} {kv av:Value} (hk:VRel ρ k kv) (ha:VRel ρ a av) {b c:Bool} (hb:eqVal ⟨aggType P t,os⟩ k a=some b) (hc:Instr.sameNow d kv av=some c):c=b:=by
 have one: ∀ x:Val,x.isAgg=false→x.cells=[x]:=by intro x hx;cases x<;>simp [Val.isAgg,Val.cells] at hx ⊢
 cases d<;>cases kv<;>cases av<;>simp only [Instr.sameNow] at hc<;>(try (cases hc;done))<;>
  (cases k<;>simp only [VRel] at hk<;>(try (cases hk;done))<;>(try (obtain ⟨_,hk⟩:=hk;cases hk;done))<;>(try (obtain ⟨_,_,hk,_⟩:=hk;cases hk;done))<;>(try (obtain ⟨_,_,hk⟩:=hk;cases hk;done))<;>(try (obtain ⟨_,hk,_⟩:=hk;cases hk;done)))<;>
  (cases a<;>simp only [VRel] at ha<;>(try (cases ha;done))<;>(try (obtain ⟨_,ha⟩:=ha;cases ha;done))<;>(try (obtain ⟨_,_,ha,_⟩:=ha;cases ha;done))<;>(try (obtain ⟨_,_,ha⟩:=ha;cases ha;done))<;>(try (obtain ⟨_,ha,_⟩:=ha;cases ha;done)))<;>
  cases hk<;>cases ha<;>simp [leaves,hd] at hos<;>subst hos<;>simp [eqVal,aggType,hd,Val.isAgg,Val.cells,eqAt,eqv] at hb hc<;>(try simp_all)
 ·have q: ∀ x y:List UInt8,((⟨⟨x⟩⟩:ByteArray)==⟨⟨y⟩⟩)=(x==y):=fun x y=>by rw [Bool.eq_iff_iff,MapKept.bytes_beq];simp
  rw [←hb,←hc,q]
theorem findNow_at {t:TypeId} {d:TypeDesc} (hd:P.underlying t=some d) {os:List (Nat×Ek)} (hos:leaves P 8 t=some os) {k:Val} {kv:Value} (hk:VRel ρ k kv): ∀ (es:List (Val×Val)) (ent:List MapEntry) (i:Nat) (r:Option Val) (r':Option (Nat×Value)),VRels ρ (es.map Prod.fst) (ent.map (·.key))→findKey ⟨aggType P t,os⟩ k es=some r→
  Instr.findNow d kv ent i=some r'→FAt ⟨aggType P t,os⟩ k es i ent r'
 |[],ent,i,r,r',h1,e,h=>by
  simp only [List.map_nil,VRels,List.map_eq_nil_iff] at h1;subst h1
  simp only [Instr.findNow,Option.some.injEq] at h;subst h
  exact .nil
 |(a,b)::es,ent,i,r,r',h1,e,h=>by
  cases ent with
  |nil=>simp only [List.map_cons,VRels,List.map_nil] at h1;obtain ⟨_,_,h1,_⟩:=h1;cases h1
  |cons m ent=>
   simp only [List.map_cons,VRels,List.cons.injEq] at h1
   obtain ⟨_,_,⟨rfl,rfl⟩,q1,q2⟩:=h1
   simp only [findKey] at e
   simp only [Instr.findNow] at h
   split at e
   ·rename_i hq
    split at h
    ·cases h;exact .hit hq
    ·rename_i hc;have:=sameNow_at hd hos hk q1 hq hc;cases this
    ·cases h
   ·rename_i hq
    split at h
    ·rename_i hc;have:=sameNow_at hd hos hk q1 hq hc;cases this
    ·exact .step hq (findNow_at hd hos hk es ent (i+1) r r' q2 e h)
    ·cases h
   ·cases e
theorem findKey_at {t:TypeId} {os:List (Nat×Ek)} (hos:leaves P 8 t=some os) {k:Val} {kv:Value} (hk:VRel ρ k kv) {es:List (Val×Val)} {ent:List MapEntry} {r:Option Val} (h1:VRels ρ (es.map Prod.fst) (ent.map (·.key))) (e:findKey ⟨aggType P t,os⟩ k es=some r):
  ∃ r',(Instr.findKey t kv ent).run P w=.ok r' w∧FAt ⟨aggType P t,os⟩ k es 0 ent r':=by
 have: ∃ d,P.underlying t=some d:=by
  cases hd:P.underlying t with
  |none=>simp [leaves,hd] at hos
  |some d=>exact ⟨d,rfl⟩
 obtain ⟨d,hd⟩:=this
 cases hn:Instr.findNow d kv ent 0 with
 |some r'=>exact ⟨r',by simp [Instr.findKey,run_underlying hd,hn],findNow_at hd hos hk es ent 0 r r' h1 e hn⟩
 |none=>
  obtain ⟨r',g1,g2⟩:=findAsking_at (w:=w) hos hk es ent 0 r h1 e
  exact ⟨r',by simp [Instr.findKey,run_underlying hd,hn,g1],g2⟩
theorem VRels.split {ρ:Ren} {l:List Val} {x:Val} {r:List Val} {m:List Value} {v:Value} (h:VRels ρ (l++x::r) m) (e:m[l.length]? =some v):VRel ρ x v:=by
 obtain ⟨v',h1,h2⟩:=h.get l.length x (by simp)
 rw [e] at h1;cases h1;exact h2
theorem checkKey_run {t:TypeId} {os:List (Nat×Ek)} (hos:leaves P 8 t=some os) {k:Val} {kv:Value} (hk:VRel ρ k kv) (hkk:eqVal ⟨aggType P t,os⟩ k k=some true) (em:Bool):(Instr.checkKey em 10000 t kv).run P w=.ok () w:=by
 unfold eqVal at hkk
 split at hkk
 ·rename_i hh
  exact leaves_ck 8 t os hos 10000 (by omega) ρ k kv w hk hh.1 ⟨_,hkk⟩
 ·cases hkk
section
variable {h h':Heap} (hr:HRel ρ h w)
include hr
theorem s_lookup {t kt et:TypeId} (ht:P.underlying t=some (.map kt et)) {os:List (Nat×Ek)} (hos:leaves P 8 kt=some os) {z:Val} (hz:((P.info? et).bind (·.zero)).bind cVal=some z) {x k:Val} {xv kv:Value} (hx:VRel ρ x xv) (hk:VRel ρ k kv)
  (hkk:eqVal ⟨aggType P kt,os⟩ k k=some true) {es:List (Val×Val)} (hes:(x=.nilm ∧es=[])∨ ∃ b,x=.map b∧h.get b=some (.map es)) {r:Option Val} (e:findKey ⟨aggType P kt,os⟩ k es=some r) (ok:Bool):
  Sound P (do pure (.value (←Instr.lookup t xv kv ok))) ρ h w (if ok=true then .tup [r.getD z,.bool r.isSome] else r.getD z) h:=by
 have hzero: ∃ zv,(zeroValue et).run P w=.ok zv w∧VRel ρ z zv:=by
  cases hi:P.info? et with
  |none=>rw [hi] at hz;cases hz
  |some i=>
   rw [hi] at hz
   simp only [Option.bind_some] at hz
   cases hv:i.zero with
   |none=>rw [hv] at hz;cases hz
   |some v=>
    rw [hv] at hz
    simp only [Option.bind_some] at hz
    exact ⟨v,by simp [zeroValue,typeInfo,hi,hv],cVal_rel v z hz⟩
 obtain ⟨zv,hzr,hzv⟩:=hzero
 have main: ∃ ent:List MapEntry,VRels ρ (es.map Prod.fst) (ent.map (·.key))∧VRels ρ (es.map Prod.snd) (ent.map (·.val))∧
   (∀ n cv,(Instr.findKey kt kv ent).run P w=.ok (some (n,cv)) w→(Instr.lookup t xv kv ok).run P w=.ok (if ok then .tuple #[cv,.bool true] else cv) w)∧
   ((Instr.findKey kt kv ent).run P w=.ok none w→(Instr.lookup t xv kv ok).run P w=.ok (if ok then .tuple #[zv,.bool false] else zv) w):=by
  rcases hes with ⟨rfl,rfl⟩|⟨b,rfl,hg⟩
  ·simp only [VRel] at hx;subst hx
   refine ⟨[],by simp [VRels],by simp [VRels],fun n cv hf=> ?_,fun hf=> ?_⟩
   ·simp [Instr.lookup,run_underlying ht,checkKey_run hos hk hkk,hf]
   ·simp [Instr.lookup,run_underlying ht,checkKey_run hos hk hkk,hf,hzr]
  ·simp only [VRel] at hx
   obtain ⟨l,hl,rfl⟩:=hx
   obtain ⟨l',hl',ent,clock,a1,a2,a3⟩:=hr.blk b _ hg
   rw [hl] at hl';cases hl'
   refine ⟨ent.toList,a2,a3,fun n cv hf=> ?_,fun hf=> ?_⟩
   ·simp [Instr.lookup,run_underlying ht,checkKey_run hos hk hkk,MapKept.run_getObj_map a1,hf]
   ·simp [Instr.lookup,run_underlying ht,checkKey_run hos hk hkk,MapKept.run_getObj_map a1,hf,hzr]
 obtain ⟨ent,a2,a3,hrun1,hrun2⟩:=main
 obtain ⟨r',g1,g2⟩:=findKey_at (w:=w) hos hk a2 e
 cases r' with
 |none=>
  obtain ⟨f1,_⟩:=g2
  rw [e] at f1;cases f1
  refine Sound.pure hr (cv:=if ok then .tuple #[zv,.bool false] else zv) (by simp [hrun2 g1]) ?_
  cases ok<;>simp [VRel,VRels,hzv]
 |some p=>
  obtain ⟨n,cv⟩:=p
  obtain ⟨pre,a,b,post,m,e1,e2,e3,e4,e5,e6,_⟩:=g2
  rw [e] at e6;cases e6
  have hb:VRel ρ b cv:=by
   rw [e1,List.map_append,List.map_cons] at a3
   refine a3.split (v:=cv) ?_
   simp [e3,e4]
  refine Sound.pure hr (cv:=if ok then .tuple #[cv,.bool true] else cv) (by simp [hrun1 _ _ g1]) ?_
  cases ok<;>simp [VRel,VRels,hb]
omit hr in
theorem eqv_bits {k:Ek} {x y:Val} {xv yv:Value} (hx:VRel ρ x xv) (hy:VRel ρ y yv) (e:eqv k x y=some true) (n:Nat):Instr.sameBits n yv xv=true:=by
 cases k<;>cases x<;>cases y<;>simp only [eqv] at e<;>(try (cases e;done))<;>simp only [VRel] at hx hy<;>subst hx hy
 ·split at e
  ·rename_i hk;simp at e;subst hk;subst e;simp [Instr.sameBits]
  ·cases e
 ·simp at e;subst e;simp [Instr.sameBits]
 ·simp at e;subst e;simp [Instr.sameBits,MapKept.bytes_beq]
omit hr in
omit [Gd] in
theorem eqAt_mem {l m:List Val}: ∀ {os:List (Nat×Ek)},eqAt l m os=some true→ ∀ p∈os,∃ a b,l[p.1]? =some a∧m[p.1]? =some b∧eqv p.2 a b=some true
 |[],_,p,hp=>by cases hp
 |(i,k)::os,h,p,hp=>by
  simp only [eqAt] at h
  split at h
  ·rename_i a b q h1 h2 h3
   split at h
   ·rename_i c hc
    simp only [Option.some.injEq,Bool.and_eq_true] at h
    obtain ⟨rfl,rfl⟩:=h
    cases hp with
    |head=>exact ⟨a,b,h1,h2,hc⟩
    |tail _ hp=>exact eqAt_mem h3 p hp
   ·cases h
  ·cases h
omit hr in
theorem cells_bits {q:Eqs} {k a:Val} {kv av:Value} (hk:VRel ρ k kv) (ha:VRel ρ a av) (e:eqVal q k a=some true) (hl:a.cells.length=k.cells.length) (hc:q.covers k.cells.length=true):Instr.sameBits 10000 av kv=true:=by
 unfold eqVal at e
 split at e
 ·rename_i hh
  have cov: ∀ i,i<k.cells.length→ ∃ x y c,k.cells[i]? =some x∧a.cells[i]? =some y∧eqv c x y=some true:=by
   intro i hi
   unfold Eqs.covers at hc
   rw [List.all_eq_true] at hc
   have:=hc i (by simpa using hi)
   rw [List.any_eq_true] at this
   obtain ⟨p,hp,hpi⟩:=this
   simp only [beq_iff_eq] at hpi
   obtain ⟨x,y,h1,h2,h3⟩:=eqAt_mem e p hp
   rw [hpi] at h1 h2
   exact ⟨x,y,p.2,h1,h2,h3⟩
  cases hag:q.agg
  ·rw [hag] at hh
   have one: ∀ x:Val,x.isAgg=false→x.cells=[x]:=by intro x hx;cases x<;>simp [Val.isAgg,Val.cells] at hx ⊢
   rw [one k hh.1,one a hh.2] at cov
   obtain ⟨x,y,c,h1,h2,h3⟩:=cov 0 (by simp)
   simp at h1 h2;subst h1 h2
   exact eqv_bits hk ha h3 _
  ·rw [hag] at hh
   obtain ⟨l,rfl⟩:=agg_of_isAgg hh.1
   obtain ⟨m,rfl⟩:=agg_of_isAgg hh.2
   simp only [VRel] at hk ha
   obtain ⟨ks,rfl,hk⟩:=hk
   obtain ⟨as,rfl,ha⟩:=ha
   simp only [Val.cells] at hl cov
   simp only [Instr.sameBits,Bool.and_eq_true,beq_iff_eq,List.all_eq_true]
   have q1:=hk.length
   have q2:=ha.length
   simp only [Array.length_toList] at q1 q2
   refine ⟨by omega,fun p hp=> ?_⟩
   obtain ⟨i,hi⟩:=List.mem_iff_getElem?.1 hp
   rw [List.getElem?_zip_eq_some] at hi
   have hlt:i<l.length:=by
    have:=(List.getElem?_eq_some_iff.1 hi.2).1
    simp at this;omega
   obtain ⟨x,y,c,h1,h2,h3⟩:=cov i hlt
   obtain ⟨xv,h4,h5⟩:=hk.get i x h1
   obtain ⟨yv,h6,h7⟩:=ha.get i y h2
   rw [hi.1] at h6;cases h6
   rw [hi.2] at h4;cases h4
   exact eqv_bits h5 h7 h3 _
 ·cases e
theorem s_mapUpdate {t kt et:TypeId} (ht:P.underlying t=some (.map kt et)) {os:List (Nat×Ek)} (hos:leaves P 8 kt=some os) {b:Nat} {k v:Val} {xv kv vv:Value} (hx:VRel ρ (.map b) xv) (hk:VRel ρ k kv) (hv:VRel ρ v vv)
  (hf:h.floor≤b) (hkk:eqVal ⟨aggType P kt,os⟩ k k=some true) {es es':List (Val×Val)} (hg:h.get b=some (.map es)) (e:setKey ⟨aggType P kt,os⟩ k v es=some es'):
  Sound P (do Instr.mapUpdate t xv kv vv;pure .skip) ρ h w .undef (h.put b (some (.map es'))):=by
 simp only [VRel] at hx
 obtain ⟨l,hl,rfl⟩:=hx
 obtain ⟨l',hl',ent,clock,a1,a2,a3⟩:=hr.blk b _ hg
 rw [hl] at hl';cases hl'
 have hfk: ∀ (es es':List (Val×Val)),setKey ⟨aggType P kt,os⟩ k v es=some es'→ ∃ r,findKey ⟨aggType P kt,os⟩ k es=some r:=by
  intro es
  induction es with
  |nil=>intro _ _;exact ⟨none,rfl⟩
  |cons p es ih=>
   intro es' e
   obtain ⟨x,y⟩:=p
   simp only [setKey] at e
   simp only [findKey]
   split at e
   ·exact ⟨_,rfl⟩
   ·split at e
    ·rename_i l hl';exact ih _ hl'
    ·cases e
   ·cases e
 obtain ⟨r,hr'⟩:=hfk es es' e
 obtain ⟨r',g1,g2⟩:=findKey_at (w:=w) hos hk a2 hr'
 have hsz:l.c<w.heap.size:=(Array.getElem?_eq_some_iff.1 a1).1
 have put: ∀ (ent':Array MapEntry) (clock':Nat),VRels ρ (es'.map Prod.fst) (ent'.toList.map (·.key))→VRels ρ (es'.map Prod.snd) (ent'.toList.map (·.val))→
   Post ρ h w ρ (h.put b (some (.map es'))) {w with heap:=w.heap.setIfInBounds l.c (.map ent' clock')}:=fun ent' clock' b1 b2=>by
  refine Post.put hr hg hf hl (fun c hc=>(MapKept.heap_set a1).2 c hc) (by simp) rfl rfl rfl ⟨ent',clock',(MapKept.heap_set a1).1,b1,b2⟩
 cases r' with
 |none=>
  obtain ⟨_,f2⟩:=g2
  rw [f2 v] at e;cases e
  refine ⟨.skip,_,Go.undef,ρ,?_,.inr ⟨rfl,rfl⟩,put (ent.push {key:=kv,val:=vv,born:=clock}) (clock+1) ?_ ?_,rel_undef⟩
  ·simp [Instr.mapUpdate,run_underlying ht,checkKey_run hos hk hkk,MapKept.run_getObj_map a1,g1,MapKept.run_setObj_map _ a1]
  ·simp only [Array.toList_push,List.map_append,List.map_cons,List.map_nil]
   exact a2.append (.cons hk .nil)
  ·simp only [Array.toList_push,List.map_append,List.map_cons,List.map_nil]
   exact a3.append (.cons hv .nil)
 |some p=>
  obtain ⟨n,cv⟩:=p
  obtain ⟨pre,a,y,post,m,e1,e2,e3,e4,e5,_,e7⟩:=g2
  rw [e7 v] at e
  split at e
  ·rename_i hh
   cases e
   have hn:n=pre.length:=by omega
   subst hn
   have e3':ent[pre.length]? =some m:=by simpa using e3
   have ha:VRel ρ a m.key:=by
    rw [e1,List.map_append,List.map_cons] at a2
    refine a2.split (v:=m.key) ?_
    simp [e3]
   have hbits:=cells_bits hk ha e5 hh.1 hh.2
   have hmod: ∀ (f:MapEntry→MapEntry),(ent.modify pre.length f).toList =ent.toList.take pre.length++f m::ent.toList.drop (pre.length+1):=by
    intro f
    have hlt:pre.length<ent.size:=(Array.getElem?_eq_some_iff.1 e3').1
    have hm:ent[pre.length]=m:=(Array.getElem?_eq_some_iff.1 e3').2
    rw [Array.toList_modify,List.modify_eq_take_cons_drop (by simpa using hlt)]
    simp [hm]
   refine ⟨.skip,_,Go.undef,ρ,?_,.inr ⟨rfl,rfl⟩,put (ent.modify pre.length fun e=>{e with key:=kv,val:=vv}) clock ?_ ?_,rel_undef⟩
   ·simp [Instr.mapUpdate,run_underlying ht,checkKey_run hos hk hkk,MapKept.run_getObj_map a1,g1,MapKept.run_setObj_map _ a1,e3',Instr.keyThatStays,hbits]
   ·rw [hmod]
    rw [e1] at a2
    have t1:=a2.take pre.length
    have t2:=a2.drop (pre.length+1)
    simp only [List.map_append,List.map_cons,List.map_take,List.map_drop] at t1 t2 ⊢
    refine VRels.append ?_ (.cons hk ?_)
    ·simpa [List.take_append_of_le_length,List.take_of_length_le] using t1
    ·rw [List.drop_append] at t2
     simpa [List.drop_eq_nil_of_le,Nat.add_sub_cancel_left] using t2
   ·rw [hmod]
    rw [e1] at a3
    have t1:=a3.take pre.length
    have t2:=a3.drop (pre.length+1)
    simp only [List.map_append,List.map_cons,List.map_take,List.map_drop] at t1 t2 ⊢
    refine VRels.append ?_ (.cons hv ?_)
    ·simpa [List.take_append_of_le_length,List.take_of_length_le] using t1
    ·rw [List.drop_append] at t2
     simpa [List.drop_eq_nil_of_le,Nat.add_sub_cancel_left] using t2
  ·cases e
theorem s_clear_map {t:TypeId} {d:TypeDesc} (ht:P.underlying t=some d) {b:Nat} {xv:Value} (hx:VRel ρ (.map b) xv) (hf:h.floor≤b) {es:List (Val×Val)} (hg:h.get b=some (.map es)) (ty:TypeId):
  Sound P (do pure (.value (←Builtin.clear_ #[t] ty #[xv]))) ρ h w (.tup []) (h.put b (some (.map []))):=by
 simp only [VRel] at hx
 obtain ⟨l,hl,rfl⟩:=hx
 obtain ⟨l',hl',ent,clock,a1,a2,a3⟩:=hr.blk b _ hg
 rw [hl] at hl';cases hl'
 refine sound_of (cv:=.tuple #[]) (w':={w with heap:=w.heap.setIfInBounds l.c (.map #[] clock)}) ?_ (Post.put hr hg hf hl (fun c hc=>(MapKept.heap_set a1).2 c hc) (by simp) rfl rfl rfl ⟨#[],clock,(MapKept.heap_set a1).1,.nil,.nil⟩) (by simp only [VRel];exact ⟨_,rfl,.nil⟩)
 simp [Builtin.clear_,run_underlying ht,MapKept.run_getObj_map a1,MapKept.run_setObj_map _ a1]
end
end Go.V
end
section
namespace Go.V
variable [Gd]
theorem bytes_rel {ρ:Ren}: ∀ l:List UInt8,VRels ρ (l.map toByte) (l.map fun b=>.int .u8 b.toNat)
 |[]=>.nil
 |_::l=>.cons (by simp only [toByte,VRel]) (bytes_rel l)
theorem bytesOf_rel {ρ:Ren}: ∀ (c:List Val) (m:List Value) (s:List UInt8),VRels ρ c m→bytesOf c=some s→ ∃ xs:List Int,m=xs.map (Value.int .u8)∧xs.map (fun n=>UInt8.ofNat n.toNat)=s
 |[],m,s,h,e=>by
  simp only [VRels] at h
  simp only [bytesOf,Option.some.injEq] at e
  subst h e
  exact ⟨[],rfl,rfl⟩
 |v::r,m,s,h,e=>by
  simp only [VRels] at h
  obtain ⟨y,m',rfl,h1,h2⟩:=h
  simp only [bytesOf] at e
  split at e
  ·rename_i b l hb hl
   cases e
   obtain ⟨xs,rfl,h4⟩:=bytesOf_rel r m' l h2 hl
   unfold ofByte at hb
   split at hb
   ·rename_i n
    split at hb
    ·cases hb
     simp only [VRel] at h1
     subst h1
     exact ⟨n::xs,rfl,by rw [List.map_cons,h4]⟩
    ·cases hb
   ·cases hb
  ·cases e
section
variable {P:Program} {ρ:Ren} {h h':Heap} {w:World} (hr:HRel ρ h w)
include hr
theorem s_s2b {s t e:TypeId} (hs:P.underlying s=some .string) (ht:P.underlying t=some (.slice e)) (he:P.underlying e=some (.int .u8)) (hty:Gd.ty e) {x:Val} {xv:Value} (hx:VRel ρ x xv) {l:List UInt8} (e0:x=.str l):
  Sound P (do pure (.value (←convert s t xv))) ρ h w (.slice h.next 0 l.length l.length 1) (h.new (.cells (l.map toByte))).2:=by
 subst e0
 simp only [VRel] at hx
 subst hx
 have hrun:=Lib.run_convert_string_bytes (P:=P) w s t e ⟨⟨l⟩⟩ hs ht he
 have hle:=grownCap_ge w l.length 0 e
 let arr:=Lib.bytesCells w e ⟨⟨l⟩⟩
 have harr:arr.toList=(l.map fun b=>Value.int .u8 b.toNat)++List.replicate (grownCap w l.length 0 e - l.length) (.int .u8 0):=by
  show (Lib.bytesCells w e ⟨⟨l⟩⟩).toList =_
  simp [Lib.bytesCells,ByteArray.size]
 have hsz:arr.size=grownCap w l.length 0 e:=by
  rw [←Array.length_toList,harr];simp;omega
 have hheap:(Lib.bytesWorld w e ⟨⟨l⟩⟩).heap =w.heap.push (.cells arr e (arr.size,arr.size+1)):=by
  apply Array.ext_getElem?
  intro i
  rw [Array.getElem?_push]
  by_cases h1:i=w.heap.size
  ·subst h1
   rw [if_pos rfl,Lib.bytesWorld_at_new]
  ·rw [if_neg h1]
   rcases Nat.lt_or_ge i w.heap.size with h2|h2
   ·exact Lib.bytesWorld_at_old w e _ i h2
   ·rw [Array.getElem?_eq_none h2,Array.getElem?_eq_none (by rw [Lib.bytesWorld_size];omega)]
 refine sound_of hrun (Post.new hr (.cells (l.map toByte)) _ _ ⟨w.heap.size,0,arr.size,true,none⟩ hheap rfl rfl rfl rfl rfl ?_) ?_
 ·refine ⟨arr,e,arr.size,arr.size+1,(by rw [hheap];simp),hty,(fun j _ hj=>by simp only [List.length_map] at hj;omega),?_,?_,?_,List.replicate (grownCap w l.length 0 e - l.length) (.int .u8 0),?_,trivial⟩
  ·simp;omega
  ·simp
  ·rw [harr,List.drop_zero,List.length_map,List.take_left' (by simp)]
   exact bytes_rel l
  ·intro ρ'
   simp only [List.length_map,Nat.zero_add]
   rw [harr,List.drop_left' (by simp),List.take_of_length_le (by simp;omega)]
   exact VRels.replicate (by simp only [VRel]) _
 ·simp only [VRel]
  refine ⟨_,grownCap w l.length 0 e,rfl,Nat.le_refl _,hle,(fun hz=>by cases hz),.inr ⟨⟨w.heap.size,0,arr.size,true,none⟩,by simp [Ren.upd,Heap.new],rfl,fun _=> ?_⟩⟩
  simp only [hsz];omega
theorem s_b2s {s t e:TypeId} {fr:List Val} {y:Opd} {m:TypeId→Val→String→Option (FuncId×Val)} {c:CallT} (hs:P.underlying s=some (.slice e)) (he:P.underlying e=some (.int .u8)) (ht:P.underlying t=some .string) {v:Val} {xv:Value} (hx:VRel ρ (ev fr y) xv) (e0:step m c fr h (.b2s y)=some (v,h')):
  Sound P (do pure (.value (←convert s t xv))) ρ h w v h':=by
 simp only [step] at e0
 split at e0
 ·rename_i e1
  cases e0
  rw [e1] at hx
  simp only [VRel] at hx
  subst hx
  exact Sound.pure hr (by simp [run_convert_bytes_nil (P:=P) w s e hs he 0 0 t ht];rfl) (by simp only [VRel];rfl)
 ·rename_i b o len cap ls e1
  split at e0
  ·rename_i l hl
   split at e0
   ·rename_i q hq
    cases e0
    rw [e1] at hx
    simp only [VRel] at hx
    obtain ⟨a,cap',rfl,c1,c2,c3,c4⟩:=hx
    by_cases h0:len=0
    ·subst h0
     rw [if_pos rfl] at hl
     cases hl
     simp only [bytesOf,Option.some.injEq] at hq
     subst hq
     refine Sound.pure hr (cv:=.string ⟨⟨[]⟩⟩) ?_ (by simp only [VRel])
     have:=run_convert_bytes_string (P:=P) w s t e (some a) 0 cap' hs he ht
     rw [run_bytesToString (P:=P) w a 0 cap' [] (by simp [loadCells,loadCellsFrom])] at this
     simp [this];rfl
    ·rw [if_neg h0] at hl
     rcases c4 with c4|⟨L,hL,ha,_⟩
     ·omega
     ·obtain ⟨ms,hm,hcell⟩:=hr.load hl hL
      have hlen:ms.length=len:=by
       rw [hm.length]
       obtain ⟨cs,_,h2,rfl⟩:=Heap.load_some hl
       simp;omega
      obtain ⟨xs,rfl,hxs⟩:=bytesOf_rel _ _ _ hm hq
      have hrun:=run_loadCells_of (P:=P) hcell
      rw [hlen,←ha] at hrun
      refine Sound.pure hr (cv:=.string ⟨⟨q⟩⟩) ?_ (by simp only [VRel])
      have:=run_convert_bytes_string (P:=P) w s t e (some a) len cap' hs he ht
      rw [run_bytesToString (P:=P) w a len cap' xs hrun,foldl_push_bytes,hxs] at this
      simp [this]
   ·cases e0
  ·cases e0
 ·rename_i e1
  rw [e1] at hx
  simp only [VRel] at hx
 ·cases e0
end
end Go.V
end
