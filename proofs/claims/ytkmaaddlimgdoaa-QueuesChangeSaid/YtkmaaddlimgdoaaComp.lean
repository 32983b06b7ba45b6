/-
  The model's code laid into the code of the abstract machine.
-/
import Derived.Test.YtkmaaddlimgdoaaCore
set_option linter.unusedVariables false
set_option linter.unusedSimpArgs false
set_option linter.unusedSectionVars false
namespace Go.V

mutual
/-- A constant's value. -/
def cVal : Value → Option Val
  | .bool b => some (.bool b)
  | .int k n => some (.int k n)
  | .string s => some (.str s.data.toList)
  | .pointer none => some .nilp
  | .slice none n c => if n = 0 ∧ c = 0 then some .nils else none
  | .map none => some .nilm
  | .nilFunc => some .nilf
  | .nilIface => some .nili
  | .agg a => match cVals a.toList with
    | some l => some (.agg l)
    | none => none
  | .tuple a => match a.toList with
    | [] => some .undef
    | _ => none
  | _ => none
def cVals : List Value → Option (List Val)
  | [] => some []
  | v :: r => match cVal v, cVals r with
    | some x, some l => some (x :: l)
    | _, _ => none
end

def cOpd : Operand → Option Opd
  | .tmp t => some (.t t)
  | .const v => (cVal v).map .c
  | .func f => some (.c (.func (.func f) [] []))
  | .global _ => none

def cOpds : List Operand → Option (List Opd)
  | [] => some []
  | x :: r => match cOpd x, cOpds r with
    | some a, some l => some (a :: l)
    | _, _ => none

def cOpt : Option Operand → Option (Option Opd)
  | none => some none
  | some x => (cOpd x).map some

/-- A type's zero value, as cells. -/
def cZero (P : Program) (t : TypeId) : Option (List Val) :=
  match (P.info? t).bind (·.zero) with
  | some v => (cVal v).map Val.cells
  | none => none

def aggType (P : Program) (t : TypeId) : Bool :=
  match P.underlying t with
  | some (.struct _) | some (.array _ _) => true
  | _ => false

def shift (k : Nat) (os : List (Nat × Ek)) : List (Nat × Ek) := os.map fun p => (p.1 + k, p.2)

/-- The places of the cells by which values of a struct are compared. -/
def fieldLeaves (P : Program) (leaf : TypeId → Option (List (Nat × Ek))) : List Field → Option (List (Nat × Ek))
  | [] => some []
  | f :: r => if f.name = "_" then none else match P.underlying f.type, leaf f.type, fieldLeaves P leaf r with
    | some _, some os, some rs => if os.all (fun p => decide (p.1 < P.cellsOf f.type)) = true then some (shift f.offset os ++ rs) else none
    | _, _, _ => none

def itemLeaves (os : List (Nat × Ek)) (size : Nat) : List Nat → List (Nat × Ek)
  | [] => []
  | i :: r => shift (i * size) os ++ itemLeaves os size r

/-- The places of the cells by which values of a type are compared: numbers, bools, strings, and structs and arrays of these. -/
def leaves (P : Program) : Nat → TypeId → Option (List (Nat × Ek))
  | 0, _ => none
  | d + 1, t =>
    match P.underlying t with
    | some (.int _) => some [(0, .i)]
    | some .bool => some [(0, .b)]
    | some .string => some [(0, .s)]
    | some (.struct fs) => if P.stoodInHeld t = true then none else fieldLeaves P (leaves P d) fs.toList
    | some (.array n e) => match P.underlying e, leaves P d e with
      | some _, some os => if os.all (fun p => decide (p.1 < P.cellsOf e)) = true then some (itemLeaves os (P.cellsOf e) (List.range n)) else none
      | _, _ => none
    | _ => none

def cNil (P : Program) (t : TypeId) : Option Nk :=
  match P.underlying t with
  | some (.pointer _) => some .p
  | some (.slice _) => some .s
  | some (.func _ _ _) => some .f
  | some (.map _ _) => some .m
  | some (.interface _) => some .i
  | _ => none

def isNilConst : Operand → Bool
  | .const (.pointer none) | .const (.slice none _ _) | .const (.map none) | .const .nilFunc | .const .nilIface => true
  | _ => false

def cParts (place : Nat → Option (Nat × Nat)) : List (Nat × Operand) → Option (List (Nat × Nat × Opd))
  | [] => some []
  | (i, x) :: r => match place i, cOpd x, cParts place r with
    | some (o, n), some y, some l => some ((o, n, y) :: l)
    | _, _, _ => none

def cOp (P : Program) (o : Oper) : Option VOp :=
  match o.op with
  | .move x | .assign x => (cOpd x).map .mov
  | .pick c a b => match cOpd c, cOpd a, cOpd b with
    | some c, some a, some b => some (.pick c a b)
    | _, _, _ => none
  | .alloc e => (cZero P e).map .alloc
  | .box e x => match cOpd x with
    | some x => some (.box x (P.cellsOf e))
    | none => none
  | .build t parts => match cZero P t, P.underlying t with
    | some z, some (.struct fs) => if fs.toList.all (fun f => (P.info? f.type).isSome) then (cParts (fun i => (fs[i]?).map fun f => (f.offset, P.cellsOf f.type)) parts.toList).map (.build z) else none
    | some z, some (.array _ e) => if (P.info? e).isSome then (cParts (fun i => some (i * P.cellsOf e, P.cellsOf e)) parts.toList).map (.build z) else none
    | _, _ => none
  | .buildSlice t len parts => match P.underlying t with
    | some (.slice e) => match cZero P e with
      | some z => if z.length = P.cellsOf e ∧ len * z.length ≤ 2 ^ 24 then (cParts (fun i => some (i * P.cellsOf e, P.cellsOf e)) parts.toList).map (.bslice len (repeatL z len)) else none
      | none => none
    | _ => none
  | .load t a => match P.underlying t, cOpd a with
    | some _, some a => some (.load (aggType P t) (P.cellsOf t) a)
    | _, _ => none
  | .store t a v => match P.info? t, cOpd a, cOpd v with
    | some _, some a, some v => some (.store (P.cellsOf t) a v)
    | _, _, _ => none
  | .nilCheck x => (cOpd x).map .nilCheck
  | .binOp op t x y _ => match cOpd x, cOpd y with
    | some a, some b =>
      if op = .eql ∨ op = .neq then
        (if isNilConst x || isNilConst y then (cNil P t).map fun k => .eqnil (op = .neq) k a b
        else if P.eqGuardType P.depth t then none else (leaves P 8 t).map fun os => .eql (op = .neq) ⟨aggType P t, os⟩ a b)
      else some (.arith op a b)
    | _, _ => none
  | .unOp op _ x => (cOpd x).map (.un op)
  | .convert s t x => match P.underlying s, P.underlying t, cOpd x with
    | some (.int _), some (.int k), some x => some (.convInt k x)
    | some .string, some .string, some x => some (.convSame x)
    | _, _, _ => none
  | .makeInterface t x => match P.underlying t with
    | some (.interface _) => none
    | some _ => (cOpd x).map (.mkiface t)
    | none => none
  | .makeFunc fn first captured => match cOpds first.toList, cOpds captured.toList with
    | some a, some b => some (.mkfunc fn a b)
    | _, _ => none
  | .makeSlice t l c => match P.underlying t, cOpd l, cOpd c with
    | some (.slice e), some l, some c => match cZero P e with
      | some z => if P.cellsOf e = z.length then some (.mkslice (P.cellsOf e) (P.bytesOf e) z l c) else none
      | none => none
    | _, _, _ => none
  | .slice t x lo hi mx => match P.underlying t, cOpd x, cOpt lo, cOpt hi, cOpt mx with
    | some .string, some x, some lo, some hi, some none => some (.sliceStr x lo hi)
    | some (.slice e), some x, some lo, some hi, some mx => if (P.info? e).isSome then some (.slice (P.cellsOf e) x lo hi mx) else none
    | some (.array n e), some x, some lo, some hi, some mx => if (P.info? e).isSome then some (.sliceArr n (P.cellsOf e) x lo hi mx) else none
    | _, _, _, _, _ => none
  | .fieldAddr t x f => match P.underlying t, cOpd x with
    | some (.struct fs), some x => match fs[f]? with
      | some f => if (P.info? f.type).isSome ∧ P.cellsOf f.type ≠ 0 then some (.faddr f.offset x) else none
      | none => none
    | _, _ => none
  | .field t x f => match P.underlying t, cOpd x with
    | some (.struct fs), some x => match fs[f]? with
      | some f => if (P.underlying f.type).isSome then some (.field (aggType P f.type) f.offset (P.cellsOf f.type) x) else none
      | none => none
    | _, _ => none
  | .indexAddr t x i => match P.underlying t, cOpd x, cOpd i with
    | some (.slice e), some x, some i => if (P.info? e).isSome then some (.iaddr (P.cellsOf e) x i) else none
    | some (.array n e), some x, some i => if (P.info? e).isSome then some (.iaddrArr n (P.cellsOf e) x i) else none
    | _, _, _ => none
  | .index t x i => match P.underlying t, cOpd x, cOpd i with
    | some .string, some x, some i => some (.index x i)
    | some (.array n e), some x, some i => if (P.underlying e).isSome then some (.indexArr n (aggType P e) (P.cellsOf e) x i) else none
    | _, _, _ => none
  | .extract x i => (cOpd x).map (.ext · i)
  | .call c => match cOpds c.args.toList with
    | none => none
    | some args => match c.callee with
      | .value (.func f) => match P.funcs[f]? with
        | some fn => if fn.name == "runtime.NumGoroutine" then none else if fn.body.isSome then some (.call f args) else none
        | none => none
      | .value x => (cOpd x).map (.callv · args)
      | .invoke r name => (cOpd r).map (.invoke · name args)
      | .builtin .len => match c.argTypes.toList, args with
        | [t], [x] => match P.underlying t with
          | some .string => some (.lenStr x)
          | some (.slice _) => some (.lenOf x)
          | some (.array n _) => some (.lenConst n)
          | some (.pointer a) => match P.underlying a with
            | some (.array n _) => some (.lenConst n)
            | _ => none
          | _ => none
        | _, _ => none
      | .builtin .cap => match c.argTypes.toList, args with
        | [t], [x] => match P.underlying t with
          | some (.slice _) => some (.capOf x)
          | some (.array n _) => some (.lenConst n)
          | _ => none
        | _, _ => none
      | .builtin .append => match c.argTypes.toList, args with
        | [t, u], [x, y] => match P.underlying t, P.underlying u with
          | some (.slice e), some d => match cZero P e with
            | some z => if z.length = P.cellsOf e then (match d with
              | .int _ => some (.appendZ (P.cellsOf e) (P.bytesOf e) z x y)
              | .slice _ | .string => some (.append (P.cellsOf e) (P.bytesOf e) x y)
              | _ => none) else none
            | none => none
          | _, _ => none
        | _, _ => none
      | .builtin .copy => match c.argTypes.toList, args with
        | [t, _], [x, y] => match P.underlying t with
          | some (.slice e) => if (P.info? e).isSome then some (.copy (P.cellsOf e) x y) else none
          | _ => none
        | _, _ => none
      | .builtin .min => some (.minmax false args)
      | .builtin .max => some (.minmax true args)
      | .builtin .clear => match c.argTypes.toList, args with
        | [t], [x] => match P.underlying t with
          | some (.slice e) => (cZero P e).map (.clear · x)
          | _ => none
        | _, _ => none
      | _ => none
  | .panic _ => some .bad
  | _ => none

/-- The operations that touch the heap, by their numbers. -/
def touching : List VOp → Nat → List Nat
  | [], _ => []
  | o :: r, i => if o.kind = 0 then touching r (i + 1) else i :: touching r (i + 1)

def cOps (P : Program) : List Oper → Option (List VOp)
  | [] => some []
  | o :: r => match cOp P o, cOps P r with
    | some a, some l => some (a :: l)
    | _, _ => none

def cGuard (ops : Array Oper) : Option (Nat × Bool) → Option (Option (Nat × Bool))
  | none => some none
  | some (j, want) => match (ops[j]?).bind (·.dst) with
    | some t => some (some (t, want))
    | none => none

/-- The operations of a region. 'b': of each the set of those that run before it. -/
def cOpers (ops : Array Oper) (b : Array Nat) (ts : List Nat) : List Oper → List VOp → Nat → Option (List VOper)
  | [], [], _ => some []
  | o :: r, v :: rv, i =>
    let bi := b.getD i 0
    match cGuard ops o.guard, cOpers ops b ts r rv (i + 1) with
    | some g, some l => some ({ dst := o.dst, op := v, guard := g, full := ts.all (fun j => j == i || (if j < i then bi.testBit j else (b.getD j 0).testBit i)), hide := ts.filter fun j => j < i && !bi.testBit j } :: l)
    | _, _ => none
  | _, _, _ => none

/-- The places that an operation's operands name. -/
def Opd.tmp : Opd → List Nat
  | .t n => [n]
  | .c _ => []

def optTmp : Option Opd → List Nat
  | some x => x.tmp
  | none => []

def VOp.tmps : VOp → List Nat
  | .mov x | .box x _ | .load _ _ x | .nilCheck x | .un _ x | .convInt _ x | .convSame x | .b2s x | .s2b x | .mkiface _ x | .faddr _ x | .field _ _ _ x | .ext x _ | .lenOf x | .lenStr x | .lenMap x | .capOf x | .clear _ x => x.tmp
  | .alloc _ | .lenConst _ | .mkmap | .bad => []
  | .pick a b c | .mapUpdate _ a b c => a.tmp ++ b.tmp ++ c.tmp
  | .build _ ps | .bslice _ _ ps => ps.flatMap fun p => p.2.2.tmp
  | .store _ a b | .arith _ a b | .eql _ _ a b | .eqnil _ _ a b | .mkslice _ _ _ a b | .iaddr _ a b | .iaddrArr _ _ a b | .index a b | .indexArr _ _ _ a b | .append _ _ a b | .appendZ _ _ _ a b | .copy _ a b | .lookup _ _ _ a b => a.tmp ++ b.tmp
  | .mkfunc _ a b => a.flatMap Opd.tmp ++ b.flatMap Opd.tmp
  | .sliceStr x l h => x.tmp ++ optTmp l ++ optTmp h
  | .slice _ x l h m | .sliceArr _ _ x l h m => x.tmp ++ optTmp l ++ optTmp h ++ optTmp m
  | .call _ l | .outer _ l | .minmax _ l => l.flatMap Opd.tmp
  | .callv x l | .invoke x _ l => x.tmp ++ l.flatMap Opd.tmp

def operandTmps (o : Oper) : List Nat := o.op.operands.toList.flatMap fun | .tmp t => [t] | _ => []

def namesOf (o : Oper) (v : VOper) : List Nat := v.dst.toList ++ operandTmps o ++ v.op.tmps ++ (match v.guard with | some (t, _) => [t] | none => [])

def writersOf : List VOper → Nat → List (Nat × Nat)
  | [], _ => []
  | v :: r, i => match v.dst with
    | some d => (d, i) :: writersOf r (i + 1)
    | none => writersOf r (i + 1)

/-- Whoever names a place, and whoever writes it, run in a known order. -/
def tmpsOk (b : Array Nat) (ws : List (Nat × Nat)) : List Oper → List VOper → Nat → Bool
  | o :: r, v :: rv, j => ((namesOf o v).all fun t => ws.all fun p => p.1 != t || p.2 == j || (b.getD (max p.2 j) 0).testBit (min p.2 j)) && tmpsOk b ws r rv (j + 1)
  | [], [], _ => true
  | _, _, _ => false

def edgesOk : List Oper → Nat → Bool
  | [], _ => true
  | o :: r, i => (o.after.toList.all fun e => !Region.binds .any e || decide (e.on < i)) && edgesOk r (i + 1)

def notSelect : Op → Bool
  | .select .. => false
  | _ => true

def cRegion (P : Program) (ops : Array Oper) (draw : Bool) : Option VC :=
  match cOps P ops.toList with
  | none => none
  | some vs =>
    let b := Region.before ops
    let ts := touching vs 0
    if draw then
      match cOpers ops b ts ops.toList vs 0 with
      | some l => if P.follows .mixedOrders && tmpsOk b (writersOf l 0) ops.toList l 0 && edgesOk ops.toList 0 && ops.toList.all (fun o => notSelect o.op) then some (.draw l) else none
      | none => none
    else (cOpers ops b [] ops.toList vs 0).map .region

def cCode (P : Program) : Code → Option VC
  | .skip => some .skip
  | .region _ ops draw => cRegion P ops draw
  | .seq a b => match cCode P a, cCode P b with
    | some x, some y => some (.seq x y)
    | _, _ => none
  | .cond c a b => match cOpd c, cCode P a, cCode P b with
    | some c, some x, some y => some (.cond c x y)
    | _, _, _ => none
  | .block id a => (cCode P a).map (.block id)
  | .loop a => (cCode P a).map .loop
  | .exit id => some (.exit id)
  | .ret => some .ret
  | .scope a => cCode P a
  | .label _ => some .skip
  | _ => none

def cResults (P : Program) : List ResultVar → List (Nat × Option (Bool × Nat))
  | [] => []
  | .tmp t :: r => (t, none) :: cResults P r
  | .cell a t :: r => (a, some (aggType P t, P.cellsOf t)) :: cResults P r

def cFn (P : Program) (fn : Func) : Option VFn :=
  match fn.body with
  | none => none
  | some c => if (fn.results.toList.all fun r => match r with | .tmp _ => true | .cell _ t => (P.underlying t).isSome) = true then (cCode P c).map fun b => { ntmps := fn.ntmps, results := cResults P fn.results.toList, body := b } else none

end Go.V
