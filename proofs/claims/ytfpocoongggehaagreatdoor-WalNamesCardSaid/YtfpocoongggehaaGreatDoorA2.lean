/- From the model's code to the abstract machine's: 'lowFunc'. Of no program. -/
import Derived.Test.YtfpocoongggehaaGreatDoorA1
set_option linter.all false
namespace Go.Abs
open Go

def tyInfo (P : Program) (t : TypeId) : Option (Nat × Nat × List Value) :=
  match P.info? t with
  | some i => (match i.zero with
    | some z => some (i.size, i.bytes, z.cells.toList)
    | none => none)
  | none => none

def tySize (P : Program) (t : TypeId) : Option Nat :=
  match P.info? t with
  | some i => some i.size
  | none => none

def tyAgg (P : Program) (t : TypeId) : Option Bool :=
  match P.underlying t with
  | some (.struct _) | some (.array _ _) => some true
  | some _ => some false
  | none => none

def structParts (P : Program) (fs : Array Field) : List (Nat × Operand) → Option (List Part)
  | [] => some []
  | (i, x) :: r => match fs[i]? with
    | some f => (match tySize P f.type, structParts P fs r with
      | some n, some ps => some ((f.offset, n, x) :: ps)
      | _, _ => none)
    | none => none

def seqParts (sz : Nat) (l : List (Nat × Operand)) : List Part := l.map fun p => (p.1 * sz, sz, p.2)

def rowParts (sz len : Nat) (l : List (Nat × Operand)) : Option (List Part) :=
  bif l.all (fun p => Nat.blt p.1 len) then some (seqParts sz l) else none

def invRow (P : Program) (name : String) (t : TypeId) : Option (TypeId × FuncId) :=
  match P.info? t, P.underlying t with
  | some i, some (.pointer _) => (match i.methods.find? (fun (m : Method) => m.name == name) with
    | some m => (match m.path.toList, m.func with
      | [], some (f, true) => some (t, f)
      | _, _ => none)
    | none => none)
  | _, _ => none

def invTbl (P : Program) (name : String) (n : Nat) : List (TypeId × FuncId) := (List.range n).filterMap (invRow P name)

/-- An operation without its place. -/
def bare (o : Oper) : Oper := { dst := none, op := o.op, type := o.type, pos := "", after := #[], guard := none }

def lowBuiltin (P : Program) (b : Builtin) (o : Oper) (args : List Operand) (tys : List TypeId) : Option AOp :=
  match b, args, tys with
  | .len, [x], [t] => (match P.underlying t with
    | some .string => some (.prim (bare o))
    | some (.slice _) => some (.len false x)
    | some (.map _ _) => some (.len true x)
    | some (.array n _) => some (.mv (.const (.int .i64 n)))
    | _ => none)
  | .min, _, _ => some (.prim (bare o))
  | .max, _, _ => some (.prim (bare o))
  | .append, [s, x], [t, u] => (match P.underlying t, P.underlying u with
    | some (.slice e), some (.slice _) | some (.slice e), some .string => (match tyInfo P e with
      | some (sz, by_, z) => bif Nat.ble 1 sz && Nat.ble sz by_ && Nat.beq z.length sz then some (.app sz by_ s x) else none
      | none => none)
    | _, _ => none)
  | .copy, [d, s], [t, _] => (match P.underlying t with
    | some (.slice e) => (match tySize P e with
      | some sz => some (.copy sz d s)
      | none => none)
    | _ => none)
  | .delete, [m, k], [t, _] => (match P.underlying t with
    | some (.map kt _) => (match P.underlying kt with
      | some _ => some (.mdel kt m k)
      | none => none)
    | _ => none)
  | .clear, [x], [t] => (match P.underlying t with
    | some (.map ..) => some (.clear 0 [] x)
    | some (.slice e) => (match tyInfo P e with
      | some (sz, _, z) => some (.clear sz z x)
      | none => none)
    | _ => none)
  | _, _, _ => none

/-- A comparison with nil. -/
def lowCmp (k : Nat) (op : BinOp) (x y : Operand) : Option AOp :=
  match op, x, y with
  | .eql, _, .const _ | .eql, .const _, _ => some (.cmpref k false x y)
  | .neq, _, .const _ | .neq, .const _, _ => some (.cmpref k true x y)
  | _, _, _ => none

/-- An operation. -/
def lowOp (P : Program) (o : Oper) : Option AOp :=
  match o.op with
  | .move x | .assign x => some (.mv x)
  | .pick c a b => some (.pick c a b)
  | .alloc e => (match tyInfo P e with
    | some (_, _, z) => some (.alloc z)
    | none => none)
  | .box _ x => some (.box x)
  | .build t ps => (match P.info? t, P.underlying t with
    | some i, some (.struct fs) => (match i.zero, structParts P fs ps.toList with
      | some z, some l => bif fs.toList.all (fun (f : Field) => (tySize P f.type).isSome) then some (.build z.cells.toList l) else none
      | _, _ => none)
    | some i, some (.array _ e) => (match i.zero, tySize P e with
      | some z, some n => some (.build z.cells.toList (seqParts n ps.toList))
      | _, _ => none)
    | _, _ => none)
  | .buildSlice t len ps => (match P.underlying t with
    | some (.slice e) => (match tyInfo P e with
      | some (sz, _, z) => (match rowParts sz len ps.toList with
        | some l => bif Nat.ble 1 sz then some (.bslice sz len z l) else none
        | none => none)
      | none => none)
    | _ => none)
  | .load t x => (match tyAgg P t, tySize P t with
    | some true, some n => some (.ldn n x)
    | some false, some _ => some (.ld1 x)
    | _, _ => none)
  | .store t x v => (match tySize P t with
    | some n => some (.st n x v)
    | none => none)
  | .nilCheck x => some (.nilck x)
  | .binOp op t x y _ => (match P.underlying t with
    | some (.pointer _) => lowCmp 0 op x y
    | some (.slice _) => lowCmp 1 op x y
    | some (.map ..) => lowCmp 2 op x y
    | some (.func ..) => lowCmp 3 op x y
    | some (.interface _) => lowCmp 4 op x y
    | some _ => some (.prim (bare o))
    | none => none)
  | .unOp .. => some (.prim (bare o))
  | .convert s d x => (match P.underlying s, P.underlying d with
    | some .string, some (.slice e) => (match P.underlying e with
      | some (.int .u8) => some (.cvsb x)
      | _ => none)
    | some (.slice e), some .string => (match P.underlying e with
      | some (.int .u8) => some (.cvbs x)
      | _ => none)
    | some .string, some .string => some (.prim (bare o))
    | some (.int _), some (.int _) => some (.prim (bare o))
    | _, _ => none)
  | .makeInterface t x => (match P.underlying t with
    | some (.interface _) => none
    | some _ => some (.mkiface t x)
    | none => none)
  | .makeFunc (.func f) first captured => some (.mkfunc f first.toList captured.toList)
  | .makeMap t r => (match P.underlying t with
    | some (.map ..) => some (.mkmap r)
    | _ => none)
  | .makeSlice t l c => (match P.underlying t with
    | some (.slice e) => (match tyInfo P e with
      | some (sz, by_, z) => bif Nat.ble 1 sz then some (.mkslice sz by_ z l c) else none
      | none => none)
    | _ => none)
  | .slice t x lo hi mx => (match P.underlying t with
    | some (.array n e) => (match tySize P e with
      | some sz => bif Nat.ble 1 sz then some (.slca n sz x lo hi mx) else none
      | none => none)
    | some .string => (match mx with
      | none => some (.slcs x lo hi)
      | some _ => none)
    | some (.slice e) => (match tySize P e with
      | some sz => bif mx.isNone || hi.isSome then some (.slcl sz x lo hi mx) else none
      | none => none)
    | some (.pointer a) => (match P.underlying a with
      | some (.array n e) => (match tySize P e with
        | some sz => bif Nat.ble 1 sz then some (.slca n sz x lo hi mx) else none
        | none => none)
      | _ => none)
    | _ => none)
  | .fieldAddr s x f => (match P.underlying s with
    | some (.struct fs) => (match fs[f]? with
      | some fd => (match tySize P fd.type with
        | some n => bif Nat.beq n 0 then none else some (.fadr fd.offset x)
        | none => none)
      | none => none)
    | _ => none)
  | .field t x f => (match P.underlying t with
    | some (.struct fs) => (match fs[f]? with
      | some fd => (match tySize P fd.type, tyAgg P fd.type with
        | some n, some a => some (.fld fd.offset n a x)
        | _, _ => none)
      | none => none)
    | _ => none)
  | .indexAddr t x i => (match P.underlying t with
    | some (.array n e) => (match tySize P e with
      | some sz => some (.iadra n sz x i)
      | none => none)
    | some (.slice e) => (match tySize P e with
      | some sz => some (.iadrs sz x i)
      | none => none)
    | _ => none)
  | .index t x i => (match P.underlying t with
    | some .string => some (.prim (bare o))
    | some (.array n e) => (match tySize P e, tyAgg P e with
      | some sz, some a => some (.idxa n sz a x i)
      | _, _ => none)
    | _ => none)
  | .lookup t x k ok => (match P.underlying t with
    | some (.map kt e) => (match P.underlying kt, P.info? e with
      | some _, some i => (match i.zero with
        | some z => some (.look kt z x k ok)
        | none => none)
      | _, _ => none)
    | _ => none)
  | .mapUpdate t m k v => (match P.underlying t with
    | some (.map kt _) => (match P.underlying kt with
      | some _ => some (.mput kt m k v)
      | none => none)
    | _ => none)
  | .extract x i => some (.ext x i)
  | .call c => (match c.callee with
    | .value (.func f) => some (.call f c.args.toList)
    | .value x => some (.callv x c.args.toList)
    | .invoke r name => some (.inv r (invTbl P name P.types.size) c.args.toList)
    | .builtin b => lowBuiltin P b o c.args.toList c.argTypes.toList)
  | _ => none

def lowO (P : Program) (nt : Nat) (ops : Array Oper) (o : Oper) : Option LOp :=
  match (match o.dst with | some d => (bif Nat.blt d nt then lowOp P o else none) | none => lowOp P o) with
  | none => none
  | some a => (match o.guard with
    | none => some { dst := o.dst, guard := none, op := a }
    | some (j, want) => (match (ops[j]?).bind (·.dst) with
      | some t => some { dst := o.dst, guard := some (t, want), op := a }
      | none => none))

def lowOps (P : Program) (nt : Nat) (ops : Array Oper) : List Oper → Option (List LOp)
  | [] => some []
  | o :: r => match lowO P nt ops o, lowOps P nt ops r with
    | some a, some l => some (a :: l)
    | _, _ => none

/-! ### Regions that draw their order: what may change its place -/

/-- The names that an operation reads or writes. -/
def opTmps (ops : Array Oper) (o : Oper) : List Nat :=
  (match o.guard with
  | some (j, _) => ((ops[j]?).bind (·.dst)).toList
  | none => []) ++ o.op.operands.toList.filterMap fun x => match x with
    | .tmp t => some t
    | _ => none

/-- Is i ahead of j in every order? ('b': for each operation, those ahead of it, as a number's bits.) -/
def ahead (b : Array Nat) (i j : Nat) : Bool := (b.getD j 0).testBit i

def mem (x : Nat) : List Nat → Bool
  | [] => false
  | y :: r => Nat.beq x y || mem x r

def apartOk (ops : Array Oper) (los : List LOp) (i j : Nat) : Bool :=
  match ops[i]?, ops[j]?, los[i]?, los[j]? with
  | some x, some y, some a, some c =>
    (match x.dst with
    | some d => !(mem d (opTmps ops y)) && (match y.dst with | some d' => !Nat.beq d d' | none => true)
    | none => true) &&
    (match y.dst with
    | some d => !(mem d (opTmps ops x))
    | none => true) &&
    !(decide (a.op.kind = .write) && decide (c.op.kind = .write))
  | _, _, _, _ => false

/-- In the text's order each operation stands behind what it must wait for, and two that may change places are apart. -/
def drawOk (ops : Array Oper) (los : List LOp) : Bool :=
  let b := Region.before ops
  (ops.toList.zipIdx.all fun (o, j) => o.after.all fun e => !Region.binds .any e || Nat.blt e.on j) &&
  (List.range ops.size).all fun j => (List.range j).all fun i => ahead b i j || apartOk ops los i j

def isWriter (los : List LOp) (i : Nat) : Bool := match los[i]? with
  | some a => decide (a.op.kind = .write)
  | none => false

/-- The reads that may stand on either side of a writer: between which writers. -/
def chkOf (ops : Array Oper) (los : List LOp) : List (Nat × Nat × Nat) :=
  let b := Region.before ops
  let n := ops.size
  (List.range n).filterMap fun j =>
    match los[j]? with
    | some a =>
      bif decide (a.op.kind = .read) then
        let lo := ((List.range n).filter fun i => isWriter los i && ahead b i j).length
        let hi := ((List.range n).filter fun i => isWriter los i && !ahead b j i).length
        bif Nat.blt lo hi then some (j, lo, hi) else none
      else none
    | none => none

def lowCode (P : Program) (nt : Nat) : Code → Option LCode
  | .skip => some .skip
  | .region _ ops false => (match lowOps P nt ops ops.toList with
    | some l => some (.reg l)
    | none => none)
  | .region _ ops true => (match lowOps P nt ops ops.toList with
    | some l => bif drawOk ops l then some (.dreg l (chkOf ops l)) else none
    | none => none)
  | .seq a b => (match lowCode P nt a, lowCode P nt b with
    | some a, some b => some (.seq a b)
    | _, _ => none)
  | .cond c a b => (match lowCode P nt a, lowCode P nt b with
    | some a, some b => some (.cond c a b)
    | _, _ => none)
  | .block id a => (match lowCode P nt a with
    | some a => some (.block id a)
    | none => none)
  | .loop a => (match lowCode P nt a with
    | some a => some (.loop a)
    | none => none)
  | .exit id => some (.exit id)
  | .ret => some .ret
  | _ => none

def isKeep : LCode → Bool
  | .keep _ => true
  | _ => false

/-- A code without the remarks on which names are still needed. -/
def strip : LCode → LCode
  | .seq a b => bif isKeep a then strip b else bif isKeep b then strip a else .seq (strip a) (strip b)
  | .cond c a b => .cond c (strip a) (strip b)
  | .block id a => .block id (strip a)
  | .loop a => .loop (strip a)
  | c => c

def lowRes (P : Program) : ResultVar → Option LRes
  | .tmp t => some (.tmp t)
  | .cell a t => (match tyAgg P t, tySize P t with
    | some true, some n => some (.ldn a n)
    | some false, some _ => some (.ld1 a)
    | _, _ => none)

def lowRess (P : Program) : List ResultVar → Option (List LRes)
  | [] => some []
  | r :: rs => match lowRes P r, lowRess P rs with
    | some a, some l => some (a :: l)
    | _, _ => none

/-- 'l' is a function's lowered form. -/
structure Low (P : Program) (fn : Func) (l : LFunc) : Prop where
  params : Nat.ble l.nparams fn.ntmps = true
  results : lowRess P fn.results.toList = some l.results
  body : fn.body.bind (lowCode P fn.ntmps) = some (strip l.body)
  name : (fn.name == "runtime.NumGoroutine") = false

end Go.Abs
