/- The abstract machine: heap, values, lowered code, and its evaluator. Of no program. -/
import Derived.Calls
import Derived.Orders
import Derived.KernelRfl
set_option linter.all false
namespace Go.Abs
open Go

/-- The capacity of a slice whose capacity is not known. -/
def SOFT : Nat := 4611686018427387904

inductive Blk where
  | row (cs : List Value) (sz : Nat) (ro : Bool)
  | mp (es : List (Value × Value))
  deriving Inhabited

inductive Tr (α : Type) where
  | nil
  | node (v : Option α) (l r : Tr α)

def Tr.get {α : Type} : Tr α → Nat → Option α
  | .nil, _ => none
  | .node v l r, n => bif Nat.beq n 0 then v else bif Nat.beq (n % 2) 1 then l.get (n / 2) else r.get (n / 2 - 1)

def Tr.upd {α : Type} : Nat → Tr α → Nat → Option α → Tr α
  | 0, t, _, _ => t
  | f + 1, .nil, n, x =>
    bif Nat.beq n 0 then .node x .nil .nil
    else bif Nat.beq (n % 2) 1 then .node none (Tr.upd f .nil (n / 2) x) .nil else .node none .nil (Tr.upd f .nil (n / 2 - 1) x)
  | f + 1, .node v l r, n, x =>
    bif Nat.beq n 0 then .node x l r
    else bif Nat.beq (n % 2) 1 then .node v (Tr.upd f l (n / 2) x) r else .node v l (Tr.upd f r (n / 2 - 1) x)

/-- Blocks by their numbers; all numbers from 'next' on are free. -/
structure Heap where
  t : Tr Blk
  next : Nat

def Heap.get (H : Heap) (b : Nat) : Option Blk := H.t.get b
def Heap.set (H : Heap) (b : Nat) (x : Blk) : Heap := { H with t := H.t.upd (b + 1) b (some x) }
def Heap.drop (H : Heap) (b : Nat) : Heap := { H with t := H.t.upd (b + 1) b none }
def Heap.add (H : Heap) (x : Blk) : Heap := { t := H.t.upd (H.next + 1) H.next (some x), next := H.next + 1 }
def Heap.empty : Heap := { t := .nil, next := 0 }

/-- Values that lead nowhere: equal on both sides. -/
def clo : Nat → Value → Bool
  | _, .bool _ | _, .int _ _ | _, .string _ | _, .pointer none | _, .slice none 0 0 | _, .map none | _, .nilFunc | _, .nilIface => true
  | n + 1, .agg cs => cs.toList.all (clo n)
  | n + 1, .tuple cs => cs.toList.all (clo n)
  | n + 1, .iface _ v => clo n v
  | _, _ => false

/-- What a program of the model's that asks the world nothing comes to. -/
def pureRun {α : Type} (P : Program) : Sem α → Option α
  | .pure a => some a
  | .program k => pureRun P (k P)
  | _ => none

abbrev Env := List (Nat × Value)

def eget : Env → Nat → Option Value
  | [], _ => none
  | (k, v) :: r, n => bif Nat.beq k n then some v else eget r n

def eput (e : Env) (d : Option Nat) (v : Value) : Env :=
  match d with
  | some d => (d, v) :: e
  | none => e

def ekeep (e : Env) : List Nat → Env
  | [] => []
  | k :: ks => match eget e k with
    | some v => (k, v) :: ekeep e ks
    | none => ekeep e ks

def aval (e : Env) : Operand → Option Value
  | .tmp t => eget e t
  | .const v => bif clo 3 v then some v else none
  | .global _ => none
  | .func f => some (.func (.func f) #[] #[])

def avals (e : Env) : List Operand → Option (List Value)
  | [] => some []
  | x :: xs => match aval e x, avals e xs with
    | some v, some vs => some (v :: vs)
    | _, _ => none

def avalo (e : Env) : Option Operand → Option (Option Value)
  | none => some none
  | some x => match aval e x with
    | some v => some (some v)
    | none => none

abbrev Part := Nat × Nat × Operand

inductive AOp where
  | mv (x : Operand)
  | pick (c a b : Operand)
  | alloc (zero : List Value)
  | box (x : Operand)
  | build (zero : List Value) (parts : List Part)
  | bslice (sz len : Nat) (zero : List Value) (parts : List Part)
  | ld1 (x : Operand)
  | ldn (n : Nat) (x : Operand)
  | st (n : Nat) (x v : Operand)
  | nilck (x : Operand)
  | prim (o : Oper)
  | cmpref (k : Nat) (neg : Bool) (x y : Operand)
  | mkiface (t : TypeId) (x : Operand)
  | mkfunc (f : FuncId) (first captured : List Operand)
  | mkmap (r : Option Operand)
  | mkslice (sz bytes : Nat) (zero : List Value) (l c : Operand)
  | slcs (x : Operand) (lo hi : Option Operand)
  | slcl (sz : Nat) (x : Operand) (lo hi mx : Option Operand)
  | slca (n sz : Nat) (x : Operand) (lo hi mx : Option Operand)
  | fadr (off : Nat) (x : Operand)
  | fld (off n : Nat) (agg : Bool) (x : Operand)
  | iadra (len sz : Nat) (x i : Operand)
  | iadrs (sz : Nat) (x i : Operand)
  | idxa (len sz : Nat) (agg : Bool) (x i : Operand)
  | look (kt : TypeId) (zero : Value) (x k : Operand) (ok : Bool)
  | mput (kt : TypeId) (x k v : Operand)
  | mdel (kt : TypeId) (x k : Operand)
  | ext (x : Operand) (i : Nat)
  | len (m : Bool) (x : Operand)
  | app (sz bytes : Nat) (s x : Operand)
  | copy (sz : Nat) (d s : Operand)
  | clear (sz : Nat) (zero : List Value) (x : Operand)
  | cvsb (x : Operand)
  | cvbs (x : Operand)
  | call (f : FuncId) (args : List Operand)
  | callv (x : Operand) (args : List Operand)
  | inv (recv : Operand) (tbl : List (TypeId × FuncId)) (args : List Operand)
  deriving Inhabited

structure LOp where
  dst : Option Nat
  guard : Option (Nat × Bool)
  op : AOp
  deriving Inhabited

inductive LCode where
  | skip
  | keep (ks : List Nat)
  | reg (ops : List LOp)
  | dreg (ops : List LOp) (chk : List (Nat × Nat × Nat))
  | seq (a b : LCode)
  | cond (c : Operand) (a b : LCode)
  | block (id : Nat) (a : LCode)
  | loop (a : LCode)
  | exit (id : Nat)
  | ret
  deriving Inhabited

inductive LRes where
  | tmp (t : Nat)
  | ld1 (t : Nat)
  | ldn (t n : Nat)
  deriving Inhabited

structure LFunc where
  nparams : Nat
  results : List LRes
  body : LCode
  deriving Inhabited

/-- What is behind a piece of code. -/
inductive LExit where
  | normal
  | exit (id : Nat)
  | ret

/-! ### Single operations -/

def getInt : Option Value → Option Int
  | some (.int _ n) => some n
  | _ => none

def getNat (v : Option Value) : Option Nat :=
  match v with
  | some (.int _ n) => bif decide (0 ≤ n) then some n.toNat else none
  | _ => none

/-- The cells from a place on. -/
def cellsAt (H : Heap) (b o n : Nat) : Option (List Value) :=
  match H.get b with
  | some (.row cs _ _) => bif Nat.ble (o + n) cs.length then some ((cs.drop o).take n) else none
  | _ => none

def setCells (cs : List Value) (o : Nat) (vs : List Value) : List Value := cs.take o ++ vs ++ cs.drop (o + vs.length)

def storeAt (H : Heap) (b o : Nat) (vs : List Value) : Option Heap :=
  match H.get b with
  | some (.row cs sz false) => bif Nat.ble (o + vs.length) cs.length then some (H.set b (.row (setCells cs o vs) sz false)) else none
  | _ => none

def oneCell : Value → Bool
  | .agg _ | .tuple _ => false
  | _ => true

def fillParts (cs : List Value) : List (Nat × Nat × Value) → Option (List Value)
  | [] => some cs
  | (off, n, v) :: rest =>
    bif Nat.beq v.cells.size n && Nat.ble (off + n) cs.length then fillParts (setCells cs off v.cells.toList) rest else none

def partVals (e : Env) : List Part → Option (List (Nat × Nat × Value))
  | [] => some []
  | (o, n, x) :: r => match aval e x, partVals e r with
    | some v, some vs => some ((o, n, v) :: vs)
    | _, _ => none

def partOf (cs : List Value) (off n : Nat) (agg : Bool) : Option Value :=
  bif agg then (bif Nat.ble (off + n) cs.length then some (.agg ((cs.drop off).take n).toArray) else none) else cs[off]?

def findKey (P : Program) (kt : TypeId) (k : Value) : List (Value × Value) → Nat → Option (Option (Nat × Value))
  | [], _ => some none
  | (k', v) :: es, i => match pureRun P (Op.equal kt k k') with
    | some true => some (some (i, v))
    | some false => findKey P kt k es (i + 1)
    | none => none

def fits (n by_ : Nat) : Bool := Nat.ble (n * by_) (2 ^ 47)

/-- The elements that an append or a copy takes. -/
def srcLen : Value → Option Nat
  | .slice _ n _ => some n
  | .string s => some s.size
  | _ => none

def srcCells (H : Heap) (sz n : Nat) : Value → Option (List Value)
  | .slice (some ⟨b, o, none⟩) _ _ => bif Nat.beq n 0 then some [] else cellsAt H b o (n * sz)
  | .slice none _ _ => some []
  | .string s => bif Nat.beq sz 1 then some ((s.data.toList.take n).map fun x => .int .u8 x.toNat) else none
  | _ => none

def appendTo (H : Heap) (sz by_ : Nat) (s x : Value) : Option (Value × Heap) :=
  match srcLen x with
  | none => none
  | some n =>
    match srcCells H sz n x with
    | none => none
    | some xs =>
      match s with
      | .slice none 0 0 =>
        bif Nat.beq n 0 then some (s, H)
        else bif fits n by_ then some (.slice (some ⟨H.next, 0, none⟩) n SOFT, H.add (.row xs sz false)) else none
      | .slice (some ⟨b, o, none⟩) len cap =>
        bif Nat.beq n 0 then some (s, H) else
        bif Nat.beq cap SOFT then
          match H.get b with
          | some (.row cs sz' false) =>
            bif !Nat.beq sz' sz then none else
            bif Nat.ble (o + (len + n) * sz) cs.length then
              match storeAt H b (o + len * sz) xs with
              | some H' => some (.slice (some ⟨b, o, none⟩) (len + n) SOFT, H')
              | none => none
            else bif Nat.beq (o + len * sz) cs.length && fits (len + n) by_ then
              some (.slice (some ⟨H.next, 0, none⟩) (len + n) SOFT, (H.drop b).add (.row (cs.drop o ++ xs) sz false))
            else none
          | _ => none
        else bif Nat.ble (len + n) cap then
          match storeAt H b (o + len * sz) xs with
          | some H' => some (.slice (some ⟨b, o, none⟩) (len + n) cap, H')
          | none => none
        else bif fits (len + n) by_ then
          match (bif Nat.beq len 0 then some [] else cellsAt H b o (len * sz)) with
          | some old => some (.slice (some ⟨H.next, 0, none⟩) (len + n) SOFT, H.add (.row (old ++ xs) sz false))
          | none => none
        else none
      | _ => none

def repl (zero : List Value) : Nat → List Value
  | 0 => []
  | n + 1 => zero ++ repl zero n

/-- The bounds of a slice expression over n known elements. -/
def bounds (n : Nat) (len : Nat) (lo hi : Option Value) : Option (Nat × Nat) :=
  match (match hi with | none => some len | some v => getNat (some v)) with
  | none => none
  | some h =>
    match (match lo with | none => some 0 | some v => getNat (some v)) with
    | none => none
    | some l => bif Nat.ble l h && Nat.ble h n then some (l, h) else none

/-- Is a value nil, of a kind: 0 pointer, 1 slice, 2 map, 3 function, 4 interface? -/
def nilness : Nat → Value → Option Bool
  | 0, .pointer a => some a.isNone
  | 1, .slice a _ _ => some a.isNone
  | 2, .map a => some a.isNone
  | 3, .nilFunc => some true
  | 3, .func .. => some false
  | 4, .nilIface => some true
  | 4, .iface .. => some false
  | _, _ => none

def isByte : Value → Bool
  | .int .u8 _ => true
  | _ => false

def byteVal : Value → UInt8
  | .int _ n => UInt8.ofNat n.toNat
  | _ => 0

/-- Is an operand's value closed? -/
def cloOp (e : Env) (x : Operand) : Bool := match aval e x with
  | some v => clo 3 v
  | none => false

/-- An operation that is no call. -/
def aop (P : Program) (e : Env) (H : Heap) : AOp → Option (Value × Heap)
  | .mv x => match aval e x with
    | some v => some (v, H)
    | none => none
  | .pick c a b => match aval e c with
    | some (.bool true) => (match aval e a with | some v => some (v, H) | none => none)
    | some (.bool false) => (match aval e b with | some v => some (v, H) | none => none)
    | _ => none
  | .alloc zero => bif zero.all (clo 3) && zero.all oneCell then some (.pointer (some ⟨H.next, 0, none⟩), H.add (.row zero 0 false)) else none
  | .box x => match aval e x with
    | some v => bif v.cells.toList.all oneCell then some (.pointer (some ⟨H.next, 0, none⟩), H.add (.row v.cells.toList 0 false)) else none
    | none => none
  | .build zero parts => bif zero.all (clo 3) then (match partVals e parts with
    | some vs => (match fillParts zero vs with
      | some cs => some (.agg cs.toArray, H)
      | none => none)
    | none => none) else none
  | .bslice sz len zero parts => bif zero.all (clo 3) && Nat.beq zero.length sz && Nat.ble (len * sz) (2 ^ 24) then (match partVals e parts with
    | some vs => (match fillParts (repl zero len) vs with
      | some cs => bif cs.all oneCell then some (.slice (some ⟨H.next, 0, none⟩) len len, H.add (.row cs sz false)) else none
      | none => none)
    | none => none) else none
  | .ld1 x => match aval e x with
    | some (.pointer (some ⟨b, o, none⟩)) => (match H.get b with
      | some (.row cs _ _) => (match cs[o]? with | some v => some (v, H) | none => none)
      | _ => none)
    | _ => none
  | .ldn n x => match aval e x with
    | some (.pointer (some ⟨b, o, none⟩)) => (match cellsAt H b o n with
      | some vs => some (.agg vs.toArray, H)
      | none => none)
    | _ => none
  | .st n x v => match aval e x, aval e v with
    | some (.pointer (some ⟨b, o, none⟩)), some v => bif Nat.beq v.cells.size n && v.cells.toList.all oneCell then (match storeAt H b o v.cells.toList with
      | some H' => some (.tuple #[], H')
      | none => none) else none
    | _, _ => none
  | .nilck x => match aval e x with
    | some (.pointer (some a)) => some (.pointer (some a), H)
    | some (.func (.func f) p q) => some (.func (.func f) p q, H)
    | some (.iface t v) => some (.iface t v, H)
    | _ => none
  | .prim o => bif o.op.operands.toList.all (cloOp e) then
      (match pureRun P (execOp (fun x => (aval e x).getD (.tuple #[])) o) with
      | some (.value v) => bif clo 3 v then some (v, H) else none
      | _ => none) else none
  | .cmpref k neg x y => match aval e x, aval e y with
    | some v, some u => (match nilness k v, nilness k u with
      | some true, some c => some (.bool (c != neg), H)
      | some c, some true => some (.bool (c != neg), H)
      | _, _ => none)
    | _, _ => none
  | .mkiface t x => match aval e x with
    | some v => some (.iface t v, H)
    | none => none
  | .mkfunc f first captured => match avals e first, avals e captured with
    | some a, some b => some (.func (.func f) a.toArray b.toArray, H)
    | _, _ => none
  | .mkmap r => match avalo e r with
    | some none => some (.map (some H.next), H.add (.mp []))
    | some (some (.int _ _)) => some (.map (some H.next), H.add (.mp []))
    | _ => none
  | .mkslice sz by_ zero l c => match getNat (aval e l), getNat (aval e c) with
    | some l, some c => bif Nat.ble l c && fits c by_ && Nat.ble c (2 ^ 47) && zero.all (clo 3) && zero.all oneCell && Nat.beq zero.length sz then
        some (.slice (some ⟨H.next, 0, none⟩) l c, H.add (.row (repl zero c) sz false)) else none
    | _, _ => none
  | .slcs x lo hi => match aval e x, avalo e lo, avalo e hi with
    | some (.string s), some lo, some hi => (match bounds s.size s.size lo hi with
      | some (l, h) => some (.string (s.extract l h), H)
      | none => none)
    | _, _, _ => none
  | .slcl sz x lo hi mx => match aval e x, avalo e lo, avalo e hi, avalo e mx with
    | some (.slice none 0 0), some lo, some hi, some mx => (match bounds 0 0 lo hi, mx with
      | some _, none => some (.slice none 0 0, H)
      | some _, some v => (match getNat (some v) with | some 0 => some (.slice none 0 0, H) | _ => none)
      | none, _ => none)
    | some (.slice (some ⟨b, o, none⟩) len cap), some lo, some hi, some mx =>
      bif Nat.beq cap 0 then (match bounds 0 0 lo hi, mx with
        | some _, none => some (.slice (some ⟨b, o, none⟩) 0 0, H)
        | some _, some v => (match getNat (some v) with | some 0 => some (.slice (some ⟨b, o, none⟩) 0 0, H) | _ => none)
        | none, _ => none)
      else (match H.get b with
      | some (.row cs sz' _) =>
        bif !(Nat.beq sz' sz && Nat.ble 1 sz && Nat.ble (o + len * sz) cs.length) then none else
        let n := bif Nat.beq cap SOFT then (cs.length - o) / sz else cap
        match bounds n len lo hi with
        | none => none
        | some (l, h) =>
          match mx with
          | none =>
            bif Nat.beq cap SOFT then some (.slice (some ⟨b, o + l * sz, none⟩) (h - l) SOFT, H)
            else some (.slice (some ⟨b, bif Nat.beq cap l then o else o + l * sz, none⟩) (h - l) (cap - l), H)
          | some v => (match getNat (some v) with
            | some m => bif Nat.ble h m && Nat.ble m n && Nat.blt m SOFT then some (.slice (some ⟨b, bif Nat.beq m l then o else o + l * sz, none⟩) (h - l) (m - l), H) else none
            | none => none)
      | _ => none)
    | _, _, _, _ => none
  | .slca n sz x lo hi mx => match aval e x, avalo e lo, avalo e hi, avalo e mx with
    | some (.pointer (some ⟨b, o, none⟩)), some lo, some hi, some none => (match bounds n n lo hi with
      | some (l, h) => bif !Nat.blt n SOFT then none else some (.slice (some ⟨b, bif Nat.beq n l then o else o + l * sz, none⟩) (h - l) (n - l), H)
      | none => none)
    | _, _, _, _ => none
  | .fadr off x => match aval e x with
    | some (.pointer (some ⟨b, o, none⟩)) => some (.pointer (some ⟨b, o + off, none⟩), H)
    | _ => none
  | .fld off n agg x => match aval e x with
    | some (.agg cs) => (match partOf cs.toList off n agg with | some v => some (v, H) | none => none)
    | _ => none
  | .iadra len sz x i => match aval e x, getNat (aval e i) with
    | some (.pointer (some ⟨b, o, none⟩)), some i => bif Nat.blt i len then some (.pointer (some ⟨b, o + i * sz, none⟩), H) else none
    | _, _ => none
  | .iadrs sz x i => match aval e x, getNat (aval e i) with
    | some (.slice (some ⟨b, o, none⟩) len _), some i => bif Nat.blt i len then some (.pointer (some ⟨b, o + i * sz, none⟩), H) else none
    | _, _ => none
  | .idxa len sz agg x i => match aval e x, getNat (aval e i) with
    | some (.agg cs), some i => bif Nat.blt i len then (match partOf cs.toList (i * sz) sz agg with | some v => some (v, H) | none => none) else none
    | _, _ => none
  | .look kt zero x k ok =>
    match aval e x, aval e k with
    | some (.map none), some kv => bif clo 3 zero && clo 3 kv && (pureRun P (Instr.checkKey true 10000 kt kv)).isSome then
        some (bif ok then .tuple #[zero, .bool false] else zero, H) else none
    | some (.map (some b)), some kv => (match H.get b with
      | some (.mp es) => bif clo 3 zero && clo 3 kv && (pureRun P (Instr.checkKey es.isEmpty 10000 kt kv)).isSome then
        (match findKey P kt kv es 0 with
        | some (some (_, v)) => some (bif ok then .tuple #[v, .bool true] else v, H)
        | some none => some (bif ok then .tuple #[zero, .bool false] else zero, H)
        | none => none) else none
      | _ => none)
    | _, _ => none
  | .mput kt x k v =>
    match aval e x, aval e k, aval e v with
    | some (.map (some b)), some kv, some v => (match H.get b with
      | some (.mp es) => bif clo 3 kv && (pureRun P (Instr.checkKey false 10000 kt kv)).isSome then
        (match findKey P kt kv es 0 with
        | some (some (i, _)) => (match es[i]? with
          | some (k', _) => bif Instr.sameBits 10000 k' kv then some (.tuple #[], H.set b (.mp (es.set i (kv, v)))) else none
          | none => none)
        | some none => some (.tuple #[], H.set b (.mp (es ++ [(kv, v)])))
        | none => none) else none
      | _ => none)
    | _, _, _ => none
  | .mdel kt x k =>
    match aval e x, aval e k with
    | some (.map (some b)), some kv => (match H.get b with
      | some (.mp es) => bif clo 3 kv && (pureRun P (Instr.checkKey es.isEmpty 10000 kt kv)).isSome then
        (match findKey P kt kv es 0 with
        | some (some (i, _)) => some (.tuple #[], H.set b (.mp (es.eraseIdx i)))
        | some none => some (.tuple #[], H)
        | none => none) else none
      | _ => none)
    | _, _ => none
  | .ext x i => match aval e x with
    | some (.tuple vs) => (match vs.toList[i]? with | some v => some (v, H) | none => none)
    | _ => none
  | .len m x => match m, aval e x with
    | false, some (.slice _ n _) => some (.int .i64 n, H)
    | true, some (.map none) => some (.int .i64 0, H)
    | true, some (.map (some b)) => (match H.get b with
      | some (.mp es) => some (.int .i64 es.length, H)
      | _ => none)
    | _, _ => none
  | .app sz by_ s x => match aval e s, aval e x with
    | some s, some x => appendTo H sz by_ s x
    | _, _ => none
  | .copy sz d s => match aval e d, aval e s with
    | some (.slice d len _), some s => (match srcLen s with
      | some n => (match srcCells H sz (min n len) s with
        | some vs => (match d with
          | some ⟨b, o, none⟩ => bif Nat.beq (min n len) 0 then some (.int .i64 0, H) else (match storeAt H b o vs with
            | some H' => some (.int .i64 ((min n len : Nat) : Int), H')
            | none => none)
          | none => some (.int .i64 ((min n len : Nat) : Int), H)
          | _ => none)
        | none => none)
      | none => none)
    | _, _ => none
  | .clear sz zero x => match aval e x with
    | some (.map none) => some (.tuple #[], H)
    | some (.map (some b)) => (match H.get b with
      | some (.mp _) => some (.tuple #[], H.set b (.mp []))
      | _ => none)
    | some (.slice none 0 0) => some (.tuple #[], H)
    | some (.slice (some ⟨b, o, none⟩) n _) => bif Nat.beq n 0 then some (.tuple #[], H) else bif Nat.ble 1 sz && zero.all (clo 3) && zero.all oneCell && Nat.beq zero.length sz then (match storeAt H b o (repl zero n) with
      | some H' => some (.tuple #[], H')
      | none => none) else none
    | _ => none
  | .cvsb x => match aval e x with
    | some (.string s) => some (.slice (some ⟨H.next, 0, none⟩) s.size SOFT, H.add (.row (s.data.toList.map fun x => .int .u8 x.toNat) 1 false))
    | _ => none
  | .cvbs x => match aval e x with
    | some (.slice none _ _) => some (.string .empty, H)
    | some (.slice (some ⟨b, o, none⟩) n _) => bif Nat.beq n 0 then some (.string .empty, H) else (match cellsAt H b o n with
      | some vs => bif vs.all isByte then some (.string ⟨(vs.map byteVal).toArray⟩, H) else none
      | none => none)
    | _ => none
  | .call .. | .callv .. | .inv .. => none

/-! ### Which operations a region that draws its order may carry out in another one -/

inductive Kind where
  | pure | read | alloc | write
  deriving DecidableEq

def AOp.kind : AOp → Kind
  | .ld1 _ | .ldn .. | .look .. | .len .. | .cvbs _ | .slcl .. => .read
  | .alloc _ | .box _ | .bslice .. | .mkmap _ | .mkslice .. | .cvsb _ => .alloc
  | .st .. | .mput .. | .mdel .. | .app .. | .copy .. | .clear .. | .call .. | .callv .. | .inv .. => .write
  | _ => .pure

def veq : Nat → Value → Value → Bool
  | _, .bool a, .bool b => a == b
  | _, .int j a, .int k b => j == k && a == b
  | _, .string a, .string b => a.data.toList == b.data.toList
  | _, .pointer a, .pointer b => a == b
  | _, .slice a l c, .slice b m d => a == b && Nat.beq l m && Nat.beq c d
  | _, .map a, .map b => a == b
  | _, .nilFunc, .nilFunc => true
  | _, .nilIface, .nilIface => true
  | n + 1, .agg a, .agg b => Nat.beq a.size b.size && (a.toList.zip b.toList).all fun (x, y) => veq n x y
  | n + 1, .tuple a, .tuple b => Nat.beq a.size b.size && (a.toList.zip b.toList).all fun (x, y) => veq n x y
  | n + 1, .iface s a, .iface t b => Nat.beq s t && veq n a b
  | _, _, _ => false

/-- A heap with blocks laid from a number on. -/
def addLate (H : Heap) : List (Nat × Blk) → Heap
  | [] => H
  | (b, x) :: r => bif Nat.ble H.next b then { (addLate H r).set b x with next := max (addLate H r).next (b + 1) } else addLate H r

structure Env0 where
  P : Program
  fn : Nat → Option LFunc
  hook : Nat → Option (List Value → Heap → Option (Value × Heap))

def ares (e : Env) (H : Heap) : LRes → Option Value
  | .tmp t => eget e t
  | .ld1 t => match eget e t with
    | some (.pointer (some ⟨b, o, none⟩)) => (match H.get b with
      | some (.row cs _ _) => cs[o]?
      | _ => none)
    | _ => none
  | .ldn t n => match eget e t with
    | some (.pointer (some ⟨b, o, none⟩)) => (match cellsAt H b o n with
      | some vs => some (.agg vs.toArray)
      | none => none)
    | _ => none

def aress (e : Env) (H : Heap) : List LRes → Option (List Value)
  | [] => some []
  | r :: rs => match ares e H r, aress e H rs with
    | some v, some vs => some (v :: vs)
    | _, _ => none

def pack : List Value → Value
  | [v] => v
  | vs => .tuple vs.toArray

def params : Nat → List Value → Env
  | _, [] => []
  | i, v :: vs => (i, v) :: params (i + 1) vs

/-- Is an operation carried out? -/
def wanted (e : Env) : Option (Nat × Bool) → Option Bool
  | none => some true
  | some (t, want) => match eget e t with
    | some (.bool b) => some (b == want)
    | some (.tuple _) => some false
    | _ => none

/-- One operation of a region that draws: the names' values and the heap ahead of it, its value, the heap behind it; was it carried out? -/
structure Rec where
  e : Env
  H : Heap
  v : Value
  H' : Heap
  ex : Bool

/-- The heap at the begin, and behind each writer. -/
def snaps : List LOp → List Rec → List Heap
  | o :: os, r :: rs => bif decide (o.op.kind = .write) then r.H' :: snaps os rs else snaps os rs
  | _, _ => []

/-- What was allocated. -/
def lates : List LOp → List Rec → List (Nat × Blk)
  | o :: os, r :: rs => bif decide (o.op.kind = .alloc) && r.ex then (match r.H'.get r.H.next with
    | some x => (r.H.next, x) :: lates os rs
    | none => lates os rs) else lates os rs
  | _, _ => []

/-- Does each read come to the same between any writers between which it may stand? -/
def drawsOk (P : Program) (H0 : Heap) (ops : List LOp) (recs : List Rec) : List (Nat × Nat × Nat) → Bool
  | [] => true
  | (j, lo, hi) :: r =>
    (match ops[j]?, recs[j]? with
    | some o, some x => !x.ex || ((((H0 :: snaps ops recs).drop lo).take (hi + 1 - lo)).all fun H =>
        match aop P x.e (addLate H (lates ops recs)) o.op with
        | some (v', _) => veq 3 x.v v'
        | none => false)
    | _, _ => false) && drawsOk P H0 ops recs r

mutual
def run (E : Env0) : Nat → LCode → Env → Heap → Option (LExit × Env × Heap)
  | 0, _, _, _ => none
  | _ + 1, .skip, e, H => some (.normal, e, H)
  | _ + 1, .keep ks, e, H => some (.normal, ekeep e ks, H)
  | n + 1, .reg ops, e, H => (match runOps E n ops e H with
    | some (e, H) => some (.normal, e, H)
    | none => none)
  | n + 1, .dreg ops chk, e, H => (match runDraw E n ops e H with
    | some (e', H', recs) => bif drawsOk E.P H ops recs chk then some (.normal, e', H') else none
    | none => none)
  | n + 1, .seq a b, e, H => (match run E n a e H with
    | some (.normal, e, H) => run E n b e H
    | r => r)
  | n + 1, .cond c a b, e, H => (match aval e c with
    | some (.bool true) => run E n a e H
    | some (.bool false) => run E n b e H
    | _ => none)
  | n + 1, .block id a, e, H => (match run E n a e H with
    | some (.exit id', e, H) => bif Nat.beq id' id then some (.normal, e, H) else some (.exit id', e, H)
    | r => r)
  | n + 1, .loop a, e, H => (match run E n a e H with
    | some (.normal, e, H) => run E n (.loop a) e H
    | r => r)
  | _ + 1, .exit id, e, H => some (.exit id, e, H)
  | _ + 1, .ret, e, H => some (.ret, e, H)

def runOps (E : Env0) : Nat → List LOp → Env → Heap → Option (Env × Heap)
  | 0, _, _, _ => none
  | _ + 1, [], e, H => some (e, H)
  | n + 1, o :: os, e, H => (match wanted e o.guard with
    | some true => (match runOp E n o.op e H with
      | some (v, H) => runOps E n os (eput e o.dst v) H
      | none => none)
    | some false => runOps E n os (eput e o.dst (.tuple #[])) H
    | none => none)

def runDraw (E : Env0) : Nat → List LOp → Env → Heap → Option (Env × Heap × List Rec)
  | 0, _, _, _ => none
  | _ + 1, [], e, H => some (e, H, [])
  | n + 1, o :: os, e, H => (match wanted e o.guard with
    | some true => (match runOp E n o.op e H with
      | some (v, H1) => (match runDraw E n os (eput e o.dst v) H1 with
        | some (e', H', rs) => some (e', H', ⟨e, H, v, H1, true⟩ :: rs)
        | none => none)
      | none => none)
    | some false => (match runDraw E n os (eput e o.dst (.tuple #[])) H with
      | some (e', H', rs) => some (e', H', ⟨e, H, .tuple #[], H, false⟩ :: rs)
      | none => none)
    | none => none)

def runOp (E : Env0) : Nat → AOp → Env → Heap → Option (Value × Heap)
  | 0, _, _, _ => none
  | n + 1, .call f xs, e, H => (match avals e xs with
    | some vs => call E n f vs H
    | none => none)
  | n + 1, .callv x xs, e, H => (match aval e x, avals e xs with
    | some (.func (.func f) first captured), some vs => call E n f (first.toList ++ vs ++ captured.toList) H
    | _, _ => none)
  | n + 1, .inv x tbl xs, e, H => (match aval e x, avals e xs with
    | some (.iface t v), some vs => (match tbl.find? (fun p => Nat.beq p.1 t) with
      | some (_, f) => call E n f (v :: vs) H
      | none => none)
    | _, _ => none)
  | _ + 1, op, e, H => aop E.P e H op

def call (E : Env0) : Nat → Nat → List Value → Heap → Option (Value × Heap)
  | 0, _, _, _ => none
  | n + 1, f, args, H => (match E.hook f with
    | some h => h args H
    | none => (match E.fn f with
      | some fn => bif Nat.beq args.length fn.nparams then (match run E n fn.body (params 0 args) H with
        | some (.exit _, _, _) => none
        | some (_, e, H) => (match aress e H fn.results with
          | some vs => some (pack vs, H)
          | none => none)
        | none => none) else none
      | none => none))
end

end Go.Abs
