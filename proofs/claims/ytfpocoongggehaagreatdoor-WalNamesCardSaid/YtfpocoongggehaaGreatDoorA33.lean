/- Evaluation by rewriting. Of no program. -/
import Derived.Test.YtfpocoongggehaaGreatDoorA31
import Derived.Laws.Strings
import Derived.Lib.SmallJoins
set_option linter.all false
namespace Go.Abs
open Go

theorem pureRun_pure {α : Type} (P : Program) (a : α) : pureRun P (Pure.pure a : Sem α) = some a := rfl

theorem pureRun_bind {α β : Type} (P : Program) (x : Sem α) (f : α → Sem β) : pureRun P (x >>= f) = (pureRun P x).bind fun a => pureRun P (f a) := by
  show pureRun P (Sem.bind x f) = _
  induction x with
  | pure a => rfl
  | program k ih => simp only [Sem.bind, pureRun]; exact ih P
  | _ => rfl

/-- The answer of an operation that the model carries out. -/
def toVal (H : Heap) : Option Value → Option (Value × Heap)
  | some v => bif clo 3 v then some (v, H) else none
  | none => none

def clo? : Option Value → Bool
  | some v => clo 3 v
  | none => false

def dflt (v : Option Value) : Value := v.getD (.tuple #[])

theorem cloOp_eq (e : Env) (x : Operand) : cloOp e x = clo? (aval e x) := by
  unfold cloOp clo?; cases aval e x <;> rfl

theorem prim_eq {P : Program} {e : Env} {H : Heap} {o : Oper} {s : Sem Value} (h : execOp (fun x => (aval e x).getD (.tuple #[])) o = (do pure (.value (← s)))) :
    aop P e H (.prim o) = bif o.op.operands.toList.all (cloOp e) then toVal H (pureRun P s) else none := by
  simp only [aop, h]
  rw [pureRun_bind]
  cases pureRun P s <;> rfl

def intB (H : Heap) (op : BinOp) (k : IntKind) (a b : Int) : Option (Value × Heap) :=
  match op with
  | .add => some (.int k (k.wrap (a + b)), H)
  | .sub => some (.int k (k.wrap (a - b)), H)
  | .mul => some (.int k (k.wrap (a * b)), H)
  | .quo => if b = 0 then none else some (.int k (k.wrap (a.tdiv b)), H)
  | .rem => if b = 0 then none else some (.int k (a.tmod b), H)
  | .and => some (.int k (k.wrap (BitVec.ofInt k.bits a &&& BitVec.ofInt k.bits b).toNat), H)
  | .or => some (.int k (k.wrap (BitVec.ofInt k.bits a ||| BitVec.ofInt k.bits b).toNat), H)
  | .xor => some (.int k (k.wrap (BitVec.ofInt k.bits a ^^^ BitVec.ofInt k.bits b).toNat), H)
  | .andNot => some (.int k (k.wrap (BitVec.ofInt k.bits a &&& ~~~ BitVec.ofInt k.bits b).toNat), H)
  | .eql => some (.bool (a == b), H)
  | .neq => some (.bool (a != b), H)
  | .lss => some (.bool (decide (a < b)), H)
  | .leq => some (.bool (decide (a ≤ b)), H)
  | .gtr => some (.bool (decide (a > b)), H)
  | .geq => some (.bool (decide (a ≥ b)), H)
  | .shl => if b < 0 then none else some (.int k (k.wrap (a * 2 ^ (min b.toNat k.bits))), H)
  | .shr => if b < 0 then none else some (.int k (a.fdiv (2 ^ (min b.toNat k.bits))), H)

def primB (P : Program) (H : Heap) (op : BinOp) (t : TypeId) (x y : Operand) (vx vy : Option Value) : Option (Value × Heap) :=
  bif clo? vx && clo? vy then toVal H (pureRun P (do eqGuard op t x y (dflt vx) (dflt vy); binOp op t (dflt vx) (dflt vy))) else none

theorem aop_bin {P : Program} {e : Env} {H : Heap} {op : BinOp} {t t2 ty : TypeId} {x y : Operand} :
    aop P e H (.prim ⟨none, .binOp op t x y t2, ty, "", #[], none⟩) = primB P H op t x y (aval e x) (aval e y) := by
  rw [prim_eq (s := do eqGuard op t x y (dflt (aval e x)) (dflt (aval e y)); binOp op t (dflt (aval e x)) (dflt (aval e y))) rfl]
  simp only [primB, Op.operands, List.all_cons, List.all_nil, Bool.and_true, cloOp_eq]

theorem primB_int {P : Program} {H : Heap} {op : BinOp} {t : TypeId} {x y : Operand} {k : IntKind} {a b : Int} :
    primB P H op t x y (some (.int k a)) (some (.int k b)) = intB H op k a b := by
  simp only [primB, clo?, clo, Bool.and_self, cond_true, dflt, Option.getD_some]
  cases op <;> simp only [eqGuard, binOp, intB, Op.shift, Op.intArith, Op.intDiv, Op.intBits, Op.intCmp, ne_eq, not_true_eq_false, if_false, pureRun_bind, Bool.not_false, Bool.not_true, if_true] <;>
    first
      | rfl
      | (split <;> rfl)

theorem primB_sh {P : Program} {H : Heap} {t : TypeId} {x y : Operand} {k k' : IntKind} {a b : Int} (op : BinOp) (hop : op = .shl ∨ op = .shr) :
    primB P H op t x y (some (.int k a)) (some (.int k' b)) = intB H op k a b := by
  simp only [primB, clo?, clo, Bool.and_self, cond_true, dflt, Option.getD_some]
  rcases hop with rfl | rfl <;> simp only [eqGuard, binOp, intB, Op.shift, pureRun_bind, Bool.not_false, if_true] <;> (split <;> rfl)

theorem primB_shl {P : Program} {H : Heap} {t : TypeId} {x y : Operand} {k k' : IntKind} {a b : Int} :
    primB P H .shl t x y (some (.int k a)) (some (.int k' b)) = intB H .shl k a b := primB_sh _ (.inl rfl)
theorem primB_shr {P : Program} {H : Heap} {t : TypeId} {x y : Operand} {k k' : IntKind} {a b : Int} :
    primB P H .shr t x y (some (.int k a)) (some (.int k' b)) = intB H .shr k a b := primB_sh _ (.inr rfl)

def strB (H : Heap) (op : BinOp) (a b : ByteArray) : Option (Value × Heap) :=
  match op with
  | .add => if ((a.size + b.size : Nat) : Int) > IntKind.i64.max then none else some (.string (a ++ b), H)
  | .eql => some (.bool (a.toList == b.toList), H)
  | .neq => some (.bool (!(a.toList == b.toList)), H)
  | .lss => some (.bool (Op.bytesLess a.toList b.toList), H)
  | .leq => some (.bool (Op.bytesLess a.toList b.toList || a.toList == b.toList), H)
  | .gtr => some (.bool (!(Op.bytesLess a.toList b.toList || a.toList == b.toList)), H)
  | .geq => some (.bool (!(Op.bytesLess a.toList b.toList)), H)
  | _ => none

theorem primB_str {P : Program} {H : Heap} {op : BinOp} {t : TypeId} {x y : Operand} {a b : ByteArray} :
    primB P H op t x y (some (.string a)) (some (.string b)) = strB H op a b := by
  simp only [primB, clo?, clo, Bool.and_self, cond_true, dflt, Option.getD_some]
  cases op <;> simp only [eqGuard, binOp, strB, Op.stringOp, pureRun_bind, Bool.not_false, Bool.not_true, if_true] <;>
    first
      | rfl
      | (split <;> rfl)

def primU (P : Program) (H : Heap) (op : UnOp) (vx : Option Value) : Option (Value × Heap) :=
  bif clo? vx then toVal H (pureRun P (Op.unary op (dflt vx))) else none

theorem aop_un {P : Program} {e : Env} {H : Heap} {op : UnOp} {t ty : TypeId} {x : Operand} :
    aop P e H (.prim ⟨none, .unOp op t x, ty, "", #[], none⟩) = primU P H op (aval e x) := by
  rw [prim_eq (s := Op.unary op (dflt (aval e x))) rfl]
  simp only [primU, Op.operands, List.all_cons, List.all_nil, Bool.and_true, cloOp_eq]

theorem primU_not {P : Program} {H : Heap} {b : Bool} : primU P H .not (some (.bool b)) = some (.bool (!b), H) := rfl
theorem primU_neg {P : Program} {H : Heap} {k : IntKind} {n : Int} : primU P H .neg (some (.int k n)) = some (.int k (k.wrap (0 - n)), H) := rfl
theorem primU_xor {P : Program} {H : Heap} {k : IntKind} {n : Int} : primU P H .xor (some (.int k n)) = intB H .xor k (if k.signed then -1 else k.max) n := rfl

def primC (P : Program) (H : Heap) (s d : TypeId) (vx : Option Value) : Option (Value × Heap) :=
  bif clo? vx then toVal H (pureRun P (convert s d (dflt vx))) else none

theorem aop_conv {P : Program} {e : Env} {H : Heap} {s d ty : TypeId} {x : Operand} :
    aop P e H (.prim ⟨none, .convert s d x, ty, "", #[], none⟩) = primC P H s d (aval e x) := by
  rw [prim_eq (s := convert s d (dflt (aval e x))) rfl]
  simp only [primC, Op.operands, List.all_cons, List.all_nil, Bool.and_true, cloOp_eq]

theorem pureRun_underlying {P : Program} {t : TypeId} {d : TypeDesc} (h : P.underlying t = some d) : pureRun P (underlying t) = some d := by
  unfold underlying
  simp only [program, pureRun_bind]
  show (pureRun P (Sem.program Sem.pure)).bind _ = _
  simp only [pureRun, Option.bind_some, h]
  rfl

theorem primC_int {P : Program} {H : Heap} {s d : TypeId} {k j : IntKind} {ds : TypeDesc} {n : Int} (hs : P.underlying s = some ds) (hd : P.underlying d = some (.int k)) : primC P H s d (some (.int j n)) = some (.int k (k.wrap n), H) := by
  simp only [primC, clo?, clo, cond_true, dflt, Option.getD_some, convert, pureRun_bind, pureRun_underlying hs, pureRun_underlying hd, Option.bind_some]
  rfl

theorem primC_u8 {P : Program} {H : Heap} {s d : TypeId} {j : IntKind} {n : Int} (hs : (P.underlying s).isSome = true) (hd : P.underlying d = some (.int .u8)) : primC P H s d (some (.int j n)) = some (.int .u8 (IntKind.u8.wrap n), H) := by
  obtain ⟨ds, h⟩ := Option.isSome_iff_exists.1 hs; exact primC_int h hd
theorem primC_u16 {P : Program} {H : Heap} {s d : TypeId} {j : IntKind} {n : Int} (hs : (P.underlying s).isSome = true) (hd : P.underlying d = some (.int .u16)) : primC P H s d (some (.int j n)) = some (.int .u16 (IntKind.u16.wrap n), H) := by
  obtain ⟨ds, h⟩ := Option.isSome_iff_exists.1 hs; exact primC_int h hd
theorem primC_u32 {P : Program} {H : Heap} {s d : TypeId} {j : IntKind} {n : Int} (hs : (P.underlying s).isSome = true) (hd : P.underlying d = some (.int .u32)) : primC P H s d (some (.int j n)) = some (.int .u32 (IntKind.u32.wrap n), H) := by
  obtain ⟨ds, h⟩ := Option.isSome_iff_exists.1 hs; exact primC_int h hd
theorem primC_u64 {P : Program} {H : Heap} {s d : TypeId} {j : IntKind} {n : Int} (hs : (P.underlying s).isSome = true) (hd : P.underlying d = some (.int .u64)) : primC P H s d (some (.int j n)) = some (.int .u64 (IntKind.u64.wrap n), H) := by
  obtain ⟨ds, h⟩ := Option.isSome_iff_exists.1 hs; exact primC_int h hd
theorem primC_i8 {P : Program} {H : Heap} {s d : TypeId} {j : IntKind} {n : Int} (hs : (P.underlying s).isSome = true) (hd : P.underlying d = some (.int .i8)) : primC P H s d (some (.int j n)) = some (.int .i8 (IntKind.i8.wrap n), H) := by
  obtain ⟨ds, h⟩ := Option.isSome_iff_exists.1 hs; exact primC_int h hd
theorem primC_i16 {P : Program} {H : Heap} {s d : TypeId} {j : IntKind} {n : Int} (hs : (P.underlying s).isSome = true) (hd : P.underlying d = some (.int .i16)) : primC P H s d (some (.int j n)) = some (.int .i16 (IntKind.i16.wrap n), H) := by
  obtain ⟨ds, h⟩ := Option.isSome_iff_exists.1 hs; exact primC_int h hd
theorem primC_i32 {P : Program} {H : Heap} {s d : TypeId} {j : IntKind} {n : Int} (hs : (P.underlying s).isSome = true) (hd : P.underlying d = some (.int .i32)) : primC P H s d (some (.int j n)) = some (.int .i32 (IntKind.i32.wrap n), H) := by
  obtain ⟨ds, h⟩ := Option.isSome_iff_exists.1 hs; exact primC_int h hd
theorem primC_i64 {P : Program} {H : Heap} {s d : TypeId} {j : IntKind} {n : Int} (hs : (P.underlying s).isSome = true) (hd : P.underlying d = some (.int .i64)) : primC P H s d (some (.int j n)) = some (.int .i64 (IntKind.i64.wrap n), H) := by
  obtain ⟨ds, h⟩ := Option.isSome_iff_exists.1 hs; exact primC_int h hd
theorem primC_str {P : Program} {H : Heap} {s d : TypeId} {ds : TypeDesc} {n : ByteArray} (hs : P.underlying s = some ds) (hd : P.underlying d = some .string) : primC P H s d (some (.string n)) = some (.string n, H) := by
  simp only [primC, clo?, clo, cond_true, dflt, Option.getD_some, convert, pureRun_bind, pureRun_underlying hs, pureRun_underlying hd, Option.bind_some]
  rfl

def primI (P : Program) (H : Heap) (t : TypeId) (vx vi : Option Value) : Option (Value × Heap) :=
  bif clo? vx && clo? vi then toVal H (pureRun P (Instr.index t (dflt vx) (dflt vi))) else none

theorem aop_index {P : Program} {e : Env} {H : Heap} {t ty : TypeId} {x i : Operand} :
    aop P e H (.prim ⟨none, .index t x i, ty, "", #[], none⟩) = primI P H t (aval e x) (aval e i) := by
  rw [prim_eq (s := Instr.index t (dflt (aval e x)) (dflt (aval e i))) rfl]
  simp only [primI, Op.operands, List.all_cons, List.all_nil, Bool.and_true, cloOp_eq]

/-- The byte at a place. -/
def byteAt (H : Heap) (s : ByteArray) (i : Int) : Option (Value × Heap) :=
  match (if 0 ≤ i then s[i.toNat]? else none) with
  | some b => some (.int .u8 b.toNat, H)
  | none => none

theorem primI_str {P : Program} {H : Heap} {t : TypeId} {s : ByteArray} {k : IntKind} {i : Int} (ht : P.underlying t = some .string) : primI P H t (some (.string s)) (some (.int k i)) = byteAt H s i := by
  simp only [primI, clo?, clo, Bool.and_self, cond_true, dflt, Option.getD_some, Instr.index, pureRun_bind, pureRun_underlying ht, Option.bind_some, byteAt, asIntOf, pureRun_pure]
  split
  · rename_i h; rw [h]; rfl
  · rename_i h; rw [h]
    unfold boundsPanic
    split <;> rfl

def primL (P : Program) (H : Heap) (t ty : TypeId) (vx : Option Value) : Option (Value × Heap) :=
  bif clo? vx then toVal H (pureRun P (Builtin.len_ #[t] ty #[dflt vx])) else none

theorem aop_len {P : Program} {e : Env} {H : Heap} {t ty : TypeId} {x : Operand} :
    aop P e H (.prim ⟨none, .call ⟨.builtin .len, #[x], #[t]⟩, ty, "", #[], none⟩) = primL P H t ty (aval e x) := by
  rw [prim_eq (s := Builtin.len_ #[t] ty #[dflt (aval e x)]) (by simp only [execOp, resolve, invoke, builtin, List.map_toArray, List.map_cons, List.map_nil]; rfl)]
  simp only [primL, Op.operands, Call.operands, List.append_toArray, List.nil_append, List.all_cons, List.all_nil, Bool.and_true, cloOp_eq]

theorem primL_str {P : Program} {H : Heap} {t ty : TypeId} {s : ByteArray} (ht : P.underlying t = some .string) : primL P H t ty (some (.string s)) = some (.int .i64 s.size, H) := by
  simp only [primL, clo?, clo, cond_true, dflt, Option.getD_some, Builtin.len_, List.getElem?_toArray, List.getElem?_cons_zero, pureRun_bind, pureRun_underlying ht, Option.bind_some]
  rfl

/-- A string, by its bytes. -/
abbrev str (l : List UInt8) : Value := .string ⟨⟨l⟩⟩

def strL (H : Heap) (op : BinOp) (a b : List UInt8) : Option (Value × Heap) :=
  match op with
  | .add => if ((a.length + b.length : Nat) : Int) > IntKind.i64.max then none else some (str (a ++ b), H)
  | .eql => some (.bool (a == b), H)
  | .neq => some (.bool (!(a == b)), H)
  | .lss => some (.bool (Op.bytesLess a b), H)
  | .leq => some (.bool (Op.bytesLess a b || a == b), H)
  | .gtr => some (.bool (!(Op.bytesLess a b || a == b)), H)
  | .geq => some (.bool (!(Op.bytesLess a b)), H)
  | _ => none

theorem primB_strL {P : Program} {H : Heap} {op : BinOp} {t : TypeId} {x y : Operand} {a b : List UInt8} :
    primB P H op t x y (some (.string ⟨⟨a⟩⟩)) (some (.string ⟨⟨b⟩⟩)) = strL H op a b := by
  rw [primB_str]
  have h : (⟨⟨a⟩⟩ ++ ⟨⟨b⟩⟩ : ByteArray) = ⟨⟨a ++ b⟩⟩ := by
    have h1 : ((⟨⟨a⟩⟩ : ByteArray) ++ (⟨⟨b⟩⟩ : ByteArray)).data.toList = a ++ b := Joins.data_append _ _
    generalize (⟨⟨a⟩⟩ ++ ⟨⟨b⟩⟩ : ByteArray) = c at h1
    cases c with
    | mk d => cases d with
      | mk l => simp only at h1; rw [h1]
  have e1 : (ByteArray.mk ⟨a⟩).toList = a := ByteArray.toList_mk a
  have e2 : (ByteArray.mk ⟨b⟩).toList = b := ByteArray.toList_mk b
  cases op <;> simp only [strB, strL, e1, e2, h] <;> rfl

theorem primL_strL {P : Program} {H : Heap} {t ty : TypeId} {l : List UInt8} (ht : P.underlying t = some .string) : primL P H t ty (some (.string ⟨⟨l⟩⟩)) = some (.int .i64 l.length, H) := primL_str ht

def byteL (H : Heap) (l : List UInt8) (i : Int) : Option (Value × Heap) :=
  match (if 0 ≤ i then l[i.toNat]? else none) with
  | some b => some (.int .u8 b.toNat, H)
  | none => none

theorem primI_strL {P : Program} {H : Heap} {t : TypeId} {l : List UInt8} {k : IntKind} {i : Int} (ht : P.underlying t = some .string) : primI P H t (some (.string ⟨⟨l⟩⟩)) (some (.int k i)) = byteL H l i := by
  rw [primI_str ht]
  unfold byteAt byteL
  have : (⟨⟨l⟩⟩ : ByteArray)[i.toNat]? = l[i.toNat]? := by
    by_cases h : i.toNat < l.length
    · rw [List.getElem?_eq_getElem h, getElem?_pos (⟨⟨l⟩⟩ : ByteArray) i.toNat h]; rfl
    · rw [List.getElem?_eq_none (by omega), getElem?_neg (⟨⟨l⟩⟩ : ByteArray) i.toNat h]
  rw [this]

end Go.Abs
