/- Short words for lowered code; the machine's table of functions. Of no program. -/
import Derived.Test.YtfpocoongggehaaGreatDoorA37
import Derived.Test.YtfpocoongggehaaGreatDoorA23
set_option linter.all false
namespace Go.Abs
open Go

abbrev tm (n : Nat) : Operand := .tmp n
abbrev ki (n : Int) : Operand := .const (.int .i64 n)
abbrev ku (n : Int) : Operand := .const (.int .u64 n)
abbrev kb (n : Int) : Operand := .const (.int .u8 n)
abbrev kB (b : Bool) : Operand := .const (.bool b)
abbrev b2 (d : Nat) (op : BinOp) (t : TypeId) (x y : Operand) (t2 ty : TypeId) : LOp := ⟨some d, none, .prim ⟨none, .binOp op t x y t2, ty, "", #[], none⟩⟩
abbrev u1 (d : Nat) (op : UnOp) (t : TypeId) (x : Operand) (ty : TypeId) : LOp := ⟨some d, none, .prim ⟨none, .unOp op t x, ty, "", #[], none⟩⟩
abbrev cv (d : Nat) (a b : TypeId) (x : Operand) (ty : TypeId) : LOp := ⟨some d, none, .prim ⟨none, .convert a b x, ty, "", #[], none⟩⟩
abbrev ix (d : Nat) (t : TypeId) (x i : Operand) (ty : TypeId) : LOp := ⟨some d, none, .prim ⟨none, .index t x i, ty, "", #[], none⟩⟩
abbrev ln (d : Nat) (x : Operand) (t ty : TypeId) : LOp := ⟨some d, none, .prim ⟨none, .call ⟨.builtin .len, #[x], #[t]⟩, ty, "", #[], none⟩⟩
abbrev mo (d : Nat) (x : Operand) : LOp := ⟨some d, none, .mv x⟩
abbrev l1 (d : Nat) (x : Operand) : LOp := ⟨some d, none, .ld1 x⟩
abbrev l2 (d n : Nat) (x : Operand) : LOp := ⟨some d, none, .ldn n x⟩
abbrev fa (d n : Nat) (x : Operand) : LOp := ⟨some d, none, .fadr n x⟩
abbrev nc (d : Nat) (x : Operand) : LOp := ⟨some d, none, .nilck x⟩
abbrev nk (x : Operand) : LOp := ⟨none, none, .nilck x⟩
abbrev sr (n : Nat) (x v : Operand) : LOp := ⟨none, none, .st n x v⟩
abbrev ex (d : Nat) (x : Operand) (i : Nat) : LOp := ⟨some d, none, .ext x i⟩
abbrev fl (d a b : Nat) (c : Bool) (x : Operand) : LOp := ⟨some d, none, .fld a b c x⟩
abbrev is (d a : Nat) (x i : Operand) : LOp := ⟨some d, none, .iadrs a x i⟩
abbrev ca (d f : Nat) (a : List Operand) : LOp := ⟨some d, none, .call f a⟩
abbrev le (d : Nat) (m : Bool) (x : Operand) : LOp := ⟨some d, none, .len m x⟩
abbrev ap (d s b : Nat) (x y : Operand) : LOp := ⟨some d, none, .app s b x y⟩
abbrev oo (d : Nat) (op : AOp) : LOp := ⟨some d, none, op⟩

/-- A function and its lowered form. -/
def FnOk (P : Program) (n : Nat) (l : LFunc) : Prop := ∃ fn, P.funcs[n]? = some fn ∧ Low P fn l

theorem leafOk {P : Program} {n k : Nat} {lf l : LFunc} {fn : Func} (hf : P.funcs[k]? = some fn) (hl : Low P fn lf) (h : (bif Nat.beq n k then some lf else none) = some l) : FnOk P n l := by
  cases hb : Nat.beq n k with
  | false => rw [hb] at h; cases h
  | true =>
    rw [hb] at h
    cases h
    rw [Nat.eq_of_beq_eq_true hb]
    exact ⟨fn, hf, hl⟩
theorem nodeOk {c : Bool} {a b : Option LFunc} {l : LFunc} {Q : Prop} (ha : a = some l → Q) (hb : b = some l → Q) (h : (bif c then a else b) = some l) : Q := by
  cases c with
  | true => exact ha h
  | false => exact hb h

/-- What a closed text says of a call. -/
theorem isV_sem {E : Env0} {n d f : Nat} {a : List Value} {H : Heap} {v : Value} (h : isV v (fcall E n d f a H) = true) : ∃ H', semCall E f a H = some (v, H') := by
  cases hc : fcall E n d f a H with
  | none => rw [hc] at h; cases h
  | some p =>
    obtain ⟨u, H'⟩ := p
    rw [hc] at h
    have h : veq 3 u v = true := h
    letI : Fixed := ⟨default, fun _ => False⟩
    rw [← veq_eq h]
    exact ⟨H', fcall_sound E n d f a H _ hc⟩

/-- The machine with one hook more. -/
def withHook (E : Env0) (f : Nat) (h : List Value → Heap → Option (Value × Heap)) : Env0 := { E with hook := fun n => bif Nat.beq n f then some h else E.hook n }

section
variable [Fixed]

theorem envOk_withHook {E : Env0} (hE : EnvOk E) {f : Nat} {h : List Value → Heap → Option (Value × Heap)} (hp : Plain E.P f)
    (hh : ∀ args H r H', h args H = some (r, H') → ∀ σ w args', R σ H w → LRel σ args args' → CallOk E.P f args' σ H w r H') : EnvOk (withHook E f h) where
  fn := hE.fn
  mixed := hE.mixed
  hook := by
    intro n k hk
    simp only [withHook] at hk
    cases hb : Nat.beq n f with
    | false => rw [hb] at hk; exact hE.hook n k hk
    | true =>
      rw [hb] at hk
      cases hk
      rw [Nat.eq_of_beq_eq_true hb]
      exact ⟨hp, hh⟩

/-- A call without arguments that hands back a closed value. -/
def hkConst (v : Value) (args : List Value) (H : Heap) : Option (Value × Heap) := match args with
  | [] => some (v, H)
  | _ => none

theorem ok_const {E : Env0} (hE : EnvOk E) {n d f k : Nat} {v : Value} (h : isV v (fcall E n d f [] Heap.empty) = true) (hv : clo k v = true) :
    ∀ args H r H', hkConst v args H = some (r, H') → ∀ σ w args', R σ H w → LRel σ args args' → CallOk E.P f args' σ H w r H' := by
  intro args H r H' hh σ w args' hR ha
  unfold hkConst at hh
  split at hh
  · cases hh
    obtain ⟨H0, h0⟩ := isV_sem h
    exact CallOk.closed (k := 0) hE h0 rfl hv hR ha
  · cases hh

end

end Go.Abs
