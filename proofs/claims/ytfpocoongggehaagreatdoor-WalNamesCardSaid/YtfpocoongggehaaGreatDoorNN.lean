/- Joined texts: A34x, A34y, A39, K2, W8, W9, L5, N1, N2, N3. -/
import Derived.Test.YtfpocoongggehaaGreatDoorL4
set_option linter.all false
/- The equations of evaluation in one name. Of no program. -/
namespace Go.Abs
open Go
/-- The equations of evaluation, in one. -/
def X := PLift.up (
  And.intro @x_seq <|
  And.intro @x_cond <|
  And.intro @x_reg <|
  And.intro @x_cons <|
  And.intro @x_then <|
  And.intro @x_then_exit <|
  And.intro @x_then_ret <|
  And.intro @x_cond_true <|
  And.intro @x_cond_false <|
  And.intro @x_reg_some <|
  And.intro @x_ops_true <|
  And.intro @x_ops_false <|
  And.intro @x_opsD <|
  And.intro @x_block <|
  And.intro @x_end_exit <|
  And.intro @x_end_ret <|
  And.intro @x_end_normal <|
  And.intro @x_back_ret <|
  And.intro @x_back_normal <|
  And.intro @x_pack <|
  And.intro @x_ress_nil <|
  And.intro @x_ress_cons <|
  And.intro @x_ressC <|
  And.intro @x_res_tmp <|
  And.intro @x_pack1 <|
  And.intro @x_pack0 <|
  And.intro @x_pack2 <|
  And.intro @x_get <|
  And.intro @x_get_nil <|
  And.intro @x_put_some <|
  And.intro @x_put_none <|
  And.intro @x_keep <|
  And.intro @x_keep_nil <|
  And.intro @x_keep_cons <|
  And.intro @x_keepC_some <|
  And.intro @x_keepC_none <|
  And.intro @x_w_none <|
  And.intro @x_w_some <|
  And.intro @x_want <|
  And.intro @x_want_tuple <|
  And.intro @x_tmp <|
  And.intro @x_func <|
  And.intro @x_const_int <|
  And.intro @x_const_bool <|
  And.intro @x_const_str <|
  And.intro @x_const_ptr <|
  And.intro @x_const_slice <|
  And.intro @x_const_map <|
  And.intro @x_const_nilIface <|
  And.intro @x_const_nilFunc <|
  And.intro @x_mv <|
  And.intro @x_pick <|
  And.intro @x_alloc <|
  And.intro @x_box <|
  And.intro @x_build <|
  And.intro @x_ld1 <|
  And.intro @x_ldn <|
  And.intro @x_st <|
  And.intro @x_nilck <|
  And.intro @x_cmpref <|
  And.intro @x_mkiface <|
  And.intro @x_mkfunc <|
  And.intro @x_mkmap <|
  And.intro @x_mkslice <|
  And.intro @x_slcl <|
  And.intro @x_slca <|
  And.intro @x_fadr <|
  And.intro @x_fld <|
  And.intro @x_iadra <|
  And.intro @x_iadrs <|
  And.intro @x_idxa <|
  And.intro @x_look <|
  And.intro @x_mput <|
  And.intro @x_mdel <|
  And.intro @x_ext <|
  And.intro @x_len <|
  And.intro @x_app <|
  And.intro @x_copy <|
  And.intro @x_clear <|
  And.intro @x_cvsb <|
  And.intro @x_prim <|
  And.intro @aop_bin <|
  And.intro @aop_un <|
  And.intro @aop_conv <|
  And.intro @aop_index <|
  And.intro @aop_len <|
  And.intro @primB_int <|
  And.intro @primB_shl <|
  And.intro @primB_shr <|
  And.intro @primB_strL <|
  And.intro @primU_not <|
  And.intro @primC_u8 <|
  And.intro @primC_u16 <|
  And.intro @primC_u32 <|
  And.intro @primC_u64 <|
  And.intro @primC_i8 <|
  And.intro @primC_i16 <|
  And.intro @primC_i32 <|
  And.intro @primC_i64 <|
  And.intro @primL_strL <|
  And.intro @primI_strL <|
  And.intro @primU_neg <|
  And.intro @primU_xor <|
  And.intro @semOps_nil <|
  And.intro @sem_skip <|
  And.intro @sem_exit <|
  @sem_ret)

end Go.Abs

/- Evaluation by rewriting: calls, and max. Of no program. -/
namespace Go.Abs
open Go

section
variable {E : Env0} {e : Env} {H : Heap}

noncomputable def callC (E : Env0) (f : Nat) (vs : Option (List Value)) (H : Heap) : Option (Value × Heap) := match vs with
  | some vs => semCall E f vs H
  | none => none
@[congr] theorem callC_congr {E : Env0} {f : Nat} {vs vs' : Option (List Value)} {H : Heap} (h : vs = vs') : callC E f vs H = callC E f vs' H := by rw [h]
theorem x_call {f : Nat} {xs : List Operand} : semOp E (.call f xs) e H = callC E f (avals e xs) H := by
  rw [semOp_call]; unfold callC; rfl
theorem x_callC {f : Nat} {vs : List Value} : callC E f (some vs) H = semCall E f vs H := rfl
theorem x_vals_nil : avals e [] = some [] := rfl
theorem x_vals_cons {x : Operand} {xs : List Operand} : avals e (x :: xs) = ressC (aval e x) (avals e xs) := by
  unfold ressC; rw [avals]; rfl

def primM (P : Program) (H : Heap) (t ty : TypeId) (vx vy : Option Value) : Option (Value × Heap) :=
  bif clo? vx && clo? vy then toVal H (pureRun P (Builtin.max_ #[t, t] ty #[dflt vx, dflt vy])) else none
theorem aop_max {P : Program} {t ty : TypeId} {x y : Operand} :
    aop P e H (.prim ⟨none, .call ⟨.builtin .max, #[x, y], #[t, t]⟩, ty, "", #[], none⟩) = primM P H t ty (aval e x) (aval e y) := by
  rw [prim_eq (s := Builtin.max_ #[t, t] ty #[dflt (aval e x), dflt (aval e y)]) (by simp only [execOp, resolve, invoke, builtin, List.map_toArray, List.map_cons, List.map_nil]; rfl)]
  simp only [primM, Op.operands, Call.operands, List.append_toArray, List.nil_append, List.all_cons, List.all_nil, Bool.and_true, cloOp_eq]
theorem primM_int {P : Program} {H : Heap} {t ty : TypeId} {k : IntKind} {a b : Int} :
    primM P H t ty (some (.int k a)) (some (.int k b)) = some (.int k (if b > a then b else a), H) := by
  simp only [primM, clo?, clo, Bool.and_self, cond_true, dflt, Option.getD_some]
  first
    | rfl
    | (simp only [Builtin.max_, List.foldlM]; rfl)

/-! ### A string of one byte -/
theorem toArr (l : List UInt8) : l.toArray = Array.mk l := rfl
def bsl1 (v : Option Value) (H : Heap) : Option (Value × Heap) :=
  bif [Value.int .u8 0].all (clo 3) && Nat.beq [Value.int .u8 0].length 1 && Nat.ble (1 * 1) (2 ^ 24) then
    (match (match v with | some v => some [((0 : Nat), (1 : Nat), v)] | none => none) with
    | some vs => (match fillParts (repl [Value.int .u8 0] 1) vs with
      | some cs => bif cs.all oneCell then some (.slice (some ⟨H.next, 0, none⟩) 1 1, H.add (.row cs 1 false)) else none
      | none => none)
    | none => none) else none
def cvb1 (v : Option Value) (H : Heap) : Option (Value × Heap) := match v with
  | some (.slice none _ _) => some (.string .empty, H)
  | some (.slice (some ⟨b, o, none⟩) n _) => bif Nat.beq n 0 then some (.string .empty, H) else (match cellsAt H b o n with
    | some vs => bif vs.all isByte then some (.string ⟨(vs.map byteVal).toArray⟩, H) else none
    | none => none)
  | _ => none
theorem x_bsl1 {x : Operand} : semOp E (.bslice 1 1 [.int .u8 0] [(0, 1, x)]) e H = bsl1 (aval e x) H := by
  rw [x_bslice]
  unfold bsl1 partVals
  cases aval e x <;> rfl
theorem bsl1_is {b : Int} : bsl1 (some (.int .u8 b)) H = some (.slice (some ⟨H.next, 0, none⟩) 1 1, H.add (.row [.int .u8 b] 1 false)) := rfl
theorem x_cvb1 {x : Operand} : semOp E (.cvbs x) e H = cvb1 (aval e x) H := by rw [x_cvbs]; rfl
theorem cvb1_is {b : Int} : cvb1 (some (.slice (some ⟨H.next, 0, none⟩) 1 1)) (H.add (.row [.int .u8 b] 1 false)) = some (str [UInt8.ofNat b.toNat], H.add (.row [.int .u8 b] 1 false)) := by
  have hc : cellsAt (H.add (.row [.int .u8 b] 1 false)) H.next 0 1 = some [.int .u8 b] := by
    unfold cellsAt
    rw [show (H.add (.row [.int .u8 b] 1 false)).get H.next = some (.row [.int .u8 b] 1 false) by rw [Heap.get_add, if_pos rfl]]
    rfl
  unfold cvb1
  simp only [hc]
  rfl

theorem wu8 (n : Int) : IntKind.u8.wrap n = n % 256 := by simp [IntKind.wrap, IntKind.bits, IntKind.signed]
theorem wu32 (n : Int) : IntKind.u32.wrap n = n % 4294967296 := by simp [IntKind.wrap, IntKind.bits, IntKind.signed]
theorem wu64 (n : Int) : IntKind.u64.wrap n = n % 18446744073709551616 := by simp [IntKind.wrap, IntKind.bits, IntKind.signed]
theorem wi64 (n : Int) : IntKind.i64.wrap n = (n + 9223372036854775808) % 18446744073709551616 - 9223372036854775808 := by
  simp [IntKind.wrap, IntKind.bits, IntKind.signed]; split <;> omega
theorem beqTF : (true == false) = false := rfl
theorem beqFF : (false == false) = true := rfl
theorem beqTT : (true == true) = true := rfl
theorem beqFT : (false == true) = false := rfl
end

/-- X with calls. -/
def Y := PLift.up (
  And.intro @x_call <|
  And.intro @x_callC <|
  And.intro @x_vals_nil <|
  And.intro @x_vals_cons <|
  And.intro @aop_max <|
  And.intro @primM_int <|
  And.intro @x_bsl1 <|
  And.intro @bsl1_is <|
  And.intro @x_cvb1 <|
  And.intro @cvb1_is <|
  And.intro @toArr <|
  And.intro @beqTF <|
  And.intro @beqFF <|
  And.intro @beqTT <|
  @beqFT)

end Go.Abs

/- Evaluation by rewriting: parts of strings. Of no program. -/
namespace Go.Abs
open Go

section
variable {E : Env0} {e : Env} {H : Heap}

def slcC (v : Option Value) (lo hi : Option (Option Value)) (H : Heap) : Option (Value × Heap) := match v, lo, hi with
  | some (.string s), some lo, some hi => (match bounds s.size s.size lo hi with
    | some (l, h) => some (.string (s.extract l h), H)
    | none => none)
  | _, _, _ => none
theorem x_slcC {x : Operand} {lo hi : Option Operand} : semOp E (.slcs x lo hi) e H = slcC (aval e x) (avalo e lo) (avalo e hi) H := by
  rw [x_slcs]; unfold slcC; rfl
def optC (v : Option Value) : Option (Option Value) := match v with
  | some v => some (some v)
  | none => none
theorem x_avalo_none : avalo e none = some none := rfl
theorem x_avalo_some {x : Operand} : avalo e (some x) = optC (aval e x) := by
  simp only [avalo, optC]
  cases aval e x <;> rfl
theorem x_optC {v : Value} : optC (some v) = some (some v) := rfl

theorem getNat_int {k : IntKind} {i : Int} (h : 0 ≤ i) : getNat (some (.int k i)) = some i.toNat := by
  unfold getNat; simp [h]

theorem slc_hi {l : List UInt8} {k : IntKind} {i : Int} (h0 : 0 ≤ i) (h : i.toNat ≤ l.length) : slcC (some (str l)) (some none) (some (some (.int k i))) H = some (str (l.take i.toNat), H) := by
  have hs : (⟨⟨l⟩⟩ : ByteArray).size = l.length := rfl
  unfold slcC bounds
  simp only [getNat_int h0, hs, Nat.ble_eq_true_of_le (Nat.zero_le i.toNat), Nat.ble_eq_true_of_le h, Bool.and_self, cond_true, extractL]
  simp
theorem slc_lo {l : List UInt8} {k : IntKind} {i : Int} (h0 : 0 ≤ i) (h : i.toNat ≤ l.length) : slcC (some (str l)) (some (some (.int k i))) (some none) H = some (str (l.drop i.toNat), H) := by
  have hs : (⟨⟨l⟩⟩ : ByteArray).size = l.length := rfl
  unfold slcC bounds
  simp only [getNat_int h0, hs, Nat.ble_eq_true_of_le (Nat.le_refl l.length), Nat.ble_eq_true_of_le h, Bool.and_self, cond_true, extractL]
  rw [List.take_of_length_le (by rw [List.length_drop]; omega)]
theorem slc_both {l : List UInt8} {k k' : IntKind} {i j : Int} (h0 : 0 ≤ i) (h1 : i ≤ j) (h : j.toNat ≤ l.length) : slcC (some (str l)) (some (some (.int k i))) (some (some (.int k' j))) H = some (str ((l.drop i.toNat).take (j.toNat - i.toNat)), H) := by
  have hs : (⟨⟨l⟩⟩ : ByteArray).size = l.length := rfl
  unfold slcC bounds
  simp only [getNat_int h0, getNat_int (Int.le_trans h0 h1), hs, Nat.ble_eq_true_of_le (by omega : i.toNat ≤ j.toNat), Nat.ble_eq_true_of_le h, Bool.and_self, cond_true, extractL]

theorem byteL_is {l : List UInt8} {i : Int} {c : UInt8} (h0 : 0 ≤ i) (h : l[i.toNat]? = some c) : byteL H l i = some (.int .u8 c.toNat, H) := by
  unfold byteL; rw [if_pos h0, h]
end

/-- Parts of strings, in one. -/
def Z := PLift.up (
  And.intro @x_slcC <|
  And.intro @x_avalo_none <|
  And.intro @x_avalo_some <|
  @x_optC)

end Go.Abs

/- Names of segments, in plain Lean. Of no program. -/
namespace Go.Plain
open Go

/-- The name of a segment. -/
def nameL (u : Nat) : List UInt8 := ([115, 101, 103, 46] ++ Lib.repeatL [48] (8 - (natL u).length)) ++ natL u

/-- The number of a name. -/
def numberL (l : List UInt8) : Option Nat :=
  match Lib.parseUintB 64 (if 4 ≤ l.length ∧ l.take 4 = [115, 101, 103, 46] then l.drop 4 else l) with
  | .ok u => if nameL u = l then some u else none
  | _ => none

/-- Digits, none of nought. -/
def dg (n : Nat) : List UInt8 := if n = 0 then [] else natL n

theorem natL_len {u : Nat} (h : u < 18446744073709551616) : (natL u).length ≤ 20 := by
  rw [natL_eq h]
  have key : ∀ (k n : Nat), n < 10 ^ k → 0 < k → (Lib.decDigits n).length ≤ k := by
    intro k
    induction k with
    | zero => intro n _ h; omega
    | succ k ih =>
      intro n hn _
      rw [Lib.decDigits]
      split
      · simp
      · rename_i h10
        have : 0 < k := by
          rcases Nat.eq_zero_or_pos k with h0 | h0
          · subst h0; simp at hn; omega
          · exact h0
        have := ih (n / 10) (by rw [Nat.pow_succ] at hn; omega) this
        simp; omega
  exact key 20 u (by omega) (by omega)

theorem natL_pos {u : Nat} (h : u < 18446744073709551616) : 0 < (natL u).length := by
  rw [natL_eq h, Lib.decDigits]; split <;> simp

theorem dg_step {n : Nat} (h : 0 < n) (hn : n < 18446744073709551616) : dg n = dg (n / 10) ++ [UInt8.ofNat (48 + n % 10)] := by
  unfold dg
  rw [if_neg (by omega), natL_eq hn, natL_eq (by omega : n / 10 < 18446744073709551616)]
  rw [Lib.decDigits]
  by_cases h10 : n < 10
  · rw [dif_pos h10, if_pos (by omega), List.nil_append]
    rw [Nat.mod_eq_of_lt h10]
  · rw [dif_neg h10, if_neg (by omega)]

theorem rep_snoc : ∀ k : Nat, Lib.repeatL [48] k ++ [48] = Lib.repeatL [48] (k + 1) := by
  intro k
  induction k with
  | zero => rfl
  | succ k ih => show [48] ++ Lib.repeatL [48] k ++ [48] = [48] ++ Lib.repeatL [48] (k + 1); rw [← ih]; simp
theorem rep_len (k : Nat) : (Lib.repeatL [48] k).length = k := by rw [Lib.repeatL_length]; simp

/-- What the reference's loop comes to. -/
theorem nameL_dg {u : Nat} (h : u < 18446744073709551616) : nameL u = [115, 101, 103, 46] ++ (Lib.repeatL [48] (8 - (dg u).length) ++ dg u) := by
  unfold nameL dg
  split
  · subst u; rfl
  · rw [List.append_assoc]

/-! ### A number's digits come back -/

def digits (l : List UInt8) : Prop := ∀ c ∈ l, 48 ≤ c.toNat ∧ c.toNat ≤ 57
def valOf (acc : Nat) : List UInt8 → Nat
  | [] => acc
  | c :: r => valOf (acc * 10 + (c.toNat - 48)) r

theorem valOf_append (l m : List UInt8) : ∀ acc, valOf acc (l ++ m) = valOf (valOf acc l) m := by
  induction l with
  | nil => intro acc; rfl
  | cons c r ih => intro acc; exact ih _
theorem valOf_le (l : List UInt8) : ∀ acc, acc ≤ valOf acc l := by
  induction l with
  | nil => intro acc; exact Nat.le_refl _
  | cons c r ih => intro acc; exact Nat.le_trans (by omega) (ih _)

theorem dig_toNat (d : Nat) (h : d < 10) : (UInt8.ofNat (48 + d)).toNat = 48 + d := by
  rw [UInt8.toNat_ofNat']; omega

theorem dec_val (n : Nat) : valOf 0 (Lib.decDigits n) = n ∧ digits (Lib.decDigits n) := by
  induction n using Nat.strongRecOn with
  | _ n ih =>
    rw [Lib.decDigits]
    split
    · rename_i h
      refine ⟨?_, fun c hc => ?_⟩
      · show 0 * 10 + ((UInt8.ofNat (48 + n)).toNat - 48) = n
        rw [dig_toNat n h]; omega
      · rw [List.mem_singleton.1 hc, dig_toNat n h]; omega
    · rename_i h
      have := ih (n / 10) (by omega)
      refine ⟨?_, fun c hc => ?_⟩
      · rw [valOf_append, this.1]
        show n / 10 * 10 + ((UInt8.ofNat (48 + n % 10)).toNat - 48) = n
        rw [dig_toNat _ (by omega)]; omega
      · rcases List.mem_append.1 hc with h1 | h1
        · exact this.2 c h1
        · rw [List.mem_singleton.1 h1, dig_toNat _ (by omega)]; omega

theorem zeros_val (l : List UInt8) : ∀ k, valOf 0 (Lib.repeatL [48] k ++ l) = valOf 0 l := by
  intro k
  induction k with
  | zero => rfl
  | succ k ih => exact ih
theorem zeros_dig {l : List UInt8} (h : digits l) : ∀ k, digits (Lib.repeatL [48] k ++ l) := by
  intro k
  induction k with
  | zero => exact h
  | succ k ih =>
    intro c hc
    rcases List.mem_cons.1 (show c ∈ 48 :: (Lib.repeatL [48] k ++ l) from hc) with h1 | h1
    · subst h1; decide
    · exact ih c h1

theorem parse_ok : ∀ (l : List UInt8) (acc : Nat), digits l → valOf acc l ≤ 18446744073709551615 → Lib.parseUintM 18446744073709551615 acc l = .ok (valOf acc l) := by
  intro l
  induction l with
  | nil => intro acc _ _; rfl
  | cons c r ih =>
    intro acc hd hv
    have hc := hd c (List.mem_cons_self ..)
    have hle := valOf_le r (acc * 10 + (c.toNat - 48))
    have hv : valOf (acc * 10 + (c.toNat - 48)) r ≤ 18446744073709551615 := hv
    rw [Lib.parseUintM, if_pos hc, if_neg (by omega), if_neg (by omega)]
    exact ih _ (fun x hx => hd x (List.mem_cons_of_mem _ hx)) hv

/-- Behind the word stand the number's digits. -/
def tailL (u : Nat) : List UInt8 := Lib.repeatL [48] (8 - (natL u).length) ++ natL u
theorem nameL_tail (u : Nat) : nameL u = [115, 101, 103, 46] ++ tailL u := by unfold nameL tailL; rw [List.append_assoc]
theorem tail_dig {u : Nat} (h : u < 18446744073709551616) : digits (tailL u) := by
  unfold tailL; rw [natL_eq h]; exact zeros_dig (dec_val u).2 _
theorem tail_val {u : Nat} (h : u < 18446744073709551616) : valOf 0 (tailL u) = u := by
  unfold tailL; rw [natL_eq h, zeros_val]; exact (dec_val u).1
theorem tail_len {u : Nat} (h : u < 18446744073709551616) : 8 ≤ (tailL u).length ∧ (tailL u).length ≤ 20 := by
  unfold tailL
  have h1 := natL_len h
  have h2 := natL_pos h
  rw [List.length_append, rep_len]; omega
theorem tail_parse {u : Nat} (h : u < 18446744073709551616) : Lib.parseUintB 64 (tailL u) = .ok u := by
  unfold Lib.parseUintB
  have := tail_len h
  rw [if_neg (by intro h0; rw [h0] at this; simp at this)]
  have := parse_ok (tailL u) 0 (tail_dig h) (by rw [tail_val h]; omega)
  rw [tail_val h] at this
  exact this

theorem number_name {u : Nat} (h : u < 18446744073709551616) : numberL (nameL u) = some u := by
  unfold numberL
  have e : (nameL u).drop 4 = tailL u := by rw [nameL_tail]; rfl
  have t : (nameL u).take 4 = [115, 101, 103, 46] := by rw [nameL_tail]; rfl
  have ln : 4 ≤ (nameL u).length := by rw [nameL_tail, List.length_append]; simp
  rw [if_pos ⟨ln, t⟩, e, tail_parse h]
  simp

theorem parse_lt : ∀ (l : List UInt8) (acc u : Nat), acc < 18446744073709551616 → Lib.parseUintM 18446744073709551615 acc l = .ok u → u < 18446744073709551616 := by
  intro l
  induction l with
  | nil => intro acc u ha h; rw [Lib.parseUintM] at h; cases h; exact ha
  | cons c r ih =>
    intro acc u ha h
    rw [Lib.parseUintM] at h
    split at h
    · split at h
      · cases h
      · split at h
        · cases h
        · exact ih _ u (by omega) h
    · cases h
theorem parseB_lt {l : List UInt8} {u : Nat} (h : Lib.parseUintB 64 l = .ok u) : u < 18446744073709551616 := by
  unfold Lib.parseUintB at h
  split at h
  · cases h
  · exact parse_lt l 0 u (by omega) h

theorem number_some {l : List UInt8} {u : Nat} (h : numberL l = some u) : u < 18446744073709551616 ∧ l = nameL u := by
  unfold numberL at h
  split at h
  · rename_i v hv
    split at h
    · rename_i hn
      cases h
      exact ⟨parseB_lt hv, hn.symm⟩
    · cases h
  · cases h

/-! ### The reference's number -/

/-- What the reference's loop reads; none: a byte is no digit. -/
def readD (acc : Nat) : List UInt8 → Option Nat
  | [] => some acc
  | c :: r => if 48 ≤ c.toNat ∧ c.toNat ≤ 57 then readD ((10 * acc + (c.toNat - 48)) % 18446744073709551616) r else none

def refNumberL (l : List UInt8) : Nat × Bool :=
  if l.length < 12 ∨ 24 < l.length then (0, false) else
  match readD 0 (l.drop 4) with
  | none => (0, false)
  | some n => (n, nameL n == l)

theorem readD_lt : ∀ (l : List UInt8) (acc n : Nat), acc < 18446744073709551616 → readD acc l = some n → n < 18446744073709551616 := by
  intro l
  induction l with
  | nil => intro acc n ha h; cases h; exact ha
  | cons c r ih =>
    intro acc n ha h
    rw [readD] at h
    split at h
    · exact ih _ n (Nat.mod_lt _ (by omega)) h
    · cases h
theorem readD_val : ∀ (l : List UInt8) (acc : Nat), digits l → valOf acc l < 18446744073709551616 → readD acc l = some (valOf acc l) := by
  intro l
  induction l with
  | nil => intro acc _ _; rfl
  | cons c r ih =>
    intro acc hd hv
    have hc := hd c (List.mem_cons_self ..)
    have hle := valOf_le r (acc * 10 + (c.toNat - 48))
    have hv : valOf (acc * 10 + (c.toNat - 48)) r < 18446744073709551616 := hv
    rw [readD, if_pos hc, Nat.mod_eq_of_lt (by omega), Nat.mul_comm 10 acc]
    exact ih _ (fun x hx => hd x (List.mem_cons_of_mem _ hx)) hv

/-- The two numbers are the same. -/
theorem numbers (l : List UInt8) : (refNumberL l).2 = (numberL l).isSome ∧ (∀ u, numberL l = some u → (refNumberL l).1 = u) := by
  cases hn : numberL l with
  | some u =>
    obtain ⟨hu, rfl⟩ := number_some hn
    have htl := tail_len hu
    have hlen : (nameL u).length = 4 + (tailL u).length := by rw [nameL_tail, List.length_append]; rfl
    have e : (nameL u).drop 4 = tailL u := by rw [nameL_tail]; rfl
    have hr : refNumberL (nameL u) = (u, true) := by
      unfold refNumberL
      rw [if_neg (by omega), e, readD_val _ 0 (tail_dig hu) (by rw [tail_val hu]; exact hu), tail_val hu]
      simp
    rw [hr]
    exact ⟨rfl, fun v hv => by cases hv; rfl⟩
  | none =>
    refine ⟨?_, fun u hu => by cases hu⟩
    show (refNumberL l).2 = false
    unfold refNumberL
    split
    · rfl
    · split
      · rfl
      · rename_i n hr
        have hlt := readD_lt _ 0 n (by omega) hr
        cases hb : (nameL n == l) with
        | false => rfl
        | true =>
          have hb : nameL n = l := by simpa using hb
          rw [← hb, number_name hlt] at hn
          cases hn

end Go.Plain

/- What the file's own awake comes to on the machine (law08). -/
namespace Go.Proofs.YtfpocoongggehaaGreatDoor
theorem awake8_run : Abs.isV (.bool true) (Abs.fcall (EE false) 300 40 17 [] Abs.Heap.empty) = true := by kernel_rfl
end Go.Proofs.YtfpocoongggehaaGreatDoor

/- What the file's own awake comes to on the machine (law09). -/
namespace Go.Proofs.YtfpocoongggehaaGreatDoor
theorem awake9_run : Abs.isV (.bool true) (Abs.fcall (EE true) 300 40 45 [] Abs.Heap.empty) = true := by kernel_rfl
end Go.Proofs.YtfpocoongggehaaGreatDoor

/- The machine with the library's hooks, sum.Make's and the awakes'. -/
namespace Go.Proofs.YtfpocoongggehaaGreatDoor
open Go Go.Abs Go.RowKit

noncomputable def EA (pu : Bool) : Env0 := withHook (withHook (EE pu) 17 (hkConst (.bool true))) 45 (fun a H => bif pu then hkConst (.bool true) a H else none)

section
variable [Fixed]
theorem envOkE (pu : Bool) (hL : Laid0) (hM : pu = true → Laid1) : EnvOk (EE pu) :=
  envOk_withHook (envOk0 pu hL hM) (plain_of Tryz.func19 (by kernel_rfl) (by kernel_rfl)) (ok_const (k := 2) (envOk0 false hL (fun h => by cases h)) make_run (by kernel_rfl))
theorem envOkA (pu : Bool) (hL : Laid0) (hM : pu = true → Laid1) : EnvOk (EA pu) := by
  refine envOk_withHook (envOk_withHook (envOkE pu hL hM) (plain_of Tryz.func17 (by kernel_rfl) (by kernel_rfl)) (ok_const (k := 1) (envOkE false hL (fun h => by cases h)) awake8_run rfl)) (plain_of Tryz.func45 (by kernel_rfl) (by kernel_rfl)) ?_
  intro args H r H' hh
  cases pu with
  | false => cases hh
  | true => exact ok_const (k := 1) (envOkE true hL hM) awake9_run rfl args H r H' hh
end
end Go.Proofs.YtfpocoongggehaaGreatDoor

/- Names and numbers of segments: what the program's functions and the reference's come to on the machine. -/
namespace Go.Proofs.YtfpocoongggehaaGreatDoor
open Go Go.Abs Go.Plain

theorem EE_P (b : Bool) : (EA b).P = Tryz.prog := rfl
theorem tyStr : Tryz.prog.underlying 9 = some .string := Tryz.underlying9

theorem strL_add {H : Heap} {a b : List UInt8} (h : a.length + b.length ≤ 4000) : strL H .add a b = some (str (a ++ b), H) := by
  unfold strL
  simp only
  rw [if_neg (by show ¬ (((a.length + b.length : Nat) : Int) > 9223372036854775807); omega)]

theorem fmt_hook {b : Bool} {u : Nat} (hu : u < 18446744073709551616) (H : Heap) : semCall (EA b) 126 [.int .u64 (u : Int), .int .i64 10] H = some (str (natL u), H) := by
  rw [semCall_hook (h := hkFormat) (by cases b <;> rfl)]
  show (bif Nat.blt u 18446744073709551616 then some (str (natL u), H) else none) = _
  rw [(blt_iff _ _).2 hu]; rfl

theorem rep_hook {b : Bool} {c : Nat} (hc : c ≤ 100) (H : Heap) : semCall (EA b) 81 [str [48], .int .i64 (c : Int)] H = some (str (Lib.repeatL [48] c), H) := by
  rw [semCall_hook (h := hkRepeat) (by cases b <;> rfl)]
  show (bif Nat.ble (1 * c) 140737488355328 && Nat.ble c 9223372036854775807 then some (str (Lib.repeatL [48] c), H) else none) = _
  rw [Nat.ble_eq_true_of_le (by omega : 1 * c ≤ 140737488355328), Nat.ble_eq_true_of_le (by omega : c ≤ 9223372036854775807)]; rfl

theorem format_is {b : Bool} {u : Nat} (hu : u < 18446744073709551616) (H : Heap) : semCall (EA b) 80 [.int .u64 (u : Int), .int .i64 10] H = some (str (natL u), H) := by
  rw [call_fn (fn := lf80) (by cases b <;> rfl) rfl rfl]
  simp only [lf80, params, X.down, Y.down, if_pos, if_true, Nat.reduceEqDiff, if_false, EE_P, fmt_hook hu]

theorem pad_is (n : Nat) (h : n ≤ 20) : (if (0 : Int) > IntKind.i64.wrap (8 - (n : Int)) then 0 else IntKind.i64.wrap (8 - (n : Int))) = ((8 - n : Nat) : Int) := by
  have key : ∀ n : Fin 21, (if (0 : Int) > IntKind.i64.wrap (8 - ((n.1 : Nat) : Int)) then 0 else IntKind.i64.wrap (8 - ((n.1 : Nat) : Int))) = ((8 - n.1 : Nat) : Int) := by decide
  exact key ⟨n, by omega⟩

theorem name_is {b : Bool} {u : Nat} (hu : u < 18446744073709551616) (H : Heap) : semCall (EA b) 31 [.int .u64 (u : Int)] H = some (str (nameL u), H) := by
  have hl := natL_len hu
  rw [call_fn (fn := lf31) (by cases b <;> rfl) rfl rfl]
  simp only [lf31, params, X.down, Y.down, if_pos, if_true, Nat.reduceEqDiff, if_false, EE_P, format_is hu, tyStr, primL_strL, primB_strL, intB, toArr]
  rw [pad_is _ hl, rep_hook (by omega)]
  simp only [X.down, Y.down, if_pos, if_true, Nat.reduceEqDiff, if_false, EE_P, primB_strL]
  rw [strL_add (by rw [rep_len]; simp; omega)]
  simp only [X.down, if_pos, if_true, Nat.reduceEqDiff, if_false, EE_P, primB_strL]
  rw [strL_add (by rw [List.length_append, rep_len]; simp; omega)]
  simp only [X.down, if_pos, if_true, Nat.reduceEqDiff, if_false, EE_P]
  rfl

theorem digit_is (n : Nat) : UInt8.ofNat (IntKind.u8.wrap (IntKind.u64.wrap (48 + (n : Int).tmod 10))).toNat = UInt8.ofNat (48 + n % 10) := by
  have e : (n : Int).tmod 10 = ((n % 10 : Nat) : Int) := rfl
  rw [e, wu8, wu64]
  congr 1
  omega
theorem tenth_is (n : Nat) (h : n < 18446744073709551616) : IntKind.u64.wrap ((n : Int).tdiv 10) = ((n / 10 : Nat) : Int) := by
  have e : (n : Int).tdiv 10 = ((n / 10 : Nat) : Int) := rfl
  rw [e, wu64]; omega

theorem refName_loop {b : Bool} : ∀ (m k n : Nat) (s : List UInt8) (e : Env) (H : Heap), n + (8 - s.length) < m → n < 10 ^ k → s.length + k ≤ 30 → n < 18446744073709551616 →
    eget e 0 = some (.int .u64 (n : Int)) → eget e 3 = some (str s) →
    ∃ e' H', sem (EA b) lp32x0 e H = some (.exit 0, e', H') ∧ eget e' 3 = some (str (Lib.repeatL [48] (8 - (dg n ++ s).length) ++ (dg n ++ s))) := by
  intro m
  induction m with
  | zero => intro k n s e H h; omega
  | succ m ih =>
    intro k n s e H hm hk hs hn h0 h3
    have q10 : ((10 : Int) = 0) = False := by decide
    rw [x_loop (c := lp32x0) rfl]
    by_cases hn0 : n = 0
    · subst hn0
      by_cases hl : s.length < 8
      · have c1 : decide (((0 : Nat) : Int) > 0) = false := by decide
        have c2 : decide ((s.length : Int) < 8) = true := by simp; omega
        simp only [X.down, Y.down, h0, h3, if_pos, if_true, Nat.reduceEqDiff, if_false, EE_P, Ty, Option.isSome_some, primL_strL, primB_strL, intB, c1, c2, q10, digit_is, tenth_is _ hn]
        rw [strL_add (by simp; omega)]
        simp only [X.down, Y.down, if_pos, if_true, Nat.reduceEqDiff, if_false, EE_P, intB, q10, tenth_is _ hn]
        have key : Lib.repeatL [48] (8 - (dg 0 ++ s).length) ++ (dg 0 ++ s) = Lib.repeatL [48] (8 - (dg 0 ++ UInt8.ofNat (48 + 0 % 10) :: s).length) ++ (dg 0 ++ UInt8.ofNat (48 + 0 % 10) :: s) := by
          show Lib.repeatL [48] (8 - s.length) ++ s = Lib.repeatL [48] (8 - (s.length + 1)) ++ ([48] ++ s)
          rw [← List.append_assoc, rep_snoc, show 8 - (s.length + 1) + 1 = 8 - s.length by omega]
        rw [key]
        refine ih 0 0 (UInt8.ofNat (48 + 0 % 10) :: s) _ _ ?_ ?_ ?_ ?_ ?_ ?_
        · simp; omega
        · omega
        · simp; omega
        · omega
        · rfl
        · rfl
      · have c1 : decide (((0 : Nat) : Int) > 0) = false := by decide
        have c2 : decide ((s.length : Int) < 8) = false := by simp; omega
        simp only [X.down, Y.down, h0, h3, if_pos, if_true, Nat.reduceEqDiff, if_false, EE_P, Ty, Option.isSome_some, primL_strL, primB_strL, intB, c1, c2]
        refine ⟨_, _, rfl, ?_⟩
        simp only [X.down, Y.down, if_pos, if_true, Nat.reduceEqDiff, if_false, EE_P, intB, q10, tenth_is _ hn]
        rw [show dg 0 = [] from rfl, List.nil_append, show 8 - s.length = 0 by omega]
        rfl
    · have c1 : decide ((n : Int) > 0) = true := by simp; omega
      simp only [X.down, Y.down, h0, h3, if_pos, if_true, Nat.reduceEqDiff, if_false, EE_P, Ty, Option.isSome_some, primL_strL, primB_strL, intB, c1, q10, digit_is, tenth_is _ hn]
      rw [strL_add (by simp; omega)]
      simp only [X.down, Y.down, if_pos, if_true, Nat.reduceEqDiff, if_false, EE_P, intB, q10, tenth_is _ hn]
      have hk' : ∃ j, k = j + 1 := by
        cases k with
        | zero => simp at hk; omega
        | succ j => exact ⟨j, rfl⟩
      obtain ⟨j, rfl⟩ := hk'
      have hd := dg_step (Nat.pos_of_ne_zero hn0) hn
      have ea : dg (n / 10) ++ UInt8.ofNat (48 + n % 10) :: s = dg n ++ s := by rw [hd]; simp
      rw [← ea]
      refine ih j (n / 10) (UInt8.ofNat (48 + n % 10) :: s) _ _ ?_ ?_ ?_ ?_ ?_ ?_
      · simp; omega
      · rw [Nat.pow_succ] at hk; omega
      · simp; omega
      · omega
      · rfl
      · rfl

theorem refName_is {b : Bool} {u : Nat} (hu : u < 18446744073709551616) (H : Heap) : ∃ H', semCall (EA b) 32 [.int .u64 (u : Int)] H = some (str (nameL u), H') := by
  rw [call_fn (fn := lf32) (by cases b <;> rfl) rfl rfl]
  simp only [lf32, params, X.down, Y.down, if_pos, if_true, Nat.reduceEqDiff, if_false, EE_P]
  obtain ⟨e', H', h1, h2⟩ := refName_loop (b := b) (u + 9) 20 u [] [(3, str []), (2, str []), (0, .int .u64 (u : Int))] H (by simp) (by omega) (by simp) hu rfl rfl
  have hl := natL_len hu
  have hdl : (dg u).length ≤ 20 := by unfold dg; by_cases h : u = 0 <;> simp [h]; exact hl
  rw [List.append_nil] at h2
  rw [h1]
  simp only [X.down, Y.down, h2, if_pos, if_true, Nat.reduceEqDiff, if_false, EE_P, primB_strL]
  rw [strL_add (by rw [List.length_append, rep_len]; simp; omega)]
  simp only [X.down, if_pos, if_true, Nat.reduceEqDiff, if_false, EE_P]
  rw [nameL_dg hu]
  exact ⟨_, rfl⟩
end Go.Proofs.YtfpocoongggehaaGreatDoor

/- Numbers of segments' names: the program's and the reference's functions, and the law. -/
namespace Go.Proofs.YtfpocoongggehaaGreatDoor
open Go Go.Abs Go.Plain

theorem c4 : ((4 : Nat) : Int) = 4 := rfl
theorem bnTT : (true != true) = false := rfl
theorem bnFT : (false != true) = true := rfl
theorem bnTF : (true != false) = true := rfl
theorem bnFF : (false != false) = false := rfl

/-- A text cut behind the beginning. -/
def trimL (l : List UInt8) : List UInt8 := if 4 ≤ l.length ∧ l.take 4 = [115, 101, 103, 46] then l.drop 4 else l

theorem hasPre_is {b : Bool} (l : List UInt8) (H : Heap) : semCall (EA b) 169 [str l, str [115, 101, 103, 46]] H = some (.bool (decide (4 ≤ l.length ∧ l.take 4 = [115, 101, 103, 46])), H) := by
  rw [call_fn (fn := lf169) (by cases b <;> rfl) rfl rfl]
  by_cases h : 4 ≤ l.length
  · have c1 : decide ((l.length : Int) ≥ 4) = true := by simp; omega
    simp only [lf169, params, X.down, Y.down, Z.down, if_pos, if_true, Nat.reduceEqDiff, if_false, EE_P, Ty, primL_strL, primB_strL, intB, List.length_cons, List.length_nil, Nat.reduceAdd, c4, c1]
    rw [slc_hi (by decide) (by exact h)]
    simp only [X.down, Y.down, if_pos, if_true, Nat.reduceEqDiff, if_false, EE_P, primB_strL, Int.reduceToNat, strL]
    simp [h]
    rw [Bool.eq_iff_iff]; simp
  · have c1 : decide ((l.length : Int) ≥ 4) = false := by simp; omega
    simp only [lf169, params, X.down, Y.down, Z.down, if_pos, if_true, Nat.reduceEqDiff, if_false, EE_P, Ty, primL_strL, primB_strL, intB, List.length_cons, List.length_nil, Nat.reduceAdd, c4, c1]
    simp [h]

theorem trimI_is {b : Bool} (l : List UInt8) (H : Heap) : semCall (EA b) 125 [str l, str [115, 101, 103, 46]] H = some (str (trimL l), H) := by
  rw [call_fn (fn := lf125) (by cases b <;> rfl) rfl rfl]
  unfold trimL
  by_cases h : 4 ≤ l.length ∧ l.take 4 = [115, 101, 103, 46]
  · have c1 : decide (4 ≤ l.length ∧ l.take 4 = [115, 101, 103, 46]) = true := by simpa using h
    simp only [lf125, params, X.down, Y.down, Z.down, if_pos, if_true, Nat.reduceEqDiff, if_false, EE_P, Ty, primL_strL, primB_strL, intB, List.length_cons, List.length_nil, Nat.reduceAdd, c4, hasPre_is, c1]
    rw [slc_lo (by decide) (by exact h.1)]
    simp only [X.down, Y.down, if_pos, if_true, Nat.reduceEqDiff, if_false, EE_P, primB_strL, Int.reduceToNat]
    rw [if_pos h]
  · have c1 : decide (4 ≤ l.length ∧ l.take 4 = [115, 101, 103, 46]) = false := by simpa using h
    simp only [lf125, params, X.down, Y.down, Z.down, if_pos, if_true, Nat.reduceEqDiff, if_false, EE_P, Ty, primL_strL, primB_strL, intB, List.length_cons, List.length_nil, Nat.reduceAdd, c4, hasPre_is, c1]
    rw [if_neg h]

theorem trim_is {b : Bool} (l : List UInt8) (H : Heap) : semCall (EA b) 79 [str l, str [115, 101, 103, 46]] H = some (str (trimL l), H) := by
  rw [call_fn (fn := lf79) (by cases b <;> rfl) rfl rfl]
  simp only [lf79, params, X.down, Y.down, if_pos, if_true, Nat.reduceEqDiff, if_false, trimI_is]

/-- What a number's function hands back. -/
def numV (o : Option Nat) : Value := match o with
  | some u => .tuple #[.int .u64 (u : Int), .bool true]
  | none => .tuple #[.int .u64 0, .bool false]

theorem parse_hook (l : List UInt8) (hl : l.length ≤ 281474976710656) (H : Heap) : semCall (EA true) 78 [str l, .int .i64 10, .int .i64 64] H =
    (match Lib.parseUintB 64 l with
    | .ok u => some (.tuple ⟨[.int .u64 (u : Nat), .nilIface]⟩, H)
    | .range => some (.tuple ⟨[.int .u64 18446744073709551615, .iface 231 (.pointer (some ⟨H.next, 0, none⟩))]⟩, { H with next := H.next + 1 })
    | _ => some (.tuple ⟨[.int .u64 0, .iface 231 (.pointer (some ⟨H.next, 0, none⟩))]⟩, { H with next := H.next + 1 })) := by
  rw [semCall_hook (h := hkParse 231) rfl]
  show (bif Nat.ble l.length 281474976710656 then _ else none) = _
  rw [Nat.ble_eq_true_of_le hl]; rfl

theorem trimL_len (l : List UInt8) : (trimL l).length ≤ l.length := by
  unfold trimL; split
  · rw [List.length_drop]; omega
  · exact Nat.le_refl _

theorem numberL_trim (l : List UInt8) : numberL l = (match Lib.parseUintB 64 (trimL l) with
  | .ok u => if nameL u = l then some u else none
  | _ => none) := rfl

theorem number_is (l : List UInt8) (hl : l.length ≤ 1000) (H : Heap) : ∃ H', semCall (EA true) 29 [str l] H = some (numV (numberL l), H') := by
  rw [call_fn (fn := lf29) rfl rfl rfl]
  have ht : (trimL l).length ≤ 281474976710656 := Nat.le_trans (trimL_len l) (by omega)
  rw [numberL_trim]
  simp only [lf29, params, X.down, Y.down, if_pos, if_true, Nat.reduceEqDiff, if_false, trim_is, parse_hook _ ht]
  cases hp : Lib.parseUintB 64 (trimL l) with
  | ok u =>
    have hu := parseB_lt hp
    simp only [X.down, Y.down, if_pos, if_true, Nat.reduceEqDiff, if_false, name_is hu, List.getElem?_cons_zero, List.getElem?_cons_succ, nilness, bnTT, bnFT, bnTF, bnFF, EE_P, primB_strL, strL]
    by_cases h : nameL u = l
    · have c : (!(nameL u == l)) = false := by simp [h]
      simp only [X.down, Y.down, if_pos, if_true, Nat.reduceEqDiff, if_false, c, if_pos h]
      exact ⟨_, rfl⟩
    · have c : (!(nameL u == l)) = true := by simp [h]
      simp only [X.down, Y.down, if_pos, if_true, Nat.reduceEqDiff, if_false, c, if_neg h]
      exact ⟨_, rfl⟩
  | range =>
    simp only [X.down, Y.down, if_pos, if_true, Nat.reduceEqDiff, if_false, List.getElem?_cons_zero, List.getElem?_cons_succ, nilness, bnTT, bnFT, bnTF, bnFF, EE_P, primB_strL, strL]
    exact ⟨_, rfl⟩
  | _ =>
    simp only [X.down, Y.down, if_pos, if_true, Nat.reduceEqDiff, if_false, List.getElem?_cons_zero, List.getElem?_cons_succ, nilness, bnTT, bnFT, bnTF, bnFF, EE_P, primB_strL, strL]
    exact ⟨_, rfl⟩

/-! ### The reference's -/

theorem next_is (acc : Nat) (c : UInt8) (h0 : 48 ≤ c.toNat) : IntKind.u64.wrap (IntKind.u64.wrap (10 * (acc : Int)) + IntKind.u64.wrap (IntKind.u8.wrap ((c.toNat : Int) - 48))) = (((10 * acc + (c.toNat - 48)) % 18446744073709551616 : Nat) : Int) := by
  have := c.toNat_lt
  rw [wu64, wu64, wu64, wu8]
  omega
theorem succ_is (i : Nat) (h : i < 4000) : IntKind.i64.wrap ((i : Int) + 1) = ((i + 1 : Nat) : Int) := by
  rw [wi64]; omega

theorem refNumber_loop (l : List UInt8) (hl : l.length ≤ 1000) : ∀ (m i acc : Nat) (e : Env) (H : Heap), l.length - i < m → i ≤ l.length →
    eget e 0 = some (str l) → eget e 4 = some (.int .u64 (acc : Int)) → eget e 5 = some (.int .i64 (i : Int)) →
    (match readD acc (l.drop i) with
    | some n => ∃ e' H', sem (EA true) lp30x0 e H = some (.exit 0, e', H') ∧ eget e' 0 = some (str l) ∧ eget e' 4 = some (.int .u64 (n : Int))
    | none => ∃ e' H', sem (EA true) lp30x0 e H = some (.ret, e', H') ∧ eget e' 2 = some (.int .u64 0) ∧ eget e' 3 = some (.bool false)) := by
  intro m
  induction m with
  | zero => intro i acc e H h; omega
  | succ m ih =>
    intro i acc e H hm hi h0 h4 h5
    rw [x_loop (c := lp30x0) rfl]
    by_cases hlt : i < l.length
    · have c1 : decide ((i : Int) < (l.length : Int)) = true := by simp; omega
      have hd : l.drop i = l[i] :: l.drop (i + 1) := List.drop_eq_getElem_cons hlt
      have hb : l[((i : Int)).toNat]? = some l[i] := by rw [Int.toNat_natCast, List.getElem?_eq_getElem hlt]
      rw [hd]
      simp only [X.down, Y.down, h0, h4, h5, if_pos, if_true, Nat.reduceEqDiff, if_false, EE_P, Ty, Option.isSome_some, primL_strL, primI_strL, intB, c1]
      rw [byteL_is (c := l[i]) (by omega) hb]
      by_cases k0 : l[i].toNat < 48
      · have c2 : decide ((l[i].toNat : Int) < 48) = true := by simp; omega
        simp only [X.down, Y.down, if_pos, if_true, Nat.reduceEqDiff, if_false, EE_P, intB, c2]
        rw [readD, if_neg (by omega)]
        exact ⟨_, _, rfl, rfl, rfl⟩
      · have c2 : decide ((l[i].toNat : Int) < 48) = false := by simp; omega
        simp only [X.down, Y.down, if_pos, if_true, Nat.reduceEqDiff, if_false, EE_P, Ty, primI_strL, intB, c2]
        rw [byteL_is (c := l[i]) (by omega) hb]
        by_cases k1 : 57 < l[i].toNat
        · have c3 : decide ((l[i].toNat : Int) > 57) = true := by simp; omega
          simp only [X.down, Y.down, if_pos, if_true, Nat.reduceEqDiff, if_false, EE_P, intB, c3]
          rw [readD, if_neg (by omega)]
          exact ⟨_, _, rfl, rfl, rfl⟩
        · have c3 : decide ((l[i].toNat : Int) > 57) = false := by simp; omega
          simp only [X.down, Y.down, if_pos, if_true, Nat.reduceEqDiff, if_false, EE_P, Ty, Option.isSome_some, primI_strL, intB, c3]
          rw [byteL_is (c := l[i]) (by omega) hb]
          simp only [X.down, Y.down, if_pos, if_true, Nat.reduceEqDiff, if_false, EE_P, Ty, Option.isSome_some, primI_strL, intB, next_is acc _ (by omega : 48 ≤ l[i].toNat), succ_is i (by omega)]
          rw [readD, if_pos (by omega)]
          refine ih (i + 1) _ _ _ ?_ ?_ ?_ ?_ ?_
          · omega
          · omega
          · rfl
          · rfl
          · rfl
    · have c1 : decide ((i : Int) < (l.length : Int)) = false := by simp; omega
      rw [List.drop_eq_nil_of_le (by omega), readD]
      simp only [X.down, Y.down, h0, h4, h5, if_pos, if_true, Nat.reduceEqDiff, if_false, EE_P, Ty, primL_strL, intB, c1]
      exact ⟨_, _, rfl, rfl, rfl⟩

theorem refNumber_is (l : List UInt8) (hl : l.length ≤ 1000) (H : Heap) : ∃ H', semCall (EA true) 30 [str l] H = some (.tuple #[.int .u64 ((refNumberL l).1 : Int), .bool (refNumberL l).2], H') := by
  rw [call_fn (fn := lf30) rfl rfl rfl]
  unfold refNumberL
  by_cases k0 : l.length < 12
  · have c1 : decide ((l.length : Int) < 12) = true := by simp; omega
    rw [if_pos (by omega)]
    simp only [lf30, params, X.down, Y.down, if_pos, if_true, Nat.reduceEqDiff, if_false, EE_P, Ty, primL_strL, intB, c1]
    exact ⟨_, rfl⟩
  · have c1 : decide ((l.length : Int) < 12) = false := by simp; omega
    by_cases k1 : 24 < l.length
    · have c2 : decide ((l.length : Int) > 24) = true := by simp; omega
      rw [if_pos (by omega)]
      simp only [lf30, params, X.down, Y.down, if_pos, if_true, Nat.reduceEqDiff, if_false, EE_P, Ty, primL_strL, intB, c1, c2]
      exact ⟨_, rfl⟩
    · have c2 : decide ((l.length : Int) > 24) = false := by simp; omega
      rw [if_neg (by omega)]
      simp only [lf30, params, X.down, Y.down, if_pos, if_true, Nat.reduceEqDiff, if_false, EE_P, Ty, primL_strL, intB, c1, c2]
      have key := refNumber_loop l hl (l.length + 1) 4 0 [(5, .int .i64 4), (4, .int .u64 0), (0, str l)] H (by omega) (by omega) rfl rfl rfl
      cases hr : readD 0 (l.drop 4) with
      | none =>
        rw [hr] at key
        obtain ⟨e', H', h1, h2, h3⟩ := key
        rw [h1]
        simp only [X.down, Y.down, if_pos, if_true, Nat.reduceEqDiff, if_false, h2, h3]
        exact ⟨_, rfl⟩
      | some n =>
        rw [hr] at key
        obtain ⟨e', H', h1, h2, h3⟩ := key
        have hn := readD_lt _ 0 n (by omega) hr
        obtain ⟨H2, hN⟩ := refName_is (b := true) hn H'
        rw [h1]
        simp only [X.down, Y.down, if_pos, if_true, Nat.reduceEqDiff, if_false, h2, h3, hN, EE_P, primB_strL, strL]
        exact ⟨_, rfl⟩

end Go.Proofs.YtfpocoongggehaaGreatDoor

/- WalNames on the machine. -/
namespace Go.Proofs.YtfpocoongggehaaGreatDoor
open Go Go.Abs Go.Plain

theorem toArrV (l : List Value) : l.toArray = Array.mk l := rfl
theorem eqIn_bool {P : Program} {t : TypeId} {a b : Bool} (d : Nat) (ht : P.underlying t = some .bool) : pureRun P (Op.equalIn (d + 1) t (.bool a) (.bool b)) = some (a == b) := by
  rw [Op.equalIn]
  rw [pureRun_bind, pureRun_underlying ht]
  rfl
theorem primB_boolE {P : Program} {H : Heap} {t : TypeId} {x y : Operand} {a b : Bool} (ht : P.underlying t = some .bool) : primB P H .eql t x y (some (.bool a)) (some (.bool b)) = some (.bool (a == b), H) := by
  show toVal H (pureRun P (do eqGuard .eql t x y (.bool a) (.bool b); binOp .eql t (.bool a) (.bool b))) = _
  rw [pureRun_bind, show pureRun P (eqGuard .eql t x y (.bool a) (.bool b)) = some () from rfl, Option.bind_some]
  rw [show binOp .eql t (.bool a) (.bool b) = (do pure (.bool (← Op.equalIn Op.maxDepth t (.bool a) (.bool b)))) from rfl]
  rw [pureRun_bind, show Op.maxDepth = (Op.maxDepth - 1) + 1 from rfl, eqIn_bool _ ht]
  rfl
theorem awake8_hook {b : Bool} (H : Heap) : semCall (EA b) 17 [] H = some (.bool true, H) := semCall_hook (h := hkConst (.bool true)) (by cases b <;> rfl)

theorem nameL_len {u : Nat} (h : u < 18446744073709551616) : (nameL u).length ≤ 1000 := by
  have := tail_len h
  rw [nameL_tail, List.length_append]
  show 4 + (tailL u).length ≤ 1000
  omega

theorem walNames_is {n : Nat} (hn : n < 18446744073709551616) (l : List UInt8) (H : Heap) : ∃ H', semCall (EA true) 5 [.int .u64 (n : Int), str l] H = some (.bool true, H') := by
  rw [call_fn (fn := lf5) rfl rfl rfl]
  have start : ∃ l' : List UInt8, l'.length ≤ 1000 ∧ l' = (if l.length > 100 then l.take 100 else l) := by
    refine ⟨if l.length > 100 then l.take 100 else l, ?_, rfl⟩
    split
    · rw [List.length_take]; omega
    · omega
  obtain ⟨l', hl', e0⟩ := start
  obtain ⟨H1, q1⟩ := number_is l' hl' H
  obtain ⟨H2, q2⟩ := refNumber_is l' hl' H1
  obtain ⟨H3, q3⟩ := number_is (nameL n) (nameL_len hn) H2
  obtain ⟨H4, q4⟩ := refName_is (b := true) hn H3
  rw [number_name hn] at q3
  have key := numbers l'
  by_cases h : l.length > 100
  · have c1 : decide ((l.length : Int) > 100) = true := by simp; omega
    rw [if_pos h] at e0
    simp only [lf5, params, X.down, Y.down, Z.down, if_pos, if_true, Nat.reduceEqDiff, if_false, EE_P, Ty, primL_strL, intB, c1]
    rw [slc_hi (by decide) (by show 100 ≤ l.length; omega), show (100 : Int).toNat = 100 from rfl, ← e0]
    cases hc : numberL l' with
    | some u =>
      rw [hc] at q1 key
      have r1 := key.2 u rfl
      have r2 : (refNumberL l').2 = true := key.1
      rw [r1, r2] at q2
      simp only [X.down, Y.down, Z.down, if_pos, if_true, Nat.reduceEqDiff, if_false, EE_P, Ty, q1, q2, q3, q4, numV, toArrV, List.getElem?_cons_zero, List.getElem?_cons_succ, name_is hn, primB_strL, strL, intB, beq_self_eq_true, primB_boolE, Bool.not_true, Bool.not_false, awake8_hook]
      exact ⟨_, rfl⟩
    | none =>
      rw [hc] at q1 key
      have r2 : (refNumberL l').2 = false := key.1
      rw [r2] at q2
      simp only [X.down, Y.down, Z.down, if_pos, if_true, Nat.reduceEqDiff, if_false, EE_P, Ty, q1, q2, q3, q4, numV, toArrV, List.getElem?_cons_zero, List.getElem?_cons_succ, name_is hn, primB_strL, strL, intB, beq_self_eq_true, primB_boolE, Bool.not_true, Bool.not_false, awake8_hook]
      exact ⟨_, rfl⟩
  · have c1 : decide ((l.length : Int) > 100) = false := by simp; omega
    rw [if_neg h] at e0
    subst e0
    cases hc : numberL l' with
    | some u =>
      rw [hc] at q1 key
      have r1 := key.2 u rfl
      have r2 : (refNumberL l').2 = true := key.1
      rw [r1, r2] at q2
      simp only [lf5, params, X.down, Y.down, Z.down, if_pos, if_true, Nat.reduceEqDiff, if_false, EE_P, Ty, primL_strL, c1, q1, q2, q3, q4, numV, toArrV, List.getElem?_cons_zero, List.getElem?_cons_succ, name_is hn, primB_strL, strL, intB, beq_self_eq_true, primB_boolE, Bool.not_true, Bool.not_false, awake8_hook]
      exact ⟨_, rfl⟩
    | none =>
      rw [hc] at q1 key
      have r2 : (refNumberL l').2 = false := key.1
      rw [r2] at q2
      simp only [lf5, params, X.down, Y.down, Z.down, if_pos, if_true, Nat.reduceEqDiff, if_false, EE_P, Ty, primL_strL, c1, q1, q2, q3, q4, numV, toArrV, List.getElem?_cons_zero, List.getElem?_cons_succ, name_is hn, primB_strL, strL, intB, beq_self_eq_true, primB_boolE, Bool.not_true, Bool.not_false, awake8_hook]
      exact ⟨_, rfl⟩

end Go.Proofs.YtfpocoongggehaaGreatDoor

