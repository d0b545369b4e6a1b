/- A faster evaluator: what it says, the abstract machine says. Of no program. -/
import Derived.Test.YtfpocoongggehaaGreatDoorA34
set_option linter.all false
set_option linter.unusedVariables false
namespace Go.Abs
open Go

/-- What has been made ready: 'un' of a closed text is worked out once. -/
structure Bx (α : Type) where
  un : α

/-! ### Quick forms: what is taken apart often -/


noncomputable def vB (v : Value) : Option (Bool) := Value.rec (motive_1 := fun _ => Option (Bool)) (motive_2 := fun _ => Unit) (motive_3 := fun _ => Unit) (fun b => some b) (fun _ _ => none) (fun _ _ => none) (fun _ _ _ => none) (fun _ => none) (fun _ => none) (fun _ _ _ => none) (fun _ => none) (fun _ => none) (fun _ _ _ _ _ => none) none (fun _ _ _ => none) none (fun _ _ => none) (fun _ _ => none) (fun _ _ => ()) () (fun _ _ _ _ => ()) v
noncomputable def vI (v : Value) : Option (IntKind × Int) := Value.rec (motive_1 := fun _ => Option (IntKind × Int)) (motive_2 := fun _ => Unit) (motive_3 := fun _ => Unit) (fun _ => none) (fun k n => some (k, n)) (fun _ _ => none) (fun _ _ _ => none) (fun _ => none) (fun _ => none) (fun _ _ _ => none) (fun _ => none) (fun _ => none) (fun _ _ _ _ _ => none) none (fun _ _ _ => none) none (fun _ _ => none) (fun _ _ => none) (fun _ _ => ()) () (fun _ _ _ _ => ()) v
noncomputable def vS (v : Value) : Option (List UInt8) := Value.rec (motive_1 := fun _ => Option (List UInt8)) (motive_2 := fun _ => Unit) (motive_3 := fun _ => Unit) (fun _ => none) (fun _ _ => none) (fun _ _ => none) (fun _ _ _ => none) (fun s => some s.data.toList) (fun _ => none) (fun _ _ _ => none) (fun _ => none) (fun _ => none) (fun _ _ _ _ _ => none) none (fun _ _ _ => none) none (fun _ _ => none) (fun _ _ => none) (fun _ _ => ()) () (fun _ _ _ _ => ()) v
noncomputable def vPo (v : Value) : Option (Option Addr) := Value.rec (motive_1 := fun _ => Option (Option Addr)) (motive_2 := fun _ => Unit) (motive_3 := fun _ => Unit) (fun _ => none) (fun _ _ => none) (fun _ _ => none) (fun _ _ _ => none) (fun _ => none) (fun a => some a) (fun _ _ _ => none) (fun _ => none) (fun _ => none) (fun _ _ _ _ _ => none) none (fun _ _ _ => none) none (fun _ _ => none) (fun _ _ => none) (fun _ _ => ()) () (fun _ _ _ _ => ()) v
noncomputable def vSl (v : Value) : Option (Option Addr × Nat × Nat) := Value.rec (motive_1 := fun _ => Option (Option Addr × Nat × Nat)) (motive_2 := fun _ => Unit) (motive_3 := fun _ => Unit) (fun _ => none) (fun _ _ => none) (fun _ _ => none) (fun _ _ _ => none) (fun _ => none) (fun _ => none) (fun a l c => some (a, l, c)) (fun _ => none) (fun _ => none) (fun _ _ _ _ _ => none) none (fun _ _ _ => none) none (fun _ _ => none) (fun _ _ => none) (fun _ _ => ()) () (fun _ _ _ _ => ()) v
noncomputable def vA (v : Value) : Option (List Value) := Value.rec (motive_1 := fun _ => Option (List Value)) (motive_2 := fun _ => Unit) (motive_3 := fun _ => Unit) (fun _ => none) (fun _ _ => none) (fun _ _ => none) (fun _ _ _ => none) (fun _ => none) (fun _ => none) (fun _ _ _ => none) (fun _ => none) (fun _ => none) (fun _ _ _ _ _ => none) none (fun _ _ _ => none) none (fun c _ => some c.toList) (fun _ _ => none) (fun _ _ => ()) () (fun _ _ _ _ => ()) v
noncomputable def vT (v : Value) : Option (List Value) := Value.rec (motive_1 := fun _ => Option (List Value)) (motive_2 := fun _ => Unit) (motive_3 := fun _ => Unit) (fun _ => none) (fun _ _ => none) (fun _ _ => none) (fun _ _ _ => none) (fun _ => none) (fun _ => none) (fun _ _ _ => none) (fun _ => none) (fun _ => none) (fun _ _ _ _ _ => none) none (fun _ _ _ => none) none (fun _ _ => none) (fun c _ => some c.toList) (fun _ _ => ()) () (fun _ _ _ _ => ()) v

theorem vB_iff {v : Value} {b : Bool} : vB v = some b ↔ v = .bool b := by cases v <;> simp [vB]
theorem vI_iff {v : Value} {p : IntKind × Int} : vI v = some p ↔ v = .int p.1 p.2 := by
  cases v <;> simp [vI, Prod.ext_iff]
theorem vS_iff {v : Value} {l : List UInt8} : vS v = some l ↔ v = .string ⟨⟨l⟩⟩ := by
  cases v <;> simp [vS]
  rename_i s
  cases s with | mk d => cases d; simp
theorem vPo_iff {v : Value} {a : Option Addr} : vPo v = some a ↔ v = .pointer a := by cases v <;> simp [vPo]
theorem vSl_iff {v : Value} {p : Option Addr × Nat × Nat} : vSl v = some p ↔ v = .slice p.1 p.2.1 p.2.2 := by
  cases v <;> simp [vSl, Prod.ext_iff]
theorem vA_iff {v : Value} {l : List Value} : vA v = some l ↔ v = .agg ⟨l⟩ := by
  cases v <;> simp [vA]
  rename_i c; cases c; simp
theorem vT_iff {v : Value} {l : List Value} : vT v = some l ↔ v = .tuple ⟨l⟩ := by
  cases v <;> simp [vT]
  rename_i c; cases c; simp

/-- First one thing, then another one. -/
noncomputable def ob {α β : Type} (x : Option α) (f : α → Option β) : Option β := Option.rec (motive := fun _ => Option β) none f x

theorem ob_some {α β : Type} {x : Option α} {f : α → Option β} {r : β} : ob x f = some r ↔ ∃ a, x = some a ∧ f a = some r := by
  cases x <;> simp [ob]

/-- A plain address. -/
noncomputable def aP (a : Option Addr) : Option (Nat × Nat) := ob a fun a => Option.rec (motive := fun _ => Option (Nat × Nat)) (some (a.block, a.off)) (fun _ => none) a.spot

theorem aP_iff {a : Option Addr} {p : Nat × Nat} : aP a = some p ↔ a = some ⟨p.1, p.2, none⟩ := by
  cases a with
  | none => simp [aP, ob]
  | some a =>
    obtain ⟨b, o, s⟩ := a
    obtain ⟨x, y⟩ := p
    cases s <;> simp [aP, ob]

noncomputable def vP (v : Value) : Option (Nat × Nat) := ob (vPo v) aP
theorem vP_iff {v : Value} {p : Nat × Nat} : vP v = some p ↔ v = .pointer (some ⟨p.1, p.2, none⟩) := by
  unfold vP
  rw [ob_some]
  constructor
  · rintro ⟨a, h1, h2⟩; rw [vPo_iff] at h1; rw [aP_iff] at h2; rw [h1, h2]
  · intro h; exact ⟨some ⟨p.1, p.2, none⟩, vPo_iff.2 h, aP_iff.2 rfl⟩

noncomputable def bR (b : Blk) : Option (List Value × Nat × Bool) := Blk.rec (motive := fun _ => Option (List Value × Nat × Bool)) (fun cs sz ro => some (cs, sz, ro)) (fun _ => none) b
theorem bR_iff {b : Blk} {p : List Value × Nat × Bool} : bR b = some p ↔ b = .row p.1 p.2.1 p.2.2 := by
  cases b <;> simp [bR, Prod.ext_iff]

noncomputable def fnth (l : List Value) (n : Nat) : Option Value :=
  List.rec (motive := fun _ => Nat → Option Value) (fun _ => none) (fun v _ ih n => Nat.rec (motive := fun _ => Option Value) (some v) (fun m _ => ih m) n) l n

theorem fnth_eq : ∀ (l : List Value) (n : Nat), fnth l n = l[n]? := by
  intro l
  induction l with
  | nil => intro n; rfl
  | cons v l ih =>
    intro n
    cases n with
    | zero => rfl
    | succ n => exact ih n

/-! ### Whole numbers -/

/-- A number that is worked out now. -/
noncomputable def mkI (k : IntKind) (n : Int) (H : Heap) : Option (Value × Heap) :=
  Int.rec (motive := fun _ => Option (Value × Heap)) (fun m => Nat.rec (motive := fun _ => Option (Value × Heap)) (some (.int k (Int.ofNat 0), H)) (fun m _ => some (.int k (Int.ofNat (Nat.succ m)), H)) m) (fun m => some (.int k (Int.negSucc m), H)) n
theorem mkI_eq (k : IntKind) (n : Int) (H : Heap) : mkI k n H = some (.int k n, H) := by
  cases n with
  | ofNat m => cases m <;> rfl
  | negSucc m => rfl

noncomputable def mkB (b : Bool) (H : Heap) : Option (Value × Heap) := Bool.rec (motive := fun _ => Option (Value × Heap)) (some (.bool false, H)) (some (.bool true, H)) b
theorem mkB_eq (b : Bool) (H : Heap) : mkB b H = some (.bool b, H) := by cases b <;> rfl

noncomputable def limK (k : IntKind) : Nat := IntKind.rec (motive := fun _ => Nat) 128 32768 2147483648 9223372036854775808 256 65536 4294967296 18446744073709551616 k

noncomputable def fwrap (k : IntKind) (n : Int) : Int :=
  Int.rec (motive := fun _ => Int) (fun m => Bool.rec (motive := fun _ => Int) (k.wrap (Int.ofNat m)) (Int.ofNat m) (Nat.blt m (limK k))) (fun m => k.wrap (Int.negSucc m)) n

theorem wrap_small (k : IntKind) (m : Nat) (h : m < limK k) : k.wrap (Int.ofNat m) = Int.ofNat m := by
  show k.wrap (m : Int) = (m : Int)
  cases k <;> simp only [limK] at h <;> simp only [IntKind.wrap, IntKind.bits, IntKind.signed, Bool.true_and, Bool.false_and] <;>
    first
      | (rw [if_neg Bool.false_ne_true]; omega)
      | (rw [if_neg (fun hh => by have := of_decide_eq_true hh; omega)]; omega)

theorem fwrap_eq (k : IntKind) (n : Int) : fwrap k n = k.wrap n := by
  cases n with
  | ofNat m =>
    show (Bool.rec (motive := fun _ => Int) (k.wrap (Int.ofNat m)) (Int.ofNat m) (Nat.blt m (limK k))) = _
    cases h : Nat.blt m (limK k) with
    | false => rfl
    | true => exact (wrap_small k m (Nat.le_of_ble_eq_true h)).symm
  | negSucc m => rfl

noncomputable def nn (a b : Int) (f : Nat → Nat → Int) (g : Int) : Int :=
  Int.rec (motive := fun _ => Int) (fun m => Int.rec (motive := fun _ => Int) (fun n => f m n) (fun _ => g) b) (fun _ => g) a
theorem nn_eq {a b : Int} {f : Nat → Nat → Int} {g : Int} (h : ∀ m n : Nat, a = m → b = n → f m n = g) : nn a b f g = g := by
  cases a <;> cases b <;> first | rfl | exact h _ _ rfl rfl

noncomputable def nb (a b : Int) (f : Nat → Nat → Bool) (g : Bool) : Bool :=
  Int.rec (motive := fun _ => Bool) (fun m => Int.rec (motive := fun _ => Bool) (fun n => f m n) (fun _ => g) b) (fun _ => g) a
theorem nb_eq {a b : Int} {f : Nat → Nat → Bool} {g : Bool} (h : ∀ m n : Nat, a = m → b = n → f m n = g) : nb a b f g = g := by
  cases a <;> cases b <;> first | rfl | exact h _ _ rfl rfl

theorem blt_dec (m n : Nat) : Nat.blt m n = decide (m < n) := by
  cases h : Nat.blt m n with
  | true => have := Nat.le_of_ble_eq_true h; simp; omega
  | false =>
    have : ¬ m < n := fun hh => by rw [show Nat.blt m n = true from Nat.ble_eq_true_of_le hh] at h; cases h
    simp [this]

theorem beq_dec (m n : Nat) : Nat.beq m n = decide (m = n) := by
  cases h : Nat.beq m n with
  | true => simp [Nat.eq_of_beq_eq_true h]
  | false =>
    have : m ≠ n := fun hh => by subst hh; simp at h
    simp [this]

noncomputable def i_add (k : IntKind) (a b : Int) (H : Heap) : Option (Value × Heap) := mkI k (fwrap k (nn a b (fun m n => Int.ofNat (Nat.add m n)) (a + b))) H
noncomputable def i_sub (k : IntKind) (a b : Int) (H : Heap) : Option (Value × Heap) := mkI k (fwrap k (nn a b (fun m n => Bool.rec (motive := fun _ => Int) (Int.ofNat (Nat.sub m n)) (a - b) (Nat.blt m n)) (a - b))) H
noncomputable def i_mul (k : IntKind) (a b : Int) (H : Heap) : Option (Value × Heap) := mkI k (fwrap k (nn a b (fun m n => Int.ofNat (Nat.mul m n)) (a * b))) H
noncomputable def i_eql (a b : Int) (H : Heap) : Option (Value × Heap) := mkB (nb a b (fun m n => Nat.beq m n) (a == b)) H
noncomputable def i_neq (a b : Int) (H : Heap) : Option (Value × Heap) := mkB (nb a b (fun m n => Bool.rec (motive := fun _ => Bool) true false (Nat.beq m n)) (a != b)) H
noncomputable def i_lss (a b : Int) (H : Heap) : Option (Value × Heap) := mkB (nb a b (fun m n => Nat.blt m n) (decide (a < b))) H
noncomputable def i_leq (a b : Int) (H : Heap) : Option (Value × Heap) := mkB (nb a b (fun m n => Nat.ble m n) (decide (a ≤ b))) H
noncomputable def i_gtr (a b : Int) (H : Heap) : Option (Value × Heap) := mkB (nb a b (fun m n => Nat.blt n m) (decide (a > b))) H
noncomputable def i_geq (a b : Int) (H : Heap) : Option (Value × Heap) := mkB (nb a b (fun m n => Nat.ble n m) (decide (a ≥ b))) H

/-- Is a kind without a sign? -/
noncomputable def uK (k : IntKind) : Bool := IntKind.rec (motive := fun _ => Bool) false false false false true true true true k
theorem uK_iff {k : IntKind} (h : uK k = true) : k.signed = false ∧ limK k = 2 ^ k.bits := by cases k <;> first | (exact absurd h Bool.false_ne_true) | exact ⟨rfl, rfl⟩

/-- Bit by bit, of two numbers without a sign that fit. -/
noncomputable def bits2 (k : IntKind) (a b : Int) (f : Nat → Nat → Nat) (g : Int) : Int :=
  nn a b (fun m n => Bool.rec (motive := fun _ => Int) g (Bool.rec (motive := fun _ => Int) g (Bool.rec (motive := fun _ => Int) g (Int.ofNat (f m n)) (Nat.blt n (limK k))) (Nat.blt m (limK k))) (uK k)) g

theorem bits2_eq {k : IntKind} {a b : Int} {f : Nat → Nat → Nat} {g : Int} (h : ∀ m n : Nat, a = m → b = n → uK k = true → m < limK k → n < limK k → Int.ofNat (f m n) = g) : bits2 k a b f g = g := by
  refine nn_eq fun m n ha hb => ?_
  cases h1 : uK k with
  | false => rfl
  | true =>
    cases h2 : Nat.blt m (limK k) with
    | false => rfl
    | true =>
      cases h3 : Nat.blt n (limK k) with
      | false => rfl
      | true => exact h m n ha hb h1 (Nat.le_of_ble_eq_true h2) (Nat.le_of_ble_eq_true h3)

theorem ofInt_nat (w m : Nat) (h : m < 2 ^ w) : (BitVec.ofInt w (m : Int)).toNat = m := by
  rw [BitVec.ofInt_natCast, BitVec.toNat_ofNat, Nat.mod_eq_of_lt h]

theorem wrapU {k : IntKind} (hk : uK k = true) {m : Nat} (h : m < 2 ^ k.bits) : k.wrap (m : Int) = m := wrap_small k m (by rw [(uK_iff hk).2]; exact h)

noncomputable def i_and (k : IntKind) (a b : Int) (H : Heap) : Option (Value × Heap) := mkI k (bits2 k a b Nat.land (k.wrap (BitVec.ofInt k.bits a &&& BitVec.ofInt k.bits b).toNat)) H
noncomputable def i_or (k : IntKind) (a b : Int) (H : Heap) : Option (Value × Heap) := mkI k (bits2 k a b Nat.lor (k.wrap (BitVec.ofInt k.bits a ||| BitVec.ofInt k.bits b).toNat)) H
noncomputable def i_xor (k : IntKind) (a b : Int) (H : Heap) : Option (Value × Heap) := mkI k (bits2 k a b Nat.xor (k.wrap (BitVec.ofInt k.bits a ^^^ BitVec.ofInt k.bits b).toNat)) H
noncomputable def i_shl (k : IntKind) (a b : Int) (H : Heap) : Option (Value × Heap) :=
  Bool.rec (motive := fun _ => Option (Value × Heap)) (mkI k (fwrap k (nn a b (fun m n => Int.ofNat (Nat.mul m (Nat.pow 2 (Bool.rec (motive := fun _ => Nat) k.bits n (Nat.ble n k.bits))))) (a * 2 ^ (min b.toNat k.bits)))) H) none (nb b 0 (fun _ _ => false) (decide (b < 0)))
noncomputable def i_shr (k : IntKind) (a b : Int) (H : Heap) : Option (Value × Heap) :=
  Bool.rec (motive := fun _ => Option (Value × Heap)) (mkI k (nn a b (fun m n => Int.ofNat (Nat.div m (Nat.pow 2 (Bool.rec (motive := fun _ => Nat) k.bits n (Nat.ble n k.bits))))) (a.fdiv (2 ^ (min b.toNat k.bits)))) H) none (nb b 0 (fun _ _ => false) (decide (b < 0)))

theorem min_rec (n c : Nat) : (Bool.rec (motive := fun _ => Nat) c n (Nat.ble n c)) = min n c := by
  cases h : Nat.ble n c with
  | true => have := Nat.le_of_ble_eq_true h; show n = _; omega
  | false =>
    have : ¬ n ≤ c := fun hh => by rw [Nat.ble_eq_true_of_le hh] at h; cases h
    show c = _; omega

noncomputable def intOpB (op : BinOp) : Bx (IntKind → Int → Int → Heap → Option (Value × Heap)) :=
  match op with
  | .add => ⟨i_add⟩
  | .sub => ⟨i_sub⟩
  | .mul => ⟨i_mul⟩
  | .eql => ⟨fun _ => i_eql⟩
  | .neq => ⟨fun _ => i_neq⟩
  | .lss => ⟨fun _ => i_lss⟩
  | .leq => ⟨fun _ => i_leq⟩
  | .gtr => ⟨fun _ => i_gtr⟩
  | .geq => ⟨fun _ => i_geq⟩
  | .and => ⟨i_and⟩
  | .or => ⟨i_or⟩
  | .xor => ⟨i_xor⟩
  | .shl => ⟨i_shl⟩
  | .shr => ⟨i_shr⟩
  | op => ⟨fun k a b H => intB H op k a b⟩

noncomputable def intOp (op : BinOp) (k : IntKind) (a b : Int) (H : Heap) : Option (Value × Heap) := (intOpB op).un k a b H

theorem intOp_eq (op : BinOp) (k : IntKind) (a b : Int) (H : Heap) : intOp op k a b H = intB H op k a b := by
  cases op <;> simp only [intOp, intOpB, intB]
  case add => unfold i_add; rw [mkI_eq, fwrap_eq, nn_eq]; rintro m n rfl rfl; rfl
  case sub =>
    unfold i_sub; rw [mkI_eq, fwrap_eq, nn_eq]
    rintro m n rfl rfl
    cases h : Nat.blt m n with
    | true => rfl
    | false =>
      rw [blt_dec] at h
      have h := of_decide_eq_false h
      show ((m - n : Nat) : Int) = _
      omega
  case mul => unfold i_mul; rw [mkI_eq, fwrap_eq, nn_eq]; rintro m n rfl rfl; rfl
  case and =>
    unfold i_and
    rw [mkI_eq, bits2_eq]
    rintro m n rfl rfl hk h1 h2
    rw [(uK_iff hk).2] at h1 h2
    rw [BitVec.toNat_and, ofInt_nat _ _ h1, ofInt_nat _ _ h2, wrapU hk (Nat.and_lt_two_pow _ h2)]; rfl
  case or =>
    unfold i_or
    rw [mkI_eq, bits2_eq]
    rintro m n rfl rfl hk h1 h2
    rw [(uK_iff hk).2] at h1 h2
    rw [BitVec.toNat_or, ofInt_nat _ _ h1, ofInt_nat _ _ h2, wrapU hk (Nat.or_lt_two_pow h1 h2)]; rfl
  case xor =>
    unfold i_xor
    rw [mkI_eq, bits2_eq]
    rintro m n rfl rfl hk h1 h2
    rw [(uK_iff hk).2] at h1 h2
    rw [BitVec.toNat_xor, ofInt_nat _ _ h1, ofInt_nat _ _ h2, wrapU hk (Nat.xor_lt_two_pow h1 h2)]; rfl
  case eql => unfold i_eql; rw [mkB_eq, nb_eq]; rintro m n rfl rfl; rw [beq_dec, Bool.eq_iff_iff]; simp; omega
  case neq => 
    unfold i_neq; rw [mkB_eq, nb_eq]; rintro m n rfl rfl
    rw [beq_dec]
    by_cases hmn : m = n
    · subst hmn; simp
    · rw [decide_eq_false hmn, Bool.eq_iff_iff]; simp; omega
  case lss => unfold i_lss; rw [mkB_eq, nb_eq]; rintro m n rfl rfl; rw [blt_dec]; simp
  case leq => unfold i_leq; rw [mkB_eq, nb_eq]; rintro m n rfl rfl; rw [Bool.eq_iff_iff]; simp
  case gtr => unfold i_gtr; rw [mkB_eq, nb_eq]; rintro m n rfl rfl; rw [blt_dec]; simp
  case geq => unfold i_geq; rw [mkB_eq, nb_eq]; rintro m n rfl rfl; rw [Bool.eq_iff_iff]; simp
  case shl =>
    unfold i_shl
    rw [nb_eq (g := decide (b < 0)) (by rintro m n rfl _; simp)]
    by_cases h : b < 0
    · rw [if_pos h, decide_eq_true h]
    · rw [if_neg h, decide_eq_false h]
      show mkI _ _ _ = _
      rw [mkI_eq, fwrap_eq, nn_eq]
      rintro m n rfl rfl
      rw [min_rec]
      show ((m * 2 ^ (min n k.bits) : Nat) : Int) = _
      simp
  case shr =>
    unfold i_shr
    rw [nb_eq (g := decide (b < 0)) (by rintro m n rfl _; simp)]
    by_cases h : b < 0
    · rw [if_pos h, decide_eq_true h]
    · rw [if_neg h, decide_eq_false h]
      show mkI _ _ _ = _
      rw [mkI_eq, nn_eq]
      rintro m n rfl rfl
      rw [min_rec, Int.toNat_natCast]
      show ((m / 2 ^ (min n k.bits) : Nat) : Int) = _
      rw [Int.fdiv_eq_ediv_of_nonneg _ (Int.pow_nonneg (by decide))]
      simp

/-! ### Operations of the model -/

noncomputable def kNum (k : IntKind) : Nat := IntKind.rec (motive := fun _ => Nat) 0 1 2 3 4 5 6 7 k
theorem kNum_inj {k j : IntKind} (h : Nat.beq (kNum k) (kNum j) = true) : k = j := by cases k <;> cases j <;> first | rfl | cases h

/-- Is it a shift? -/
noncomputable def isShift (op : BinOp) : Bool := match op with
  | .shl | .shr => true
  | _ => false


/-! ### Names -/

noncomputable def fget (e : Env) (n : Nat) : Option Value :=
  List.rec (motive := fun _ => Option Value) none (fun p _ ih => Bool.rec (motive := fun _ => Option Value) ih (some p.2) (Nat.beq p.1 n)) e

theorem fget_eq (e : Env) (n : Nat) : fget e n = eget e n := by
  induction e with
  | nil => rfl
  | cons p r ih =>
    obtain ⟨k, v⟩ := p
    show (Bool.rec (motive := fun _ => Option Value) (fget r n) (some v) (Nat.beq k n)) = eget ((k, v) :: r) n
    rw [ih]
    show _ = (bif Nat.beq k n then some v else eget r n)
    cases Nat.beq k n <;> rfl

noncomputable def fkeep (e : Env) (ks : List Nat) : Env :=
  List.rec (motive := fun _ => Env) [] (fun k _ ih => Option.rec (motive := fun _ => Env) ih (fun v => (k, v) :: ih) (fget e k)) ks

theorem fkeep_eq (e : Env) (ks : List Nat) : fkeep e ks = ekeep e ks := by
  induction ks with
  | nil => rfl
  | cons k r ih =>
    show (Option.rec (motive := fun _ => Env) (fkeep e r) (fun v => (k, v) :: fkeep e r) (fget e k) : Env) = _
    rw [ih, fget_eq]
    show _ = (match eget e k with | some v => (k, v) :: ekeep e r | none => ekeep e r)
    cases eget e k <;> rfl

noncomputable def opd (x : Operand) : Bx (Env → Option Value) :=
  match x with
  | .tmp t => ⟨fun e => fget e t⟩
  | .const v => (match clo 3 v with
    | true => ⟨fun _ => some v⟩
    | false => ⟨fun _ => none⟩)
  | .global _ => ⟨fun _ => none⟩
  | .func f => ⟨fun _ => some (.func (.func f) #[] #[])⟩
noncomputable def fval (e : Env) (x : Operand) : Option Value := (opd x).un e

theorem fval_e (e : Env) (x : Operand) : fval e x = aval e x := by
  cases x with
  | tmp t => exact fget_eq e t
  | const v =>
    show (opd (.const v)).un e = _
    simp only [opd, aval]
    cases clo 3 v <;> rfl
  | global g => rfl
  | func f => rfl

noncomputable def fvals (e : Env) (l : List Operand) : Option (List Value) :=
  List.rec (motive := fun _ => Option (List Value)) (some []) (fun x _ ih => ob (fval e x) fun v => ob ih fun vs => some (v :: vs)) l

theorem fvals_e (e : Env) (l : List Operand) : fvals e l = avals e l := by
  induction l with
  | nil => rfl
  | cons x r ih =>
    show (ob (fval e x) fun v => ob (fvals e r) fun vs => some (v :: vs)) = _
    rw [ih, fval_e]
    show _ = (match aval e x, avals e r with | some v, some vs => some (v :: vs) | _, _ => none)
    cases aval e x <;> cases avals e r <;> rfl

noncomputable def fvalo (e : Env) (x : Option Operand) : Option (Option Value) :=
  Option.rec (motive := fun _ => Option (Option Value)) (some none) (fun x => ob (fval e x) fun v => some (some v)) x

theorem fvalo_e (e : Env) (x : Option Operand) : fvalo e x = avalo e x := by
  cases x with
  | none => rfl
  | some x =>
    show (ob (fval e x) fun v => some (some v)) = (match aval e x with | some v => some (some v) | none => none)
    rw [fval_e]
    cases aval e x <;> rfl

/-! ### The heap -/

noncomputable def tget {α : Type} (t : Tr α) (n : Nat) : Option α :=
  Tr.rec (motive := fun _ => Nat → Option α) (fun _ => none) (fun v _ _ il ir n => Bool.rec (motive := fun _ => Option α) (Bool.rec (motive := fun _ => Option α) (ir (Nat.pred (Nat.div n 2))) (il (Nat.div n 2)) (Nat.beq (Nat.mod n 2) 1)) v (Nat.beq n 0)) t n

theorem tget_eq {α : Type} : ∀ (t : Tr α) (n : Nat), tget t n = t.get n := by
  intro t
  induction t with
  | nil => intro n; rfl
  | node v l r il ir =>
    intro n
    show (Bool.rec (motive := fun _ => Option α) (Bool.rec (motive := fun _ => Option α) (tget r (Nat.pred (Nat.div n 2))) (tget l (Nat.div n 2)) (Nat.beq (Nat.mod n 2) 1)) v (Nat.beq n 0)) = (bif Nat.beq n 0 then v else bif Nat.beq (n % 2) 1 then l.get (n / 2) else r.get (n / 2 - 1))
    rw [il, ir]
    show (Bool.rec (motive := fun _ => Option α) (Bool.rec (motive := fun _ => Option α) (r.get (n / 2 - 1)) (l.get (n / 2)) (Nat.beq (n % 2) 1)) v (Nat.beq n 0)) = _
    cases Nat.beq n 0 <;> cases Nat.beq (n % 2) 1 <;> rfl

noncomputable def tupd {α : Type} (x : Option α) (f : Nat) (t : Tr α) (n : Nat) : Tr α :=
  Nat.rec (motive := fun _ => Tr α → Nat → Tr α) (fun t _ => t)
    (fun _ ih t n => Tr.rec (motive := fun _ => Tr α)
      (Bool.rec (motive := fun _ => Tr α) (Bool.rec (motive := fun _ => Tr α) (.node none .nil (ih .nil (Nat.pred (Nat.div n 2)))) (.node none (ih .nil (Nat.div n 2)) .nil) (Nat.beq (Nat.mod n 2) 1)) (.node x .nil .nil) (Nat.beq n 0))
      (fun v l r _ _ => Bool.rec (motive := fun _ => Tr α) (Bool.rec (motive := fun _ => Tr α) (.node v l (ih r (Nat.pred (Nat.div n 2)))) (.node v (ih l (Nat.div n 2)) r) (Nat.beq (Nat.mod n 2) 1)) (.node x l r) (Nat.beq n 0)) t) f t n

theorem tupd_eq {α : Type} (x : Option α) : ∀ (f : Nat) (t : Tr α) (n : Nat), tupd x f t n = Tr.upd f t n x := by
  intro f
  induction f with
  | zero => intro t n; rfl
  | succ f ih =>
    intro t n
    cases t with
    | nil =>
      show (Bool.rec (motive := fun _ => Tr α) (Bool.rec (motive := fun _ => Tr α) (.node none .nil (tupd x f .nil (n / 2 - 1))) (.node none (tupd x f .nil (n / 2)) .nil) (Nat.beq (n % 2) 1)) (.node x .nil .nil) (Nat.beq n 0)) = _
      rw [ih, ih]
      conv => rhs; unfold Tr.upd
      cases Nat.beq n 0 <;> cases Nat.beq (n % 2) 1 <;> rfl
    | node v l r =>
      show (Bool.rec (motive := fun _ => Tr α) (Bool.rec (motive := fun _ => Tr α) (.node v l (tupd x f r (n / 2 - 1))) (.node v (tupd x f l (n / 2)) r) (Nat.beq (n % 2) 1)) (.node x l r) (Nat.beq n 0)) = _
      rw [ih, ih]
      conv => rhs; unfold Tr.upd
      cases Nat.beq n 0 <;> cases Nat.beq (n % 2) 1 <;> rfl

noncomputable def hget (H : Heap) (b : Nat) : Option Blk := tget H.t b
theorem hget_eq (H : Heap) (b : Nat) : hget H b = H.get b := tget_eq _ _
noncomputable def hset (H : Heap) (b : Nat) (x : Blk) : Heap := ⟨tupd (some x) (Nat.succ b) H.t b, H.next⟩
theorem hset_eq (H : Heap) (b : Nat) (x : Blk) : hset H b x = H.set b x := by
  show (⟨tupd (some x) (b + 1) H.t b, H.next⟩ : Heap) = _
  rw [tupd_eq]; rfl
/-- A block more; its number is worked out now. -/
noncomputable def hadd (H : Heap) (x : Blk) (k : Nat → Heap → Option (Value × Heap)) : Option (Value × Heap) :=
  Nat.rec (motive := fun _ => Option (Value × Heap)) (k 0 ⟨tupd (some x) 1 H.t 0, 1⟩) (fun n _ => k (Nat.succ n) ⟨tupd (some x) (Nat.succ (Nat.succ n)) H.t (Nat.succ n), Nat.succ (Nat.succ n)⟩) H.next
theorem hadd_eq (H : Heap) (x : Blk) (k : Nat → Heap → Option (Value × Heap)) : hadd H x k = k H.next (H.add x) := by
  obtain ⟨t, n⟩ := H
  cases n with
  | zero =>
    show k 0 ⟨tupd (some x) 1 t 0, 1⟩ = _
    rw [tupd_eq]; rfl
  | succ n =>
    show k (n + 1) ⟨tupd (some x) (n + 1 + 1) t (n + 1), n + 1 + 1⟩ = _
    rw [tupd_eq]; rfl

/-! ### Rows -/

noncomputable def llen {α : Type} (l : List α) : Nat := List.rec (motive := fun _ => Nat) 0 (fun _ _ ih => Nat.succ ih) l
theorem llen_eq {α : Type} (l : List α) : llen l = l.length := by
  induction l with
  | nil => rfl
  | cons v l ih => exact congrArg Nat.succ ih
noncomputable def ltake (l : List Value) (n : Nat) : List Value :=
  List.rec (motive := fun _ => Nat → List Value) (fun _ => []) (fun v _ ih n => Nat.rec (motive := fun _ => List Value) [] (fun m _ => v :: ih m) n) l n
theorem ltake_eq : ∀ (l : List Value) (n : Nat), ltake l n = l.take n := by
  intro l
  induction l with
  | nil => intro n; simp only [List.take_nil]; rfl
  | cons v l ih =>
    intro n
    cases n with
    | zero => rfl
    | succ n => rw [List.take_succ_cons, ← ih]; rfl
noncomputable def ldrop (l : List Value) (n : Nat) : List Value :=
  List.rec (motive := fun _ => Nat → List Value) (fun _ => []) (fun v r ih n => Nat.rec (motive := fun _ => List Value) (v :: r) (fun m _ => ih m) n) l n
theorem ldrop_eq : ∀ (l : List Value) (n : Nat), ldrop l n = l.drop n := by
  intro l
  induction l with
  | nil => intro n; simp only [List.drop_nil]; rfl
  | cons v l ih =>
    intro n
    cases n with
    | zero => rfl
    | succ n => rw [List.drop_succ_cons, ← ih]; rfl
noncomputable def lapp (l m : List Value) : List Value := List.rec (motive := fun _ => List Value) m (fun v _ ih => v :: ih) l
theorem lapp_eq (l m : List Value) : lapp l m = l ++ m := by
  induction l with
  | nil => rfl
  | cons v l ih => exact congrArg (List.cons v) ih
noncomputable def lset (l : List Value) (n : Nat) (x : Value) : List Value :=
  List.rec (motive := fun _ => Nat → List Value) (fun _ => []) (fun v r ih n => Nat.rec (motive := fun _ => List Value) (x :: r) (fun m _ => v :: ih m) n) l n
theorem lset_eq (x : Value) : ∀ (l : List Value) (n : Nat) {y : Value}, l[n]? = some y → lset l n x = setCells l n [x] := by
  intro l
  induction l with
  | nil => intro n y h; simp at h
  | cons v l ih =>
    intro n y h
    cases n with
    | zero => rfl
    | succ n =>
      rw [List.getElem?_cons_succ] at h
      have := ih n h
      show v :: lset l n x = _
      rw [this]; rfl

noncomputable def oneC (v : Value) : Bool := Value.rec (motive_1 := fun _ => Bool) (motive_2 := fun _ => Unit) (motive_3 := fun _ => Unit) (fun _ => true) (fun _ _ => true) (fun _ _ => true) (fun _ _ _ => true) (fun _ => true) (fun _ => true) (fun _ _ _ => true) (fun _ => true) (fun _ => true) (fun _ _ _ _ _ => true) true (fun _ _ _ => true) true (fun _ _ => false) (fun _ _ => false) (fun _ _ => ()) () (fun _ _ _ _ => ()) v
theorem oneC_eq (v : Value) : oneC v = oneCell v := by cases v <;> rfl
theorem cells_oneC {v : Value} (h : oneC v = true) : v.cells = #[v] := by
  cases v <;> first | rfl | cases h

noncomputable def lall (f : Value → Bool) (l : List Value) : Bool := List.rec (motive := fun _ => Bool) true (fun v _ ih => Bool.rec (motive := fun _ => Bool) false ih (f v)) l
theorem lall_eq (f : Value → Bool) (l : List Value) : lall f l = l.all f := by
  induction l with
  | nil => rfl
  | cons v l ih =>
    show (Bool.rec (motive := fun _ => Bool) false (lall f l) (f v)) = _
    rw [ih, List.all_cons]
    cases f v <;> rfl

/-! ### Operations of the model -/

noncomputable def seq8 (a b : List UInt8) : Bool :=
  List.rec (motive := fun _ => List UInt8 → Bool) (fun b => List.rec (motive := fun _ => Bool) true (fun _ _ _ => false) b)
    (fun x _ ih b => List.rec (motive := fun _ => Bool) false (fun y r _ => Bool.rec (motive := fun _ => Bool) false (ih r) (Nat.beq x.toNat y.toNat)) b) a b
theorem seq8_eq : ∀ (a b : List UInt8), seq8 a b = (a == b) := by
  intro a
  induction a with
  | nil => intro b; cases b <;> rfl
  | cons x a ih =>
    intro b
    cases b with
    | nil => rfl
    | cons y b =>
      show (Bool.rec (motive := fun _ => Bool) false (seq8 a b) (Nat.beq x.toNat y.toNat)) = _
      rw [ih, beq_dec]
      by_cases h : x = y
      · subst h; simp
      · have h2 : ¬ x.toNat = y.toNat := fun hh => h (UInt8.toNat_inj.1 hh)
        rw [decide_eq_false h2]
        show false = _
        have hb : (x == y) = false := by simpa using h
        have : (x :: a == y :: b) = ((x == y) && (a == b)) := rfl
        rw [this, hb]; rfl

noncomputable def bapp (a b : List UInt8) : List UInt8 := List.rec (motive := fun _ => List UInt8) b (fun v _ ih => v :: ih) a
theorem bapp_eq (a b : List UInt8) : bapp a b = a ++ b := by
  induction a with
  | nil => rfl
  | cons v l ih => exact congrArg (List.cons v) ih

noncomputable def s_add (a b : List UInt8) (H : Heap) : Option (Value × Heap) :=
  Bool.rec (motive := fun _ => Option (Value × Heap)) (strL H .add a b) (some (.string ⟨⟨bapp a b⟩⟩, H)) (Nat.ble (Nat.add (llen a) (llen b)) 9223372036854775807)
theorem s_add_eq (a b : List UInt8) (H : Heap) : s_add a b H = strL H .add a b := by
  unfold s_add
  cases h : Nat.ble (Nat.add (llen a) (llen b)) 9223372036854775807 with
  | false => rfl
  | true =>
    have h := Nat.le_of_ble_eq_true h
    have h : llen a + llen b ≤ 9223372036854775807 := h
    rw [llen_eq, llen_eq] at h
    show some (str (bapp a b), H) = _
    have hm : IntKind.i64.max = 9223372036854775807 := rfl
    simp only [strL, bapp_eq, hm]
    rw [if_neg (by omega)]

noncomputable def strOpB (op : BinOp) : Bx (List UInt8 → List UInt8 → Heap → Option (Value × Heap)) :=
  match op with
  | .add => ⟨s_add⟩
  | .eql => ⟨fun a b H => mkB (seq8 a b) H⟩
  | .neq => ⟨fun a b H => mkB (Bool.rec (motive := fun _ => Bool) true false (seq8 a b)) H⟩
  | op => ⟨fun a b H => strL H op a b⟩
noncomputable def strOp (op : BinOp) (a b : List UInt8) (H : Heap) : Option (Value × Heap) := (strOpB op).un a b H
theorem strOp_eq (op : BinOp) (a b : List UInt8) (H : Heap) : strOp op a b H = strL H op a b := by
  cases op <;> simp only [strOp, strOpB]
  case add => exact s_add_eq a b H
  case eql => rw [mkB_eq, seq8_eq]; rfl
  case neq => rw [mkB_eq, seq8_eq]; show _ = some (Value.bool (!(a == b)), H); cases (a == b) <;> rfl

noncomputable def binI (op : BinOp) (p q : IntKind × Int) (H : Heap) (k : Option (Value × Heap)) : Option (Value × Heap) :=
  Bool.rec (motive := fun _ => Option (Value × Heap)) (Bool.rec (motive := fun _ => Option (Value × Heap)) k (intOp op p.1 p.2 q.2 H) (isShift op)) (intOp op p.1 p.2 q.2 H) (Nat.beq (kNum p.1) (kNum q.1))
noncomputable def binO (op : BinOp) (x y : Value) (H : Heap) (k : Option (Value × Heap)) : Option (Value × Heap) :=
  Option.rec (motive := fun _ => Option (Value × Heap)) k (fun a => Option.rec (motive := fun _ => Option (Value × Heap)) k (fun b => strOp op a b H) (vS y)) (vS x)
noncomputable def binV (op : BinOp) (x y : Value) (H : Heap) (k : Option (Value × Heap)) : Option (Value × Heap) :=
  Option.rec (motive := fun _ => Option (Value × Heap)) (binO op x y H k) (fun p => Option.rec (motive := fun _ => Option (Value × Heap)) k (fun q => binI op p q H k) (vI y)) (vI x)
noncomputable def k_bin (P : Program) (o : Oper) (op : BinOp) (x y : Operand) (e : Env) (H : Heap) : Option (Value × Heap) :=
  ob (fval e x) fun u => ob (fval e y) fun v => binV op u v H (aop P e H (.prim o))
noncomputable def k_un (P : Program) (o : Oper) (op : UnOp) (x : Operand) (e : Env) (H : Heap) : Option (Value × Heap) :=
  ob (fval e x) fun v => (match op with
    | .not => Option.rec (motive := fun _ => Option (Value × Heap)) (aop P e H (.prim o)) (fun b => mkB (Bool.rec (motive := fun _ => Bool) true false b) H) (vB v)
    | _ => aop P e H (.prim o))

noncomputable def tI (d : Option TypeDesc) : Option IntKind := match d with
  | some (.int k) => some k
  | _ => none
noncomputable def tS (d : Option TypeDesc) : Bool := match d with
  | some .string => true
  | _ => false
noncomputable def isSm {α : Type} (d : Option α) : Bool := match d with
  | some _ => true
  | none => false
theorem tI_iff {d : Option TypeDesc} {k : IntKind} (h : tI d = some k) : d = some (.int k) := by
  unfold tI at h
  split at h
  · cases h; rfl
  · cases h
theorem tS_iff {d : Option TypeDesc} (h : tS d = true) : d = some .string := by
  unfold tS at h
  split at h
  · rfl
  · cases h

noncomputable def convV (k : Option IntKind) (s : Bool) (x : Value) (H : Heap) (z : Option (Value × Heap)) : Option (Value × Heap) :=
  Option.rec (motive := fun _ => Option (Value × Heap)) z (fun k => Option.rec (motive := fun _ => Option (Value × Heap)) z (fun p => Bool.rec (motive := fun _ => Option (Value × Heap)) z (mkI k (fwrap k p.2) H) s) (vI x)) k
noncomputable def k_conv (P : Program) (o : Oper) (k : Option IntKind) (s : Bool) (x : Operand) (e : Env) (H : Heap) : Option (Value × Heap) := ob (fval e x) fun v => convV k s v H (aop P e H (.prim o))

noncomputable def fbyte (l : List UInt8) (n : Nat) : Option UInt8 :=
  List.rec (motive := fun _ => Nat → Option UInt8) (fun _ => none) (fun v _ ih n => Nat.rec (motive := fun _ => Option UInt8) (some v) (fun m _ => ih m) n) l n
theorem fbyte_eq : ∀ (l : List UInt8) (n : Nat), fbyte l n = l[n]? := by
  intro l
  induction l with
  | nil => intro n; rfl
  | cons v l ih =>
    intro n
    cases n with
    | zero => rfl
    | succ n => exact ih n
noncomputable def byteI (l : List UInt8) (i : Int) (H : Heap) : Option (Value × Heap) :=
  Int.rec (motive := fun _ => Option (Value × Heap)) (fun n => ob (fbyte l n) fun b => mkI .u8 (Int.ofNat b.toNat) H) (fun _ => none) i
theorem byteI_eq (l : List UInt8) (i : Int) (H : Heap) : byteI l i H = byteL H l i := by
  unfold byteI byteL
  cases i with
  | ofNat n =>
    show ob (fbyte l n) _ = _
    rw [fbyte_eq, if_pos (show (0 : Int) ≤ Int.ofNat n from Int.natCast_nonneg n)]
    show _ = (match l[n]? with | some b => _ | none => none)
    cases l[n]? with
    | none => rfl
    | some b => exact (mkI_eq .u8 (Int.ofNat b.toNat) H)
  | negSucc n => rfl
noncomputable def idxV (s : Bool) (x i : Value) (H : Heap) (z : Option (Value × Heap)) : Option (Value × Heap) :=
  Bool.rec (motive := fun _ => Option (Value × Heap)) z (Option.rec (motive := fun _ => Option (Value × Heap)) z (fun l => Option.rec (motive := fun _ => Option (Value × Heap)) z (fun p => byteI l p.2 H) (vI i)) (vS x)) s
noncomputable def k_idx (P : Program) (o : Oper) (s : Bool) (x i : Operand) (e : Env) (H : Heap) : Option (Value × Heap) := ob (fval e x) fun u => ob (fval e i) fun v => idxV s u v H (aop P e H (.prim o))
noncomputable def lenV (s : Bool) (x : Value) (H : Heap) (z : Option (Value × Heap)) : Option (Value × Heap) :=
  Bool.rec (motive := fun _ => Option (Value × Heap)) z (Option.rec (motive := fun _ => Option (Value × Heap)) z (fun l => mkI .i64 (Int.ofNat (llen l)) H) (vS x)) s
noncomputable def k_len (P : Program) (o : Oper) (s : Bool) (x : Operand) (e : Env) (H : Heap) : Option (Value × Heap) := ob (fval e x) fun u => lenV s u H (aop P e H (.prim o))

noncomputable def k_call (P : Program) (o : Oper) (c : Call) : Bx (Env → Heap → Option (Value × Heap)) :=
  match c with
  | ⟨.builtin .len, ⟨[x]⟩, ⟨[t]⟩⟩ => ⟨k_len P o (tS (P.underlying t)) x⟩
  | _ => ⟨fun e H => aop P e H (.prim o)⟩
noncomputable def o_prim (P : Program) (o : Oper) : Bx (Env → Heap → Option (Value × Heap)) :=
  match o.op with
  | .binOp op _ x y _ => ⟨k_bin P o op x y⟩
  | .unOp op _ x => ⟨k_un P o op x⟩
  | .convert s d x => ⟨k_conv P o (tI (P.underlying d)) (isSm (P.underlying s)) x⟩
  | .index t x i => ⟨k_idx P o (tS (P.underlying t)) x i⟩
  | .call c => k_call P o c
  | _ => ⟨fun e H => aop P e H (.prim o)⟩

section
variable {P : Program} {e : Env} {H : Heap} {d : Option Nat} {ty : TypeId} {pos : String} {af : Array Edge} {g : Option (Nat × Bool)}

theorem aop_bin' {op : BinOp} {t t2 : TypeId} {x y : Operand} :
    aop P e H (.prim ⟨d, .binOp op t x y t2, ty, pos, af, g⟩) = primB P H op t x y (aval e x) (aval e y) := by
  rw [prim_eq (s := do eqGuard op t x y (dflt (aval e x)) (dflt (aval e y)); binOp op t (dflt (aval e x)) (dflt (aval e y))) rfl]
  simp only [primB, Op.operands, List.all_cons, List.all_nil, Bool.and_true, cloOp_eq]
theorem aop_un' {op : UnOp} {t : TypeId} {x : Operand} : aop P e H (.prim ⟨d, .unOp op t x, ty, pos, af, g⟩) = primU P H op (aval e x) := by
  rw [prim_eq (s := Op.unary op (dflt (aval e x))) rfl]
  simp only [primU, Op.operands, List.all_cons, List.all_nil, Bool.and_true, cloOp_eq]
theorem aop_conv' {s t : TypeId} {x : Operand} : aop P e H (.prim ⟨d, .convert s t x, ty, pos, af, g⟩) = primC P H s t (aval e x) := by
  rw [prim_eq (s := convert s t (dflt (aval e x))) rfl]
  simp only [primC, Op.operands, List.all_cons, List.all_nil, Bool.and_true, cloOp_eq]
theorem aop_index' {t : TypeId} {x i : Operand} : aop P e H (.prim ⟨d, .index t x i, ty, pos, af, g⟩) = primI P H t (aval e x) (aval e i) := by
  rw [prim_eq (s := Instr.index t (dflt (aval e x)) (dflt (aval e i))) rfl]
  simp only [primI, Op.operands, List.all_cons, List.all_nil, Bool.and_true, cloOp_eq]
theorem aop_len' {t : TypeId} {x : Operand} : aop P e H (.prim ⟨d, .call ⟨.builtin .len, ⟨[x]⟩, ⟨[t]⟩⟩, ty, pos, af, g⟩) = primL P H t ty (aval e x) := by
  rw [prim_eq (s := Builtin.len_ #[t] ty #[dflt (aval e x)]) (by simp only [execOp, resolve, invoke, builtin, List.map_toArray, List.map_cons, List.map_nil]; rfl)]
  simp only [primL, Op.operands, Call.operands, List.append_toArray, List.nil_append, List.all_cons, List.all_nil, Bool.and_true, cloOp_eq]


theorem o_prim_sound {o : Oper} {r : Value × Heap} (h : (o_prim P o).un e H = some r) : aop P e H (.prim o) = some r := by
  obtain ⟨d, op, ty, pos, af, g0⟩ := o
  cases op with
  | binOp op t x y t2 =>
    replace h := ob_some.1 h
    obtain ⟨u, hu, h⟩ := h
    replace h := ob_some.1 h
    obtain ⟨v, hv, h⟩ := h
    rw [fval_e] at hu hv
    unfold binV at h
    cases h1 : vI u with
    | some p =>
      rw [h1] at h
      cases h2 : vI v with
      | none => rw [h2] at h; exact h
      | some q =>
        rw [h2] at h
        have h : binI op p q H _ = some r := h
        rw [vI_iff] at h1 h2
        unfold binI at h
        cases h3 : Nat.beq (kNum p.1) (kNum q.1) with
        | true =>
          rw [h3] at h
          have h : intOp op p.1 p.2 q.2 H = some r := h
          have hk := kNum_inj h3
          rw [aop_bin', hu, hv, h1, h2, ← hk, primB_int, ← intOp_eq]; exact h
        | false =>
          rw [h3] at h
          cases h4 : isShift op with
          | false => rw [h4] at h; exact h
          | true =>
            rw [h4] at h
            have h : intOp op p.1 p.2 q.2 H = some r := h
            rw [aop_bin', hu, hv, h1, h2]
            rw [intOp_eq] at h
            cases op <;> first | (cases h4; done) | (rw [primB_shl]; exact h) | (rw [primB_shr]; exact h)
    | none =>
      rw [h1] at h
      have h : binO op u v H _ = some r := h
      unfold binO at h
      cases h2 : vS u with
      | none => rw [h2] at h; exact h
      | some a =>
        rw [h2] at h
        cases h3 : vS v with
        | none => rw [h3] at h; exact h
        | some b =>
          rw [h3] at h
          rw [vS_iff] at h2 h3
          rw [aop_bin', hu, hv, h2, h3, primB_strL, ← strOp_eq]; exact h
  | unOp op t x =>
    replace h := ob_some.1 h
    obtain ⟨u, hu, h⟩ := h
    rw [fval_e] at hu
    cases op with
    | not =>
      cases h1 : vB u with
      | none => simp only [h1] at h; exact h
      | some b =>
        simp only [h1] at h
        rw [vB_iff] at h1
        rw [aop_un', hu, h1, primU_not]
        rw [← h]; cases b <;> rfl
    | _ => exact h
  | convert s t x =>
    replace h := ob_some.1 h
    obtain ⟨u, hu, h⟩ := h
    rw [fval_e] at hu
    unfold convV at h
    cases h1 : tI (P.underlying t) with
    | none => rw [h1] at h; exact h
    | some k =>
      rw [h1] at h
      cases h2 : vI u with
      | none => rw [h2] at h; exact h
      | some p =>
        rw [h2] at h
        cases h3 : isSm (P.underlying s) with
        | false => rw [h3] at h; exact h
        | true =>
          rw [h3] at h
          have h : mkI k (fwrap k p.2) H = some r := h
          rw [mkI_eq, fwrap_eq] at h
          rw [vI_iff] at h2
          have hs : ∃ ds, P.underlying s = some ds := by
            cases hh : P.underlying s with
            | none => rw [hh] at h3; cases h3
            | some ds => exact ⟨ds, rfl⟩
          obtain ⟨ds, hs⟩ := hs
          rw [aop_conv', hu, h2, primC_int hs (tI_iff h1)]; exact h
  | index t x i =>
    replace h := ob_some.1 h
    obtain ⟨u, hu, h⟩ := h
    replace h := ob_some.1 h
    obtain ⟨v, hv, h⟩ := h
    rw [fval_e] at hu hv
    unfold idxV at h
    cases h1 : tS (P.underlying t) with
    | false => rw [h1] at h; exact h
    | true =>
      rw [h1] at h
      cases h2 : vS u with
      | none => rw [h2] at h; exact h
      | some l =>
        rw [h2] at h
        cases h3 : vI v with
        | none => rw [h3] at h; exact h
        | some p =>
          rw [h3] at h
          have h : byteI l p.2 H = some r := h
          rw [vS_iff] at h2; rw [vI_iff] at h3
          rw [aop_index', hu, hv, h2, h3, primI_strL (tS_iff h1), ← byteI_eq]; exact h
  | call c =>
    have key : ∀ g, k_call P ⟨d, .call c, ty, pos, af, g0⟩ c = g → g.un e H = some r → aop P e H (.prim ⟨d, .call c, ty, pos, af, g0⟩) = some r := by
      intro g hg h
      unfold k_call at hg
      split at hg
      · rename_i x t
        subst hg
        replace h := ob_some.1 h
        obtain ⟨u, hu, h⟩ := h
        rw [fval_e] at hu
        unfold lenV at h
        cases h1 : tS (P.underlying t) with
        | false => rw [h1] at h; exact h
        | true =>
          rw [h1] at h
          cases h2 : vS u with
          | none => rw [h2] at h; exact h
          | some l =>
            rw [h2] at h
            have h : mkI .i64 (Int.ofNat (llen l)) H = some r := h
            rw [mkI_eq, llen_eq] at h
            rw [vS_iff] at h2
            rw [aop_len', hu, h2, primL_strL (tS_iff h1)]; exact h
      · subst hg; exact h
    exact key _ rfl h
  | _ => exact h
end

/-! ### Operations -/

section
variable {P : Program} {e : Env} {H : Heap} {r : Value × Heap}

noncomputable def q_mv (x : Operand) (e : Env) (H : Heap) : Option (Value × Heap) := ob (fval e x) fun v => some (v, H)
theorem q_mv_s {x : Operand} (h : q_mv x e H = some r) : aop P e H (.mv x) = some r := by
  replace h := ob_some.1 h
  obtain ⟨v, hv, h⟩ := h
  rw [fval_e] at hv
  simp only [aop, hv]; exact h

noncomputable def q_pick (c a b : Operand) (e : Env) (H : Heap) : Option (Value × Heap) :=
  ob (fval e c) fun v => ob (vB v) fun t => Bool.rec (motive := fun _ => Option (Value × Heap)) (ob (fval e b) fun u => some (u, H)) (ob (fval e a) fun u => some (u, H)) t
theorem q_pick_s {c a b : Operand} (h : q_pick c a b e H = some r) : aop P e H (.pick c a b) = some r := by
  replace h := ob_some.1 h
  obtain ⟨v, hv, h⟩ := h
  replace h := ob_some.1 h
  obtain ⟨t, ht, h⟩ := h
  rw [fval_e] at hv; rw [vB_iff] at ht; subst ht
  cases t with
  | true =>
    replace h := ob_some.1 h
    obtain ⟨u, hu, h⟩ := h
    rw [fval_e] at hu
    simp only [aop, hv, hu]; exact h
  | false =>
    replace h := ob_some.1 h
    obtain ⟨u, hu, h⟩ := h
    rw [fval_e] at hu
    simp only [aop, hv, hu]; exact h

noncomputable def q_alloc (ok : Bool) (zero : List Value) (e : Env) (H : Heap) : Option (Value × Heap) :=
  Bool.rec (motive := fun _ => Option (Value × Heap)) none (hadd H (.row zero 0 false) fun n K => some (.pointer (some ⟨n, 0, none⟩), K)) ok
theorem q_alloc_s {zero : List Value} (h : q_alloc (zero.all (clo 3) && zero.all oneCell) zero e H = some r) : aop P e H (.alloc zero) = some r := by
  unfold q_alloc at h
  simp only [aop]
  cases hh : (zero.all (clo 3) && zero.all oneCell) with
  | false => rw [hh] at h; cases h
  | true => rw [hh] at h; rw [← h]; show _ = hadd H _ _; rw [hadd_eq]; rfl

noncomputable def vCells (v : Value) : List Value := Option.rec (motive := fun _ => List Value) [v] (fun l => l) (vA v)
theorem vCells_eq (v : Value) : vCells v = v.cells.toList := by
  cases v <;> rfl

noncomputable def q_box (x : Operand) (e : Env) (H : Heap) : Option (Value × Heap) :=
  ob (fval e x) fun v => Bool.rec (motive := fun _ => Option (Value × Heap)) none (hadd H (.row (vCells v) 0 false) fun n K => some (.pointer (some ⟨n, 0, none⟩), K)) (lall oneC (vCells v))
theorem q_box_s {x : Operand} (h : q_box x e H = some r) : aop P e H (.box x) = some r := by
  replace h := ob_some.1 h
  obtain ⟨v, hv, h⟩ := h
  rw [fval_e] at hv
  have hf : oneC = oneCell := funext oneC_eq
  rw [vCells_eq, lall_eq, hf] at h
  simp only [aop, hv]
  cases hh : v.cells.toList.all oneCell with
  | false => rw [hh] at h; cases h
  | true => rw [hh] at h; rw [← h]; show _ = hadd H _ _; rw [hadd_eq]; rfl

noncomputable def q_ld1 (x : Operand) (e : Env) (H : Heap) : Option (Value × Heap) := ob (fval e x) fun v => ob (vP v) fun p => ob (hget H p.1) fun b => ob (bR b) fun c => ob (fnth c.1 p.2) fun u => some (u, H)
theorem q_ld1_s {x : Operand} (h : q_ld1 x e H = some r) : aop P e H (.ld1 x) = some r := by
  replace h := ob_some.1 h
  obtain ⟨v, hv, h⟩ := h
  replace h := ob_some.1 h
  obtain ⟨p, hp, h⟩ := h
  replace h := ob_some.1 h
  obtain ⟨b, hb, h⟩ := h
  replace h := ob_some.1 h
  obtain ⟨c, hc, h⟩ := h
  replace h := ob_some.1 h
  obtain ⟨u, hu, h⟩ := h
  rw [fval_e] at hv; rw [vP_iff] at hp; rw [bR_iff] at hc; rw [fnth_eq] at hu; rw [hget_eq] at hb
  subst hp hc
  simp only [aop, hv, hb, hu]; exact h

noncomputable def fcellsAt (cs : List Value) (o n : Nat) : Option (List Value) :=
  Bool.rec (motive := fun _ => Option (List Value)) none (some (ltake (ldrop cs o) n)) (Nat.ble (Nat.add o n) (llen cs))

noncomputable def q_ldn (n : Nat) (x : Operand) (e : Env) (H : Heap) : Option (Value × Heap) := ob (fval e x) fun v => ob (vP v) fun p => ob (hget H p.1) fun b => ob (bR b) fun c => ob (fcellsAt c.1 p.2 n) fun l => some (.agg ⟨l⟩, H)
theorem fcellsAt_s {H : Heap} {b o n : Nat} {cs l : List Value} {sz : Nat} {ro : Bool} (hb : H.get b = some (.row cs sz ro)) (h : fcellsAt cs o n = some l) : cellsAt H b o n = some l := by
  unfold fcellsAt at h
  simp only [cellsAt, hb]
  rw [llen_eq, ltake_eq, ldrop_eq] at h
  have e1 : Nat.add o n = o + n := rfl
  rw [e1] at h
  cases hh : Nat.ble (o + n) cs.length with
  | false => rw [hh] at h; cases h
  | true => rw [hh] at h; exact h
theorem q_ldn_s {n : Nat} {x : Operand} (h : q_ldn n x e H = some r) : aop P e H (.ldn n x) = some r := by
  replace h := ob_some.1 h
  obtain ⟨v, hv, h⟩ := h
  replace h := ob_some.1 h
  obtain ⟨p, hp, h⟩ := h
  replace h := ob_some.1 h
  obtain ⟨b, hb, h⟩ := h
  replace h := ob_some.1 h
  obtain ⟨c, hc, h⟩ := h
  replace h := ob_some.1 h
  obtain ⟨u, hu, h⟩ := h
  rw [fval_e] at hv; rw [vP_iff] at hp; rw [bR_iff] at hc; rw [hget_eq] at hb
  subst hp hc
  simp only [aop, hv, fcellsAt_s hb hu]; exact h

/-- A store of one cell; of several. -/
noncomputable def st1 (c : List Value × Nat × Bool) (b o : Nat) (v : Value) (H : Heap) : Option (Value × Heap) :=
  ob (fnth c.1 o) fun _ => some (.tuple #[], hset H b (.row (lset c.1 o v) c.2.1 false))
noncomputable def stn (c : List Value × Nat × Bool) (b o : Nat) (l : List Value) (n : Nat) (H : Heap) : Option (Value × Heap) :=
  Bool.rec (motive := fun _ => Option (Value × Heap)) none (some (.tuple #[], hset H b (.row (lapp (ltake c.1 o) (lapp l (ldrop c.1 (Nat.add o n)))) c.2.1 false))) (Nat.ble (Nat.add o n) (llen c.1))
noncomputable def q_st (n : Nat) (x v : Operand) (e : Env) (H : Heap) : Option (Value × Heap) :=
  ob (fval e x) fun a => ob (vP a) fun p => ob (fval e v) fun u => ob (hget H p.1) fun b => ob (bR b) fun c =>
    Bool.rec (motive := fun _ => Option (Value × Heap)) (Bool.rec (motive := fun _ => Option (Value × Heap))
      (Bool.rec (motive := fun _ => Option (Value × Heap)) none (Bool.rec (motive := fun _ => Option (Value × Heap)) none (stn c p.1 p.2 (vCells u) n H) (lall oneC (vCells u))) (Nat.beq (llen (vCells u)) n))
      (Bool.rec (motive := fun _ => Option (Value × Heap)) none (st1 c p.1 p.2 u H) (Nat.beq n 1)) (oneC u)) none c.2.2
theorem q_st_s {n : Nat} {x v : Operand} (h : q_st n x v e H = some r) : aop P e H (.st n x v) = some r := by
  replace h := ob_some.1 h
  obtain ⟨a, ha, h⟩ := h
  replace h := ob_some.1 h
  obtain ⟨p, hp, h⟩ := h
  replace h := ob_some.1 h
  obtain ⟨u, hu, h⟩ := h
  replace h := ob_some.1 h
  obtain ⟨b, hb, h⟩ := h
  replace h := ob_some.1 h
  obtain ⟨c, hc, h⟩ := h
  rw [fval_e] at ha hu; rw [vP_iff] at hp; rw [bR_iff] at hc; rw [hget_eq] at hb
  obtain ⟨cs, sz, ro⟩ := c
  subst hp hc
  simp only [aop, ha, hu]
  cases ro with
  | true => cases h
  | false =>
    simp only at h hb
    cases h1 : oneC u with
    | true =>
      rw [h1] at h
      cases h2 : Nat.beq n 1 with
      | false => rw [h2] at h; cases h
      | true =>
        rw [h2] at h
        obtain rfl := Nat.eq_of_beq_eq_true h2
        have h : st1 (cs, sz, false) p.1 p.2 u H = some r := h
        replace h := ob_some.1 h
        obtain ⟨y, hy, h⟩ := h
        rw [fnth_eq] at hy
        simp only at hy h
        rw [hset_eq, lset_eq u cs p.2 hy] at h
        have hle : p.2 + 1 ≤ cs.length := (List.getElem?_eq_some_iff.1 hy).1
        rw [cells_oneC h1]
        have h3 : Nat.beq (#[u] : Array Value).size 1 = true := rfl
        have h4 : (#[u] : Array Value).toList = [u] := rfl
        have h5 : [u].all oneCell = true := by simp [← oneC_eq, h1]
        rw [h3, h4, h5]
        simp only [Bool.and_self, cond_true, storeAt, hb, List.length_singleton, Nat.ble_eq_true_of_le hle]
        exact h
    | false =>
      rw [h1] at h
      simp only at h
      cases h2 : Nat.beq (llen (vCells u)) n with
      | false => rw [h2] at h; cases h
      | true =>
        rw [h2] at h
        simp only at h
        cases h3 : lall oneC (vCells u) with
        | false => rw [h3] at h; cases h
        | true =>
          rw [h3] at h
          have h : stn (cs, sz, false) p.1 p.2 (vCells u) n H = some r := h
          have hf : oneC = oneCell := funext oneC_eq
          rw [vCells_eq, lall_eq, hf] at h3
          rw [vCells_eq, llen_eq] at h2
          obtain rfl := Nat.eq_of_beq_eq_true h2
          have h4 : Nat.beq u.cells.size u.cells.toList.length = true := by rw [Array.length_toList]; exact Nat.beq_refl _
          rw [h4, h3]
          unfold stn at h
          simp only at h
          rw [llen_eq, vCells_eq, hset_eq, lapp_eq, lapp_eq, ltake_eq, ldrop_eq] at h
          have e1 : ∀ a b, Nat.add a b = a + b := fun _ _ => rfl
          rw [e1] at h
          simp only [Bool.and_self, cond_true, storeAt, hb]
          cases h5 : Nat.ble (p.2 + u.cells.toList.length) cs.length with
          | false => rw [h5] at h; cases h
          | true =>
            rw [h5] at h
            simp only [cond_true, setCells, List.append_assoc]
            exact h

noncomputable def q_fadr (n : Nat) (x : Operand) (e : Env) (H : Heap) : Option (Value × Heap) := ob (fval e x) fun v => ob (vP v) fun p => some (.pointer (some ⟨p.1, Nat.add p.2 n, none⟩), H)
theorem q_fadr_s {n : Nat} {x : Operand} (h : q_fadr n x e H = some r) : aop P e H (.fadr n x) = some r := by
  replace h := ob_some.1 h
  obtain ⟨v, hv, h⟩ := h
  replace h := ob_some.1 h
  obtain ⟨p, hp, h⟩ := h
  rw [fval_e] at hv; rw [vP_iff] at hp
  subst hp
  simp only [aop, hv]; exact h

noncomputable def q_ext (x : Operand) (i : Nat) (e : Env) (H : Heap) : Option (Value × Heap) := ob (fval e x) fun v => ob (vT v) fun l => ob (fnth l i) fun u => some (u, H)
theorem q_ext_s {x : Operand} {i : Nat} (h : q_ext x i e H = some r) : aop P e H (.ext x i) = some r := by
  replace h := ob_some.1 h
  obtain ⟨v, hv, h⟩ := h
  replace h := ob_some.1 h
  obtain ⟨l, hp, h⟩ := h
  replace h := ob_some.1 h
  obtain ⟨u, hu, h⟩ := h
  rw [fval_e] at hv; rw [vT_iff] at hp; rw [fnth_eq] at hu
  subst hp
  simp only [aop, hv, hu]; exact h

noncomputable def q_fld (off n : Nat) (agg : Bool) (x : Operand) (e : Env) (H : Heap) : Option (Value × Heap) := ob (fval e x) fun v => ob (vA v) fun l =>
  Bool.rec (motive := fun _ => Option (Value × Heap)) (ob (fnth l off) fun u => some (u, H)) (ob (fcellsAt l off n) fun m => some (.agg ⟨m⟩, H)) agg
theorem q_fld_s {off n : Nat} {agg : Bool} {x : Operand} (h : q_fld off n agg x e H = some r) : aop P e H (.fld off n agg x) = some r := by
  replace h := ob_some.1 h
  obtain ⟨v, hv, h⟩ := h
  replace h := ob_some.1 h
  obtain ⟨l, hp, h⟩ := h
  rw [fval_e] at hv; rw [vA_iff] at hp
  subst hp
  cases agg with
  | false =>
    replace h := ob_some.1 h
    obtain ⟨u, hu, h⟩ := h
    rw [fnth_eq] at hu
    simp only [aop, hv, partOf, cond_false, hu]; exact h
  | true =>
    replace h := ob_some.1 h
    obtain ⟨m, hm, h⟩ := h
    unfold fcellsAt at hm
    rw [llen_eq, ltake_eq, ldrop_eq] at hm
    have e1 : Nat.add off n = off + n := rfl
    rw [e1] at hm
    simp only [aop, hv, partOf, cond_true]
    cases hh : Nat.ble (off + n) l.length with
    | false => rw [hh] at hm; cases hm
    | true => rw [hh] at hm; cases hm; exact h

noncomputable def nOf (p : IntKind × Int) : Option Nat := Int.rec (motive := fun _ => Option Nat) (fun n => some n) (fun _ => none) p.2
theorem nOf_iff {p : IntKind × Int} {n : Nat} : nOf p = some n ↔ p.2 = n := by
  obtain ⟨k, m⟩ := p
  cases m with
  | ofNat m =>
    show some m = some n ↔ ((m : Int)) = (n : Int)
    rw [Option.some.injEq]; omega
  | negSucc m =>
    show none = some n ↔ Int.negSucc m = (n : Int)
    constructor
    · intro h; cases h
    · intro h; cases h
noncomputable def vN (v : Value) : Option Nat := ob (vI v) nOf
theorem vN_s {v : Value} {n : Nat} (h : vN v = some n) : getNat (some v) = some n := by
  replace h := ob_some.1 h
  obtain ⟨q, hq, h⟩ := h
  rw [vI_iff] at hq; rw [nOf_iff] at h
  subst hq
  obtain ⟨k, m⟩ := q
  simp only at h; subst h
  simp [getNat]

noncomputable def q_iadrs (sz : Nat) (x i : Operand) (e : Env) (H : Heap) : Option (Value × Heap) := ob (fval e x) fun v => ob (vSl v) fun s => ob (aP s.1) fun p => ob (fval e i) fun u => ob (vN u) fun n =>
  Bool.rec (motive := fun _ => Option (Value × Heap)) none (some (.pointer (some ⟨p.1, Nat.add p.2 (Nat.mul n sz), none⟩), H)) (Nat.blt n s.2.1)
theorem q_iadrs_s {sz : Nat} {x i : Operand} (h : q_iadrs sz x i e H = some r) : aop P e H (.iadrs sz x i) = some r := by
  replace h := ob_some.1 h
  obtain ⟨v, hv, h⟩ := h
  replace h := ob_some.1 h
  obtain ⟨s, hs, h⟩ := h
  replace h := ob_some.1 h
  obtain ⟨p, hp, h⟩ := h
  replace h := ob_some.1 h
  obtain ⟨u, hu, h⟩ := h
  replace h := ob_some.1 h
  obtain ⟨n, hn, h⟩ := h
  rw [fval_e] at hv hu; rw [vSl_iff] at hs; rw [aP_iff] at hp
  have hn := vN_s hn
  obtain ⟨s1, s2, s3⟩ := s
  simp only at hp hs
  subst hp hs
  simp only [aop, hv, hu, hn]
  simp only at h
  cases hb : Nat.blt n s2 with
  | false => rw [hb] at h; cases h
  | true => rw [hb] at h; exact h
noncomputable def q_iadra (len sz : Nat) (x i : Operand) (e : Env) (H : Heap) : Option (Value × Heap) := ob (fval e x) fun v => ob (vP v) fun p => ob (fval e i) fun u => ob (vN u) fun n =>
  Bool.rec (motive := fun _ => Option (Value × Heap)) none (some (.pointer (some ⟨p.1, Nat.add p.2 (Nat.mul n sz), none⟩), H)) (Nat.blt n len)
theorem q_iadra_s {len sz : Nat} {x i : Operand} (h : q_iadra len sz x i e H = some r) : aop P e H (.iadra len sz x i) = some r := by
  replace h := ob_some.1 h
  obtain ⟨v, hv, h⟩ := h
  replace h := ob_some.1 h
  obtain ⟨p, hp, h⟩ := h
  replace h := ob_some.1 h
  obtain ⟨u, hu, h⟩ := h
  replace h := ob_some.1 h
  obtain ⟨n, hn, h⟩ := h
  rw [fval_e] at hv hu; rw [vP_iff] at hp
  have hn := vN_s hn
  subst hp
  simp only [aop, hv, hu, hn]
  cases hb : Nat.blt n len with
  | false => rw [hb] at h; cases h
  | true => rw [hb] at h; exact h
noncomputable def q_idxa (len sz : Nat) (agg : Bool) (x i : Operand) (e : Env) (H : Heap) : Option (Value × Heap) := ob (fval e x) fun v => ob (vA v) fun l => ob (fval e i) fun u => ob (vN u) fun n =>
  Bool.rec (motive := fun _ => Option (Value × Heap)) none (Bool.rec (motive := fun _ => Option (Value × Heap)) (ob (fnth l (Nat.mul n sz)) fun u => some (u, H)) (ob (fcellsAt l (Nat.mul n sz) sz) fun m => some (.agg ⟨m⟩, H)) agg) (Nat.blt n len)
theorem q_idxa_s {len sz : Nat} {agg : Bool} {x i : Operand} (h : q_idxa len sz agg x i e H = some r) : aop P e H (.idxa len sz agg x i) = some r := by
  replace h := ob_some.1 h
  obtain ⟨v, hv, h⟩ := h
  replace h := ob_some.1 h
  obtain ⟨l, hp, h⟩ := h
  replace h := ob_some.1 h
  obtain ⟨u, hu, h⟩ := h
  replace h := ob_some.1 h
  obtain ⟨n, hn, h⟩ := h
  rw [fval_e] at hv hu; rw [vA_iff] at hp
  have hn := vN_s hn
  subst hp
  simp only [aop, hv, hu, hn]
  cases hb : Nat.blt n len with
  | false => rw [hb] at h; cases h
  | true =>
    rw [hb] at h
    simp only [cond_true]
    have e1 : Nat.mul n sz = n * sz := rfl
    rw [e1] at h
    cases agg with
    | false =>
      replace h := ob_some.1 h
      obtain ⟨w, hw, h⟩ := h
      rw [fnth_eq] at hw
      simp only [partOf, cond_false, hw]; exact h
    | true =>
      replace h := ob_some.1 h
      obtain ⟨m, hm, h⟩ := h
      unfold fcellsAt at hm
      rw [llen_eq, ltake_eq, ldrop_eq] at hm
      have e1 : Nat.add (n * sz) sz = n * sz + sz := rfl
      rw [e1] at hm
      simp only [partOf, cond_true]
      cases hh : Nat.ble (n * sz + sz) l.length with
      | false => rw [hh] at hm; cases hm
      | true => rw [hh] at hm; cases hm; exact h

/-! #### A struct is built -/

noncomputable def ffill (cs : List Value) (l : List (Nat × Nat × Value)) : Option (List Value) :=
  List.rec (motive := fun _ => List Value → Option (List Value)) (fun cs => some cs)
    (fun p _ ih cs => Bool.rec (motive := fun _ => Option (List Value)) none (Bool.rec (motive := fun _ => Option (List Value)) none (ih (lapp (ltake cs p.1) (lapp (vCells p.2.2) (ldrop cs (Nat.add p.1 (llen (vCells p.2.2))))))) (Nat.ble (Nat.add p.1 p.2.1) (llen cs))) (Nat.beq (llen (vCells p.2.2)) p.2.1)) l cs
theorem ffill_s : ∀ (l : List (Nat × Nat × Value)) (cs : List Value) {m : List Value}, ffill cs l = some m → fillParts cs l = some m := by
  intro l
  induction l with
  | nil => intro cs m h; exact h
  | cons p l ih =>
    intro cs m h
    obtain ⟨o, n, v⟩ := p
    have h : (Bool.rec (motive := fun _ => Option (List Value)) none (Bool.rec (motive := fun _ => Option (List Value)) none (ffill (lapp (ltake cs o) (lapp (vCells v) (ldrop cs (Nat.add o (llen (vCells v)))))) l) (Nat.ble (Nat.add o n) (llen cs))) (Nat.beq (llen (vCells v)) n)) = some m := h
    rw [lapp_eq, lapp_eq, ltake_eq, ldrop_eq, llen_eq, llen_eq, vCells_eq, Array.length_toList] at h
    have e1 : ∀ a b, Nat.add a b = a + b := fun _ _ => rfl
    rw [e1, e1] at h
    simp only [fillParts]
    cases h1 : Nat.beq v.cells.size n with
    | false => rw [h1] at h; cases h
    | true =>
      rw [h1] at h
      cases h2 : Nat.ble (o + n) cs.length with
      | false => rw [h2] at h; cases h
      | true =>
        rw [h2] at h
        simp only [Bool.and_self, cond_true]
        refine ih _ ?_
        simp only [setCells, Array.length_toList, List.append_assoc]
        exact h
noncomputable def fparts (e : Env) (l : List Part) : Option (List (Nat × Nat × Value)) :=
  List.rec (motive := fun _ => Option (List (Nat × Nat × Value))) (some []) (fun x _ ih => ob (fval e x.2.2) fun v => ob ih fun vs => some ((x.1, x.2.1, v) :: vs)) l
theorem fparts_e (e : Env) (l : List Part) : fparts e l = partVals e l := by
  induction l with
  | nil => rfl
  | cons x r ih =>
    obtain ⟨a, b, x⟩ := x
    show (ob (fval e x) fun v => ob (fparts e r) fun vs => some ((a, b, v) :: vs)) = _
    rw [ih, fval_e]
    show _ = (match aval e x, partVals e r with | some v, some vs => some ((a, b, v) :: vs) | _, _ => none)
    cases aval e x <;> cases partVals e r <;> rfl
noncomputable def q_build (ok : Bool) (zero : List Value) (parts : List Part) (e : Env) (H : Heap) : Option (Value × Heap) :=
  Bool.rec (motive := fun _ => Option (Value × Heap)) none (ob (fparts e parts) fun vs => ob (ffill zero vs) fun cs => some (.agg ⟨cs⟩, H)) ok
theorem q_build_s {zero : List Value} {parts : List Part} (h : q_build (zero.all (clo 3)) zero parts e H = some r) : aop P e H (.build zero parts) = some r := by
  unfold q_build at h
  simp only [aop]
  cases hh : zero.all (clo 3) with
  | false => rw [hh] at h; cases h
  | true =>
    rw [hh] at h
    replace h := ob_some.1 h
    obtain ⟨vs, hvs, h⟩ := h
    replace h := ob_some.1 h
    obtain ⟨cs, hcs, h⟩ := h
    rw [fparts_e] at hvs
    simp only [cond_true, hvs, ffill_s _ _ hcs]; exact h

/-! #### Lengths, nil -/

noncomputable def vM (v : Value) : Option (Option Nat) := Value.rec (motive_1 := fun _ => Option (Option Nat)) (motive_2 := fun _ => Unit) (motive_3 := fun _ => Unit) (fun _ => none) (fun _ _ => none) (fun _ _ => none) (fun _ _ _ => none) (fun _ => none) (fun _ => none) (fun _ _ _ => none) (fun m => some m) (fun _ => none) (fun _ _ _ _ _ => none) none (fun _ _ _ => none) none (fun _ _ => none) (fun _ _ => none) (fun _ _ => ()) () (fun _ _ _ _ => ()) v
theorem vM_iff {v : Value} {m : Option Nat} : vM v = some m ↔ v = .map m := by cases v <;> simp [vM]
noncomputable def bM (b : Blk) : Option (List (Value × Value)) := Blk.rec (motive := fun _ => Option (List (Value × Value))) (fun _ _ _ => none) (fun es => some es) b
theorem bM_iff {b : Blk} {es : List (Value × Value)} : bM b = some es ↔ b = .mp es := by cases b <;> simp [bM]

noncomputable def q_len (m : Bool) (x : Operand) (e : Env) (H : Heap) : Option (Value × Heap) := ob (fval e x) fun v =>
  Bool.rec (motive := fun _ => Option (Value × Heap)) (ob (vSl v) fun s => mkI .i64 (Int.ofNat s.2.1) H)
    (ob (vM v) fun b => ob b fun b => ob (hget H b) fun y => ob (bM y) fun es => mkI .i64 (Int.ofNat (llen es)) H) m
theorem q_len_s {m : Bool} {x : Operand} (h : q_len m x e H = some r) : aop P e H (.len m x) = some r := by
  replace h := ob_some.1 h
  obtain ⟨v, hv, h⟩ := h
  rw [fval_e] at hv
  cases m with
  | false =>
    replace h := ob_some.1 h
    obtain ⟨s, hs, h⟩ := h
    rw [vSl_iff] at hs; subst hs
    rw [mkI_eq] at h
    simp only [aop, hv]; exact h
  | true =>
    replace h := ob_some.1 h
    obtain ⟨b, hb, h⟩ := h
    replace h := ob_some.1 h
    obtain ⟨b', hb', h⟩ := h
    replace h := ob_some.1 h
    obtain ⟨y, hy, h⟩ := h
    replace h := ob_some.1 h
    obtain ⟨es, hes, h⟩ := h
    rw [vM_iff] at hb; rw [bM_iff] at hes; rw [hget_eq] at hy
    subst hb hb' hes
    rw [mkI_eq, llen_eq] at h
    simp only [aop, hv, hy]; exact h

/-! #### Strings cut -/

noncomputable def btake (l : List UInt8) (n : Nat) : List UInt8 :=
  List.rec (motive := fun _ => Nat → List UInt8) (fun _ => []) (fun v _ ih n => Nat.rec (motive := fun _ => List UInt8) [] (fun m _ => v :: ih m) n) l n
theorem btake_eq : ∀ (l : List UInt8) (n : Nat), btake l n = l.take n := by
  intro l
  induction l with
  | nil => intro n; simp only [List.take_nil]; rfl
  | cons v l ih =>
    intro n
    cases n with
    | zero => rfl
    | succ n => rw [List.take_succ_cons, ← ih]; rfl
noncomputable def bdrop (l : List UInt8) (n : Nat) : List UInt8 :=
  List.rec (motive := fun _ => Nat → List UInt8) (fun _ => []) (fun v r ih n => Nat.rec (motive := fun _ => List UInt8) (v :: r) (fun m _ => ih m) n) l n
theorem bdrop_eq : ∀ (l : List UInt8) (n : Nat), bdrop l n = l.drop n := by
  intro l
  induction l with
  | nil => intro n; simp only [List.drop_nil]; rfl
  | cons v l ih =>
    intro n
    cases n with
    | zero => rfl
    | succ n => rw [List.drop_succ_cons, ← ih]; rfl

theorem extractL (s : List UInt8) (l h : Nat) : (ByteArray.mk ⟨s⟩).extract l h = ⟨⟨(s.drop l).take (h - l)⟩⟩ := by
  have : ((ByteArray.mk ⟨s⟩).extract l h).data.toList = (s.drop l).take (h - l) := by
    rw [ByteArray.data_extract, Array.toList_extract, List.extract_eq_take_drop]
  generalize (ByteArray.mk ⟨s⟩).extract l h = c at this
  cases c with
  | mk d => cases d with
    | mk m => simp only at this; rw [this]

noncomputable def fhi (len : Nat) (v : Option Value) : Option Nat := Option.rec (motive := fun _ => Option Nat) (some len) (fun v => vN v) v
noncomputable def flo (v : Option Value) : Option Nat := Option.rec (motive := fun _ => Option Nat) (some 0) (fun v => vN v) v
noncomputable def q_slcs (x : Operand) (lo hi : Option Operand) (e : Env) (H : Heap) : Option (Value × Heap) :=
  ob (fval e x) fun v => ob (vS v) fun s => ob (fvalo e lo) fun a => ob (fvalo e hi) fun b => ob (flo a) fun l => ob (fhi (llen s) b) fun h =>
    Bool.rec (motive := fun _ => Option (Value × Heap)) none (Bool.rec (motive := fun _ => Option (Value × Heap)) none (some (.string ⟨⟨btake (bdrop s l) (Nat.sub h l)⟩⟩, H)) (Nat.ble h (llen s))) (Nat.ble l h)
theorem bounds_s {len l m : Nat} {a b : Option Value} (hl : flo a = some l) (hm : fhi len b = some m) (h1 : Nat.ble l m = true) (h2 : Nat.ble m len = true) : bounds len len a b = some (l, m) := by
  unfold bounds
  cases b with
  | none =>
    obtain rfl : len = m := Option.some.inj hm
    cases a with
    | none =>
      obtain rfl : 0 = l := Option.some.inj hl
      simp only [h1, h2, Bool.and_self, cond_true]
    | some v => simp only [vN_s hl, h1, h2, Bool.and_self, cond_true]
  | some u =>
    cases a with
    | none =>
      obtain rfl : 0 = l := Option.some.inj hl
      simp only [vN_s hm, h1, h2, Bool.and_self, cond_true]
    | some v => simp only [vN_s hl, vN_s hm, h1, h2, Bool.and_self, cond_true]
theorem q_slcs_s {x : Operand} {lo hi : Option Operand} (h : q_slcs x lo hi e H = some r) : aop P e H (.slcs x lo hi) = some r := by
  replace h := ob_some.1 h
  obtain ⟨v, hv, h⟩ := h
  replace h := ob_some.1 h
  obtain ⟨s, hs, h⟩ := h
  replace h := ob_some.1 h
  obtain ⟨a, ha, h⟩ := h
  replace h := ob_some.1 h
  obtain ⟨b, hb, h⟩ := h
  replace h := ob_some.1 h
  obtain ⟨l, hl, h⟩ := h
  replace h := ob_some.1 h
  obtain ⟨m, hm, h⟩ := h
  rw [fval_e] at hv; rw [vS_iff] at hs; rw [fvalo_e] at ha hb
  subst hs
  rw [llen_eq] at hm h
  rw [btake_eq, bdrop_eq] at h
  have hsz : (ByteArray.mk ⟨s⟩).size = s.length := rfl
  have hbd : bounds s.length s.length a b = some (l, m) ∧ some (Value.string ⟨⟨(s.drop l).take (m - l)⟩⟩, H) = some r := by
    cases h1 : Nat.ble l m with
    | false => rw [h1] at h; cases h
    | true =>
      rw [h1] at h
      cases h2 : Nat.ble m s.length with
      | false => rw [h2] at h; cases h
      | true => rw [h2] at h; exact ⟨bounds_s hl hm h1 h2, h⟩
  simp only [aop, hv, ha, hb, hsz, hbd.1, extractL]
  exact hbd.2

end

/-! #### Maps by strings or numbers -/

section
variable {P : Program} {e : Env} {H : Heap} {r : Value × Heap}

theorem ba_beq (a b : List UInt8) : ((⟨⟨a⟩⟩ : ByteArray) == ⟨⟨b⟩⟩) = (a == b) := by
  show ByteArray.beq ⟨⟨a⟩⟩ ⟨⟨b⟩⟩ = _
  unfold ByteArray.beq
  rw [Bool.eq_iff_iff]
  simp

theorem equal_str {kt : TypeId} (ht : P.underlying kt = some .string) (a b : List UInt8) : pureRun P (Op.equal kt (.string ⟨⟨a⟩⟩) (.string ⟨⟨b⟩⟩)) = some (a == b) := by
  show pureRun P (Op.equalIn (9999 + 1) kt _ _) = _
  unfold Op.equalIn
  rw [pureRun_bind, pureRun_underlying ht, Option.bind_some]
  show pureRun P (Pure.pure ((⟨⟨a⟩⟩ : ByteArray) == ⟨⟨b⟩⟩)) = _
  rw [pureRun_pure, ba_beq]
theorem checkKey_str {kt : TypeId} (ht : P.underlying kt = some .string) (em : Bool) (v : ByteArray) : pureRun P (Instr.checkKey em 10000 kt (.string v)) = some () := by
  show pureRun P (Instr.checkKey em (9999 + 1) kt _) = _
  unfold Instr.checkKey
  rw [pureRun_bind, pureRun_underlying ht, Option.bind_some]
  rfl

/-- Where a key stands. -/
noncomputable def fkey (k : List UInt8) (es : List (Value × Value)) : Option (Option (Nat × Value)) :=
  List.rec (motive := fun _ => Nat → Option (Option (Nat × Value))) (fun _ => some none)
    (fun p _ ih i => ob (vS p.1) fun s => Bool.rec (motive := fun _ => Option (Option (Nat × Value))) (ih (Nat.succ i)) (some (some (i, p.2))) (seq8 k s)) es 0
theorem fkey_s {kt : TypeId} (ht : P.underlying kt = some .string) (k : List UInt8) : ∀ (es : List (Value × Value)) (i : Nat) {x : Option (Nat × Value)},
    (List.rec (motive := fun _ => Nat → Option (Option (Nat × Value))) (fun _ => some none)
    (fun p _ ih i => ob (vS p.1) fun s => Bool.rec (motive := fun _ => Option (Option (Nat × Value))) (ih (Nat.succ i)) (some (some (i, p.2))) (seq8 k s)) es : Nat → Option (Option (Nat × Value))) i = some x → findKey P kt (.string ⟨⟨k⟩⟩) es i = some x := by
  intro es
  induction es with
  | nil => intro i x h; exact h
  | cons p es ih =>
    intro i x h
    obtain ⟨k', v⟩ := p
    replace h := ob_some.1 h
    obtain ⟨s, hs, h⟩ := h
    rw [vS_iff] at hs
    simp only at hs; subst hs
    simp only [findKey, equal_str ht, ← seq8_eq]
    cases hq : seq8 k s with
    | true => rw [hq] at h; exact h
    | false => rw [hq] at h; exact ih (i + 1) h

noncomputable def lookV (kz : Bool) (zero : Value) (ok : Bool) (k : List UInt8) (em : Option Nat) (H : Heap) : Option (Value × Heap) :=
  Bool.rec (motive := fun _ => Option (Value × Heap)) none
    (ob em fun b => ob (hget H b) fun y => ob (bM y) fun es => ob (fkey k es) fun x =>
      Option.rec (motive := fun _ => Option (Value × Heap)) (Bool.rec (motive := fun _ => Option (Value × Heap)) (some (zero, H)) (some (.tuple ⟨[zero, .bool false]⟩, H)) ok)
        (fun p => Bool.rec (motive := fun _ => Option (Value × Heap)) (some (p.2, H)) (some (.tuple ⟨[p.2, .bool true]⟩, H)) ok) x) kz
noncomputable def q_look (s kz : Bool) (kt : TypeId) (zero : Value) (x k : Operand) (ok : Bool) (e : Env) (H : Heap) : Option (Value × Heap) :=
  Bool.rec (motive := fun _ => Option (Value × Heap)) none (ob (fval e x) fun v => ob (fval e k) fun u => ob (vM v) fun m => ob (vS u) fun l => lookV kz zero ok l m H) s
theorem q_look_s {kt : TypeId} {zero : Value} {x k : Operand} {ok : Bool} (h : q_look (tS (P.underlying kt)) (clo 3 zero) kt zero x k ok e H = some r) : aop P e H (.look kt zero x k ok) = some r := by
  unfold q_look at h
  cases h1 : tS (P.underlying kt) with
  | false => rw [h1] at h; cases h
  | true =>
    rw [h1] at h
    have ht := tS_iff h1
    replace h := ob_some.1 h
    obtain ⟨v, hv, h⟩ := h
    replace h := ob_some.1 h
    obtain ⟨u, hu, h⟩ := h
    replace h := ob_some.1 h
    obtain ⟨m, hm, h⟩ := h
    replace h := ob_some.1 h
    obtain ⟨l, hl, h⟩ := h
    rw [fval_e] at hv hu; rw [vM_iff] at hm; rw [vS_iff] at hl
    subst hm hl
    unfold lookV at h
    cases h2 : clo 3 zero with
    | false => rw [h2] at h; cases h
    | true =>
      rw [h2] at h
      replace h := ob_some.1 h
      obtain ⟨b, hb, h⟩ := h
      replace h := ob_some.1 h
      obtain ⟨y, hy, h⟩ := h
      replace h := ob_some.1 h
      obtain ⟨es, hes, h⟩ := h
      replace h := ob_some.1 h
      obtain ⟨z, hz, h⟩ := h
      rw [bM_iff] at hes; rw [hget_eq] at hy
      subst hb hes
      have hk := fkey_s ht l es 0 hz
      have hc : clo 3 (Value.string ⟨⟨l⟩⟩) = true := rfl
      simp only [aop, hv, hu, hy, h2, hc, checkKey_str ht, Option.isSome_some, Bool.and_self, cond_true, hk]
      cases z with
      | none => cases ok <;> exact h
      | some p => obtain ⟨i, w⟩ := p; cases ok <;> exact h

end

noncomputable def fop (P : Program) (o : AOp) : Bx (Env → Heap → Option (Value × Heap)) :=
  match o with
  | .mv x => ⟨q_mv x⟩
  | .pick c a b => ⟨q_pick c a b⟩
  | .alloc zero => ⟨q_alloc (zero.all (clo 3) && zero.all oneCell) zero⟩
  | .box x => ⟨q_box x⟩
  | .build zero parts => ⟨q_build (zero.all (clo 3)) zero parts⟩
  | .ld1 x => ⟨q_ld1 x⟩
  | .ldn n x => ⟨q_ldn n x⟩
  | .st n x v => ⟨q_st n x v⟩
  | .fadr n x => ⟨q_fadr n x⟩
  | .ext x i => ⟨q_ext x i⟩
  | .fld off n agg x => ⟨q_fld off n agg x⟩
  | .iadrs sz x i => ⟨q_iadrs sz x i⟩
  | .iadra len sz x i => ⟨q_iadra len sz x i⟩
  | .idxa len sz agg x i => ⟨q_idxa len sz agg x i⟩
  | .len m x => ⟨fun e H => Option.rec (motive := fun _ => Option (Value × Heap)) (aop P e H (.len m x)) (fun r => some r) (q_len m x e H)⟩
  | .slcs x lo hi => ⟨q_slcs x lo hi⟩
  | .look kt zero x k ok => ⟨fun e H => Option.rec (motive := fun _ => Option (Value × Heap)) (aop P e H (.look kt zero x k ok)) (fun r => some r) (q_look (tS (P.underlying kt)) (clo 3 zero) kt zero x k ok e H)⟩
  | .bslice sz len zero parts => ⟨fun e H => aop P e H (.bslice sz len zero parts)⟩
  | .nilck x => ⟨fun e H => aop P e H (.nilck x)⟩
  | .cmpref k neg x y => ⟨fun e H => aop P e H (.cmpref k neg x y)⟩
  | .mkiface t x => ⟨fun e H => aop P e H (.mkiface t x)⟩
  | .mkfunc f first captured => ⟨fun e H => aop P e H (.mkfunc f first captured)⟩
  | .mkmap r => ⟨fun e H => aop P e H (.mkmap r)⟩
  | .mkslice sz by_ zero l c => ⟨fun e H => aop P e H (.mkslice sz by_ zero l c)⟩
  | .slcl sz x lo hi mx => ⟨fun e H => aop P e H (.slcl sz x lo hi mx)⟩
  | .slca n sz x lo hi mx => ⟨fun e H => aop P e H (.slca n sz x lo hi mx)⟩
  | .mput kt x k v => ⟨fun e H => aop P e H (.mput kt x k v)⟩
  | .mdel kt x k => ⟨fun e H => aop P e H (.mdel kt x k)⟩
  | .app sz by_ s x => ⟨fun e H => aop P e H (.app sz by_ s x)⟩
  | .copy sz d s => ⟨fun e H => aop P e H (.copy sz d s)⟩
  | .clear sz zero x => ⟨fun e H => aop P e H (.clear sz zero x)⟩
  | .cvsb x => ⟨fun e H => aop P e H (.cvsb x)⟩
  | .cvbs x => ⟨fun e H => aop P e H (.cvbs x)⟩
  | .prim o => o_prim P o
  | .call .. | .callv .. | .inv .. => ⟨fun _ _ => none⟩

theorem fop_sound {P : Program} {o : AOp} {e : Env} {H : Heap} {r : Value × Heap} (h : (fop P o).un e H = some r) : aop P e H o = some r := by
  cases o with
  | prim o => exact o_prim_sound h
  | mv x => exact q_mv_s h
  | pick c a b => exact q_pick_s h
  | alloc zero => exact q_alloc_s h
  | box x => exact q_box_s h
  | build zero parts => exact q_build_s h
  | ld1 x => exact q_ld1_s h
  | ldn n x => exact q_ldn_s h
  | st n x v => exact q_st_s h
  | fadr n x => exact q_fadr_s h
  | ext x i => exact q_ext_s h
  | fld off n agg x => exact q_fld_s h
  | iadrs sz x i => exact q_iadrs_s h
  | iadra len sz x i => exact q_iadra_s h
  | idxa len sz agg x i => exact q_idxa_s h
  | slcs x lo hi => exact q_slcs_s h
  | len m x =>
    have h : (Option.rec (motive := fun _ => Option (Value × Heap)) (aop P e H (.len m x)) (fun r => some r) (q_len m x e H)) = some r := h
    cases hq : q_len m x e H with
    | none => rw [hq] at h; exact h
    | some y => rw [hq] at h; cases h; exact q_len_s hq
  | look kt zero x k ok =>
    have h : (Option.rec (motive := fun _ => Option (Value × Heap)) (aop P e H (.look kt zero x k ok)) (fun r => some r) (q_look (tS (P.underlying kt)) (clo 3 zero) kt zero x k ok e H)) = some r := h
    cases hq : q_look (tS (P.underlying kt)) (clo 3 zero) kt zero x k ok e H with
    | none => rw [hq] at h; exact h
    | some y => rw [hq] at h; cases h; exact q_look_s hq
  | call | callv | inv => cases h
  | _ => exact h

/-! ### Code -/

abbrev Cl := Nat → List Value → Heap → Option (Value × Heap)

noncomputable def f_call (f : Nat) (xs : List Operand) (cl : Cl) (e : Env) (H : Heap) : Option (Value × Heap) :=
  ob (fvals e xs) fun vs => cl f vs H

noncomputable def f_callv (x : Operand) (xs : List Operand) (cl : Cl) (e : Env) (H : Heap) : Option (Value × Heap) :=
  match fval e x, fvals e xs with
  | some (.func (.func f) first captured), some vs => cl f (first.toList ++ vs ++ captured.toList) H
  | _, _ => none

noncomputable def f_inv (x : Operand) (t : List (TypeId × FuncId)) (xs : List Operand) (cl : Cl) (e : Env) (H : Heap) : Option (Value × Heap) :=
  match fval e x, fvals e xs with
  | some (.iface t' v), some vs => (match t.find? (fun p => Nat.beq p.1 t') with
    | some (_, f) => cl f (v :: vs) H
    | none => none)
  | _, _ => none

noncomputable def fone (P : Program) (o : AOp) : Bx (Cl → Env → Heap → Option (Value × Heap)) :=
  match o with
  | .call f xs => ⟨f_call f xs⟩
  | .callv x xs => ⟨f_callv x xs⟩
  | .inv x t xs => ⟨f_inv x t xs⟩
  | o => ⟨fun _ => (fop P o).un⟩

noncomputable def wantV (v : Value) (w : Bool) : Option Bool :=
  match v with
  | .bool b => some (b == w)
  | .tuple _ => some false
  | _ => none

noncomputable def fwant (e : Env) (g : Option (Nat × Bool)) : Option Bool :=
  Option.rec (motive := fun _ => Option Bool) (some true) (fun p => ob (fget e p.1) fun v => wantV v p.2) g

theorem fwant_eq (e : Env) (g : Option (Nat × Bool)) : fwant e g = wanted e g := by
  cases g with
  | none => rfl
  | some p =>
    obtain ⟨t, w⟩ := p
    show ob (fget e t) (fun v => wantV v w) = _
    simp only [wanted, fget_eq]
    cases eget e t with
    | none => rfl
    | some v => cases v <;> rfl

abbrev Os := Bx (Cl → Env → Heap → Option (Env × Heap))

noncomputable def fputk (d : Option Nat) (v : Value) (H : Heap) (k : Os) (cl : Cl) (e : Env) : Option (Env × Heap) :=
  Option.rec (motive := fun _ => Option (Env × Heap)) (k.un cl e H) (fun n => k.un cl ((n, v) :: e) H) d
theorem fputk_eq (d : Option Nat) (v : Value) (H : Heap) (k : Os) (cl : Cl) (e : Env) : fputk d v H k cl e = k.un cl (eput e d v) H := by
  cases d <;> rfl

noncomputable def fopsC (d : Option Nat) (g : Option (Nat × Bool)) (x : Bx (Cl → Env → Heap → Option (Value × Heap))) (k : Os) (cl : Cl) (e : Env) (H : Heap) : Option (Env × Heap) :=
  ob (fwant e g) fun b => Bool.rec (motive := fun _ => Option (Env × Heap)) (fputk d (.tuple #[]) H k cl e) (ob (x.un cl e H) fun y => fputk d y.1 y.2 k cl e) b

noncomputable def fops (P : Program) (l : List LOp) : Os :=
  List.rec (motive := fun _ => Os) ⟨fun _ e H => some (e, H)⟩ (fun o _ ih => ⟨fopsC o.dst o.guard (fone P o.op) ih⟩) l

abbrev Dr := Bx (Cl → Env → Heap → Option (Env × Heap × List Rec))

noncomputable def fdrawC (d : Option Nat) (g : Option (Nat × Bool)) (x : Bx (Cl → Env → Heap → Option (Value × Heap))) (k : Dr) (cl : Cl) (e : Env) (H : Heap) : Option (Env × Heap × List Rec) :=
  ob (fwant e g) fun b => Bool.rec (motive := fun _ => Option (Env × Heap × List Rec))
    (ob (k.un cl (eput e d (.tuple #[])) H) fun y => some (y.1, y.2.1, ⟨e, H, .tuple #[], H, false⟩ :: y.2.2))
    (ob (x.un cl e H) fun v => ob (k.un cl (eput e d v.1) v.2) fun y => some (y.1, y.2.1, ⟨e, H, v.1, v.2, true⟩ :: y.2.2)) b

noncomputable def fdraw (P : Program) (l : List LOp) : Dr :=
  List.rec (motive := fun _ => Dr) ⟨fun _ e H => some (e, H, [])⟩ (fun o _ ih => ⟨fdrawC o.dst o.guard (fone P o.op) ih⟩) l

abbrev Cd := Bx (Cl → Env → Heap → Option (LExit × Env × Heap))

noncomputable def fregC (x : Os) (cl : Cl) (e : Env) (H : Heap) : Option (LExit × Env × Heap) := ob (x.un cl e H) fun r => some (.normal, r)

noncomputable def fdregC (P : Program) (ops : List LOp) (chk : List (Nat × Nat × Nat)) (x : Dr) (cl : Cl) (e : Env) (H : Heap) : Option (LExit × Env × Heap) :=
  ob (x.un cl e H) fun r => List.rec (motive := fun _ => Option (LExit × Env × Heap)) (some (.normal, r.1, r.2.1)) (fun _ _ _ => bif drawsOk P H ops r.2.2 chk then some (.normal, r.1, r.2.1) else none) chk

noncomputable def fseqC (a b : Cd) (cl : Cl) (e : Env) (H : Heap) : Option (LExit × Env × Heap) :=
  ob (a.un cl e H) fun r => LExit.rec (motive := fun _ => Option (LExit × Env × Heap)) (b.un cl r.2.1 r.2.2) (fun id => some (.exit id, r.2)) (some (.ret, r.2)) r.1

noncomputable def fcondC (c : Operand) (a b : Cd) (cl : Cl) (e : Env) (H : Heap) : Option (LExit × Env × Heap) :=
  ob (fval e c) fun v => ob (vB v) fun t => Bool.rec (motive := fun _ => Option (LExit × Env × Heap)) (b.un cl e H) (a.un cl e H) t

noncomputable def fblockC (id : Nat) (a : Cd) (cl : Cl) (e : Env) (H : Heap) : Option (LExit × Env × Heap) :=
  ob (a.un cl e H) fun r => LExit.rec (motive := fun _ => Option (LExit × Env × Heap)) (some (.normal, r.2))
    (fun i => Bool.rec (motive := fun _ => Option (LExit × Env × Heap)) (some (.exit i, r.2)) (some (.normal, r.2)) (Nat.beq i id)) (some (.ret, r.2)) r.1

noncomputable def floopC (a : Cd) (n : Nat) : Cl → Env → Heap → Option (LExit × Env × Heap) :=
  Nat.rec (motive := fun _ => Cl → Env → Heap → Option (LExit × Env × Heap)) (fun _ _ _ => none)
    (fun _ ih cl e H => ob (a.un cl e H) fun r => LExit.rec (motive := fun _ => Option (LExit × Env × Heap)) (ih cl r.2.1 r.2.2) (fun id => some (.exit id, r.2)) (some (.ret, r.2)) r.1) n

noncomputable def fcode (P : Program) (n : Nat) (c : LCode) : Cd :=
  LCode.rec (motive := fun _ => Cd)
    ⟨fun _ e H => some (.normal, e, H)⟩
    (fun ks => ⟨fun _ e H => some (.normal, fkeep e ks, H)⟩)
    (fun ops => ⟨fregC (fops P ops)⟩)
    (fun ops chk => ⟨fdregC P ops chk (fdraw P ops)⟩)
    (fun _ _ a b => ⟨fseqC a b⟩)
    (fun c _ _ a b => ⟨fcondC c a b⟩)
    (fun id _ a => ⟨fblockC id a⟩)
    (fun _ a => ⟨floopC a n⟩)
    (fun id => ⟨fun _ e H => some (.exit id, e, H)⟩)
    ⟨fun _ e H => some (.ret, e, H)⟩ c

noncomputable def fress (e : Env) (H : Heap) (rs : List LRes) : Option (List Value) :=
  List.rec (motive := fun _ => Option (List Value)) (some []) (fun r _ ih => ob (ares e H r) fun v => ob ih fun vs => some (v :: vs)) rs
theorem fress_eq (e : Env) (H : Heap) (rs : List LRes) : fress e H rs = aress e H rs := by
  induction rs with
  | nil => rfl
  | cons r rs ih =>
    show (ob (ares e H r) fun v => ob (fress e H rs) fun vs => some (v :: vs)) = _
    rw [ih]
    show _ = (match ares e H r, aress e H rs with | some v, some vs => some (v :: vs) | _, _ => none)
    cases ares e H r <;> cases aress e H rs <;> rfl

noncomputable def fback (rs : List LRes) (r : Option (LExit × Env × Heap)) : Option (Value × Heap) :=
  ob r fun r => LExit.rec (motive := fun _ => Option (Value × Heap)) (ob (fress r.2.1 r.2.2 rs) fun vs => some (pack vs, r.2.2)) (fun _ => none) (ob (fress r.2.1 r.2.2 rs) fun vs => some (pack vs, r.2.2)) r.1

noncomputable def fpar (l : List Value) (i : Nat) : Env :=
  List.rec (motive := fun _ => Nat → Env) (fun _ => []) (fun v _ ih i => (i, v) :: ih (Nat.succ i)) l i
theorem fpar_eq : ∀ (l : List Value) (i : Nat), fpar l i = params i l := by
  intro l
  induction l with
  | nil => intro i; rfl
  | cons v l ih => intro i; show (i, v) :: fpar l (i + 1) = _; rw [ih]; rfl

/-- A function made ready. -/
noncomputable def fready (E : Env0) (n f : Nat) : Option (Nat × List LRes × Cd) := ob (E.fn f) fun fn => some (fn.nparams, fn.results, fcode E.P n fn.body)

noncomputable def fenter (E : Env0) (n : Nat) (cl : Cl) (f : Nat) (a : List Value) (H : Heap) : Option (Value × Heap) :=
  Option.rec (motive := fun _ => Option (Value × Heap))
    (ob (fready E n f) fun r => Bool.rec (motive := fun _ => Option (Value × Heap)) none (fback r.2.1 (r.2.2.un cl (fpar a 0) H)) (Nat.beq (llen a) r.1))
    (fun h => h a H) (E.hook f)

/-- The evaluator: 'd' calls deep, loops of at most 'n' rounds. -/
noncomputable def fcall (E : Env0) (n d : Nat) : Cl :=
  Nat.rec (motive := fun _ => Cl) (fun _ _ _ => none) (fun _ ih => fenter E n ih) d

section
variable {E : Env0} {cl : Cl} (hc : ∀ f a H r, cl f a H = some r → semCall E f a H = some r)
include hc

theorem fone_sound {o : AOp} {e : Env} {H : Heap} {r : Value × Heap} (h : (fone E.P o).un cl e H = some r) : semOp E o e H = some r := by
  have gen : isCallA o = false → (fop E.P o).un e H = some r → semOp E o e H = some r := by
    intro h1 h2
    rw [x_op h1]; exact fop_sound h2
  cases o with
  | call f xs =>
    replace h := ob_some.1 h
    obtain ⟨vs, hv, h⟩ := h
    rw [fvals_e] at hv
    rw [semOp_call, hv]; exact hc _ _ _ _ h
  | callv x xs =>
    simp only [fone, f_callv, fval_e, fvals_e] at h
    rw [semOp_callv]
    split at h
    · rename_i f a b vs h1 h2; rw [h1, h2]; exact hc _ _ _ _ h
    · cases h
  | inv x t xs =>
    simp only [fone, f_inv, fval_e, fvals_e] at h
    rw [semOp_inv]
    split at h
    · rename_i t' v vs h1 h2
      rw [h1, h2]
      simp only
      split at h
      · rename_i a f h3; rw [h3]; exact hc _ _ _ _ h
      · cases h
    · cases h
  | _ => exact gen rfl h

theorem fops_sound : ∀ (l : List LOp) {e : Env} {H : Heap} {r : Env × Heap}, (fops E.P l).un cl e H = some r → semOps E l e H = some r := by
  intro l
  induction l with
  | nil => intro e H r h; rw [semOps_nil]; exact h
  | cons o l ih =>
    intro e H r h
    have h : fopsC o.dst o.guard (fone E.P o.op) (fops E.P l) cl e H = some r := h
    rw [semOps_cons]
    replace h := ob_some.1 h
    obtain ⟨b, hb, h⟩ := h
    rw [fwant_eq] at hb
    rw [hb]
    cases b with
    | false =>
      have h : fputk o.dst (.tuple #[]) H (fops E.P l) cl e = some r := h
      rw [fputk_eq] at h
      exact ih h
    | true =>
      replace h := ob_some.1 h
      obtain ⟨y, hy, h⟩ := h
      obtain ⟨v, H1⟩ := y
      rw [fputk_eq] at h
      simp only [fone_sound hc hy]
      exact ih h

theorem fdraw_sound : ∀ (l : List LOp) {e : Env} {H : Heap} {r : Env × Heap × List Rec}, (fdraw E.P l).un cl e H = some r → semDraw E l e H = some r := by
  intro l
  induction l with
  | nil => intro e H r h; rw [semDraw_nil]; exact h
  | cons o l ih =>
    intro e H r h
    have h : fdrawC o.dst o.guard (fone E.P o.op) (fdraw E.P l) cl e H = some r := h
    rw [semDraw_cons]
    replace h := ob_some.1 h
    obtain ⟨b, hb, h⟩ := h
    rw [fwant_eq] at hb
    rw [hb]
    cases b with
    | false =>
      replace h := ob_some.1 h
      obtain ⟨y, hy, h⟩ := h
      obtain ⟨e', H', rs⟩ := y
      simp only [ih hy]; exact h
    | true =>
      replace h := ob_some.1 h
      obtain ⟨v, hv, h⟩ := h
      replace h := ob_some.1 h
      obtain ⟨y, hy, h⟩ := h
      obtain ⟨v, H1⟩ := v
      obtain ⟨e', H', rs⟩ := y
      simp only [fone_sound hc hv, ih hy]; exact h

theorem fcode_sound (n : Nat) : ∀ (c : LCode) {e : Env} {H : Heap} {r : LExit × Env × Heap}, (fcode E.P n c).un cl e H = some r → sem E c e H = some r := by
  intro c
  induction c with
  | skip => intro e H r h; rw [sem_skip]; exact h
  | keep ks => intro e H r h; rw [sem_keep, ← fkeep_eq]; exact h
  | reg ops =>
    intro e H r h
    have h : fregC (fops E.P ops) cl e H = some r := h
    replace h := ob_some.1 h
    obtain ⟨x, hx, h⟩ := h
    rw [sem_reg, fops_sound hc ops hx]; exact h
  | dreg ops chk =>
    intro e H r h
    have h : fdregC E.P ops chk (fdraw E.P ops) cl e H = some r := h
    replace h := ob_some.1 h
    obtain ⟨x, hx, h⟩ := h
    rw [sem_dreg, fdraw_sound hc ops hx]
    cases chk with
    | nil => exact h
    | cons a as => exact h
  | seq a b iha ihb =>
    intro e H r h
    have h : fseqC (fcode E.P n a) (fcode E.P n b) cl e H = some r := h
    rw [sem_seq, andThen_some (x := .ret) (e := e) (H := H)]
    replace h := ob_some.1 h
    obtain ⟨x, hx, h⟩ := h
    obtain ⟨x, e1, H1⟩ := x
    cases x with
    | normal => exact .inl ⟨e1, H1, iha hx, ihb h⟩
    | exit i => cases h; exact .inr ⟨iha hx, fun e2 H2 he => by cases he⟩
    | ret => cases h; exact .inr ⟨iha hx, fun e2 H2 he => by cases he⟩
  | cond c a b iha ihb =>
    intro e H r h
    have h : fcondC c (fcode E.P n a) (fcode E.P n b) cl e H = some r := h
    rw [sem_cond]
    replace h := ob_some.1 h
    obtain ⟨v, hv, h⟩ := h
    replace h := ob_some.1 h
    obtain ⟨t, ht, h⟩ := h
    rw [fval_e] at hv; rw [vB_iff] at ht
    subst ht
    rw [hv]
    cases t with
    | true => exact iha h
    | false => exact ihb h
  | block id a iha =>
    intro e H r h
    have h : fblockC id (fcode E.P n a) cl e H = some r := h
    rw [sem_block]
    replace h := ob_some.1 h
    obtain ⟨x, hx, h⟩ := h
    obtain ⟨x, e1, H1⟩ := x
    rw [iha hx]
    cases x with
    | normal => exact h
    | exit i =>
      show (bif Nat.beq i id then some (LExit.normal, e1, H1) else some (.exit i, e1, H1)) = _
      cases hb : Nat.beq i id with
      | true => simp only [hb] at h; exact h
      | false => simp only [hb] at h; exact h
    | ret => exact h
  | loop a iha =>
    have key : ∀ (m : Nat) {e : Env} {H : Heap} {r : LExit × Env × Heap}, floopC (fcode E.P n a) m cl e H = some r → sem E (.loop a) e H = some r := by
      intro m
      induction m with
      | zero => intro e H r h; cases h
      | succ m ih =>
        intro e H r h
        rw [sem_loop, andThen_some (x := .ret) (e := e) (H := H)]
        replace h := ob_some.1 h
        obtain ⟨x, hx, h⟩ := h
        obtain ⟨x, e1, H1⟩ := x
        cases x with
        | normal => exact .inl ⟨e1, H1, iha hx, ih h⟩
        | exit i => cases h; exact .inr ⟨iha hx, fun e2 H2 he => by cases he⟩
        | ret => cases h; exact .inr ⟨iha hx, fun e2 H2 he => by cases he⟩
    intro e H r h
    exact key n h
  | exit id => intro e H r h; rw [sem_exit]; exact h
  | ret => intro e H r h; rw [sem_ret]; exact h

theorem fenter_sound {n f : Nat} {a : List Value} {H : Heap} {r : Value × Heap} (h : fenter E n cl f a H = some r) : semCall E f a H = some r := by
  unfold fenter at h
  cases hk : E.hook f with
  | some k => rw [hk] at h; rw [semCall_hook hk]; exact h
  | none =>
    rw [hk] at h
    replace h := ob_some.1 h
    obtain ⟨y, hy, h⟩ := h
    replace hy := ob_some.1 hy
    obtain ⟨fn, hf, hy⟩ := hy
    cases hy
    simp only at h
    rw [llen_eq] at h
    cases hl : Nat.beq a.length fn.nparams with
    | false => rw [hl] at h; cases h
    | true =>
      rw [hl] at h
      replace h := ob_some.1 h
      obtain ⟨x, hx, h⟩ := h
      obtain ⟨x, e1, H1⟩ := x
      rw [fpar_eq] at hx
      rw [semCall_fn hk hf hl, fcode_sound hc n _ hx]
      cases x with
      | exit i => cases h
      | normal =>
        replace h := ob_some.1 h
        obtain ⟨vs, hvs, h⟩ := h
        rw [fress_eq] at hvs
        simp only at hvs
        simp only [handBack, hvs]; exact h
      | ret =>
        replace h := ob_some.1 h
        obtain ⟨vs, hvs, h⟩ := h
        rw [fress_eq] at hvs
        simp only at hvs
        simp only [handBack, hvs]; exact h

end

theorem fcall_sound (E : Env0) (n : Nat) : ∀ (d f : Nat) (a : List Value) (H : Heap) (r : Value × Heap), fcall E n d f a H = some r → semCall E f a H = some r := by
  intro d
  induction d with
  | zero => intro f a H r h; cases h
  | succ d ih => intro f a H r h; exact fenter_sound ih (show fenter E n (fcall E n d) f a H = some r from h)

/-- Does a call hand back a closed value? -/
def isV (v : Value) : Option (Value × Heap) → Bool
  | some (u, _) => veq 3 u v
  | _ => false

end Go.Abs
