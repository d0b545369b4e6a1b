/- What library functions come to, in plain Lean. Of no program. -/
import Derived.Lib.ItoaNum
import Derived.Lib.ParseIntB
import Derived.Lib.Repeat
import Derived.Lib.Join
import GoSem.Op.String
set_option linter.all false
namespace Go.Plain
open Go

/-! ### Numerals -/

def natF : Nat → Nat → List UInt8
  | 0, _ => []
  | f + 1, u => bif Nat.blt u 10 then [UInt8.ofNat (48 + u)] else natF f (u / 10) ++ [UInt8.ofNat (48 + u % 10)]

/-- A number's decimal numeral. -/
def natL (u : Nat) : List UInt8 := natF 20 u

theorem natF_eq : ∀ (f u : Nat), u < 10 ^ f → 0 < f → natF f u = Lib.decDigits u := by
  intro f
  induction f with
  | zero => intro u _ h; omega
  | succ f ih =>
    intro u hu _
    unfold natF
    rw [Lib.decDigits]
    by_cases h : u < 10
    · rw [dif_pos h, show Nat.blt u 10 = true from Nat.ble_eq_true_of_le h]; rfl
    · have hb : Nat.blt u 10 = false := by
        cases hh : Nat.blt u 10 with
        | false => rfl
        | true => exact absurd (Nat.le_of_ble_eq_true hh) h
      rw [dif_neg h, hb]
      have hf : 0 < f := by
        rcases Nat.eq_zero_or_pos f with h0 | h0
        · subst h0; simp at hu; omega
        · exact h0
      rw [cond_false, ih (u / 10) (by rw [Nat.pow_succ] at hu; omega) hf]

theorem natL_eq {u : Nat} (h : u < 18446744073709551616) : natL u = Lib.decDigits u := natF_eq 20 u (by omega) (by omega)

/-! ### Texts by rising bytes -/

def ltB : List UInt8 → List UInt8 → Bool
  | _, [] => false
  | [], _ :: _ => true
  | x :: a, y :: b => bif Nat.blt x.toNat y.toNat then true else bif Nat.blt y.toNat x.toNat then false else ltB a b

theorem blt_iff (m n : Nat) : Nat.blt m n = true ↔ m < n := ⟨Nat.le_of_ble_eq_true, fun h => Nat.ble_eq_true_of_le h⟩
theorem blt_dec (m n : Nat) : Nat.blt m n = decide (m < n) := by
  rw [Bool.eq_iff_iff, blt_iff]; simp

theorem ltB_iff : ∀ (a b : List UInt8), ltB a b = true ↔ a < b := by
  intro a
  induction a with
  | nil => intro b; cases b <;> simp [ltB]
  | cons x a ih =>
    intro b
    cases b with
    | nil => simp [ltB]
    | cons y b =>
      simp only [ltB, blt_dec]
      rw [List.cons_lt_cons_iff]
      by_cases h1 : x.toNat < y.toNat
      · have : x < y := h1
        simp [h1, this]
      · by_cases h2 : y.toNat < x.toNat
        · have h3 : ¬ x < y := h1
          have h4 : x ≠ y := fun h => by subst h; omega
          simp [h1, h2, h3, h4]
        · have h3 : ¬ x < y := h1
          have h4 : x = y := UInt8.toNat_inj.1 (by omega)
          subst h4
          simp [h1, h3, ih]

def insL (x : List UInt8) : List (List UInt8) → List (List UInt8)
  | [] => [x]
  | y :: r => bif ltB y x then y :: insL x r else x :: y :: r
/-- Texts in their order. -/
def sortL : List (List UInt8) → List (List UInt8)
  | [] => []
  | x :: r => insL x (sortL r)

theorem insL_perm (x : List UInt8) : ∀ l, (insL x l).Perm (x :: l) := by
  intro l
  induction l with
  | nil => exact List.Perm.refl _
  | cons y r ih =>
    unfold insL
    cases ltB y x with
    | true => exact (List.Perm.cons y ih).trans (List.Perm.swap x y r)
    | false => exact List.Perm.refl _
theorem sortL_perm : ∀ l, (sortL l).Perm l := by
  intro l
  induction l with
  | nil => exact List.Perm.refl _
  | cons x r ih => exact (insL_perm x _).trans (List.Perm.cons x ih)

theorem insL_sorted (x : List UInt8) : ∀ l, l.Pairwise (· ≤ ·) → (insL x l).Pairwise (· ≤ ·) := by
  intro l
  induction l with
  | nil => intro _; simp [insL]
  | cons y r ih =>
    intro h
    unfold insL
    rw [List.pairwise_cons] at h
    cases hb : ltB y x with
    | true =>
      have hlt := (ltB_iff y x).1 hb
      simp only [cond_true, List.pairwise_cons]
      refine ⟨fun z hz => ?_, ih h.2⟩
      rcases List.mem_cons.1 ((insL_perm x r).mem_iff.1 hz) with h1 | h1
      · subst h1; exact List.le_of_lt hlt
      · exact h.1 z h1
    | false =>
      have hle : x ≤ y := fun hh => by rw [(ltB_iff y x).2 hh] at hb; cases hb
      simp only [cond_false, List.pairwise_cons]
      exact ⟨fun z hz => by
        rcases List.mem_cons.1 hz with h1 | h1
        · subst h1; exact hle
        · exact List.le_trans hle (h.1 z h1), h.1, h.2⟩
theorem sortL_sorted : ∀ l, (sortL l).Pairwise (· ≤ ·) := by
  intro l
  induction l with
  | nil => exact List.Pairwise.nil
  | cons x r ih => exact insL_sorted x _ ih

theorem sortL_eq {l m : List (List UInt8)} (h : m.Perm l) : m.mergeSort (fun x y => decide (x ≤ y)) = sortL l := by
  have p : (m.mergeSort (fun x y => decide (x ≤ y))).Perm (sortL l) := (List.mergeSort_perm _ _).trans (h.trans (sortL_perm l).symm)
  refine List.Perm.eq_of_pairwise (le := fun x y => x ≤ y) (fun a b _ _ h1 h2 => List.le_antisymm h1 h2) ?_ (sortL_sorted l) p
  have := List.pairwise_mergeSort (le := fun x y : List UInt8 => decide (x ≤ y)) (fun a b c h1 h2 => by
    simp only [decide_eq_true_eq] at *; exact List.le_trans h1 h2) (fun a b => by
    simp only [Bool.or_eq_true, decide_eq_true_eq]; exact List.le_total a b) m
  exact this.imp (by simp)

end Go.Plain
