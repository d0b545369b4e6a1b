/- The operands of a lowered operation. Of no program. -/
import Derived.Test.YtfpocoongggehaaGreatDoorA21
set_option linter.all false
namespace Go.Abs
open Go
variable [Fixed]

variable {P : Program}

theorem structParts_map {fs : Array Field} : ∀ {ps : List (Nat × Operand)} {l : List Part}, structParts P fs ps = some l → l.map (·.2.2) = ps.map (·.2) := by
  intro ps
  induction ps with
  | nil => intro l h; cases h; rfl
  | cons x ps ih =>
    intro l h
    obtain ⟨i, x⟩ := x
    simp only [structParts] at h
    split at h
    · split at h
      · rename_i n qs _ hq
        cases h
        simp [ih hq]
      · cases h
    · cases h

theorem seqParts_map (n : Nat) (ps : List (Nat × Operand)) : (seqParts n ps).map (·.2.2) = ps.map (·.2) := by
  simp [seqParts]

theorem lowBuiltin_opnds {b : Builtin} {o : Oper} {args : List Operand} {tys : List TypeId} {op : AOp} (h : lowBuiltin P b o args tys = some op) (t : Nat) (ht : Operand.tmp t ∈ op.opnds) :
    Operand.tmp t ∈ args ∨ Operand.tmp t ∈ o.op.operands.toList := by
  unfold lowBuiltin at h
  split at h
  · split at h
    · cases h; exact .inr ht
    · cases h; exact .inl (by simpa [AOp.opnds] using ht)
    · cases h; exact .inl (by simpa [AOp.opnds] using ht)
    · cases h; simp [AOp.opnds] at ht
    · cases h
  · cases h; exact .inr ht
  · cases h; exact .inr ht
  · split at h
    · split at h
      · obtain ⟨_, rfl⟩ := bif_some h; exact .inl (by simpa [AOp.opnds] using ht)
      · cases h
    · split at h
      · obtain ⟨_, rfl⟩ := bif_some h; exact .inl (by simpa [AOp.opnds] using ht)
      · cases h
    · cases h
  · split at h
    · split at h
      · cases h; exact .inl (by simpa [AOp.opnds] using ht)
      · cases h
    · cases h
  · split at h
    · split at h
      · cases h; exact .inl (by simpa [AOp.opnds] using ht)
      · cases h
    · cases h
  · split at h
    · cases h; exact .inl (by simpa [AOp.opnds] using ht)
    · split at h
      · cases h; exact .inl (by simpa [AOp.opnds] using ht)
      · cases h
    · cases h
  · cases h

theorem lowOp_opnds {o : Oper} {op : AOp} (h : lowOp P o = some op) (t : Nat) (ht : Operand.tmp t ∈ op.opnds) : Operand.tmp t ∈ o.op.operands.toList := by
  unfold lowOp at h
  split at h
  · rename_i x ho; cases h; rw [ho]; simpa [AOp.opnds, Op.operands] using ht
  · rename_i x ho; cases h; rw [ho]; simpa [AOp.opnds, Op.operands] using ht
  · rename_i c x y ho; cases h; rw [ho]; simpa [AOp.opnds, Op.operands] using ht
  · rename_i t ho; split at h
    · cases h; simp [AOp.opnds] at ht
    · cases h
  · rename_i t x ho; cases h; rw [ho]; simpa [AOp.opnds, Op.operands] using ht
  · rename_i t ps ho
    rw [ho]
    split at h
    · split at h
      · rename_i z l hz hps
        obtain ⟨_, rfl⟩ := bif_some h
        simp only [AOp.opnds, structParts_map hps] at ht
        simpa [Op.operands] using ht
      · cases h
    · split at h
      · cases h
        simp only [AOp.opnds, seqParts_map] at ht
        simpa [Op.operands] using ht
      · cases h
    · cases h
  · rename_i t len ps ho
    rw [ho]
    split at h
    · split at h
      · split at h
        · rename_i l hps
          obtain ⟨_, rfl⟩ := bif_some h
          have := rowParts_rel hps
          subst this
          simp only [AOp.opnds, seqParts_map] at ht
          simpa [Op.operands] using ht
        · cases h
      · cases h
    · cases h
  · rename_i t x ho; rw [ho]; split at h
    · cases h; simpa [AOp.opnds, Op.operands] using ht
    · cases h; simpa [AOp.opnds, Op.operands] using ht
    · cases h
  · rename_i t x y ho; rw [ho]; split at h
    · cases h; simpa [AOp.opnds, Op.operands] using ht
    · cases h
  · rename_i x ho; cases h; rw [ho]; simpa [AOp.opnds, Op.operands] using ht
  · rename_i bop t x y t2 ho
    split at h
    · obtain ⟨neg, rfl, _⟩ := lowCmp_inv h; rw [ho]; simpa [AOp.opnds, Op.operands] using ht
    · obtain ⟨neg, rfl, _⟩ := lowCmp_inv h; rw [ho]; simpa [AOp.opnds, Op.operands] using ht
    · obtain ⟨neg, rfl, _⟩ := lowCmp_inv h; rw [ho]; simpa [AOp.opnds, Op.operands] using ht
    · obtain ⟨neg, rfl, _⟩ := lowCmp_inv h; rw [ho]; simpa [AOp.opnds, Op.operands] using ht
    · obtain ⟨neg, rfl, _⟩ := lowCmp_inv h; rw [ho]; simpa [AOp.opnds, Op.operands] using ht
    · cases h; exact ht
    · cases h
  · cases h; exact ht
  · rename_i s d x ho
    split at h
    · split at h
      · cases h; rw [ho]; simpa [AOp.opnds, Op.operands] using ht
      · cases h
    · split at h
      · cases h; rw [ho]; simpa [AOp.opnds, Op.operands] using ht
      · cases h
    · cases h; exact ht
    · cases h; exact ht
    · cases h
  · rename_i t x ho; split at h
    · cases h
    · cases h; rw [ho]; simpa [AOp.opnds, Op.operands] using ht
    · cases h
  · rename_i f first captured ho; cases h; rw [ho]; simpa [AOp.opnds, Op.operands] using ht
  · rename_i t r ho; split at h
    · cases h; rw [ho]; simpa [AOp.opnds, Op.operands] using ht
    · cases h
  · rename_i t l c ho; split at h
    · split at h
      · obtain ⟨_, rfl⟩ := bif_some h; rw [ho]; simpa [AOp.opnds, Op.operands] using ht
      · cases h
    · cases h
  · rename_i t x lo hi mx ho
    rw [ho]
    split at h
    · split at h
      · obtain ⟨_, rfl⟩ := bif_some h; simpa [AOp.opnds, Op.operands, or_assoc] using ht
      · cases h
    · split at h
      · cases h; simpa [AOp.opnds, Op.operands, or_assoc] using ht
      · cases h
    · split at h
      · obtain ⟨_, rfl⟩ := bif_some h; simpa [AOp.opnds, Op.operands, or_assoc] using ht
      · cases h
    · split at h
      · split at h
        · obtain ⟨_, rfl⟩ := bif_some h; simpa [AOp.opnds, Op.operands, or_assoc] using ht
        · cases h
      · cases h
    · cases h
  · rename_i s x f ho
    split at h
    · split at h
      · split at h
        · rw [bif_beq] at h
          split at h
          · cases h
          · cases h; rw [ho]; simpa [AOp.opnds, Op.operands] using ht
        · cases h
      · cases h
    · cases h
  · rename_i s x f ho
    split at h
    · split at h
      · split at h
        · cases h; rw [ho]; simpa [AOp.opnds, Op.operands] using ht
        · cases h
      · cases h
    · cases h
  · rename_i t x i ho
    split at h
    · split at h
      · cases h; rw [ho]; simpa [AOp.opnds, Op.operands] using ht
      · cases h
    · split at h
      · cases h; rw [ho]; simpa [AOp.opnds, Op.operands] using ht
      · cases h
    · cases h
  · rename_i t x i ho
    split at h
    · cases h; exact ht
    · split at h
      · cases h; rw [ho]; simpa [AOp.opnds, Op.operands] using ht
      · cases h
    · cases h
  · rename_i t x k ok ho
    split at h
    · split at h
      · split at h
        · cases h; rw [ho]; simpa [AOp.opnds, Op.operands] using ht
        · cases h
      · cases h
    · cases h
  · rename_i t m k y ho
    split at h
    · split at h
      · cases h; rw [ho]; simpa [AOp.opnds, Op.operands] using ht
      · cases h
    · cases h
  · rename_i x i ho; cases h; rw [ho]; simpa [AOp.opnds, Op.operands] using ht
  · rename_i c ho
    rw [ho]
    split at h
    · rename_i f hc; cases h; simp only [AOp.opnds] at ht; simp [Op.operands, Call.operands, hc]; simpa using ht
    · rename_i x _ hc; cases h; simp only [AOp.opnds] at ht; simp [Op.operands, Call.operands, hc]; simpa using ht
    · rename_i x name hc; cases h; simp only [AOp.opnds] at ht; simp [Op.operands, Call.operands, hc]; simpa using ht
    · rename_i b hc
      rcases lowBuiltin_opnds h t ht with h1 | h1
      · simp [Op.operands, Call.operands, hc]; simpa using h1
      · rw [ho] at h1; exact h1
  · cases h

/-- With the names that an operation reads related, it is as if all were. -/
theorem mem_iff {x : Nat} : ∀ {l : List Nat}, mem x l = true ↔ x ∈ l
  | [] => by simp [mem]
  | y :: r => by
    simp only [mem, Bool.or_eq_true, mem_iff (l := r), List.mem_cons]
    constructor
    · rintro (h | h)
      · exact .inl (Nat.eq_of_beq_eq_true h)
      · exact .inr h
    · rintro (h | h)
      · exact .inl (by rw [h]; exact Nat.beq_refl y)
      · exact .inr h

theorem opTmps_opnds {ops : Array Oper} {o : Oper} {op : AOp} (h : lowOp P o = some op) (t : Nat) (ht : Operand.tmp t ∈ op.opnds) : t ∈ opTmps ops o := by
  unfold opTmps
  refine List.mem_append.2 (.inr ?_)
  exact List.mem_filterMap.2 ⟨.tmp t, lowOp_opnds h t ht, rfl⟩

end Go.Abs
