/- Regions that draw: what stands ahead of what; ids in values; what an operation hangs on. Of no program. -/
import Derived.Test.YtfpocoongggehaaGreatDoorA19
set_option linter.all false
namespace Go.Abs
open Go
variable [Fixed]

/-! ### Ahead -/

def stepB (acc : Array Nat) (o : Oper) : Nat := o.after.foldl (fun s e => if Region.binds .any e then s ||| 2 ^ e.on ||| acc.getD e.on 0 else s) 0

theorem before_eq (ops : Array Oper) : Region.before ops = ops.toList.foldl (fun acc o => acc.push (stepB acc o)) #[] := by
  unfold Region.before
  rw [← Array.foldl_toList]
  rfl

theorem stepB_bit (acc : Array Nat) (o : Oper) (i : Nat) (h : (stepB acc o).testBit i = true) :
    ∃ e ∈ o.after, Region.binds .any e = true ∧ (e.on = i ∨ (acc.getD e.on 0).testBit i = true) := by
  unfold stepB at h
  rw [← Array.foldl_toList] at h
  have key : ∀ (l : List Edge) (s : Nat), (l.foldl (fun s e => if Region.binds .any e then s ||| 2 ^ e.on ||| acc.getD e.on 0 else s) s).testBit i = true →
      s.testBit i = true ∨ ∃ e ∈ l, Region.binds .any e = true ∧ (e.on = i ∨ (acc.getD e.on 0).testBit i = true) := by
    intro l
    induction l with
    | nil => intro s h; exact .inl h
    | cons e l ih =>
      intro s h
      rw [List.foldl_cons] at h
      rcases ih _ h with h1 | ⟨e1, h1, h2⟩
      · split at h1
        · rename_i hb
          simp only [Nat.testBit_or, Bool.or_eq_true, Nat.testBit_two_pow, decide_eq_true_eq] at h1
          rcases h1 with (h1 | h1) | h1
          · exact .inl h1
          · exact .inr ⟨e, List.mem_cons_self, hb, .inl h1⟩
          · exact .inr ⟨e, List.mem_cons_self, hb, .inr h1⟩
        · exact .inl h1
      · exact .inr ⟨e1, List.mem_cons_of_mem _ h1, h2⟩
  rcases key _ _ h with h1 | ⟨e, h1, h2⟩
  · simp at h1
  · exact ⟨e, by simpa using h1, h2⟩

theorem fold_push : ∀ (l : List Oper) (acc : Array Nat),
    (l.foldl (fun acc o => acc.push (stepB acc o)) acc).size = acc.size + l.length ∧
    (∀ i, i < acc.size → (l.foldl (fun acc o => acc.push (stepB acc o)) acc)[i]? = acc[i]?) ∧
    ∀ k o, l[k]? = some o → ∃ pre : Array Nat, pre.size = acc.size + k ∧ (l.foldl (fun acc o => acc.push (stepB acc o)) acc)[acc.size + k]? = some (stepB pre o) ∧
      ∀ i, i < pre.size → pre[i]? = (l.foldl (fun acc o => acc.push (stepB acc o)) acc)[i]? := by
  intro l
  induction l with
  | nil => intro acc; exact ⟨by simp, fun _ _ => rfl, fun k o h => by simp at h⟩
  | cons x l ih =>
    intro acc
    obtain ⟨h1, h2, h3⟩ := ih (acc.push (stepB acc x))
    rw [List.foldl_cons]
    refine ⟨by rw [h1]; simp; omega, fun i hi => ?_, fun k o hk => ?_⟩
    · rw [h2 i (by simp; omega), Array.getElem?_push, if_neg (by omega)]
    · cases k with
      | zero =>
        simp only [List.getElem?_cons_zero, Option.some.injEq] at hk
        subst hk
        refine ⟨acc, by simp, ?_, fun i hi => ?_⟩
        · rw [Nat.add_zero, h2 _ (by simp), Array.getElem?_push, if_pos rfl]
        · rw [h2 i (by simp; omega), Array.getElem?_push, if_neg (by omega)]
      | succ k =>
        simp only [List.getElem?_cons_succ] at hk
        obtain ⟨pre, g1, g2, g3⟩ := h3 k o hk
        refine ⟨pre, by rw [g1]; simp; omega, ?_, g3⟩
        rw [← g2]; congr 1; simp; omega

theorem ahead_step {ops : Array Oper} {i j : Nat} {o : Oper} (hj : ops[j]? = some o) (hon : ∀ e ∈ o.after, Region.binds .any e = true → e.on < j) (h : ahead (Region.before ops) i j = true) :
    ∃ e ∈ o.after, Region.binds .any e = true ∧ (e.on = i ∨ ahead (Region.before ops) i e.on = true) := by
  obtain ⟨_, _, h3⟩ := fold_push ops.toList #[]
  obtain ⟨pre, g1, g2, g3⟩ := h3 j o (by simpa using hj)
  unfold ahead at *
  rw [before_eq] at *
  simp only [List.size_toArray, List.length_nil, Nat.zero_add] at g1 g2
  rw [Array.getD_eq_getD_getElem?, g2] at h
  obtain ⟨e, k1, k2, k3⟩ := stepB_bit pre o i h
  refine ⟨e, k1, k2, ?_⟩
  rcases k3 with k3 | k3
  · exact .inl k3
  · right
    rw [Array.getD_eq_getD_getElem?, ← g3 e.on (by rw [g1]; exact hon e k1 k2), ← Array.getD_eq_getD_getElem?]
    exact k3

/-- Which operations have been carried out: with each, all that it waits for. -/
def Closed (ops : Array Oper) (listed : Array Bool) : Prop :=
  ∀ j o, ops[j]? = some o → listed.getD j false = true → ∀ e ∈ o.after, Region.binds .any e = true → listed.getD e.on false = true

def Forward (ops : Array Oper) : Prop := ∀ j o, ops[j]? = some o → ∀ e ∈ o.after, Region.binds .any e = true → e.on < j

theorem closed_ahead {ops : Array Oper} {listed : Array Bool} (hf : Forward ops) (hc : Closed ops listed) {i : Nat} : ∀ (j : Nat) (o : Oper), ops[j]? = some o →
    (∀ e ∈ o.after, Region.binds .any e = true → listed.getD e.on false = true) → ahead (Region.before ops) i j = true → listed.getD i false = true := by
  intro j
  induction j using Nat.strongRecOn with
  | _ j ih =>
    intro o hj hall h
    obtain ⟨e, h1, h2, h3⟩ := ahead_step hj (hf j o hj) h
    rcases h3 with h3 | h3
    · rw [← h3]; exact hall e h1 h2
    · have hlt := hf j o hj e h1 h2
      have hl := hall e h1 h2
      cases ho : ops[e.on]? with
      | none =>
        have hj' : j < ops.size := by
          rcases Nat.lt_or_ge j ops.size with hh | hh
          · exact hh
          · rw [Array.getElem?_eq_none hh] at hj; cases hj
        have : ops[e.on]? ≠ none := by simp; omega
        exact absurd ho this
      | some o' => exact ih e.on hlt o' ho (hc e.on o' ho hl) h3

/-- A map below a bound. -/
def Map.cut (σ : Map) (k : Nat) : Map := fun b => if b < k then σ b else none

theorem Map.cut_some {σ : Map} {k b : Nat} {l : Loc} (h : σ.cut k b = some l) : b < k ∧ σ b = some l := by
  unfold Map.cut at h
  split at h
  · rename_i hb; exact ⟨hb, h⟩
  · cases h
theorem Map.cut_of {σ : Map} {k b : Nat} {l : Loc} (hb : b < k) (h : σ b = some l) : σ.cut k b = some l := by
  unfold Map.cut; rw [if_pos hb]; exact h

theorem VRel.cut {σ : Map} {k : Nat} {v v' : Value} (h : VRel σ v v') (hi : Ids k v) : VRel (σ.cut k) v v' := by
  induction h with
  | bool => exact .bool _
  | int => exact .int _ _
  | string => exact .string _
  | pnil => exact .pnil
  | ptr hb => cases hi with | ptr hk => exact .ptr (Map.cut_of hk hb)
  | snil => exact .snil
  | hard hb hc hl => cases hi with
    | slice hk => exact .hard (Map.cut_of hk hb) hc hl
    | slice0 => exact .hard0
  | hard0 => exact .hard0
  | soft hb hl he => cases hi with
    | slice hk => exact .soft (Map.cut_of hk hb) hl he
  | soft0 hb he => cases hi with
    | slice hk => exact .soft0 (Map.cut_of hk hb) he
  | mnil => exact .mnil
  | map hb => cases hi with | map hk => exact .map (Map.cut_of hk hb)
  | func h1 _ h3 _ i2 i4 => cases hi with
    | func k1 k2 => exact .func h1 (fun i p q => i2 i p q (k1 _ (List.getElem_mem p))) h3 (fun i p q => i4 i p q (k2 _ (List.getElem_mem p)))
  | nilFunc => exact .nilFunc
  | nilIface => exact .nilIface
  | iface _ i => cases hi with | iface hk => exact .iface (i hk)
  | agg h1 _ i2 => cases hi with | agg hk => exact .agg h1 (fun i p q => i2 i p q (hk _ (List.getElem_mem p)))
  | tuple h1 _ i2 => cases hi with | tuple hk => exact .tuple h1 (fun i p q => i2 i p q (hk _ (List.getElem_mem p)))

end Go.Abs
