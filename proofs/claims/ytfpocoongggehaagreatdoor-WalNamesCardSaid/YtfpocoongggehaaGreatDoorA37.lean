/- Hooks: what a contract of the model's own kind gives. Of no program. -/
import Derived.Test.YtfpocoongggehaaGreatDoorA36
import Derived.Below
set_option linter.all false
namespace Go.Abs
open Go Go.RowKit
variable [Fixed]

/-- A block more, in a world that is as it was below. -/
theorem step_below {σ : Map} {H : Heap} {w w' : World} (h : R σ H w) (hb : RowKit.Below w.heap.size w w') {y : Blk} {l : Loc} (h1 : w.heap.size ≤ l.c) (h2 : l.c < w'.heap.size)
    (hy : BlkRel (σ.put H.next l) w' l y) (hi : BIds (H.next + 1) y) : Step σ H w (σ.put H.next l) (H.add y) w' := by
  have hn := h.none_next
  have hx := Map.put_ext (l := l) hn
  have hold : ∀ c, c < w.heap.size → w'.heap[c]? = w.heap[c]? := hb.block
  refine Step.mk0 h ⟨hx, ?_, by simp, ⟨?_, ?_, ?_, ?_, ?_, ?_⟩, hb.size, fun c hc _ => hold c hc, ?_, ?_, ⟨hb.os, hb.tape, hb.output⟩⟩
  · intro b m hb hn'
    unfold Map.put at hb
    by_cases e1 : b = H.next
    · rw [if_pos e1] at hb; cases hb; exact ⟨by omega, .inl h1⟩
    · rw [if_neg e1, hn'] at hb; cases hb
  · intro b hb
    rw [Heap.get_add, if_neg (by simp at hb; omega)]
    exact h.fresh b (by simp at hb; omega)
  · intro b x hx
    rw [Heap.get_add] at hx
    by_cases e1 : b = H.next
    · rw [if_pos e1] at hx; cases hx; exact hi
    · rw [if_neg e1] at hx; exact (h.ids b x hx).mono (by simp)
  · intro b m hb
    unfold Map.put at hb
    by_cases e1 : b = H.next
    · simp; omega
    · rw [if_neg e1] at hb; have := h.dom b m hb; simp; omega
  · intro b m x hb hg
    rw [Heap.get_add] at hg
    unfold Map.put at hb
    by_cases e1 : b = H.next
    · rw [if_pos e1] at hb hg
      cases hb; cases hg
      exact hy
    · rw [if_neg e1] at hb hg
      exact (h.live b m x hb hg).mono hx (hold _ (h.inb b m hb))
  · intro b b' m m' x x' hb hb' hg hg' hc
    rw [Heap.get_add] at hg hg'
    unfold Map.put at hb hb'
    by_cases e1 : b = H.next <;> by_cases e2 : b' = H.next
    · exact .inl (e1.trans e2.symm)
    · rw [if_pos e1] at hb hg; rw [if_neg e2] at hb' hg'
      cases hb
      have := h.inb b' m' hb'
      omega
    · rw [if_neg e1] at hb hg; rw [if_pos e2] at hb' hg'
      cases hb'
      have := h.inb b m hb
      omega
    · rw [if_neg e1] at hb hg; rw [if_neg e2] at hb' hg'
      exact h.inj b b' m m' x x' hb hb' hg hg' hc
  · intro b m hb'
    unfold Map.put at hb'
    by_cases e1 : b = H.next
    · rw [if_pos e1] at hb'; cases hb'; exact h2
    · rw [if_neg e1] at hb'; exact Nat.lt_of_lt_of_le (h.inb b m hb') hb.size
  · intro b x hb hg
    rw [Heap.get_add, if_neg (by omega)] at hg
    exact ⟨x, hg, rfl⟩
  · intro b hb _
    rw [Heap.get_add, if_neg (by omega)]

/-- A number that nothing lies at. -/
theorem step_dead {σ : Map} {H : Heap} {w w' : World} (h : R σ H w) (hb : RowKit.Below w.heap.size w w') {l : Loc} (h1 : w.heap.size ≤ l.c) (h2 : l.c < w'.heap.size) :
    Step σ H w (σ.put H.next l) { H with next := H.next + 1 } w' := by
  have hn := h.none_next
  have hx := Map.put_ext (l := l) hn
  have hold : ∀ c, c < w.heap.size → w'.heap[c]? = w.heap[c]? := hb.block
  have hg0 : ∀ b, Heap.get { H with next := H.next + 1 } b = H.get b := fun b => rfl
  have hfr : H.get H.next = none := h.fresh _ (Nat.le_refl _)
  refine Step.mk0 h ⟨hx, ?_, by simp, ⟨?_, ?_, ?_, ?_, ?_, ?_⟩, hb.size, fun c hc _ => hold c hc, ?_, ?_, ⟨hb.os, hb.tape, hb.output⟩⟩
  · intro b m hb hn'
    unfold Map.put at hb
    by_cases e1 : b = H.next
    · rw [if_pos e1] at hb; cases hb; exact ⟨by omega, .inl h1⟩
    · rw [if_neg e1, hn'] at hb; cases hb
  · intro b hb
    rw [hg0]
    exact h.fresh b (by simp at hb; omega)
  · intro b x hx
    rw [hg0] at hx
    exact (h.ids b x hx).mono (by simp)
  · intro b m hb
    unfold Map.put at hb
    by_cases e1 : b = H.next
    · simp; omega
    · rw [if_neg e1] at hb; have := h.dom b m hb; simp; omega
  · intro b m x hb hg
    rw [hg0] at hg
    unfold Map.put at hb
    by_cases e1 : b = H.next
    · rw [e1, hfr] at hg; cases hg
    · rw [if_neg e1] at hb
      exact (h.live b m x hb hg).mono hx (hold _ (h.inb b m hb))
  · intro b b' m m' x x' hb hb' hg hg' hc
    rw [hg0] at hg hg'
    unfold Map.put at hb hb'
    by_cases e1 : b = H.next
    · rw [e1, hfr] at hg; cases hg
    · by_cases e2 : b' = H.next
      · rw [e2, hfr] at hg'; cases hg'
      · rw [if_neg e1] at hb; rw [if_neg e2] at hb'
        exact h.inj b b' m m' x x' hb hb' hg hg' hc
  · intro b m hb'
    unfold Map.put at hb'
    by_cases e1 : b = H.next
    · rw [if_pos e1] at hb'; cases hb'; exact h2
    · rw [if_neg e1] at hb'; exact Nat.lt_of_lt_of_le (h.inb b m hb') hb.size
  · intro b x hb hg
    rw [hg0] at hg
    exact ⟨x, hg, rfl⟩
  · intro b hb _
    rfl

theorem CallOk.quiet {P : Program} {f : Nat} {args' : List Value} {σ : Map} {H : Heap} {w : World} {r : Value} {k : Nat} (hR : R σ H w) (hr : clo k r = true)
    (h : Calls P f args'.toArray w fun e w' => e = .returned r ∧ RowKit.Below w.heap.size w w') : CallOk P f args' σ H w r H :=
  CallOk.below hR (VRel.of_clo σ hr) (h.mono fun e w' hh => ⟨hh.1, hh.2.size, hh.2.block, ⟨hh.2.os, hh.2.tape, hh.2.output⟩⟩)

theorem CallOk.dead {P : Program} {f : Nat} {args' : List Value} {σ : Map} {H : Heap} {w : World} (hR : R σ H w) {r : Value} {r' : Nat → Value} (hv : ∀ N, VRel (σ.put H.next ⟨N, 0, 0, 0⟩) r (r' N))
    (h : Calls P f args'.toArray w fun e w' => ∃ N, e = .returned (r' N) ∧ w.heap.size ≤ N ∧ N < w'.heap.size ∧ RowKit.Below w.heap.size w w') : CallOk P f args' σ H w r { H with next := H.next + 1 } := by
  refine h.mono fun e w' hh => ?_
  obtain ⟨N, h1, h2, h3, h4⟩ := hh
  exact ⟨_, _, h1, hv N, step_dead hR h4 h2 h3⟩

/-- A new row of closed cells. -/
theorem CallOk.row1 {P : Program} {f : Nat} {args' : List Value} {σ : Map} {H : Heap} {w : World} (hR : R σ H w) {vs : List Value} {n sz k : Nat} (hn : vs.length = n * sz) (hc : vs.all (clo k) = true) (h1 : vs.all oneCell = true)
    (h : Calls P f args'.toArray w fun e w' => ∃ g cap cur et, e = .returned (.slice (some ⟨g, 0, none⟩) n cap) ∧ w.heap.size ≤ g ∧ w'.heap[g]? = some (.cells cur et (0, 0)) ∧ n ≤ cap ∧ cur.size = cap * sz ∧ cur.toList.take (n * sz) = vs ∧ RowKit.Below w.heap.size w w') :
    CallOk P f args' σ H w (.slice (some ⟨H.next, 0, none⟩) n SOFT) (H.add (.row vs sz false)) := by
  refine h.mono fun e w' hh => ?_
  obtain ⟨g, cap, cur, et, e1, hg, hcell, hcap, hsz, htake, hb⟩ := hh
  have hlt : g < w'.heap.size := (Array.getElem?_eq_some_iff.1 hcell).1
  refine ⟨_, _, e1, ?_, step_below hR hb (l := ⟨g, 0, cur.size, sz⟩) hg hlt ⟨cur, et, (0, 0), hcell, rfl, rfl, ?_, ?_, fun _ i _ => by omega, h1, fun _ => rfl⟩ ?_⟩
  · have := VRel.soft (σ := σ.put H.next ⟨g, 0, cur.size, sz⟩) (b := H.next) (o := 0) (len := n) (cap := cap) (Map.put_same σ H.next _) hcap (by simp [hsz])
    simpa using this
  · have : n * sz ≤ cap * sz := Nat.mul_le_mul_right _ hcap
    rw [hn]; simp only [Nat.zero_add]; omega
  · have e2 : (cur.toList.drop 0).take vs.length = vs := by rw [hn]; simpa using htake
    rw [e2]
    exact LRel.of_clo _ hc
  · exact fun v hv => Ids.of_clo (List.all_eq_true.1 hc v hv)

end Go.Abs
