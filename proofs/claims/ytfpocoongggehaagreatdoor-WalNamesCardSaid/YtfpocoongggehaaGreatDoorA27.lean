/- Regions that draw: the writers. Of no program. -/
import Derived.Test.YtfpocoongggehaaGreatDoorA26
set_option linter.all false
namespace Go.Abs
open Go
variable [Fixed]

theorem SAt_skip {H : Heap} {los : List LOp} {recs : List Rec} {p : Nat} (h : ∀ lo, los[p]? = some lo → lo.op.kind ≠ .write) : SAt H los recs (p + 1) = SAt H los recs p := by
  simp only [SAt]
  split
  · rename_i lo r h1 h2
    have hd : decide (lo.op.kind = .write) = false := by simp [h lo h1]
    rw [hd, cond_false]
  · rfl

theorem SAt_same {H : Heap} {los : List LOp} {recs : List Rec} {p q : Nat} (hpq : p ≤ q) (h : ∀ (i : Nat) (lo : LOp), p ≤ i → i < q → los[i]? = some lo → lo.op.kind ≠ .write) : SAt H los recs q = SAt H los recs p := by
  induction q with
  | zero => have : p = 0 := by omega
            subst this; rfl
  | succ q ih =>
    by_cases hq : p = q + 1
    · subst hq; rfl
    · rw [SAt_skip (fun lo hl => h q lo (by omega) (by omega) hl), ih (by omega) (fun i lo h1 h2 => h i lo h1 (by omega))]

section
variable {E : Env0} {n nt : Nat} {ops : Array Oper} {los : List LOp} {e : Env} {H : Heap} {e' : Env} {H' : Heap} {recs : List Rec} {σ0 : Map} {w0 : World} {a0 : Act}

/-- The same at another place with no writer between. -/
theorem HInv.move {listed : Array Bool} {σ : Map} {w : World} {p q : Nat} (h : HInv E ops los H recs σ0 w0 listed σ w p) (hq : q ≤ ops.size)
    (hw : ∀ (i : Nat) (lo : LOp), los[i]? = some lo → lo.op.kind = .write → (listed.getD i false = true ↔ i < q)) : HInv E ops los H recs σ0 w0 listed σ w q := by
  have hS : SAt H los recs q = SAt H los recs p := by
    rcases Nat.le_total p q with h1 | h1
    · exact SAt_same h1 (fun i lo h2 h3 h4 h5 => by
        have := (h.wr i lo h4 h5).1 ((hw i lo h4 h5).2 h3); omega)
    · exact (SAt_same h1 (fun i lo h2 h3 h4 h5 => by
        have := (hw i lo h4 h5).1 ((h.wr i lo h4 h5).2 h3); omega)).symm
  have hV : VAt H los recs q = VAt H los recs p := by unfold VAt; rw [hS]
  refine ⟨h.sz, hq, hw, by rw [hV]; exact h.rel, h.ext, h.new, h.size, h.keep, ?_, h.undone, ?_, h.hush⟩
  · rw [hS]; exact h.dom
  · rw [hS]; exact h.late

theorem HInv.same {listed : Array Bool} {σ : Map} {w : World} {p q : Nat} (h : HInv E ops los H recs σ0 w0 listed σ w p) 
    (hw : ∀ (i : Nat) (lo : LOp), los[i]? = some lo → lo.op.kind = .write → (listed.getD i false = true ↔ i < q)) : SAt H los recs q = SAt H los recs p := by
  rcases Nat.le_total p q with h1 | h1
  · exact SAt_same h1 (fun i lo h2 h3 h4 h5 => by
      have := (h.wr i lo h4 h5).1 ((hw i lo h4 h5).2 h3); omega)
  · exact (SAt_same h1 (fun i lo h2 h3 h4 h5 => by
      have := (hw i lo h4 h5).1 ((h.wr i lo h4 h5).2 h3); omega)).symm

/-- The abstract heap ahead of a writer is the joined heap, below a bound. -/
theorem HInv.cut (s : Setting E n nt ops los e H e' H' recs σ0 w0 a0) {listed : Array Bool} {σ : Map} {w : World} {i : Nat} (h : HInv E ops los H recs σ0 w0 listed σ w i) : R (σ.cut (HAt recs H' i).next) (HAt recs H' i) w :=
  h.rel.cutTo (fun b hb => (s.V_old h.pp rfl hb).symm) (fun b hb => s.fresh h.pp b hb) (fun b x hx => s.ids h.pp b x hx)

/-- No block is made at a place where a writer stands. -/
theorem Setting.apart (s : Setting E n nt ops los e H e' H' recs σ0 w0 a0) {i k : Nat} {lo lk : LOp} {r rk : Rec} (h1 : los[i]? = some lo) (h2 : recs[i]? = some r) (hk : lo.op.kind = .write)
    (q1 : los[k]? = some lk) (q2 : recs[k]? = some rk) (q3 : lk.op.kind = .alloc) (q4 : rk.ex = true) : rk.H.next < (HAt recs H' i).next ∨ r.H'.next ≤ rk.H.next := by
  obtain ⟨x, _, _, _, e1, _, e3⟩ := s.alloc_get q1 q2 q3 q4
  have hn := (s.c.next i lo r h1 h2).2
  rcases Nat.lt_trichotomy i k with h | h | h
  · right
    rw [← hn, e1]; exact s.next_mono (by omega) (Nat.le_of_lt (s.lt q1))
  · subst h; rw [h1] at q1; cases q1; rw [hk] at q3; cases q3
  · left
    have := s.next_mono (show k + 1 ≤ i by omega) (Nat.le_of_lt (s.lt h1))
    omega

/-- A writer. -/
theorem HInv.writer (s : Setting E n nt ops los e H e' H' recs σ0 w0 a0) {listed : Array Bool} {σ σ1 : Map} {w w1 : World} {i : Nat} {lo : LOp} {r : Rec} (h : HInv E ops los H recs σ0 w0 listed σ w i)
    (h1 : los[i]? = some lo) (h2 : recs[i]? = some r) (hk : lo.op.kind = .write) (st : Step (σ.cut (HAt recs H' i).next) (HAt recs H' i) w σ1 r.H' w1) :
    (∀ b l, σ b = some l → joinMap σ1 σ r.H'.next b = some l) ∧ (∀ b l, σ1 b = some l → joinMap σ1 σ r.H'.next b = some l) ∧ HInv E ops los H recs σ0 w0 (listed.setIfInBounds i true) (joinMap σ1 σ r.H'.next) w1 (i + 1) := by
  have hi : i < ops.size := s.lt h1
  have hil : i < listed.size := by rw [h.sz]; exact hi
  have hn := (s.c.next i lo r h1 h2).2
  have hS1 : SAt H los recs (i + 1) = r.H' := by
    have hd : decide (lo.op.kind = .write) = true := by simp [hk]
    simp only [SAt, h1, h2, hd, cond_true]
  have hSG := (s.since i h.pp).1
  have hGG : (HAt recs H' i).next ≤ r.H'.next := st.next
  have hHG : H.next ≤ (HAt recs H' i).next := by
    have := s.next_mono (Nat.zero_le i) h.pp
    rw [s.c.H0] at this; exact this
  have g1 : ∀ b, b < (HAt recs H' i).next → (HAt recs H' i).get b = (VAt H los recs i).get b := fun b hb => (s.V_old h.pp rfl hb).symm
  have g4 : ∀ b, (HAt recs H' i).next ≤ b → b < r.H'.next → σ b = none := by
    intro b hb hb'
    cases hs : σ b with
    | none => rfl
    | some l =>
      rcases h.dom b l hs with h3 | ⟨k, lk, rk, q1, q2, q3, q4, q5, q6⟩
      · omega
      · rcases s.apart h1 h2 hk q1 q2 q3 q4 with h4 | h4 <;> omega
  have hV' := s.V_next (show i + 1 ≤ ops.size by omega)
  have g3 : ∀ b l, r.H'.next ≤ b → σ b = some l → (VAt H los recs (i + 1)).get b = (VAt H los recs i).get b := by
    intro b l hb hs
    rcases h.dom b l hs with h3 | ⟨k, lk, rk, q1, q2, q3, q4, q5, q6⟩
    · omega
    · rw [q6, s.V_late q1 q2 q3 q4 (p := i + 1) (by rw [hS1, ← q6]; exact hb), s.V_late q1 q2 q3 q4 (p := i) (by rw [← q6]; omega)]
  obtain ⟨hR', ext⟩ := combine (V' := VAt H los recs (i + 1)) h.rel st g1
    (fun b hb => by rw [s.V_old (j := i + 1) (by omega) rfl (by rw [hn]; exact hb), hn]) g3 g4 (by rw [← hS1]; exact hV'.1)
    (fun b l hs => by
      rcases h.dom b l hs with h3 | ⟨k, lk, rk, q1, q2, q3, q4, q5, q6⟩
      · have := hV'.1; rw [hS1] at this; omega
      · exact hV'.2.2 b ⟨k, lk, rk, q1, q2, q3, q4, q6⟩)
    (fun b hb => s.V_fresh (by omega) b hb) (fun b x hx => s.V_ids (by omega) b x hx)
  have ext1 : ∀ b l, σ1 b = some l → joinMap σ1 σ r.H'.next b = some l := by
    intro b l hb
    unfold joinMap
    rw [if_pos (st.rel.dom b l hb)]; exact hb
  refine ⟨ext, ext1, ⟨by simp [h.sz], by omega, ?_, hR', fun b l hb => ext b l (h.ext b l hb), ?_, Nat.le_trans h.size st.size, ?_, ?_, ?_, ?_, h.hush.trans st.quiet⟩⟩
  · intro k lk hk1 hk2
    rw [getD_set _ _ _ hil]
    by_cases hki : k = i
    · rw [if_pos hki]; exact ⟨fun _ => by omega, fun _ => rfl⟩
    · rw [if_neg hki, h.wr k lk hk1 hk2]; omega
  · intro b l hb h0
    have hb0 := hb
    unfold joinMap at hb
    split at hb
    · cases hs : σ.cut (HAt recs H' i).next b with
      | some l2 =>
        have := st.ext b l2 hs
        rw [hb] at this
        cases this
        exact h.new b l (Map.cut_some hs).2 h0
      | none =>
        obtain ⟨k1, k2⟩ := st.new b l hb hs
        refine ⟨by omega, h.origin s ?_⟩
        rcases k2 with k2 | ⟨b0, l0, x, k2, k3, k4, k5⟩
        · exact .inl k2
        · obtain ⟨k6, k7⟩ := Map.cut_some k2
          exact .inr ⟨b0, l0, x, k7, by rw [← g1 b0 k6]; exact k3, k4, k5⟩
    · exact h.new b l hb h0
  · intro c hc hh
    rw [st.keep c (Nat.lt_of_lt_of_le hc h.size) ?_]
    · exact h.keep c hc hh
    · intro b l x hb hx hl
      obtain ⟨k6, k7⟩ := Map.cut_some hb
      exact h.live_ro s hc hh b l x k7 (by rw [← g1 b k6]; exact hx) hl
  · intro b l hb
    unfold joinMap at hb
    split at hb
    · rename_i hlt; left; rw [hS1]; exact hlt
    · rename_i hlt
      rcases h.dom b l hb with h3 | ⟨k, lk, rk, q1, q2, q3, q4, q5, q6⟩
      · omega
      · exact .inr ⟨k, lk, rk, q1, q2, q3, q4, by rw [getD_set _ _ _ hil]; split; rfl; exact q5, q6⟩
  · intro k lk rk q1 q2 q3 q4 q5
    rw [getD_set _ _ _ hil] at q5
    split at q5
    · cases q5
    · have hu := h.undone k lk rk q1 q2 q3 q4 q5
      unfold joinMap
      split
      · rename_i hlt
        cases hs : σ1 rk.H.next with
        | none => rfl
        | some l =>
          have hc : σ.cut (HAt recs H' i).next rk.H.next = none := by
            cases hs2 : σ.cut (HAt recs H' i).next rk.H.next with
            | none => rfl
            | some l2 => have := (Map.cut_some hs2).2; rw [hu] at this; cases this
          have := (st.new _ l hs hc).1
          rcases s.apart h1 h2 hk q1 q2 q3 q4 with h4 | h4 <;> omega
      · exact hu
  · intro k lk rk q1 q2 q3 q4 q5 q6
    rw [getD_set _ _ _ hil] at q5
    split at q5
    · cases q5
    · rw [hS1] at q6 ⊢
      have hu := h.undone k lk rk q1 q2 q3 q4 q5
      have hlt : rk.H.next < (HAt recs H' i).next := by
        rcases s.apart h1 h2 hk q1 q2 q3 q4 with h4 | h4
        · exact h4
        · omega
      have hc : σ.cut (HAt recs H' i).next rk.H.next = none := by
        cases hs2 : σ.cut (HAt recs H' i).next rk.H.next with
        | none => rfl
        | some l2 => have := (Map.cut_some hs2).2; rw [hu] at this; cases this
      rw [st.keepA _ hlt hc]
      by_cases hb : rk.H.next < (SAt H los recs i).next
      · rw [(s.since i h.pp).2.1 _ hb]
        exact h.late k lk rk q1 q2 q3 q4 q5 hb
      · rw [g1 _ hlt]
        exact s.V_late q1 q2 q3 q4 (by omega)

end
end Go.Abs
