/- Regions that draw: what holds whichever operations have been carried out. Of no program. -/
import Derived.Test.YtfpocoongggehaaGreatDoorA24
set_option linter.all false
namespace Go.Abs
open Go
variable [Fixed]

/-- What came of a step that surely is taken. -/
theorem wp_extract {P : Program} {o : Oper} {a : Act} {w : World} {K : Act → World → Prop} (h : o.wp P a w K (fun _ _ _ => False)) : ∃ a' w', K a' w' := by
  unfold Oper.wp at h
  generalize (execOp a.eval o).run P w = r at h
  cases r with
  | ok n w' =>
    cases n <;> simp only [Oper.upon] at h <;> first
      | exact ⟨_, _, h⟩
      | (obtain ⟨e, w2, fr, hR, _⟩ := h []
         cases e with
         | returned v => exact ⟨_, _, hR⟩
         | panicked c => exact hR.elim
         | outgrown => obtain ⟨_, _, hq⟩ := hR; exact hq.elim)
      | (obtain ⟨v, w2, hR, _⟩ := h default []
         exact ⟨_, _, hR⟩)
      | exact h.elim
  | halt x w' => cases x <;> simp only [Oper.upon] at h

theorem lowOps_get {P : Program} {nt : Nat} {ops : Array Oper} : ∀ {l : List Oper} {los : List LOp}, lowOps P nt ops l = some los →
    los.length = l.length ∧ ∀ (i : Nat) (o : Oper), l[i]? = some o → ∃ lo, los[i]? = some lo ∧ lowO P nt ops o = some lo := by
  intro l
  induction l with
  | nil => intro los h; cases h; exact ⟨rfl, by simp⟩
  | cons x l ih =>
    intro los h
    simp only [lowOps] at h
    split at h
    · rename_i lo r h1 h2
      cases h
      obtain ⟨g1, g2⟩ := ih h2
      refine ⟨by simp [g1], fun i o ho => ?_⟩
      cases i with
      | zero => cases ho; exact ⟨lo, rfl, h1⟩
      | succ i => simpa using g2 i o (by simpa using ho)
    · cases h

/-- The setting of a region that draws. -/
structure Setting (E : Env0) (n nt : Nat) (ops : Array Oper) (los : List LOp) (e : Env) (H : Heap) (e' : Env) (H' : Heap) (recs : List Rec) (σ0 : Map) (w0 : World) (a0 : Act) : Prop where
  op : ∀ m, m < n → OpS E m
  low : lowOps E.P nt ops ops.toList = some los
  dr : drawOk ops los = true
  c : Chain E n los e H e' H' recs
  chk : drawsOk E.P H los recs (chkOf ops los) = true
  R0 : R σ0 H w0
  env : EnvRel σ0 e a0
  sz : a0.tmps.size = nt

section
variable {E : Env0} {n nt : Nat} {ops : Array Oper} {los : List LOp} {e : Env} {H : Heap} {e' : Env} {H' : Heap} {recs : List Rec} {σ0 : Map} {w0 : World} {a0 : Act}

theorem Setting.len (s : Setting E n nt ops los e H e' H' recs σ0 w0 a0) : los.length = ops.size := by
  have := (lowOps_get s.low).1; simpa using this

/-- An operation with all that belongs to it. -/
theorem Setting.get (s : Setting E n nt ops los e H e' H' recs σ0 w0 a0) {i : Nat} (hi : i < ops.size) : ∃ o lo r, ops[i]? = some o ∧ los[i]? = some lo ∧ recs[i]? = some r ∧
    lowO E.P nt ops o = some lo ∧ r.e = eAt recs e' i ∧ r.H = HAt recs H' i := by
  have ho : ops[i]? = some ops[i] := Array.getElem?_eq_getElem hi
  obtain ⟨lo, h1, h2⟩ := (lowOps_get s.low).2 i ops[i] (by simp [hi])
  obtain ⟨r, h3, h4, h5⟩ := s.c.recAt h1
  exact ⟨_, lo, r, ho, h1, h3, h2, h4, h5⟩

theorem Setting.lt (s : Setting E n nt ops los e H e' H' recs σ0 w0 a0) {i : Nat} {lo : LOp} (h : los[i]? = some lo) : i < ops.size := by
  rw [← s.len]; exact (List.getElem?_eq_some_iff.1 h).1

/-- The run in the text's own order, from the same world. -/
theorem Setting.ghost (s : Setting E n nt ops los e H e' H' recs σ0 w0 a0) : ∀ i, i ≤ ops.size →
    (∃ σi wi ai, EnvRel σi (eAt recs e' i) ai ∧ ai.tmps.size = nt ∧ Step σ0 H w0 σi (HAt recs H' i) wi) ∧ (i < ops.size → (HAt recs H' i).next ≤ (HAt recs H' (i + 1)).next) := by
  have step : ∀ i, i < ops.size → (∃ σi wi ai, EnvRel σi (eAt recs e' i) ai ∧ ai.tmps.size = nt ∧ Step σ0 H w0 σi (HAt recs H' i) wi) →
      (∃ σi wi ai, EnvRel σi (eAt recs e' (i + 1)) ai ∧ ai.tmps.size = nt ∧ Step σ0 H w0 σi (HAt recs H' (i + 1)) wi) ∧ (HAt recs H' i).next ≤ (HAt recs H' (i + 1)).next := by
    intro i hi ⟨σi, wi, ai, h1, h2, h3⟩
    obtain ⟨o, lo, r, g1, g2, g3, g4, g5, g6⟩ := s.get hi
    obtain ⟨q1, q2⟩ := s.c.next i lo r g2 g3
    obtain ⟨l1, l2, l3, _⟩ := lowO_inv g4
    cases hx : r.ex with
    | true =>
      obtain ⟨_, m, hm, hrun⟩ := s.c.ex i lo r g2 g3 hx
      rw [g5, g6] at hrun
      have := s.op m hm o lo.op (eAt recs e' i) (HAt recs H' i) r.v r.H' l1 hrun σi wi ai h3.rel h1
        (fun a' w' => ∃ σ', EnvRel σ' (eAt recs e' (i + 1)) a' ∧ a'.tmps.size = nt ∧ Step σi (HAt recs H' i) wi σ' r.H' w') (fun _ _ _ => False) (by
          intro σ' w' v' k1 k2
          refine ⟨σ', ?_, by rw [size_put]; exact h2, k2⟩
          rw [q1, g5, l2]
          exact (h1.mono k2.ext).put k1 (fun x hx2 => by rw [h2]; exact l3 x hx2))
      obtain ⟨a', w', σ', k1, k2, k3⟩ := wp_extract this
      rw [q2]
      exact ⟨⟨σ', w', a', k1, k2, Step.trans s.R0 h3 k3⟩, k3.next⟩
    | false =>
      obtain ⟨_, hv, hH⟩ := s.c.skip i lo r g2 g3 hx
      rw [q2, hH, g6]
      refine ⟨⟨σi, wi, ai.put o.dst undef, ?_, by rw [size_put]; exact h2, h3⟩, Nat.le_refl _⟩
      rw [q1, g5, l2, hv]
      exact h1.put (undef_rel σi) (fun x hx2 => by rw [h2]; exact l3 x hx2)
  have all : ∀ i, i ≤ ops.size → ∃ σi wi ai, EnvRel σi (eAt recs e' i) ai ∧ ai.tmps.size = nt ∧ Step σ0 H w0 σi (HAt recs H' i) wi := by
    intro i
    induction i with
    | zero => intro _; rw [s.c.e0, s.c.H0]; exact ⟨σ0, w0, a0, s.env, s.sz, Step.refl s.R0⟩
    | succ i ih => intro hi; exact (step i (by omega) (ih (by omega))).1
  exact fun i hi => ⟨all i hi, fun hlt => (step i hlt (all i hi)).2⟩

theorem Setting.next_mono (s : Setting E n nt ops los e H e' H' recs σ0 w0 a0) {i k : Nat} (hik : i ≤ k) (hk : k ≤ ops.size) : (HAt recs H' i).next ≤ (HAt recs H' k).next := by
  induction k with
  | zero => have : i = 0 := by omega
            subst this; exact Nat.le_refl _
  | succ k ih =>
    by_cases h : i = k + 1
    · subst h; exact Nat.le_refl _
    · exact Nat.le_trans (ih (by omega) (by omega)) ((s.ghost k (by omega)).2 (by omega))

theorem Setting.fresh (s : Setting E n nt ops los e H e' H' recs σ0 w0 a0) {i : Nat} (hi : i ≤ ops.size) (b : Nat) (hb : (HAt recs H' i).next ≤ b) : (HAt recs H' i).get b = none := by
  obtain ⟨⟨σi, wi, ai, _, _, h⟩, _⟩ := s.ghost i hi
  exact h.rel.fresh b hb

theorem Setting.ids (s : Setting E n nt ops los e H e' H' recs σ0 w0 a0) {i : Nat} (hi : i ≤ ops.size) (b : Nat) (x : Blk) (hx : (HAt recs H' i).get b = some x) : BIds (HAt recs H' i).next x := by
  obtain ⟨⟨σi, wi, ai, _, _, h⟩, _⟩ := s.ghost i hi
  exact h.rel.ids b x hx

theorem Setting.old (s : Setting E n nt ops los e H e' H' recs σ0 w0 a0) {i : Nat} (hi : i ≤ ops.size) (b : Nat) (x : Blk) (hb : b < H.next) (hx : (HAt recs H' i).get b = some x) : ∃ y, H.get b = some y ∧ y.ro = x.ro := by
  obtain ⟨⟨σi, wi, ai, _, _, h⟩, _⟩ := s.ghost i hi
  exact h.old b x hb hx

theorem Setting.vids (s : Setting E n nt ops los e H e' H' recs σ0 w0 a0) {i : Nat} (hi : i ≤ ops.size) (t : Nat) (u : Value) (hu : eget (eAt recs e' i) t = some u) : Ids (HAt recs H' i).next u := by
  obtain ⟨⟨σi, wi, ai, h1, _, h⟩, _⟩ := s.ghost i hi
  obtain ⟨v', _, h2⟩ := h1 t u hu
  exact h2.ids h.rel.dom

/-- What an operation that is no writer makes of the heap. -/
theorem Setting.quiet (s : Setting E n nt ops los e H e' H' recs σ0 w0 a0) {i : Nat} {lo : LOp} {r : Rec} (h1 : los[i]? = some lo) (h2 : recs[i]? = some r) (hk : lo.op.kind ≠ .write) :
    (r.H' = r.H ∧ ¬ (lo.op.kind = .alloc ∧ r.ex = true)) ∨ (lo.op.kind = .alloc ∧ r.ex = true ∧ ∃ x, r.H' = r.H.add x) := by
  cases hx : r.ex with
  | false => left; exact ⟨(s.c.skip i lo r h1 h2 hx).2.2, by simp⟩
  | true =>
    obtain ⟨_, m, hm, hrun⟩ := s.c.ex i lo r h1 h2 hx
    have haop : aop E.P r.e r.H lo.op = some (r.v, r.H') := by
      cases m with
      | zero => simp [runOp] at hrun
      | succ m =>
        cases hop : lo.op <;> rw [hop] at hrun hk <;> first | exact hrun | exact absurd rfl hk
    cases hkk : lo.op.kind with
    | pure => left; exact ⟨(aop_pure hkk haop).1, by simp⟩
    | read => left; exact ⟨(aop_read hkk haop).1, by simp⟩
    | write => exact absurd hkk hk
    | alloc =>
      right
      obtain ⟨mk, x, _, h4, _⟩ := aop_alloc hkk haop
      exact ⟨by simp, by simp, x, h4⟩

/-- Two operations that make memory make it under different numbers. -/
theorem Setting.inj (s : Setting E n nt ops los e H e' H' recs σ0 w0 a0) {i k : Nat} {lo lk : LOp} {r rk : Rec} (h1 : los[i]? = some lo) (h2 : recs[i]? = some r) (h3 : lo.op.kind = .alloc) (h4 : r.ex = true)
    (g1 : los[k]? = some lk) (g2 : recs[k]? = some rk) (g3 : lk.op.kind = .alloc) (g4 : rk.ex = true) (hb : r.H.next = rk.H.next) : i = k := by
  have key : ∀ (i k : Nat) (lo lk : LOp) (r rk : Rec), los[i]? = some lo → recs[i]? = some r → lo.op.kind = .alloc → r.ex = true → los[k]? = some lk → recs[k]? = some rk → r.H.next = rk.H.next → ¬ i < k := by
    intro i k lo lk r rk h1 h2 h3 h4 g1 g2 hb hik
    obtain ⟨r', p1, _, p3⟩ := s.c.recAt h1
    rw [h2] at p1; cases p1
    obtain ⟨rk', q1, _, q3⟩ := s.c.recAt g1
    rw [g2] at q1; cases q1
    rcases s.quiet h1 h2 (by rw [h3]; simp) with ⟨_, hn⟩ | ⟨_, _, x, hx⟩
    · exact hn ⟨h3, h4⟩
    · have hn := (s.c.next i lo r h1 h2).2
      have hm := s.next_mono (show i + 1 ≤ k by omega) (Nat.le_of_lt (s.lt g1))
      rw [hn, hx] at hm
      rw [← q3, ← hb] at hm
      simp at hm
      omega
  rcases Nat.lt_trichotomy i k with h | h | h
  · exact absurd h (key i k lo lk r rk h1 h2 h3 h4 g1 g2 hb)
  · exact h
  · exact absurd h (key k i lk lo rk r g1 g2 g3 g4 h1 h2 hb.symm)

/-- The heap behind the last writer, and the text's heap at a place: only what was made since is new. -/
theorem Setting.since (s : Setting E n nt ops los e H e' H' recs σ0 w0 a0) : ∀ j, j ≤ ops.size → (SAt H los recs j).next ≤ (HAt recs H' j).next ∧
    (∀ b, b < (SAt H los recs j).next → (HAt recs H' j).get b = (SAt H los recs j).get b) ∧
    ∀ b, (SAt H los recs j).next ≤ b → b < (HAt recs H' j).next → ∃ i lo r x, i < j ∧ los[i]? = some lo ∧ recs[i]? = some r ∧ lo.op.kind = .alloc ∧ r.ex = true ∧ b = r.H.next ∧ r.H'.get b = some x ∧ (HAt recs H' j).get b = some x := by
  intro j
  induction j with
  | zero =>
    intro _
    rw [s.c.H0]
    exact ⟨Nat.le_refl _, fun _ _ => rfl, fun b h1 h2 => by simp only [SAt] at h1; omega⟩
  | succ j ih =>
    intro hj
    obtain ⟨i1, i2, i3⟩ := ih (by omega)
    obtain ⟨o, lo, r, g1, g2, g3, g4, g5, g6⟩ := s.get (show j < ops.size by omega)
    have hn := (s.c.next j lo r g2 g3).2
    have hS : SAt H los recs (j + 1) = bif decide (lo.op.kind = .write) then r.H' else SAt H los recs j := by
      simp only [SAt, g2, g3]
    by_cases hw : lo.op.kind = .write
    · have hd : decide (lo.op.kind = .write) = true := by simp [hw]
      rw [hS, hd, cond_true, hn]
      exact ⟨Nat.le_refl _, fun _ _ => rfl, fun b h1 h2 => by omega⟩
    · have hd : decide (lo.op.kind = .write) = false := by simp [hw]
      rw [hS, hd, cond_false, hn]
      rcases s.quiet g2 g3 hw with ⟨hH, _⟩ | ⟨ha, hx, x, hH⟩
      · rw [hH, g6]
        refine ⟨i1, i2, fun b h1 h2 => ?_⟩
        obtain ⟨i, lo', r', x, q1, q2⟩ := i3 b h1 h2
        exact ⟨i, lo', r', x, by omega, q2⟩
      · rw [hH]
        refine ⟨by rw [g6]; simp; omega, fun b hb => ?_, fun b h1 h2 => ?_⟩
        · rw [Heap.get_add, g6, if_neg (by omega)]; exact i2 b hb
        · by_cases hbn : b = r.H.next
          · exact ⟨j, lo, r, x, by omega, g2, g3, ha, hx, hbn, by rw [hH, Heap.get_add, if_pos hbn], by rw [Heap.get_add, if_pos hbn]⟩
          · rw [Heap.next_add] at h2
            obtain ⟨i, lo', r', y, q1, q2, q3, q4, q5, q6, q7, q8⟩ := i3 b h1 (by rw [← g6]; omega)
            exact ⟨i, lo', r', y, by omega, q2, q3, q4, q5, q6, q7, by rw [Heap.get_add, if_neg hbn, g6]; exact q8⟩

end
end Go.Abs
