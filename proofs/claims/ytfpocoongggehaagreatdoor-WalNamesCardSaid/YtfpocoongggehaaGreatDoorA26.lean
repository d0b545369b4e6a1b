/- Regions that draw: each operation, in whatever order. Of no program. -/
import Derived.Test.YtfpocoongggehaaGreatDoorA25
set_option linter.all false
namespace Go.Abs
open Go
variable [Fixed]

section
variable {E : Env0} {n nt : Nat} {ops : Array Oper} {los : List LOp} {e : Env} {H : Heap} {e' : Env} {H' : Heap} {recs : List Rec} {σ0 : Map} {w0 : World} {a0 : Act}

/-- The heap behind the writers ahead of a place, with all that the region makes. -/
def VAt (H : Heap) (los : List LOp) (recs : List Rec) (p : Nat) : Heap := addLate (SAt H los recs p) (lates los recs)

theorem Setting.SAt_is (s : Setting E n nt ops los e H e' H' recs σ0 w0 a0) : ∀ p, p ≤ ops.size → ∃ q, q ≤ p ∧ SAt H los recs p = HAt recs H' q ∧ SAt H los recs q = SAt H los recs p := by
  intro p
  induction p with
  | zero => intro _; exact ⟨0, Nat.le_refl _, s.c.H0.symm, rfl⟩
  | succ p ih =>
    intro hp
    obtain ⟨o, lo, r, g1, g2, g3, g4, g5, g6⟩ := s.get (show p < ops.size by omega)
    have hn := (s.c.next p lo r g2 g3).2
    have hS : SAt H los recs (p + 1) = bif decide (lo.op.kind = .write) then r.H' else SAt H los recs p := by simp only [SAt, g2, g3]
    by_cases hw : lo.op.kind = .write
    · have hd : decide (lo.op.kind = .write) = true := by simp [hw]
      exact ⟨p + 1, Nat.le_refl _, by rw [hS, hd, cond_true, hn], rfl⟩
    · have hd : decide (lo.op.kind = .write) = false := by simp [hw]
      obtain ⟨q, h1, h2, h3⟩ := ih (by omega)
      rw [hd, cond_false] at hS
      exact ⟨q, by omega, by rw [hS, h2], by rw [hS, h3]⟩

theorem Setting.S_next_mono (s : Setting E n nt ops los e H e' H' recs σ0 w0 a0) {p : Nat} (hp : p ≤ ops.size) : H.next ≤ (SAt H los recs p).next := by
  obtain ⟨q, h1, h2, _⟩ := s.SAt_is p hp
  rw [h2, ← s.c.H0]
  exact s.next_mono (Nat.zero_le _) (by omega)

theorem Setting.late_fact (s : Setting E n nt ops los e H e' H' recs σ0 w0 a0) {b : Nat} {x : Blk} (h : (b, x) ∈ lates los recs) :
    ∃ (i : Nat) (lo : LOp) (r : Rec), los[i]? = some lo ∧ recs[i]? = some r ∧ lo.op.kind = .alloc ∧ r.ex = true ∧ b = r.H.next ∧ r.H'.get b = some x := by
  obtain ⟨i, lo, r, h1, h2, h3, h4, h5, h6⟩ := mem_lates.1 h
  exact ⟨i, lo, r, h1, h2, h3, h4, h5, by rw [h5]; exact h6⟩

theorem Setting.alloc_get (s : Setting E n nt ops los e H e' H' recs σ0 w0 a0) {i : Nat} {lo : LOp} {r : Rec} (h1 : los[i]? = some lo) (h2 : recs[i]? = some r) (h3 : lo.op.kind = .alloc) (h4 : r.ex = true) :
    ∃ x, r.H' = r.H.add x ∧ r.H'.get r.H.next = some x ∧ (r.H.next, x) ∈ lates los recs ∧ r.H = HAt recs H' i ∧ r.H' = HAt recs H' (i + 1) ∧ (HAt recs H' (i + 1)).next = r.H.next + 1 := by
  obtain ⟨r', p1, _, p3⟩ := s.c.recAt h1
  rw [h2] at p1; cases p1
  rcases s.quiet h1 h2 (by rw [h3]; simp) with ⟨_, hn⟩ | ⟨_, _, x, hx⟩
  · exact absurd ⟨h3, h4⟩ hn
  · have hg : r.H'.get r.H.next = some x := by rw [hx, Heap.get_add, if_pos rfl]
    have hn := (s.c.next i lo r h1 h2).2
    exact ⟨x, hx, hg, mem_lates.2 ⟨i, lo, r, h1, h2, h3, h4, rfl, hg⟩, p3, hn.symm, by rw [hn, hx]; rfl⟩

/-- What the joined heap holds where the region made something since the last writer. -/
theorem Setting.V_late (s : Setting E n nt ops los e H e' H' recs σ0 w0 a0) {p i : Nat} {lo : LOp} {r : Rec} (h1 : los[i]? = some lo) (h2 : recs[i]? = some r) (h3 : lo.op.kind = .alloc) (h4 : r.ex = true)
    (hb : (SAt H los recs p).next ≤ r.H.next) : (VAt H los recs p).get r.H.next = r.H'.get r.H.next := by
  obtain ⟨x, hx, hg, hm, _⟩ := s.alloc_get h1 h2 h3 h4
  rcases addLate_new (SAt H los recs p) (lates los recs) r.H.next hb with ⟨y, k1, k2⟩ | ⟨k1, _⟩
  · obtain ⟨i', lo', r', q1, q2, q3, q4, q5, q6⟩ := s.late_fact k1
    have : i = i' := s.inj h1 h2 h3 h4 q1 q2 q3 q4 q5
    subst this
    rw [h2] at q2; cases q2
    unfold VAt
    rw [k2, q6]
  · exact absurd hm (k1 x)

theorem Setting.V_old (s : Setting E n nt ops los e H e' H' recs σ0 w0 a0) {p j : Nat} (hj : j ≤ ops.size) (hS : SAt H los recs p = SAt H los recs j) {b : Nat} (hb : b < (HAt recs H' j).next) :
    (VAt H los recs p).get b = (HAt recs H' j).get b := by
  obtain ⟨i1, i2, i3⟩ := s.since j hj
  by_cases h : b < (SAt H los recs j).next
  · unfold VAt
    rw [addLate_old _ _ b (by rw [hS]; exact h), hS, i2 b h]
  · obtain ⟨i, lo, r, x, q0, q1, q2, q3, q4, q5, q6, q7⟩ := i3 b (by omega) hb
    rw [q7, ← q6, q5]
    exact s.V_late q1 q2 q3 q4 (by rw [hS, ← q5]; omega)

theorem Setting.V_next (s : Setting E n nt ops los e H e' H' recs σ0 w0 a0) {p : Nat} (hp : p ≤ ops.size) : (SAt H los recs p).next ≤ (VAt H los recs p).next ∧ (VAt H los recs p).next ≤ (HAt recs H' ops.size).next ∧
    ∀ b, (∃ (i : Nat) (lo : LOp) (r : Rec), los[i]? = some lo ∧ recs[i]? = some r ∧ lo.op.kind = .alloc ∧ r.ex = true ∧ b = r.H.next) → b < (VAt H los recs p).next := by
  obtain ⟨h1, h2, h3⟩ := addLate_next (SAt H los recs p) (lates los recs)
  refine ⟨h1, ?_, ?_⟩
  · refine h3 _ ?_ ?_
    · obtain ⟨q, q1, q2, _⟩ := s.SAt_is p hp
      rw [q2]; exact s.next_mono (by omega) (Nat.le_refl _)
    · intro b x hx
      obtain ⟨i, lo, r, q1, q2, q3, q4, q5, _⟩ := s.late_fact hx
      obtain ⟨_, _, _, _, _, _, hn⟩ := s.alloc_get q1 q2 q3 q4
      have := s.next_mono (show i + 1 ≤ ops.size from s.lt q1) (Nat.le_refl _)
      omega
  · rintro b ⟨i, lo, r, q1, q2, q3, q4, rfl⟩
    obtain ⟨x, _, _, hm, _⟩ := s.alloc_get q1 q2 q3 q4
    by_cases hb : (SAt H los recs p).next ≤ r.H.next
    · exact h2 _ x hm hb
    · unfold VAt; omega

theorem Setting.V_cases (s : Setting E n nt ops los e H e' H' recs σ0 w0 a0) {p : Nat} (b : Nat) : (b < (SAt H los recs p).next ∧ (VAt H los recs p).get b = (SAt H los recs p).get b) ∨
    ((SAt H los recs p).next ≤ b ∧ ∃ (i : Nat) (lo : LOp) (r : Rec), los[i]? = some lo ∧ recs[i]? = some r ∧ lo.op.kind = .alloc ∧ r.ex = true ∧ b = r.H.next ∧ (VAt H los recs p).get b = r.H'.get b) ∨
    ((SAt H los recs p).next ≤ b ∧ (VAt H los recs p).get b = (SAt H los recs p).get b) := by
  by_cases hb : b < (SAt H los recs p).next
  · exact .inl ⟨hb, addLate_old _ _ b hb⟩
  · right
    rcases addLate_new (SAt H los recs p) (lates los recs) b (by omega) with ⟨y, k1, k2⟩ | ⟨_, k2⟩
    · left
      obtain ⟨i', lo', r', q1, q2, q3, q4, q5, q6⟩ := s.late_fact k1
      exact ⟨by omega, i', lo', r', q1, q2, q3, q4, q5, by unfold VAt; rw [k2, q6]⟩
    · exact .inr ⟨by omega, k2⟩

theorem Setting.V_fresh (s : Setting E n nt ops los e H e' H' recs σ0 w0 a0) {p : Nat} (hp : p ≤ ops.size) (b : Nat) (hb : (VAt H los recs p).next ≤ b) : (VAt H los recs p).get b = none := by
  have h1 := (s.V_next hp).1
  rcases s.V_cases (p := p) b with ⟨h, _⟩ | ⟨_, i, lo, r, q1, q2, q3, q4, q5, _⟩ | ⟨h, h2⟩
  · omega
  · have := (s.V_next hp).2.2 b ⟨i, lo, r, q1, q2, q3, q4, q5⟩; omega
  · rw [h2]
    obtain ⟨q, g1, g2, _⟩ := s.SAt_is p hp
    rw [g2]; exact s.fresh (by omega) b (by rw [← g2]; omega)

theorem Setting.V_ids (s : Setting E n nt ops los e H e' H' recs σ0 w0 a0) {p : Nat} (hp : p ≤ ops.size) (b : Nat) (x : Blk) (hx : (VAt H los recs p).get b = some x) : BIds (VAt H los recs p).next x := by
  obtain ⟨q, g1, g2, _⟩ := s.SAt_is p hp
  have hn := (s.V_next hp).1
  have fromS : (SAt H los recs p).get b = some x → BIds (VAt H los recs p).next x := by
    intro h; rw [g2] at h
    exact (s.ids (by omega) b x h).mono (by rw [← g2]; exact hn)
  rcases s.V_cases (p := p) b with ⟨_, h2⟩ | ⟨_, i, lo, r, q1, q2, q3, q4, q5, q6⟩ | ⟨h, h2⟩
  · rw [h2] at hx; exact fromS hx
  · rw [q6] at hx
    obtain ⟨_, _, _, _, _, hH, hnx⟩ := s.alloc_get q1 q2 q3 q4
    rw [hH] at hx
    have := s.ids (show i + 1 ≤ ops.size from s.lt q1) b x hx
    have hb := (s.V_next hp).2.2 b ⟨i, lo, r, q1, q2, q3, q4, q5⟩
    exact this.mono (by rw [hnx, ← q5]; omega)
  · rw [h2] at hx; exact fromS hx

/-- What holds of the heaps when some operations have been carried out, the writers among them up to a place. -/
structure HInv (E : Env0) (ops : Array Oper) (los : List LOp) (H : Heap) (recs : List Rec) (σ0 : Map) (w0 : World) (listed : Array Bool) (σ : Map) (w : World) (p : Nat) : Prop where
  sz : listed.size = ops.size
  pp : p ≤ ops.size
  wr : ∀ (i : Nat) (lo : LOp), los[i]? = some lo → lo.op.kind = .write → (listed.getD i false = true ↔ i < p)
  rel : R σ (VAt H los recs p) w
  ext : ∀ b l, σ0 b = some l → σ b = some l
  new : ∀ b l, σ b = some l → σ0 b = none → H.next ≤ b ∧ (w0.heap.size ≤ l.c ∨ ∃ b0 l0 x, σ0 b0 = some l0 ∧ H.get b0 = some x ∧ x.ro = false ∧ l0.c = l.c)
  size : w0.heap.size ≤ w.heap.size
  keep : ∀ c, c < w0.heap.size → (∀ b l x, σ0 b = some l → H.get b = some x → l.c = c → x.ro = true) → w.heap[c]? = w0.heap[c]?
  dom : ∀ b l, σ b = some l → b < (SAt H los recs p).next ∨ ∃ (i : Nat) (lo : LOp) (r : Rec), los[i]? = some lo ∧ recs[i]? = some r ∧ lo.op.kind = .alloc ∧ r.ex = true ∧ listed.getD i false = true ∧ b = r.H.next
  undone : ∀ (i : Nat) (lo : LOp) (r : Rec), los[i]? = some lo → recs[i]? = some r → lo.op.kind = .alloc → r.ex = true → listed.getD i false = false → σ r.H.next = none
  late : ∀ (i : Nat) (lo : LOp) (r : Rec), los[i]? = some lo → recs[i]? = some r → lo.op.kind = .alloc → r.ex = true → listed.getD i false = false → r.H.next < (SAt H los recs p).next → (SAt H los recs p).get r.H.next = r.H'.get r.H.next
  hush : Quiet w0 w

theorem getD_set (listed : Array Bool) (i k : Nat) (hi : i < listed.size) : (listed.setIfInBounds i true).getD k false = if k = i then true else listed.getD k false := by
  by_cases h : k = i
  · subst h
    rw [if_pos rfl, Array.getD_eq_getD_getElem?, Array.getElem?_setIfInBounds]; simp [hi]
  · rw [if_neg h, Array.getD_eq_getD_getElem?, Array.getElem?_setIfInBounds, if_neg (fun hh => h hh.symm), ← Array.getD_eq_getD_getElem?]

/-- What a live block that may be written is worth at the start. -/
theorem HInv.start_ro (s : Setting E n nt ops los e H e' H' recs σ0 w0 a0) {listed : Array Bool} {σ : Map} {w : World} {p : Nat} (h : HInv E ops los H recs σ0 w0 listed σ w p) {b : Nat} {l : Loc} {x : Blk}
    (hσ : σ b = some l) (hx : (VAt H los recs p).get b = some x) : (∃ y, σ0 b = some l ∧ H.get b = some y ∧ y.ro = x.ro) ∨ (σ0 b = none) := by
  cases h0 : σ0 b with
  | none => exact .inr rfl
  | some l0 =>
    left
    have := h.ext b l0 h0
    rw [hσ] at this
    cases this
    have hb := s.R0.dom b l h0
    have hbS : b < (SAt H los recs p).next := Nat.lt_of_lt_of_le hb (s.S_next_mono h.pp)
    have hx2 := hx
    unfold VAt at hx2
    rw [addLate_old _ _ b hbS] at hx2
    obtain ⟨q, g1, g2, _⟩ := s.SAt_is p h.pp
    rw [g2] at hx2
    obtain ⟨y, hy, hro⟩ := s.old (i := q) (by have := h.pp; omega) b x hb hx2
    exact ⟨y, rfl, hy, hro⟩

theorem HInv.live_ro (s : Setting E n nt ops los e H e' H' recs σ0 w0 a0) {listed : Array Bool} {σ : Map} {w : World} {p : Nat} (h : HInv E ops los H recs σ0 w0 listed σ w p) {c : Nat} (hc : c < w0.heap.size)
    (hk : ∀ b l x, σ0 b = some l → H.get b = some x → l.c = c → x.ro = true) : ∀ b l x, σ b = some l → (VAt H los recs p).get b = some x → l.c = c → x.ro = true := by
  intro b l x hb hx hl
  rcases h.start_ro s hb hx with ⟨y, h1, h2, h3⟩ | h1
  · rw [← h3]; exact hk b l y h1 h2 hl
  · rcases (h.new b l hb h1).2 with h2 | ⟨b0, l0, y, k1, k2, k3, k4⟩
    · omega
    · have := hk b0 l0 y k1 k2 (k4.trans hl)
      rw [k3] at this; cases this

/-- A new block that lies at an old place of a writable block, or at a new place. -/
theorem HInv.origin (s : Setting E n nt ops los e H e' H' recs σ0 w0 a0) {listed : Array Bool} {σ : Map} {w : World} {p : Nat} (h : HInv E ops los H recs σ0 w0 listed σ w p) {l : Loc}
    (ho : w.heap.size ≤ l.c ∨ ∃ b0 l0 x, σ b0 = some l0 ∧ (VAt H los recs p).get b0 = some x ∧ x.ro = false ∧ l0.c = l.c) :
    w0.heap.size ≤ l.c ∨ ∃ b0 l0 x, σ0 b0 = some l0 ∧ H.get b0 = some x ∧ x.ro = false ∧ l0.c = l.c := by
  rcases ho with h1 | ⟨b0, l0, x, k1, k2, k3, k4⟩
  · exact .inl (Nat.le_trans h.size h1)
  · rcases h.start_ro s k1 k2 with ⟨y, g1, g2, g3⟩ | g1
    · exact .inr ⟨b0, l0, y, g1, g2, by rw [g3]; exact k3, k4⟩
    · rcases (h.new b0 l0 k1 g1).2 with g2 | ⟨b1, l1, y, q1, q2, q3, q4⟩
      · exact .inl (by rw [← k4]; exact g2)
      · exact .inr ⟨b1, l1, y, q1, q2, q3, q4.trans k4⟩

/-- An operation that changes nothing. -/
theorem HInv.quiet (s : Setting E n nt ops los e H e' H' recs σ0 w0 a0) {listed : Array Bool} {σ σ' : Map} {w w' : World} {p i : Nat} {lo : LOp} {r : Rec} (h : HInv E ops los H recs σ0 w0 listed σ w p)
    (h1 : los[i]? = some lo) (h2 : recs[i]? = some r) (hk : lo.op.kind ≠ .write) (ha : ¬ (lo.op.kind = .alloc ∧ r.ex = true)) (st : Step σ (VAt H los recs p) w σ' (VAt H los recs p) w') :
    HInv E ops los H recs σ0 w0 (listed.setIfInBounds i true) σ' w' p := by
  have hi : i < listed.size := by rw [h.sz]; exact s.lt h1
  have back : ∀ b l, σ' b = some l → σ b = some l := by
    intro b l hb
    cases hs : σ b with
    | some l2 => have := st.ext b l2 hs; rw [hb] at this; exact this.symm
    | none =>
      have := (st.new b l hb hs).1
      have := st.rel.dom b l hb
      omega
  refine ⟨by simp [h.sz], h.pp, ?_, st.rel, fun b l hb => st.ext b l (h.ext b l hb), fun b l hb h0 => h.new b l (back b l hb) h0, Nat.le_trans h.size st.size, ?_, ?_, ?_, ?_, h.hush.trans st.quiet⟩
  · intro k lk hk1 hk2
    rw [getD_set _ _ _ hi]
    have : k ≠ i := by intro hh; subst hh; rw [h1] at hk1; cases hk1; exact hk hk2
    rw [if_neg this]; exact h.wr k lk hk1 hk2
  · intro c hc hh
    rw [st.keep c (Nat.lt_of_lt_of_le hc h.size) (h.live_ro s hc hh)]
    exact h.keep c hc hh
  · intro b l hb
    rcases h.dom b l (back b l hb) with h3 | ⟨k, lk, rk, q1, q2, q3, q4, q5, q6⟩
    · exact .inl h3
    · exact .inr ⟨k, lk, rk, q1, q2, q3, q4, by rw [getD_set _ _ _ hi]; split; rfl; exact q5, q6⟩
  · intro k lk rk q1 q2 q3 q4 q5
    rw [getD_set _ _ _ hi] at q5
    split at q5
    · cases q5
    · cases hs : σ' rk.H.next with
      | none => rfl
      | some l => have := h.undone k lk rk q1 q2 q3 q4 q5; rw [back _ l hs] at this; cases this
  · intro k lk rk q1 q2 q3 q4 q5 q6
    rw [getD_set _ _ _ hi] at q5
    split at q5
    · cases q5
    · exact h.late k lk rk q1 q2 q3 q4 q5 q6

/-- Memory is made. -/
theorem HInv.alloc (s : Setting E n nt ops los e H e' H' recs σ0 w0 a0) {listed : Array Bool} {σ σ1 : Map} {w w' : World} {p i : Nat} {lo : LOp} {r : Rec} {m : Mk} {x : Blk} {v' : Value} (h : HInv E ops los H recs σ0 w0 listed σ w p)
    (h1 : los[i]? = some lo) (h2 : recs[i]? = some r) (hk : lo.op.kind = .alloc) (hx : r.ex = true) (hun : listed.getD i false = false) (hxx : r.H' = r.H.add x) (st : Step σ (VAt H los recs p) w σ1 ((VAt H los recs p).add x) w')
    (hv : VRel σ1 (m.val (VAt H los recs p).next) v') :
    ∃ σ', (∀ b l, σ b = some l → σ' b = some l) ∧ VRel σ' (m.val r.H.next) v' ∧ HInv E ops los H recs σ0 w0 (listed.setIfInBounds i true) σ' w' p := by
  have hi : i < listed.size := by rw [h.sz]; exact s.lt h1
  obtain ⟨x', q1, q2, q3, q4, q5, q6⟩ := s.alloc_get h1 h2 hk hx
  have hxe : x' = x := by
    have := q1.symm.trans hxx
    have := congrArg (fun G : Heap => G.get r.H.next) this
    simp only [Heap.get_add, if_pos] at this
    exact Option.some.inj this
  subst hxe
  have hbV := (s.V_next h.pp).2.2 r.H.next ⟨i, lo, r, h1, h2, hk, hx, rfl⟩
  have hVb : (VAt H los recs p).get r.H.next = some x' := by
    by_cases hb : (SAt H los recs p).next ≤ r.H.next
    · rw [s.V_late h1 h2 hk hx hb]; exact q2
    · unfold VAt
      rw [addLate_old _ _ _ (by omega), h.late i lo r h1 h2 hk hx hun (by omega)]; exact q2
  have hnone := h.undone i lo r h1 h2 hk hx hun
  have finish : ∀ σ', (∀ b l, σ b = some l → σ' b = some l) → R σ' (VAt H los recs p) w' → (∀ b l, σ' b = some l → σ b = some l ∨ (b = r.H.next ∧ σ1 (VAt H los recs p).next = some l)) →
      HInv E ops los H recs σ0 w0 (listed.setIfInBounds i true) σ' w' p := by
    intro σ' hext hR' hback
    refine ⟨by simp [h.sz], h.pp, ?_, hR', fun b l hb => hext b l (h.ext b l hb), ?_, Nat.le_trans h.size st.size, ?_, ?_, ?_, ?_, h.hush.trans st.quiet⟩
    · intro k lk hk1 hk2
      rw [getD_set _ _ _ hi]
      have : k ≠ i := by intro hh; subst hh; rw [h1] at hk1; cases hk1; rw [hk] at hk2; cases hk2
      rw [if_neg this]; exact h.wr k lk hk1 hk2
    · intro b l hb h0
      rcases hback b l hb with h3 | ⟨h3, h4⟩
      · exact h.new b l h3 h0
      · refine ⟨?_, h.origin s (st.new _ l h4 h.rel.none_next).2⟩
        rw [h3, q4, ← s.c.H0]; exact s.next_mono (Nat.zero_le _) (Nat.le_of_lt (s.lt h1))
    · intro c hc hh
      rw [st.keep c (Nat.lt_of_lt_of_le hc h.size) (h.live_ro s hc hh)]
      exact h.keep c hc hh
    · intro b l hb
      rcases hback b l hb with h3 | ⟨h3, _⟩
      · rcases h.dom b l h3 with h3 | ⟨k, lk, rk, g1, g2, g3, g4, g5, g6⟩
        · exact .inl h3
        · exact .inr ⟨k, lk, rk, g1, g2, g3, g4, by rw [getD_set _ _ _ hi]; split; rfl; exact g5, g6⟩
      · exact .inr ⟨i, lo, r, h1, h2, hk, hx, by rw [getD_set _ _ _ hi, if_pos rfl], h3⟩
    · intro k lk rk g1 g2 g3 g4 g5
      rw [getD_set _ _ _ hi] at g5
      split at g5
      · cases g5
      · rename_i hki
        cases hs : σ' rk.H.next with
        | none => rfl
        | some l =>
          rcases hback _ l hs with h3 | ⟨h3, _⟩
          · have := h.undone k lk rk g1 g2 g3 g4 g5; rw [h3] at this; cases this
          · exact absurd (s.inj g1 g2 g3 g4 h1 h2 hk hx h3) hki
    · intro k lk rk g1 g2 g3 g4 g5 g6
      rw [getD_set _ _ _ hi] at g5
      split at g5
      · cases g5
      · exact h.late k lk rk g1 g2 g3 g4 g5 g6
  rcases Mk.rel hv with ⟨l, hl, hval⟩ | hval
  · obtain ⟨hR', hext⟩ := renumber h.rel st hl hbV hnone hVb (s.V_ids h.pp _ _ hVb)
    refine ⟨_, hext, hval _ _ (Map.put_same _ _ _), finish _ hext hR' ?_⟩
    intro b l' hb
    unfold Map.put at hb
    split at hb
    · rename_i hbb; cases hb; exact .inr ⟨hbb, hl⟩
    · exact .inl hb
  · exact ⟨σ, fun _ _ hh => hh, hval _ _, finish σ (fun _ _ hh => hh) (forget h.rel st) (fun b l hb => .inl hb)⟩

end
end Go.Abs
