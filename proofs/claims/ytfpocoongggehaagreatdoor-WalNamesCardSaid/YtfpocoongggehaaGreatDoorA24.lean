/- Regions that draw: heaps beside each other. Of no program. -/
import Derived.Test.YtfpocoongggehaaGreatDoorA23
set_option linter.all false
namespace Go.Abs
open Go
variable [Fixed]

theorem LRel.cut {σ : Map} {k : Nat} {a a' : List Value} (h : LRel σ a a') (hi : ∀ v ∈ a, Ids k v) : LRel (σ.cut k) a a' :=
  ⟨h.1, fun i p q => (h.2 i p q).cut (hi _ (List.getElem_mem p))⟩

theorem BlkRel.cut {σ : Map} {w : World} {l : Loc} {k : Nat} {x : Blk} (h : BlkRel σ w l x) (hi : BIds k x) : BlkRel (σ.cut k) w l x := by
  cases x with
  | row cs sz ro =>
    obtain ⟨C, e, fz, h1, h2, h3, h4, h5, h6⟩ := h
    exact ⟨C, e, fz, h1, h2, h3, h4, h5.cut hi, h6⟩
  | mp es =>
    obtain ⟨ms, c, h1, h2, h3, h4⟩ := h
    exact ⟨ms, c, h1, h2, h3.cut hi, h4⟩

section
variable {σ : Map} {V G V' G1 : Heap} {w w1 : World} {k : Nat} {σ1 : Map}

/-- Below a bound, over another heap that is the same there. -/
theorem R.cutTo (hR : R σ V w) (hg : ∀ b, b < G.next → G.get b = V.get b) (hf : ∀ b, G.next ≤ b → G.get b = none) (hi : ∀ b x, G.get b = some x → BIds G.next x) : R (σ.cut G.next) G w where
  fresh := hf
  ids := hi
  dom b l hb := (Map.cut_some hb).1
  live b l x hb hx := by
    obtain ⟨h1, h2⟩ := Map.cut_some hb
    have hx' := hx
    rw [hg b h1] at hx
    exact (hR.live b l x h2 hx).cut (hi b x hx')
  inj b b' l l' x x' hb hb' hx hx' hc := by
    obtain ⟨h1, h2⟩ := Map.cut_some hb
    obtain ⟨h3, h4⟩ := Map.cut_some hb'
    rw [hg b h1] at hx
    rw [hg b' h3] at hx'
    exact hR.inj b b' l l' x x' h2 h4 hx hx' hc
  inb b l hb := hR.inb b l (Map.cut_some hb).2
  fix c hc := by
    obtain ⟨h1, h2, h3⟩ := hR.fix c hc
    refine ⟨h1, h2, fun b l x hb hx hl => ?_⟩
    obtain ⟨k1, k2⟩ := Map.cut_some hb
    rw [hg b k1] at hx
    exact h3 b l x k2 hx hl

/-- The maps of the two sides of a bound. -/
def joinMap (σ1 σ : Map) (k : Nat) : Map := fun b => if b < k then σ1 b else σ b

/-- A writer was carried out below a bound; the blocks above are as they were. -/
theorem combine (hR : R σ V w) (st : Step (σ.cut G.next) G w σ1 G1 w1) (g1 : ∀ b, b < G.next → G.get b = V.get b) (g2 : ∀ b, b < G1.next → V'.get b = G1.get b)
    (g3 : ∀ b l, G1.next ≤ b → σ b = some l → V'.get b = V.get b) (g4 : ∀ b, G.next ≤ b → b < G1.next → σ b = none) (g5 : G1.next ≤ V'.next) (g6 : ∀ b l, σ b = some l → b < V'.next)
    (g7 : ∀ b, V'.next ≤ b → V'.get b = none) (g8 : ∀ b x, V'.get b = some x → BIds V'.next x) :
    R (joinMap σ1 σ G1.next) V' w1 ∧ (∀ b l, σ b = some l → joinMap σ1 σ G1.next b = some l) := by
  have ext : ∀ b l, σ b = some l → joinMap σ1 σ G1.next b = some l := by
    intro b l hb
    unfold joinMap
    by_cases h : b < G1.next
    · rw [if_pos h]
      by_cases h2 : b < G.next
      · exact st.ext b l (Map.cut_of h2 hb)
      · rw [g4 b (by omega) h] at hb; cases hb
    · rw [if_neg h]; exact hb
  have ext1 : ∀ b l, σ1 b = some l → joinMap σ1 σ G1.next b = some l := by
    intro b l hb
    unfold joinMap
    rw [if_pos (st.rel.dom b l hb)]; exact hb
  refine ⟨⟨⟨g7, g8, ?_, ?_, ?_, ?_⟩, fun c hc => ⟨(st.rel.fix c hc).1, (st.rel.fix c hc).2.1, fun b l x hb hx hl => ?_⟩⟩, ext⟩
  rotate_left 4
  · unfold joinMap at hb
    split at hb
    · rename_i h
      rw [g2 b h] at hx
      exact (st.rel.fix c hc).2.2 b l x hb hx hl
    · rename_i h
      rw [g3 b l (by omega) hb] at hx
      exact (hR.fix c hc).2.2 b l x hb hx hl
  · intro b l hb
    unfold joinMap at hb
    split at hb
    · omega
    · exact g6 b l hb
  · intro b l x hb hx
    unfold joinMap at hb
    split at hb
    · rename_i h
      rw [g2 b h] at hx
      exact (st.rel.live b l x hb hx).mono ext1 rfl
    · rename_i h
      rw [g3 b l (by omega) hb] at hx
      refine (hR.live b l x hb hx).mono ext ?_
      refine st.keep l.c (hR.inb b l hb) ?_
      intro b2 l2 x2 hb2 hx2 hc
      obtain ⟨q1, q2⟩ := Map.cut_some hb2
      rw [g1 b2 q1] at hx2
      rcases hR.inj b2 b l2 l x2 x q2 hb hx2 hx hc with h3 | ⟨h3, _⟩
      · have := st.next; omega
      · exact h3
  · have cross : ∀ b b' l l' x x', b < G1.next → ¬ b' < G1.next → σ1 b = some l → σ b' = some l' → G1.get b = some x → V.get b' = some x' → l.c = l'.c → x.ro = true ∧ x'.ro = true := by
      intro b b' l l' x x' hb hb' h1 h2 hx hx' hc
      have hnext := st.next
      cases hs : σ.cut G.next b with
      | some l0 =>
        have := st.ext b l0 hs
        rw [h1] at this
        cases this
        obtain ⟨q1, q2⟩ := Map.cut_some hs
        obtain ⟨y, hy, hro⟩ := st.old b x q1 hx
        rw [g1 b q1] at hy
        rcases hR.inj b b' l l' y x' q2 h2 hy hx' hc with h3 | ⟨h3, h4⟩
        · omega
        · exact ⟨by rw [← hro]; exact h3, h4⟩
      | none =>
        rcases (st.new b l h1 hs).2 with h3 | ⟨b0, l0, x0, e0, q0, r0, c0⟩
        · have := hR.inb b' l' h2; omega
        · obtain ⟨q1, q2⟩ := Map.cut_some e0
          rw [g1 b0 q1] at q0
          rcases hR.inj b0 b' l0 l' x0 x' q2 h2 q0 hx' (c0.trans hc) with h3 | ⟨h3, _⟩
          · omega
          · rw [r0] at h3; cases h3
    intro b b' l l' x x' hb hb' hx hx' hc
    unfold joinMap at hb hb'
    by_cases h1 : b < G1.next <;> by_cases h2 : b' < G1.next
    · rw [if_pos h1] at hb; rw [if_pos h2] at hb'
      rw [g2 b h1] at hx; rw [g2 b' h2] at hx'
      exact st.rel.inj b b' l l' x x' hb hb' hx hx' hc
    · rw [if_pos h1] at hb; rw [if_neg h2] at hb'
      rw [g2 b h1] at hx; rw [g3 b' l' (by omega) hb'] at hx'
      exact .inr (cross b b' l l' x x' h1 h2 hb hb' hx hx' hc)
    · rw [if_neg h1] at hb; rw [if_pos h2] at hb'
      rw [g3 b l (by omega) hb] at hx; rw [g2 b' h2] at hx'
      have := cross b' b l' l x' x h2 h1 hb' hb hx' hx hc.symm
      exact .inr ⟨this.2, this.1⟩
    · rw [if_neg h1] at hb; rw [if_neg h2] at hb'
      rw [g3 b l (by omega) hb] at hx; rw [g3 b' l' (by omega) hb'] at hx'
      exact hR.inj b b' l l' x x' hb hb' hx hx' hc
  · intro b l hb
    unfold joinMap at hb
    split at hb
    · exact st.rel.inb b l hb
    · exact Nat.lt_of_lt_of_le (hR.inb b l hb) st.size

/-- Memory was made; the abstract heap holds it under another number. -/
theorem renumber (hR : R σ V w) {x : Blk} (st : Step σ V w σ1 (V.add x) w1) {bi : Nat} {l : Loc} (h1 : σ1 V.next = some l) (hbi : bi < V.next) (hnone : σ bi = none) (hx : V.get bi = some x)
    (hids : BIds V.next x) :
    R (σ.put bi l) V w1 ∧ (∀ b l', σ b = some l' → (σ.put bi l) b = some l') := by
  have ext := Map.put_ext (l := l) hnone
  have back : ∀ b l', b < V.next → σ1 b = some l' → σ b = some l' := by
    intro b l' hb h
    cases hs : σ b with
    | some l2 => have := st.ext b l2 hs; rw [h] at this; exact this.symm
    | none => have := (st.new b l' h hs).1; omega
  refine ⟨⟨⟨hR.fresh, hR.ids, ?_, ?_, ?_, ?_⟩, fun c hc => ⟨(st.rel.fix c hc).1, (st.rel.fix c hc).2.1, fun b l' y hb hy hl => ?_⟩⟩, ext⟩
  rotate_left 4
  · unfold Map.put at hb
    split at hb
    · rename_i hbb
      subst hbb
      cases hb
      rw [hx] at hy
      cases hy
      exact (st.rel.fix c hc).2.2 V.next l x h1 (by rw [Heap.get_add, if_pos rfl]) hl
    · exact (hR.fix c hc).2.2 b l' y hb hy hl
  · intro b l' hb
    unfold Map.put at hb
    split at hb
    · omega
    · exact hR.dom b l' hb
  · intro b l' y hb hy
    unfold Map.put at hb
    split at hb
    · rename_i hbb
      subst hbb
      cases hb
      rw [hx] at hy
      cases hy
      have hl := st.rel.live V.next l x h1 (by rw [Heap.get_add, if_pos rfl])
      refine (hl.cut hids).mono ?_ rfl
      intro b2 l2 h2
      obtain ⟨q1, q2⟩ := Map.cut_some h2
      exact ext b2 l2 (back b2 l2 q1 q2)
    · have hl := st.rel.live b l' y (st.ext b l' hb) (by rw [Heap.get_add, if_neg (by have := hR.dom b l' hb; omega)]; exact hy)
      refine (hl.cut (hR.ids b y hy)).mono ?_ rfl
      intro b2 l2 h2
      obtain ⟨q1, q2⟩ := Map.cut_some h2
      exact ext b2 l2 (back b2 l2 q1 q2)
  · intro b b' l2 l2' y y' hb hb' hy hy' hc
    unfold Map.put at hb hb'
    by_cases e1 : b = bi <;> by_cases e2 : b' = bi
    · exact .inl (e1.trans e2.symm)
    · rw [if_pos e1] at hb; rw [if_neg e2] at hb'
      cases hb
      have hd := hR.dom b' l2' hb'
      rw [e1, hx] at hy; cases hy
      rcases st.rel.inj V.next b' l l2' x y' h1 (st.ext b' l2' hb') (by rw [Heap.get_add, if_pos rfl]) (by rw [Heap.get_add, if_neg (by omega)]; exact hy') hc with h3 | h3
      · omega
      · exact .inr h3
    · rw [if_neg e1] at hb; rw [if_pos e2] at hb'
      cases hb'
      have hd := hR.dom b l2 hb
      rw [e2, hx] at hy'; cases hy'
      rcases st.rel.inj V.next b l l2 x y h1 (st.ext b l2 hb) (by rw [Heap.get_add, if_pos rfl]) (by rw [Heap.get_add, if_neg (by omega)]; exact hy) hc.symm with h3 | h3
      · omega
      · exact .inr ⟨h3.2, h3.1⟩
    · rw [if_neg e1] at hb; rw [if_neg e2] at hb'
      exact hR.inj b b' l2 l2' y y' hb hb' hy hy' hc
  · intro b l' hb
    unfold Map.put at hb
    split at hb
    · rename_i hbb
      cases hb
      exact st.rel.inb V.next l h1
    · exact Nat.lt_of_lt_of_le (hR.inb b l' hb) st.size

/-- Memory was made that nobody knows. -/
theorem forget (hR : R σ V w) {x : Blk} (st : Step σ V w σ1 (V.add x) w1) : R σ V w1 := by
  have back : ∀ b l', b < V.next → σ1 b = some l' → σ b = some l' := by
    intro b l' hb h
    cases hs : σ b with
    | some l2 => have := st.ext b l2 hs; rw [h] at this; exact this.symm
    | none => have := (st.new b l' h hs).1; omega
  refine ⟨⟨hR.fresh, hR.ids, hR.dom, ?_, hR.inj, ?_⟩, fun c hc => ⟨(st.rel.fix c hc).1, (st.rel.fix c hc).2.1, (hR.fix c hc).2.2⟩⟩
  · intro b l' y hb hy
    have hl := st.rel.live b l' y (st.ext b l' hb) (by rw [Heap.get_add, if_neg (by have := hR.dom b l' hb; omega)]; exact hy)
    refine (hl.cut (hR.ids b y hy)).mono ?_ rfl
    intro b2 l2 h2
    obtain ⟨q1, q2⟩ := Map.cut_some h2
    exact back b2 l2 q1 q2
  · intro b l' hb
    exact Nat.lt_of_lt_of_le (hR.inb b l' hb) st.size

theorem R.congr (hR : R σ V w) (hg : ∀ b, V'.get b = V.get b) (hn : V.next ≤ V'.next) : R σ V' w where
  fresh b hb := by rw [hg]; exact hR.fresh b (by omega)
  ids b x hx := by rw [hg] at hx; exact (hR.ids b x hx).mono hn
  dom b l hb := by have := hR.dom b l hb; omega
  live b l x hb hx := by rw [hg] at hx; exact hR.live b l x hb hx
  inj b b' l l' x x' hb hb' hx hx' := by rw [hg] at hx hx'; exact hR.inj b b' l l' x x' hb hb' hx hx'
  inb := hR.inb
  fix c hc := ⟨(hR.fix c hc).1, (hR.fix c hc).2.1, fun b l x hb hx hl => (hR.fix c hc).2.2 b l x hb (by rw [← hg]; exact hx) hl⟩

end
end Go.Abs
