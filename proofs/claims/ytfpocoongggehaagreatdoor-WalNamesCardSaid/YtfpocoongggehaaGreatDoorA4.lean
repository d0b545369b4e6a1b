/- Changes of the abstract heap beside changes of the world. Of no program. -/
import Derived.Test.YtfpocoongggehaaGreatDoorA3
set_option linter.all false
namespace Go.Abs
open Go
variable [Fixed]

/-- A world with another block in a place. -/
def putObj (w : World) (c : Nat) (o : Obj) : World := { w with heap := w.heap.setIfInBounds c o }

@[simp] theorem size_putObj (w : World) (c : Nat) (o : Obj) : (putObj w c o).heap.size = w.heap.size := by simp [putObj]
theorem get_putObj (w : World) (c : Nat) (o : Obj) (k : Nat) (hc : c < w.heap.size) : (putObj w c o).heap[k]? = if k = c then some o else w.heap[k]? := by
  simp only [putObj, Array.getElem?_setIfInBounds]
  by_cases h : k = c
  · subst h; simp [hc]
  · rw [if_neg (fun e => h e.symm), if_neg h]

theorem get_alloc (w : World) (o : Obj) (k : Nat) : (w.alloc o).heap[k]? = if k = w.heap.size then some o else w.heap[k]? := by
  simp only [World.alloc, Array.getElem?_push]

theorem R.of_heap {σ : Map} {H : Heap} {w w' : World} (h : R σ H w) (e : w'.heap = w.heap) : R σ H w' where
  fresh := h.fresh
  ids := h.ids
  dom := h.dom
  live b l x hb hx := by
    have := h.live b l x hb hx
    cases x <;> simp only [BlkRel, e] at this ⊢ <;> exact this
  inj := h.inj
  inb b l hb := by rw [e]; exact h.inb b l hb
  fix c hc := by rw [e]; exact h.fix c hc

theorem Step.of_heap {σ σ' : Map} {H H' : Heap} {w w1 w' : World} (s : Step σ H w1 σ' H' w') (e : w1.heap = w.heap) (q : Quiet w w1 := by exact ⟨rfl, rfl, rfl⟩) : Step σ H w σ' H' w' where
  quiet := q.trans s.quiet
  ext := s.ext
  new b l h h' := by have := s.new b l h h'; rwa [e] at this
  next := s.next
  rel := s.rel
  size := by have := s.size; rwa [e] at this
  keep c hc hk := by have := s.keep c (by rw [e]; exact hc) hk; rwa [e] at this
  old := s.old
  keepA := s.keepA

theorem Step.to_heap {σ σ' : Map} {H H' : Heap} {w w1 w' : World} (s : Step σ H w σ' H' w1) (e : w'.heap = w1.heap) (q : Quiet w1 w' := by exact ⟨rfl, rfl, rfl⟩) : Step σ H w σ' H' w' where
  quiet := s.quiet.trans q
  ext := s.ext
  new := s.new
  next := s.next
  rel := s.rel.of_heap e
  size := by rw [e]; exact s.size
  keep c hc hk := by rw [e]; exact s.keep c hc hk
  old := s.old
  keepA := s.keepA

/-- The map with one block more. -/
def Map.put (σ : Map) (b : Nat) (l : Loc) : Map := fun x => if x = b then some l else σ x

theorem Map.put_same (σ : Map) (b : Nat) (l : Loc) : (σ.put b l) b = some l := by simp [Map.put]
theorem Map.put_ext {σ : Map} {b : Nat} {l : Loc} (h : σ b = none) : ∀ x m, σ x = some m → (σ.put b l) x = some m := by
  intro x m hx
  unfold Map.put
  by_cases e : x = b
  · subst e; rw [h] at hx; cases hx
  · rw [if_neg e]; exact hx

theorem R.none_next {σ : Map} {H : Heap} {w : World} (h : R σ H w) : σ H.next = none := by
  cases e : σ H.next with
  | none => rfl
  | some l => exact absurd (h.dom _ _ e) (Nat.lt_irrefl _)

theorem BlkRel.mono {σ τ : Map} {w w' : World} {l : Loc} {x : Blk} (h : ∀ b l, σ b = some l → τ b = some l) (hw : w'.heap[l.c]? = w.heap[l.c]?)
    (hr : BlkRel σ w l x) : BlkRel τ w' l x := by
  cases x with
  | row cs sz ro =>
    obtain ⟨C, e, fz, hg, h1, h2, h3, h4, h5, h6⟩ := hr
    exact ⟨C, e, fz, hw.trans hg, h1, h2, h3, h4.mono h, h5, h6⟩
  | mp es =>
    obtain ⟨ms, k, hg, h1, h2, h3⟩ := hr
    exact ⟨ms, k, hw.trans hg, h1, h2.mono h, h3⟩

/-- A new block of cells (perhaps with room behind). -/
theorem step_allocF {σ : Map} {H : Heap} {w : World} (h : R σ H w) (cs cs' : List Value) (sz : Nat) (C : Array Value) (e : TypeId) (fz : Nat × Nat) (hl : LRel σ cs cs')
    (hC : C.toList.take cs.length = cs') (hfz : ∀ i, i < C.size → ¬ (fz.1 ≤ i ∧ i < fz.2)) (h1 : cs.all Abs.oneCell = true) :
    Step σ H w (σ.put H.next ⟨w.heap.size, 0, C.size, sz⟩) (H.add (.row cs sz false)) (w.alloc (.cells C e fz)) := by
  have hn := h.none_next
  have hx := Map.put_ext (l := ⟨w.heap.size, 0, C.size, sz⟩) hn
  have hlen : cs.length ≤ C.size := by
    have := hl.1; rw [← hC] at this; simp at this; omega
  refine Step.mk0 h ⟨hx, ?_, by simp, ⟨?_, ?_, ?_, ?_, ?_, ?_⟩, by simp, ?_, ?_, ?_, ⟨rfl, rfl, rfl⟩⟩
  · intro b l hb hn'
    unfold Map.put at hb
    by_cases e1 : b = H.next
    · rw [if_pos e1] at hb; cases hb; exact ⟨by omega, .inl (Nat.le_refl _)⟩
    · rw [if_neg e1, hn'] at hb; cases hb
  · intro b hb
    rw [Heap.get_add, if_neg (by simp at hb; omega)]
    exact h.fresh b (by simp at hb; omega)
  · intro b x hx
    rw [Heap.get_add] at hx
    by_cases e1 : b = H.next
    · rw [if_pos e1] at hx; cases hx
      exact fun v hv => (hl.ids h.dom v hv).mono (by simp)
    · rw [if_neg e1] at hx; exact (h.ids b x hx).mono (by simp)
  · intro b l hb
    unfold Map.put at hb
    by_cases e1 : b = H.next
    · simp; omega
    · rw [if_neg e1] at hb; have := h.dom b l hb; simp; omega
  · intro b l x hb hg
    rw [Heap.get_add] at hg
    unfold Map.put at hb
    by_cases e1 : b = H.next
    · rw [if_pos e1] at hb hg
      cases hb; cases hg
      refine ⟨C, e, fz, ?_, rfl, rfl, by simpa using hlen, ?_, fun _ => hfz, h1, fun _ => rfl⟩
      · show (w.alloc (.cells C e fz)).heap[w.heap.size]? = _
        rw [get_alloc, if_pos rfl]
      · have : ((C.toList.drop 0).take cs.length) = cs' := by simpa using hC
        show LRel _ cs ((C.toList.drop 0).take cs.length)
        rw [this]; exact hl.mono hx
    · rw [if_neg e1] at hb hg
      refine (h.live b l x hb hg).mono hx ?_
      rw [get_alloc, if_neg (by have := h.inb b l hb; omega)]
  · intro b b' l l' x x' hb hb' hg hg' hc
    rw [Heap.get_add] at hg hg'
    unfold Map.put at hb hb'
    by_cases e1 : b = H.next <;> by_cases e2 : b' = H.next
    · exact .inl (e1.trans e2.symm)
    · rw [if_pos e1] at hb hg; rw [if_neg e2] at hb' hg'
      cases hb
      have := h.inb b' l' hb'
      simp at hc; omega
    · rw [if_neg e1] at hb hg; rw [if_pos e2] at hb' hg'
      cases hb'
      have := h.inb b l hb
      simp at hc; omega
    · rw [if_neg e1] at hb hg; rw [if_neg e2] at hb' hg'
      exact h.inj b b' l l' x x' hb hb' hg hg' hc
  · intro b l hb
    unfold Map.put at hb
    by_cases e1 : b = H.next
    · rw [if_pos e1] at hb; cases hb; simp
    · rw [if_neg e1] at hb; have := h.inb b l hb; simp; omega
  · intro c hc _
    rw [get_alloc, if_neg (by omega)]
  · intro b x hb hg
    rw [Heap.get_add, if_neg (by omega)] at hg
    exact ⟨x, hg, rfl⟩
  · intro b hb _
    rw [Heap.get_add, if_neg (by omega)]

theorem step_alloc {σ : Map} {H : Heap} {w : World} (h : R σ H w) (cs cs' : List Value) (sz : Nat) (C : Array Value) (e : TypeId) (hl : LRel σ cs cs')
    (hC : C.toList.take cs.length = cs') (h1 : cs.all Abs.oneCell = true) :
    Step σ H w (σ.put H.next ⟨w.heap.size, 0, C.size, sz⟩) (H.add (.row cs sz false)) (w.alloc (.cells C e)) :=
  step_allocF h cs cs' sz C e (0, 0) hl hC (fun i _ => by omega) h1

/-- A new map. -/
theorem step_newmap {σ : Map} {H : Heap} {w : World} (h : R σ H w) :
    Step σ H w (σ.put H.next ⟨w.heap.size, 0, 0, 0⟩) (H.add (.mp [])) (w.alloc (.map #[] 0)) := by
  have hn := h.none_next
  have hx := Map.put_ext (l := ⟨w.heap.size, 0, 0, 0⟩) hn
  refine Step.mk0 h ⟨hx, ?_, by simp, ⟨?_, ?_, ?_, ?_, ?_, ?_⟩, by simp, ?_, ?_, ?_, ⟨rfl, rfl, rfl⟩⟩
  · intro b l hb hn'
    unfold Map.put at hb
    by_cases e1 : b = H.next
    · rw [if_pos e1] at hb; cases hb; exact ⟨by omega, .inl (Nat.le_refl _)⟩
    · rw [if_neg e1, hn'] at hb; cases hb
  · intro b hb
    rw [Heap.get_add, if_neg (by simp at hb; omega)]
    exact h.fresh b (by simp at hb; omega)
  · intro b x hx
    rw [Heap.get_add] at hx
    by_cases e1 : b = H.next
    · rw [if_pos e1] at hx; cases hx
      intro v hv; simp at hv
    · rw [if_neg e1] at hx; exact (h.ids b x hx).mono (by simp)
  · intro b l hb
    unfold Map.put at hb
    by_cases e1 : b = H.next
    · simp; omega
    · rw [if_neg e1] at hb; have := h.dom b l hb; simp; omega
  · intro b l x hb hg
    rw [Heap.get_add] at hg
    unfold Map.put at hb
    by_cases e1 : b = H.next
    · rw [if_pos e1] at hb hg
      cases hb; cases hg
      refine ⟨#[], 0, ?_, rfl, LRel.nil _, by simp, by simp [Born]⟩
      show (w.alloc (.map #[] 0)).heap[w.heap.size]? = _
      rw [get_alloc, if_pos rfl]
    · rw [if_neg e1] at hb hg
      refine (h.live b l x hb hg).mono hx ?_
      rw [get_alloc, if_neg (by have := h.inb b l hb; omega)]
  · intro b b' l l' x x' hb hb' hg hg' hc
    rw [Heap.get_add] at hg hg'
    unfold Map.put at hb hb'
    by_cases e1 : b = H.next <;> by_cases e2 : b' = H.next
    · exact .inl (e1.trans e2.symm)
    · rw [if_pos e1] at hb hg; rw [if_neg e2] at hb' hg'
      cases hb
      have := h.inb b' l' hb'
      simp at hc; omega
    · rw [if_neg e1] at hb hg; rw [if_pos e2] at hb' hg'
      cases hb'
      have := h.inb b l hb
      simp at hc; omega
    · rw [if_neg e1] at hb hg; rw [if_neg e2] at hb' hg'
      exact h.inj b b' l l' x x' hb hb' hg hg' hc
  · intro b l hb
    unfold Map.put at hb
    by_cases e1 : b = H.next
    · rw [if_pos e1] at hb; cases hb; simp
    · rw [if_neg e1] at hb; have := h.inb b l hb; simp; omega
  · intro c hc _
    rw [get_alloc, if_neg (by omega)]
  · intro b x hb hg
    rw [Heap.get_add, if_neg (by omega)] at hg
    exact ⟨x, hg, rfl⟩
  · intro b hb _
    rw [Heap.get_add, if_neg (by omega)]

/-- A block that may be written is changed. -/
theorem step_put {σ : Map} {H : Heap} {w : World} (h : R σ H w) {b : Nat} {l : Loc} {x y : Blk} (o : Obj) (hb : σ b = some l) (hx : H.get b = some x) (hro : x.ro = false) (hro' : y.ro = false)
    (hy : BlkRel σ (putObj w l.c o) l y) : Step σ H w σ (H.set b y) (putObj w l.c o) := by
  have hin := h.inb b l hb
  have hd := h.dom b l hb
  refine Step.mk0 h ⟨fun _ _ h => h, ?_, by simp, ⟨?_, ?_, ?_, ?_, ?_, ?_⟩, by simp, ?_, ?_, ?_, ⟨rfl, rfl, rfl⟩⟩
  · intro b' l' h1 h2; rw [h1] at h2; cases h2
  · intro b' hb'
    rw [Heap.get_set, if_neg (by simp at hb'; omega)]
    exact h.fresh b' hb'
  · intro b' z hz
    rw [Heap.get_set] at hz
    by_cases e1 : b' = b
    · rw [if_pos e1] at hz; cases hz; exact hy.ids h.dom
    · rw [if_neg e1] at hz; exact h.ids b' z hz
  · exact h.dom
  · intro b' l' z hb' hg
    rw [Heap.get_set] at hg
    by_cases e : b' = b
    · subst e
      rw [if_pos rfl] at hg; cases hg
      rw [hb] at hb'; cases hb'; exact hy
    · rw [if_neg e] at hg
      refine (h.live b' l' z hb' hg).mono (fun _ _ h => h) ?_
      rw [get_putObj _ _ _ _ hin, if_neg]
      intro hc
      rcases h.inj b' b l' l z x hb' hb hg hx hc with h1 | ⟨_, h2⟩
      · exact e h1
      · rw [hro] at h2; cases h2
  · intro b1 b2 l1 l2 x1 x2 h1 h2 g1 g2 hc
    rw [Heap.get_set] at g1 g2
    by_cases e1 : b1 = b <;> by_cases e2 : b2 = b
    · exact .inl (e1.trans e2.symm)
    · subst e1
      rw [if_neg e2] at g2
      rcases h.inj b1 b2 l1 l2 x x2 h1 h2 hx g2 hc with h3 | ⟨h3, _⟩
      · exact .inl h3
      · rw [hro] at h3; cases h3
    · subst e2
      rw [if_neg e1] at g1
      rcases h.inj b1 b2 l1 l2 x1 x h1 h2 g1 hx hc with h3 | ⟨_, h3⟩
      · exact .inl h3
      · rw [hro] at h3; cases h3
    · rw [if_neg e1] at g1; rw [if_neg e2] at g2
      exact h.inj b1 b2 l1 l2 x1 x2 h1 h2 g1 g2 hc
  · intro b' l' hb'; simp; exact h.inb b' l' hb'
  · intro c hc hk
    rw [get_putObj _ _ _ _ hin, if_neg]
    intro e
    have := hk b l x hb hx e.symm
    rw [hro] at this; cases this
  · intro b' z hb' hg
    rw [Heap.get_set] at hg
    by_cases e : b' = b
    · rw [if_pos e] at hg; cases hg; exact ⟨x, e ▸ hx, hro.trans hro'.symm⟩
    · rw [if_neg e] at hg; exact ⟨z, hg, rfl⟩
  · intro b' _ hn
    rw [Heap.get_set, if_neg]
    intro e; subst e; rw [hb] at hn; cases hn

/-- A block goes, a new one lies in the same place. -/
theorem step_renew {σ : Map} {H : Heap} {w : World} (h : R σ H w) {b : Nat} {l l' : Loc} {x y : Blk} (o : Obj) (hb : σ b = some l) (hx : H.get b = some x) (hro : x.ro = false) (hro' : y.ro = false)
    (hl : l'.c = l.c) (hy : BlkRel (σ.put H.next l') (putObj w l.c o) l' y) : Step σ H w (σ.put H.next l') ((H.drop b).add y) (putObj w l.c o) := by
  have hin := h.inb b l hb
  have hd := h.dom b l hb
  have hn := h.none_next
  have hex := Map.put_ext (l := l') hn
  refine Step.mk0 h ⟨hex, ?_, by simp, ⟨?_, ?_, ?_, ?_, ?_, ?_⟩, by simp, ?_, ?_, ?_, ⟨rfl, rfl, rfl⟩⟩
  · intro b1 l1 h1 h2
    unfold Map.put at h1
    by_cases e : b1 = H.next
    · rw [if_pos e] at h1; cases h1
      exact ⟨by omega, .inr ⟨b, l, x, hb, hx, hro, hl.symm⟩⟩
    · rw [if_neg e, h2] at h1; cases h1
  · intro b1 h1
    rw [Heap.get_add, Heap.next_drop, if_neg (by simp at h1; omega), Heap.get_drop]
    split
    · rfl
    · exact h.fresh b1 (by simp at h1; omega)
  · intro b1 z hz
    rw [Heap.get_add, Heap.next_drop, Heap.get_drop] at hz
    by_cases e1 : b1 = H.next
    · rw [if_pos e1] at hz; cases hz
      refine hy.ids (k := H.next + 1) ?_
      intro b2 l2 h2
      unfold Map.put at h2
      by_cases e2 : b2 = H.next
      · omega
      · rw [if_neg e2] at h2; have := h.dom b2 l2 h2; omega
    · rw [if_neg e1] at hz
      split at hz
      · cases hz
      · exact (h.ids b1 z hz).mono (by simp)
  · intro b1 l1 h1
    unfold Map.put at h1
    by_cases e : b1 = H.next
    · simp; omega
    · rw [if_neg e] at h1; have := h.dom b1 l1 h1; simp; omega
  · intro b1 l1 z h1 hg
    rw [Heap.get_add, Heap.next_drop, Heap.get_drop] at hg
    unfold Map.put at h1
    by_cases e : b1 = H.next
    · rw [if_pos e] at h1 hg; cases h1; cases hg; exact hy
    · rw [if_neg e] at h1 hg
      by_cases e1 : b1 = b
      · rw [if_pos e1] at hg; cases hg
      · rw [if_neg e1] at hg
        refine (h.live b1 l1 z h1 hg).mono hex ?_
        rw [get_putObj _ _ _ _ hin, if_neg]
        intro hc
        rcases h.inj b1 b l1 l z x h1 hb hg hx hc with h3 | ⟨_, h3⟩
        · exact e1 h3
        · rw [hro] at h3; cases h3
  · have key : ∀ b1 l1 z, b1 ≠ H.next → (σ.put H.next l') b1 = some l1 → ((H.drop b).add y).get b1 = some z → l1.c ≠ l.c := by
      intro b1 l1 z e h1 hg hc
      rw [Heap.get_add, Heap.next_drop, if_neg e, Heap.get_drop] at hg
      unfold Map.put at h1
      rw [if_neg e] at h1
      by_cases e1 : b1 = b
      · rw [if_pos e1] at hg; cases hg
      · rw [if_neg e1] at hg
        rcases h.inj b1 b l1 l z x h1 hb hg hx hc with h3 | ⟨_, h3⟩
        · exact e1 h3
        · rw [hro] at h3; cases h3
    intro b1 b2 l1 l2 x1 x2 h1 h2 g1 g2 hc
    by_cases e1 : b1 = H.next <;> by_cases e2 : b2 = H.next
    · exact .inl (e1.trans e2.symm)
    · have : l1 = l' := by unfold Map.put at h1; rw [if_pos e1] at h1; cases h1; rfl
      subst this
      exact absurd (hc.symm.trans hl) (key b2 l2 x2 e2 h2 g2)
    · have : l2 = l' := by unfold Map.put at h2; rw [if_pos e2] at h2; cases h2; rfl
      subst this
      exact absurd (hc.trans hl) (key b1 l1 x1 e1 h1 g1)
    · rw [Heap.get_add, Heap.next_drop, if_neg e1, Heap.get_drop] at g1
      rw [Heap.get_add, Heap.next_drop, if_neg e2, Heap.get_drop] at g2
      unfold Map.put at h1 h2
      rw [if_neg e1] at h1; rw [if_neg e2] at h2
      split at g1
      · cases g1
      · split at g2
        · cases g2
        · exact h.inj b1 b2 l1 l2 x1 x2 h1 h2 g1 g2 hc
  · intro b1 l1 h1
    unfold Map.put at h1
    by_cases e : b1 = H.next
    · rw [if_pos e] at h1; cases h1; simp; rw [hl]; exact hin
    · rw [if_neg e] at h1; simp; exact h.inb b1 l1 h1
  · intro c hc hk
    rw [get_putObj _ _ _ _ hin, if_neg]
    intro e
    have := hk b l x hb hx e.symm
    rw [hro] at this; cases this
  · intro b1 z h1 hg
    rw [Heap.get_add, Heap.next_drop, if_neg (by omega), Heap.get_drop] at hg
    split at hg
    · cases hg
    · exact ⟨z, hg, rfl⟩
  · intro b1 h1 h2
    rw [Heap.get_add, Heap.next_drop, if_neg (by omega), Heap.get_drop, if_neg]
    intro e; subst e; rw [hb] at h2; cases h2

/-- A block goes. -/
theorem R.drop {σ : Map} {H : Heap} {w : World} (h : R σ H w) (b : Nat) : R σ (H.drop b) w where
  fresh b' hb' := by rw [Heap.get_drop]; split; rfl; exact h.fresh b' hb'
  ids b' x hx := by
    rw [Heap.get_drop] at hx
    split at hx
    · cases hx
    · exact h.ids b' x hx
  dom := h.dom
  live b' l x hb hx := by
    rw [Heap.get_drop] at hx
    split at hx
    · cases hx
    · exact h.live b' l x hb hx
  inj b1 b2 l1 l2 x1 x2 h1 h2 g1 g2 := by
    rw [Heap.get_drop] at g1 g2
    split at g1
    · cases g1
    · split at g2
      · cases g2
      · exact h.inj b1 b2 l1 l2 x1 x2 h1 h2 g1 g2
  inb := h.inb
  fix c hc := by
    obtain ⟨h1, h2, h3⟩ := h.fix c hc
    refine ⟨h1, h2, fun b' l x hb hx hl => ?_⟩
    rw [Heap.get_drop] at hx
    split at hx
    · cases hx
    · exact h3 b' l x hb hx hl

theorem step_drop {σ : Map} {H : Heap} {w : World} (h : R σ H w) {b : Nat} {l : Loc} (hb : σ b = some l) : Step σ H w σ (H.drop b) w where
  ext _ _ h := h
  new b l h h' := by rw [h] at h'; simp at h'
  next := Nat.le_refl _
  rel := h.drop b
  size := Nat.le_refl _
  keep _ _ _ := rfl
  old b' x _ hx := by
    rw [Heap.get_drop] at hx
    split at hx
    · cases hx
    · exact ⟨x, hx, rfl⟩
  keepA b' _ hn := by
    rw [Heap.get_drop, if_neg]
    intro e; subst e; rw [hb] at hn; cases hn
  quiet := ⟨rfl, rfl, rfl⟩

end Go.Abs
