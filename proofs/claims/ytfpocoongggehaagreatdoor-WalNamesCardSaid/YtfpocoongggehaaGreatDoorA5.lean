/- What the model's own memory programs do to a world. Of no program. -/
import Derived.Test.YtfpocoongggehaaGreatDoorA4
import Derived.Laws.Cells
import Derived.Laws.Entries
import Derived.Laws.Append
set_option linter.all false
namespace Go.Abs
open Go
variable [Fixed]

variable {P : Program}

theorem addr_add (b o n : Nat) : (⟨b, o, none⟩ : Addr).add n = ⟨b, o + n, none⟩ := Addr.add_lit b o n

theorem run_info {t : TypeId} {i : TypeInfo} (h : P.info? t = some i) (w : World) : (typeInfo t).run P w = .ok i w := by
  simp [typeInfo, h]

theorem run_size {t : TypeId} {n : Nat} (h : tySize P t = some n) (w : World) : (sizeOf t).run P w = .ok n w := by
  unfold tySize at h
  split at h
  · rename_i i hi; cases h; simp [sizeOf, run_info hi]
  · cases h

theorem run_agg {t : TypeId} {b : Bool} (h : tyAgg P t = some b) (w : World) : (isAgg t).run P w = .ok b w := by
  unfold tyAgg at h
  split at h
  · rename_i hd; cases h; simp [isAgg, run_underlying hd]
  · rename_i hd; cases h; simp [isAgg, run_underlying hd]
  · rename_i d h1 h2 hd
    cases h
    simp only [isAgg, Sem.run_bind, run_underlying hd, Result.andThen_ok]
    cases d <;> first | rfl | (rename_i fs; exact absurd rfl (h1 fs)) | (rename_i n e; exact absurd rfl (h2 n e))
  · cases h

theorem run_zero {t : TypeId} {i : TypeInfo} {z : Value} (h : P.info? t = some i) (hz : i.zero = some z) (w : World) : (zeroValue t).run P w = .ok z w := by
  simp [zeroValue, run_info h, hz]

theorem pureRun_run {α : Type} {s : Sem α} {a : α} (h : pureRun P s = some a) (w : World) : s.run P w = .ok a w := by
  induction s with
  | pure b => simp only [pureRun] at h; cases h; rfl
  | program k ih => simp only [pureRun] at h; exact ih P h
  | _ => simp [pureRun] at h

theorem cell_row {w : World} {c : Nat} {C : Array Value} {e : TypeId} {fz : Nat × Nat} (hg : w.heap[c]? = some (.cells C e fz)) (k : Nat) :
    w.cell? ⟨c, k, none⟩ = C[k]? := by simp [World.cell?, hg]

theorem run_loadCells_row {w : World} {c o n : Nat} {C : Array Value} {e : TypeId} {fz : Nat × Nat} (hg : w.heap[c]? = some (.cells C e fz)) (hn : o + n ≤ C.size) :
    (loadCells ⟨c, o, none⟩ n).run P w = .ok ((C.toList.drop o).take n).toArray w := by
  have hl : ((C.toList.drop o).take n).length = n := by simp; omega
  have := run_loadCells_list (P := P) w ⟨c, o, none⟩ ((C.toList.drop o).take n) (fun j v hv => by
    rw [addr_add, cell_row hg]
    rw [List.getElem?_take] at hv
    split at hv
    · rw [List.getElem?_drop] at hv; simpa using hv
    · cases hv)
  rwa [hl] at this

theorem setCell_row {w : World} {c k : Nat} {C : Array Value} {e : TypeId} {fz : Nat × Nat} (hg : w.heap[c]? = some (.cells C e fz)) (v : Value) :
    w.setCell ⟨c, k, none⟩ v = putObj w c (.cells (C.setIfInBounds k v) e fz) := by
  unfold World.setCell putObj
  congr 1
  apply Array.ext_getElem?
  intro i
  simp only [Array.getElem?_modify, Array.getElem?_setIfInBounds]
  by_cases h : c = i
  · subst h
    have hc : c < w.heap.size := by
      rcases Nat.lt_or_ge c w.heap.size with h | h
      · exact h
      · rw [Array.getElem?_eq_none h] at hg; cases hg
    have hg' : w.heap[c] = Obj.cells C e fz := by rw [Array.getElem?_eq_getElem hc] at hg; exact Option.some.inj hg
    simp [hc, hg']
  · simp [h]

theorem putObj_putObj (w : World) (c : Nat) (x y : Obj) : putObj (putObj w c x) c y = putObj w c y := by
  unfold putObj; simp

theorem putObj_same {w : World} {c : Nat} {x : Obj} (h : w.heap[c]? = some x) : putObj w c x = w := by
  unfold putObj
  have : w.heap.setIfInBounds c x = w.heap := by
    apply Array.ext_getElem?
    intro i
    rw [Array.getElem?_setIfInBounds]
    by_cases e : c = i
    · subst e
      have hc : c < w.heap.size := by
        rcases Nat.lt_or_ge c w.heap.size with h' | h'
        · exact h'
        · rw [Array.getElem?_eq_none h'] at h; cases h
      have hg' : w.heap[c] = x := by rw [Array.getElem?_eq_getElem hc] at h; exact Option.some.inj h
      simp [hc, hg']
    · simp [e]
  rw [this]

theorem setCells_length (cs : List Value) (o : Nat) (vs : List Value) (h : o + vs.length ≤ cs.length) : (setCells cs o vs).length = cs.length := by
  simp [setCells]; omega

theorem setCells_cons (cs : List Value) (o : Nat) (v : Value) (vs : List Value) (h : o + (vs.length + 1) ≤ cs.length) :
    setCells (cs.set o v) (o + 1) vs = setCells cs o (v :: vs) := by
  unfold setCells
  have e1 : (cs.set o v).take (o + 1) = cs.take o ++ [v] := by
    rw [List.set_eq_take_append_cons_drop, if_pos (by omega), List.take_append]
    have : (cs.take o).length = o := by simp; omega
    rw [this, List.take_of_length_le (by omega), show o + 1 - o = 1 from by omega]; rfl
  have e2 : (cs.set o v).drop (o + 1 + vs.length) = cs.drop (o + (v :: vs).length) := by
    rw [List.drop_set_of_lt (by omega)]; congr 1; simp; omega
  rw [e1, e2]; simp

theorem run_storeCells_row {e : TypeId} {fz : Nat × Nat} (c o : Nat) : ∀ (vs : List Value) (i : Nat) (C : Array Value) (w : World), w.heap[c]? = some (.cells C e fz) →
    o + i + vs.length ≤ C.size → (∀ k, k < C.size → ¬ (fz.1 ≤ k ∧ k < fz.2)) → (∀ v ∈ vs, v.oneCell' = true) →
    (storeCells ⟨c, o, none⟩ vs i).run P w = .ok () (putObj w c (.cells (setCells C.toList (o + i) vs).toArray e fz)) := by
  intro vs
  induction vs with
  | nil =>
    intro i C w hg _ _ _
    simp only [storeCells, Sem.run_pure]
    rw [putObj_same]
    rw [hg]; simp [setCells]
  | cons v vs ih =>
    intro i C w hg hn hf h1
    simp only [List.length_cons] at hn
    have hcell : w.cell? ⟨c, o + i, none⟩ = some (C[o + i]'(by omega)) := by rw [cell_row hg]; exact Array.getElem?_eq_getElem _
    have hfz : w.frozen? ⟨c, o + i, none⟩ = false := by
      have := hf (o + i) (by omega)
      simp only [World.frozen?, hg]
      cases hh : (decide (fz.1 ≤ o + i) && decide (o + i < fz.2)) with
      | false => rfl
      | true => simp at hh; exact absurd hh this
    have hst : (store ((⟨c, o, none⟩ : Addr).add i) v).run P w = .ok () (putObj w c (.cells (C.setIfInBounds (o + i) v) e fz)) := by
      rw [addr_add, run_store P w _ v _ (h1 v (by simp)), hcell]
      simp only [hfz, Bool.false_eq_true, if_false]
      rw [setCell_row hg]
    simp only [storeCells, Sem.run_bind, hst, Result.andThen_ok]
    have hc : c < w.heap.size := by
      rcases Nat.lt_or_ge c w.heap.size with h | h
      · exact h
      · rw [Array.getElem?_eq_none h] at hg; cases hg
    rw [ih (i + 1) (C.setIfInBounds (o + i) v) _ (by rw [get_putObj _ _ _ _ hc, if_pos rfl]) (by simp; omega) (by simpa using hf) (fun u hu => h1 u (by simp [hu]))]
    rw [putObj_putObj]
    congr 4
    rw [← Nat.add_assoc]
    have := setCells_cons C.toList (o + i) v vs (by simp; omega)
    rw [← this]; simp

theorem setCells_take (cs : List Value) (o : Nat) (vs : List Value) : (setCells cs o vs) = cs.take o ++ vs ++ cs.drop (o + vs.length) := rfl

theorem setCells_get? (cs : List Value) (o : Nat) (vs : List Value) (i : Nat) (h : o + vs.length ≤ cs.length) :
    (setCells cs o vs)[i]? = if i < o then cs[i]? else if i < o + vs.length then vs[i - o]? else cs[i]? := by
  have e : (cs.take o).length = o := by simp; omega
  unfold setCells
  rw [List.append_assoc, List.getElem?_append, e]
  by_cases h1 : i < o
  · rw [if_pos h1, if_pos h1, List.getElem?_take, if_pos h1]
  · rw [if_neg h1, if_neg h1, List.getElem?_append]
    by_cases h2 : i < o + vs.length
    · rw [if_pos (by omega), if_pos h2]
    · rw [if_neg (by omega), if_neg h2, List.getElem?_drop]; congr 1; omega

/-- A write inside the part that is known, seen from the whole block. -/
theorem known_set (C : List Value) (δ n o : Nat) (vs : List Value) (h : o + vs.length ≤ n) (hn : δ + n ≤ C.length) :
    ((setCells C (δ + o) vs).drop δ).take n = setCells ((C.drop δ).take n) o vs := by
  apply List.ext_getElem?
  intro i
  rw [setCells_get? _ _ _ _ (by simp; omega), List.getElem?_take, List.getElem?_drop, setCells_get? _ _ _ _ (by omega), List.getElem?_take, List.getElem?_drop]
  by_cases hi : i < n
  · simp only [if_pos hi]
    by_cases h1 : i < o
    · rw [if_pos h1, if_pos (by omega)]
    · rw [if_neg h1, if_neg (by omega)]
      by_cases h2 : i < o + vs.length
      · rw [if_pos h2, if_pos (by omega)]; congr 1; omega
      · rw [if_neg h2, if_neg (by omega)]
  · simp only [if_neg hi]
    rw [if_neg (by omega), if_neg (by omega)]

theorem LRel.setCells {σ : Map} {a a' vs vs' : List Value} (h : LRel σ a a') (g : LRel σ vs vs') (o : Nat) : LRel σ (setCells a o vs) (setCells a' o vs') := by
  unfold Abs.setCells
  rw [show vs'.length = vs.length from g.1.symm]
  exact ((h.take o).append g).append (h.drop _)

theorem all_setCells {f : Value → Bool} {a vs : List Value} (h : a.all f = true) (g : vs.all f = true) (o : Nat) : (Abs.setCells a o vs).all f = true := by
  unfold Abs.setCells
  rw [List.all_eq_true] at *
  intro x hx
  rcases List.mem_append.1 hx with hx | hx
  · rcases List.mem_append.1 hx with hx | hx
    · exact h x (List.mem_of_mem_take hx)
    · exact g x hx
  · exact h x (List.mem_of_mem_drop hx)

/-! ### The abstract operations on memory, beside the model's -/

/-- Cells that are read. -/
theorem cellsAt_rel {σ : Map} {H : Heap} {w : World} (h : R σ H w) {b o n : Nat} {l : Loc} {vs : List Value} (hb : σ b = some l) (hv : cellsAt H b o n = some vs) :
    ∃ vs', (loadCells ⟨l.c, l.δ + o, none⟩ n).run P w = .ok vs'.toArray w ∧ LRel σ vs vs' ∧ vs.length = n := by
  unfold cellsAt at hv
  split at hv
  · rename_i cs sz ro hg
    cases hle : Nat.ble (o + n) cs.length with
    | false => rw [hle] at hv; cases hv
    | true =>
      rw [hle] at hv
      have hle' := Nat.le_of_ble_eq_true hle
      simp only [cond_true, Option.some.injEq] at hv
      subst hv
      obtain ⟨C, e, fz, hC, h1, h2, h3, h4, _, _⟩ := h.live b l _ hb hg
      refine ⟨(C.toList.drop (l.δ + o)).take n, run_loadCells_row hC (by omega), ?_, by simp; omega⟩
      have := (h4.drop o).take n
      rw [List.drop_take, List.drop_drop, List.take_take, Nat.min_eq_left (by omega)] at this
      exact this
  · cases hv

/-- A cell that is read. -/
theorem cell_rel {σ : Map} {H : Heap} {w : World} (h : R σ H w) {b o : Nat} {l : Loc} {cs : List Value} {sz : Nat} {ro : Bool} {v : Value} (hb : σ b = some l)
    (hg : H.get b = some (.row cs sz ro)) (hv : cs[o]? = some v) : ∃ v', w.cell? ⟨l.c, l.δ + o, none⟩ = some v' ∧ VRel σ v v' := by
  obtain ⟨C, e, fz, hC, h1, h2, h3, h4, _, _⟩ := h.live b l _ hb hg
  obtain ⟨v', hv', hr⟩ := h4.get? hv
  refine ⟨v', ?_, hr⟩
  rw [cell_row hC]
  rw [List.getElem?_take] at hv'
  split at hv'
  · rw [List.getElem?_drop] at hv'; simpa using hv'
  · cases hv'

/-- Cells that are written. -/
theorem storeAt_rel {σ : Map} {H H' : Heap} {w : World} (h : R σ H w) {b o : Nat} {l : Loc} {vs vs' : List Value} (hb : σ b = some l) (hv : storeAt H b o vs = some H')
    (hr : LRel σ vs vs') (h1 : vs.all oneCell = true) :
    ∃ w', (storeCells ⟨l.c, l.δ + o, none⟩ vs').run P w = .ok () w' ∧ Step σ H w σ H' w' := by
  unfold storeAt at hv
  split at hv
  · rename_i cs sz hg
    cases hle : Nat.ble (o + vs.length) cs.length with
    | false => rw [hle] at hv; cases hv
    | true =>
      rw [hle] at hv
      have hle' := Nat.le_of_ble_eq_true hle
      simp only [cond_true, Option.some.injEq] at hv
      subst hv
      obtain ⟨C, e, fz, hC, g1, g2, g3, g4, g5, g6⟩ := h.live b l _ hb hg
      have hlen := hr.1
      refine ⟨_, run_storeCells_row l.c (l.δ + o) vs' 0 C w hC (by omega) (g5 rfl) ?_, ?_⟩
      · intro v hv
        obtain ⟨i, hi, rfl⟩ := List.getElem_of_mem hv
        have := List.all_eq_true.1 h1 _ (List.getElem_mem (show i < vs.length by omega))
        rw [← (hr.2 i (by omega) hi).oneCell]; exact this
      · have hs : (setCells C.toList (l.δ + o) vs').length = C.size := by rw [setCells_length]; rfl; simp; omega
        refine step_put h _ hb hg rfl rfl ⟨(setCells C.toList (l.δ + o) vs').toArray, e, fz, ?_, by simp [hs, g1], g2, ?_, ?_, ?_, all_setCells g6.1 h1 o, g6.2⟩
        · rw [get_putObj _ _ _ _ (h.inb b l hb), if_pos rfl, Nat.add_zero]
        · rw [setCells_length _ _ _ hle', List.size_toArray, hs]; exact g3
        · rw [setCells_length _ _ _ hle']
          simp only []
          rw [known_set _ _ _ _ _ (by omega) (by simpa using g3)]
          exact g4.setCells hr o
        · intro _ i hi; exact g5 rfl i (by simpa [hs] using hi)
  · cases hv

end Go.Abs
