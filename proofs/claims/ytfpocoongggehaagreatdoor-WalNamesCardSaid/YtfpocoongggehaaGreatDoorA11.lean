/- Lengths; append, copy, clear; bytes and strings; rows that are made. Of no program. -/
import Derived.Test.YtfpocoongggehaaGreatDoorA10
set_option linter.all false
namespace Go.Abs
open Go
variable [Fixed]

variable {P : Program}
section
variable {σ : Map} {H : Heap} {w : World} {e : Env} {a : Act} {o : Oper} {v : Value} {H' : Heap}

theorem sound_len (hr : R σ H w) (he : EnvRel σ e a) {c : Call} {t : TypeId} {x : Operand} {m : Bool} (ho : o.op = .call c) (hc0 : c.callee = .builtin .len) (hargs : c.args.toList = [x])
    (htys : c.argTypes.toList = [t]) (ht : (m = false ∧ ∃ el, P.underlying t = some (.slice el)) ∨ (m = true ∧ ∃ k el, P.underlying t = some (.map k el))) (h : aop P e H (.len m x) = some (v, H')) :
    Val P (execOp a.eval o) σ H w v H' := by
  have ea : c.args = #[x] := by apply Array.ext'; exact hargs
  have et' : c.argTypes = #[t] := by apply Array.ext'; exact htys
  have fin : ∀ u, (Builtin.len_ #[t] o.type #[a.eval x]).run P w = .ok u w → (execOp a.eval o).run P w = .ok (.value u) w := by
    intro u hu
    rw [run_builtin ho hc0, ea, et']
    simp [builtin, hu]
  simp only [aop] at h
  split at h
  · rename_i n cap hx
    cases h
    have hv := aval_rel he hx
    rcases ht with ⟨_, el, ht⟩ | ⟨hm, _⟩
    · refine Val.quiet hr (fin _ ?_) (.int _ _)
      generalize hax : a.eval x = ax at hv
      cases hv <;> simp [Builtin.len_, run_underlying ht, goInt]
    · cases hm
  · rename_i hx
    cases h
    have hv := aval_rel he hx
    rcases ht with ⟨hm, _⟩ | ⟨_, k, el, ht⟩
    · cases hm
    · refine Val.quiet hr (fin _ ?_) (.int _ _)
      generalize hax : a.eval x = ax at hv
      cases hv; simp [Builtin.len_, run_underlying ht, goInt]
  · rename_i b hx
    have hv := aval_rel he hx
    split at h
    · rename_i es hg
      cases h
      rcases ht with ⟨hm, _⟩ | ⟨_, k, el, ht⟩
      · cases hm
      · generalize hax : a.eval x = ax at hv
        cases hv with
        | @map _ l hσ =>
          obtain ⟨ms, clock, g1, g2, g3, g4, g5⟩ := map_rel hr hσ hg
          have hget : (getObj l.c).run P w = .ok (.map ms clock) w := run_getObj g1 (by simp)
          have hlen : ms.size = es.length := by simpa using congrArg List.length g2
          refine Val.quiet hr (fin (.int .i64 es.length) ?_) (.int _ _)
          rw [hax]
          simp [Builtin.len_, run_underlying ht, goInt, hget, hlen]
    · cases h
  · cases h

theorem bytes_clo (l : List UInt8) : (l.map fun b => Value.int .u8 (b.toNat : Int)).all (clo 0) = true := by
  induction l with
  | nil => rfl
  | cons x l ih => simp only [List.map_cons, List.all_cons, ih, Bool.and_true]; rfl

theorem bytes_one (l : List UInt8) : (l.map fun b => Value.int .u8 (b.toNat : Int)).all oneCell = true := by
  induction l with
  | nil => rfl
  | cons x l ih => simp only [List.map_cons, List.all_cons, ih, Bool.and_true]; rfl

theorem sound_cvsb (hr : R σ H w) (he : EnvRel σ e a) {s d el : TypeId} {x : Operand} (ho : o.op = .convert s d x) (hs : P.underlying s = some .string) (hd : P.underlying d = some (.slice el))
    (hel : P.underlying el = some (.int .u8)) (h : aop P e H (.cvsb x) = some (v, H')) : Val P (execOp a.eval o) σ H w v H' := by
  simp only [aop] at h
  split at h
  · rename_i str hx
    cases h
    have hsx := (aval_rel he hx).string_eq
    obtain ⟨cap, hcap⟩ : ∃ cap, cap = (Question.appendCap str.size 0 el).cut (w.tape w.drawn (.appendCap str.size 0 el)) := ⟨_, rfl⟩
    have hge : str.size ≤ cap := by rw [hcap]; simp [Question.cut]
    obtain ⟨C, hC⟩ : ∃ C, C = (str.data.map fun b => Value.int .u8 (b.toNat : Int)) ++ Array.replicate (cap - str.size) (Value.int .u8 0) := ⟨_, rfl⟩
    have hCs : C.size = cap := by rw [hC]; simp; show str.size + (cap - str.size) = cap; omega
    have htk : C.toList.take str.data.toList.length = str.data.toList.map fun b => Value.int .u8 (b.toNat : Int) := by
      rw [hC]; simp
    have hst := step_allocF (σ := σ) (H := H) (w := w.drew) (hr.of_heap rfl) (str.data.toList.map fun b => Value.int .u8 (b.toNat : Int)) (str.data.toList.map fun b => Value.int .u8 (b.toNat : Int)) 1
      C el (cap, cap + 1) (LRel.of_clo (n := 0) σ (bytes_clo _)) (by rw [List.length_map]; exact htk) (fun i hi => by simp; omega) (bytes_one _)
    have hrun : (Conv.stringToBytes el str).run P w = .ok (.slice (some ⟨w.heap.size, 0, none⟩) str.size cap) (w.drew.alloc (.cells C el (cap, cap + 1))) := by
      have hfr : (w.drew.alloc (.cells C el)).freeze ⟨w.heap.size, cap, none⟩ 1 = w.drew.alloc (.cells C el (cap, cap + 1)) := by
        unfold World.freeze
        simp only [Nat.one_ne_zero, if_false]
        unfold World.alloc
        congr 1
        apply Array.ext_getElem?
        intro i
        simp only [Array.getElem?_modify, Array.getElem?_push]
        have hsz : w.drew.heap.size = w.heap.size := rfl
        by_cases hi : w.heap.size = i
        · subst hi; simp [hsz]
        · rw [if_neg hi, if_neg (by rw [hsz]; omega), if_neg (by rw [hsz]; omega)]
      have hsh : (w.drew.alloc (.cells C el)).shape? w.heap.size = some (el, cap) := by
        unfold World.shape?
        rw [get_alloc, if_pos (by rfl)]
        simp [hCs]
      unfold Conv.stringToBytes
      simp only [Sem.run_bind, run_choose, Question.forced, Bool.false_eq_true, if_false, Result.andThen_ok, World.drew_eq]
      rw [← hcap, ← hC]
      simp only [newRow, Sem.run_bind, run_newObj, Result.andThen_ok, Sem.run_pure, World.alloc_eq, markStringish, run_shape, World.size_drew, hsh, run_freeze, hfr]
    have hlen : (str.data.toList.map fun b => Value.int .u8 (b.toNat : Int)).length = str.size := by simp
    refine ⟨_, _, .slice (some ⟨w.heap.size, 0, none⟩) str.size cap, .inl ?_, ?_, hst.of_heap rfl⟩
    · unfold execOp
      simp [ho, convert, run_underlying hs, run_underlying hd, run_underlying hel, hsx, hrun]
    · have hp := Map.put_same σ H.next ⟨w.drew.heap.size, 0, C.size, 1⟩
      have := VRel.soft (σ := σ.put H.next ⟨w.drew.heap.size, 0, C.size, 1⟩) (o := 0) (len := str.size) (cap := cap) hp hge (by simp [hCs])
      simpa using this
  · cases h

theorem cvbs_val {vs vs' : List Value} (hl : LRel σ vs vs') (hall : vs.all isByte = true) : vs' = vs := by
  refine List.ext_getElem hl.1.symm fun i p q => ?_
  have h1 := List.all_eq_true.1 hall _ (List.getElem_mem q)
  have h2 := hl.2 i q p
  generalize vs[i] = x at *
  cases x <;> first | (cases h1; done) | exact h2.int_eq

theorem run_bytes (f : Value → ByteArray → Sem (ForInStep ByteArray)) (hf : ∀ n s, f (.int .u8 n) s = pure (ForInStep.yield (s.push (UInt8.ofNat n.toNat))))
    (vs : List Value) (w : World) : ∀ (acc : ByteArray), vs.all isByte = true → (forIn (m := Sem) vs acc f).run P w =
    .ok ⟨acc.data ++ (vs.map byteVal).toArray⟩ w := by
  induction vs with
  | nil => intro acc _; simp
  | cons x vs ih =>
    intro acc h
    simp only [List.all_cons, Bool.and_eq_true] at h
    have h1 := h.1
    unfold isByte at h1
    split at h1
    · rename_i n
      simp only [List.forIn_cons, hf, Sem.run_bind, Sem.run_pure, Result.andThen_ok]
      rw [ih _ h.2]
      congr 2
      simp [ByteArray.push, byteVal]
    · cases h1

theorem sound_cvbs (hr : R σ H w) (he : EnvRel σ e a) {s d el : TypeId} {x : Operand} (ho : o.op = .convert s d x) (hs : P.underlying s = some (.slice el)) (hd : P.underlying d = some .string)
    (hel : P.underlying el = some (.int .u8)) (h : aop P e H (.cvbs x) = some (v, H')) : Val P (execOp a.eval o) σ H w v H' := by
  have fin : ∀ ba n cap u, a.eval x = .slice ba n cap → (Conv.bytesToString (.slice ba n cap)).run P w = .ok (.string u) w → Val P (execOp a.eval o) σ H w (.string u) H := by
    intro ba n cap u hax hu
    refine Val.quiet hr (v' := .string u) ?_ (.string _)
    unfold execOp
    simp [ho, convert, run_underlying hs, run_underlying hd, run_underlying hel, hax, hu]
  simp only [aop] at h
  split at h
  · rename_i n cap hx
    cases h
    have hv := aval_rel he hx
    generalize hax : a.eval x = ax at hv
    cases hv
    exact fin _ _ _ _ hax (by simp [Conv.bytesToString])
  · rename_i b of n cap hx
    have hv := aval_rel he hx
    rw [bif_beq] at h
    split at h
    · rename_i hn
      subst hn
      cases h
      generalize hax : a.eval x = ax at hv
      have : ∃ b' o' c', ax = .slice (some ⟨b', o', none⟩) 0 c' := by cases hv <;> exact ⟨_, _, _, rfl⟩
      obtain ⟨b', o', c', rfl⟩ := this
      exact fin _ _ _ _ hax (by simp [Conv.bytesToString, loadCells, loadCellsFrom])
    · rename_i hn
      split at h
      · rename_i vs hc
        cases hall : vs.all isByte with
        | false => rw [hall] at h; cases h
        | true =>
          rw [hall] at h
          simp only [cond_true, Option.some.injEq, Prod.mk.injEq] at h
          obtain ⟨rfl, rfl⟩ := h
          generalize hax : a.eval x = ax at hv
          have fin2 : ∀ (l : Loc) (c2 : Nat), σ b = some l → ax = .slice (some ⟨l.c, l.δ + of, none⟩) n c2 → Val P (execOp a.eval o) σ H w (.string ⟨(vs.map byteVal).toArray⟩) H := by
            intro l c2 hσ hx2
            obtain ⟨vs', h1, h2, h3⟩ := cellsAt_rel (P := P) hr hσ hc
            have := cvbs_val h2 hall
            subst this
            subst hx2
            refine fin _ _ _ _ hax ?_
            simp only [Conv.bytesToString, Sem.run_bind, h1, Result.andThen_ok, List.forIn_toArray]
            rw [run_bytes (P := P) _ (fun _ _ => rfl) vs' w ByteArray.empty hall]
            simp only [Result.andThen_ok, Sem.run_pure]
            congr 3
            simp
          cases hv with
          | hard hb _ _ => exact fin2 _ _ hb rfl
          | hard0 => exact absurd rfl hn
          | soft hb _ _ => exact fin2 _ _ hb rfl
          | soft0 => exact absurd rfl hn
      · cases h
  · cases h

end
end Go.Abs
