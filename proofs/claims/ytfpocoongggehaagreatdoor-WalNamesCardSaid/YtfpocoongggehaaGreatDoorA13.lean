/- make; clear, copy, append. Of no program. -/
import Derived.Test.YtfpocoongggehaaGreatDoorA12
set_option linter.all false
namespace Go.Abs
open Go
variable [Fixed]

variable {P : Program}
section
variable {σ : Map} {H : Heap} {w : World} {e : Env} {a : Act} {o : Oper} {v : Value} {H' : Heap}

theorem wrap_nat {n : Nat} (h : n ≤ 140737488355328) : IntKind.i64.wrap (n : Int) = n := by
  have : (n : Int) ≤ 140737488355328 := by omega
  show _ = _
  simp [IntKind.wrap, IntKind.bits, IntKind.signed]
  omega

theorem fits_le {n b : Nat} (h : fits n b = true) : n * b ≤ 140737488355328 := by
  have := Nat.le_of_ble_eq_true h; simpa using this

theorem sound_mkslice (hr : R σ H w) (he : EnvRel σ e a) {t el : TypeId} {l c : Operand} {sz by_ : Nat} {z : List Value} (ho : o.op = .makeSlice t l c)
    (ht : P.underlying t = some (.slice el)) (hel : tyInfo P el = some (sz, by_, z)) (hsz : 1 ≤ sz)
    (h : aop P e H (.mkslice sz by_ z l c) = some (v, H')) : Val P (execOp a.eval o) σ H w v H' := by
  obtain ⟨i, zv, hi, hz, rfl, rfl, rfl⟩ := tyInfo_inv hel
  simp only [aop] at h
  split at h
  · rename_i ln cn hl hc
    cases hk : (Nat.ble ln cn && fits cn i.bytes && Nat.ble cn (2 ^ 47) && zv.cells.toList.all (clo 3) && zv.cells.toList.all oneCell && Nat.beq zv.cells.toList.length i.size) with
    | false => rw [hk] at h; cases h
    | true =>
      rw [hk] at h
      simp only [cond_true, Option.some.injEq, Prod.mk.injEq] at h
      obtain ⟨rfl, rfl⟩ := h
      simp only [Bool.and_eq_true] at hk
      obtain ⟨⟨⟨⟨⟨k1, k2⟩, k3⟩, k4⟩, k5⟩, k6⟩ := hk
      have k1 := Nat.le_of_ble_eq_true k1
      have k2 := fits_le k2
      have k3 : cn ≤ 140737488355328 := by have := Nat.le_of_ble_eq_true k3; simpa using this
      have k6 : zv.cells.size = i.size := by have := Nat.eq_of_beq_eq_true k6; simpa using this
      obtain ⟨kl, el1⟩ := getNat_rel' he rfl hl
      obtain ⟨kc, ec1⟩ := getNat_rel' he rfl hc
      obtain ⟨C, hC⟩ : ∃ C : Array Value, C.toList = repl zv.cells.toList cn ∧ C.size = cn * i.size ∧ ∀ Z : Array Value, Z = (if cn * i.size = 0 then #[] else zv.cells) →
          (Array.range (cn * i.size)).map (fun x => Z[x % Z.size]!) = C := by
        refine ⟨⟨repl zv.cells.toList cn⟩, rfl, by simp [repl_length, k6], ?_⟩
        intro Z hZ
        subst hZ
        apply Array.ext'
        by_cases h0 : cn * i.size = 0
        · have : cn = 0 := by
            rcases Nat.mul_eq_zero.1 h0 with h1 | h1
            · exact h1
            · omega
          subst this; simp [repl]
        · simp only [if_neg h0]
          rw [← k6]
          exact zeros_eq _ _ (by omega)
      obtain ⟨hC1, hC2, hC3⟩ := hC
      have hst := step_alloc (w := w) hr (repl zv.cells.toList cn) (repl zv.cells.toList cn) i.size C el (LRel.of_clo σ (all_repl k4 cn)) (by rw [hC1]; exact List.take_of_length_le (Nat.le_refl _)) (all_repl k5 cn)
      refine ⟨_, _, .slice (some ⟨w.heap.size, 0, none⟩) ln cn, .inl ?_, ?_, hst⟩
      · have hbytes : (i.bytes : Int) * (cn : Int) ≤ 281474976710656 := by
          have : ((cn * i.bytes : Nat) : Int) ≤ 140737488355328 := by omega
          rw [Int.natCast_mul, Int.mul_comm] at this; omega
        have hbytes2 : (i.bytes : Int) * (ln : Int) ≤ 281474976710656 := by
          have h1 : ln * i.bytes ≤ cn * i.bytes := Nat.mul_le_mul_right _ k1
          have : ((ln * i.bytes : Nat) : Int) ≤ 140737488355328 := by omega
          rw [Int.natCast_mul, Int.mul_comm] at this; omega
        have wl := wrap_nat (n := ln) (by omega)
        have wc := wrap_nat (n := cn) k3
        have c1 : ¬ ((cn : Int) < 0) := by omega
        have c2 : ¬ ((ln : Int) < 0) := by omega
        have c3 : ¬ ((cn : Int) < (ln : Int)) := by omega
        have c4 : ¬ (281474976710656 < (i.bytes : Int) * (cn : Int)) := by omega
        unfold execOp
        simp only [ho]
        simp only [Instr.makeSlice, Sem.run_bind, run_underlying ht, Result.andThen_ok, el1, ec1, asInt, asIntOf, Sem.run_pure, run_info hi, wl, wc]
        rw [if_neg (by simp [c1, c2, c3, c4])]
        simp only [Sem.run_bind, run_askRoom, Result.andThen_ok, Int.toNat_natCast, run_size (tySize_of_info hi)]
        by_cases h0 : cn * i.size = 0
        · rw [if_pos h0]
          simp only [Sem.run_bind, Sem.run_pure, Result.andThen_ok]
          rw [hC3 #[] (by rw [if_pos h0])]
          simp [newRow]
        · rw [if_neg h0]
          simp only [Sem.run_bind, Sem.run_pure, run_zero hi hz, Result.andThen_ok]
          rw [hC3 zv.cells (by rw [if_neg h0])]
          simp [newRow]
      · have hp := Map.put_same σ H.next ⟨w.heap.size, 0, C.size, i.size⟩
        have := VRel.hard (o := 0) (len := ln) (cap := cn) hp (by unfold SOFT; omega) k1
        simpa using this
  · cases h

theorem zeroCells_eq (z : Array Value) (n : Nat) : (Builtin.zeroCells z n).toList = if z.size = 0 then [] else repl z.toList n := by
  by_cases h : z.size = 0
  · rw [if_pos h]; simp [Builtin.zeroCells, h]
  · rw [if_neg h]; exact zeros_eq z n (by omega)

theorem sound_clear (hr : R σ H w) (he : EnvRel σ e a) {c : Call} {t el : TypeId} {sz by_ : Nat} {z : List Value} {x : Operand} (ho : o.op = .call c) (hc0 : c.callee = .builtin .clear) (hargs : c.args.toList = [x])
    (htys : c.argTypes.toList = [t]) (ht : (∃ k e, P.underlying t = some (.map k e)) ∧ sz = 0 ∨ (P.underlying t = some (.slice el) ∧ tyInfo P el = some (sz, by_, z)))
    (h : aop P e H (.clear sz z x) = some (v, H')) : Val P (execOp a.eval o) σ H w v H' := by
  have ea : c.args = #[x] := by apply Array.ext'; exact hargs
  have et' : c.argTypes = #[t] := by apply Array.ext'; exact htys
  have fin : ∀ w', (Builtin.clear_ #[t] o.type #[a.eval x]).run P w = .ok (.tuple #[]) w' → (execOp a.eval o).run P w = .ok (.value (.tuple #[])) w' := by
    intro w' hu
    rw [run_builtin ho hc0, ea, et']
    simp [builtin, hu]
  obtain ⟨d, hd⟩ : ∃ d, P.underlying t = some d := by
    rcases ht with ⟨⟨k, e, h1⟩, _⟩ | ⟨h1, _⟩ <;> exact ⟨_, h1⟩
  simp only [aop] at h
  split at h
  · rename_i hx
    cases h
    have hv := aval_rel he hx
    generalize hax : a.eval x = ax at hv
    cases hv
    refine Val.quiet hr (fin w ?_) (.tuple' (LRel.nil _))
    rw [hax]; simp [Builtin.clear_, run_underlying hd]
  · rename_i b hx
    have hv := aval_rel he hx
    split at h
    · rename_i es hg
      cases h
      generalize hax : a.eval x = ax at hv
      cases hv with
      | @map _ l hσ =>
        obtain ⟨ms, clock, g1, g2, g3, g4, g5⟩ := map_rel hr hσ hg
        have hget : (getObj l.c).run P w = .ok (.map ms clock) w := run_getObj g1 (by simp)
        have hset : (setObj l.c (.map #[] clock)).run P w = .ok () (putObj w l.c (.map #[] clock)) := run_setObj g1 (by simp)
        refine ⟨σ, putObj w l.c (.map #[] clock), .tuple #[], .inl (fin _ ?_), .tuple' (LRel.nil _), step_map hr hσ hg rfl (LRel.nil _) (by simp) (by simp [Born])⟩
        rw [hax]; simp [Builtin.clear_, run_underlying hd, hget, hset]
    · cases h
  · rename_i hx
    cases h
    have hv := aval_rel he hx
    generalize hax : a.eval x = ax at hv
    cases hv
    refine Val.quiet hr (fin w ?_) (.tuple' (LRel.nil _))
    rw [hax]; simp [Builtin.clear_, run_underlying hd]
  · rename_i b of n cap hx
    have hv := aval_rel he hx
    rw [bif_beq] at h
    split at h
    · rename_i hn
      subst hn
      cases h
      generalize hax : a.eval x = ax at hv
      have : ∃ b' o' c', ax = .slice (some ⟨b', o', none⟩) 0 c' := by cases hv <;> exact ⟨_, _, _, rfl⟩
      obtain ⟨b', o', c', rfl⟩ := this
      refine Val.quiet hr (fin w ?_) (.tuple' (LRel.nil _))
      rw [hax]; simp [Builtin.clear_, run_underlying hd]
    · rename_i hn
      cases hk : (Nat.ble 1 sz && z.all (clo 3) && z.all oneCell && Nat.beq z.length sz) with
      | false => rw [hk] at h; cases h
      | true =>
        rw [hk] at h
        simp only [cond_true] at h
        simp only [Bool.and_eq_true] at hk
        obtain ⟨⟨⟨k1, k2⟩, k3⟩, k4⟩ := hk
        have k1 := Nat.le_of_ble_eq_true k1
        split at h
        · rename_i H1 hs
          cases h
          rcases ht with ⟨_, hz0⟩ | ⟨ht, hel⟩
          · omega
          · obtain ⟨i, zv, hi, hz, rfl, _, rfl⟩ := tyInfo_inv hel
            generalize hax : a.eval x = ax at hv
            have fin2 : ∀ (l : Loc) (c2 : Nat), σ b = some l → ax = .slice (some ⟨l.c, l.δ + of, none⟩) n c2 → Val P (execOp a.eval o) σ H w (.tuple #[]) H' := by
              intro l c2 hσ hx2
              obtain ⟨w', h1, h2⟩ := storeAt_rel (P := P) hr hσ hs (LRel.of_clo σ (all_repl k2 n)) (all_repl k3 n)
              refine ⟨σ, w', .tuple #[], .inl (fin _ ?_), .tuple' (LRel.nil _), h2⟩
              have hzs : zv.cells.size ≠ 0 := by have := Nat.eq_of_beq_eq_true k4; simp at this; omega
              rw [hax, hx2]
              obtain ⟨n', rfl⟩ : ∃ n', n = n' + 1 := ⟨n - 1, by omega⟩
              simp only [Builtin.clear_, List.getElem?_toArray, List.getElem?_cons_zero, Sem.run_bind, run_underlying ht, Result.andThen_ok, run_zero hi hz]
              rw [zeroCells_eq, if_neg hzs, h1]
              rfl
            cases hv with
            | hard hb _ _ => exact fin2 _ _ hb rfl
            | hard0 => exact absurd rfl hn
            | soft hb _ _ => exact fin2 _ _ hb rfl
            | soft0 => exact absurd rfl hn
        · cases h
  · cases h

end
end Go.Abs
