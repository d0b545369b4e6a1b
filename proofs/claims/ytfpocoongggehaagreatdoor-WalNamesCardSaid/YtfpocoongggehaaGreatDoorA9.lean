/- Arrays, maps, append and copy. Of no program. -/
import Derived.Test.YtfpocoongggehaaGreatDoorA8
set_option linter.all false
namespace Go.Abs
open Go
variable [Fixed]

variable {P : Program}
section
variable {σ : Map} {H : Heap} {w : World} {e : Env} {a : Act} {o : Oper} {v : Value} {H' : Heap}

/-- A slice of an array in a variable. -/
theorem sound_slca (hr : R σ H w) (he : EnvRel σ e a) {t arr : TypeId} {el : TypeId} {n sz : Nat} {x : Operand} {lo hi mx : Option Operand} (ho : o.op = .slice t x lo hi mx)
    (ht : (P.underlying t = some (.array n el)) ∨ (P.underlying t = some (.pointer arr) ∧ P.underlying arr = some (.array n el))) (hn : tySize P el = some sz)
    (h : aop P e H (.slca n sz x lo hi mx) = some (v, H')) : Val P (execOp a.eval o) σ H w v H' := by
  simp only [aop] at h
  split at h
  · rename_i b of lo1 hi1 hx hlo hhi hmx
    have hv := aval_rel he hx
    split at h
    · rename_i l hh hb
      cases hck : (!Nat.blt n SOFT) with
      | true => rw [hck] at h; cases h
      | false =>
        rw [hck] at h
        have hns : n < SOFT := by
          have : Nat.blt n SOFT = true := by simpa using hck
          exact Nat.le_of_ble_eq_true this
        obtain ⟨g1, g2, g3⟩ := run_bounds (P := P) (isS := false) (cap := n) hb (avalo_rel he hlo) (avalo_rel he hhi) (Nat.le_refl _) w
        have em := none_rel (avalo_rel he hmx) rfl
        simp only [cond_false, bif_beq, Option.some.injEq, Prod.mk.injEq] at h
        obtain ⟨rfl, rfl⟩ := h
        generalize hax : a.eval x = ax at hv
        cases hv with
        | @ptr _ _ lc hσ =>
          refine Val.quiet hr (v' := .slice (some (if n = l then ⟨lc.c, lc.δ + of, none⟩ else (⟨lc.c, lc.δ + of, none⟩ : Addr).add (l * sz))) (hh - l) (n - l)) ?_ ?_
          · unfold execOp
            rcases ht with ht | ⟨ht, ht2⟩
            · simp [ho, Instr.sliceAt, run_underlying ht, hax, Instr.sureAddr, em, g1, run_size hn]
            · simp [ho, Instr.sliceAt, Instr.slice, run_underlying ht, run_underlying ht2, hax, asAddr, em, g1, run_size hn]
          · by_cases hcl : n = l
            · rw [if_pos hcl, if_pos hcl, show n - l = 0 from by omega, show hh - l = 0 from by omega]; exact .hard0
            · rw [if_neg hcl, if_neg hcl, addr_add, Nat.add_assoc]
              exact .hard hσ (by omega) (by omega)
    · cases h
  · cases h

/-! ### Maps -/

theorem findNow_some {d : TypeDesc} {k : Value} : ∀ {es : List MapEntry} {i : Nat} {r : Option (Nat × Value)}, Instr.findNow d k es i = some r →
    ∀ {kt : TypeId}, P.underlying kt = some d → ∀ w, (Instr.findAsking kt k es i).run P w = .ok r w := by
  intro es
  induction es with
  | nil => intro i r h kt _ w; simp only [Instr.findNow] at h; cases h; rfl
  | cons x es ih =>
    intro i r h kt ht w
    simp only [Instr.findNow] at h
    have heq : ∀ b, Instr.sameNow d k x.key = some b → (Op.equal kt k x.key).run P w = .ok b w := by
      intro b hb
      generalize x.key = xk at hb ⊢
      unfold Op.equal
      generalize hm : Op.maxDepth = m
      obtain ⟨m', rfl⟩ : ∃ m', m = m' + 1 := ⟨9999, hm.symm⟩
      clear hm
      rw [Op.equalIn]
      simp only [Sem.run_bind, run_underlying ht, Result.andThen_ok]
      unfold Instr.sameNow at hb
      split at hb
      · split at hb
        · rename_i hk; cases hb; simp [hk]
        · cases hb
      · cases hb; rfl
      · cases hb; rfl
      · cases hb
    split at h
    · rename_i hb
      cases h
      simp [Instr.findAsking, heq true hb]
    · rename_i hb
      simp [Instr.findAsking, heq false hb, ih h ht w]
    · cases h

theorem findAsking_run {kt : TypeId} {k : Value} : ∀ {es : List (Value × Value)} {ms : List MapEntry} {i : Nat} {r : Option (Nat × Value)}, findKey P kt k es i = some r →
    ms.map (·.key) = es.map (·.1) → ∀ w, ∃ r', (Instr.findAsking kt k ms i).run P w = .ok r' w ∧ (r.map (·.1) = r'.map (·.1)) ∧
      (∀ j u, r = some (j, u) → i ≤ j ∧ ∃ kk m, es[j - i]? = some (kk, u) ∧ ms[j - i]? = some m ∧ r' = some (j, m.val)) ∧ (r = none → r' = none) := by
  intro es
  induction es with
  | nil =>
    intro ms i r h hk w
    simp only [findKey] at h
    cases h
    have : ms = [] := by simpa using hk
    subst this
    exact ⟨none, rfl, rfl, by simp, fun _ => rfl⟩
  | cons x es ih =>
    intro ms i r h hk w
    cases ms with
    | nil => simp at hk
    | cons m ms =>
      simp only [List.map_cons, List.cons.injEq] at hk
      obtain ⟨k', v'⟩ := x
      simp only [findKey] at h
      split at h
      · rename_i hb
        cases h
        have hb' := pureRun_run hb w
        rw [show k' = m.key from hk.1.symm] at hb'
        refine ⟨some (i, m.val), by simp [Instr.findAsking, hb'], rfl, ?_, by simp⟩
        intro j u hju
        cases hju
        exact ⟨Nat.le_refl _, k', m, by simp, by simp, rfl⟩
      · rename_i hb
        have hb' := pureRun_run hb w
        rw [show k' = m.key from hk.1.symm] at hb'
        obtain ⟨r', h1, h2, h3, h4⟩ := ih h hk.2 w
        refine ⟨r', by simp [Instr.findAsking, hb', h1], h2, ?_, h4⟩
        intro j u hju
        obtain ⟨g1, kk, m', g2, g3, g4⟩ := h3 j u hju
        have e1 : j - i = (j - (i + 1)) + 1 := by omega
        exact ⟨by omega, kk, m', by rw [e1]; simpa using g2, by rw [e1]; simpa using g3, g4⟩
      · cases h

/-- Looking a key up. -/
theorem findKey_run {kt : TypeId} {d : TypeDesc} {k : Value} {es : List (Value × Value)} {ms : List MapEntry} {r : Option (Nat × Value)} (ht : P.underlying kt = some d)
    (h : findKey P kt k es 0 = some r) (hk : ms.map (·.key) = es.map (·.1)) (w : World) : ∃ r', (Instr.findKey kt k ms).run P w = .ok r' w ∧
      (∀ j u, r = some (j, u) → ∃ kk m, es[j]? = some (kk, u) ∧ ms[j]? = some m ∧ r' = some (j, m.val)) ∧ (r = none → r' = none) := by
  obtain ⟨r', h1, _, h3, h4⟩ := findAsking_run h hk w
  refine ⟨r', ?_, fun j u hju => ?_, h4⟩
  · simp only [Instr.findKey, Sem.run_bind, run_underlying ht, Result.andThen_ok]
    split
    · rename_i r2 hf
      have := findNow_some (P := P) hf ht w
      rw [h1] at this
      cases this
      rfl
    · exact h1
  · obtain ⟨_, kk, m, g2, g3, g4⟩ := h3 j u hju
    exact ⟨kk, m, by simpa using g2, by simpa using g3, g4⟩

theorem map_rel (hr : R σ H w) {b : Nat} {l : Loc} {es : List (Value × Value)} (hb : σ b = some l) (hg : H.get b = some (.mp es)) :
    ∃ ms clock, w.heap[l.c]? = some (.map ms clock) ∧ ms.toList.map (·.key) = es.map (·.1) ∧ LRel σ (es.map (·.2)) (ms.toList.map (·.val)) ∧ (∀ e ∈ es, clo 3 e.1 = true) ∧ Born ms clock :=
  hr.live b l _ hb hg

theorem run_getObj {w : World} {r : Nat} {x : Obj} (h : w.heap[r]? = some x) (hx : ∀ c e f, x ≠ .cells c e f) : (getObj r).run P w = .ok x w := by
  simp only [getObj, Sem.run, h]
  try (split <;> first | rfl | (rename_i c e f heq; cases heq; exact absurd rfl (hx _ _ _)))

theorem run_setObj {w : World} {r : Nat} {x y : Obj} (h : w.heap[r]? = some x) (hx : ∀ c e f, x ≠ .cells c e f) : (setObj r y).run P w = .ok () (putObj w r y) := by
  simp only [setObj, Sem.run, h]
  first | rfl | (split <;> first | rfl | (rename_i heq; cases heq; exact absurd rfl (hx _ _ _)))

theorem isEmpty_rel {ms : Array MapEntry} {es : List (Value × Value)} (h : ms.toList.map (·.key) = es.map (·.1)) : ms.isEmpty = es.isEmpty := by
  have h2 : ms.toList.length = es.length := by simpa using congrArg List.length h
  cases es <;> simp_all [Array.isEmpty]

theorem sound_look (hr : R σ H w) (he : EnvRel σ e a) {t kt et : TypeId} {i : TypeInfo} {z : Value} {dk : TypeDesc} {x k : Operand} {ok : Bool} (ho : o.op = .lookup t x k ok)
    (ht : P.underlying t = some (.map kt et)) (hk : P.underlying kt = some dk) (hi : P.info? et = some i) (hz : i.zero = some z) (h : aop P e H (.look kt z x k ok) = some (v, H')) :
    Val P (execOp a.eval o) σ H w v H' := by
  simp only [aop] at h
  split at h
  · rename_i kv hx hkv
    cases hc : (clo 3 z && clo 3 kv && (pureRun P (Instr.checkKey true 10000 kt kv)).isSome) with
    | false => rw [hc] at h; cases h
    | true =>
      rw [hc] at h
      simp only [cond_true, Option.some.injEq, Prod.mk.injEq] at h
      obtain ⟨rfl, rfl⟩ := h
      simp only [Bool.and_eq_true] at hc
      obtain ⟨u, hu⟩ := Option.isSome_iff_exists.1 hc.2
      have hck := pureRun_run hu w
      have hx' : a.eval x = .map none := by have := aval_rel he hx; generalize a.eval x = ax at this; cases this; rfl
      have hk' : a.eval k = kv := ((aval_rel he hkv).eq_of_clo hc.1.2).symm
      have hfk : (Instr.findKey kt kv []).run P w = .ok none w := by
        obtain ⟨r', h1, _, h3⟩ := findKey_run (P := P) (es := []) (ms := []) (k := kv) (r := none) hk rfl rfl w
        rw [h3 rfl] at h1; exact h1
      refine Val.quiet hr (v' := bif ok then .tuple #[z, .bool false] else z) ?_ ?_
      · unfold execOp
        simp [ho, Instr.lookup, run_underlying ht, hx', hk', hck, hfk, run_zero hi hz]
      · cases ok with
        | true => exact .tuple' (LRel.cons (.of_clo σ hc.1.1) (LRel.cons (.bool _) (LRel.nil _)))
        | false => exact .of_clo σ hc.1.1
  · rename_i b kv hx hkv
    split at h
    · rename_i es hg
      cases hc : (clo 3 z && clo 3 kv && (pureRun P (Instr.checkKey es.isEmpty 10000 kt kv)).isSome) with
      | false => rw [hc] at h; cases h
      | true =>
        rw [hc] at h
        simp only [cond_true] at h
        simp only [Bool.and_eq_true] at hc
        obtain ⟨u, hu⟩ := Option.isSome_iff_exists.1 hc.2
        have hck := pureRun_run hu w
        have hv := aval_rel he hx
        generalize hax : a.eval x = ax at hv
        cases hv with
        | @map _ l hσ =>
          obtain ⟨ms, clock, g1, g2, g3, g4, g5⟩ := map_rel hr hσ hg
          have hk' : a.eval k = kv := ((aval_rel he hkv).eq_of_clo hc.1.2).symm
          have hget : (getObj l.c).run P w = .ok (.map ms clock) w := run_getObj g1 (by simp)
          rw [← isEmpty_rel g2] at hck
          split at h
          · rename_i j u2 hf
            simp only [Option.some.injEq, Prod.mk.injEq] at h
            obtain ⟨rfl, rfl⟩ := h
            obtain ⟨r', h1, h2, _⟩ := findKey_run hk hf g2 w
            obtain ⟨kk, m, k1, k2, rfl⟩ := h2 j u2 rfl
            have hval : VRel σ u2 m.val := by
              obtain ⟨v', e1, e2⟩ := g3.get? (i := j) (v := u2) (by simp [k1])
              simp [k2] at e1
              rw [e1]; exact e2
            refine Val.quiet hr (v' := bif ok then .tuple #[m.val, .bool true] else m.val) ?_ ?_
            · unfold execOp
              simp [ho, Instr.lookup, run_underlying ht, hax, hk', hget, hck, h1]
            · cases ok with
              | true => exact .tuple' (LRel.cons hval (LRel.cons (.bool _) (LRel.nil _)))
              | false => exact hval
          · rename_i hf
            simp only [Option.some.injEq, Prod.mk.injEq] at h
            obtain ⟨rfl, rfl⟩ := h
            obtain ⟨r', h1, _, h3⟩ := findKey_run hk hf g2 w
            rw [h3 rfl] at h1
            refine Val.quiet hr (v' := bif ok then .tuple #[z, .bool false] else z) ?_ ?_
            · unfold execOp
              simp [ho, Instr.lookup, run_underlying ht, hax, hk', hget, hck, h1, run_zero hi hz]
            · cases ok with
              | true => exact .tuple' (LRel.cons (.of_clo σ hc.1.1) (LRel.cons (.bool _) (LRel.nil _)))
              | false => exact .of_clo σ hc.1.1
          · cases h
    · cases h
  · cases h

end
end Go.Abs
