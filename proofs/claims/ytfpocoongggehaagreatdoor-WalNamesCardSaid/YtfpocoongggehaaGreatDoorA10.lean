/- Writes to maps; lengths; append, copy, clear; bytes and strings; rows that are made. Of no program. -/
import Derived.Test.YtfpocoongggehaaGreatDoorA9
set_option linter.all false
namespace Go.Abs
open Go
variable [Fixed]

variable {P : Program}

theorem map_eraseIdx {α β : Type} (f : α → β) (l : List α) (i : Nat) : (l.eraseIdx i).map f = (l.map f).eraseIdx i := by
  rw [List.eraseIdx_eq_take_drop_succ, List.eraseIdx_eq_take_drop_succ]; simp

section
variable {σ : Map} {H : Heap} {w : World} {e : Env} {a : Act} {o : Oper} {v : Value} {H' : Heap}

theorem undef_rel (σ : Map) : VRel σ (.tuple #[]) undef := .tuple' (LRel.nil _)

theorem Born.modify {ms : Array MapEntry} {clock : Nat} (h : Born ms clock) (j : Nat) (f : MapEntry → MapEntry) (hf : ∀ x, (f x).born = x.born) : Born (ms.modify j f) clock := by
  have e : (ms.modify j f).toList.map (·.born) = ms.toList.map (·.born) := by
    apply List.ext_getElem?
    intro i
    simp only [List.getElem?_map, Array.getElem?_toList, Array.getElem?_modify]
    split
    · cases ms[i]? <;> simp [hf]
    · rfl
  unfold Born; rw [e]; exact h
theorem Born.push {ms : Array MapEntry} {clock : Nat} (h : Born ms clock) (k v : Value) : Born (ms.push ⟨k, v, clock⟩) (clock + 1) := by
  unfold Born
  rw [Array.toList_push, List.map_append]
  refine ⟨fun n hn => ?_, List.nodup_append.2 ⟨h.2, by simp, fun a ha b hb => ?_⟩⟩
  · rcases List.mem_append.1 hn with h1 | h1
    · have := h.1 n h1; omega
    · simp at h1; omega
  · simp at hb; have := h.1 a ha; omega
theorem Born.erase {ms : Array MapEntry} {clock : Nat} (h : Born ms clock) (j : Nat) {ms' : Array MapEntry} (he : ms'.toList = ms.toList.eraseIdx j) : Born ms' clock := by
  have e : (ms.toList.eraseIdx j).map (·.born) = (ms.toList.map (·.born)).eraseIdx j := map_eraseIdx _ _ _
  unfold Born; rw [he, e]
  exact ⟨fun n hn => h.1 n (List.mem_of_mem_eraseIdx hn), h.2.sublist (List.eraseIdx_sublist _ _)⟩

/-- A map that is changed. -/
theorem step_map (hr : R σ H w) {b : Nat} {l : Loc} {es es' : List (Value × Value)} {ms : Array MapEntry} {clock : Nat} (hb : σ b = some l) (hg : H.get b = some (.mp es))
    (hk : ms.toList.map (·.key) = es'.map (·.1)) (hv : LRel σ (es'.map (·.2)) (ms.toList.map (·.val))) (hc : ∀ e ∈ es', clo 3 e.1 = true) (hbn : Born ms clock) :
    Step σ H w σ (H.set b (.mp es')) (putObj w l.c (.map ms clock)) := by
  refine step_put hr _ hb hg rfl rfl ⟨ms, clock, ?_, hk, hv, hc, hbn⟩
  rw [get_putObj _ _ _ _ (hr.inb b l hb), if_pos rfl]

theorem sound_mput (hr : R σ H w) (he : EnvRel σ e a) {t kt et : TypeId} {dk : TypeDesc} {x k y : Operand} (ho : o.op = .mapUpdate t x k y)
    (ht : P.underlying t = some (.map kt et)) (hk : P.underlying kt = some dk) (h : aop P e H (.mput kt x k y) = some (v, H')) :
    Val P (execOp a.eval o) σ H w v H' := by
  simp only [aop] at h
  split at h
  · rename_i b kv yv hx hkv hy
    split at h
    · rename_i es hg
      cases hc : (clo 3 kv && (pureRun P (Instr.checkKey false 10000 kt kv)).isSome) with
      | false => rw [hc] at h; cases h
      | true =>
        rw [hc] at h
        simp only [cond_true] at h
        simp only [Bool.and_eq_true] at hc
        obtain ⟨u, hu⟩ := Option.isSome_iff_exists.1 hc.2
        have hck := pureRun_run hu w
        have hv := aval_rel he hx
        have hyv := aval_rel he hy
        generalize hax : a.eval x = ax at hv
        cases hv with
        | @map _ l hσ =>
          obtain ⟨ms, clock, g1, g2, g3, g4, g5⟩ := map_rel hr hσ hg
          have hk' : a.eval k = kv := ((aval_rel he hkv).eq_of_clo hc.1).symm
          have hget : (getObj l.c).run P w = .ok (.map ms clock) w := run_getObj g1 (by simp)
          have hlen : ms.toList.length = es.length := by simpa using congrArg List.length g2
          split at h
          · rename_i j u2 hf
            obtain ⟨r', h1, h2, _⟩ := findKey_run hk hf g2 w
            obtain ⟨kk, m, k1, k2, rfl⟩ := h2 j u2 rfl
            split at h
            · rename_i k' v' hkj
              cases hsb : Instr.sameBits 10000 k' kv with
              | false => rw [hsb] at h; cases h
              | true =>
                rw [hsb] at h
                simp only [cond_true, Option.some.injEq, Prod.mk.injEq] at h
                obtain ⟨rfl, rfl⟩ := h
                rw [k1] at hkj
                cases hkj
                have hmk : m.key = kk := by
                  have := congrArg (fun l => l[j]?) g2
                  simp only [List.getElem?_map, k1, k2, Option.map_some, Option.some.injEq] at this
                  exact this
                have hjl : j < ms.size := by
                  obtain ⟨hh, _⟩ := List.getElem?_eq_some_iff.1 k2; simpa using hh
                have hgj : ms[j]? = some m := by simpa using k2
                refine ⟨σ, putObj w l.c (.map (ms.modify j fun e => { e with key := kv, val := a.eval y }) clock), undef, .inr ⟨?_, rfl⟩, undef_rel σ, ?_⟩
                · unfold execOp
                  have hst : (Instr.keyThatStays m.key kv).run P w = .ok kv w := by
                    simp [Instr.keyThatStays, hmk, hsb]
                  have hset : (setObj l.c (.map (ms.modify j fun e => { e with key := kv, val := a.eval y }) clock)).run P w = .ok () (putObj w l.c (.map (ms.modify j fun e => { e with key := kv, val := a.eval y }) clock)) := run_setObj g1 (by simp)
                  simp [ho, Instr.mapUpdate, run_underlying ht, hax, hk', hget, hck, h1, hgj, hst, hset]
                · refine step_map hr hσ hg ?_ ?_ ?_ (g5.modify _ _ fun _ => rfl)
                  · apply List.ext_getElem?
                    intro i
                    have hgi := congrArg (fun l => l[i]?) g2
                    simp only [List.getElem?_map] at hgi
                    simp only [List.getElem?_map, Array.getElem?_toList, Array.getElem?_modify, List.getElem?_set]
                    by_cases hij : j = i
                    · subst hij
                      have : j < es.length := by rw [← hlen]; simpa using hjl
                      simp [hgj, this]
                    · simp only [if_neg hij]; simpa using hgi
                  · refine ⟨by simp [hlen], fun i p q => ?_⟩
                    have p' : i < es.length := by simpa using p
                    simp only [List.getElem_map, List.getElem_set, Array.getElem_toList, Array.getElem_modify]
                    by_cases hij : j = i
                    · subst hij; simp; exact hyv
                    · simp only [if_neg hij]
                      have := g3.2 i (by simpa using p') (by rw [List.length_map, hlen]; exact p')
                      simpa using this
                  · intro e1 he1
                    rcases List.mem_or_eq_of_mem_set he1 with h3 | h3
                    · exact g4 e1 h3
                    · rw [h3]; exact hc.1
            · cases h
          · rename_i hf
            simp only [Option.some.injEq, Prod.mk.injEq] at h
            obtain ⟨rfl, rfl⟩ := h
            obtain ⟨r', h1, _, h3⟩ := findKey_run hk hf g2 w
            rw [h3 rfl] at h1
            refine ⟨σ, putObj w l.c (.map (ms.push { key := kv, val := a.eval y, born := clock }) (clock + 1)), undef, .inr ⟨?_, rfl⟩, undef_rel σ, ?_⟩
            · unfold execOp
              have hset : (setObj l.c (.map (ms.push { key := kv, val := a.eval y, born := clock }) (clock + 1))).run P w = .ok () (putObj w l.c (.map (ms.push { key := kv, val := a.eval y, born := clock }) (clock + 1))) := run_setObj g1 (by simp)
              simp [ho, Instr.mapUpdate, run_underlying ht, hax, hk', hget, hck, h1, hset]
            · refine step_map hr hσ hg ?_ ?_ ?_ (g5.push _ _)
              · simp [g2]
              · simp only [List.map_append, List.map_cons, List.map_nil, Array.toList_push]
                exact g3.append (LRel.cons hyv (LRel.nil _))
              · intro e1 he1
                rcases List.mem_append.1 he1 with h4 | h4
                · exact g4 e1 h4
                · simp at h4; rw [h4]; exact hc.1
          · cases h
    · cases h
  · cases h

theorem isEmptyEq {ms : Array MapEntry} {es : List (Value × Value)} (h : ms.toList.map (·.key) = es.map (·.1)) : ms.isEmpty = es.isEmpty := isEmpty_rel h

/-- The frame of a builtin that answers a value. -/
theorem run_builtin {c : Call} {b : Builtin} (ho : o.op = .call c) (hc : c.callee = .builtin b) :
    execOp a.eval o = builtin b c.argTypes o.type (c.args.map fun | .const _ => true | _ => false) (c.args.map a.eval) := by
  unfold execOp
  simp only [ho, resolve, hc]
  rfl

theorem sound_mdel (hr : R σ H w) (he : EnvRel σ e a) {c : Call} {t kt et u0 : TypeId} {dk : TypeDesc} {x k : Operand} (ho : o.op = .call c) (hc0 : c.callee = .builtin .delete) (hargs : c.args.toList = [x, k])
    (htys : c.argTypes.toList = [t, u0]) (ht : P.underlying t = some (.map kt et)) (hk : P.underlying kt = some dk) (h : aop P e H (.mdel kt x k) = some (v, H')) :
    Val P (execOp a.eval o) σ H w v H' := by
  have ea : c.args = #[x, k] := by apply Array.ext'; exact hargs
  have et' : c.argTypes = #[t, u0] := by apply Array.ext'; exact htys
  simp only [aop] at h
  split at h
  · rename_i b kv hx hkv
    split at h
    · rename_i es hg
      cases hc : (clo 3 kv && (pureRun P (Instr.checkKey es.isEmpty 10000 kt kv)).isSome) with
      | false => rw [hc] at h; cases h
      | true =>
        rw [hc] at h
        simp only [cond_true] at h
        simp only [Bool.and_eq_true] at hc
        obtain ⟨u, hu⟩ := Option.isSome_iff_exists.1 hc.2
        have hck := pureRun_run hu w
        have hv := aval_rel he hx
        generalize hax : a.eval x = ax at hv
        cases hv with
        | @map _ l hσ =>
          obtain ⟨ms, clock, g1, g2, g3, g4, g5⟩ := map_rel hr hσ hg
          have hk' : a.eval k = kv := ((aval_rel he hkv).eq_of_clo hc.1).symm
          have hget : (getObj l.c).run P w = .ok (.map ms clock) w := run_getObj g1 (by simp)
          rw [← isEmpty_rel g2] at hck
          split at h
          · rename_i j u2 hf
            simp only [Option.some.injEq, Prod.mk.injEq] at h
            obtain ⟨rfl, rfl⟩ := h
            obtain ⟨r', h1, h2, _⟩ := findKey_run hk hf g2 w
            obtain ⟨kk, m, k1, k2, rfl⟩ := h2 j u2 rfl
            refine ⟨σ, putObj w l.c (.map (ms.eraseIdxIfInBounds j) clock), .tuple #[], .inl ?_, .tuple' (LRel.nil _), ?_⟩
            · have hset : (setObj l.c (.map (ms.eraseIdxIfInBounds j) clock)).run P w = .ok () (putObj w l.c (.map (ms.eraseIdxIfInBounds j) clock)) := run_setObj g1 (by simp)
              rw [run_builtin ho hc0, ea, et']
              simp [builtin, Builtin.delete_, run_underlying ht, hax, hk', hget, hck, h1, hset]
            · have et2 : (ms.eraseIdxIfInBounds j).toList = ms.toList.eraseIdx j := by
                simp [Array.eraseIdxIfInBounds]
                split
                · simp
                · rename_i hjj
                  have : j < ms.size := by obtain ⟨hh, _⟩ := List.getElem?_eq_some_iff.1 k2; simpa using hh
                  exact absurd this hjj
              refine step_map hr hσ hg ?_ ?_ ?_ (g5.erase j et2)
              · rw [et2, map_eraseIdx, map_eraseIdx, g2]
              · rw [et2, map_eraseIdx, map_eraseIdx]
                refine ⟨by simp [List.length_eraseIdx, g3.1], fun i p q => ?_⟩
                have hl := g3.1
                rw [List.getElem_eraseIdx, List.getElem_eraseIdx]
                split
                · exact g3.2 i _ _
                · exact g3.2 (i + 1) _ _
              · intro e1 he1
                exact g4 e1 (List.mem_of_mem_eraseIdx he1)
          · rename_i hf
            simp only [Option.some.injEq, Prod.mk.injEq] at h
            obtain ⟨rfl, rfl⟩ := h
            obtain ⟨r', h1, _, h3⟩ := findKey_run hk hf g2 w
            rw [h3 rfl] at h1
            refine ⟨σ, w, .tuple #[], .inl ?_, .tuple' (LRel.nil _), Step.refl hr⟩
            have hset : (setObj l.c (.map ms clock)).run P w = .ok () w := by
              rw [run_setObj g1 (by simp), putObj_same g1]
            rw [run_builtin ho hc0, ea, et']
            simp [builtin, Builtin.delete_, run_underlying ht, hax, hk', hget, hck, h1, hset]
          · cases h
    · cases h
  · cases h

end
end Go.Abs
