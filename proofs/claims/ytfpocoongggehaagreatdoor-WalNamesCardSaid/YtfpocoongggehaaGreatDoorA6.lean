/- Each operation that is no call: what the abstract machine does, the model does. Of no program. -/
import Derived.Test.YtfpocoongggehaaGreatDoorA5
import Derived.Laws.Slices
set_option linter.all false
namespace Go.Abs
open Go
variable [Fixed]

variable {P : Program}

/-- The names' values beside a frame's. -/
def EnvRel (σ : Map) (e : Env) (a : Act) : Prop := ∀ t v, eget e t = some v → ∃ v', a.tmps[t]? = some v' ∧ VRel σ v v'

theorem aval_rel {σ : Map} {e : Env} {a : Act} (he : EnvRel σ e a) {x : Operand} {v : Value} (h : aval e x = some v) : VRel σ v (a.eval x) := by
  cases x with
  | tmp t =>
    obtain ⟨v', h1, h2⟩ := he t v h
    simpa [Act.eval, Array.getD_eq_getD_getElem?, h1] using h2
  | const u =>
    simp only [aval] at h
    cases hc : clo 3 u with
    | false => rw [hc] at h; cases h
    | true => rw [hc] at h; cases h; exact .of_clo σ hc
  | global g => cases h
  | func f => cases h; exact .func rfl (fun i h => by simp at h) rfl (fun i h => by simp at h)

theorem avals_rel {σ : Map} {e : Env} {a : Act} (he : EnvRel σ e a) : ∀ {xs : List Operand} {vs : List Value}, avals e xs = some vs → LRel σ vs (xs.map a.eval)
  | [], vs, h => by cases h; exact LRel.nil _
  | x :: xs, vs, h => by
    simp only [avals] at h
    split at h
    · rename_i v us h1 h2
      cases h
      exact LRel.cons (aval_rel he h1) (avals_rel he h2)
    · cases h

/-- What an operation comes to. -/
def Val (P : Program) (s : Sem Next) (σ : Map) (H : Heap) (w : World) (v : Value) (H' : Heap) : Prop :=
  ∃ σ' w' v', (s.run P w = .ok (.value v') w' ∨ (s.run P w = .ok .skip w' ∧ v' = undef)) ∧ VRel σ' v v' ∧ Step σ H w σ' H' w'

theorem Val.quiet {s : Sem Next} {σ : Map} {H : Heap} {w : World} {v v' : Value} (h : R σ H w) (hs : s.run P w = .ok (.value v') w) (hv : VRel σ v v') : Val P s σ H w v H :=
  ⟨σ, w, v', .inl hs, hv, Step.refl h⟩

section
variable {σ : Map} {H : Heap} {w : World} {e : Env} {a : Act} {o : Oper} {v : Value} {H' : Heap}

theorem sound_mv (hr : R σ H w) (he : EnvRel σ e a) {x : Operand} (ho : o.op = .move x ∨ o.op = .assign x) (h : aop P e H (.mv x) = some (v, H')) : Val P (execOp a.eval o) σ H w v H' := by
  simp only [aop] at h
  split at h
  · rename_i u hu
    cases h
    refine Val.quiet hr (v' := a.eval x) ?_ (aval_rel he hu)
    unfold execOp
    rcases ho with ho | ho <;> simp [ho]
  · cases h

theorem VRel.bool_eq {b : Bool} {u : Value} (h : VRel σ (.bool b) u) : u = .bool b := by cases h; rfl
theorem VRel.string_eq {s : ByteArray} {u : Value} (h : VRel σ (.string s) u) : u = .string s := by cases h; rfl

theorem sound_pick (hr : R σ H w) (he : EnvRel σ e a) {c x y : Operand} (ho : o.op = .pick c x y) (h : aop P e H (.pick c x y) = some (v, H')) : Val P (execOp a.eval o) σ H w v H' := by
  simp only [aop] at h
  split at h
  · rename_i hc
    have hb := (aval_rel he hc).bool_eq
    split at h
    · rename_i u hu
      cases h
      refine Val.quiet hr (v' := a.eval x) ?_ (aval_rel he hu)
      unfold execOp
      simp [ho, hb, asBool]
    · cases h
  · rename_i hc
    have hb := (aval_rel he hc).bool_eq
    split at h
    · rename_i u hu
      cases h
      refine Val.quiet hr (v' := a.eval y) ?_ (aval_rel he hu)
      unfold execOp
      simp [ho, hb, asBool]
    · cases h
  · cases h

theorem put_next_rel {l : Loc} (o : Nat) : VRel (σ.put H.next l) (.pointer (some ⟨H.next, o, none⟩)) (.pointer (some ⟨l.c, l.δ + o, none⟩)) :=
  .ptr (Map.put_same _ _ _)

theorem sound_alloc (hr : R σ H w) {t : TypeId} {z : List Value} (ho : o.op = .alloc t) (hz : ∃ n b, tyInfo P t = some (n, b, z)) (h : aop P e H (.alloc z) = some (v, H')) :
    Val P (execOp a.eval o) σ H w v H' := by
  obtain ⟨n, b, hz⟩ := hz
  unfold tyInfo at hz
  split at hz
  · rename_i i hi
    split at hz
    · rename_i zv hzv
      cases hz
      simp only [aop] at h
      cases hc : (zv.cells.toList.all (clo 3) && zv.cells.toList.all oneCell) with
      | false => rw [hc] at h; cases h
      | true =>
        rw [hc] at h
        simp only [Bool.and_eq_true] at hc
        cases h
        refine ⟨_, _, _, .inl ?_, put_next_rel 0, step_alloc hr zv.cells.toList zv.cells.toList 0 zv.cells t (LRel.of_clo σ hc.1) (List.take_of_length_le (by simp)) hc.2⟩
        unfold execOp
        simp [ho, Instr.alloc, run_zero hi hzv, newVar, newRow]
    · cases hz
  · cases hz

theorem sound_box (hr : R σ H w) (he : EnvRel σ e a) {t : TypeId} {x : Operand} (ho : o.op = .box t x) (h : aop P e H (.box x) = some (v, H')) :
    Val P (execOp a.eval o) σ H w v H' := by
  simp only [aop] at h
  split at h
  · rename_i u hu
    have hv := aval_rel he hu
    cases hc : u.cells.toList.all oneCell with
    | false => rw [hc] at h; cases h
    | true =>
      rw [hc] at h
      cases h
      refine ⟨_, _, _, .inl ?_, put_next_rel 0, step_alloc hr u.cells.toList (a.eval x).cells.toList 0 (a.eval x).cells t hv.cells (by rw [hv.cells.1]; exact List.take_of_length_le (by simp)) hc⟩
      unfold execOp
      simp [ho, Instr.box, newVar, newRow]
  · cases h

theorem sound_ld (hr : R σ H w) (he : EnvRel σ e a) {t : TypeId} {x : Operand} (ho : o.op = .load t x)
    (h : (tyAgg P t = some false ∧ aop P e H (.ld1 x) = some (v, H')) ∨ (∃ n, tyAgg P t = some true ∧ tySize P t = some n ∧ aop P e H (.ldn n x) = some (v, H'))) :
    Val P (execOp a.eval o) σ H w v H' := by
  rcases h with ⟨ht, h⟩ | ⟨n, ht, hn, h⟩
  · simp only [aop] at h
    split at h
    · rename_i b of hx
      have hv := aval_rel he hx
      split at h
      · rename_i cs sz ro hg
        split at h
        · rename_i u hu
          cases h
          generalize hax : a.eval x = ax at hv
          cases hv with
          | ptr hb =>
            obtain ⟨v', h1, h2⟩ := cell_rel hr hb hg hu
            refine Val.quiet hr (v' := v') ?_ h2
            unfold execOp
            simp [ho, Instr.loadAt, hax, Instr.sureAddr, loadVar, run_agg ht, h1]
        · cases h
      · cases h
    · cases h
  · simp only [aop] at h
    split at h
    · rename_i b of hx
      have hv := aval_rel he hx
      split at h
      · rename_i vs hc
        cases h
        generalize hax : a.eval x = ax at hv
        cases hv with
        | ptr hb =>
          obtain ⟨vs', h1, h2, h3⟩ := cellsAt_rel (P := P) hr hb hc
          refine Val.quiet hr (v' := .agg vs'.toArray) ?_ (VRel.agg' h2)
          unfold execOp
          simp [ho, Instr.loadAt, hax, Instr.sureAddr, loadVar, run_agg ht, run_size hn, h1]
      · cases h
    · cases h

theorem VRel.size_cells {v u : Value} (h : VRel σ v u) : v.cells.size = u.cells.size := by simpa using h.cells.1

theorem sound_st (hr : R σ H w) (he : EnvRel σ e a) {t : TypeId} {n : Nat} {x y : Operand} (ho : o.op = .store t x y) (hn : tySize P t = some n) (h : aop P e H (.st n x y) = some (v, H')) :
    Val P (execOp a.eval o) σ H w v H' := by
  simp only [aop] at h
  split at h
  · rename_i b of u hx hy
    have hv := aval_rel he hx
    have hu := aval_rel he hy
    cases hc : (Nat.beq u.cells.size n && u.cells.toList.all oneCell) with
    | false => rw [hc] at h; cases h
    | true =>
      rw [hc] at h
      simp only [Bool.and_eq_true] at hc
      simp only [cond_true] at h
      split at h
      · rename_i H1 hs
        cases h
        generalize hax : a.eval x = ax at hv
        cases hv with
        | ptr hb =>
          obtain ⟨w', h1, h2⟩ := storeAt_rel (P := P) hr hb hs hu.cells hc.2
          refine ⟨σ, w', undef, .inr ⟨?_, rfl⟩, .tuple' (LRel.nil _), h2⟩
          have hsz : (a.eval y).cells.size = n := by rw [← hu.size_cells]; exact Nat.eq_of_beq_eq_true hc.1
          unfold execOp
          simp [ho, Instr.storeAt, hax, Instr.sureAddr, storeVar, run_size hn, hsz, h1]
      · cases h
  · cases h

theorem sound_nilck (hr : R σ H w) (he : EnvRel σ e a) {x : Operand} (ho : o.op = .nilCheck x) (h : aop P e H (.nilck x) = some (v, H')) :
    Val P (execOp a.eval o) σ H w v H' := by
  simp only [aop] at h
  split at h
  · rename_i u hu
    cases h
    have hv := aval_rel he hu
    refine Val.quiet hr (v' := a.eval x) ?_ hv
    unfold execOp
    generalize hax : a.eval x = ax at hv
    cases hv with
    | ptr hb => simp [ho, hax]
  · rename_i f p q hu
    cases h
    have hv := aval_rel he hu
    refine Val.quiet hr (v' := a.eval x) ?_ hv
    unfold execOp
    generalize hax : a.eval x = ax at hv
    cases hv with
    | func h1 h2 h3 h4 => simp [ho, hax]
  · rename_i t u hu
    cases h
    have hv := aval_rel he hu
    refine Val.quiet hr (v' := a.eval x) ?_ hv
    unfold execOp
    generalize hax : a.eval x = ax at hv
    cases hv with
    | iface h1 => simp [ho, hax]
  · cases h

theorem sound_prim (hr : R σ H w) (he : EnvRel σ e a) (hs : ∀ cs b, o.op ≠ .select cs b) (h : aop P e H (.prim (bare o)) = some (v, H')) :
    Val P (execOp a.eval o) σ H w v H' := by
  have h : aop P e H (.prim o) = some (v, H') := h
  simp only [aop] at h
  cases hc : (o.op.operands.toList.all (cloOp e)) with
  | false => rw [hc] at h; cases h
  | true =>
    rw [hc] at h
    simp only [cond_true] at h
    have hcong : execOp (fun x => (aval e x).getD (.tuple #[])) o = execOp a.eval o := by
      refine execOp_congr o hs fun x hx => ?_
      have := List.all_eq_true.1 hc x (by simpa using hx)
      cases hv : aval e x with
      | none => simp [cloOp, hv] at this
      | some u => simp only [cloOp, hv] at this; simpa using (aval_rel he hv).eq_of_clo this
    split at h
    · rename_i u hp
      rw [hcong] at hp
      cases hu : clo 3 u with
      | false => rw [hu] at h; cases h
      | true =>
        rw [hu] at h; cases h
        exact Val.quiet hr (pureRun_run hp w) (.of_clo σ hu)
    · cases h

theorem sound_mkiface (hr : R σ H w) (he : EnvRel σ e a) {t : TypeId} {d : TypeDesc} {x : Operand} (ho : o.op = .makeInterface t x) (ht : P.underlying t = some d) (hd : ∀ m, d ≠ .interface m)
    (h : aop P e H (.mkiface t x) = some (v, H')) : Val P (execOp a.eval o) σ H w v H' := by
  simp only [aop] at h
  split at h
  · rename_i u hu
    cases h
    refine Val.quiet hr (v' := .iface t (a.eval x)) ?_ (.iface (aval_rel he hu))
    unfold execOp
    cases d <;> first | exact absurd rfl (hd _) | simp [ho, Instr.makeInterface, run_underlying ht]
  · cases h

theorem sound_mkfunc (hr : R σ H w) (he : EnvRel σ e a) {f : FuncId} {first captured : Array Operand} (ho : o.op = .makeFunc (.func f) first captured)
    (h : aop P e H (.mkfunc f first.toList captured.toList) = some (v, H')) : Val P (execOp a.eval o) σ H w v H' := by
  simp only [aop] at h
  split at h
  · rename_i p q hp hq
    cases h
    have h1 := avals_rel he hp
    have h2 := avals_rel he hq
    refine Val.quiet hr (v' := .func (.func f) ⟨first.toList.map a.eval⟩ ⟨captured.toList.map a.eval⟩) ?_ (.func h1.1 h1.2 h2.1 h2.2)
    unfold execOp
    simp only [ho, Instr.makeFunc]
    have e1 : first.map a.eval = ⟨first.toList.map a.eval⟩ := by apply Array.ext'; simp
    have e2 : captured.map a.eval = ⟨captured.toList.map a.eval⟩ := by apply Array.ext'; simp
    rw [e1, e2]
    simp
  · cases h

theorem VRel.int_eq {k : IntKind} {n : Int} {u : Value} (h : VRel σ (.int k n) u) : u = .int k n := by cases h; rfl

theorem sound_mkmap (hr : R σ H w) (he : EnvRel σ e a) {t : TypeId} {r : Option Operand} {kt et : TypeId} (ho : o.op = .makeMap t r) (ht : P.underlying t = some (.map kt et))
    (h : aop P e H (.mkmap r) = some (v, H')) : Val P (execOp a.eval o) σ H w v H' := by
  have hs := step_newmap hr
  have hv : VRel (σ.put H.next ⟨w.heap.size, 0, 0, 0⟩) (.map (some H.next)) (.map (some w.heap.size)) := .map (l := ⟨w.heap.size, 0, 0, 0⟩) (Map.put_same _ _ _)
  simp only [aop] at h
  split at h
  · rename_i hx
    cases h
    refine ⟨_, _, _, .inl ?_, hv, hs⟩
    cases r with
    | none => unfold execOp; simp [ho, Instr.makeMap]
    | some x => simp [avalo] at hx; split at hx <;> cases hx
  · rename_i k n hx
    cases h
    refine ⟨_, _, _, .inl ?_, hv, hs⟩
    cases r with
    | none => simp [avalo] at hx
    | some x =>
      simp only [avalo] at hx
      split at hx
      · rename_i u hu
        cases hx
        have := (aval_rel he hu).int_eq
        unfold execOp; simp [ho, Instr.makeMap, run_underlying ht, this, asInt, asIntOf]
      · cases hx
  · cases h

end
end Go.Abs
