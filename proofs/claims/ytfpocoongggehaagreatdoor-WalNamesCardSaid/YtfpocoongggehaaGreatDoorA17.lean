/- Frames, guards and calls. Of no program. -/
import Derived.Test.YtfpocoongggehaaGreatDoorA16
set_option linter.all false
namespace Go.Abs
open Go
variable [Fixed]

section
variable {P : Program} {σ : Map} {H : Heap} {w : World} {e : Env} {a : Act} {o : Oper} {v : Value} {H' : Heap}

theorem EnvRel.mono {τ : Map} (h : ∀ b l, σ b = some l → τ b = some l) (he : EnvRel σ e a) : EnvRel τ e a := by
  intro t v hv
  obtain ⟨v', h1, h2⟩ := he t v hv
  exact ⟨v', h1, h2.mono h⟩

theorem eget_eput (d : Option Nat) (v : Value) (t : Nat) : eget (eput e d v) t = if d = some t then some v else eget e t := by
  cases d with
  | none => simp [eput]
  | some d =>
    simp only [eput, eget, bif_beq, Option.some.injEq]

theorem EnvRel.put {v' : Value} {d : Option Nat} (he : EnvRel σ e a) (hv : VRel σ v v') (hd : ∀ x, d = some x → x < a.tmps.size) : EnvRel σ (eput e d v) (a.put d v') := by
  intro t u hu
  rw [eget_eput] at hu
  cases d with
  | none =>
    rw [if_neg (by simp)] at hu
    exact he t u hu
  | some d =>
    simp only [Act.put]
    by_cases h : d = t
    · subst h
      rw [if_pos rfl] at hu
      cases hu
      exact ⟨v', by rw [Array.getElem?_setIfInBounds]; simp [hd d rfl], hv⟩
    · rw [if_neg (by simpa using h)] at hu
      obtain ⟨u', h1, h2⟩ := he t u hu
      exact ⟨u', by rw [Array.getElem?_setIfInBounds, if_neg h]; exact h1, h2⟩

theorem eget_ekeep : ∀ (ks : List Nat) (t : Nat) (u : Value), eget (ekeep e ks) t = some u → eget e t = some u := by
  intro ks
  induction ks with
  | nil => intro t u h; simp [ekeep, eget] at h
  | cons k ks ih =>
    intro t u h
    simp only [ekeep] at h
    split at h
    · rename_i x hx
      simp only [eget, bif_beq] at h
      split at h
      · rename_i hk; subst hk; cases h; exact hx
      · exact ih t u h
    · exact ih t u h

theorem EnvRel.keep (he : EnvRel σ e a) (ks : List Nat) : EnvRel σ (ekeep e ks) a := fun t u h => he t u (eget_ekeep ks t u h)

theorem size_put (a : Act) (d : Option Tmp) (v : Value) : (a.put d v).tmps.size = a.tmps.size := by
  cases d <;> simp [Act.put]
theorem defers_put (a : Act) (d : Option Tmp) (v : Value) : (a.put d v).defers = a.defers := by
  cases d <;> rfl

theorem lowO_inv {nt : Nat} {ops : Array Oper} {lo : LOp} (h : lowO P nt ops o = some lo) :
    lowOp P o = some lo.op ∧ lo.dst = o.dst ∧ (∀ x, o.dst = some x → x < nt) ∧
      ((o.guard = none ∧ lo.guard = none) ∨ ∃ j want t, o.guard = some (j, want) ∧ (ops[j]?).bind (·.dst) = some t ∧ lo.guard = some (t, want)) := by
  unfold lowO at h
  split at h
  · cases h
  · rename_i ao hao
    have h1 : lowOp P o = some ao ∧ ∀ x, o.dst = some x → x < nt := by
      split at hao
      · rename_i d hd
        cases hb : Nat.blt d nt with
        | false => rw [hb] at hao; cases hao
        | true => rw [hb] at hao; exact ⟨hao, fun x hx => by rw [hd] at hx; cases hx; exact Nat.le_of_ble_eq_true hb⟩
      · rename_i hd; exact ⟨hao, fun x hx => by rw [hd] at hx; cases hx⟩
    split at h
    · rename_i hg; cases h; exact ⟨h1.1, rfl, h1.2, .inl ⟨hg, rfl⟩⟩
    · rename_i j want hg
      split at h
      · rename_i t ht; cases h; exact ⟨h1.1, rfl, h1.2, .inr ⟨j, want, t, hg, ht, rfl⟩⟩
      · cases h

theorem wanted_rel {nt : Nat} {ops : Array Oper} {lo : LOp} {b : Bool} (hl : lowO P nt ops o = some lo) (he : EnvRel σ e a) (hw : wanted e lo.guard = some b) :
    Region.wanted o (yielded ops a.tmps) = b := by
  obtain ⟨_, _, _, hg⟩ := lowO_inv hl
  rcases hg with ⟨h1, h2⟩ | ⟨j, want, t, h1, h2, h3⟩
  · rw [h2] at hw
    simp only [wanted, Option.some.injEq] at hw
    subst hw
    simp [Region.wanted, h1]
  · rw [h3] at hw
    simp only [wanted] at hw
    simp only [Region.wanted, h1, yielded]
    split at hw
    · rename_i x hx
      cases hw
      obtain ⟨v', g1, g2⟩ := he t _ hx
      have := g2.bool_eq
      subst this
      rw [h2]
      simp only [Option.bind_some, g1]
      cases x <;> cases want <;> rfl
    · rename_i x hx
      cases hw
      obtain ⟨v', g1, g2⟩ := he t _ hx
      rw [h2]
      simp only [Option.bind_some, g1]
      cases g2
      rfl
    · cases hw

end

/-- A call that the abstract machine went through. -/
def CallOk (P : Program) (f : Nat) (args' : List Value) (σ : Map) (H : Heap) (w : World) (r : Value) (H' : Heap) : Prop :=
  Calls P f args'.toArray w fun e w' => ∃ σ' r', e = .returned r' ∧ VRel σ' r r' ∧ Step σ H w σ' H' w'

/-- A function that is entered as any other. -/
def Plain (P : Program) (f : Nat) : Prop := ∃ fn, P.funcs[f]? = some fn ∧ fn.body.isSome = true ∧ (fn.name == "runtime.NumGoroutine") = false

structure EnvOk (E : Env0) : Prop where
  fn : ∀ f l, E.fn f = some l → ∃ fn, E.P.funcs[f]? = some fn ∧ Low E.P fn l
  hook : ∀ f h, E.hook f = some h → Plain E.P f ∧ ∀ args H r H', h args H = some (r, H') → ∀ σ w args', R σ H w → LRel σ args args' → CallOk E.P f args' σ H w r H'
  mixed : E.P.follows .mixedOrders = true

theorem Low.plain {P : Program} {f : Nat} {fn : Func} {l : LFunc} (h : P.funcs[f]? = some fn) (hl : Low P fn l) : Plain P f := by
  refine ⟨fn, h, ?_, hl.name⟩
  have := hl.body
  cases hb : fn.body with
  | none => rw [hb] at this; cases this
  | some c => rfl

theorem EnvOk.plain {E : Env0} (h : EnvOk E) {n f : Nat} {args : List Value} {H : Heap} {x : Value × Heap} (hc : call E n f args H = some x) : Plain E.P f := by
  cases n with
  | zero => simp [call] at hc
  | succ n =>
    simp only [call] at hc
    split at hc
    · rename_i k hk; exact (h.hook f k hk).1
    · split at hc
      · rename_i l hl
        obtain ⟨fn, h1, h2⟩ := h.fn f l hl
        exact h2.plain h1
      · cases hc

theorem run_callFunc {P : Program} {f : Nat} (h : Plain P f) (args : Array Value) (w : World) : (callFunc f args).run P w = .ok (.enter f args) w := by
  obtain ⟨fn, h1, h2, h3⟩ := h
  have h4 : fn.body.isNone = false := by cases hb : fn.body <;> simp_all
  simp only [callFunc, Sem.run_bind, run_program, Result.andThen_ok, h1, h3, Bool.false_eq_true, if_false, h4, Sem.run_pure]

theorem invRow_run {P : Program} {name : String} {t0 t : TypeId} {f : FuncId} (h : invRow P name t0 = some (t, f)) (v : Value) (w : World) (k : Nat) :
    t0 = t ∧ (Go.method (k + 1) t v name).run P w = .ok (f, v) w := by
  unfold invRow at h
  split at h
  · rename_i i d hi hu
    split at h
    · rename_i m hm
      split at h
      · rename_i g hp hf
        cases h
        refine ⟨rfl, ?_⟩
        have hm' : i.methods.find? (fun x => x.name == name) = some m := hm
        simp only [Go.method, Sem.run_bind, run_info hi, Result.andThen_ok, hm', hp, Go.follow, Sem.run_pure, hf, Go.receiverAt, run_underlying hu, Go.Place.get]
      · cases h
    · cases h
  · cases h

theorem isCall_inv {P : Program} {o : Oper} {op : AOp} (h : lowOp P o = some op) (hc : isCall op = true) : ∃ c, o.op = .call c := by
  cases ho : o.op with
  | call c => exact ⟨c, rfl⟩
  | _ =>
    exfalso
    simp only [lowOp, ho] at h
    (try (repeat' split at h)) <;> first
      | (cases h; done)
      | (cases h; cases hc; done)
      | (obtain ⟨_, rfl⟩ := bif_some h; cases hc; done)
      | (obtain ⟨_, rfl, _⟩ := lowCmp_inv h; cases hc; done)
      | (rw [bif_beq] at h; split at h <;> first | (cases h; done) | (cases h; cases hc; done))
      | (simp_all; done)

/-- What a single operation does, calls too. -/
def OpS (E : Env0) (n : Nat) : Prop := ∀ (o : Oper) (op : AOp) (e : Env) (H : Heap) (v : Value) (H' : Heap), lowOp E.P o = some op → runOp E n op e H = some (v, H') →
  ∀ (σ : Map) (w : World) (a : Act), R σ H w → EnvRel σ e a → ∀ (K : Act → World → Prop) (Q : Exit → Act → World → Prop),
    (∀ σ' w' v', VRel σ' v v' → Step σ H w σ' H' w' → K (a.put o.dst v') w') → o.wp E.P a w K Q

def CallS (E : Env0) (n : Nat) : Prop := ∀ (f : Nat) (args : List Value) (H : Heap) (r : Value) (H' : Heap), call E n f args H = some (r, H') →
  ∀ (σ : Map) (w : World) (args' : List Value), R σ H w → LRel σ args args' → CallOk E.P f args' σ H w r H'

theorem opS_of_call {E : Env0} (hE : EnvOk E) {n : Nat} (hc : CallS E n) : OpS E (n + 1) := by
  intro o op e H v H' hl hr σ w a hR he K Q hK
  by_cases hcall : isCall op = true
  · -- calls
    have fin : ∀ (f : Nat) (vs vs' : List Value) (args' : Array Value), call E n f vs H = some (v, H') → LRel σ vs vs' → args' = vs'.toArray → (execOp a.eval o).run E.P w = .ok (.enter f args') w → o.wp E.P a w K Q := by
      intro f vs vs' args' hcl hvs ha hrun
      unfold Oper.wp
      rw [hrun, Oper.upon_enter, ha]
      refine (hc f vs H v H' hcl σ w vs' hR hvs).mono fun en w' h => ?_
      obtain ⟨σ', r', rfl, h2, h3⟩ := h
      exact hK σ' w' r' h2 h3
    obtain ⟨c, ho⟩ := isCall_inv hl hcall
    simp only [lowOp, ho] at hl
    split at hl
    · rename_i f hcal
      cases hl
      simp only [runOp] at hr
      split at hr
      · rename_i vs hvs
        refine fin f vs _ _ hr (avals_rel he hvs) rfl ?_
        unfold execOp
        simp only [ho, resolve, hcal, Act.eval, Deferred.ofValue, Sem.run_bind, Sem.run_pure, Result.andThen_ok, invoke]
        rw [run_callFunc (hE.plain hr)]
        congr 2
        apply Array.ext'; simp
      · cases hr
    · rename_i x hnf hcal
      cases hl
      simp only [runOp] at hr
      split at hr
      · rename_i f first captured vs hx hvs
        have hv := aval_rel he hx
        generalize hax : a.eval x = ax at hv
        cases hv with
        | func h1 h2 h3 h4 =>
          refine fin f _ _ _ hr ((LRel.append ⟨h1, h2⟩ (avals_rel he hvs)).append ⟨h3, h4⟩) rfl ?_
          unfold execOp
          simp only [ho, resolve, hcal, hax, Deferred.ofValue, Sem.run_bind, Sem.run_pure, Result.andThen_ok, invoke]
          rw [run_callFunc (hE.plain hr)]
          congr 2
          apply Array.ext'; simp
      · cases hr
    · rename_i x name hcal
      cases hl
      simp only [runOp] at hr
      split at hr
      · rename_i t u vs hx hvs
        split at hr
        · rename_i t' f hf
          have hv := aval_rel he hx
          generalize hax : a.eval x = ax at hv
          cases hv with
          | @iface _ _ u' h1 =>
            refine fin f _ _ _ hr (LRel.cons h1 (avals_rel he hvs)) rfl ?_
            have ht := List.find?_some hf
            have ht := Nat.eq_of_beq_eq_true ht
            simp only at ht
            subst ht
            have hmem := List.mem_of_find?_eq_some hf
            obtain ⟨t0, _, ht0⟩ := List.mem_filterMap.1 hmem
            have hm := fun k => invRow_run ht0 u' w k
            have e1 : E.P.types.size + Made.depth = (E.P.types.size + Made.depth - 1) + 1 := by
              have : 1 ≤ Made.depth := by decide
              omega
            have hm2 := (hm (E.P.types.size + Made.depth - 1)).2
            rw [← e1] at hm2
            unfold execOp
            simp only [ho, resolve, hcal, hax, Sem.run_bind, Sem.run_pure, Result.andThen_ok, invoke]
            have e2 : (#[Value.iface t' u'] ++ c.args.map a.eval)[0]? = some (Value.iface t' u') := by rw [Array.getElem?_append_left (by simp)]; rfl
            rw [e2]
            simp only [callMethod, Sem.run_bind, run_program, Result.andThen_ok, hm2]
            rw [run_callFunc (hE.plain hr)]
            congr 2
            apply Array.ext'
            simp
            exact List.take_of_length_le (by simp)
        · cases hr
      · cases hr
    · rename_i b hcal
      exfalso
      unfold lowBuiltin at hl
      split at hl <;> (try (split at hl)) <;> (try (split at hl)) <;> first | (cases hl; cases hcall) | cases hl | (obtain ⟨_, rfl⟩ := bif_some hl; cases hcall)
  · have haop : aop E.P e H op = some (v, H') := by
      cases op <;> first | exact hr | exact absurd rfl hcall
    obtain ⟨σ', w', v', h1, h2, h3⟩ := aop_sound hR he hl haop
    unfold Oper.wp
    rcases h1 with h1 | ⟨h1, h4⟩
    · rw [h1]; exact hK σ' w' v' h2 h3
    · rw [h1]; subst h4; exact hK σ' w' undef h2 h3

end Go.Abs
