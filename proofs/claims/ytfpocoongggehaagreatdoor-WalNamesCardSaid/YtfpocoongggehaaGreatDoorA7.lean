/- Further operations. Of no program. -/
import Derived.Test.YtfpocoongggehaaGreatDoorA6
set_option linter.all false
namespace Go.Abs
open Go
variable [Fixed]

variable {P : Program}
section
variable {σ : Map} {H : Heap} {w : World} {e : Env} {a : Act} {o : Oper} {v : Value} {H' : Heap}

theorem getNat_rel {x : Value} {x' : Value} {n : Nat} (hx : VRel σ x x') (h : getNat (some x) = some n) : ∃ k, x' = .int k (n : Int) := by
  unfold getNat at h
  split at h
  · rename_i k m heq
    cases heq
    cases hd : decide (0 ≤ m) with
    | false => rw [hd] at h; cases h
    | true =>
      rw [hd] at h
      simp only [cond_true, Option.some.injEq] at h
      have := of_decide_eq_true hd
      refine ⟨k, ?_⟩
      cases hx
      congr 1; omega
  · cases h

theorem getNat_rel' {x : Option Value} {y : Operand} {n : Nat} (he : EnvRel σ e a) (hx : x = aval e y) (h : getNat x = some n) : ∃ k, a.eval y = .int k (n : Int) := by
  subst hx
  cases hv : aval e y with
  | none => rw [hv] at h; cases h
  | some u => rw [hv] at h; exact getNat_rel (aval_rel he hv) h

theorem sound_fadr (hr : R σ H w) (he : EnvRel σ e a) {s : TypeId} {x : Operand} {f : Nat} {fs : Array Field} {fd : Field} {n : Nat} (ho : o.op = .fieldAddr s x f)
    (hs : P.underlying s = some (.struct fs)) (hf : fs[f]? = some fd) (hn : tySize P fd.type = some n) (hn0 : n ≠ 0) (h : aop P e H (.fadr fd.offset x) = some (v, H')) :
    Val P (execOp a.eval o) σ H w v H' := by
  simp only [aop] at h
  split at h
  · rename_i b of hx
    cases h
    have hv := aval_rel he hx
    generalize hax : a.eval x = ax at hv
    cases hv with
    | @ptr _ _ l hb =>
      refine Val.quiet hr (v' := .pointer (some ⟨l.c, l.δ + (of + fd.offset), none⟩)) ?_ (.ptr hb)
      unfold execOp
      simp [ho, Instr.fieldAt, run_underlying hs, hf, hax, Instr.sureAddr, fieldPlace, run_size hn, hn0, addr_add, Nat.add_assoc]
  · cases h

theorem part_run {t : TypeId} {cs cs' : List Value} {off n : Nat} {b : Bool} {u : Value} (hl : LRel σ cs cs') (hb : tyAgg P t = some b) (hn : tySize P t = some n)
    (h : partOf cs off n b = some u) (w : World) : ∃ u', (part t ⟨cs'⟩ off).run P w = .ok u' w ∧ VRel σ u u' := by
  unfold partOf at h
  cases b with
  | true =>
    simp only [cond_true] at h
    cases hle : Nat.ble (off + n) cs.length with
    | false => rw [hle] at h; cases h
    | true =>
      rw [hle] at h
      simp only [cond_true, Option.some.injEq] at h
      subst h
      refine ⟨.agg ⟨(cs'.drop off).take n⟩, ?_, VRel.agg' ((hl.drop off).take n)⟩
      have e1 : Array.extract ⟨cs'⟩ off (off + n) = ⟨(cs'.drop off).take n⟩ := by
        apply Array.ext'; simp [List.extract_eq_take_drop]
      simp [part, run_agg hb, run_size hn, e1]
  | false =>
    simp only [cond_false] at h
    obtain ⟨u', h1, h2⟩ := hl.get? h
    exact ⟨u', by simp [part, run_agg hb, h1], h2⟩

theorem sound_fld (hr : R σ H w) (he : EnvRel σ e a) {s : TypeId} {x : Operand} {f : Nat} {fs : Array Field} {fd : Field} {n : Nat} {b : Bool} (ho : o.op = .field s x f)
    (hs : P.underlying s = some (.struct fs)) (hf : fs[f]? = some fd) (hn : tySize P fd.type = some n) (hb : tyAgg P fd.type = some b) (h : aop P e H (.fld fd.offset n b x) = some (v, H')) :
    Val P (execOp a.eval o) σ H w v H' := by
  simp only [aop] at h
  split at h
  · rename_i cs hx
    have hv := aval_rel he hx
    split at h
    · rename_i u hu
      cases h
      generalize hax : a.eval x = ax at hv
      cases hv with
      | agg h1 h2 =>
        obtain ⟨u', g1, g2⟩ := part_run (P := P) (σ := σ) ⟨h1, h2⟩ hb hn hu w
        refine Val.quiet hr (v' := u') ?_ g2
        unfold execOp
        simp [ho, Instr.field, run_underlying hs, hf, hax, asAgg, g1]
    · cases h
  · cases h

theorem sound_iadra (hr : R σ H w) (he : EnvRel σ e a) {t : TypeId} {x i : Operand} {len : Nat} {el : TypeId} {sz : Nat} (ho : o.op = .indexAddr t x i)
    (ht : P.underlying t = some (.array len el)) (hn : tySize P el = some sz) (h : aop P e H (.iadra len sz x i) = some (v, H')) :
    Val P (execOp a.eval o) σ H w v H' := by
  simp only [aop] at h
  split at h
  · rename_i b of n hx hi
    cases hlt : Nat.blt n len with
    | false => rw [hlt] at h; cases h
    | true =>
      rw [hlt] at h
      cases h
      have hlt' : n < len := Nat.le_of_ble_eq_true hlt
      have hv := aval_rel he hx
      obtain ⟨k, hk⟩ := getNat_rel' he rfl hi
      generalize hax : a.eval x = ax at hv
      cases hv with
      | @ptr _ _ l hb =>
        refine Val.quiet hr (v' := .pointer (some ⟨l.c, l.δ + (of + n * sz), none⟩)) ?_ (.ptr hb)
        unfold execOp
        have e1 : (0 : Int) ≤ (n : Int) ∧ (n : Int) < (len : Int) := by omega
        simp [ho, Instr.indexAt, hk, asIntOf, run_underlying ht, hax, Instr.sureAddr, e1, run_size hn, addr_add, Nat.add_assoc]
        intro hh; omega
  · cases h

theorem sound_iadrs (hr : R σ H w) (he : EnvRel σ e a) {t : TypeId} {x i : Operand} {el : TypeId} {sz : Nat} (ho : o.op = .indexAddr t x i)
    (ht : P.underlying t = some (.slice el)) (hn : tySize P el = some sz) (h : aop P e H (.iadrs sz x i) = some (v, H')) :
    Val P (execOp a.eval o) σ H w v H' := by
  simp only [aop] at h
  split at h
  · rename_i b of len cap n hx hi
    cases hlt : Nat.blt n len with
    | false => rw [hlt] at h; cases h
    | true =>
      rw [hlt] at h
      cases h
      have hlt' : n < len := Nat.le_of_ble_eq_true hlt
      have hv := aval_rel he hx
      obtain ⟨k, hk⟩ := getNat_rel' he rfl hi
      have e1 : (0 : Int) ≤ (n : Int) ∧ (n : Int) < (len : Int) := by omega
      generalize hax : a.eval x = ax at hv
      have fin : ∀ (l : Loc) (c : Nat), σ b = some l → ax = .slice (some ⟨l.c, l.δ + of, none⟩) len c → Val P (execOp a.eval o) σ H w (.pointer (some ⟨b, of + n * sz, none⟩)) H := by
        intro l c hb hx'
        refine Val.quiet hr (v' := .pointer (some ⟨l.c, l.δ + (of + n * sz), none⟩)) ?_ (.ptr hb)
        unfold execOp
        simp [ho, Instr.indexAt, hk, asIntOf, run_underlying ht, hax, hx', e1, run_size hn, addr_add, Nat.add_assoc]
        intro hh; omega
      cases hv with
      | hard hb _ _ => exact fin _ _ hb rfl
      | hard0 => omega
      | soft hb _ _ => exact fin _ _ hb rfl
      | soft0 => omega
  · cases h

theorem sound_idxa (hr : R σ H w) (he : EnvRel σ e a) {t : TypeId} {x i : Operand} {len : Nat} {el : TypeId} {sz : Nat} {b : Bool} (ho : o.op = .index t x i)
    (ht : P.underlying t = some (.array len el)) (hn : tySize P el = some sz) (hb : tyAgg P el = some b) (h : aop P e H (.idxa len sz b x i) = some (v, H')) :
    Val P (execOp a.eval o) σ H w v H' := by
  simp only [aop] at h
  split at h
  · rename_i cs n hx hi
    cases hlt : Nat.blt n len with
    | false => rw [hlt] at h; cases h
    | true =>
      rw [hlt] at h
      simp only [cond_true] at h
      have hlt' : n < len := Nat.le_of_ble_eq_true hlt
      have hv := aval_rel he hx
      obtain ⟨k, hk⟩ := getNat_rel' he rfl hi
      have e1 : (0 : Int) ≤ (n : Int) ∧ (n : Int) < (len : Int) := by omega
      split at h
      · rename_i u hu
        cases h
        generalize hax : a.eval x = ax at hv
        cases hv with
        | agg h1 h2 =>
          obtain ⟨u', g1, g2⟩ := part_run (P := P) (σ := σ) ⟨h1, h2⟩ hb hn hu w
          refine Val.quiet hr (v' := u') ?_ g2
          unfold execOp
          simp [ho, Instr.index, hk, asIntOf, run_underlying ht, hax, e1, run_size hn, g1]
          intro hh; omega
      · cases h
  · cases h

theorem sound_ext (hr : R σ H w) (he : EnvRel σ e a) {x : Operand} {i : Nat} (ho : o.op = .extract x i) (h : aop P e H (.ext x i) = some (v, H')) :
    Val P (execOp a.eval o) σ H w v H' := by
  simp only [aop] at h
  split at h
  · rename_i vs hx
    have hv := aval_rel he hx
    split at h
    · rename_i u hu
      cases h
      generalize hax : a.eval x = ax at hv
      cases hv with
      | tuple h1 h2 =>
        obtain ⟨u', g1, g2⟩ := LRel.get? (σ := σ) ⟨h1, h2⟩ hu
        refine Val.quiet hr (v' := u') ?_ g2
        unfold execOp
        simp [ho, Instr.extract, hax, g1]
    · cases h
  · cases h

/-! ### Comparisons with nil -/

theorem nilness_rel {k : Nat} {x x' : Value} {b : Bool} (hx : VRel σ x x') (h : nilness k x = some b) : nilness k x' = some b := by
  match k with
  | 0 => cases hx <;> simp_all [nilness]
  | 1 => cases hx <;> simp_all [nilness]
  | 2 => cases hx <;> simp_all [nilness]
  | 3 => cases hx <;> simp_all [nilness]
  | 4 => cases hx <;> simp_all [nilness]
  | k + 5 => simp [nilness] at h

def kindOf : Nat → TypeDesc → Bool
  | 0, .pointer _ => true
  | 1, .slice _ => true
  | 2, .map .. => true
  | 3, .func .. => true
  | 4, .interface _ => true
  | _, _ => false

theorem nil0 {x : Value} {c : Bool} (h : nilness 0 x = some c) : ∃ p, x = .pointer p ∧ c = p.isNone := by
  cases x <;> simp_all [nilness]
theorem nil1 {x : Value} {c : Bool} (h : nilness 1 x = some c) : ∃ p m n, x = .slice p m n ∧ c = p.isNone := by
  cases x <;> simp_all [nilness]
theorem nil2 {x : Value} {c : Bool} (h : nilness 2 x = some c) : ∃ p, x = .map p ∧ c = p.isNone := by
  cases x <;> simp_all [nilness]
theorem nil3 {x : Value} {c : Bool} (h : nilness 3 x = some c) : (x = .nilFunc ∧ c = true) ∨ (∃ f p q, x = .func f p q ∧ c = false) := by
  cases x <;> simp_all [nilness]
theorem nil4 {x : Value} {c : Bool} (h : nilness 4 x = some c) : (x = .nilIface ∧ c = true) ∨ (∃ t u, x = .iface t u ∧ c = false) := by
  cases x <;> simp_all [nilness]

theorem equal_nil {k : Nat} {t : TypeId} {d : TypeDesc} {x y : Value} {c : Bool} (ht : P.underlying t = some d) (hk : kindOf k d = true)
    (h : (nilness k x = some true ∧ nilness k y = some c) ∨ (nilness k x = some c ∧ nilness k y = some true)) (w : World) :
    (Op.equal t x y).run P w = .ok c w := by
  unfold Op.equal
  generalize hm : Op.maxDepth = m
  have hm1 : ∃ m', m = m' + 1 := ⟨9999, hm.symm⟩
  obtain ⟨m', rfl⟩ := hm1
  clear hm
  rw [Op.equalIn]
  simp only [Sem.run_bind, run_underlying ht, Result.andThen_ok]
  match k, d, hk with
  | 0, .pointer el, _ =>
    rcases h with ⟨h1, h2⟩ | ⟨h1, h2⟩ <;> obtain ⟨p, rfl, hp⟩ := nil0 h1 <;> obtain ⟨q, rfl, hq⟩ := nil0 h2
    · cases p with
      | some _ => cases hp
      | none => subst hq; rfl
    · cases q with
      | some _ => cases hq
      | none => subst hp; cases p <;> rfl
  | 1, .slice el, _ =>
    rcases h with ⟨h1, h2⟩ | ⟨h1, h2⟩ <;> obtain ⟨p, _, _, rfl, hp⟩ := nil1 h1 <;> obtain ⟨q, _, _, rfl, hq⟩ := nil1 h2
    · cases p with
      | some _ => cases hp
      | none => subst hq; rfl
    · cases q with
      | some _ => cases hq
      | none => subst hp; cases p <;> rfl
  | 2, .map _ _, _ =>
    rcases h with ⟨h1, h2⟩ | ⟨h1, h2⟩ <;> obtain ⟨p, rfl, hp⟩ := nil2 h1 <;> obtain ⟨q, rfl, hq⟩ := nil2 h2
    · cases p with
      | some _ => cases hp
      | none => subst hq; rfl
    · cases q with
      | some _ => cases hq
      | none => subst hp; cases p <;> rfl
  | 3, .func _ _ _, _ =>
    rcases h with ⟨h1, h2⟩ | ⟨h1, h2⟩ <;> rcases nil3 h1 with ⟨rfl, e1⟩ | ⟨_, _, _, rfl, e1⟩ <;> rcases nil3 h2 with ⟨rfl, e2⟩ | ⟨_, _, _, rfl, e2⟩ <;> first | (cases e1; done) | (cases e2; done) | (subst e2; rfl) | (subst e1; rfl)
  | 4, .interface _, _ =>
    rcases h with ⟨h1, h2⟩ | ⟨h1, h2⟩ <;> rcases nil4 h1 with ⟨rfl, e1⟩ | ⟨_, _, rfl, e1⟩ <;> rcases nil4 h2 with ⟨rfl, e2⟩ | ⟨_, _, rfl, e2⟩ <;> first | (cases e1; done) | (cases e2; done) | (subst e2; rfl) | (subst e1; rfl)

def isConst : Operand → Bool
  | .const _ => true
  | _ => false

theorem sound_cmpref (hr : R σ H w) (he : EnvRel σ e a) {t t2 : TypeId} {d : TypeDesc} {x y : Operand} {k : Nat} {op : BinOp} {neg : Bool} (ho : o.op = .binOp op t x y t2)
    (ht : P.underlying t = some d) (hk : kindOf k d = true) (hop : (op = .eql ∧ neg = false) ∨ (op = .neq ∧ neg = true)) (hc : isConst x = true ∨ isConst y = true)
    (h : aop P e H (.cmpref k neg x y) = some (v, H')) : Val P (execOp a.eval o) σ H w v H' := by
  simp only [aop] at h
  split at h
  · rename_i u u2 hx hy
    have hu := aval_rel he hx
    have hu2 := aval_rel he hy
    have fin : ∀ c, ((nilness k u = some true ∧ nilness k u2 = some c) ∨ (nilness k u = some c ∧ nilness k u2 = some true)) → Val P (execOp a.eval o) σ H w (.bool (c != neg)) H := by
      intro c hcc
      have heq : (Op.equal t (a.eval x) (a.eval y)).run P w = .ok c w := by
        refine equal_nil ht hk ?_ w
        rcases hcc with ⟨h1, h2⟩ | ⟨h1, h2⟩
        · exact .inl ⟨nilness_rel hu h1, nilness_rel hu2 h2⟩
        · exact .inr ⟨nilness_rel hu h1, nilness_rel hu2 h2⟩
      have hgd : eqGuard op t x y (a.eval x) (a.eval y) = pure () := by
        have hn : (∃ b, nilness k (a.eval x) = some b) := by
          rcases hcc with ⟨h1, h2⟩ | ⟨h1, h2⟩ <;> exact ⟨_, nilness_rel hu h1⟩
        obtain ⟨b, hb⟩ := hn
        cases hax : a.eval x <;> rw [hax] at hb <;> first
          | (simp [nilness] at hb; done)
          | (cases op <;> rfl)
          | skip
        cases hay : a.eval y <;> first
          | (cases op <;> rfl)
          | skip
        rcases hc with hc | hc
        · cases x <;> first | (cases hc; done) | (cases op <;> rfl)
        · cases y <;> first | (cases hc; done) | (cases op <;> cases x <;> rfl)
      have hb : (binOp op t (a.eval x) (a.eval y)).run P w = .ok (.bool (c != neg)) w := by
        have hn : (∃ b, nilness k (a.eval x) = some b) := by
          rcases hcc with ⟨h1, h2⟩ | ⟨h1, h2⟩ <;> exact ⟨_, nilness_rel hu h1⟩
        obtain ⟨b, hb⟩ := hn
        rcases hop with ⟨rfl, rfl⟩ | ⟨rfl, rfl⟩
        · have : binOp .eql t (a.eval x) (a.eval y) = (do pure (.bool (← Op.equal t (a.eval x) (a.eval y)))) := by
            cases hax : a.eval x <;> rw [hax] at hb <;> first | rfl | (simp [nilness] at hb; done)
          rw [this]; simp [heq]
        · have : binOp .neq t (a.eval x) (a.eval y) = (do pure (.bool (!(← Op.equal t (a.eval x) (a.eval y))))) := by
            cases hax : a.eval x <;> rw [hax] at hb <;> first | rfl | (simp [nilness] at hb; done)
          rw [this]; simp [heq]
      refine Val.quiet hr (v' := .bool (c != neg)) ?_ (.bool _)
      unfold execOp
      simp only [ho]
      rw [hgd]
      simp [hb]
    split at h
    · rename_i c h1 h2
      cases h
      exact fin c (.inl ⟨h1, h2⟩)
    · rename_i c h1 h2 _
      cases h
      exact fin c (.inr ⟨by assumption, by assumption⟩)
    · cases h
  · cases h

end
end Go.Abs
