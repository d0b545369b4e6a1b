/- Regions that draw: names, and what stands ahead. Of no program. -/
import Derived.Test.YtfpocoongggehaaGreatDoorA27
set_option linter.all false
namespace Go.Abs
open Go
variable [Fixed]

theorem prim_builtin {P : Program} {b : Builtin} {o x : Oper} {args : List Operand} {tys : List TypeId} (h : lowBuiltin P b o args tys = some (.prim x)) : x = bare o := by
  unfold lowBuiltin at h
  (repeat' split at h) <;> first
    | (cases h; done)
    | (cases h; rfl)
    | (obtain ⟨_, hh⟩ := bif_some h; cases hh; done)

theorem prim_same {P : Program} {o x : Oper} (h : lowOp P o = some (.prim x)) : x = bare o := by
  unfold lowOp at h
  (repeat' split at h) <;> first
    | (cases h; done)
    | (cases h; rfl)
    | (obtain ⟨_, hh⟩ := bif_some h; cases hh; done)
    | (obtain ⟨_, hh, _⟩ := lowCmp_inv h; cases hh; done)
    | (exact prim_builtin h)
    | (rw [bif_beq] at h; split at h <;> first | (cases h; done) | (cases h; rfl))
    | (simp_all; done)

theorem low_hsel {P : Program} {o : Oper} {op : AOp} (h : lowOp P o = some op) : ∀ x, op = .prim x → ∀ cs b, x.op ≠ .select cs b := by
  intro x hx
  subst hx
  have := prim_same h
  subst this
  exact prim_sel ⟨_, h⟩

theorem eget_ekeep_of {e : Env} : ∀ {ks : List Nat} {t : Nat}, t ∈ ks → eget (ekeep e ks) t = eget e t := by
  intro ks
  induction ks with
  | nil => intro t h; cases h
  | cons k ks ih =>
    intro t h
    simp only [ekeep]
    by_cases hk : t = k
    · subst hk
      cases he : eget e t with
      | some v => simp only [eget, bif_beq, if_pos]
      | none =>
        cases h2 : eget (ekeep e ks) t with
        | none => rfl
        | some v => rw [eget_ekeep ks t v h2] at he; cases he
    · have ht : t ∈ ks := by
        rcases List.mem_cons.1 h with h1 | h1
        · exact absurd h1 hk
        · exact h1
      split
      · simp only [eget, bif_beq]
        rw [if_neg (fun hh => hk hh.symm)]; exact ih ht
      · exact ih ht

theorem aval_ekeep {P : Program} {ops : Array Oper} {o : Oper} {op : AOp} {e : Env} (h : lowOp P o = some op) : ∀ x ∈ op.opnds, aval (ekeep e (opTmps ops o)) x = aval e x := by
  intro x hx
  cases x with
  | tmp t => simp only [aval]; exact eget_ekeep_of (opTmps_opnds h t hx)
  | const v => rfl
  | global g => rfl
  | func f => rfl

theorem wanted_ekeep {P : Program} {nt : Nat} {ops : Array Oper} {o : Oper} {lo : LOp} {e : Env} (h : lowO P nt ops o = some lo) : wanted (ekeep e (opTmps ops o)) lo.guard = wanted e lo.guard := by
  obtain ⟨_, _, _, hg⟩ := lowO_inv h
  rcases hg with ⟨_, h2⟩ | ⟨j, want, t, h1, h2, h3⟩
  · rw [h2]; rfl
  · rw [h3]
    simp only [wanted]
    rw [eget_ekeep_of]
    unfold opTmps
    refine List.mem_append.2 (.inl ?_)
    rw [h1]; simp [h2]

theorem get_put (a : Act) (d : Option Tmp) (v : Value) (t : Nat) (hd : ∀ x, d = some x → x < a.tmps.size) : (a.put d v).tmps[t]? = if d = some t then some v else a.tmps[t]? := by
  cases d with
  | none => simp [Act.put]
  | some d =>
    simp only [Act.put, Option.some.injEq]
    rw [Array.getElem?_setIfInBounds]
    by_cases h : d = t
    · subst h; simp [hd d rfl]
    · rw [if_neg h, if_neg h]

/-- The names when some operations have been carried out. -/
structure TInv (los : List LOp) (recs : List Rec) (e : Env) (listed : Array Bool) (σ : Map) (a : Act) : Prop where
  old : ∀ (t : Nat) (u : Value), (∀ (i : Nat) (lo : LOp), los[i]? = some lo → listed.getD i false = true → lo.dst ≠ some t) → eget e t = some u → ∃ v', a.tmps[t]? = some v' ∧ VRel σ u v'
  last : ∀ (t i : Nat) (lo : LOp) (r : Rec), los[i]? = some lo → recs[i]? = some r → listed.getD i false = true → lo.dst = some t →
    (∀ (k : Nat) (lk : LOp), i < k → los[k]? = some lk → listed.getD k false = true → lk.dst ≠ some t) → ∃ v', a.tmps[t]? = some v' ∧ VRel σ r.v v'

theorem TInv.put {los : List LOp} {recs : List Rec} {e : Env} {listed : Array Bool} {σ σ' : Map} {a : Act} {i : Nat} {lo : LOp} {r : Rec} {v' : Value} (h : TInv los recs e listed σ a)
    (hi : i < listed.size) (h1 : los[i]? = some lo) (h2 : recs[i]? = some r) (hx : ∀ b l, σ b = some l → σ' b = some l) (hv : VRel σ' r.v v') (hd : ∀ x, lo.dst = some x → x < a.tmps.size)
    (hlast : ∀ (k : Nat) (lk : LOp) (t : Nat), i < k → los[k]? = some lk → listed.getD k false = true → lo.dst = some t → lk.dst ≠ some t) :
    TInv los recs e (listed.setIfInBounds i true) σ' (a.put lo.dst v') := by
  constructor
  · intro t u hno hu
    have hdt : lo.dst ≠ some t := hno i lo h1 (by rw [getD_set _ _ _ hi, if_pos rfl])
    rw [get_put _ _ _ _ hd, if_neg hdt]
    obtain ⟨x, g1, g2⟩ := h.old t u (fun k lk hk1 hk2 => hno k lk hk1 (by rw [getD_set _ _ _ hi]; split; rfl; exact hk2)) hu
    exact ⟨x, g1, g2.mono hx⟩
  · intro t k lk rk q1 q2 q3 q4 q5
    rw [get_put _ _ _ _ hd]
    by_cases hdt : lo.dst = some t
    · rw [if_pos hdt]
      have hki : k = i := by
        rcases Nat.lt_trichotomy k i with hh | hh | hh
        · exact absurd hdt (q5 i lo hh h1 (by rw [getD_set _ _ _ hi, if_pos rfl]))
        · exact hh
        · rw [getD_set _ _ _ hi, if_neg (by omega)] at q3
          exact absurd q4 (hlast k lk t hh q1 q3 hdt)
      subst hki
      rw [h2] at q2; cases q2
      exact ⟨v', rfl, hv⟩
    · rw [if_neg hdt]
      have hki : k ≠ i := by intro hh; subst hh; rw [h1] at q1; cases q1; exact hdt q4
      rw [getD_set _ _ _ hi, if_neg hki] at q3
      obtain ⟨x, g1, g2⟩ := h.last t k lk rk q1 q2 q3 q4 (fun j lj hj1 hj2 hj3 => q5 j lj hj1 hj2 (by rw [getD_set _ _ _ hi]; split; rfl; exact hj3))
      exact ⟨x, g1, g2.mono hx⟩

section
variable {E : Env0} {n nt : Nat} {ops : Array Oper} {los : List LOp} {e : Env} {H : Heap} {e' : Env} {H' : Heap} {recs : List Rec} {σ0 : Map} {w0 : World} {a0 : Act}

theorem Setting.forward (s : Setting E n nt ops los e H e' H' recs σ0 w0 a0) : Forward ops := by
  have h := s.dr
  unfold drawOk at h
  simp only [Bool.and_eq_true, List.all_eq_true] at h
  intro j o hj ed he hb
  have := h.1 (o, j) (List.mem_zipIdx_iff_getElem?.2 (by simpa using hj))
  simp only [Array.all_eq_true_iff_forall_mem] at this
  have := this ed he
  rw [hb] at this
  simp only [Bool.not_true, Bool.false_or] at this
  exact Nat.le_of_ble_eq_true this

theorem Setting.pair (s : Setting E n nt ops los e H e' H' recs σ0 w0 a0) {i j : Nat} (hij : i < j) (hj : j < ops.size) : ahead (Region.before ops) i j = true ∨ apartOk ops los i j = true := by
  have h := s.dr
  unfold drawOk at h
  simp only [Bool.and_eq_true, List.all_eq_true, List.mem_range, Bool.or_eq_true] at h
  exact h.2 j hj i hij

theorem apart_inv {ops : Array Oper} {los : List LOp} {i j : Nat} {x y : Oper} {a c : LOp} (h1 : ops[i]? = some x) (h2 : ops[j]? = some y) (h3 : los[i]? = some a) (h4 : los[j]? = some c) (h : apartOk ops los i j = true) :
    (∀ d, x.dst = some d → d ∉ opTmps ops y ∧ y.dst ≠ some d) ∧ (∀ d, y.dst = some d → d ∉ opTmps ops x) ∧ ¬ (a.op.kind = .write ∧ c.op.kind = .write) := by
  unfold apartOk at h
  rw [h1, h2, h3, h4] at h
  simp only [Bool.and_eq_true] at h
  obtain ⟨⟨g1, g2⟩, g3⟩ := h
  refine ⟨fun d hd => ?_, fun d hd => ?_, ?_⟩
  · rw [hd] at g1
    simp only [Bool.and_eq_true, Bool.not_eq_true'] at g1
    refine ⟨fun hm => ?_, fun hy => ?_⟩
    · rw [mem_iff.2 hm] at g1; simp at g1
    · rw [hy] at g1; simp at g1
  · rw [hd] at g2
    simp only [Bool.not_eq_true'] at g2
    intro hm
    rw [mem_iff.2 hm] at g2; cases g2
  · intro ⟨k1, k2⟩
    rw [k1, k2] at g3; simp at g3

theorem ready_inv {listed : Array Bool} {i : Nat} (h : i ∈ Region.ready .any ops listed) : i < ops.size ∧ listed.getD i true = false ∧ ∀ o, ops[i]? = some o → ∀ ed ∈ o.after, Region.binds .any ed = true → listed.getD ed.on false = true := by
  unfold Region.ready at h
  simp only [List.mem_filter, List.mem_range, Bool.and_eq_true, Bool.not_eq_true'] at h
  refine ⟨h.1, h.2.1, fun o ho ed he hb => ?_⟩
  have := h.2.2
  rw [ho] at this
  simp only [Option.map_some, Option.getD_some, Array.all_eq_true_iff_forall_mem] at this
  have := this ed he
  rw [hb] at this
  simpa using this

/-- What is known of an operation whose turn it may be. -/
structure Turn (ops : Array Oper) (los : List LOp) (listed : Array Bool) (i : Nat) : Prop where
  lt : i < ops.size
  un : listed.getD i false = false
  bef : ∀ k, ahead (Region.before ops) k i = true → listed.getD k false = true
  aft : ∀ k, listed.getD k false = true → ahead (Region.before ops) i k = false

theorem Setting.turn (s : Setting E n nt ops los e H e' H' recs σ0 w0 a0) {listed : Array Bool} (hsz : listed.size = ops.size) (hc : Closed ops listed) {i : Nat} (h : i ∈ Region.ready .any ops listed) : Turn ops los listed i := by
  obtain ⟨h1, h2, h3⟩ := ready_inv h
  have hun : listed.getD i false = false := by
    rw [Array.getD_eq_getD_getElem?] at h2 ⊢
    rw [Array.getElem?_eq_getElem (by omega)] at h2 ⊢
    exact h2
  refine ⟨h1, hun, fun k hk => ?_, fun k hk => ?_⟩
  · exact closed_ahead s.forward hc i ops[i] (Array.getElem?_eq_getElem h1) (h3 _ (Array.getElem?_eq_getElem h1)) hk
  · cases ha : ahead (Region.before ops) i k with
    | false => rfl
    | true =>
      exfalso
      have hks : k < ops.size := by
        rcases Nat.lt_or_ge k ops.size with hh | hh
        · exact hh
        · rw [Array.getD_eq_getD_getElem?, Array.getElem?_eq_none (by omega)] at hk; cases hk
      have := closed_ahead s.forward hc k ops[k] (Array.getElem?_eq_getElem hks) (fun ed he hb => hc k _ (Array.getElem?_eq_getElem hks) hk ed he hb) ha
      rw [hun] at this; cases this

/-- An operation finds its names as the text's own order has them. -/
theorem Setting.names (s : Setting E n nt ops los e H e' H' recs σ0 w0 a0) {listed : Array Bool} {σ : Map} {a : Act} (ht : TInv los recs e listed σ a) {i : Nat} (tu : Turn ops los listed i) {o : Oper} (ho : ops[i]? = some o) :
    EnvRel σ (ekeep (eAt recs e' i) (opTmps ops o)) a := by
  intro t u hu
  by_cases hm : t ∈ opTmps ops o
  · rw [eget_ekeep_of hm] at hu
    have later : ∀ (k : Nat) (lk : LOp), i ≤ k → los[k]? = some lk → listed.getD k false = true → lk.dst ≠ some t := by
      intro k lk hk hl hk2 hd
      rcases Nat.lt_or_ge i k with hik | hik
      · obtain ⟨ok, lk', _, q1, q2, _, q4, _⟩ := s.get (s.lt hl)
        rw [hl] at q2; cases q2
        obtain ⟨lo, hlo⟩ : ∃ lo, los[i]? = some lo := ⟨_, List.getElem?_eq_getElem (by rw [s.len]; exact tu.lt)⟩
        rcases s.pair hik (s.lt hl) with hh | hh
        · rw [tu.aft k hk2] at hh; cases hh
        · obtain ⟨_, g2, _⟩ := apart_inv ho q1 hlo hl hh
          obtain ⟨_, l2, _, _⟩ := lowO_inv q4
          exact g2 t (by rw [← l2]; exact hd) hm
      · have : k = i := by omega
        subst this
        rw [tu.un] at hk2; cases hk2
    have earlier : ∀ (k : Nat) (lk : LOp), k < i → los[k]? = some lk → lk.dst = some t → listed.getD k false = true := by
      intro k lk hk hl hd
      obtain ⟨ok, lk', _, q1, q2, _, q4, _⟩ := s.get (s.lt hl)
      rw [hl] at q2; cases q2
      obtain ⟨lo, hlo⟩ : ∃ lo, los[i]? = some lo := ⟨_, List.getElem?_eq_getElem (by rw [s.len]; exact tu.lt)⟩
      rcases s.pair hk tu.lt with hh | hh
      · exact tu.bef k hh
      · obtain ⟨g1, _, _⟩ := apart_inv q1 ho hl hlo hh
        obtain ⟨_, l2, _, _⟩ := lowO_inv q4
        exact absurd hm (g1 t (by rw [← l2]; exact hd)).1
    rcases s.c.eget t i (by rw [s.len]; exact Nat.le_of_lt tu.lt) with ⟨h1, h2⟩ | ⟨k, lk, rk, h1, h2, h3, h4, h5, h6⟩
    · rw [h2] at hu
      refine ht.old t u (fun k lk hk1 hk2 hd => ?_) hu
      rcases Nat.lt_or_ge k i with hki | hki
      · exact h1 k lk hki hk1 hd
      · exact later k lk hki hk1 hk2 hd
    · rw [h6] at hu
      cases hu
      refine ht.last t k lk rk h2 h3 (earlier k lk h1 h2 h4) h4 (fun j lj hj1 hj2 hj3 => ?_)
      rcases Nat.lt_or_ge j i with hji | hji
      · exact h5 j lj hj1 hji hj2
      · exact later j lj hji hj2 hj3
  · exfalso
    have : ∀ (ks : List Nat), t ∉ ks → eget (ekeep (eAt recs e' i) ks) t = none := by
      intro ks
      induction ks with
      | nil => intro _; rfl
      | cons k ks ih =>
        intro hk
        have h1 : t ≠ k := fun hh => hk (by simp [hh])
        have h2 : t ∉ ks := fun hh => hk (by simp [hh])
        simp only [ekeep]
        split
        · simp only [eget, bif_beq]; rw [if_neg (fun hh => h1 hh.symm)]; exact ih h2
        · exact ih h2
    rw [this _ hm] at hu; cases hu

/-- No operation behind it has yet put the same name. -/
theorem Setting.lastput (s : Setting E n nt ops los e H e' H' recs σ0 w0 a0) {listed : Array Bool} {i : Nat} (tu : Turn ops los listed i) {lo : LOp} (h1 : los[i]? = some lo) (k : Nat) (lk : LOp) (t : Nat) (hk : i < k) (hl : los[k]? = some lk)
    (hk2 : listed.getD k false = true) (hd : lo.dst = some t) : lk.dst ≠ some t := by
  intro hd2
  obtain ⟨ok, lk', _, q1, q2, _, q4, _⟩ := s.get (s.lt hl)
  rw [hl] at q2; cases q2
  obtain ⟨o, lo', _, p1, p2, _, p4, _⟩ := s.get tu.lt
  rw [h1] at p2; cases p2
  rcases s.pair hk (s.lt hl) with hh | hh
  · rw [tu.aft k hk2] at hh; cases hh
  · obtain ⟨g1, _, _⟩ := apart_inv p1 q1 h1 hl hh
    obtain ⟨_, l2, _, _⟩ := lowO_inv q4
    obtain ⟨_, m2, _, _⟩ := lowO_inv p4
    exact (g1 t (by rw [← m2]; exact hd)).2 (by rw [← l2]; exact hd2)

theorem Setting.final (s : Setting E n nt ops los e H e' H' recs σ0 w0 a0) {listed : Array Bool} {σ : Map} {w : World} {a : Act} {p : Nat} (h : HInv E ops los H recs σ0 w0 listed σ w p) (ht : TInv los recs e listed σ a)
    (hall : ∀ i, i < ops.size → listed.getD i false = true) : EnvRel σ e' a ∧ Step σ0 H w0 σ H' w := by
  have hsz : recs[ops.size]? = none := List.getElem?_eq_none (by rw [s.c.len, s.len]; exact Nat.le_refl _)
  have he : eAt recs e' ops.size = e' := by simp [eAt, hsz]
  have hH : HAt recs H' ops.size = H' := by simp [HAt, hsz]
  constructor
  · intro t u hu
    rcases s.c.eget t ops.size (by rw [s.len]; exact Nat.le_refl _) with ⟨h1, h2⟩ | ⟨k, lk, rk, h1, h2, h3, h4, h5, h6⟩
    · rw [he] at h2
      rw [h2] at hu
      exact ht.old t u (fun k lk hk1 _ => h1 k lk (s.lt hk1) hk1) hu
    · rw [he, hu] at h6
      cases h6
      exact ht.last t k lk rk h2 h3 (hall k h1) h4 (fun j lj hj1 hj2 _ => h5 j lj hj1 (s.lt hj2) hj2)
  · have h' := h.move (q := ops.size) (Nat.le_refl _) (fun i lo h1 _ => ⟨fun _ => s.lt h1, fun hi => hall i hi⟩)
    have hV := s.V_next (Nat.le_refl ops.size)
    rw [hH] at hV
    obtain ⟨⟨σi, wi, ai, _, _, g⟩, _⟩ := s.ghost ops.size (Nat.le_refl _)
    rw [hH] at g
    have hR : R σ H' w := by
      refine h'.rel.congr (fun b => ?_) hV.2.1
      by_cases hb : b < H'.next
      · rw [s.V_old (j := ops.size) (Nat.le_refl _) rfl (by rw [hH]; exact hb), hH]
      · rw [s.V_fresh (Nat.le_refl _) b (by omega), g.rel.fresh b (by omega)]
    exact ⟨h.ext, h.new, g.next, hR, h.size, h.keep, g.old, g.keepA, h.hush⟩

theorem Setting.start (s : Setting E n nt ops los e H e' H' recs σ0 w0 a0) : HInv E ops los H recs σ0 w0 (Array.replicate ops.size false) σ0 w0 0 ∧ TInv los recs e (Array.replicate ops.size false) σ0 a0 ∧ Closed ops (Array.replicate ops.size false) := by
  have hf : ∀ k, (Array.replicate ops.size false).getD k false = false := by
    intro k
    rw [Array.getD_eq_getD_getElem?, Array.getElem?_replicate]; split <;> rfl
  have hg : ∀ b, b < H.next → (VAt H los recs 0).get b = H.get b := fun b hb => addLate_old _ _ b hb
  refine ⟨⟨by simp, Nat.zero_le _, fun i lo _ _ => ⟨fun h => (by rw [hf] at h; cases h), fun h => by omega⟩, ⟨⟨fun b hb => s.V_fresh (Nat.zero_le _) b hb, fun b x hx => s.V_ids (Nat.zero_le _) b x hx, ?_, ?_, ?_, s.R0.inb⟩, fun c hc => ⟨(s.R0.fix c hc).1, (s.R0.fix c hc).2.1, fun b l x hb hx hl => (s.R0.fix c hc).2.2 b l x hb (by rw [← hg b (s.R0.dom b l hb)]; exact hx) hl⟩⟩,
    fun _ _ h => h, fun b l h1 h2 => (by rw [h2] at h1; cases h1), Nat.le_refl _, fun _ _ _ => rfl, ?_, ?_, ?_, ⟨rfl, rfl, rfl⟩⟩, ⟨fun t u _ hu => s.env t u hu, fun t i lo r _ _ h => (by rw [hf] at h; cases h)⟩, fun j o _ h => (by rw [hf] at h; cases h)⟩
  · intro b l hb
    exact Nat.lt_of_lt_of_le (s.R0.dom b l hb) (s.V_next (p := 0) (Nat.zero_le _)).1
  · intro b l x hb hx
    rw [hg b (s.R0.dom b l hb)] at hx
    exact s.R0.live b l x hb hx
  · intro b b' l l' x x' hb hb' hx hx'
    rw [hg b (s.R0.dom b l hb)] at hx
    rw [hg b' (s.R0.dom b' l' hb')] at hx'
    exact s.R0.inj b b' l l' x x' hb hb' hx hx'
  · intro b l hb
    exact .inl (s.R0.dom b l hb)
  · intro i lo r h1 h2 h3 h4 _
    cases hs : σ0 r.H.next with
    | none => rfl
    | some l =>
      have hd := s.R0.dom _ l hs
      obtain ⟨_, _, _, _, q, _⟩ := s.alloc_get h1 h2 h3 h4
      have := s.next_mono (Nat.zero_le i) (Nat.le_of_lt (s.lt h1))
      rw [s.c.H0] at this
      rw [q] at hd
      omega
  · intro i lo r h1 h2 h3 h4 _ hb
    exfalso
    obtain ⟨_, _, _, _, q, _⟩ := s.alloc_get h1 h2 h3 h4
    have := s.next_mono (Nat.zero_le i) (Nat.le_of_lt (s.lt h1))
    rw [s.c.H0] at this
    simp only [SAt] at hb
    rw [q] at hb
    omega

end
end Go.Abs
