/- Regions that draw: any order. Of no program. -/
import Derived.Test.YtfpocoongggehaaGreatDoorA28
set_option linter.all false
namespace Go.Abs
open Go
variable [Fixed]

theorem countP_lt (f : Nat → Bool) (p : Nat) : ∀ n, p ≤ n → (List.range n).countP (fun i => f i && decide (i < p)) = (List.range p).countP f := by
  intro n
  induction n with
  | zero => intro h; have : p = 0 := by omega
            subst this; rfl
  | succ n ih =>
    intro h
    by_cases hp : p = n + 1
    · subst hp
      refine List.countP_congr fun x hx => ?_
      simp only [List.mem_range] at hx
      simp [hx]
    · rw [List.range_succ, List.countP_append, ih (by omega)]
      have : decide (n < p) = false := by simp; omega
      simp [this]

theorem cntW_eq (los : List LOp) : ∀ p, p ≤ los.length → cntW los p = (List.range p).countP (isWriter los) := by
  intro p
  induction p with
  | zero => intro _; rfl
  | succ p ih =>
    intro hp
    have hlo : los[p]? = some (los[p]'(by omega)) := List.getElem?_eq_getElem _
    rw [List.range_succ, List.countP_append, ← ih (by omega)]
    unfold cntW
    rw [List.take_add_one, List.countP_append, hlo]
    congr 1
    simp [isWriter, hlo]

/-- One less. -/
theorem countP_less (f g : Nat → Bool) (i : Nat) (hi : f i = true) (hg : g i = false) (h : ∀ k, k ≠ i → g k = f k) : ∀ n, i < n → (List.range n).countP f = (List.range n).countP g + 1 := by
  intro n
  induction n with
  | zero => intro h; omega
  | succ n ih =>
    intro hn
    rw [List.range_succ, List.countP_append, List.countP_append]
    by_cases hin : i = n
    · subst hin
      have : (List.range i).countP f = (List.range i).countP g := by
        refine List.countP_congr fun x hx => ?_
        simp only [List.mem_range] at hx
        rw [h x (by omega)]
      rw [this]
      simp [hi, hg]
    · rw [ih (by omega)]
      have : g n = f n := h n (fun hh => hin hh.symm)
      simp [this]; omega

theorem drawsOk_get {P : Program} {H : Heap} {los : List LOp} {recs : List Rec} : ∀ {chk : List (Nat × Nat × Nat)}, drawsOk P H los recs chk = true → ∀ {j l h : Nat}, (j, l, h) ∈ chk → ∀ {o : LOp} {x : Rec}, los[j]? = some o → recs[j]? = some x → x.ex = true →
    ∀ S ∈ (((H :: snaps los recs).drop l).take (h + 1 - l)), ∃ G, aop P x.e (addLate S (lates los recs)) o.op = some (x.v, G) := by
  intro chk
  induction chk with
  | nil => intro _ j l h hm; cases hm
  | cons c chk ih =>
    intro hd j l h hm o x h1 h2 h3 S hS
    obtain ⟨j0, l0, h0⟩ := c
    simp only [drawsOk, Bool.and_eq_true] at hd
    rcases List.mem_cons.1 hm with hm | hm
    · cases hm
      have := hd.1
      rw [h1, h2] at this
      simp only [h3, Bool.not_true, Bool.false_or, List.all_eq_true] at this
      have := this S hS
      split at this
      · rename_i v' G hg
        exact ⟨G, by rw [hg, veq_eq this]⟩
      · cases this
    · exact ih hd.2 hm h1 h2 h3 S hS

section
variable {E : Env0} {n nt : Nat} {ops : Array Oper} {los : List LOp} {e : Env} {H : Heap} {e' : Env} {H' : Heap} {recs : List Rec} {σ0 : Map} {w0 : World} {a0 : Act}

theorem runOp_aop {E : Env0} {m : Nat} {op : AOp} {e : Env} {H : Heap} {x : Value × Heap} (hk : op.kind ≠ .write) (h : runOp E m op e H = some x) : aop E.P e H op = some x := by
  cases m with
  | zero => simp [runOp] at h
  | succ m => cases op <;> first | exact h | exact absurd rfl hk

theorem aop_runOp {E : Env0} {m : Nat} {op : AOp} {e G : Env} {H : Heap} {H2 : Heap} {x y : Value × Heap} (hk : op.kind ≠ .write) (hr : runOp E m op e H = some y) (h : aop E.P G H2 op = some x) : runOp E m op G H2 = some x := by
  cases m with
  | zero => simp [runOp] at hr
  | succ m => cases op <;> first | exact h | exact absurd rfl hk

/-- A read, between whichever writers it stands. -/
theorem Setting.reads (s : Setting E n nt ops los e H e' H' recs σ0 w0 a0) {listed : Array Bool} {σ : Map} {w : World} {p i : Nat} {lo : LOp} {r : Rec} (h : HInv E ops los H recs σ0 w0 listed σ w p) (tu : Turn ops los listed i)
    (h1 : los[i]? = some lo) (h2 : recs[i]? = some r) (hk : lo.op.kind = .read) (hx : r.ex = true) (ha : aop E.P r.e r.H lo.op = some (r.v, r.H')) : aop E.P r.e (VAt H los recs p) lo.op = some (r.v, VAt H los recs p) := by
  have hwl : ∀ k, isWriter los k = true → ∃ lk, los[k]? = some lk ∧ lk.op.kind = .write := by
    intro k hw
    unfold isWriter at hw
    split at hw
    · rename_i a ha; exact ⟨a, ha, by simpa using hw⟩
    · cases hw
  have hpl : p ≤ los.length := by rw [s.len]; exact h.pp
  have hil : i ≤ los.length := by rw [s.len]; exact Nat.le_of_lt tu.lt
  let L := (List.range ops.size).countP fun k => isWriter los k && ahead (Region.before ops) k i
  let U := (List.range ops.size).countP fun k => isWriter los k && !ahead (Region.before ops) i k
  have cp : cntW los p = (List.range ops.size).countP fun k => isWriter los k && decide (k < p) := by
    rw [countP_lt _ _ _ h.pp, cntW_eq los p hpl]
  have ci : cntW los i = (List.range ops.size).countP fun k => isWriter los k && decide (k < i) := by
    rw [countP_lt _ _ _ (Nat.le_of_lt tu.lt), cntW_eq los i hil]
  have fwd : ∀ k, k < ops.size → ahead (Region.before ops) k i = true → k < i := by
    intro k _ hk
    have key : ∀ (j : Nat) (o : Oper), ops[j]? = some o → ahead (Region.before ops) k j = true → k < j := by
      intro j
      induction j using Nat.strongRecOn with
      | _ j ih =>
        intro o ho hh
        obtain ⟨ed, q1, q2, q3⟩ := ahead_step ho (s.forward j o ho) hh
        have hlt := s.forward j o ho ed q1 q2
        rcases q3 with q3 | q3
        · omega
        · have : ed.on < ops.size := by
            have : j < ops.size := by
              rcases Nat.lt_or_ge j ops.size with hh | hh
              · exact hh
              · rw [Array.getElem?_eq_none hh] at ho; cases ho
            omega
          have := ih ed.on hlt ops[ed.on] (Array.getElem?_eq_getElem this) q3
          omega
    exact key i _ (Array.getElem?_eq_getElem tu.lt) hk
  have bwd : ∀ k, k < i → ahead (Region.before ops) i k = false := by
    intro k hki
    cases hh : ahead (Region.before ops) i k with
    | false => rfl
    | true =>
      exfalso
      have key : ∀ (j : Nat) (o : Oper), ops[j]? = some o → ahead (Region.before ops) i j = true → i < j := by
        intro j
        induction j using Nat.strongRecOn with
        | _ j ih =>
          intro o ho hh
          obtain ⟨ed, q1, q2, q3⟩ := ahead_step ho (s.forward j o ho) hh
          have hlt := s.forward j o ho ed q1 q2
          rcases q3 with q3 | q3
          · omega
          · have : ed.on < ops.size := by
              have : j < ops.size := by
                rcases Nat.lt_or_ge j ops.size with hh | hh
                · exact hh
                · rw [Array.getElem?_eq_none hh] at ho; cases ho
              omega
            have := ih ed.on hlt ops[ed.on] (Array.getElem?_eq_getElem this) q3
            omega
      have := key k _ (Array.getElem?_eq_getElem (show k < ops.size by have := tu.lt; omega)) hh
      omega
  have mono : ∀ (f g : Nat → Bool), (∀ k, k < ops.size → f k = true → g k = true) → (List.range ops.size).countP f ≤ (List.range ops.size).countP g :=
    fun f g hfg => List.countP_mono_left fun x hx => hfg x (List.mem_range.1 hx)
  have Lp : L ≤ cntW los p := by
    rw [cp]
    refine mono _ _ fun k hks hk => ?_
    simp only [Bool.and_eq_true, decide_eq_true_eq] at hk ⊢
    obtain ⟨lk, q1, q2⟩ := hwl k hk.1
    exact ⟨hk.1, (h.wr k lk q1 q2).1 (tu.bef k hk.2)⟩
  have pU : cntW los p ≤ U := by
    rw [cp]
    refine mono _ _ fun k hks hk => ?_
    simp only [Bool.and_eq_true, decide_eq_true_eq, Bool.not_eq_true'] at hk ⊢
    obtain ⟨lk, q1, q2⟩ := hwl k hk.1
    exact ⟨hk.1, tu.aft k ((h.wr k lk q1 q2).2 hk.2)⟩
  have Li : L ≤ cntW los i := by
    rw [ci]
    refine mono _ _ fun k hks hk => ?_
    simp only [Bool.and_eq_true, decide_eq_true_eq] at hk ⊢
    exact ⟨hk.1, fwd k hks hk.2⟩
  have iU : cntW los i ≤ U := by
    rw [ci]
    refine mono _ _ fun k hks hk => ?_
    simp only [Bool.and_eq_true, decide_eq_true_eq, Bool.not_eq_true'] at hk ⊢
    exact ⟨hk.1, bwd k hk.2⟩
  have sp := snaps_at los recs H p s.c.len hpl
  have si := snaps_at los recs H i s.c.len hil
  by_cases hLU : L < U
  · have hmem : (i, L, U) ∈ chkOf ops los := by
      unfold chkOf
      refine List.mem_filterMap.2 ⟨i, List.mem_range.2 tu.lt, ?_⟩
      have hd : decide (lo.op.kind = .read) = true := by simp [hk]
      simp only [h1, hd, cond_true, ← List.countP_eq_length_filter]
      have hb : Nat.blt L U = true := Nat.ble_eq_true_of_le hLU
      show (bif Nat.blt L U then some (i, L, U) else none) = _
      rw [hb]; rfl
    have hS : SAt H los recs p ∈ (((H :: snaps los recs).drop L).take (U + 1 - L)) := by
      refine List.mem_iff_getElem?.2 ⟨cntW los p - L, ?_⟩
      rw [List.getElem?_take_of_lt (by omega), List.getElem?_drop]
      have : L + (cntW los p - L) = cntW los p := by omega
      rw [this]; exact sp
    obtain ⟨G, hG⟩ := drawsOk_get s.chk hmem h1 h2 hx _ hS
    have := (aop_read hk hG).1
    rw [this] at hG
    exact hG
  · have hc : cntW los p = cntW los i := by omega
    rw [hc, si] at sp
    have hS : SAt H los recs p = SAt H los recs i := (Option.some.inj sp).symm
    refine (aop_read hk ha).2 _ fun b x hb => ?_
    obtain ⟨r', p1, _, p3⟩ := s.c.recAt h1
    rw [h2] at p1; cases p1
    rw [p3] at hb
    have hlt : b < (HAt recs H' i).next := by
      rcases Nat.lt_or_ge b (HAt recs H' i).next with hh | hh
      · exact hh
      · rw [s.fresh (Nat.le_of_lt tu.lt) b hh] at hb; cases hb
    rw [s.V_old (j := i) (Nat.le_of_lt tu.lt) hS hlt]; exact hb

/-- An operation whose turn it is. -/
theorem Setting.turnOp (s : Setting E n nt ops los e H e' H' recs σ0 w0 a0) {listed : Array Bool} {σ : Map} {w : World} {a : Act} {p i : Nat} (h : HInv E ops los H recs σ0 w0 listed σ w p) (ht : TInv los recs e listed σ a)
    (tu : Turn ops los listed i) (hsz : a.tmps.size = nt) (hd : a.defers = []) (K : Act → World → Prop) (Q : Exit → Act → World → Prop)
    (hK : ∀ σ' w' a' p', HInv E ops los H recs σ0 w0 (listed.setIfInBounds i true) σ' w' p' → TInv los recs e (listed.setIfInBounds i true) σ' a' → a'.tmps.size = nt → a'.defers = [] → K a' w') :
    wpOp E.P ops Q i K a w := by
  obtain ⟨o, lo, r, g1, g2, g3, g4, g5, g6⟩ := s.get tu.lt
  obtain ⟨l1, l2, l3, _⟩ := lowO_inv g4
  have hil : i < listed.size := by rw [h.sz]; exact tu.lt
  have henv := s.names ht tu g1
  rw [← g5] at henv
  have done : ∀ σ' w' v' p', (∀ b l, σ b = some l → σ' b = some l) → VRel σ' r.v v' → HInv E ops los H recs σ0 w0 (listed.setIfInBounds i true) σ' w' p' → K (a.put o.dst v') w' := by
    intro σ' w' v' p' hext hv hh
    refine hK σ' w' _ p' hh ?_ (by rw [size_put]; exact hsz) (by rw [defers_put]; exact hd)
    rw [← l2]
    exact ht.put hil g2 g3 hext hv (fun x hx => by rw [hsz]; exact l3 x (by rw [← l2]; exact hx)) (fun k lk t hk hl hk2 hdd => s.lastput tu g2 k lk t hk hl hk2 hdd)
  have hwr : lo.op.kind = .write → HInv E ops los H recs σ0 w0 listed σ w i := by
    intro hk
    refine h.move (Nat.le_of_lt tu.lt) fun k lk hl hk2 => ⟨fun hkl => ?_, fun hki => ?_⟩
    · rcases Nat.lt_trichotomy k i with hh | hh | hh
      · exact hh
      · subst hh; rw [tu.un] at hkl; cases hkl
      · exfalso
        obtain ⟨ok, lk', _, q1, q2, _⟩ := s.get (s.lt hl)
        rw [hl] at q2; cases q2
        rcases s.pair hh (s.lt hl) with h3 | h3
        · rw [tu.aft k hkl] at h3; cases h3
        · exact (apart_inv g1 q1 g2 hl h3).2.2 ⟨hk, hk2⟩
    · obtain ⟨ok, lk', _, q1, q2, _⟩ := s.get (s.lt hl)
      rw [hl] at q2; cases q2
      rcases s.pair hki tu.lt with h3 | h3
      · exact tu.bef k h3
      · exact absurd ⟨hk2, hk⟩ (apart_inv q1 g1 hl g2 h3).2.2
  unfold wpOp
  rw [g1]
  simp only
  cases hx : r.ex with
  | false =>
    obtain ⟨hw, hv, hH⟩ := s.c.skip i lo r g2 g3 hx
    have hw2 := wanted_rel g4 henv (by rw [wanted_ekeep g4]; exact hw)
    rw [hw2, if_neg (by simp)]
    by_cases hk : lo.op.kind = .write
    · have h' := hwr hk
      have st := Step.refl (h'.cut s)
      rw [show (Step (σ.cut (HAt recs H' i).next) (HAt recs H' i) w (σ.cut (HAt recs H' i).next) (HAt recs H' i) w) = Step (σ.cut (HAt recs H' i).next) (HAt recs H' i) w (σ.cut (HAt recs H' i).next) r.H' w by rw [hH, g6]] at st
      obtain ⟨k1, _, k2⟩ := h'.writer s g2 g3 hk st
      exact done _ _ _ _ k1 (by rw [hv]; exact undef_rel _) k2
    · exact done _ _ _ _ (fun _ _ hh => hh) (by rw [hv]; exact undef_rel _) (h.quiet s g2 g3 hk (by simp [hx]) (Step.refl h.rel))
  | true =>
    obtain ⟨hw, m, hm, hrun⟩ := s.c.ex i lo r g2 g3 hx
    have hw2 := wanted_rel g4 henv (by rw [wanted_ekeep g4]; exact hw)
    rw [hw2, if_pos rfl]
    left
    have congr : ∀ G, runOp E m lo.op (ekeep r.e (opTmps ops o)) G = runOp E m lo.op r.e G := fun G => runOp_congr (low_hsel l1) (aval_ekeep (P := E.P) (ops := ops) l1)
    have quiet : ∀ (hk : lo.op.kind ≠ .write) (hna : lo.op.kind ≠ .alloc), aop E.P r.e (VAt H los recs p) lo.op = some (r.v, VAt H los recs p) → o.wp E.P a w K Q := by
      intro hk hna ha
      have hr2 : runOp E m lo.op (ekeep r.e (opTmps ops o)) (VAt H los recs p) = some (r.v, VAt H los recs p) := by
        rw [congr]; exact aop_runOp hk hrun ha
      exact s.op m hm o lo.op _ _ _ _ l1 hr2 σ w a h.rel henv K Q fun σ' w' v' k1 k2 => done σ' w' v' p k2.ext k1 (h.quiet s g2 g3 hk (fun hh => hna hh.1) k2)
    cases hk : lo.op.kind with
    | pure =>
      have ha := runOp_aop (by rw [hk]; simp) hrun
      exact quiet (by rw [hk]; simp) (by rw [hk]; simp) ((aop_pure hk ha).2 _)
    | read =>
      have ha := runOp_aop (by rw [hk]; simp) hrun
      exact quiet (by rw [hk]; simp) (by rw [hk]; simp) (s.reads h tu g2 g3 hk hx ha)
    | alloc =>
      have hnw : lo.op.kind ≠ .write := by rw [hk]; simp
      have ha := runOp_aop hnw hrun
      obtain ⟨mk, x, k1, k2, k3⟩ := aop_alloc hk ha
      have hr2 : runOp E m lo.op (ekeep r.e (opTmps ops o)) (VAt H los recs p) = some (mk.val (VAt H los recs p).next, (VAt H los recs p).add x) := by
        rw [congr]; exact aop_runOp hnw hrun (k3 _)
      refine s.op m hm o lo.op _ _ _ _ l1 hr2 σ w a h.rel henv K Q fun σ' w' v' q1 q2 => ?_
      obtain ⟨σ2, e1, e2, e3⟩ := h.alloc s g2 g3 hk hx tu.un k2 q2 q1
      exact done σ2 w' v' p e1 (by rw [k1]; exact e2) e3
    | write =>
      have h' := hwr hk
      have hr2 : runOp E m lo.op (ekeep r.e (opTmps ops o)) (HAt recs H' i) = some (r.v, r.H') := by
        rw [congr, ← g6]; exact hrun
      have henv' : EnvRel (σ.cut (HAt recs H' i).next) (ekeep r.e (opTmps ops o)) a := by
        intro t u hu
        obtain ⟨v', q1, q2⟩ := henv t u hu
        refine ⟨v', q1, q2.cut ?_⟩
        have := eget_ekeep _ t u hu
        rw [g5] at this
        exact s.vids (Nat.le_of_lt tu.lt) t u this
      refine s.op m hm o lo.op _ _ _ _ l1 hr2 _ w a (h'.cut s) henv' K Q fun σ' w' v' q1 q2 => ?_
      obtain ⟨k1, k2, k3⟩ := h'.writer s g2 g3 hk q2
      exact done _ w' v' (i + 1) k1 (q1.mono k2) k3

theorem closed_set {listed : Array Bool} (hc : Closed ops listed) {i : Nat} (hi : i < listed.size) (hr : ∀ o, ops[i]? = some o → ∀ ed ∈ o.after, Region.binds .any ed = true → listed.getD ed.on false = true) : Closed ops (listed.setIfInBounds i true) := by
  intro j o hj hl ed he hb
  rw [getD_set _ _ _ hi] at hl ⊢
  split
  · rfl
  · split at hl
    · rename_i _ hji; subst hji; exact hr o hj ed he hb
    · exact hc j o hj hl ed he hb

theorem Setting.any (s : Setting E n nt ops los e H e' H' recs σ0 w0 a0) (Q : Exit → Act → World → Prop)
    (hQ : ∀ σ a w, EnvRel σ e' a → a.tmps.size = nt → a.defers = [] → Step σ0 H w0 σ H' w → Q .normal a w) : ∀ (fuel : Nat) (listed : Array Bool) (σ : Map) (w : World) (a : Act) (p : Nat),
    (List.range ops.size).countP (fun k => !listed.getD k false) = fuel → HInv E ops los H recs σ0 w0 listed σ w p → TInv los recs e listed σ a → Closed ops listed → a.tmps.size = nt → a.defers = [] →
    wpAny E.P .any ops Q fuel listed a w := by
  have fin : ∀ (listed : Array Bool) (σ : Map) (w : World) (a : Act) (p : Nat), HInv E ops los H recs σ0 w0 listed σ w p → TInv los recs e listed σ a → a.tmps.size = nt → a.defers = [] →
      Region.ready .any ops listed = [] → Q .normal a w := by
    intro listed σ w a p h ht hsz hd hnil
    have hall : ∀ i, i < ops.size → listed.getD i false = true := by
      intro i
      induction i using Nat.strongRecOn with
      | _ i ih =>
        intro hi
        cases hl : listed.getD i false with
        | true => rfl
        | false =>
          exfalso
          have : i ∈ Region.ready .any ops listed := by
            unfold Region.ready
            simp only [List.mem_filter, List.mem_range, Bool.and_eq_true, Bool.not_eq_true']
            refine ⟨hi, ?_, ?_⟩
            · rw [Array.getD_eq_getD_getElem?] at hl ⊢
              rw [Array.getElem?_eq_getElem (by rw [h.sz]; exact hi)] at hl ⊢
              exact hl
            · rw [Array.getElem?_eq_getElem hi]
              simp only [Option.map_some, Option.getD_some, Array.all_eq_true_iff_forall_mem]
              intro ed he
              cases hb : Region.binds .any ed with
              | false => rfl
              | true =>
                have hlt := s.forward i _ (Array.getElem?_eq_getElem hi) ed he hb
                rw [ih ed.on hlt (by omega)]; rfl
          rw [hnil] at this; cases this
    obtain ⟨q1, q2⟩ := s.final h ht hall
    exact hQ σ a w q1 hsz hd q2
  intro fuel
  induction fuel with
  | zero =>
    intro listed σ w a p hf h ht hc hsz hd
    have hnil : Region.ready .any ops listed = [] := by
      rw [List.eq_nil_iff_forall_not_mem]
      intro i hi
      have tu := s.turn h.sz hc hi
      rw [List.countP_eq_zero] at hf
      have := hf i (List.mem_range.2 tu.lt)
      rw [tu.un] at this
      exact this rfl
    exact ⟨hnil, fin listed σ w a p h ht hsz hd hnil⟩
  | succ fuel ih =>
    intro listed σ w a p hf h ht hc hsz hd
    refine ⟨fin listed σ w a p h ht hsz hd, fun i hi => ?_⟩
    have tu := s.turn h.sz hc hi
    have hil : i < listed.size := by rw [h.sz]; exact tu.lt
    refine s.turnOp h ht tu hsz hd _ Q fun σ' w' a' p' h1 h2 h3 h4 => ?_
    refine ih _ σ' w' a' p' ?_ h1 h2 (closed_set hc hil (ready_inv hi).2.2) h3 h4
    have := countP_less (fun k => !listed.getD k false) (fun k => !(listed.setIfInBounds i true).getD k false) i (by simp [tu.un]) (by simp [getD_set _ _ _ hil]) (fun k hk => by simp only [getD_set _ _ _ hil, if_neg hk]) ops.size tu.lt
    rw [hf] at this
    omega

end

theorem drawS_succ {E : Env0} (hE : EnvOk E) {n : Nat} (ho : ∀ m, m < n → OpS E m) : DrawS E n := by
  intro nt id ops los e H e' H' recs hl hdr hrun hchk σ w a hR he hsz hd
  have hR1 : R σ H { w with drawn := w.drawn + 1 } := hR.of_heap rfl
  have s : Setting E n nt ops los e H e' H' recs σ { w with drawn := w.drawn + 1 } a := ⟨ho, hl, hdr, chain_of_run hrun, hchk, hR1, he, hsz⟩
  obtain ⟨h1, h2, h3⟩ := s.start
  refine wp_region_any hE.mixed (s.any _ (fun σ' a' w' q1 q2 q3 q4 => ⟨σ', trivial, q1, q2, q3, q4.of_heap rfl⟩) ops.size _ σ _ a 0 ?_ h1 h2 h3 hsz hd)
  have hf : ∀ k, (Array.replicate ops.size false).getD k false = false := by
    intro k
    rw [Array.getD_eq_getD_getElem?, Array.getElem?_replicate]; split <;> rfl
  rw [List.countP_eq_length.2 (fun k _ => by rw [hf]; rfl)]
  simp

end Go.Abs
