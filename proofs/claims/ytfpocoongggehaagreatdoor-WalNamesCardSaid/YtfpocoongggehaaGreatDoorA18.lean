/- Code and calls; regions that draw are taken for granted here (A19). Of no program. -/
import Derived.Test.YtfpocoongggehaaGreatDoorA17
import Derived.LoopN
set_option linter.all false
namespace Go.Abs
open Go
variable [Fixed]

def ExRel : LExit → Exit → Prop
  | .normal, .normal => True
  | .exit i, .exit j => i = j
  | .ret, .ret => True
  | _, _ => False

/-- What stands behind a piece of code. -/
def Post (nt : Nat) (σ : Map) (H : Heap) (w : World) (x : LExit) (e' : Env) (H' : Heap) (ex : Exit) (a' : Act) (w' : World) : Prop :=
  ∃ σ', ExRel x ex ∧ EnvRel σ' e' a' ∧ a'.tmps.size = nt ∧ a'.defers = [] ∧ Step σ H w σ' H' w'

def OpsS (E : Env0) (n : Nat) : Prop := ∀ (nt : Nat) (ops : Array Oper) (los : List LOp) (e : Env) (H : Heap) (e' : Env) (H' : Heap) (i : Nat),
  lowOps E.P nt ops (ops.toList.drop i) = some los → runOps E n los e H = some (e', H') →
  ∀ (σ : Map) (w : World) (a : Act), R σ H w → EnvRel σ e a → a.tmps.size = nt → a.defers = [] → ∀ (Q : Exit → Act → World → Prop),
    (∀ σ' w' a', EnvRel σ' e' a' → a'.tmps.size = nt → a'.defers = [] → Step σ H w σ' H' w' → Q .normal a' w') → wpOps E.P ops Q (List.range' i (ops.size - i)) a w

def DrawS (E : Env0) (n : Nat) : Prop := ∀ (nt id : Nat) (ops : Array Oper) (los : List LOp) (e : Env) (H : Heap) (e' : Env) (H' : Heap) (recs : List Rec),
  lowOps E.P nt ops ops.toList = some los → drawOk ops los = true → runDraw E n los e H = some (e', H', recs) → drawsOk E.P H los recs (chkOf ops los) = true →
  ∀ (σ : Map) (w : World) (a : Act), R σ H w → EnvRel σ e a → a.tmps.size = nt → a.defers = [] → (Code.region id ops true).wp E.P (Post nt σ H w .normal e' H') a w

def RunS (E : Env0) (n : Nat) : Prop := ∀ (nt : Nat) (l : LCode) (c : Code) (e : Env) (H : Heap) (x : LExit) (e' : Env) (H' : Heap),
  run E n l e H = some (x, e', H') → lowCode E.P nt c = some (strip l) →
  ∀ (σ : Map) (w : World) (a : Act), R σ H w → EnvRel σ e a → a.tmps.size = nt → a.defers = [] → c.wp E.P (Post nt σ H w x e' H') a w

theorem lowOps_cons {P : Program} {nt : Nat} {ops : Array Oper} {i : Nat} {los : List LOp} (h : lowOps P nt ops (ops.toList.drop i) = some los) :
    (ops.size ≤ i ∧ los = []) ∨ ∃ o lo r, ops[i]? = some o ∧ lowO P nt ops o = some lo ∧ lowOps P nt ops (ops.toList.drop (i + 1)) = some r ∧ los = lo :: r := by
  by_cases hi : i < ops.size
  · right
    have e1 : ops.toList.drop i = ops[i] :: ops.toList.drop (i + 1) := by
      rw [List.drop_eq_getElem_cons (by simpa using hi)]; simp
    rw [e1] at h
    simp only [lowOps] at h
    split at h
    · rename_i lo r h1 h2
      cases h
      exact ⟨ops[i], lo, r, Array.getElem?_eq_getElem hi, h1, h2, rfl⟩
    · cases h
  · left
    have e1 : ops.toList.drop i = [] := List.drop_eq_nil_of_le (by simp; omega)
    rw [e1] at h
    cases h
    exact ⟨by omega, rfl⟩

theorem opsS_succ {E : Env0} {n : Nat} (ho : OpS E n) (hs : OpsS E n) : OpsS E (n + 1) := by
  intro nt ops los e H e' H' i hl hr σ w a hR he ha hd Q hQ
  rcases lowOps_cons hl with ⟨hi, rfl⟩ | ⟨o, lo, r, h1, h2, h3, rfl⟩
  · have : ops.size - i = 0 := by omega
    rw [this]
    simp only [runOps, Option.some.injEq, Prod.mk.injEq] at hr
    obtain ⟨rfl, rfl⟩ := hr
    exact hQ σ w a he ha hd (Step.refl hR)
  · have hi : i < ops.size := by
      rcases Nat.lt_or_ge i ops.size with h | h
      · exact h
      · rw [Array.getElem?_eq_none h] at h1; cases h1
    have e1 : List.range' i (ops.size - i) = i :: List.range' (i + 1) (ops.size - (i + 1)) := by
      rw [show ops.size - i = (ops.size - (i + 1)) + 1 from by omega]; rfl
    rw [e1]
    obtain ⟨g1, g2, g3, _⟩ := lowO_inv h2
    simp only [runOps] at hr
    simp only [wpOps, h1]
    split at hr
    · rename_i hw
      rw [wanted_rel h2 he hw, if_pos rfl]
      split at hr
      · rename_i v H1 hop
        left
        refine ho o lo.op e H v H1 g1 hop σ w a hR he _ Q ?_
        intro σ1 w1 v' hv hst
        have he1 : EnvRel σ1 (eput e lo.dst v) (a.put o.dst v') := by
          rw [g2]; exact (he.mono hst.ext).put hv (fun x hx => by rw [ha]; exact g3 x hx)
        refine hs nt ops r _ H1 e' H' (i + 1) h3 hr σ1 w1 (a.put o.dst v') hst.rel he1 (by rw [size_put]; exact ha) (by rw [defers_put]; exact hd) Q ?_
        intro σ2 w2 a2 q1 q2 q3 q4
        exact hQ σ2 w2 a2 q1 q2 q3 (Step.trans hR hst q4)
      · cases hr
    · rename_i hw
      rw [wanted_rel h2 he hw, if_neg (by simp)]
      have he1 : EnvRel σ (eput e lo.dst (.tuple #[])) (a.put o.dst undef) := by
        rw [g2]; exact he.put (undef_rel σ) (fun x hx => by rw [ha]; exact g3 x hx)
      exact hs nt ops r _ H e' H' (i + 1) h3 hr σ w (a.put o.dst undef) hR he1 (by rw [size_put]; exact ha) (by rw [defers_put]; exact hd) Q hQ
    · cases hr

theorem Post.trans {nt : Nat} {σ σ1 : Map} {H H1 H' : Heap} {w w1 : World} {x : LExit} {e' : Env} (hR : R σ H w) (h : Step σ H w σ1 H1 w1) {ex : Exit} {a' : Act} {w' : World}
    (hp : Post nt σ1 H1 w1 x e' H' ex a' w') : Post nt σ H w x e' H' ex a' w' := by
  obtain ⟨σ', h1, h2, h3, h4, h5⟩ := hp
  exact ⟨σ', h1, h2, h3, h4, Step.trans hR h h5⟩

theorem rounds_mono {P : Program} {c : Code} {Q Q' : Exit → Act → World → Prop} (hq : ∀ e a w, Q e a w → Q' e a w) : ∀ {n : Nat} {a : Act} {w : World}, Code.rounds P c Q n a w → Code.rounds P c Q' n a w := by
  intro n
  induction n with
  | zero => intro a w h; exact h
  | succ n ih =>
    intro a w h
    refine wp_mono h ?_
    intro e a w he
    cases e <;> first | exact ih he | exact hq _ _ _ he

def LoopS (E : Env0) (n : Nat) : Prop := ∀ (nt : Nat) (l : LCode) (c : Code) (e : Env) (H : Heap) (x : LExit) (e' : Env) (H' : Heap),
  run E n (.loop l) e H = some (x, e', H') → lowCode E.P nt c = some (strip l) →
  ∀ (σ : Map) (w : World) (a : Act), R σ H w → EnvRel σ e a → a.tmps.size = nt → a.defers = [] → Code.rounds E.P c (Post nt σ H w x e' H') n a w

theorem loopS_succ {E : Env0} {n : Nat} (hr : RunS E n) (hl : LoopS E n) : LoopS E (n + 1) := by
  intro nt l c e H x e' H' hrun hlow σ w a hR he ha hd
  simp only [run] at hrun
  split at hrun
  · rename_i e1 H1 h1
    refine wp_mono (hr nt l c e H _ e1 H1 h1 hlow σ w a hR he ha hd) ?_
    intro ex a1 w1 hp
    obtain ⟨σ1, g1, g2, g3, g4, g5⟩ := hp
    cases ex <;> first | exact g1.elim | skip
    have := hl nt l c e1 H1 x e' H' hrun hlow σ1 w1 a1 g5.rel g2 g3 g4
    exact rounds_mono (fun _ _ _ hq => Post.trans hR g5 hq) this
  · rename_i r hnot
    refine wp_mono (hr nt l c e H x e' H' hrun hlow σ w a hR he ha hd) ?_
    intro ex a1 w1 hp
    have hxn : x ≠ .normal := by
      intro hx; subst hx; exact hnot _ _ hrun
    cases ex with
    | normal =>
      obtain ⟨σ1, g1, _⟩ := hp
      cases x <;> first | exact absurd rfl hxn | exact g1.elim
    | _ => exact hp

theorem low_seq {P : Program} {nt : Nat} {c : Code} {a b : LCode} (h : lowCode P nt c = some (.seq a b)) : ∃ x y, c = .seq x y ∧ lowCode P nt x = some a ∧ lowCode P nt y = some b := by
  cases c with
  | seq x y =>
    simp only [lowCode] at h
    split at h
    · rename_i p q h1 h2; cases h; exact ⟨x, y, rfl, h1, h2⟩
    · cases h
  | region id ops d =>
    cases d with
    | true =>
      simp only [lowCode] at h
      split at h
      · obtain ⟨_, hh⟩ := bif_some h; cases hh
      · cases h
    | false => simp only [lowCode] at h; split at h <;> cases h
  | cond x y z => simp only [lowCode] at h; split at h <;> cases h
  | block id x => simp only [lowCode] at h; split at h <;> cases h
  | loop x => simp only [lowCode] at h; split at h <;> cases h
  | _ => simp [lowCode] at h

theorem low_cond {P : Program} {nt : Nat} {c : Code} {o : Operand} {a b : LCode} (h : lowCode P nt c = some (.cond o a b)) : ∃ x y, c = .cond o x y ∧ lowCode P nt x = some a ∧ lowCode P nt y = some b := by
  cases c with
  | cond o' x y =>
    simp only [lowCode] at h
    split at h
    · rename_i p q h1 h2; cases h; exact ⟨x, y, rfl, h1, h2⟩
    · cases h
  | region id ops d =>
    cases d with
    | true =>
      simp only [lowCode] at h
      split at h
      · obtain ⟨_, hh⟩ := bif_some h; cases hh
      · cases h
    | false => simp only [lowCode] at h; split at h <;> cases h
  | seq x y => simp only [lowCode] at h; split at h <;> cases h
  | block id x => simp only [lowCode] at h; split at h <;> cases h
  | loop x => simp only [lowCode] at h; split at h <;> cases h
  | _ => simp [lowCode] at h

theorem low_block {P : Program} {nt id : Nat} {c : Code} {a : LCode} (h : lowCode P nt c = some (.block id a)) : ∃ x, c = .block id x ∧ lowCode P nt x = some a := by
  cases c with
  | block id' x =>
    simp only [lowCode] at h
    split at h
    · rename_i p h1; cases h; exact ⟨x, rfl, h1⟩
    · cases h
  | region id ops d =>
    cases d with
    | true =>
      simp only [lowCode] at h
      split at h
      · obtain ⟨_, hh⟩ := bif_some h; cases hh
      · cases h
    | false => simp only [lowCode] at h; split at h <;> cases h
  | seq x y => simp only [lowCode] at h; split at h <;> cases h
  | cond o' x y => simp only [lowCode] at h; split at h <;> cases h
  | loop x => simp only [lowCode] at h; split at h <;> cases h
  | _ => simp [lowCode] at h

theorem low_loop {P : Program} {nt : Nat} {c : Code} {a : LCode} (h : lowCode P nt c = some (.loop a)) : ∃ x, c = .loop x ∧ lowCode P nt x = some a := by
  cases c with
  | loop x =>
    simp only [lowCode] at h
    split at h
    · rename_i p h1; cases h; exact ⟨x, rfl, h1⟩
    · cases h
  | region id ops d =>
    cases d with
    | true =>
      simp only [lowCode] at h
      split at h
      · obtain ⟨_, hh⟩ := bif_some h; cases hh
      · cases h
    | false => simp only [lowCode] at h; split at h <;> cases h
  | seq x y => simp only [lowCode] at h; split at h <;> cases h
  | cond o' x y => simp only [lowCode] at h; split at h <;> cases h
  | block id' x => simp only [lowCode] at h; split at h <;> cases h
  | _ => simp [lowCode] at h

theorem low_leaf {P : Program} {nt : Nat} {c : Code} {l : LCode} (h : lowCode P nt c = some l) :
    (l = .skip → c = .skip) ∧ (∀ i, l = .exit i → c = .exit i) ∧ (l = .ret → c = .ret) ∧ (∀ ks, l ≠ .keep ks) ∧
    (∀ los, l = .reg los → ∃ id ops, c = .region id ops false ∧ lowOps P nt ops ops.toList = some los) ∧
    (∀ los chk, l = .dreg los chk → ∃ id ops, c = .region id ops true ∧ lowOps P nt ops ops.toList = some los ∧ drawOk ops los = true ∧ chk = chkOf ops los) := by
  cases c with
  | region id ops d =>
    cases d with
    | true =>
      simp only [lowCode] at h
      split at h
      · rename_i los h1
        obtain ⟨h2, rfl⟩ := bif_some h
        exact ⟨by simp, by simp, by simp, by simp, by simp, fun los' chk hh => by cases hh; exact ⟨id, ops, rfl, h1, h2, rfl⟩⟩
      · cases h
    | false =>
      simp only [lowCode] at h
      split at h
      · rename_i los h1
        cases h
        exact ⟨by simp, by simp, by simp, by simp, fun los' hh => by cases hh; exact ⟨id, ops, rfl, h1⟩, by simp⟩
      · cases h
  | seq x y => simp only [lowCode] at h; split at h <;> cases h; simp
  | cond o' x y => simp only [lowCode] at h; split at h <;> cases h; simp
  | block id' x => simp only [lowCode] at h; split at h <;> cases h; simp
  | loop x => simp only [lowCode] at h; split at h <;> cases h; simp
  | skip => simp only [lowCode] at h; cases h; simp
  | exit i => simp only [lowCode] at h; cases h; simp
  | ret => simp only [lowCode] at h; cases h; simp
  | _ => simp [lowCode] at h

theorem runS_succ {E : Env0} {n : Nat} (hr : RunS E n) (hl : LoopS E (n + 1)) (ho : OpsS E n) (hdr : DrawS E n) : RunS E (n + 1) := by
  intro nt l c e H x e' H' hrun hlow σ w a hR he ha hd
  cases l with
  | skip =>
    have := (low_leaf hlow).1 rfl
    subst this
    simp only [run] at hrun
    cases hrun
    exact wp_skip ⟨σ, trivial, he, ha, hd, Step.refl hR⟩
  | keep ks => exact absurd rfl ((low_leaf hlow).2.2.2.1 ks)
  | exit i =>
    have := (low_leaf hlow).2.1 i rfl
    subst this
    simp only [run] at hrun
    cases hrun
    exact wp_exit ⟨σ, rfl, he, ha, hd, Step.refl hR⟩
  | ret =>
    have := (low_leaf hlow).2.2.1 rfl
    subst this
    simp only [run] at hrun
    cases hrun
    exact wp_ret ⟨σ, trivial, he, ha, hd, Step.refl hR⟩
  | reg los =>
    obtain ⟨id, ops, rfl, h1⟩ := (low_leaf hlow).2.2.2.2.1 los rfl
    simp only [run] at hrun
    split at hrun
    · rename_i e1 H1 h2
      cases hrun
      refine wp_region ?_
      have := ho nt ops los e H e' H' 0 (by simpa using h1) h2 σ w a hR he ha hd (Post nt σ H w .normal e' H') (fun σ' w' a' q1 q2 q3 q4 => ⟨σ', trivial, q1, q2, q3, q4⟩)
      rwa [Nat.sub_zero, ← List.range_eq_range'] at this
    · cases hrun
  | dreg los chk =>
    obtain ⟨id, ops, rfl, h1, h2, rfl⟩ := (low_leaf hlow).2.2.2.2.2 los chk rfl
    simp only [run] at hrun
    split at hrun
    · rename_i e1 H1 T h3
      obtain ⟨h4, h5⟩ := bif_some hrun
      cases h5
      exact hdr nt id ops los e H _ _ T h1 h2 h3 h4 σ w a hR he ha hd
    · cases hrun
  | seq l1 l2 =>
    simp only [run] at hrun
    simp only [strip] at hlow
    cases hk1 : isKeep l1 with
    | true =>
      rw [hk1] at hlow
      cases l1 with
      | keep ks =>
        cases n with
        | zero => simp [run] at hrun
        | succ n =>
          simp only [run] at hrun
          exact hr nt l2 c (ekeep e ks) H x e' H' hrun hlow σ w a hR (he.keep ks) ha hd
      | _ => cases hk1
    | false =>
      rw [hk1] at hlow
      cases hk2 : isKeep l2 with
      | true =>
        rw [hk2] at hlow
        cases l2 with
        | keep ks =>
          split at hrun
          · rename_i e1 H1 h1
            cases n with
            | zero => simp [run] at hrun
            | succ n =>
              simp only [run] at hrun
              cases hrun
              refine wp_mono (hr nt l1 c e H _ e1 H' h1 hlow σ w a hR he ha hd) ?_
              intro ex a1 w1 hp
              obtain ⟨σ1, g1, g2, g3, g4, g5⟩ := hp
              exact ⟨σ1, g1, g2.keep ks, g3, g4, g5⟩
          · rename_i r hnot
            exact hr nt l1 c e H x e' H' hrun hlow σ w a hR he ha hd
        | _ => cases hk2
      | false =>
        rw [hk2] at hlow
        obtain ⟨c1, c2, rfl, h1, h2⟩ := low_seq hlow
        refine wp_seq ?_
        split at hrun
        · rename_i e1 H1 h3
          refine wp_mono (hr nt l1 c1 e H _ e1 H1 h3 h1 σ w a hR he ha hd) ?_
          intro ex a1 w1 hp
          obtain ⟨σ1, g1, g2, g3, g4, g5⟩ := hp
          cases ex <;> first | exact g1.elim | skip
          exact wp_mono (hr nt l2 c2 e1 H1 x e' H' hrun h2 σ1 w1 a1 g5.rel g2 g3 g4) (fun _ _ _ hq => Post.trans hR g5 hq)
        · rename_i r hnot
          refine wp_mono (hr nt l1 c1 e H x e' H' hrun h1 σ w a hR he ha hd) ?_
          intro ex a1 w1 hp
          have hxn : x ≠ .normal := by
            intro hx; subst hx; exact hnot _ _ hrun
          cases ex with
          | normal =>
            obtain ⟨σ1, g1, _⟩ := hp
            cases x <;> first | exact absurd rfl hxn | exact g1.elim
          | _ => exact hp
  | cond o l1 l2 =>
    obtain ⟨c1, c2, rfl, h1, h2⟩ := low_cond hlow
    simp only [run] at hrun
    split at hrun
    · rename_i hc
      have := (aval_rel he hc).bool_eq
      exact wp_cond_true this (hr nt l1 c1 e H x e' H' hrun h1 σ w a hR he ha hd)
    · rename_i hc
      have := (aval_rel he hc).bool_eq
      exact wp_cond_false this (hr nt l2 c2 e H x e' H' hrun h2 σ w a hR he ha hd)
    · cases hrun
  | block id l1 =>
    obtain ⟨c1, rfl, h1⟩ := low_block hlow
    simp only [run] at hrun
    refine wp_block ?_
    split at hrun
    · rename_i id' e1 H1 h2
      rw [bif_beq] at hrun
      refine wp_mono (hr nt l1 c1 e H _ e1 H1 h2 h1 σ w a hR he ha hd) ?_
      intro ex a1 w1 hp
      obtain ⟨σ1, g1, g2, g3, g4, g5⟩ := hp
      cases ex <;> first | exact g1.elim | skip
      have : id' = _ := g1
      subst this
      simp only [Exit.inBlock]
      split at hrun
      · rename_i hid
        cases hrun
        rw [if_pos hid]
        exact ⟨σ1, trivial, g2, g3, g4, g5⟩
      · rename_i hid
        cases hrun
        rw [if_neg hid]
        exact ⟨σ1, rfl, g2, g3, g4, g5⟩
    · rename_i r hnot
      refine wp_mono (hr nt l1 c1 e H x e' H' hrun h1 σ w a hR he ha hd) ?_
      intro ex a1 w1 hp
      cases ex with
      | exit id' =>
        obtain ⟨σ1, g1, _⟩ := hp
        cases x with
        | exit j => exact absurd hrun (hnot _ _ _)
        | _ => exact g1.elim
      | _ => exact hp
  | loop l1 =>
    obtain ⟨c1, rfl, h1⟩ := low_loop hlow
    exact wp_loop_rounds (n + 1) (hl nt l1 c1 e H x e' H' hrun h1 σ w a hR he ha hd)

end Go.Abs
