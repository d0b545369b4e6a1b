/- The abstract machine without fuel. Of no program. -/
import Derived.Test.YtfpocoongggehaaGreatDoorA1
set_option linter.all false
namespace Go.Abs
open Go

/-! ### More fuel does no harm -/

structure Mono (E : Env0) (n : Nat) : Prop where
  run : ∀ c e H r, run E n c e H = some r → Abs.run E (n + 1) c e H = some r
  ops : ∀ l e H r, runOps E n l e H = some r → runOps E (n + 1) l e H = some r
  draw : ∀ l e H r, runDraw E n l e H = some r → runDraw E (n + 1) l e H = some r
  op : ∀ o e H r, runOp E n o e H = some r → runOp E (n + 1) o e H = some r
  call : ∀ f a H r, call E n f a H = some r → Abs.call E (n + 1) f a H = some r

theorem mono (E : Env0) : ∀ n, Mono E n := by
  intro n
  induction n with
  | zero => constructor <;> intros <;> rename_i h <;> first | (simp [Abs.run] at h; done) | (simp [runOps] at h; done) | (simp [runDraw] at h; done) | (simp [runOp] at h; done) | (simp [Abs.call] at h; done)
  | succ n ih =>
    have hrun : ∀ c e H r, Abs.run E (n + 1) c e H = some r → Abs.run E (n + 1 + 1) c e H = some r := by
      intro c e H r h
      cases c with
      | skip => exact h
      | keep ks => exact h
      | exit i => exact h
      | ret => exact h
      | reg l =>
        simp only [Abs.run] at h ⊢
        split at h
        · rename_i e1 H1 h1; rw [ih.ops _ _ _ _ h1]; exact h
        · cases h
      | dreg l chk =>
        simp only [Abs.run] at h ⊢
        split at h
        · rename_i e1 H1 rs h1; rw [ih.draw _ _ _ _ h1]; exact h
        · cases h
      | seq a b =>
        simp only [Abs.run] at h ⊢
        split at h
        · rename_i e1 H1 h1; rw [ih.run _ _ _ _ h1]; exact ih.run _ _ _ _ h
        · rename_i x hx
          rw [ih.run _ _ _ _ h]
          split
          · rename_i e1 H1 h1; cases h1; exact absurd h (hx _ _)
          · rfl
      | cond c a b =>
        simp only [Abs.run] at h ⊢
        split at h
        · exact ih.run _ _ _ _ h
        · exact ih.run _ _ _ _ h
        · cases h
      | block i a =>
        simp only [Abs.run] at h ⊢
        split at h
        · rename_i i' e1 H1 h1; rw [ih.run _ _ _ _ h1]; exact h
        · rename_i x hx
          rw [ih.run _ _ _ _ h]
          split
          · rename_i i' e1 H1 h1; cases h1; exact absurd h (hx _ _ _)
          · rfl
      | loop a =>
        simp only [Abs.run] at h ⊢
        split at h
        · rename_i e1 H1 h1; rw [ih.run _ _ _ _ h1]; exact ih.run _ _ _ _ h
        · rename_i x hx
          rw [ih.run _ _ _ _ h]
          split
          · rename_i e1 H1 h1; cases h1; exact absurd h (hx _ _)
          · rfl
    have hops : ∀ l e H r, runOps E (n + 1) l e H = some r → runOps E (n + 1 + 1) l e H = some r := by
      intro l e H r h
      cases l with
      | nil => exact h
      | cons o os =>
        simp only [runOps] at h ⊢
        split at h
        · split at h
          · rename_i v H1 h1; rw [ih.op _ _ _ _ h1]; exact ih.ops _ _ _ _ h
          · cases h
        · exact ih.ops _ _ _ _ h
        · cases h
    have hdraw : ∀ l e H r, runDraw E (n + 1) l e H = some r → runDraw E (n + 1 + 1) l e H = some r := by
      intro l e H r h
      cases l with
      | nil => exact h
      | cons o os =>
        simp only [runDraw] at h ⊢
        split at h
        · split at h
          · rename_i v H1 h1
            rw [ih.op _ _ _ _ h1]
            split at h
            · rename_i e2 H2 rs h2; simp only [ih.draw _ _ _ _ h2]; exact h
            · cases h
          · cases h
        · split at h
          · rename_i e2 H2 rs h2; simp only [ih.draw _ _ _ _ h2]; exact h
          · cases h
        · cases h
    have hop : ∀ o e H r, runOp E (n + 1) o e H = some r → runOp E (n + 1 + 1) o e H = some r := by
      intro o e H r h
      cases o with
      | call f xs =>
        simp only [runOp] at h ⊢
        split at h
        · exact ih.call _ _ _ _ h
        · cases h
      | callv x xs =>
        simp only [runOp] at h ⊢
        split at h
        · exact ih.call _ _ _ _ h
        · cases h
      | inv x t xs =>
        simp only [runOp] at h ⊢
        split at h
        · split at h
          · exact ih.call _ _ _ _ h
          · cases h
        · cases h
      | _ => exact h
    have hcall : ∀ f a H r, Abs.call E (n + 1) f a H = some r → Abs.call E (n + 1 + 1) f a H = some r := by
      intro f a H r h
      simp only [Abs.call] at h ⊢
      split at h
      · exact h
      · split at h
        · rename_i fn hfn
          cases hb : Nat.beq a.length fn.nparams with
          | false => rw [hb] at h; cases h
          | true =>
            rw [hb] at h
            simp only [cond_true] at h ⊢
            split at h
            · cases h
            · rename_i x e1 H1 hx h1
              rw [ih.run _ _ _ _ h1]
              split
              · rename_i i e2 H2 h2; cases h2; exact absurd rfl (hx _)
              · rename_i x2 e2 H2 _ h2; cases h2; exact h
              · rename_i h2; cases h2
            · cases h
        · cases h
    exact ⟨hrun, hops, hdraw, hop, hcall⟩

/-! ### The limit -/

open Classical in
noncomputable def lim {α : Type} (f : Nat → Option α) : Option α := if h : ∃ n, (f n).isSome = true then f (Classical.choose h) else none

theorem le_of_mono {α : Type} {f : Nat → Option α} (hm : ∀ n r, f n = some r → f (n + 1) = some r) {n : Nat} {r : α} (h : f n = some r) : ∀ m, n ≤ m → f m = some r := by
  intro m hnm
  induction m with
  | zero => have : n = 0 := by omega
            subst this; exact h
  | succ m ih =>
    by_cases hn : n = m + 1
    · subst hn; exact h
    · exact hm _ _ (ih (by omega))

theorem lim_iff {α : Type} {f : Nat → Option α} (hm : ∀ n r, f n = some r → f (n + 1) = some r) {r : α} : lim f = some r ↔ ∃ n, f n = some r := by
  constructor
  · intro h
    unfold lim at h
    split at h
    · exact ⟨_, h⟩
    · cases h
  · intro ⟨n, hn⟩
    have hex : ∃ n, (f n).isSome = true := ⟨n, by rw [hn]; rfl⟩
    unfold lim
    rw [dif_pos hex]
    have hs := Classical.choose_spec hex
    cases hc : f (Classical.choose hex) with
    | none => rw [hc] at hs; cases hs
    | some x =>
      have h1 := le_of_mono hm hc (max n (Classical.choose hex)) (Nat.le_max_right _ _)
      have h2 := le_of_mono hm hn (max n (Classical.choose hex)) (Nat.le_max_left _ _)
      rw [h1] at h2; exact h2

/-- Two limits, of which one is a step further. -/
theorem lim_eq {α β : Type} {f : Nat → Option α} {g : Option β} (F : Option β → Option α) (hm : ∀ n r, f n = some r → f (n + 1) = some r)
    (h1 : ∀ n r, f n = some r → F g = some r) (h2 : ∀ r, F g = some r → ∃ n, f n = some r) : lim f = F g := by
  refine Option.ext fun r => ?_
  rw [lim_iff hm]
  exact ⟨fun ⟨n, h⟩ => h1 n r h, h2 r⟩

noncomputable def sem (E : Env0) (c : LCode) (e : Env) (H : Heap) : Option (LExit × Env × Heap) := lim fun n => run E n c e H
noncomputable def semOps (E : Env0) (l : List LOp) (e : Env) (H : Heap) : Option (Env × Heap) := lim fun n => runOps E n l e H
noncomputable def semDraw (E : Env0) (l : List LOp) (e : Env) (H : Heap) : Option (Env × Heap × List Rec) := lim fun n => runDraw E n l e H
noncomputable def semOp (E : Env0) (o : AOp) (e : Env) (H : Heap) : Option (Value × Heap) := lim fun n => runOp E n o e H
noncomputable def semCall (E : Env0) (f : Nat) (a : List Value) (H : Heap) : Option (Value × Heap) := lim fun n => call E n f a H

section
variable {E : Env0}

theorem sem_iff {c : LCode} {e : Env} {H : Heap} {r : LExit × Env × Heap} : sem E c e H = some r ↔ ∃ n, run E n c e H = some r := lim_iff fun n r => (mono E n).run c e H r
theorem semOps_iff {l : List LOp} {e : Env} {H : Heap} {r : Env × Heap} : semOps E l e H = some r ↔ ∃ n, runOps E n l e H = some r := lim_iff fun n r => (mono E n).ops l e H r
theorem semDraw_iff {l : List LOp} {e : Env} {H : Heap} {r : Env × Heap × List Rec} : semDraw E l e H = some r ↔ ∃ n, runDraw E n l e H = some r := lim_iff fun n r => (mono E n).draw l e H r
theorem semOp_iff {o : AOp} {e : Env} {H : Heap} {r : Value × Heap} : semOp E o e H = some r ↔ ∃ n, runOp E n o e H = some r := lim_iff fun n r => (mono E n).op o e H r
theorem semCall_iff {f : Nat} {a : List Value} {H : Heap} {r : Value × Heap} : semCall E f a H = some r ↔ ∃ n, call E n f a H = some r := lim_iff fun n r => (mono E n).call f a H r

theorem run_le {c : LCode} {e : Env} {H : Heap} {r : LExit × Env × Heap} {n m : Nat} (h : run E n c e H = some r) (hnm : n ≤ m) : run E m c e H = some r := le_of_mono (fun n r => (mono E n).run c e H r) h m hnm
theorem runOps_le {l : List LOp} {e : Env} {H : Heap} {r : Env × Heap} {n m : Nat} (h : runOps E n l e H = some r) (hnm : n ≤ m) : runOps E m l e H = some r := le_of_mono (fun n r => (mono E n).ops l e H r) h m hnm
theorem runDraw_le {l : List LOp} {e : Env} {H : Heap} {r : Env × Heap × List Rec} {n m : Nat} (h : runDraw E n l e H = some r) (hnm : n ≤ m) : runDraw E m l e H = some r := le_of_mono (fun n r => (mono E n).draw l e H r) h m hnm
theorem runOp_le {o : AOp} {e : Env} {H : Heap} {r : Value × Heap} {n m : Nat} (h : runOp E n o e H = some r) (hnm : n ≤ m) : runOp E m o e H = some r := le_of_mono (fun n r => (mono E n).op o e H r) h m hnm
theorem call_le {f : Nat} {a : List Value} {H : Heap} {r : Value × Heap} {n m : Nat} (h : call E n f a H = some r) (hnm : n ≤ m) : call E m f a H = some r := le_of_mono (fun n r => (mono E n).call f a H r) h m hnm

/-- One thing behind another. -/
def andThen (r : Option (LExit × Env × Heap)) (k : Env → Heap → Option (LExit × Env × Heap)) : Option (LExit × Env × Heap) :=
  match r with
  | some (.normal, e, H) => k e H
  | r => r

/-- The exit of a block is its end. -/
def endBlock (id : Nat) (r : Option (LExit × Env × Heap)) : Option (LExit × Env × Heap) :=
  match r with
  | some (.exit id', e, H) => bif Nat.beq id' id then some (.normal, e, H) else some (.exit id', e, H)
  | r => r

theorem andThen_some {x : LExit} {e : Env} {H : Heap} {k : Env → Heap → Option (LExit × Env × Heap)} {r : LExit × Env × Heap} {o : Option (LExit × Env × Heap)} :
    andThen o k = some r ↔ (∃ e H, o = some (.normal, e, H) ∧ k e H = some r) ∨ (o = some r ∧ ∀ e H, r ≠ (.normal, e, H)) := by
  unfold andThen
  split
  · rename_i e1 H1
    constructor
    · intro h; exact .inl ⟨_, _, rfl, h⟩
    · rintro (⟨e2, H2, h1, h2⟩ | ⟨h1, h2⟩)
      · cases h1; exact h2
      · cases h1; exact absurd rfl (h2 _ _)
  · rename_i hn
    constructor
    · intro h; exact .inr ⟨h, fun e2 H2 hr => hn e2 H2 (by rw [h, hr])⟩
    · rintro (⟨e2, H2, h1, h2⟩ | ⟨h1, h2⟩)
      · exact absurd h1 (hn _ _)
      · exact h1

theorem sem_skip {e : Env} {H : Heap} : sem E .skip e H = some (.normal, e, H) := sem_iff.2 ⟨1, rfl⟩
theorem sem_keep {ks : List Nat} {e : Env} {H : Heap} : sem E (.keep ks) e H = some (.normal, ekeep e ks, H) := sem_iff.2 ⟨1, rfl⟩
theorem sem_exit {i : Nat} {e : Env} {H : Heap} : sem E (.exit i) e H = some (.exit i, e, H) := sem_iff.2 ⟨1, rfl⟩
theorem sem_ret {e : Env} {H : Heap} : sem E .ret e H = some (.ret, e, H) := sem_iff.2 ⟨1, rfl⟩

theorem run_seq_eq {n : Nat} {a b : LCode} {e : Env} {H : Heap} : run E (n + 1) (.seq a b) e H = andThen (run E n a e H) (fun e H => run E n b e H) := rfl
theorem run_loop_eq {n : Nat} {a : LCode} {e : Env} {H : Heap} : run E (n + 1) (.loop a) e H = andThen (run E n a e H) (fun e H => run E n (.loop a) e H) := rfl
theorem run_block_eq {n id : Nat} {a : LCode} {e : Env} {H : Heap} : run E (n + 1) (.block id a) e H = endBlock id (run E n a e H) := rfl

theorem sem_then {a b c : LCode} {e : Env} {H : Heap} (hc : ∀ n, run E (n + 1) c e H = andThen (run E n a e H) (fun e H => run E n b e H)) : sem E c e H = andThen (sem E a e H) (fun e H => sem E b e H) := by
  refine Option.ext fun r => ?_
  rw [sem_iff, andThen_some (x := .ret) (e := e) (H := H)]
  constructor
  · rintro ⟨n, hn⟩
    cases n with
    | zero => simp [run] at hn
    | succ n =>
      rw [hc, andThen_some (x := .ret) (e := e) (H := H)] at hn
      rcases hn with ⟨e1, H1, h1, h2⟩ | ⟨h1, h2⟩
      · exact .inl ⟨e1, H1, sem_iff.2 ⟨n, h1⟩, sem_iff.2 ⟨n, h2⟩⟩
      · exact .inr ⟨sem_iff.2 ⟨n, h1⟩, h2⟩
  · rintro (⟨e1, H1, h1, h2⟩ | ⟨h1, h2⟩)
    · obtain ⟨n, hn⟩ := sem_iff.1 h1
      obtain ⟨m, hm⟩ := sem_iff.1 h2
      refine ⟨max n m + 1, ?_⟩
      rw [hc, andThen_some (x := .ret) (e := e) (H := H)]
      exact .inl ⟨e1, H1, run_le hn (Nat.le_max_left _ _), run_le hm (Nat.le_max_right _ _)⟩
    · obtain ⟨n, hn⟩ := sem_iff.1 h1
      refine ⟨n + 1, ?_⟩
      rw [hc, andThen_some (x := .ret) (e := e) (H := H)]
      exact .inr ⟨hn, h2⟩

theorem sem_seq {a b : LCode} {e : Env} {H : Heap} : sem E (.seq a b) e H = andThen (sem E a e H) (fun e H => sem E b e H) := sem_then fun _ => run_seq_eq
theorem sem_loop {a : LCode} {e : Env} {H : Heap} : sem E (.loop a) e H = andThen (sem E a e H) (fun e H => sem E (.loop a) e H) := sem_then fun _ => run_loop_eq

theorem lim_step {α β : Type} {f : Nat → Option α} {g : Nat → Option β} (F : Option β → Option α) (hf : ∀ n r, f n = some r → f (n + 1) = some r) (hg : ∀ n r, g n = some r → g (n + 1) = some r)
    (h0 : f 0 = none) (hF : F none = none) (hs : ∀ n, f (n + 1) = F (g n)) : lim f = F (lim g) := by
  refine Option.ext fun r => ?_
  rw [lim_iff hf]
  constructor
  · rintro ⟨n, hn⟩
    cases n with
    | zero => rw [h0] at hn; cases hn
    | succ n =>
      rw [hs] at hn
      cases hgn : g n with
      | none => rw [hgn, hF] at hn; cases hn
      | some y => rw [(lim_iff hg).2 ⟨n, hgn⟩, ← hgn]; exact hn
  · intro h
    cases hl : lim g with
    | none => rw [hl, hF] at h; cases h
    | some y =>
      obtain ⟨n, hn⟩ := (lim_iff hg).1 hl
      exact ⟨n + 1, by rw [hs, hn, ← hl]; exact h⟩

theorem sem_block {id : Nat} {a : LCode} {e : Env} {H : Heap} : sem E (.block id a) e H = endBlock id (sem E a e H) :=
  lim_step (endBlock id) (fun n r => (mono E n).run _ e H r) (fun n r => (mono E n).run _ e H r) rfl rfl (fun _ => run_block_eq)

theorem sem_cond {c : Operand} {a b : LCode} {e : Env} {H : Heap} : sem E (.cond c a b) e H = (match aval e c with
    | some (.bool true) => sem E a e H
    | some (.bool false) => sem E b e H
    | _ => none) := by
  split
  · rename_i h
    exact lim_step id (fun n r => (mono E n).run _ e H r) (fun n r => (mono E n).run _ e H r) rfl rfl (fun n => by simp only [run, h]; rfl)
  · rename_i h
    exact lim_step id (fun n r => (mono E n).run _ e H r) (fun n r => (mono E n).run _ e H r) rfl rfl (fun n => by simp only [run, h]; rfl)
  · rename_i h1 h2
    refine Option.ext fun r => ?_
    rw [sem_iff]
    constructor
    · rintro ⟨n, hn⟩
      cases n with
      | zero => cases hn
      | succ n =>
        simp only [run] at hn
        exact hn
    · intro h; cases h

theorem sem_reg {l : List LOp} {e : Env} {H : Heap} : sem E (.reg l) e H = (match semOps E l e H with
    | some (e, H) => some (.normal, e, H)
    | none => none) :=
  lim_step (fun x : Option (Env × Heap) => match x with | some (e, H) => some (LExit.normal, e, H) | none => none) (fun n r => (mono E n).run _ e H r) (fun n r => (mono E n).ops _ e H r) rfl rfl (fun n => rfl)

theorem sem_dreg {l : List LOp} {chk : List (Nat × Nat × Nat)} {e : Env} {H : Heap} : sem E (.dreg l chk) e H = (match semDraw E l e H with
    | some (e', H', recs) => bif drawsOk E.P H l recs chk then some (.normal, e', H') else none
    | none => none) :=
  lim_step (fun x : Option (Env × Heap × List Rec) => match x with | some (e', H', recs) => bif drawsOk E.P H l recs chk then some (LExit.normal, e', H') else none | none => none)
    (fun n r => (mono E n).run _ e H r) (fun n r => (mono E n).draw _ e H r) rfl rfl (fun n => rfl)

theorem semOps_nil {e : Env} {H : Heap} : semOps E [] e H = some (e, H) := semOps_iff.2 ⟨1, rfl⟩

theorem semOps_cons {o : LOp} {os : List LOp} {e : Env} {H : Heap} : semOps E (o :: os) e H = (match wanted e o.guard with
    | some true => (match semOp E o.op e H with
      | some (v, H) => semOps E os (eput e o.dst v) H
      | none => none)
    | some false => semOps E os (eput e o.dst (.tuple #[])) H
    | none => none) := by
  refine Option.ext fun r => ?_
  rw [semOps_iff]
  constructor
  · rintro ⟨n, hn⟩
    cases n with
    | zero => simp [runOps] at hn
    | succ n =>
      simp only [runOps] at hn
      split at hn
      · rename_i hw
        split at hn
        · rename_i v H1 h1
          rw [hw]
          simp only
          rw [semOp_iff.2 ⟨n, h1⟩]
          exact semOps_iff.2 ⟨n, hn⟩
        · cases hn
      · rename_i hw; rw [hw]; exact semOps_iff.2 ⟨n, hn⟩
      · cases hn
  · intro h
    split at h
    · rename_i hw
      split at h
      · rename_i v H1 h1
        obtain ⟨n, hn⟩ := semOp_iff.1 h1
        obtain ⟨m, hm⟩ := semOps_iff.1 h
        refine ⟨max n m + 1, ?_⟩
        simp only [runOps, hw, runOp_le hn (Nat.le_max_left n m)]
        exact runOps_le hm (Nat.le_max_right _ _)
      · cases h
    · rename_i hw
      obtain ⟨m, hm⟩ := semOps_iff.1 h
      exact ⟨m + 1, by simp only [runOps, hw]; exact hm⟩
    · cases h

theorem semDraw_nil {e : Env} {H : Heap} : semDraw E [] e H = some (e, H, []) := semDraw_iff.2 ⟨1, rfl⟩

theorem semDraw_cons {o : LOp} {os : List LOp} {e : Env} {H : Heap} : semDraw E (o :: os) e H = (match wanted e o.guard with
    | some true => (match semOp E o.op e H with
      | some (v, H1) => (match semDraw E os (eput e o.dst v) H1 with
        | some (e', H', rs) => some (e', H', ⟨e, H, v, H1, true⟩ :: rs)
        | none => none)
      | none => none)
    | some false => (match semDraw E os (eput e o.dst (.tuple #[])) H with
      | some (e', H', rs) => some (e', H', ⟨e, H, .tuple #[], H, false⟩ :: rs)
      | none => none)
    | none => none) := by
  refine Option.ext fun r => ?_
  rw [semDraw_iff]
  constructor
  · rintro ⟨n, hn⟩
    cases n with
    | zero => simp [runDraw] at hn
    | succ n =>
      simp only [runDraw] at hn
      split at hn
      · rename_i hw
        split at hn
        · rename_i v H1 h1
          rw [hw]
          simp only
          rw [semOp_iff.2 ⟨n, h1⟩]
          simp only
          split at hn
          · rename_i e2 H2 rs h2
            rw [semDraw_iff.2 ⟨n, h2⟩]
            exact hn
          · cases hn
        · cases hn
      · rename_i hw
        rw [hw]
        simp only
        split at hn
        · rename_i e2 H2 rs h2
          rw [semDraw_iff.2 ⟨n, h2⟩]
          exact hn
        · cases hn
      · cases hn
  · intro h
    split at h
    · rename_i hw
      split at h
      · rename_i v H1 h1
        obtain ⟨n, hn⟩ := semOp_iff.1 h1
        split at h
        · rename_i e2 H2 rs h2
          obtain ⟨m, hm⟩ := semDraw_iff.1 h2
          refine ⟨max n m + 1, ?_⟩
          simp only [runDraw, hw, runOp_le hn (Nat.le_max_left n m), runDraw_le hm (Nat.le_max_right n m)]
          exact h
        · cases h
      · cases h
    · rename_i hw
      split at h
      · rename_i e2 H2 rs h2
        obtain ⟨m, hm⟩ := semDraw_iff.1 h2
        exact ⟨m + 1, by simp only [runDraw, hw, hm]; exact h⟩
      · cases h
    · cases h

theorem lim_const {α : Type} {f : Nat → Option α} {x : Option α} (h0 : f 0 = none) (h : ∀ n, f (n + 1) = x) : lim f = x := by
  have hm : ∀ n r, f n = some r → f (n + 1) = some r := by
    intro n r hn
    cases n with
    | zero => rw [h0] at hn; cases hn
    | succ n => rw [h] at hn ⊢; exact hn
  refine Option.ext fun r => ?_
  rw [lim_iff hm]
  constructor
  · rintro ⟨n, hn⟩
    cases n with
    | zero => rw [h0] at hn; cases hn
    | succ n => rw [h] at hn; exact hn
  · intro hx; exact ⟨1, by rw [h]; exact hx⟩

theorem semOp_aop {o : AOp} {e : Env} {H : Heap} (hc : ∀ f xs, o ≠ .call f xs) (hv : ∀ x xs, o ≠ .callv x xs) (hi : ∀ x t xs, o ≠ .inv x t xs) : semOp E o e H = aop E.P e H o := by
  refine lim_const rfl fun n => ?_
  cases o <;> first | rfl | exact absurd rfl (hc _ _) | exact absurd rfl (hv _ _) | exact absurd rfl (hi _ _ _)

theorem semOp_call {f : Nat} {xs : List Operand} {e : Env} {H : Heap} : semOp E (.call f xs) e H = (match avals e xs with
    | some vs => semCall E f vs H
    | none => none) := by
  split
  · rename_i vs h
    exact lim_step id (fun n r => (mono E n).op _ e H r) (fun n r => (mono E n).call _ _ H r) rfl rfl (fun n => by simp only [runOp, h]; rfl)
  · rename_i h
    exact lim_const rfl fun n => by simp only [runOp, h]

theorem semOp_callv {x : Operand} {xs : List Operand} {e : Env} {H : Heap} : semOp E (.callv x xs) e H = (match aval e x, avals e xs with
    | some (.func (.func f) first captured), some vs => semCall E f (first.toList ++ vs ++ captured.toList) H
    | _, _ => none) := by
  split
  · rename_i f a b vs h1 h2
    exact lim_step id (fun n r => (mono E n).op _ e H r) (fun n r => (mono E n).call _ _ H r) rfl rfl (fun n => by simp only [runOp, h1, h2]; rfl)
  · rename_i hn
    refine lim_const rfl fun n => ?_
    simp only [runOp]

theorem semOp_inv {x : Operand} {t : List (TypeId × FuncId)} {xs : List Operand} {e : Env} {H : Heap} : semOp E (.inv x t xs) e H = (match aval e x, avals e xs with
    | some (.iface t' v), some vs => (match t.find? (fun p => Nat.beq p.1 t') with
      | some (_, f) => semCall E f (v :: vs) H
      | none => none)
    | _, _ => none) := by
  split
  · rename_i t' v vs h1 h2
    split
    · rename_i a f h3
      exact lim_step id (fun n r => (mono E n).op _ e H r) (fun n r => (mono E n).call _ _ H r) rfl rfl (fun n => by simp only [runOp, h1, h2, h3]; rfl)
    · rename_i h3
      exact lim_const rfl fun n => by simp only [runOp, h1, h2, h3]
  · rename_i hn
    refine lim_const rfl fun n => ?_
    simp only [runOp]

theorem semCall_hook {f : Nat} {h : List Value → Heap → Option (Value × Heap)} {a : List Value} {H : Heap} (hk : E.hook f = some h) : semCall E f a H = h a H :=
  lim_const rfl fun n => by simp only [call, hk]

/-- What a function hands back. -/
def handBack (fn : LFunc) (r : Option (LExit × Env × Heap)) : Option (Value × Heap) :=
  match r with
  | some (.exit _, _, _) => none
  | some (_, e, H) => (match aress e H fn.results with
    | some vs => some (pack vs, H)
    | none => none)
  | none => none

theorem semCall_fn {f : Nat} {fn : LFunc} {a : List Value} {H : Heap} (hk : E.hook f = none) (hf : E.fn f = some fn) (hl : Nat.beq a.length fn.nparams = true) :
    semCall E f a H = handBack fn (sem E fn.body (params 0 a) H) :=
  lim_step (handBack fn) (fun n r => (mono E n).call f a H r) (fun n r => (mono E n).run _ _ H r) rfl rfl (fun n => by simp only [call, hk, hf, hl, cond_true]; rfl)

end
end Go.Abs
