/- Calls. Of no program. -/
import Derived.Test.YtfpocoongggehaaGreatDoorA18
set_option linter.all false
namespace Go.Abs
open Go
variable [Fixed]

def resOne (tmps : Array Value) : ResultVar → Sem Value
  | .tmp t => pure (tmps.getD t undef)
  | .cell x t => do loadVar t (← asAddr (tmps.getD x undef))

theorem results_eq (fn : Func) (tmps : Array Value) : results fn tmps = (do let vs ← fn.results.mapM (resOne tmps); pure (if h : vs.size = 1 then vs[0] else .tuple vs)) := by
  have : (fun r => resOne tmps r) = fun r => (match r with
    | .tmp t => pure (tmps.getD t undef)
    | .cell x t => do loadVar t (← asAddr (tmps.getD x undef)) : Sem Value) := by
    funext r; cases r <;> rfl
  unfold results
  congr 1

section
variable {P : Program} {σ : Map} {H : Heap} {w : World} {e : Env} {a : Act}

theorem ares_rel (hR : R σ H w) (he : EnvRel σ e a) {r : ResultVar} {lr : LRes} {v : Value} (hl : lowRes P r = some lr) (h : ares e H lr = some v) :
    ∃ v', (resOne a.tmps r).run P w = .ok v' w ∧ VRel σ v v' := by
  have getD_of : ∀ t v', a.tmps[t]? = some v' → a.tmps.getD t undef = v' := by
    intro t v' ht; rw [Array.getD_eq_getD_getElem?, ht]; rfl
  cases r with
  | tmp t =>
    cases hl
    simp only [ares] at h
    obtain ⟨v', h1, h2⟩ := he t v h
    exact ⟨v', by simp [resOne, getD_of t v' h1], h2⟩
  | cell x t =>
    simp only [lowRes] at hl
    split at hl
    · rename_i n hg hn
      cases hl
      simp only [ares] at h
      split at h
      · rename_i b o hx
        obtain ⟨v', h1, h2⟩ := he x _ hx
        split at h
        · rename_i vs hc
          cases h
          cases h2 with
          | ptr hb =>
            obtain ⟨vs', k1, k2, k3⟩ := cellsAt_rel (P := P) hR hb hc
            refine ⟨.agg vs'.toArray, ?_, VRel.agg' k2⟩
            simp only [resOne, getD_of x _ h1, asAddr, Sem.run_bind, Sem.run_pure, Result.andThen_ok, loadVar, run_agg hg, if_true, run_size hn, k1]
        · cases h
      · cases h
    · rename_i n hg hn
      cases hl
      simp only [ares] at h
      split at h
      · rename_i b o hx
        obtain ⟨v', h1, h2⟩ := he x _ hx
        split at h
        · rename_i cs sz ro hgb
          cases h2 with
          | ptr hb =>
            obtain ⟨v2, k1, k2⟩ := cell_rel hR hb hgb h
            refine ⟨v2, ?_, k2⟩
            simp [resOne, getD_of x _ h1, asAddr, loadVar, run_agg hg, k1]
        · cases h
      · cases h
    · cases hl

theorem aress_rel (hR : R σ H w) (he : EnvRel σ e a) : ∀ {rs : List ResultVar} {lrs : List LRes} {vs : List Value}, lowRess P rs = some lrs → aress e H lrs = some vs →
    ∃ vs', (rs.mapM (resOne a.tmps)).run P w = .ok vs' w ∧ LRel σ vs vs' := by
  intro rs
  induction rs with
  | nil => intro lrs vs h1 h2; cases h1; cases h2; exact ⟨[], by simp, LRel.nil _⟩
  | cons r rs ih =>
    intro lrs vs h1 h2
    simp only [lowRess] at h1
    split at h1
    · rename_i lr lrs' g1 g2
      cases h1
      simp only [aress] at h2
      split at h2
      · rename_i v us g3 g4
        cases h2
        obtain ⟨v', k1, k2⟩ := ares_rel hR he g1 g3
        obtain ⟨us', k3, k4⟩ := ih g2 g4
        refine ⟨v' :: us', ?_, LRel.cons k2 k4⟩
        rw [List.mapM_cons, Sem.run_bind, k1, Result.andThen_ok, Sem.run_bind, k3]
        rfl
      · cases h2
    · cases h1

theorem results_rel (hR : R σ H w) (he : EnvRel σ e a) {fn : Func} {lrs : List LRes} {vs : List Value} (hl : lowRess P fn.results.toList = some lrs) (h : aress e H lrs = some vs) :
    ∃ v', (results fn a.tmps).run P w = .ok v' w ∧ VRel σ (pack vs) v' := by
  obtain ⟨vs', h1, h2⟩ := aress_rel (P := P) hR he hl h
  refine ⟨if h : vs'.toArray.size = 1 then vs'.toArray[0] else .tuple vs'.toArray, ?_, ?_⟩
  · rw [results_eq, Sem.run_bind, Array.mapM_eq_mapM_toList, Sem.run_map]
    rw [h1]
    rfl
  · cases vs with
    | nil =>
      have : vs' = [] := List.eq_nil_of_length_eq_zero (by rw [← h2.1]; rfl)
      subst this
      exact .tuple' (LRel.nil _)
    | cons v vs =>
      cases vs' with
      | nil => have := h2.1; simp at this
      | cons v' vs' =>
        cases vs with
        | nil =>
          have : vs' = [] := List.eq_nil_of_length_eq_zero (by have := h2.1; simp only [List.length_cons, List.length_nil] at this; omega)
          subst this
          exact h2.head
        | cons u us =>
          cases vs' with
          | nil => have := h2.1; simp at this
          | cons u' us' =>
            have : ¬ (v' :: u' :: us').toArray.size = 1 := by simp
            rw [dif_neg this]
            exact .tuple' h2

theorem params_rel {args args' : List Value} (h : LRel σ args args') (extra : Array Value) (d : List Deferred) : EnvRel σ (params 0 args) { tmps := args'.toArray ++ extra, defers := d } := by
  have key : ∀ (args : List Value) (i : Nat) (t : Nat) (v : Value), eget (params i args) t = some v → i ≤ t ∧ args[t - i]? = some v := by
    intro args
    induction args with
    | nil => intro i t v h; simp [params, eget] at h
    | cons u us ih =>
      intro i t v h
      simp only [params, eget, bif_beq] at h
      split at h
      · rename_i hi; subst hi; cases h; exact ⟨Nat.le_refl _, by simp⟩
      · rename_i hi
        obtain ⟨h1, h2⟩ := ih (i + 1) t v h
        refine ⟨by omega, ?_⟩
        rw [show t - i = (t - (i + 1)) + 1 from by omega]; simpa using h2
  intro t v hv
  obtain ⟨_, h2⟩ := key args 0 t v hv
  obtain ⟨v', h3, h4⟩ := h.get? h2
  refine ⟨v', ?_, h4⟩
  rw [Nat.sub_zero] at h3
  have hlt : t < args'.toArray.size := by
    obtain ⟨hh, _⟩ := List.getElem?_eq_some_iff.1 h3; simpa using hh
  rw [Array.getElem?_append_left hlt]
  simpa using h3

end

theorem callS_succ {E : Env0} (hE : EnvOk E) {n : Nat} (hr : RunS E n) : CallS E (n + 1) := by
  intro f args H r H' hc σ w args' hR hargs
  simp only [call] at hc
  split at hc
  · rename_i k hk
    exact (hE.hook f k hk).2 args H r H' hc σ w args' hR hargs
  · split at hc
    · rename_i l hl
      obtain ⟨fn, hf, hlow⟩ := hE.fn f l hl
      rw [bif_beq] at hc
      split at hc
      · rename_i hlen
        have hbody := hlow.body
        cases hb : fn.body with
        | none => rw [hb] at hbody; cases hbody
        | some c =>
          rw [hb] at hbody
          simp only [Option.bind_some] at hbody
          have hnp := Nat.le_of_ble_eq_true hlow.params
          have hsz : (args'.toArray ++ Array.replicate (fn.ntmps - args'.toArray.size) undef).size = fn.ntmps := by
            have := hargs.1
            simp; omega
          have he := params_rel hargs (Array.replicate (fn.ntmps - args'.toArray.size) undef) []
          unfold CallOk
          refine calls_of_wp hf hb ?_
          split at hc
          · cases hc
          · rename_i x e1 H1 hx h1
            split at hc
            · rename_i vs hvs
              cases hc
              refine wp_mono (hr fn.ntmps l.body c (params 0 args) H x e1 H' h1 hbody σ w _ hR he hsz rfl) ?_
              intro ex a1 w1 hp
              obtain ⟨σ1, g1, g2, g3, g4, g5⟩ := hp
              obtain ⟨v', k1, k2⟩ := results_rel (P := E.P) g5.rel g2 hlow.results hvs
              cases ex with
              | normal => exact ⟨g4, v', k1, σ1, v', rfl, k2, g5⟩
              | ret => exact ⟨g4, v', k1, σ1, v', rfl, k2, g5⟩
              | exit j =>
                cases x with
                | exit i => exact (hx _ rfl).elim
                | _ => exact g1.elim
              | _ => cases x <;> exact g1.elim
            · cases hc
          · cases hc
      · cases hc
    · cases hc

end Go.Abs
