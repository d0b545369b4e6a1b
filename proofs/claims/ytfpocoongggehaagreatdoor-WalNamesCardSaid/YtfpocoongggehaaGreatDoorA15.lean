/- All operations that are no calls. Of no program. -/
import Derived.Test.YtfpocoongggehaaGreatDoorA14
set_option linter.all false
namespace Go.Abs
open Go
variable [Fixed]

variable {P : Program}
section
variable {σ : Map} {H : Heap} {w : World} {e : Env} {a : Act} {o : Oper} {v : Value} {H' : Heap}

theorem sound_app (hr : R σ H w) (he : EnvRel σ e a) {c : Call} {t u el : TypeId} {sz by_ : Nat} {z : List Value} {s x : Operand} (ho : o.op = .call c) (hc0 : c.callee = .builtin .append) (hargs : c.args.toList = [s, x])
    (htys : c.argTypes.toList = [t, u]) (ht : P.underlying t = some (.slice el)) (hu : P.underlying u = some .string ∨ ∃ e2, P.underlying u = some (.slice e2)) (hel : tyInfo P el = some (sz, by_, z)) (hzl : z.length = sz) (hsz : 1 ≤ sz) (hby : sz ≤ by_)
    (h : aop P e H (.app sz by_ s x) = some (v, H')) : Val P (execOp a.eval o) σ H w v H' := by
  have ea : c.args = #[s, x] := by apply Array.ext'; exact hargs
  have et' : c.argTypes = #[t, u] := by apply Array.ext'; exact htys
  simp only [aop] at h
  split at h
  · rename_i sv xv hs hx
    obtain ⟨σ', w', v', h1, h2, h3⟩ := append_sound (P := P) hr (ty := o.type) ht hu hel hzl hsz hby (aval_rel he hs) (aval_rel he hx) h
    refine ⟨σ', w', v', .inl ?_, h2, h3⟩
    rw [run_builtin ho hc0, ea, et']
    simp [builtin, h1]
  · cases h

theorem copy_run {t u ty el : TypeId} {sz n dLen cap : Nat} {base : Option Addr} {s' : Value} {vs' : List Value} {w' : World} (ht : P.underlying t = some (.slice el)) (hsz : tySize P el = some sz)
    (hlen : (Builtin.lenOf s').run P w = .ok n w) (hcells : (Builtin.firstCells sz (min n dLen) s').run P w = .ok vs'.toArray w)
    (hst : (base = none ∧ w' = w) ∨ ∃ a, base = some a ∧ (storeCells a vs').run P w = .ok () w') :
    (Builtin.copy_ #[t, u] ty #[.slice base dLen cap, s']).run P w = .ok (.int .i64 (min n dLen : Nat)) w' := by
  have hcells' : (Builtin.firstCells sz (Nat.min n dLen) s').run P w = .ok vs'.toArray w := hcells
  rcases hst with ⟨rfl, rfl⟩ | ⟨a, rfl, hst⟩
  · simp only [Builtin.copy_, List.getElem?_toArray, List.getElem?_cons_zero, List.getElem?_cons_succ, Sem.run_bind, run_underlying ht, Result.andThen_ok, hlen, run_size hsz, hcells', Sem.run_pure]
    rfl
  · simp only [Builtin.copy_, List.getElem?_toArray, List.getElem?_cons_zero, List.getElem?_cons_succ, Sem.run_bind, run_underlying ht, Result.andThen_ok, hlen, run_size hsz, hcells', Sem.run_pure, hst]
    rfl

theorem sound_copy (hr : R σ H w) (he : EnvRel σ e a) {c : Call} {t u el : TypeId} {sz : Nat} {d s : Operand} (ho : o.op = .call c) (hc0 : c.callee = .builtin .copy) (hargs : c.args.toList = [d, s])
    (htys : c.argTypes.toList = [t, u]) (ht : P.underlying t = some (.slice el)) (hsz : tySize P el = some sz)
    (h : aop P e H (.copy sz d s) = some (v, H')) : Val P (execOp a.eval o) σ H w v H' := by
  have ea : c.args = #[d, s] := by apply Array.ext'; exact hargs
  have et' : c.argTypes = #[t, u] := by apply Array.ext'; exact htys
  have fin : ∀ u0 w', (Builtin.copy_ #[t, u] o.type #[a.eval d, a.eval s]).run P w = .ok u0 w' → (execOp a.eval o).run P w = .ok (.value u0) w' := by
    intro u0 w' hu
    rw [run_builtin ho hc0, ea, et']
    simp [builtin, hu]
  simp only [aop] at h
  split at h
  · rename_i dd len cap sv hd hs
    have hdv := aval_rel he hd
    have hsv := aval_rel he hs
    split at h
    · rename_i n hn
      have hlen := srcLen_rel (P := P) hsv hn w
      split at h
      · rename_i vs hvs
        obtain ⟨vs', hrun, hvl⟩ := srcCells_rel (P := P) hr hsv hn (Nat.min_le_left _ _) hvs
        have hvlen := srcCells_length hsv hn (Nat.min_le_left _ _) hvs
        have hvone := src_one hr hsv hn (Nat.min_le_left _ _) hvs
        split at h
        · rename_i b of
          rw [bif_beq] at h
          obtain ⟨b', o', c', hdx, hlc⟩ := slice_len_cap hdv
          split at h
          · rename_i h0
            cases h
            have : vs' = [] := List.eq_nil_of_length_eq_zero (by rw [← hvl.1, hvlen, h0]; simp)
            subst this
            refine ⟨σ, w, .int .i64 ((min n len : Nat) : Int), .inl (fin _ _ ?_), by rw [h0]; exact .int _ _, Step.refl hr⟩
            rw [hdx]
            exact copy_run ht hsz hlen hrun (.inr ⟨_, rfl, rfl⟩)
          · rename_i h0
            split at h
            · rename_i H1 hst
              cases h
              rw [hdx] at hdv
              have key : ∀ lc, σ b = some lc → o' = lc.δ + of → b' = lc.c → Val P (execOp a.eval o) σ H w (.int .i64 ((min n len : Nat) : Int)) H' := by
                intro lc hb ho' hb'
                obtain ⟨w', k1, k2⟩ := storeAt_rel (P := P) hr hb hst hvl hvone
                refine ⟨σ, w', _, .inl (fin _ _ ?_), .int _ _, k2⟩
                rw [hdx, ho', hb']
                exact copy_run ht hsz hlen hrun (.inr ⟨_, rfl, k1⟩)
              cases hdv with
              | hard hb _ _ => exact key _ hb rfl rfl
              | hard0 => exact absurd (Nat.min_zero n) h0
              | soft hb _ _ => exact key _ hb rfl rfl
              | soft0 => exact absurd (Nat.min_zero n) h0
            · cases h
        · cases h
          generalize hdx : a.eval d = dx at hdv
          cases hdv
          refine ⟨σ, w, .int .i64 ((min n 0 : Nat) : Int), .inl (fin _ _ ?_), .int _ _, Step.refl hr⟩
          rw [hdx]
          exact copy_run ht hsz hlen hrun (.inl ⟨rfl, rfl⟩)
        · cases h
      · cases h
    · cases h
  · cases h

/-- The operations that lowering leaves to the model. -/
theorem prim_sel (ho : ∃ x, lowOp P o = some (.prim x)) : ∀ cs b, o.op ≠ .select cs b := by
  intro cs b hh
  obtain ⟨x, hx⟩ := ho
  unfold lowOp at hx
  rw [hh] at hx
  cases hx

end
end Go.Abs
