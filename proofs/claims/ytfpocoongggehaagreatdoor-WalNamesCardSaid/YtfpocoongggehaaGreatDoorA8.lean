/- Slices, strings, maps, append. Of no program. -/
import Derived.Test.YtfpocoongggehaaGreatDoorA7
set_option linter.all false
namespace Go.Abs
open Go
variable [Fixed]

variable {P : Program}
section
variable {σ : Map} {H : Heap} {w : World} {e : Env} {a : Act} {o : Oper} {v : Value} {H' : Heap}

theorem avalo_rel (he : EnvRel σ e a) {x : Option Operand} {u : Option Value} (h : avalo e x = some u) :
    (u = none ∧ x.map a.eval = none) ∨ (∃ y z, u = some y ∧ x.map a.eval = some z ∧ VRel σ y z) := by
  cases x with
  | none => cases h; exact .inl ⟨rfl, rfl⟩
  | some x =>
    simp only [avalo] at h
    split at h
    · rename_i y hy; cases h; exact .inr ⟨y, _, rfl, rfl, aval_rel he hy⟩
    · cases h

theorem run_sliceBound_nat {k : IntKind} {n y : Nat} (h : n ≤ y) (code : BoundsCode) (w : World) : (Instr.sliceBound (.int k (n : Int)) y code).run P w = .ok n w := by
  rw [run_sliceBound _ _ _ _ _ (by omega) (by omega)]; simp

/-- The bounds of a slice expression without a third index. -/
theorem run_bounds {isS : Bool} {n len cap l h : Nat} {lo hi : Option Value} {lo' hi' : Option Value} (hb : bounds n len lo hi = some (l, h))
    (hlo : (lo = none ∧ lo' = none) ∨ (∃ y z, lo = some y ∧ lo' = some z ∧ VRel σ y z)) (hhi : (hi = none ∧ hi' = none) ∨ (∃ y z, hi = some y ∧ hi' = some z ∧ VRel σ y z)) (hn : n ≤ cap) (w : World) :
    (Instr.sliceBounds isS len cap lo' hi' none).run P w = .ok (l, h, cap) w ∧ l ≤ h ∧ h ≤ n := by
  unfold bounds at hb
  split at hb
  · cases hb
  · rename_i h1 heq
    split at hb
    · cases hb
    · rename_i l1 leq
      cases hle : (Nat.ble l1 h1 && Nat.ble h1 n) with
      | false => rw [hle] at hb; cases hb
      | true =>
        rw [hle] at hb
        cases hb
        simp only [Bool.and_eq_true] at hle
        have g1 := Nat.le_of_ble_eq_true hle.1
        have g2 := Nat.le_of_ble_eq_true hle.2
        refine ⟨?_, g1, g2⟩
        rcases hhi with ⟨rfl, rfl⟩ | ⟨y, z, rfl, rfl, hv⟩
        · simp only [Option.some.injEq] at heq
          subst heq
          rcases hlo with ⟨rfl, rfl⟩ | ⟨y', z', rfl, rfl, hv'⟩
          · simp only [Option.some.injEq] at leq; subst leq
            simp [Instr.sliceBounds]
          · obtain ⟨k, rfl⟩ := getNat_rel hv' leq
            simp [Instr.sliceBounds, run_sliceBound_nat g1]
        · obtain ⟨k2, rfl⟩ := getNat_rel hv heq
          have g3 : h ≤ cap := by omega
          rcases hlo with ⟨rfl, rfl⟩ | ⟨y', z', rfl, rfl, hv'⟩
          · simp only [Option.some.injEq] at leq; subst leq
            simp [Instr.sliceBounds, run_sliceBound_nat g3]
          · obtain ⟨k, rfl⟩ := getNat_rel hv' leq
            simp [Instr.sliceBounds, run_sliceBound_nat g1, run_sliceBound_nat g3]

theorem run_bounds3 {n len l h m cap : Nat} {lo hi : Option Value} {lo' hi' : Option Value} {mv : Value} (hb : bounds n len lo hi = some (l, h))
    (hlo : (lo = none ∧ lo' = none) ∨ (∃ y z, lo = some y ∧ lo' = some z ∧ VRel σ y z)) (hhi : ∃ y z, hi = some y ∧ hi' = some z ∧ VRel σ y z)
    (hm : ∃ k, mv = .int k (m : Int)) (h1 : h ≤ m) (h2 : m ≤ cap) (w : World) :
    (Instr.sliceBounds true len cap lo' hi' (some mv)).run P w = .ok (l, h, m) w := by
  obtain ⟨km, rfl⟩ := hm
  obtain ⟨y, z, rfl, rfl, hv⟩ := hhi
  unfold bounds at hb
  split at hb
  · cases hb
  · rename_i h1' heq
    split at hb
    · cases hb
    · rename_i l1 leq
      cases hle : (Nat.ble l1 h1' && Nat.ble h1' n) with
      | false => rw [hle] at hb; cases hb
      | true =>
        rw [hle] at hb
        cases hb
        simp only [Bool.and_eq_true] at hle
        have g1 := Nat.le_of_ble_eq_true hle.1
        obtain ⟨k, rfl⟩ := getNat_rel hv heq
        rcases hlo with ⟨rfl, rfl⟩ | ⟨y', z', rfl, rfl, hv'⟩
        · simp only [Option.some.injEq] at leq; subst leq
          simp [Instr.sliceBounds, run_sliceBound_nat h2, run_sliceBound_nat h1]
        · obtain ⟨k', rfl⟩ := getNat_rel hv' leq
          simp [Instr.sliceBounds, run_sliceBound_nat h2, run_sliceBound_nat h1, run_sliceBound_nat g1]

theorem sound_slcs (hr : R σ H w) (he : EnvRel σ e a) {t : TypeId} {x : Operand} {lo hi : Option Operand} (ho : o.op = .slice t x lo hi none)
    (ht : P.underlying t = some .string) (h : aop P e H (.slcs x lo hi) = some (v, H')) : Val P (execOp a.eval o) σ H w v H' := by
  simp only [aop] at h
  split at h
  · rename_i s lo1 hi1 hx hlo hhi
    split at h
    · rename_i l h1 hb
      cases h
      have hs := (aval_rel he hx).string_eq
      obtain ⟨g1, g2, g3⟩ := run_bounds (P := P) (isS := false) (cap := s.size) hb (avalo_rel he hlo) (avalo_rel he hhi) (Nat.le_refl _) w
      refine Val.quiet hr (v' := .string (s.extract l h1)) ?_ (.string _)
      unfold execOp
      simp [ho, Instr.sliceAt, Instr.slice, run_underlying ht, hs, g1]
    · cases h
  · cases h

theorem some_rel {u : Option Value} {z : Option Value} {y : Value} (h : (u = none ∧ z = none) ∨ (∃ y z', u = some y ∧ z = some z' ∧ VRel σ y z')) (hu : u = some y) : ∃ z', z = some z' ∧ VRel σ y z' := by
  rcases h with ⟨h1, _⟩ | ⟨y', z', h1, h2, h3⟩
  · rw [h1] at hu; cases hu
  · rw [h1] at hu; cases hu; exact ⟨z', h2, h3⟩

theorem none_rel {u : Option Value} {z : Option Value} (h : (u = none ∧ z = none) ∨ (∃ y z', u = some y ∧ z = some z' ∧ VRel σ y z')) (hu : u = none) : z = none := by
  rcases h with ⟨_, h1⟩ | ⟨y', z', h1, _, _⟩
  · exact h1
  · rw [h1] at hu; cases hu

theorem hi_rel (he : EnvRel σ e a) {hi mx : Option Operand} {hi1 : Option Value} {mv : Value} (hmh : (mx.isNone || hi.isSome) = true) (hhi : avalo e hi = some hi1) (hmx : avalo e mx = some (some mv)) :
    ∃ y z, hi1 = some y ∧ hi.map a.eval = some z ∧ VRel σ y z := by
  rcases avalo_rel he hhi with ⟨h1, h2⟩ | h2
  · cases hi with
    | some y => cases h2
    | none => cases mx with
      | none => cases hmx
      | some m => cases hmh
  · exact h2

/-- A slice of a slice. -/
theorem sound_slcl (hr : R σ H w) (he : EnvRel σ e a) {t : TypeId} {el : TypeId} {sz : Nat} {x : Operand} {lo hi mx : Option Operand} (ho : o.op = .slice t x lo hi mx)
    (ht : P.underlying t = some (.slice el)) (hn : tySize P el = some sz) (hmh : (mx.isNone || hi.isSome) = true) (h : aop P e H (.slcl sz x lo hi mx) = some (v, H')) : Val P (execOp a.eval o) σ H w v H' := by
  have key : ∀ (ba : Option Addr) (len cap l hh m : Nat), a.eval x = .slice ba len cap →
      (Instr.sliceBounds true len cap (lo.map a.eval) (hi.map a.eval) (mx.map a.eval)).run P w = .ok (l, hh, m) w →
      (execOp a.eval o).run P w = .ok (.value (.slice (if m = l then ba else ba.map (·.add (l * sz))) (hh - l) (m - l))) w := by
    intro ba len cap l hh m hax hb
    unfold execOp
    simp [ho, Instr.sliceAt, Instr.slice, run_underlying ht, hax, hb, run_size hn]
  -- slices without room
  have zero : ∀ (ba : Option Addr) (lo1 hi1 : Option Value) (l hh : Nat), a.eval x = .slice ba 0 0 → avalo e lo = some lo1 → avalo e hi = some hi1 → bounds 0 0 lo1 hi1 = some (l, hh) →
      (avalo e mx = some none ∨ ∃ mv, avalo e mx = some (some mv) ∧ getNat (some mv) = some 0) → (execOp a.eval o).run P w = .ok (.value (.slice ba 0 0)) w := by
    intro ba lo1 hi1 l hh hax hlo hhi hb hm
    obtain ⟨g1, g2, g3⟩ := run_bounds (P := P) (isS := true) (cap := 0) hb (avalo_rel he hlo) (avalo_rel he hhi) (Nat.le_refl _) w
    have hl : l = 0 := by omega
    have hh0 : hh = 0 := by omega
    subst hl hh0
    rcases hm with hm | ⟨mv, hm, hm0⟩
    · have := key ba 0 0 0 0 0 hax (by rw [none_rel (avalo_rel he hm) rfl]; exact g1)
      simpa using this
    · obtain ⟨z, hz, hvz⟩ := some_rel (avalo_rel he hm) rfl
      have := key ba 0 0 0 0 0 hax (by rw [hz]; exact run_bounds3 (P := P) (cap := 0) hb (avalo_rel he hlo) (hi_rel he hmh hhi hm) (getNat_rel hvz hm0) (Nat.le_refl _) (Nat.le_refl _) w)
      simpa using this
  simp only [aop] at h
  split at h
  · -- nil
    rename_i lo1 hi1 mx1 hx hlo hhi hmx
    have hv := aval_rel he hx
    generalize hax : a.eval x = ax at hv
    cases hv
    split at h
    · rename_i l1 hb
      obtain ⟨l, hh⟩ := l1
      cases h
      exact Val.quiet hr (zero none _ _ l hh hax hlo hhi hb (.inl hmx)) .snil
    · rename_i l1 mv hb
      obtain ⟨l, hh⟩ := l1
      split at h
      · rename_i hm
        cases h
        exact Val.quiet hr (zero none _ _ l hh hax hlo hhi hb (.inr ⟨mv, hmx, hm⟩)) .snil
      · cases h
    · cases h
  · rename_i b of len cap lo1 hi1 mx1 hx hlo hhi hmx
    have hv := aval_rel he hx
    rw [bif_beq] at h
    split at h
    · -- no room
      rename_i hcap
      subst hcap
      generalize hax : a.eval x = ax at hv
      have hax' : ∃ b' o', ax = .slice (some ⟨b', o', none⟩) 0 0 ∧ len = 0 := by
        cases hv with
        | hard hb hc hl => exact ⟨_, _, by congr 1; omega, by omega⟩
        | hard0 => exact ⟨_, _, rfl, rfl⟩
      obtain ⟨b', o', rfl, rfl⟩ := hax'
      split at h
      · rename_i l1 hb
        obtain ⟨l, hh⟩ := l1
        cases h
        exact Val.quiet hr (zero _ _ _ l hh hax hlo hhi hb (.inl hmx)) .hard0
      · rename_i l1 mv hb
        obtain ⟨l, hh⟩ := l1
        split at h
        · rename_i hm
          cases h
          exact Val.quiet hr (zero _ _ _ l hh hax hlo hhi hb (.inr ⟨mv, hmx, hm⟩)) .hard0
        · cases h
      · cases h
    · rename_i hcap0
      split at h
      · rename_i cs sz' ro hg
        cases hck : (!(Nat.beq sz' sz && Nat.ble 1 sz && Nat.ble (of + len * sz) cs.length)) with
        | true => rw [hck] at h; cases h
        | false =>
          rw [hck] at h
          simp only [Bool.not_eq_false', Bool.and_eq_true] at hck
          obtain ⟨⟨hsz, hsz1⟩, hle⟩ := hck
          have hsz := Nat.eq_of_beq_eq_true hsz
          have hsz1 := Nat.le_of_ble_eq_true hsz1
          have hle := Nat.le_of_ble_eq_true hle
          subst hsz
          simp only [cond_false, bif_beq] at h
          split at h
          · cases h
          · rename_i l hh hb
            generalize hax : a.eval x = ax at hv
            cases hv with
            | hard0 => exact absurd rfl hcap0
            | @hard _ _ lc _ _ hσ hc hl =>
              simp only [if_neg (Nat.ne_of_lt hc)] at h hb
              split at h
              · -- no third index
                obtain ⟨g1, g2, g3⟩ := run_bounds (P := P) (isS := true) (cap := cap) hb (avalo_rel he hlo) (avalo_rel he hhi) (Nat.le_refl _) w
                cases h
                have := key _ _ _ _ _ _ hax (by rw [none_rel (avalo_rel he hmx) rfl]; exact g1)
                refine Val.quiet hr this ?_
                by_cases hcl : cap = l
                · rw [if_pos hcl, if_pos hcl, show cap - l = 0 from by omega, show hh - l = 0 from by omega]; exact .hard0
                · rw [if_neg hcl, if_neg hcl]
                  simp only [Option.map_some, addr_add, Nat.add_assoc]
                  exact .hard hσ (by omega) (by omega)
              · rename_i mv
                split at h
                · rename_i m hm
                  cases hmm : (Nat.ble hh m && Nat.ble m cap && Nat.blt m SOFT) with
                  | false => rw [hmm] at h; cases h
                  | true =>
                    rw [hmm] at h
                    simp only [Bool.and_eq_true] at hmm
                    obtain ⟨⟨k1, k2⟩, k3⟩ := hmm
                    have k1 := Nat.le_of_ble_eq_true k1
                    have k2 := Nat.le_of_ble_eq_true k2
                    have k3 : m < SOFT := Nat.le_of_ble_eq_true k3
                    obtain ⟨_, g2, g3⟩ := run_bounds (P := P) (isS := true) (cap := cap) hb (avalo_rel he hlo) (avalo_rel he hhi) (Nat.le_refl _) w
                    obtain ⟨z, hz, hvz⟩ := some_rel (avalo_rel he hmx) rfl
                    cases h
                    have := key _ _ _ _ _ _ hax (by rw [hz]; exact run_bounds3 (P := P) (cap := cap) hb (avalo_rel he hlo) (hi_rel he hmh hhi hmx) (getNat_rel hvz hm) k1 k2 w)
                    refine Val.quiet hr this ?_
                    by_cases hcl : m = l
                    · rw [if_pos hcl, if_pos hcl, show m - l = 0 from by omega, show hh - l = 0 from by omega]; exact .hard0
                    · rw [if_neg hcl, if_neg hcl]
                      simp only [Option.map_some, addr_add, Nat.add_assoc]
                      exact .hard hσ (by omega) (by omega)
                · cases h
            | @soft _ _ lc _ cap' hσ hl hext =>
              obtain ⟨C, e1, fz, hC, d1, d2, d3, d4, _, _⟩ := hr.live _ _ _ hσ hg
              simp only [if_true] at h hb
              rw [d2] at hext
              have hq : (cs.length - of) / sz' * sz' ≤ cs.length - of := Nat.div_mul_le_self _ _
              have hncap : (cs.length - of) / sz' ≤ cap' := by
                refine Nat.le_of_mul_le_mul_right ?_ hsz1
                omega
              split at h
              · obtain ⟨g1, g2, g3⟩ := run_bounds (P := P) (isS := true) (cap := cap') hb (avalo_rel he hlo) (avalo_rel he hhi) hncap w
                cases h
                have := key _ _ _ _ _ _ hax (by rw [none_rel (avalo_rel he hmx) rfl]; exact g1)
                refine Val.quiet hr this ?_
                have hls : l * sz' ≤ cap' * sz' := Nat.mul_le_mul_right _ (by omega)
                by_cases hcl : cap' = l
                · have hll : cap' - l = 0 := by omega
                  have hhl : hh - l = 0 := by omega
                  rw [if_pos hcl, hll, hhl]
                  refine .soft0 hσ ?_
                  subst hcl; omega
                · rw [if_neg hcl]
                  simp only [Option.map_some, addr_add, Nat.add_assoc]
                  refine .soft hσ (by omega) ?_
                  rw [d2, Nat.sub_mul]; omega
              · rename_i mv
                split at h
                · rename_i m hm
                  cases hmm : (Nat.ble hh m && Nat.ble m ((cs.length - of) / sz') && Nat.blt m SOFT) with
                  | false => rw [hmm] at h; cases h
                  | true =>
                    rw [hmm] at h
                    simp only [Bool.and_eq_true] at hmm
                    obtain ⟨⟨k1, k2⟩, k3⟩ := hmm
                    have k1 := Nat.le_of_ble_eq_true k1
                    have k2 := Nat.le_of_ble_eq_true k2
                    have k3 : m < SOFT := Nat.le_of_ble_eq_true k3
                    obtain ⟨_, g2, g3⟩ := run_bounds (P := P) (isS := true) (cap := cap') hb (avalo_rel he hlo) (avalo_rel he hhi) hncap w
                    obtain ⟨z, hz, hvz⟩ := some_rel (avalo_rel he hmx) rfl
                    cases h
                    have := key _ _ _ _ _ _ hax (by rw [hz]; exact run_bounds3 (P := P) (cap := cap') hb (avalo_rel he hlo) (hi_rel he hmh hhi hmx) (getNat_rel hvz hm) k1 (by omega) w)
                    refine Val.quiet hr this ?_
                    by_cases hcl : m = l
                    · rw [if_pos hcl, if_pos hcl, show m - l = 0 from by omega, show hh - l = 0 from by omega]; exact .hard0
                    · rw [if_neg hcl, if_neg hcl]
                      simp only [Option.map_some, addr_add, Nat.add_assoc]
                      exact .hard hσ (by omega) (by omega)
                · cases h
            | @soft0 _ _ lc o' hσ hext =>
              obtain ⟨C, e1, fz, hC, d1, d2, d3, d4, _, _⟩ := hr.live _ _ _ hσ hg
              have hz0 : (cs.length - of) / sz' = 0 := by rw [show cs.length - of = 0 from by omega]; exact Nat.zero_div _
              simp only [if_true, hz0] at h hb
              obtain ⟨_, g2, g3⟩ := run_bounds (P := P) (isS := true) (cap := 0) hb (avalo_rel he hlo) (avalo_rel he hhi) (Nat.le_refl _) w
              have hl0 : l = 0 := by omega
              have hh0 : hh = 0 := by omega
              split at h
              · cases h
                subst hl0 hh0
                refine Val.quiet hr (zero _ _ _ 0 0 hax hlo hhi hb (.inl hmx)) ?_
                simp only [Nat.zero_mul, Nat.add_zero, Nat.sub_self]
                exact .soft0 hσ hext
              · rename_i mv
                split at h
                · rename_i m hm
                  cases hmm : (Nat.ble hh m && Nat.ble m 0 && Nat.blt m SOFT) with
                  | false => rw [hmm] at h; cases h
                  | true =>
                    rw [hmm] at h
                    simp only [Bool.and_eq_true] at hmm
                    have k2 := Nat.le_of_ble_eq_true hmm.1.2
                    have hm0 : m = 0 := by omega
                    subst hm0 hl0 hh0
                    cases h
                    refine Val.quiet hr (zero _ _ _ 0 0 hax hlo hhi hb (.inr ⟨mv, hmx, hm⟩)) ?_
                    exact .hard0
                · cases h
      · cases h
  · cases h

end
end Go.Abs
