/- copy and append. Of no program. -/
import Derived.Test.YtfpocoongggehaaGreatDoorA13
import Derived.Laws.AppendOwn
set_option linter.all false
namespace Go.Abs
open Go
variable [Fixed]

variable {P : Program}
section
variable {σ : Map} {H : Heap} {w : World} {e : Env} {a : Act} {o : Oper} {v : Value} {H' : Heap}

theorem srcLen_rel {x x' : Value} {n : Nat} (hx : VRel σ x x') (h : srcLen x = some n) (w : World) : (Builtin.lenOf x').run P w = .ok n w := by
  cases hx <;> simp only [srcLen, Option.some.injEq] at h <;> first | (subst h; rfl) | cases h

theorem bytes_extract (s : ByteArray) (n : Nat) : ((s.extract 0 n).data.map fun b => Value.int .u8 (b.toNat : Int)) = ((s.data.toList.take n).map fun b => Value.int .u8 (b.toNat : Int)).toArray := by
  apply Array.ext'
  simp [ByteArray.data_extract, List.extract_eq_take_drop]

/-- The cells of a source. -/
theorem srcCells_rel (hr : R σ H w) {x x' : Value} {sz n m : Nat} {vs : List Value} (hx : VRel σ x x') (hm : srcLen x = some m) (hnm : n ≤ m) (h : srcCells H sz n x = some vs) :
    ∃ vs', (Builtin.firstCells sz n x').run P w = .ok vs'.toArray w ∧ LRel σ vs vs' := by
  unfold srcCells at h
  split at h
  · rename_i b of len cap
    simp only [srcLen, Option.some.injEq] at hm
    subst hm
    rw [bif_beq] at h
    split at h
    · rename_i hn
      subst hn
      cases h
      have : ∃ b' o' l' c', x' = .slice (some ⟨b', o', none⟩) l' c' := by cases hx <;> exact ⟨_, _, _, _, rfl⟩
      obtain ⟨b', o', l', c', rfl⟩ := this
      exact ⟨[], by simp [Builtin.firstCells, loadCells, loadCellsFrom], LRel.nil _⟩
    · rename_i hn
      have fin : ∀ (l : Loc) (ln c2 : Nat), σ b = some l → x' = .slice (some ⟨l.c, l.δ + of, none⟩) ln c2 → ∃ vs', (Builtin.firstCells sz n x').run P w = .ok vs'.toArray w ∧ LRel σ vs vs' := by
        intro l ln c2 hσ hx2
        obtain ⟨vs', h1, h2, _⟩ := cellsAt_rel (P := P) hr hσ h
        exact ⟨vs', by rw [hx2]; simpa [Builtin.firstCells] using h1, h2⟩
      cases hx with
      | hard hb _ _ => exact fin _ _ _ hb rfl
      | hard0 => exact absurd (Nat.le_zero.1 hnm) hn
      | soft hb _ _ => exact fin _ _ _ hb rfl
      | soft0 hb _ => exact absurd (Nat.le_zero.1 hnm) hn
  · cases h
    cases hx
    exact ⟨[], by simp [Builtin.firstCells], LRel.nil _⟩
  · rename_i s
    cases hx
    rw [bif_beq] at h
    split at h
    · cases h
      refine ⟨_, ?_, LRel.of_clo (n := 0) σ (bytes_clo _)⟩
      simp only [Builtin.firstCells, Sem.run_pure, bytes_extract]
    · cases h
  · cases h

theorem cells_one (hr : R σ H w) {b of n : Nat} {l : Loc} {vs : List Value} (hσ : σ b = some l) (h : cellsAt H b of n = some vs) : vs.all oneCell = true := by
  unfold cellsAt at h
  split at h
  · rename_i cs sz ro hg
    obtain ⟨_, _, _, _, _, _, _, _, _, h1, _⟩ := hr.live b l _ hσ hg
    cases hle : Nat.ble (of + n) cs.length with
    | false => rw [hle] at h; cases h
    | true =>
      rw [hle] at h
      simp only [cond_true, Option.some.injEq] at h
      subst h
      rw [List.all_eq_true] at *
      intro x hx
      exact h1 x (List.mem_of_mem_drop (List.mem_of_mem_take hx))
  · cases h

theorem src_one (hr : R σ H w) {x x' : Value} {sz n m : Nat} {vs : List Value} (hx : VRel σ x x') (hm : srcLen x = some m) (hnm : n ≤ m) (h : srcCells H sz n x = some vs) : vs.all oneCell = true := by
  unfold srcCells at h
  split at h
  · simp only [srcLen, Option.some.injEq] at hm
    subst hm
    rw [bif_beq] at h
    split at h
    · cases h; rfl
    · rename_i hn
      cases hx with
      | hard hb _ _ => exact cells_one hr hb h
      | hard0 => exact absurd (Nat.le_zero.1 hnm) hn
      | soft hb _ _ => exact cells_one hr hb h
      | soft0 hb _ => exact absurd (Nat.le_zero.1 hnm) hn
  · cases h; rfl
  · rw [bif_beq] at h
    split at h
    · cases h; exact bytes_one _
    · cases h
  · cases h

theorem srcCells_length {x x' : Value} {sz n m : Nat} {vs : List Value} (hx : VRel σ x x') (hm : srcLen x = some m) (hnm : n ≤ m) (h : srcCells H sz n x = some vs) : vs.length = n * sz := by
  unfold srcCells at h
  split at h
  · rw [bif_beq] at h
    split at h
    · rename_i hn; subst hn; cases h; simp
    · unfold cellsAt at h
      split at h
      · rename_i cs _ _ _
        cases hle : Nat.ble (_ + n * sz) cs.length with
        | false => rw [hle] at h; cases h
        | true =>
          rw [hle] at h
          have := Nat.le_of_ble_eq_true hle
          simp only [cond_true, Option.some.injEq] at h
          subst h; simp; omega
      · cases h
  · simp only [srcLen, Option.some.injEq] at hm
    subst hm
    cases h
    cases hx
    have : n = 0 := by omega
    subst this; simp
  · rename_i s
    simp only [srcLen, Option.some.injEq] at hm
    subst hm
    rw [bif_beq] at h
    split at h
    · rename_i hs
      subst hs
      cases h
      simp
      omega
    · cases h
  · cases h

/-- An append that needs a new array. -/
theorem grow_run {x' : Value} {t u ty el : TypeId} {i : TypeInfo} {zv : Value} {base : Option Addr} {sLen sCap n : Nat} {old new : List Value}
    (ht : P.underlying t = some (.slice el)) (hu : P.underlying u = some .string ∨ ∃ e2, P.underlying u = some (.slice e2)) (hi : P.info? el = some i) (hz : i.zero = some zv) (hzs : zv.cells.size = i.size)
    (hn : ∀ w, (Builtin.lenOf x').run P w = .ok n w) (hneed : sCap < sLen + n) (hfit : (sLen + n) * i.bytes ≤ 140737488355328) (hby : 1 ≤ i.bytes)
    (hold : (Builtin.firstCells i.size sLen (.slice base sLen sCap)).run P w.drew = .ok old.toArray w.drew) (hnew : (Builtin.firstCells i.size n x').run P w.drew = .ok new.toArray w.drew)
    (hol : old.length = sLen * i.size) (hnl : new.length = n * i.size) :
    ∃ newCap C, sLen + n ≤ newCap ∧ (Builtin.append_ #[t, u] ty #[.slice base sLen sCap, x']).run P w = .ok (.slice (some ⟨w.heap.size, 0, none⟩) (sLen + n) newCap) (w.drew.alloc (.cells C el)) ∧
      C.toList.take ((sLen + n) * i.size) = old ++ new ∧ C.size = newCap * i.size := by
  obtain ⟨newCap, hcap⟩ : ∃ c, c = (Question.appendCap (sLen + n) sCap el).cut (w.tape w.drawn (.appendCap (sLen + n) sCap el)) := ⟨_, rfl⟩
  have hge : sLen + n ≤ newCap := by rw [hcap]; simp [Question.cut]
  have hol' : (old ++ new).length = (sLen + n) * i.size := by rw [List.length_append, hol, hnl, Nat.add_mul]
  refine ⟨newCap, old.toArray ++ new.toArray ++ Builtin.zeroCells zv.cells (newCap - (sLen + n)), hge, ?_, ?_, ?_⟩
  · have hgs := growslice_fits (bytes := i.bytes) hneed hfit
    have hb0 : ¬ i.bytes = 0 := by omega
    have hgs' : ¬ (281474976710656 < Builtin.nextslicecap (sLen + n) sCap * i.bytes) := by omega
    have hroom : ¬ (sLen + n ≤ sCap) := by omega
    rcases hu with hu | ⟨e2, hu⟩
    · simp [Builtin.append_, run_underlying ht, run_underlying hu, run_info hi, run_size (tySize_of_info hi), hn, hroom, hb0, hgs', Question.forced, hold, hnew, run_zero hi hz, newRow, ← hcap]
      congr 2; apply Array.ext'; simp [List.append_assoc]
    · simp [Builtin.append_, run_underlying ht, run_underlying hu, run_info hi, run_size (tySize_of_info hi), hn, hroom, hb0, hgs', Question.forced, hold, hnew, run_zero hi hz, newRow, ← hcap]
      congr 2; apply Array.ext'; simp [List.append_assoc]
  · simp only [Array.toList_append, List.toList_toArray]
    rw [← hol', List.take_left']
    rfl
  · simp only [Array.size_append, List.size_toArray, size_zeroCells, hzs, hol, hnl]
    rw [← Nat.add_mul, ← Nat.add_mul]
    congr 1; omega

/-- An append for which there is room. -/
theorem room_run {x' : Value} {t u ty el : TypeId} {i : TypeInfo} {c of sLen sCap n : Nat} {new : List Value} {w' : World}
    (ht : P.underlying t = some (.slice el)) (hu : P.underlying u = some .string ∨ ∃ e2, P.underlying u = some (.slice e2)) (hi : P.info? el = some i)
    (hn : ∀ w, (Builtin.lenOf x').run P w = .ok n w) (hneed : sLen + n ≤ sCap)
    (hnew : (Builtin.firstCells i.size n x').run P w = .ok new.toArray w) (hst : (storeCells ⟨c, of + sLen * i.size, none⟩ new).run P w = .ok () w') :
    (Builtin.append_ #[t, u] ty #[.slice (some ⟨c, of, none⟩) sLen sCap, x']).run P w = .ok (.slice (some ⟨c, of, none⟩) (sLen + n) sCap) w' := by
  rcases hu with hu | ⟨e2, hu⟩
  · simp [Builtin.append_, run_underlying ht, run_underlying hu, run_size (tySize_of_info hi), hn, hneed, hnew, addr_add, hst]
  · simp [Builtin.append_, run_underlying ht, run_underlying hu, run_size (tySize_of_info hi), hn, hneed, hnew, addr_add, hst]

theorem room_run_nil {x' : Value} {t u ty el : TypeId} {i : TypeInfo} {base : Option Addr} {sLen sCap : Nat}
    (ht : P.underlying t = some (.slice el)) (hu : P.underlying u = some .string ∨ ∃ e2, P.underlying u = some (.slice e2)) (hi : P.info? el = some i)
    (hn : ∀ w, (Builtin.lenOf x').run P w = .ok 0 w) (hneed : sLen ≤ sCap) (hnew : (Builtin.firstCells i.size 0 x').run P w = .ok #[] w) :
    (Builtin.append_ #[t, u] ty #[.slice base sLen sCap, x']).run P w = .ok (.slice base sLen sCap) w := by
  rcases hu with hu | ⟨e2, hu⟩ <;> cases base <;>
  simp [Builtin.append_, run_underlying ht, run_underlying hu, run_size (tySize_of_info hi), hn, hneed, hnew, storeCells]

theorem slice_len_cap {b o len cap : Nat} {s' : Value} (h : VRel σ (.slice (some ⟨b, o, none⟩) len cap) s') : ∃ b' o' c', s' = .slice (some ⟨b', o', none⟩) len c' ∧ len ≤ c' := by
  cases h with
  | hard h hc hl => exact ⟨_, _, _, rfl, hl⟩
  | hard0 => exact ⟨_, _, _, rfl, Nat.le_refl _⟩
  | soft h hl he => exact ⟨_, _, _, rfl, hl⟩
  | soft0 => exact ⟨_, _, _, rfl, Nat.le_refl _⟩

/-- A new array that grew. -/
theorem grown_step (hr : R σ H w) {cs old new' : List Value} {newCap need sz : Nat} {C : Array Value} {el : TypeId} (hl : LRel σ cs (old ++ new')) (hcl : cs.length = need * sz) (hge : need ≤ newCap)
    (hC : C.toList.take (need * sz) = old ++ new') (hCs : C.size = newCap * sz) (h1 : cs.all oneCell = true) :
    ∃ σ', VRel σ' (.slice (some ⟨H.next, 0, none⟩) need SOFT) (.slice (some ⟨w.heap.size, 0, none⟩) need newCap) ∧ Step σ H w σ' (H.add (.row cs sz false)) (w.drew.alloc (.cells C el)) := by
  have hst := step_alloc (w := w.drew) (hr.of_heap rfl) cs (old ++ new') sz C el hl (by rw [hcl]; exact hC) h1
  refine ⟨_, ?_, hst.of_heap rfl⟩
  have hp := Map.put_same σ H.next ⟨w.drew.heap.size, 0, C.size, sz⟩
  have := VRel.soft (o := 0) (len := need) (cap := newCap) hp hge (by simp [hCs])
  simpa using this

/-- append. -/
theorem append_sound (hr : R σ H w) {t u ty el : TypeId} {sz by_ : Nat} {z : List Value} {s s' x x' : Value} (ht : P.underlying t = some (.slice el))
    (hu : P.underlying u = some .string ∨ ∃ e2, P.underlying u = some (.slice e2)) (hel : tyInfo P el = some (sz, by_, z)) (hzl : z.length = sz) (hsz : 1 ≤ sz) (hby : sz ≤ by_)
    (hs : VRel σ s s') (hx : VRel σ x x') (h : appendTo H sz by_ s x = some (v, H')) :
    ∃ σ' w' v', (Builtin.append_ #[t, u] ty #[s', x']).run P w = .ok v' w' ∧ VRel σ' v v' ∧ Step σ H w σ' H' w' := by
  obtain ⟨i, zv, hi, hz, rfl, rfl, rfl⟩ := tyInfo_inv hel
  have hzs : zv.cells.size = i.size := by simpa using hzl
  unfold appendTo at h
  split at h
  · cases h
  · rename_i n hn
    have hlen := fun w => srcLen_rel (P := P) hx hn w
    split at h
    · cases h
    · rename_i xs hxs
      obtain ⟨xs', hrun, hxl⟩ := srcCells_rel (P := P) hr hx hn (Nat.le_refl _) hxs
      obtain ⟨xs2, hrun2, hxl2⟩ := srcCells_rel (P := P) (w := w.drew) (hr.of_heap rfl) hx hn (Nat.le_refl _) hxs
      have hxone := src_one hr hx hn (Nat.le_refl _) hxs
      have hxlen : xs.length = n * i.size := srcCells_length hx hn (Nat.le_refl _) hxs
      have hxlen' : xs'.length = n * i.size := by rw [← hxl.1]; exact hxlen
      have hxlen2 : xs2.length = n * i.size := by rw [← hxl2.1]; exact hxlen
      split at h
      · -- nil
        cases hs
        rw [bif_beq] at h
        split at h
        · rename_i hn0
          subst hn0
          cases h
          have : xs' = [] := List.eq_nil_of_length_eq_zero (by simpa using hxlen')
          subst this
          exact ⟨σ, w, _, room_run_nil ht hu hi hlen (Nat.le_refl _) hrun, .snil, Step.refl hr⟩
        · rename_i hn0
          cases hf : fits n i.bytes with
          | false => rw [hf] at h; cases h
          | true =>
            rw [hf] at h
            cases h
            obtain ⟨newCap, C, g1, g2, g3, g4⟩ := grow_run (w := w) (ty := ty) (x' := x') (base := none) (sLen := 0) (sCap := 0) (n := n) (old := []) (new := xs2) ht hu hi hz hzs hlen (by omega)
              (by simpa using fits_le hf) (by omega) (by simp [Builtin.firstCells]) hrun2 (by simp) hxlen2
            obtain ⟨σ', k1, k2⟩ := grown_step (el := el) (need := n) hr (old := []) (new' := xs2) hxl2 hxlen (by omega) (by simpa using g3) g4 hxone
            exact ⟨σ', _, _, by simpa using g2, by simpa using k1, k2⟩
      · rename_i b of len cap
        obtain ⟨b', o', c', rfl, hlc⟩ := slice_len_cap hs
        rw [bif_beq] at h
        split at h
        · rename_i hn0
          subst hn0
          cases h
          have : xs' = [] := List.eq_nil_of_length_eq_zero (by simpa using hxlen')
          subst this
          exact ⟨σ, w, _, room_run_nil ht hu hi hlen hlc hrun, hs, Step.refl hr⟩
        · rename_i hn0
          rw [bif_beq] at h
          split at h
          · -- the capacity is not known
            rename_i hcap
            subst hcap
            split at h
            · rename_i cs sz' hg
              cases hsz' : (!Nat.beq sz' i.size) with
              | true => rw [hsz'] at h; cases h
              | false =>
                rw [hsz'] at h
                have hsz' : sz' = i.size := by
                  have : Nat.beq sz' i.size = true := by simpa using hsz'
                  exact Nat.eq_of_beq_eq_true this
                subst hsz'
                simp only [cond_false] at h
                cases hin : Nat.ble (of + (len + n) * i.size) cs.length with
                | true =>
                  rw [hin] at h
                  have hin := Nat.le_of_ble_eq_true hin
                  simp only [cond_true] at h
                  split at h
                  · rename_i H1 hst
                    cases h
                    cases hs with
                    | hard hb hc _ => exact absurd hc (Nat.lt_irrefl _)
                    | @soft _ _ lc _ _ hb hl hext =>
                      obtain ⟨C, e1, fz, hC, d1, d2, d3, d4, d5, d6⟩ := hr.live _ _ _ hb hg
                      rw [d2] at hext
                      have hfit : len + n ≤ c' := Nat.le_of_mul_le_mul_right (c := i.size) (by omega) hsz
                      obtain ⟨w', k1, k2⟩ := storeAt_rel (P := P) hr hb hst hxl hxone
                      exact ⟨σ, w', _, room_run ht hu hi hlen hfit hrun (by rw [Nat.add_assoc]; exact k1), .soft hb hfit (by rw [d2]; exact hext), k2⟩
                    | @soft0 _ _ lc _ hb hext =>
                      obtain ⟨C, e1, fz, hC, d1, d2, d3, d4, d5, d6⟩ := hr.live _ _ _ hb hg
                      have : 1 ≤ n * i.size := Nat.mul_pos (by omega) (by omega)
                      rw [Nat.zero_add] at hin
                      omega
                  · cases h
                | false =>
                  rw [hin] at h
                  simp only [cond_false] at h
                  cases hcond : (Nat.beq (of + len * i.size) cs.length && fits (len + n) i.bytes) with
                  | false => rw [hcond] at h; cases h
                  | true =>
                    rw [hcond] at h
                    simp only [Bool.and_eq_true] at hcond
                    have hfull := Nat.eq_of_beq_eq_true hcond.1
                    have hfit := fits_le hcond.2
                    simp only [cond_true, Option.some.injEq, Prod.mk.injEq] at h
                    obtain ⟨rfl, rfl⟩ := h
                    have hmul : (len + n) * i.size = len * i.size + n * i.size := Nat.add_mul _ _ _
                    have hdl : (cs.drop of).length = len * i.size := by rw [List.length_drop]; omega
                    -- growth, whatever the room
                    have grow : ∀ lc, σ b = some lc → (∃ old', (Builtin.firstCells i.size len (.slice (some ⟨b', o', none⟩) len c')).run P w.drew = .ok old'.toArray w.drew ∧ LRel σ (cs.drop of) old') → c' < len + n →
                        ∃ σ' w' v', (Builtin.append_ #[t, u] ty #[.slice (some ⟨b', o', none⟩) len c', x']).run P w = .ok v' w' ∧ VRel σ' (.slice (some ⟨H.next, 0, none⟩) (len + n) SOFT) v' ∧
                          Step σ H w σ' ((H.drop b).add (.row (cs.drop of ++ xs) i.size false)) w' := by
                      intro lc hb ⟨old', q1, q2⟩ hc1
                      obtain ⟨_, _, _, _, _, _, _, _, _, d6⟩ := hr.live _ _ _ hb hg
                      have q5 : old'.length = len * i.size := by rw [← q2.1]; exact hdl
                      obtain ⟨newCap, C, g1, g2, g3, g4⟩ := grow_run (w := w) (ty := ty) (x' := x') (base := some ⟨b', o', none⟩) (sLen := len) (sCap := c') (n := n) (old := old') (new := xs2) ht hu hi hz hzs hlen hc1
                        hfit (by omega) q1 hrun2 q5 hxlen2
                      have hone : (cs.drop of ++ xs).all oneCell = true := by
                        rw [List.all_append, hxone, Bool.and_true, List.all_eq_true]
                        intro y hy
                        exact List.all_eq_true.1 d6.1 y (List.mem_of_mem_drop hy)
                      obtain ⟨σ', k1, k2⟩ := grown_step (el := el) (need := len + n) (hr.drop b) (old := old') (new' := xs2) (q2.append hxl2) (by rw [List.length_append, hdl, hxlen, Nat.add_mul]) g1 g3 g4 hone
                      exact ⟨σ', _, _, g2, k1, Step.trans hr (step_drop hr hb) k2⟩
                    cases hs with
                    | hard hb hc _ => exact absurd hc (Nat.lt_irrefl _)
                    | @soft0 _ _ lc _ hb hext =>
                      refine grow lc hb ⟨[], by simp [Builtin.firstCells, loadCells, loadCellsFrom], ?_⟩ (by omega)
                      have : cs.drop of = [] := List.eq_nil_of_length_eq_zero (by rw [hdl]; simp)
                      rw [this]; exact LRel.nil _
                    | @soft _ _ lc _ _ hb hl hext =>
                      obtain ⟨C, e1, fz, hC, d1, d2, d3, d4, d5, d6⟩ := hr.live _ _ _ hb hg
                      have hold : LRel σ (cs.drop of) ((C.toList.drop (lc.δ + of)).take (len * i.size)) := by
                        have := d4.drop of
                        rw [List.drop_take, List.drop_drop] at this
                        rwa [show cs.length - of = len * i.size from by omega] at this
                      have hcellsrun : ∀ w2 : World, w2.heap = w.heap → (Builtin.firstCells i.size len (.slice (some ⟨lc.c, lc.δ + of, none⟩) len c')).run P w2 = .ok ((C.toList.drop (lc.δ + of)).take (len * i.size)).toArray w2 := by
                        intro w2 hw2
                        simp only [Builtin.firstCells]
                        exact run_loadCells_row (by rw [hw2]; exact hC) (by omega)
                      by_cases hroom : len + n ≤ c'
                      · have hmc : (len + n) * i.size ≤ c' * i.size := Nat.mul_le_mul_right _ hroom
                        rw [d2] at hext
                        have hrs := run_storeCells_row (P := P) (e := e1) (fz := fz) lc.c (lc.δ + of + len * i.size) xs' 0 C w hC (by omega) (d5 rfl) (by
                          intro y hy
                          obtain ⟨j, hj, rfl⟩ := List.getElem_of_mem hy
                          have := List.all_eq_true.1 hxone _ (List.getElem_mem (show j < xs.length by omega))
                          rw [← (hxl.2 j (by omega) hj).oneCell]; exact this)
                        rw [Nat.add_zero] at hrs
                        have hslen : (setCells C.toList (lc.δ + of + len * i.size) xs').length = C.size := by rw [setCells_length]; rfl; simp; omega
                        have hstep := step_renew (l' := ⟨lc.c, lc.δ + of, lc.ext, lc.sz⟩) (y := .row (cs.drop of ++ xs) i.size false) hr (.cells (setCells C.toList (lc.δ + of + len * i.size) xs').toArray e1 fz) hb hg rfl rfl rfl
                          ⟨(setCells C.toList (lc.δ + of + len * i.size) xs').toArray, e1, fz, by rw [get_putObj _ _ _ _ (hr.inb b lc hb), if_pos rfl], by simp [hslen, d1], d2, by
                            rw [List.size_toArray, hslen, List.length_append, hdl, hxlen]; simp only []; omega, ?_, fun _ j hj => d5 rfl j (by simpa [hslen] using hj), by
                            rw [List.all_append, hxone, Bool.and_true, List.all_eq_true]
                            intro y hy
                            exact List.all_eq_true.1 d6.1 y (List.mem_of_mem_drop hy), fun hz0 => absurd hz0 (by omega)⟩
                        · refine ⟨_, _, _, room_run ht hu hi hlen hroom hrun hrs, ?_, hstep⟩
                          have hp := Map.put_same σ H.next ⟨lc.c, lc.δ + of, lc.ext, lc.sz⟩
                          have := VRel.soft (o := 0) (len := len + n) (cap := c') hp hroom (by simp only [d2]; omega)
                          simpa using this
                        · have hx2 : LRel (σ.put H.next ⟨lc.c, lc.δ + of, lc.ext, lc.sz⟩) (cs.drop of ++ xs) ((C.toList.drop (lc.δ + of)).take (len * i.size) ++ xs') :=
                            (hold.append hxl).mono (Map.put_ext hr.none_next)
                          have he : ((setCells C.toList (lc.δ + of + len * i.size) xs').drop (lc.δ + of)).take (cs.drop of ++ xs).length = (C.toList.drop (lc.δ + of)).take (len * i.size) ++ xs' := by
                            rw [List.length_append, hdl, hxlen]
                            apply List.ext_getElem?
                            intro j
                            rw [List.getElem?_take, List.getElem?_drop, setCells_get? _ _ _ _ (by simp; omega), List.getElem?_append, List.getElem?_take, List.getElem?_drop]
                            have e2 : ((C.toList.drop (lc.δ + of)).take (len * i.size)).length = len * i.size := by simp; omega
                            rw [e2]
                            by_cases j1 : j < len * i.size
                            · rw [if_pos (by omega), if_pos (by omega), if_pos j1, if_pos j1]
                            · rw [if_neg j1]
                              by_cases j2 : j < len * i.size + n * i.size
                              · rw [if_pos j2, if_neg (by omega), if_pos (by omega)]; congr 1; omega
                              · rw [if_neg j2, List.getElem?_eq_none (by omega)]
                          simp only []
                          rw [he]; exact hx2
                      · exact grow lc hb ⟨_, hcellsrun w.drew rfl, hold⟩ (by omega)
            · cases h
          · -- the capacity is known
            rename_i hcap
            cases hin : Nat.ble (len + n) cap with
            | true =>
              rw [hin] at h
              have hin := Nat.le_of_ble_eq_true hin
              simp only [cond_true] at h
              split at h
              · rename_i H1 hst
                cases h
                cases hs with
                | hard hb hc hl =>
                  obtain ⟨w', k1, k2⟩ := storeAt_rel (P := P) hr hb hst hxl hxone
                  exact ⟨σ, w', _, room_run ht hu hi hlen hin hrun (by rw [Nat.add_assoc]; exact k1), .hard hb hc hin, k2⟩
                | hard0 => omega
                | soft => exact absurd rfl hcap
                | soft0 => exact absurd rfl hcap
              · cases h
            | false =>
              rw [hin] at h
              have hin : ¬ (len + n ≤ cap) := by
                intro hh; rw [Nat.ble_eq_true_of_le hh] at hin; cases hin
              simp only [cond_false] at h
              cases hf : fits (len + n) i.bytes with
              | false => rw [hf] at h; cases h
              | true =>
                rw [hf] at h
                simp only [cond_true] at h
                split at h
                · rename_i old hold
                  cases h
                  have hcc : c' < len + n ∧ ∃ old', (Builtin.firstCells i.size len (.slice (some ⟨b', o', none⟩) len c')).run P w.drew = .ok old'.toArray w.drew ∧ LRel σ old old' ∧ old.length = len * i.size ∧ old.all oneCell = true := by
                    by_cases hl0 : len = 0
                    · subst hl0
                      rw [bif_beq, if_pos rfl] at hold
                      cases hold
                      refine ⟨?_, [], by simp [Builtin.firstCells, loadCells, loadCellsFrom], LRel.nil _, by simp, rfl⟩
                      cases hs <;> first | omega | exact absurd rfl hcap
                    · rw [bif_beq, if_neg hl0] at hold
                      cases hs with
                      | hard hb hc hl =>
                        obtain ⟨old', q1, q2, q3⟩ := cellsAt_rel (P := P) (w := w.drew) (hr.of_heap rfl) hb hold
                        exact ⟨by omega, old', by simpa [Builtin.firstCells] using q1, q2, q3, cells_one hr hb hold⟩
                      | hard0 => exact absurd rfl hl0
                      | soft => exact absurd rfl hcap
                      | soft0 => exact absurd rfl hcap
                  obtain ⟨hc1, old', q1, q2, q3, q4⟩ := hcc
                  have q5 : old'.length = len * i.size := by rw [← q2.1]; exact q3
                  obtain ⟨newCap, C, g1, g2, g3, g4⟩ := grow_run (w := w) (ty := ty) (x' := x') (base := some ⟨b', o', none⟩) (sLen := len) (sCap := c') (n := n) (old := old') (new := xs2) ht hu hi hz hzs hlen hc1
                    (fits_le hf) (by omega) q1 hrun2 q5 hxlen2
                  obtain ⟨σ', k1, k2⟩ := grown_step (el := el) (need := len + n) hr (old := old') (new' := xs2) (q2.append hxl2) (by rw [List.length_append, q3, hxlen, Nat.add_mul]) g1 g3 g4
                    (by rw [List.all_append, q4, hxone]; rfl)
                  exact ⟨σ', _, _, g2, k1, k2⟩
                · cases h
      · cases h

end
end Go.Abs
