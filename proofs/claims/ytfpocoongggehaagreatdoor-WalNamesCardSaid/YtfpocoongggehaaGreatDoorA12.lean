/- Aggregates and rows that are made; clear and copy. Of no program. -/
import Derived.Test.YtfpocoongggehaaGreatDoorA11
set_option linter.all false
namespace Go.Abs
open Go
variable [Fixed]

variable {P : Program}

theorem run_mapM {α β : Type} (f : α → Sem β) (g : α → β) (w : World) : ∀ (l : List α), (∀ x ∈ l, (f x).run P w = .ok (g x) w) → (l.mapM f).run P w = .ok (l.map g) w := by
  intro l
  induction l with
  | nil => intro _; simp
  | cons x l ih =>
    intro h
    simp only [List.mapM_cons, Sem.run_bind, h x (by simp), Result.andThen_ok, ih (fun y hy => h y (by simp [hy])), Sem.run_pure, List.map_cons]

theorem run_mapMA {α β : Type} (f : α → Sem β) (g : α → β) (w : World) (l : Array α) (h : ∀ x ∈ l.toList, (f x).run P w = .ok (g x) w) : (l.mapM f).run P w = .ok (l.map g) w := by
  rw [Array.mapM_eq_mapM_toList, Sem.run_map, run_mapM f g w _ h, Result.andThen_ok]
  congr 1
  apply Array.ext'; simp

theorem foldl_set (off : Nat) : ∀ (vs : List Value) (k : Nat) (C : Array Value), off + k + vs.length ≤ C.size →
    ((vs.zipIdx k).foldl (fun cs (x : Value × Nat) => cs.setIfInBounds (off + x.2) x.1) C).toList = setCells C.toList (off + k) vs := by
  intro vs
  induction vs with
  | nil => intro k C _; simp [setCells]
  | cons v vs ih =>
    intro k C h
    simp only [List.length_cons] at h
    simp only [List.zipIdx_cons, List.foldl_cons]
    rw [ih (k + 1) _ (by simp; omega)]
    rw [← Nat.add_assoc, Array.toList_setIfInBounds]
    exact setCells_cons _ _ _ _ (by simp; omega)

section
variable {σ : Map} {H : Heap} {w : World} {e : Env} {a : Act} {o : Oper} {v : Value} {H' : Heap}

theorem fill_step (place : Nat → Option (Nat × Nat)) {cs : List Value} {C : Array Value} {off n i : Nat} {u u' : Value} {r : List (Nat × Nat × Value)} {rest : List (Nat × Value)} {res : List Value}
    (hC : LRel σ cs C.toList) (hu : VRel σ u u') (hp : place i = some (off, n)) (h : fillParts cs ((off, n, u) :: r) = some res) :
    ∃ cs1 C1, fillParts cs1 r = some res ∧ LRel σ cs1 C1.toList ∧ Instr.fill place C ((i, u') :: rest) = Instr.fill place C1 rest := by
  simp only [fillParts] at h
  cases hc : (Nat.beq u.cells.size n && Nat.ble (off + n) cs.length) with
  | false => rw [hc] at h; cases h
  | true =>
    rw [hc] at h
    simp only [Bool.and_eq_true] at hc
    have h1 := Nat.eq_of_beq_eq_true hc.1
    have h2 := Nat.le_of_ble_eq_true hc.2
    have hs : u'.cells.size = n := by rw [← hu.size_cells]; exact h1
    have hl : cs.length = C.size := by simpa using hC.1
    refine ⟨_, u'.cells.zipIdx.foldl (fun cs (x : Value × Nat) => cs.setIfInBounds (off + x.2) x.1) C, h, ?_, ?_⟩
    · have hf := foldl_set off u'.cells.toList 0 C (by simp; omega)
      rw [← Array.foldl_toList]
      have ez : u'.cells.zipIdx.toList = u'.cells.toList.zipIdx 0 := by simp
      rw [ez, hf]
      exact hC.setCells hu.cells off
    · simp only [Instr.fill, hp]
      rw [if_neg]
      simp only [ne_eq, hs, not_true_eq_false, decide_false, Bool.false_or, decide_eq_true_eq]
      omega

theorem partVals_cons {e : Env} {o n : Nat} {x : Operand} {r : List Part} {vs : List (Nat × Nat × Value)} (h : partVals e ((o, n, x) :: r) = some vs) :
    ∃ u us, aval e x = some u ∧ partVals e r = some us ∧ vs = (o, n, u) :: us := by
  simp only [partVals] at h
  split at h
  · rename_i u us h1 h2; cases h; exact ⟨u, us, h1, h2, rfl⟩
  · cases h

/-- Parts that are filled in. 'place' says where each lies. -/
theorem fill_rel (he : EnvRel σ e a) (place : Nat → Option (Nat × Nat)) : ∀ (ps : List (Nat × Operand)) (l : List Part) (vs : List (Nat × Nat × Value)) (cs : List Value) (C : Array Value) (r : List Value),
    (l.length = ps.length ∧ ∀ (i : Nat) (p : Nat × Operand) (q : Part), ps[i]? = some p → l[i]? = some q → place p.1 = some (q.1, q.2.1) ∧ p.2 = q.2.2) → partVals e l = some vs → fillParts cs vs = some r → LRel σ cs C.toList →
    ∃ r', Instr.fill place C (ps.map fun p => (p.1, a.eval p.2)) = some r' ∧ LRel σ r r'.toList := by
  intro ps
  induction ps with
  | nil =>
    intro l vs cs C r hl hv hf hC
    have : l = [] := List.eq_nil_of_length_eq_zero (by simpa using hl.1)
    subst this
    cases hv; cases hf
    exact ⟨C, rfl, hC⟩
  | cons p ps ih =>
    intro l vs cs C r hl hv hf hC
    cases l with
    | nil => simp at hl
    | cons q l =>
      obtain ⟨o1, n1, x1⟩ := q
      obtain ⟨u, us, h1, h2, rfl⟩ := partVals_cons hv
      obtain ⟨g1, g2⟩ := hl.2 0 p (o1, n1, x1) rfl rfl
      have hu := aval_rel he h1
      rw [← show p.2 = x1 from g2] at hu
      obtain ⟨cs1, C1, k1, k2, k3⟩ := fill_step (rest := ps.map fun p => (p.1, a.eval p.2)) place hC hu g1 hf
      obtain ⟨r', m1, m2⟩ := ih l us cs1 C1 r ⟨by simpa using hl.1, fun i p' q' hp hq => hl.2 (i + 1) p' q' (by simpa using hp) (by simpa using hq)⟩ h2 k1 k2
      exact ⟨r', by rw [List.map_cons, k3]; exact m1, m2⟩

theorem structParts_rel {fs : Array Field} : ∀ {ps : List (Nat × Operand)} {l : List Part}, structParts P fs ps = some l →
    l.length = ps.length ∧ ∀ (i : Nat) (p : Nat × Operand) (q : Part), ps[i]? = some p → l[i]? = some q → (∃ f : Field, fs[p.1]? = some f ∧ q.1 = f.offset ∧ tySize P f.type = some q.2.1) ∧ p.2 = q.2.2 := by
  intro ps
  induction ps with
  | nil => intro l h; cases h; exact ⟨rfl, fun i p q hp => by simp at hp⟩
  | cons x ps ih =>
    intro l h
    obtain ⟨j, x⟩ := x
    simp only [structParts] at h
    split at h
    · rename_i f hf
      split at h
      · rename_i n ps' hn hps
        cases h
        obtain ⟨h1, h2⟩ := ih hps
        refine ⟨by simp [h1], fun i p q hp hq => ?_⟩
        cases i with
        | zero => cases hp; cases hq; exact ⟨⟨f, hf, rfl, hn⟩, rfl⟩
        | succ i => exact h2 i p q (by simpa using hp) (by simpa using hq)
      · cases h
    · cases h

theorem seqParts_rel (sz : Nat) (ps : List (Nat × Operand)) : (seqParts sz ps).length = ps.length ∧
    ∀ (i : Nat) (p : Nat × Operand) (q : Part), ps[i]? = some p → (seqParts sz ps)[i]? = some q → (fun (i : Nat) => some (i * sz, sz)) p.1 = some (q.1, q.2.1) ∧ p.2 = q.2.2 := by
  refine ⟨by simp [seqParts], fun i p q hp hq => ?_⟩
  simp only [seqParts, List.getElem?_map, hp, Option.map_some, Option.some.injEq] at hq
  subst hq
  exact ⟨rfl, rfl⟩

theorem mapParts (ps : Array (Nat × Operand)) : (ps.map fun (i, x) => (i, a.eval x)).toList = ps.toList.map fun p => (p.1, a.eval p.2) := by simp

theorem sound_build_struct (hr : R σ H w) (he : EnvRel σ e a) {t : TypeId} {ps : Array (Nat × Operand)} {i : TypeInfo} {fs : Array Field} {z : Value} {l : List Part} (ho : o.op = .build t ps)
    (hi : P.info? t = some i) (hz : i.zero = some z) (ht : P.underlying t = some (.struct fs)) (hl : structParts P fs ps.toList = some l) (hall : fs.toList.all (fun (f : Field) => (tySize P f.type).isSome) = true)
    (h : aop P e H (.build z.cells.toList l) = some (v, H')) : Val P (execOp a.eval o) σ H w v H' := by
  simp only [aop] at h
  cases hc : z.cells.toList.all (clo 3) with
  | false => rw [hc] at h; cases h
  | true =>
    rw [hc] at h
    simp only [cond_true] at h
    split at h
    · rename_i vs hvs
      split at h
      · rename_i cs hcs
        cases h
        obtain ⟨g1, g2⟩ := structParts_rel hl
        have hpl : (fs.mapM fun (f : Field) => Prod.mk f.offset <$> sizeOf f.type).run P w = .ok (fs.map fun (f : Field) => (f.offset, (tySize P f.type).getD 0)) w := by
          refine run_mapMA _ _ w fs fun f hf => ?_
          have := List.all_eq_true.1 hall f hf
          obtain ⟨n, hn⟩ := Option.isSome_iff_exists.1 this
          simp [run_size hn, hn]
        obtain ⟨r', m1, m2⟩ := fill_rel he (fun i => Option.map (fun (f : Field) => (f.offset, (tySize P f.type).getD 0)) fs[i]?) ps.toList l vs z.cells.toList z.cells cs
          ⟨g1, fun i p q hp hq => by
            obtain ⟨⟨f, f1, f2, f3⟩, f4⟩ := g2 i p q hp hq
            exact ⟨by simp [f1, f3, f2], f4⟩⟩ hvs hcs (LRel.of_clo σ hc)
        refine Val.quiet hr (v' := .agg r') ?_ (VRel.agg' (a' := r'.toList) m2)
        unfold execOp
        simp only [ho]
        simp [Instr.build, run_zero hi hz, run_underlying ht, hpl, m1]
      · cases h
    · cases h

theorem sound_build_array (hr : R σ H w) (he : EnvRel σ e a) {t el : TypeId} {ps : Array (Nat × Operand)} {i : TypeInfo} {len n : Nat} {z : Value} (ho : o.op = .build t ps)
    (hi : P.info? t = some i) (hz : i.zero = some z) (ht : P.underlying t = some (.array len el)) (hn : tySize P el = some n)
    (h : aop P e H (.build z.cells.toList (seqParts n ps.toList)) = some (v, H')) : Val P (execOp a.eval o) σ H w v H' := by
  simp only [aop] at h
  cases hc : z.cells.toList.all (clo 3) with
  | false => rw [hc] at h; cases h
  | true =>
    rw [hc] at h
    simp only [cond_true] at h
    split at h
    · rename_i vs hvs
      split at h
      · rename_i cs hcs
        cases h
        obtain ⟨r', m1, m2⟩ := fill_rel he (fun i => some (i * n, n)) ps.toList _ vs z.cells.toList z.cells cs (seqParts_rel n ps.toList) hvs hcs (LRel.of_clo σ hc)
        refine Val.quiet hr (v' := .agg r') ?_ (VRel.agg' (a' := r'.toList) m2)
        unfold execOp
        simp only [ho]
        simp [Instr.build, run_zero hi hz, run_underlying ht, run_size hn, m1]
      · cases h
    · cases h

theorem repl_length (zero : List Value) (n : Nat) : (repl zero n).length = n * zero.length := by
  induction n with
  | zero => simp [repl]
  | succ n ih => simp [repl, ih, Nat.succ_mul]; omega

theorem repl_get (zero : List Value) (n : Nat) : ∀ i, i < n * zero.length → (repl zero n)[i]? = zero[i % zero.length]? := by
  induction n with
  | zero => intro i h; simp at h
  | succ n ih =>
    intro i h
    simp only [repl]
    rw [List.getElem?_append]
    by_cases hi : i < zero.length
    · rw [if_pos hi, Nat.mod_eq_of_lt hi]
    · have hm : (n + 1) * zero.length = n * zero.length + zero.length := Nat.succ_mul n _
      rw [if_neg hi, ih _ (by omega), show i % zero.length = (i - zero.length) % zero.length from Nat.mod_eq_sub_mod (by omega)]

theorem zeros_eq (z : Array Value) (m : Nat) (hz : 1 ≤ z.size) : ((Array.range (m * z.size)).map (fun i => z[i % z.size]!)).toList = repl z.toList m := by
  apply List.ext_getElem?
  intro i
  by_cases hi : i < m * z.size
  · rw [repl_get _ _ _ (by simpa using hi)]
    have hm : i % z.size < z.size := Nat.mod_lt _ hz
    simp [hi, hm]
  · rw [List.getElem?_eq_none (by simp; omega), List.getElem?_eq_none (by rw [repl_length]; simp; omega)]

theorem all_repl {f : Value → Bool} {zero : List Value} (h : zero.all f = true) (n : Nat) : (repl zero n).all f = true := by
  induction n with
  | zero => rfl
  | succ n ih => simp [repl, h, ih]

theorem rowParts_rel {sz len : Nat} {ps : List (Nat × Operand)} {l : List Part} (h : rowParts sz len ps = some l) : l = seqParts sz ps := by
  unfold rowParts at h
  cases hc : ps.all (fun p => Nat.blt p.1 len) with
  | false => rw [hc] at h; cases h
  | true => rw [hc] at h; cases h; rfl

theorem tyInfo_inv {t : TypeId} {sz by_ : Nat} {z : List Value} (h : tyInfo P t = some (sz, by_, z)) : ∃ i zv, P.info? t = some i ∧ i.zero = some zv ∧ i.size = sz ∧ i.bytes = by_ ∧ zv.cells.toList = z := by
  unfold tyInfo at h
  split at h
  · rename_i i hi
    split at h
    · rename_i zv hz; cases h; exact ⟨i, zv, hi, hz, rfl, rfl, rfl⟩
    · cases h
  · cases h

theorem tySize_of_info {t : TypeId} {i : TypeInfo} (h : P.info? t = some i) : tySize P t = some i.size := by simp [tySize, h]

theorem sound_bslice (hr : R σ H w) (he : EnvRel σ e a) {t el : TypeId} {ps : Array (Nat × Operand)} {len sz by_ : Nat} {z : List Value} {l : List Part} (ho : o.op = .buildSlice t len ps)
    (ht : P.underlying t = some (.slice el)) (hel : tyInfo P el = some (sz, by_, z)) (hl : rowParts sz len ps.toList = some l) (hsz : 1 ≤ sz)
    (h : aop P e H (.bslice sz len z l) = some (v, H')) : Val P (execOp a.eval o) σ H w v H' := by
  obtain ⟨i, zv, hi, hz, rfl, _, rfl⟩ := tyInfo_inv hel
  have hl := rowParts_rel hl
  subst hl
  simp only [aop] at h
  cases hc : (zv.cells.toList.all (clo 3) && Nat.beq zv.cells.toList.length i.size && Nat.ble (len * i.size) (2 ^ 24)) with
  | false => rw [hc] at h; cases h
  | true =>
    rw [hc] at h
    simp only [Bool.and_eq_true] at hc
    obtain ⟨⟨c1, c2⟩, c3⟩ := hc
    have c2 := Nat.eq_of_beq_eq_true c2
    have c3 := Nat.le_of_ble_eq_true c3
    simp only [cond_true] at h
    split at h
    · rename_i vs hvs
      split at h
      · rename_i cs hcs
        cases hone : cs.all oneCell with
        | false => rw [hone] at h; cases h
        | true =>
          rw [hone] at h
          simp only [cond_true, Option.some.injEq, Prod.mk.injEq] at h
          obtain ⟨rfl, rfl⟩ := h
          have c2' : zv.cells.size = i.size := by simpa using c2
          obtain ⟨C0, hC0⟩ : ∃ C0 : Array Value, C0 = (Array.range (len * i.size)).map ((if len * i.size = 0 then #[] else zv.cells)[· % (if len * i.size = 0 then (#[] : Array Value) else zv.cells).size]!) := ⟨_, rfl⟩
          have hC0l : C0.toList = repl zv.cells.toList len := by
            by_cases h0 : len * i.size = 0
            · have hl0 : len = 0 := by
                rcases Nat.mul_eq_zero.1 h0 with h1 | h1
                · exact h1
                · omega
              subst hl0
              rw [hC0]; simp [repl]
            · rw [hC0]
              simp only [if_neg h0]
              rw [← c2']
              exact zeros_eq _ _ (by omega)
          obtain ⟨r', m1, m2⟩ := fill_rel he (fun j => some (j * i.size, i.size)) ps.toList _ vs (repl zv.cells.toList len) C0 cs (seqParts_rel i.size ps.toList) hvs hcs (by rw [hC0l]; exact LRel.of_clo σ (all_repl c1 len))
          have hlen : cs.length = len * i.size := by
            have key : ∀ (vs : List (Nat × Nat × Value)) (c r : List Value), fillParts c vs = some r → r.length = c.length := by
              intro vs
              induction vs with
              | nil => intro c r hh; cases hh; rfl
              | cons x vs ih =>
                intro c r hh
                obtain ⟨o1, n1, u1⟩ := x
                simp only [fillParts] at hh
                cases hcc : (Nat.beq u1.cells.size n1 && Nat.ble (o1 + n1) c.length) with
                | false => rw [hcc] at hh; cases hh
                | true =>
                  rw [hcc] at hh
                  simp only [Bool.and_eq_true] at hcc
                  have q1 := Nat.eq_of_beq_eq_true hcc.1
                  have q2 := Nat.le_of_ble_eq_true hcc.2
                  rw [ih _ _ hh, setCells_length _ _ _ (by simp; omega)]
            rw [key _ _ _ hcs, repl_length, c2]
          have hst := step_alloc (w := w) hr cs r'.toList i.size r' el m2 (by rw [m2.1]; exact List.take_of_length_le (by simp)) hone
          refine ⟨_, _, .slice (some ⟨w.heap.size, 0, none⟩) len len, .inl ?_, ?_, hst⟩
          · unfold execOp
            simp only [ho]
            have hfill : ∀ Z : Array Value, Z = (if len * i.size = 0 then #[] else zv.cells) →
                Instr.fill (fun j => some (j * i.size, i.size)) ((Array.range (len * i.size)).map (fun x => Z[x % Z.size]!)) (ps.toList.map fun p => (p.1, a.eval p.2)) = some r' := by
              intro Z hZ; subst hZ; rw [← hC0]; exact m1
            simp only [Instr.buildSlice, Sem.run_bind, run_underlying ht, Result.andThen_ok, run_size (tySize_of_info hi)]
            rw [if_neg (by omega)]
            by_cases h0 : len * i.size = 0
            · rw [if_pos h0]
              simp only [Sem.run_bind, Sem.run_pure, Result.andThen_ok, mapParts]
              rw [hfill #[] (by rw [if_pos h0])]
              simp [newRow]
            · rw [if_neg h0]
              simp only [Sem.run_bind, Sem.run_pure, run_zero hi hz, Result.andThen_ok, mapParts]
              rw [hfill zv.cells (by rw [if_neg h0])]
              simp [newRow]
          · have hp := Map.put_same σ H.next ⟨w.heap.size, 0, r'.size, i.size⟩
            have hsoft : len < SOFT := by
              have : len ≤ len * i.size := Nat.le_mul_of_pos_right _ hsz
              unfold SOFT; omega
            have := VRel.hard (o := 0) (len := len) (cap := len) hp hsoft (Nat.le_refl _)
            simpa using this
      · cases h
    · cases h

end
end Go.Abs
