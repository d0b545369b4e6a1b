/- Regions that draw: the records of the text's own order. Of no program. -/
import Derived.Test.YtfpocoongggehaaGreatDoorA22
set_option linter.all false
namespace Go.Abs
open Go
variable [Fixed]

theorem veq_eq : ∀ {n : Nat} {v u : Value}, veq n v u = true → v = u := by
  intro n
  induction n with
  | zero =>
    intro v u h
    unfold veq at h
    split at h <;> first
      | (simp only [beq_iff_eq] at h; rw [h]; done)
      | (simp only [Bool.and_eq_true, beq_iff_eq] at h; obtain ⟨h1, h2⟩ := h; subst h1; subst h2; rfl)
      | rfl
      | skip
    · rename_i a b
      have : a.data.toList = b.data.toList := by simpa using h
      congr 1
      cases a; cases b
      congr 1
      exact Array.ext' this
    · rename_i a l c b m d
      simp only [Bool.and_eq_true, beq_iff_eq] at h
      obtain ⟨⟨h1, h2⟩, h3⟩ := h
      rw [h1, Nat.eq_of_beq_eq_true h2, Nat.eq_of_beq_eq_true h3]
    all_goals first | contradiction | (exact absurd h Bool.false_ne_true)
  | succ n ih =>
    intro v u h
    have list : ∀ (a b : List Value), a.length = b.length → ((a.zip b).all fun x => veq n x.1 x.2) = true → a = b := by
      intro a
      induction a with
      | nil => intro b hl _; cases b with | nil => rfl | cons _ _ => simp at hl
      | cons x a iha =>
        intro b hl hz
        cases b with
        | nil => simp at hl
        | cons y b =>
          simp only [List.zip_cons_cons, List.all_cons, Bool.and_eq_true] at hz
          rw [ih hz.1, iha b (by simpa using hl) hz.2]
    unfold veq at h
    split at h <;> first
      | (simp only [beq_iff_eq] at h; rw [h]; done)
      | (simp only [Bool.and_eq_true, beq_iff_eq] at h; obtain ⟨h1, h2⟩ := h; subst h1; subst h2; rfl)
      | rfl
      | skip
    · rename_i a b
      have : a.data.toList = b.data.toList := by simpa using h
      congr 1
      cases a; cases b
      congr 1
      exact Array.ext' this
    · rename_i a l c b m d
      simp only [Bool.and_eq_true, beq_iff_eq] at h
      obtain ⟨⟨h1, h2⟩, h3⟩ := h
      rw [h1, Nat.eq_of_beq_eq_true h2, Nat.eq_of_beq_eq_true h3]
    · rename_i m a b heq1
      cases heq1
      simp only [Bool.and_eq_true] at h
      congr 1
      exact Array.ext' (list _ _ (by simpa using Nat.eq_of_beq_eq_true h.1) h.2)
    · rename_i m a b heq1
      cases heq1
      simp only [Bool.and_eq_true] at h
      congr 1
      exact Array.ext' (list _ _ (by simpa using Nat.eq_of_beq_eq_true h.1) h.2)
    · rename_i m s a t b heq1
      cases heq1
      simp only [Bool.and_eq_true] at h
      rw [Nat.eq_of_beq_eq_true h.1, ih h.2]
    all_goals first | contradiction | (exact absurd h Bool.false_ne_true)

/-! ### The records -/

def eAt (recs : List Rec) (e' : Env) (i : Nat) : Env := match recs[i]? with
  | some r => r.e
  | none => e'
def HAt (recs : List Rec) (H' : Heap) (i : Nat) : Heap := match recs[i]? with
  | some r => r.H
  | none => H'

/-- What the records of a run say. -/
structure Chain (E : Env0) (n : Nat) (los : List LOp) (e : Env) (H : Heap) (e' : Env) (H' : Heap) (recs : List Rec) : Prop where
  len : recs.length = los.length
  e0 : eAt recs e' 0 = e
  H0 : HAt recs H' 0 = H
  ex : ∀ (i : Nat) (lo : LOp) (r : Rec), los[i]? = some lo → recs[i]? = some r → r.ex = true → wanted r.e lo.guard = some true ∧ ∃ m, m < n ∧ runOp E m lo.op r.e r.H = some (r.v, r.H')
  skip : ∀ (i : Nat) (lo : LOp) (r : Rec), los[i]? = some lo → recs[i]? = some r → r.ex = false → wanted r.e lo.guard = some false ∧ r.v = .tuple #[] ∧ r.H' = r.H
  next : ∀ (i : Nat) (lo : LOp) (r : Rec), los[i]? = some lo → recs[i]? = some r → eAt recs e' (i + 1) = eput r.e lo.dst r.v ∧ HAt recs H' (i + 1) = r.H'

theorem chain_of_run {E : Env0} : ∀ {n : Nat} {los : List LOp} {e : Env} {H : Heap} {e' : Env} {H' : Heap} {recs : List Rec}, runDraw E n los e H = some (e', H', recs) → Chain E n los e H e' H' recs := by
  intro n
  induction n with
  | zero => intro los e H e' H' recs h; simp [runDraw] at h
  | succ n ih =>
    intro los e H e' H' recs h
    cases los with
    | nil =>
      simp only [runDraw, Option.some.injEq, Prod.mk.injEq] at h
      obtain ⟨rfl, rfl, rfl⟩ := h
      exact ⟨rfl, rfl, rfl, by simp, by simp, by simp⟩
    | cons o os =>
      have build : ∀ (r0 : Rec) (rs : List Rec), r0.e = e → r0.H = H → runDraw E n os (eput e o.dst r0.v) r0.H' = some (e', H', rs) →
          (r0.ex = true → wanted e o.guard = some true ∧ runOp E n o.op e H = some (r0.v, r0.H')) →
          (r0.ex = false → wanted e o.guard = some false ∧ r0.v = .tuple #[] ∧ r0.H' = H) → Chain E (n + 1) (o :: os) e H e' H' (r0 :: rs) := by
        intro r0 rs he hH hr h1 h2
        have c := ih hr
        refine ⟨by simp [c.len], by simp [eAt, he], by simp [HAt, hH], ?_, ?_, ?_⟩
        · intro i lo r hl hrec hx
          cases i with
          | zero =>
            cases hl; cases hrec
            rw [he, hH]
            exact ⟨(h1 hx).1, n, by omega, (h1 hx).2⟩
          | succ i =>
            obtain ⟨g1, m, g2, g3⟩ := c.ex i lo r (by simpa using hl) (by simpa using hrec) hx
            exact ⟨g1, m, by omega, g3⟩
        · intro i lo r hl hrec hx
          cases i with
          | zero =>
            cases hl; cases hrec
            rw [he, hH]
            exact h2 hx
          | succ i => exact c.skip i lo r (by simpa using hl) (by simpa using hrec) hx
        · intro i lo r hl hrec
          cases i with
          | zero =>
            cases hl; cases hrec
            have e1 := c.e0
            have e2 := c.H0
            rw [he]
            exact ⟨by simpa [eAt] using e1, by simpa [HAt] using e2⟩
          | succ i =>
            have := c.next i lo r (by simpa using hl) (by simpa using hrec)
            simpa [eAt, HAt] using this
      simp only [runDraw] at h
      split at h
      · rename_i hw
        split at h
        · rename_i v H1 hop
          split at h
          · rename_i e2 H2 rs hr
            cases h
            exact build ⟨e, H, v, H1, true⟩ rs rfl rfl hr (fun _ => ⟨hw, hop⟩) (fun hx => by cases hx)
          · cases h
        · cases h
      · rename_i hw
        split at h
        · rename_i e2 H2 rs hr
          cases h
          exact build ⟨e, H, .tuple #[], H, false⟩ rs rfl rfl hr (fun hx => by cases hx) (fun _ => ⟨hw, rfl, rfl⟩)
        · cases h
      · cases h

section
variable {E : Env0} {n : Nat} {los : List LOp} {e : Env} {H : Heap} {e' : Env} {H' : Heap} {recs : List Rec}

theorem Chain.recAt (c : Chain E n los e H e' H' recs) {i : Nat} {lo : LOp} (h : los[i]? = some lo) : ∃ r, recs[i]? = some r ∧ r.e = eAt recs e' i ∧ r.H = HAt recs H' i := by
  have hi : i < los.length := by
    obtain ⟨hh, _⟩ := List.getElem?_eq_some_iff.1 h; exact hh
  have : recs[i]? = some (recs[i]'(by rw [c.len]; exact hi)) := List.getElem?_eq_getElem _
  exact ⟨_, this, by simp [eAt, this], by simp [HAt, this]⟩

/-- The value that a name has ahead of an operation. -/
theorem Chain.eget (c : Chain E n los e H e' H' recs) (t : Nat) : ∀ (j : Nat), j ≤ los.length →
    ((∀ (i : Nat) (lo : LOp), i < j → los[i]? = some lo → lo.dst ≠ some t) ∧ eget (eAt recs e' j) t = eget e t) ∨
    (∃ (i : Nat) (lo : LOp) (r : Rec), i < j ∧ los[i]? = some lo ∧ recs[i]? = some r ∧ lo.dst = some t ∧ (∀ (k : Nat) (lk : LOp), i < k → k < j → los[k]? = some lk → lk.dst ≠ some t) ∧ eget (eAt recs e' j) t = some r.v) := by
  intro j
  induction j with
  | zero => intro _; left; exact ⟨fun i lo hi => by omega, by rw [c.e0]⟩
  | succ j ih =>
    intro hj
    have hlo : los[j]? = some (los[j]'(by omega)) := List.getElem?_eq_getElem _
    generalize los[j]'(by omega) = lo at hlo
    obtain ⟨r, hr, hre, _⟩ := c.recAt hlo
    obtain ⟨hn, _⟩ := c.next j lo r hlo hr
    rw [hn, eget_eput]
    by_cases hd : lo.dst = some t
    · right
      exact ⟨j, lo, r, by omega, hlo, hr, hd, fun k lk h1 h2 => by omega, by rw [if_pos hd]⟩
    · rw [if_neg hd, hre]
      rcases ih (by omega) with ⟨h1, h2⟩ | ⟨i, lo', r', h1, h2, h3, h4, h5, h6⟩
      · left
        refine ⟨fun i lo' hi hl => ?_, h2⟩
        by_cases hij : i = j
        · subst hij; rw [hlo] at hl; cases hl; exact hd
        · exact h1 i lo' (by omega) hl
      · right
        refine ⟨i, lo', r', by omega, h2, h3, h4, fun k lk hk1 hk2 hl => ?_, h6⟩
        by_cases hkj : k = j
        · subst hkj; rw [hlo] at hl; cases hl; exact hd
        · exact h5 k lk hk1 (by omega) hl

/-- The heap behind the last writer ahead of a place. -/
def SAt (H : Heap) (los : List LOp) (recs : List Rec) : Nat → Heap
  | 0 => H
  | i + 1 => match los[i]?, recs[i]? with
    | some lo, some r => bif decide (lo.op.kind = .write) then r.H' else SAt H los recs i
    | _, _ => SAt H los recs i

def cntW (los : List LOp) (p : Nat) : Nat := (los.take p).countP fun (o : LOp) => decide (o.op.kind = Kind.write)

theorem SAt_cons (H : Heap) (o : LOp) (os : List LOp) (r : Rec) (rs : List Rec) : ∀ i, SAt H (o :: os) (r :: rs) (i + 1) = SAt (bif decide (o.op.kind = .write) then r.H' else H) os rs i := by
  intro i
  induction i with
  | zero => simp [SAt]
  | succ i ih =>
    show (match (o :: os)[i + 1]?, (r :: rs)[i + 1]? with
      | some lo, some r' => bif decide (lo.op.kind = Kind.write) then r'.H' else SAt H (o :: os) (r :: rs) (i + 1)
      | _, _ => SAt H (o :: os) (r :: rs) (i + 1)) = _
    rw [ih]
    simp only [List.getElem?_cons_succ, SAt]

theorem snaps_at : ∀ (los : List LOp) (recs : List Rec) (H : Heap) (p : Nat), recs.length = los.length → p ≤ los.length → (H :: snaps los recs)[cntW los p]? = some (SAt H los recs p) := by
  intro los
  induction los with
  | nil =>
    intro recs H p _ hp
    have : p = 0 := by simpa using hp
    subst this
    simp [cntW, SAt]
  | cons o os ih =>
    intro recs H p hl hp
    cases recs with
    | nil => simp at hl
    | cons r rs =>
      cases p with
      | zero => simp [cntW, SAt]
      | succ p =>
        rw [SAt_cons]
        have := ih rs (bif decide (o.op.kind = .write) then r.H' else H) p (by simpa using hl) (by simpa using hp)
        cases hw : decide (o.op.kind = .write) with
        | true =>
          rw [hw] at this
          simp only [cond_true] at this
          have e1 : cntW (o :: os) (p + 1) = cntW os p + 1 := by simp [cntW, hw]
          have e2 : snaps (o :: os) (r :: rs) = r.H' :: snaps os rs := by simp [snaps, hw]
          rw [e1, e2, List.getElem?_cons_succ]
          exact this
        | false =>
          rw [hw] at this
          simp only [cond_false] at this
          have e1 : cntW (o :: os) (p + 1) = cntW os p := by simp [cntW, hw]
          have e2 : snaps (o :: os) (r :: rs) = snaps os rs := by simp [snaps, hw]
          rw [e1, e2]
          exact this

theorem mem_lates : ∀ {los : List LOp} {recs : List Rec} {b : Nat} {x : Blk}, (b, x) ∈ lates los recs ↔
    ∃ (i : Nat) (lo : LOp) (r : Rec), los[i]? = some lo ∧ recs[i]? = some r ∧ lo.op.kind = .alloc ∧ r.ex = true ∧ b = r.H.next ∧ r.H'.get r.H.next = some x := by
  intro los
  induction los with
  | nil => intro recs b x; simp [lates]
  | cons o os ih =>
    intro recs b x
    cases recs with
    | nil => simp [lates]
    | cons r rs =>
      have tail : (∃ (i : Nat) (lo : LOp) (r' : Rec), (o :: os)[i + 1]? = some lo ∧ (r :: rs)[i + 1]? = some r' ∧ lo.op.kind = .alloc ∧ r'.ex = true ∧ b = r'.H.next ∧ r'.H'.get r'.H.next = some x) ↔ (b, x) ∈ lates os rs := by
        rw [ih]; simp only [List.getElem?_cons_succ]
      cases hk : (decide (o.op.kind = .alloc) && r.ex) with
      | false =>
        have e1 : lates (o :: os) (r :: rs) = lates os rs := by simp only [lates, hk, cond_false]
        rw [e1, ← tail]
        constructor
        · rintro ⟨i, h⟩; exact ⟨i + 1, h⟩
        · rintro ⟨i, lo, r', h1, h2, h3, h4, h5⟩
          cases i with
          | zero => cases h1; cases h2; simp [h3, h4] at hk
          | succ i => exact ⟨i, lo, r', h1, h2, h3, h4, h5⟩
      | true =>
        simp only [Bool.and_eq_true, decide_eq_true_eq] at hk
        have hk' : (decide (o.op.kind = .alloc) && r.ex) = true := by simp [hk.1, hk.2]
        cases hg : r.H'.get r.H.next with
        | none =>
          have e1 : lates (o :: os) (r :: rs) = lates os rs := by simp only [lates, hk', cond_true, hg]
          rw [e1, ← tail]
          constructor
          · rintro ⟨i, h⟩; exact ⟨i + 1, h⟩
          · rintro ⟨i, lo, r', h1, h2, h3, h4, h5, h6⟩
            cases i with
            | zero => cases h1; cases h2; rw [hg] at h6; cases h6
            | succ i => exact ⟨i, lo, r', h1, h2, h3, h4, h5, h6⟩
        | some y =>
          have e1 : lates (o :: os) (r :: rs) = (r.H.next, y) :: lates os rs := by simp only [lates, hk', cond_true, hg]
          rw [e1, List.mem_cons, ← tail]
          constructor
          · rintro (h | ⟨i, h⟩)
            · cases h; exact ⟨0, o, r, rfl, rfl, hk.1, hk.2, rfl, hg⟩
            · exact ⟨i + 1, h⟩
          · rintro ⟨i, lo, r', h1, h2, h3, h4, h5, h6⟩
            cases i with
            | zero => cases h1; cases h2; rw [hg] at h6; cases h6; left; rw [h5]
            | succ i => right; exact ⟨i, lo, r', h1, h2, h3, h4, h5, h6⟩

theorem addLate_old (S : Heap) : ∀ (L : List (Nat × Blk)) (b : Nat), b < S.next → (addLate S L).get b = S.get b := by
  intro L
  induction L with
  | nil => intro b _; rfl
  | cons x L ih =>
    intro b hb
    obtain ⟨c, y⟩ := x
    simp only [addLate]
    cases hle : Nat.ble S.next c with
    | true =>
      have := Nat.le_of_ble_eq_true hle
      simp only [cond_true]
      show ((addLate S L).set c y).get b = _
      rw [Heap.get_set, if_neg (by omega)]
      exact ih b hb
    | false => exact ih b hb

theorem addLate_new (S : Heap) : ∀ (L : List (Nat × Blk)) (b : Nat), S.next ≤ b → (∃ x, (b, x) ∈ L ∧ (addLate S L).get b = some x) ∨ ((∀ x, (b, x) ∉ L) ∧ (addLate S L).get b = S.get b) := by
  intro L
  induction L with
  | nil => intro b _; right; exact ⟨by simp, rfl⟩
  | cons x L ih =>
    intro b hb
    obtain ⟨c, y⟩ := x
    simp only [addLate]
    cases hle : Nat.ble S.next c with
    | true =>
      simp only [cond_true]
      have hg : ({ (addLate S L).set c y with next := max (addLate S L).next (c + 1) } : Heap).get b = if b = c then some y else (addLate S L).get b := Heap.get_set _ _ _ _
      rw [hg]
      by_cases hbc : b = c
      · subst hbc
        left; exact ⟨y, by simp, by simp⟩
      · rw [if_neg hbc]
        rcases ih b hb with ⟨x, h1, h2⟩ | ⟨h1, h2⟩
        · left; exact ⟨x, by simp [h1], h2⟩
        · right
          refine ⟨fun x hx => ?_, h2⟩
          rcases List.mem_cons.1 hx with h3 | h3
          · cases h3; exact hbc rfl
          · exact h1 x h3
    | false =>
      have hlt : c < S.next := by
        rcases Nat.lt_or_ge c S.next with h | h
        · exact h
        · rw [Nat.ble_eq_true_of_le h] at hle; cases hle
      simp only [cond_false]
      rcases ih b hb with ⟨x, h1, h2⟩ | ⟨h1, h2⟩
      · left; exact ⟨x, by simp [h1], h2⟩
      · right
        refine ⟨fun x hx => ?_, h2⟩
        rcases List.mem_cons.1 hx with h3 | h3
        · cases h3; omega
        · exact h1 x h3

theorem addLate_next (S : Heap) : ∀ (L : List (Nat × Blk)), S.next ≤ (addLate S L).next ∧ (∀ b x, (b, x) ∈ L → S.next ≤ b → b < (addLate S L).next) ∧
    ∀ M, S.next ≤ M → (∀ b x, (b, x) ∈ L → b < M) → (addLate S L).next ≤ M := by
  intro L
  induction L with
  | nil => exact ⟨Nat.le_refl _, by simp, fun M h _ => h⟩
  | cons x L ih =>
    obtain ⟨c, y⟩ := x
    obtain ⟨h1, h2, h3⟩ := ih
    simp only [addLate]
    cases hle : Nat.ble S.next c with
    | true =>
      simp only [cond_true]
      refine ⟨by omega, fun b x hx hb => ?_, fun M hM hall => ?_⟩
      · rcases List.mem_cons.1 hx with h4 | h4
        · cases h4; omega
        · have := h2 b x h4 hb; omega
      · have := h3 M hM (fun b x hx => hall b x (by simp [hx]))
        have := hall c y (by simp)
        omega
    | false =>
      have hlt : c < S.next := by
        rcases Nat.lt_or_ge c S.next with h | h
        · exact h
        · rw [Nat.ble_eq_true_of_le h] at hle; cases hle
      simp only [cond_false]
      refine ⟨h1, fun b x hx hb => ?_, fun M hM hall => h3 M hM (fun b x hx => hall b x (by simp [hx]))⟩
      rcases List.mem_cons.1 hx with h4 | h4
      · cases h4; omega
      · exact h2 b x h4 hb

end
end Go.Abs
