/- The theorem on single operations. Of no program. -/
import Derived.Test.YtfpocoongggehaaGreatDoorA15
set_option linter.all false
namespace Go.Abs
open Go
variable [Fixed]

variable {P : Program}
section
variable {σ : Map} {H : Heap} {w : World} {e : Env} {a : Act} {o : Oper} {v : Value} {H' : Heap}

theorem lowCmp_inv {k : Nat} {op : BinOp} {x y : Operand} {ao : AOp} (h : lowCmp k op x y = some ao) :
    ∃ neg, ao = .cmpref k neg x y ∧ ((op = .eql ∧ neg = false) ∨ (op = .neq ∧ neg = true)) ∧ (isConst x = true ∨ isConst y = true) := by
  unfold lowCmp at h
  split at h
  · cases h; exact ⟨false, rfl, .inl ⟨rfl, rfl⟩, .inr rfl⟩
  · cases h; exact ⟨false, rfl, .inl ⟨rfl, rfl⟩, .inl rfl⟩
  · cases h; exact ⟨true, rfl, .inr ⟨rfl, rfl⟩, .inr rfl⟩
  · cases h; exact ⟨true, rfl, .inr ⟨rfl, rfl⟩, .inl rfl⟩
  · cases h

theorem bif_some {α : Type} {b : Bool} {x : α} {y : α} (h : (bif b then some x else none) = some y) : b = true ∧ x = y := by
  cases b with
  | false => cases h
  | true => cases h; exact ⟨rfl, rfl⟩

def isCall : AOp → Bool
  | .call .. | .callv .. | .inv .. => true
  | _ => false

theorem builtin_sound (hr : R σ H w) (he : EnvRel σ e a) {c : Call} {b : Builtin} {op : AOp} (ho : o.op = .call c) (hc : c.callee = .builtin b)
    (hl : lowBuiltin P b o c.args.toList c.argTypes.toList = some op) (hlo : lowOp P o = some op) (h : aop P e H op = some (v, H')) : Val P (execOp a.eval o) σ H w v H' := by
  have hsel : ∀ cs bb, o.op ≠ .select cs bb := by intro cs bb hh; rw [ho] at hh; cases hh
  unfold lowBuiltin at hl
  split at hl
  · -- len
    rename_i x t hargs htys
    split at hl
    · cases hl; exact sound_prim hr he hsel h
    · rename_i el ht; cases hl; exact sound_len hr he ho hc hargs htys (.inl ⟨rfl, el, ht⟩) h
    · rename_i k el ht; cases hl; exact sound_len hr he ho hc hargs htys (.inr ⟨rfl, k, el, ht⟩) h
    · rename_i n el ht
      cases hl
      simp only [aop, aval, clo, cond_true, Option.some.injEq, Prod.mk.injEq] at h
      obtain ⟨rfl, rfl⟩ := h
      refine Val.quiet hr (v' := .int .i64 n) ?_ (.int _ _)
      have ea : c.args = #[x] := by apply Array.ext'; exact hargs
      have et' : c.argTypes = #[t] := by apply Array.ext'; exact htys
      rw [run_builtin ho hc, ea, et']
      simp [builtin, Builtin.len_, run_underlying ht, goInt]
    · cases hl
  · cases hl; exact sound_prim hr he hsel h
  · cases hl; exact sound_prim hr he hsel h
  · -- append
    rename_i s x t u hargs htys
    split at hl
    · rename_i el e2 ht hu
      split at hl
      · rename_i sz by_ z hel
        obtain ⟨hk, rfl⟩ := bif_some hl
        simp only [Bool.and_eq_true] at hk
        exact sound_app hr he ho hc hargs htys ht (.inr ⟨e2, hu⟩) hel (Nat.eq_of_beq_eq_true hk.2) (Nat.le_of_ble_eq_true hk.1.1) (Nat.le_of_ble_eq_true hk.1.2) h
      · cases hl
    · rename_i el ht hu
      split at hl
      · rename_i sz by_ z hel
        obtain ⟨hk, rfl⟩ := bif_some hl
        simp only [Bool.and_eq_true] at hk
        exact sound_app hr he ho hc hargs htys ht (.inl hu) hel (Nat.eq_of_beq_eq_true hk.2) (Nat.le_of_ble_eq_true hk.1.1) (Nat.le_of_ble_eq_true hk.1.2) h
      · cases hl
    · cases hl
  · -- copy
    rename_i d s t u hargs htys
    split at hl
    · rename_i el ht
      split at hl
      · rename_i sz hsz; cases hl; exact sound_copy hr he ho hc hargs htys ht hsz h
      · cases hl
    · cases hl
  · -- delete
    rename_i m k t u hargs htys
    split at hl
    · rename_i kt et ht
      split at hl
      · rename_i dk hk; cases hl; exact sound_mdel hr he ho hc hargs htys ht hk h
      · cases hl
    · cases hl
  · -- clear
    rename_i x t hargs htys
    split at hl
    · rename_i k el ht; cases hl; exact sound_clear (by_ := 0) (el := 0) hr he ho hc hargs htys (.inl ⟨⟨k, el, ht⟩, rfl⟩) h
    · rename_i el ht
      split at hl
      · rename_i sz by_ z hel; cases hl; exact sound_clear hr he ho hc hargs htys (.inr ⟨ht, hel⟩) h
      · cases hl
    · cases hl
  · cases hl

theorem aop_sound (hr : R σ H w) (he : EnvRel σ e a) {op : AOp} (hl : lowOp P o = some op) (h : aop P e H op = some (v, H')) : Val P (execOp a.eval o) σ H w v H' := by
  have hl0 := hl
  have hsel : ∀ x, op = .prim x → ∀ cs bb, o.op ≠ .select cs bb := by
    intro x hx; exact prim_sel ⟨x, hx ▸ hl0⟩
  unfold lowOp at hl
  split at hl
  · rename_i x ho; cases hl; exact sound_mv hr he (.inl ho) h
  · rename_i x ho; cases hl; exact sound_mv hr he (.inr ho) h
  · rename_i c x y ho; cases hl; exact sound_pick hr he ho h
  · rename_i t ho
    split at hl
    · rename_i n b z hz; cases hl; exact sound_alloc hr ho ⟨n, b, hz⟩ h
    · cases hl
  · rename_i t x ho; cases hl; exact sound_box hr he ho h
  · -- build
    rename_i t ps ho
    split at hl
    · rename_i i fs hi ht
      split at hl
      · rename_i z l hz hps
        obtain ⟨hk, rfl⟩ := bif_some hl
        exact sound_build_struct hr he ho hi hz ht hps hk h
      · cases hl
    · rename_i i n el hi ht
      split at hl
      · rename_i z sz hz hsz; cases hl; exact sound_build_array hr he ho hi hz ht hsz h
      · cases hl
    · cases hl
  · -- buildSlice
    rename_i t len ps ho
    split at hl
    · rename_i el ht
      split at hl
      · rename_i sz by_ z hel
        split at hl
        · rename_i l hps
          obtain ⟨hk, rfl⟩ := bif_some hl
          exact sound_bslice hr he ho ht hel hps (Nat.le_of_ble_eq_true hk) h
        · cases hl
      · cases hl
    · cases hl
  · -- load
    rename_i t x ho
    split at hl
    · rename_i n ht hn; cases hl; exact sound_ld hr he ho (.inr ⟨n, ht, hn, h⟩)
    · rename_i n ht hn; cases hl; exact sound_ld hr he ho (.inl ⟨ht, h⟩)
    · cases hl
  · rename_i t x y ho
    split at hl
    · rename_i n hn; cases hl; exact sound_st hr he ho hn h
    · cases hl
  · rename_i x ho; cases hl; exact sound_nilck hr he ho h
  · -- binOp
    rename_i bop t x y t2 ho
    split at hl
    · rename_i d ht; obtain ⟨neg, rfl, h1, h2⟩ := lowCmp_inv hl; exact sound_cmpref hr he ho ht rfl h1 h2 h
    · rename_i d ht; obtain ⟨neg, rfl, h1, h2⟩ := lowCmp_inv hl; exact sound_cmpref hr he ho ht rfl h1 h2 h
    · rename_i d1 d2 ht; obtain ⟨neg, rfl, h1, h2⟩ := lowCmp_inv hl; exact sound_cmpref hr he ho ht rfl h1 h2 h
    · rename_i d1 d2 d3 ht; obtain ⟨neg, rfl, h1, h2⟩ := lowCmp_inv hl; exact sound_cmpref hr he ho ht rfl h1 h2 h
    · rename_i d ht; obtain ⟨neg, rfl, h1, h2⟩ := lowCmp_inv hl; exact sound_cmpref hr he ho ht rfl h1 h2 h
    · cases hl; exact sound_prim hr he (hsel _ rfl) h
    · cases hl
  · cases hl; exact sound_prim hr he (hsel _ rfl) h
  · -- convert
    rename_i s d x ho
    split at hl
    · rename_i el hs hd
      split at hl
      · rename_i hel; cases hl; exact sound_cvsb hr he ho hs hd hel h
      · cases hl
    · rename_i el hs hd
      split at hl
      · rename_i hel; cases hl; exact sound_cvbs hr he ho hs hd hel h
      · cases hl
    · cases hl; exact sound_prim hr he (hsel _ rfl) h
    · cases hl; exact sound_prim hr he (hsel _ rfl) h
    · cases hl
  · rename_i t x ho
    split at hl
    · cases hl
    · rename_i d hnd ht; cases hl; exact sound_mkiface hr he ho ht (fun m hm => by subst hm; exact hnd _ rfl) h
    · cases hl
  · rename_i f first captured ho; cases hl; exact sound_mkfunc hr he ho h
  · rename_i t r ho
    split at hl
    · rename_i k el ht; cases hl; exact sound_mkmap hr he ho ht h
    · cases hl
  · rename_i t l c ho
    split at hl
    · rename_i el ht
      split at hl
      · rename_i sz by_ z hel
        obtain ⟨hk, rfl⟩ := bif_some hl
        exact sound_mkslice hr he ho ht hel (Nat.le_of_ble_eq_true hk) h
      · cases hl
    · cases hl
  · -- slice
    rename_i t x lo hi mx ho
    split at hl
    · rename_i n el ht
      split at hl
      · rename_i sz hsz
        obtain ⟨hk, rfl⟩ := bif_some hl
        exact sound_slca (arr := 0) hr he ho (.inl ht) hsz h
      · cases hl
    · rename_i ht
      split at hl
      · cases hl; exact sound_slcs hr he ho ht h
      · cases hl
    · rename_i el ht
      split at hl
      · rename_i sz hsz
        obtain ⟨hk, rfl⟩ := bif_some hl
        exact sound_slcl hr he ho ht hsz hk h
      · cases hl
    · rename_i arr ht
      split at hl
      · rename_i n el ht2
        split at hl
        · rename_i sz hsz
          obtain ⟨hk, rfl⟩ := bif_some hl
          exact sound_slca hr he ho (.inr ⟨ht, ht2⟩) hsz h
        · cases hl
      · cases hl
    · cases hl
  · -- fieldAddr
    rename_i s x f ho
    split at hl
    · rename_i fs hs
      split at hl
      · rename_i fd hf
        split at hl
        · rename_i n hn
          rw [bif_beq] at hl
          split at hl
          · cases hl
          · rename_i hn0; cases hl; exact sound_fadr hr he ho hs hf hn hn0 h
        · cases hl
      · cases hl
    · cases hl
  · rename_i s x f ho
    split at hl
    · rename_i fs hs
      split at hl
      · rename_i fd hf
        split at hl
        · rename_i n b hn hb; cases hl; exact sound_fld hr he ho hs hf hn hb h
        · cases hl
      · cases hl
    · cases hl
  · rename_i t x i ho
    split at hl
    · rename_i n el ht
      split at hl
      · rename_i sz hsz; cases hl; exact sound_iadra hr he ho ht hsz h
      · cases hl
    · rename_i el ht
      split at hl
      · rename_i sz hsz; cases hl; exact sound_iadrs hr he ho ht hsz h
      · cases hl
    · cases hl
  · rename_i t x i ho
    split at hl
    · cases hl; exact sound_prim hr he (hsel _ rfl) h
    · rename_i n el ht
      split at hl
      · rename_i sz b hsz hb; cases hl; exact sound_idxa hr he ho ht hsz hb h
      · cases hl
    · cases hl
  · rename_i t x k ok ho
    split at hl
    · rename_i kt et ht
      split at hl
      · rename_i dk i hk hi
        split at hl
        · rename_i z hz; cases hl; exact sound_look hr he ho ht hk hi hz h
        · cases hl
      · cases hl
    · cases hl
  · rename_i t m k y ho
    split at hl
    · rename_i kt et ht
      split at hl
      · rename_i dk hk; cases hl; exact sound_mput hr he ho ht hk h
      · cases hl
    · cases hl
  · rename_i x i ho; cases hl; exact sound_ext hr he ho h
  · rename_i c ho
    split at hl
    · cases hl; simp [aop] at h
    · cases hl; simp [aop] at h
    · cases hl; simp [aop] at h
    · rename_i b hc; exact builtin_sound hr he ho hc hl hl0 h
  · cases hl

end
end Go.Abs
