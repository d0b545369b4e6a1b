/- Calls without fuel are sound; what nobody knows of may be forgotten. Of no program. -/
import Derived.Test.YtfpocoongggehaaGreatDoorA30
import Derived.Test.YtfpocoongggehaaGreatDoorA31
set_option linter.all false
namespace Go.Abs
open Go
variable [Fixed]

theorem sem_sound {E : Env0} (hE : EnvOk E) {f : Nat} {args : List Value} {H : Heap} {r : Value} {H' : Heap} (h : semCall E f args H = some (r, H'))
    {σ : Map} {w : World} {args' : List Value} (hR : R σ H w) (ha : LRel σ args args') : CallOk E.P f args' σ H w r H' := by
  obtain ⟨n, hn⟩ := semCall_iff.1 h
  exact call_sound hE hn hR ha

theorem sem_closed {E : Env0} (hE : EnvOk E) {f : Nat} {args : List Value} {r : Value} {H' : Heap} (h : semCall E f args Heap.empty = some (r, H')) {k m : Nat} (ha : args.all (clo k) = true) (hr : clo m r = true) (w : World)
    (hw : ∀ c, Fixed.stay c → w.heap[c]? = Fixed.w0.heap[c]? ∧ c < w.heap.size) : Calls E.P f args.toArray w fun e _ => e = .returned r := by
  obtain ⟨n, hn⟩ := semCall_iff.1 h
  exact call_closed hE hn ha hr w hw

/-- Blocks that only the call knew. -/
theorem CallOk.forget {P : Program} {f : Nat} {args' : List Value} {σ : Map} {H : Heap} {w : World} {r : Value} {H' : Heap} (h : CallOk P f args' σ H w r H') (hR : R σ H w) (hH : ∀ b, b < H.next → H'.get b = H.get b) (hr : Ids H.next r) :
    CallOk P f args' σ H w r H := by
  refine h.mono fun e w' hh => ?_
  obtain ⟨σ', r', h1, h2, st⟩ := hh
  have back : ∀ b l, σ'.cut H.next b = some l → σ b = some l := by
    intro b l hb
    obtain ⟨k1, k2⟩ := Map.cut_some hb
    cases hs : σ b with
    | some l2 => have := st.ext b l2 hs; rw [k2] at this; exact this.symm
    | none => have := (st.new b l k2 hs).1; omega
  refine ⟨σ, r', h1, (h2.cut hr).mono back, ⟨fun _ _ h => h, fun b l h3 h4 => (by rw [h3] at h4; cases h4), Nat.le_refl _, ⟨⟨hR.fresh, hR.ids, hR.dom, ?_, hR.inj, ?_⟩, ?_⟩, st.size, st.keep, fun b x _ hx => ⟨x, hx, rfl⟩, fun _ _ _ => rfl, st.quiet⟩⟩
  · intro b l x hb hx
    have := st.rel.live b l x (st.ext b l hb) (by rw [hH b (hR.dom b l hb)]; exact hx)
    exact (this.cut (hR.ids b x hx)).mono back rfl
  · intro b l hb; exact Nat.lt_of_lt_of_le (hR.inb b l hb) st.size
  · intro c hc; exact ⟨(st.rel.fix c hc).1, (st.rel.fix c hc).2.1, (hR.fix c hc).2.2⟩

/-- What lies at places that nobody may write stays, and new memory is no one's: then nothing has come to pass. -/
theorem CallOk.below {P : Program} {f : Nat} {args' : List Value} {σ : Map} {H : Heap} {w : World} {r r' : Value} (hR : R σ H w) (hv : VRel σ r r')
    (h : Calls P f args'.toArray w fun e w' => e = .returned r' ∧ w.heap.size ≤ w'.heap.size ∧ (∀ c, c < w.heap.size → w'.heap[c]? = w.heap[c]?) ∧ Quiet w w') : CallOk P f args' σ H w r H := by
  refine h.mono fun e w' hh => ?_
  obtain ⟨h1, h2, h3, h4⟩ := hh
  refine ⟨σ, r', h1, hv, Step.mk0 hR ⟨fun _ _ h => h, fun b l h3 h4 => (by rw [h3] at h4; cases h4), Nat.le_refl _, ⟨hR.fresh, hR.ids, hR.dom, ?_, hR.inj, ?_⟩, h2, fun c hc _ => h3 c hc, fun b x _ hx => ⟨x, hx, rfl⟩, fun _ _ _ => rfl, h4⟩⟩
  · intro b l x hb hx
    exact (hR.live b l x hb hx).mono (fun _ _ h => h) (h3 l.c (hR.inb b l hb))
  · intro b l hb; exact Nat.lt_of_lt_of_le (hR.inb b l hb) h2

end Go.Abs
