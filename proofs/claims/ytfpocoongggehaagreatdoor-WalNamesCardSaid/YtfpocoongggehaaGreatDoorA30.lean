/- The abstract machine is sound. Of no program. -/
import Derived.Test.YtfpocoongggehaaGreatDoorA29
set_option linter.all false
namespace Go.Abs
open Go
variable [Fixed]

/-- All that is shown for a fuel. -/
structure AllS (E : Env0) (n : Nat) : Prop where
  call : CallS E n
  run : RunS E n
  ops : OpsS E n
  op : OpS E n
  loop : LoopS E n

theorem allS_zero (E : Env0) : AllS E 0 := by
  constructor
  · intro f args H r H' h; simp [Abs.call] at h
  · intro nt l c e H x e' H' h; simp [Abs.run] at h
  · intro nt ops los e H e' H' i _ h; simp [Abs.runOps] at h
  · intro o op e H v H' _ h; simp [Abs.runOp] at h
  · intro nt l c e H x e' H' h; simp [Abs.run] at h

theorem allS {E : Env0} (hE : EnvOk E) : ∀ n, AllS E n := by
  intro n
  induction n using Nat.strongRecOn with
  | _ n ih =>
    cases n with
    | zero => exact allS_zero E
    | succ n =>
      have a := ih n (by omega)
      have l := loopS_succ a.run a.loop
      exact ⟨callS_succ hE a.run, runS_succ a.run l a.ops (drawS_succ hE fun m hm => (ih m (by omega)).op), opsS_succ a.op a.ops, opS_of_call hE a.call, l⟩

/-- What the abstract machine says of a call holds. -/
theorem call_sound {E : Env0} (hE : EnvOk E) {n f : Nat} {args : List Value} {H : Heap} {r : Value} {H' : Heap} (h : call E n f args H = some (r, H'))
    {σ : Map} {w : World} {args' : List Value} (hR : R σ H w) (ha : LRel σ args args') : CallOk E.P f args' σ H w r H' :=
  (allS hE n).call f args H r H' h σ w args' hR ha

theorem R.empty (w : World) (hw : ∀ c, Fixed.stay c → w.heap[c]? = Fixed.w0.heap[c]? ∧ c < w.heap.size) : R (fun _ => none) Heap.empty w where
  fresh b _ := rfl
  ids b x h := by cases h
  dom b l h := by cases h
  live b l x h := by cases h
  inj b b' l l' x x' h := by cases h
  inb b l h := by cases h
  fix c hc := ⟨(hw c hc).1, (hw c hc).2, fun b l x hb => by cases hb⟩

/-- A call without memory to start with, and with an answer that is no reference. -/
theorem call_closed {E : Env0} (hE : EnvOk E) {n f : Nat} {args : List Value} {r : Value} {H' : Heap} (h : call E n f args Heap.empty = some (r, H')) {k m : Nat} (ha : args.all (clo k) = true) (hr : clo m r = true) (w : World) (hw : ∀ c, Fixed.stay c → w.heap[c]? = Fixed.w0.heap[c]? ∧ c < w.heap.size) :
    Calls E.P f args.toArray w fun e _ => e = .returned r := by
  refine (call_sound hE h (R.empty w hw) (LRel.of_clo _ ha)).mono fun e w' hh => ?_
  obtain ⟨σ', r', h1, h2, h3⟩ := hh
  rw [h1, h2.eq_of_clo hr]

end Go.Abs
