/- A segment's name, and a name's number, are the document's: the law's call returns true at every number and every text, in every world that holds the listed variables. -/
import Derived.Test.YtfpocoongggehaaGreatDoorG1
import Derived.Test.YtfpocoongggehaaGreatDoorNN
import Derived.Test.YtfpocoongggehaaGreatDoorJWalNames
import Derived.ChangeMaps5
set_option linter.all false
namespace Go.Proofs.YtfpocoongggehaaGreatDoor
open Go.ChangeShapes Go.WideShapes Go.ChangeAt Go.WideMaps Go.WideElems Go.RowKit

theorem envOkA3 {W : World} (h : Start W) : @Abs.EnvOk (fixedAt W) (EA false) := by
  letI := fixedAt W
  exact envOkA false h.l0 (fun h => by cases h)
theorem envOkA5 {W : World} (h : Start W ∧ @Laid1 (fixedAt W)) : @Abs.EnvOk (fixedAt W) (EA true) := by
  letI := fixedAt W
  exact envOkA true h.1.l0 (fun _ => h.2)

/-- A call of closed values on the machine from no memory, with a closed answer. -/
theorem closed_calls_of {W : World} (hs : Start W) {E : Abs.Env0} (hE : @Abs.EnvOk (fixedAt W) E) {f : Nat} {args : List Value} {H0 : Abs.Heap} {v : Value} (h : Abs.semCall E f args Abs.Heap.empty = some (v, H0)) (ha : args.all (Abs.clo 1) = true) (hv : Abs.clo 1 v = true) :
    Calls E.P f args.toArray W fun e W' => e = .returned v ∧ Below W.heap.size W W' := by
  letI := fixedAt W
  have hR : Abs.R (fun _ => none) Abs.Heap.empty W := Abs.R.empty W fun c hc => ⟨rfl, by have := hs.size; have : c < 3 := hc; omega⟩
  refine (Abs.sem_sound hE h hR (Abs.LRel.of_clo _ ha)).mono fun e W' hh => ?_
  obtain ⟨σ', r', h1, h2, st⟩ := hh
  refine ⟨by rw [h1, h2.eq_of_clo hv], ⟨st.quiet.os, st.quiet.tape, st.quiet.output, st.size, fun c hc => st.keep c hc fun b l x hb => by cases hb⟩⟩

theorem walNames_met (os : Os) (args : Array Value) : laidMetH Tryz.prog laid5 ((World.doorLaid Tryz.prog 400 os).forCall (fun _ _ => 0) ⟨#[], args, []⟩).memory :=
  laidMetH_of_parts3 (fuel := 8) (laidMet_of_run' 8 (by kernel_rfl) (by kernel_rfl)) (by kernel_rfl) (by kernel_rfl)

set_option maxRecDepth 100000 in
theorem walNames_lifted (os : Os) (started : os.Started) (H : Type) (enc : TypeId × Value → H) :
    ReturnsInHanded {} Tryz.checked os 5 .any (fun w args => (Rows.walNamesSpec.pre enc Tryz.prog Tryz.f5 [] false w args ∧ laidMetH Tryz.prog laid5 w) ∧ sizedMet enc Tryz.prog Tryz.f5 (OpenSpec.ofChange Rows.walNamesSpec) false w args)
      (Rows.walNamesSpec.post enc Tryz.prog Tryz.f5 false true false false) := by
  refine returnsInHanded_of_change_and (C := Tryz.checked) (X := fun w _ => laidMetH Tryz.prog laid5 w) (fun _ _ _ hh h => h.of_heap hh) own started (by kernel_rfl) Tryz.func5
    (ChangeSpec.witness_shaped (enc := enc) (C := Tryz.checked) (os := os) (X := fun w _ => laidMetH Tryz.prog laid5 w) false (World.doorLaid Tryz.prog 400 os) #[.int .u64 0, .string ⟨#[]⟩] 8 rfl (World.shaped_of_RefB (by kernel_rfl) (by kernel_rfl)) (by kernel_rfl) (by kernel_rfl) (by kernel_rfl) (walNames_met os _)) ?_
  intro W base args ds gs before hval0 hW _ _ hL _
  have hval : ∀ (j : Nat) t v, Tryz.f5.params[j]? = some t → args[j]? = some v → Value.okWide Tryz.prog W .any base t v := hval0
  have hW' := hW
  obtain ⟨p, q, hA0, hV, rfl, hfz, hnd⟩ := hW
  have hA : DataW.TrodAll enc Tryz.prog W 0 (fun _ => true) true Tryz.f5.params.toList args.toList ds p := hA0
  rw [Tryz.params5] at hA
  obtain ⟨v1, v2, d1, d2, p1, p2, rfl, rfl, rfl, t1, t2⟩ := trodAll_two hA
  obtain ⟨rfl, rfl⟩ := trodVars_none hV
  obtain ⟨n, rfl, rfl, rfl, hn⟩ := open_int (ht := Tryz.underlying22) (hval 0 _ _ (by kernel_rfl) rfl) t1
  obtain ⟨s, rfl, rfl, rfl, hsz⟩ := ChangeMaps.open_string (ht := Tryz.underlying9) (hval 1 _ _ (by kernel_rfl) rfl) t2
  have hb := bounds_u64 hn
  obtain ⟨k, rfl⟩ := Int.eq_ofNat_of_zero_le hb.1
  have hs := start5 hL
  obtain ⟨H0, h0⟩ := walNames_is (n := k) (by omega) s.data.toList Abs.Heap.empty
  refine (closed_calls_of hs.1 (envOkA5 hs) h0 rfl rfl).mono fun e W' hh => ?_
  obtain ⟨he, hbl⟩ := hh
  subst he
  exact ⟨_, rfl, post_of_below hW' (fun _ _ _ => trodAll_mk1 (shut_bool Tryz.underlying4 true)) (fun sp _ => by rw [Tryz.params5]; exact trodAll_mk2 (shut_int Tryz.underlying22 hn) (ChangeMaps.shut_string Tryz.underlying9 hsz)) (fun _ _ => rfl) rfl hbl (ok_one (by kernel_rfl) rfl (okWide_bool_mk Tryz.underlying4 true))⟩

theorem walNames_said : Rows.WalNamesSaid :=
  OpenClaim.holds_of_wide 5 Tryz.f5 rfl rfl rfl rfl rfl rfl rfl ⟨rfl, rfl, rfl, rfl, rfl⟩ rfl rfl rfl rfl rfl (by kernel_rfl) Tryz.func5 walNames_facts
    (of_decide_eq_true (by kernel_rfl)) (by unfold Func.isWrapper; first | (rw [if_pos (by decide +kernel)]; kernel_rfl) | (rw [if_neg (by decide +kernel)]; exact ⟨rfl, rfl⟩))
    (fun os started H enc _ => walNames_lifted os started H enc)
end Go.Proofs.YtfpocoongggehaaGreatDoor
