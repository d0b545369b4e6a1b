/- The closed facts of the row of StableKnown. -/
import Derived.Test.YtfpocoongggehaaGreatDoorRows
import Derived.JoinedOf
import Derived.KernelRfl
set_option linter.all false
namespace Go.Proofs.YtfpocoongggehaaGreatDoor
open Go

theorem stableKnown_c0 : (Rows.stableKnownRow.wf (OpenSpec.ofChange Rows.stableKnownSpec)) = true := by kernel_rfl
theorem stableKnown_c1 : (laidOutB Tryz.prog) = true := by kernel_rfl
theorem stableKnown_c2 : (mapsRowed Tryz.prog) = true := by kernel_rfl
theorem stableKnown_c3 : (Tryz.f14.params.all (Tryz.prog.readableRec ·)) = true := by kernel_rfl
theorem stableKnown_c4 : (namedTie Tryz.prog Rows.stableKnownRow.named Rows.stableKnownSpec.vars) = true := by kernel_rfl
theorem stableKnown_c5 : ((Rows.stableKnownRow.stops == [])) = true := by kernel_rfl
theorem stableKnown_c6 : ((Tryz.prog.stops == [])) = true := by kernel_rfl
theorem stableKnown_c7 : ((Rows.stableKnownRow.knobs == [])) = true := by kernel_rfl
theorem stableKnown_c8 : ((Tryz.prog.stopKnobs == [])) = true := by kernel_rfl
theorem stableKnown_c9 : ((Rows.stableKnownRow.inPlace == Tryz.prog.inPlace 14)) = true := by kernel_rfl
theorem stableKnown_c10 : ((Rows.stableKnownRow.unfollowed == Tryz.prog.unfollowed 14)) = true := by kernel_rfl
theorem stableKnown_c11 : ((Rows.stableKnownRow.recurses == Tryz.prog.recurses 14)) = true := by kernel_rfl
theorem stableKnown_c12 : ((Rows.stableKnownRow.named == Tryz.prog.varsNamed 14)) = true := by kernel_rfl
theorem stableKnown_c13 : ((Rows.stableKnownRow.maps == (Tryz.f14.params.toList ++ Rows.stableKnownSpec.plain.varTypes Tryz.prog).any (Tryz.prog.mapsRec ·))) = true := by kernel_rfl
theorem stableKnown_c14 : ((Rows.stableKnownRow.ifaces == (Tryz.f14.params.toList ++ Rows.stableKnownSpec.plain.varTypes Tryz.prog).any (Tryz.prog.ifacesRec ·))) = true := by kernel_rfl
theorem stableKnown_c15 : ((Rows.stableKnownRow.mapsOut == Tryz.prog.mapsAmong Tryz.f14.resultTypes.toList)) = true := by kernel_rfl
theorem stableKnown_c16 : ((Rows.stableKnownRow.loops == (Tryz.f14.params.toList ++ Rows.stableKnownSpec.plain.varTypes Tryz.prog).any (Tryz.prog.loopsFrom ·))) = true := by kernel_rfl
theorem stableKnown_c17 : ((Rows.stableKnownRow.wideKeys == (Tryz.f14.params.toList ++ Rows.stableKnownSpec.plain.varTypes Tryz.prog ++ Tryz.f14.resultTypes.toList).any (Tryz.prog.wideKeysFrom ·))) = true := by kernel_rfl
theorem stableKnown_c18 : (Rows.stableKnownSpec.vars.all (Tryz.prog.varReadable ·)) = true := by kernel_rfl
theorem stableKnown_c19 : (Tryz.f14.resultTypes.all (fun t => Tryz.prog.readableRec t && decide (t < Tryz.prog.types.size))) = true := by kernel_rfl
theorem stableKnown_c20 : ((Rows.stableKnownRow.ifacesOut == Tryz.f14.resultTypes.toList.any (Tryz.prog.ifacesRec ·))) = true := by kernel_rfl
theorem stableKnown_c21 : ((Rows.stableKnownRow.loopsOut == Tryz.f14.resultTypes.toList.any (Tryz.prog.loopsFrom ·))) = true := by kernel_rfl
theorem stableKnown_c22 : ((Rows.stableKnownRow.plainKeys == Tryz.prog.plainKeys)) = true := by kernel_rfl
theorem stableKnown_c23 : (Rows.stableKnownRow.shortTexts.isNone) = true := by kernel_rfl
theorem stableKnown_c24 : (Tryz.prog.stopsHeard) = true := by kernel_rfl
theorem stableKnown_c25 : (Tryz.prog.mayEnter) = true := by kernel_rfl
theorem stableKnown_c26 : ((Rows.stableKnownRow.lifted == Tryz.prog.liftsFinal)) = true := by kernel_rfl
theorem stableKnown_c27 : ((Tryz.prog.make == some Rows.stableKnownRow.make)) = true := by kernel_rfl
theorem stableKnown_c28 : ((Rows.stableKnownRow.kinds == (if Rows.stableKnownRow.domain.isEmpty then [] else Tryz.f14.params.toList.map fun t => match Tryz.prog.underlying t with | some (.int k) => some k | _ => none))) = true := by kernel_rfl
theorem stableKnown_c29 : ((Rows.stableKnownRow.pinned == Rows.stableKnownRow.pinnedBy)) = true := by kernel_rfl
theorem stableKnown_c30 : ((Rows.stableKnownRow.veiled == (Tryz.f14.params.toList ++ Rows.stableKnownSpec.plain.varTypes Tryz.prog ++ Tryz.f14.resultTypes.toList).any (Tryz.prog.veiledRec ·))) = true := by kernel_rfl
theorem stableKnown_c31 : (Rows.stableKnownRow.veiledFits Tryz.prog Tryz.f14.params.toList (Tryz.f14.params.toList ++ Rows.stableKnownSpec.plain.varTypes Tryz.prog ++ Tryz.f14.resultTypes.toList)) = true := by kernel_rfl

theorem stableKnown_andI {a b : Bool} (h : a = true) (k : b = true) : (a && b) = true := by rw [h, k]; rfl
set_option maxRecDepth 100000 in
theorem stableKnown_facts : joinedFacts Tryz.prog 14 Tryz.f14 Rows.stableKnownSpec Rows.stableKnownRow = true := by
  unfold joinedFacts
  exact stableKnown_andI (stableKnown_andI (stableKnown_andI (stableKnown_andI (stableKnown_andI (stableKnown_andI (stableKnown_andI (stableKnown_andI (stableKnown_andI (stableKnown_andI (stableKnown_andI (stableKnown_andI (stableKnown_andI (stableKnown_andI (stableKnown_andI (stableKnown_andI (stableKnown_andI (stableKnown_andI (stableKnown_andI (stableKnown_andI (stableKnown_andI (stableKnown_andI (stableKnown_andI (stableKnown_andI (stableKnown_andI (stableKnown_andI (stableKnown_andI (stableKnown_andI (stableKnown_andI (stableKnown_andI (stableKnown_andI stableKnown_c0 stableKnown_c1) stableKnown_c2) stableKnown_c3) stableKnown_c4) stableKnown_c5) stableKnown_c6) stableKnown_c7) stableKnown_c8) stableKnown_c9) stableKnown_c10) stableKnown_c11) stableKnown_c12) stableKnown_c13) stableKnown_c14) stableKnown_c15) stableKnown_c16) stableKnown_c17) stableKnown_c18) stableKnown_c19) stableKnown_c20) stableKnown_c21) stableKnown_c22) stableKnown_c23) stableKnown_c24) stableKnown_c25) stableKnown_c26) stableKnown_c27) stableKnown_c28) stableKnown_c29) stableKnown_c30) stableKnown_c31
end Go.Proofs.YtfpocoongggehaaGreatDoor
