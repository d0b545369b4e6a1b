/- The closed facts of the row of WalNames. -/
import Derived.Test.YtfpocoongggehaaGreatDoorRows
import Derived.JoinedOf
import Derived.KernelRfl
set_option linter.all false
namespace Go.Proofs.YtfpocoongggehaaGreatDoor
open Go

theorem walNames_c0 : (Rows.walNamesRow.wf (OpenSpec.ofChange Rows.walNamesSpec)) = true := by kernel_rfl
theorem walNames_c1 : (laidOutB Tryz.prog) = true := by kernel_rfl
theorem walNames_c2 : (mapsRowed Tryz.prog) = true := by kernel_rfl
theorem walNames_c3 : (Tryz.f5.params.all (Tryz.prog.readableRec ·)) = true := by kernel_rfl
theorem walNames_c4 : (namedTie Tryz.prog Rows.walNamesRow.named Rows.walNamesSpec.vars) = true := by kernel_rfl
theorem walNames_c5 : ((Rows.walNamesRow.stops == [])) = true := by kernel_rfl
theorem walNames_c6 : ((Tryz.prog.stops == [])) = true := by kernel_rfl
theorem walNames_c7 : ((Rows.walNamesRow.knobs == [])) = true := by kernel_rfl
theorem walNames_c8 : ((Tryz.prog.stopKnobs == [])) = true := by kernel_rfl
theorem walNames_c9 : ((Rows.walNamesRow.inPlace == Tryz.prog.inPlace 5)) = true := by kernel_rfl
theorem walNames_c10 : ((Rows.walNamesRow.unfollowed == Tryz.prog.unfollowed 5)) = true := by kernel_rfl
theorem walNames_c11 : ((Rows.walNamesRow.recurses == Tryz.prog.recurses 5)) = true := by kernel_rfl
theorem walNames_c12 : ((Rows.walNamesRow.named == Tryz.prog.varsNamed 5)) = true := by kernel_rfl
theorem walNames_c13 : ((Rows.walNamesRow.maps == (Tryz.f5.params.toList ++ Rows.walNamesSpec.plain.varTypes Tryz.prog).any (Tryz.prog.mapsRec ·))) = true := by kernel_rfl
theorem walNames_c14 : ((Rows.walNamesRow.ifaces == (Tryz.f5.params.toList ++ Rows.walNamesSpec.plain.varTypes Tryz.prog).any (Tryz.prog.ifacesRec ·))) = true := by kernel_rfl
theorem walNames_c15 : ((Rows.walNamesRow.mapsOut == Tryz.prog.mapsAmong Tryz.f5.resultTypes.toList)) = true := by kernel_rfl
theorem walNames_c16 : ((Rows.walNamesRow.loops == (Tryz.f5.params.toList ++ Rows.walNamesSpec.plain.varTypes Tryz.prog).any (Tryz.prog.loopsFrom ·))) = true := by kernel_rfl
theorem walNames_c17 : ((Rows.walNamesRow.wideKeys == (Tryz.f5.params.toList ++ Rows.walNamesSpec.plain.varTypes Tryz.prog ++ Tryz.f5.resultTypes.toList).any (Tryz.prog.wideKeysFrom ·))) = true := by kernel_rfl
theorem walNames_c18 : (Rows.walNamesSpec.vars.all (Tryz.prog.varReadable ·)) = true := by kernel_rfl
theorem walNames_c19 : (Tryz.f5.resultTypes.all (fun t => Tryz.prog.readableRec t && decide (t < Tryz.prog.types.size))) = true := by kernel_rfl
theorem walNames_c20 : ((Rows.walNamesRow.ifacesOut == Tryz.f5.resultTypes.toList.any (Tryz.prog.ifacesRec ·))) = true := by kernel_rfl
theorem walNames_c21 : ((Rows.walNamesRow.loopsOut == Tryz.f5.resultTypes.toList.any (Tryz.prog.loopsFrom ·))) = true := by kernel_rfl
theorem walNames_c22 : ((Rows.walNamesRow.plainKeys == Tryz.prog.plainKeys)) = true := by kernel_rfl
theorem walNames_c23 : (Rows.walNamesRow.shortTexts.isNone) = true := by kernel_rfl
theorem walNames_c24 : (Tryz.prog.stopsHeard) = true := by kernel_rfl
theorem walNames_c25 : (Tryz.prog.mayEnter) = true := by kernel_rfl
theorem walNames_c26 : ((Rows.walNamesRow.lifted == Tryz.prog.liftsFinal)) = true := by kernel_rfl
theorem walNames_c27 : ((Tryz.prog.make == some Rows.walNamesRow.make)) = true := by kernel_rfl
theorem walNames_c28 : ((Rows.walNamesRow.kinds == (if Rows.walNamesRow.domain.isEmpty then [] else Tryz.f5.params.toList.map fun t => match Tryz.prog.underlying t with | some (.int k) => some k | _ => none))) = true := by kernel_rfl
theorem walNames_c29 : ((Rows.walNamesRow.pinned == Rows.walNamesRow.pinnedBy)) = true := by kernel_rfl
theorem walNames_c30 : ((Rows.walNamesRow.veiled == (Tryz.f5.params.toList ++ Rows.walNamesSpec.plain.varTypes Tryz.prog ++ Tryz.f5.resultTypes.toList).any (Tryz.prog.veiledRec ·))) = true := by kernel_rfl
theorem walNames_c31 : (Rows.walNamesRow.veiledFits Tryz.prog Tryz.f5.params.toList (Tryz.f5.params.toList ++ Rows.walNamesSpec.plain.varTypes Tryz.prog ++ Tryz.f5.resultTypes.toList)) = true := by kernel_rfl

theorem walNames_andI {a b : Bool} (h : a = true) (k : b = true) : (a && b) = true := by rw [h, k]; rfl
set_option maxRecDepth 100000 in
theorem walNames_facts : joinedFacts Tryz.prog 5 Tryz.f5 Rows.walNamesSpec Rows.walNamesRow = true := by
  unfold joinedFacts
  exact walNames_andI (walNames_andI (walNames_andI (walNames_andI (walNames_andI (walNames_andI (walNames_andI (walNames_andI (walNames_andI (walNames_andI (walNames_andI (walNames_andI (walNames_andI (walNames_andI (walNames_andI (walNames_andI (walNames_andI (walNames_andI (walNames_andI (walNames_andI (walNames_andI (walNames_andI (walNames_andI (walNames_andI (walNames_andI (walNames_andI (walNames_andI (walNames_andI (walNames_andI (walNames_andI (walNames_andI walNames_c0 walNames_c1) walNames_c2) walNames_c3) walNames_c4) walNames_c5) walNames_c6) walNames_c7) walNames_c8) walNames_c9) walNames_c10) walNames_c11) walNames_c12) walNames_c13) walNames_c14) walNames_c15) walNames_c16) walNames_c17) walNames_c18) walNames_c19) walNames_c20) walNames_c21) walNames_c22) walNames_c23) walNames_c24) walNames_c25) walNames_c26) walNames_c27) walNames_c28) walNames_c29) walNames_c30) walNames_c31
end Go.Proofs.YtfpocoongggehaaGreatDoor
