/- The closed facts of the row of WalKnown. -/
import Derived.Test.YtfpocoongggehaaGreatDoorRows
import Derived.JoinedOf
import Derived.KernelRfl
set_option linter.all false
namespace Go.Proofs.YtfpocoongggehaaGreatDoor
open Go

theorem walKnown_c0 : (Rows.walKnownRow.wf (OpenSpec.ofChange Rows.walKnownSpec)) = true := by kernel_rfl
theorem walKnown_c1 : (laidOutB Tryz.prog) = true := by kernel_rfl
theorem walKnown_c2 : (mapsRowed Tryz.prog) = true := by kernel_rfl
theorem walKnown_c3 : (Tryz.f6.params.all (Tryz.prog.readableRec ·)) = true := by kernel_rfl
theorem walKnown_c4 : (namedTie Tryz.prog Rows.walKnownRow.named Rows.walKnownSpec.vars) = true := by kernel_rfl
theorem walKnown_c5 : ((Rows.walKnownRow.stops == [])) = true := by kernel_rfl
theorem walKnown_c6 : ((Tryz.prog.stops == [])) = true := by kernel_rfl
theorem walKnown_c7 : ((Rows.walKnownRow.knobs == [])) = true := by kernel_rfl
theorem walKnown_c8 : ((Tryz.prog.stopKnobs == [])) = true := by kernel_rfl
theorem walKnown_c9 : ((Rows.walKnownRow.inPlace == Tryz.prog.inPlace 6)) = true := by kernel_rfl
theorem walKnown_c10 : ((Rows.walKnownRow.unfollowed == Tryz.prog.unfollowed 6)) = true := by kernel_rfl
theorem walKnown_c11 : ((Rows.walKnownRow.recurses == Tryz.prog.recurses 6)) = true := by kernel_rfl
theorem walKnown_c12 : ((Rows.walKnownRow.named == Tryz.prog.varsNamed 6)) = true := by kernel_rfl
theorem walKnown_c13 : ((Rows.walKnownRow.maps == (Tryz.f6.params.toList ++ Rows.walKnownSpec.plain.varTypes Tryz.prog).any (Tryz.prog.mapsRec ·))) = true := by kernel_rfl
theorem walKnown_c14 : ((Rows.walKnownRow.ifaces == (Tryz.f6.params.toList ++ Rows.walKnownSpec.plain.varTypes Tryz.prog).any (Tryz.prog.ifacesRec ·))) = true := by kernel_rfl
theorem walKnown_c15 : ((Rows.walKnownRow.mapsOut == Tryz.prog.mapsAmong Tryz.f6.resultTypes.toList)) = true := by kernel_rfl
theorem walKnown_c16 : ((Rows.walKnownRow.loops == (Tryz.f6.params.toList ++ Rows.walKnownSpec.plain.varTypes Tryz.prog).any (Tryz.prog.loopsFrom ·))) = true := by kernel_rfl
theorem walKnown_c17 : ((Rows.walKnownRow.wideKeys == (Tryz.f6.params.toList ++ Rows.walKnownSpec.plain.varTypes Tryz.prog ++ Tryz.f6.resultTypes.toList).any (Tryz.prog.wideKeysFrom ·))) = true := by kernel_rfl
theorem walKnown_c18 : (Rows.walKnownSpec.vars.all (Tryz.prog.varReadable ·)) = true := by kernel_rfl
theorem walKnown_c19 : (Tryz.f6.resultTypes.all (fun t => Tryz.prog.readableRec t && decide (t < Tryz.prog.types.size))) = true := by kernel_rfl
theorem walKnown_c20 : ((Rows.walKnownRow.ifacesOut == Tryz.f6.resultTypes.toList.any (Tryz.prog.ifacesRec ·))) = true := by kernel_rfl
theorem walKnown_c21 : ((Rows.walKnownRow.loopsOut == Tryz.f6.resultTypes.toList.any (Tryz.prog.loopsFrom ·))) = true := by kernel_rfl
theorem walKnown_c22 : ((Rows.walKnownRow.plainKeys == Tryz.prog.plainKeys)) = true := by kernel_rfl
theorem walKnown_c23 : (Rows.walKnownRow.shortTexts.isNone) = true := by kernel_rfl
theorem walKnown_c24 : (Tryz.prog.stopsHeard) = true := by kernel_rfl
theorem walKnown_c25 : (Tryz.prog.mayEnter) = true := by kernel_rfl
theorem walKnown_c26 : ((Rows.walKnownRow.lifted == Tryz.prog.liftsFinal)) = true := by kernel_rfl
theorem walKnown_c27 : ((Tryz.prog.make == some Rows.walKnownRow.make)) = true := by kernel_rfl
theorem walKnown_c28 : ((Rows.walKnownRow.kinds == (if Rows.walKnownRow.domain.isEmpty then [] else Tryz.f6.params.toList.map fun t => match Tryz.prog.underlying t with | some (.int k) => some k | _ => none))) = true := by kernel_rfl
theorem walKnown_c29 : ((Rows.walKnownRow.pinned == Rows.walKnownRow.pinnedBy)) = true := by kernel_rfl
theorem walKnown_c30 : ((Rows.walKnownRow.veiled == (Tryz.f6.params.toList ++ Rows.walKnownSpec.plain.varTypes Tryz.prog ++ Tryz.f6.resultTypes.toList).any (Tryz.prog.veiledRec ·))) = true := by kernel_rfl
theorem walKnown_c31 : (Rows.walKnownRow.veiledFits Tryz.prog Tryz.f6.params.toList (Tryz.f6.params.toList ++ Rows.walKnownSpec.plain.varTypes Tryz.prog ++ Tryz.f6.resultTypes.toList)) = true := by kernel_rfl

theorem walKnown_andI {a b : Bool} (h : a = true) (k : b = true) : (a && b) = true := by rw [h, k]; rfl
set_option maxRecDepth 100000 in
theorem walKnown_facts : joinedFacts Tryz.prog 6 Tryz.f6 Rows.walKnownSpec Rows.walKnownRow = true := by
  unfold joinedFacts
  exact walKnown_andI (walKnown_andI (walKnown_andI (walKnown_andI (walKnown_andI (walKnown_andI (walKnown_andI (walKnown_andI (walKnown_andI (walKnown_andI (walKnown_andI (walKnown_andI (walKnown_andI (walKnown_andI (walKnown_andI (walKnown_andI (walKnown_andI (walKnown_andI (walKnown_andI (walKnown_andI (walKnown_andI (walKnown_andI (walKnown_andI (walKnown_andI (walKnown_andI (walKnown_andI (walKnown_andI (walKnown_andI (walKnown_andI (walKnown_andI (walKnown_andI walKnown_c0 walKnown_c1) walKnown_c2) walKnown_c3) walKnown_c4) walKnown_c5) walKnown_c6) walKnown_c7) walKnown_c8) walKnown_c9) walKnown_c10) walKnown_c11) walKnown_c12) walKnown_c13) walKnown_c14) walKnown_c15) walKnown_c16) walKnown_c17) walKnown_c18) walKnown_c19) walKnown_c20) walKnown_c21) walKnown_c22) walKnown_c23) walKnown_c24) walKnown_c25) walKnown_c26) walKnown_c27) walKnown_c28) walKnown_c29) walKnown_c30) walKnown_c31
end Go.Proofs.YtfpocoongggehaaGreatDoor
