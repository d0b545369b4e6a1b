/- StableKnown on the abstract machine. -/
import Derived.Test.YtfpocoongggehaaGreatDoorL4
set_option linter.all false
namespace Go.Proofs.YtfpocoongggehaaGreatDoor
theorem stableKnown_run : Abs.isV (.bool true) (Abs.fcall (EE true) 300 40 14 [] Abs.Heap.empty) = true := by kernel_rfl
end Go.Proofs.YtfpocoongggehaaGreatDoor
