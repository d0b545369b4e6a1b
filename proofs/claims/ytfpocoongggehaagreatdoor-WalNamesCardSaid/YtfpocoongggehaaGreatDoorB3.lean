/- What the plain types are. -/
import Derived.Test.YtfpocoongggehaaGreatDoorProg
import Derived.KernelRfl
set_option linter.all false
namespace Go.Proofs.YtfpocoongggehaaGreatDoor
open Go

theorem ty2 : Tryz.prog.underlying 2 = some (.int .i64) := by kernel_rfl
theorem ty3 : Tryz.prog.underlying 3 = some (.int .i64) := by kernel_rfl
theorem ty4 : Tryz.prog.underlying 4 = some .bool := by kernel_rfl
theorem ty5 : Tryz.prog.underlying 5 = some (.int .u8) := by kernel_rfl
theorem ty6 : Tryz.prog.underlying 6 = some (.int .u8) := by kernel_rfl
theorem ty9 : Tryz.prog.underlying 9 = some .string := by kernel_rfl
theorem ty10 : Tryz.prog.underlying 10 = some .string := by kernel_rfl
theorem ty11 : Tryz.prog.underlying 11 = some .string := by kernel_rfl
theorem ty12 : Tryz.prog.underlying 12 = some (.int .u64) := by kernel_rfl
theorem ty21 : Tryz.prog.underlying 21 = some (.int .i32) := by kernel_rfl
theorem ty22 : Tryz.prog.underlying 22 = some (.int .u64) := by kernel_rfl
theorem ty33 : Tryz.prog.underlying 33 = some (.int .u32) := by kernel_rfl
theorem ty39 : Tryz.prog.underlying 39 = some (.int .i64) := by kernel_rfl
theorem ty135 : Tryz.prog.underlying 135 = some (.int .u64) := by kernel_rfl
theorem ty229 : Tryz.prog.underlying 229 = some (.int .i64) := by kernel_rfl
theorem ty246 : Tryz.prog.underlying 246 = some (.int .i64) := by kernel_rfl
theorem ty277 : Tryz.prog.underlying 277 = some (.int .u64) := by kernel_rfl
theorem ty306 : Tryz.prog.underlying 306 = some (.int .u8) := by kernel_rfl
theorem ty307 : Tryz.prog.underlying 307 = some (.int .u8) := by kernel_rfl
theorem ty309 : Tryz.prog.underlying 309 = some (.int .i32) := by kernel_rfl
theorem ty310 : Tryz.prog.underlying 310 = some (.int .i32) := by kernel_rfl
/-- All of them. -/
theorem Ty : Tryz.prog.underlying 2 = some (.int .i64) ∧ Tryz.prog.underlying 3 = some (.int .i64) ∧ Tryz.prog.underlying 4 = some .bool ∧ Tryz.prog.underlying 5 = some (.int .u8) ∧ Tryz.prog.underlying 6 = some (.int .u8) ∧ Tryz.prog.underlying 9 = some .string ∧ Tryz.prog.underlying 10 = some .string ∧ Tryz.prog.underlying 11 = some .string ∧ Tryz.prog.underlying 12 = some (.int .u64) ∧ Tryz.prog.underlying 21 = some (.int .i32) ∧ Tryz.prog.underlying 22 = some (.int .u64) ∧ Tryz.prog.underlying 33 = some (.int .u32) ∧ Tryz.prog.underlying 39 = some (.int .i64) ∧ Tryz.prog.underlying 135 = some (.int .u64) ∧ Tryz.prog.underlying 229 = some (.int .i64) ∧ Tryz.prog.underlying 246 = some (.int .i64) ∧ Tryz.prog.underlying 277 = some (.int .u64) ∧ Tryz.prog.underlying 306 = some (.int .u8) ∧ Tryz.prog.underlying 307 = some (.int .u8) ∧ Tryz.prog.underlying 309 = some (.int .i32) ∧ Tryz.prog.underlying 310 = some (.int .i32) :=
  ⟨ty2, ty3, ty4, ty5, ty6, ty9, ty10, ty11, ty12, ty21, ty22, ty33, ty39, ty135, ty229, ty246, ty277, ty306, ty307, ty309, ty310⟩
end Go.Proofs.YtfpocoongggehaaGreatDoor
