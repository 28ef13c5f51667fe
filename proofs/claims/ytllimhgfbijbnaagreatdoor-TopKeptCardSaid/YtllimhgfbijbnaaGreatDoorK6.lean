/- Parts of the proof; conditions: as each theorem says. -/
import Derived.Shelf.Spec.TrailingZeros
import Derived.Test.YtllimhgfbijbnaaGreatDoorProg
set_option linter.unusedVariables false
set_option linter.unusedSimpArgs false
namespace Go.Proofs.YtllimhgfbijbnaaGreatDoor
open Go.Shelf
def layTzz_ren : Go.Shelf.Ren := ⟨fun | 27 => 245 | 28 => 251 | 29 => 201 | n => n, fun | 25 => 193 | 3 => 3 | 27 => 238 | 22 => 240 | 4 => 4 | 53 => 353 | 0 => 0 | 5 => 5 | 54 => 316 | n => n, fun | 0 => 7 | 1 => 1 | n => n⟩
theorem layTzz : Go.Proofs.Lays7.n27 Tryz.prog layTzz_ren := {
 mixed := by kernel_rfl
 f27 := Tryz.func245.trans (congrArg some (by kernel_rfl))
 f28 := Tryz.func251.trans (congrArg some (by kernel_rfl))
 f29 := Tryz.func201.trans (congrArg some (by kernel_rfl))
 t0 := Tryz.underlying0
 a0 := Tryz.isAgg0
 z0 := Tryz.sizeOf0
 v0 := Tryz.zeroValue0
 i0 := by kernel_rfl
 t3 := Tryz.underlying3
 a3 := Tryz.isAgg3
 z3 := Tryz.sizeOf3
 v3 := Tryz.zeroValue3
 i3 := by kernel_rfl
 t4 := Tryz.underlying4
 a4 := Tryz.isAgg4
 z4 := Tryz.sizeOf4
 v4 := Tryz.zeroValue4
 i4 := by kernel_rfl
 t5 := Tryz.underlying5
 a5 := Tryz.isAgg5
 z5 := Tryz.sizeOf5
 v5 := Tryz.zeroValue5
 i5 := by kernel_rfl
 t22 := Tryz.underlying240
 a22 := Tryz.isAgg240
 z22 := Tryz.sizeOf240
 v22 := Tryz.zeroValue240
 i22 := by kernel_rfl
 t25 := Tryz.underlying193
 a25 := Tryz.isAgg193
 z25 := Tryz.sizeOf193
 v25 := Tryz.zeroValue193
 i25 := by kernel_rfl
 t27 := Tryz.underlying238
 a27 := Tryz.isAgg238
 z27 := Tryz.sizeOf238
 v27 := Tryz.zeroValue238
 i27 := by kernel_rfl
 t53 := Tryz.underlying353
 a53 := Tryz.isAgg353
 z53 := Tryz.sizeOf353
 v53 := Tryz.zeroValue353
 i53 := by kernel_rfl
 t54 := Tryz.underlying316
 a54 := Tryz.isAgg316
 z54 := Tryz.sizeOf316
 g0 := by kernel_rfl
 g1 := by kernel_rfl }
def layTz_ren : Go.Shelf.Ren := ⟨fun | 29 => 201 | n => n, fun | 22 => 240 | 3 => 3 | 4 => 4 | 25 => 193 | 54 => 316 | 0 => 0 | 5 => 5 | n => n, fun | 1 => 1 | n => n⟩
theorem layTz : Go.Proofs.Lays7.n29 Tryz.prog layTz_ren := {
 mixed := by kernel_rfl
 f29 := Tryz.func201.trans (congrArg some (by kernel_rfl))
 t0 := Tryz.underlying0
 a0 := Tryz.isAgg0
 z0 := Tryz.sizeOf0
 v0 := Tryz.zeroValue0
 i0 := by kernel_rfl
 t3 := Tryz.underlying3
 a3 := Tryz.isAgg3
 z3 := Tryz.sizeOf3
 v3 := Tryz.zeroValue3
 i3 := by kernel_rfl
 t4 := Tryz.underlying4
 a4 := Tryz.isAgg4
 z4 := Tryz.sizeOf4
 v4 := Tryz.zeroValue4
 i4 := by kernel_rfl
 t5 := Tryz.underlying5
 a5 := Tryz.isAgg5
 z5 := Tryz.sizeOf5
 v5 := Tryz.zeroValue5
 i5 := by kernel_rfl
 t22 := Tryz.underlying240
 a22 := Tryz.isAgg240
 z22 := Tryz.sizeOf240
 v22 := Tryz.zeroValue240
 i22 := by kernel_rfl
 t25 := Tryz.underlying193
 a25 := Tryz.isAgg193
 z25 := Tryz.sizeOf193
 v25 := Tryz.zeroValue193
 i25 := by kernel_rfl
 t54 := Tryz.underlying316
 a54 := Tryz.isAgg316
 z54 := Tryz.sizeOf316
 g1 := by kernel_rfl }
end Go.Proofs.YtllimhgfbijbnaaGreatDoor
