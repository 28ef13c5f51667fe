/- Parts of the proof; conditions: as each theorem says. -/
import Derived.Shelf.Spec.TrailingZeros
import Derived.Test.YthleniobcbdepaaGreatDoorProg
set_option linter.unusedVariables false
set_option linter.unusedSimpArgs false
namespace Go.Proofs.YthleniobcbdepaaGreatDoor
open Go.Shelf
def layTzz_ren : Go.Shelf.Ren := ⟨fun | 27 => 211 | 28 => 221 | 29 => 222 | n => n, fun | 25 => 158 | 3 => 3 | 27 => 220 | 22 => 222 | 4 => 4 | 53 => 336 | 0 => 0 | 5 => 5 | 54 => 337 | n => n, fun | 0 => 7 | 1 => 8 | n => n⟩
theorem layTzz : Go.Proofs.Lays7.n27 Tryz.prog layTzz_ren := {
 mixed := by kernel_rfl
 f27 := Tryz.func211.trans (congrArg some (by kernel_rfl))
 f28 := Tryz.func221.trans (congrArg some (by kernel_rfl))
 f29 := Tryz.func222.trans (congrArg some (by kernel_rfl))
 t0 := Tryz.underlying0
 a0 := Tryz.isAgg0
 z0 := Tryz.sizeOf0
 v0 := Tryz.zeroValue0
 i0 := by kernel_rfl
 t3 := Tryz.underlying3
 a3 := Tryz.isAgg3
 z3 := Tryz.sizeOf3
 v3 := Tryz.zeroValue3
 i3 := by kernel_rfl
 t4 := Tryz.underlying4
 a4 := Tryz.isAgg4
 z4 := Tryz.sizeOf4
 v4 := Tryz.zeroValue4
 i4 := by kernel_rfl
 t5 := Tryz.underlying5
 a5 := Tryz.isAgg5
 z5 := Tryz.sizeOf5
 v5 := Tryz.zeroValue5
 i5 := by kernel_rfl
 t22 := Tryz.underlying222
 a22 := Tryz.isAgg222
 z22 := Tryz.sizeOf222
 v22 := Tryz.zeroValue222
 i22 := by kernel_rfl
 t25 := Tryz.underlying158
 a25 := Tryz.isAgg158
 z25 := Tryz.sizeOf158
 v25 := Tryz.zeroValue158
 i25 := by kernel_rfl
 t27 := Tryz.underlying220
 a27 := Tryz.isAgg220
 z27 := Tryz.sizeOf220
 v27 := Tryz.zeroValue220
 i27 := by kernel_rfl
 t53 := Tryz.underlying336
 a53 := Tryz.isAgg336
 z53 := Tryz.sizeOf336
 v53 := Tryz.zeroValue336
 i53 := by kernel_rfl
 t54 := Tryz.underlying337
 a54 := Tryz.isAgg337
 z54 := Tryz.sizeOf337
 g0 := by kernel_rfl
 g1 := by kernel_rfl }
def layTz_ren : Go.Shelf.Ren := ⟨fun | 29 => 222 | n => n, fun | 22 => 222 | 3 => 3 | 4 => 4 | 25 => 158 | 54 => 337 | 0 => 0 | 5 => 5 | n => n, fun | 1 => 8 | n => n⟩
theorem layTz : Go.Proofs.Lays7.n29 Tryz.prog layTz_ren := {
 mixed := by kernel_rfl
 f29 := Tryz.func222.trans (congrArg some (by kernel_rfl))
 t0 := Tryz.underlying0
 a0 := Tryz.isAgg0
 z0 := Tryz.sizeOf0
 v0 := Tryz.zeroValue0
 i0 := by kernel_rfl
 t3 := Tryz.underlying3
 a3 := Tryz.isAgg3
 z3 := Tryz.sizeOf3
 v3 := Tryz.zeroValue3
 i3 := by kernel_rfl
 t4 := Tryz.underlying4
 a4 := Tryz.isAgg4
 z4 := Tryz.sizeOf4
 v4 := Tryz.zeroValue4
 i4 := by kernel_rfl
 t5 := Tryz.underlying5
 a5 := Tryz.isAgg5
 z5 := Tryz.sizeOf5
 v5 := Tryz.zeroValue5
 i5 := by kernel_rfl
 t22 := Tryz.underlying222
 a22 := Tryz.isAgg222
 z22 := Tryz.sizeOf222
 v22 := Tryz.zeroValue222
 i22 := by kernel_rfl
 t25 := Tryz.underlying158
 a25 := Tryz.isAgg158
 z25 := Tryz.sizeOf158
 v25 := Tryz.zeroValue158
 i25 := by kernel_rfl
 t54 := Tryz.underlying337
 a54 := Tryz.isAgg337
 z54 := Tryz.sizeOf337
 g1 := by kernel_rfl }
end Go.Proofs.YthleniobcbdepaaGreatDoor
