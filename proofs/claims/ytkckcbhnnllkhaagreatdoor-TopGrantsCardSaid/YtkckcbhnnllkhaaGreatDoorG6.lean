/- Parts of the proof; conditions: as each theorem says. -/
import Derived.Shelf.Spec.TrailingZeros
import Derived.Test.YtkckcbhnnllkhaaGreatDoorProg
set_option linter.unusedVariables false
set_option linter.unusedSimpArgs false
namespace Go.Proofs.YtkckcbhnnllkhaaGreatDoor
open Go.Shelf
def layTzz_ren:Go.Shelf.Ren:=⟨fun | 27=>190 | 28=>200 | 29=>201 | n=>n,fun | 25=>156 | 3=>3 | 27=>201 | 22=>203 | 4=>4 | 53=>315 | 0=>0 | 5=>5 | 54=>316 | n=>n,fun | 0=>6 | 1=>7 | n=>n⟩
theorem layTzz:Go.Proofs.Lays7.n27 Tryz.prog layTzz_ren:={
 mixed:=by kernel_rfl
 f27:=Tryz.func190.trans (congrArg some (by kernel_rfl))
 f28:=Tryz.func200.trans (congrArg some (by kernel_rfl))
 f29:=Tryz.func201.trans (congrArg some (by kernel_rfl))
 t0:=Tryz.underlying0
 a0:=Tryz.isAgg0
 z0:=Tryz.sizeOf0
 v0:=Tryz.zeroValue0
 i0:=by kernel_rfl
 t3:=Tryz.underlying3
 a3:=Tryz.isAgg3
 z3:=Tryz.sizeOf3
 v3:=Tryz.zeroValue3
 i3:=by kernel_rfl
 t4:=Tryz.underlying4
 a4:=Tryz.isAgg4
 z4:=Tryz.sizeOf4
 v4:=Tryz.zeroValue4
 i4:=by kernel_rfl
 t5:=Tryz.underlying5
 a5:=Tryz.isAgg5
 z5:=Tryz.sizeOf5
 v5:=Tryz.zeroValue5
 i5:=by kernel_rfl
 t22:=Tryz.underlying203
 a22:=Tryz.isAgg203
 z22:=Tryz.sizeOf203
 v22:=Tryz.zeroValue203
 i22:=by kernel_rfl
 t25:=Tryz.underlying156
 a25:=Tryz.isAgg156
 z25:=Tryz.sizeOf156
 v25:=Tryz.zeroValue156
 i25:=by kernel_rfl
 t27:=Tryz.underlying201
 a27:=Tryz.isAgg201
 z27:=Tryz.sizeOf201
 v27:=Tryz.zeroValue201
 i27:=by kernel_rfl
 t53:=Tryz.underlying315
 a53:=Tryz.isAgg315
 z53:=Tryz.sizeOf315
 v53:=Tryz.zeroValue315
 i53:=by kernel_rfl
 t54:=Tryz.underlying316
 a54:=Tryz.isAgg316
 z54:=Tryz.sizeOf316
 g0:=by kernel_rfl
 g1:=by kernel_rfl }
def layTz_ren:Go.Shelf.Ren:=⟨fun | 29=>201 | n=>n,fun | 22=>203 | 3=>3 | 4=>4 | 25=>156 | 54=>316 | 0=>0 | 5=>5 | n=>n,fun | 1=>7 | n=>n⟩
theorem layTz:Go.Proofs.Lays7.n29 Tryz.prog layTz_ren:={
 mixed:=by kernel_rfl
 f29:=Tryz.func201.trans (congrArg some (by kernel_rfl))
 t0:=Tryz.underlying0
 a0:=Tryz.isAgg0
 z0:=Tryz.sizeOf0
 v0:=Tryz.zeroValue0
 i0:=by kernel_rfl
 t3:=Tryz.underlying3
 a3:=Tryz.isAgg3
 z3:=Tryz.sizeOf3
 v3:=Tryz.zeroValue3
 i3:=by kernel_rfl
 t4:=Tryz.underlying4
 a4:=Tryz.isAgg4
 z4:=Tryz.sizeOf4
 v4:=Tryz.zeroValue4
 i4:=by kernel_rfl
 t5:=Tryz.underlying5
 a5:=Tryz.isAgg5
 z5:=Tryz.sizeOf5
 v5:=Tryz.zeroValue5
 i5:=by kernel_rfl
 t22:=Tryz.underlying203
 a22:=Tryz.isAgg203
 z22:=Tryz.sizeOf203
 v22:=Tryz.zeroValue203
 i22:=by kernel_rfl
 t25:=Tryz.underlying156
 a25:=Tryz.isAgg156
 z25:=Tryz.sizeOf156
 v25:=Tryz.zeroValue156
 i25:=by kernel_rfl
 t54:=Tryz.underlying316
 a54:=Tryz.isAgg316
 z54:=Tryz.sizeOf316
 g1:=by kernel_rfl }
end Go.Proofs.YtkckcbhnnllkhaaGreatDoor
