/- Parts of the proof; conditions: as each theorem says. -/
import Derived.Shelf.Small.Wraps
import Derived.Test.YtkckcbhnnllkhaaGreatDoorProg
import Derived.Shelf.Strings.Prefix
set_option linter.unusedVariables false
set_option linter.unusedSimpArgs false
namespace Go.Proofs.YtkckcbhnnllkhaaGreatDoor
open Go.Shelf
def layCutP_ren:Go.Shelf.Ren:=⟨fun | 103=>87 | 210=>124 | 206=>91 | n=>n,fun | 9=>9 | 4=>4 | 24=>185 | 3=>3 | n=>n,fun | n=>n⟩
theorem layCutP:Go.Proofs.Lays.n103 Tryz.prog layCutP_ren:={
 mixed:=by kernel_rfl
 f103:=Tryz.func87.trans (congrArg some (by kernel_rfl))
 f206:=Tryz.func91.trans (congrArg some (by kernel_rfl))
 f210:=Tryz.func124.trans (congrArg some (by kernel_rfl))
 t3:=Tryz.underlying3
 a3:=Tryz.isAgg3
 z3:=Tryz.sizeOf3
 v3:=Tryz.zeroValue3
 t4:=Tryz.underlying4
 a4:=Tryz.isAgg4
 z4:=Tryz.sizeOf4
 v4:=Tryz.zeroValue4
 t9:=Tryz.underlying9
 a9:=Tryz.isAgg9
 z9:=Tryz.sizeOf9
 v9:=Tryz.zeroValue9
 t24:=Tryz.underlying185
 a24:=Tryz.isAgg185
 z24:=Tryz.sizeOf185
 v24:=Tryz.zeroValue185 }
def layHasP_ren:Go.Shelf.Ren:=⟨fun | 99=>53 | 206=>91 | n=>n,fun | 9=>9 | 4=>4 | 3=>3 | n=>n,fun | n=>n⟩
theorem layHasP:Go.Proofs.Lays.n99 Tryz.prog layHasP_ren:={
 mixed:=by kernel_rfl
 f99:=Tryz.func53.trans (congrArg some (by kernel_rfl))
 f206:=Tryz.func91.trans (congrArg some (by kernel_rfl))
 t3:=Tryz.underlying3
 a3:=Tryz.isAgg3
 z3:=Tryz.sizeOf3
 v3:=Tryz.zeroValue3
 t4:=Tryz.underlying4
 a4:=Tryz.isAgg4
 z4:=Tryz.sizeOf4
 v4:=Tryz.zeroValue4
 t9:=Tryz.underlying9
 a9:=Tryz.isAgg9
 z9:=Tryz.sizeOf9
 v9:=Tryz.zeroValue9 }
end Go.Proofs.YtkckcbhnnllkhaaGreatDoor
