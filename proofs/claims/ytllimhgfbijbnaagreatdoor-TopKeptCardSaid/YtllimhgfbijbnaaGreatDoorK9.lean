/- Parts of the proof; conditions: as each theorem says. -/
import Derived.Shelf.Small.Wraps
import Derived.Test.YtllimhgfbijbnaaGreatDoorProg
import Derived.Shelf.Strings.Prefix
set_option linter.unusedVariables false
set_option linter.unusedSimpArgs false
namespace Go.Proofs.YtllimhgfbijbnaaGreatDoor
open Go.Shelf
def layCutP_ren : Go.Shelf.Ren := ⟨fun | 103 => 132 | 210 => 169 | 206 => 136 | n => n, fun | 9 => 9 | 4 => 4 | 24 => 222 | 3 => 3 | n => n, fun | n => n⟩
theorem layCutP : Go.Proofs.Lays.n103 Tryz.prog layCutP_ren := {
 mixed := by kernel_rfl
 f103 := Tryz.func132.trans (congrArg some (by kernel_rfl))
 f206 := Tryz.func136.trans (congrArg some (by kernel_rfl))
 f210 := Tryz.func169.trans (congrArg some (by kernel_rfl))
 t3 := Tryz.underlying3
 a3 := Tryz.isAgg3
 z3 := Tryz.sizeOf3
 v3 := Tryz.zeroValue3
 t4 := Tryz.underlying4
 a4 := Tryz.isAgg4
 z4 := Tryz.sizeOf4
 v4 := Tryz.zeroValue4
 t9 := Tryz.underlying9
 a9 := Tryz.isAgg9
 z9 := Tryz.sizeOf9
 v9 := Tryz.zeroValue9
 t24 := Tryz.underlying222
 a24 := Tryz.isAgg222
 z24 := Tryz.sizeOf222
 v24 := Tryz.zeroValue222 }
def layHasP_ren : Go.Shelf.Ren := ⟨fun | 99 => 90 | 206 => 136 | n => n, fun | 9 => 9 | 4 => 4 | 3 => 3 | n => n, fun | n => n⟩
theorem layHasP : Go.Proofs.Lays.n99 Tryz.prog layHasP_ren := {
 mixed := by kernel_rfl
 f99 := Tryz.func90.trans (congrArg some (by kernel_rfl))
 f206 := Tryz.func136.trans (congrArg some (by kernel_rfl))
 t3 := Tryz.underlying3
 a3 := Tryz.isAgg3
 z3 := Tryz.sizeOf3
 v3 := Tryz.zeroValue3
 t4 := Tryz.underlying4
 a4 := Tryz.isAgg4
 z4 := Tryz.sizeOf4
 v4 := Tryz.zeroValue4
 t9 := Tryz.underlying9
 a9 := Tryz.isAgg9
 z9 := Tryz.sizeOf9
 v9 := Tryz.zeroValue9 }
end Go.Proofs.YtllimhgfbijbnaaGreatDoor
