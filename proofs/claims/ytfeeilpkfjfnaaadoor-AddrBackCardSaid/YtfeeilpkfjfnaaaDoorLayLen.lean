/- Lays.n125 at this dump, in plain words (written by lay-plain.mjs). -/
import Derived.Shelf.Small.Bits
import Derived.Test.YtfeeilpkfjfnaaaDoorProg
namespace Go.Proofs.YtfeeilpkfjfnaaaDoor
open Go.Shelf
def layLen_ren : Go.Shelf.Ren := ⟨fun | 125 => 22 | 128 => 28 | 129 => 29 | n => n, fun | 46 => 47 | 3 => 3 | 51 => 60 | 53 => 62 | 4 => 4 | 5 => 5 | 9 => 9 | n => n, fun | n => n⟩
theorem layLen : Go.Proofs.Lays.n125 Tryd.prog layLen_ren := {
  mixed := by kernel_rfl
  f125 := Tryd.func22.trans (congrArg some (by kernel_rfl))
  f128 := Tryd.func28.trans (congrArg some (by kernel_rfl))
  f129 := Tryd.func29.trans (congrArg some (by kernel_rfl))
  t3 := Tryd.underlying3
  a3 := Tryd.isAgg3
  z3 := Tryd.sizeOf3
  v3 := Tryd.zeroValue3
  t4 := Tryd.underlying4
  a4 := Tryd.isAgg4
  z4 := Tryd.sizeOf4
  v4 := Tryd.zeroValue4
  t5 := Tryd.underlying5
  a5 := Tryd.isAgg5
  z5 := Tryd.sizeOf5
  v5 := Tryd.zeroValue5
  t9 := Tryd.underlying9
  a9 := Tryd.isAgg9
  z9 := Tryd.sizeOf9
  v9 := Tryd.zeroValue9
  t46 := Tryd.underlying47
  a46 := Tryd.isAgg47
  z46 := Tryd.sizeOf47
  v46 := Tryd.zeroValue47
  t51 := Tryd.underlying60
  a51 := Tryd.isAgg60
  z51 := Tryd.sizeOf60
  v51 := Tryd.zeroValue60
  t53 := Tryd.underlying62
  a53 := Tryd.isAgg62
  z53 := Tryd.sizeOf62
  v53 := Tryd.zeroValue62 }
end Go.Proofs.YtfeeilpkfjfnaaaDoor
