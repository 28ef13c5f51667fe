/- Lays7.n29 at this dump, in plain words (written by lay-plain.mjs). -/
import Derived.Shelf.Spec.TrailingZeros
import Derived.Test.YtobmndjdlmeipaaDoorProg
namespace Go.Proofs.YtobmndjdlmeipaaDoor
open Go.Shelf
def layTz_ren : Go.Shelf.Ren := ⟨fun | 29 => 71 | n => n, fun | 22 => 102 | 3 => 3 | 4 => 4 | 25 => 104 | 54 => 119 | 0 => 0 | 5 => 5 | n => n, fun | 1 => 1 | n => n⟩
theorem layTz : Go.Proofs.Lays7.n29 Tryd.prog layTz_ren := {
  mixed := by kernel_rfl
  f29 := Tryd.func71.trans (congrArg some (by kernel_rfl))
  t0 := Tryd.underlying0
  a0 := Tryd.isAgg0
  z0 := Tryd.sizeOf0
  v0 := Tryd.zeroValue0
  i0 := by kernel_rfl
  t3 := Tryd.underlying3
  a3 := Tryd.isAgg3
  z3 := Tryd.sizeOf3
  v3 := Tryd.zeroValue3
  i3 := by kernel_rfl
  t4 := Tryd.underlying4
  a4 := Tryd.isAgg4
  z4 := Tryd.sizeOf4
  v4 := Tryd.zeroValue4
  i4 := by kernel_rfl
  t5 := Tryd.underlying5
  a5 := Tryd.isAgg5
  z5 := Tryd.sizeOf5
  v5 := Tryd.zeroValue5
  i5 := by kernel_rfl
  t22 := Tryd.underlying102
  a22 := Tryd.isAgg102
  z22 := Tryd.sizeOf102
  v22 := Tryd.zeroValue102
  i22 := by kernel_rfl
  t25 := Tryd.underlying104
  a25 := Tryd.isAgg104
  z25 := Tryd.sizeOf104
  v25 := Tryd.zeroValue104
  i25 := by kernel_rfl
  t54 := Tryd.underlying119
  a54 := Tryd.isAgg119
  z54 := Tryd.sizeOf119
  g1 := by kernel_rfl }
end Go.Proofs.YtobmndjdlmeipaaDoor
