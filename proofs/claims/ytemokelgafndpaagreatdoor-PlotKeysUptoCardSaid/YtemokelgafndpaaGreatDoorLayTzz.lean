/- Lays7.n27 at this dump, in plain words (written by lay-plain.mjs). -/
import Derived.Shelf.Spec.TrailingZeros
import Derived.Test.YtemokelgafndpaaGreatDoorProg
namespace Go.Proofs.YtemokelgafndpaaGreatDoor
open Go.Shelf
def layTzz_ren : Go.Shelf.Ren := ⟨fun | 27 => 112 | 28 => 117 | 29 => 118 | n => n, fun | 25 => 119 | 3 => 3 | 27 => 164 | 22 => 153 | 4 => 4 | 53 => 189 | 0 => 0 | 5 => 5 | 54 => 190 | n => n, fun | 0 => 7 | 1 => 8 | n => n⟩
theorem layTzz : Go.Proofs.Lays7.n27 Tryz.prog layTzz_ren := {
  mixed := by kernel_rfl
  f27 := Tryz.func112.trans (congrArg some (by kernel_rfl))
  f28 := Tryz.func117.trans (congrArg some (by kernel_rfl))
  f29 := Tryz.func118.trans (congrArg some (by kernel_rfl))
  t0 := Tryz.underlying0
  a0 := Tryz.isAgg0
  z0 := Tryz.sizeOf0
  v0 := Tryz.zeroValue0
  i0 := by kernel_rfl
  t3 := Tryz.underlying3
  a3 := Tryz.isAgg3
  z3 := Tryz.sizeOf3
  v3 := Tryz.zeroValue3
  i3 := by kernel_rfl
  t4 := Tryz.underlying4
  a4 := Tryz.isAgg4
  z4 := Tryz.sizeOf4
  v4 := Tryz.zeroValue4
  i4 := by kernel_rfl
  t5 := Tryz.underlying5
  a5 := Tryz.isAgg5
  z5 := Tryz.sizeOf5
  v5 := Tryz.zeroValue5
  i5 := by kernel_rfl
  t22 := Tryz.underlying153
  a22 := Tryz.isAgg153
  z22 := Tryz.sizeOf153
  v22 := Tryz.zeroValue153
  i22 := by kernel_rfl
  t25 := Tryz.underlying119
  a25 := Tryz.isAgg119
  z25 := Tryz.sizeOf119
  v25 := Tryz.zeroValue119
  i25 := by kernel_rfl
  t27 := Tryz.underlying164
  a27 := Tryz.isAgg164
  z27 := Tryz.sizeOf164
  v27 := Tryz.zeroValue164
  i27 := by kernel_rfl
  t53 := Tryz.underlying189
  a53 := Tryz.isAgg189
  z53 := Tryz.sizeOf189
  v53 := Tryz.zeroValue189
  i53 := by kernel_rfl
  t54 := Tryz.underlying190
  a54 := Tryz.isAgg190
  z54 := Tryz.sizeOf190
  g0 := by kernel_rfl
  g1 := by kernel_rfl }
end Go.Proofs.YtemokelgafndpaaGreatDoor
