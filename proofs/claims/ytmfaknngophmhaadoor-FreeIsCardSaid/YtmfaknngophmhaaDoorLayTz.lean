/- Lays7.n29 at this dump, in plain words (written by lay-plain.mjs). -/
import Derived.Shelf.Spec.TrailingZeros
import Derived.Test.YtmfaknngophmhaaDoorProg
namespace Go.Proofs.YtmfaknngophmhaaDoor
open Go.Shelf
def layTz_ren : Go.Shelf.Ren := ⟨fun | 29 => 82 | n => n, fun | 22 => 117 | 3 => 3 | 4 => 4 | 25 => 102 | 54 => 138 | 0 => 0 | 5 => 5 | n => n, fun | 1 => 1 | n => n⟩
theorem layTz : Go.Proofs.Lays7.n29 Tryd.prog layTz_ren := {
  mixed := by kernel_rfl
  f29 := Tryd.func82.trans (congrArg some (by kernel_rfl))
  t0 := Tryd.underlying0
  a0 := Tryd.isAgg0
  z0 := Tryd.sizeOf0
  v0 := Tryd.zeroValue0
  i0 := by kernel_rfl
  t3 := Tryd.underlying3
  a3 := Tryd.isAgg3
  z3 := Tryd.sizeOf3
  v3 := Tryd.zeroValue3
  i3 := by kernel_rfl
  t4 := Tryd.underlying4
  a4 := Tryd.isAgg4
  z4 := Tryd.sizeOf4
  v4 := Tryd.zeroValue4
  i4 := by kernel_rfl
  t5 := Tryd.underlying5
  a5 := Tryd.isAgg5
  z5 := Tryd.sizeOf5
  v5 := Tryd.zeroValue5
  i5 := by kernel_rfl
  t22 := Tryd.underlying117
  a22 := Tryd.isAgg117
  z22 := Tryd.sizeOf117
  v22 := Tryd.zeroValue117
  i22 := by kernel_rfl
  t25 := Tryd.underlying102
  a25 := Tryd.isAgg102
  z25 := Tryd.sizeOf102
  v25 := Tryd.zeroValue102
  i25 := by kernel_rfl
  t54 := Tryd.underlying138
  a54 := Tryd.isAgg138
  z54 := Tryd.sizeOf138
  g1 := by kernel_rfl }
end Go.Proofs.YtmfaknngophmhaaDoor
