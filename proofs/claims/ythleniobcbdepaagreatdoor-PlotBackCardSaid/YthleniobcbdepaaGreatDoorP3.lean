/- Parts of the proof; conditions: as each theorem says. -/
import Derived.Shelf.Strings.SplitShaped
import Derived.Test.YthleniobcbdepaaGreatDoorProg
set_option linter.unusedVariables false
set_option linter.unusedSimpArgs false
namespace Go.Proofs.YthleniobcbdepaaGreatDoor
open Go.Shelf
def laySplit_ren : Go.Shelf.Ren := ⟨fun | 146 => 140 | 221 => 165 | 268 => 182 | 138 => 183 | 143 => 184 | 195 => 200 | 197 => 201 | 218 => 202 | 219 => 142 | 260 => 216 | 217 => 167 | 225 => 168 | 224 => 169 | 267 => 170 | 266 => 187 | 314 => 188 | n => n, fun | 9 => 9 | 31 => 52 | 3 => 3 | 4 => 4 | 0 => 0 | 105 => 308 | 21 => 21 | 5 => 5 | 46 => 158 | 119 => 329 | 139 => 332 | 138 => 331 | 146 => 226 | 51 => 220 | n => n, fun | 1 => 1 | 3 => 5 | 4 => 6 | n => n⟩
theorem laySplit : Go.Proofs.LaysM.n146 Tryz.prog laySplit_ren := {
 mixed := by kernel_rfl
 f138 := Tryz.func183.trans (congrArg some (by kernel_rfl))
 f143 := Tryz.func184.trans (congrArg some (by kernel_rfl))
 f146 := Tryz.func140.trans (congrArg some (by kernel_rfl))
 f195 := Tryz.func200.trans (congrArg some (by kernel_rfl))
 f197 := Tryz.func201.trans (congrArg some (by kernel_rfl))
 f217 := Tryz.func167.trans (congrArg some (by kernel_rfl))
 f218 := Tryz.func202.trans (congrArg some (by kernel_rfl))
 f219 := Tryz.func142.trans (congrArg some (by kernel_rfl))
 f221 := Tryz.func165.trans (congrArg some (by kernel_rfl))
 f224 := Tryz.func169.trans (congrArg some (by kernel_rfl))
 f225 := Tryz.func168.trans (congrArg some (by kernel_rfl))
 f260 := Tryz.func216.trans (congrArg some (by kernel_rfl))
 f266 := Tryz.func187.trans (congrArg some (by kernel_rfl))
 f267 := Tryz.func170.trans (congrArg some (by kernel_rfl))
 f268 := Tryz.func182.trans (congrArg some (by kernel_rfl))
 f314 := Tryz.func188.trans (congrArg some (by kernel_rfl))
 t0 := Tryz.underlying0
 a0 := Tryz.isAgg0
 z0 := Tryz.sizeOf0
 v0 := Tryz.zeroValue0
 t3 := Tryz.underlying3
 a3 := Tryz.isAgg3
 z3 := Tryz.sizeOf3
 v3 := Tryz.zeroValue3
 t4 := Tryz.underlying4
 a4 := Tryz.isAgg4
 z4 := Tryz.sizeOf4
 v4 := Tryz.zeroValue4
 t5 := Tryz.underlying5
 a5 := Tryz.isAgg5
 z5 := Tryz.sizeOf5
 v5 := Tryz.zeroValue5
 t9 := Tryz.underlying9
 a9 := Tryz.isAgg9
 z9 := Tryz.sizeOf9
 v9 := Tryz.zeroValue9
 t21 := Tryz.underlying21
 a21 := Tryz.isAgg21
 z21 := Tryz.sizeOf21
 v21 := Tryz.zeroValue21
 t31 := Tryz.underlying52
 a31 := Tryz.isAgg52
 z31 := Tryz.sizeOf52
 v31 := Tryz.zeroValue52
 t46 := Tryz.underlying158
 a46 := Tryz.isAgg158
 z46 := Tryz.sizeOf158
 v46 := Tryz.zeroValue158
 t51 := Tryz.underlying220
 a51 := Tryz.isAgg220
 z51 := Tryz.sizeOf220
 v51 := Tryz.zeroValue220
 t105 := Tryz.underlying308
 a105 := Tryz.isAgg308
 z105 := Tryz.sizeOf308
 v105 := Tryz.zeroValue308
 t119 := Tryz.underlying329
 a119 := Tryz.isAgg329
 z119 := Tryz.sizeOf329
 t138 := Tryz.underlying331
 a138 := Tryz.isAgg331
 z138 := Tryz.sizeOf331
 v138 := Tryz.zeroValue331
 t139 := Tryz.underlying332
 a139 := Tryz.isAgg332
 z139 := Tryz.sizeOf332
 v139 := Tryz.zeroValue332
 t146 := Tryz.underlying226
 a146 := Tryz.isAgg226
 z146 := Tryz.sizeOf226
 v146 := Tryz.zeroValue226
 g1 := by kernel_rfl
 g3 := by kernel_rfl
 g4 := by kernel_rfl
 i0 := by kernel_rfl
 i3 := by kernel_rfl
 i4 := by kernel_rfl
 i5 := by kernel_rfl
 i9 := by kernel_rfl
 i21 := by kernel_rfl
 i31 := by kernel_rfl
 i46 := by kernel_rfl
 i51 := by kernel_rfl
 i105 := by kernel_rfl
 i138 := by kernel_rfl
 i139 := by kernel_rfl
 i146 := by kernel_rfl
 m1 := by kernel_rfl
 s1_3 := fun w h => Go.Proofs.cell_of_shapedOpen_int (zero := #[.int .i64 0]) (t := 3) h (of_decide_eq_true (by kernel_rfl)) (by kernel_rfl) rfl (by kernel_rfl) (by kernel_rfl) Tryz.underlying3
 m3 := by kernel_rfl
 m4 := by kernel_rfl }
end Go.Proofs.YthleniobcbdepaaGreatDoor
