/- Parts of the proof; conditions: as each theorem says. -/
import Derived.Shelf.Strings.SplitShaped
import Derived.Test.YtllimhgfbijbnaaGreatDoorProg
set_option linter.unusedVariables false
set_option linter.unusedSimpArgs false
namespace Go.Proofs.YtllimhgfbijbnaaGreatDoor
open Go.Shelf
def laySplit_ren : Go.Shelf.Ren := ⟨fun | 146 => 170 | 221 => 202 | 268 => 218 | 138 => 219 | 143 => 220 | 195 => 234 | 197 => 235 | 218 => 236 | 219 => 172 | 260 => 246 | 217 => 204 | 225 => 205 | 224 => 206 | 267 => 207 | 266 => 223 | 314 => 224 | n => n, fun | 9 => 9 | 31 => 267 | 3 => 3 | 4 => 4 | 0 => 0 | 105 => 332 | 21 => 21 | 5 => 5 | 46 => 193 | 119 => 346 | 139 => 349 | 138 => 348 | 146 => 258 | 51 => 238 | n => n, fun | 1 => 0 | 3 => 5 | 4 => 6 | n => n⟩
theorem laySplit : Go.Proofs.LaysM.n146 Tryz.prog laySplit_ren := {
 mixed := by kernel_rfl
 f138 := Tryz.func219.trans (congrArg some (by kernel_rfl))
 f143 := Tryz.func220.trans (congrArg some (by kernel_rfl))
 f146 := Tryz.func170.trans (congrArg some (by kernel_rfl))
 f195 := Tryz.func234.trans (congrArg some (by kernel_rfl))
 f197 := Tryz.func235.trans (congrArg some (by kernel_rfl))
 f217 := Tryz.func204.trans (congrArg some (by kernel_rfl))
 f218 := Tryz.func236.trans (congrArg some (by kernel_rfl))
 f219 := Tryz.func172.trans (congrArg some (by kernel_rfl))
 f221 := Tryz.func202.trans (congrArg some (by kernel_rfl))
 f224 := Tryz.func206.trans (congrArg some (by kernel_rfl))
 f225 := Tryz.func205.trans (congrArg some (by kernel_rfl))
 f260 := Tryz.func246.trans (congrArg some (by kernel_rfl))
 f266 := Tryz.func223.trans (congrArg some (by kernel_rfl))
 f267 := Tryz.func207.trans (congrArg some (by kernel_rfl))
 f268 := Tryz.func218.trans (congrArg some (by kernel_rfl))
 f314 := Tryz.func224.trans (congrArg some (by kernel_rfl))
 t0 := Tryz.underlying0
 a0 := Tryz.isAgg0
 z0 := Tryz.sizeOf0
 v0 := Tryz.zeroValue0
 t3 := Tryz.underlying3
 a3 := Tryz.isAgg3
 z3 := Tryz.sizeOf3
 v3 := Tryz.zeroValue3
 t4 := Tryz.underlying4
 a4 := Tryz.isAgg4
 z4 := Tryz.sizeOf4
 v4 := Tryz.zeroValue4
 t5 := Tryz.underlying5
 a5 := Tryz.isAgg5
 z5 := Tryz.sizeOf5
 v5 := Tryz.zeroValue5
 t9 := Tryz.underlying9
 a9 := Tryz.isAgg9
 z9 := Tryz.sizeOf9
 v9 := Tryz.zeroValue9
 t21 := Tryz.underlying21
 a21 := Tryz.isAgg21
 z21 := Tryz.sizeOf21
 v21 := Tryz.zeroValue21
 t31 := Tryz.underlying267
 a31 := Tryz.isAgg267
 z31 := Tryz.sizeOf267
 v31 := Tryz.zeroValue267
 t46 := Tryz.underlying193
 a46 := Tryz.isAgg193
 z46 := Tryz.sizeOf193
 v46 := Tryz.zeroValue193
 t51 := Tryz.underlying238
 a51 := Tryz.isAgg238
 z51 := Tryz.sizeOf238
 v51 := Tryz.zeroValue238
 t105 := Tryz.underlying332
 a105 := Tryz.isAgg332
 z105 := Tryz.sizeOf332
 v105 := Tryz.zeroValue332
 t119 := Tryz.underlying346
 a119 := Tryz.isAgg346
 z119 := Tryz.sizeOf346
 t138 := Tryz.underlying348
 a138 := Tryz.isAgg348
 z138 := Tryz.sizeOf348
 v138 := Tryz.zeroValue348
 t139 := Tryz.underlying349
 a139 := Tryz.isAgg349
 z139 := Tryz.sizeOf349
 v139 := Tryz.zeroValue349
 t146 := Tryz.underlying258
 a146 := Tryz.isAgg258
 z146 := Tryz.sizeOf258
 v146 := Tryz.zeroValue258
 g1 := by kernel_rfl
 g3 := by kernel_rfl
 g4 := by kernel_rfl
 i0 := by kernel_rfl
 i3 := by kernel_rfl
 i4 := by kernel_rfl
 i5 := by kernel_rfl
 i9 := by kernel_rfl
 i21 := by kernel_rfl
 i31 := by kernel_rfl
 i46 := by kernel_rfl
 i51 := by kernel_rfl
 i105 := by kernel_rfl
 i138 := by kernel_rfl
 i139 := by kernel_rfl
 i146 := by kernel_rfl
 m1 := by kernel_rfl
 s1_3 := fun w h => Go.Proofs.cell_of_shapedOpen_int (zero := #[.int .i64 0]) (t := 3) h (of_decide_eq_true (by kernel_rfl)) (by kernel_rfl) rfl (by kernel_rfl) (by kernel_rfl) Tryz.underlying3
 m3 := by kernel_rfl
 m4 := by kernel_rfl }
end Go.Proofs.YtllimhgfbijbnaaGreatDoor
