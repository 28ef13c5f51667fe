/- Texts joined: XKeyLaid. Each says at its head what it proves; conditions: as said there. -/
import Derived.Test.YthleniobcbdepaaGreatDoorRows
import Derived.Test.YthleniobcbdepaaGreatDoorC31
import Derived.Lib.LaidTab
import Derived.LaidLaws
/- What a row's list of variables gives of the keys' functions: the table math/bits.deBruijn64tab (KeyV). No conditions. -/
namespace Go.Proofs.YthleniobcbdepaaGreatDoor
set_option linter.unusedVariables false
set_option linter.unusedSimpArgs false
open Go.RowKit

def tabK64 : List Int := [0, 1, 56, 2, 57, 49, 28, 3, 61, 58, 42, 50, 38, 29, 17, 4, 62, 47, 59, 36, 45, 43, 51, 22, 53, 39, 33, 30, 24, 18, 12, 5, 63, 55, 48, 27, 60, 41, 37, 16, 46, 35, 44, 21, 52, 32, 23, 11, 54, 26, 40, 15, 34, 20, 31, 10, 25, 14, 19, 9, 13, 8, 7, 6]
theorem tabK64_global : Tryz.prog.globalNamed "math/bits.deBruijn64tab" = some 8 := by kernel_rfl
theorem tzV_of {W : World} {r : List (String × DataW Unit)} (h : laidMet Tryz.prog (("math/bits.deBruijn64tab", Rows.laid_math_bits_deBruijn64tab) :: r) W) : TzV W := by
  have h' : laidMet Tryz.prog (("math/bits.deBruijn64tab", Lib.tabData .u8 tabK64) :: r) W := h
  have ht := Lib.tabIs_of_head tabK64_global (t := 337) (e := 5) (n := 64) (by kernel_rfl) (by kernel_rfl) (by kernel_rfl) (by kernel_rfl) (by kernel_rfl) h'
  intro j hj
  have := Lib.TabIs.cell ht tabK64_global j (by simpa [tabK64, Lib.deBruijn64tab] using hj)
  rw [this]
  have key : ∀ j, j < 64 → tabK64.getD j 0 = ((Lib.deBruijn64tab.getD j 0 : Nat) : Int) := by decide
  rw [key j (by simpa [Lib.deBruijn64tab] using hj)]
theorem keyV_of {W : World} {r : List (String × DataW Unit)} (h : laidMet Tryz.prog (("math/bits.deBruijn64tab", Rows.laid_math_bits_deBruijn64tab) :: r) W) : KeyV W.heap.size W := by
  have hz := tzV_of h
  have hlt : 8 < W.heap.size := World.block_lt_of_cell? W ⟨8, 0, none⟩ (hz 0 (by decide))
  exact fun w' hb j hj => (hb.cell (p := ⟨8, j, none⟩) hlt).trans (hz j hj)
end Go.Proofs.YthleniobcbdepaaGreatDoor
