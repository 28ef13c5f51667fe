/- Contract of (*Log).Safe. No conditions. -/
import Derived.Test.YtdcjogofjniogaaDoorLog2
namespace Go.Proofs.YtdcjogofjniogaaDoor
set_option linter.unusedVariables false
set_option linter.unusedSimpArgs false
open Go.RowKit

section
variable {w : World} {b0 g : Nat} {v : Value} {left room : Int} {down : Bool} {B : List UInt8} {safe : Nat}
theorem LogAt.safe_ok (h : LogAt w b0 g v left down room B safe) :
    Calls Tryd.prog 14 #[.pointer (some ⟨g, 0, none⟩)] w fun e w' => e = .returned (.int .i64 safe) ∧ w' = w := by
  obtain ⟨⟨x0, x1, x2, x3, x4⟩, z0, z1, z3, z4⟩ := h.cells
  go_enter Tryd.func14, Tryd.ntmps14
  go_wp2
  go_ret
  exact ⟨rfl, rfl⟩
end
end Go.Proofs.YtdcjogofjniogaaDoor
