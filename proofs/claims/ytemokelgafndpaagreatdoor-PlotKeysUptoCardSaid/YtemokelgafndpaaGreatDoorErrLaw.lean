/- Small laws for the walks of laws: S.Error at nil and at a number. Condition: errors.errorType is laid. -/
import Derived.Test.YtemokelgafndpaaGreatDoorErr2
namespace Go.Proofs.YtemokelgafndpaaGreatDoor
set_option linter.unusedVariables false
set_option linter.unusedSimpArgs false
open Go.RowKit

theorem error_nil (n : Int) (w : World) (hg : ErrVar w) :
    Calls Tryz.prog 6 #[.nilIface, .int .i64 n] w fun e w' => e = .returned (.bool (0 == n)) ∧ Below w.heap.size w w' :=
  (error_any 0 n w hg)
theorem error_num (k n : Int) (hk : k ≠ 0) (w : World) (hg : ErrVar w) :
    Calls Tryz.prog 6 #[.iface 24 (.int .i64 k), .int .i64 n] w fun e w' => e = .returned (.bool (k == n)) ∧ Below w.heap.size w w' := by
  have := error_any k n w hg
  unfold errOf at this
  rwa [if_neg hk] at this
theorem error_nil0 (w : World) (hg : ErrVar w) :
    Calls Tryz.prog 6 #[.nilIface, .int .i64 0] w fun e w' => e = .returned (.bool true) ∧ Below w.heap.size w w' :=
  (error_nil 0 w hg).mono fun e w' h => ⟨by rw [h.1]; rfl, h.2⟩
theorem error_same (k : Int) (hk : k ≠ 0) (w : World) (hg : ErrVar w) :
    Calls Tryz.prog 6 #[.iface 24 (.int .i64 k), .int .i64 k] w fun e w' => e = .returned (.bool true) ∧ Below w.heap.size w w' :=
  (error_num k k hk w hg).mono fun e w' h => ⟨by rw [h.1]; simp, h.2⟩
end Go.Proofs.YtemokelgafndpaaGreatDoor
