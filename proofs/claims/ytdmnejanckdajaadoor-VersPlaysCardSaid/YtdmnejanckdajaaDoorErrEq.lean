/- S.Error at an error of package vers and its own number. Condition: errors.errorType is laid. -/
import Derived.Test.YtdmnejanckdajaaDoorErrLaw
import Derived.Test.YtdmnejanckdajaaDoorVers2
namespace Go.Proofs.YtdmnejanckdajaaDoor
set_option linter.unusedVariables false
set_option linter.unusedSimpArgs false
open Go.RowKit
theorem error_eq (k : Int) (w : World) (hg : ErrVar w) :
    Calls Tryd.prog 8 #[faultV k, .int .i64 k] w fun e w' => e = .returned (.bool true) ∧ Below w.heap.size w w' :=
  (error_any k k w hg).mono fun e w' h => ⟨by rw [h.1]; simp, h.2⟩
end Go.Proofs.YtdmnejanckdajaaDoor
