/- Parts of the proof; conditions: as each theorem says. -/
import Derived.Test.YtkckcbhnnllkhaaGreatDoorK37
import Derived.Test.YtkckcbhnnllkhaaGreatDoorK44
import Derived.Test.YtkckcbhnnllkhaaGreatDoorK14
set_option linter.unusedVariables false
set_option linter.unusedSimpArgs false
namespace Go.Proofs.YtkckcbhnnllkhaaGreatDoor
open Go.RowKit
def ownE (p : KV) : Int := if (keyI p.1).kind ≠ 0 ∧ nameB p.2 = true then 0 else 5
end Go.Proofs.YtkckcbhnnllkhaaGreatDoor
