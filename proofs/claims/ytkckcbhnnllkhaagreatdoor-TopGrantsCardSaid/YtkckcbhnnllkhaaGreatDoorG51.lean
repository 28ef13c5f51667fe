/- Parts of the proof; conditions: as each theorem says. -/
import Derived.Test.YtkckcbhnnllkhaaGreatDoorG41
import Derived.Test.YtkckcbhnnllkhaaGreatDoorG50
set_option linter.unusedVariables false
set_option linter.unusedSimpArgs false
set_option maxRecDepth 100000
set_option maxHeartbeats 40000000
namespace Go.Proofs.YtkckcbhnnllkhaaGreatDoor
open Go.RowKit
section
variable {B : Nat} {w : World} {T : Nat → Prop} {a : Nat} {h : Hl} {k : Nat}
end
end Go.Proofs.YtkckcbhnnllkhaaGreatDoor
