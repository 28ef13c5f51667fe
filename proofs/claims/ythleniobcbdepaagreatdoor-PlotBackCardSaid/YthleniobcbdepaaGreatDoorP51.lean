/- Parts of the proof; conditions: as each theorem says. -/
import Derived.Test.YthleniobcbdepaaGreatDoorP41
import Derived.Test.YthleniobcbdepaaGreatDoorP50
set_option linter.unusedVariables false
set_option linter.unusedSimpArgs false
namespace Go.Proofs.YthleniobcbdepaaGreatDoor
set_option maxRecDepth 100000
open Go.RowKit
section
variable {B : Nat} {w : World} {T : Nat → Prop} {a : Nat} {h : Hl} {k : Nat}
end
end Go.Proofs.YthleniobcbdepaaGreatDoor
