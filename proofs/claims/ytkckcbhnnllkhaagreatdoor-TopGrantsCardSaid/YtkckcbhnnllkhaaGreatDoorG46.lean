/- Parts of the proof; conditions: as each theorem says. -/
import Derived.Test.YtkckcbhnnllkhaaGreatDoorProg
import Derived.Test.YtkckcbhnnllkhaaGreatDoorG10
import Derived.LaidEql
import Derived.RowKitTokens
import Derived.Test.YtkckcbhnnllkhaaGreatDoorG11
set_option linter.unusedVariables false
set_option linter.unusedSimpArgs false
namespace Go.Proofs.YtkckcbhnnllkhaaGreatDoor
open Go.RowKit Go.Extern
noncomputable def HB:Nat:=Tryz.prog.globals.size
open Go.RowKit
end Go.Proofs.YtkckcbhnnllkhaaGreatDoor
