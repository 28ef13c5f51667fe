/- Parts of the proof; conditions: as each theorem says. -/
import Derived.Test.YthleniobcbdepaaGreatDoorProg
import Derived.Test.YthleniobcbdepaaGreatDoorD10
import Derived.LaidEql
import Derived.RowKitTokens
import Derived.Test.YthleniobcbdepaaGreatDoorD11
set_option linter.unusedVariables false
set_option linter.unusedSimpArgs false
namespace Go.Proofs.YthleniobcbdepaaGreatDoor
open Go.RowKit Go.Extern
noncomputable def HB : Nat := Tryz.prog.globals.size
end Go.Proofs.YthleniobcbdepaaGreatDoor

namespace Go.Proofs.YthleniobcbdepaaGreatDoor
open Go.RowKit
end Go.Proofs.YthleniobcbdepaaGreatDoor
