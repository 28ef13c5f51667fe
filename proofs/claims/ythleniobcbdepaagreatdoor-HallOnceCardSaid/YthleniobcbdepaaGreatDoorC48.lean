/- Texts joined: XKeyMath. Each says at its head what it proves; conditions: as said there. -/
import Derived.Test.YthleniobcbdepaaGreatDoorC37
import Derived.Test.YthleniobcbdepaaGreatDoorC44
/- Keys of the three kinds, told by their bytes: plain mathematics. No conditions. -/
namespace Go.Proofs.YthleniobcbdepaaGreatDoor
set_option linter.unusedVariables false
set_option linter.unusedSimpArgs false
open Go.RowKit

end Go.Proofs.YthleniobcbdepaaGreatDoor
