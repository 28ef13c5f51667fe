/- Parts of the proof; conditions: as each theorem says. -/
import Derived.Test.YthleniobcbdepaaGreatDoorP11
import Derived.Test.YthleniobcbdepaaGreatDoorP10
import Derived.Test.YthleniobcbdepaaGreatDoorP48
import Derived.Test.YthleniobcbdepaaGreatDoorP20
import Derived.Test.YthleniobcbdepaaGreatDoorP9
import Derived.Test.YthleniobcbdepaaGreatDoorP26
import Derived.Deep.AppendLies
import Derived.Test.YthleniobcbdepaaGreatDoorP44
import Derived.Deep.RegionHeld3
import Derived.Deep.DrawnRows
set_option linter.unusedVariables false
set_option linter.unusedSimpArgs false
namespace Go.Proofs.YthleniobcbdepaaGreatDoor
open Go Go.RowKit Go.MapKept
section
variable {w w' : World} {S : Nat → Prop} {b nb pb : Nat} {v : Value} {es1 : Array MapEntry} {c1 : Nat} {es2 : Array MapEntry} {c2 : Nat} {Sp : Nat → Prop} {l : List KV}
end
end Go.Proofs.YthleniobcbdepaaGreatDoor

namespace Go.Proofs.YthleniobcbdepaaGreatDoor
set_option maxRecDepth 100000
open Go.RowKit Go.MapKept
end Go.Proofs.YthleniobcbdepaaGreatDoor

namespace Go.Proofs.YthleniobcbdepaaGreatDoor
set_option maxRecDepth 100000
open Go.RowKit Go.MapKept
end Go.Proofs.YthleniobcbdepaaGreatDoor

namespace Go.Proofs.YthleniobcbdepaaGreatDoor
set_option maxRecDepth 100000
open Go.RowKit Go.MapKept
end Go.Proofs.YthleniobcbdepaaGreatDoor

namespace Go.Proofs.YthleniobcbdepaaGreatDoor
set_option maxRecDepth 100000
open Go.RowKit Go.MapKept
section
variable {l : List KV} {k : Nat} {p : KV}
end
end Go.Proofs.YthleniobcbdepaaGreatDoor
