/- Parts of the proof; conditions: as each theorem says. -/
import Derived.Test.YtkckcbhnnllkhaaGreatDoorK11
import Derived.Test.YtkckcbhnnllkhaaGreatDoorK10
import Derived.Test.YtkckcbhnnllkhaaGreatDoorK48
import Derived.Test.YtkckcbhnnllkhaaGreatDoorK20
import Derived.Test.YtkckcbhnnllkhaaGreatDoorK9
import Derived.Test.YtkckcbhnnllkhaaGreatDoorK26
import Derived.Deep.AppendLies
import Derived.Test.YtkckcbhnnllkhaaGreatDoorK44
import Derived.Deep.RegionHeld3
import Derived.Deep.DrawnRows
set_option linter.unusedVariables false
set_option linter.unusedSimpArgs false
set_option maxRecDepth 100000
set_option maxHeartbeats 40000000
namespace Go.Proofs.YtkckcbhnnllkhaaGreatDoor
open Go Go.RowKit Go.MapKept
section
variable {w w' : World} {S : Nat → Prop} {b nb pb : Nat} {v : Value} {es1 : Array MapEntry} {c1 : Nat} {es2 : Array MapEntry} {c2 : Nat} {Sp : Nat → Prop} {l : List KV}
end
open Go.RowKit Go.MapKept
def errs (l : List KV) : List Value := l.map fun p => faV (ownE p)
section
variable {l : List KV} {k : Nat} {p : KV}
end
end Go.Proofs.YtkckcbhnnllkhaaGreatDoor
