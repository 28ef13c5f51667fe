/- Texts joined: XOpenC. Each says at its head what it proves; conditions: as said there. -/
import Derived.Test.YthleniobcbdepaaGreatDoorC16
import Derived.Test.YthleniobcbdepaaGreatDoorC10
import Derived.Deep.Strs
import Derived.ChangeMaps5
/- Opening the arguments of a law: slices of bytes, slices of changes, slices of slices of changes. No conditions. -/
namespace Go.Proofs.YthleniobcbdepaaGreatDoor
set_option linter.unusedVariables false
set_option linter.unusedSimpArgs false
open Go.ChangeShapes Go.WideShapes Go.ChangeAt Go.RowKit Go.Joins Go.Deep


section
variable {H : Type} {enc : TypeId × Value → H} {P : Program} {W : World} {base : Nat} {spare : Nat → Bool} {held : Bool} {r : Reach} {b0 : Nat}

theorem i64_of {n : Int} (h : (Lit.int .i64 n).wf = true) : -9223372036854775808 ≤ n ∧ n ≤ 9223372036854775807 := bounds_i64 h
end
end Go.Proofs.YthleniobcbdepaaGreatDoor
