/- Texts joined: XOpen, XOpenStp. Each says at its head what it proves; conditions: as said there. -/
import Derived.Test.YthleniobcbdepaaGreatDoorC9
import Derived.ProofKit
import Derived.OpenShut
import Derived.ShutString
import Derived.ChangeOld
import Derived.Below
import Derived.Lib.SmallJoins
import Derived.Deep.SlicePairs
import Derived.Deep.Strs
import Derived.ChangeMaps5
/- Opening the arguments of a law: a prefix by value, slices of ints, slices of prefixes and spans. No conditions. -/
namespace Go.Proofs.YthleniobcbdepaaGreatDoor
set_option linter.unusedVariables false
set_option linter.unusedSimpArgs false
open Go.ChangeShapes Go.WideShapes Go.ChangeAt Go.RowKit Go.Joins Go.Deep

section
variable {H : Type} {enc : TypeId × Value → H} {P : Program} {W : World} {base : Nat} {spare : Nat → Bool} {held : Bool} {r : Reach} {b0 : Nat}

theorem add_none (a : Addr) (i : Nat) (h : a.spot = none) : a.add i = ⟨a.block, a.off + i, none⟩ := by
  obtain ⟨b, off, s⟩ := a
  simp at h
  subst h
  unfold Addr.add
  split <;> simp_all

end
end Go.Proofs.YthleniobcbdepaaGreatDoor

/- Opening the arguments of a law: slices of steps. No conditions. -/
namespace Go.Proofs.YthleniobcbdepaaGreatDoor
set_option linter.unusedVariables false
set_option linter.unusedSimpArgs false
open Go.ChangeShapes Go.WideShapes Go.ChangeAt Go.RowKit Go.Joins Go.Deep

theorem str_data2 (s : ByteArray) : (⟨s.data.toList.toArray⟩ : ByteArray) = s := by
  obtain ⟨a⟩ := s
  simp

section
variable {H : Type} {enc : TypeId × Value → H} {P : Program} {W : World} {base : Nat} {spare : Nat → Bool} {held : Bool} {r : Reach} {b0 : Nat}

end
end Go.Proofs.YthleniobcbdepaaGreatDoor
