/- A text as a value. -/
import Derived.Test.YtemokelgafndpaaGreatDoorKit
namespace Go.Proofs.YtemokelgafndpaaGreatDoor

/-- A text as a value. -/
abbrev txt (l : List UInt8) : Value := .string ⟨l.toArray⟩
end Go.Proofs.YtemokelgafndpaaGreatDoor
