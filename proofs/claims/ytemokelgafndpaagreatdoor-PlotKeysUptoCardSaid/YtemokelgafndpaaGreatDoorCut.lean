/- A cut behind the first n statements of a body: what they leave is stated once. Over any program; no conditions. -/
import Derived.Test.YtemokelgafndpaaGreatDoorKit
namespace Go.Proofs.YtemokelgafndpaaGreatDoor
set_option linter.unusedVariables false
set_option linter.unusedSimpArgs false
open Go Go.RowKit

/-- The body with another rest behind its first n statements. -/
def putN : Nat → Code → Code → Code
  | 0, _, r => r
  | n + 1, .seq x y, r => .seq x (putN n y r)
  | _ + 1, c, _ => c
/-- What stands behind the first n statements. -/
def tailN : Nat → Code → Code
  | 0, c => c
  | n + 1, .seq _ y => tailN n y
  | _ + 1, c => c
theorem wp_cut {P : Program} {c : Code} {Q : Exit → Act → World → Prop} {a : Act} {w : World} (n : Nat) (Mid : Act → World → Prop) (h0 : putN n c (tailN n c) = c)
    (h1 : ∀ r : Code, Hid (∀ a' w', Mid a' w' → r.wp P Q a' w') → (putN n c r).wp P Q a w) (h2 : ∀ a' w', Mid a' w' → (tailN n c).wp P Q a' w') : c.wp P Q a w := by
  rw [← h0]
  exact h1 _ (Lib.hid h2)
/-- The world at hand under a name. -/
theorem wp_name {P : Program} {c : Code} {Q : Exit → Act → World → Prop} {a : Act} {w : World} (h : ∀ W, Hid (W = w) → c.wp P Q a W) : c.wp P Q a w := h w (Lib.hid rfl)
end Go.Proofs.YtemokelgafndpaaGreatDoor
