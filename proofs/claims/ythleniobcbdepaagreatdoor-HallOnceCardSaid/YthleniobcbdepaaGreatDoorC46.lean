/- Texts joined: XErr, XErr2, XErrLaw, XLaw. Each says at its head what it proves; conditions: as said there. -/
import Derived.Test.YthleniobcbdepaaGreatDoorProg
import Derived.Test.YthleniobcbdepaaGreatDoorC9
import Derived.LaidEql
import Derived.RowKitTokens
import Derived.Test.YthleniobcbdepaaGreatDoorC10
/- errors.As at a number of package api, by Go's own text; plain.Told; S.Error. Whatever the error: nil, or a number of package api. Condition: the variable errors.errorType is laid. -/
namespace Go.Proofs.YthleniobcbdepaaGreatDoor
set_option linter.unusedVariables false
set_option linter.unusedSimpArgs false
open Go.RowKit Go.Extern

/-- The block of the handles of types. -/
noncomputable def HB : Nat := Tryz.prog.globals.size
/-- The variable errors.errorType has its value. -/
def ErrVar (w : World) : Prop := w.cell? ⟨0, 0, none⟩ = some (.iface 232 (.agg #[.pointer (some ⟨HB, 29, none⟩)]))
theorem ErrVar.lt {w : World} (h : ErrVar w) : 0 < w.heap.size := by
  refine Nat.lt_of_not_le fun h0 => ?_
  unfold ErrVar at h
  simp [World.cell?, Array.getElem?_eq_none h0] at h
theorem ErrVar.below {w w' : World} (h : ErrVar w) (hb : Below w.heap.size w w') : ErrVar w' := (hb.cell (p := ⟨_, _, _⟩) h.lt).trans h
theorem ErrVar.belowB {w w' : World} {B : Nat} (h : ErrVar w) (hb : Below B w w') (hB : 0 < B) : ErrVar w' := (hb.cell (p := ⟨_, _, _⟩) hB).trans h
theorem ErrVar.alloc {w : World} (h : ErrVar w) (o : Obj) : ErrVar (w.alloc o) := (World.cell?_alloc_lt w o ⟨_, _, _⟩ h.lt).trans h

end Go.Proofs.YthleniobcbdepaaGreatDoor

/- plain.Told and S.Error of nil or a number of package api. Condition: errors.errorType is laid. -/
namespace Go.Proofs.YthleniobcbdepaaGreatDoor
set_option linter.unusedVariables false
set_option linter.unusedSimpArgs false
open Go.RowKit Go.Extern

end Go.Proofs.YthleniobcbdepaaGreatDoor

/- Small laws for the walks of laws: S.Error at nil and at a number. Condition: errors.errorType is laid. -/
namespace Go.Proofs.YthleniobcbdepaaGreatDoor
set_option linter.unusedVariables false
set_option linter.unusedSimpArgs false
open Go.RowKit

end Go.Proofs.YthleniobcbdepaaGreatDoor

/- Small laws for the walks of laws: S.Error at nil and at a number; a literal list just laid. -/
namespace Go.Proofs.YthleniobcbdepaaGreatDoor
set_option linter.unusedVariables false
set_option linter.unusedSimpArgs false
open Go.RowKit

end Go.Proofs.YthleniobcbdepaaGreatDoor
