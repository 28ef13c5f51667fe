/-
  DERIVED. GIVEN WITH THE SEED: THE CARDS: each row of YtdmnejanckdajaaDoorRows.lean that lists a variable, with what it lists TIED to the program's text (the seventh form; the later family's looks); each row that meets fmt, with fmt's text TOLD by the authors' own Lean function (tested against real Go, not proved from fmt's source: count such statements apart). THE CARD IS WHAT COUNTS. Prove the row's statement (the work); the ties are given (YtdmnejanckdajaaDoorTie.lean); close each card by the builder's one call (the guide's Derived/Test/ToyasCard.lean, 'card_holds'). Laid BY PROGRAM, IN A SANDBOX (cutbox-door.mjs). By AI agents, Wed Nov 11 2026. No macro, syntax, notation, axiom, sorry.
-/
import Derived.Test.YtdmnejanckdajaaDoorRows
import GoSem.ClaimSeven
namespace Go.Proofs.YtdmnejanckdajaaDoor
namespace Rows

/-- THE TIED CARD OF 'burgagelaw2.VersStays'. -/
def versStaysCard : Claim7 := { stood := { row := versStaysRow, standIns := [], harness := (true, "acda4577261b36b861a422451809b7d5f548016c5be94d58876bafa4360176c2"), looks := true }, kinds := [], alts := [], laidByText := true, laidKinds := [.handle], laidTests := true, laidLooks := .later }
def VersStaysCardSaid : Prop := Claim7.holds Tryd.pinned (.plain (OpenSpec.ofChange versStaysSpec)) versStaysCard

/-- THE TIED CARD OF 'burgagelaw2.VersPlays'. -/
def versPlaysCard : Claim7 := { stood := { row := versPlaysRow, standIns := [], harness := (true, "acda4577261b36b861a422451809b7d5f548016c5be94d58876bafa4360176c2"), looks := true }, kinds := [], alts := [], laidByText := true, laidKinds := [.handle], laidTests := true, laidLooks := .later }
def VersPlaysCardSaid : Prop := Claim7.holds Tryd.pinned (.plain (OpenSpec.ofChange versPlaysSpec)) versPlaysCard

/-- THE SECOND FORM's CARD OF 'burgagelaw2.VersStays'. -/
def versStaysUptoCard : Claim7 := { stood := { row := versStaysUptoRow, standIns := [], harness := (true, "acda4577261b36b861a422451809b7d5f548016c5be94d58876bafa4360176c2"), looks := true }, kinds := [], alts := [], laidByText := true, laidKinds := [.handle], laidTests := true, laidLooks := .later }
def VersStaysUptoCardSaid : Prop := Claim7.holds Tryd.pinned (.plain (OpenSpec.upto versStaysSpec)) versStaysUptoCard

/-- THE SECOND FORM's CARD OF 'burgagelaw2.VersPlays'. -/
def versPlaysUptoCard : Claim7 := { stood := { row := versPlaysUptoRow, standIns := [], harness := (true, "acda4577261b36b861a422451809b7d5f548016c5be94d58876bafa4360176c2"), looks := true }, kinds := [], alts := [], laidByText := true, laidKinds := [.handle], laidTests := true, laidLooks := .later }
def VersPlaysUptoCardSaid : Prop := Claim7.holds Tryd.pinned (.plain (OpenSpec.upto versPlaysSpec)) versPlaysUptoCard
end Rows
end Go.Proofs.YtdmnejanckdajaaDoor
