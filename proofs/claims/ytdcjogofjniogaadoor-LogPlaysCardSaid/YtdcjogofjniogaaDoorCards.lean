/-
  DERIVED. GIVEN WITH THE SEED: THE CARDS: each row of YtdcjogofjniogaaDoorRows.lean that lists a variable, with what it lists TIED to the program's text (the seventh form; the later family's looks); each row that meets fmt, with fmt's text TOLD by the authors' own Lean function (tested against real Go, not proved from fmt's source: count such statements apart). THE CARD IS WHAT COUNTS. Prove the row's statement (the work); the ties are given (YtdcjogofjniogaaDoorTie.lean); close each card by the builder's one call (the guide's Derived/Test/ToyasCard.lean, 'card_holds'). Laid BY PROGRAM, IN A SANDBOX (cutbox-door.mjs). By AI agents, Wed Nov 11 2026. No macro, syntax, notation, axiom, sorry.
-/
import Derived.Test.YtdcjogofjniogaaDoorRows
import GoSem.ClaimSeven
namespace Go.Proofs.YtdcjogofjniogaaDoor
namespace Rows

/-- THE TIED CARD OF 'burgagelaw2.LogRoom'. -/
def logRoomCard : Claim7 := { stood := { row := logRoomRow, standIns := [], harness := (true, "92afe63d393428cd4e855330dcfb225c8bc9e3932b6f1e1f33eabfcb95ded734"), looks := true }, kinds := [], alts := [], laidByText := true, laidKinds := [.handle], laidTests := true, laidLooks := .later }
def LogRoomCardSaid : Prop := Claim7.holds Tryd.pinned (.plain (OpenSpec.ofChange logRoomSpec)) logRoomCard

/-- THE TIED CARD OF 'burgagelaw2.LogPlays'. -/
def logPlaysCard : Claim7 := { stood := { row := logPlaysRow, standIns := [], harness := (true, "92afe63d393428cd4e855330dcfb225c8bc9e3932b6f1e1f33eabfcb95ded734"), looks := true }, kinds := [], alts := [], laidByText := true, laidKinds := [.handle], laidTests := true, laidLooks := .later }
def LogPlaysCardSaid : Prop := Claim7.holds Tryd.pinned (.plain (OpenSpec.ofChange logPlaysSpec)) logPlaysCard

/-- THE TIED CARD OF 'burgagelaw2.VersStays'. -/
def versStaysCard : Claim7 := { stood := { row := versStaysRow, standIns := [], harness := (true, "92afe63d393428cd4e855330dcfb225c8bc9e3932b6f1e1f33eabfcb95ded734"), looks := true }, kinds := [], alts := [], laidByText := true, laidKinds := [.handle], laidTests := true, laidLooks := .later }
def VersStaysCardSaid : Prop := Claim7.holds Tryd.pinned (.plain (OpenSpec.ofChange versStaysSpec)) versStaysCard

/-- THE TIED CARD OF 'burgagelaw2.VersPlays'. -/
def versPlaysCard : Claim7 := { stood := { row := versPlaysRow, standIns := [], harness := (true, "92afe63d393428cd4e855330dcfb225c8bc9e3932b6f1e1f33eabfcb95ded734"), looks := true }, kinds := [], alts := [], laidByText := true, laidKinds := [.handle], laidTests := true, laidLooks := .later }
def VersPlaysCardSaid : Prop := Claim7.holds Tryd.pinned (.plain (OpenSpec.ofChange versPlaysSpec)) versPlaysCard

/-- THE SECOND FORM's CARD OF 'burgagelaw2.LogRoom'. -/
def logRoomUptoCard : Claim7 := { stood := { row := logRoomUptoRow, standIns := [], harness := (true, "92afe63d393428cd4e855330dcfb225c8bc9e3932b6f1e1f33eabfcb95ded734"), looks := true }, kinds := [], alts := [], laidByText := true, laidKinds := [.handle], laidTests := true, laidLooks := .later }
def LogRoomUptoCardSaid : Prop := Claim7.holds Tryd.pinned (.plain (OpenSpec.upto logRoomSpec)) logRoomUptoCard

/-- THE SECOND FORM's CARD OF 'burgagelaw2.LogPlays'. -/
def logPlaysUptoCard : Claim7 := { stood := { row := logPlaysUptoRow, standIns := [], harness := (true, "92afe63d393428cd4e855330dcfb225c8bc9e3932b6f1e1f33eabfcb95ded734"), looks := true }, kinds := [], alts := [], laidByText := true, laidKinds := [.handle], laidTests := true, laidLooks := .later }
def LogPlaysUptoCardSaid : Prop := Claim7.holds Tryd.pinned (.plain (OpenSpec.upto logPlaysSpec)) logPlaysUptoCard

/-- THE SECOND FORM's CARD OF 'burgagelaw2.VersStays'. -/
def versStaysUptoCard : Claim7 := { stood := { row := versStaysUptoRow, standIns := [], harness := (true, "92afe63d393428cd4e855330dcfb225c8bc9e3932b6f1e1f33eabfcb95ded734"), looks := true }, kinds := [], alts := [], laidByText := true, laidKinds := [.handle], laidTests := true, laidLooks := .later }
def VersStaysUptoCardSaid : Prop := Claim7.holds Tryd.pinned (.plain (OpenSpec.upto versStaysSpec)) versStaysUptoCard

/-- THE SECOND FORM's CARD OF 'burgagelaw2.VersPlays'. -/
def versPlaysUptoCard : Claim7 := { stood := { row := versPlaysUptoRow, standIns := [], harness := (true, "92afe63d393428cd4e855330dcfb225c8bc9e3932b6f1e1f33eabfcb95ded734"), looks := true }, kinds := [], alts := [], laidByText := true, laidKinds := [.handle], laidTests := true, laidLooks := .later }
def VersPlaysUptoCardSaid : Prop := Claim7.holds Tryd.pinned (.plain (OpenSpec.upto versPlaysSpec)) versPlaysUptoCard
end Rows
end Go.Proofs.YtdcjogofjniogaaDoor
