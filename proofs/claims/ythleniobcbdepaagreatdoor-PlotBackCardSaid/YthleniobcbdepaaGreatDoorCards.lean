/-
  DERIVED. GIVEN WITH THE SEED: THE CARDS: each row of YthleniobcbdepaaGreatDoorRows.lean that lists a variable, with what it lists TIED to the program's text (the seventh form; the later family's looks); each row that meets fmt, with fmt's text TOLD by the authors' own Lean function (tested against real Go, not proved from fmt's source: count such statements apart). THE CARD IS WHAT COUNTS. Prove the row's statement (the work); the ties are given (YthleniobcbdepaaGreatDoorTie.lean); close each card by the builder's one call (the guide's Derived/Test/ToyasCard.lean, 'card_holds'). Laid BY PROGRAM, IN A SANDBOX (cutbox-door.mjs). By AI agents, Wed Nov 11 2026. No macro, syntax, notation, axiom, sorry.
-/
import Derived.Test.YthleniobcbdepaaGreatDoorRows
import GoSem.ClaimSeven
namespace Go.Proofs.YthleniobcbdepaaGreatDoor
namespace Rows

/-- THE TIED CARD OF 'burgagelaw3.HallOnce'. -/
def hallOnceCard : Claim7 := { stood := { row := hallOnceRow, standIns := [], harness := (true, "8c39ec21bf9bec4782d6124f4d4ace2aacc5fc0add19dbe82e978f07892183da"), looks := true }, kinds := [], alts := [], laidByText := true, laidKinds := [.data, .data, .data, .data, .sentinel, .sentinel, .pinned], laidTests := true, laidLooks := .later }
def HallOnceCardSaid : Prop := Claim7.holds Tryz.pinned (.plain (OpenSpec.ofChange hallOnceSpec)) hallOnceCard

/-- THE TIED CARD OF 'burgagelaw3.PlotBack'. -/
def plotBackCard : Claim7 := { stood := { row := plotBackRow, standIns := [], harness := (true, "8c39ec21bf9bec4782d6124f4d4ace2aacc5fc0add19dbe82e978f07892183da"), looks := true }, kinds := [], alts := [], laidByText := true, laidKinds := [.data, .data, .data, .data, .handle, .sentinel, .sentinel, .pinned], laidTests := true, laidLooks := .later }
def PlotBackCardSaid : Prop := Claim7.holds Tryz.pinned (.plain (OpenSpec.ofChange plotBackSpec)) plotBackCard

/-- THE TIED CARD OF 'burgagelaw3.HallOrder'. -/
def hallOrderCard : Claim7 := { stood := { row := hallOrderRow, standIns := [], harness := (true, "8c39ec21bf9bec4782d6124f4d4ace2aacc5fc0add19dbe82e978f07892183da"), looks := true }, kinds := [], alts := [], laidByText := true, laidKinds := [.data, .data, .data, .data, .sentinel, .sentinel, .pinned], laidTests := true, laidLooks := .later }
def HallOrderCardSaid : Prop := Claim7.holds Tryz.pinned (.plain (OpenSpec.ofChange hallOrderSpec)) hallOrderCard

/-- THE SECOND FORM's CARD OF 'burgagelaw3.HallOnce'. -/
def hallOnceUptoCard : Claim7 := { stood := { row := hallOnceUptoRow, standIns := [], harness := (true, "8c39ec21bf9bec4782d6124f4d4ace2aacc5fc0add19dbe82e978f07892183da"), looks := true }, kinds := [], alts := [], laidByText := true, laidKinds := [.data, .data, .data, .data, .sentinel, .sentinel, .pinned], laidTests := true, laidLooks := .later }
def HallOnceUptoCardSaid : Prop := Claim7.holds Tryz.pinned (.plain (OpenSpec.upto hallOnceSpec)) hallOnceUptoCard

/-- THE SECOND FORM's CARD OF 'burgagelaw3.PlotBack'. -/
def plotBackUptoCard : Claim7 := { stood := { row := plotBackUptoRow, standIns := [], harness := (true, "8c39ec21bf9bec4782d6124f4d4ace2aacc5fc0add19dbe82e978f07892183da"), looks := true }, kinds := [], alts := [], laidByText := true, laidKinds := [.data, .data, .data, .data, .handle, .sentinel, .sentinel, .pinned], laidTests := true, laidLooks := .later }
def PlotBackUptoCardSaid : Prop := Claim7.holds Tryz.pinned (.plain (OpenSpec.upto plotBackSpec)) plotBackUptoCard

/-- THE SECOND FORM's CARD OF 'burgagelaw3.HallOrder'. -/
def hallOrderUptoCard : Claim7 := { stood := { row := hallOrderUptoRow, standIns := [], harness := (true, "8c39ec21bf9bec4782d6124f4d4ace2aacc5fc0add19dbe82e978f07892183da"), looks := true }, kinds := [], alts := [], laidByText := true, laidKinds := [.data, .data, .data, .data, .sentinel, .sentinel, .pinned], laidTests := true, laidLooks := .later }
def HallOrderUptoCardSaid : Prop := Claim7.holds Tryz.pinned (.plain (OpenSpec.upto hallOrderSpec)) hallOrderUptoCard
end Rows
end Go.Proofs.YthleniobcbdepaaGreatDoor
