/-
  DERIVED. GIVEN WITH THE SEED: THE CARDS: each row of YtkckcbhnnllkhaaGreatDoorRows.lean that lists a variable, with what it lists TIED to the program's text (the seventh form; the later family's looks); each row that meets fmt, with fmt's text TOLD by the authors' own Lean function (tested against real Go, not proved from fmt's source: count such statements apart). THE CARD IS WHAT COUNTS. Prove the row's statement (the work); the ties are given (YtkckcbhnnllkhaaGreatDoorTie.lean); close each card by the builder's one call (the guide's Derived/Test/ToyasCard.lean, 'card_holds'). Laid BY PROGRAM, IN A SANDBOX (cutbox-door.mjs). By AI agents, Wed Nov 11 2026. No macro, syntax, notation, axiom, sorry.
-/
import Derived.Test.YtkckcbhnnllkhaaGreatDoorRows
import GoSem.ClaimSeven
namespace Go.Proofs.YtkckcbhnnllkhaaGreatDoor
namespace Rows

/-- THE TIED CARD OF 'burgagetop.TopSerial'. -/
def topSerialCard : Claim7 := { stood := { row := topSerialRow, standIns := [], harness := (true, "7a0e635436c95b2bcfbd6e419f5595b2c62d2ecc079385918208311f8090d155"), looks := true }, kinds := [], alts := [], laidByText := true, laidKinds := [.data, .data, .data, .data, .sentinel, .sentinel, .pinned], laidTests := true, laidLooks := .later }
def TopSerialCardSaid : Prop := Claim7.holds Tryz.pinned (.plain (OpenSpec.ofChange topSerialSpec)) topSerialCard

/-- THE TIED CARD OF 'burgagetop.TopGrants'. -/
def topGrantsCard : Claim7 := { stood := { row := topGrantsRow, standIns := [], harness := (true, "7a0e635436c95b2bcfbd6e419f5595b2c62d2ecc079385918208311f8090d155"), looks := true }, kinds := [], alts := [], laidByText := true, laidKinds := [.data, .data, .data, .data, .sentinel, .sentinel, .pinned], laidTests := true, laidLooks := .later }
def TopGrantsCardSaid : Prop := Claim7.holds Tryz.pinned (.plain (OpenSpec.ofChange topGrantsSpec)) topGrantsCard

/-- THE SECOND FORM's CARD OF 'burgagetop.TopSerial'. -/
def topSerialUptoCard : Claim7 := { stood := { row := topSerialUptoRow, standIns := [], harness := (true, "7a0e635436c95b2bcfbd6e419f5595b2c62d2ecc079385918208311f8090d155"), looks := true }, kinds := [], alts := [], laidByText := true, laidKinds := [.data, .data, .data, .data, .sentinel, .sentinel, .pinned], laidTests := true, laidLooks := .later }
def TopSerialUptoCardSaid : Prop := Claim7.holds Tryz.pinned (.plain (OpenSpec.upto topSerialSpec)) topSerialUptoCard

/-- THE SECOND FORM's CARD OF 'burgagetop.TopGrants'. -/
def topGrantsUptoCard : Claim7 := { stood := { row := topGrantsUptoRow, standIns := [], harness := (true, "7a0e635436c95b2bcfbd6e419f5595b2c62d2ecc079385918208311f8090d155"), looks := true }, kinds := [], alts := [], laidByText := true, laidKinds := [.data, .data, .data, .data, .sentinel, .sentinel, .pinned], laidTests := true, laidLooks := .later }
def TopGrantsUptoCardSaid : Prop := Claim7.holds Tryz.pinned (.plain (OpenSpec.upto topGrantsSpec)) topGrantsUptoCard
end Rows
end Go.Proofs.YtkckcbhnnllkhaaGreatDoor
