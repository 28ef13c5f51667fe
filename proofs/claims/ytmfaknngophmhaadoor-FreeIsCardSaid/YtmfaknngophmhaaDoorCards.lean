/-
  DERIVED. GIVEN WITH THE SEED: THE CARDS: each row of YtmfaknngophmhaaDoorRows.lean that lists a variable, with what it lists TIED to the program's text (the seventh form; the later family's looks); each row that meets fmt, with fmt's text TOLD by the authors' own Lean function (tested against real Go, not proved from fmt's source: count such statements apart). THE CARD IS WHAT COUNTS. Prove the row's statement (the work); the ties are given (YtmfaknngophmhaaDoorTie.lean); close each card by the builder's one call (the guide's Derived/Test/ToyasCard.lean, 'card_holds'). Laid BY PROGRAM, IN A SANDBOX (cutbox-door.mjs). By AI agents, Wed Nov 11 2026. No macro, syntax, notation, axiom, sorry.
-/
import Derived.Test.YtmfaknngophmhaaDoorRows
import GoSem.ClaimSeven
namespace Go.Proofs.YtmfaknngophmhaaDoor
namespace Rows

/-- THE TIED CARD OF 'burgagelaw1.SpanSets'. -/
def spanSetsCard : Claim7 := { stood := { row := spanSetsRow, standIns := [], harness := (true, "f35ad7a368e9955c5f1cfd025d20f16a99ddb0eebb861060b37294e15c2fecdf"), looks := true }, kinds := [], alts := [], laidByText := true, laidKinds := [.handle], laidTests := true, laidLooks := .later }
def SpanSetsCardSaid : Prop := Claim7.holds Tryd.pinned (.plain (OpenSpec.ofChange spanSetsSpec)) spanSetsCard

/-- THE TIED CARD OF 'burgagelaw1.CoverIs'. -/
def coverIsCard : Claim7 := { stood := { row := coverIsRow, standIns := [], harness := (true, "f35ad7a368e9955c5f1cfd025d20f16a99ddb0eebb861060b37294e15c2fecdf"), looks := true }, kinds := [], alts := [], laidByText := true, laidKinds := [.data, .handle], laidTests := true, laidLooks := .later }
def CoverIsCardSaid : Prop := Claim7.holds Tryd.pinned (.plain (OpenSpec.ofChange coverIsSpec)) coverIsCard

/-- THE TIED CARD OF 'burgagelaw1.FreeIs'. -/
def freeIsCard : Claim7 := { stood := { row := freeIsRow, standIns := [], harness := (true, "f35ad7a368e9955c5f1cfd025d20f16a99ddb0eebb861060b37294e15c2fecdf"), looks := true }, kinds := [], alts := [], laidByText := true, laidKinds := [.data, .handle], laidTests := true, laidLooks := .later }
def FreeIsCardSaid : Prop := Claim7.holds Tryd.pinned (.plain (OpenSpec.ofChange freeIsSpec)) freeIsCard

/-- THE TIED CARD OF 'burgagelaw1.AddrBack'. -/
def addrBackCard : Claim7 := { stood := { row := addrBackRow, standIns := [], harness := (true, "f35ad7a368e9955c5f1cfd025d20f16a99ddb0eebb861060b37294e15c2fecdf"), looks := true }, kinds := [], alts := [], laidByText := true, laidKinds := [.data, .data, .data, .data, .sentinel, .sentinel, .pinned], laidTests := true, laidLooks := .later }
def AddrBackCardSaid : Prop := Claim7.holds Tryd.pinned (.plain (OpenSpec.ofChange addrBackSpec)) addrBackCard

/-- THE SECOND FORM's CARD OF 'burgagelaw1.SpanSets'. -/
def spanSetsUptoCard : Claim7 := { stood := { row := spanSetsUptoRow, standIns := [], harness := (true, "f35ad7a368e9955c5f1cfd025d20f16a99ddb0eebb861060b37294e15c2fecdf"), looks := true }, kinds := [], alts := [], laidByText := true, laidKinds := [.handle], laidTests := true, laidLooks := .later }
def SpanSetsUptoCardSaid : Prop := Claim7.holds Tryd.pinned (.plain (OpenSpec.upto spanSetsSpec)) spanSetsUptoCard

/-- THE SECOND FORM's CARD OF 'burgagelaw1.CoverIs'. -/
def coverIsUptoCard : Claim7 := { stood := { row := coverIsUptoRow, standIns := [], harness := (true, "f35ad7a368e9955c5f1cfd025d20f16a99ddb0eebb861060b37294e15c2fecdf"), looks := true }, kinds := [], alts := [], laidByText := true, laidKinds := [.data, .handle], laidTests := true, laidLooks := .later }
def CoverIsUptoCardSaid : Prop := Claim7.holds Tryd.pinned (.plain (OpenSpec.upto coverIsSpec)) coverIsUptoCard

/-- THE SECOND FORM's CARD OF 'burgagelaw1.FreeIs'. -/
def freeIsUptoCard : Claim7 := { stood := { row := freeIsUptoRow, standIns := [], harness := (true, "f35ad7a368e9955c5f1cfd025d20f16a99ddb0eebb861060b37294e15c2fecdf"), looks := true }, kinds := [], alts := [], laidByText := true, laidKinds := [.data, .handle], laidTests := true, laidLooks := .later }
def FreeIsUptoCardSaid : Prop := Claim7.holds Tryd.pinned (.plain (OpenSpec.upto freeIsSpec)) freeIsUptoCard

/-- THE SECOND FORM's CARD OF 'burgagelaw1.AddrBack'. -/
def addrBackUptoCard : Claim7 := { stood := { row := addrBackUptoRow, standIns := [], harness := (true, "f35ad7a368e9955c5f1cfd025d20f16a99ddb0eebb861060b37294e15c2fecdf"), looks := true }, kinds := [], alts := [], laidByText := true, laidKinds := [.data, .data, .data, .data, .sentinel, .sentinel, .pinned], laidTests := true, laidLooks := .later }
def AddrBackUptoCardSaid : Prop := Claim7.holds Tryd.pinned (.plain (OpenSpec.upto addrBackSpec)) addrBackUptoCard
end Rows
end Go.Proofs.YtmfaknngophmhaaDoor
