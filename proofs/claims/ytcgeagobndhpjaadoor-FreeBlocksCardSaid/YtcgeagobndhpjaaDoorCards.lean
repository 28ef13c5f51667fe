/-
  DERIVED. GIVEN WITH THE SEED: THE CARDS: each row of YtcgeagobndhpjaaDoorRows.lean that lists a variable, with what it lists TIED to the program's text (the seventh form; the later family's looks); each row that meets fmt, with fmt's text TOLD by the authors' own Lean function (tested against real Go, not proved from fmt's source: count such statements apart). THE CARD IS WHAT COUNTS. Prove the row's statement (the work); the ties are given (YtcgeagobndhpjaaDoorTie.lean); close each card by the builder's one call (the guide's Derived/Test/ToyasCard.lean, 'card_holds'). Laid BY PROGRAM, IN A SANDBOX (cutbox-door.mjs). By AI agents, Wed Nov 11 2026. No macro, syntax, notation, axiom, sorry.
-/
import Derived.Test.YtcgeagobndhpjaaDoorRows
import GoSem.ClaimSeven
namespace Go.Proofs.YtcgeagobndhpjaaDoor
namespace Rows

/-- THE TIED CARD OF 'burgagelaw1.HostIs'. -/
def hostIsCard : Claim7 := { stood := { row := hostIsRow, standIns := [], harness := (true, "2db1567595f3c930d6d589106b9a2e9613ce4e373687ab329c4841893d68e470"), looks := true }, kinds := [], alts := [], laidByText := true, laidKinds := [.handle], laidTests := true, laidLooks := .later }
def HostIsCardSaid : Prop := Claim7.holds Tryd.pinned (.plain (OpenSpec.ofChange hostIsSpec)) hostIsCard

/-- THE TIED CARD OF 'burgagelaw1.AddrParts'. -/
def addrPartsCard : Claim7 := { stood := { row := addrPartsRow, standIns := [], harness := (true, "2db1567595f3c930d6d589106b9a2e9613ce4e373687ab329c4841893d68e470"), looks := true }, kinds := [], alts := [], laidByText := true, laidKinds := [.handle], laidTests := true, laidLooks := .later }
def AddrPartsCardSaid : Prop := Claim7.holds Tryd.pinned (.plain (OpenSpec.ofChange addrPartsSpec)) addrPartsCard

/-- THE TIED CARD OF 'burgagelaw1.TreeIs'. -/
def treeIsCard : Claim7 := { stood := { row := treeIsRow, standIns := [], harness := (true, "2db1567595f3c930d6d589106b9a2e9613ce4e373687ab329c4841893d68e470"), looks := true }, kinds := [], alts := [], laidByText := true, laidKinds := [.handle], laidTests := true, laidLooks := .later }
def TreeIsCardSaid : Prop := Claim7.holds Tryd.pinned (.plain (OpenSpec.ofChange treeIsSpec)) treeIsCard

/-- THE TIED CARD OF 'burgagelaw1.TreeBack'. -/
def treeBackCard : Claim7 := { stood := { row := treeBackRow, standIns := [], harness := (true, "2db1567595f3c930d6d589106b9a2e9613ce4e373687ab329c4841893d68e470"), looks := true }, kinds := [], alts := [], laidByText := true, laidKinds := [.handle], laidTests := true, laidLooks := .later }
def TreeBackCardSaid : Prop := Claim7.holds Tryd.pinned (.plain (OpenSpec.ofChange treeBackSpec)) treeBackCard

/-- THE TIED CARD OF 'burgagelaw1.CoverFew'. -/
def coverFewCard : Claim7 := { stood := { row := coverFewRow, standIns := [], harness := (true, "2db1567595f3c930d6d589106b9a2e9613ce4e373687ab329c4841893d68e470"), looks := true }, kinds := [], alts := [], laidByText := true, laidKinds := [.data], laidTests := true, laidLooks := .later }
def CoverFewCardSaid : Prop := Claim7.holds Tryd.pinned (.plain (OpenSpec.ofChange coverFewSpec)) coverFewCard

/-- THE TIED CARD OF 'burgagelaw1.FreeBlocks'. -/
def freeBlocksCard : Claim7 := { stood := { row := freeBlocksRow, standIns := [], harness := (true, "2db1567595f3c930d6d589106b9a2e9613ce4e373687ab329c4841893d68e470"), looks := true }, kinds := [], alts := [], laidByText := true, laidKinds := [.data], laidTests := true, laidLooks := .later }
def FreeBlocksCardSaid : Prop := Claim7.holds Tryd.pinned (.plain (OpenSpec.ofChange freeBlocksSpec)) freeBlocksCard

/-- THE TIED CARD OF 'burgagelaw1.CoverIs'. -/
def coverIsCard : Claim7 := { stood := { row := coverIsRow, standIns := [], harness := (true, "2db1567595f3c930d6d589106b9a2e9613ce4e373687ab329c4841893d68e470"), looks := true }, kinds := [], alts := [], laidByText := true, laidKinds := [.data, .handle], laidTests := true, laidLooks := .later }
def CoverIsCardSaid : Prop := Claim7.holds Tryd.pinned (.plain (OpenSpec.ofChange coverIsSpec)) coverIsCard

/-- THE TIED CARD OF 'burgagelaw1.SpanSets'. -/
def spanSetsCard : Claim7 := { stood := { row := spanSetsRow, standIns := [], harness := (true, "2db1567595f3c930d6d589106b9a2e9613ce4e373687ab329c4841893d68e470"), looks := true }, kinds := [], alts := [], laidByText := true, laidKinds := [.handle], laidTests := true, laidLooks := .later }
def SpanSetsCardSaid : Prop := Claim7.holds Tryd.pinned (.plain (OpenSpec.ofChange spanSetsSpec)) spanSetsCard

/-- THE TIED CARD OF 'burgagelaw1.FreeIs'. -/
def freeIsCard : Claim7 := { stood := { row := freeIsRow, standIns := [], harness := (true, "2db1567595f3c930d6d589106b9a2e9613ce4e373687ab329c4841893d68e470"), looks := true }, kinds := [], alts := [], laidByText := true, laidKinds := [.data, .handle], laidTests := true, laidLooks := .later }
def FreeIsCardSaid : Prop := Claim7.holds Tryd.pinned (.plain (OpenSpec.ofChange freeIsSpec)) freeIsCard

/-- THE TIED CARD OF 'burgagelaw1.FreeFits'. -/
def freeFitsCard : Claim7 := { stood := { row := freeFitsRow, standIns := [], harness := (true, "2db1567595f3c930d6d589106b9a2e9613ce4e373687ab329c4841893d68e470"), looks := true }, kinds := [], alts := [], laidByText := true, laidKinds := [.data, .handle], laidTests := true, laidLooks := .later }
def FreeFitsCardSaid : Prop := Claim7.holds Tryd.pinned (.plain (OpenSpec.ofChange freeFitsSpec)) freeFitsCard

/-- THE SECOND FORM's CARD OF 'burgagelaw1.HostIs'. -/
def hostIsUptoCard : Claim7 := { stood := { row := hostIsUptoRow, standIns := [], harness := (true, "2db1567595f3c930d6d589106b9a2e9613ce4e373687ab329c4841893d68e470"), looks := true }, kinds := [], alts := [], laidByText := true, laidKinds := [.handle], laidTests := true, laidLooks := .later }
def HostIsUptoCardSaid : Prop := Claim7.holds Tryd.pinned (.plain (OpenSpec.upto hostIsSpec)) hostIsUptoCard

/-- THE SECOND FORM's CARD OF 'burgagelaw1.AddrParts'. -/
def addrPartsUptoCard : Claim7 := { stood := { row := addrPartsUptoRow, standIns := [], harness := (true, "2db1567595f3c930d6d589106b9a2e9613ce4e373687ab329c4841893d68e470"), looks := true }, kinds := [], alts := [], laidByText := true, laidKinds := [.handle], laidTests := true, laidLooks := .later }
def AddrPartsUptoCardSaid : Prop := Claim7.holds Tryd.pinned (.plain (OpenSpec.upto addrPartsSpec)) addrPartsUptoCard

/-- THE SECOND FORM's CARD OF 'burgagelaw1.TreeIs'. -/
def treeIsUptoCard : Claim7 := { stood := { row := treeIsUptoRow, standIns := [], harness := (true, "2db1567595f3c930d6d589106b9a2e9613ce4e373687ab329c4841893d68e470"), looks := true }, kinds := [], alts := [], laidByText := true, laidKinds := [.handle], laidTests := true, laidLooks := .later }
def TreeIsUptoCardSaid : Prop := Claim7.holds Tryd.pinned (.plain (OpenSpec.upto treeIsSpec)) treeIsUptoCard

/-- THE SECOND FORM's CARD OF 'burgagelaw1.TreeBack'. -/
def treeBackUptoCard : Claim7 := { stood := { row := treeBackUptoRow, standIns := [], harness := (true, "2db1567595f3c930d6d589106b9a2e9613ce4e373687ab329c4841893d68e470"), looks := true }, kinds := [], alts := [], laidByText := true, laidKinds := [.handle], laidTests := true, laidLooks := .later }
def TreeBackUptoCardSaid : Prop := Claim7.holds Tryd.pinned (.plain (OpenSpec.upto treeBackSpec)) treeBackUptoCard

/-- THE SECOND FORM's CARD OF 'burgagelaw1.CoverFew'. -/
def coverFewUptoCard : Claim7 := { stood := { row := coverFewUptoRow, standIns := [], harness := (true, "2db1567595f3c930d6d589106b9a2e9613ce4e373687ab329c4841893d68e470"), looks := true }, kinds := [], alts := [], laidByText := true, laidKinds := [.data], laidTests := true, laidLooks := .later }
def CoverFewUptoCardSaid : Prop := Claim7.holds Tryd.pinned (.plain (OpenSpec.upto coverFewSpec)) coverFewUptoCard

/-- THE SECOND FORM's CARD OF 'burgagelaw1.FreeBlocks'. -/
def freeBlocksUptoCard : Claim7 := { stood := { row := freeBlocksUptoRow, standIns := [], harness := (true, "2db1567595f3c930d6d589106b9a2e9613ce4e373687ab329c4841893d68e470"), looks := true }, kinds := [], alts := [], laidByText := true, laidKinds := [.data], laidTests := true, laidLooks := .later }
def FreeBlocksUptoCardSaid : Prop := Claim7.holds Tryd.pinned (.plain (OpenSpec.upto freeBlocksSpec)) freeBlocksUptoCard

/-- THE SECOND FORM's CARD OF 'burgagelaw1.CoverIs'. -/
def coverIsUptoCard : Claim7 := { stood := { row := coverIsUptoRow, standIns := [], harness := (true, "2db1567595f3c930d6d589106b9a2e9613ce4e373687ab329c4841893d68e470"), looks := true }, kinds := [], alts := [], laidByText := true, laidKinds := [.data, .handle], laidTests := true, laidLooks := .later }
def CoverIsUptoCardSaid : Prop := Claim7.holds Tryd.pinned (.plain (OpenSpec.upto coverIsSpec)) coverIsUptoCard

/-- THE SECOND FORM's CARD OF 'burgagelaw1.SpanSets'. -/
def spanSetsUptoCard : Claim7 := { stood := { row := spanSetsUptoRow, standIns := [], harness := (true, "2db1567595f3c930d6d589106b9a2e9613ce4e373687ab329c4841893d68e470"), looks := true }, kinds := [], alts := [], laidByText := true, laidKinds := [.handle], laidTests := true, laidLooks := .later }
def SpanSetsUptoCardSaid : Prop := Claim7.holds Tryd.pinned (.plain (OpenSpec.upto spanSetsSpec)) spanSetsUptoCard

/-- THE SECOND FORM's CARD OF 'burgagelaw1.FreeIs'. -/
def freeIsUptoCard : Claim7 := { stood := { row := freeIsUptoRow, standIns := [], harness := (true, "2db1567595f3c930d6d589106b9a2e9613ce4e373687ab329c4841893d68e470"), looks := true }, kinds := [], alts := [], laidByText := true, laidKinds := [.data, .handle], laidTests := true, laidLooks := .later }
def FreeIsUptoCardSaid : Prop := Claim7.holds Tryd.pinned (.plain (OpenSpec.upto freeIsSpec)) freeIsUptoCard

/-- THE SECOND FORM's CARD OF 'burgagelaw1.FreeFits'. -/
def freeFitsUptoCard : Claim7 := { stood := { row := freeFitsUptoRow, standIns := [], harness := (true, "2db1567595f3c930d6d589106b9a2e9613ce4e373687ab329c4841893d68e470"), looks := true }, kinds := [], alts := [], laidByText := true, laidKinds := [.data, .handle], laidTests := true, laidLooks := .later }
def FreeFitsUptoCardSaid : Prop := Claim7.holds Tryd.pinned (.plain (OpenSpec.upto freeFitsSpec)) freeFitsUptoCard
end Rows
end Go.Proofs.YtcgeagobndhpjaaDoor
