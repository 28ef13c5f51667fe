/-
  DERIVED. GIVEN WITH THE SEED: THE CARDS: each row of YtemokelgafndpaaGreatDoorRows.lean that lists a variable, with what it lists TIED to the program's text (the seventh form; the later family's looks); each row that meets fmt, with fmt's text TOLD by the authors' own Lean function (tested against real Go, not proved from fmt's source: count such statements apart). THE CARD IS WHAT COUNTS. Prove the row's statement (the work); the ties are given (YtemokelgafndpaaGreatDoorTie.lean); close each card by the builder's one call (the guide's Derived/Test/ToyasCard.lean, 'card_holds'). Laid BY PROGRAM, IN A SANDBOX (cutbox-door.mjs). By AI agents, Wed Nov 11 2026. No macro, syntax, notation, axiom, sorry.
-/
import Derived.Test.YtemokelgafndpaaGreatDoorRows
import GoSem.ClaimSeven
namespace Go.Proofs.YtemokelgafndpaaGreatDoor
namespace Rows

/-- THE TIED CARD OF 'burgagelaw3.PlotKeys'. -/
def plotKeysCard : Claim7 := { stood := { row := plotKeysRow, standIns := [], harness := (true, "b999f6be2bcc9b38308735b639e92e1d8e53dc0234cec18dd40e0b42ac23b8fc"), looks := true }, kinds := [], alts := [], laidByText := true, laidKinds := [.data, .data, .data, .data, .handle, .sentinel, .sentinel, .pinned], laidTests := true, laidLooks := .later }
def PlotKeysCardSaid : Prop := Claim7.holds Tryz.pinned (.plain (OpenSpec.ofChange plotKeysSpec)) plotKeysCard

/-- THE TIED CARD OF 'burgagelaw3.AuditIs'. -/
def auditIsCard : Claim7 := { stood := { row := auditIsRow, standIns := [], harness := (true, "b999f6be2bcc9b38308735b639e92e1d8e53dc0234cec18dd40e0b42ac23b8fc"), looks := true }, kinds := [], alts := [], laidByText := true, laidKinds := [.data, .data, .data, .data, .handle, .sentinel, .sentinel, .pinned], laidTests := true, laidLooks := .later }
def AuditIsCardSaid : Prop := Claim7.holds Tryz.pinned (.plain (OpenSpec.ofChange auditIsSpec)) auditIsCard

/-- THE SECOND FORM's CARD OF 'burgagelaw3.PlotKeys'. -/
def plotKeysUptoCard : Claim7 := { stood := { row := plotKeysUptoRow, standIns := [], harness := (true, "b999f6be2bcc9b38308735b639e92e1d8e53dc0234cec18dd40e0b42ac23b8fc"), looks := true }, kinds := [], alts := [], laidByText := true, laidKinds := [.data, .data, .data, .data, .handle, .sentinel, .sentinel, .pinned], laidTests := true, laidLooks := .later }
def PlotKeysUptoCardSaid : Prop := Claim7.holds Tryz.pinned (.plain (OpenSpec.upto plotKeysSpec)) plotKeysUptoCard

/-- THE SECOND FORM's CARD OF 'burgagelaw3.AuditIs'. -/
def auditIsUptoCard : Claim7 := { stood := { row := auditIsUptoRow, standIns := [], harness := (true, "b999f6be2bcc9b38308735b639e92e1d8e53dc0234cec18dd40e0b42ac23b8fc"), looks := true }, kinds := [], alts := [], laidByText := true, laidKinds := [.data, .data, .data, .data, .handle, .sentinel, .sentinel, .pinned], laidTests := true, laidLooks := .later }
def AuditIsUptoCardSaid : Prop := Claim7.holds Tryz.pinned (.plain (OpenSpec.upto auditIsSpec)) auditIsUptoCard
end Rows
end Go.Proofs.YtemokelgafndpaaGreatDoor
