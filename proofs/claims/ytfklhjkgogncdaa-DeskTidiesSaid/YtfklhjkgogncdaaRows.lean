/-
  No cell of these rows narrows 'for every input' (looked for: loops, veiled, ifaces, maps, wideKeys, modest, calm, conditions, laid).
  DERIVED. THE GIVEN ROWS OF THIS SEAT. 3 by the template 'for every input the law returns true; each argument reads behind the call as it read before'; 0 by the template 'total and deterministic' (their statements: YtfklhjkgogncdaaTotals.lean).
  GIVEN WITH THE SEED: the statements are not yours to turn. If you find one false, say at which input.
  Laid BY PROGRAM, IN A SANDBOX (cutbox-rows.mjs): the forced cells as the released guide's own fill.sh prints them over the translation b393fae1e66289e4… (all of the seat's roots in one cut). By AI agents, Wed Nov 11 2026. No macro, syntax, notation, axiom, sorry.
-/
import Derived.Test.YtfklhjkgogncdaaChecked
import GoSem.Claim
import GoSem.ClaimJoined
import GoSem.ClaimMapViews
import Derived.JoinedTies
import Derived.KernelRfl
namespace Go.Proofs.Ytfklhjkgogncdaa
/- THE CELL 'sum', in the pinned program and in every row, IS THE sha256 OF THE DUMP (.gsa) THAT YtfklhjkgogncdaaProg.lean LOADS. Nothing in Lean hashes anything: it is a label: what it is worth is what the hold of that sum in a sandbox is worth. -/
noncomputable def Try.pinned : Pinned := { name := "ytfklhjkgogncdaa", sum := "b393fae1e66289e4b143793c7f2e8ac86c784f94093f6b87a067ea778fc545f1", checked := Try.checked }
namespace Rows
def none {H : Type} : Left H := { results := [], args := [] }

/-- 'burgagelaw2.DeskOwn': WHATEVER THE INPUT: true; the input reads as it did. -/
def deskOwnSpec : ChangeSpec := { name := "deskOwn", fn := fun _ => fun
  | [d1, d2, d3] => { results := [.lit (.bool true)], args := [d1, d2, d3] }
  | _ => none }
def deskOwnRow : OpenClaim := { program := "ytfklhjkgogncdaa", sum := "b393fae1e66289e4b143793c7f2e8ac86c784f94093f6b87a067ea778fc545f1", func := "burgage/burgagelaw2.DeskOwn", spec := "deskOwn", unfollowed := true, recurses := true, plainKeys := false, apart := false }
def DeskOwnSaid : Prop := deskOwnRow.holds Try.pinned (OpenSpec.ofChange deskOwnSpec)

/-- ITS FALSE NEIGHBOUR: 'it returns false'. Refute it at one input. -/
def deskOwnWrong : ChangeSpec := { name := "deskOwn", fn := fun _ => fun
  | [d1, d2, d3] => { results := [.lit (.bool false)], args := [d1, d2, d3] }
  | _ => none }
def DeskOwnWrongFalsely : Prop := deskOwnRow.holds Try.pinned (OpenSpec.ofChange deskOwnWrong)

/-- 'burgagelaw2.DeskForgets': WHATEVER THE INPUT: true; the input reads as it did. -/
def deskForgetsSpec : ChangeSpec := { name := "deskForgets", fn := fun _ => fun
  | [d] => { results := [.lit (.bool true)], args := [d] }
  | _ => none }
def deskForgetsRow : OpenClaim := { program := "ytfklhjkgogncdaa", sum := "b393fae1e66289e4b143793c7f2e8ac86c784f94093f6b87a067ea778fc545f1", func := "burgage/burgagelaw2.DeskForgets", spec := "deskForgets", inPlace := ["internal/abi.NoEscape", "internal/bytealg.MakeNoZero"], unfollowed := true, recurses := true, plainKeys := false, apart := false }
def DeskForgetsSaid : Prop := deskForgetsRow.holds Try.pinned (OpenSpec.ofChange deskForgetsSpec)

/-- ITS FALSE NEIGHBOUR: 'it returns false'. Refute it at one input. -/
def deskForgetsWrong : ChangeSpec := { name := "deskForgets", fn := fun _ => fun
  | [d] => { results := [.lit (.bool false)], args := [d] }
  | _ => none }
def DeskForgetsWrongFalsely : Prop := deskForgetsRow.holds Try.pinned (OpenSpec.ofChange deskForgetsWrong)

/-- 'burgagelaw2.DeskTidies': WHATEVER THE INPUT: true; the input reads as it did. -/
def deskTidiesSpec : ChangeSpec := { name := "deskTidies", fn := fun _ => fun
  | [d1, d2, d3, d4] => { results := [.lit (.bool true)], args := [d1, d2, d3, d4] }
  | _ => none }
def deskTidiesRow : OpenClaim := { program := "ytfklhjkgogncdaa", sum := "b393fae1e66289e4b143793c7f2e8ac86c784f94093f6b87a067ea778fc545f1", func := "burgage/burgagelaw2.DeskTidies", spec := "deskTidies", inPlace := ["internal/abi.NoEscape", "internal/bytealg.MakeNoZero"], unfollowed := true, recurses := true, plainKeys := false, apart := false }
def DeskTidiesSaid : Prop := deskTidiesRow.holds Try.pinned (OpenSpec.ofChange deskTidiesSpec)

/-- ITS FALSE NEIGHBOUR: 'it returns false'. Refute it at one input. -/
def deskTidiesWrong : ChangeSpec := { name := "deskTidies", fn := fun _ => fun
  | [d1, d2, d3, d4] => { results := [.lit (.bool false)], args := [d1, d2, d3, d4] }
  | _ => none }
def DeskTidiesWrongFalsely : Prop := deskTidiesRow.holds Try.pinned (OpenSpec.ofChange deskTidiesWrong)

/- THE SECOND FORM. 'bulk': how many values and letters a reading holds, each counted each time it is reached (what is shared counts as often as it is met; a slice's spare places count too). A statement '..UptoSaid' is the law's where the arguments, and the package variables that the reading takes, are together of bulk at most 1048576: NARROWER than '..Said'. Prove '..Said' where nothing that the law and all that it calls make is longer than what came in: it says more and counts as full. Else prove '..UptoSaid'. A law counts once. -/
mutual
def uptoBulk {H : Type} : DataW H → Nat
  | .lit (.string bytes) => bytes.length + 1
  | .lit _ => 1
  | .nil => 1
  | .ptr d => uptoBulk d + 1
  | .slice elems spare => uptoBulkAll elems + uptoBulkAll spare + 1
  | .agg parts => uptoBulkAll parts + 1
  | .iface _ d => uptoBulk d + 1
  | .map entries => uptoBulkEntries entries + 1
  | .held _ => 1
def uptoBulkAll {H : Type} : List (DataW H) → Nat
  | [] => 0
  | d :: r => uptoBulk d + uptoBulkAll r
def uptoBulkEntries {H : Type} : List (Lit × DataW H) → Nat
  | [] => 0
  | x :: r => uptoBulkEntry x + uptoBulkEntries r
def uptoBulkEntry {H : Type} : Lit × DataW H → Nat
  | (.string bytes, d) => bytes.length + uptoBulk d + 1
  | (_, d) => uptoBulk d + 1
 end
def uptoSmall : (H : Type) → List (DataW H) → Bool := fun _ ds => decide (uptoBulkAll ds ≤ 1048576)
def OpenSpec.upto (s : _root_.Go.ChangeSpec) : _root_.Go.OpenSpec := { _root_.Go.OpenSpec.ofChange s with cond := some uptoSmall }

/-- 'burgagelaw2.DeskOwn', WHERE WHAT IT READS IS OF BULK AT MOST 1048576: true; the input reads as it did. -/
def deskOwnUptoRow : OpenClaim := { program := "ytfklhjkgogncdaa", sum := "b393fae1e66289e4b143793c7f2e8ac86c784f94093f6b87a067ea778fc545f1", func := "burgage/burgagelaw2.DeskOwn", spec := "deskOwn", unfollowed := true, recurses := true, plainKeys := false, apart := false, narrowed := true }
def DeskOwnUptoSaid : Prop := deskOwnUptoRow.holds Try.pinned (OpenSpec.upto deskOwnSpec)

/-- 'burgagelaw2.DeskForgets', WHERE WHAT IT READS IS OF BULK AT MOST 1048576: true; the input reads as it did. -/
def deskForgetsUptoRow : OpenClaim := { program := "ytfklhjkgogncdaa", sum := "b393fae1e66289e4b143793c7f2e8ac86c784f94093f6b87a067ea778fc545f1", func := "burgage/burgagelaw2.DeskForgets", spec := "deskForgets", inPlace := ["internal/abi.NoEscape", "internal/bytealg.MakeNoZero"], unfollowed := true, recurses := true, plainKeys := false, apart := false, narrowed := true }
def DeskForgetsUptoSaid : Prop := deskForgetsUptoRow.holds Try.pinned (OpenSpec.upto deskForgetsSpec)

/-- 'burgagelaw2.DeskTidies', WHERE WHAT IT READS IS OF BULK AT MOST 1048576: true; the input reads as it did. -/
def deskTidiesUptoRow : OpenClaim := { program := "ytfklhjkgogncdaa", sum := "b393fae1e66289e4b143793c7f2e8ac86c784f94093f6b87a067ea778fc545f1", func := "burgage/burgagelaw2.DeskTidies", spec := "deskTidies", inPlace := ["internal/abi.NoEscape", "internal/bytealg.MakeNoZero"], unfollowed := true, recurses := true, plainKeys := false, apart := false, narrowed := true }
def DeskTidiesUptoSaid : Prop := deskTidiesUptoRow.holds Try.pinned (OpenSpec.upto deskTidiesSpec)

end Rows
end Go.Proofs.Ytfklhjkgogncdaa
