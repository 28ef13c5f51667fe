/-
  NARROWER THAN 'FOR EVERY INPUT', by the rows' own cells (each row's printed sentence says how): HostIs: laid · AddrParts: laid · TreeIs: laid · TreeBack: laid · CoverFew: laid · FreeBlocks: laid · CoverIs: laid · SpanSets: laid · FreeIs: laid · FreeFits: laid.
  DERIVED. THE GIVEN ROWS OF THIS SEAT. 10 by the template 'for every input the law returns true; each argument reads behind the call as it read before'; 0 by the template 'total and deterministic' (their statements: YtcgeagobndhpjaaDoorTotals.lean).
  GIVEN WITH THE SEED: the statements are not yours to turn. If you find one false, say at which input.
  Laid BY PROGRAM, IN A SANDBOX (cutbox-rows.mjs): the forced cells as the released guide's own fill.sh prints them over the translation c9dbff6144a00166… (all of the seat's roots in one cut). By AI agents, Wed Nov 11 2026. No macro, syntax, notation, axiom, sorry.
-/
import Derived.Test.YtcgeagobndhpjaaDoorChecked
import GoSem.Claim
import GoSem.ClaimJoined
import GoSem.ClaimMapViews
import Derived.JoinedTies
import Derived.KernelRfl
namespace Go.Proofs.YtcgeagobndhpjaaDoor
/- THE CELL 'sum', in the pinned program and in every row, IS THE sha256 OF THE DUMP (.gsa) THAT YtcgeagobndhpjaaDoorProg.lean LOADS. Nothing in Lean hashes anything: it is a label: what it is worth is what the hold of that sum in a sandbox is worth. -/
noncomputable def Tryd.pinned : Pinned := { name := "ytcgeagobndhpjaadoor", sum := "c9dbff6144a0016698679038e26540a3f35e191547c0c3632e344bb05d71590f", checked := Tryd.checked }
namespace Rows
def none {H : Type} : Left H := { results := [], args := [] }

/- WHAT THE LISTED PACKAGE-LEVEL VARIABLES READ AS WHEN THE CALL BEGINS. Each datum BY PROGRAM (the guide's laid-datum.mjs) off the statement by which the dump's own 'gosem.cut.vars' lays the variable. In a bare row this is a premise. The card (YtcgeagobndhpjaaDoorCards.lean) ties it to the program's text. -/
def laid_errors_errorType {H : Type} : DataW H := .iface "internal/reflectlite.rtype" (.agg [.ptr (.lit (.string [101, 114, 114, 111, 114]))])
def laid_math_bits_deBruijn64tab {H : Type} : DataW H := .agg [.lit (.int .u8 0), .lit (.int .u8 1), .lit (.int .u8 56), .lit (.int .u8 2), .lit (.int .u8 57), .lit (.int .u8 49), .lit (.int .u8 28), .lit (.int .u8 3), .lit (.int .u8 61), .lit (.int .u8 58), .lit (.int .u8 42), .lit (.int .u8 50), .lit (.int .u8 38), .lit (.int .u8 29), .lit (.int .u8 17), .lit (.int .u8 4), .lit (.int .u8 62), .lit (.int .u8 47), .lit (.int .u8 59), .lit (.int .u8 36), .lit (.int .u8 45), .lit (.int .u8 43), .lit (.int .u8 51), .lit (.int .u8 22), .lit (.int .u8 53), .lit (.int .u8 39), .lit (.int .u8 33), .lit (.int .u8 30), .lit (.int .u8 24), .lit (.int .u8 18), .lit (.int .u8 12), .lit (.int .u8 5), .lit (.int .u8 63), .lit (.int .u8 55), .lit (.int .u8 48), .lit (.int .u8 27), .lit (.int .u8 60), .lit (.int .u8 41), .lit (.int .u8 37), .lit (.int .u8 16), .lit (.int .u8 46), .lit (.int .u8 35), .lit (.int .u8 44), .lit (.int .u8 21), .lit (.int .u8 52), .lit (.int .u8 32), .lit (.int .u8 23), .lit (.int .u8 11), .lit (.int .u8 54), .lit (.int .u8 26), .lit (.int .u8 40), .lit (.int .u8 15), .lit (.int .u8 34), .lit (.int .u8 20), .lit (.int .u8 31), .lit (.int .u8 10), .lit (.int .u8 25), .lit (.int .u8 14), .lit (.int .u8 19), .lit (.int .u8 9), .lit (.int .u8 13), .lit (.int .u8 8), .lit (.int .u8 7), .lit (.int .u8 6)]

/-- 'burgagelaw1.HostIs': WHATEVER THE INPUT: true; the input reads as it did. -/
def hostIsSpec : ChangeSpec := { name := "hostIs", fn := fun _ => fun
  | [d1, d2] => { results := [.lit (.bool true)], args := [d1, d2] }
  | _ => none }
def hostIsRow : OpenClaim := { program := "ytcgeagobndhpjaadoor", sum := "c9dbff6144a0016698679038e26540a3f35e191547c0c3632e344bb05d71590f", func := "burgage/burgagelaw1.HostIs", spec := "hostIs", inPlace := ["internal/reflectlite.ValueOf", "(internal/reflectlite.Value).Type", "(internal/reflectlite.Value).IsNil", "internal/reflectlite.TypeOf", "(internal/reflectlite.Value).Elem", "(internal/reflectlite.Value).Set"], unfollowed := true, recurses := true, named := ["errors.errorType"], apart := false, laid := [("errors.errorType", laid_errors_errorType)] }
def HostIsSaid : Prop := hostIsRow.holds Tryd.pinned (OpenSpec.ofChange hostIsSpec)

/-- ITS FALSE NEIGHBOUR: 'it returns false'. Refute it at one input. -/
def hostIsWrong : ChangeSpec := { name := "hostIs", fn := fun _ => fun
  | [d1, d2] => { results := [.lit (.bool false)], args := [d1, d2] }
  | _ => none }
def HostIsWrongFalsely : Prop := hostIsRow.holds Tryd.pinned (OpenSpec.ofChange hostIsWrong)

/-- 'burgagelaw1.AddrParts': WHATEVER THE INPUT: true; the input reads as it did. -/
def addrPartsSpec : ChangeSpec := { name := "addrParts", fn := fun _ => fun
  | [d1, d2, d3, d4] => { results := [.lit (.bool true)], args := [d1, d2, d3, d4] }
  | _ => none }
def addrPartsRow : OpenClaim := { program := "ytcgeagobndhpjaadoor", sum := "c9dbff6144a0016698679038e26540a3f35e191547c0c3632e344bb05d71590f", func := "burgage/burgagelaw1.AddrParts", spec := "addrParts", inPlace := ["internal/reflectlite.ValueOf", "(internal/reflectlite.Value).Type", "(internal/reflectlite.Value).IsNil", "internal/reflectlite.TypeOf", "(internal/reflectlite.Value).Elem", "(internal/reflectlite.Value).Set"], unfollowed := true, recurses := true, named := ["errors.errorType"], apart := false, laid := [("errors.errorType", laid_errors_errorType)] }
def AddrPartsSaid : Prop := addrPartsRow.holds Tryd.pinned (OpenSpec.ofChange addrPartsSpec)

/-- ITS FALSE NEIGHBOUR: 'it returns false'. Refute it at one input. -/
def addrPartsWrong : ChangeSpec := { name := "addrParts", fn := fun _ => fun
  | [d1, d2, d3, d4] => { results := [.lit (.bool false)], args := [d1, d2, d3, d4] }
  | _ => none }
def AddrPartsWrongFalsely : Prop := addrPartsRow.holds Tryd.pinned (OpenSpec.ofChange addrPartsWrong)

/-- 'burgagelaw1.TreeIs': WHATEVER THE INPUT: true; the input reads as it did. -/
def treeIsSpec : ChangeSpec := { name := "treeIs", fn := fun _ => fun
  | [d1, d2, d3] => { results := [.lit (.bool true)], args := [d1, d2, d3] }
  | _ => none }
def treeIsRow : OpenClaim := { program := "ytcgeagobndhpjaadoor", sum := "c9dbff6144a0016698679038e26540a3f35e191547c0c3632e344bb05d71590f", func := "burgage/burgagelaw1.TreeIs", spec := "treeIs", inPlace := ["internal/reflectlite.ValueOf", "(internal/reflectlite.Value).Type", "(internal/reflectlite.Value).IsNil", "internal/reflectlite.TypeOf", "(internal/reflectlite.Value).Elem", "(internal/reflectlite.Value).Set", "slices.overlaps[burgage/api.Prefix]"], unfollowed := true, recurses := true, named := ["errors.errorType"], apart := false, laid := [("errors.errorType", laid_errors_errorType)] }
def TreeIsSaid : Prop := treeIsRow.holds Tryd.pinned (OpenSpec.ofChange treeIsSpec)

/-- ITS FALSE NEIGHBOUR: 'it returns false'. Refute it at one input. -/
def treeIsWrong : ChangeSpec := { name := "treeIs", fn := fun _ => fun
  | [d1, d2, d3] => { results := [.lit (.bool false)], args := [d1, d2, d3] }
  | _ => none }
def TreeIsWrongFalsely : Prop := treeIsRow.holds Tryd.pinned (OpenSpec.ofChange treeIsWrong)

/-- 'burgagelaw1.TreeBack': WHATEVER THE INPUT: true; the input reads as it did. -/
def treeBackSpec : ChangeSpec := { name := "treeBack", fn := fun _ => fun
  | [d1, d2, d3] => { results := [.lit (.bool true)], args := [d1, d2, d3] }
  | _ => none }
def treeBackRow : OpenClaim := { program := "ytcgeagobndhpjaadoor", sum := "c9dbff6144a0016698679038e26540a3f35e191547c0c3632e344bb05d71590f", func := "burgage/burgagelaw1.TreeBack", spec := "treeBack", inPlace := ["slices.overlaps[burgage/api.Prefix]", "internal/reflectlite.ValueOf", "(internal/reflectlite.Value).Type", "(internal/reflectlite.Value).IsNil", "internal/reflectlite.TypeOf", "(internal/reflectlite.Value).Elem", "(internal/reflectlite.Value).Set"], unfollowed := true, recurses := true, named := ["errors.errorType"], apart := false, laid := [("errors.errorType", laid_errors_errorType)] }
def TreeBackSaid : Prop := treeBackRow.holds Tryd.pinned (OpenSpec.ofChange treeBackSpec)

/-- ITS FALSE NEIGHBOUR: 'it returns false'. Refute it at one input. -/
def treeBackWrong : ChangeSpec := { name := "treeBack", fn := fun _ => fun
  | [d1, d2, d3] => { results := [.lit (.bool false)], args := [d1, d2, d3] }
  | _ => none }
def TreeBackWrongFalsely : Prop := treeBackRow.holds Tryd.pinned (OpenSpec.ofChange treeBackWrong)

/-- 'burgagelaw1.CoverFew': WHATEVER THE INPUT: true; the input reads as it did. -/
def coverFewSpec : ChangeSpec := { name := "coverFew", fn := fun _ => fun
  | [d1, d2] => { results := [.lit (.bool true)], args := [d1, d2] }
  | _ => none }
def coverFewRow : OpenClaim := { program := "ytcgeagobndhpjaadoor", sum := "c9dbff6144a0016698679038e26540a3f35e191547c0c3632e344bb05d71590f", func := "burgage/burgagelaw1.CoverFew", spec := "coverFew", unfollowed := true, recurses := true, named := ["math/bits.deBruijn64tab"], apart := false, laid := [("math/bits.deBruijn64tab", laid_math_bits_deBruijn64tab)] }
def CoverFewSaid : Prop := coverFewRow.holds Tryd.pinned (OpenSpec.ofChange coverFewSpec)

/-- ITS FALSE NEIGHBOUR: 'it returns false'. Refute it at one input. -/
def coverFewWrong : ChangeSpec := { name := "coverFew", fn := fun _ => fun
  | [d1, d2] => { results := [.lit (.bool false)], args := [d1, d2] }
  | _ => none }
def CoverFewWrongFalsely : Prop := coverFewRow.holds Tryd.pinned (OpenSpec.ofChange coverFewWrong)

/-- 'burgagelaw1.FreeBlocks': WHATEVER THE INPUT: true; the input reads as it did. -/
def freeBlocksSpec : ChangeSpec := { name := "freeBlocks", fn := fun _ => fun
  | [d1, d2] => { results := [.lit (.bool true)], args := [d1, d2] }
  | _ => none }
def freeBlocksRow : OpenClaim := { program := "ytcgeagobndhpjaadoor", sum := "c9dbff6144a0016698679038e26540a3f35e191547c0c3632e344bb05d71590f", func := "burgage/burgagelaw1.FreeBlocks", spec := "freeBlocks", unfollowed := true, recurses := true, named := ["math/bits.deBruijn64tab"], apart := false, laid := [("math/bits.deBruijn64tab", laid_math_bits_deBruijn64tab)] }
def FreeBlocksSaid : Prop := freeBlocksRow.holds Tryd.pinned (OpenSpec.ofChange freeBlocksSpec)

/-- ITS FALSE NEIGHBOUR: 'it returns false'. Refute it at one input. -/
def freeBlocksWrong : ChangeSpec := { name := "freeBlocks", fn := fun _ => fun
  | [d1, d2] => { results := [.lit (.bool false)], args := [d1, d2] }
  | _ => none }
def FreeBlocksWrongFalsely : Prop := freeBlocksRow.holds Tryd.pinned (OpenSpec.ofChange freeBlocksWrong)

/-- 'burgagelaw1.CoverIs': WHATEVER THE INPUT: true; the input reads as it did. -/
def coverIsSpec : ChangeSpec := { name := "coverIs", fn := fun _ => fun
  | [d1, d2, d3] => { results := [.lit (.bool true)], args := [d1, d2, d3] }
  | _ => none }
def coverIsRow : OpenClaim := { program := "ytcgeagobndhpjaadoor", sum := "c9dbff6144a0016698679038e26540a3f35e191547c0c3632e344bb05d71590f", func := "burgage/burgagelaw1.CoverIs", spec := "coverIs", inPlace := ["internal/reflectlite.ValueOf", "(internal/reflectlite.Value).Type", "(internal/reflectlite.Value).IsNil", "internal/reflectlite.TypeOf", "(internal/reflectlite.Value).Elem", "(internal/reflectlite.Value).Set"], unfollowed := true, recurses := true, named := ["math/bits.deBruijn64tab", "errors.errorType"], apart := false, laid := [("math/bits.deBruijn64tab", laid_math_bits_deBruijn64tab), ("errors.errorType", laid_errors_errorType)] }
def CoverIsSaid : Prop := coverIsRow.holds Tryd.pinned (OpenSpec.ofChange coverIsSpec)

/-- ITS FALSE NEIGHBOUR: 'it returns false'. Refute it at one input. -/
def coverIsWrong : ChangeSpec := { name := "coverIs", fn := fun _ => fun
  | [d1, d2, d3] => { results := [.lit (.bool false)], args := [d1, d2, d3] }
  | _ => none }
def CoverIsWrongFalsely : Prop := coverIsRow.holds Tryd.pinned (OpenSpec.ofChange coverIsWrong)

/-- 'burgagelaw1.SpanSets': WHATEVER THE INPUT: true; the input reads as it did. -/
def spanSetsSpec : ChangeSpec := { name := "spanSets", fn := fun _ => fun
  | [d1, d2, d3, d4] => { results := [.lit (.bool true)], args := [d1, d2, d3, d4] }
  | _ => none }
def spanSetsRow : OpenClaim := { program := "ytcgeagobndhpjaadoor", sum := "c9dbff6144a0016698679038e26540a3f35e191547c0c3632e344bb05d71590f", func := "burgage/burgagelaw1.SpanSets", spec := "spanSets", inPlace := ["internal/reflectlite.ValueOf", "(internal/reflectlite.Value).Type", "(internal/reflectlite.Value).IsNil", "internal/reflectlite.TypeOf", "(internal/reflectlite.Value).Elem", "(internal/reflectlite.Value).Set"], unfollowed := true, recurses := true, named := ["errors.errorType"], apart := false, laid := [("errors.errorType", laid_errors_errorType)] }
def SpanSetsSaid : Prop := spanSetsRow.holds Tryd.pinned (OpenSpec.ofChange spanSetsSpec)

/-- ITS FALSE NEIGHBOUR: 'it returns false'. Refute it at one input. -/
def spanSetsWrong : ChangeSpec := { name := "spanSets", fn := fun _ => fun
  | [d1, d2, d3, d4] => { results := [.lit (.bool false)], args := [d1, d2, d3, d4] }
  | _ => none }
def SpanSetsWrongFalsely : Prop := spanSetsRow.holds Tryd.pinned (OpenSpec.ofChange spanSetsWrong)

/-- 'burgagelaw1.FreeIs': WHATEVER THE INPUT: true; the input reads as it did. -/
def freeIsSpec : ChangeSpec := { name := "freeIs", fn := fun _ => fun
  | [d1, d2, d3] => { results := [.lit (.bool true)], args := [d1, d2, d3] }
  | _ => none }
def freeIsRow : OpenClaim := { program := "ytcgeagobndhpjaadoor", sum := "c9dbff6144a0016698679038e26540a3f35e191547c0c3632e344bb05d71590f", func := "burgage/burgagelaw1.FreeIs", spec := "freeIs", inPlace := ["internal/reflectlite.ValueOf", "(internal/reflectlite.Value).Type", "(internal/reflectlite.Value).IsNil", "internal/reflectlite.TypeOf", "(internal/reflectlite.Value).Elem", "(internal/reflectlite.Value).Set"], unfollowed := true, recurses := true, named := ["errors.errorType", "math/bits.deBruijn64tab"], apart := false, laid := [("math/bits.deBruijn64tab", laid_math_bits_deBruijn64tab), ("errors.errorType", laid_errors_errorType)] }
def FreeIsSaid : Prop := freeIsRow.holds Tryd.pinned (OpenSpec.ofChange freeIsSpec)

/-- ITS FALSE NEIGHBOUR: 'it returns false'. Refute it at one input. -/
def freeIsWrong : ChangeSpec := { name := "freeIs", fn := fun _ => fun
  | [d1, d2, d3] => { results := [.lit (.bool false)], args := [d1, d2, d3] }
  | _ => none }
def FreeIsWrongFalsely : Prop := freeIsRow.holds Tryd.pinned (OpenSpec.ofChange freeIsWrong)

/-- 'burgagelaw1.FreeFits': WHATEVER THE INPUT: true; the input reads as it did. -/
def freeFitsSpec : ChangeSpec := { name := "freeFits", fn := fun _ => fun
  | [d1, d2, d3] => { results := [.lit (.bool true)], args := [d1, d2, d3] }
  | _ => none }
def freeFitsRow : OpenClaim := { program := "ytcgeagobndhpjaadoor", sum := "c9dbff6144a0016698679038e26540a3f35e191547c0c3632e344bb05d71590f", func := "burgage/burgagelaw1.FreeFits", spec := "freeFits", inPlace := ["internal/reflectlite.ValueOf", "(internal/reflectlite.Value).Type", "(internal/reflectlite.Value).IsNil", "internal/reflectlite.TypeOf", "(internal/reflectlite.Value).Elem", "(internal/reflectlite.Value).Set"], unfollowed := true, recurses := true, named := ["math/bits.deBruijn64tab", "errors.errorType"], apart := false, laid := [("math/bits.deBruijn64tab", laid_math_bits_deBruijn64tab), ("errors.errorType", laid_errors_errorType)] }
def FreeFitsSaid : Prop := freeFitsRow.holds Tryd.pinned (OpenSpec.ofChange freeFitsSpec)

/-- ITS FALSE NEIGHBOUR: 'it returns false'. Refute it at one input. -/
def freeFitsWrong : ChangeSpec := { name := "freeFits", fn := fun _ => fun
  | [d1, d2, d3] => { results := [.lit (.bool false)], args := [d1, d2, d3] }
  | _ => none }
def FreeFitsWrongFalsely : Prop := freeFitsRow.holds Tryd.pinned (OpenSpec.ofChange freeFitsWrong)

/- THE SECOND FORM. 'bulk': how many values and letters a reading holds, each counted each time it is reached (what is shared counts as often as it is met; a slice's spare places count too). A statement '..UptoSaid' is the law's where the arguments, and the package variables that the reading takes, are together of bulk at most 1048576: NARROWER than '..Said'. Prove '..Said' where nothing that the law and all that it calls make is longer than what came in: it says more and counts as full. Else prove '..UptoSaid'. A law counts once. -/
mutual
def uptoBulk {H : Type} : DataW H → Nat
  | .lit (.string bytes) => bytes.length + 1
  | .lit _ => 1
  | .nil => 1
  | .ptr d => uptoBulk d + 1
  | .slice elems spare => uptoBulkAll elems + uptoBulkAll spare + 1
  | .agg parts => uptoBulkAll parts + 1
  | .iface _ d => uptoBulk d + 1
  | .map entries => uptoBulkEntries entries + 1
  | .held _ => 1
def uptoBulkAll {H : Type} : List (DataW H) → Nat
  | [] => 0
  | d :: r => uptoBulk d + uptoBulkAll r
def uptoBulkEntries {H : Type} : List (Lit × DataW H) → Nat
  | [] => 0
  | x :: r => uptoBulkEntry x + uptoBulkEntries r
def uptoBulkEntry {H : Type} : Lit × DataW H → Nat
  | (.string bytes, d) => bytes.length + uptoBulk d + 1
  | (_, d) => uptoBulk d + 1
 end
def uptoSmall : (H : Type) → List (DataW H) → Bool := fun _ ds => decide (uptoBulkAll ds ≤ 1048576)
def OpenSpec.upto (s : _root_.Go.ChangeSpec) : _root_.Go.OpenSpec := { _root_.Go.OpenSpec.ofChange s with cond := some uptoSmall }

/-- 'burgagelaw1.HostIs', WHERE WHAT IT READS IS OF BULK AT MOST 1048576: true; the input reads as it did. -/
def hostIsUptoRow : OpenClaim := { program := "ytcgeagobndhpjaadoor", sum := "c9dbff6144a0016698679038e26540a3f35e191547c0c3632e344bb05d71590f", func := "burgage/burgagelaw1.HostIs", spec := "hostIs", inPlace := ["internal/reflectlite.ValueOf", "(internal/reflectlite.Value).Type", "(internal/reflectlite.Value).IsNil", "internal/reflectlite.TypeOf", "(internal/reflectlite.Value).Elem", "(internal/reflectlite.Value).Set"], unfollowed := true, recurses := true, named := ["errors.errorType"], apart := false, laid := [("errors.errorType", laid_errors_errorType)], narrowed := true }
def HostIsUptoSaid : Prop := hostIsUptoRow.holds Tryd.pinned (OpenSpec.upto hostIsSpec)

/-- 'burgagelaw1.AddrParts', WHERE WHAT IT READS IS OF BULK AT MOST 1048576: true; the input reads as it did. -/
def addrPartsUptoRow : OpenClaim := { program := "ytcgeagobndhpjaadoor", sum := "c9dbff6144a0016698679038e26540a3f35e191547c0c3632e344bb05d71590f", func := "burgage/burgagelaw1.AddrParts", spec := "addrParts", inPlace := ["internal/reflectlite.ValueOf", "(internal/reflectlite.Value).Type", "(internal/reflectlite.Value).IsNil", "internal/reflectlite.TypeOf", "(internal/reflectlite.Value).Elem", "(internal/reflectlite.Value).Set"], unfollowed := true, recurses := true, named := ["errors.errorType"], apart := false, laid := [("errors.errorType", laid_errors_errorType)], narrowed := true }
def AddrPartsUptoSaid : Prop := addrPartsUptoRow.holds Tryd.pinned (OpenSpec.upto addrPartsSpec)

/-- 'burgagelaw1.TreeIs', WHERE WHAT IT READS IS OF BULK AT MOST 1048576: true; the input reads as it did. -/
def treeIsUptoRow : OpenClaim := { program := "ytcgeagobndhpjaadoor", sum := "c9dbff6144a0016698679038e26540a3f35e191547c0c3632e344bb05d71590f", func := "burgage/burgagelaw1.TreeIs", spec := "treeIs", inPlace := ["internal/reflectlite.ValueOf", "(internal/reflectlite.Value).Type", "(internal/reflectlite.Value).IsNil", "internal/reflectlite.TypeOf", "(internal/reflectlite.Value).Elem", "(internal/reflectlite.Value).Set", "slices.overlaps[burgage/api.Prefix]"], unfollowed := true, recurses := true, named := ["errors.errorType"], apart := false, laid := [("errors.errorType", laid_errors_errorType)], narrowed := true }
def TreeIsUptoSaid : Prop := treeIsUptoRow.holds Tryd.pinned (OpenSpec.upto treeIsSpec)

/-- 'burgagelaw1.TreeBack', WHERE WHAT IT READS IS OF BULK AT MOST 1048576: true; the input reads as it did. -/
def treeBackUptoRow : OpenClaim := { program := "ytcgeagobndhpjaadoor", sum := "c9dbff6144a0016698679038e26540a3f35e191547c0c3632e344bb05d71590f", func := "burgage/burgagelaw1.TreeBack", spec := "treeBack", inPlace := ["slices.overlaps[burgage/api.Prefix]", "internal/reflectlite.ValueOf", "(internal/reflectlite.Value).Type", "(internal/reflectlite.Value).IsNil", "internal/reflectlite.TypeOf", "(internal/reflectlite.Value).Elem", "(internal/reflectlite.Value).Set"], unfollowed := true, recurses := true, named := ["errors.errorType"], apart := false, laid := [("errors.errorType", laid_errors_errorType)], narrowed := true }
def TreeBackUptoSaid : Prop := treeBackUptoRow.holds Tryd.pinned (OpenSpec.upto treeBackSpec)

/-- 'burgagelaw1.CoverFew', WHERE WHAT IT READS IS OF BULK AT MOST 1048576: true; the input reads as it did. -/
def coverFewUptoRow : OpenClaim := { program := "ytcgeagobndhpjaadoor", sum := "c9dbff6144a0016698679038e26540a3f35e191547c0c3632e344bb05d71590f", func := "burgage/burgagelaw1.CoverFew", spec := "coverFew", unfollowed := true, recurses := true, named := ["math/bits.deBruijn64tab"], apart := false, laid := [("math/bits.deBruijn64tab", laid_math_bits_deBruijn64tab)], narrowed := true }
def CoverFewUptoSaid : Prop := coverFewUptoRow.holds Tryd.pinned (OpenSpec.upto coverFewSpec)

/-- 'burgagelaw1.FreeBlocks', WHERE WHAT IT READS IS OF BULK AT MOST 1048576: true; the input reads as it did. -/
def freeBlocksUptoRow : OpenClaim := { program := "ytcgeagobndhpjaadoor", sum := "c9dbff6144a0016698679038e26540a3f35e191547c0c3632e344bb05d71590f", func := "burgage/burgagelaw1.FreeBlocks", spec := "freeBlocks", unfollowed := true, recurses := true, named := ["math/bits.deBruijn64tab"], apart := false, laid := [("math/bits.deBruijn64tab", laid_math_bits_deBruijn64tab)], narrowed := true }
def FreeBlocksUptoSaid : Prop := freeBlocksUptoRow.holds Tryd.pinned (OpenSpec.upto freeBlocksSpec)

/-- 'burgagelaw1.CoverIs', WHERE WHAT IT READS IS OF BULK AT MOST 1048576: true; the input reads as it did. -/
def coverIsUptoRow : OpenClaim := { program := "ytcgeagobndhpjaadoor", sum := "c9dbff6144a0016698679038e26540a3f35e191547c0c3632e344bb05d71590f", func := "burgage/burgagelaw1.CoverIs", spec := "coverIs", inPlace := ["internal/reflectlite.ValueOf", "(internal/reflectlite.Value).Type", "(internal/reflectlite.Value).IsNil", "internal/reflectlite.TypeOf", "(internal/reflectlite.Value).Elem", "(internal/reflectlite.Value).Set"], unfollowed := true, recurses := true, named := ["math/bits.deBruijn64tab", "errors.errorType"], apart := false, laid := [("math/bits.deBruijn64tab", laid_math_bits_deBruijn64tab), ("errors.errorType", laid_errors_errorType)], narrowed := true }
def CoverIsUptoSaid : Prop := coverIsUptoRow.holds Tryd.pinned (OpenSpec.upto coverIsSpec)

/-- 'burgagelaw1.SpanSets', WHERE WHAT IT READS IS OF BULK AT MOST 1048576: true; the input reads as it did. -/
def spanSetsUptoRow : OpenClaim := { program := "ytcgeagobndhpjaadoor", sum := "c9dbff6144a0016698679038e26540a3f35e191547c0c3632e344bb05d71590f", func := "burgage/burgagelaw1.SpanSets", spec := "spanSets", inPlace := ["internal/reflectlite.ValueOf", "(internal/reflectlite.Value).Type", "(internal/reflectlite.Value).IsNil", "internal/reflectlite.TypeOf", "(internal/reflectlite.Value).Elem", "(internal/reflectlite.Value).Set"], unfollowed := true, recurses := true, named := ["errors.errorType"], apart := false, laid := [("errors.errorType", laid_errors_errorType)], narrowed := true }
def SpanSetsUptoSaid : Prop := spanSetsUptoRow.holds Tryd.pinned (OpenSpec.upto spanSetsSpec)

/-- 'burgagelaw1.FreeIs', WHERE WHAT IT READS IS OF BULK AT MOST 1048576: true; the input reads as it did. -/
def freeIsUptoRow : OpenClaim := { program := "ytcgeagobndhpjaadoor", sum := "c9dbff6144a0016698679038e26540a3f35e191547c0c3632e344bb05d71590f", func := "burgage/burgagelaw1.FreeIs", spec := "freeIs", inPlace := ["internal/reflectlite.ValueOf", "(internal/reflectlite.Value).Type", "(internal/reflectlite.Value).IsNil", "internal/reflectlite.TypeOf", "(internal/reflectlite.Value).Elem", "(internal/reflectlite.Value).Set"], unfollowed := true, recurses := true, named := ["errors.errorType", "math/bits.deBruijn64tab"], apart := false, laid := [("math/bits.deBruijn64tab", laid_math_bits_deBruijn64tab), ("errors.errorType", laid_errors_errorType)], narrowed := true }
def FreeIsUptoSaid : Prop := freeIsUptoRow.holds Tryd.pinned (OpenSpec.upto freeIsSpec)

/-- 'burgagelaw1.FreeFits', WHERE WHAT IT READS IS OF BULK AT MOST 1048576: true; the input reads as it did. -/
def freeFitsUptoRow : OpenClaim := { program := "ytcgeagobndhpjaadoor", sum := "c9dbff6144a0016698679038e26540a3f35e191547c0c3632e344bb05d71590f", func := "burgage/burgagelaw1.FreeFits", spec := "freeFits", inPlace := ["internal/reflectlite.ValueOf", "(internal/reflectlite.Value).Type", "(internal/reflectlite.Value).IsNil", "internal/reflectlite.TypeOf", "(internal/reflectlite.Value).Elem", "(internal/reflectlite.Value).Set"], unfollowed := true, recurses := true, named := ["math/bits.deBruijn64tab", "errors.errorType"], apart := false, laid := [("math/bits.deBruijn64tab", laid_math_bits_deBruijn64tab), ("errors.errorType", laid_errors_errorType)], narrowed := true }
def FreeFitsUptoSaid : Prop := freeFitsUptoRow.holds Tryd.pinned (OpenSpec.upto freeFitsSpec)

end Rows
end Go.Proofs.YtcgeagobndhpjaaDoor
