/- The law TreeIs: the walk. Any list, any prefix, any number. -/
import Derived.Test.YtcgeagobndhpjaaDoorTreeIs1
import Derived.Test.YtcgeagobndhpjaaDoorTreeIs2
import Derived.Test.YtcgeagobndhpjaaDoorTreeIs3
namespace Go.Proofs.YtcgeagobndhpjaaDoor
set_option linter.unusedVariables false
set_option linter.unusedSimpArgs false
open Go.RowKit

theorem treeIs_walk (A : Option Addr) (l : List Pf) (c : Nat) (hm : l.length ≤ maxLen) (a0 n0 : Int) (a : Int) (wa : (Lit.int .i64 a).wf = true) (w : World) (hg : ErrVar w) (hl : Rd w w.heap.size A (cellsP l)) :
    Calls Tryd.prog 5 #[.slice A l.length c, .agg #[.int .i64 a0, .int .i64 n0], .int .i64 a] w fun e w' => e = .returned (.bool true) ∧ Below w.heap.size w w' := by
  have h5 : ∀ s0 w0, TImid A l c (a0, n0) a w s0 w0 → (tailN 8 (tailN 5 (tailN 5 (tailN 4 (Tryd.f5.body.getD .skip))))).wp Tryd.prog (bodyPost Tryd.prog Tryd.f5 fun e w' => e = .returned (.bool true) ∧ Below w.heap.size w w') s0 w0 := fun s0 w0 h0 => by
    by_cases ht : treeFault l = 0
    · by_cases hp : chk a0 n0 = 0
      · exact treeIs_5c A l c (a0, n0) a hm w hg hl ht hp s0 w0 h0
      · exact treeIs_5b A l c (a0, n0) a hm w hg hl ht hp s0 w0 h0
    · exact treeIs_5a A l c (a0, n0) a hm w hg hl ht s0 w0 h0
  have h4 : ∀ s0 w0, TImid A l c (a0, n0) a w s0 w0 → (tailN 5 (tailN 5 (tailN 4 (Tryd.f5.body.getD .skip)))).wp Tryd.prog (bodyPost Tryd.prog Tryd.f5 fun e w' => e = .returned (.bool true) ∧ Below w.heap.size w w') s0 w0 := fun s0 w0 h0 => by
    by_cases ht : treeFault l = 0
    · cases ha : isA a
      · exact treeIs_4b A l c (a0, n0) a hm w hg hl ht ha _ s0 w0 h0 h5
      · by_cases hn : l.filter (inQ (a, 32)) = []
        · exact treeIs_4c A l c (a0, n0) a hm w hg hl ht ha hn _ s0 w0 h0 h5
        · exact treeIs_4d A l c (a0, n0) a hm w hg hl (findFault_of ht ha hn) _ s0 w0 h0 h5
    · exact treeIs_4a A l c (a0, n0) a hm w hg hl ht _ s0 w0 h0 h5
  have h3 : ∀ s0 w0, TImid A l c (a0, n0) a w s0 w0 → (tailN 5 (tailN 4 (Tryd.f5.body.getD .skip))).wp Tryd.prog (bodyPost Tryd.prog Tryd.f5 fun e w' => e = .returned (.bool true) ∧ Below w.heap.size w w') s0 w0 := fun s0 w0 h0 => by
    by_cases h2 : treeFault2 l (a0, n0) = 0
    · by_cases hmem : (a0, n0) ∈ l
      · exact treeIs_3c A l c (a0, n0) a hm w hg hl h2 hmem _ s0 w0 h0 h4
      · exact treeIs_3b A l c (a0, n0) a hm w hg hl h2 hmem _ s0 w0 h0 h4
    · exact treeIs_3a A l c (a0, n0) a hm w hg hl h2 _ s0 w0 h0 h4
  have h2 : ∀ s0 w0, TImid A l c (a0, n0) a w s0 w0 → (tailN 4 (Tryd.f5.body.getD .skip)).wp Tryd.prog (bodyPost Tryd.prog Tryd.f5 fun e w' => e = .returned (.bool true) ∧ Below w.heap.size w w') s0 w0 := fun s0 w0 h0 => by
    by_cases h2 : treeFault2 l (a0, n0) = 0
    · by_cases hmem : (a0, n0) ∈ l
      · exact treeIs_2b A l c (a0, n0) a hm w hg hl h2 hmem _ s0 w0 h0 h3
      · by_cases h60 : l.length = 60
        · exact treeIs_2c A l c (a0, n0) a hm w hg hl h2 hmem h60 _ s0 w0 h0 h3
        · exact treeIs_2d A l c (a0, n0) a hm w hg hl (putFault_ok h2 hmem h60) _ s0 w0 h0 h3
    · exact treeIs_2a A l c (a0, n0) a hm w hg hl h2 _ s0 w0 h0 h3
  by_cases ht : treeFault l = 0
  · exact treeIs_1a A l c (a0, n0) a hm w hg hl ht _ h2
  · exact treeIs_1b A l c (a0, n0) a hm w hg hl ht _ h2
end Go.Proofs.YtcgeagobndhpjaaDoor
