/- The law AddrParts, its parts together. Any prefixes, any two numbers. -/
import Derived.Test.YtcgeagobndhpjaaDoorAddrParts1a
import Derived.Test.YtcgeagobndhpjaaDoorAddrParts1b
import Derived.Test.YtcgeagobndhpjaaDoorAddrParts1c
import Derived.Test.YtcgeagobndhpjaaDoorAddrParts1d
import Derived.Test.YtcgeagobndhpjaaDoorAddrParts2
import Derived.Test.YtcgeagobndhpjaaDoorAddrParts3
namespace Go.Proofs.YtcgeagobndhpjaaDoor
set_option linter.unusedVariables false
set_option linter.unusedSimpArgs false
open Go.RowKit

theorem addrParts_walk (a n b m x : Int) (wx : (Lit.int .i64 x).wf = true) (y : Int) (wy : (Lit.int .i64 y).wf = true) (w : World) (hg : ErrVar w) :
    Calls Tryd.prog 4 #[.agg #[.int .i64 a, .int .i64 n], .agg #[.int .i64 b, .int .i64 m], .int .i64 x, .int .i64 y] w fun e w' => e = .returned (.bool true) ∧ Below w.heap.size w w' := by
  have h3 : ∀ s0 w0, APmid2 a n b m x y w s0 w0 → (tailN 4 (tailN 20 (Tryd.f4.body.getD .skip))).wp Tryd.prog (bodyPost Tryd.prog Tryd.f4 fun e w' => e = .returned (.bool true) ∧ Below w.heap.size w w') s0 w0 := fun s0 w0 h0 => by
    cases hx : isA x
    · exact addrParts_3a a n b m x y w hg hx s0 w0 h0
    · cases hy : isA y
      · exact addrParts_3b a n b m x y w hg hx hy s0 w0 h0
      · exact addrParts_3c a n b m x y w hg hx hy s0 w0 h0
  have h2 : ∀ s0 w0, APmid1 a n b m x y w s0 w0 → (tailN 20 (Tryd.f4.body.getD .skip)).wp Tryd.prog (bodyPost Tryd.prog Tryd.f4 fun e w' => e = .returned (.bool true) ∧ Below w.heap.size w w') s0 w0 := fun s0 w0 h0 => by
    by_cases hc : chk a n = 0
    · by_cases hd : chk b m = 0
      · exact addrParts_2c a n b m x y w hg hc hd _ s0 w0 h0 h3
      · exact addrParts_2b a n b m x y w hg hc hd _ s0 w0 h0 h3
    · exact addrParts_2a a n b m x y w hg hc _ s0 w0 h0 h3
  by_cases hc : chk a n = 0
  · by_cases h32 : n = 32
    · exact addrParts_1b a n b m x y w hg hc h32 _ h2
    · by_cases hz : n = 0
      · exact addrParts_1c a n b m x y w hg hc hz _ h2
      · exact addrParts_1d a n b m x y w hg hc h32 hz _ h2
  · exact addrParts_1a a n b m x y w hg hc _ h2
end Go.Proofs.YtcgeagobndhpjaaDoor
