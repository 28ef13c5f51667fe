/- Contracts of Put and Drop. -/
import Derived.Test.YtdmnejanckdajaaDoorVers7
namespace Go.Proofs.YtdmnejanckdajaaDoor
set_option linter.unusedVariables false
set_option linter.unusedSimpArgs false
set_option maxRecDepth 100000
open Go.RowKit

def putF (F : List UInt8 → List Ver) (s : List UInt8) (v : Ver) (top : Int) : List UInt8 → List Ver := if putE s v top = 0 then putV F s v else F
def putT (s : List UInt8) (v : Ver) (top : Int) : Int := if putE s v top = 0 then v.n else top
theorem Put_any (t : Nat) (F : List UInt8 → List Ver) (top : Int) (m : Nat) (S : Nat → Prop) (s : List UInt8) (hs : s.length ≤ maxLen) (l : List UInt8) (hv : l.length ≤ maxLen) (n : Int) (hm : m < 1000000) (w : World) (hT : TblAt w S t F top m) :
    Calls Tryd.prog 6 #[.pointer (some ⟨t, 0, none⟩), txt s, txt l, .int .i64 n] w fun e w' => e = .returned (faultV (putE s ⟨n, l, false⟩ top)) ∧ Fr S w w' ∧
      TblAt w' (plus S w) t (putF F s ⟨n, l, false⟩ top) (putT s ⟨n, l, false⟩ top) (m + 1) := by
  have HP := Lib.hid (put_any t F top m S s hs ⟨n, l, false⟩ hv hm w hT)
  go_enter Tryd.func6, Tryd.ntmps6
  go_wp2_with fail
  refine HP.out.mono ?_
  rintro e w1 ⟨rfl, h1, h2⟩
  have H2 := Lib.hid h2
  clear h2
  go_wp2
  go_ret
  exact ⟨rfl, h1, H2.out⟩
theorem Drop_any (t : Nat) (F : List UInt8 → List Ver) (top : Int) (m : Nat) (S : Nat → Prop) (s : List UInt8) (hs : s.length ≤ maxLen) (n : Int) (hm : m < 1000000) (w : World) (hT : TblAt w S t F top m) :
    Calls Tryd.prog 9 #[.pointer (some ⟨t, 0, none⟩), txt s, .int .i64 n] w fun e w' => e = .returned (faultV (putE s ⟨n, [], true⟩ top)) ∧ Fr S w w' ∧
      TblAt w' (plus S w) t (putF F s ⟨n, [], true⟩ top) (putT s ⟨n, [], true⟩ top) (m + 1) := by
  have HP := Lib.hid (put_any t F top m S s hs ⟨n, [], true⟩ (by simp) hm w hT)
  go_enter Tryd.func9, Tryd.ntmps9
  go_wp2_with fail
  refine HP.out.mono ?_
  rintro e w1 ⟨rfl, h1, h2⟩
  have H2 := Lib.hid h2
  clear h2
  go_wp2
  go_ret
  exact ⟨rfl, h1, H2.out⟩
end Go.Proofs.YtdmnejanckdajaaDoor
