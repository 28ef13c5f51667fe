/- Parts of the proof; conditions: as each theorem says. -/
import Derived.Test.YthleniobcbdepaaGreatDoorP10
import Derived.ProofKit
import Derived.OpenShut
import Derived.ShutString
import Derived.ChangeOld
import Derived.Below
import Derived.Lib.SmallJoins
import Derived.Deep.SlicePairs
import Derived.Test.YthleniobcbdepaaGreatDoorP11
import Derived.Deep.Strs
import Derived.ChangeMaps5
set_option linter.unusedVariables false
set_option linter.unusedSimpArgs false
namespace Go.Proofs.YthleniobcbdepaaGreatDoor
open Go.ChangeShapes Go.WideShapes Go.ChangeAt Go.RowKit Go.Joins Go.Deep
section
variable {H : Type} {enc : TypeId × Value → H} {P : Program} {W : World} {base : Nat} {spare : Nat → Bool} {held : Bool} {r : Reach} {b0 : Nat}
theorem add_none (a : Addr) (i : Nat) (h : a.spot = none) : a.add i = ⟨a.block, a.off + i, none⟩ := by
 obtain ⟨b, off, s⟩ := a
 simp at h
 subst h
 unfold Addr.add
 split <;> simp_all
end
section
variable {H : Type} {enc : TypeId × Value → H} {P : Program} {W : World} {base : Nat} {spare : Nat → Bool} {held : Bool} {r : Reach} {b0 : Nat}
end
theorem str_data2 (s : ByteArray) : (⟨s.data.toList.toArray⟩ : ByteArray) = s := by
 obtain ⟨a⟩ := s
 simp
section
variable {H : Type} {enc : TypeId × Value → H} {P : Program} {W : World} {base : Nat} {spare : Nat → Bool} {held : Bool} {r : Reach} {b0 : Nat}
end
section
variable {H : Type} {enc : TypeId × Value → H} {P : Program} {W : World} {base : Nat} {spare : Nat → Bool} {held : Bool} {r : Reach} {b0 : Nat}
theorem open_twow {t q : TypeId} {f0 f1 : Field} {v : Value} {d : DataW H} {p : List MemPlace} (hs : P.underlying t = some (.struct #[f0, f1])) (hone : oneCellFields P #[f0, f1] = true) (hC : P.cellsOf t = 2)
  (hq : P.underlying q = some (.int .i64)) (h0 : f0.type = q) (h1 : f1.type = q) (hv : Value.okWide P W r b0 t v) (h : DataW.Trod enc P W base spare held t v d p) :
  ∃ a n, v = .agg #[.int .i64 a, .int .i64 n] ∧ (Lit.int .i64 a).wf = true ∧ (Lit.int .i64 n).wf = true := by
 obtain ⟨v0, v1, y0, y1, m, rfl, _, _, g0, g1⟩ := open_agg2 hs hone hC hv h
 rw [h0] at g0
 rw [h1] at g1
 obtain ⟨a, e0, _, w0⟩ := DataW.trod_int hq g0
 obtain ⟨n, e1, _, w1⟩ := DataW.trod_int hq g1
 simp at e0 e1
 subst e0 e1
 exact ⟨a, n, rfl, w0, w1⟩
end
end Go.Proofs.YthleniobcbdepaaGreatDoor
