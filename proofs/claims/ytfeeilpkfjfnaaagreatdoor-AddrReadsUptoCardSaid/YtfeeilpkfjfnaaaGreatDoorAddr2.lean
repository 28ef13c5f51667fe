/- Contracts of package addr: Halves, Up. Any prefix. -/
import Derived.Test.YtfeeilpkfjfnaaaGreatDoorAddr
import Derived.Test.YtfeeilpkfjfnaaaGreatDoorAddrMath
import Derived.Test.YtfeeilpkfjfnaaaGreatDoorTail
namespace Go.Proofs.YtfeeilpkfjfnaaaGreatDoor
set_option linter.unusedVariables false
set_option linter.unusedSimpArgs false
open Go.RowKit

/-- The facts of a block of two cells, at an address that is known to be it. -/
theorem Blk.at {w : World} {g h : Nat} {t : TypeId} {u v : Value} (hB : Blk w g t #[u, v]) (e : g = h) : w.cell? ⟨h, 0, none⟩ = some u ∧ w.cell? ⟨h, 1, none⟩ = some v ∧ w.frozen? ⟨h, 0, none⟩ = false ∧ w.frozen? ⟨h, 1, none⟩ = false := by
  subst e; exact hB.two

theorem Blk.drew {w : World} {g : Nat} {t : TypeId} {cs : Array Value} (h : Blk w g t cs) : Blk w.drew g t cs := h

def upFault (a n : Int) : Int := if chk a n ≠ 0 then chk a n else if n = 0 then 4 else 0
def UpV (a n : Int) : Value := if upFault a n = 0 then .tuple #[.agg #[.int .i64 (clr a (n - 1)), .int .i64 (n - 1)], .nilIface] else .tuple #[.agg #[.int .i64 0, .int .i64 0], .iface 24 (.int .i64 (upFault a n))]

def halvesFault (a n : Int) : Int := if chk a n ≠ 0 then chk a n else if n = 32 then 4 else 0
theorem halvesFault_zero {a n : Int} : halvesFault a n = 0 ↔ chk a n = 0 ∧ n ≠ 32 := by
  unfold halvesFault; split
  · simp_all
  · split <;> simp_all
theorem upFault_zero {a n : Int} : upFault a n = 0 ↔ chk a n = 0 ∧ n ≠ 0 := by
  unfold upFault; split
  · simp_all
  · split <;> simp_all
end Go.Proofs.YtfeeilpkfjfnaaaGreatDoor
