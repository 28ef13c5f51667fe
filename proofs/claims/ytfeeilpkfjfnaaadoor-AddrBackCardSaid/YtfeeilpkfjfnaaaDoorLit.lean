/- A literal list just laid; two lists that are one. -/
import Derived.Test.YtfeeilpkfjfnaaaDoorSame
namespace Go.Proofs.YtfeeilpkfjfnaaaDoor
set_option linter.unusedVariables false
set_option linter.unusedSimpArgs false
open Go.RowKit

theorem prefixes_same (A B : Option Addr) (a b : List (Int × Int)) (n m c d : Nat) (hn : n = a.length) (hm : m = b.length) (hx : a.length ≤ maxLen) (hab : a = b) (w : World) (hl : Rd w w.heap.size A (cellsP a)) (hr : Rd w w.heap.size B (cellsP b)) :
    Calls Tryd.prog 11 #[.slice A n c, .slice B m d] w fun e w' => e = .returned (.bool true) ∧ Below w.heap.size w w' := by
  subst hn hm
  exact (prefixes_any A B a b c d hx w hl hr).mono fun e w' h => ⟨by rw [h.1, decide_eq_true hab], h.2⟩
/-- A literal list just laid. -/
theorem rd_new (w : World) (l : List (Int × Int)) (cs : Array Value) (t : TypeId) (g : Nat) (hg : g = w.heap.size) (hcs : cs.toList = cellsP l) : Rd (w.alloc (.cells cs t)) (w.alloc (.cells cs t)).heap.size (some ⟨g, 0, none⟩) (cellsP l) := fun _ => by
  subst hg
  refine ⟨w.heap.size, 0, rfl, by simp, fun j u hj => ?_⟩
  rw [← hcs] at hj
  have := (Blk.new w t cs).cell j
  rw [Nat.zero_add, this]
  simpa using hj
end Go.Proofs.YtfeeilpkfjfnaaaDoor
