/- Small contracts that several laws use: two sets that are the same; a prefix that is within another, or is not. No conditions. -/
import Derived.Test.YtobmndjdlmeipaaDoorFree
import Derived.Test.YtobmndjdlmeipaaDoorCover
import Derived.Test.YtobmndjdlmeipaaDoorMake
import Derived.Test.YtobmndjdlmeipaaDoorSame
import Derived.Test.YtobmndjdlmeipaaDoorTail
import Derived.Test.YtobmndjdlmeipaaDoorCut
namespace Go.Proofs.YtobmndjdlmeipaaDoor
set_option linter.unusedVariables false
set_option linter.unusedSimpArgs false
open Go.RowKit
theorem spans_same (A B : Option Addr) (a b : List Sp) (n m c d : Nat) (hn : n = a.length) (hm : m = b.length) (hx : a.length ≤ maxLen) (hab : a = b) (w : World) (hl : Rd w w.heap.size A (cellsP a)) (hr : Rd w w.heap.size B (cellsP b)) :
    Calls Tryd.prog 16 #[.slice A n c, .slice B m d] w fun e w' => e = .returned (.bool true) ∧ Below w.heap.size w w' := by
  subst hn hm
  exact (spans_any A B a b c d hx w hl hr).mono fun e w' h => ⟨by rw [h.1, decide_eq_true hab], h.2⟩
theorem blocks3_ok : blocksFault (0, 30) [(0, 32)] = 0 := blocksFault_zero.2 ⟨freeFault_zero.2 ⟨by decide, by decide, by decide⟩, by rw [blocks3]; decide⟩
theorem within_yes (p q : Pf) (hp : chkP p = 0) (hq : chkP q = 0) (h : inQ p q = true) (w : World) :
    Calls Tryd.prog 11 #[.agg #[.int .i64 p.1, .int .i64 p.2], .agg #[.int .i64 q.1, .int .i64 q.2]] w fun e w' => e = .returned (.tuple #[.bool true, .nilIface]) ∧ Below w.heap.size w w' := (within_ok p q hp hq w).mono fun e w' x => by rw [h] at x; exact x
theorem within_no (p q : Pf) (hp : chkP p = 0) (hq : chkP q = 0) (h : inQ p q = false) (w : World) :
    Calls Tryd.prog 11 #[.agg #[.int .i64 p.1, .int .i64 p.2], .agg #[.int .i64 q.1, .int .i64 q.2]] w fun e w' => e = .returned (.tuple #[.bool false, .nilIface]) ∧ Below w.heap.size w w' := (within_ok p q hp hq w).mono fun e w' x => by rw [h] at x; exact x
end Go.Proofs.YtobmndjdlmeipaaDoor
