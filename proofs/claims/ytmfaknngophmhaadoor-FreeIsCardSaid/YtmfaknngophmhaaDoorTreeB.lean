/- Small facts on prefixes. No conditions. -/
import Derived.Test.YtmfaknngophmhaaDoorAddr
import Derived.Test.YtmfaknngophmhaaDoorTreeMath
namespace Go.Proofs.YtmfaknngophmhaaDoor
set_option linter.unusedVariables false
set_option linter.unusedSimpArgs false
open Go.RowKit

theorem infoPfx : (Tryd.prog.info? 46).map (fun i => (i.zero, i.size, i.bytes)) = some (some (.agg #[.int .i64 0, .int .i64 0]), 2, 16) := by kernel_rfl

theorem takeFilter_snoc {α : Type} (f : α → Bool) (l : List α) (k : Nat) (h : k < l.length) : (l.take (k + 1)).filter f = (l.take k).filter f ++ (if f l[k] then [l[k]] else []) := by
  rw [List.take_succ_eq_append_getElem h, List.filter_append]
  congr 1
  by_cases hf : f l[k] <;> simp [List.filter, hf]


def FaultV (k : Int) : Value := if k = 0 then .nilIface else .iface 23 (.int .i64 k)
theorem take_all {l : List Pf} {k : Nat} (h : k < l.length) (hv : ∀ p ∈ l.take k, chkP p = 0) (hc : chkP l[k] = 0) : ∀ p ∈ l.take (k + 1), chkP p = 0 := by
  intro p hp
  rw [List.take_succ_eq_append_getElem h, List.mem_append] at hp
  rcases hp with hp | hp
  · exact hv p hp
  · simp at hp; subst hp; exact hc

def OwnRes2 (e : TypeId) (w : World) (l : List (Int × Int)) (en : Ending) (w' : World) : Prop := ∃ v, en = .returned (.tuple #[v, .nilIface]) ∧ OwnP w' w.heap.size e v l ∧ Below w.heap.size w w'
end Go.Proofs.YtmfaknngophmhaaDoor
