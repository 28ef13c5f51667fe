/- A row of one-cell elements into which one is put: what an append, a copy to the right by one place and a store make of it. No conditions, no program. -/
import Derived.Test.YtmfaknngophmhaaDoorKit
import Derived.Laws.CopyOwn
namespace Go.Proofs.YtmfaknngophmhaaDoor
set_option linter.unusedVariables false
set_option linter.unusedSimpArgs false
open Go.RowKit

theorem splice_row {L xs : List Value} {z u : Value} {n k : Nat} (hx : xs.length = n) (hk : k ≤ n) (hL : L.take (n + 1) = xs ++ [z]) : ((splice L (k + 1) (xs.drop k)).set k u).take (n + 1) = xs.take k ++ u :: xs.drop k := by
  have hlen : n + 1 ≤ L.length := by
    have := congrArg List.length hL
    simp at this; omega
  have hk1 : L.take k = xs.take k := by
    have := congrArg (List.take k) hL
    rwa [List.take_take, Nat.min_eq_left (by omega), List.take_append_of_le_length (by omega)] at this
  have h1 : L.take (k + 1) = xs.take k ++ [L[k]'(by omega)] := by rw [List.take_succ_eq_append_getElem (by omega), hk1]
  have hkl : (xs.take k).length = k := by simp; omega
  unfold splice
  rw [h1, List.append_assoc, List.set_append_right _ _ (by omega), hkl, Nat.sub_self]
  simp only [List.cons_append, List.nil_append, List.set_cons_zero]
  have hd : (xs.drop k).length = n - k := by simp; omega
  have e1 : n + 1 = k + ((n - k) + 1) := by omega
  rw [e1, show xs.take k ++ u :: (xs.drop k ++ L.drop (k + 1 + (xs.drop k).length)) = xs.take k ++ (u :: (xs.drop k ++ L.drop (k + 1 + (xs.drop k).length))) from rfl]
  rw [List.take_append, hkl, Nat.add_sub_cancel_left, List.take_of_length_le (by rw [hkl]; omega), List.take_succ_cons, List.take_left' hd]
theorem own_ins {w w' : World} {base n k cap g : Nat} {e : TypeId} {xs : List Value} {z u : Value} {cur : List Value} (h : w.ownsRow base e 1 (.slice (some ⟨g, 0, none⟩) (n + 1) cap) (n + 1) (xs ++ [z])) (hx : xs.length = n) (hk : k ≤ n)
    (hc : w.heap[g]? = some (.cells cur.toArray e (0, 0))) (hw : w'.heap[g]? = some (.cells (splice cur (k + 1) (xs.drop k)).toArray e (0, 0))) :
    (w'.setCell ⟨g, k, none⟩ u).ownsRow base e 1 (.slice (some ⟨g, 0, none⟩) (n + 1) cap) (n + 1) (xs.take k ++ u :: xs.drop k) := by
  obtain ⟨h1, h2⟩ := h
  rcases h2 with ⟨h3, _⟩ | ⟨g', cap', cur', hv, hb, hh, hn, hm, hcs, ht⟩
  · cases h3
  · injection hv with e1 e2 e3
    injection e1 with e1
    injection e1 with e1
    subst e1 e3
    rw [hc] at hh
    injection hh with hh
    injection hh with hh
    subst hh
    simp only [List.toList_toArray, Nat.mul_one, List.size_toArray] at ht hcs
    have hl : (splice cur (k + 1) (xs.drop k)).length = cur.length := length_splice _ _ _ (by simp; omega)
    refine ⟨by simp; omega, .inr ⟨g, cap, ((splice cur (k + 1) (xs.drop k)).set k u).toArray, rfl, hb, ?_, hn, hm, by simp [hl, hcs], by simpa using splice_row hx hk ht⟩⟩
    simp [World.setCell, Array.getElem?_modify, hw]
/-- The whole block of a row that is not nil. -/
theorem own_block {w : World} {base n : Nat} {e : TypeId} {v : Value} {xs : List Value} (h : w.ownsRow base e 1 v n xs) (hn : 0 < n) : ∃ g cap cur, v = .slice (some ⟨g, 0, none⟩) n cap ∧ base ≤ g ∧ g < w.heap.size ∧ n ≤ cap ∧ w.heap[g]? = some (.cells (cur : List Value).toArray e (0, 0)) ∧ n ≤ cur.length ∧ cur.take n = xs := by
  obtain ⟨h1, h2⟩ := h
  rcases h2 with ⟨_, h3⟩ | ⟨g, cap, cur, hv, hb, hh, hn, hm, hcs, ht⟩
  · omega
  · exact ⟨g, cap, cur.toList, hv, hb, (Array.getElem?_eq_some_iff.1 hh).1, hn, by simpa using hh, by simp; omega, by simpa using ht⟩
end Go.Proofs.YtmfaknngophmhaaDoor
