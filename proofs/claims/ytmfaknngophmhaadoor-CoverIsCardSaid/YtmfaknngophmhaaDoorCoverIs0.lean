/- The law CoverIs: what lies between its parts; small contracts. Any span, any lists. -/
import Derived.Test.YtmfaknngophmhaaDoorRefCover2
import Derived.Test.YtmfaknngophmhaaDoorLaw
import Derived.Test.YtmfaknngophmhaaDoorMake
namespace Go.Proofs.YtmfaknngophmhaaDoor
set_option linter.unusedVariables false
set_option linter.unusedSimpArgs false
open Go.RowKit

def CImid (A : Option Addr) (l : List Sp) (c : Nat) (B : Option Addr) (p : List Pf) (d : Nat) (w : World) (a' : Act) (w' : World) : Prop :=
  ∃ (U : Nat → Value) , a' = { tmps := #[U 0, .slice A l.length c, .slice B p.length d, U 3, U 4, U 5, .bool false, U 7, U 8, U 9, U 10, U 11, U 12, U 13, U 14, U 15, U 16, U 17, U 18, U 19, U 20, U 21, U 22, U 23, U 24, U 25, U 26, U 27, U 28, U 29, U 30, U 31, U 32, U 33, U 34, U 35, U 36, U 37, U 38, U 39, U 40, U 41, U 42, U 43, U 44, U 45, U 46, U 47, U 48, U 49, U 50, U 51, U 52, U 53, U 54, U 55, U 56, U 57, U 58, U 59, U 60, U 61, U 62, U 63, U 64, U 65, U 66, U 67, U 68, U 69, U 70, U 71, U 72, U 73, U 74, U 75, U 76, U 77, U 78, U 79, U 80, U 81, U 82, U 83, U 84, U 85, U 86, U 87, U 88, U 89, U 90, U 91, U 92, U 93, U 94, U 95, U 96, U 97, U 98, U 99, U 100, U 101, U 102, U 103, U 104, U 105, U 106, U 107, U 108], defers := [] } ∧ Below w.heap.size w w'
theorem CImid.mk {A : Option Addr} {l : List Sp} {c : Nat} {B : Option Addr} {p : List Pf} {d : Nat} {w : World} {T : Array Value} {w' : World}  (hT : T = #[T.getD 0 undef, .slice A l.length c, .slice B p.length d, T.getD 3 undef, T.getD 4 undef, T.getD 5 undef, .bool false, T.getD 7 undef, T.getD 8 undef, T.getD 9 undef, T.getD 10 undef, T.getD 11 undef, T.getD 12 undef, T.getD 13 undef, T.getD 14 undef, T.getD 15 undef, T.getD 16 undef, T.getD 17 undef, T.getD 18 undef, T.getD 19 undef, T.getD 20 undef, T.getD 21 undef, T.getD 22 undef, T.getD 23 undef, T.getD 24 undef, T.getD 25 undef, T.getD 26 undef, T.getD 27 undef, T.getD 28 undef, T.getD 29 undef, T.getD 30 undef, T.getD 31 undef, T.getD 32 undef, T.getD 33 undef, T.getD 34 undef, T.getD 35 undef, T.getD 36 undef, T.getD 37 undef, T.getD 38 undef, T.getD 39 undef, T.getD 40 undef, T.getD 41 undef, T.getD 42 undef, T.getD 43 undef, T.getD 44 undef, T.getD 45 undef, T.getD 46 undef, T.getD 47 undef, T.getD 48 undef, T.getD 49 undef, T.getD 50 undef, T.getD 51 undef, T.getD 52 undef, T.getD 53 undef, T.getD 54 undef, T.getD 55 undef, T.getD 56 undef, T.getD 57 undef, T.getD 58 undef, T.getD 59 undef, T.getD 60 undef, T.getD 61 undef, T.getD 62 undef, T.getD 63 undef, T.getD 64 undef, T.getD 65 undef, T.getD 66 undef, T.getD 67 undef, T.getD 68 undef, T.getD 69 undef, T.getD 70 undef, T.getD 71 undef, T.getD 72 undef, T.getD 73 undef, T.getD 74 undef, T.getD 75 undef, T.getD 76 undef, T.getD 77 undef, T.getD 78 undef, T.getD 79 undef, T.getD 80 undef, T.getD 81 undef, T.getD 82 undef, T.getD 83 undef, T.getD 84 undef, T.getD 85 undef, T.getD 86 undef, T.getD 87 undef, T.getD 88 undef, T.getD 89 undef, T.getD 90 undef, T.getD 91 undef, T.getD 92 undef, T.getD 93 undef, T.getD 94 undef, T.getD 95 undef, T.getD 96 undef, T.getD 97 undef, T.getD 98 undef, T.getD 99 undef, T.getD 100 undef, T.getD 101 undef, T.getD 102 undef, T.getD 103 undef, T.getD 104 undef, T.getD 105 undef, T.getD 106 undef, T.getD 107 undef, T.getD 108 undef]) (h : Below w.heap.size w w') : CImid A l c B p d w { tmps := T, defers := [] } w' :=
  ⟨fun i => T.getD i undef,  congrArg (fun t => ({ tmps := t, defers := [] } : Act)) hT, h⟩
theorem spans_same (A B : Option Addr) (a b : List Sp) (n m c d : Nat) (hn : n = a.length) (hm : m = b.length) (hx : a.length ≤ maxLen) (hab : a = b) (w : World) (hl : Rd w w.heap.size A (cellsP a)) (hr : Rd w w.heap.size B (cellsP b)) :
    Calls Tryd.prog 11 #[.slice A n c, .slice B m d] w fun e w' => e = .returned (.bool true) ∧ Below w.heap.size w w' := by
  subst hn hm
  exact (spans_any A B a b c d hx w hl hr).mono fun e w' h => ⟨by rw [h.1, decide_eq_true hab], h.2⟩
theorem spans_nil (w : World) : Calls Tryd.prog 11 #[.slice none 0 0, .slice none 0 0] w fun e w' => e = .returned (.bool true) ∧ Below w.heap.size w w' :=
  spans_same none none [] [] 0 0 0 0 rfl rfl (Nat.zero_le _) rfl w (fun h => absurd rfl h) (fun h => absurd rfl h)
theorem prefixes_nil (w : World) : Calls Tryd.prog 22 #[.slice none 0 0, .slice none 0 0] w fun e w' => e = .returned (.bool true) ∧ Below w.heap.size w w' :=
  prefixes_same none none [] [] 0 0 0 0 rfl rfl (Nat.zero_le _) rfl w (fun h => absurd rfl h) (fun h => absurd rfl h)
theorem spansOf_bad (A : Option Addr) (p : List Pf) (c : Nat) (hm : p.length ≤ maxLen) (hf : spansPFault p ≠ 0) (w : World) (hl : Rd w w.heap.size A (cellsP p)) :
    Calls Tryd.prog 25 #[.slice A p.length c] w fun e w' => e = .returned (.tuple #[.slice none 0 0, .int .i64 (spansPFault p)]) ∧ Below w.heap.size w w' :=
  (spansOf_any A p c hm w hl).mono fun e w' h => ⟨h.2.2 hf, h.1⟩
theorem spansOf_ok (A : Option Addr) (p : List Pf) (c : Nat) (hm : p.length ≤ maxLen) (hf : spansPFault p = 0) (w : World) (hl : Rd w w.heap.size A (cellsP p)) :
    Calls Tryd.prog 25 #[.slice A p.length c] w fun e w' => ∃ v, e = .returned (.tuple #[v, .int .i64 0]) ∧ OwnP w' w.heap.size 26 v (norm (spansP p)) ∧ Below w.heap.size w w' :=
  (spansOf_any A p c hm w hl).mono fun e w' h => by
    obtain ⟨v, q1, q2⟩ := h.2.1 hf
    exact ⟨v, q1, q2, h.1⟩
theorem fewestFault_spans {p : List Pf} (h : spansPFault p ≠ 0) : fewestFault p = spansPFault p := if_pos h
theorem fewestFault_full {p : List Pf} (h : spansPFault p = 0) (h2 : 200 < (fewest p).length) : fewestFault p = 3 := by unfold fewestFault; rw [if_neg (by simp [h]), if_pos h2]
theorem fewestFault_ok {p : List Pf} (h : spansPFault p = 0) (h2 : (fewest p).length ≤ 200) : fewestFault p = 0 := by unfold fewestFault; rw [if_neg (by simp [h]), if_neg (by omega)]
end Go.Proofs.YtmfaknngophmhaaDoor
