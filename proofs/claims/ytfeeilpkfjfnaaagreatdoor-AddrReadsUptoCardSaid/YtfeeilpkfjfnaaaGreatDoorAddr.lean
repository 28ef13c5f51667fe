/- Contracts of package addr: rest, Is, Last, Check, In, Ends. Arguments: any integers, where no bound is stated. -/
import Derived.Test.YtfeeilpkfjfnaaaGreatDoorProg
import Derived.Test.YtfeeilpkfjfnaaaGreatDoorMath
import Derived.Test.YtfeeilpkfjfnaaaGreatDoorKit
namespace Go.Proofs.YtfeeilpkfjfnaaaGreatDoor
set_option linter.unusedVariables false
set_option linter.unusedSimpArgs false
open Go.RowKit

theorem rest_any (n : Int) (h0 : 0 ≤ n) (h1 : n ≤ 32) (w : World) :
    Calls Tryz.prog 25 #[.int .i64 n] w fun e w' => e = .returned (.int .i64 (sz n - 1)) ∧ w = w' := by
  have hs := sz_le n h0
  have hp := sz_pos n
  unfold sz at *
  go_enter Tryz.func25, Tryz.ntmps25
  go_wp2
  go_ret
  exact ⟨rfl, rfl⟩

theorem is_any (n : Int) (w : World) :
    Calls Tryz.prog 21 #[.int .i64 n] w fun e w' => e = .returned (.bool (isA n)) ∧ w = w' := by
  unfold isA
  by_cases h : 0 ≤ n
  all_goals
    go_enter Tryz.func21, Tryz.ntmps21
    go_wp2
    go_ret
    exact ⟨by simp [h] <;> omega, rfl⟩

/-- An error that is one of package api's numbers. -/
def errV (k : Int) : Value := .iface 24 (.int .i64 k)

theorem check_any (a n : Int) (w : World) :
    Calls Tryz.prog 14 #[.agg #[.int .i64 a, .int .i64 n]] w fun e w' => e = .returned (if chk a n = 0 then .nilIface else errV (chk a n)) ∧ Below w.heap.size w w' := by
  unfold errV
  by_cases h1 : n < 0
  · have hk : chk a n = 1 := by unfold chk; rw [if_pos (.inl h1)]
    rw [hk]
    clear hk
    go_enter Tryz.func14, Tryz.ntmps14
    go_wp2
    go_ret
    exact ⟨rfl, (Below.refl _ _).alloc (Nat.le_refl _) _⟩
  by_cases h2 : 32 < n
  · have hk : chk a n = 1 := by unfold chk; rw [if_pos (.inr (.inl h2))]
    rw [hk]
    clear hk
    go_enter Tryz.func14, Tryz.ntmps14
    go_wp2
    go_ret
    exact ⟨rfl, (Below.refl _ _).alloc (Nat.le_refl _) _⟩
  have h1' : 0 ≤ n := by omega
  have h2' : n ≤ 32 := by omega
  clear h1 h2
  by_cases h3 : isA a = false
  · have hk : chk a n = 1 := by unfold chk; rw [if_pos (.inr (.inr h3))]
    rw [hk]
    clear hk
    go_enter Tryz.func14, Tryz.ntmps14
    go_wp2_with (go_at_call 21; refine (is_any _ _).mono ?_; rintro e w' ⟨rfl, rfl⟩)
    go_ret
    exact ⟨rfl, (Below.refl _ _).alloc (Nat.le_refl _) _⟩
  have h3' : isA a = true := by simpa using h3
  have hk : chk a n = if a % sz n = 0 then 0 else 2 := by unfold chk; rw [if_neg (by simp [h3']; omega)]
  obtain ⟨g1, g2⟩ := isA_true.1 h3'
  have hb := and_rest h1' g1 g2
  rw [hk]
  clear hk h3
  have HB := Lib.hid hb
  clear hb
  by_cases h4 : a % sz n = 0
  · have h5 : (bits .and .i64 a (sz n - 1) != 0) = false := by rw [HB.out, h4]; rfl
    rw [if_pos h4]
    clear h4
    go_enter Tryz.func14, Tryz.ntmps14
    go_wp2_with (go_at_call 21; refine (is_any _ _).mono ?_; rintro e w' ⟨rfl, rfl⟩)
    go_quiet ((go_at_call 25; exact Calls.quiet_of_same ((rest_any _ h1' h2' _).mono fun e w' h => ⟨h.1, h.2.symm⟩)))
    go_wp2
    go_ret
    exact ⟨rfl, ((Below.refl _ _).alloc (Nat.le_refl _) _).trans (below_drewN (Below.refl _ _) _)⟩
  · have h5 : (bits .and .i64 a (sz n - 1) != 0) = true := by rw [HB.out, bne_iff_ne]; exact h4
    rw [if_neg h4]
    clear h4
    go_enter Tryz.func14, Tryz.ntmps14
    go_wp2_with (go_at_call 21; refine (is_any _ _).mono ?_; rintro e w' ⟨rfl, rfl⟩)
    go_quiet ((go_at_call 25; exact Calls.quiet_of_same ((rest_any _ h1' h2' _).mono fun e w' h => ⟨h.1, h.2.symm⟩)))
    go_wp2
    go_ret
    exact ⟨rfl, ((Below.refl _ _).alloc (Nat.le_refl _) _).trans (below_drewN (Below.refl _ _) _)⟩

theorem check_ok (a n : Int) (hc : chk a n = 0) (w : World) :
    Calls Tryz.prog 14 #[.agg #[.int .i64 a, .int .i64 n]] w fun e w' => e = .returned .nilIface ∧ Below w.heap.size w w' :=
  (check_any a n w).mono fun e w' h => ⟨by rw [h.1, if_pos hc], h.2⟩
theorem check_bad (a n : Int) (hc : chk a n ≠ 0) (w : World) :
    Calls Tryz.prog 14 #[.agg #[.int .i64 a, .int .i64 n]] w fun e w' => e = .returned (.iface 24 (.int .i64 (chk a n))) ∧ Below w.heap.size w w' :=
  (check_any a n w).mono fun e w' h => ⟨by rw [h.1, if_neg hc]; rfl, h.2⟩

end Go.Proofs.YtfeeilpkfjfnaaaGreatDoor
