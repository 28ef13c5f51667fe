/- Contracts of package addr: rest, Is, Last, Check, In, Ends. Arguments: any integers, where no bound is stated. -/
import Derived.Test.YtemokelgafndpaaGreatDoorProg
import Derived.Test.YtemokelgafndpaaGreatDoorMath
import Derived.Test.YtemokelgafndpaaGreatDoorKit
namespace Go.Proofs.YtemokelgafndpaaGreatDoor
set_option linter.unusedVariables false
set_option linter.unusedSimpArgs false
open Go.RowKit

theorem rest_any (n : Int) (h0 : 0 ≤ n) (h1 : n ≤ 32) (w : World) :
    Calls Tryz.prog 46 #[.int .i64 n] w fun e w' => e = .returned (.int .i64 (sz n - 1)) ∧ w = w' := by
  have hs := sz_le n h0
  have hp := sz_pos n
  unfold sz at *
  go_enter Tryz.func46, Tryz.ntmps46
  go_wp2
  go_ret
  exact ⟨rfl, rfl⟩

theorem is_any (n : Int) (w : World) :
    Calls Tryz.prog 45 #[.int .i64 n] w fun e w' => e = .returned (.bool (isA n)) ∧ w = w' := by
  unfold isA
  by_cases h : 0 ≤ n
  all_goals
    go_enter Tryz.func45, Tryz.ntmps45
    go_wp2
    go_ret
    exact ⟨by simp [h] <;> omega, rfl⟩

theorem last_any (a n : Int) (hc : chk a n = 0) (w : World) :
    Calls Tryz.prog 54 #[.agg #[.int .i64 a, .int .i64 n]] w fun e w' => e = .returned (.int .i64 (lastA a n)) ∧ Below w.heap.size w w' := by
  obtain ⟨h0, h3, h1, h2, h5⟩ := chk_zero.1 hc
  have ho := or_rest hc
  have HO := Lib.hid ho
  clear ho h5 hc
  go_enter Tryz.func54, Tryz.ntmps54
  go_wp2
  go_quiet ((go_at_call 46; exact Calls.quiet_of_same ((rest_any _ h0 h3 _).mono fun e w' h => ⟨h.1, h.2.symm⟩)))
  go_wp2
  go_ret
  refine ⟨?_, ?_⟩
  · rw [← HO.out]; rfl
  · exact ((Below.refl _ _).alloc (Nat.le_refl _) _).trans (below_drewN (Below.refl _ _) _)

/-- An error that is one of package api's numbers. -/
def errV (k : Int) : Value := .iface 24 (.int .i64 k)

theorem check_any (a n : Int) (w : World) :
    Calls Tryz.prog 30 #[.agg #[.int .i64 a, .int .i64 n]] w fun e w' => e = .returned (if chk a n = 0 then .nilIface else errV (chk a n)) ∧ Below w.heap.size w w' := by
  unfold errV
  by_cases h1 : n < 0
  · have hk : chk a n = 1 := by unfold chk; rw [if_pos (.inl h1)]
    rw [hk]
    clear hk
    go_enter Tryz.func30, Tryz.ntmps30
    go_wp2
    go_ret
    exact ⟨rfl, (Below.refl _ _).alloc (Nat.le_refl _) _⟩
  by_cases h2 : 32 < n
  · have hk : chk a n = 1 := by unfold chk; rw [if_pos (.inr (.inl h2))]
    rw [hk]
    clear hk
    go_enter Tryz.func30, Tryz.ntmps30
    go_wp2
    go_ret
    exact ⟨rfl, (Below.refl _ _).alloc (Nat.le_refl _) _⟩
  have h1' : 0 ≤ n := by omega
  have h2' : n ≤ 32 := by omega
  clear h1 h2
  by_cases h3 : isA a = false
  · have hk : chk a n = 1 := by unfold chk; rw [if_pos (.inr (.inr h3))]
    rw [hk]
    clear hk
    go_enter Tryz.func30, Tryz.ntmps30
    go_wp2_with (go_at_call 45; refine (is_any _ _).mono ?_; rintro e w' ⟨rfl, rfl⟩)
    go_ret
    exact ⟨rfl, (Below.refl _ _).alloc (Nat.le_refl _) _⟩
  have h3' : isA a = true := by simpa using h3
  have hk : chk a n = if a % sz n = 0 then 0 else 2 := by unfold chk; rw [if_neg (by simp [h3']; omega)]
  obtain ⟨g1, g2⟩ := isA_true.1 h3'
  have hb := and_rest h1' g1 g2
  rw [hk]
  clear hk h3
  have HB := Lib.hid hb
  clear hb
  by_cases h4 : a % sz n = 0
  · have h5 : (bits .and .i64 a (sz n - 1) != 0) = false := by rw [HB.out, h4]; rfl
    rw [if_pos h4]
    clear h4
    go_enter Tryz.func30, Tryz.ntmps30
    go_wp2_with (go_at_call 45; refine (is_any _ _).mono ?_; rintro e w' ⟨rfl, rfl⟩)
    go_quiet ((go_at_call 46; exact Calls.quiet_of_same ((rest_any _ h1' h2' _).mono fun e w' h => ⟨h.1, h.2.symm⟩)))
    go_wp2
    go_ret
    exact ⟨rfl, ((Below.refl _ _).alloc (Nat.le_refl _) _).trans (below_drewN (Below.refl _ _) _)⟩
  · have h5 : (bits .and .i64 a (sz n - 1) != 0) = true := by rw [HB.out, bne_iff_ne]; exact h4
    rw [if_neg h4]
    clear h4
    go_enter Tryz.func30, Tryz.ntmps30
    go_wp2_with (go_at_call 45; refine (is_any _ _).mono ?_; rintro e w' ⟨rfl, rfl⟩)
    go_quiet ((go_at_call 46; exact Calls.quiet_of_same ((rest_any _ h1' h2' _).mono fun e w' h => ⟨h.1, h.2.symm⟩)))
    go_wp2
    go_ret
    exact ⟨rfl, ((Below.refl _ _).alloc (Nat.le_refl _) _).trans (below_drewN (Below.refl _ _) _)⟩

theorem check_ok (a n : Int) (hc : chk a n = 0) (w : World) :
    Calls Tryz.prog 30 #[.agg #[.int .i64 a, .int .i64 n]] w fun e w' => e = .returned .nilIface ∧ Below w.heap.size w w' :=
  (check_any a n w).mono fun e w' h => ⟨by rw [h.1, if_pos hc], h.2⟩
theorem check_bad (a n : Int) (hc : chk a n ≠ 0) (w : World) :
    Calls Tryz.prog 30 #[.agg #[.int .i64 a, .int .i64 n]] w fun e w' => e = .returned (.iface 24 (.int .i64 (chk a n))) ∧ Below w.heap.size w w' :=
  (check_any a n w).mono fun e w' h => ⟨by rw [h.1, if_neg hc]; rfl, h.2⟩

theorem ends_bad (a n : Int) (hc : chk a n ≠ 0) (w : World) :
    Calls Tryz.prog 98 #[.agg #[.int .i64 a, .int .i64 n]] w fun e w' => e = .returned (.tuple #[.int .i64 0, .int .i64 0, .iface 24 (.int .i64 (chk a n))]) ∧ Below w.heap.size w w' := by
  go_enter Tryz.func98, Tryz.ntmps98
  go_wp2_with (go_at_call 30; refine (check_bad _ _ hc _).mono ?_; rintro e w1 ⟨rfl, hb1⟩)
  go_ret3
  exact ⟨rfl, ((Below.refl _ _).alloc (Nat.le_refl _) _).trans (hb1.mono (by simp))⟩

theorem ends_ok (a n : Int) (hc : chk a n = 0) (w : World) :
    Calls Tryz.prog 98 #[.agg #[.int .i64 a, .int .i64 n]] w fun e w' => e = .returned (.tuple #[.int .i64 a, .int .i64 (lastA a n), .nilIface]) ∧ Below w.heap.size w w' := by
  go_enter Tryz.func98, Tryz.ntmps98
  go_wp2_with (go_at_call 30; refine (check_ok _ _ hc _).mono ?_; rintro e w1 ⟨rfl, hb1⟩; obtain ⟨c0, c1⟩ := keep2 hb1 (new2 w _ _ _) (by simp))
  have hl : w.heap.size + 1 ≤ w1.heap.size := by have := hb1.size; simpa using this
  obtain ⟨k0, k1⟩ := bel2 (B := w1.heap.size) ⟨c0, c1⟩ (by omega)
  refine wp_region_bel w1.heap.size w1 (by kernel_rfl) (by kernel_rfl) (Below.refl _ _) ?_
  repeat (go_big_quiet_step ((go_at_call 54; exact Calls.bel_of (Nat.le_refl _) (last_any _ _ hc _))))
  refine wpQuiet_nil ?_
  intro w2 hb2
  clear k0 k1 c0 c1
  go_wp2
  go_ret3
  exact ⟨rfl, ((Below.refl _ _).alloc (Nat.le_refl _) _).trans ((hb1.mono (by simp)).trans (hb2.mono (by omega)))⟩

end Go.Proofs.YtemokelgafndpaaGreatDoor
