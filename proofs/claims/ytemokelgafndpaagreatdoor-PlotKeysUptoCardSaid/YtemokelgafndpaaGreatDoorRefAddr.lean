/- The references of addresses: IsAddr, Size, Fault, LastOf, In, BothOf. Conditions: as each states. -/
import Derived.Test.YtemokelgafndpaaGreatDoorAddr
import Derived.Test.YtemokelgafndpaaGreatDoorAddrMath
import Derived.Test.YtemokelgafndpaaGreatDoorTail
namespace Go.Proofs.YtemokelgafndpaaGreatDoor
set_option linter.unusedVariables false
set_option linter.unusedSimpArgs false
open Go.RowKit

theorem refIs_any (n : Int) (w : World) :
    Calls Tryz.prog 10 #[.int .i64 n] w fun e w' => e = .returned (.bool (isA n)) ∧ w = w' := by
  unfold isA
  by_cases h : 0 ≤ n
  all_goals
    go_enter Tryz.func10, Tryz.ntmps10
    go_wp2
    go_ret
    exact ⟨by simp [h] <;> omega, rfl⟩

theorem size_step {n i s : Int} (hi : i < 32) (hs : s * sz i = sz n) : s * 2 * sz (i + 1) = sz n := by
  rw [← hs, sz_half i hi, Int.mul_assoc]
theorem size_le {n i s : Int} (h0 : 0 ≤ n) (h1 : 0 < s) (hs : s * sz i = sz n) : s ≤ 4294967296 := by
  have := sz_le n h0
  have h2 : s * 1 ≤ s * sz i := Int.mul_le_mul_of_nonneg_left (sz_pos i) (Int.le_of_lt h1)
  omega
set_option maxHeartbeats 400000 in
theorem size_any (n : Int) (h0 : 0 ≤ n) (h1 : n ≤ 32) (w : World) :
    Calls Tryz.prog 31 #[.int .i64 n] w fun e w' => e = .returned (.int .i64 (sz n)) ∧ w = w' := by
  go_enter Tryz.func31, Tryz.ntmps31
  go_wp2
  go_loop [3, 4] (fun t i => ∃ s k : Int, n ≤ k ∧ k ≤ 32 ∧ 0 < s ∧ s * sz k = sz n ∧ t = .int .i64 s ∧ i = .int .i64 k) (fun _ i => (32 - intOf i).toNat)
  case atStart => exact ⟨1, n, by omega, h1, by omega, by simp, rfl, rfl⟩
  case round =>
    obtain ⟨s, k, hk, hk2, hs, hsz, rfl, rfl⟩ := hrel
    by_cases hlt : k < 32
    · have HS := Lib.hid (size_step hlt hsz)
      have hle := size_le h0 hs hsz
      clear hsz
      go_wp2
      go_round
      case rel => exact ⟨s * 2, k + 1, by omega, by omega, by omega, HS.out, rfl, rfl⟩
      case measure => simp [intOf]; omega
    · obtain rfl : k = 32 := by omega
      have HS := Lib.hid (show s = sz n by rw [← hsz, sz_32, Int.mul_one])
      clear hsz
      go_wp2
      go_ret
      exact ⟨by rw [HS.out]; rfl, rfl⟩

set_option maxHeartbeats 400000 in
theorem fault_any (a n : Int) (w : World) :
    Calls Tryz.prog 11 #[.agg #[.int .i64 a, .int .i64 n]] w fun e w' => e = .returned (.int .i64 (chk a n)) ∧ Below w.heap.size w w' := by
  by_cases h1 : n < 0
  · have hk : chk a n = 1 := by unfold chk; rw [if_pos (.inl h1)]
    rw [hk]
    clear hk
    go_enter Tryz.func11, Tryz.ntmps11
    go_wp2_with (go_at_call 10; refine (refIs_any _ _).mono ?_; rintro e w' ⟨rfl, rfl⟩)
    go_ret
    exact ⟨rfl, (Below.refl _ _).alloc (Nat.le_refl _) _⟩
  by_cases h2 : 32 < n
  · have hk : chk a n = 1 := by unfold chk; rw [if_pos (.inr (.inl h2))]
    rw [hk]
    clear hk
    go_enter Tryz.func11, Tryz.ntmps11
    go_wp2_with (go_at_call 10; refine (refIs_any _ _).mono ?_; rintro e w' ⟨rfl, rfl⟩)
    go_ret
    exact ⟨rfl, (Below.refl _ _).alloc (Nat.le_refl _) _⟩
  have h1' : 0 ≤ n := by omega
  have h2' : n ≤ 32 := by omega
  clear h1 h2
  by_cases h3 : isA a = false
  · have hk : chk a n = 1 := by unfold chk; rw [if_pos (.inr (.inr h3))]
    rw [hk]
    clear hk
    go_enter Tryz.func11, Tryz.ntmps11
    go_wp2_with (go_at_call 10; refine (refIs_any _ _).mono ?_; rintro e w' ⟨rfl, rfl⟩)
    go_ret
    exact ⟨rfl, (Below.refl _ _).alloc (Nat.le_refl _) _⟩
  have h3' : isA a = true := by simpa using h3
  have hk : chk a n = if a % sz n = 0 then 0 else 2 := by unfold chk; rw [if_neg (by simp [h3']; omega)]
  obtain ⟨g1, g2⟩ := isA_true.1 h3'
  have hp := sz_pos n
  have hne : (sz n == 0) = false := by simp; omega
  have hne' : ¬ sz n = 0 := by omega
  rw [hk]
  clear hk h3
  by_cases h4 : a % sz n = 0
  · have h5 : (a % sz n != 0) = false := by simpa using h4
    rw [if_pos h4]
    clear h4
    go_enter Tryz.func11, Tryz.ntmps11
    go_wp2_with (go_at_call 10; refine (refIs_any _ _).mono ?_; rintro e w' ⟨rfl, rfl⟩)
    go_quiet ((go_at_call 31; exact Calls.quiet_of_same ((size_any _ h1' h2' _).mono fun e w' h => ⟨h.1, h.2.symm⟩)))
    go_wp2
    go_ret
    exact ⟨rfl, ((Below.refl _ _).alloc (Nat.le_refl _) _).trans (below_drewN (Below.refl _ _) _)⟩
  · have h5 : (a % sz n != 0) = true := by simpa using h4
    rw [if_neg h4]
    clear h4
    go_enter Tryz.func11, Tryz.ntmps11
    go_wp2_with (go_at_call 10; refine (refIs_any _ _).mono ?_; rintro e w' ⟨rfl, rfl⟩)
    go_quiet ((go_at_call 31; exact Calls.quiet_of_same ((size_any _ h1' h2' _).mono fun e w' h => ⟨h.1, h.2.symm⟩)))
    go_wp2
    go_ret
    exact ⟨rfl, ((Below.refl _ _).alloc (Nat.le_refl _) _).trans (below_drewN (Below.refl _ _) _)⟩

theorem lastOf_any (a n : Int) (hc : chk a n = 0) (w : World) :
    Calls Tryz.prog 36 #[.agg #[.int .i64 a, .int .i64 n]] w fun e w' => e = .returned (.int .i64 (lastA a n)) ∧ Below w.heap.size w w' := by
  obtain ⟨h0, h3, h1, h2, h5⟩ := chk_zero.1 hc
  have hs := sz_le n h0
  have hp := sz_pos n
  clear h5 hc
  unfold lastA
  go_enter Tryz.func36, Tryz.ntmps36
  go_wp2
  go_quiet ((go_at_call 31; exact Calls.quiet_of_same ((size_any _ h0 h3 _).mono fun e w' h => ⟨h.1, h.2.symm⟩)))
  go_wp2
  go_ret
  exact ⟨rfl, ((Below.refl _ _).alloc (Nat.le_refl _) _).trans (below_drewN (Below.refl _ _) _)⟩

end Go.Proofs.YtemokelgafndpaaGreatDoor
