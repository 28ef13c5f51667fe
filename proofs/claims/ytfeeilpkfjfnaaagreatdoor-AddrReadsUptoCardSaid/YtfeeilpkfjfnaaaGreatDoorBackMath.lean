/- What AddrBack says of halves and of two addresses' prefix: plain mathematics. No conditions. -/
import Derived.Test.YtfeeilpkfjfnaaaGreatDoorAddrMath
import Derived.Test.YtfeeilpkfjfnaaaGreatDoorTextMath
namespace Go.Proofs.YtfeeilpkfjfnaaaGreatDoor
set_option linter.unusedVariables false
set_option linter.unusedSimpArgs false

theorem clr_up {a n : Int} (h : chk a n = 0) : clr a n = a := by
  obtain ⟨_, _, _, _, h5⟩ := chk_zero.1 h
  unfold clr
  have := Int.emod_add_mul_ediv a (sz n)
  rw [h5] at this
  rw [Int.mul_comm]
  omega
theorem half_chk {a n : Int} (h : chk a n = 0) (hn : n ≠ 32) : chk a (n + 1) = 0 ∧ chk (a + sz (n + 1)) (n + 1) = 0 ∧ clr a n = a ∧ clr (a + sz (n + 1)) n = a := by
  obtain ⟨h1, h2, h3, h4, h5⟩ := chk_zero.1 h
  have hs := sz_half n (by omega)
  have hp := sz_pos (n + 1)
  have hl := last_le h
  unfold lastA at hl
  have hd : sz (n + 1) ∣ a := by
    have : sz n ∣ a := Int.dvd_of_emod_eq_zero h5
    exact Int.dvd_trans ⟨2, by rw [hs, Int.mul_comm]⟩ this
  refine ⟨chk_zero.2 ⟨by omega, by omega, h3, h4, Int.emod_eq_zero_of_dvd hd⟩, chk_zero.2 ⟨by omega, by omega, by omega, by omega, ?_⟩, clr_up h, ?_⟩
  · exact Int.emod_eq_zero_of_dvd (Int.dvd_add hd (Int.dvd_refl _))
  · unfold clr
    have hq := Int.emod_add_mul_ediv a (sz n)
    rw [h5] at hq
    have e : (a + sz (n + 1)) / sz n = a / sz n := by
      have hpn := sz_pos n
      rw [Int.add_comm, show sz (n + 1) + a = sz (n + 1) + sz n * (a / sz n) from by omega, Int.add_mul_ediv_left _ _ (by omega), Int.ediv_eq_zero_of_lt (by omega) (by omega)]
      omega
    rw [e, Int.mul_comm]
    omega
/-- Two addresses in their prefix. -/
theorem both_in {a b : Int} (ha : isA a = true) (hb : isA b = true) : clr a (bothN a b) ≤ a ∧ a ≤ lastA (clr a (bothN a b)) (bothN a b) ∧ clr a (bothN a b) ≤ b ∧ b ≤ lastA (clr a (bothN a b)) (bothN a b) := by
  obtain ⟨r0, r1⟩ := bothN_range ha hb
  have hs := (both_same ha hb (bothN a b) r0 r1).2 (Int.le_refl _)
  have hp := sz_pos (bothN a b)
  have h1 := Int.emod_add_mul_ediv a (sz (bothN a b))
  have h2 := Int.emod_add_mul_ediv b (sz (bothN a b))
  have h3 := Int.emod_lt_of_pos a hp
  have h4 := Int.emod_lt_of_pos b hp
  have h5 := Int.emod_nonneg a (Int.ne_of_gt hp)
  have h6 := Int.emod_nonneg b (Int.ne_of_gt hp)
  unfold lastA clr
  rw [← hs] at h2
  rw [Int.mul_comm (a / _)]
  omega
theorem both_all {a b : Int} (ha : isA a = true) (hb : isA b = true) (h : bothN a b = 32) : a = b := by
  have := (both_same ha hb 32 (by decide) (by decide)).2 (by omega)
  rw [sz_32] at this
  simpa using this
theorem both_part {a b : Int} (ha : isA a = true) (hb : isA b = true) (h : bothN a b ≠ 32) : (decide (a ≤ lastA (clr a (bothN a b)) (bothN a b + 1)) != decide (b ≤ lastA (clr a (bothN a b)) (bothN a b + 1))) = true := by
  obtain ⟨r0, r1⟩ := bothN_range ha hb
  obtain ⟨a0, a1⟩ := isA_true.1 ha
  obtain ⟨i1, i2, i3, i4⟩ := both_in ha hb
  have hc := clr_chk (n := bothN a b) ha r0 r1
  obtain ⟨c1, c2, _, _⟩ := half_chk hc h
  have hn := mt (both_same ha hb (bothN a b + 1) (by omega) (by omega)).1 (by omega)
  have hp := sz_pos (bothN a b + 1)
  have hs := sz_half (bothN a b) (by omega)
  generalize hq : clr a (bothN a b) = q at *
  generalize hm : bothN a b = n at *
  obtain ⟨_, _, _, _, c5⟩ := chk_zero.1 c1
  have hq2 := Int.emod_add_mul_ediv q (sz (n + 1))
  rw [c5] at hq2
  have low : ∀ x, q ≤ x → x ≤ q + sz (n + 1) - 1 → x / sz (n + 1) = q / sz (n + 1) := fun x h1 h2 => by
    rw [show x = (x - q) + sz (n + 1) * (q / sz (n + 1)) from by omega, Int.add_mul_ediv_left _ _ (by omega), Int.ediv_eq_zero_of_lt (by omega) (by omega)]
    omega
  have high : ∀ x, q + sz (n + 1) ≤ x → x ≤ q + sz n - 1 → x / sz (n + 1) = q / sz (n + 1) + 1 := fun x h1 h2 => by
    rw [show x = (x - q - sz (n + 1)) + sz (n + 1) * (q / sz (n + 1) + 1) from by rw [Int.mul_add]; omega, Int.add_mul_ediv_left _ _ (by omega), Int.ediv_eq_zero_of_lt (by omega) (by omega)]
    omega
  unfold lastA at *
  by_cases h1 : a ≤ q + sz (n + 1) - 1
  · by_cases h2 : b ≤ q + sz (n + 1) - 1
    · exact absurd ((low a i1 h1).trans (low b i3 h2).symm) hn
    · simp [h1, h2]
  · by_cases h2 : b ≤ q + sz (n + 1) - 1
    · simp [h1, h2]
    · exact absurd ((high a (by omega) (by omega)).trans (high b (by omega) (by omega)).symm) hn
/-- The bits of a text's numbers. -/
theorem and_255 {a : Int} (h1 : 0 ≤ a) (h2 : a ≤ 4294967295) : bits .and .i64 a 255 = a % 256 := and_rest (n := 24) (by decide) h1 h2
theorem or_256 {a n : Nat} (ha : a < 16777216) (hn : n < 256) : bits .or .i64 ((a * 256 : Nat) : Int) (n : Int) = ((a * 256 + n : Nat) : Int) := by
  rw [(i64_bits_nat (a * 256) n (by omega) (by omega)).2.1]
  congr 1
  have := Nat.two_pow_add_eq_or_of_lt (i := 8) (b := n) (by omega) a
  rw [Nat.mul_comm] at this
  simpa using this.symm
end Go.Proofs.YtfeeilpkfjfnaaaGreatDoor
