/- Plain laws of addresses: the least prefix of two addresses; clearing the last bits. No program. No conditions but those stated. -/
import Derived.Test.YtemokelgafndpaaGreatDoorMath
import Derived.Lib.BitFns
namespace Go.Proofs.YtemokelgafndpaaGreatDoor
set_option linter.unusedVariables false
set_option linter.unusedSimpArgs false

theorem lt_pow_bitLen : ∀ (f x : Nat), x < 2 ^ f → x < 2 ^ Lib.bitLenAux f x
  | 0, x, h => by simpa [Lib.bitLenAux] using h
  | f + 1, x, h => by
    simp only [Lib.bitLenAux]
    split
    · rename_i h0; subst h0; decide
    · have := lt_pow_bitLen f (x / 2) (by rw [Nat.pow_succ] at h; omega)
      rw [Nat.add_comm 1, Nat.pow_succ]; omega
theorem bitLen_iff (x k : Nat) (hx : x < 2 ^ 64) (hk : k ≤ 64) : x < 2 ^ k ↔ Lib.bitLen x ≤ k :=
  ⟨fun h => Lib.bitLen_le x k hk h, fun h => Nat.lt_of_lt_of_le (lt_pow_bitLen 64 x hx) (Nat.pow_le_pow_right (by decide) h)⟩
theorem same_div (x y k : Nat) : x / 2 ^ k = y / 2 ^ k ↔ x ^^^ y < 2 ^ k := by
  rw [← Nat.shiftRight_eq_div_pow, ← Nat.shiftRight_eq_div_pow]
  have h : (x ^^^ y) >>> k = 0 ↔ x ^^^ y < 2 ^ k := by
    rw [Nat.shiftRight_eq_div_pow, Nat.div_eq_zero_iff]
    have := Nat.two_pow_pos k
    omega
  rw [← h, Nat.shiftRight_xor_distrib]
  exact ⟨fun e => by rw [e, Nat.xor_self], fun e => by
    have : x >>> k = x >>> k ^^^ y >>> k ^^^ y >>> k := by rw [Nat.xor_assoc, Nat.xor_self, Nat.xor_zero]
    rw [this, e, Nat.zero_xor]⟩

/-- How many first bits two addresses have in common. -/
def bothN (a b : Int) : Int := 32 - (Lib.bitLen (a.toNat ^^^ b.toNat) : Int)
theorem bothN_range {a b : Int} (ha : isA a = true) (hb : isA b = true) : 0 ≤ bothN a b ∧ bothN a b ≤ 32 := by
  obtain ⟨a0, a1⟩ := isA_true.1 ha
  obtain ⟨b0, b1⟩ := isA_true.1 hb
  have : a.toNat ^^^ b.toNat < 2 ^ 32 := Nat.xor_lt_two_pow (by omega) (by omega)
  have := Lib.bitLen_le _ 32 (by decide) this
  unfold bothN
  omega
theorem both_same {a b : Int} (ha : isA a = true) (hb : isA b = true) (n : Int) (h0 : 0 ≤ n) (h1 : n ≤ 32) : a / sz n = b / sz n ↔ n ≤ bothN a b := by
  obtain ⟨a0, a1⟩ := isA_true.1 ha
  obtain ⟨b0, b1⟩ := isA_true.1 hb
  obtain ⟨x, rfl⟩ := Int.eq_ofNat_of_zero_le a0
  obtain ⟨y, rfl⟩ := Int.eq_ofNat_of_zero_le b0
  have hx : x ^^^ y < 2 ^ 64 := Nat.xor_lt_two_pow (by omega) (by omega)
  rw [sz_nat, ← Int.natCast_ediv, ← Int.natCast_ediv, Int.natCast_inj, same_div, bitLen_iff _ _ hx (by omega)]
  unfold bothN
  simp only [Int.toNat_natCast]
  omega

theorem andNot_rest {a n : Int} (h0 : 0 ≤ n) (h1 : 0 ≤ a) (h2 : a ≤ 4294967295) : bits .andNot .i64 a (sz n - 1) = a / sz n * sz n := by
  obtain ⟨x, rfl⟩ := Int.eq_ofNat_of_zero_le h1
  have hs := sz_le n h0
  have hp := sz_pos n
  rw [sz_nat] at *
  generalize (32 - n).toNat = k at *
  have hq : ((2 ^ k : Nat) : Int) - 1 = ((2 ^ k - 1 : Nat) : Int) := by omega
  have e : (BitVec.ofInt 64 (x : Int) &&& ~~~BitVec.ofInt 64 ((2 ^ k - 1 : Nat) : Int)).toNat = x / 2 ^ k * 2 ^ k := by
    apply Nat.eq_of_testBit_eq
    intro i
    rw [← Nat.shiftRight_eq_div_pow, ← Nat.shiftLeft_eq, Nat.testBit_shiftLeft, BitVec.testBit_toNat, BitVec.getLsbD_and, BitVec.getLsbD_not, ← BitVec.testBit_toNat, ← BitVec.testBit_toNat,
      ofInt_u64 _ (by omega), ofInt_u64 _ (by omega), Nat.testBit_two_pow_sub_one, Nat.testBit_shiftRight]
    by_cases h : k ≤ i
    · have h' : ¬ i < k := by omega
      by_cases h64 : i < 64
      · simp [h, h', h64, Nat.add_sub_cancel' h]
      · have : x.testBit i = false := Nat.testBit_lt_two_pow (Nat.lt_of_lt_of_le (show x < 2 ^ 64 by omega) (Nat.pow_le_pow_right (by decide) (by omega)))
        simp [h, h64, Nat.add_sub_cancel' h, this]
    · have h' : i < k := by omega
      simp [h, h']
  have hle : x / 2 ^ k * 2 ^ k ≤ x := Nat.div_mul_le_self _ _
  rw [hq]
  show IntKind.i64.wrap ((BitVec.ofInt 64 (x : Int) &&& ~~~BitVec.ofInt 64 ((2 ^ k - 1 : Nat) : Int)).toNat : Int) = _
  rw [e, IntWalk.i64_in _ (by omega)]
  simp [Int.natCast_ediv]
theorem xor_any {a b : Int} (ha : isA a = true) (hb : isA b = true) : bits .xor .i64 a b = ((a.toNat ^^^ b.toNat : Nat) : Int) ∧ a.toNat ^^^ b.toNat < 4294967296 := by
  obtain ⟨a0, a1⟩ := isA_true.1 ha
  obtain ⟨b0, b1⟩ := isA_true.1 hb
  obtain ⟨x, rfl⟩ := Int.eq_ofNat_of_zero_le a0
  obtain ⟨y, rfl⟩ := Int.eq_ofNat_of_zero_le b0
  exact ⟨(i64_bits_nat x y (by omega) (by omega)).2.2, Nat.xor_lt_two_pow (n := 32) (by simp; omega) (by simp; omega)⟩
/-- The address whose last bits are cleared. -/
def clr (a n : Int) : Int := a / sz n * sz n
theorem clr_le {a n : Int} (h : 0 ≤ a) : 0 ≤ clr a n ∧ clr a n ≤ a := by
  have := sz_pos n
  unfold clr
  have h1 := Int.ediv_mul_le a (Int.ne_of_gt this)
  have h2 := Int.mul_nonneg (Int.ediv_nonneg h (Int.le_of_lt this)) (Int.le_of_lt this)
  omega
theorem clr_chk {a n : Int} (ha : isA a = true) (h0 : 0 ≤ n) (h1 : n ≤ 32) : chk (clr a n) n = 0 := by
  obtain ⟨a0, a1⟩ := isA_true.1 ha
  have := clr_le (n := n) a0
  exact chk_zero.2 ⟨h0, h1, this.1, by omega, by unfold clr; exact Int.mul_emod_left _ _⟩
end Go.Proofs.YtemokelgafndpaaGreatDoor
