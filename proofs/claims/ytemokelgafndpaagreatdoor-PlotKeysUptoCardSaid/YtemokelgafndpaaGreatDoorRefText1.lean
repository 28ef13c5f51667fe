/- The reference's Dec: a number's digits. Conditions: a number from 0 on. -/
import Derived.Test.YtemokelgafndpaaGreatDoorTxt1
import Derived.Test.YtemokelgafndpaaGreatDoorTextMath2
namespace Go.Proofs.YtemokelgafndpaaGreatDoor
set_option linter.unusedVariables false
set_option linter.unusedSimpArgs false
open Go.RowKit

theorem dig_at : ∀ d, d < 10 → (⟨#[48, 49, 50, 51, 52, 53, 54, 55, 56, 57]⟩ : ByteArray).extract d (d + 1) = ⟨[UInt8.ofNat (48 + d)].toArray⟩ := by
  intro d hd
  match d, hd with
  | 0, _ => rfl
  | 1, _ => rfl
  | 2, _ => rfl
  | 3, _ => rfl
  | 4, _ => rfl
  | 5, _ => rfl
  | 6, _ => rfl
  | 7, _ => rfl
  | 8, _ => rfl
  | 9, _ => rfl
theorem decDigits_len2 {u : Nat} (h : u ≤ 9223372036854775807) : (Lib.decDigits u).length ≤ 20 := by
  have key : ∀ k u, u < 10 ^ (k + 1) → (Lib.decDigits u).length ≤ k + 1 := by
    intro k
    induction k with
    | zero => intro u h; rw [Lib.decDigits, dif_pos (by omega)]; simp
    | succ k ih =>
      intro u h
      rw [Lib.decDigits]
      split
      · simp
      · have := ih (u / 10) (by rw [Nat.pow_succ] at h; omega)
        simp; omega
  exact key 19 u (by omega)
theorem dec_step {n : Nat} (h : 10 ≤ n) : Lib.decDigits n = Lib.decDigits (n / 10) ++ [UInt8.ofNat (48 + n % 10)] := by rw [Lib.decDigits, dif_neg (by omega)]
theorem dec_last {n : Nat} (h : n < 10) : Lib.decDigits n = [UInt8.ofNat (48 + n)] := by rw [Lib.decDigits, dif_pos h]
theorem mk_cons (b : UInt8) (l : List UInt8) : ({ data := #[b] } : ByteArray) ++ { data := l.toArray } = ⟨(b :: l).toArray⟩ := by
  rw [show ({ data := #[b] } : ByteArray) = ⟨[b].toArray⟩ from rfl, ByteArray.mk_append_mk]; rfl
theorem ofNat_48 (d : Nat) : UInt8.ofNat (48 + d) = 48 + UInt8.ofNat d := by simp
set_option maxHeartbeats 1000000 in
theorem dec_any (n : Nat) (hn : n ≤ 9223372036854775807) (w : World) :
    Calls Tryz.prog 35 #[.int .i64 (n : Int)] w fun e w' => e = .returned (txt (Lib.decDigits n)) ∧ w = w' := by
  have hl := decDigits_len2 hn
  go_enter Tryz.func35, Tryz.ntmps35
  go_wp2
  go_loop [0, 3] (fun x s => ∃ (k : Nat) (acc : List UInt8), x = .int .i64 (k : Int) ∧ s = txt acc ∧ k ≤ 9223372036854775807 ∧ Hid (Lib.decDigits n = Lib.decDigits k ++ acc)) (fun x _ => (intOf x).toNat)
  case atStart => exact ⟨n, [], rfl, rfl, hn, Lib.hid (by simp)⟩
  case round =>
    obtain ⟨k, acc, rfl, rfl, hk, HD⟩ := hrel
    have hacc : acc.length ≤ 20 := by have := HD.out; rw [this] at hl; simp at hl; omega
    by_cases hlt : 9 < k
    · have he := dig_at (k % 10) (Nat.mod_lt _ (by decide))
      have hq : ¬ (9223372036854775807 < 1 + acc.length) := by omega
      go_wp2
      go_round
      case rel =>
        refine ⟨k / 10, UInt8.ofNat (48 + k % 10) :: acc, by simp, ?_, by omega, Lib.hid ?_⟩
        · rw [mk_cons, ofNat_48]
        · rw [HD.out, dec_step (show 10 ≤ k by omega)]; simp
      case measure => simp [intOf]; omega
    · have he := dig_at k (by omega)
      have hq : ¬ (9223372036854775807 < 1 + acc.length) := by omega
      go_wp2
      go_ret
      refine ⟨?_, rfl⟩
      show Ending.returned (.string (({ data := #[48 + UInt8.ofNat k] } : ByteArray) ++ { data := acc.toArray })) = _
      rw [mk_cons, HD.out, dec_last (show k < 10 by omega), ofNat_48]
      rfl
end Go.Proofs.YtemokelgafndpaaGreatDoor
