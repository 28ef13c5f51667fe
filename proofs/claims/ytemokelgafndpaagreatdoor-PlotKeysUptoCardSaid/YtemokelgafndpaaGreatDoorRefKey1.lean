/- The reference's IsName, unhex, Hex, AddrKey, PrefixKey. Conditions: as said. -/
import Derived.Test.YtemokelgafndpaaGreatDoorHexMath
import Derived.Test.YtemokelgafndpaaGreatDoorRefText3
namespace Go.Proofs.YtemokelgafndpaaGreatDoor
set_option linter.unusedVariables false
set_option linter.unusedSimpArgs false
open Go.RowKit

theorem len_list (s : ByteArray) : s.data.toList.length = s.size := Array.length_toList
set_option maxRecDepth 100000 in
theorem isName_any (s : ByteArray) (hs : s.size ≤ 100000000000) (w : World) :
    Calls Tryz.prog 5 #[.string s] w fun e w' => e = .returned (.bool (nameB s.data.toList)) ∧ w = w' := by
  have hno : ∀ b ∈ s.data.toList, ¬ (97 ≤ b.toNat ∧ b.toNat ≤ 122) → nameB s.data.toList = false := fun b hb h => by
    cases e : nameB s.data.toList with
    | false => rfl
    | true => exact absurd ((nameB_iff.1 e).1 b hb) h
  have HN := Lib.hid hno
  clear hno
  go_enter Tryz.func5, Tryz.ntmps5
  go_wp2
  go_loop [3] (fun i => ∃ k : Nat, k ≤ s.size ∧ i = .int .i64 (k : Int) ∧ Hid (∀ b ∈ s.data.toList.take k, 97 ≤ b.toNat ∧ b.toNat ≤ 122)) (fun i => s.size - (intOf i).toNat)
  case atStart => exact ⟨0, Nat.zero_le _, rfl, Lib.hid (by simp)⟩
  case round =>
    obtain ⟨k, hk, rfl, HD⟩ := hrel
    by_cases hlt : k < s.size
    · have HM := Lib.hid (byte_mem s k hlt)
      have HT := Lib.hid (take_byte s k hlt)
      by_cases d1 : (s[k].toNat : Int) < 97
      · go_wp2
        go_ret
        exact ⟨by rw [HN.out _ HM.out (by omega)]; rfl, rfl⟩
      · by_cases d2 : 122 < (s[k].toNat : Int)
        · go_wp2
          go_ret
          exact ⟨by rw [HN.out _ HM.out (by omega)]; rfl, rfl⟩
        · go_wp2
          go_round
          case rel =>
            refine ⟨k + 1, by omega, by go_num, Lib.hid ?_⟩
            rw [HT.out]
            intro b hb
            rcases List.mem_append.1 hb with hb | hb
            · exact HD.out b hb
            · rw [List.mem_singleton] at hb
              rw [hb]; omega
          case measure => simp [intOf]; omega
    · obtain rfl : k = s.size := by omega
      have hall : s.data.toList.take s.size = s.data.toList := List.take_of_length_le (by rw [len_list]; exact Nat.le_refl _)
      have hb : nameB s.data.toList = (decide (0 < s.size) && decide (s.size ≤ 8)) := by
        have h1 := hall ▸ HD.out
        rw [Bool.eq_iff_iff, nameB_iff, len_list, Bool.and_eq_true, decide_eq_true_eq, decide_eq_true_eq]
        constructor
        · rintro ⟨_, h2, h3⟩; exact ⟨by omega, h3⟩
        · rintro ⟨h2, h3⟩; exact ⟨h1, by omega, h3⟩
      have HB := Lib.hid hb
      clear hall hb
      by_cases e0 : 0 < s.size
      · by_cases e8 : s.size ≤ 8
        · have e0' : decide ((0 : Int) < (s.size : Int)) = true := decide_eq_true (by omega)
          have e8' : decide ((s.size : Int) ≤ 8) = true := decide_eq_true (by omega)
          have HV := Lib.hid (show nameB s.data.toList = true by rw [HB.out, decide_eq_true e0, decide_eq_true e8]; rfl)
          clear e8
          go_wp2
          go_ret
          exact ⟨by rw [HV.out]; rfl, rfl⟩
        · have e0' : decide ((0 : Int) < (s.size : Int)) = true := decide_eq_true (by omega)
          have e8' : decide ((s.size : Int) ≤ 8) = false := decide_eq_false (by omega)
          have HV := Lib.hid (show nameB s.data.toList = false by rw [HB.out, decide_eq_false e8, Bool.and_false])
          clear e8
          go_wp2
          go_ret
          exact ⟨by rw [HV.out]; rfl, rfl⟩
      · have e0' : decide ((0 : Int) < (s.size : Int)) = false := decide_eq_false (by omega)
        have HV := Lib.hid (show nameB s.data.toList = false by rw [HB.out, decide_eq_false e0, Bool.false_and])

        go_wp2
        go_ret
        exact ⟨by rw [HV.out]; rfl, rfl⟩
theorem isName_txt (s : List UInt8) (hs : s.length ≤ 100000000000) (w : World) :
    Calls Tryz.prog 5 #[txt s] w fun e w' => e = .returned (.bool (nameB s)) ∧ w = w' := by
  have h := isName_any ⟨s.toArray⟩ (by rw [data_size]; exact hs) w
  rw [data_toList] at h
  exact h
def hx16 : ByteArray := ⟨#[48, 49, 50, 51, 52, 53, 54, 55, 56, 57, 97, 98, 99, 100, 101, 102]⟩
theorem hx16_at : ∀ d, d < 16 → hx16.extract d (d + 1) = ⟨[hexD d].toArray⟩ := by decide
theorem mk_cons1 (b : UInt8) (l : List UInt8) : ({ data := #[b] } : ByteArray) ++ { data := l.toArray } = ⟨(b :: l).toArray⟩ := by
  rw [show ({ data := #[b] } : ByteArray) = ⟨[b].toArray⟩ from rfl, ByteArray.mk_append_mk]; rfl
set_option maxRecDepth 100000 in
set_option maxHeartbeats 1000000 in
theorem refHex_any (a : Nat) (ha : a < 4294967296) (w : World) :
    Calls Tryz.prog 34 #[.int .i64 (a : Int)] w fun e w' => e = .returned (txt (hexL 8 a)) ∧ w = w' := by
  go_enter Tryz.func34, Tryz.ntmps34
  go_wp2
  go_loop [0, 3, 4] (fun x s i => ∃ (k r : Nat) (acc : List UInt8), k ≤ 8 ∧ i = .int .i64 (k : Int) ∧ x = .int .i64 (r : Int) ∧ r < 4294967296 ∧ s = txt acc ∧ acc.length = k ∧ Hid (hexL 8 a = hexL (8 - k) r ++ acc)) (fun _ _ i => 8 - (intOf i).toNat)
  case atStart => exact ⟨0, a, [], by omega, rfl, rfl, ha, rfl, rfl, Lib.hid (by simp)⟩
  case round =>
    obtain ⟨k, r, acc, hk, rfl, rfl, hr, rfl, hl, HD⟩ := hrel
    have HL := Lib.hid hl
    by_cases hlt : k < 8
    · have he := hx16_at (r % 16) (Nat.mod_lt _ (by decide))
      unfold hx16 at he
      have hq : ¬ (9223372036854775807 < 1 + acc.length) := by omega
      clear hl
      go_wp2
      go_round
      case rel =>
        refine ⟨k + 1, r / 16, hexD (r % 16) :: acc, by omega, by go_num, by go_num, by omega, ?_, by simp [HL.out], Lib.hid ?_⟩
        · rw [mk_cons1]
        · rw [HD.out, show 8 - k = (8 - (k + 1)) + 1 by omega, hexL]; simp
      case measure => simp [intOf]; omega
    · obtain rfl : k = 8 := by omega
      clear hl
      go_wp2
      go_ret
      refine ⟨?_, rfl⟩
      rw [HD.out]
      rfl
theorem hexV1_iff {c : UInt8} {k : Nat} (hk : k < 16) : hexV1 c = some k ↔ (hexD k).toNat = c.toNat := by
  rw [hexD_toNat hk]
  unfold hexV1
  constructor
  · intro h
    split at h
    · rename_i q; injection h with h; subst h; rw [if_pos (by omega)]; omega
    · split at h
      · rename_i q; injection h with h; subst h; rw [if_neg (by omega)]; omega
      · cases h
  · intro h
    split at h
    · rw [if_pos (by omega)]; congr 1; omega
    · rw [if_neg (by omega), if_pos (by omega)]; congr 1; omega
/-- The digit that was found so far. -/
def dAt (c : UInt8) (k : Nat) : Int := match hexV1 c with
  | some v => if v < k then (v : Int) else -1
  | none => -1
theorem dAt_zero (c : UInt8) : dAt c 0 = -1 := by unfold dAt; split <;> simp
theorem dAt_hit {c : UInt8} {k : Nat} (h : hexV1 c = some k) : dAt c (k + 1) = (k : Int) := by unfold dAt; rw [h]; simp
theorem dAt_miss {c : UInt8} {k : Nat} (h : hexV1 c ≠ some k) : dAt c (k + 1) = dAt c k := by
  unfold dAt
  cases e : hexV1 c with
  | none => rfl
  | some v =>
    have : v ≠ k := fun q => h (by rw [e, q])
    simp only
    by_cases h1 : v < k
    · rw [if_pos h1, if_pos (by omega)]
    · rw [if_neg h1, if_neg (by omega)]
theorem hx16_val : ∀ d (h : d < 16), ((hx16[d]'(by show d < 16; omega)).toNat : Int) = ((hexD d).toNat : Int) := by decide
def unhexI (l : List UInt8) : Int := match addrV l with
  | some v => (v : Int)
  | none => -1
theorem hexV_none1 : ∀ (l : List UInt8) (a : Nat) (b : UInt8), b ∈ l → hexV1 b = none → hexV a l = none
  | c :: l, a, b, hb, h => by
    unfold hexV
    rcases List.mem_cons.1 hb with rfl | hb
    · rw [h]
    · cases hexV1 c with
      | none => rfl
      | some d => exact hexV_none1 l _ b hb h
end Go.Proofs.YtemokelgafndpaaGreatDoor
