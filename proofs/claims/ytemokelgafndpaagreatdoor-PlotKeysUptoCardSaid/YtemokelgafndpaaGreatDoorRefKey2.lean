/- The reference's unhex: eight digits. Any text (of at most 10^11 bytes). -/
import Derived.Test.YtemokelgafndpaaGreatDoorRefKey1
import Derived.Test.YtemokelgafndpaaGreatDoorCut
import Derived.StillTailTactics
import Derived.RegionTactic
import Derived.ChangeAlike
import Derived.BigRegion
namespace Go.Proofs.YtemokelgafndpaaGreatDoor
set_option linter.unusedVariables false
set_option linter.unusedSimpArgs false
open Go.RowKit

theorem unhexI_len {l : List UInt8} (h : l.length ≠ 8) : unhexI l = -1 := by unfold unhexI addrV; rw [if_neg h]
theorem unhexI_none {l : List UInt8} (h : hexV 0 l = none) : unhexI l = -1 := by
  unfold unhexI addrV
  split
  · rename_i v q; split at q
    · rw [h] at q; cases q
    · cases q
  · rfl
theorem unhexI_some {l : List UInt8} (h8 : l.length = 8) {v : Nat} (h : hexV 0 l = some v) : unhexI l = (v : Int) := by unfold unhexI addrV; rw [if_pos h8, h]
theorem dAt_end {c : UInt8} : dAt c 16 = match hexV1 c with
  | some v => (v : Int)
  | none => -1 := by
  unfold dAt
  cases e : hexV1 c with
  | none => rfl
  | some v => simp only; rw [if_pos (hexV1_lt e)]
theorem hexV_step (s : ByteArray) (k : Nat) (h : k < s.size) {v d : Nat} (hv : hexV 0 (s.data.toList.take k) = some v) (hd : hexV1 s[k] = some d) : hexV 0 (s.data.toList.take (k + 1)) = some (v * 16 + d) := by
  rw [take_byte s k h, hexV_snoc, hv, hd]; rfl
theorem hexV_bound {s : ByteArray} {k v : Nat} (h8 : k ≤ 8) (hv : hexV 0 (s.data.toList.take k) = some v) : v < 4294967296 := by
  have h := hexV_lt _ _ _ hv
  have h1 : (s.data.toList.take k).length ≤ 8 := by simp; omega
  have h2 : 16 ^ (s.data.toList.take k).length ≤ 16 ^ 8 := Nat.pow_le_pow_right (by decide) h1
  have h3 : (16 : Nat) ^ 8 = 4294967296 := by decide
  omega
set_option maxRecDepth 100000 in
set_option maxHeartbeats 2000000 in
theorem unhex_any (s : ByteArray) (hs : s.size ≤ 100000000000) (w : World) :
    Calls Tryz.prog 27 #[.string s] w fun e w' => e = .returned (.int .i64 (unhexI s.data.toList)) ∧ Below w.heap.size w w' := by
  have HN := Lib.hid (fun (k : Nat) (h : k < s.size) (hd : hexV1 s[k] = none) => unhexI_none (hexV_none1 s.data.toList 0 s[k] (byte_mem s k h) hd))
  by_cases h8 : s.size = 8
  · have HE := Lib.hid (fun (v : Nat) (h : hexV 0 s.data.toList = some v) => unhexI_some (by rw [len_list]; exact h8) h)
    have HT := Lib.hid (List.take_of_length_le (l := s.data.toList) (i := 8) (by rw [len_list]; omega))
    have h8b : ((s.size : Int) != 8) = false := by rw [h8]; rfl
    have HST := Lib.hid (fun k h v d => hexV_step s k h (v := v) (d := d))
    have H8 := Lib.hid h8
    clear h8
    have HB := Lib.hid (fun k v => hexV_bound (s := s) (k := k) (v := v))
    go_enter Tryz.func27, Tryz.ntmps27
    go_wp2
    go_loopw [3, 4] (fun a i wr => ∃ k v : Nat, k ≤ 8 ∧ Below w.heap.size w wr ∧ i = .int .i64 (k : Int) ∧ a = .int .i64 (v : Int) ∧ v < 4294967296 ∧ Hid (hexV 0 (s.data.toList.take k) = some v)) (fun _ i _ => 8 - (intOf i).toNat)
    case atStart => exact ⟨0, 0, by omega, Below.refl _ _, rfl, rfl, by decide, Lib.hid rfl⟩
    case round =>
      obtain ⟨k, v, hk, hbr, rfl, rfl, hv, HD⟩ := hrel
      by_cases hlt : k < 8
      · have hks : k < s.size := by rw [H8.out]; exact hlt
        have HNk := Lib.hid (HN.out k hks)
        have HSk := Lib.hid (HST.out k hks v)
        go_wp2
        go_loopw [5, 6] (fun d j wr => ∃ m : Nat, m ≤ 16 ∧ Below w.heap.size w wr ∧ j = .int .i64 (m : Int) ∧ d = .int .i64 (dAt s[k] m)) (fun _ j _ => 16 - (intOf j).toNat)
        case atStart => exact ⟨0, by omega, hbr, rfl, by rw [dAt_zero]⟩
        case round =>
          obtain ⟨m, hm, hbm, rfl, rfl⟩ := hrel
          by_cases hm16 : m < 16
          · have hx := hx16_val m hm16
            unfold hx16 at hx
            cases hh : decide (hexV1 s[k] = some m) with
            | true =>
              have hh := of_decide_eq_true hh
              have HA := Lib.hid (dAt_hit hh)
              have he : (((hexD m).toNat : Int) == (s[k].toNat : Int)) = true := by have := (hexV1_iff hm16).1 hh; rw [this]; simp
              clear hh
              go_wp2
              obtain ⟨z, hz, hzm, hzx⟩ : ∃ z : ByteArray, Hid (({ data := #[48, 49, 50, 51, 52, 53, 54, 55, 56, 57, 97, 98, 99, 100, 101, 102] } : ByteArray) = z) ∧ ∃ h : m < z.size, ((z[m]'h).toNat : Int) = ((hexD m).toNat : Int) := ⟨hx16, Lib.hid rfl, hm16, hx16_val m hm16⟩
              rw [hz.out]
              go_region
              go_wp2
              go_roundw
              case rel => exact ⟨m + 1, by omega, hbm.drew, by go_num, by rw [HA.out]⟩
              case measure => simp [intOf]; omega
            | false =>
              have hh := of_decide_eq_false hh
              have HA := Lib.hid (dAt_miss hh)
              have he : (((hexD m).toNat : Int) == (s[k].toNat : Int)) = false := by
                rw [beq_eq_false_iff_ne]
                intro q
                exact hh ((hexV1_iff hm16).2 (by omega))
              clear hh
              go_wp2
              obtain ⟨z, hz, hzm, hzx⟩ : ∃ z : ByteArray, Hid (({ data := #[48, 49, 50, 51, 52, 53, 54, 55, 56, 57, 97, 98, 99, 100, 101, 102] } : ByteArray) = z) ∧ ∃ h : m < z.size, ((z[m]'h).toNat : Int) = ((hexD m).toNat : Int) := ⟨hx16, Lib.hid rfl, hm16, hx16_val m hm16⟩
              rw [hz.out]
              go_region
              go_wp2
              go_roundw
              case rel => exact ⟨m + 1, by omega, hbm.drew, by go_num, by rw [HA.out]⟩
              case measure => simp [intOf]; omega
          · obtain rfl : m = 16 := by omega
            rw [dAt_end]
            cases hd : hexV1 s[k] with
            | none =>
              have HR := Lib.hid (HNk.out hd)
              clear hd
              simp only
              go_wp2
              go_ret
              exact ⟨by rw [HR.out]; rfl, hbm⟩
            | some d =>
              have hd16 := hexV1_lt hd
              have HR := Lib.hid (HSk.out d HD.out hd)
              clear hd
              simp only
              have hvb := HB.out (k + 1) _ (by omega) HR.out
              go_wp2
              go_roundw
              case rel => exact ⟨k + 1, v * 16 + d, by omega, hbm, by go_num, by go_num, hvb, HR⟩
              case measure => simp [intOf]; omega
      · obtain rfl : k = 8 := by omega
        go_wp2
        go_ret
        refine ⟨?_, hbr⟩
        rw [HE.out v (by rw [← HT.out]; exact HD.out)]; rfl
  · have HR := Lib.hid (unhexI_len (l := s.data.toList) (by rw [len_list]; exact h8))
    have h8b : ((s.size : Int) != 8) = true := by rw [bne_iff_ne]; omega
    go_enter Tryz.func27, Tryz.ntmps27
    go_wp2
    go_ret
    exact ⟨by rw [HR.out]; rfl, Below.refl _ _⟩
theorem unhex_txt (s : List UInt8) (hs : s.length ≤ 100000000000) (w : World) :
    Calls Tryz.prog 27 #[txt s] w fun e w' => e = .returned (.int .i64 (unhexI s)) ∧ Below w.heap.size w w' := by
  have h := unhex_any ⟨s.toArray⟩ (by rw [data_size]; exact hs) w
  rw [data_toList] at h
  exact h
end Go.Proofs.YtemokelgafndpaaGreatDoor
