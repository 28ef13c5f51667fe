/- The reference's Small: a number of at most three digits. Any text. -/
import Derived.Test.YtfeeilpkfjfnaaaGreatDoorRefText1
namespace Go.Proofs.YtfeeilpkfjfnaaaGreatDoor
set_option linter.unusedVariables false
set_option linter.unusedSimpArgs false
open Go.RowKit

theorem ret_int {k : IntKind} {a b : Int} (h : a = b) : Ending.returned (.int k a) = .returned (.int k b) := by rw [h]
theorem take_byte (s : ByteArray) (k : Nat) (h : k < s.size) : s.data.toList.take (k + 1) = s.data.toList.take k ++ [s[k]] := by
  rw [List.take_succ_eq_append_getElem (by simpa using h)]; rfl
theorem byte_mem (s : ByteArray) (k : Nat) (h : k < s.size) : s[k] ∈ s.data.toList := by
  have : s[k] = s.data.toList[k]'(by simpa using h) := rfl
  rw [this]; exact List.getElem_mem _
theorem dig_no {b : UInt8} (h : (b.toNat : Int) < 48 ∨ 57 < (b.toNat : Int)) : digOk b = false := by
  unfold digOk; simp; omega
theorem dig_yes {b : UInt8} (h1 : 48 ≤ (b.toNat : Int)) (h2 : (b.toNat : Int) ≤ 57) : digOk b = true := by
  unfold digOk; simp; omega
set_option maxHeartbeats 1000000 in
theorem refSmall_loop (s : ByteArray) (h1 : 1 ≤ s.size) (h2 : s.size ≤ 3) (h3 : s.size ≤ 1 ∨ ∀ h : 0 < s.size, ((s[0].toNat : Int) == 48) = false) (w : World) :
    Calls Tryz.prog 17 #[.string s] w fun e w' => e = .returned (.int .i64 (smallS s.data.toList)) ∧ w = w' := by
  have hlen : s.data.toList.length = s.size := Array.length_toList
  have hh : s.data.toList.length ≤ 1 ∨ s.data.toList.head? ≠ some 48 := by
    rcases h3 with h3 | h3
    · exact .inl (by omega)
    · refine .inr fun q => ?_
      have h0 : 0 < s.data.toList.length := by omega
      rw [List.head?_eq_getElem?, List.getElem?_eq_getElem h0] at q
      have := h3 (by omega)
      rw [show s[0] = s.data.toList[0] from rfl, Option.some.inj q] at this
      simp at this
  have HS := Lib.hid (fun (h4 : ∀ b ∈ s.data.toList, digOk b = true) => smallS_yes (s := s.data.toList) (by omega) (by omega) hh h4)
  clear hh
  have HL := Lib.hid hlen
  clear hlen
  have h0 : 0 < s.size := by omega
  have go : ∀ (c : Bool), (1 < s.size → ((s[0].toNat : Int) == 48) = c) → c = false → Calls Tryz.prog 17 #[.string s] w fun e w' => e = .returned (.int .i64 (smallS s.data.toList)) ∧ w = w' := by
    intro c hc hcf
    subst hcf
    clear h3
    by_cases h4 : 1 < s.size
    all_goals
      (try have hc1 := hc h4)
      clear hc
      go_enter Tryz.func17, Tryz.ntmps17
      go_wp2
      go_loop [3, 4] (fun n i => ∃ k : Nat, k ≤ s.size ∧ i = .int .i64 (k : Int) ∧ n = .int .i64 (valN 0 (s.data.toList.take k) : Int) ∧ Hid (∀ b ∈ s.data.toList.take k, digOk b = true)) (fun _ i => s.size - (intOf i).toNat)
      case atStart => exact ⟨0, Nat.zero_le _, rfl, rfl, Lib.hid (by simp)⟩
      case round =>
        obtain ⟨k, hk, rfl, rfl, HD⟩ := hrel
        have hv : valN 0 (s.data.toList.take k) < 1000 := by
          have a := val_lt _ HD.out
          have b : (s.data.toList.take k).length ≤ 3 := by have := HL.out; simp; omega
          exact Nat.lt_of_lt_of_le a (Nat.pow_le_pow_right (by decide) b)
        by_cases hlt : k < s.size
        · have ht := take_byte s k hlt
          have hmem := byte_mem s k hlt
          have hsn := valN_snoc (s.data.toList.take k) 0 s[k]
          have HT := Lib.hid ht
          have HN := Lib.hid hsn
          have HM := Lib.hid hmem
          have hbb : s[k].toNat < 256 := s[k].toNat_lt
          clear ht hsn hmem
          generalize hvv : valN 0 (s.data.toList.take k) = v at *
          by_cases d1 : (s[k].toNat : Int) < 48
          · go_wp2
            go_ret
            exact ⟨ret_int (smallS_no (.inr (.inr (.inr ⟨_, HM.out, dig_no (.inl d1)⟩)))).symm, rfl⟩
          · by_cases d2 : 57 < (s[k].toNat : Int)
            · go_wp2
              go_ret
              exact ⟨ret_int (smallS_no (.inr (.inr (.inr ⟨_, HM.out, dig_no (.inr d2)⟩)))).symm, rfl⟩
            · go_wp2
              go_round
              case rel =>
                refine ⟨k + 1, by omega, by go_num, ?_, Lib.hid ?_⟩
                · rw [HT.out, HN.out]
                  congr 1
                  omega
                · rw [HT.out]
                  intro b hb
                  rcases List.mem_append.1 hb with hb | hb
                  · exact HD.out b hb
                  · rw [List.mem_singleton] at hb
                    rw [hb]; exact dig_yes (by omega) (by omega)
              case measure => simp [intOf]; omega
        · obtain rfl : k = s.size := by omega
          have hall : s.data.toList.take s.size = s.data.toList := List.take_of_length_le (by rw [HL.out]; exact Nat.le_refl _)
          have HA := Lib.hid hall
          clear hall
          go_wp2
          go_ret
          refine ⟨ret_int ?_, rfl⟩
          rw [HA.out, HS.out (by rw [← HA.out]; exact HD.out)]
  rcases h3 with h3 | h3
  · exact go false (fun h => by omega) rfl
  · exact go false (fun _ => h3 h0) rfl
set_option maxRecDepth 100000 in
set_option maxHeartbeats 1000000 in
theorem refSmall_any (s : ByteArray) (hs : s.size ≤ maxLen) (w : World) :
    Calls Tryz.prog 17 #[.string s] w fun e w' => e = .returned (.int .i64 (smallS s.data.toList)) ∧ w = w' := by
  have hlen : s.data.toList.length = s.size := Array.length_toList
  clear hs
  by_cases h1 : s.size < 1
  · have hr := smallS_no (s := s.data.toList) (.inl (by omega))
    have HR := Lib.hid hr
    clear hr hlen
    go_enter Tryz.func17, Tryz.ntmps17
    go_wp2
    go_ret
    exact ⟨ret_int HR.out.symm, rfl⟩
  by_cases h2 : 3 < s.size
  · have hr := smallS_no (s := s.data.toList) (.inr (.inl (by omega)))
    have HR := Lib.hid hr
    clear hr hlen
    go_enter Tryz.func17, Tryz.ntmps17
    go_wp2
    go_ret
    exact ⟨ret_int HR.out.symm, rfl⟩
  have g1 : 1 ≤ s.size := by omega
  have g2 : s.size ≤ 3 := by omega
  by_cases h3 : s.size ≤ 1
  · exact refSmall_loop s g1 g2 (.inl h3) w
  have g0 : 0 < s.size := by omega
  have g3 : 1 < s.size := by omega
  cases hc : ((s[0].toNat : Int) == 48) with
  | false => exact refSmall_loop s g1 g2 (.inr fun _ => hc) w
  | true =>
    have hr := smallS_no (s := s.data.toList) (.inr (.inr (.inl ⟨by omega, by
      have h0 : 0 < s.data.toList.length := by omega
      rw [List.head?_eq_getElem?, List.getElem?_eq_getElem h0]
      have e : s[0] = s.data.toList[0] := rfl
      rw [← e]
      congr 1
      apply UInt8.toNat_inj.1
      have := eq_of_beq hc
      show s[0].toNat = 48
      omega⟩)))
    have HR := Lib.hid hr
    clear hr hlen h1 h2 h3
    go_enter Tryz.func17, Tryz.ntmps17
    go_wp2
    go_ret
    exact ⟨ret_int HR.out.symm, rfl⟩
theorem refSmall_txt (s : List UInt8) (hs : s.length ≤ maxLen) (w : World) :
    Calls Tryz.prog 17 #[txt s] w fun e w' => e = .returned (.int .i64 (smallS s)) ∧ w = w' := by
  have h := refSmall_any ⟨s.toArray⟩ (by rw [data_size]; exact hs) w
  rw [data_toList] at h
  exact h
end Go.Proofs.YtfeeilpkfjfnaaaGreatDoor
