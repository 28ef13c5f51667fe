/- The reference's Split: a text's parts. Any text (of at most 10^11 bytes). -/
import Derived.Test.YtemokelgafndpaaGreatDoorRefText2
import Derived.Test.YtemokelgafndpaaGreatDoorTxtRow
namespace Go.Proofs.YtemokelgafndpaaGreatDoor
set_option linter.unusedVariables false
set_option linter.unusedSimpArgs false
open Go.RowKit

theorem extract_list (s : ByteArray) (a b : Nat) (hb : b ≤ s.size) : (s.extract a b).data.toList = (s.data.toList.drop a).take (b - a) := by
  simp [ByteArray.data_extract, List.extract_eq_take_drop]
theorem drop_byte (s : ByteArray) (k : Nat) (h : k < s.size) : s.data.toList.drop k = s[k] :: s.data.toList.drop (k + 1) := by
  rw [List.drop_eq_getElem_cons (by simpa using h)]; rfl
def SplitO (w : World) (l : List (List UInt8)) (e : Ending) (w' : World) : Prop := ∃ b cap, e = .returned (.slice (some ⟨b, 0, none⟩) l.length cap) ∧ w.heap.size ≤ b ∧ Below w.heap.size w w' ∧ Rd w' w'.heap.size (some ⟨b, 0, none⟩) (l.map txt)
def SplitR (w : World) (l : List (List UInt8)) (e : Ending) (w' : World) : Prop := ∃ A cap, e = .returned (.slice A l.length cap) ∧ Below w.heap.size w w' ∧ Rd w' w'.heap.size A (l.map txt)
set_option maxRecDepth 100000 in
set_option maxHeartbeats 2000000 in
theorem refSplit_own (s : ByteArray) (c : UInt8) (hs : s.size ≤ 100000000000) (w : World) :
    Calls Tryz.prog 26 #[.string s, .int .u8 (c.toNat : Int)] w (SplitO w (splitL c s.data.toList)) := by
  have hlen : s.data.toList.length = s.size := Array.length_toList
  have HL := Lib.hid hlen
  clear hlen
  go_enter Tryz.func26, Tryz.ntmps26
  go_wp2
  go_loopw [5, 6, 7] (fun o f i wr => ∃ (k a : Nat) (done : List (List UInt8)), k ≤ s.size ∧ a ≤ k ∧ i = .int .i64 (k : Int) ∧ f = .int .i64 (a : Int) ∧ done.length ≤ k ∧ OwnT wr w.heap.size 9 o done ∧ Below w.heap.size w wr ∧ Hid (done ++ splitL c (s.data.toList.drop a) = splitL c s.data.toList ∧ c ∉ (s.data.toList.drop a).take (k - a))) (fun _ _ i _ => s.size - (intOf i).toNat)
  case atStart => exact ⟨0, 0, [], Nat.zero_le _, Nat.le_refl _, rfl, rfl, Nat.zero_le _, OwnT.nil _ _ _, Below.refl _ _, Lib.hid ⟨by simp, by simp⟩⟩
  case round =>
    obtain ⟨k, a, done, hk, hak, rfl, rfl, hdl, hown, hbr, HD⟩ := hrel
    by_cases hlt : k < s.size
    · by_cases hc : s[k] = c
      · have g : ((s[k].toNat : Int) == (c.toNat : Int)) = true := by rw [hc]; simp
        have h1 : (0 : Int) ≤ (a : Int) := by omega
        have h2 : (a : Int) ≤ (k : Int) := by omega
        have h3 : (k : Int) ≤ (s.size : Int) := by omega
        have HC := Lib.hid hc
        have hdk := drop_byte s k hlt
        have HK := Lib.hid hdk
        have hpc := extract_list s a k hk
        have HP := Lib.hid hpc
        clear hc hdk hpc
        have hs1 := hbr.size
        go_wp2_with (at_builtin; go_loud (refine wpList_append_txt (x := s.extract a k) rfl _ _ 60 rfl Tryz.underlying60 infoStr w.heap.size _ _ rfl hown rfl (by omega) hs1 ?_); intro v2 w2 hown2 hb2)
        go_roundw
        case rel =>
          refine ⟨k + 1, k + 1, _, by omega, Nat.le_refl _, by go_num, by go_num, ?_, hown2, hbr.trans hb2, Lib.hid ⟨?_, by simp⟩⟩
          · simp; omega
          · rw [← HD.out.1, HP.out]
            have e : s.data.toList.drop a = (s.data.toList.drop a).take (k - a) ++ c :: s.data.toList.drop (k + 1) := by
              conv => lhs; rw [← List.take_append_drop (k - a) (s.data.toList.drop a)]
              rw [List.drop_drop, show a + (k - a) = k by omega, HK.out, HC.out]
            conv => rhs; rw [e]
            rw [splitL_cons _ HD.out.2]
            simp
        case measure => simp [intOf]; omega
      · have g : ((s[k].toNat : Int) == (c.toNat : Int)) = false := by
          rw [beq_eq_false_iff_ne]
          intro q
          exact hc (UInt8.toNat_inj.1 (by omega))
        have hdk := drop_byte s k hlt
        have HK := Lib.hid hdk
        have HC := Lib.hid hc
        clear hc hdk
        go_wp2
        go_roundw
        case rel =>
          refine ⟨k + 1, a, done, by omega, by omega, by go_num, rfl, by omega, hown, hbr, Lib.hid ⟨HD.out.1, ?_⟩⟩
          rw [show k + 1 - a = (k - a) + 1 by omega, List.take_add_one]
          intro q
          rcases List.mem_append.1 q with q | q
          · exact HD.out.2 q
          · rw [List.getElem?_drop, show a + (k - a) = k by omega] at q
            have hk2 : k < s.data.toList.length := by rw [HL.out]; exact hlt
            rw [List.getElem?_eq_getElem hk2] at q
            simp only [Option.toList_some, List.mem_singleton] at q
            exact HC.out q.symm
        case measure => simp [intOf]; omega
    · obtain rfl : k = s.size := by omega
      have h1 : (0 : Int) ≤ (a : Int) := by omega
      have h2 : (a : Int) ≤ (s.size : Int) := by omega
      have hpc := extract_list s a s.size (Nat.le_refl _)
      have HP := Lib.hid hpc
      clear hpc
      have hs1 := hbr.size
      go_wp2_with (at_builtin; go_loud (refine wpList_append_txt (x := s.extract a s.size) rfl _ _ 60 rfl Tryz.underlying60 infoStr w.heap.size _ _ rfl hown rfl (by omega) hs1 ?_); intro v2 w2 hown2 hb2)
      obtain ⟨g, cap, hv, hg, hrd⟩ : ∃ g cap, v2 = .slice (some ⟨g, 0, none⟩) (done ++ [(s.extract a s.size).data.toList]).length cap ∧ w.heap.size ≤ g ∧ Rd w2 w2.heap.size (some ⟨g, 0, none⟩) ((done ++ [(s.extract a s.size).data.toList]).map txt) := by
        rcases hown2.2 with ⟨h1, h2⟩ | ⟨g, cap, cur, hv, hg, r⟩
        · simp at h2
        · exact ⟨g, cap, hv, hg, Rd.of_own (hv ▸ hown2)⟩
      have hsp : done ++ [(s.extract a s.size).data.toList] = splitL c s.data.toList := by
        have hd2 := HD.out.2
        have e : (s.data.toList.drop a).take (s.size - a) = s.data.toList.drop a := List.take_of_length_le (by rw [List.length_drop, HL.out]; exact Nat.le_refl _)
        rw [e] at hd2
        rw [← HD.out.1, HP.out, e, splitL_none hd2]
      rw [hsp] at hv hrd
      clear hsp hown2
      subst hv
      go_ret
      exact ⟨g, cap, rfl, hg, hbr.trans hb2, hrd⟩
theorem refSplit_any (s : ByteArray) (c : UInt8) (hs : s.size ≤ 100000000000) (w : World) :
    Calls Tryz.prog 26 #[.string s, .int .u8 (c.toNat : Int)] w (SplitR w (splitL c s.data.toList)) :=
  (refSplit_own s c hs w).mono fun e w' ⟨b, cap, h1, _, h2, h3⟩ => ⟨_, cap, h1, h2, h3⟩
theorem refSplit_otxt (s : List UInt8) (c : UInt8) (hs : s.length ≤ 100000000000) (w : World) :
    Calls Tryz.prog 26 #[txt s, .int .u8 (c.toNat : Int)] w (SplitO w (splitL c s)) := by
  have h := refSplit_own ⟨s.toArray⟩ c (by rw [data_size]; exact hs) w
  rw [data_toList] at h
  exact h
theorem refSplit_txt (s : List UInt8) (c : UInt8) (hs : s.length ≤ 100000000000) (w : World) :
    Calls Tryz.prog 26 #[txt s, .int .u8 (c.toNat : Int)] w (SplitR w (splitL c s)) := by
  have h := refSplit_any ⟨s.toArray⟩ c (by rw [data_size]; exact hs) w
  rw [data_toList] at h
  exact h
end Go.Proofs.YtemokelgafndpaaGreatDoor
