/- The reference ShareOf. Condition: the prefix is one that may be. -/
import Derived.Test.YtcgeagobndhpjaaDoorRefHost
namespace Go.Proofs.YtcgeagobndhpjaaDoor
set_option linter.unusedVariables false
set_option linter.unusedSimpArgs false
open Go.RowKit

set_option maxHeartbeats 3200000 in
theorem shareOf_any (a n : Int) (A : Option Addr) (used : List Int) (c : Nat) (hc : chk a n = 0) (hm : used.length ≤ maxLen) (hcap : used.length ≤ c) (w : World) (hl : Rd w w.heap.size A (used.map (Value.int .i64))) :
    Calls Tryd.prog 18 #[.agg #[.int .i64 a, .int .i64 n], .slice A used.length c] w fun e w' => e = .returned (.tuple #[.int .i64 (cntU a n used), .int .i64 (uHi a n - uLo a n + 1)]) ∧ Below w.heap.size w w' := by
  unfold maxLen at hm
  obtain ⟨u1, u2, u3⟩ := uSpan0 hc
  have HC := Lib.hid hc
  clear hc
  go_enter Tryd.func18, Tryd.ntmps18
  go_wp2_with fail
  refine (usableOf_any a n HC.out _).mono ?_
  rintro e w1 ⟨rfl, hb1⟩
  obtain ⟨lo, hlo⟩ : ∃ lo, lo = uLo a n := ⟨_, rfl⟩
  obtain ⟨hi, hhi⟩ : ∃ hi, hi = uHi a n := ⟨_, rfl⟩
  rw [← hlo, ← hhi] at u1
  rw [← hlo] at u2
  rw [← hhi] at u3
  rw [← hlo, ← hhi]
  have HIN := Lib.hid (show ∀ x, inU a n x = (decide (lo ≤ x) && decide (x ≤ hi)) from fun x => by rw [hlo, hhi]; rfl)
  have HLO := Lib.hid hlo
  have HHI := Lib.hid hhi
  clear hlo hhi
  have hB1 : Below w.heap.size w w1 := ((Below.refl _ _).alloc (Nat.le_refl _) _).trans (hb1.mono (by simp))
  have hs1 := hB1.size
  have hB2 := hB1.alloc hs1 (.cells #[.int .i64 lo, .int .i64 hi] 28)
  have bk := Blk.new w1 28 #[.int .i64 lo, .int .i64 hi]
  clear hb1
  go_wp2
  go_loopw [7, 8, 9] (fun t i _ wr => ∃ k : Nat, k ≤ used.length ∧ i = .int .i64 k ∧ t = .int .i64 (cntU a n (used.take k)) ∧ Below w.heap.size w wr ∧ Blk wr w1.heap.size 28 #[.int .i64 lo, .int .i64 hi]) (fun _ i _ _ => used.length - (intOf i).toNat)
  case atStart => exact ⟨0, Nat.zero_le _, rfl, by simp [cntU, marks, distinct], hB2, bk⟩
  case round =>
    obtain ⟨k, hk, rfl, rfl, hb, hbk⟩ := hrel
    have hsz := hb.size
    have hbl := hbk.lt
    by_cases hlt : k < used.length
    · obtain ⟨b, off, rfl, hbb, c0⟩ := (hl.below hb).int hlt
      have hle := cntU_le a n used k
      have hrd := ((take_rd (hl.below hb) k).more hsz)
      have HS := Lib.hid (cntU_step (a := a) (n := n) hlt)
      have k0 : ∀ x : BelW wr.heap.size wr, x.1.cell? ⟨b, off + k, none⟩ = some (.int .i64 used[k]) := BelW.cell c0 (by simp; omega)
      have k1 : ∀ x : BelW wr.heap.size wr, x.1.cell? ⟨w1.heap.size, 0, none⟩ = some (.int .i64 lo) := BelW.cell hbk.two.1 hbl
      have k2 : ∀ x : BelW wr.heap.size wr, x.1.cell? ⟨w1.heap.size, 1, none⟩ = some (.int .i64 hi) := BelW.cell hbk.two.2.1 hbl
      have hkc : k ≤ c := by omega
      have hkc' : (k : Int) ≤ (c : Int) := by omega
      have htk : (used.take k).length = k := by simp; omega
      have HTK := Lib.hid htk
      clear htk c0
      by_cases hin : used[k] ∈ used.take k
      · have HI := Lib.hid hin
        clear hin
        have H75 := Lib.hid (show ∀ x : BelW wr.heap.size wr, Calls Tryd.prog 75 #[.slice (some ⟨b, off, none⟩) k c, .int .i64 used[k]] x.1 fun e w' => e = .returned (.bool true) ∧ x.1 = w' from fun x => among_yes _ (used.take k) c k _ HTK.out.symm (by rw [HTK.out]; unfold maxLen; omega) HI.out _ ((hrd.below x.2).more x.2.size))
        clear hrd
        by_cases p1 : lo ≤ used[k]
        · by_cases p2 : used[k] ≤ hi
          · have q1 : decide (lo ≤ used[k]) = true := by simpa using p1
            have q2 : decide (used[k] ≤ hi) = true := by simpa using p2
            have HV := Lib.hid (show cntU a n (used.take (k + 1)) = cntU a n (used.take k) + 0 by rw [HS.out, HIN.out]; simp [HI.out, q1, q2])
            go_wp2_with fail
            refine wp_region_bel wr.heap.size wr (by kernel_rfl) (by kernel_rfl) (Below.refl _ _) ?_
            repeat (go_big_quiet_step ((go_at_call 75; exact Calls.bel_same (H75.out _))))
            refine wpQuiet_nil ?_
            intro w2 hb2
            go_wp2_with fail
            refine wp_region_bel wr.heap.size wr (by kernel_rfl) (by kernel_rfl) hb2 ?_
            repeat (go_big_quiet_step (fail))
            refine wpQuiet_nil ?_
            intro w3 hb3
            clear k0 k1 k2
            go_wp2
            go_roundw
            case rel => exact ⟨k + 1, by omega, by go_num, by rw [HV.out]; go_num, hb.trans (hb3.mono hsz), hbk.below hb3 hbl⟩
            case measure => simp [intOf]; omega
          · have q1 : decide (lo ≤ used[k]) = true := by simpa using p1
            have q2 : decide (used[k] ≤ hi) = false := by simpa using p2
            clear p2
            have HV := Lib.hid (show cntU a n (used.take (k + 1)) = cntU a n (used.take k) + 0 by rw [HS.out, HIN.out]; simp [HI.out, q1, q2])
            go_wp2_with fail
            refine wp_region_bel wr.heap.size wr (by kernel_rfl) (by kernel_rfl) (Below.refl _ _) ?_
            repeat (go_big_quiet_step ((go_at_call 75; exact Calls.bel_same (H75.out _))))
            refine wpQuiet_nil ?_
            intro w2 hb2
            go_wp2_with fail
            refine wp_region_bel wr.heap.size wr (by kernel_rfl) (by kernel_rfl) hb2 ?_
            repeat (go_big_quiet_step (fail))
            refine wpQuiet_nil ?_
            intro w3 hb3
            clear k0 k1 k2
            go_wp2
            go_roundw
            case rel => exact ⟨k + 1, by omega, by go_num, by rw [HV.out]; go_num, hb.trans (hb3.mono hsz), hbk.below hb3 hbl⟩
            case measure => simp [intOf]; omega
        · have q1 : decide (lo ≤ used[k]) = false := by simpa using p1
          have q2 : True := trivial
          clear p1
          have HV := Lib.hid (show cntU a n (used.take (k + 1)) = cntU a n (used.take k) + 0 by rw [HS.out, HIN.out]; simp [HI.out, q1, q2])
          go_wp2_with fail
          refine wp_region_bel wr.heap.size wr (by kernel_rfl) (by kernel_rfl) (Below.refl _ _) ?_
          repeat (go_big_quiet_step ((go_at_call 75; exact Calls.bel_same (H75.out _))))
          refine wpQuiet_nil ?_
          intro w2 hb2
          go_wp2_with fail
          refine wp_region_bel wr.heap.size wr (by kernel_rfl) (by kernel_rfl) hb2 ?_
          repeat (go_big_quiet_step (fail))
          refine wpQuiet_nil ?_
          intro w3 hb3
          clear k0 k1 k2
          go_wp2
          go_roundw
          case rel => exact ⟨k + 1, by omega, by go_num, by rw [HV.out]; go_num, hb.trans (hb3.mono hsz), hbk.below hb3 hbl⟩
          case measure => simp [intOf]; omega
      · have HI := Lib.hid hin
        clear hin
        have H75 := Lib.hid (show ∀ x : BelW wr.heap.size wr, Calls Tryd.prog 75 #[.slice (some ⟨b, off, none⟩) k c, .int .i64 used[k]] x.1 fun e w' => e = .returned (.bool false) ∧ x.1 = w' from fun x => among_no _ (used.take k) c k _ HTK.out.symm (by rw [HTK.out]; unfold maxLen; omega) HI.out _ ((hrd.below x.2).more x.2.size))
        clear hrd
        by_cases p1 : lo ≤ used[k]
        · by_cases p2 : used[k] ≤ hi
          · have q1 : decide (lo ≤ used[k]) = true := by simpa using p1
            have q2 : decide (used[k] ≤ hi) = true := by simpa using p2
            have HV := Lib.hid (show cntU a n (used.take (k + 1)) = cntU a n (used.take k) + 1 by rw [HS.out, HIN.out]; simp [HI.out, q1, q2])
            go_wp2_with fail
            refine wp_region_bel wr.heap.size wr (by kernel_rfl) (by kernel_rfl) (Below.refl _ _) ?_
            repeat (go_big_quiet_step ((go_at_call 75; exact Calls.bel_same (H75.out _))))
            refine wpQuiet_nil ?_
            intro w2 hb2
            go_wp2_with fail
            refine wp_region_bel wr.heap.size wr (by kernel_rfl) (by kernel_rfl) hb2 ?_
            repeat (go_big_quiet_step (fail))
            refine wpQuiet_nil ?_
            intro w3 hb3
            clear k0 k1 k2
            go_wp2
            go_roundw
            case rel => exact ⟨k + 1, by omega, by go_num, by rw [HV.out]; go_num, hb.trans (hb3.mono hsz), hbk.below hb3 hbl⟩
            case measure => simp [intOf]; omega
          · have q1 : decide (lo ≤ used[k]) = true := by simpa using p1
            have q2 : decide (used[k] ≤ hi) = false := by simpa using p2
            clear p2
            have HV := Lib.hid (show cntU a n (used.take (k + 1)) = cntU a n (used.take k) + 0 by rw [HS.out, HIN.out]; simp [HI.out, q1, q2])
            go_wp2_with fail
            refine wp_region_bel wr.heap.size wr (by kernel_rfl) (by kernel_rfl) (Below.refl _ _) ?_
            repeat (go_big_quiet_step ((go_at_call 75; exact Calls.bel_same (H75.out _))))
            refine wpQuiet_nil ?_
            intro w2 hb2
            go_wp2_with fail
            refine wp_region_bel wr.heap.size wr (by kernel_rfl) (by kernel_rfl) hb2 ?_
            repeat (go_big_quiet_step (fail))
            refine wpQuiet_nil ?_
            intro w3 hb3
            clear k0 k1 k2
            go_wp2
            go_roundw
            case rel => exact ⟨k + 1, by omega, by go_num, by rw [HV.out]; go_num, hb.trans (hb3.mono hsz), hbk.below hb3 hbl⟩
            case measure => simp [intOf]; omega
        · have q1 : decide (lo ≤ used[k]) = false := by simpa using p1
          have q2 : True := trivial
          clear p1
          have HV := Lib.hid (show cntU a n (used.take (k + 1)) = cntU a n (used.take k) + 0 by rw [HS.out, HIN.out]; simp [HI.out, q1, q2])
          go_wp2_with fail
          refine wp_region_bel wr.heap.size wr (by kernel_rfl) (by kernel_rfl) (Below.refl _ _) ?_
          repeat (go_big_quiet_step ((go_at_call 75; exact Calls.bel_same (H75.out _))))
          refine wpQuiet_nil ?_
          intro w2 hb2
          go_wp2_with fail
          refine wp_region_bel wr.heap.size wr (by kernel_rfl) (by kernel_rfl) hb2 ?_
          repeat (go_big_quiet_step (fail))
          refine wpQuiet_nil ?_
          intro w3 hb3
          clear k0 k1 k2
          go_wp2
          go_roundw
          case rel => exact ⟨k + 1, by omega, by go_num, by rw [HV.out]; go_num, hb.trans (hb3.mono hsz), hbk.below hb3 hbl⟩
          case measure => simp [intOf]; omega
    · obtain rfl : k = used.length := by omega
      have HT := Lib.hid (show used.take used.length = used from List.take_length)
      have k1 : ∀ x : BelW wr.heap.size wr, x.1.cell? ⟨w1.heap.size, 0, none⟩ = some (.int .i64 lo) := BelW.cell hbk.two.1 hbl
      have k2 : ∀ x : BelW wr.heap.size wr, x.1.cell? ⟨w1.heap.size, 1, none⟩ = some (.int .i64 hi) := BelW.cell hbk.two.2.1 hbl
      go_wp2_with fail
      refine wp_region_bel wr.heap.size wr (by kernel_rfl) (by kernel_rfl) (Below.refl _ _) ?_
      repeat (go_big_quiet_step (fail))
      refine wpQuiet_nil ?_
      intro w2 hb2
      clear k1 k2
      go_wp2
      go_ret2
      exact ⟨by rw [HT.out, ← HLO.out, ← HHI.out]; rfl, hb.trans (hb2.mono hsz)⟩
end Go.Proofs.YtcgeagobndhpjaaDoor
