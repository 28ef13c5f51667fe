/- The references KeyFault and ChangesFault: whatever the changes. Condition: their texts are no longer than a slice may be. -/
import Derived.Test.YtdcjogofjniogaaDoorCode2
namespace Go.Proofs.YtdcjogofjniogaaDoor
set_option linter.unusedVariables false
set_option linter.unusedSimpArgs false
open Go.RowKit

def keyFaultI (k v : List UInt8) : Int := if keyOk k = true ∧ v.length ≤ 12 then 0 else 2
theorem keyFault_any (k v : List UInt8) (hk : k.length ≤ maxLen) (hv : v.length ≤ maxLen) (w : World) :
    Calls Tryd.prog 51 #[strV k, strV v] w fun e w' => e = .returned (.int .i64 (keyFaultI k v)) ∧ w' = w := by
  have h1 : wrap64 (k.length : Int) = k.length := by unfold maxLen at hk; unfold wrap64; omega
  have h2 : wrap64 (v.length : Int) = v.length := by unfold maxLen at hv; unfold wrap64; omega
  by_cases q1 : k.length < 1
  · have HK := Lib.hid (show keyFaultI k v = 2 by unfold keyFaultI; rw [if_neg (by simp [keyOk]; omega)])
    have d1 : decide ((k.length : Int) < 1) = true := by simp; omega
    go_enter Tryd.func51, Tryd.ntmps51
    go_wp2
    go_ret
    exact ⟨by rw [HK.out]; rfl, rfl⟩
  · have d1 : decide ((k.length : Int) < 1) = false := by simp; omega
    by_cases q2 : 24 < k.length
    · have HK := Lib.hid (show keyFaultI k v = 2 by unfold keyFaultI; rw [if_neg (by simp [keyOk]; omega)])
      have d2 : decide ((24 : Int) < (k.length : Int)) = true := by simp; omega
      go_enter Tryd.func51, Tryd.ntmps51
      go_wp2
      go_ret
      exact ⟨by rw [HK.out]; rfl, rfl⟩
    · have d2 : decide ((24 : Int) < (k.length : Int)) = false := by simp; omega
      by_cases q3 : 12 < v.length
      · have HK := Lib.hid (show keyFaultI k v = 2 by unfold keyFaultI; rw [if_neg (by simp [keyOk]; omega)])
        have d3 : decide ((12 : Int) < (v.length : Int)) = true := by simp; omega
        go_enter Tryd.func51, Tryd.ntmps51
        go_wp2
        go_ret
        exact ⟨by rw [HK.out]; rfl, rfl⟩
      · have HK := Lib.hid (show keyFaultI k v = 0 by unfold keyFaultI; rw [if_pos (by simp [keyOk]; omega)])
        have d3 : decide ((12 : Int) < (v.length : Int)) = false := by simp; omega
        go_enter Tryd.func51, Tryd.ntmps51
        go_wp2
        go_ret
        exact ⟨by rw [HK.out]; rfl, rfl⟩

theorem one_bad {c : Chg} (h : ¬ (keyOk c.key = true ∧ c.val.length ≤ 12)) : oneOk c = false := by
  cases h1 : oneOk c with
  | false => rfl
  | true =>
    refine absurd ?_ h
    simp only [oneOk, Bool.and_eq_true] at h1
    exact ⟨by simp only [keyOk, Bool.and_eq_true]; exact h1.1.1, by simpa using h1.1.2⟩
theorem errV_two {k : Int} (h : errV k = .iface 31 (.int .i64 2)) : k = 2 := by
  unfold errV at h
  split at h
  · cases h
  · injection h with _ h
    injection h
theorem fault_bad {l : List Chg} {k : Nat} (h20 : l.length ≤ 20) (h : k < l.length) (hg : riseOk none l = riseOk (prevC l k) (l.drop k)) (h1 : oneOk l[k] = false ∨ riseAt (prevC l k) l[k] = false) : chgFault l = 2 := errV_two (rise_bad h20 h hg h1)
theorem fault_end {l : List Chg} (h20 : l.length ≤ 20) (hg : riseOk none l = riseOk (prevC l l.length) (l.drop l.length)) : chgFault l = 0 := by
  have e : riseOk none l = true := by rw [hg]; simp [riseOk]
  exact chgFault_zero.2 ⟨h20, e⟩

set_option maxRecDepth 100000 in
set_option maxHeartbeats 8000000 in
theorem changesFault_any (A : Option Addr) (l : List Chg) (c : Nat) (hm : l.length ≤ maxLen) (hS : Small l) (w : World) (hl : Rd w w.heap.size A (cellsC l)) :
    Calls Tryd.prog 41 #[.slice A l.length c] w fun e w' => e = .returned (.int .i64 (chgFault l)) ∧ Below w.heap.size w w' := by
  have hw : wrap64 (l.length : Int) = l.length := by unfold maxLen at hm; unfold wrap64; omega
  by_cases h20 : l.length ≤ 20
  · have h20' : ¬ (20 : Int) < (l.length : Int) := by omega
    have HS := Lib.hid hS
    clear hS
    go_enter Tryd.func41, Tryd.ntmps41
    go_wp2
    go_loopw [3, 4] (fun i _ wr => ∃ k : Nat, k ≤ l.length ∧ i = .int .i64 k ∧ Below w.heap.size w wr ∧ riseOk none l = riseOk (prevC l k) (l.drop k)) (fun i _ _ => l.length - (intOf i).toNat)
    case atStart => exact ⟨0, Nat.zero_le _, rfl, Below.refl _ _, rfl⟩
    case round =>
      obtain ⟨k, hk, rfl, hb, hg⟩ := hrel
      by_cases hlt : k < l.length
      · obtain ⟨b, off, rfl, hbb, c0, c1, c2⟩ := (hl.below hb).chg hlt
        have hs := hb.size
        have hkey := (HS.out l[k] (List.getElem_mem _)).1
        have hval := (HS.out l[k] (List.getElem_mem _)).2
        have hwv : wrap64 (l[k].val.length : Int) = l[k].val.length := by unfold maxLen at hval; unfold wrap64; omega
        have hk0i : (0 : Int) ≤ (k : Int) := by omega
        have hk1i : (k : Int) < (l.length : Int) := by omega
        have k0 : ∀ x : BelW wr.heap.size wr, x.1.cell? ⟨b, off + k * 3, none⟩ = some (strV l[k].key) := BelW.cell c0 (show b < _ by omega)
        have k1 : ∀ x : BelW wr.heap.size wr, x.1.cell? ⟨b, off + k * 3 + 1, none⟩ = some (strV l[k].val) := BelW.cell c1 (show b < _ by omega)
        have k2 : ∀ x : BelW wr.heap.size wr, x.1.cell? ⟨b, off + k * 3 + 2, none⟩ = some (.bool l[k].gone) := BelW.cell c2 (show b < _ by omega)
        by_cases q1 : keyOk l[k].key = true ∧ l[k].val.length ≤ 12
        · obtain ⟨q1, q2⟩ := q1
          have hkf : keyFaultI l[k].key l[k].val = 0 := by unfold keyFaultI; rw [if_pos ⟨q1, q2⟩]
          have HKF := Lib.hid hkf
          clear hkf
          go_wp2_with fail
          refine wp_region_bel wr.heap.size wr (by kernel_rfl) (by kernel_rfl) (Below.refl _ _) ?_
          repeat (go_big_quiet_step ((go_at_call 51; exact Calls.bel_same ((keyFault_any _ _ hkey hval _).mono fun e w' h => ⟨h.1, h.2.symm⟩))))
          refine wpQuiet_nil ?_
          intro w3 hb3
          have hbw3 := hb.trans (hb3.mono hs)
          have hs3 := hb3.size
          have x0 := (hb3.cell (p := ⟨b, off + k * 3, none⟩) (show b < _ by omega)).trans c0
          have x1 := (hb3.cell (p := ⟨b, off + k * 3 + 1, none⟩) (show b < _ by omega)).trans c1
          have x2 := (hb3.cell (p := ⟨b, off + k * 3 + 2, none⟩) (show b < _ by omega)).trans c2
          clear k0 k1 k2 c0 c1 c2
          have k0 : ∀ x : BelW w3.heap.size w3, x.1.cell? ⟨b, off + k * 3, none⟩ = some (strV l[k].key) := BelW.cell x0 (show b < _ by omega)
          have k1 : ∀ x : BelW w3.heap.size w3, x.1.cell? ⟨b, off + k * 3 + 1, none⟩ = some (strV l[k].val) := BelW.cell x1 (show b < _ by omega)
          have k2 : ∀ x : BelW w3.heap.size w3, x.1.cell? ⟨b, off + k * 3 + 2, none⟩ = some (.bool l[k].gone) := BelW.cell x2 (show b < _ by omega)
          clear x0 x1 x2
          rw [HKF.out]
          by_cases q3 : (l[k].gone && decide (0 < l[k].val.length)) = true
          · have g1 : l[k].gone = true := by simp at q3; exact q3.1
            have d3 : decide ((0 : Int) < (l[k].val.length : Int)) = true := by have h2 : 0 < l[k].val.length := of_decide_eq_true (Bool.and_eq_true_iff.1 q3).2; exact decide_eq_true (by omega)
            have d5 : 0 < l[k].val.length := of_decide_eq_true (Bool.and_eq_true_iff.1 q3).2
            have d6 : ¬ l[k].val = [] := fun h => by rw [h] at d5; simp at d5
            have d7 : decide (l[k].val = []) = false := decide_eq_false d6
            have d8 : l[k].val.isEmpty = false := by simpa using d6
            have d9 : decide (0 < l[k].val.length) = true := decide_eq_true d5
            rw [g1] at k2
            have HX := Lib.hid (fault_bad h20 hlt hg (.inl (by unfold oneOk; rw [q3]; simp)))
            clear hg
            go_wp2_with fail
            refine wp_region_bel w3.heap.size w3 (by kernel_rfl) (by kernel_rfl) (Below.refl _ _) ?_
            repeat (go_big_quiet_step (fail))
            refine wpQuiet_nil ?_
            intro w4 hb4
            have hbw4 := hbw3.trans (hb4.mono (by omega))
            clear k0 k1 k2
            go_wp2
            go_ret
            exact ⟨by rw [HX.out]; rfl, hbw4⟩
          · have q3' : (l[k].gone && decide (0 < l[k].val.length)) = false := by simpa using q3
            have q4 : oneOk l[k] = true := by unfold oneOk; rw [q3']; simp [keyOk] at q1; simp [q1, q2]
            rcases Nat.eq_zero_or_pos k with rfl | hk0
            · have HX := Lib.hid (rise_next hlt hg q4 rfl)
              clear hg
              rcases hgo : l[0].gone with _ | _
              · rw [hgo] at k2
                go_wp2_with fail
                refine wp_region_bel w3.heap.size w3 (by kernel_rfl) (by kernel_rfl) (Below.refl _ _) ?_
                repeat (go_big_quiet_step (fail))
                refine wpQuiet_nil ?_
                intro w4 hb4
                have hbw4 := hbw3.trans (hb4.mono (by omega))
                clear k0 k1 k2
                go_wp2
                go_roundw
                case rel => exact ⟨0 + 1, by omega, by go_num, hbw4, HX.out⟩
                case measure => simp [intOf]; omega
              · rw [hgo] at k2 q3'
                have d3 : decide ((0 : Int) < (l[0].val.length : Int)) = false := by simp at q3' ⊢; simp [q3']
                go_wp2_with fail
                refine wp_region_bel w3.heap.size w3 (by kernel_rfl) (by kernel_rfl) (Below.refl _ _) ?_
                repeat (go_big_quiet_step (fail))
                refine wpQuiet_nil ?_
                intro w4 hb4
                have hbw4 := hbw3.trans (hb4.mono (by omega))
                clear k0 k1 k2
                go_wp2
                go_roundw
                case rel => exact ⟨0 + 1, by omega, by go_num, hbw4, HX.out⟩
                case measure => simp [intOf]; omega
            · obtain ⟨j, rfl⟩ : ∃ j, k = j + 1 := ⟨k - 1, by omega⟩
              obtain ⟨b', off', he, hbb', e0, _, _⟩ := (hl.below hbw3).chg (k := j) (by omega)
              obtain ⟨rfl, rfl⟩ : b = b' ∧ off = off' := by simpa using he
              have k3 : ∀ x : BelW w3.heap.size w3, x.1.cell? ⟨b, off + j * 3, none⟩ = some (strV l[j].key) := BelW.cell e0 (show b < _ by omega)
              clear he e0
              have hprev : prevC l (j + 1) = some l[j] := by simp [prevC, List.getElem?_eq_getElem (show j < l.length by omega)]
              have d4 : decide ((0 : Int) < ((j + 1 : Nat) : Int)) = true := by simp
              have d4' : decide ((0 : Int) < (j : Int) + 1) = true := by simp
              rcases hle : (Op.bytesLess l[j + 1].key l[j].key || l[j + 1].key == l[j].key) with _ | _
              · have HX := Lib.hid (rise_next hlt hg q4 (by rw [hprev]; simp only [riseAt, ← lessB_eq]; rw [hle]; rfl))
                clear hg
                rcases hgo : l[j + 1].gone with _ | _
                · rw [hgo] at k2
                  go_wp2_with fail
                  refine wp_region_bel w3.heap.size w3 (by kernel_rfl) (by kernel_rfl) (Below.refl _ _) ?_
                  repeat (go_big_quiet_step (fail))
                  refine wpQuiet_nil ?_
                  intro w4 hb4
                  have hbw4 := hbw3.trans (hb4.mono (by omega))
                  clear k0 k1 k2
                  go_wp2
                  go_roundw
                  case rel => exact ⟨j + 1 + 1, by omega, by go_num, hbw4, HX.out⟩
                  case measure => simp [intOf]; omega
                · rw [hgo] at k2 q3'
                  have d3 : decide ((0 : Int) < (l[j + 1].val.length : Int)) = false := by simp at q3' ⊢; simp [q3']
                  go_wp2_with fail
                  refine wp_region_bel w3.heap.size w3 (by kernel_rfl) (by kernel_rfl) (Below.refl _ _) ?_
                  repeat (go_big_quiet_step (fail))
                  refine wpQuiet_nil ?_
                  intro w4 hb4
                  have hbw4 := hbw3.trans (hb4.mono (by omega))
                  clear k0 k1 k2
                  go_wp2
                  go_roundw
                  case rel => exact ⟨j + 1 + 1, by omega, by go_num, hbw4, HX.out⟩
                  case measure => simp [intOf]; omega
              · have HX := Lib.hid (fault_bad h20 hlt hg (.inr (by rw [hprev]; simp only [riseAt, ← lessB_eq]; rw [hle]; rfl)))
                clear hg
                rcases hgo : l[j + 1].gone with _ | _
                · rw [hgo] at k2
                  go_wp2_with fail
                  refine wp_region_bel w3.heap.size w3 (by kernel_rfl) (by kernel_rfl) (Below.refl _ _) ?_
                  repeat (go_big_quiet_step (fail))
                  refine wpQuiet_nil ?_
                  intro w4 hb4
                  have hbw4 := hbw3.trans (hb4.mono (by omega))
                  clear k0 k1 k2
                  go_wp2
                  go_ret
                  exact ⟨by rw [HX.out]; rfl, hbw4⟩
                · rw [hgo] at k2 q3'
                  have d3 : decide ((0 : Int) < (l[j + 1].val.length : Int)) = false := by simp at q3' ⊢; simp [q3']
                  go_wp2_with fail
                  refine wp_region_bel w3.heap.size w3 (by kernel_rfl) (by kernel_rfl) (Below.refl _ _) ?_
                  repeat (go_big_quiet_step (fail))
                  refine wpQuiet_nil ?_
                  intro w4 hb4
                  have hbw4 := hbw3.trans (hb4.mono (by omega))
                  clear k0 k1 k2
                  go_wp2
                  go_ret
                  exact ⟨by rw [HX.out]; rfl, hbw4⟩
        · have hkf : keyFaultI l[k].key l[k].val = 2 := by unfold keyFaultI; rw [if_neg q1]
          have HKF := Lib.hid hkf
          clear hkf
          have HX := Lib.hid (fault_bad h20 hlt hg (.inl (one_bad q1)))
          clear hg
          go_wp2_with fail
          refine wp_region_bel wr.heap.size wr (by kernel_rfl) (by kernel_rfl) (Below.refl _ _) ?_
          repeat (go_big_quiet_step ((go_at_call 51; exact Calls.bel_same ((keyFault_any _ _ hkey hval _).mono fun e w' h => ⟨h.1, h.2.symm⟩))))
          refine wpQuiet_nil ?_
          intro w3 hb3
          have hbw3 := hb.trans (hb3.mono hs)
          have hs3 := hb3.size
          have x0 := (hb3.cell (p := ⟨b, off + k * 3, none⟩) (show b < _ by omega)).trans c0
          have x1 := (hb3.cell (p := ⟨b, off + k * 3 + 1, none⟩) (show b < _ by omega)).trans c1
          have x2 := (hb3.cell (p := ⟨b, off + k * 3 + 2, none⟩) (show b < _ by omega)).trans c2
          clear k0 k1 k2 c0 c1 c2
          have k0 : ∀ x : BelW w3.heap.size w3, x.1.cell? ⟨b, off + k * 3, none⟩ = some (strV l[k].key) := BelW.cell x0 (show b < _ by omega)
          have k1 : ∀ x : BelW w3.heap.size w3, x.1.cell? ⟨b, off + k * 3 + 1, none⟩ = some (strV l[k].val) := BelW.cell x1 (show b < _ by omega)
          have k2 : ∀ x : BelW w3.heap.size w3, x.1.cell? ⟨b, off + k * 3 + 2, none⟩ = some (.bool l[k].gone) := BelW.cell x2 (show b < _ by omega)
          clear x0 x1 x2
          rw [HKF.out]
          go_wp2_with fail
          refine wp_region_bel w3.heap.size w3 (by kernel_rfl) (by kernel_rfl) (Below.refl _ _) ?_
          repeat (go_big_quiet_step (fail))
          refine wpQuiet_nil ?_
          intro w4 hb4
          have hbw4 := hbw3.trans (hb4.mono (by omega))
          clear k0 k1 k2
          go_wp2
          go_ret
          exact ⟨by rw [HX.out]; rfl, hbw4⟩
      · obtain rfl : k = l.length := by omega
        have HE := Lib.hid (fault_end h20 hg)
        clear hg
        go_wp2
        go_ret
        exact ⟨by rw [HE.out]; rfl, hb⟩
  · have HE := Lib.hid (show chgFault l = 3 by unfold chgFault; rw [if_pos (by omega)])
    have h20' : (20 : Int) < (l.length : Int) := by omega
    go_enter Tryd.func41, Tryd.ntmps41
    go_wp2
    go_ret
    exact ⟨by rw [HE.out]; rfl, Below.refl _ _⟩
end Go.Proofs.YtdcjogofjniogaaDoor
