/- The references of sets: SpanFault, SetFault, inside. Any spans. -/
import Derived.Test.YtmfaknngophmhaaDoorRefAddr
import Derived.Test.YtmfaknngophmhaaDoorSpan
namespace Go.Proofs.YtmfaknngophmhaaDoor
set_option linter.unusedVariables false
set_option linter.unusedSimpArgs false
open Go.RowKit

theorem spanFaultRef_any (x y : Int) (w : World) :
    Calls Tryd.prog 7 #[.agg #[.int .i64 x, .int .i64 y]] w fun e w' => e = .returned (.int .i64 (spanFault (x, y))) ∧ Below w.heap.size w w' := by
  cases hx : isA x
  · have HV := Lib.hid (show spanFault (x, y) = 1 by simp [spanFault, hx])
    have HX := Lib.hid hx
    obtain ⟨i, hi⟩ : ∃ i, i = isA y := ⟨_, rfl⟩
    have HI := Lib.hid hi.symm
    clear hx hi
    go_enter Tryd.func7, Tryd.ntmps7
    go_wp2_with fail
    refine (refIs_any x _).mono ?_
    rintro e w' ⟨rfl, rfl⟩
    rw [HX.out]
    go_wp2_with fail
    refine (refIs_any y _).mono ?_
    rintro e w' ⟨rfl, rfl⟩
    rw [HI.out]
    go_wp2
    go_ret
    exact ⟨by rw [HV.out]; rfl, (Below.refl _ _).alloc (Nat.le_refl _) _⟩
  · cases hy : isA y
    · have HV := Lib.hid (show spanFault (x, y) = 1 by simp [spanFault, hy])
      have HX := Lib.hid hx
      have HY := Lib.hid hy
      clear hx hy
      go_enter Tryd.func7, Tryd.ntmps7
      go_wp2_with fail
      refine (refIs_any x _).mono ?_
      rintro e w' ⟨rfl, rfl⟩
      rw [HX.out]
      go_wp2_with fail
      refine (refIs_any y _).mono ?_
      rintro e w' ⟨rfl, rfl⟩
      rw [HY.out]
      go_wp2
      go_ret
      exact ⟨by rw [HV.out]; rfl, (Below.refl _ _).alloc (Nat.le_refl _) _⟩
    · by_cases hlt : y < x
      · have HV := Lib.hid (show spanFault (x, y) = 2 by simp [spanFault, hx, hy, hlt])
        have HX := Lib.hid hx
        have HY := Lib.hid hy
        clear hx hy
        go_enter Tryd.func7, Tryd.ntmps7
        go_wp2_with fail
        refine (refIs_any x _).mono ?_
        rintro e w' ⟨rfl, rfl⟩
        rw [HX.out]
        go_wp2_with fail
        refine (refIs_any y _).mono ?_
        rintro e w' ⟨rfl, rfl⟩
        rw [HY.out]
        go_wp2
        go_ret
        exact ⟨by rw [HV.out]; rfl, (Below.refl _ _).alloc (Nat.le_refl _) _⟩
      · have HV := Lib.hid (show spanFault (x, y) = 0 by simp [spanFault, hx, hy]; omega)
        have hlt' : x ≤ y := by omega
        have HX := Lib.hid hx
        have HY := Lib.hid hy
        clear hx hy hlt
        go_enter Tryd.func7, Tryd.ntmps7
        go_wp2_with fail
        refine (refIs_any x _).mono ?_
        rintro e w' ⟨rfl, rfl⟩
        rw [HX.out]
        go_wp2_with fail
        refine (refIs_any y _).mono ?_
        rintro e w' ⟨rfl, rfl⟩
        rw [HY.out]
        go_wp2
        go_ret
        exact ⟨by rw [HV.out]; rfl, (Below.refl _ _).alloc (Nat.le_refl _) _⟩

theorem inside_snoc (l : List Sp) (k : Nat) (h : k < l.length) (a : Int) : memS (l.take (k + 1)) a = (memS (l.take k) a || inS l[k] a) := by
  rw [List.take_succ_eq_append_getElem h, memS_append]; simp [memS]
set_option maxHeartbeats 800000 in
theorem inside_any (A : Option Addr) (l : List Sp) (c : Nat) (a : Int) (hm : l.length ≤ maxLen) (w : World) (hl : Rd w w.heap.size A (cellsP l)) :
    Calls Tryd.prog 47 #[.slice A l.length c, .int .i64 a] w fun e w' => e = .returned (.bool (memS l a)) ∧ w = w' := by
  unfold maxLen at hm
  go_enter Tryd.func47, Tryd.ntmps47
  go_wp2
  go_loop [5] (fun i => ∃ k : Nat, k ≤ l.length ∧ i = .int .i64 k ∧ memS (l.take k) a = false) (fun i => l.length - (intOf i).toNat)
  case atStart => exact ⟨0, Nat.zero_le _, rfl, rfl⟩
  case round =>
    obtain ⟨k, hk, rfl, hnot⟩ := hrel
    have HN := Lib.hid hnot
    clear hnot
    by_cases hlt : k < l.length
    · obtain ⟨b, off, rfl, hbb, c0, c1⟩ := hl.pair hlt
      have HS := Lib.hid (inside_snoc l k hlt a)
      by_cases h1 : l[k].1 ≤ a
      · by_cases h2 : a ≤ l[k].2
        · have HI := Lib.hid (show memS l a = true from memS_iff.2 ⟨l[k], List.getElem_mem _, h1, h2⟩)
          go_wp2
          go_ret
          exact ⟨by rw [HI.out]; rfl, rfl⟩
        · have HI := Lib.hid (show memS (l.take (k + 1)) a = false by rw [HS.out, HN.out]; simp [inS, h2])
          have h2' : l[k].2 < a := by omega
          clear h2
          go_wp2
          go_round
          case rel => exact ⟨k + 1, by omega, by go_num, HI.out⟩
          case measure => simp [intOf]; omega
      · have HI := Lib.hid (show memS (l.take (k + 1)) a = false by rw [HS.out, HN.out]; simp [inS, h1])
        have h1' : a < l[k].1 := by omega
        clear h1
        go_wp2
        go_round
        case rel => exact ⟨k + 1, by omega, by go_num, HI.out⟩
        case measure => simp [intOf]; omega
    · obtain rfl : k = l.length := by omega
      have HE := Lib.hid (show memS l a = false by have := HN.out; rwa [List.take_length] at this)
      go_wp2
      go_ret
      exact ⟨by rw [HE.out]; rfl, rfl⟩

theorem setRef_bad {l : List Sp} {k : Nat} (hlen : l.length ≤ 64) (h : k < l.length) (hg : setGo none l = setGo (prevS l k) (l.drop k)) (hb : spanFault l[k] ≠ 0) : setFault l = spanFault l[k] := by
  unfold setFault
  rw [if_neg (by omega), hg, setGo_step l k h]
  by_cases h1 : isA l[k].1 = false ∨ isA l[k].2 = false
  · unfold spanFault
    rw [if_pos h1, if_pos h1]
  · by_cases h2 : l[k].2 < l[k].1
    · unfold spanFault
      rw [if_neg h1, if_neg h1, if_pos (.inl h2), if_pos h2]
    · exact absurd (by unfold spanFault; rw [if_neg h1, if_neg h2]) hb
theorem setRef_gap {l : List Sp} {k : Nat} (hlen : l.length ≤ 64) (h : k < l.length) (hg : setGo none l = setGo (prevS l k) (l.drop k)) (h0 : spanFault l[k] = 0) (hb : badGap (prevS l k) l[k] = true) : setFault l = 2 := by
  obtain ⟨g1, g2, g3⟩ := spanFault_zero.1 h0
  unfold setFault
  unfold maxA at g3
  rw [if_neg (by omega), hg, setGo_step l k h, if_neg (by simp [isA_true.2 ⟨g1, by omega⟩, isA_true.2 (⟨by omega, g3⟩ : 0 ≤ l[k].2 ∧ l[k].2 ≤ 4294967295)]), if_pos (.inr hb)]
theorem setRef_next {l : List Sp} {k : Nat} (h : k < l.length) (hg : setGo none l = setGo (prevS l k) (l.drop k)) (h0 : spanFault l[k] = 0) (hb : badGap (prevS l k) l[k] = false) : setGo none l = setGo (prevS l (k + 1)) (l.drop (k + 1)) := by
  obtain ⟨g1, g2, g3⟩ := spanFault_zero.1 h0
  unfold maxA at g3
  exact setGo_next h hg (isA_true.2 ⟨g1, by omega⟩) (isA_true.2 ⟨by omega, g3⟩) (by simp [hb]; omega)
set_option maxHeartbeats 1600000 in
theorem setFaultRef_any (A : Option Addr) (l : List Sp) (c : Nat) (hm : l.length ≤ maxLen) (w : World) (hl : Rd w w.heap.size A (cellsP l)) :
    Calls Tryd.prog 12 #[.slice A l.length c] w fun e w' => e = .returned (.int .i64 (setFault l)) ∧ Below w.heap.size w w' := by
  unfold maxLen at hm
  by_cases h64 : l.length ≤ 64
  · go_enter Tryd.func12, Tryd.ntmps12
    go_wp2
    go_loopw [3, 4] (fun i _ wr => ∃ k : Nat, k ≤ l.length ∧ i = .int .i64 k ∧ Below w.heap.size w wr ∧ setGo none l = setGo (prevS l k) (l.drop k) ∧ Valid (l.take k)) (fun i _ _ => l.length - (intOf i).toNat)
    case atStart => exact ⟨0, Nat.zero_le _, rfl, Below.refl _ _, rfl, by intro s hs; simp at hs⟩
    case round =>
      obtain ⟨k, hk, rfl, hb, hg, hv⟩ := hrel
      by_cases hlt : k < l.length
      · obtain ⟨b, off, rfl, hbb, c0, c1⟩ := (hl.below hb).pair hlt
        have hs := hb.size
        by_cases h0 : spanFault l[k] = 0
        · have HZ := Lib.hid h0
          have hval := spanFault_zero.1 h0
          have HV := Lib.hid (take_valid hlt hv hval)
          rcases Nat.eq_zero_or_pos k with hk0 | hk0
          · subst hk0
            have HN := Lib.hid (setRef_next hlt hg h0 rfl)
            simp only [Nat.zero_mul, Nat.add_zero] at c0 c1
            clear h0 hg hv hval
            go_wp2_with fail
            refine (spanFaultRef_any _ _ _).mono ?_
            rintro e w1 ⟨rfl, hb1⟩
            rw [HZ.out]
            have hb2 := hb.trans (hb1.mono hs)
            clear hb1
            go_wp2_with fail
            refine wp_region_bel w.heap.size w (by kernel_rfl) (by kernel_rfl) hb2 ?_
            repeat (go_big_quiet_step (fail))
            refine wpQuiet_nil ?_
            intro w2 hb3
            go_wp2
            go_roundw
            case rel => exact ⟨1, by omega, by go_num, hb3, HN.out, HV.out⟩
            case measure => simp [intOf]; omega
          · obtain ⟨j, rfl⟩ : ∃ j, k = j + 1 := ⟨k - 1, by omega⟩
            obtain ⟨b', off', he, _, d0, d1⟩ := (hl.below hb).pair (k := j) (by omega)
            obtain ⟨rfl, rfl⟩ : b = b' ∧ off = off' := by simpa using he
            clear he
            have hprev : prevS l (j + 1) = some l[j] := by simp [prevS]
            have hj := hv l[j] (List.mem_take_iff_getElem.2 ⟨j, by omega, rfl⟩)
            obtain ⟨j1, j2, j3⟩ := hj
            obtain ⟨v1, v2, v3⟩ := hval
            unfold maxA at j3 v3
            have k0 : ∀ x : BelW wr.heap.size wr, x.1.cell? ⟨b, off + (j + 1) * 2, none⟩ = some (.int .i64 l[j + 1].1) := BelW.cell c0 (by simp; omega)
            have k1 : ∀ x : BelW wr.heap.size wr, x.1.cell? ⟨b, off + j * 2 + 1, none⟩ = some (.int .i64 l[j].2) := BelW.cell d1 (by simp; omega)
            clear d0 d1
            by_cases hgap : l[j + 1].1 - l[j].2 < 2
            · have HF := Lib.hid (setRef_gap h64 hlt hg h0 (by rw [hprev]; simp [badGap]; omega))
              clear h0 hg hv hprev
              go_wp2_with fail
              refine (spanFaultRef_any _ _ _).mono ?_
              rintro e w1 ⟨rfl, hb1⟩
              rw [HZ.out]
              clear c0 c1
              go_wp2_with fail
              refine wp_region_bel wr.heap.size wr (by kernel_rfl) (by kernel_rfl) hb1 ?_
              repeat (go_big_quiet_step (fail))
              refine wpQuiet_nil ?_
              intro w2 hb2
              clear k0 k1
              go_wp2
              go_ret
              exact ⟨by rw [HF.out]; rfl, hb.trans (hb2.mono hs)⟩
            · have hgap' : 2 ≤ l[j + 1].1 - l[j].2 := by omega
              have HN := Lib.hid (setRef_next hlt hg h0 (by rw [hprev]; simp [badGap]; omega))
              clear h0 hg hv hprev hgap
              go_wp2_with fail
              refine (spanFaultRef_any _ _ _).mono ?_
              rintro e w1 ⟨rfl, hb1⟩
              rw [HZ.out]
              clear c0 c1
              go_wp2_with fail
              refine wp_region_bel wr.heap.size wr (by kernel_rfl) (by kernel_rfl) hb1 ?_
              repeat (go_big_quiet_step (fail))
              refine wpQuiet_nil ?_
              intro w2 hb2
              clear k0 k1
              go_wp2
              go_roundw
              case rel => exact ⟨j + 1 + 1, by omega, by go_num, hb.trans (hb2.mono hs), HN.out, HV.out⟩
              case measure => simp [intOf]; omega
        · have HF := Lib.hid (setRef_bad h64 hlt hg h0)
          have hz : (spanFault l[k] != 0) = true := by simpa using h0
          clear h0 hg hv
          go_wp2_with fail
          refine (spanFaultRef_any _ _ _).mono ?_
          rintro e w1 ⟨rfl, hb1⟩
          go_wp2
          go_ret
          exact ⟨by rw [HF.out]; rfl, hb.trans (hb1.mono hs)⟩
      · obtain rfl : k = l.length := by omega
        have HE := Lib.hid (show setFault l = 0 by unfold setFault; rw [if_neg (by omega), hg, List.drop_length]; rfl)
        clear hg
        go_wp2
        go_ret
        exact ⟨by rw [HE.out]; rfl, hb⟩
  · have HF := Lib.hid (show setFault l = 3 by unfold setFault; rw [if_pos (by omega)])
    go_enter Tryd.func12, Tryd.ntmps12
    go_wp2
    go_ret
    exact ⟨by rw [HF.out]; rfl, Below.refl _ _⟩
end Go.Proofs.YtmfaknngophmhaaDoor
