/- The law HostNext: the walk of its own text, by the contracts of package host. Any prefix, any list of used addresses. -/
import Derived.Test.YtghbihjelmocaaaHost
namespace Go.Proofs.Ytghbihjelmocaaa
open Go.RowKit Go.Maps

theorem infoInt : (Try.prog.info? 3).map (fun i => (i.zero, i.size, i.bytes)) = some (some (.int .i64 0), 1, 8) := by kernel_rfl

set_option maxRecDepth 100000 in
set_option maxHeartbeats 1000000 in
theorem hostNext_walk (a n : Int) (A : Option Addr) (used : List Int) (c : Nat) (hm : used.length ≤ maxLen) (w : World) (hl : Rd w w.heap.size A (used.map (Value.int .i64))) :
    Calls Try.prog 4 #[.agg #[.int .i64 a, .int .i64 n], .slice A used.length c] w fun e w' => e = .returned (.bool true) ∧ Below w.heap.size w w' := by
  have hmx := hm
  unfold maxLen at hmx
  go_enter Try.func4, Try.ntmps4
  go_wp2_with fail
  have hone : Rd ((w.alloc (.cells #[.int .i64 a, .int .i64 n] 26)).alloc (.cells #[.int .i64 1] 3)) ((w.alloc (.cells #[.int .i64 a, .int .i64 n] 26)).alloc (.cells #[.int .i64 1] 3)).heap.size (some ⟨w.heap.size + 1, 0, none⟩) ([1].map (Value.int .i64)) := fun _ => by
    refine ⟨w.heap.size + 1, 0, rfl, by simp, fun j u hj => ?_⟩
    match j, hj with
    | 0, hj => simp at hj; subst hj; simp
    | j + 1, hj => simp at hj
  refine (next_any 0 30 _ [1] 1 (by decide) _ hone).mono ?_
  rintro e w1 ⟨hb1, rfl⟩
  rw [show nextOf 0 30 [1] = 2 from by decide, if_pos (by decide)]
  have hB1 := ((Blk.new w 26 #[.int .i64 a, .int .i64 n]).alloc (.cells #[.int .i64 1] 3)).below hb1 (by simp; omega)
  have hs1 := hb1.size
  simp only [World.size_alloc] at hs1
  have hl1 : Rd w1 w.heap.size A (used.map (Value.int .i64)) := ((hl.alloc (Nat.le_refl _) _).alloc (by simp) _).below (hb1.mono (by simp; omega))
  have hbw : Below w.heap.size w w1 := (((Below.refl _ _).alloc (Nat.le_refl _) _).alloc (by simp) _).trans (hb1.mono (by simp; omega))
  clear hb1 hone hl
  obtain ⟨c0, c1, _⟩ := hB1.two
  go_wp2_with fail
  by_cases hf : usedFault a n used = 0
  · obtain ⟨hc, hlen, hall⟩ := usedFault_zero.1 hf
    obtain ⟨u1, u2, u3⟩ := uSpan hc
    refine (share_ok a n A used c hf _ (hl1.more (by omega))).mono ?_
    rintro e w2 ⟨rfl, hb2⟩
    have hB2 := hB1.below hb2 (by omega)
    have hl2 := hl1.below (hb2.mono (by omega))
    have hbw2 := hbw.trans (hb2.mono (by omega))
    have hs2 := hb2.size
    clear hb2 hbw hl1 hB1 c0 c1
    obtain ⟨c0, c1, _⟩ := hB2.two
    have HA := Lib.hid hall
    have HF := Lib.hid hf
    clear hall hf
    have hdle := distinct_le (used := used) u1
    go_wp2_with fail
    refine (next_any a n A used c HF.out _ (hl2.more (by omega))).mono ?_
    rintro e w3 ⟨hb3, rfl⟩
    have hB3 := hB2.below hb3 (by omega)
    have hl3 := hl2.below (hb3.mono (by omega))
    have hbw3 := hbw2.trans (hb3.mono (by omega))
    have hs3 := hb3.size
    clear hb3 hbw2 hl2 hB2 c0 c1
    obtain ⟨c0, c1, _⟩ := hB3.two
    by_cases hx : nextOf a n used ≤ uHi a n
    · rw [if_pos hx]
      obtain ⟨n1, n2, n3, n4⟩ := nextOf_spec a n used u1
      have hadd := distinct_add n3 n1 hx
      have hmore := next_more u1 hx
      have HN := Lib.hid (show nextOf a n used ∉ used from fun h => n3 (mem_marks.2 ⟨h, n1, hx⟩))
      have hdm := distinct_le (used := used ++ [nextOf a n used]) u1
      have hNm : uHi a n < nextOf a n (used ++ [nextOf a n used]) → ((distinct (marks a n (used ++ [nextOf a n used]))).length : Int) = uHi a n - uLo a n + 1 := next_none u1
      have HAM : Hid ((used ++ [nextOf a n used]).all isA = true) := by
        show _ = _
        rw [List.all_append, HA.out]
        have : isA (nextOf a n used) = true := isA_true.2 ⟨by omega, by omega⟩
        simp [this]
      generalize hX : nextOf a n used = X at *
      rw [hadd] at hdm hNm
      have HX := Lib.hid hX
      have HADD := Lib.hid hadd
      have HNM := Lib.hid hNm
      clear hX hadd hNm n3 n4
      generalize hD : (distinct (marks a n used)).length = D at *
      have HD := Lib.hid hD
      clear hD
      go_wp2_with fail
      refine (usable_ok _ _ hc _).mono ?_
      rintro e w4 ⟨rfl, hb4⟩
      have hB4 := (hB3.below hb4 (by omega)).alloc (.cells #[.int .i64 (uLo a n), .int .i64 (uHi a n)] 35)
      have hl4 := (hl3.below (hb4.mono (by omega))).alloc (by have := hb4.size; omega) (.cells #[.int .i64 (uLo a n), .int .i64 (uHi a n)] 35)
      have hbw4 := (hbw3.trans (hb4.mono (by omega))).alloc (by have := hb4.size; omega) (.cells #[.int .i64 (uLo a n), .int .i64 (uHi a n)] 35)
      have hs4 := hb4.size
      clear hb4 hbw3 hl3 hB3 c0 c1
      go_wp2_with (first | (at_builtin; refine wpList_append_rd rfl (.tmp 75) (.tmp 76) 27 rfl 3 Try.underlying27 _ 1 8 infoInt rfl (by decide) (w4.heap.size + 1) _ 0 [] rfl (World.ownsRow_nil _ _ _ _) w.heap.size A used.length c _ rfl (by simp) hl4 (by simp [Value.oneCell']) (by unfold maxLen; omega) (by omega) (by simp) ?_; intro v5 w5 hown5 hb5; rw [Nat.zero_add, List.nil_append] at hown5) | (at_builtin; refine wpList_append_one rfl (.tmp 78) (.tmp 80) 27 rfl Try.underlying27 _ 8 infoInt rfl (by decide) (w4.heap.size + 1) _ _ _ rfl hown5 rfl rfl (by omega) (by have := hb5.size; simp at this; omega) ?_; intro v6 w6 hown6 hb6))
      have hb56 := hb5.trans hb6
      have hs5 := hb5.size
      have hs6 := hb6.size
      simp only [World.size_alloc] at hs5
      have hB6 := hB4.below hb56 (by omega)
      have hl6 := hl4.below (hb56.mono (by omega))
      have hbw6 := hbw4.trans (hb56.mono (by omega))
      obtain ⟨A6, c6, rfl, hr6⟩ := own_form hown6
      clear hb56 hb5 hb6 hown5 hown6 hB4 hl4 hbw4
      obtain ⟨c0, c1, _⟩ := hB6.two
      go_loop [15] (fun i => ∃ k : Nat, k ≤ used.length ∧ i = .int .i64 k) (fun i => used.length - (intOf i).toNat)
      case atStart => exact ⟨0, Nat.zero_le _, rfl⟩
      case round =>
        obtain ⟨k, hk, rfl⟩ := hrel
        by_cases hlt : k < used.length
        · obtain ⟨b, off, rfl, hbb, d0⟩ := hl6.int hlt
          have hne : (used[k] == X) = false := by
            rw [beq_eq_false_iff_ne]
            exact fun e => HN.out (e ▸ List.getElem_mem _)
          go_wp2
          go_round
          case rel => exact ⟨k + 1, by omega, by go_num⟩
          case measure => simp [intOf]; omega
        · obtain rfl : k = used.length := by omega
          by_cases h200 : used.length + 1 ≤ 200
          · have hf7 : usedFault a n (used ++ [X]) = 0 := usedFault_zero.2 ⟨hc, by simpa using h200, HAM.out⟩
            have HF7 := Lib.hid hf7
            clear hf7
            have hr7 : Rd w6 w6.heap.size A6 ((used ++ [X]).map (Value.int .i64)) := by rw [List.map_append]; exact hr6
            have hl7 : used.length + 1 = (used ++ [X]).length := by simp
            have HL := Lib.hid hl7
            clear hl7 hr6
            have hS := share_ok a n A6 (used ++ [X]) c6 HF7.out w6 hr7
            rw [← HL.out, HADD.out] at hS
            go_wp2_with fail
            refine hS.mono ?_
            clear hS
            rintro e w7 ⟨rfl, hb7⟩
            have hB7 := hB6.below hb7 (by omega)
            have hr8 := hr7.below hb7
            have hbw7 := hbw6.trans (hb7.mono (by omega))
            have hs7 := hb7.size
            clear hb7 hr7 hbw6 hB6 c0 c1
            obtain ⟨c0, c1, _⟩ := hB7.two
            have hN := next_any a n A6 (used ++ [X]) c6 HF7.out w7 (hr8.more (by omega))
            rw [← HL.out] at hN
            go_wp2_with fail
            refine hN.mono ?_
            clear hN
            rintro e w8 ⟨hb8, rfl⟩
            have hbw8 := hbw7.trans (hb8.mono (by omega))
            clear hb8 hbw7 hr8 hB7 c0 c1
            have hN2 := HNM.out
            clear HNM HADD HX HD HF7 HL HAM HN
            generalize nextOf a n (used ++ [X]) = Y at *
            have ez : ((D : Int) + 1 == (D : Int) + 1) = true := by simp
            have ey : (uHi a n - uLo a n + 1 == uHi a n - uLo a n + 1) = true := by simp
            by_cases hY : Y ≤ uHi a n
            · rw [if_pos hY]
              have hgt : decide (X < Y) = true := by simpa using hmore
              clear hN2 hY
              go_wp2
              go_ret
              exact ⟨rfl, hbw8⟩
            · rw [if_neg hY]
              have hlast : ((D : Int) + 1 == uHi a n - uLo a n + 1) = true := by
                have := hN2 (by omega)
                simp; omega
              clear hN2
              go_wp2
              go_ret
              exact ⟨rfl, hbw8⟩
          · go_wp2
            go_ret
            exact ⟨rfl, hbw6⟩
    · rw [if_neg hx]
      have hnone := next_none (used := used) u1 (by omega)
      have heq : (((distinct (marks a n used)).length : Int) == uHi a n - uLo a n + 1) = true := by simpa using hnone
      clear hnone
      go_wp2
      go_ret
      exact ⟨rfl, hbw3⟩
  · refine (share_bad a n A used c hf hm _ (hl1.more (by omega))).mono ?_
    rintro e w2 ⟨rfl, hb2⟩
    go_wp2
    go_ret
    exact ⟨rfl, hbw.trans (hb2.mono (by omega))⟩
end Go.Proofs.Ytghbihjelmocaaa
