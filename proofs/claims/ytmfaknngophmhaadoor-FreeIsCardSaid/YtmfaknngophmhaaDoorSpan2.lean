/- Contracts of package span: Common, Others, Clone, SortFunc, Merge, Make, Union, Meet, Minus. Any lists. -/
import Derived.Test.YtmfaknngophmhaaDoorSpan
namespace Go.Proofs.YtmfaknngophmhaaDoor
set_option linter.unusedVariables false
set_option linter.unusedSimpArgs false
open Go.RowKit

/- Common, Others -/
theorem common_step (a b : List Sp) (i j : Nat) (hi : i < a.length) (hj : j < b.length) : common (a.drop i) (b.drop j) = piece a[i] b[j] ++ if a[i].2 < b[j].2 then common (a.drop (i + 1)) (b.drop j) else common (a.drop i) (b.drop (j + 1)) := by
  conv => lhs; rw [List.drop_eq_getElem_cons hi, List.drop_eq_getElem_cons hj, common]
  rw [← List.drop_eq_getElem_cons hi, ← List.drop_eq_getElem_cons hj]
theorem common_end (a b : List Sp) (i j : Nat) (h : a.length ≤ i ∨ b.length ≤ j) : common (a.drop i) (b.drop j) = [] := by
  rcases h with h | h
  · rw [List.drop_eq_nil_of_le h]; cases b.drop j <;> simp [common]
  · rw [List.drop_eq_nil_of_le h]; cases a.drop i <;> simp [common]

set_option maxRecDepth 100000 in
set_option maxHeartbeats 3200000 in
theorem common_any (A B : Option Addr) (a b : List Sp) (c d : Nat) (ha : a.length ≤ 100000) (hb : b.length ≤ 100000) (w : World) (hl : Rd w w.heap.size A (cellsP a)) (hr : Rd w w.heap.size B (cellsP b)) :
    Calls Tryd.prog 56 #[.slice A a.length c, .slice B b.length d] w (OwnRes 26 w (common a b)) := by
  go_enter Tryd.func56, Tryd.ntmps56
  go_wp2
  go_loopw [5, 6, 7, 8, 9] (fun v vi vj _ _ wr => ∃ (i j : Nat) (O : List Sp), i ≤ a.length ∧ j ≤ b.length ∧ vi = .int .i64 i ∧ vj = .int .i64 j ∧ Below w.heap.size w wr ∧ OwnP wr w.heap.size 26 v O ∧ O.length ≤ i + j ∧ O ++ common (a.drop i) (b.drop j) = common a b) (fun _ vi vj _ _ _ => a.length + b.length - ((intOf vi).toNat + (intOf vj).toNat))
  case atStart => exact ⟨0, 0, [], Nat.zero_le _, Nat.zero_le _, rfl, rfl, Below.refl _ _, OwnP.nil _ _ _, by simp, rfl⟩
  case round =>
    obtain ⟨i, j, O, hi, hj, rfl, rfl, hbw, hown, hO, hg⟩ := hrel
    by_cases hilt : i < a.length
    · by_cases hjlt : j < b.length
      · obtain ⟨ba, offa, rfl, hba, c0, c1⟩ := hl.pair hilt
        obtain ⟨bb, offb, rfl, hbb, d0, d1⟩ := hr.pair hjlt
        have hs := hbw.size
        have HK := Lib.hid (show ∀ W, Below w.heap.size w W → (∀ x : BelW W.heap.size W, x.1.cell? ⟨ba, offa + i * 2, none⟩ = some (.int .i64 a[i].1)) ∧ (∀ x : BelW W.heap.size W, x.1.cell? ⟨ba, offa + i * 2 + 1, none⟩ = some (.int .i64 a[i].2)) ∧
            (∀ x : BelW W.heap.size W, x.1.cell? ⟨bb, offb + j * 2, none⟩ = some (.int .i64 b[j].1)) ∧ (∀ x : BelW W.heap.size W, x.1.cell? ⟨bb, offb + j * 2 + 1, none⟩ = some (.int .i64 b[j].2)) from fun W hW => ⟨BelW.cell ((hW.cell hba).trans c0) (by have := hW.size; simp; omega),
              BelW.cell ((hW.cell hba).trans c1) (by have := hW.size; simp; omega), BelW.cell ((hW.cell hbb).trans d0) (by have := hW.size; simp; omega), BelW.cell ((hW.cell hbb).trans d1) (by have := hW.size; simp; omega)⟩)
        clear c0 c1 d0 d1
        obtain ⟨k0, k1, k2, k3⟩ := HK.out _ hbw
        rw [common_step a b i j hilt hjlt] at hg
        have hpc : piece a[i] b[j] = if (if a[i].1 < b[j].1 then b[j].1 else a[i].1) ≤ (if b[j].2 < a[i].2 then b[j].2 else a[i].2) then [((if a[i].1 < b[j].1 then b[j].1 else a[i].1), (if b[j].2 < a[i].2 then b[j].2 else a[i].2))] else [] := by
          unfold piece
          rw [show max a[i].1 b[j].1 = (if a[i].1 < b[j].1 then b[j].1 else a[i].1) by split <;> omega, show min a[i].2 b[j].2 = (if b[j].2 < a[i].2 then b[j].2 else a[i].2) by split <;> omega]
        go_wp2_with fail
        refine wp_region_bel wr.heap.size wr (by kernel_rfl) (by kernel_rfl) (Below.refl _ _) ?_
        repeat (go_big_quiet_step (fail))
        refine wpQuiet_nil ?_
        intro w2 hb2
        have hown2 := hown.below hb2
        have hb3 := hbw.trans (hb2.mono hs)
        have hs2 := hb3.size
        clear k0 k1 k2 k3 hb2 hown hbw
        generalize (if a[i].1 < b[j].1 then b[j].1 else a[i].1) = lo at hpc ⊢
        generalize (if b[j].2 < a[i].2 then b[j].2 else a[i].2) = hi' at hpc ⊢
        obtain ⟨hi, rfl⟩ : ∃ hi, hi = hi' := ⟨_, rfl⟩
        by_cases h1 : lo ≤ hi
        · have HP := Lib.hid (hpc.trans (if_pos h1))
          clear hpc
          by_cases h2 : a[i].2 < b[j].2
          · have HG := Lib.hid (show O ++ [(lo, hi)] ++ common (a.drop (i + 1)) (b.drop j) = common a b by rw [← hg, HP.out, if_pos h2, List.append_assoc])
            clear hg
            go_wp2_with (at_builtin; refine wpList_append_pair (p := (lo, hi)) rfl _ _ 22 rfl Tryd.underlying22 infoSp w.heap.size _ _ rfl hown2 rfl (by omega) hs2 ?_; intro v4 w4 hown4 hb4)
            have hb5 := hb3.trans hb4
            obtain ⟨k0, k1, k2, k3⟩ := HK.out _ hb5
            have hs5 := hb5.size
            refine wp_region_bel w4.heap.size w4 (by kernel_rfl) (by kernel_rfl) (Below.refl _ _) ?_
            repeat (go_big_quiet_step (fail))
            refine wpQuiet_nil ?_
            intro w6 hb6
            have hown6 := hown4.below hb6
            have hb7 := hb5.trans (hb6.mono hs5)
            clear k0 k1 k2 k3 hb6 hown4 hown2 hb3 hb5
            go_wp2
            go_roundw
            case rel => exact ⟨i + 1, j, O ++ [(lo, hi)], by omega, by omega, by go_num, rfl, hb7, hown6, by simp; omega, HG.out⟩
            case measure => simp [intOf]; omega

          · have HG := Lib.hid (show O ++ [(lo, hi)] ++ common (a.drop i) (b.drop (j + 1)) = common a b by rw [← hg, HP.out, if_neg h2, List.append_assoc])
            clear hg
            have h2' : decide (a[i].2 < b[j].2) = false := by simpa using h2
            go_wp2_with (at_builtin; refine wpList_append_pair (p := (lo, hi)) rfl _ _ 22 rfl Tryd.underlying22 infoSp w.heap.size _ _ rfl hown2 rfl (by omega) hs2 ?_; intro v4 w4 hown4 hb4)
            have hb5 := hb3.trans hb4
            obtain ⟨k0, k1, k2, k3⟩ := HK.out _ hb5
            have hs5 := hb5.size
            refine wp_region_bel w4.heap.size w4 (by kernel_rfl) (by kernel_rfl) (Below.refl _ _) ?_
            repeat (go_big_quiet_step (fail))
            refine wpQuiet_nil ?_
            intro w6 hb6
            have hown6 := hown4.below hb6
            have hb7 := hb5.trans (hb6.mono hs5)
            clear k0 k1 k2 k3 hb6 hown4 hown2 hb3 hb5
            go_wp2
            go_roundw
            case rel => exact ⟨i, j + 1, O ++ [(lo, hi)], by omega, by omega, rfl, by go_num, hb7, hown6, by simp; omega, HG.out⟩
            case measure => simp [intOf]; omega

        · have HP := Lib.hid (hpc.trans (if_neg h1))
          clear hpc
          by_cases h2 : a[i].2 < b[j].2
          · have HG := Lib.hid (show O ++ [] ++ common (a.drop (i + 1)) (b.drop j) = common a b by rw [← hg, HP.out, if_pos h2, List.append_assoc])
            clear hg
            have h1' : decide (lo ≤ hi) = false := by simpa using h1
            go_wp2_with fail
            obtain ⟨v4, hv4⟩ : ∃ v4, v4 = u5 := ⟨_, rfl⟩
            have hown4 := hown2
            have hb5 := hb3
            obtain ⟨w4, rfl⟩ : ∃ w4 : World, w4 = w2 := ⟨_, rfl⟩
            obtain ⟨k0, k1, k2, k3⟩ := HK.out _ hb5
            have hs5 := hb5.size
            refine wp_region_bel w4.heap.size w4 (by kernel_rfl) (by kernel_rfl) (Below.refl _ _) ?_
            repeat (go_big_quiet_step (fail))
            refine wpQuiet_nil ?_
            intro w6 hb6
            have hown6 := hown4.below hb6
            have hb7 := hb5.trans (hb6.mono hs5)
            clear k0 k1 k2 k3 hb6 hown4 hown2 hb3 hb5
            go_wp2
            go_roundw
            case rel => exact ⟨i + 1, j, O ++ [], by omega, by omega, by go_num, rfl, hb7, by simpa using hown6, by simp; omega, HG.out⟩
            case measure => simp [intOf]; omega

          · have HG := Lib.hid (show O ++ [] ++ common (a.drop i) (b.drop (j + 1)) = common a b by rw [← hg, HP.out, if_neg h2, List.append_assoc])
            clear hg
            have h2' : decide (a[i].2 < b[j].2) = false := by simpa using h2
            have h1' : decide (lo ≤ hi) = false := by simpa using h1
            go_wp2_with fail
            obtain ⟨v4, hv4⟩ : ∃ v4, v4 = u5 := ⟨_, rfl⟩
            have hown4 := hown2
            have hb5 := hb3
            obtain ⟨w4, rfl⟩ : ∃ w4 : World, w4 = w2 := ⟨_, rfl⟩
            obtain ⟨k0, k1, k2, k3⟩ := HK.out _ hb5
            have hs5 := hb5.size
            refine wp_region_bel w4.heap.size w4 (by kernel_rfl) (by kernel_rfl) (Below.refl _ _) ?_
            repeat (go_big_quiet_step (fail))
            refine wpQuiet_nil ?_
            intro w6 hb6
            have hown6 := hown4.below hb6
            have hb7 := hb5.trans (hb6.mono hs5)
            clear k0 k1 k2 k3 hb6 hown4 hown2 hb3 hb5
            go_wp2
            go_roundw
            case rel => exact ⟨i, j + 1, O ++ [], by omega, by omega, rfl, by go_num, hb7, by simpa using hown6, by simp; omega, HG.out⟩
            case measure => simp [intOf]; omega

      · obtain rfl : j = b.length := by omega
        have HG := Lib.hid (show O = common a b by rw [← hg, common_end a b i b.length (.inr (Nat.le_refl _)), List.append_nil])
        clear hg
        go_wp2
        go_ret
        exact ⟨_, rfl, HG.out ▸ hown, hbw⟩
    · obtain rfl : i = a.length := by omega
      have HG := Lib.hid (show O = common a b by rw [← hg, common_end a b a.length j (.inl (Nat.le_refl _)), List.append_nil])
      clear hg
      go_wp2
      go_ret
      exact ⟨_, rfl, HG.out ▸ hown, hbw⟩
end Go.Proofs.YtmfaknngophmhaaDoor
