/- The law SpanOrder: the walk of its own text, by the contracts of package span. Any list. -/
import Derived.Test.YtghbihjelmocaaaMake
namespace Go.Proofs.Ytghbihjelmocaaa
set_option linter.unusedVariables false
open Go.RowKit

theorem has_yes (A : Option Addr) (l : List Sp) (c : Nat) (x : Int) (hf : setFault l = 0) (hx : isA x = true) (hmem : memS l x = true) (w : World) (hl : Rd w w.heap.size A (cellsP l)) :
    Calls Try.prog 18 #[.slice A l.length c, .int .i64 x] w fun e w' => e = .returned (.tuple #[.bool true, .nilIface]) ∧ Below w.heap.size w w' :=
  (has_ok A l c x hf hx w hl).mono fun e w' h => ⟨by rw [h.1, hmem], h.2⟩
theorem spans_same (A B : Option Addr) (a b : List Sp) (c d : Nat) (hm : a.length ≤ maxLen) (hab : a = b) (w : World) (hl : Rd w w.heap.size A (cellsP a)) (hr : Rd w w.heap.size B (cellsP b)) :
    Calls Try.prog 16 #[.slice A a.length c, .slice B b.length d] w fun e w' => e = .returned (.bool true) ∧ Below w.heap.size w w' :=
  (spans_any A B a b c d hm w hl hr).mono fun e w' h => ⟨by rw [h.1, decide_eq_true hab], h.2⟩
theorem make_zero {l : List Sp} (h : makeFault l = 0) : l.length ≤ 64 ∧ Valid l := by
  unfold makeFault at h
  split at h
  · cases h
  · exact ⟨by omega, firstFault_zero.1 h⟩
theorem make_of {l : List Sp} (h : l.length ≤ 64) (hv : Valid l) : makeFault l = 0 := by
  unfold makeFault
  rw [if_neg (by omega)]
  exact firstFault_zero.2 hv
theorem norm_set {l : List Sp} (h : makeFault l = 0) : setFault (norm l) = 0 :=
  set_of (Nat.le_trans (norm_length l) (make_zero h).1) (norm_valid (make_zero h).2) (norm_good (make_zero h).2).1
theorem norm_rev {l : List Sp} (h : makeFault l = 0) : makeFault l.reverse = 0 ∧ norm l.reverse = norm l := by
  obtain ⟨h1, h2⟩ := make_zero h
  have hv : Valid l.reverse := fun s hs => h2 s (by simpa using hs)
  exact ⟨make_of (by simpa using h1) hv, norm_eq hv (norm_good h2).1 fun a => by rw [(norm_good h2).2, memS_perm (List.reverse_perm l)]⟩
theorem norm_norm {l : List Sp} (h : makeFault l = 0) : makeFault (norm l) = 0 ∧ norm (norm l) = norm l := by
  obtain ⟨h1, h2⟩ := make_zero h
  exact ⟨make_of (Nat.le_trans (norm_length l) h1) (norm_valid h2), norm_eq (norm_valid h2) (norm_good h2).1 fun a => rfl⟩
theorem norm_ends {l : List Sp} (h : makeFault l = 0) {k : Nat} (hk : k < l.length) : isA l[k].1 = true ∧ isA l[k].2 = true ∧ memS (norm l) l[k].1 = true ∧ memS (norm l) l[k].2 = true := by
  obtain ⟨h1, h2⟩ := make_zero h
  obtain ⟨a1, a2, a3⟩ := h2 l[k] (List.getElem_mem _)
  unfold maxA at a3
  refine ⟨isA_true.2 ⟨a1, by omega⟩, isA_true.2 ⟨by omega, a3⟩, ?_, ?_⟩
  · rw [(norm_good h2).2]; exact memS_iff.2 ⟨l[k], List.getElem_mem _, Int.le_refl _, a2⟩
  · rw [(norm_good h2).2]; exact memS_iff.2 ⟨l[k], List.getElem_mem _, a2, Int.le_refl _⟩
theorem drop_rev (l : List Sp) (k : Nat) (h : k < l.length) : (l.drop (k + 1)).reverse ++ [l[k]] = (l.drop k).reverse := by
  rw [List.drop_eq_getElem_cons h, List.reverse_cons]

set_option maxRecDepth 100000 in
set_option maxHeartbeats 4000000 in
theorem spanOrder_walk (A : Option Addr) (l : List Sp) (c : Nat) (hm : l.length ≤ maxLen) (w : World) (hl : Rd w w.heap.size A (cellsP l)) :
    Calls Try.prog 6 #[.slice A l.length c] w fun e w' => e = .returned (.bool true) ∧ Below w.heap.size w w' := by
  by_cases hf : makeFault l = 0
  · have HF := Lib.hid hf
    have h64 := (make_zero hf).1
    have hnl : (norm l).length ≤ 64 := Nat.le_trans (norm_length l) h64
    clear hf
    go_enter Try.func6, Try.ntmps6
    go_wp2_with fail
    refine (make_ok A l c hm HF.out w hl).mono ?_
    rintro e w1 ⟨v1, rfl, hown1, hb1⟩
    obtain ⟨A1, c1, rfl, hr1⟩ := hown1.form
    have hs1 := hb1.size
    have hl1 := hl.below hb1
    clear hl hown1
    go_wp2_with fail
    have hfour : Rd (w1.alloc (.cells #[.int .i64 5, .int .i64 9, .int .i64 1, .int .i64 4] 35)) (w1.alloc (.cells #[.int .i64 5, .int .i64 9, .int .i64 1, .int .i64 4] 35)).heap.size (some ⟨w1.heap.size, 0, none⟩) (cellsP [(5, 9), (1, 4)]) := fun _ => by
      refine ⟨w1.heap.size, 0, rfl, by simp, fun j u hj => ?_⟩
      match j, hj with
      | 0, hj => simp [cellsP] at hj; subst hj; simp
      | 1, hj => simp [cellsP] at hj; subst hj; simp
      | 2, hj => simp [cellsP] at hj; subst hj; simp
      | 3, hj => simp [cellsP] at hj; subst hj; simp
      | j + 4, hj => simp [cellsP] at hj
    refine (make_ok (some ⟨w1.heap.size, 0, none⟩) [(5, 9), (1, 4)] 2 (by decide) (by decide) _ hfour).mono ?_
    rintro e w2 ⟨v2, rfl, hown2, hb2⟩
    rw [show norm [(5, 9), (1, 4)] = [((1 : Int), (9 : Int))] from by decide] at hown2
    obtain ⟨A2, c2, hv2, _⟩ := hown2.form
    simp only [List.length_cons, List.length_nil] at hv2
    subst hv2
    have hb12 : Below w1.heap.size w1 w2 := ((Below.refl _ _).alloc (Nat.le_refl _) _).trans (hb2.mono (by simp))
    have hbw := hb1.trans (hb12.mono hs1)
    have hl2 := hl1.below (hb12.mono hs1)
    have hr2 := hr1.below hb12
    have hs2 := hb12.size
    clear hb1 hb2 hb12 hown2 hfour hl1 hr1
    go_wp2_with fail
    go_loopw [7, 8] (fun v vi wr => ∃ k : Nat, k ≤ l.length ∧ vi = .int .i64 ((k : Int) - 1) ∧ Below w2.heap.size w2 wr ∧ OwnP wr w2.heap.size 35 v (l.drop k).reverse) (fun _ vi _ => (intOf vi + 1).toNat)
    case atStart => exact ⟨l.length, Nat.le_refl _, rfl, Below.refl _ _, by rw [List.drop_length]; exact OwnP.nil _ _ _⟩
    case round =>
      obtain ⟨k', hk, rfl, hb, hown⟩ := hrel
      rcases Nat.eq_zero_or_pos k' with h0 | h0
      · subst h0
        rw [List.drop_zero] at hown
        obtain ⟨A3, c3, hv3, hr3⟩ := hown.form
        subst hv3
        obtain ⟨hrv1, hrv2⟩ := norm_rev HF.out
        obtain ⟨hnn1, hnn2⟩ := norm_norm HF.out
        have RV1 := Lib.hid hrv1
        have RV2 := Lib.hid hrv2
        have NN1 := Lib.hid hnn1
        have NN2 := Lib.hid hnn2
        have NS := Lib.hid (norm_set HF.out)
        have hsr := hb.size
        have hl3 := hl2.below (hb.mono (by omega))
        have hr13 := hr2.below (hb.mono (by omega))
        have hbw3 := hbw.trans (hb.mono (by omega))
        clear hrv1 hrv2 hnn1 hnn2 hown hl2 hr2 hbw
        have hmk := fun W h => make_ok A3 l.reverse c3 (by rw [List.length_reverse]; exact hm) RV1.out W h
        rw [List.length_reverse] at hmk
        have HMK := Lib.hid hmk
        clear hmk
        go_wp2_with fail
        refine (HMK.out _ hr3).mono ?_
        rintro e w4 ⟨v4, rfl, hown4, hb4⟩
        rw [RV2.out] at hown4
        obtain ⟨A4, c4, rfl, hr4⟩ := hown4.form
        have hs4 := hb4.size
        have hl4 := hl3.below (hb4.mono (by omega))
        have hr14 := hr13.below (hb4.mono (by omega))
        have hbw4 := hbw3.trans (hb4.mono (by omega))
        clear hown4 hl3 hr13 hbw3 hb4 hr3 hb
        go_wp2_with fail
        refine (make_ok A1 (norm l) c1 (by unfold maxLen; omega) NN1.out _ (hr14.more (by omega))).mono ?_
        rintro e w5 ⟨v5, rfl, hown5, hb5⟩
        rw [NN2.out] at hown5
        obtain ⟨A5, c5, rfl, hr5⟩ := hown5.form
        have hs5 := hb5.size
        have hl5 := hl4.below (hb5.mono (by omega))
        have hr15 := hr14.below (hb5.mono (by omega))
        have hbw5 := hbw4.trans (hb5.mono (by omega))
        have hr45 := hr4.below hb5
        clear hown5 hl4 hr14 hbw4 hb5 hr4
        go_wp2_with fail
        refine (spans_same A4 A1 (norm l) (norm l) c4 c1 (by unfold maxLen; omega) rfl _ (hr45.more hs5) (hr15.more (by omega))).mono ?_
        rintro e w6 ⟨rfl, hb6⟩
        have hs6 := hb6.size
        have hl6 := hl5.below (hb6.mono (by omega))
        have hr16 := hr15.below (hb6.mono (by omega))
        have hbw6 := hbw5.trans (hb6.mono (by omega))
        have hr56 := hr5.below hb6
        clear hl5 hr15 hbw5 hb6 hr5 hr45
        go_wp2_with fail
        refine (spans_same A5 A1 (norm l) (norm l) c5 c1 (by unfold maxLen; omega) rfl _ (hr56.more hs6) (hr16.more (by omega))).mono ?_
        rintro e w7 ⟨rfl, hb7⟩
        have hs7 := hb7.size
        have hl7 := hl6.below (hb7.mono (by omega))
        have hr17 := hr16.below (hb7.mono (by omega))
        have hbw7 := hbw6.trans (hb7.mono (by omega))
        clear hl6 hr16 hbw6 hb7 hr56
        go_wp2_with fail
        refine (spanCheck_ok A1 (norm l) c1 NS.out _ (hr17.more (by omega))).mono ?_
        rintro e w8 ⟨rfl, hb8⟩
        have hs8 := hb8.size
        have hl8 := hl7.below (hb8.mono (by omega))
        have hr18 := hr17.below (hb8.mono (by omega))
        have hbw8 := hbw7.trans (hb8.mono (by omega))
        clear hl7 hr17 hbw7 hb8
        go_wp2_with fail
        go_loopw [15] (fun vi wr => ∃ k : Nat, k ≤ l.length ∧ vi = .int .i64 k ∧ Below w8.heap.size w8 wr) (fun vi _ => l.length - (intOf vi).toNat)
        case atStart => exact ⟨0, Nat.zero_le _, rfl, Below.refl _ _⟩
        case round =>
          obtain ⟨k, hk, rfl, hb⟩ := hrel
          by_cases hlt : k < l.length
          · obtain ⟨b, off, rfl, hbb, c0, c1'⟩ := hl8.pair hlt
            obtain ⟨m1, m2, m3, m4⟩ := norm_ends HF.out hlt
            have M1 := Lib.hid m1
            have M2 := Lib.hid m2
            have M3 := Lib.hid m3
            have M4 := Lib.hid m4
            have C1 := Lib.hid c1'
            have d0 := (hb.cell (p := ⟨b, off + k * 2, none⟩) (by simp; omega)).trans c0
            have hs := hb.size
            clear m1 m2 m3 m4 c0 c1'
            go_wp2_with fail
            refine (has_yes A1 (norm l) c1 l[k].1 NS.out M1.out M3.out _ ((hr18.below (hb.mono (by omega))).more (by omega))).mono ?_
            rintro e w9 ⟨rfl, hb9⟩
            have hb10 := hb.trans (hb9.mono hs)
            have hs9 := hb10.size
            have d1 := (hb10.cell (p := ⟨b, off + k * 2 + 1, none⟩) (by simp; omega)).trans C1.out
            clear d0 hb9
            go_wp2_with fail
            refine (has_yes A1 (norm l) c1 l[k].2 NS.out M2.out M4.out _ ((hr18.below (hb10.mono (by omega))).more (by omega))).mono ?_
            rintro e w11 ⟨rfl, hb11⟩
            have hb12 := hb10.trans (hb11.mono hs9)
            clear d1 hb11
            go_wp2_with fail
            go_roundw
            case rel => exact ⟨k + 1, by omega, by go_num, hb12⟩
            case measure => simp [intOf]; omega
          · obtain rfl : k = l.length := by omega
            go_wp2
            go_ret
            exact ⟨rfl, hbw8.trans (hb.mono (by omega))⟩
      · obtain ⟨k, rfl⟩ : ∃ k, k' = k + 1 := ⟨k' - 1, by omega⟩
        obtain ⟨b, off, rfl, hbb, c0, c1'⟩ := (hl2.below (hb.mono (by omega))).pair (k := k) (by omega)
        have hs := hb.size
        have hi : ((k + 1 : Nat) : Int) - 1 = (k : Int) := by omega
        have hlk : ((l.drop (k + 1)).reverse).length ≤ 64 := by simp; omega
        have HD := Lib.hid (drop_rev l k (by omega))
        rw [hi]
        clear hi
        go_wp2_with (at_builtin; refine wpList_append_pair (p := l[k]) rfl _ _ 45 rfl Try.underlying45 infoSp w2.heap.size _ _ rfl hown rfl (by omega) hs ?_; intro v4 w4 hown4 hb4)
        go_roundw
        case rel => exact ⟨k, by omega, by go_num, hb.trans hb4, HD.out ▸ hown4⟩
        case measure => first | (simp [intOf]; done) | (simp [intOf]; omega)
  · have HF := Lib.hid hf
    clear hf
    go_enter Try.func6, Try.ntmps6
    go_wp2_with fail
    refine (make_bad A l c hm HF.out w hl).mono ?_
    rintro e w1 ⟨rfl, hb1⟩
    go_wp2
    go_ret
    exact ⟨rfl, hb1⟩
end Go.Proofs.Ytghbihjelmocaaa
