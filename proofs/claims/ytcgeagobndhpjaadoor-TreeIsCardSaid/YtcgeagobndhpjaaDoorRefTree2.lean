/- The references of trees: PutIn, DropFrom where the tree may be. Any list, any prefix. -/
import Derived.Test.YtcgeagobndhpjaaDoorRefTree
namespace Go.Proofs.YtcgeagobndhpjaaDoor
set_option linter.unusedVariables false
set_option linter.unusedSimpArgs false
open Go.RowKit

theorem not_mem_of {l : List Pf} {p : Pf} (h : ∀ j (h : j < l.length), j < l.length → l[j] ≠ p) : p ∉ l := fun hm => by
  obtain ⟨j, hj, e⟩ := List.mem_iff_getElem.1 hm
  exact h j hj hj e

set_option maxRecDepth 100000 in
set_option maxHeartbeats 4000000 in
theorem putRef_any (A : Option Addr) (l : List Pf) (c : Nat) (p : Pf) (h2 : treeFault2 l p = 0) (w : World) (hl : Rd w w.heap.size A (cellsP l)) :
    Calls Tryd.prog 35 #[.slice A l.length c, .agg #[.int .i64 p.1, .int .i64 p.2]] w (PutRes w l p) := by
  obtain ⟨ht, hp⟩ := treeFault2_zero.1 h2
  obtain ⟨g1, g2, g3⟩ := tree_good ht
  have hl1 := (hl.alloc (Nat.le_refl _) (.cells #[.int .i64 p.1, .int .i64 p.2] 23)).more (show w.heap.size ≤ (w.alloc (.cells #[.int .i64 p.1, .int .i64 p.2] 23)).heap.size by simp)
  have hb0 := (Below.refl w.heap.size w).alloc (Nat.le_refl _) (.cells #[.int .i64 p.1, .int .i64 p.2] 23)
  have hB0 := Blk.new w 23 #[.int .i64 p.1, .int .i64 p.2]
  have HT := Lib.hid ht
  have HP := Lib.hid (show chk p.1 p.2 = 0 from hp)
  have HAT : Hid (∀ k (h : k < l.length), k < atOf l p ↔ ordP l[k] p < 0) := fun k h => at_iff g3 h
  have hatl := at_le l p
  have HG : Hid (∀ k, (putGo l p k).length ≤ k + 1) := putGo_len l p
  clear h2 ht hp g2 g3
  go_enter Tryd.func35, Tryd.ntmps35
  go_wp2_with fail
  refine (treeRef_any A l c (by unfold maxLen; omega) _ hl1).mono ?_
  rintro e w1 ⟨rfl, hb1⟩
  rw [HT.out]
  have hB1 := hB0.below hb1 (by simp)
  have hl2 := hl1.below hb1
  have hb2 := hb0.trans (hb1.mono (by simp))
  have hs2 := hb2.size
  have hs1 := hb1.size
  simp only [World.size_alloc] at hs1 hl2
  clear hb1 hl1 hB0 hb0
  obtain ⟨c0, c1, _⟩ := hB1.two
  go_wp2_with fail
  refine (fault_any p.1 p.2 _).mono ?_
  rintro e w2 ⟨rfl, hb3⟩
  rw [HP.out]
  have hB2 := hB1.below hb3 (by omega)
  have hl3 := (hl2.more hs1).below hb3
  have hb4 := hb2.trans (hb3.mono hs2)
  have hs3 := hb3.size
  clear hb3 hl2 hB1 hb2 c0 c1
  have hnil := OwnP.nil w2 w2.heap.size 23
  go_wp2
  go_loopw [7, 8, 9] (fun v d i wr => ∃ k : Nat, k ≤ l.length ∧ i = .int .i64 k ∧ Below w2.heap.size w2 wr ∧ OwnP wr w2.heap.size 23 v (putGo l p k) ∧ ((atOf l p < k ∧ d = .bool true) ∨ (k ≤ atOf l p ∧ d = .bool false)) ∧ ∀ j (h : j < l.length), j < k → l[j] ≠ p) (fun _ _ i _ => l.length - (intOf i).toNat)
  case atStart => exact ⟨0, Nat.zero_le _, rfl, Below.refl _ _, by rw [putGo_zero]; exact hnil, .inr ⟨Nat.zero_le _, rfl⟩, fun j h hj => by omega⟩
  case round =>
    obtain ⟨k, hk, rfl, hb, hown, hd, hne⟩ := hrel
    have hsr := hb.size
    have HN := Lib.hid hne
    clear hne
    by_cases hlt : k < l.length
    · have hBr := hB2.below hb (by omega)
      obtain ⟨c0, c1, _⟩ := hBr.two
      obtain ⟨b, off, rfl, hbb, d0, d1⟩ := ((hl3.more hs3).below hb).pair hlt
      obtain ⟨k0, k1⟩ := bel2 (B := wr.heap.size) (W := wr) ⟨c0, c1⟩ (by omega)
      have k2 : ∀ x : BelW wr.heap.size wr, x.1.cell? ⟨b, off + k * 2, none⟩ = some (.int .i64 l[k].1) := BelW.cell d0 (by simp; omega)
      have k3 : ∀ x : BelW wr.heap.size wr, x.1.cell? ⟨b, off + k * 2 + 1, none⟩ = some (.int .i64 l[k].2) := BelW.cell d1 (by simp; omega)
      clear c0 c1
      by_cases he : l[k] = p
      · have HE := Lib.hid he
        have hm : p ∈ l := he ▸ List.getElem_mem hlt
        have HM := Lib.hid hm
        clear he hm
        go_wp2_with fail
        refine wp_region_bel wr.heap.size wr (by kernel_rfl) (by kernel_rfl) (Below.refl _ _) ?_
        repeat (go_big_quiet_step ((go_at_call 85; exact Calls.bel_of (Nat.le_refl _) (same_yes _ _ HE.out _))))
        refine wpQuiet_nil ?_
        intro w3 hb5
        clear k0 k1 k2 k3 d0 d1
        go_wp2
        go_ret2
        exact PutRes.clash (hb4.trans ((hb.trans (hb5.mono hsr)).mono (by omega))) HM.out
      · have HE := Lib.hid he
        have HN2 : Hid (∀ j (h : j < l.length), j < k + 1 → l[j] ≠ p) := fun j h hj => by
          by_cases e : j = k
          · subst e; exact he
          · exact HN.out j h (by omega)
        have HO : Hid (¬ k < atOf l p → ordP p l[k] < 0) := fun h => ordP_flip he (fun h' => h ((HAT.out k hlt).2 h'))
        have HO2 : Hid (k < atOf l p → 0 ≤ ordP p l[k]) := fun h => by
          have h1 := (HAT.out k hlt).1 h
          refine Int.not_lt.1 fun h2 => ordP_irrefl _ (ordP_trans h1 h2)
        clear he
        go_wp2_with fail
        refine wp_region_bel wr.heap.size wr (by kernel_rfl) (by kernel_rfl) (Below.refl _ _) ?_
        repeat (go_big_quiet_step ((go_at_call 85; exact Calls.bel_of (Nat.le_refl _) (same_no _ _ HE.out _))))
        refine wpQuiet_nil ?_
        intro w3 hb5
        clear k0 k1 k2 k3
        have hs5 := hb5.size
        have hB3 := hBr.below hb5 (by omega)
        obtain ⟨c0, c1, _⟩ := hB3.two
        have e0 := (hb5.cell (p := ⟨b, off + k * 2, none⟩) (by simp; omega)).trans d0
        have e1 := (hb5.cell (p := ⟨b, off + k * 2 + 1, none⟩) (by simp; omega)).trans d1
        have hown3 := hown.below hb5
        have hb6 := hb.trans (hb5.mono hsr)
        obtain ⟨k0, k1⟩ := bel2 (B := w3.heap.size) (W := w3) ⟨c0, c1⟩ (by omega)
        have k2 : ∀ x : BelW w3.heap.size w3, x.1.cell? ⟨b, off + k * 2, none⟩ = some (.int .i64 l[k].1) := BelW.cell e0 (by simp; omega)
        have k3 : ∀ x : BelW w3.heap.size w3, x.1.cell? ⟨b, off + k * 2 + 1, none⟩ = some (.int .i64 l[k].2) := BelW.cell e1 (by simp; omega)
        clear hb5 hown hB3 c0 c1 d0 d1 hb
        have hgl := HG.out k
        rcases hd with ⟨hd, rfl⟩ | ⟨hd, rfl⟩
        · have HS := Lib.hid (putGo_done hlt hd)
          go_wp2_with fail
          refine wp_region_bel w3.heap.size w3 (by kernel_rfl) (by kernel_rfl) (Below.refl _ _) ?_
          repeat (go_big_quiet_step (fail))
          refine wpQuiet_nil ?_
          intro w4 hb7
          clear k0 k1 k2 k3
          have hs7 := hb7.size
          have f0 := (hb7.cell (p := ⟨b, off + k * 2, none⟩) (by simp; omega)).trans e0
          have f1 := (hb7.cell (p := ⟨b, off + k * 2 + 1, none⟩) (by simp; omega)).trans e1
          have hown4 := hown3.below hb7
          have hb8 := hb6.trans (hb7.mono (by omega))
          clear hb7 hown3 hb6 e0 e1
          have hs8 := hb8.size
          go_wp2_with (at_builtin; refine wpList_append_pair (p := l[k]) rfl _ _ 51 rfl Tryd.underlying51 infoPfx w2.heap.size _ _ rfl hown4 rfl (by omega) hs8 ?_; intro v5 w5 hown5 hb9)
          go_roundw
          case rel => exact ⟨k + 1, by omega, by go_num, hb8.trans hb9, by rw [HS.out]; exact hown5, .inl ⟨by omega, rfl⟩, HN2.out⟩
          case measure => simp [intOf]; omega
        · by_cases hka : k < atOf l p
          · have HS := Lib.hid (putGo_not hlt hka)
            have HQ := Lib.hid (HO2.out hka)
            go_wp2_with fail
            refine wp_region_bel w3.heap.size w3 (by kernel_rfl) (by kernel_rfl) (Below.refl _ _) ?_
            repeat (go_big_quiet_step ((go_at_call 83; exact Calls.bel_of (Nat.le_refl _) (ahead_no _ _ HQ.out _))))
            refine wpQuiet_nil ?_
            intro w4 hb7
            clear k0 k1 k2 k3
            have hs7 := hb7.size
            have f0 := (hb7.cell (p := ⟨b, off + k * 2, none⟩) (by simp; omega)).trans e0
            have f1 := (hb7.cell (p := ⟨b, off + k * 2 + 1, none⟩) (by simp; omega)).trans e1
            have hown4 := hown3.below hb7
            have hb8 := hb6.trans (hb7.mono (by omega))
            clear hb7 hown3 hb6 e0 e1
            have hs8 := hb8.size
            go_wp2_with (at_builtin; refine wpList_append_pair (p := l[k]) rfl _ _ 51 rfl Tryd.underlying51 infoPfx w2.heap.size _ _ rfl hown4 rfl (by omega) hs8 ?_; intro v5 w5 hown5 hb9)
            go_roundw
            case rel => exact ⟨k + 1, by omega, by go_num, hb8.trans hb9, by rw [HS.out]; exact hown5, .inr ⟨by omega, rfl⟩, HN2.out⟩
            case measure => simp [intOf]; omega
          · have hka' : atOf l p = k := by omega
            have HS := Lib.hid (putGo_at hlt hka')
            have HQ := Lib.hid (HO.out hka)
            clear hka
            go_wp2_with fail
            refine wp_region_bel w3.heap.size w3 (by kernel_rfl) (by kernel_rfl) (Below.refl _ _) ?_
            repeat (go_big_quiet_step ((go_at_call 83; exact Calls.bel_of (Nat.le_refl _) (ahead_yes _ _ HQ.out _))))
            refine wpQuiet_nil ?_
            intro w4 hb7
            clear k0 k1 k2 k3
            have hs7 := hb7.size
            have f0 := (hb7.cell (p := ⟨b, off + k * 2, none⟩) (by simp; omega)).trans e0
            have f1 := (hb7.cell (p := ⟨b, off + k * 2 + 1, none⟩) (by simp; omega)).trans e1
            have hown4 := hown3.below hb7
            have hb8 := hb6.trans (hb7.mono (by omega))
            have hB5 := hB2.below hb8 (by omega)
            obtain ⟨c0, c1, _⟩ := hB5.two
            clear hb7 hown3 hb6 e0 e1
            have hs8 := hb8.size
            go_wp2_with (first
              | (at_builtin; refine wpList_append_pair (p := p) rfl _ _ 51 rfl Tryd.underlying51 infoPfx w2.heap.size _ _ rfl hown4 rfl (by omega) hs8 ?_; intro v5 w5 hown5 hb9; have hb10 := hb8.trans hb9; have hs10 := hb10.size; have q0 := (hb9.cell (p := ⟨b, off + k * 2, none⟩) (by simp; omega)).trans f0; have q1 := (hb9.cell (p := ⟨b, off + k * 2 + 1, none⟩) (by simp; omega)).trans f1)
              | (at_builtin; refine wpList_append_pair (p := l[k]) rfl _ _ 51 rfl Tryd.underlying51 infoPfx w2.heap.size _ _ rfl hown5 rfl (by simp; omega) hs10 ?_; intro v6 w6 hown6 hb11))
            go_roundw
            case rel => exact ⟨k + 1, by omega, by go_num, hb10.trans hb11, by rw [HS.out]; exact hown6, .inl ⟨by omega, rfl⟩, HN2.out⟩
            case measure => simp [intOf]; omega
    · obtain rfl : k = l.length := by omega
      have HM := Lib.hid (not_mem_of HN.out)
      have hgl := HG.out l.length
      have hbw := hb4.trans (hb.mono (show w.heap.size ≤ w2.heap.size by omega))
      rcases hd with ⟨hd, rfl⟩ | ⟨hd, rfl⟩
      · have HS := Lib.hid (putGo_end hd)
        rw [HS.out] at hown
        have hlen := putL_length l p
        obtain ⟨A5, c5, rfl, _⟩ := hown.form
        rw [hlen]
        by_cases h60 : l.length = 60
        · have hbig : (60 : Int) < ((l.length + 1 : Nat) : Int) := by omega
          have H60 := Lib.hid h60
          clear h60
          go_wp2
          go_ret2
          exact PutRes.full hbw HM.out H60.out
        · have hbig : ((l.length + 1 : Nat) : Int) ≤ 60 := by omega
          go_wp2
          go_ret2
          refine PutRes.ok hbw HM.out h60 ?_
          rw [← hlen]
          exact own_of_base hown (by omega)
      · have HS := Lib.hid (putGo_end2 (l := l) (p := p) (by omega))
        have hBr := hB2.below hb (by omega)
        obtain ⟨c0, c1, _⟩ := hBr.two
        have hlen := putL_length l p
        go_wp2_with (at_builtin; refine wpList_append_pair (p := p) rfl _ _ 51 rfl Tryd.underlying51 infoPfx w2.heap.size _ _ rfl hown rfl (by omega) hsr ?_; intro v5 w5 hown5 hb9; rw [HS.out] at hown5; obtain ⟨A5, c5, rfl, _⟩ := hown5.form; rw [hlen])
        · go_ret2
          exact PutRes.full (hbw.trans (hb9.mono (by omega))) HM.out (by omega)
        · go_ret2
          refine PutRes.ok (hbw.trans (hb9.mono (by omega))) HM.out (by omega) ?_
          rw [← hlen]
          exact own_of_base hown5 (by omega)

def DropRes (w : World) (l : List Pf) (p : Pf) (e : Ending) (w' : World) : Prop := Below w.heap.size w w' ∧ (p ∉ l → e = .returned (.tuple #[.slice none 0 0, .int .i64 4])) ∧
  (p ∈ l → ∃ v, e = .returned (.tuple #[v, .int .i64 0]) ∧ OwnP w' w.heap.size 23 v (dropL l p))

set_option maxRecDepth 100000 in
set_option maxHeartbeats 2000000 in
theorem dropRef_any (A : Option Addr) (l : List Pf) (c : Nat) (p : Pf) (h2 : treeFault2 l p = 0) (w : World) (hl : Rd w w.heap.size A (cellsP l)) :
    Calls Tryd.prog 37 #[.slice A l.length c, .agg #[.int .i64 p.1, .int .i64 p.2]] w (DropRes w l p) := by
  obtain ⟨ht, hp⟩ := treeFault2_zero.1 h2
  obtain ⟨g1, g2, g3⟩ := tree_good ht
  have hl1 := (hl.alloc (Nat.le_refl _) (.cells #[.int .i64 p.1, .int .i64 p.2] 23)).more (show w.heap.size ≤ (w.alloc (.cells #[.int .i64 p.1, .int .i64 p.2] 23)).heap.size by simp)
  have hb0 := (Below.refl w.heap.size w).alloc (Nat.le_refl _) (.cells #[.int .i64 p.1, .int .i64 p.2] 23)
  have hB0 := Blk.new w 23 #[.int .i64 p.1, .int .i64 p.2]
  have HT := Lib.hid ht
  have HP := Lib.hid (show chk p.1 p.2 = 0 from hp)
  clear h2 ht hp g2 g3
  go_enter Tryd.func37, Tryd.ntmps37
  go_wp2_with fail
  refine (treeRef_any A l c (by unfold maxLen; omega) _ hl1).mono ?_
  rintro e w1 ⟨rfl, hb1⟩
  rw [HT.out]
  have hB1 := hB0.below hb1 (by simp)
  have hl2 := hl1.below hb1
  have hb2 := hb0.trans (hb1.mono (by simp))
  have hs2 := hb2.size
  have hs1 := hb1.size
  simp only [World.size_alloc] at hs1 hl2
  clear hb1 hl1 hB0 hb0
  obtain ⟨c0, c1, _⟩ := hB1.two
  go_wp2_with fail
  refine (fault_any p.1 p.2 _).mono ?_
  rintro e w2 ⟨rfl, hb3⟩
  rw [HP.out]
  have hB2 := hB1.below hb3 (by omega)
  have hl3 := (hl2.more hs1).below hb3
  have hb4 := hb2.trans (hb3.mono hs2)
  have hs3 := hb3.size
  clear hb3 hl2 hB1 hb2 c0 c1
  have hnil := OwnP.nil w2 w2.heap.size 23
  go_wp2
  go_loopw [7, 8] (fun v i wr => ∃ k : Nat, k ≤ l.length ∧ i = .int .i64 k ∧ Below w2.heap.size w2 wr ∧ OwnP wr w2.heap.size 23 v (dropL (l.take k) p)) (fun _ i _ => l.length - (intOf i).toNat)
  case atStart => exact ⟨0, Nat.zero_le _, rfl, Below.refl _ _, hnil⟩
  case round =>
    obtain ⟨k, hk, rfl, hb, hown⟩ := hrel
    have hsr := hb.size
    by_cases hlt : k < l.length
    · have hBr := hB2.below hb (by omega)
      obtain ⟨c0, c1, _⟩ := hBr.two
      obtain ⟨b, off, rfl, hbb, d0, d1⟩ := ((hl3.more hs3).below hb).pair hlt
      obtain ⟨k0, k1⟩ := bel2 (B := wr.heap.size) (W := wr) ⟨c0, c1⟩ (by omega)
      have k2 : ∀ x : BelW wr.heap.size wr, x.1.cell? ⟨b, off + k * 2, none⟩ = some (.int .i64 l[k].1) := BelW.cell d0 (by simp; omega)
      have k3 : ∀ x : BelW wr.heap.size wr, x.1.cell? ⟨b, off + k * 2 + 1, none⟩ = some (.int .i64 l[k].2) := BelW.cell d1 (by simp; omega)
      have HS := Lib.hid (takeFilter_snoc (fun x => decide (x ≠ p)) l k hlt)
      have hfl : (dropL (l.take k) p).length ≤ k := Nat.le_trans (List.length_filter_le _ _) (List.length_take_le _ _)
      clear c0 c1
      by_cases he : l[k] = p
      · have HE := Lib.hid he
        clear he
        go_wp2_with fail
        refine wp_region_bel wr.heap.size wr (by kernel_rfl) (by kernel_rfl) (Below.refl _ _) ?_
        repeat (go_big_quiet_step ((go_at_call 85; exact Calls.bel_of (Nat.le_refl _) (same_yes _ _ HE.out _))))
        refine wpQuiet_nil ?_
        intro w3 hb5
        clear k0 k1 k2 k3 d0 d1
        go_wp2
        go_roundw
        case rel => exact ⟨k + 1, by omega, by go_num, hb.trans (hb5.mono hsr), by unfold dropL; rw [HS.out, HE.out, if_neg (by simp), List.append_nil]; exact hown.below hb5⟩
        case measure => simp [intOf]; omega
      · have HE := Lib.hid he
        clear he
        go_wp2_with fail
        refine wp_region_bel wr.heap.size wr (by kernel_rfl) (by kernel_rfl) (Below.refl _ _) ?_
        repeat (go_big_quiet_step ((go_at_call 85; exact Calls.bel_of (Nat.le_refl _) (same_no _ _ HE.out _))))
        refine wpQuiet_nil ?_
        intro w3 hb5
        clear k0 k1 k2 k3
        have hs5 := hb5.size
        have e0 := (hb5.cell (p := ⟨b, off + k * 2, none⟩) (by simp; omega)).trans d0
        have e1 := (hb5.cell (p := ⟨b, off + k * 2 + 1, none⟩) (by simp; omega)).trans d1
        have hown3 := hown.below hb5
        have hb6 := hb.trans (hb5.mono hsr)
        have hs6 := hb6.size
        clear hb5 hown d0 d1 hb
        go_wp2_with (at_builtin; refine wpList_append_pair (p := l[k]) rfl _ _ 51 rfl Tryd.underlying51 infoPfx w2.heap.size _ _ rfl hown3 rfl (by omega) hs6 ?_; intro v5 w5 hown5 hb9)
        go_roundw
        case rel => exact ⟨k + 1, by omega, by go_num, hb6.trans hb9, by unfold dropL; rw [HS.out, if_pos (by simpa using HE.out)]; exact hown5⟩
        case measure => simp [intOf]; omega
    · obtain rfl : k = l.length := by omega
      rw [List.take_length] at hown
      have hbw := hb4.trans (hb.mono (show w.heap.size ≤ w2.heap.size by omega))
      obtain ⟨A5, c5, rfl, _⟩ := hown.form
      by_cases hm : p ∈ l
      · have hlen := drop_in_len hm
        have hz : (((dropL l p).length : Int) == (l.length : Int)) = false := by simp; omega
        have HM := Lib.hid hm
        clear hm
        go_wp2
        go_ret2
        exact ⟨hbw, fun h => absurd HM.out h, fun _ => ⟨_, rfl, own_of_base hown (by omega)⟩⟩
      · have hlen : (dropL l p).length = l.length := by rw [drop_notin hm]
        have HM := Lib.hid hm
        rw [hlen]
        clear hm
        go_wp2
        go_ret2
        exact ⟨hbw, fun _ => rfl, fun h => absurd h HM.out⟩
end Go.Proofs.YtcgeagobndhpjaaDoor
