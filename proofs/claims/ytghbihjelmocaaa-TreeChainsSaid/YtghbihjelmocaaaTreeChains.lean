/- The law TreeChains: the walk of its own text, by the contracts of package tree. Any list, any prefix. -/
import Derived.Test.YtghbihjelmocaaaTree
namespace Go.Proofs.Ytghbihjelmocaaa
open Go.RowKit

set_option maxRecDepth 100000 in
set_option maxHeartbeats 4000000 in
theorem treeChains_walk (A : Option Addr) (l : List Pf) (c : Nat) (hm : l.length ≤ maxLen) (a n : Int) (w : World) (hl : Rd w w.heap.size A (cellsP l)) :
    Calls Try.prog 5 #[.slice A l.length c, .agg #[.int .i64 a, .int .i64 n]] w fun e w' => e = .returned (.bool true) ∧ Below w.heap.size w w' := by
  obtain ⟨p, rfl, rfl⟩ : ∃ p : Pf, p.1 = a ∧ p.2 = n := ⟨(a, n), rfl, rfl⟩
  go_enter Try.func5, Try.ntmps5
  go_wp2_with fail
  have hone : Rd ((w.alloc (.cells #[.int .i64 p.1, .int .i64 p.2] 26)).alloc (.cells #[.int .i64 0, .int .i64 8, .int .i64 0, .int .i64 16] 26)) ((w.alloc (.cells #[.int .i64 p.1, .int .i64 p.2] 26)).alloc (.cells #[.int .i64 0, .int .i64 8, .int .i64 0, .int .i64 16] 26)).heap.size (some ⟨w.heap.size + 1, 0, none⟩) (cellsP [(0, 8), (0, 16)]) := fun _ => by
    refine ⟨w.heap.size + 1, 0, rfl, by simp, fun j u hj => ?_⟩
    match j, hj with
    | 0, hj => simp [cellsP] at hj; subst hj; simp
    | 1, hj => simp [cellsP] at hj; subst hj; simp
    | 2, hj => simp [cellsP] at hj; subst hj; simp
    | 3, hj => simp [cellsP] at hj; subst hj; simp
    | j + 4, hj => simp [cellsP] at hj
  refine (above_ok _ [(0, 8), (0, 16)] 2 (1, 32) (by decide) _ hone).mono ?_
  rintro e w1 ⟨v, rfl, hown, hb1⟩
  rw [show [((0 : Int), (8 : Int)), (0, 16)].filter (aboveOf (1, 32)) = [(0, 8), (0, 16)] from by decide] at hown
  obtain ⟨A1, c1, rfl, hr1⟩ := hown.form
  obtain ⟨b1, off1, rfl, hbb1, d0, d1⟩ := hr1.pair (k := 1) (by simp)
  simp only [List.length_cons, List.length_nil, Nat.zero_add, Nat.reduceAdd, Nat.one_mul, List.getElem_cons_succ, List.getElem_cons_zero] at d0 d1 ⊢
  have hB1 := ((Blk.new w 26 #[.int .i64 p.1, .int .i64 p.2]).alloc (.cells #[.int .i64 0, .int .i64 8, .int .i64 0, .int .i64 16] 26)).below hb1 (by simp; omega)
  have hs1 := hb1.size
  simp only [World.size_alloc] at hs1
  have hl1 : Rd w1 w.heap.size A (cellsP l) := ((hl.alloc (Nat.le_refl _) _).alloc (by simp) _).below (hb1.mono (by simp; omega))
  have hbw : Below w.heap.size w w1 := (((Below.refl _ _).alloc (Nat.le_refl _) _).alloc (by simp) _).trans (hb1.mono (by simp; omega))
  clear hb1 hone hl hown hr1
  obtain ⟨c0, c1', _⟩ := hB1.two
  go_wp2_with fail
  by_cases hf : treeFault2 l p = 0
  · obtain ⟨ht, hp⟩ := treeFault2_zero.1 hf
    obtain ⟨g1, g2, g3⟩ := tree_good ht
    obtain ⟨U, hU⟩ : ∃ U, U = l.filter (aboveOf p) := ⟨_, rfl⟩
    have HUP : Hid (∀ k (h : k < U.length), chkP U[k] = 0 ∧ inQ p U[k] = true) := by subst hU; exact fun k h => chains_up g2 hp g3 h
    have HNX : Hid (∀ k (h : k + 1 < U.length), inQ U[k + 1] U[k] = true ∧ U[k].2 < U[k + 1].2) := by subst hU; exact fun k h => chains_next g2 hp g3 h
    have hfl : U.length ≤ l.length := by subst hU; exact List.length_filter_le _ _
    have HU := Lib.hid hU
    clear hU
    have HTM := Lib.hid (fun d h => tops_mem (l := l) (p := p) (d := d) h)
    have HDN := Lib.hid (fun d c h1 h2 h3 => chains_down g2 g3 (p := p) (d := d) (c := c) h1 h2 h3)
    have HT := Lib.hid ht
    have HF := Lib.hid hf
    have G2 := Lib.hid g2
    clear ht hf g2 g3
    refine (above_ok A l c p HF.out _ (hl1.more (by omega))).mono ?_
    rintro e w2 ⟨v, rfl, hown, hb2⟩
    rw [← HU.out] at hown
    obtain ⟨A2, c2, rfl, hr2⟩ := hown.form
    have hB2 := hB1.below hb2 (by omega)
    have hl2 := hl1.below (hb2.mono (by omega))
    have hbw2 := hbw.trans (hb2.mono (by omega))
    have hs2 := hb2.size
    clear hb2 hbw hl1 hB1 c0 c1' hown d0 d1
    go_wp2_with fail
    go_loopw [9, 10, 11] (fun i _ _ wr => ∃ k : Nat, k ≤ U.length ∧ i = .int .i64 k ∧ Below w2.heap.size w2 wr) (fun i _ _ _ => U.length - (intOf i).toNat)
    case atStart => exact ⟨0, Nat.zero_le _, rfl, Below.refl _ _⟩
    case round =>
      obtain ⟨k, hk, rfl, hb⟩ := hrel
      have hsr := hb.size
      have hBr := hB2.below hb (by omega)
      obtain ⟨c0, c1', _⟩ := hBr.two
      obtain ⟨k0, k1⟩ := bel2 (B := wr.heap.size) (W := wr) ⟨c0, c1'⟩ (by omega)
      by_cases hlt : k < U.length
      · obtain ⟨hu1, hu2⟩ := HUP.out k hlt
        obtain ⟨b2, off2, rfl, hbb2, d0, d1⟩ := (hr2.below hb).pair hlt
        have k2 : ∀ x : BelW wr.heap.size wr, x.1.cell? ⟨b2, off2 + k * 2, none⟩ = some (.int .i64 U[k].1) := BelW.cell d0 (by simp; omega)
        have k3 : ∀ x : BelW wr.heap.size wr, x.1.cell? ⟨b2, off2 + k * 2 + 1, none⟩ = some (.int .i64 U[k].2) := BelW.cell d1 (by simp; omega)
        go_wp2_with fail
        refine wp_region_bel wr.heap.size wr (by kernel_rfl) (by kernel_rfl) (Below.refl _ _) ?_
        repeat (go_big_quiet_step ((go_at_call 13; exact Calls.bel_of (Nat.le_refl _) (within_ok _ _ hp hu1 _))))
        refine wpQuiet_nil ?_
        intro w3 hb3
        have hb4 := hb.trans (hb3.mono (by omega))
        have hs3 := hb3.size
        rcases Nat.eq_zero_or_pos k with h0 | h0
        · subst h0
          clear k0 k1 k2 k3 hb3
          go_wp2
          go_roundw
          case rel => exact ⟨1, by omega, by go_num, hb4⟩
          case measure => simp [intOf]; omega
        · obtain ⟨j, rfl⟩ : ∃ j, k = j + 1 := ⟨k - 1, by omega⟩
          obtain ⟨hv1, hv2⟩ := HUP.out j (by omega)
          obtain ⟨hn1, hn2⟩ := HNX.out j hlt
          obtain ⟨b3, off3, he, _, f0, f1⟩ := (hr2.below hb).pair (k := j) (by omega)
          obtain ⟨rfl, rfl⟩ : b2 = b3 ∧ off2 = off3 := by simpa using he
          clear he k0 k1 k2 k3
          have k2 : ∀ x : BelW w3.heap.size w3, x.1.cell? ⟨b2, off2 + (j + 1) * 2, none⟩ = some (.int .i64 U[j + 1].1) := BelW.cell ((hb3.cell (by simp; omega)).trans d0) (by simp; omega)
          have k3 : ∀ x : BelW w3.heap.size w3, x.1.cell? ⟨b2, off2 + (j + 1) * 2 + 1, none⟩ = some (.int .i64 U[j + 1].2) := BelW.cell ((hb3.cell (by simp; omega)).trans d1) (by simp; omega)
          have k4 : ∀ x : BelW w3.heap.size w3, x.1.cell? ⟨b2, off2 + j * 2, none⟩ = some (.int .i64 U[j].1) := BelW.cell ((hb3.cell (by simp; omega)).trans f0) (by simp; omega)
          have k5 : ∀ x : BelW w3.heap.size w3, x.1.cell? ⟨b2, off2 + j * 2 + 1, none⟩ = some (.int .i64 U[j].2) := BelW.cell ((hb3.cell (by simp; omega)).trans f1) (by simp; omega)
          clear hb3 d0 d1 f0 f1 c0 c1'
          go_wp2_with fail
          refine wp_region_bel w3.heap.size w3 (by kernel_rfl) (by kernel_rfl) (Below.refl _ _) ?_
          repeat (go_big_quiet_step ((go_at_call 13; exact Calls.bel_of (Nat.le_refl _) (within_ok _ _ hu1 hv1 _))))
          refine wpQuiet_nil ?_
          intro w5 hb5
          go_wp2_with fail
          refine wp_region_bel w3.heap.size w3 (by kernel_rfl) (by kernel_rfl) hb5 ?_
          repeat (go_big_quiet_step (fail))
          refine wpQuiet_nil ?_
          intro w6 hb6
          clear k2 k3 k4 k5
          go_wp2
          go_roundw
          case rel => exact ⟨j + 1 + 1, by omega, by go_num, hb4.trans (hb6.mono (by omega))⟩
          case measure => simp [intOf]; omega
      · obtain rfl : k = U.length := by omega
        have hl3 := hl2.below (hb.mono (by omega))
        have hbw3 := hbw2.trans (hb.mono (by omega))
        have hB3 := hBr
        clear k0 k1 hb hr2 HUP HNX HU hl2 hB2 hbw2 hBr
        go_wp2_with fail
        refine (below_ok A l c p HF.out _ (hl3.more (by omega))).mono ?_
        rintro e w4 ⟨v, rfl, hown, hb4⟩
        obtain ⟨D, hD⟩ : ∃ D, D = tops (l.filter (belowOf p)) := ⟨_, rfl⟩
        have HDm : Hid (∀ d ∈ D, d ∈ l ∧ d ≠ p ∧ inQ d p = true) := by subst hD; exact HTM.out
        have HDn : Hid (∀ d c, d ∈ D → c ∈ l.filter (aboveOf d) → inQ c p = true → c = p) := by subst hD; exact HDN.out
        rw [← hD] at hown
        have hDl : D.length ≤ l.length := by
          subst hD
          exact Nat.le_trans (topsGo_length _ _) (List.length_filter_le _ _)
        obtain ⟨A4, c4, rfl, hr4⟩ := hown.form
        have hB4 := hB3.below hb4 (by omega)
        have hl4 := hl3.below (hb4.mono (by omega))
        have hbw4 := hbw3.trans (hb4.mono (by omega))
        have hs4 := hb4.size
        clear hb4 hl3 hB3 hbw3 hown hD HDN HTM c0 c1'
        go_wp2_with fail
        go_loopw [13, 14, 15, 16, 17, 18, 19] (fun i _ _ _ _ _ _ wr => ∃ k : Nat, k ≤ D.length ∧ i = .int .i64 k ∧ Below w4.heap.size w4 wr) (fun i _ _ _ _ _ _ _ => D.length - (intOf i).toNat)
        case atStart => exact ⟨0, Nat.zero_le _, rfl, Below.refl _ _⟩
        case round =>
          obtain ⟨k, hk, rfl, hb⟩ := hrel
          have hsr := hb.size
          have hBr := hB4.below hb (by omega)
          obtain ⟨c0, c1', _⟩ := hBr.two
          obtain ⟨k0, k1⟩ := bel2 (B := wr.heap.size) (W := wr) ⟨c0, c1'⟩ (by omega)
          by_cases hlt : k < D.length
          · obtain ⟨hd1, hd2, hd3⟩ := HDm.out D[k] (List.getElem_mem _)
            have hcd := G2.out _ hd1
            obtain ⟨b2, off2, rfl, hbb2, d0, d1⟩ := (hr4.below hb).pair hlt
            have k2 : ∀ x : BelW wr.heap.size wr, x.1.cell? ⟨b2, off2 + k * 2, none⟩ = some (.int .i64 D[k].1) := BelW.cell d0 (by simp; omega)
            have k3 : ∀ x : BelW wr.heap.size wr, x.1.cell? ⟨b2, off2 + k * 2 + 1, none⟩ = some (.int .i64 D[k].2) := BelW.cell d1 (by simp; omega)
            go_wp2_with fail
            refine wp_region_bel wr.heap.size wr (by kernel_rfl) (by kernel_rfl) (Below.refl _ _) ?_
            repeat (go_big_quiet_step ((go_at_call 13; exact Calls.bel_of (Nat.le_refl _) (within_ok _ _ hcd hp _))))
            refine wpQuiet_nil ?_
            intro w5 hb5
            have hb5' := hb.trans (hb5.mono (by omega))
            have hs5 := hb5.size
            have hB5 := hBr.below hb5 (by omega)
            have hl5 := hl4.below (hb5'.mono (by omega))
            have e0 := (hb5.cell (p := ⟨b2, off2 + k * 2, none⟩) (by simp; omega)).trans d0
            have e1 := (hb5.cell (p := ⟨b2, off2 + k * 2 + 1, none⟩) (by simp; omega)).trans d1
            clear k0 k1 k2 k3 hb5 d0 d1 c0 c1'
            go_wp2_with fail
            refine (above_ok A l c D[k] (treeFault2_zero.2 ⟨HT.out, hcd⟩) _ (hl5.more (by omega))).mono ?_
            rintro e w6 ⟨v, rfl, hown6, hb6⟩
            obtain ⟨C, hC⟩ : ∃ C, C = l.filter (aboveOf D[k]) := ⟨_, rfl⟩
            have HC : Hid (∀ c ∈ C, chkP c = 0 ∧ (inQ c p = true → c = p)) := by
              subst hC
              exact fun c hc => ⟨G2.out c (List.mem_filter.1 hc).1, fun h => HDn.out D[k] c (List.getElem_mem _) hc h⟩
            have hCl : C.length ≤ l.length := by subst hC; exact List.length_filter_le _ _
            rw [← hC] at hown6
            obtain ⟨A6, c6, rfl, hr6⟩ := hown6.form
            have hB6 := hB5.below hb6 (by omega)
            have hb6' := hb5'.trans (hb6.mono (by omega))
            have hs6 := hb6.size
            clear hC hown6 hb6 e0 e1 hB5 hl5 hb5'
            obtain ⟨wo, rfl⟩ : ∃ wo : World, wo = wr := ⟨_, rfl⟩
            go_wp2_with fail
            go_loopw [17, 18, 19] (fun i _ _ wr => ∃ j : Nat, j ≤ C.length ∧ i = .int .i64 j ∧ Below w6.heap.size w6 wr) (fun i _ _ _ => C.length - (intOf i).toNat)
            case atStart => exact ⟨0, Nat.zero_le _, rfl, Below.refl _ _⟩
            case round =>
              obtain ⟨j, hj, rfl, hbj⟩ := hrel
              have hsj := hbj.size
              obtain ⟨c0, c1', _⟩ := (hB6.below hbj (by omega)).two
              obtain ⟨k0, k1⟩ := bel2 (B := wr.heap.size) (W := wr) ⟨c0, c1'⟩ (by omega)
              by_cases hjt : j < C.length
              · obtain ⟨hc1, hc2⟩ := HC.out C[j] (List.getElem_mem _)
                have HC2 := Lib.hid hc2
                clear hc2
                obtain ⟨b3, off3, rfl, hbb3, d0, d1⟩ := (hr6.below hbj).pair hjt
                have k2 : ∀ x : BelW wr.heap.size wr, x.1.cell? ⟨b3, off3 + j * 2, none⟩ = some (.int .i64 C[j].1) := BelW.cell d0 (by simp; omega)
                have k3 : ∀ x : BelW wr.heap.size wr, x.1.cell? ⟨b3, off3 + j * 2 + 1, none⟩ = some (.int .i64 C[j].2) := BelW.cell d1 (by simp; omega)
                go_wp2_with fail
                refine wp_region_bel wr.heap.size wr (by kernel_rfl) (by kernel_rfl) (Below.refl _ _) ?_
                repeat (go_big_quiet_step ((go_at_call 13; exact Calls.bel_of (Nat.le_refl _) (within_ok _ _ hc1 hp _))))
                refine wpQuiet_nil ?_
                intro w7 hb7
                by_cases hin : inQ C[j] p = true
                · have heq := HC2.out hin
                  rw [hin]
                  have q1 : (C[j].1 != p.1) = false := by rw [heq]; simp
                  have q2 : (C[j].2 != p.2) = false := by rw [heq]; simp
                  clear heq
                  go_wp2_with fail
                  refine wp_region_bel wr.heap.size wr (by kernel_rfl) (by kernel_rfl) hb7 ?_
                  repeat (go_big_quiet_step (fail))
                  refine wpQuiet_nil ?_
                  intro w8 hb8
                  clear k0 k1 k2 k3
                  go_wp2
                  go_roundw
                  case rel => exact ⟨j + 1, by omega, by go_num, hbj.trans (hb8.mono (by omega))⟩
                  case measure => simp [intOf]; omega
                · have hin' : inQ C[j] p = false := by simpa using hin
                  rw [hin']
                  clear hin
                  go_wp2_with fail
                  refine wp_region_bel wr.heap.size wr (by kernel_rfl) (by kernel_rfl) hb7 ?_
                  repeat (go_big_quiet_step (fail))
                  refine wpQuiet_nil ?_
                  intro w8 hb8
                  clear k0 k1 k2 k3
                  go_wp2
                  go_roundw
                  case rel => exact ⟨j + 1, by omega, by go_num, hbj.trans (hb8.mono (by omega))⟩
                  case measure => simp [intOf]; omega
              · obtain rfl : j = C.length := by omega
                clear k0 k1
                go_wp2
                go_roundw
                case rel => exact ⟨k + 1, by omega, by go_num, hb6'.trans (hbj.mono (by omega))⟩
                case measure => simp [intOf]; omega
          · obtain rfl : k = D.length := by omega
            clear k0 k1
            go_wp2
            go_ret
            exact ⟨rfl, hbw4.trans (hb.mono (by omega))⟩
  · refine (above_bad A l c p hm hf _ (hl1.more (by omega))).mono ?_
    rintro e w2 ⟨rfl, hb2⟩
    go_wp2
    go_ret
    exact ⟨rfl, hbw.trans (hb2.mono (by omega))⟩
end Go.Proofs.Ytghbihjelmocaaa
