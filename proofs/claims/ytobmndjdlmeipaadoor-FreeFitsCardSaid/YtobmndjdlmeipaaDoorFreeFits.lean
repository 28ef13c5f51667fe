/- The law FreeFits: its loop and its end, and the whole. -/
import Derived.Test.YtobmndjdlmeipaaDoorFreeFits0
namespace Go.Proofs.YtobmndjdlmeipaaDoor
set_option linter.unusedVariables false
set_option linter.unusedSimpArgs false
open Go.RowKit

set_option maxRecDepth 100000 in
set_option maxHeartbeats 8000000 in
theorem freeFits_4 (p : Pf) (A : Option Addr) (l : List Pf) (c : Nat) (n : Int) (hm : l.length ≤ maxLen) (w : World) (ht : TabVar w) (hg : ErrVar w) (hl : Rd w w.heap.size A (cellsP l)) (b : Pf) (r' : List Pf) (hp : greatFault p l n = 0) (hgl : greatL p l n = b :: r') (Q : Exit → Act → World → Prop) (s0 : Act) (w0 : World) (h0 : FFmid3 p A l c n w b.1 s0 w0)
    (h : ∀ a' w', FFmid p A l c n w a' w' → (tailN 1 (tailN 3 (tailN 2 (tailN 3 (Tryd.f3.body.getD .skip))))).wp Tryd.prog Q a' w') :
    (tailN 3 (tailN 2 (tailN 3 (Tryd.f3.body.getD .skip)))).wp Tryd.prog Q s0 w0 := by
  have HT := Lib.hid ht
  have HEV := Lib.hid hg
  clear ht hg
  have hb0 : b ∈ greatL p l n := by rw [hgl]; simp
  have HFA := Lib.hid (fit_facts hp (great_at hp hb0))
  have HLA : Hid (l.length < 60 → greatFault p (l ++ [(b.1, n)]) n = 0 ∧ manyL (greatL p (l ++ [(b.1, n)]) n) n + 1 = manyL (greatL p l n) n) := fun h => fits_less hp h (great_at hp hb0)
  have HBA : Hid (bestFault p l n = 0 → (bestV p l n).2 = n ∧ (bestV p l n).1 ∈ nb (greatL p l n) n ∧ b.1 ≤ (bestV p l n).1) := fun h => best_at hp hgl h
  obtain ⟨f1, f2, f3⟩ := freeFault_zero.1 (greatFault_zero.1 hp).1
  have HCP := Lib.hid f1
  have HCL := Lib.hid f3
  have hmany := many_le hp
  have HP := Lib.hid hp
  clear hp hgl f1 f3 hb0
  obtain ⟨U, gq, gb, rfl, hB0, c0_0, c0_1, hgq, hgb, hQ0, hBt0⟩ := h0
  refine wp_cut 1 (FFmid p A l c n w) (by rfl) ?_ h
  clear h
  intro r HR
  dsimp only [Tryd.f3, Option.getD, tailN, putN]
  go_wp2
  go_loopw [16] (fun i wr => ∃ (k : Nat) (a : Int), k ≤ 2 ∧ i = .int .i64 k ∧ Below w.heap.size w wr ∧ wr.cell? ⟨w.heap.size, 0, none⟩ = some (.int .i64 p.1) ∧ wr.cell? ⟨w.heap.size, 1, none⟩ = some (.int .i64 p.2) ∧ Blk wr gq 23 #[.int .i64 a, .int .i64 n] ∧ Blk wr gb 23 #[.int .i64 (bestV p l n).1, .int .i64 (bestV p l n).2] ∧ (k < 2 → a = b.1)) (fun i _ => 2 - (intOf i).toNat)
  case atStart => exact ⟨0, b.1, Nat.zero_le _, rfl, hB0, c0_0, c0_1, hQ0, hBt0, fun _ => rfl⟩
  case round =>
    obtain ⟨k, a, hk, rfl, hb, hP, hP', hQ, hBt, ha⟩ := hrel
    have hs := hb.size
    obtain ⟨x0, x1, xf0, xf1⟩ := hQ.two
    rcases (show k = 0 ∨ k = 1 ∨ k = 2 by omega) with rfl | rfl | rfl
    · obtain rfl : a = b.1 := ha (by omega)
      have HCA := Lib.hid HFA.out.1
      have HIA := Lib.hid HFA.out.2.1
      have HO := Lib.hid HFA.out.2.2
      have HLS := Lib.hid HLA.out
      go_wp2_with fail
      refine (within_yes (b.1, n) p HCA.out HCP.out HIA.out _).mono ?_
      rintro e w5 ⟨rfl, hb5⟩
      have hQ5 := hQ.below hb5 hQ.lt
      have hB5 := hBt.below hb5 hBt.lt
      have hP5 := (hb5.cell (p := ⟨w.heap.size, 0, none⟩) (World.block_lt_of_cell? _ _ hP)).trans hP
      have hP5' := (hb5.cell (p := ⟨w.heap.size, 1, none⟩) (World.block_lt_of_cell? _ _ hP')).trans hP'
      have hbw5 := hb.trans (hb5.mono hs)
      clear hb5 hQ hBt hP hP' hb x0 x1 xf0 xf1
      have hs5 := hbw5.size
      go_wp2
      go_loopw [19] (fun i wq => ∃ m : Nat, m ≤ l.length ∧ i = .int .i64 m ∧ Below w5.heap.size w5 wq) (fun i _ => l.length - (intOf i).toNat)
      case atStart => exact ⟨0, Nat.zero_le _, rfl, Below.refl _ _⟩
      case round =>
        obtain ⟨m, hmm, rfl, hbq⟩ := hrel
        have hsq := hbq.size
        have hbwq := hbw5.trans (hbq.mono (by omega))
        have hQ6 := hQ5.below hbq hQ5.lt
        obtain ⟨q0, q1, _⟩ := hQ6.two
        by_cases hlm : m < l.length
        · obtain ⟨b2, off2, rfl, _, g0, g1⟩ := (hl.below hbwq).pair hlm
          have HCQ := Lib.hid (HCL.out l[m] (List.getElem_mem _))
          have HOQ := Lib.hid (HO.out l[m] (List.getElem_mem _))
          have k0 : ∀ x : BelW wr.heap.size wr, x.1.cell? ⟨gq, 0, none⟩ = some (.int .i64 b.1) := BelW.cell q0 (World.block_lt_of_cell? wr _ q0)
          have k1 : ∀ x : BelW wr.heap.size wr, x.1.cell? ⟨gq, 1, none⟩ = some (.int .i64 n) := BelW.cell q1 (World.block_lt_of_cell? wr _ q1)
          have k2 : ∀ x : BelW wr.heap.size wr, x.1.cell? ⟨b2, off2 + m * 2, none⟩ = some (.int .i64 l[m].1) := BelW.cell g0 (World.block_lt_of_cell? wr _ g0)
          have k3 : ∀ x : BelW wr.heap.size wr, x.1.cell? ⟨b2, off2 + m * 2 + 1, none⟩ = some (.int .i64 l[m].2) := BelW.cell g1 (World.block_lt_of_cell? wr _ g1)
          go_wp2_with fail
          refine wp_region_bel wr.heap.size wr (by kernel_rfl) (by kernel_rfl) (Below.refl _ _) ?_
          repeat (go_big_quiet_step ((go_at_call 11; exact Calls.bel_of (Nat.le_refl _) (within_no (b.1, n) l[m] HCA.out HCQ.out HOQ.out.1 _))))
          refine wpQuiet_nil ?_
          intro w7 hw7
          clear k0 k1 k2 k3
          have hs7 := hw7.size
          have Q0 := (hw7.cell (p := ⟨gq, 0, none⟩) hQ6.lt).trans q0
          have Q1 := (hw7.cell (p := ⟨gq, 1, none⟩) hQ6.lt).trans q1
          have G0 := (hw7.cell (p := ⟨b2, off2 + m * 2, none⟩) (World.block_lt_of_cell? _ _ g0)).trans g0
          have G1 := (hw7.cell (p := ⟨b2, off2 + m * 2 + 1, none⟩) (World.block_lt_of_cell? _ _ g1)).trans g1
          have hb8 := hbq.trans (hw7.mono hsq)
          clear hw7 q0 q1 g0 g1 hbq hQ6 hbwq
          have k0 : ∀ x : BelW w7.heap.size w7, x.1.cell? ⟨gq, 0, none⟩ = some (.int .i64 b.1) := BelW.cell Q0 (World.block_lt_of_cell? w7 _ Q0)
          have k1 : ∀ x : BelW w7.heap.size w7, x.1.cell? ⟨gq, 1, none⟩ = some (.int .i64 n) := BelW.cell Q1 (World.block_lt_of_cell? w7 _ Q1)
          have k2 : ∀ x : BelW w7.heap.size w7, x.1.cell? ⟨b2, off2 + m * 2, none⟩ = some (.int .i64 l[m].1) := BelW.cell G0 (World.block_lt_of_cell? w7 _ G0)
          have k3 : ∀ x : BelW w7.heap.size w7, x.1.cell? ⟨b2, off2 + m * 2 + 1, none⟩ = some (.int .i64 l[m].2) := BelW.cell G1 (World.block_lt_of_cell? w7 _ G1)
          go_wp2_with fail
          refine wp_region_bel w7.heap.size w7 (by kernel_rfl) (by kernel_rfl) (Below.refl _ _) ?_
          repeat (go_big_quiet_step ((go_at_call 11; exact Calls.bel_of (Nat.le_refl _) (within_no l[m] (b.1, n) HCQ.out HCA.out HOQ.out.2 _))))
          refine wpQuiet_nil ?_
          intro w9 hw9
          clear k0 k1 k2 k3
          have hb10 := hb8.trans (hw9.mono (by omega))
          clear hw9 Q0 Q1 G0 G1 hb8
          go_wp2
          go_roundw
          case rel => exact ⟨m + 1, by omega, by go_num, hb10⟩
          case measure => simp [intOf]; omega
        · obtain rfl : m = l.length := by omega
          have p0 := (hbq.cell (p := ⟨w.heap.size, 0, none⟩) (World.block_lt_of_cell? _ _ hP5)).trans hP5
          have p1 := (hbq.cell (p := ⟨w.heap.size, 1, none⟩) (World.block_lt_of_cell? _ _ hP5')).trans hP5'
          have hB6 := hB5.below hbq hB5.lt
          have hsw := hbwq.size
          by_cases h60 : l.length < 60
          · have hlt60 : (l.length : Int) < 60 := by omega
            obtain ⟨HF2, hless⟩ := HLS.out h60
            obtain ⟨L2, hL2⟩ : ∃ L2, L2 = l ++ [(b.1, n)] := ⟨_, rfl⟩
            have hL2m : L2.length ≤ maxLen := by rw [hL2]; unfold maxLen; simp; omega
            have HLE := Lib.hid hL2
            rw [← hL2] at HF2 hless
            have HFF := Lib.hid HF2
            have hne : (((manyL (greatL p L2 n) n : Nat) : Int) != ((manyL (greatL p l n) n : Nat) : Int) - 1) = false := by
              have e : ((manyL (greatL p L2 n) n : Nat) : Int) = ((manyL (greatL p l n) n : Nat) : Int) - 1 := by omega
              rw [e]; simp
            clear hless hL2 HF2
            go_wp2_with (at_builtin; first | (refine wpList_append_rd rfl (.tmp 148) (.tmp 149) 24 rfl 23 Tryd.underlying24 _ 2 16 infoPfx rfl (by decide) wr.heap.size _ 0 (cellsP []) rfl (OwnP.nil _ _ _) wr.heap.size A l.length c (cellsP l) rfl (by rw [cellsP_length]) ((hl.below hbwq).more hsw) (cellsP_one l) (by unfold maxLen; omega) (by omega) (Nat.le_refl _) ?_; intro v7 w7 hown7 hb7; have hown7' : OwnP w7 wr.heap.size 23 v7 l := (by unfold OwnP; simp only [Nat.zero_add] at hown7; exact hown7); have hs7 := hb7.size; have q0' := (hb7.cell (p := ⟨gq, 0, none⟩) hQ6.lt).trans q0; have q1' := (hb7.cell (p := ⟨gq, 1, none⟩) hQ6.lt).trans q1; have p0' := (hb7.cell (p := ⟨w.heap.size, 0, none⟩) (World.block_lt_of_cell? _ _ p0)).trans p0; have p1' := (hb7.cell (p := ⟨w.heap.size, 1, none⟩) (World.block_lt_of_cell? _ _ p1)).trans p1) | (go_loud (refine wpList_append_pair (p := (b.1, n)) (l := l) rfl _ _ 24 rfl Tryd.underlying24 infoPfx wr.heap.size _ rfl hown7' rfl (by omega) hs7 ?_); intro v8 w8 hown8 hb8; have p0'' := (hb8.cell (p := ⟨w.heap.size, 0, none⟩) (World.block_lt_of_cell? _ _ p0)).trans p0'; have p1'' := (hb8.cell (p := ⟨w.heap.size, 1, none⟩) (World.block_lt_of_cell? _ _ p1)).trans p1'; obtain ⟨A8, c8, rfl, hr8⟩ := OwnP.form hown8; rw [← HLE.out] at hr8; rw [← HLE.out]))
            have hb78 := hb7.trans hb8
            have hbw8 := hbwq.trans (hb78.mono hsw)
            refine (many_ok p A8 L2 c8 n hL2m HFF.out _ (HT.out.belowB hbw8 HT.out.lt) hr8).mono ?_
            rintro e w9 ⟨rfl, hb9⟩
            have hs8 := hb78.size
            have hb79 := hb78.trans (hb9.mono hs8)
            go_wp2
            go_roundw
            case rel => exact ⟨1, b.1, by omega, by go_num, hbwq.trans (hb79.mono hsw), (hb79.cell (p := ⟨w.heap.size, 0, none⟩) (World.block_lt_of_cell? _ _ p0)).trans p0, (hb79.cell (p := ⟨w.heap.size, 1, none⟩) (World.block_lt_of_cell? _ _ p1)).trans p1, hQ6.below hb79 hQ6.lt, hB6.below hb79 hB6.lt, fun _ => rfl⟩
            case measure => simp [intOf]
          · have hlt60 : ¬ (l.length : Int) < 60 := by omega
            go_wp2
            go_roundw
            case rel => exact ⟨1, b.1, by omega, by go_num, hbwq, p0, p1, hQ6, hB6, fun _ => rfl⟩
            case measure => simp [intOf]
    · obtain rfl : a = b.1 := ha (by omega)
      by_cases hbf : bestFault p l n = 0
      · have HFV := Lib.hid (show faultV (bestFault p l n) = .nilIface by rw [hbf]; rfl)
        obtain ⟨y2, ymem, yle⟩ := HBA.out hbf
        rw [y2] at hBt
        have HY2 := Lib.hid y2
        have hFA := fit_facts HP.out ymem
        have HCA := Lib.hid hFA.1
        have HIA := Lib.hid hFA.2.1
        have HO := Lib.hid hFA.2.2
        have HLS : Hid (l.length < 60 → greatFault p (l ++ [((bestV p l n).1, n)]) n = 0 ∧ manyL (greatL p (l ++ [((bestV p l n).1, n)]) n) n + 1 = manyL (greatL p l n) n) := fun h => fits_less HP.out h ymem
        have hcmpb : decide ((bestV p l n).1 < b.1) = false := by simpa using yle
        obtain ⟨z0, z1, _⟩ := hBt.two
        have hgqb : gq ≠ gb := by omega
        have hgwq : w.heap.size ≠ gq := by omega
        clear hFA ymem hbf y2
        rw [HFV.out]
        go_wp2_with fail
        refine (within_yes ((bestV p l n).1, n) p HCA.out HCP.out HIA.out _).mono ?_
        rintro e w5 ⟨rfl, hb5⟩
        have hQ5 := Blk.below hQ.store2 hb5 (by simp; exact hQ.lt)
        have hB5 := Blk.below ((hBt.far (p := ⟨gq, 0, none⟩) (by simp; omega) _).far (p := ⟨gq, 1, none⟩) (by simp; omega) _) hb5 (by simp; exact hBt.lt)
        have hbx := ((hb.setCell (p := ⟨gq, 0, none⟩) (by simp; omega) (.int .i64 (bestV p l n).1)).setCell (p := ⟨gq, 1, none⟩) (by simp; omega) (.int .i64 n))
        have hbw5 := hbx.trans (hb5.mono (by simp; omega))
        have hP5 : w5.cell? ⟨w.heap.size, 0, none⟩ = some (.int .i64 p.1) := (hb5.cell (p := ⟨w.heap.size, 0, none⟩) (by simp; exact World.block_lt_of_cell? _ _ hP)).trans (by simp [go_sem, hP, hgwq])
        have hP5' : w5.cell? ⟨w.heap.size, 1, none⟩ = some (.int .i64 p.2) := (hb5.cell (p := ⟨w.heap.size, 1, none⟩) (by simp; exact World.block_lt_of_cell? _ _ hP')).trans (by simp [go_sem, hP', hgwq])
        clear hb5 hQ hBt hP hP' hb hbx x0 x1 xf0 xf1 z0 z1
        have hs5 := hbw5.size
        go_wp2
        go_loopw [19] (fun i wq => ∃ m : Nat, m ≤ l.length ∧ i = .int .i64 m ∧ Below w5.heap.size w5 wq) (fun i _ => l.length - (intOf i).toNat)
        case atStart => exact ⟨0, Nat.zero_le _, rfl, Below.refl _ _⟩
        case round =>
          obtain ⟨m, hmm, rfl, hbq⟩ := hrel
          have hsq := hbq.size
          have hbwq := hbw5.trans (hbq.mono (by omega))
          have hQ6 := hQ5.below hbq hQ5.lt
          obtain ⟨q0, q1, _⟩ := hQ6.two
          by_cases hlm : m < l.length
          · obtain ⟨b2, off2, rfl, _, g0, g1⟩ := (hl.below hbwq).pair hlm
            have HCQ := Lib.hid (HCL.out l[m] (List.getElem_mem _))
            have HOQ := Lib.hid (HO.out l[m] (List.getElem_mem _))
            have k0 : ∀ x : BelW wr.heap.size wr, x.1.cell? ⟨gq, 0, none⟩ = some (.int .i64 (bestV p l n).1) := BelW.cell q0 (World.block_lt_of_cell? wr _ q0)
            have k1 : ∀ x : BelW wr.heap.size wr, x.1.cell? ⟨gq, 1, none⟩ = some (.int .i64 n) := BelW.cell q1 (World.block_lt_of_cell? wr _ q1)
            have k2 : ∀ x : BelW wr.heap.size wr, x.1.cell? ⟨b2, off2 + m * 2, none⟩ = some (.int .i64 l[m].1) := BelW.cell g0 (World.block_lt_of_cell? wr _ g0)
            have k3 : ∀ x : BelW wr.heap.size wr, x.1.cell? ⟨b2, off2 + m * 2 + 1, none⟩ = some (.int .i64 l[m].2) := BelW.cell g1 (World.block_lt_of_cell? wr _ g1)
            go_wp2_with fail
            refine wp_region_bel wr.heap.size wr (by kernel_rfl) (by kernel_rfl) (Below.refl _ _) ?_
            repeat (go_big_quiet_step ((go_at_call 11; exact Calls.bel_of (Nat.le_refl _) (within_no ((bestV p l n).1, n) l[m] HCA.out HCQ.out HOQ.out.1 _))))
            refine wpQuiet_nil ?_
            intro w7 hw7
            clear k0 k1 k2 k3
            have hs7 := hw7.size
            have Q0 := (hw7.cell (p := ⟨gq, 0, none⟩) hQ6.lt).trans q0
            have Q1 := (hw7.cell (p := ⟨gq, 1, none⟩) hQ6.lt).trans q1
            have G0 := (hw7.cell (p := ⟨b2, off2 + m * 2, none⟩) (World.block_lt_of_cell? _ _ g0)).trans g0
            have G1 := (hw7.cell (p := ⟨b2, off2 + m * 2 + 1, none⟩) (World.block_lt_of_cell? _ _ g1)).trans g1
            have hb8 := hbq.trans (hw7.mono hsq)
            clear hw7 q0 q1 g0 g1 hbq hQ6 hbwq
            have k0 : ∀ x : BelW w7.heap.size w7, x.1.cell? ⟨gq, 0, none⟩ = some (.int .i64 (bestV p l n).1) := BelW.cell Q0 (World.block_lt_of_cell? w7 _ Q0)
            have k1 : ∀ x : BelW w7.heap.size w7, x.1.cell? ⟨gq, 1, none⟩ = some (.int .i64 n) := BelW.cell Q1 (World.block_lt_of_cell? w7 _ Q1)
            have k2 : ∀ x : BelW w7.heap.size w7, x.1.cell? ⟨b2, off2 + m * 2, none⟩ = some (.int .i64 l[m].1) := BelW.cell G0 (World.block_lt_of_cell? w7 _ G0)
            have k3 : ∀ x : BelW w7.heap.size w7, x.1.cell? ⟨b2, off2 + m * 2 + 1, none⟩ = some (.int .i64 l[m].2) := BelW.cell G1 (World.block_lt_of_cell? w7 _ G1)
            go_wp2_with fail
            refine wp_region_bel w7.heap.size w7 (by kernel_rfl) (by kernel_rfl) (Below.refl _ _) ?_
            repeat (go_big_quiet_step ((go_at_call 11; exact Calls.bel_of (Nat.le_refl _) (within_no l[m] ((bestV p l n).1, n) HCQ.out HCA.out HOQ.out.2 _))))
            refine wpQuiet_nil ?_
            intro w9 hw9
            clear k0 k1 k2 k3
            have hb10 := hb8.trans (hw9.mono (by omega))
            clear hw9 Q0 Q1 G0 G1 hb8
            go_wp2
            go_roundw
            case rel => exact ⟨m + 1, by omega, by go_num, hb10⟩
            case measure => simp [intOf]; omega
          · obtain rfl : m = l.length := by omega
            have p0 := (hbq.cell (p := ⟨w.heap.size, 0, none⟩) (World.block_lt_of_cell? _ _ hP5)).trans hP5
            have p1 := (hbq.cell (p := ⟨w.heap.size, 1, none⟩) (World.block_lt_of_cell? _ _ hP5')).trans hP5'
            have hB6 := hB5.below hbq hB5.lt
            have hsw := hbwq.size
            by_cases h60 : l.length < 60
            · have hlt60 : (l.length : Int) < 60 := by omega
              obtain ⟨HF2, hless⟩ := HLS.out h60
              obtain ⟨L2, hL2⟩ : ∃ L2, L2 = l ++ [((bestV p l n).1, n)] := ⟨_, rfl⟩
              have hL2m : L2.length ≤ maxLen := by rw [hL2]; unfold maxLen; simp; omega
              have HLE := Lib.hid hL2
              rw [← hL2] at HF2 hless
              have HFF := Lib.hid HF2
              have hne : (((manyL (greatL p L2 n) n : Nat) : Int) != ((manyL (greatL p l n) n : Nat) : Int) - 1) = false := by
                have e : ((manyL (greatL p L2 n) n : Nat) : Int) = ((manyL (greatL p l n) n : Nat) : Int) - 1 := by omega
                rw [e]; simp
              clear hless hL2 HF2
              go_wp2_with (at_builtin; first | (refine wpList_append_rd rfl (.tmp 148) (.tmp 149) 24 rfl 23 Tryd.underlying24 _ 2 16 infoPfx rfl (by decide) wr.heap.size _ 0 (cellsP []) rfl (OwnP.nil _ _ _) wr.heap.size A l.length c (cellsP l) rfl (by rw [cellsP_length]) ((hl.below hbwq).more hsw) (cellsP_one l) (by unfold maxLen; omega) (by omega) (Nat.le_refl _) ?_; intro v7 w7 hown7 hb7; have hown7' : OwnP w7 wr.heap.size 23 v7 l := (by unfold OwnP; simp only [Nat.zero_add] at hown7; exact hown7); have hs7 := hb7.size; have q0' := (hb7.cell (p := ⟨gq, 0, none⟩) hQ6.lt).trans q0; have q1' := (hb7.cell (p := ⟨gq, 1, none⟩) hQ6.lt).trans q1; have p0' := (hb7.cell (p := ⟨w.heap.size, 0, none⟩) (World.block_lt_of_cell? _ _ p0)).trans p0; have p1' := (hb7.cell (p := ⟨w.heap.size, 1, none⟩) (World.block_lt_of_cell? _ _ p1)).trans p1) | (go_loud (refine wpList_append_pair (p := ((bestV p l n).1, n)) (l := l) rfl _ _ 24 rfl Tryd.underlying24 infoPfx wr.heap.size _ rfl hown7' rfl (by omega) hs7 ?_); intro v8 w8 hown8 hb8; have p0'' := (hb8.cell (p := ⟨w.heap.size, 0, none⟩) (World.block_lt_of_cell? _ _ p0)).trans p0'; have p1'' := (hb8.cell (p := ⟨w.heap.size, 1, none⟩) (World.block_lt_of_cell? _ _ p1)).trans p1'; obtain ⟨A8, c8, rfl, hr8⟩ := OwnP.form hown8; rw [← HLE.out] at hr8; rw [← HLE.out]))
              have hb78 := hb7.trans hb8
              have hbw8 := hbwq.trans (hb78.mono hsw)
              refine (many_ok p A8 L2 c8 n hL2m HFF.out _ (HT.out.belowB hbw8 HT.out.lt) hr8).mono ?_
              rintro e w9 ⟨rfl, hb9⟩
              have hs8 := hb78.size
              have hb79 := hb78.trans (hb9.mono hs8)
              go_wp2
              go_roundw
              case rel => exact ⟨2, (bestV p l n).1, by omega, by go_num, hbwq.trans (hb79.mono hsw), (hb79.cell (p := ⟨w.heap.size, 0, none⟩) (World.block_lt_of_cell? _ _ p0)).trans p0, (hb79.cell (p := ⟨w.heap.size, 1, none⟩) (World.block_lt_of_cell? _ _ p1)).trans p1, hQ6.below hb79 hQ6.lt, by rw [HY2.out]; exact hB6.below hb79 hB6.lt, fun h => absurd h (by omega)⟩
              case measure => simp [intOf]
            · have hlt60 : ¬ (l.length : Int) < 60 := by omega
              go_wp2
              go_roundw
              case rel => exact ⟨2, (bestV p l n).1, by omega, by go_num, hbwq, p0, p1, hQ6, by rw [HY2.out]; exact hB6, fun h => absurd h (by omega)⟩
              case measure => simp [intOf]
      · have HFV := Lib.hid (show faultV (bestFault p l n) = .iface 32 (.int .i64 (bestFault p l n)) from faultV_pos hbf)
        clear hbf
        rw [HFV.out]
        go_wp2_with fail
        exact HR.out _ _ (FFmid.mk (by kernel_rfl) ⟨hb, hP, hP'⟩)
    · go_wp2_with fail
      exact HR.out _ _ (FFmid.mk (by kernel_rfl) ⟨hb, hP, hP'⟩)
set_option maxRecDepth 100000 in
set_option maxHeartbeats 8000000 in
theorem freeFits_5 (p : Pf) (A : Option Addr) (l : List Pf) (c : Nat) (n : Int) (hm : l.length ≤ maxLen) (w : World) (ht : TabVar w) (hg : ErrVar w) (hl : Rd w w.heap.size A (cellsP l)) (hp : freeFault p l = 0) (s0 : Act) (w0 : World) (h0 : FFmid p A l c n w s0 w0) :
    (tailN 1 (tailN 3 (tailN 2 (tailN 3 (Tryd.f3.body.getD .skip))))).wp Tryd.prog (bodyPost Tryd.prog Tryd.f3 fun e w' => e = .returned (.bool true) ∧ Below w.heap.size w w') s0 w0 := by
  have HT := Lib.hid ht
  have HEV := Lib.hid hg
  clear ht hg
  obtain ⟨a1, a2, a3, a4, a5, a6, a7⟩ := all_whole hp
  have g1 := gaps_set hp
  have hw := whole_norm (freeFault_zero.1 hp).1
  obtain ⟨WH, hWH⟩ : ∃ WH, WH = [(p.1, lastP p)] := ⟨_, rfl⟩
  obtain ⟨TK, hTK⟩ : ∃ TK, TK = norm (spansP l) := ⟨_, rfl⟩
  obtain ⟨GP, hGP⟩ : ∃ GP, GP = gapsL p l := ⟨_, rfl⟩
  rw [← hWH, ← hTK] at a1 a2 a5
  rw [← hWH] at a3 hw
  rw [← hTK] at a4
  rw [← hGP] at a1 a2 g1
  obtain ⟨IN, hIN⟩ : ∃ IN, IN = common WH TK := ⟨_, rfl⟩
  rw [← hIN] at a1 a2 a5
  have hWm : WH.length ≤ maxLen := by rw [hWH]; simp [maxLen]
  have hTm : TK.length ≤ maxLen := by have := (set_good a4).1; unfold maxLen; omega
  have hIm : IN.length ≤ maxLen := by have := (set_good a5).1; unfold maxLen; omega
  have hGm : GP.length ≤ maxLen := by have := (set_good g1).1; unfold maxLen; omega
  have HM1 := Lib.hid (opFault_of a3 a4 (show (common WH TK).length ≤ 64 by rw [← hIN]; exact (set_good a5).1))
  have HM2 := Lib.hid (opFault_of a5 g1 (show (norm (IN ++ GP)).length ≤ 64 by rw [a1]; exact (set_good a3).1))
  have HM3 := Lib.hid (opFault_of a5 g1 (show (common IN GP).length ≤ 64 by rw [a2]; simp))
  have HF := Lib.hid hp
  have HS := Lib.hid a6
  have HSP := Lib.hid a7
  have HWH := Lib.hid hw
  have HTK := Lib.hid hTK
  have HGP := Lib.hid hGP
  have HIN := Lib.hid hIN
  have HUN := Lib.hid a1
  have HNO := Lib.hid a2
  clear hp a1 a2 a3 a4 a5 a6 a7 g1 hw hWH hTK hGP hIN
  obtain ⟨U, rfl, hB0, c0_0, c0_1⟩ := h0
  dsimp only [Tryd.f3, Option.getD, tailN, putN]
  have hs0 := hB0.size
  have l0_0a : w.heap.size < w0.heap.size := World.block_lt_of_cell? w0 _ c0_0
  have l0_0b : w.heap.size < w0.heap.size + 1 := Nat.lt_succ_of_lt l0_0a
  have l0_0c : w.heap.size < w0.heap.size + 1 + 1 := Nat.lt_succ_of_lt l0_0b
  have l0_0d : w.heap.size < w0.heap.size + 1 + 1 + 1 := Nat.lt_succ_of_lt l0_0c
  go_wp2_with fail
  refine (gapsP_ok p A l c hm HF.out _ ((hl.below (show Below w.heap.size w _ from (by first | exact hB0 | ((repeat' (first | exact hB0 | refine Below.setCell ?_ ?_ _ | refine Below.alloc ?_ ?_ _ | refine Below.drew ?_)) <;> (first | omega | (simp <;> omega)))))).more (show w.heap.size ≤ _ from by first | omega | (simp <;> omega)))).mono ?_
  rintro e w1 ⟨v1, rfl, hown1, hb1⟩
  have hB1 : Below w.heap.size w w1 := Below.trans (by first | exact hB0 | ((repeat' (first | exact hB0 | refine Below.setCell ?_ ?_ _ | refine Below.alloc ?_ ?_ _ | refine Below.drew ?_)) <;> (first | omega | (simp <;> omega)))) (hb1.mono (by first | omega | (simp <;> omega)))
  have hs1 : w.heap.size ≤ w1.heap.size := hB1.size
  have ht1 := hb1.size
  try simp only [World.size_alloc, World.size_setCell] at ht1
  have c1_0 : w1.cell? ⟨w.heap.size, 0, none⟩ = some (.int .i64 p.1) := (hb1.cell (p := ⟨w.heap.size, 0, none⟩) (by first | omega | (simp <;> omega))).trans (by first | exact c0_0 | simp [go_sem, c0_0, l0_0a, l0_0b, l0_0c, l0_0d])
  have c1_1 : w1.cell? ⟨w.heap.size, 1, none⟩ = some (.int .i64 p.2) := (hb1.cell (p := ⟨w.heap.size, 1, none⟩) (by first | omega | (simp <;> omega))).trans (by first | exact c0_1 | simp [go_sem, c0_1, l0_0a, l0_0b, l0_0c, l0_0d])
  have l1_0a : w.heap.size < w1.heap.size := World.block_lt_of_cell? w1 _ c1_0
  have l1_0b : w.heap.size < w1.heap.size + 1 := Nat.lt_succ_of_lt l1_0a
  have l1_0c : w.heap.size < w1.heap.size + 1 + 1 := Nat.lt_succ_of_lt l1_0b
  have l1_0d : w.heap.size < w1.heap.size + 1 + 1 + 1 := Nat.lt_succ_of_lt l1_0c
  clear c0_0 c0_1 l0_0a l0_0b l0_0c l0_0d hB0 hb1
  rw [← HGP.out] at hown1
  obtain ⟨A1, c1, rfl, hr1⟩ := hown1.form
  clear hown1
  go_wp2_with fail
  refine (spansP_ok A l c hm HS.out _ ((hl.below (show Below w.heap.size w _ from (by first | exact hB1 | ((repeat' (first | exact hB1 | refine Below.setCell ?_ ?_ _ | refine Below.alloc ?_ ?_ _ | refine Below.drew ?_)) <;> (first | omega | (simp <;> omega)))))).more (show w.heap.size ≤ _ from by first | omega | (simp <;> omega)))).mono ?_
  rintro e w2 ⟨v2, rfl, hown2, hb2⟩
  have hB2 : Below w.heap.size w w2 := Below.trans (by first | exact hB1 | ((repeat' (first | exact hB1 | refine Below.setCell ?_ ?_ _ | refine Below.alloc ?_ ?_ _ | refine Below.drew ?_)) <;> (first | omega | (simp <;> omega)))) (hb2.mono (by first | omega | (simp <;> omega)))
  have hs2 : w.heap.size ≤ w2.heap.size := hB2.size
  have ht2 := hb2.size
  try simp only [World.size_alloc, World.size_setCell] at ht2
  have c2_0 : w2.cell? ⟨w.heap.size, 0, none⟩ = some (.int .i64 p.1) := (hb2.cell (p := ⟨w.heap.size, 0, none⟩) (by first | omega | (simp <;> omega))).trans (by first | exact c1_0 | simp [go_sem, c1_0, l1_0a, l1_0b, l1_0c, l1_0d])
  have c2_1 : w2.cell? ⟨w.heap.size, 1, none⟩ = some (.int .i64 p.2) := (hb2.cell (p := ⟨w.heap.size, 1, none⟩) (by first | omega | (simp <;> omega))).trans (by first | exact c1_1 | simp [go_sem, c1_1, l1_0a, l1_0b, l1_0c, l1_0d])
  have l2_0a : w.heap.size < w2.heap.size := World.block_lt_of_cell? w2 _ c2_0
  have l2_0b : w.heap.size < w2.heap.size + 1 := Nat.lt_succ_of_lt l2_0a
  have l2_0c : w.heap.size < w2.heap.size + 1 + 1 := Nat.lt_succ_of_lt l2_0b
  have l2_0d : w.heap.size < w2.heap.size + 1 + 1 + 1 := Nat.lt_succ_of_lt l2_0c
  have hkw1_2 : Below w1.heap.size w1 w2 := Below.trans (by first | exact Below.refl _ _ | ((repeat' (first | exact Below.refl _ _ | refine Below.setCell ?_ ?_ _ | refine Below.alloc ?_ ?_ _ | refine Below.drew ?_)) <;> (first | omega | (simp <;> omega)))) (hb2.mono (by first | omega | (simp <;> omega)))
  clear c1_0 c1_1 l1_0a l1_0b l1_0c l1_0d hB1 hb2
  rw [← HTK.out] at hown2
  obtain ⟨A2, c2, rfl, hr2⟩ := hown2.form
  clear hown2
  go_wp2_with fail
  have hone := rd_new w2 [p] #[.int .i64 p.1, .int .i64 p.2] 23 _ rfl rfl
  refine (spansP_ok (some ⟨w2.heap.size, 0, none⟩) [p] 1 (by simp [maxLen]) HSP.out _ hone).mono ?_
  rintro e w3 ⟨v3, rfl, hown3, hb3⟩
  have hB3 : Below w.heap.size w w3 := Below.trans (by first | exact hB2 | ((repeat' (first | exact hB2 | refine Below.setCell ?_ ?_ _ | refine Below.alloc ?_ ?_ _ | refine Below.drew ?_)) <;> (first | omega | (simp <;> omega)))) (hb3.mono (by first | omega | (simp <;> omega)))
  have hs3 : w.heap.size ≤ w3.heap.size := hB3.size
  have ht3 := hb3.size
  try simp only [World.size_alloc, World.size_setCell] at ht3
  have c3_0 : w3.cell? ⟨w.heap.size, 0, none⟩ = some (.int .i64 p.1) := (hb3.cell (p := ⟨w.heap.size, 0, none⟩) (by first | omega | (simp <;> omega))).trans (by first | exact c2_0 | simp [go_sem, c2_0, l2_0a, l2_0b, l2_0c, l2_0d])
  have c3_1 : w3.cell? ⟨w.heap.size, 1, none⟩ = some (.int .i64 p.2) := (hb3.cell (p := ⟨w.heap.size, 1, none⟩) (by first | omega | (simp <;> omega))).trans (by first | exact c2_1 | simp [go_sem, c2_1, l2_0a, l2_0b, l2_0c, l2_0d])
  have l3_0a : w.heap.size < w3.heap.size := World.block_lt_of_cell? w3 _ c3_0
  have l3_0b : w.heap.size < w3.heap.size + 1 := Nat.lt_succ_of_lt l3_0a
  have l3_0c : w.heap.size < w3.heap.size + 1 + 1 := Nat.lt_succ_of_lt l3_0b
  have l3_0d : w.heap.size < w3.heap.size + 1 + 1 + 1 := Nat.lt_succ_of_lt l3_0c
  have hkw1_3 : Below w1.heap.size w1 w3 := Below.trans (by first | exact hkw1_2 | ((repeat' (first | exact hkw1_2 | refine Below.setCell ?_ ?_ _ | refine Below.alloc ?_ ?_ _ | refine Below.drew ?_)) <;> (first | omega | (simp <;> omega)))) (hb3.mono (by first | omega | (simp <;> omega)))
  have hkw2_3 : Below w2.heap.size w2 w3 := Below.trans (by first | exact Below.refl _ _ | ((repeat' (first | exact Below.refl _ _ | refine Below.setCell ?_ ?_ _ | refine Below.alloc ?_ ?_ _ | refine Below.drew ?_)) <;> (first | omega | (simp <;> omega)))) (hb3.mono (by first | omega | (simp <;> omega)))
  clear c2_0 c2_1 l2_0a l2_0b l2_0c l2_0d hkw1_2 hB2 hb3
  rw [HWH.out] at hown3
  obtain ⟨A3, c3, rfl, hr3⟩ := hown3.form
  clear hown3
  clear hone
  go_wp2_with fail
  refine (meet_ok A3 A2 WH TK c3 c2 hWm hTm HM1.out _ ((hr3.below (show Below w3.heap.size w3 _ from (by first | exact Below.refl _ _ | ((repeat' (first | exact Below.refl _ _ | refine Below.setCell ?_ ?_ _ | refine Below.alloc ?_ ?_ _ | refine Below.drew ?_)) <;> (first | omega | (simp <;> omega)))))).more (show w3.heap.size ≤ _ from by first | omega | (simp <;> omega))) ((hr2.below (show Below w2.heap.size w2 _ from (by first | exact hkw2_3 | ((repeat' (first | exact hkw2_3 | refine Below.setCell ?_ ?_ _ | refine Below.alloc ?_ ?_ _ | refine Below.drew ?_)) <;> (first | omega | (simp <;> omega)))))).more (show w2.heap.size ≤ _ from by first | omega | (simp <;> omega)))).mono ?_
  rintro e w4 ⟨v4, rfl, hown4, hb4⟩
  have hB4 : Below w.heap.size w w4 := Below.trans (by first | exact hB3 | ((repeat' (first | exact hB3 | refine Below.setCell ?_ ?_ _ | refine Below.alloc ?_ ?_ _ | refine Below.drew ?_)) <;> (first | omega | (simp <;> omega)))) (hb4.mono (by first | omega | (simp <;> omega)))
  have hs4 : w.heap.size ≤ w4.heap.size := hB4.size
  have ht4 := hb4.size
  try simp only [World.size_alloc, World.size_setCell] at ht4
  have c4_0 : w4.cell? ⟨w.heap.size, 0, none⟩ = some (.int .i64 p.1) := (hb4.cell (p := ⟨w.heap.size, 0, none⟩) (by first | omega | (simp <;> omega))).trans (by first | exact c3_0 | simp [go_sem, c3_0, l3_0a, l3_0b, l3_0c, l3_0d])
  have c4_1 : w4.cell? ⟨w.heap.size, 1, none⟩ = some (.int .i64 p.2) := (hb4.cell (p := ⟨w.heap.size, 1, none⟩) (by first | omega | (simp <;> omega))).trans (by first | exact c3_1 | simp [go_sem, c3_1, l3_0a, l3_0b, l3_0c, l3_0d])
  have l4_0a : w.heap.size < w4.heap.size := World.block_lt_of_cell? w4 _ c4_0
  have l4_0b : w.heap.size < w4.heap.size + 1 := Nat.lt_succ_of_lt l4_0a
  have l4_0c : w.heap.size < w4.heap.size + 1 + 1 := Nat.lt_succ_of_lt l4_0b
  have l4_0d : w.heap.size < w4.heap.size + 1 + 1 + 1 := Nat.lt_succ_of_lt l4_0c
  have hkw1_4 : Below w1.heap.size w1 w4 := Below.trans (by first | exact hkw1_3 | ((repeat' (first | exact hkw1_3 | refine Below.setCell ?_ ?_ _ | refine Below.alloc ?_ ?_ _ | refine Below.drew ?_)) <;> (first | omega | (simp <;> omega)))) (hb4.mono (by first | omega | (simp <;> omega)))
  have hkw2_4 : Below w2.heap.size w2 w4 := Below.trans (by first | exact hkw2_3 | ((repeat' (first | exact hkw2_3 | refine Below.setCell ?_ ?_ _ | refine Below.alloc ?_ ?_ _ | refine Below.drew ?_)) <;> (first | omega | (simp <;> omega)))) (hb4.mono (by first | omega | (simp <;> omega)))
  have hkw3_4 : Below w3.heap.size w3 w4 := Below.trans (by first | exact Below.refl _ _ | ((repeat' (first | exact Below.refl _ _ | refine Below.setCell ?_ ?_ _ | refine Below.alloc ?_ ?_ _ | refine Below.drew ?_)) <;> (first | omega | (simp <;> omega)))) (hb4.mono (by first | omega | (simp <;> omega)))
  clear c3_0 c3_1 l3_0a l3_0b l3_0c l3_0d hkw1_3 hkw2_3 hB3 hb4
  rw [← HIN.out] at hown4
  obtain ⟨A4, c4, rfl, hr4⟩ := hown4.form
  clear hown4
  go_wp2_with fail
  refine (union_ok A4 A1 IN GP c4 c1 hIm hGm HM2.out _ ((hr4.below (show Below w4.heap.size w4 _ from (by first | exact Below.refl _ _ | ((repeat' (first | exact Below.refl _ _ | refine Below.setCell ?_ ?_ _ | refine Below.alloc ?_ ?_ _ | refine Below.drew ?_)) <;> (first | omega | (simp <;> omega)))))).more (show w4.heap.size ≤ _ from by first | omega | (simp <;> omega))) ((hr1.below (show Below w1.heap.size w1 _ from (by first | exact hkw1_4 | ((repeat' (first | exact hkw1_4 | refine Below.setCell ?_ ?_ _ | refine Below.alloc ?_ ?_ _ | refine Below.drew ?_)) <;> (first | omega | (simp <;> omega)))))).more (show w1.heap.size ≤ _ from by first | omega | (simp <;> omega)))).mono ?_
  rintro e w5 ⟨v5, rfl, hown5, hb5⟩
  have hB5 : Below w.heap.size w w5 := Below.trans (by first | exact hB4 | ((repeat' (first | exact hB4 | refine Below.setCell ?_ ?_ _ | refine Below.alloc ?_ ?_ _ | refine Below.drew ?_)) <;> (first | omega | (simp <;> omega)))) (hb5.mono (by first | omega | (simp <;> omega)))
  have hs5 : w.heap.size ≤ w5.heap.size := hB5.size
  have ht5 := hb5.size
  try simp only [World.size_alloc, World.size_setCell] at ht5
  have c5_0 : w5.cell? ⟨w.heap.size, 0, none⟩ = some (.int .i64 p.1) := (hb5.cell (p := ⟨w.heap.size, 0, none⟩) (by first | omega | (simp <;> omega))).trans (by first | exact c4_0 | simp [go_sem, c4_0, l4_0a, l4_0b, l4_0c, l4_0d])
  have c5_1 : w5.cell? ⟨w.heap.size, 1, none⟩ = some (.int .i64 p.2) := (hb5.cell (p := ⟨w.heap.size, 1, none⟩) (by first | omega | (simp <;> omega))).trans (by first | exact c4_1 | simp [go_sem, c4_1, l4_0a, l4_0b, l4_0c, l4_0d])
  have l5_0a : w.heap.size < w5.heap.size := World.block_lt_of_cell? w5 _ c5_0
  have l5_0b : w.heap.size < w5.heap.size + 1 := Nat.lt_succ_of_lt l5_0a
  have l5_0c : w.heap.size < w5.heap.size + 1 + 1 := Nat.lt_succ_of_lt l5_0b
  have l5_0d : w.heap.size < w5.heap.size + 1 + 1 + 1 := Nat.lt_succ_of_lt l5_0c
  have hkw1_5 : Below w1.heap.size w1 w5 := Below.trans (by first | exact hkw1_4 | ((repeat' (first | exact hkw1_4 | refine Below.setCell ?_ ?_ _ | refine Below.alloc ?_ ?_ _ | refine Below.drew ?_)) <;> (first | omega | (simp <;> omega)))) (hb5.mono (by first | omega | (simp <;> omega)))
  have hkw2_5 : Below w2.heap.size w2 w5 := Below.trans (by first | exact hkw2_4 | ((repeat' (first | exact hkw2_4 | refine Below.setCell ?_ ?_ _ | refine Below.alloc ?_ ?_ _ | refine Below.drew ?_)) <;> (first | omega | (simp <;> omega)))) (hb5.mono (by first | omega | (simp <;> omega)))
  have hkw3_5 : Below w3.heap.size w3 w5 := Below.trans (by first | exact hkw3_4 | ((repeat' (first | exact hkw3_4 | refine Below.setCell ?_ ?_ _ | refine Below.alloc ?_ ?_ _ | refine Below.drew ?_)) <;> (first | omega | (simp <;> omega)))) (hb5.mono (by first | omega | (simp <;> omega)))
  have hkw4_5 : Below w4.heap.size w4 w5 := Below.trans (by first | exact Below.refl _ _ | ((repeat' (first | exact Below.refl _ _ | refine Below.setCell ?_ ?_ _ | refine Below.alloc ?_ ?_ _ | refine Below.drew ?_)) <;> (first | omega | (simp <;> omega)))) (hb5.mono (by first | omega | (simp <;> omega)))
  clear c4_0 c4_1 l4_0a l4_0b l4_0c l4_0d hkw1_4 hkw2_4 hkw3_4 hB4 hb5
  rw [HUN.out] at hown5
  obtain ⟨A5, c5, rfl, hr5⟩ := hown5.form
  clear hown5
  go_wp2_with fail
  refine (meet_ok A4 A1 IN GP c4 c1 hIm hGm HM3.out _ ((hr4.below (show Below w4.heap.size w4 _ from (by first | exact hkw4_5 | ((repeat' (first | exact hkw4_5 | refine Below.setCell ?_ ?_ _ | refine Below.alloc ?_ ?_ _ | refine Below.drew ?_)) <;> (first | omega | (simp <;> omega)))))).more (show w4.heap.size ≤ _ from by first | omega | (simp <;> omega))) ((hr1.below (show Below w1.heap.size w1 _ from (by first | exact hkw1_5 | ((repeat' (first | exact hkw1_5 | refine Below.setCell ?_ ?_ _ | refine Below.alloc ?_ ?_ _ | refine Below.drew ?_)) <;> (first | omega | (simp <;> omega)))))).more (show w1.heap.size ≤ _ from by first | omega | (simp <;> omega)))).mono ?_
  rintro e w6 ⟨v6, rfl, hown6, hb6⟩
  have hB6 : Below w.heap.size w w6 := Below.trans (by first | exact hB5 | ((repeat' (first | exact hB5 | refine Below.setCell ?_ ?_ _ | refine Below.alloc ?_ ?_ _ | refine Below.drew ?_)) <;> (first | omega | (simp <;> omega)))) (hb6.mono (by first | omega | (simp <;> omega)))
  have hs6 : w.heap.size ≤ w6.heap.size := hB6.size
  have ht6 := hb6.size
  try simp only [World.size_alloc, World.size_setCell] at ht6
  have c6_0 : w6.cell? ⟨w.heap.size, 0, none⟩ = some (.int .i64 p.1) := (hb6.cell (p := ⟨w.heap.size, 0, none⟩) (by first | omega | (simp <;> omega))).trans (by first | exact c5_0 | simp [go_sem, c5_0, l5_0a, l5_0b, l5_0c, l5_0d])
  have c6_1 : w6.cell? ⟨w.heap.size, 1, none⟩ = some (.int .i64 p.2) := (hb6.cell (p := ⟨w.heap.size, 1, none⟩) (by first | omega | (simp <;> omega))).trans (by first | exact c5_1 | simp [go_sem, c5_1, l5_0a, l5_0b, l5_0c, l5_0d])
  have l6_0a : w.heap.size < w6.heap.size := World.block_lt_of_cell? w6 _ c6_0
  have l6_0b : w.heap.size < w6.heap.size + 1 := Nat.lt_succ_of_lt l6_0a
  have l6_0c : w.heap.size < w6.heap.size + 1 + 1 := Nat.lt_succ_of_lt l6_0b
  have l6_0d : w.heap.size < w6.heap.size + 1 + 1 + 1 := Nat.lt_succ_of_lt l6_0c
  have hkw1_6 : Below w1.heap.size w1 w6 := Below.trans (by first | exact hkw1_5 | ((repeat' (first | exact hkw1_5 | refine Below.setCell ?_ ?_ _ | refine Below.alloc ?_ ?_ _ | refine Below.drew ?_)) <;> (first | omega | (simp <;> omega)))) (hb6.mono (by first | omega | (simp <;> omega)))
  have hkw2_6 : Below w2.heap.size w2 w6 := Below.trans (by first | exact hkw2_5 | ((repeat' (first | exact hkw2_5 | refine Below.setCell ?_ ?_ _ | refine Below.alloc ?_ ?_ _ | refine Below.drew ?_)) <;> (first | omega | (simp <;> omega)))) (hb6.mono (by first | omega | (simp <;> omega)))
  have hkw3_6 : Below w3.heap.size w3 w6 := Below.trans (by first | exact hkw3_5 | ((repeat' (first | exact hkw3_5 | refine Below.setCell ?_ ?_ _ | refine Below.alloc ?_ ?_ _ | refine Below.drew ?_)) <;> (first | omega | (simp <;> omega)))) (hb6.mono (by first | omega | (simp <;> omega)))
  have hkw4_6 : Below w4.heap.size w4 w6 := Below.trans (by first | exact hkw4_5 | ((repeat' (first | exact hkw4_5 | refine Below.setCell ?_ ?_ _ | refine Below.alloc ?_ ?_ _ | refine Below.drew ?_)) <;> (first | omega | (simp <;> omega)))) (hb6.mono (by first | omega | (simp <;> omega)))
  have hkw5_6 : Below w5.heap.size w5 w6 := Below.trans (by first | exact Below.refl _ _ | ((repeat' (first | exact Below.refl _ _ | refine Below.setCell ?_ ?_ _ | refine Below.alloc ?_ ?_ _ | refine Below.drew ?_)) <;> (first | omega | (simp <;> omega)))) (hb6.mono (by first | omega | (simp <;> omega)))
  clear c5_0 c5_1 l5_0a l5_0b l5_0c l5_0d hkw1_5 hkw2_5 hkw3_5 hkw4_5 hB5 hb6
  rw [HNO.out] at hown6
  obtain ⟨A6, c6, rfl, hr6⟩ := hown6.form
  clear hown6
  go_wp2_with fail
  refine (spans_same A5 A3 WH WH WH.length WH.length c5 c3 rfl rfl hWm rfl _ ((hr5.below (show Below w5.heap.size w5 _ from (by first | exact hkw5_6 | ((repeat' (first | exact hkw5_6 | refine Below.setCell ?_ ?_ _ | refine Below.alloc ?_ ?_ _ | refine Below.drew ?_)) <;> (first | omega | (simp <;> omega)))))).more (show w5.heap.size ≤ _ from by first | omega | (simp <;> omega))) ((hr3.below (show Below w3.heap.size w3 _ from (by first | exact hkw3_6 | ((repeat' (first | exact hkw3_6 | refine Below.setCell ?_ ?_ _ | refine Below.alloc ?_ ?_ _ | refine Below.drew ?_)) <;> (first | omega | (simp <;> omega)))))).more (show w3.heap.size ≤ _ from by first | omega | (simp <;> omega)))).mono ?_
  rintro e w7 ⟨rfl, hb7⟩
  have hB7 : Below w.heap.size w w7 := Below.trans (by first | exact hB6 | ((repeat' (first | exact hB6 | refine Below.setCell ?_ ?_ _ | refine Below.alloc ?_ ?_ _ | refine Below.drew ?_)) <;> (first | omega | (simp <;> omega)))) (hb7.mono (by first | omega | (simp <;> omega)))
  have hs7 : w.heap.size ≤ w7.heap.size := hB7.size
  have ht7 := hb7.size
  try simp only [World.size_alloc, World.size_setCell] at ht7
  have c7_0 : w7.cell? ⟨w.heap.size, 0, none⟩ = some (.int .i64 p.1) := (hb7.cell (p := ⟨w.heap.size, 0, none⟩) (by first | omega | (simp <;> omega))).trans (by first | exact c6_0 | simp [go_sem, c6_0, l6_0a, l6_0b, l6_0c, l6_0d])
  have c7_1 : w7.cell? ⟨w.heap.size, 1, none⟩ = some (.int .i64 p.2) := (hb7.cell (p := ⟨w.heap.size, 1, none⟩) (by first | omega | (simp <;> omega))).trans (by first | exact c6_1 | simp [go_sem, c6_1, l6_0a, l6_0b, l6_0c, l6_0d])
  have l7_0a : w.heap.size < w7.heap.size := World.block_lt_of_cell? w7 _ c7_0
  have l7_0b : w.heap.size < w7.heap.size + 1 := Nat.lt_succ_of_lt l7_0a
  have l7_0c : w.heap.size < w7.heap.size + 1 + 1 := Nat.lt_succ_of_lt l7_0b
  have l7_0d : w.heap.size < w7.heap.size + 1 + 1 + 1 := Nat.lt_succ_of_lt l7_0c
  have hkw1_7 : Below w1.heap.size w1 w7 := Below.trans (by first | exact hkw1_6 | ((repeat' (first | exact hkw1_6 | refine Below.setCell ?_ ?_ _ | refine Below.alloc ?_ ?_ _ | refine Below.drew ?_)) <;> (first | omega | (simp <;> omega)))) (hb7.mono (by first | omega | (simp <;> omega)))
  have hkw2_7 : Below w2.heap.size w2 w7 := Below.trans (by first | exact hkw2_6 | ((repeat' (first | exact hkw2_6 | refine Below.setCell ?_ ?_ _ | refine Below.alloc ?_ ?_ _ | refine Below.drew ?_)) <;> (first | omega | (simp <;> omega)))) (hb7.mono (by first | omega | (simp <;> omega)))
  have hkw3_7 : Below w3.heap.size w3 w7 := Below.trans (by first | exact hkw3_6 | ((repeat' (first | exact hkw3_6 | refine Below.setCell ?_ ?_ _ | refine Below.alloc ?_ ?_ _ | refine Below.drew ?_)) <;> (first | omega | (simp <;> omega)))) (hb7.mono (by first | omega | (simp <;> omega)))
  have hkw4_7 : Below w4.heap.size w4 w7 := Below.trans (by first | exact hkw4_6 | ((repeat' (first | exact hkw4_6 | refine Below.setCell ?_ ?_ _ | refine Below.alloc ?_ ?_ _ | refine Below.drew ?_)) <;> (first | omega | (simp <;> omega)))) (hb7.mono (by first | omega | (simp <;> omega)))
  have hkw5_7 : Below w5.heap.size w5 w7 := Below.trans (by first | exact hkw5_6 | ((repeat' (first | exact hkw5_6 | refine Below.setCell ?_ ?_ _ | refine Below.alloc ?_ ?_ _ | refine Below.drew ?_)) <;> (first | omega | (simp <;> omega)))) (hb7.mono (by first | omega | (simp <;> omega)))
  clear c6_0 c6_1 l6_0a l6_0b l6_0c l6_0d hkw1_6 hkw2_6 hkw3_6 hkw4_6 hkw5_6 hB6 hb7
  go_wp2
  go_ret
  exact ⟨rfl, (by first | exact hB7 | ((repeat' (first | exact hB7 | refine Below.setCell ?_ ?_ _ | refine Below.alloc ?_ ?_ _ | refine Below.drew ?_)) <;> (first | omega | (simp <;> omega))))⟩

theorem freeFits_walk (x y : Int) (A : Option Addr) (l : List Pf) (c : Nat) (hm : l.length ≤ maxLen) (n : Int) (_ : (Lit.int .i64 n).wf = true) (w : World) (hg : ErrVar w) (ht : TabVar w) (hl : Rd w w.heap.size A (cellsP l)) :
    Calls Tryd.prog 3 #[.agg #[.int .i64 x, .int .i64 y], .slice A l.length c, .int .i64 n] w fun e w' => e = .returned (.bool true) ∧ Below w.heap.size w w' := by
  refine freeFits_1 (x, y) A l c n hm w ht hg hl _ fun s1 w1 h1 => ?_
  by_cases hs : greatFault (x, y) l n = 0
  · refine freeFits_2b (x, y) A l c n hm w ht hg hl hs _ s1 w1 h1 fun s2 w2 h2 => ?_
    cases hgl : greatL (x, y) l n with
    | nil => exact freeFits_3a (x, y) A l c n hm w ht hg hl hs hgl s2 w2 h2
    | cons b r =>
      exact freeFits_3b (x, y) A l c n hm w ht hg hl b r hs hgl _ s2 w2 h2 fun s3 w3 h3 =>
        freeFits_4 (x, y) A l c n hm w ht hg hl b r hs hgl _ s3 w3 h3 fun s4 w4 h4 =>
          freeFits_5 (x, y) A l c n hm w ht hg hl (greatFault_zero.1 hs).1 s4 w4 h4
  · exact freeFits_2a (x, y) A l c n hm w ht hg hl hs s1 w1 h1
end Go.Proofs.YtobmndjdlmeipaaDoor
