/- The reference BelowOf: those below, and within no other such one. Any list that may be. (Printed by genbelow.py.) -/
import Derived.Test.YtcgeagobndhpjaaDoorRefTree3
namespace Go.Proofs.YtcgeagobndhpjaaDoor
set_option linter.unusedVariables false
set_option linter.unusedSimpArgs false
open Go.RowKit

def hidG (p : Pf) (al : Bool) (x c : Pf) : Bool := (decide (c ≠ x) && inQ x c) && (al || belowOf p c)
theorem hidG_eq (p : Pf) (al : Bool) (x c : Pf) : hidG p al x c = ((!decide (c = x) && inQ x c) && (al || (!decide (c = p) && inQ c p))) := by
  unfold hidG belowOf
  rw [decide_not, decide_not]
def keepB (l : List Pf) (p : Pf) (al : Bool) (x : Pf) : Bool := (al || belowOf p x) && !(l.any (hidG p al x))
theorem belowRef_keep (l : List Pf) (p : Pf) (al : Bool) : belowRef l p al = l.filter (keepB l p al) := rfl
theorem belowOf_eq (p x : Pf) : belowOf p x = (!decide (x = p) && inQ x p) := by
  unfold belowOf
  rw [decide_not]
theorem any_snoc {α : Type} (g : α → Bool) (l : List α) (j : Nat) (h : j < l.length) : (l.take (j + 1)).any g = ((l.take j).any g || g l[j]) := by
  rw [List.take_succ_eq_append_getElem h, List.any_append]
  simp

set_option maxRecDepth 100000 in
set_option maxHeartbeats 4000000 in
theorem belowRef_T (A : Option Addr) (l : List Pf) (c : Nat) (p : Pf) (ht : treeFault l = 0) (w : World) (hl : Rd w w.heap.size A (cellsP l)) :
    Calls Tryd.prog 42 #[.slice A l.length c, .agg #[.int .i64 p.1, .int .i64 p.2], .bool true] w (OwnRes 23 w (belowRef l p true)) := by
  obtain ⟨g1, g2, g3⟩ := tree_good ht
  have HV := Lib.hid g2
  have hb0 := (Below.refl w.heap.size w).alloc (Nat.le_refl _) (.cells #[.int .i64 p.1, .int .i64 p.2] 23)
  have hB0 := Blk.new w 23 #[.int .i64 p.1, .int .i64 p.2]
  have hnil := OwnP.nil (w.alloc (.cells #[.int .i64 p.1, .int .i64 p.2] 23)) (w.heap.size + 1) 23
  have HE := Lib.hid (belowRef_keep l p true)
  clear g2 g3 ht
  go_enter Tryd.func42, Tryd.ntmps42
  go_wp2
  go_loopw [7, 8, 9, 10, 11] (fun v i _ _ _ wr => ∃ k : Nat, k ≤ l.length ∧ i = .int .i64 k ∧ Below w.heap.size w wr ∧ Blk wr w.heap.size 23 #[.int .i64 p.1, .int .i64 p.2] ∧ OwnP wr (w.heap.size + 1) 23 v ((l.take k).filter (keepB l p true))) (fun _ i _ _ _ _ => l.length - (intOf i).toNat)
  case atStart => exact ⟨0, Nat.zero_le _, rfl, hb0, hB0, hnil⟩
  case round =>
    obtain ⟨k, hk, rfl, hb, hB, hown⟩ := hrel
    have hs := hb.size
    obtain ⟨c0, c1, _⟩ := hB.two
    by_cases hlt : k < l.length
    · obtain ⟨b, off, rfl, hbb, d0, d1⟩ := (hl.below hb).pair hlt
      have HCk := Lib.hid (HV.out l[k] (List.getElem_mem _))
      have HS := Lib.hid (takeFilter_snoc (keepB l p true) l k hlt)
      have hfl : ((l.take k).filter (keepB l p true)).length ≤ k := Nat.le_trans (List.length_filter_le _ _) (List.length_take_le _ _)
      obtain ⟨wo, rfl⟩ : ∃ wo : World, wo = wr := ⟨_, rfl⟩
      have k0 : ∀ x : BelW wo.heap.size wo, x.1.cell? ⟨w.heap.size, 0, none⟩ = some (.int .i64 p.1) := BelW.cell c0 (World.block_lt_of_cell? wo _ c0)
      have k1 : ∀ x : BelW wo.heap.size wo, x.1.cell? ⟨w.heap.size, 1, none⟩ = some (.int .i64 p.2) := BelW.cell c1 (World.block_lt_of_cell? wo _ c1)
      have k2 : ∀ x : BelW wo.heap.size wo, x.1.cell? ⟨b, off + k * 2, none⟩ = some (.int .i64 l[k].1) := BelW.cell d0 (World.block_lt_of_cell? wo _ d0)
      have k3 : ∀ x : BelW wo.heap.size wo, x.1.cell? ⟨b, off + k * 2 + 1, none⟩ = some (.int .i64 l[k].2) := BelW.cell d1 (World.block_lt_of_cell? wo _ d1)
      go_wp2_with fail
      refine wp_region_bel wo.heap.size wo (by kernel_rfl) (by kernel_rfl) (Below.refl _ _) ?_
      repeat (go_big_quiet_step (fail))
      refine wpQuiet_nil ?_
      intro w3 hb2
      clear k0 k1 k2 k3 c0 c1 d0 d1
      have hB3 := hB.below hb2 hB.lt
      have hown3 := hown.below hb2
      have hbx3 := hb.trans (hb2.mono hs)
      have hs3 := hbx3.size
      clear hb2 hB hown hb hs
      go_wp2
      go_loopw [9, 10, 11] (fun h i _ wr => ∃ j : Nat, j ≤ l.length ∧ i = .int .i64 j ∧ ∃ hv : Bool, h = .bool hv ∧ (l.take j).any (hidG p true l[k]) = hv ∧ Below w.heap.size w wr ∧ Below w3.heap.size w3 wr ∧ Blk wr w.heap.size 23 #[.int .i64 p.1, .int .i64 p.2]) (fun _ i _ _ => l.length - (intOf i).toNat)
      case atStart => exact ⟨0, Nat.zero_le _, rfl, false, rfl, rfl, hbx3, Below.refl _ _, hB3⟩
      case round =>
        obtain ⟨j, hj, rfl, hv, rfl, hany, hbx, hb3, hBx⟩ := hrel
        have hsx := hbx.size
        have hsy := hb3.size
        have HA := Lib.hid hany
        clear hany
        obtain ⟨b3, off3, he2, _, n0, n1⟩ := (hl.below hbx).pair hlt
        obtain ⟨rfl, rfl⟩ : b = b3 ∧ off = off3 := by simpa using he2
        clear he2
        by_cases hjt : j < l.length
        · obtain ⟨q0, q1, _⟩ := hBx.two
          obtain ⟨b2, off2, he, _, m0, m1⟩ := (hl.below hbx).pair hjt
          obtain ⟨rfl, rfl⟩ : b = b2 ∧ off = off2 := by simpa using he
          clear he
          have HCj := Lib.hid (HV.out l[j] (List.getElem_mem _))
          have HSN := Lib.hid (any_snoc (hidG p true l[k]) l j hjt)
          have k0 : ∀ x : BelW wr.heap.size wr, x.1.cell? ⟨w.heap.size, 0, none⟩ = some (.int .i64 p.1) := BelW.cell q0 (World.block_lt_of_cell? wr _ q0)
          have k1 : ∀ x : BelW wr.heap.size wr, x.1.cell? ⟨w.heap.size, 1, none⟩ = some (.int .i64 p.2) := BelW.cell q1 (World.block_lt_of_cell? wr _ q1)
          have k2 : ∀ x : BelW wr.heap.size wr, x.1.cell? ⟨b, off + j * 2, none⟩ = some (.int .i64 l[j].1) := BelW.cell m0 (World.block_lt_of_cell? wr _ m0)
          have k3 : ∀ x : BelW wr.heap.size wr, x.1.cell? ⟨b, off + j * 2 + 1, none⟩ = some (.int .i64 l[j].2) := BelW.cell m1 (World.block_lt_of_cell? wr _ m1)
          have k4 : ∀ x : BelW wr.heap.size wr, x.1.cell? ⟨b, off + k * 2, none⟩ = some (.int .i64 l[k].1) := BelW.cell n0 (World.block_lt_of_cell? wr _ n0)
          have k5 : ∀ x : BelW wr.heap.size wr, x.1.cell? ⟨b, off + k * 2 + 1, none⟩ = some (.int .i64 l[k].2) := BelW.cell n1 (World.block_lt_of_cell? wr _ n1)
          obtain ⟨s1, hs1⟩ : ∃ s, decide (l[j] = l[k]) = s := ⟨_, rfl⟩
          obtain ⟨i1, hi1⟩ : ∃ i, inQ l[k] l[j] = i := ⟨_, rfl⟩
          have HS1 := Lib.hid hs1
          have HI1 := Lib.hid hi1
          clear hs1 hi1
          cases hv
          · cases s1
            · cases i1
              · skip
                go_wp2_with fail
                refine wp_region_bel wr.heap.size wr (by kernel_rfl) (by kernel_rfl) (Below.refl _ _) ?_
                repeat (go_big_quiet_step (first | (go_at_call 85; exact Calls.bel_of (Nat.le_refl _) (same_lit _ _ _ HS1.out _)) | (go_at_call 29; exact Calls.bel_of (Nat.le_refl _) (refIn_lit _ _ _ HCk.out HCj.out HI1.out _))))
                refine wpQuiet_nil ?_
                intro w4 hb4
                clear k0 k1 k2 k3 k4 k5
                have hs4 := hb4.size
                have r0 := (hb4.cell (p := ⟨w.heap.size, 0, none⟩) hBx.lt).trans q0
                have r1 := (hb4.cell (p := ⟨w.heap.size, 1, none⟩) hBx.lt).trans q1
                have s0 := (hb4.cell (p := ⟨b, off + j * 2, none⟩) (by simp; omega)).trans m0
                have s1' := (hb4.cell (p := ⟨b, off + j * 2 + 1, none⟩) (by simp; omega)).trans m1
                have k0 : ∀ x : BelW w4.heap.size w4, x.1.cell? ⟨w.heap.size, 0, none⟩ = some (.int .i64 p.1) := BelW.cell r0 (World.block_lt_of_cell? w4 _ r0)
                have k1 : ∀ x : BelW w4.heap.size w4, x.1.cell? ⟨w.heap.size, 1, none⟩ = some (.int .i64 p.2) := BelW.cell r1 (World.block_lt_of_cell? w4 _ r1)
                have k2 : ∀ x : BelW w4.heap.size w4, x.1.cell? ⟨b, off + j * 2, none⟩ = some (.int .i64 l[j].1) := BelW.cell s0 (World.block_lt_of_cell? w4 _ s0)
                have k3 : ∀ x : BelW w4.heap.size w4, x.1.cell? ⟨b, off + j * 2 + 1, none⟩ = some (.int .i64 l[j].2) := BelW.cell s1' (World.block_lt_of_cell? w4 _ s1')
                go_wp2_with fail
                refine wp_region_bel w4.heap.size w4 (by kernel_rfl) (by kernel_rfl) (Below.refl _ _) ?_
                repeat (go_big_quiet_step (fail))
                refine wpQuiet_nil ?_
                intro w5 hb5
                clear k0 k1 k2 k3 r0 r1 s0 s1' q0 q1 m0 m1 n0 n1
                go_wp2
                go_roundw
                case rel => exact ⟨j + 1, by omega, by go_num, false, rfl, by rw [HSN.out, HA.out, hidG_eq, HS1.out, HI1.out]; rfl, hbx.trans ((hb4.trans (hb5.mono hs4)).mono hsx), hb3.trans ((hb4.trans (hb5.mono hs4)).mono hsy), hBx.below (hb4.trans (hb5.mono hs4)) hBx.lt⟩
                case measure => simp [intOf]; omega
              · skip
                go_wp2_with fail
                refine wp_region_bel wr.heap.size wr (by kernel_rfl) (by kernel_rfl) (Below.refl _ _) ?_
                repeat (go_big_quiet_step (first | (go_at_call 85; exact Calls.bel_of (Nat.le_refl _) (same_lit _ _ _ HS1.out _)) | (go_at_call 29; exact Calls.bel_of (Nat.le_refl _) (refIn_lit _ _ _ HCk.out HCj.out HI1.out _))))
                refine wpQuiet_nil ?_
                intro w4 hb4
                clear k0 k1 k2 k3 k4 k5
                have hs4 := hb4.size
                have r0 := (hb4.cell (p := ⟨w.heap.size, 0, none⟩) hBx.lt).trans q0
                have r1 := (hb4.cell (p := ⟨w.heap.size, 1, none⟩) hBx.lt).trans q1
                have s0 := (hb4.cell (p := ⟨b, off + j * 2, none⟩) (by simp; omega)).trans m0
                have s1' := (hb4.cell (p := ⟨b, off + j * 2 + 1, none⟩) (by simp; omega)).trans m1
                have k0 : ∀ x : BelW w4.heap.size w4, x.1.cell? ⟨w.heap.size, 0, none⟩ = some (.int .i64 p.1) := BelW.cell r0 (World.block_lt_of_cell? w4 _ r0)
                have k1 : ∀ x : BelW w4.heap.size w4, x.1.cell? ⟨w.heap.size, 1, none⟩ = some (.int .i64 p.2) := BelW.cell r1 (World.block_lt_of_cell? w4 _ r1)
                have k2 : ∀ x : BelW w4.heap.size w4, x.1.cell? ⟨b, off + j * 2, none⟩ = some (.int .i64 l[j].1) := BelW.cell s0 (World.block_lt_of_cell? w4 _ s0)
                have k3 : ∀ x : BelW w4.heap.size w4, x.1.cell? ⟨b, off + j * 2 + 1, none⟩ = some (.int .i64 l[j].2) := BelW.cell s1' (World.block_lt_of_cell? w4 _ s1')
                go_wp2_with fail
                refine wp_region_bel w4.heap.size w4 (by kernel_rfl) (by kernel_rfl) (Below.refl _ _) ?_
                repeat (go_big_quiet_step (fail))
                refine wpQuiet_nil ?_
                intro w5 hb5
                clear k0 k1 k2 k3 r0 r1 s0 s1' q0 q1 m0 m1 n0 n1
                go_wp2
                go_roundw
                case rel => exact ⟨j + 1, by omega, by go_num, true, rfl, by rw [HSN.out, HA.out, hidG_eq, HS1.out, HI1.out]; rfl, hbx.trans ((hb4.trans (hb5.mono hs4)).mono hsx), hb3.trans ((hb4.trans (hb5.mono hs4)).mono hsy), hBx.below (hb4.trans (hb5.mono hs4)) hBx.lt⟩
                case measure => simp [intOf]; omega
            · skip
              go_wp2_with fail
              refine wp_region_bel wr.heap.size wr (by kernel_rfl) (by kernel_rfl) (Below.refl _ _) ?_
              repeat (go_big_quiet_step (first | (go_at_call 85; exact Calls.bel_of (Nat.le_refl _) (same_lit _ _ _ HS1.out _)) | (go_at_call 29; exact Calls.bel_of (Nat.le_refl _) (refIn_lit _ _ _ HCk.out HCj.out HI1.out _))))
              refine wpQuiet_nil ?_
              intro w4 hb4
              clear k0 k1 k2 k3 k4 k5
              have hs4 := hb4.size
              have r0 := (hb4.cell (p := ⟨w.heap.size, 0, none⟩) hBx.lt).trans q0
              have r1 := (hb4.cell (p := ⟨w.heap.size, 1, none⟩) hBx.lt).trans q1
              have s0 := (hb4.cell (p := ⟨b, off + j * 2, none⟩) (by simp; omega)).trans m0
              have s1' := (hb4.cell (p := ⟨b, off + j * 2 + 1, none⟩) (by simp; omega)).trans m1
              have k0 : ∀ x : BelW w4.heap.size w4, x.1.cell? ⟨w.heap.size, 0, none⟩ = some (.int .i64 p.1) := BelW.cell r0 (World.block_lt_of_cell? w4 _ r0)
              have k1 : ∀ x : BelW w4.heap.size w4, x.1.cell? ⟨w.heap.size, 1, none⟩ = some (.int .i64 p.2) := BelW.cell r1 (World.block_lt_of_cell? w4 _ r1)
              have k2 : ∀ x : BelW w4.heap.size w4, x.1.cell? ⟨b, off + j * 2, none⟩ = some (.int .i64 l[j].1) := BelW.cell s0 (World.block_lt_of_cell? w4 _ s0)
              have k3 : ∀ x : BelW w4.heap.size w4, x.1.cell? ⟨b, off + j * 2 + 1, none⟩ = some (.int .i64 l[j].2) := BelW.cell s1' (World.block_lt_of_cell? w4 _ s1')
              go_wp2_with fail
              refine wp_region_bel w4.heap.size w4 (by kernel_rfl) (by kernel_rfl) (Below.refl _ _) ?_
              repeat (go_big_quiet_step (fail))
              refine wpQuiet_nil ?_
              intro w5 hb5
              clear k0 k1 k2 k3 r0 r1 s0 s1' q0 q1 m0 m1 n0 n1
              go_wp2
              go_roundw
              case rel => exact ⟨j + 1, by omega, by go_num, false, rfl, by rw [HSN.out, HA.out, hidG_eq, HS1.out]; rfl, hbx.trans ((hb4.trans (hb5.mono hs4)).mono hsx), hb3.trans ((hb4.trans (hb5.mono hs4)).mono hsy), hBx.below (hb4.trans (hb5.mono hs4)) hBx.lt⟩
              case measure => simp [intOf]; omega
          · cases s1
            · cases i1
              · skip
                go_wp2_with fail
                refine wp_region_bel wr.heap.size wr (by kernel_rfl) (by kernel_rfl) (Below.refl _ _) ?_
                repeat (go_big_quiet_step (first | (go_at_call 85; exact Calls.bel_of (Nat.le_refl _) (same_lit _ _ _ HS1.out _)) | (go_at_call 29; exact Calls.bel_of (Nat.le_refl _) (refIn_lit _ _ _ HCk.out HCj.out HI1.out _))))
                refine wpQuiet_nil ?_
                intro w4 hb4
                clear k0 k1 k2 k3 k4 k5
                have hs4 := hb4.size
                have r0 := (hb4.cell (p := ⟨w.heap.size, 0, none⟩) hBx.lt).trans q0
                have r1 := (hb4.cell (p := ⟨w.heap.size, 1, none⟩) hBx.lt).trans q1
                have s0 := (hb4.cell (p := ⟨b, off + j * 2, none⟩) (by simp; omega)).trans m0
                have s1' := (hb4.cell (p := ⟨b, off + j * 2 + 1, none⟩) (by simp; omega)).trans m1
                have k0 : ∀ x : BelW w4.heap.size w4, x.1.cell? ⟨w.heap.size, 0, none⟩ = some (.int .i64 p.1) := BelW.cell r0 (World.block_lt_of_cell? w4 _ r0)
                have k1 : ∀ x : BelW w4.heap.size w4, x.1.cell? ⟨w.heap.size, 1, none⟩ = some (.int .i64 p.2) := BelW.cell r1 (World.block_lt_of_cell? w4 _ r1)
                have k2 : ∀ x : BelW w4.heap.size w4, x.1.cell? ⟨b, off + j * 2, none⟩ = some (.int .i64 l[j].1) := BelW.cell s0 (World.block_lt_of_cell? w4 _ s0)
                have k3 : ∀ x : BelW w4.heap.size w4, x.1.cell? ⟨b, off + j * 2 + 1, none⟩ = some (.int .i64 l[j].2) := BelW.cell s1' (World.block_lt_of_cell? w4 _ s1')
                go_wp2_with fail
                refine wp_region_bel w4.heap.size w4 (by kernel_rfl) (by kernel_rfl) (Below.refl _ _) ?_
                repeat (go_big_quiet_step (fail))
                refine wpQuiet_nil ?_
                intro w5 hb5
                clear k0 k1 k2 k3 r0 r1 s0 s1' q0 q1 m0 m1 n0 n1
                go_wp2
                go_roundw
                case rel => exact ⟨j + 1, by omega, by go_num, true, rfl, by rw [HSN.out, HA.out]; rfl, hbx.trans ((hb4.trans (hb5.mono hs4)).mono hsx), hb3.trans ((hb4.trans (hb5.mono hs4)).mono hsy), hBx.below (hb4.trans (hb5.mono hs4)) hBx.lt⟩
                case measure => simp [intOf]; omega
              · skip
                go_wp2_with fail
                refine wp_region_bel wr.heap.size wr (by kernel_rfl) (by kernel_rfl) (Below.refl _ _) ?_
                repeat (go_big_quiet_step (first | (go_at_call 85; exact Calls.bel_of (Nat.le_refl _) (same_lit _ _ _ HS1.out _)) | (go_at_call 29; exact Calls.bel_of (Nat.le_refl _) (refIn_lit _ _ _ HCk.out HCj.out HI1.out _))))
                refine wpQuiet_nil ?_
                intro w4 hb4
                clear k0 k1 k2 k3 k4 k5
                have hs4 := hb4.size
                have r0 := (hb4.cell (p := ⟨w.heap.size, 0, none⟩) hBx.lt).trans q0
                have r1 := (hb4.cell (p := ⟨w.heap.size, 1, none⟩) hBx.lt).trans q1
                have s0 := (hb4.cell (p := ⟨b, off + j * 2, none⟩) (by simp; omega)).trans m0
                have s1' := (hb4.cell (p := ⟨b, off + j * 2 + 1, none⟩) (by simp; omega)).trans m1
                have k0 : ∀ x : BelW w4.heap.size w4, x.1.cell? ⟨w.heap.size, 0, none⟩ = some (.int .i64 p.1) := BelW.cell r0 (World.block_lt_of_cell? w4 _ r0)
                have k1 : ∀ x : BelW w4.heap.size w4, x.1.cell? ⟨w.heap.size, 1, none⟩ = some (.int .i64 p.2) := BelW.cell r1 (World.block_lt_of_cell? w4 _ r1)
                have k2 : ∀ x : BelW w4.heap.size w4, x.1.cell? ⟨b, off + j * 2, none⟩ = some (.int .i64 l[j].1) := BelW.cell s0 (World.block_lt_of_cell? w4 _ s0)
                have k3 : ∀ x : BelW w4.heap.size w4, x.1.cell? ⟨b, off + j * 2 + 1, none⟩ = some (.int .i64 l[j].2) := BelW.cell s1' (World.block_lt_of_cell? w4 _ s1')
                go_wp2_with fail
                refine wp_region_bel w4.heap.size w4 (by kernel_rfl) (by kernel_rfl) (Below.refl _ _) ?_
                repeat (go_big_quiet_step (fail))
                refine wpQuiet_nil ?_
                intro w5 hb5
                clear k0 k1 k2 k3 r0 r1 s0 s1' q0 q1 m0 m1 n0 n1
                go_wp2
                go_roundw
                case rel => exact ⟨j + 1, by omega, by go_num, true, rfl, by rw [HSN.out, HA.out]; rfl, hbx.trans ((hb4.trans (hb5.mono hs4)).mono hsx), hb3.trans ((hb4.trans (hb5.mono hs4)).mono hsy), hBx.below (hb4.trans (hb5.mono hs4)) hBx.lt⟩
                case measure => simp [intOf]; omega
            · skip
              go_wp2_with fail
              refine wp_region_bel wr.heap.size wr (by kernel_rfl) (by kernel_rfl) (Below.refl _ _) ?_
              repeat (go_big_quiet_step (first | (go_at_call 85; exact Calls.bel_of (Nat.le_refl _) (same_lit _ _ _ HS1.out _)) | (go_at_call 29; exact Calls.bel_of (Nat.le_refl _) (refIn_lit _ _ _ HCk.out HCj.out HI1.out _))))
              refine wpQuiet_nil ?_
              intro w4 hb4
              clear k0 k1 k2 k3 k4 k5
              have hs4 := hb4.size
              have r0 := (hb4.cell (p := ⟨w.heap.size, 0, none⟩) hBx.lt).trans q0
              have r1 := (hb4.cell (p := ⟨w.heap.size, 1, none⟩) hBx.lt).trans q1
              have s0 := (hb4.cell (p := ⟨b, off + j * 2, none⟩) (by simp; omega)).trans m0
              have s1' := (hb4.cell (p := ⟨b, off + j * 2 + 1, none⟩) (by simp; omega)).trans m1
              have k0 : ∀ x : BelW w4.heap.size w4, x.1.cell? ⟨w.heap.size, 0, none⟩ = some (.int .i64 p.1) := BelW.cell r0 (World.block_lt_of_cell? w4 _ r0)
              have k1 : ∀ x : BelW w4.heap.size w4, x.1.cell? ⟨w.heap.size, 1, none⟩ = some (.int .i64 p.2) := BelW.cell r1 (World.block_lt_of_cell? w4 _ r1)
              have k2 : ∀ x : BelW w4.heap.size w4, x.1.cell? ⟨b, off + j * 2, none⟩ = some (.int .i64 l[j].1) := BelW.cell s0 (World.block_lt_of_cell? w4 _ s0)
              have k3 : ∀ x : BelW w4.heap.size w4, x.1.cell? ⟨b, off + j * 2 + 1, none⟩ = some (.int .i64 l[j].2) := BelW.cell s1' (World.block_lt_of_cell? w4 _ s1')
              go_wp2_with fail
              refine wp_region_bel w4.heap.size w4 (by kernel_rfl) (by kernel_rfl) (Below.refl _ _) ?_
              repeat (go_big_quiet_step (fail))
              refine wpQuiet_nil ?_
              intro w5 hb5
              clear k0 k1 k2 k3 r0 r1 s0 s1' q0 q1 m0 m1 n0 n1
              go_wp2
              go_roundw
              case rel => exact ⟨j + 1, by omega, by go_num, true, rfl, by rw [HSN.out, HA.out]; rfl, hbx.trans ((hb4.trans (hb5.mono hs4)).mono hsx), hb3.trans ((hb4.trans (hb5.mono hs4)).mono hsy), hBx.below (hb4.trans (hb5.mono hs4)) hBx.lt⟩
              case measure => simp [intOf]; omega
        · obtain rfl : j = l.length := by omega
          have hown4 := hown3.below hb3
          have HK := Lib.hid (show keepB l p true l[k] = !hv by have h := HA.out; rw [List.take_length] at h; unfold keepB; rw [h, Bool.true_or]; rfl)
          cases hv
          · go_wp2_with (at_builtin; refine wpList_append_pair (p := l[k]) rfl _ _ 51 rfl Tryd.underlying51 infoPfx (w.heap.size + 1) _ _ rfl hown4 rfl (by omega) hBx.lt ?_; intro v5 w5 hown5 hb9)
            go_roundw
            case rel => exact ⟨k + 1, by omega, by go_num, hbx.trans (hb9.mono (by omega)), hBx.below hb9 (by omega), by rw [HS.out, if_pos (show keepB l p true l[k] = true from HK.out)]; exact hown5⟩
            case measure => simp [intOf]; omega
          · go_wp2
            go_roundw
            case rel => exact ⟨k + 1, by omega, by go_num, hbx, hBx, by rw [HS.out, if_neg (by rw [HK.out]; decide), List.append_nil]; exact hown4⟩
            case measure => simp [intOf]; omega
    · obtain rfl : k = l.length := by omega
      rw [List.take_length] at hown
      go_wp2
      go_ret
      exact ⟨_, rfl, by rw [HE.out]; exact own_of_base hown (by omega), hb⟩

set_option maxRecDepth 100000 in
set_option maxHeartbeats 4000000 in
theorem belowRef_F (A : Option Addr) (l : List Pf) (c : Nat) (p : Pf) (ht : treeFault l = 0) (hp : chkP p = 0) (w : World) (hl : Rd w w.heap.size A (cellsP l)) :
    Calls Tryd.prog 42 #[.slice A l.length c, .agg #[.int .i64 p.1, .int .i64 p.2], .bool false] w (OwnRes 23 w (belowRef l p false)) := by
  obtain ⟨g1, g2, g3⟩ := tree_good ht
  have HV := Lib.hid g2
  have HP := Lib.hid hp
  have hb0 := (Below.refl w.heap.size w).alloc (Nat.le_refl _) (.cells #[.int .i64 p.1, .int .i64 p.2] 23)
  have hB0 := Blk.new w 23 #[.int .i64 p.1, .int .i64 p.2]
  have hnil := OwnP.nil (w.alloc (.cells #[.int .i64 p.1, .int .i64 p.2] 23)) (w.heap.size + 1) 23
  have HE := Lib.hid (belowRef_keep l p false)
  clear g2 g3 ht hp
  go_enter Tryd.func42, Tryd.ntmps42
  go_wp2
  go_loopw [7, 8, 9, 10, 11] (fun v i _ _ _ wr => ∃ k : Nat, k ≤ l.length ∧ i = .int .i64 k ∧ Below w.heap.size w wr ∧ Blk wr w.heap.size 23 #[.int .i64 p.1, .int .i64 p.2] ∧ OwnP wr (w.heap.size + 1) 23 v ((l.take k).filter (keepB l p false))) (fun _ i _ _ _ _ => l.length - (intOf i).toNat)
  case atStart => exact ⟨0, Nat.zero_le _, rfl, hb0, hB0, hnil⟩
  case round =>
    obtain ⟨k, hk, rfl, hb, hB, hown⟩ := hrel
    have hs := hb.size
    obtain ⟨c0, c1, _⟩ := hB.two
    by_cases hlt : k < l.length
    · obtain ⟨b, off, rfl, hbb, d0, d1⟩ := (hl.below hb).pair hlt
      have HCk := Lib.hid (HV.out l[k] (List.getElem_mem _))
      have HS := Lib.hid (takeFilter_snoc (keepB l p false) l k hlt)
      have hfl : ((l.take k).filter (keepB l p false)).length ≤ k := Nat.le_trans (List.length_filter_le _ _) (List.length_take_le _ _)
      obtain ⟨wo, rfl⟩ : ∃ wo : World, wo = wr := ⟨_, rfl⟩
      have k0 : ∀ x : BelW wo.heap.size wo, x.1.cell? ⟨w.heap.size, 0, none⟩ = some (.int .i64 p.1) := BelW.cell c0 (World.block_lt_of_cell? wo _ c0)
      have k1 : ∀ x : BelW wo.heap.size wo, x.1.cell? ⟨w.heap.size, 1, none⟩ = some (.int .i64 p.2) := BelW.cell c1 (World.block_lt_of_cell? wo _ c1)
      have k2 : ∀ x : BelW wo.heap.size wo, x.1.cell? ⟨b, off + k * 2, none⟩ = some (.int .i64 l[k].1) := BelW.cell d0 (World.block_lt_of_cell? wo _ d0)
      have k3 : ∀ x : BelW wo.heap.size wo, x.1.cell? ⟨b, off + k * 2 + 1, none⟩ = some (.int .i64 l[k].2) := BelW.cell d1 (World.block_lt_of_cell? wo _ d1)
      obtain ⟨x1, hx1⟩ : ∃ s, decide (l[k] = p) = s := ⟨_, rfl⟩
      obtain ⟨y1, hy1⟩ : ∃ i, inQ l[k] p = i := ⟨_, rfl⟩
      have HX := Lib.hid hx1
      have HY := Lib.hid hy1
      clear hx1 hy1
      cases x1
      · cases y1
        · skip
          go_wp2_with fail
          refine wp_region_bel wo.heap.size wo (by kernel_rfl) (by kernel_rfl) (Below.refl _ _) ?_
          repeat (go_big_quiet_step (first | (go_at_call 85; exact Calls.bel_of (Nat.le_refl _) (same_lit _ _ _ HX.out _)) | (go_at_call 29; exact Calls.bel_of (Nat.le_refl _) (refIn_lit _ _ _ HCk.out HP.out HY.out _))))
          refine wpQuiet_nil ?_
          intro w3 hb2
          clear k0 k1 k2 k3 c0 c1 d0 d1
          go_wp2
          go_roundw
          case rel => exact ⟨k + 1, by omega, by go_num, hb.trans (hb2.mono hs), hB.below hb2 hB.lt, by rw [HS.out, if_neg (by unfold keepB; rw [belowOf_eq, HX.out, HY.out]; simp), List.append_nil]; exact hown.below hb2⟩
          case measure => simp [intOf]; omega
        · skip
          go_wp2_with fail
          refine wp_region_bel wo.heap.size wo (by kernel_rfl) (by kernel_rfl) (Below.refl _ _) ?_
          repeat (go_big_quiet_step (first | (go_at_call 85; exact Calls.bel_of (Nat.le_refl _) (same_lit _ _ _ HX.out _)) | (go_at_call 29; exact Calls.bel_of (Nat.le_refl _) (refIn_lit _ _ _ HCk.out HP.out HY.out _))))
          refine wpQuiet_nil ?_
          intro w3 hb2
          clear k0 k1 k2 k3 c0 c1 d0 d1
          have hB3 := hB.below hb2 hB.lt
          have hown3 := hown.below hb2
          have hbx3 := hb.trans (hb2.mono hs)
          have hs3 := hbx3.size
          clear hb2 hB hown hb hs
          go_wp2
          go_loopw [9, 10, 11] (fun h i _ wr => ∃ j : Nat, j ≤ l.length ∧ i = .int .i64 j ∧ ∃ hv : Bool, h = .bool hv ∧ (l.take j).any (hidG p false l[k]) = hv ∧ Below w.heap.size w wr ∧ Below w3.heap.size w3 wr ∧ Blk wr w.heap.size 23 #[.int .i64 p.1, .int .i64 p.2]) (fun _ i _ _ => l.length - (intOf i).toNat)
          case atStart => exact ⟨0, Nat.zero_le _, rfl, false, rfl, rfl, hbx3, Below.refl _ _, hB3⟩
          case round =>
            obtain ⟨j, hj, rfl, hv, rfl, hany, hbx, hb3, hBx⟩ := hrel
            have hsx := hbx.size
            have hsy := hb3.size
            have HA := Lib.hid hany
            clear hany
            obtain ⟨b3, off3, he2, _, n0, n1⟩ := (hl.below hbx).pair hlt
            obtain ⟨rfl, rfl⟩ : b = b3 ∧ off = off3 := by simpa using he2
            clear he2
            by_cases hjt : j < l.length
            · obtain ⟨q0, q1, _⟩ := hBx.two
              obtain ⟨b2, off2, he, _, m0, m1⟩ := (hl.below hbx).pair hjt
              obtain ⟨rfl, rfl⟩ : b = b2 ∧ off = off2 := by simpa using he
              clear he
              have HCj := Lib.hid (HV.out l[j] (List.getElem_mem _))
              have HSN := Lib.hid (any_snoc (hidG p false l[k]) l j hjt)
              have k0 : ∀ x : BelW wr.heap.size wr, x.1.cell? ⟨w.heap.size, 0, none⟩ = some (.int .i64 p.1) := BelW.cell q0 (World.block_lt_of_cell? wr _ q0)
              have k1 : ∀ x : BelW wr.heap.size wr, x.1.cell? ⟨w.heap.size, 1, none⟩ = some (.int .i64 p.2) := BelW.cell q1 (World.block_lt_of_cell? wr _ q1)
              have k2 : ∀ x : BelW wr.heap.size wr, x.1.cell? ⟨b, off + j * 2, none⟩ = some (.int .i64 l[j].1) := BelW.cell m0 (World.block_lt_of_cell? wr _ m0)
              have k3 : ∀ x : BelW wr.heap.size wr, x.1.cell? ⟨b, off + j * 2 + 1, none⟩ = some (.int .i64 l[j].2) := BelW.cell m1 (World.block_lt_of_cell? wr _ m1)
              have k4 : ∀ x : BelW wr.heap.size wr, x.1.cell? ⟨b, off + k * 2, none⟩ = some (.int .i64 l[k].1) := BelW.cell n0 (World.block_lt_of_cell? wr _ n0)
              have k5 : ∀ x : BelW wr.heap.size wr, x.1.cell? ⟨b, off + k * 2 + 1, none⟩ = some (.int .i64 l[k].2) := BelW.cell n1 (World.block_lt_of_cell? wr _ n1)
              obtain ⟨s1, hs1⟩ : ∃ s, decide (l[j] = l[k]) = s := ⟨_, rfl⟩
              obtain ⟨i1, hi1⟩ : ∃ i, inQ l[k] l[j] = i := ⟨_, rfl⟩
              have HS1 := Lib.hid hs1
              have HI1 := Lib.hid hi1
              clear hs1 hi1
              obtain ⟨s2, hs2⟩ : ∃ s, decide (l[j] = p) = s := ⟨_, rfl⟩
              obtain ⟨i2, hi2⟩ : ∃ i, inQ l[j] p = i := ⟨_, rfl⟩
              have HS2 := Lib.hid hs2
              have HI2 := Lib.hid hi2
              clear hs2 hi2
              cases hv
              · cases s1
                · cases i1
                  · skip
                    go_wp2_with fail
                    refine wp_region_bel wr.heap.size wr (by kernel_rfl) (by kernel_rfl) (Below.refl _ _) ?_
                    repeat (go_big_quiet_step (first | (go_at_call 85; exact Calls.bel_of (Nat.le_refl _) (same_lit _ _ _ HS1.out _)) | (go_at_call 29; exact Calls.bel_of (Nat.le_refl _) (refIn_lit _ _ _ HCk.out HCj.out HI1.out _))))
                    refine wpQuiet_nil ?_
                    intro w4 hb4
                    clear k0 k1 k2 k3 k4 k5
                    have hs4 := hb4.size
                    have r0 := (hb4.cell (p := ⟨w.heap.size, 0, none⟩) hBx.lt).trans q0
                    have r1 := (hb4.cell (p := ⟨w.heap.size, 1, none⟩) hBx.lt).trans q1
                    have s0 := (hb4.cell (p := ⟨b, off + j * 2, none⟩) (by simp; omega)).trans m0
                    have s1' := (hb4.cell (p := ⟨b, off + j * 2 + 1, none⟩) (by simp; omega)).trans m1
                    have k0 : ∀ x : BelW w4.heap.size w4, x.1.cell? ⟨w.heap.size, 0, none⟩ = some (.int .i64 p.1) := BelW.cell r0 (World.block_lt_of_cell? w4 _ r0)
                    have k1 : ∀ x : BelW w4.heap.size w4, x.1.cell? ⟨w.heap.size, 1, none⟩ = some (.int .i64 p.2) := BelW.cell r1 (World.block_lt_of_cell? w4 _ r1)
                    have k2 : ∀ x : BelW w4.heap.size w4, x.1.cell? ⟨b, off + j * 2, none⟩ = some (.int .i64 l[j].1) := BelW.cell s0 (World.block_lt_of_cell? w4 _ s0)
                    have k3 : ∀ x : BelW w4.heap.size w4, x.1.cell? ⟨b, off + j * 2 + 1, none⟩ = some (.int .i64 l[j].2) := BelW.cell s1' (World.block_lt_of_cell? w4 _ s1')
                    go_wp2_with fail
                    refine wp_region_bel w4.heap.size w4 (by kernel_rfl) (by kernel_rfl) (Below.refl _ _) ?_
                    repeat (go_big_quiet_step (first | (go_at_call 85; exact Calls.bel_of (Nat.le_refl _) (same_lit _ _ _ HS2.out _)) | (go_at_call 29; exact Calls.bel_of (Nat.le_refl _) (refIn_lit _ _ _ HCj.out HP.out HI2.out _))))
                    refine wpQuiet_nil ?_
                    intro w5 hb5
                    clear k0 k1 k2 k3 r0 r1 s0 s1' q0 q1 m0 m1 n0 n1
                    go_wp2
                    go_roundw
                    case rel => exact ⟨j + 1, by omega, by go_num, false, rfl, by rw [HSN.out, HA.out, hidG_eq, HS1.out, HI1.out]; rfl, hbx.trans ((hb4.trans (hb5.mono hs4)).mono hsx), hb3.trans ((hb4.trans (hb5.mono hs4)).mono hsy), hBx.below (hb4.trans (hb5.mono hs4)) hBx.lt⟩
                    case measure => simp [intOf]; omega
                  · cases s2
                    · cases i2
                      · skip
                        go_wp2_with fail
                        refine wp_region_bel wr.heap.size wr (by kernel_rfl) (by kernel_rfl) (Below.refl _ _) ?_
                        repeat (go_big_quiet_step (first | (go_at_call 85; exact Calls.bel_of (Nat.le_refl _) (same_lit _ _ _ HS1.out _)) | (go_at_call 29; exact Calls.bel_of (Nat.le_refl _) (refIn_lit _ _ _ HCk.out HCj.out HI1.out _))))
                        refine wpQuiet_nil ?_
                        intro w4 hb4
                        clear k0 k1 k2 k3 k4 k5
                        have hs4 := hb4.size
                        have r0 := (hb4.cell (p := ⟨w.heap.size, 0, none⟩) hBx.lt).trans q0
                        have r1 := (hb4.cell (p := ⟨w.heap.size, 1, none⟩) hBx.lt).trans q1
                        have s0 := (hb4.cell (p := ⟨b, off + j * 2, none⟩) (by simp; omega)).trans m0
                        have s1' := (hb4.cell (p := ⟨b, off + j * 2 + 1, none⟩) (by simp; omega)).trans m1
                        have k0 : ∀ x : BelW w4.heap.size w4, x.1.cell? ⟨w.heap.size, 0, none⟩ = some (.int .i64 p.1) := BelW.cell r0 (World.block_lt_of_cell? w4 _ r0)
                        have k1 : ∀ x : BelW w4.heap.size w4, x.1.cell? ⟨w.heap.size, 1, none⟩ = some (.int .i64 p.2) := BelW.cell r1 (World.block_lt_of_cell? w4 _ r1)
                        have k2 : ∀ x : BelW w4.heap.size w4, x.1.cell? ⟨b, off + j * 2, none⟩ = some (.int .i64 l[j].1) := BelW.cell s0 (World.block_lt_of_cell? w4 _ s0)
                        have k3 : ∀ x : BelW w4.heap.size w4, x.1.cell? ⟨b, off + j * 2 + 1, none⟩ = some (.int .i64 l[j].2) := BelW.cell s1' (World.block_lt_of_cell? w4 _ s1')
                        go_wp2_with fail
                        refine wp_region_bel w4.heap.size w4 (by kernel_rfl) (by kernel_rfl) (Below.refl _ _) ?_
                        repeat (go_big_quiet_step (first | (go_at_call 85; exact Calls.bel_of (Nat.le_refl _) (same_lit _ _ _ HS2.out _)) | (go_at_call 29; exact Calls.bel_of (Nat.le_refl _) (refIn_lit _ _ _ HCj.out HP.out HI2.out _))))
                        refine wpQuiet_nil ?_
                        intro w5 hb5
                        clear k0 k1 k2 k3 r0 r1 s0 s1' q0 q1 m0 m1 n0 n1
                        go_wp2
                        go_roundw
                        case rel => exact ⟨j + 1, by omega, by go_num, false, rfl, by rw [HSN.out, HA.out, hidG_eq, HS1.out, HI1.out, HS2.out, HI2.out]; rfl, hbx.trans ((hb4.trans (hb5.mono hs4)).mono hsx), hb3.trans ((hb4.trans (hb5.mono hs4)).mono hsy), hBx.below (hb4.trans (hb5.mono hs4)) hBx.lt⟩
                        case measure => simp [intOf]; omega
                      · skip
                        go_wp2_with fail
                        refine wp_region_bel wr.heap.size wr (by kernel_rfl) (by kernel_rfl) (Below.refl _ _) ?_
                        repeat (go_big_quiet_step (first | (go_at_call 85; exact Calls.bel_of (Nat.le_refl _) (same_lit _ _ _ HS1.out _)) | (go_at_call 29; exact Calls.bel_of (Nat.le_refl _) (refIn_lit _ _ _ HCk.out HCj.out HI1.out _))))
                        refine wpQuiet_nil ?_
                        intro w4 hb4
                        clear k0 k1 k2 k3 k4 k5
                        have hs4 := hb4.size
                        have r0 := (hb4.cell (p := ⟨w.heap.size, 0, none⟩) hBx.lt).trans q0
                        have r1 := (hb4.cell (p := ⟨w.heap.size, 1, none⟩) hBx.lt).trans q1
                        have s0 := (hb4.cell (p := ⟨b, off + j * 2, none⟩) (by simp; omega)).trans m0
                        have s1' := (hb4.cell (p := ⟨b, off + j * 2 + 1, none⟩) (by simp; omega)).trans m1
                        have k0 : ∀ x : BelW w4.heap.size w4, x.1.cell? ⟨w.heap.size, 0, none⟩ = some (.int .i64 p.1) := BelW.cell r0 (World.block_lt_of_cell? w4 _ r0)
                        have k1 : ∀ x : BelW w4.heap.size w4, x.1.cell? ⟨w.heap.size, 1, none⟩ = some (.int .i64 p.2) := BelW.cell r1 (World.block_lt_of_cell? w4 _ r1)
                        have k2 : ∀ x : BelW w4.heap.size w4, x.1.cell? ⟨b, off + j * 2, none⟩ = some (.int .i64 l[j].1) := BelW.cell s0 (World.block_lt_of_cell? w4 _ s0)
                        have k3 : ∀ x : BelW w4.heap.size w4, x.1.cell? ⟨b, off + j * 2 + 1, none⟩ = some (.int .i64 l[j].2) := BelW.cell s1' (World.block_lt_of_cell? w4 _ s1')
                        go_wp2_with fail
                        refine wp_region_bel w4.heap.size w4 (by kernel_rfl) (by kernel_rfl) (Below.refl _ _) ?_
                        repeat (go_big_quiet_step (first | (go_at_call 85; exact Calls.bel_of (Nat.le_refl _) (same_lit _ _ _ HS2.out _)) | (go_at_call 29; exact Calls.bel_of (Nat.le_refl _) (refIn_lit _ _ _ HCj.out HP.out HI2.out _))))
                        refine wpQuiet_nil ?_
                        intro w5 hb5
                        clear k0 k1 k2 k3 r0 r1 s0 s1' q0 q1 m0 m1 n0 n1
                        go_wp2
                        go_roundw
                        case rel => exact ⟨j + 1, by omega, by go_num, true, rfl, by rw [HSN.out, HA.out, hidG_eq, HS1.out, HI1.out, HS2.out, HI2.out]; rfl, hbx.trans ((hb4.trans (hb5.mono hs4)).mono hsx), hb3.trans ((hb4.trans (hb5.mono hs4)).mono hsy), hBx.below (hb4.trans (hb5.mono hs4)) hBx.lt⟩
                        case measure => simp [intOf]; omega
                    · skip
                      go_wp2_with fail
                      refine wp_region_bel wr.heap.size wr (by kernel_rfl) (by kernel_rfl) (Below.refl _ _) ?_
                      repeat (go_big_quiet_step (first | (go_at_call 85; exact Calls.bel_of (Nat.le_refl _) (same_lit _ _ _ HS1.out _)) | (go_at_call 29; exact Calls.bel_of (Nat.le_refl _) (refIn_lit _ _ _ HCk.out HCj.out HI1.out _))))
                      refine wpQuiet_nil ?_
                      intro w4 hb4
                      clear k0 k1 k2 k3 k4 k5
                      have hs4 := hb4.size
                      have r0 := (hb4.cell (p := ⟨w.heap.size, 0, none⟩) hBx.lt).trans q0
                      have r1 := (hb4.cell (p := ⟨w.heap.size, 1, none⟩) hBx.lt).trans q1
                      have s0 := (hb4.cell (p := ⟨b, off + j * 2, none⟩) (by simp; omega)).trans m0
                      have s1' := (hb4.cell (p := ⟨b, off + j * 2 + 1, none⟩) (by simp; omega)).trans m1
                      have k0 : ∀ x : BelW w4.heap.size w4, x.1.cell? ⟨w.heap.size, 0, none⟩ = some (.int .i64 p.1) := BelW.cell r0 (World.block_lt_of_cell? w4 _ r0)
                      have k1 : ∀ x : BelW w4.heap.size w4, x.1.cell? ⟨w.heap.size, 1, none⟩ = some (.int .i64 p.2) := BelW.cell r1 (World.block_lt_of_cell? w4 _ r1)
                      have k2 : ∀ x : BelW w4.heap.size w4, x.1.cell? ⟨b, off + j * 2, none⟩ = some (.int .i64 l[j].1) := BelW.cell s0 (World.block_lt_of_cell? w4 _ s0)
                      have k3 : ∀ x : BelW w4.heap.size w4, x.1.cell? ⟨b, off + j * 2 + 1, none⟩ = some (.int .i64 l[j].2) := BelW.cell s1' (World.block_lt_of_cell? w4 _ s1')
                      go_wp2_with fail
                      refine wp_region_bel w4.heap.size w4 (by kernel_rfl) (by kernel_rfl) (Below.refl _ _) ?_
                      repeat (go_big_quiet_step (first | (go_at_call 85; exact Calls.bel_of (Nat.le_refl _) (same_lit _ _ _ HS2.out _)) | (go_at_call 29; exact Calls.bel_of (Nat.le_refl _) (refIn_lit _ _ _ HCj.out HP.out HI2.out _))))
                      refine wpQuiet_nil ?_
                      intro w5 hb5
                      clear k0 k1 k2 k3 r0 r1 s0 s1' q0 q1 m0 m1 n0 n1
                      go_wp2
                      go_roundw
                      case rel => exact ⟨j + 1, by omega, by go_num, false, rfl, by rw [HSN.out, HA.out, hidG_eq, HS1.out, HI1.out, HS2.out]; rfl, hbx.trans ((hb4.trans (hb5.mono hs4)).mono hsx), hb3.trans ((hb4.trans (hb5.mono hs4)).mono hsy), hBx.below (hb4.trans (hb5.mono hs4)) hBx.lt⟩
                      case measure => simp [intOf]; omega
                · skip
                  go_wp2_with fail
                  refine wp_region_bel wr.heap.size wr (by kernel_rfl) (by kernel_rfl) (Below.refl _ _) ?_
                  repeat (go_big_quiet_step (first | (go_at_call 85; exact Calls.bel_of (Nat.le_refl _) (same_lit _ _ _ HS1.out _)) | (go_at_call 29; exact Calls.bel_of (Nat.le_refl _) (refIn_lit _ _ _ HCk.out HCj.out HI1.out _))))
                  refine wpQuiet_nil ?_
                  intro w4 hb4
                  clear k0 k1 k2 k3 k4 k5
                  have hs4 := hb4.size
                  have r0 := (hb4.cell (p := ⟨w.heap.size, 0, none⟩) hBx.lt).trans q0
                  have r1 := (hb4.cell (p := ⟨w.heap.size, 1, none⟩) hBx.lt).trans q1
                  have s0 := (hb4.cell (p := ⟨b, off + j * 2, none⟩) (by simp; omega)).trans m0
                  have s1' := (hb4.cell (p := ⟨b, off + j * 2 + 1, none⟩) (by simp; omega)).trans m1
                  have k0 : ∀ x : BelW w4.heap.size w4, x.1.cell? ⟨w.heap.size, 0, none⟩ = some (.int .i64 p.1) := BelW.cell r0 (World.block_lt_of_cell? w4 _ r0)
                  have k1 : ∀ x : BelW w4.heap.size w4, x.1.cell? ⟨w.heap.size, 1, none⟩ = some (.int .i64 p.2) := BelW.cell r1 (World.block_lt_of_cell? w4 _ r1)
                  have k2 : ∀ x : BelW w4.heap.size w4, x.1.cell? ⟨b, off + j * 2, none⟩ = some (.int .i64 l[j].1) := BelW.cell s0 (World.block_lt_of_cell? w4 _ s0)
                  have k3 : ∀ x : BelW w4.heap.size w4, x.1.cell? ⟨b, off + j * 2 + 1, none⟩ = some (.int .i64 l[j].2) := BelW.cell s1' (World.block_lt_of_cell? w4 _ s1')
                  go_wp2_with fail
                  refine wp_region_bel w4.heap.size w4 (by kernel_rfl) (by kernel_rfl) (Below.refl _ _) ?_
                  repeat (go_big_quiet_step (first | (go_at_call 85; exact Calls.bel_of (Nat.le_refl _) (same_lit _ _ _ HS2.out _)) | (go_at_call 29; exact Calls.bel_of (Nat.le_refl _) (refIn_lit _ _ _ HCj.out HP.out HI2.out _))))
                  refine wpQuiet_nil ?_
                  intro w5 hb5
                  clear k0 k1 k2 k3 r0 r1 s0 s1' q0 q1 m0 m1 n0 n1
                  go_wp2
                  go_roundw
                  case rel => exact ⟨j + 1, by omega, by go_num, false, rfl, by rw [HSN.out, HA.out, hidG_eq, HS1.out]; rfl, hbx.trans ((hb4.trans (hb5.mono hs4)).mono hsx), hb3.trans ((hb4.trans (hb5.mono hs4)).mono hsy), hBx.below (hb4.trans (hb5.mono hs4)) hBx.lt⟩
                  case measure => simp [intOf]; omega
              · cases s1
                · cases i1
                  · skip
                    go_wp2_with fail
                    refine wp_region_bel wr.heap.size wr (by kernel_rfl) (by kernel_rfl) (Below.refl _ _) ?_
                    repeat (go_big_quiet_step (first | (go_at_call 85; exact Calls.bel_of (Nat.le_refl _) (same_lit _ _ _ HS1.out _)) | (go_at_call 29; exact Calls.bel_of (Nat.le_refl _) (refIn_lit _ _ _ HCk.out HCj.out HI1.out _))))
                    refine wpQuiet_nil ?_
                    intro w4 hb4
                    clear k0 k1 k2 k3 k4 k5
                    have hs4 := hb4.size
                    have r0 := (hb4.cell (p := ⟨w.heap.size, 0, none⟩) hBx.lt).trans q0
                    have r1 := (hb4.cell (p := ⟨w.heap.size, 1, none⟩) hBx.lt).trans q1
                    have s0 := (hb4.cell (p := ⟨b, off + j * 2, none⟩) (by simp; omega)).trans m0
                    have s1' := (hb4.cell (p := ⟨b, off + j * 2 + 1, none⟩) (by simp; omega)).trans m1
                    have k0 : ∀ x : BelW w4.heap.size w4, x.1.cell? ⟨w.heap.size, 0, none⟩ = some (.int .i64 p.1) := BelW.cell r0 (World.block_lt_of_cell? w4 _ r0)
                    have k1 : ∀ x : BelW w4.heap.size w4, x.1.cell? ⟨w.heap.size, 1, none⟩ = some (.int .i64 p.2) := BelW.cell r1 (World.block_lt_of_cell? w4 _ r1)
                    have k2 : ∀ x : BelW w4.heap.size w4, x.1.cell? ⟨b, off + j * 2, none⟩ = some (.int .i64 l[j].1) := BelW.cell s0 (World.block_lt_of_cell? w4 _ s0)
                    have k3 : ∀ x : BelW w4.heap.size w4, x.1.cell? ⟨b, off + j * 2 + 1, none⟩ = some (.int .i64 l[j].2) := BelW.cell s1' (World.block_lt_of_cell? w4 _ s1')
                    go_wp2_with fail
                    refine wp_region_bel w4.heap.size w4 (by kernel_rfl) (by kernel_rfl) (Below.refl _ _) ?_
                    repeat (go_big_quiet_step (first | (go_at_call 85; exact Calls.bel_of (Nat.le_refl _) (same_lit _ _ _ HS2.out _)) | (go_at_call 29; exact Calls.bel_of (Nat.le_refl _) (refIn_lit _ _ _ HCj.out HP.out HI2.out _))))
                    refine wpQuiet_nil ?_
                    intro w5 hb5
                    clear k0 k1 k2 k3 r0 r1 s0 s1' q0 q1 m0 m1 n0 n1
                    go_wp2
                    go_roundw
                    case rel => exact ⟨j + 1, by omega, by go_num, true, rfl, by rw [HSN.out, HA.out]; rfl, hbx.trans ((hb4.trans (hb5.mono hs4)).mono hsx), hb3.trans ((hb4.trans (hb5.mono hs4)).mono hsy), hBx.below (hb4.trans (hb5.mono hs4)) hBx.lt⟩
                    case measure => simp [intOf]; omega
                  · skip
                    go_wp2_with fail
                    refine wp_region_bel wr.heap.size wr (by kernel_rfl) (by kernel_rfl) (Below.refl _ _) ?_
                    repeat (go_big_quiet_step (first | (go_at_call 85; exact Calls.bel_of (Nat.le_refl _) (same_lit _ _ _ HS1.out _)) | (go_at_call 29; exact Calls.bel_of (Nat.le_refl _) (refIn_lit _ _ _ HCk.out HCj.out HI1.out _))))
                    refine wpQuiet_nil ?_
                    intro w4 hb4
                    clear k0 k1 k2 k3 k4 k5
                    have hs4 := hb4.size
                    have r0 := (hb4.cell (p := ⟨w.heap.size, 0, none⟩) hBx.lt).trans q0
                    have r1 := (hb4.cell (p := ⟨w.heap.size, 1, none⟩) hBx.lt).trans q1
                    have s0 := (hb4.cell (p := ⟨b, off + j * 2, none⟩) (by simp; omega)).trans m0
                    have s1' := (hb4.cell (p := ⟨b, off + j * 2 + 1, none⟩) (by simp; omega)).trans m1
                    have k0 : ∀ x : BelW w4.heap.size w4, x.1.cell? ⟨w.heap.size, 0, none⟩ = some (.int .i64 p.1) := BelW.cell r0 (World.block_lt_of_cell? w4 _ r0)
                    have k1 : ∀ x : BelW w4.heap.size w4, x.1.cell? ⟨w.heap.size, 1, none⟩ = some (.int .i64 p.2) := BelW.cell r1 (World.block_lt_of_cell? w4 _ r1)
                    have k2 : ∀ x : BelW w4.heap.size w4, x.1.cell? ⟨b, off + j * 2, none⟩ = some (.int .i64 l[j].1) := BelW.cell s0 (World.block_lt_of_cell? w4 _ s0)
                    have k3 : ∀ x : BelW w4.heap.size w4, x.1.cell? ⟨b, off + j * 2 + 1, none⟩ = some (.int .i64 l[j].2) := BelW.cell s1' (World.block_lt_of_cell? w4 _ s1')
                    go_wp2_with fail
                    refine wp_region_bel w4.heap.size w4 (by kernel_rfl) (by kernel_rfl) (Below.refl _ _) ?_
                    repeat (go_big_quiet_step (first | (go_at_call 85; exact Calls.bel_of (Nat.le_refl _) (same_lit _ _ _ HS2.out _)) | (go_at_call 29; exact Calls.bel_of (Nat.le_refl _) (refIn_lit _ _ _ HCj.out HP.out HI2.out _))))
                    refine wpQuiet_nil ?_
                    intro w5 hb5
                    clear k0 k1 k2 k3 r0 r1 s0 s1' q0 q1 m0 m1 n0 n1
                    go_wp2
                    go_roundw
                    case rel => exact ⟨j + 1, by omega, by go_num, true, rfl, by rw [HSN.out, HA.out]; rfl, hbx.trans ((hb4.trans (hb5.mono hs4)).mono hsx), hb3.trans ((hb4.trans (hb5.mono hs4)).mono hsy), hBx.below (hb4.trans (hb5.mono hs4)) hBx.lt⟩
                    case measure => simp [intOf]; omega
                · skip
                  go_wp2_with fail
                  refine wp_region_bel wr.heap.size wr (by kernel_rfl) (by kernel_rfl) (Below.refl _ _) ?_
                  repeat (go_big_quiet_step (first | (go_at_call 85; exact Calls.bel_of (Nat.le_refl _) (same_lit _ _ _ HS1.out _)) | (go_at_call 29; exact Calls.bel_of (Nat.le_refl _) (refIn_lit _ _ _ HCk.out HCj.out HI1.out _))))
                  refine wpQuiet_nil ?_
                  intro w4 hb4
                  clear k0 k1 k2 k3 k4 k5
                  have hs4 := hb4.size
                  have r0 := (hb4.cell (p := ⟨w.heap.size, 0, none⟩) hBx.lt).trans q0
                  have r1 := (hb4.cell (p := ⟨w.heap.size, 1, none⟩) hBx.lt).trans q1
                  have s0 := (hb4.cell (p := ⟨b, off + j * 2, none⟩) (by simp; omega)).trans m0
                  have s1' := (hb4.cell (p := ⟨b, off + j * 2 + 1, none⟩) (by simp; omega)).trans m1
                  have k0 : ∀ x : BelW w4.heap.size w4, x.1.cell? ⟨w.heap.size, 0, none⟩ = some (.int .i64 p.1) := BelW.cell r0 (World.block_lt_of_cell? w4 _ r0)
                  have k1 : ∀ x : BelW w4.heap.size w4, x.1.cell? ⟨w.heap.size, 1, none⟩ = some (.int .i64 p.2) := BelW.cell r1 (World.block_lt_of_cell? w4 _ r1)
                  have k2 : ∀ x : BelW w4.heap.size w4, x.1.cell? ⟨b, off + j * 2, none⟩ = some (.int .i64 l[j].1) := BelW.cell s0 (World.block_lt_of_cell? w4 _ s0)
                  have k3 : ∀ x : BelW w4.heap.size w4, x.1.cell? ⟨b, off + j * 2 + 1, none⟩ = some (.int .i64 l[j].2) := BelW.cell s1' (World.block_lt_of_cell? w4 _ s1')
                  go_wp2_with fail
                  refine wp_region_bel w4.heap.size w4 (by kernel_rfl) (by kernel_rfl) (Below.refl _ _) ?_
                  repeat (go_big_quiet_step (first | (go_at_call 85; exact Calls.bel_of (Nat.le_refl _) (same_lit _ _ _ HS2.out _)) | (go_at_call 29; exact Calls.bel_of (Nat.le_refl _) (refIn_lit _ _ _ HCj.out HP.out HI2.out _))))
                  refine wpQuiet_nil ?_
                  intro w5 hb5
                  clear k0 k1 k2 k3 r0 r1 s0 s1' q0 q1 m0 m1 n0 n1
                  go_wp2
                  go_roundw
                  case rel => exact ⟨j + 1, by omega, by go_num, true, rfl, by rw [HSN.out, HA.out]; rfl, hbx.trans ((hb4.trans (hb5.mono hs4)).mono hsx), hb3.trans ((hb4.trans (hb5.mono hs4)).mono hsy), hBx.below (hb4.trans (hb5.mono hs4)) hBx.lt⟩
                  case measure => simp [intOf]; omega
            · obtain rfl : j = l.length := by omega
              have hown4 := hown3.below hb3
              have HK := Lib.hid (show keepB l p false l[k] = !hv by have h := HA.out; rw [List.take_length] at h; unfold keepB; rw [h, belowOf_eq, HX.out, HY.out]; rfl)
              cases hv
              · go_wp2_with (at_builtin; refine wpList_append_pair (p := l[k]) rfl _ _ 51 rfl Tryd.underlying51 infoPfx (w.heap.size + 1) _ _ rfl hown4 rfl (by omega) hBx.lt ?_; intro v5 w5 hown5 hb9)
                go_roundw
                case rel => exact ⟨k + 1, by omega, by go_num, hbx.trans (hb9.mono (by omega)), hBx.below hb9 (by omega), by rw [HS.out, if_pos (show keepB l p false l[k] = true from HK.out)]; exact hown5⟩
                case measure => simp [intOf]; omega
              · go_wp2
                go_roundw
                case rel => exact ⟨k + 1, by omega, by go_num, hbx, hBx, by rw [HS.out, if_neg (by rw [HK.out]; decide), List.append_nil]; exact hown4⟩
                case measure => simp [intOf]; omega
      · skip
        go_wp2_with fail
        refine wp_region_bel wo.heap.size wo (by kernel_rfl) (by kernel_rfl) (Below.refl _ _) ?_
        repeat (go_big_quiet_step (first | (go_at_call 85; exact Calls.bel_of (Nat.le_refl _) (same_lit _ _ _ HX.out _)) | (go_at_call 29; exact Calls.bel_of (Nat.le_refl _) (refIn_lit _ _ _ HCk.out HP.out HY.out _))))
        refine wpQuiet_nil ?_
        intro w3 hb2
        clear k0 k1 k2 k3 c0 c1 d0 d1
        go_wp2
        go_roundw
        case rel => exact ⟨k + 1, by omega, by go_num, hb.trans (hb2.mono hs), hB.below hb2 hB.lt, by rw [HS.out, if_neg (by unfold keepB; rw [belowOf_eq, HX.out]; simp), List.append_nil]; exact hown.below hb2⟩
        case measure => simp [intOf]; omega
    · obtain rfl : k = l.length := by omega
      rw [List.take_length] at hown
      go_wp2
      go_ret
      exact ⟨_, rfl, by rw [HE.out]; exact own_of_base hown (by omega), hb⟩
end Go.Proofs.YtcgeagobndhpjaaDoor
