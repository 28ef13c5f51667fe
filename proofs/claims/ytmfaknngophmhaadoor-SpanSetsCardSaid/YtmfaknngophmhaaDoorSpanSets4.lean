/- The law SpanSets, its parts: two sets together. Any lists, any number. -/
import Derived.Test.YtmfaknngophmhaaDoorSpanSets0
namespace Go.Proofs.YtmfaknngophmhaaDoor
set_option linter.unusedVariables false
set_option linter.unusedSimpArgs false
open Go.RowKit

set_option maxRecDepth 100000 in
set_option maxHeartbeats 8000000 in
theorem spanSets_7a (A : Option Addr) (l : List Sp) (c : Nat) (B : Option Addr) (a : List Sp) (d : Nat) (C : Option Addr) (b : List Sp) (g : Nat) (x : Int) (hm : l.length ≤ maxLen) (hma : a.length ≤ maxLen) (hmb : b.length ≤ maxLen) (w : World) (hg : ErrVar w) (hl : Rd w w.heap.size A (cellsP l)) (ha : Rd w w.heap.size B (cellsP a)) (hb : Rd w w.heap.size C (cellsP b)) (ht : twoFault a b ≠ 0) (s0 : Act) (w0 : World) (h0 : SSmid A l c B a d C b g x w (twoFault a b) s0 w0) :
    (tailN 1 (tailN 8 (tailN 5 (tailN 3 (tailN 6 (tailN 1 (tailN 3 (Tryd.f3.body.getD .skip)))))))).wp Tryd.prog (bodyPost Tryd.prog Tryd.f3 fun e w' => e = .returned (.bool true) ∧ Below w.heap.size w w') s0 w0 := by
  have HG := Lib.hid hg
  clear hg
  have hz : (twoFault a b == 0) = false := by simpa using ht
  have HT := Lib.hid ht
  clear ht
  obtain ⟨U, rfl, hB0⟩ := h0
  dsimp only [Tryd.f3, Option.getD, tailN]
  have hs0 := hB0.size
  go_wp2_with fail
  go_loopw [24] (fun i wx => ∃ h : Int, 1 ≤ h ∧ h ≤ 4 ∧ i = .int .i64 h ∧ Below w.heap.size w wx) (fun i _ => (4 - intOf i).toNat)
  case atStart => exact ⟨1, by omega, by omega, rfl, hB0⟩
  case round =>
    obtain ⟨h, h1, h4, rfl, hbx⟩ := hrel
    have hs := hbx.size
    rcases show h = 1 ∨ h = 2 ∨ h = 3 ∨ h = 4 by omega with rfl | rfl | rfl | rfl
    · have HO := Lib.hid (show opFault a b (opL 1 a b) = twoFault a b from opFault_two HT.out)
      have HNE := Lib.hid (show twoFault a b ≠ 0 from HT.out)
      go_wp2_with fail
      refine (unionU B C a b d g hma hmb _ ((ha.below (show Below w.heap.size w _ from (by first | exact hbx | ((repeat' (first | exact hbx | refine Below.setCell ?_ ?_ _ | refine Below.alloc ?_ ?_ _ | refine Below.drew ?_)) <;> (first | omega | (simp <;> omega)))))).more (show w.heap.size ≤ _ from by first | omega | (simp <;> omega))) ((hb.below (show Below w.heap.size w _ from (by first | exact hbx | ((repeat' (first | exact hbx | refine Below.setCell ?_ ?_ _ | refine Below.alloc ?_ ?_ _ | refine Below.drew ?_)) <;> (first | omega | (simp <;> omega)))))).more (show w.heap.size ≤ _ from by first | omega | (simp <;> omega)))).mono ?_
      rintro e w1 ⟨v1, rfl, hown1, hb1⟩
      have hB1 : Below w.heap.size w w1 := Below.trans (by first | exact hbx | ((repeat' (first | exact hbx | refine Below.setCell ?_ ?_ _ | refine Below.alloc ?_ ?_ _ | refine Below.drew ?_)) <;> (first | omega | (simp <;> omega)))) (hb1.mono (by first | omega | (simp <;> omega)))
      have hs1 : w.heap.size ≤ w1.heap.size := hB1.size
      have ht1 := hb1.size
      try simp only [World.size_alloc, World.size_setCell] at ht1
      clear hbx hb1
      obtain ⟨Y1, hY1⟩ : ∃ Y1, Y1 = ifz (opFault a b (opL 1 a b)) (opL 1 a b) := ⟨_, rfl⟩
      rw [← hY1] at hown1
      have HY1 := Lib.hid hY1
      clear hY1
      obtain ⟨A1, c1, rfl, hr1⟩ := hown1.form
      clear hown1
      go_wp2_with fail
      refine (errU_same (opFault a b (opL 1 a b)) (twoFault a b) HO.out _ (by exact HG.out.belowB (show Below w.heap.size w _ from (by first | exact hB1 | ((repeat' (first | exact hB1 | refine Below.setCell ?_ ?_ _ | refine Below.alloc ?_ ?_ _ | refine Below.drew ?_)) <;> (first | omega | (simp <;> omega))))) HG.out.lt)).mono ?_
      rintro e w2 ⟨rfl, hb2⟩
      have hB2 : Below w.heap.size w w2 := Below.trans (by first | exact hB1 | ((repeat' (first | exact hB1 | refine Below.setCell ?_ ?_ _ | refine Below.alloc ?_ ?_ _ | refine Below.drew ?_)) <;> (first | omega | (simp <;> omega)))) (hb2.mono (by first | omega | (simp <;> omega)))
      have hs2 : w.heap.size ≤ w2.heap.size := hB2.size
      have ht2 := hb2.size
      try simp only [World.size_alloc, World.size_setCell] at ht2
      have hkw1_2 : Below w1.heap.size w1 w2 := Below.trans (by first | exact Below.refl _ _ | ((repeat' (first | exact Below.refl _ _ | refine Below.setCell ?_ ?_ _ | refine Below.alloc ?_ ?_ _ | refine Below.drew ?_)) <;> (first | omega | (simp <;> omega)))) (hb2.mono (by first | omega | (simp <;> omega)))
      clear hB1 hb2
      go_wp2_with fail
      refine (spans_same A1 none Y1 [] _ _ c1 0 rfl rfl (by rw [HY1.out, ifz_no (by rw [HO.out]; exact HNE.out)]; exact Nat.zero_le _) (by rw [HY1.out, ifz_no (by rw [HO.out]; exact HNE.out)]) _ ((hr1.below (show Below w1.heap.size w1 _ from (by first | exact hkw1_2 | ((repeat' (first | exact hkw1_2 | refine Below.setCell ?_ ?_ _ | refine Below.alloc ?_ ?_ _ | refine Below.drew ?_)) <;> (first | omega | (simp <;> omega)))))).more (show w1.heap.size ≤ _ from by first | omega | (simp <;> omega))) Rd.nil).mono ?_
      rintro e w3 ⟨rfl, hb3⟩
      have hB3 : Below w.heap.size w w3 := Below.trans (by first | exact hB2 | ((repeat' (first | exact hB2 | refine Below.setCell ?_ ?_ _ | refine Below.alloc ?_ ?_ _ | refine Below.drew ?_)) <;> (first | omega | (simp <;> omega)))) (hb3.mono (by first | omega | (simp <;> omega)))
      have hs3 : w.heap.size ≤ w3.heap.size := hB3.size
      have ht3 := hb3.size
      try simp only [World.size_alloc, World.size_setCell] at ht3
      have hkw1_3 : Below w1.heap.size w1 w3 := Below.trans (by first | exact hkw1_2 | ((repeat' (first | exact hkw1_2 | refine Below.setCell ?_ ?_ _ | refine Below.alloc ?_ ?_ _ | refine Below.drew ?_)) <;> (first | omega | (simp <;> omega)))) (hb3.mono (by first | omega | (simp <;> omega)))
      clear hkw1_2 hB2 hb3
      go_wp2_with fail
      go_roundw
      case rel => exact ⟨2, by omega, by omega, by go_num, (by first | exact hB3 | ((repeat' (first | exact hB3 | refine Below.setCell ?_ ?_ _ | refine Below.alloc ?_ ?_ _ | refine Below.drew ?_)) <;> (first | omega | (simp <;> omega))))⟩
      case measure => simp [intOf]
    · have HO := Lib.hid (show opFault a b (opL 2 a b) = twoFault a b from opFault_two HT.out)
      have HNE := Lib.hid (show twoFault a b ≠ 0 from HT.out)
      go_wp2_with fail
      refine (unionU B C a b d g hma hmb _ ((ha.below (show Below w.heap.size w _ from (by first | exact hbx | ((repeat' (first | exact hbx | refine Below.setCell ?_ ?_ _ | refine Below.alloc ?_ ?_ _ | refine Below.drew ?_)) <;> (first | omega | (simp <;> omega)))))).more (show w.heap.size ≤ _ from by first | omega | (simp <;> omega))) ((hb.below (show Below w.heap.size w _ from (by first | exact hbx | ((repeat' (first | exact hbx | refine Below.setCell ?_ ?_ _ | refine Below.alloc ?_ ?_ _ | refine Below.drew ?_)) <;> (first | omega | (simp <;> omega)))))).more (show w.heap.size ≤ _ from by first | omega | (simp <;> omega)))).mono ?_
      rintro e w1 ⟨v1, rfl, hown1, hb1⟩
      have hB1 : Below w.heap.size w w1 := Below.trans (by first | exact hbx | ((repeat' (first | exact hbx | refine Below.setCell ?_ ?_ _ | refine Below.alloc ?_ ?_ _ | refine Below.drew ?_)) <;> (first | omega | (simp <;> omega)))) (hb1.mono (by first | omega | (simp <;> omega)))
      have hs1 : w.heap.size ≤ w1.heap.size := hB1.size
      have ht1 := hb1.size
      try simp only [World.size_alloc, World.size_setCell] at ht1
      clear hbx hb1
      obtain ⟨Y1, hY1⟩ : ∃ Y1, Y1 = ifz (opFault a b (opL 1 a b)) (opL 1 a b) := ⟨_, rfl⟩
      rw [← hY1] at hown1
      have HY1 := Lib.hid hY1
      clear hY1
      obtain ⟨A1, c1, rfl, hr1⟩ := hown1.form
      clear hown1
      go_wp2_with fail
      refine (meetU B C a b d g hma hmb _ ((ha.below (show Below w.heap.size w _ from (by first | exact hB1 | ((repeat' (first | exact hB1 | refine Below.setCell ?_ ?_ _ | refine Below.alloc ?_ ?_ _ | refine Below.drew ?_)) <;> (first | omega | (simp <;> omega)))))).more (show w.heap.size ≤ _ from by first | omega | (simp <;> omega))) ((hb.below (show Below w.heap.size w _ from (by first | exact hB1 | ((repeat' (first | exact hB1 | refine Below.setCell ?_ ?_ _ | refine Below.alloc ?_ ?_ _ | refine Below.drew ?_)) <;> (first | omega | (simp <;> omega)))))).more (show w.heap.size ≤ _ from by first | omega | (simp <;> omega)))).mono ?_
      rintro e w2 ⟨v2, rfl, hown2, hb2⟩
      have hB2 : Below w.heap.size w w2 := Below.trans (by first | exact hB1 | ((repeat' (first | exact hB1 | refine Below.setCell ?_ ?_ _ | refine Below.alloc ?_ ?_ _ | refine Below.drew ?_)) <;> (first | omega | (simp <;> omega)))) (hb2.mono (by first | omega | (simp <;> omega)))
      have hs2 : w.heap.size ≤ w2.heap.size := hB2.size
      have ht2 := hb2.size
      try simp only [World.size_alloc, World.size_setCell] at ht2
      have hkw1_2 : Below w1.heap.size w1 w2 := Below.trans (by first | exact Below.refl _ _ | ((repeat' (first | exact Below.refl _ _ | refine Below.setCell ?_ ?_ _ | refine Below.alloc ?_ ?_ _ | refine Below.drew ?_)) <;> (first | omega | (simp <;> omega)))) (hb2.mono (by first | omega | (simp <;> omega)))
      clear hB1 hb2
      obtain ⟨Y2, hY2⟩ : ∃ Y2, Y2 = ifz (opFault a b (opL 2 a b)) (opL 2 a b) := ⟨_, rfl⟩
      rw [← hY2] at hown2
      have HY2 := Lib.hid hY2
      clear hY2
      obtain ⟨A2, c2, rfl, hr2⟩ := hown2.form
      clear hown2
      go_wp2_with fail
      refine (errU_same (opFault a b (opL 2 a b)) (twoFault a b) HO.out _ (by exact HG.out.belowB (show Below w.heap.size w _ from (by first | exact hB2 | ((repeat' (first | exact hB2 | refine Below.setCell ?_ ?_ _ | refine Below.alloc ?_ ?_ _ | refine Below.drew ?_)) <;> (first | omega | (simp <;> omega))))) HG.out.lt)).mono ?_
      rintro e w3 ⟨rfl, hb3⟩
      have hB3 : Below w.heap.size w w3 := Below.trans (by first | exact hB2 | ((repeat' (first | exact hB2 | refine Below.setCell ?_ ?_ _ | refine Below.alloc ?_ ?_ _ | refine Below.drew ?_)) <;> (first | omega | (simp <;> omega)))) (hb3.mono (by first | omega | (simp <;> omega)))
      have hs3 : w.heap.size ≤ w3.heap.size := hB3.size
      have ht3 := hb3.size
      try simp only [World.size_alloc, World.size_setCell] at ht3
      have hkw1_3 : Below w1.heap.size w1 w3 := Below.trans (by first | exact hkw1_2 | ((repeat' (first | exact hkw1_2 | refine Below.setCell ?_ ?_ _ | refine Below.alloc ?_ ?_ _ | refine Below.drew ?_)) <;> (first | omega | (simp <;> omega)))) (hb3.mono (by first | omega | (simp <;> omega)))
      have hkw2_3 : Below w2.heap.size w2 w3 := Below.trans (by first | exact Below.refl _ _ | ((repeat' (first | exact Below.refl _ _ | refine Below.setCell ?_ ?_ _ | refine Below.alloc ?_ ?_ _ | refine Below.drew ?_)) <;> (first | omega | (simp <;> omega)))) (hb3.mono (by first | omega | (simp <;> omega)))
      clear hkw1_2 hB2 hb3
      go_wp2_with fail
      refine (spans_same A2 none Y2 [] _ _ c2 0 rfl rfl (by rw [HY2.out, ifz_no (by rw [HO.out]; exact HNE.out)]; exact Nat.zero_le _) (by rw [HY2.out, ifz_no (by rw [HO.out]; exact HNE.out)]) _ ((hr2.below (show Below w2.heap.size w2 _ from (by first | exact hkw2_3 | ((repeat' (first | exact hkw2_3 | refine Below.setCell ?_ ?_ _ | refine Below.alloc ?_ ?_ _ | refine Below.drew ?_)) <;> (first | omega | (simp <;> omega)))))).more (show w2.heap.size ≤ _ from by first | omega | (simp <;> omega))) Rd.nil).mono ?_
      rintro e w4 ⟨rfl, hb4⟩
      have hB4 : Below w.heap.size w w4 := Below.trans (by first | exact hB3 | ((repeat' (first | exact hB3 | refine Below.setCell ?_ ?_ _ | refine Below.alloc ?_ ?_ _ | refine Below.drew ?_)) <;> (first | omega | (simp <;> omega)))) (hb4.mono (by first | omega | (simp <;> omega)))
      have hs4 : w.heap.size ≤ w4.heap.size := hB4.size
      have ht4 := hb4.size
      try simp only [World.size_alloc, World.size_setCell] at ht4
      have hkw1_4 : Below w1.heap.size w1 w4 := Below.trans (by first | exact hkw1_3 | ((repeat' (first | exact hkw1_3 | refine Below.setCell ?_ ?_ _ | refine Below.alloc ?_ ?_ _ | refine Below.drew ?_)) <;> (first | omega | (simp <;> omega)))) (hb4.mono (by first | omega | (simp <;> omega)))
      have hkw2_4 : Below w2.heap.size w2 w4 := Below.trans (by first | exact hkw2_3 | ((repeat' (first | exact hkw2_3 | refine Below.setCell ?_ ?_ _ | refine Below.alloc ?_ ?_ _ | refine Below.drew ?_)) <;> (first | omega | (simp <;> omega)))) (hb4.mono (by first | omega | (simp <;> omega)))
      clear hkw1_3 hkw2_3 hB3 hb4
      go_wp2_with fail
      go_roundw
      case rel => exact ⟨3, by omega, by omega, by go_num, (by first | exact hB4 | ((repeat' (first | exact hB4 | refine Below.setCell ?_ ?_ _ | refine Below.alloc ?_ ?_ _ | refine Below.drew ?_)) <;> (first | omega | (simp <;> omega))))⟩
      case measure => simp [intOf]
    · have HO := Lib.hid (show opFault a b (opL 3 a b) = twoFault a b from opFault_two HT.out)
      have HNE := Lib.hid (show twoFault a b ≠ 0 from HT.out)
      go_wp2_with fail
      refine (unionU B C a b d g hma hmb _ ((ha.below (show Below w.heap.size w _ from (by first | exact hbx | ((repeat' (first | exact hbx | refine Below.setCell ?_ ?_ _ | refine Below.alloc ?_ ?_ _ | refine Below.drew ?_)) <;> (first | omega | (simp <;> omega)))))).more (show w.heap.size ≤ _ from by first | omega | (simp <;> omega))) ((hb.below (show Below w.heap.size w _ from (by first | exact hbx | ((repeat' (first | exact hbx | refine Below.setCell ?_ ?_ _ | refine Below.alloc ?_ ?_ _ | refine Below.drew ?_)) <;> (first | omega | (simp <;> omega)))))).more (show w.heap.size ≤ _ from by first | omega | (simp <;> omega)))).mono ?_
      rintro e w1 ⟨v1, rfl, hown1, hb1⟩
      have hB1 : Below w.heap.size w w1 := Below.trans (by first | exact hbx | ((repeat' (first | exact hbx | refine Below.setCell ?_ ?_ _ | refine Below.alloc ?_ ?_ _ | refine Below.drew ?_)) <;> (first | omega | (simp <;> omega)))) (hb1.mono (by first | omega | (simp <;> omega)))
      have hs1 : w.heap.size ≤ w1.heap.size := hB1.size
      have ht1 := hb1.size
      try simp only [World.size_alloc, World.size_setCell] at ht1
      clear hbx hb1
      obtain ⟨Y1, hY1⟩ : ∃ Y1, Y1 = ifz (opFault a b (opL 1 a b)) (opL 1 a b) := ⟨_, rfl⟩
      rw [← hY1] at hown1
      have HY1 := Lib.hid hY1
      clear hY1
      obtain ⟨A1, c1, rfl, hr1⟩ := hown1.form
      clear hown1
      go_wp2_with fail
      refine (minusU B C a b d g hma hmb _ ((ha.below (show Below w.heap.size w _ from (by first | exact hB1 | ((repeat' (first | exact hB1 | refine Below.setCell ?_ ?_ _ | refine Below.alloc ?_ ?_ _ | refine Below.drew ?_)) <;> (first | omega | (simp <;> omega)))))).more (show w.heap.size ≤ _ from by first | omega | (simp <;> omega))) ((hb.below (show Below w.heap.size w _ from (by first | exact hB1 | ((repeat' (first | exact hB1 | refine Below.setCell ?_ ?_ _ | refine Below.alloc ?_ ?_ _ | refine Below.drew ?_)) <;> (first | omega | (simp <;> omega)))))).more (show w.heap.size ≤ _ from by first | omega | (simp <;> omega)))).mono ?_
      rintro e w2 ⟨v2, rfl, hown2, hb2⟩
      have hB2 : Below w.heap.size w w2 := Below.trans (by first | exact hB1 | ((repeat' (first | exact hB1 | refine Below.setCell ?_ ?_ _ | refine Below.alloc ?_ ?_ _ | refine Below.drew ?_)) <;> (first | omega | (simp <;> omega)))) (hb2.mono (by first | omega | (simp <;> omega)))
      have hs2 : w.heap.size ≤ w2.heap.size := hB2.size
      have ht2 := hb2.size
      try simp only [World.size_alloc, World.size_setCell] at ht2
      have hkw1_2 : Below w1.heap.size w1 w2 := Below.trans (by first | exact Below.refl _ _ | ((repeat' (first | exact Below.refl _ _ | refine Below.setCell ?_ ?_ _ | refine Below.alloc ?_ ?_ _ | refine Below.drew ?_)) <;> (first | omega | (simp <;> omega)))) (hb2.mono (by first | omega | (simp <;> omega)))
      clear hB1 hb2
      obtain ⟨Y3, hY3⟩ : ∃ Y3, Y3 = ifz (opFault a b (opL 3 a b)) (opL 3 a b) := ⟨_, rfl⟩
      rw [← hY3] at hown2
      have HY3 := Lib.hid hY3
      clear hY3
      obtain ⟨A2, c2, rfl, hr2⟩ := hown2.form
      clear hown2
      go_wp2_with fail
      refine (errU_same (opFault a b (opL 3 a b)) (twoFault a b) HO.out _ (by exact HG.out.belowB (show Below w.heap.size w _ from (by first | exact hB2 | ((repeat' (first | exact hB2 | refine Below.setCell ?_ ?_ _ | refine Below.alloc ?_ ?_ _ | refine Below.drew ?_)) <;> (first | omega | (simp <;> omega))))) HG.out.lt)).mono ?_
      rintro e w3 ⟨rfl, hb3⟩
      have hB3 : Below w.heap.size w w3 := Below.trans (by first | exact hB2 | ((repeat' (first | exact hB2 | refine Below.setCell ?_ ?_ _ | refine Below.alloc ?_ ?_ _ | refine Below.drew ?_)) <;> (first | omega | (simp <;> omega)))) (hb3.mono (by first | omega | (simp <;> omega)))
      have hs3 : w.heap.size ≤ w3.heap.size := hB3.size
      have ht3 := hb3.size
      try simp only [World.size_alloc, World.size_setCell] at ht3
      have hkw1_3 : Below w1.heap.size w1 w3 := Below.trans (by first | exact hkw1_2 | ((repeat' (first | exact hkw1_2 | refine Below.setCell ?_ ?_ _ | refine Below.alloc ?_ ?_ _ | refine Below.drew ?_)) <;> (first | omega | (simp <;> omega)))) (hb3.mono (by first | omega | (simp <;> omega)))
      have hkw2_3 : Below w2.heap.size w2 w3 := Below.trans (by first | exact Below.refl _ _ | ((repeat' (first | exact Below.refl _ _ | refine Below.setCell ?_ ?_ _ | refine Below.alloc ?_ ?_ _ | refine Below.drew ?_)) <;> (first | omega | (simp <;> omega)))) (hb3.mono (by first | omega | (simp <;> omega)))
      clear hkw1_2 hB2 hb3
      go_wp2_with fail
      refine (spans_same A2 none Y3 [] _ _ c2 0 rfl rfl (by rw [HY3.out, ifz_no (by rw [HO.out]; exact HNE.out)]; exact Nat.zero_le _) (by rw [HY3.out, ifz_no (by rw [HO.out]; exact HNE.out)]) _ ((hr2.below (show Below w2.heap.size w2 _ from (by first | exact hkw2_3 | ((repeat' (first | exact hkw2_3 | refine Below.setCell ?_ ?_ _ | refine Below.alloc ?_ ?_ _ | refine Below.drew ?_)) <;> (first | omega | (simp <;> omega)))))).more (show w2.heap.size ≤ _ from by first | omega | (simp <;> omega))) Rd.nil).mono ?_
      rintro e w4 ⟨rfl, hb4⟩
      have hB4 : Below w.heap.size w w4 := Below.trans (by first | exact hB3 | ((repeat' (first | exact hB3 | refine Below.setCell ?_ ?_ _ | refine Below.alloc ?_ ?_ _ | refine Below.drew ?_)) <;> (first | omega | (simp <;> omega)))) (hb4.mono (by first | omega | (simp <;> omega)))
      have hs4 : w.heap.size ≤ w4.heap.size := hB4.size
      have ht4 := hb4.size
      try simp only [World.size_alloc, World.size_setCell] at ht4
      have hkw1_4 : Below w1.heap.size w1 w4 := Below.trans (by first | exact hkw1_3 | ((repeat' (first | exact hkw1_3 | refine Below.setCell ?_ ?_ _ | refine Below.alloc ?_ ?_ _ | refine Below.drew ?_)) <;> (first | omega | (simp <;> omega)))) (hb4.mono (by first | omega | (simp <;> omega)))
      have hkw2_4 : Below w2.heap.size w2 w4 := Below.trans (by first | exact hkw2_3 | ((repeat' (first | exact hkw2_3 | refine Below.setCell ?_ ?_ _ | refine Below.alloc ?_ ?_ _ | refine Below.drew ?_)) <;> (first | omega | (simp <;> omega)))) (hb4.mono (by first | omega | (simp <;> omega)))
      clear hkw1_3 hkw2_3 hB3 hb4
      go_wp2_with fail
      go_roundw
      case rel => exact ⟨4, by omega, by omega, by go_num, (by first | exact hB4 | ((repeat' (first | exact hB4 | refine Below.setCell ?_ ?_ _ | refine Below.alloc ?_ ?_ _ | refine Below.drew ?_)) <;> (first | omega | (simp <;> omega))))⟩
      case measure => simp [intOf]
    · go_wp2_with fail
      go_ret
      exact ⟨rfl, hbx⟩
set_option maxRecDepth 100000 in
set_option maxHeartbeats 8000000 in
theorem spanSets_7b (A : Option Addr) (l : List Sp) (c : Nat) (B : Option Addr) (a : List Sp) (d : Nat) (C : Option Addr) (b : List Sp) (g : Nat) (x : Int) (hm : l.length ≤ maxLen) (hma : a.length ≤ maxLen) (hmb : b.length ≤ maxLen) (w : World) (hg : ErrVar w) (hl : Rd w w.heap.size A (cellsP l)) (ha : Rd w w.heap.size B (cellsP a)) (hb : Rd w w.heap.size C (cellsP b)) (ht : twoFault a b = 0) (s0 : Act) (w0 : World) (h0 : SSmid A l c B a d C b g x w 0 s0 w0) :
    (tailN 1 (tailN 8 (tailN 5 (tailN 3 (tailN 6 (tailN 1 (tailN 3 (Tryd.f3.body.getD .skip)))))))).wp Tryd.prog (bodyPost Tryd.prog Tryd.f3 fun e w' => e = .returned (.bool true) ∧ Below w.heap.size w w') s0 w0 := by
  have HG := Lib.hid hg
  clear hg
  obtain ⟨ga, gb⟩ := twoFault_zero.1 ht
  have hla := (set_good ga).1
  have hlb := (set_good gb).1
  have VA := Lib.hid (set_good ga).2.1
  have VB := Lib.hid (set_good gb).2.1
  have GA := Lib.hid ga
  have GB := Lib.hid gb
  have HT := Lib.hid ht
  clear ht ga gb
  obtain ⟨U, rfl, hB0⟩ := h0
  dsimp only [Tryd.f3, Option.getD, tailN]
  have hs0 := hB0.size
  go_wp2_with fail
  go_loopw [24] (fun i wx => ∃ h : Int, 1 ≤ h ∧ h ≤ 4 ∧ i = .int .i64 h ∧ Below w.heap.size w wx) (fun i _ => (4 - intOf i).toNat)
  case atStart => exact ⟨1, by omega, by omega, rfl, hB0⟩
  case round =>
    obtain ⟨h, h1, h4, rfl, hbx⟩ := hrel
    have hs := hbx.size
    rcases show h = 1 ∨ h = 2 ∨ h = 3 ∨ h = 4 by omega with rfl | rfl | rfl | rfl
    · by_cases h64 : (together a b 1).length ≤ 64
      · have HTO := Lib.hid (show together a b 1 = opL 1 a b from tog_op (.inl rfl) GA.out GB.out)
        have H64 := Lib.hid h64
        have HO := Lib.hid (show opFault a b (opL 1 a b) = 0 by rw [opFault_op (.inl rfl) HT.out, if_neg (by omega)])
        clear h64
        go_wp2_with fail
        refine (together_any B C a b d g 1 (.inl rfl) _ (by omega) (by omega) VA.out VB.out ((ha.below (show Below w.heap.size w _ from (by first | exact hbx | ((repeat' (first | exact hbx | refine Below.setCell ?_ ?_ _ | refine Below.alloc ?_ ?_ _ | refine Below.drew ?_)) <;> (first | omega | (simp <;> omega)))))).more (show w.heap.size ≤ _ from by first | omega | (simp <;> omega))) ((hb.below (show Below w.heap.size w _ from (by first | exact hbx | ((repeat' (first | exact hbx | refine Below.setCell ?_ ?_ _ | refine Below.alloc ?_ ?_ _ | refine Below.drew ?_)) <;> (first | omega | (simp <;> omega)))))).more (show w.heap.size ≤ _ from by first | omega | (simp <;> omega)))).mono ?_
        rintro e w1 ⟨v1, rfl, hown1, hb1⟩
        have hB1 : Below w.heap.size w w1 := Below.trans (by first | exact hbx | ((repeat' (first | exact hbx | refine Below.setCell ?_ ?_ _ | refine Below.alloc ?_ ?_ _ | refine Below.drew ?_)) <;> (first | omega | (simp <;> omega)))) (hb1.mono (by first | omega | (simp <;> omega)))
        have hs1 : w.heap.size ≤ w1.heap.size := hB1.size
        have ht1 := hb1.size
        try simp only [World.size_alloc, World.size_setCell] at ht1
        clear hbx hb1
        obtain ⟨X, hX⟩ : ∃ X, X = together a b 1 := ⟨_, rfl⟩
        rw [← hX] at hown1
        have HX := Lib.hid hX
        clear hX
        obtain ⟨A1, c1, rfl, hr1⟩ := hown1.form
        clear hown1
        have hx64 : X.length ≤ 64 := by rw [HX.out]; exact H64.out
        go_wp2_with fail
        refine (unionU B C a b d g hma hmb _ ((ha.below (show Below w.heap.size w _ from (by first | exact hB1 | ((repeat' (first | exact hB1 | refine Below.setCell ?_ ?_ _ | refine Below.alloc ?_ ?_ _ | refine Below.drew ?_)) <;> (first | omega | (simp <;> omega)))))).more (show w.heap.size ≤ _ from by first | omega | (simp <;> omega))) ((hb.below (show Below w.heap.size w _ from (by first | exact hB1 | ((repeat' (first | exact hB1 | refine Below.setCell ?_ ?_ _ | refine Below.alloc ?_ ?_ _ | refine Below.drew ?_)) <;> (first | omega | (simp <;> omega)))))).more (show w.heap.size ≤ _ from by first | omega | (simp <;> omega)))).mono ?_
        rintro e w2 ⟨v2, rfl, hown2, hb2⟩
        have hB2 : Below w.heap.size w w2 := Below.trans (by first | exact hB1 | ((repeat' (first | exact hB1 | refine Below.setCell ?_ ?_ _ | refine Below.alloc ?_ ?_ _ | refine Below.drew ?_)) <;> (first | omega | (simp <;> omega)))) (hb2.mono (by first | omega | (simp <;> omega)))
        have hs2 : w.heap.size ≤ w2.heap.size := hB2.size
        have ht2 := hb2.size
        try simp only [World.size_alloc, World.size_setCell] at ht2
        have hkw1_2 : Below w1.heap.size w1 w2 := Below.trans (by first | exact Below.refl _ _ | ((repeat' (first | exact Below.refl _ _ | refine Below.setCell ?_ ?_ _ | refine Below.alloc ?_ ?_ _ | refine Below.drew ?_)) <;> (first | omega | (simp <;> omega)))) (hb2.mono (by first | omega | (simp <;> omega)))
        clear hB1 hb2
        obtain ⟨Y1, hY1⟩ : ∃ Y1, Y1 = ifz (opFault a b (opL 1 a b)) (opL 1 a b) := ⟨_, rfl⟩
        rw [← hY1] at hown2
        have HY1 := Lib.hid hY1
        clear hY1
        obtain ⟨A2, c2, rfl, hr2⟩ := hown2.form
        clear hown2
        go_wp2_with fail
        refine (errU_same (opFault a b (opL 1 a b)) 0 HO.out _ (by exact HG.out.belowB (show Below w.heap.size w _ from (by first | exact hB2 | ((repeat' (first | exact hB2 | refine Below.setCell ?_ ?_ _ | refine Below.alloc ?_ ?_ _ | refine Below.drew ?_)) <;> (first | omega | (simp <;> omega))))) HG.out.lt)).mono ?_
        rintro e w3 ⟨rfl, hb3⟩
        have hB3 : Below w.heap.size w w3 := Below.trans (by first | exact hB2 | ((repeat' (first | exact hB2 | refine Below.setCell ?_ ?_ _ | refine Below.alloc ?_ ?_ _ | refine Below.drew ?_)) <;> (first | omega | (simp <;> omega)))) (hb3.mono (by first | omega | (simp <;> omega)))
        have hs3 : w.heap.size ≤ w3.heap.size := hB3.size
        have ht3 := hb3.size
        try simp only [World.size_alloc, World.size_setCell] at ht3
        have hkw1_3 : Below w1.heap.size w1 w3 := Below.trans (by first | exact hkw1_2 | ((repeat' (first | exact hkw1_2 | refine Below.setCell ?_ ?_ _ | refine Below.alloc ?_ ?_ _ | refine Below.drew ?_)) <;> (first | omega | (simp <;> omega)))) (hb3.mono (by first | omega | (simp <;> omega)))
        have hkw2_3 : Below w2.heap.size w2 w3 := Below.trans (by first | exact Below.refl _ _ | ((repeat' (first | exact Below.refl _ _ | refine Below.setCell ?_ ?_ _ | refine Below.alloc ?_ ?_ _ | refine Below.drew ?_)) <;> (first | omega | (simp <;> omega)))) (hb3.mono (by first | omega | (simp <;> omega)))
        clear hkw1_2 hB2 hb3
        go_wp2_with fail
        refine (spans_same A2 A1 Y1 X _ _ c2 c1 rfl rfl (by unfold maxLen; have : Y1.length ≤ 64 := (by rw [HY1.out, HO.out, ifz_zero, ← HTO.out, ← HX.out]; exact hx64); omega) (by rw [HX.out, HY1.out, HO.out, ifz_zero, HTO.out]) _ ((hr2.below (show Below w2.heap.size w2 _ from (by first | exact hkw2_3 | ((repeat' (first | exact hkw2_3 | refine Below.setCell ?_ ?_ _ | refine Below.alloc ?_ ?_ _ | refine Below.drew ?_)) <;> (first | omega | (simp <;> omega)))))).more (show w2.heap.size ≤ _ from by first | omega | (simp <;> omega))) ((hr1.below (show Below w1.heap.size w1 _ from (by first | exact hkw1_3 | ((repeat' (first | exact hkw1_3 | refine Below.setCell ?_ ?_ _ | refine Below.alloc ?_ ?_ _ | refine Below.drew ?_)) <;> (first | omega | (simp <;> omega)))))).more (show w1.heap.size ≤ _ from by first | omega | (simp <;> omega)))).mono ?_
        rintro e w4 ⟨rfl, hb4⟩
        have hB4 : Below w.heap.size w w4 := Below.trans (by first | exact hB3 | ((repeat' (first | exact hB3 | refine Below.setCell ?_ ?_ _ | refine Below.alloc ?_ ?_ _ | refine Below.drew ?_)) <;> (first | omega | (simp <;> omega)))) (hb4.mono (by first | omega | (simp <;> omega)))
        have hs4 : w.heap.size ≤ w4.heap.size := hB4.size
        have ht4 := hb4.size
        try simp only [World.size_alloc, World.size_setCell] at ht4
        have hkw1_4 : Below w1.heap.size w1 w4 := Below.trans (by first | exact hkw1_3 | ((repeat' (first | exact hkw1_3 | refine Below.setCell ?_ ?_ _ | refine Below.alloc ?_ ?_ _ | refine Below.drew ?_)) <;> (first | omega | (simp <;> omega)))) (hb4.mono (by first | omega | (simp <;> omega)))
        have hkw2_4 : Below w2.heap.size w2 w4 := Below.trans (by first | exact hkw2_3 | ((repeat' (first | exact hkw2_3 | refine Below.setCell ?_ ?_ _ | refine Below.alloc ?_ ?_ _ | refine Below.drew ?_)) <;> (first | omega | (simp <;> omega)))) (hb4.mono (by first | omega | (simp <;> omega)))
        clear hkw1_3 hkw2_3 hB3 hb4
        go_wp2_with fail
        go_roundw
        case rel => exact ⟨2, by omega, by omega, by go_num, (by first | exact hB4 | ((repeat' (first | exact hB4 | refine Below.setCell ?_ ?_ _ | refine Below.alloc ?_ ?_ _ | refine Below.drew ?_)) <;> (first | omega | (simp <;> omega))))⟩
        case measure => simp [intOf]
      · have H64 := Lib.hid (show 64 < (together a b 1).length by omega)
        have HO := Lib.hid (show opFault a b (opL 1 a b) = 3 by rw [opFault_op (.inl rfl) HT.out, if_pos (by omega)])
        have HNE := Lib.hid (show (3 : Int) ≠ 0 by decide)
        clear h64
        go_wp2_with fail
        refine (together_any B C a b d g 1 (.inl rfl) _ (by omega) (by omega) VA.out VB.out ((ha.below (show Below w.heap.size w _ from (by first | exact hbx | ((repeat' (first | exact hbx | refine Below.setCell ?_ ?_ _ | refine Below.alloc ?_ ?_ _ | refine Below.drew ?_)) <;> (first | omega | (simp <;> omega)))))).more (show w.heap.size ≤ _ from by first | omega | (simp <;> omega))) ((hb.below (show Below w.heap.size w _ from (by first | exact hbx | ((repeat' (first | exact hbx | refine Below.setCell ?_ ?_ _ | refine Below.alloc ?_ ?_ _ | refine Below.drew ?_)) <;> (first | omega | (simp <;> omega)))))).more (show w.heap.size ≤ _ from by first | omega | (simp <;> omega)))).mono ?_
        rintro e w1 ⟨v1, rfl, hown1, hb1⟩
        have hB1 : Below w.heap.size w w1 := Below.trans (by first | exact hbx | ((repeat' (first | exact hbx | refine Below.setCell ?_ ?_ _ | refine Below.alloc ?_ ?_ _ | refine Below.drew ?_)) <;> (first | omega | (simp <;> omega)))) (hb1.mono (by first | omega | (simp <;> omega)))
        have hs1 : w.heap.size ≤ w1.heap.size := hB1.size
        have ht1 := hb1.size
        try simp only [World.size_alloc, World.size_setCell] at ht1
        clear hbx hb1
        obtain ⟨X, hX⟩ : ∃ X, X = together a b 1 := ⟨_, rfl⟩
        rw [← hX] at hown1
        have HX := Lib.hid hX
        clear hX
        obtain ⟨A1, c1, rfl, hr1⟩ := hown1.form
        clear hown1
        have hx64 : 64 < X.length := by rw [HX.out]; exact H64.out
        go_wp2_with fail
        refine (unionU B C a b d g hma hmb _ ((ha.below (show Below w.heap.size w _ from (by first | exact hB1 | ((repeat' (first | exact hB1 | refine Below.setCell ?_ ?_ _ | refine Below.alloc ?_ ?_ _ | refine Below.drew ?_)) <;> (first | omega | (simp <;> omega)))))).more (show w.heap.size ≤ _ from by first | omega | (simp <;> omega))) ((hb.below (show Below w.heap.size w _ from (by first | exact hB1 | ((repeat' (first | exact hB1 | refine Below.setCell ?_ ?_ _ | refine Below.alloc ?_ ?_ _ | refine Below.drew ?_)) <;> (first | omega | (simp <;> omega)))))).more (show w.heap.size ≤ _ from by first | omega | (simp <;> omega)))).mono ?_
        rintro e w2 ⟨v2, rfl, hown2, hb2⟩
        have hB2 : Below w.heap.size w w2 := Below.trans (by first | exact hB1 | ((repeat' (first | exact hB1 | refine Below.setCell ?_ ?_ _ | refine Below.alloc ?_ ?_ _ | refine Below.drew ?_)) <;> (first | omega | (simp <;> omega)))) (hb2.mono (by first | omega | (simp <;> omega)))
        have hs2 : w.heap.size ≤ w2.heap.size := hB2.size
        have ht2 := hb2.size
        try simp only [World.size_alloc, World.size_setCell] at ht2
        have hkw1_2 : Below w1.heap.size w1 w2 := Below.trans (by first | exact Below.refl _ _ | ((repeat' (first | exact Below.refl _ _ | refine Below.setCell ?_ ?_ _ | refine Below.alloc ?_ ?_ _ | refine Below.drew ?_)) <;> (first | omega | (simp <;> omega)))) (hb2.mono (by first | omega | (simp <;> omega)))
        clear hB1 hb2
        obtain ⟨Y1, hY1⟩ : ∃ Y1, Y1 = ifz (opFault a b (opL 1 a b)) (opL 1 a b) := ⟨_, rfl⟩
        rw [← hY1] at hown2
        have HY1 := Lib.hid hY1
        clear hY1
        obtain ⟨A2, c2, rfl, hr2⟩ := hown2.form
        clear hown2
        go_wp2_with fail
        refine (errU_same (opFault a b (opL 1 a b)) 3 HO.out _ (by exact HG.out.belowB (show Below w.heap.size w _ from (by first | exact hB2 | ((repeat' (first | exact hB2 | refine Below.setCell ?_ ?_ _ | refine Below.alloc ?_ ?_ _ | refine Below.drew ?_)) <;> (first | omega | (simp <;> omega))))) HG.out.lt)).mono ?_
        rintro e w3 ⟨rfl, hb3⟩
        have hB3 : Below w.heap.size w w3 := Below.trans (by first | exact hB2 | ((repeat' (first | exact hB2 | refine Below.setCell ?_ ?_ _ | refine Below.alloc ?_ ?_ _ | refine Below.drew ?_)) <;> (first | omega | (simp <;> omega)))) (hb3.mono (by first | omega | (simp <;> omega)))
        have hs3 : w.heap.size ≤ w3.heap.size := hB3.size
        have ht3 := hb3.size
        try simp only [World.size_alloc, World.size_setCell] at ht3
        have hkw1_3 : Below w1.heap.size w1 w3 := Below.trans (by first | exact hkw1_2 | ((repeat' (first | exact hkw1_2 | refine Below.setCell ?_ ?_ _ | refine Below.alloc ?_ ?_ _ | refine Below.drew ?_)) <;> (first | omega | (simp <;> omega)))) (hb3.mono (by first | omega | (simp <;> omega)))
        have hkw2_3 : Below w2.heap.size w2 w3 := Below.trans (by first | exact Below.refl _ _ | ((repeat' (first | exact Below.refl _ _ | refine Below.setCell ?_ ?_ _ | refine Below.alloc ?_ ?_ _ | refine Below.drew ?_)) <;> (first | omega | (simp <;> omega)))) (hb3.mono (by first | omega | (simp <;> omega)))
        clear hkw1_2 hB2 hb3
        go_wp2_with fail
        refine (spans_same A2 none Y1 [] _ _ c2 0 rfl rfl (by rw [HY1.out, ifz_no (by rw [HO.out]; exact HNE.out)]; exact Nat.zero_le _) (by rw [HY1.out, ifz_no (by rw [HO.out]; exact HNE.out)]) _ ((hr2.below (show Below w2.heap.size w2 _ from (by first | exact hkw2_3 | ((repeat' (first | exact hkw2_3 | refine Below.setCell ?_ ?_ _ | refine Below.alloc ?_ ?_ _ | refine Below.drew ?_)) <;> (first | omega | (simp <;> omega)))))).more (show w2.heap.size ≤ _ from by first | omega | (simp <;> omega))) Rd.nil).mono ?_
        rintro e w4 ⟨rfl, hb4⟩
        have hB4 : Below w.heap.size w w4 := Below.trans (by first | exact hB3 | ((repeat' (first | exact hB3 | refine Below.setCell ?_ ?_ _ | refine Below.alloc ?_ ?_ _ | refine Below.drew ?_)) <;> (first | omega | (simp <;> omega)))) (hb4.mono (by first | omega | (simp <;> omega)))
        have hs4 : w.heap.size ≤ w4.heap.size := hB4.size
        have ht4 := hb4.size
        try simp only [World.size_alloc, World.size_setCell] at ht4
        have hkw1_4 : Below w1.heap.size w1 w4 := Below.trans (by first | exact hkw1_3 | ((repeat' (first | exact hkw1_3 | refine Below.setCell ?_ ?_ _ | refine Below.alloc ?_ ?_ _ | refine Below.drew ?_)) <;> (first | omega | (simp <;> omega)))) (hb4.mono (by first | omega | (simp <;> omega)))
        have hkw2_4 : Below w2.heap.size w2 w4 := Below.trans (by first | exact hkw2_3 | ((repeat' (first | exact hkw2_3 | refine Below.setCell ?_ ?_ _ | refine Below.alloc ?_ ?_ _ | refine Below.drew ?_)) <;> (first | omega | (simp <;> omega)))) (hb4.mono (by first | omega | (simp <;> omega)))
        clear hkw1_3 hkw2_3 hB3 hb4
        go_wp2_with fail
        go_roundw
        case rel => exact ⟨2, by omega, by omega, by go_num, (by first | exact hB4 | ((repeat' (first | exact hB4 | refine Below.setCell ?_ ?_ _ | refine Below.alloc ?_ ?_ _ | refine Below.drew ?_)) <;> (first | omega | (simp <;> omega))))⟩
        case measure => simp [intOf]
    · by_cases h64 : (together a b 2).length ≤ 64
      · have HTO := Lib.hid (show together a b 2 = opL 2 a b from tog_op (.inr (.inl rfl)) GA.out GB.out)
        have H64 := Lib.hid h64
        have HO := Lib.hid (show opFault a b (opL 2 a b) = 0 by rw [opFault_op (.inr (.inl rfl)) HT.out, if_neg (by omega)])
        clear h64
        go_wp2_with fail
        refine (together_any B C a b d g 2 (.inr (.inl rfl)) _ (by omega) (by omega) VA.out VB.out ((ha.below (show Below w.heap.size w _ from (by first | exact hbx | ((repeat' (first | exact hbx | refine Below.setCell ?_ ?_ _ | refine Below.alloc ?_ ?_ _ | refine Below.drew ?_)) <;> (first | omega | (simp <;> omega)))))).more (show w.heap.size ≤ _ from by first | omega | (simp <;> omega))) ((hb.below (show Below w.heap.size w _ from (by first | exact hbx | ((repeat' (first | exact hbx | refine Below.setCell ?_ ?_ _ | refine Below.alloc ?_ ?_ _ | refine Below.drew ?_)) <;> (first | omega | (simp <;> omega)))))).more (show w.heap.size ≤ _ from by first | omega | (simp <;> omega)))).mono ?_
        rintro e w1 ⟨v1, rfl, hown1, hb1⟩
        have hB1 : Below w.heap.size w w1 := Below.trans (by first | exact hbx | ((repeat' (first | exact hbx | refine Below.setCell ?_ ?_ _ | refine Below.alloc ?_ ?_ _ | refine Below.drew ?_)) <;> (first | omega | (simp <;> omega)))) (hb1.mono (by first | omega | (simp <;> omega)))
        have hs1 : w.heap.size ≤ w1.heap.size := hB1.size
        have ht1 := hb1.size
        try simp only [World.size_alloc, World.size_setCell] at ht1
        clear hbx hb1
        obtain ⟨X, hX⟩ : ∃ X, X = together a b 2 := ⟨_, rfl⟩
        rw [← hX] at hown1
        have HX := Lib.hid hX
        clear hX
        obtain ⟨A1, c1, rfl, hr1⟩ := hown1.form
        clear hown1
        have hx64 : X.length ≤ 64 := by rw [HX.out]; exact H64.out
        go_wp2_with fail
        refine (unionU B C a b d g hma hmb _ ((ha.below (show Below w.heap.size w _ from (by first | exact hB1 | ((repeat' (first | exact hB1 | refine Below.setCell ?_ ?_ _ | refine Below.alloc ?_ ?_ _ | refine Below.drew ?_)) <;> (first | omega | (simp <;> omega)))))).more (show w.heap.size ≤ _ from by first | omega | (simp <;> omega))) ((hb.below (show Below w.heap.size w _ from (by first | exact hB1 | ((repeat' (first | exact hB1 | refine Below.setCell ?_ ?_ _ | refine Below.alloc ?_ ?_ _ | refine Below.drew ?_)) <;> (first | omega | (simp <;> omega)))))).more (show w.heap.size ≤ _ from by first | omega | (simp <;> omega)))).mono ?_
        rintro e w2 ⟨v2, rfl, hown2, hb2⟩
        have hB2 : Below w.heap.size w w2 := Below.trans (by first | exact hB1 | ((repeat' (first | exact hB1 | refine Below.setCell ?_ ?_ _ | refine Below.alloc ?_ ?_ _ | refine Below.drew ?_)) <;> (first | omega | (simp <;> omega)))) (hb2.mono (by first | omega | (simp <;> omega)))
        have hs2 : w.heap.size ≤ w2.heap.size := hB2.size
        have ht2 := hb2.size
        try simp only [World.size_alloc, World.size_setCell] at ht2
        have hkw1_2 : Below w1.heap.size w1 w2 := Below.trans (by first | exact Below.refl _ _ | ((repeat' (first | exact Below.refl _ _ | refine Below.setCell ?_ ?_ _ | refine Below.alloc ?_ ?_ _ | refine Below.drew ?_)) <;> (first | omega | (simp <;> omega)))) (hb2.mono (by first | omega | (simp <;> omega)))
        clear hB1 hb2
        obtain ⟨Y1, hY1⟩ : ∃ Y1, Y1 = ifz (opFault a b (opL 1 a b)) (opL 1 a b) := ⟨_, rfl⟩
        rw [← hY1] at hown2
        have HY1 := Lib.hid hY1
        clear hY1
        obtain ⟨A2, c2, rfl, hr2⟩ := hown2.form
        clear hown2
        go_wp2_with fail
        refine (meetU B C a b d g hma hmb _ ((ha.below (show Below w.heap.size w _ from (by first | exact hB2 | ((repeat' (first | exact hB2 | refine Below.setCell ?_ ?_ _ | refine Below.alloc ?_ ?_ _ | refine Below.drew ?_)) <;> (first | omega | (simp <;> omega)))))).more (show w.heap.size ≤ _ from by first | omega | (simp <;> omega))) ((hb.below (show Below w.heap.size w _ from (by first | exact hB2 | ((repeat' (first | exact hB2 | refine Below.setCell ?_ ?_ _ | refine Below.alloc ?_ ?_ _ | refine Below.drew ?_)) <;> (first | omega | (simp <;> omega)))))).more (show w.heap.size ≤ _ from by first | omega | (simp <;> omega)))).mono ?_
        rintro e w3 ⟨v3, rfl, hown3, hb3⟩
        have hB3 : Below w.heap.size w w3 := Below.trans (by first | exact hB2 | ((repeat' (first | exact hB2 | refine Below.setCell ?_ ?_ _ | refine Below.alloc ?_ ?_ _ | refine Below.drew ?_)) <;> (first | omega | (simp <;> omega)))) (hb3.mono (by first | omega | (simp <;> omega)))
        have hs3 : w.heap.size ≤ w3.heap.size := hB3.size
        have ht3 := hb3.size
        try simp only [World.size_alloc, World.size_setCell] at ht3
        have hkw1_3 : Below w1.heap.size w1 w3 := Below.trans (by first | exact hkw1_2 | ((repeat' (first | exact hkw1_2 | refine Below.setCell ?_ ?_ _ | refine Below.alloc ?_ ?_ _ | refine Below.drew ?_)) <;> (first | omega | (simp <;> omega)))) (hb3.mono (by first | omega | (simp <;> omega)))
        have hkw2_3 : Below w2.heap.size w2 w3 := Below.trans (by first | exact Below.refl _ _ | ((repeat' (first | exact Below.refl _ _ | refine Below.setCell ?_ ?_ _ | refine Below.alloc ?_ ?_ _ | refine Below.drew ?_)) <;> (first | omega | (simp <;> omega)))) (hb3.mono (by first | omega | (simp <;> omega)))
        clear hkw1_2 hB2 hb3
        obtain ⟨Y2, hY2⟩ : ∃ Y2, Y2 = ifz (opFault a b (opL 2 a b)) (opL 2 a b) := ⟨_, rfl⟩
        rw [← hY2] at hown3
        have HY2 := Lib.hid hY2
        clear hY2
        obtain ⟨A3, c3, rfl, hr3⟩ := hown3.form
        clear hown3
        go_wp2_with fail
        refine (errU_same (opFault a b (opL 2 a b)) 0 HO.out _ (by exact HG.out.belowB (show Below w.heap.size w _ from (by first | exact hB3 | ((repeat' (first | exact hB3 | refine Below.setCell ?_ ?_ _ | refine Below.alloc ?_ ?_ _ | refine Below.drew ?_)) <;> (first | omega | (simp <;> omega))))) HG.out.lt)).mono ?_
        rintro e w4 ⟨rfl, hb4⟩
        have hB4 : Below w.heap.size w w4 := Below.trans (by first | exact hB3 | ((repeat' (first | exact hB3 | refine Below.setCell ?_ ?_ _ | refine Below.alloc ?_ ?_ _ | refine Below.drew ?_)) <;> (first | omega | (simp <;> omega)))) (hb4.mono (by first | omega | (simp <;> omega)))
        have hs4 : w.heap.size ≤ w4.heap.size := hB4.size
        have ht4 := hb4.size
        try simp only [World.size_alloc, World.size_setCell] at ht4
        have hkw1_4 : Below w1.heap.size w1 w4 := Below.trans (by first | exact hkw1_3 | ((repeat' (first | exact hkw1_3 | refine Below.setCell ?_ ?_ _ | refine Below.alloc ?_ ?_ _ | refine Below.drew ?_)) <;> (first | omega | (simp <;> omega)))) (hb4.mono (by first | omega | (simp <;> omega)))
        have hkw2_4 : Below w2.heap.size w2 w4 := Below.trans (by first | exact hkw2_3 | ((repeat' (first | exact hkw2_3 | refine Below.setCell ?_ ?_ _ | refine Below.alloc ?_ ?_ _ | refine Below.drew ?_)) <;> (first | omega | (simp <;> omega)))) (hb4.mono (by first | omega | (simp <;> omega)))
        have hkw3_4 : Below w3.heap.size w3 w4 := Below.trans (by first | exact Below.refl _ _ | ((repeat' (first | exact Below.refl _ _ | refine Below.setCell ?_ ?_ _ | refine Below.alloc ?_ ?_ _ | refine Below.drew ?_)) <;> (first | omega | (simp <;> omega)))) (hb4.mono (by first | omega | (simp <;> omega)))
        clear hkw1_3 hkw2_3 hB3 hb4
        go_wp2_with fail
        refine (spans_same A3 A1 Y2 X _ _ c3 c1 rfl rfl (by unfold maxLen; have : Y2.length ≤ 64 := (by rw [HY2.out, HO.out, ifz_zero, ← HTO.out, ← HX.out]; exact hx64); omega) (by rw [HX.out, HY2.out, HO.out, ifz_zero, HTO.out]) _ ((hr3.below (show Below w3.heap.size w3 _ from (by first | exact hkw3_4 | ((repeat' (first | exact hkw3_4 | refine Below.setCell ?_ ?_ _ | refine Below.alloc ?_ ?_ _ | refine Below.drew ?_)) <;> (first | omega | (simp <;> omega)))))).more (show w3.heap.size ≤ _ from by first | omega | (simp <;> omega))) ((hr1.below (show Below w1.heap.size w1 _ from (by first | exact hkw1_4 | ((repeat' (first | exact hkw1_4 | refine Below.setCell ?_ ?_ _ | refine Below.alloc ?_ ?_ _ | refine Below.drew ?_)) <;> (first | omega | (simp <;> omega)))))).more (show w1.heap.size ≤ _ from by first | omega | (simp <;> omega)))).mono ?_
        rintro e w5 ⟨rfl, hb5⟩
        have hB5 : Below w.heap.size w w5 := Below.trans (by first | exact hB4 | ((repeat' (first | exact hB4 | refine Below.setCell ?_ ?_ _ | refine Below.alloc ?_ ?_ _ | refine Below.drew ?_)) <;> (first | omega | (simp <;> omega)))) (hb5.mono (by first | omega | (simp <;> omega)))
        have hs5 : w.heap.size ≤ w5.heap.size := hB5.size
        have ht5 := hb5.size
        try simp only [World.size_alloc, World.size_setCell] at ht5
        have hkw1_5 : Below w1.heap.size w1 w5 := Below.trans (by first | exact hkw1_4 | ((repeat' (first | exact hkw1_4 | refine Below.setCell ?_ ?_ _ | refine Below.alloc ?_ ?_ _ | refine Below.drew ?_)) <;> (first | omega | (simp <;> omega)))) (hb5.mono (by first | omega | (simp <;> omega)))
        have hkw2_5 : Below w2.heap.size w2 w5 := Below.trans (by first | exact hkw2_4 | ((repeat' (first | exact hkw2_4 | refine Below.setCell ?_ ?_ _ | refine Below.alloc ?_ ?_ _ | refine Below.drew ?_)) <;> (first | omega | (simp <;> omega)))) (hb5.mono (by first | omega | (simp <;> omega)))
        have hkw3_5 : Below w3.heap.size w3 w5 := Below.trans (by first | exact hkw3_4 | ((repeat' (first | exact hkw3_4 | refine Below.setCell ?_ ?_ _ | refine Below.alloc ?_ ?_ _ | refine Below.drew ?_)) <;> (first | omega | (simp <;> omega)))) (hb5.mono (by first | omega | (simp <;> omega)))
        clear hkw1_4 hkw2_4 hkw3_4 hB4 hb5
        go_wp2_with fail
        go_roundw
        case rel => exact ⟨3, by omega, by omega, by go_num, (by first | exact hB5 | ((repeat' (first | exact hB5 | refine Below.setCell ?_ ?_ _ | refine Below.alloc ?_ ?_ _ | refine Below.drew ?_)) <;> (first | omega | (simp <;> omega))))⟩
        case measure => simp [intOf]
      · have H64 := Lib.hid (show 64 < (together a b 2).length by omega)
        have HO := Lib.hid (show opFault a b (opL 2 a b) = 3 by rw [opFault_op (.inr (.inl rfl)) HT.out, if_pos (by omega)])
        have HNE := Lib.hid (show (3 : Int) ≠ 0 by decide)
        clear h64
        go_wp2_with fail
        refine (together_any B C a b d g 2 (.inr (.inl rfl)) _ (by omega) (by omega) VA.out VB.out ((ha.below (show Below w.heap.size w _ from (by first | exact hbx | ((repeat' (first | exact hbx | refine Below.setCell ?_ ?_ _ | refine Below.alloc ?_ ?_ _ | refine Below.drew ?_)) <;> (first | omega | (simp <;> omega)))))).more (show w.heap.size ≤ _ from by first | omega | (simp <;> omega))) ((hb.below (show Below w.heap.size w _ from (by first | exact hbx | ((repeat' (first | exact hbx | refine Below.setCell ?_ ?_ _ | refine Below.alloc ?_ ?_ _ | refine Below.drew ?_)) <;> (first | omega | (simp <;> omega)))))).more (show w.heap.size ≤ _ from by first | omega | (simp <;> omega)))).mono ?_
        rintro e w1 ⟨v1, rfl, hown1, hb1⟩
        have hB1 : Below w.heap.size w w1 := Below.trans (by first | exact hbx | ((repeat' (first | exact hbx | refine Below.setCell ?_ ?_ _ | refine Below.alloc ?_ ?_ _ | refine Below.drew ?_)) <;> (first | omega | (simp <;> omega)))) (hb1.mono (by first | omega | (simp <;> omega)))
        have hs1 : w.heap.size ≤ w1.heap.size := hB1.size
        have ht1 := hb1.size
        try simp only [World.size_alloc, World.size_setCell] at ht1
        clear hbx hb1
        obtain ⟨X, hX⟩ : ∃ X, X = together a b 2 := ⟨_, rfl⟩
        rw [← hX] at hown1
        have HX := Lib.hid hX
        clear hX
        obtain ⟨A1, c1, rfl, hr1⟩ := hown1.form
        clear hown1
        have hx64 : 64 < X.length := by rw [HX.out]; exact H64.out
        go_wp2_with fail
        refine (unionU B C a b d g hma hmb _ ((ha.below (show Below w.heap.size w _ from (by first | exact hB1 | ((repeat' (first | exact hB1 | refine Below.setCell ?_ ?_ _ | refine Below.alloc ?_ ?_ _ | refine Below.drew ?_)) <;> (first | omega | (simp <;> omega)))))).more (show w.heap.size ≤ _ from by first | omega | (simp <;> omega))) ((hb.below (show Below w.heap.size w _ from (by first | exact hB1 | ((repeat' (first | exact hB1 | refine Below.setCell ?_ ?_ _ | refine Below.alloc ?_ ?_ _ | refine Below.drew ?_)) <;> (first | omega | (simp <;> omega)))))).more (show w.heap.size ≤ _ from by first | omega | (simp <;> omega)))).mono ?_
        rintro e w2 ⟨v2, rfl, hown2, hb2⟩
        have hB2 : Below w.heap.size w w2 := Below.trans (by first | exact hB1 | ((repeat' (first | exact hB1 | refine Below.setCell ?_ ?_ _ | refine Below.alloc ?_ ?_ _ | refine Below.drew ?_)) <;> (first | omega | (simp <;> omega)))) (hb2.mono (by first | omega | (simp <;> omega)))
        have hs2 : w.heap.size ≤ w2.heap.size := hB2.size
        have ht2 := hb2.size
        try simp only [World.size_alloc, World.size_setCell] at ht2
        have hkw1_2 : Below w1.heap.size w1 w2 := Below.trans (by first | exact Below.refl _ _ | ((repeat' (first | exact Below.refl _ _ | refine Below.setCell ?_ ?_ _ | refine Below.alloc ?_ ?_ _ | refine Below.drew ?_)) <;> (first | omega | (simp <;> omega)))) (hb2.mono (by first | omega | (simp <;> omega)))
        clear hB1 hb2
        obtain ⟨Y1, hY1⟩ : ∃ Y1, Y1 = ifz (opFault a b (opL 1 a b)) (opL 1 a b) := ⟨_, rfl⟩
        rw [← hY1] at hown2
        have HY1 := Lib.hid hY1
        clear hY1
        obtain ⟨A2, c2, rfl, hr2⟩ := hown2.form
        clear hown2
        go_wp2_with fail
        refine (meetU B C a b d g hma hmb _ ((ha.below (show Below w.heap.size w _ from (by first | exact hB2 | ((repeat' (first | exact hB2 | refine Below.setCell ?_ ?_ _ | refine Below.alloc ?_ ?_ _ | refine Below.drew ?_)) <;> (first | omega | (simp <;> omega)))))).more (show w.heap.size ≤ _ from by first | omega | (simp <;> omega))) ((hb.below (show Below w.heap.size w _ from (by first | exact hB2 | ((repeat' (first | exact hB2 | refine Below.setCell ?_ ?_ _ | refine Below.alloc ?_ ?_ _ | refine Below.drew ?_)) <;> (first | omega | (simp <;> omega)))))).more (show w.heap.size ≤ _ from by first | omega | (simp <;> omega)))).mono ?_
        rintro e w3 ⟨v3, rfl, hown3, hb3⟩
        have hB3 : Below w.heap.size w w3 := Below.trans (by first | exact hB2 | ((repeat' (first | exact hB2 | refine Below.setCell ?_ ?_ _ | refine Below.alloc ?_ ?_ _ | refine Below.drew ?_)) <;> (first | omega | (simp <;> omega)))) (hb3.mono (by first | omega | (simp <;> omega)))
        have hs3 : w.heap.size ≤ w3.heap.size := hB3.size
        have ht3 := hb3.size
        try simp only [World.size_alloc, World.size_setCell] at ht3
        have hkw1_3 : Below w1.heap.size w1 w3 := Below.trans (by first | exact hkw1_2 | ((repeat' (first | exact hkw1_2 | refine Below.setCell ?_ ?_ _ | refine Below.alloc ?_ ?_ _ | refine Below.drew ?_)) <;> (first | omega | (simp <;> omega)))) (hb3.mono (by first | omega | (simp <;> omega)))
        have hkw2_3 : Below w2.heap.size w2 w3 := Below.trans (by first | exact Below.refl _ _ | ((repeat' (first | exact Below.refl _ _ | refine Below.setCell ?_ ?_ _ | refine Below.alloc ?_ ?_ _ | refine Below.drew ?_)) <;> (first | omega | (simp <;> omega)))) (hb3.mono (by first | omega | (simp <;> omega)))
        clear hkw1_2 hB2 hb3
        obtain ⟨Y2, hY2⟩ : ∃ Y2, Y2 = ifz (opFault a b (opL 2 a b)) (opL 2 a b) := ⟨_, rfl⟩
        rw [← hY2] at hown3
        have HY2 := Lib.hid hY2
        clear hY2
        obtain ⟨A3, c3, rfl, hr3⟩ := hown3.form
        clear hown3
        go_wp2_with fail
        refine (errU_same (opFault a b (opL 2 a b)) 3 HO.out _ (by exact HG.out.belowB (show Below w.heap.size w _ from (by first | exact hB3 | ((repeat' (first | exact hB3 | refine Below.setCell ?_ ?_ _ | refine Below.alloc ?_ ?_ _ | refine Below.drew ?_)) <;> (first | omega | (simp <;> omega))))) HG.out.lt)).mono ?_
        rintro e w4 ⟨rfl, hb4⟩
        have hB4 : Below w.heap.size w w4 := Below.trans (by first | exact hB3 | ((repeat' (first | exact hB3 | refine Below.setCell ?_ ?_ _ | refine Below.alloc ?_ ?_ _ | refine Below.drew ?_)) <;> (first | omega | (simp <;> omega)))) (hb4.mono (by first | omega | (simp <;> omega)))
        have hs4 : w.heap.size ≤ w4.heap.size := hB4.size
        have ht4 := hb4.size
        try simp only [World.size_alloc, World.size_setCell] at ht4
        have hkw1_4 : Below w1.heap.size w1 w4 := Below.trans (by first | exact hkw1_3 | ((repeat' (first | exact hkw1_3 | refine Below.setCell ?_ ?_ _ | refine Below.alloc ?_ ?_ _ | refine Below.drew ?_)) <;> (first | omega | (simp <;> omega)))) (hb4.mono (by first | omega | (simp <;> omega)))
        have hkw2_4 : Below w2.heap.size w2 w4 := Below.trans (by first | exact hkw2_3 | ((repeat' (first | exact hkw2_3 | refine Below.setCell ?_ ?_ _ | refine Below.alloc ?_ ?_ _ | refine Below.drew ?_)) <;> (first | omega | (simp <;> omega)))) (hb4.mono (by first | omega | (simp <;> omega)))
        have hkw3_4 : Below w3.heap.size w3 w4 := Below.trans (by first | exact Below.refl _ _ | ((repeat' (first | exact Below.refl _ _ | refine Below.setCell ?_ ?_ _ | refine Below.alloc ?_ ?_ _ | refine Below.drew ?_)) <;> (first | omega | (simp <;> omega)))) (hb4.mono (by first | omega | (simp <;> omega)))
        clear hkw1_3 hkw2_3 hB3 hb4
        go_wp2_with fail
        refine (spans_same A3 none Y2 [] _ _ c3 0 rfl rfl (by rw [HY2.out, ifz_no (by rw [HO.out]; exact HNE.out)]; exact Nat.zero_le _) (by rw [HY2.out, ifz_no (by rw [HO.out]; exact HNE.out)]) _ ((hr3.below (show Below w3.heap.size w3 _ from (by first | exact hkw3_4 | ((repeat' (first | exact hkw3_4 | refine Below.setCell ?_ ?_ _ | refine Below.alloc ?_ ?_ _ | refine Below.drew ?_)) <;> (first | omega | (simp <;> omega)))))).more (show w3.heap.size ≤ _ from by first | omega | (simp <;> omega))) Rd.nil).mono ?_
        rintro e w5 ⟨rfl, hb5⟩
        have hB5 : Below w.heap.size w w5 := Below.trans (by first | exact hB4 | ((repeat' (first | exact hB4 | refine Below.setCell ?_ ?_ _ | refine Below.alloc ?_ ?_ _ | refine Below.drew ?_)) <;> (first | omega | (simp <;> omega)))) (hb5.mono (by first | omega | (simp <;> omega)))
        have hs5 : w.heap.size ≤ w5.heap.size := hB5.size
        have ht5 := hb5.size
        try simp only [World.size_alloc, World.size_setCell] at ht5
        have hkw1_5 : Below w1.heap.size w1 w5 := Below.trans (by first | exact hkw1_4 | ((repeat' (first | exact hkw1_4 | refine Below.setCell ?_ ?_ _ | refine Below.alloc ?_ ?_ _ | refine Below.drew ?_)) <;> (first | omega | (simp <;> omega)))) (hb5.mono (by first | omega | (simp <;> omega)))
        have hkw2_5 : Below w2.heap.size w2 w5 := Below.trans (by first | exact hkw2_4 | ((repeat' (first | exact hkw2_4 | refine Below.setCell ?_ ?_ _ | refine Below.alloc ?_ ?_ _ | refine Below.drew ?_)) <;> (first | omega | (simp <;> omega)))) (hb5.mono (by first | omega | (simp <;> omega)))
        have hkw3_5 : Below w3.heap.size w3 w5 := Below.trans (by first | exact hkw3_4 | ((repeat' (first | exact hkw3_4 | refine Below.setCell ?_ ?_ _ | refine Below.alloc ?_ ?_ _ | refine Below.drew ?_)) <;> (first | omega | (simp <;> omega)))) (hb5.mono (by first | omega | (simp <;> omega)))
        clear hkw1_4 hkw2_4 hkw3_4 hB4 hb5
        go_wp2_with fail
        go_roundw
        case rel => exact ⟨3, by omega, by omega, by go_num, (by first | exact hB5 | ((repeat' (first | exact hB5 | refine Below.setCell ?_ ?_ _ | refine Below.alloc ?_ ?_ _ | refine Below.drew ?_)) <;> (first | omega | (simp <;> omega))))⟩
        case measure => simp [intOf]
    · by_cases h64 : (together a b 3).length ≤ 64
      · have HTO := Lib.hid (show together a b 3 = opL 3 a b from tog_op (.inr (.inr rfl)) GA.out GB.out)
        have H64 := Lib.hid h64
        have HO := Lib.hid (show opFault a b (opL 3 a b) = 0 by rw [opFault_op (.inr (.inr rfl)) HT.out, if_neg (by omega)])
        clear h64
        go_wp2_with fail
        refine (together_any B C a b d g 3 (.inr (.inr rfl)) _ (by omega) (by omega) VA.out VB.out ((ha.below (show Below w.heap.size w _ from (by first | exact hbx | ((repeat' (first | exact hbx | refine Below.setCell ?_ ?_ _ | refine Below.alloc ?_ ?_ _ | refine Below.drew ?_)) <;> (first | omega | (simp <;> omega)))))).more (show w.heap.size ≤ _ from by first | omega | (simp <;> omega))) ((hb.below (show Below w.heap.size w _ from (by first | exact hbx | ((repeat' (first | exact hbx | refine Below.setCell ?_ ?_ _ | refine Below.alloc ?_ ?_ _ | refine Below.drew ?_)) <;> (first | omega | (simp <;> omega)))))).more (show w.heap.size ≤ _ from by first | omega | (simp <;> omega)))).mono ?_
        rintro e w1 ⟨v1, rfl, hown1, hb1⟩
        have hB1 : Below w.heap.size w w1 := Below.trans (by first | exact hbx | ((repeat' (first | exact hbx | refine Below.setCell ?_ ?_ _ | refine Below.alloc ?_ ?_ _ | refine Below.drew ?_)) <;> (first | omega | (simp <;> omega)))) (hb1.mono (by first | omega | (simp <;> omega)))
        have hs1 : w.heap.size ≤ w1.heap.size := hB1.size
        have ht1 := hb1.size
        try simp only [World.size_alloc, World.size_setCell] at ht1
        clear hbx hb1
        obtain ⟨X, hX⟩ : ∃ X, X = together a b 3 := ⟨_, rfl⟩
        rw [← hX] at hown1
        have HX := Lib.hid hX
        clear hX
        obtain ⟨A1, c1, rfl, hr1⟩ := hown1.form
        clear hown1
        have hx64 : X.length ≤ 64 := by rw [HX.out]; exact H64.out
        go_wp2_with fail
        refine (unionU B C a b d g hma hmb _ ((ha.below (show Below w.heap.size w _ from (by first | exact hB1 | ((repeat' (first | exact hB1 | refine Below.setCell ?_ ?_ _ | refine Below.alloc ?_ ?_ _ | refine Below.drew ?_)) <;> (first | omega | (simp <;> omega)))))).more (show w.heap.size ≤ _ from by first | omega | (simp <;> omega))) ((hb.below (show Below w.heap.size w _ from (by first | exact hB1 | ((repeat' (first | exact hB1 | refine Below.setCell ?_ ?_ _ | refine Below.alloc ?_ ?_ _ | refine Below.drew ?_)) <;> (first | omega | (simp <;> omega)))))).more (show w.heap.size ≤ _ from by first | omega | (simp <;> omega)))).mono ?_
        rintro e w2 ⟨v2, rfl, hown2, hb2⟩
        have hB2 : Below w.heap.size w w2 := Below.trans (by first | exact hB1 | ((repeat' (first | exact hB1 | refine Below.setCell ?_ ?_ _ | refine Below.alloc ?_ ?_ _ | refine Below.drew ?_)) <;> (first | omega | (simp <;> omega)))) (hb2.mono (by first | omega | (simp <;> omega)))
        have hs2 : w.heap.size ≤ w2.heap.size := hB2.size
        have ht2 := hb2.size
        try simp only [World.size_alloc, World.size_setCell] at ht2
        have hkw1_2 : Below w1.heap.size w1 w2 := Below.trans (by first | exact Below.refl _ _ | ((repeat' (first | exact Below.refl _ _ | refine Below.setCell ?_ ?_ _ | refine Below.alloc ?_ ?_ _ | refine Below.drew ?_)) <;> (first | omega | (simp <;> omega)))) (hb2.mono (by first | omega | (simp <;> omega)))
        clear hB1 hb2
        obtain ⟨Y1, hY1⟩ : ∃ Y1, Y1 = ifz (opFault a b (opL 1 a b)) (opL 1 a b) := ⟨_, rfl⟩
        rw [← hY1] at hown2
        have HY1 := Lib.hid hY1
        clear hY1
        obtain ⟨A2, c2, rfl, hr2⟩ := hown2.form
        clear hown2
        go_wp2_with fail
        refine (minusU B C a b d g hma hmb _ ((ha.below (show Below w.heap.size w _ from (by first | exact hB2 | ((repeat' (first | exact hB2 | refine Below.setCell ?_ ?_ _ | refine Below.alloc ?_ ?_ _ | refine Below.drew ?_)) <;> (first | omega | (simp <;> omega)))))).more (show w.heap.size ≤ _ from by first | omega | (simp <;> omega))) ((hb.below (show Below w.heap.size w _ from (by first | exact hB2 | ((repeat' (first | exact hB2 | refine Below.setCell ?_ ?_ _ | refine Below.alloc ?_ ?_ _ | refine Below.drew ?_)) <;> (first | omega | (simp <;> omega)))))).more (show w.heap.size ≤ _ from by first | omega | (simp <;> omega)))).mono ?_
        rintro e w3 ⟨v3, rfl, hown3, hb3⟩
        have hB3 : Below w.heap.size w w3 := Below.trans (by first | exact hB2 | ((repeat' (first | exact hB2 | refine Below.setCell ?_ ?_ _ | refine Below.alloc ?_ ?_ _ | refine Below.drew ?_)) <;> (first | omega | (simp <;> omega)))) (hb3.mono (by first | omega | (simp <;> omega)))
        have hs3 : w.heap.size ≤ w3.heap.size := hB3.size
        have ht3 := hb3.size
        try simp only [World.size_alloc, World.size_setCell] at ht3
        have hkw1_3 : Below w1.heap.size w1 w3 := Below.trans (by first | exact hkw1_2 | ((repeat' (first | exact hkw1_2 | refine Below.setCell ?_ ?_ _ | refine Below.alloc ?_ ?_ _ | refine Below.drew ?_)) <;> (first | omega | (simp <;> omega)))) (hb3.mono (by first | omega | (simp <;> omega)))
        have hkw2_3 : Below w2.heap.size w2 w3 := Below.trans (by first | exact Below.refl _ _ | ((repeat' (first | exact Below.refl _ _ | refine Below.setCell ?_ ?_ _ | refine Below.alloc ?_ ?_ _ | refine Below.drew ?_)) <;> (first | omega | (simp <;> omega)))) (hb3.mono (by first | omega | (simp <;> omega)))
        clear hkw1_2 hB2 hb3
        obtain ⟨Y3, hY3⟩ : ∃ Y3, Y3 = ifz (opFault a b (opL 3 a b)) (opL 3 a b) := ⟨_, rfl⟩
        rw [← hY3] at hown3
        have HY3 := Lib.hid hY3
        clear hY3
        obtain ⟨A3, c3, rfl, hr3⟩ := hown3.form
        clear hown3
        go_wp2_with fail
        refine (errU_same (opFault a b (opL 3 a b)) 0 HO.out _ (by exact HG.out.belowB (show Below w.heap.size w _ from (by first | exact hB3 | ((repeat' (first | exact hB3 | refine Below.setCell ?_ ?_ _ | refine Below.alloc ?_ ?_ _ | refine Below.drew ?_)) <;> (first | omega | (simp <;> omega))))) HG.out.lt)).mono ?_
        rintro e w4 ⟨rfl, hb4⟩
        have hB4 : Below w.heap.size w w4 := Below.trans (by first | exact hB3 | ((repeat' (first | exact hB3 | refine Below.setCell ?_ ?_ _ | refine Below.alloc ?_ ?_ _ | refine Below.drew ?_)) <;> (first | omega | (simp <;> omega)))) (hb4.mono (by first | omega | (simp <;> omega)))
        have hs4 : w.heap.size ≤ w4.heap.size := hB4.size
        have ht4 := hb4.size
        try simp only [World.size_alloc, World.size_setCell] at ht4
        have hkw1_4 : Below w1.heap.size w1 w4 := Below.trans (by first | exact hkw1_3 | ((repeat' (first | exact hkw1_3 | refine Below.setCell ?_ ?_ _ | refine Below.alloc ?_ ?_ _ | refine Below.drew ?_)) <;> (first | omega | (simp <;> omega)))) (hb4.mono (by first | omega | (simp <;> omega)))
        have hkw2_4 : Below w2.heap.size w2 w4 := Below.trans (by first | exact hkw2_3 | ((repeat' (first | exact hkw2_3 | refine Below.setCell ?_ ?_ _ | refine Below.alloc ?_ ?_ _ | refine Below.drew ?_)) <;> (first | omega | (simp <;> omega)))) (hb4.mono (by first | omega | (simp <;> omega)))
        have hkw3_4 : Below w3.heap.size w3 w4 := Below.trans (by first | exact Below.refl _ _ | ((repeat' (first | exact Below.refl _ _ | refine Below.setCell ?_ ?_ _ | refine Below.alloc ?_ ?_ _ | refine Below.drew ?_)) <;> (first | omega | (simp <;> omega)))) (hb4.mono (by first | omega | (simp <;> omega)))
        clear hkw1_3 hkw2_3 hB3 hb4
        go_wp2_with fail
        refine (spans_same A3 A1 Y3 X _ _ c3 c1 rfl rfl (by unfold maxLen; have : Y3.length ≤ 64 := (by rw [HY3.out, HO.out, ifz_zero, ← HTO.out, ← HX.out]; exact hx64); omega) (by rw [HX.out, HY3.out, HO.out, ifz_zero, HTO.out]) _ ((hr3.below (show Below w3.heap.size w3 _ from (by first | exact hkw3_4 | ((repeat' (first | exact hkw3_4 | refine Below.setCell ?_ ?_ _ | refine Below.alloc ?_ ?_ _ | refine Below.drew ?_)) <;> (first | omega | (simp <;> omega)))))).more (show w3.heap.size ≤ _ from by first | omega | (simp <;> omega))) ((hr1.below (show Below w1.heap.size w1 _ from (by first | exact hkw1_4 | ((repeat' (first | exact hkw1_4 | refine Below.setCell ?_ ?_ _ | refine Below.alloc ?_ ?_ _ | refine Below.drew ?_)) <;> (first | omega | (simp <;> omega)))))).more (show w1.heap.size ≤ _ from by first | omega | (simp <;> omega)))).mono ?_
        rintro e w5 ⟨rfl, hb5⟩
        have hB5 : Below w.heap.size w w5 := Below.trans (by first | exact hB4 | ((repeat' (first | exact hB4 | refine Below.setCell ?_ ?_ _ | refine Below.alloc ?_ ?_ _ | refine Below.drew ?_)) <;> (first | omega | (simp <;> omega)))) (hb5.mono (by first | omega | (simp <;> omega)))
        have hs5 : w.heap.size ≤ w5.heap.size := hB5.size
        have ht5 := hb5.size
        try simp only [World.size_alloc, World.size_setCell] at ht5
        have hkw1_5 : Below w1.heap.size w1 w5 := Below.trans (by first | exact hkw1_4 | ((repeat' (first | exact hkw1_4 | refine Below.setCell ?_ ?_ _ | refine Below.alloc ?_ ?_ _ | refine Below.drew ?_)) <;> (first | omega | (simp <;> omega)))) (hb5.mono (by first | omega | (simp <;> omega)))
        have hkw2_5 : Below w2.heap.size w2 w5 := Below.trans (by first | exact hkw2_4 | ((repeat' (first | exact hkw2_4 | refine Below.setCell ?_ ?_ _ | refine Below.alloc ?_ ?_ _ | refine Below.drew ?_)) <;> (first | omega | (simp <;> omega)))) (hb5.mono (by first | omega | (simp <;> omega)))
        have hkw3_5 : Below w3.heap.size w3 w5 := Below.trans (by first | exact hkw3_4 | ((repeat' (first | exact hkw3_4 | refine Below.setCell ?_ ?_ _ | refine Below.alloc ?_ ?_ _ | refine Below.drew ?_)) <;> (first | omega | (simp <;> omega)))) (hb5.mono (by first | omega | (simp <;> omega)))
        clear hkw1_4 hkw2_4 hkw3_4 hB4 hb5
        go_wp2_with fail
        go_roundw
        case rel => exact ⟨4, by omega, by omega, by go_num, (by first | exact hB5 | ((repeat' (first | exact hB5 | refine Below.setCell ?_ ?_ _ | refine Below.alloc ?_ ?_ _ | refine Below.drew ?_)) <;> (first | omega | (simp <;> omega))))⟩
        case measure => simp [intOf]
      · have H64 := Lib.hid (show 64 < (together a b 3).length by omega)
        have HO := Lib.hid (show opFault a b (opL 3 a b) = 3 by rw [opFault_op (.inr (.inr rfl)) HT.out, if_pos (by omega)])
        have HNE := Lib.hid (show (3 : Int) ≠ 0 by decide)
        clear h64
        go_wp2_with fail
        refine (together_any B C a b d g 3 (.inr (.inr rfl)) _ (by omega) (by omega) VA.out VB.out ((ha.below (show Below w.heap.size w _ from (by first | exact hbx | ((repeat' (first | exact hbx | refine Below.setCell ?_ ?_ _ | refine Below.alloc ?_ ?_ _ | refine Below.drew ?_)) <;> (first | omega | (simp <;> omega)))))).more (show w.heap.size ≤ _ from by first | omega | (simp <;> omega))) ((hb.below (show Below w.heap.size w _ from (by first | exact hbx | ((repeat' (first | exact hbx | refine Below.setCell ?_ ?_ _ | refine Below.alloc ?_ ?_ _ | refine Below.drew ?_)) <;> (first | omega | (simp <;> omega)))))).more (show w.heap.size ≤ _ from by first | omega | (simp <;> omega)))).mono ?_
        rintro e w1 ⟨v1, rfl, hown1, hb1⟩
        have hB1 : Below w.heap.size w w1 := Below.trans (by first | exact hbx | ((repeat' (first | exact hbx | refine Below.setCell ?_ ?_ _ | refine Below.alloc ?_ ?_ _ | refine Below.drew ?_)) <;> (first | omega | (simp <;> omega)))) (hb1.mono (by first | omega | (simp <;> omega)))
        have hs1 : w.heap.size ≤ w1.heap.size := hB1.size
        have ht1 := hb1.size
        try simp only [World.size_alloc, World.size_setCell] at ht1
        clear hbx hb1
        obtain ⟨X, hX⟩ : ∃ X, X = together a b 3 := ⟨_, rfl⟩
        rw [← hX] at hown1
        have HX := Lib.hid hX
        clear hX
        obtain ⟨A1, c1, rfl, hr1⟩ := hown1.form
        clear hown1
        have hx64 : 64 < X.length := by rw [HX.out]; exact H64.out
        go_wp2_with fail
        refine (unionU B C a b d g hma hmb _ ((ha.below (show Below w.heap.size w _ from (by first | exact hB1 | ((repeat' (first | exact hB1 | refine Below.setCell ?_ ?_ _ | refine Below.alloc ?_ ?_ _ | refine Below.drew ?_)) <;> (first | omega | (simp <;> omega)))))).more (show w.heap.size ≤ _ from by first | omega | (simp <;> omega))) ((hb.below (show Below w.heap.size w _ from (by first | exact hB1 | ((repeat' (first | exact hB1 | refine Below.setCell ?_ ?_ _ | refine Below.alloc ?_ ?_ _ | refine Below.drew ?_)) <;> (first | omega | (simp <;> omega)))))).more (show w.heap.size ≤ _ from by first | omega | (simp <;> omega)))).mono ?_
        rintro e w2 ⟨v2, rfl, hown2, hb2⟩
        have hB2 : Below w.heap.size w w2 := Below.trans (by first | exact hB1 | ((repeat' (first | exact hB1 | refine Below.setCell ?_ ?_ _ | refine Below.alloc ?_ ?_ _ | refine Below.drew ?_)) <;> (first | omega | (simp <;> omega)))) (hb2.mono (by first | omega | (simp <;> omega)))
        have hs2 : w.heap.size ≤ w2.heap.size := hB2.size
        have ht2 := hb2.size
        try simp only [World.size_alloc, World.size_setCell] at ht2
        have hkw1_2 : Below w1.heap.size w1 w2 := Below.trans (by first | exact Below.refl _ _ | ((repeat' (first | exact Below.refl _ _ | refine Below.setCell ?_ ?_ _ | refine Below.alloc ?_ ?_ _ | refine Below.drew ?_)) <;> (first | omega | (simp <;> omega)))) (hb2.mono (by first | omega | (simp <;> omega)))
        clear hB1 hb2
        obtain ⟨Y1, hY1⟩ : ∃ Y1, Y1 = ifz (opFault a b (opL 1 a b)) (opL 1 a b) := ⟨_, rfl⟩
        rw [← hY1] at hown2
        have HY1 := Lib.hid hY1
        clear hY1
        obtain ⟨A2, c2, rfl, hr2⟩ := hown2.form
        clear hown2
        go_wp2_with fail
        refine (minusU B C a b d g hma hmb _ ((ha.below (show Below w.heap.size w _ from (by first | exact hB2 | ((repeat' (first | exact hB2 | refine Below.setCell ?_ ?_ _ | refine Below.alloc ?_ ?_ _ | refine Below.drew ?_)) <;> (first | omega | (simp <;> omega)))))).more (show w.heap.size ≤ _ from by first | omega | (simp <;> omega))) ((hb.below (show Below w.heap.size w _ from (by first | exact hB2 | ((repeat' (first | exact hB2 | refine Below.setCell ?_ ?_ _ | refine Below.alloc ?_ ?_ _ | refine Below.drew ?_)) <;> (first | omega | (simp <;> omega)))))).more (show w.heap.size ≤ _ from by first | omega | (simp <;> omega)))).mono ?_
        rintro e w3 ⟨v3, rfl, hown3, hb3⟩
        have hB3 : Below w.heap.size w w3 := Below.trans (by first | exact hB2 | ((repeat' (first | exact hB2 | refine Below.setCell ?_ ?_ _ | refine Below.alloc ?_ ?_ _ | refine Below.drew ?_)) <;> (first | omega | (simp <;> omega)))) (hb3.mono (by first | omega | (simp <;> omega)))
        have hs3 : w.heap.size ≤ w3.heap.size := hB3.size
        have ht3 := hb3.size
        try simp only [World.size_alloc, World.size_setCell] at ht3
        have hkw1_3 : Below w1.heap.size w1 w3 := Below.trans (by first | exact hkw1_2 | ((repeat' (first | exact hkw1_2 | refine Below.setCell ?_ ?_ _ | refine Below.alloc ?_ ?_ _ | refine Below.drew ?_)) <;> (first | omega | (simp <;> omega)))) (hb3.mono (by first | omega | (simp <;> omega)))
        have hkw2_3 : Below w2.heap.size w2 w3 := Below.trans (by first | exact Below.refl _ _ | ((repeat' (first | exact Below.refl _ _ | refine Below.setCell ?_ ?_ _ | refine Below.alloc ?_ ?_ _ | refine Below.drew ?_)) <;> (first | omega | (simp <;> omega)))) (hb3.mono (by first | omega | (simp <;> omega)))
        clear hkw1_2 hB2 hb3
        obtain ⟨Y3, hY3⟩ : ∃ Y3, Y3 = ifz (opFault a b (opL 3 a b)) (opL 3 a b) := ⟨_, rfl⟩
        rw [← hY3] at hown3
        have HY3 := Lib.hid hY3
        clear hY3
        obtain ⟨A3, c3, rfl, hr3⟩ := hown3.form
        clear hown3
        go_wp2_with fail
        refine (errU_same (opFault a b (opL 3 a b)) 3 HO.out _ (by exact HG.out.belowB (show Below w.heap.size w _ from (by first | exact hB3 | ((repeat' (first | exact hB3 | refine Below.setCell ?_ ?_ _ | refine Below.alloc ?_ ?_ _ | refine Below.drew ?_)) <;> (first | omega | (simp <;> omega))))) HG.out.lt)).mono ?_
        rintro e w4 ⟨rfl, hb4⟩
        have hB4 : Below w.heap.size w w4 := Below.trans (by first | exact hB3 | ((repeat' (first | exact hB3 | refine Below.setCell ?_ ?_ _ | refine Below.alloc ?_ ?_ _ | refine Below.drew ?_)) <;> (first | omega | (simp <;> omega)))) (hb4.mono (by first | omega | (simp <;> omega)))
        have hs4 : w.heap.size ≤ w4.heap.size := hB4.size
        have ht4 := hb4.size
        try simp only [World.size_alloc, World.size_setCell] at ht4
        have hkw1_4 : Below w1.heap.size w1 w4 := Below.trans (by first | exact hkw1_3 | ((repeat' (first | exact hkw1_3 | refine Below.setCell ?_ ?_ _ | refine Below.alloc ?_ ?_ _ | refine Below.drew ?_)) <;> (first | omega | (simp <;> omega)))) (hb4.mono (by first | omega | (simp <;> omega)))
        have hkw2_4 : Below w2.heap.size w2 w4 := Below.trans (by first | exact hkw2_3 | ((repeat' (first | exact hkw2_3 | refine Below.setCell ?_ ?_ _ | refine Below.alloc ?_ ?_ _ | refine Below.drew ?_)) <;> (first | omega | (simp <;> omega)))) (hb4.mono (by first | omega | (simp <;> omega)))
        have hkw3_4 : Below w3.heap.size w3 w4 := Below.trans (by first | exact Below.refl _ _ | ((repeat' (first | exact Below.refl _ _ | refine Below.setCell ?_ ?_ _ | refine Below.alloc ?_ ?_ _ | refine Below.drew ?_)) <;> (first | omega | (simp <;> omega)))) (hb4.mono (by first | omega | (simp <;> omega)))
        clear hkw1_3 hkw2_3 hB3 hb4
        go_wp2_with fail
        refine (spans_same A3 none Y3 [] _ _ c3 0 rfl rfl (by rw [HY3.out, ifz_no (by rw [HO.out]; exact HNE.out)]; exact Nat.zero_le _) (by rw [HY3.out, ifz_no (by rw [HO.out]; exact HNE.out)]) _ ((hr3.below (show Below w3.heap.size w3 _ from (by first | exact hkw3_4 | ((repeat' (first | exact hkw3_4 | refine Below.setCell ?_ ?_ _ | refine Below.alloc ?_ ?_ _ | refine Below.drew ?_)) <;> (first | omega | (simp <;> omega)))))).more (show w3.heap.size ≤ _ from by first | omega | (simp <;> omega))) Rd.nil).mono ?_
        rintro e w5 ⟨rfl, hb5⟩
        have hB5 : Below w.heap.size w w5 := Below.trans (by first | exact hB4 | ((repeat' (first | exact hB4 | refine Below.setCell ?_ ?_ _ | refine Below.alloc ?_ ?_ _ | refine Below.drew ?_)) <;> (first | omega | (simp <;> omega)))) (hb5.mono (by first | omega | (simp <;> omega)))
        have hs5 : w.heap.size ≤ w5.heap.size := hB5.size
        have ht5 := hb5.size
        try simp only [World.size_alloc, World.size_setCell] at ht5
        have hkw1_5 : Below w1.heap.size w1 w5 := Below.trans (by first | exact hkw1_4 | ((repeat' (first | exact hkw1_4 | refine Below.setCell ?_ ?_ _ | refine Below.alloc ?_ ?_ _ | refine Below.drew ?_)) <;> (first | omega | (simp <;> omega)))) (hb5.mono (by first | omega | (simp <;> omega)))
        have hkw2_5 : Below w2.heap.size w2 w5 := Below.trans (by first | exact hkw2_4 | ((repeat' (first | exact hkw2_4 | refine Below.setCell ?_ ?_ _ | refine Below.alloc ?_ ?_ _ | refine Below.drew ?_)) <;> (first | omega | (simp <;> omega)))) (hb5.mono (by first | omega | (simp <;> omega)))
        have hkw3_5 : Below w3.heap.size w3 w5 := Below.trans (by first | exact hkw3_4 | ((repeat' (first | exact hkw3_4 | refine Below.setCell ?_ ?_ _ | refine Below.alloc ?_ ?_ _ | refine Below.drew ?_)) <;> (first | omega | (simp <;> omega)))) (hb5.mono (by first | omega | (simp <;> omega)))
        clear hkw1_4 hkw2_4 hkw3_4 hB4 hb5
        go_wp2_with fail
        go_roundw
        case rel => exact ⟨4, by omega, by omega, by go_num, (by first | exact hB5 | ((repeat' (first | exact hB5 | refine Below.setCell ?_ ?_ _ | refine Below.alloc ?_ ?_ _ | refine Below.drew ?_)) <;> (first | omega | (simp <;> omega))))⟩
        case measure => simp [intOf]
    · go_wp2_with fail
      go_ret
      exact ⟨rfl, hbx⟩
end Go.Proofs.YtmfaknngophmhaaDoor
