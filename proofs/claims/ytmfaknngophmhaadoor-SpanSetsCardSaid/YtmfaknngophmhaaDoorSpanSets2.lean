/- The law SpanSets, its parts: checked, counted. Any lists, any number. -/
import Derived.Test.YtmfaknngophmhaaDoorSpanSets0
namespace Go.Proofs.YtmfaknngophmhaaDoor
set_option linter.unusedVariables false
set_option linter.unusedSimpArgs false
open Go.RowKit

set_option maxRecDepth 100000 in
set_option maxHeartbeats 8000000 in
theorem spanSets_3 (kk : Int) (A : Option Addr) (l : List Sp) (c : Nat) (B : Option Addr) (a : List Sp) (d : Nat) (C : Option Addr) (b : List Sp) (g : Nat) (x : Int) (hm : l.length ≤ maxLen) (hma : a.length ≤ maxLen) (hmb : b.length ≤ maxLen) (w : World) (hg : ErrVar w) (hl : Rd w w.heap.size A (cellsP l)) (ha : Rd w w.heap.size B (cellsP a)) (hb : Rd w w.heap.size C (cellsP b)) (Q : Exit → Act → World → Prop) (s0 : Act) (w0 : World) (h0 : SSmid A l c B a d C b g x w kk s0 w0)
    (h : ∀ a' w', SSmid A l c B a d C b g x w (setFault a) a' w' → (tailN 3 (tailN 6 (tailN 1 (tailN 3 (Tryd.f3.body.getD .skip))))).wp Tryd.prog Q a' w') :
    (tailN 6 (tailN 1 (tailN 3 (Tryd.f3.body.getD .skip)))).wp Tryd.prog Q s0 w0 := by
  have HG := Lib.hid hg
  clear hg
  obtain ⟨U, rfl, hB0⟩ := h0
  refine wp_cut 3 (SSmid A l c B a d C b g x w (setFault a)) (by rfl) ?_ h
  clear h
  intro r HR
  dsimp only [Tryd.f3, Option.getD, tailN, putN]
  have hs0 := hB0.size
  go_wp2_with fail
  refine (setFaultRef_any B a d hma _ ((ha.below (show Below w.heap.size w _ from (by first | exact hB0 | ((repeat' (first | exact hB0 | refine Below.setCell ?_ ?_ _ | refine Below.alloc ?_ ?_ _ | refine Below.drew ?_)) <;> (first | omega | (simp <;> omega)))))).more (show w.heap.size ≤ _ from by first | omega | (simp <;> omega)))).mono ?_
  rintro e w1 ⟨rfl, hb1⟩
  have hB1 : Below w.heap.size w w1 := Below.trans (by first | exact hB0 | ((repeat' (first | exact hB0 | refine Below.setCell ?_ ?_ _ | refine Below.alloc ?_ ?_ _ | refine Below.drew ?_)) <;> (first | omega | (simp <;> omega)))) (hb1.mono (by first | omega | (simp <;> omega)))
  have hs1 : w.heap.size ≤ w1.heap.size := hB1.size
  have ht1 := hb1.size
  try simp only [World.size_alloc, World.size_setCell] at ht1
  clear hB0 hb1
  go_wp2_with fail
  refine (spanCheck_any B a d hma _ ((ha.below (show Below w.heap.size w _ from (by first | exact hB1 | ((repeat' (first | exact hB1 | refine Below.setCell ?_ ?_ _ | refine Below.alloc ?_ ?_ _ | refine Below.drew ?_)) <;> (first | omega | (simp <;> omega)))))).more (show w.heap.size ≤ _ from by first | omega | (simp <;> omega)))).mono ?_
  rintro e w2 ⟨rfl, hb2⟩
  have hB2 : Below w.heap.size w w2 := Below.trans (by first | exact hB1 | ((repeat' (first | exact hB1 | refine Below.setCell ?_ ?_ _ | refine Below.alloc ?_ ?_ _ | refine Below.drew ?_)) <;> (first | omega | (simp <;> omega)))) (hb2.mono (by first | omega | (simp <;> omega)))
  have hs2 : w.heap.size ≤ w2.heap.size := hB2.size
  have ht2 := hb2.size
  try simp only [World.size_alloc, World.size_setCell] at ht2
  clear hB1 hb2
  skip
  go_wp2_with fail
  refine (errU_same (setFault a) (setFault a) rfl _ (by exact HG.out.belowB (show Below w.heap.size w _ from (by first | exact hB2 | ((repeat' (first | exact hB2 | refine Below.setCell ?_ ?_ _ | refine Below.alloc ?_ ?_ _ | refine Below.drew ?_)) <;> (first | omega | (simp <;> omega))))) HG.out.lt)).mono ?_
  rintro e w3 ⟨rfl, hb3⟩
  have hB3 : Below w.heap.size w w3 := Below.trans (by first | exact hB2 | ((repeat' (first | exact hB2 | refine Below.setCell ?_ ?_ _ | refine Below.alloc ?_ ?_ _ | refine Below.drew ?_)) <;> (first | omega | (simp <;> omega)))) (hb3.mono (by first | omega | (simp <;> omega)))
  have hs3 : w.heap.size ≤ w3.heap.size := hB3.size
  have ht3 := hb3.size
  try simp only [World.size_alloc, World.size_setCell] at ht3
  clear hB2 hb3
  go_wp2_with fail
  refine wp_name ?_
  intro w4 hW4
  have hB4 : Below w.heap.size w w4 := by rw [hW4.out]; exact (by first | exact hB3 | ((repeat' (first | exact hB3 | refine Below.setCell ?_ ?_ _ | refine Below.alloc ?_ ?_ _ | refine Below.drew ?_)) <;> (first | omega | (simp <;> omega))))
  have hs4 : w.heap.size ≤ w4.heap.size := hB4.size
  have ht4 := congrArg (fun x : World => x.heap.size) hW4.out
  try simp only [World.size_alloc, World.size_setCell] at ht4
  have hu4 := Nat.le_of_eq ht4
  have hv4 := Nat.le_of_eq ht4.symm
  clear ht4 hB3 hW4
  exact HR.out _ _ (SSmid.mk (by kernel_rfl) hB4)
set_option maxRecDepth 100000 in
set_option maxHeartbeats 8000000 in
theorem spanSets_4a (A : Option Addr) (l : List Sp) (c : Nat) (B : Option Addr) (a : List Sp) (d : Nat) (C : Option Addr) (b : List Sp) (g : Nat) (x : Int) (hm : l.length ≤ maxLen) (hma : a.length ≤ maxLen) (hmb : b.length ≤ maxLen) (w : World) (hg : ErrVar w) (hl : Rd w w.heap.size A (cellsP l)) (ha : Rd w w.heap.size B (cellsP a)) (hb : Rd w w.heap.size C (cellsP b)) (hs : setFault a = 0) (Q : Exit → Act → World → Prop) (s0 : Act) (w0 : World) (h0 : SSmid A l c B a d C b g x w 0 s0 w0)
    (h : ∀ a' w', SSmid A l c B a d C b g x w 0 a' w' → (tailN 5 (tailN 3 (tailN 6 (tailN 1 (tailN 3 (Tryd.f3.body.getD .skip)))))).wp Tryd.prog Q a' w') :
    (tailN 3 (tailN 6 (tailN 1 (tailN 3 (Tryd.f3.body.getD .skip))))).wp Tryd.prog Q s0 w0 := by
  have HG := Lib.hid hg
  clear hg
  have hf := hs
  obtain ⟨g1, g2, _⟩ := set_good hs
  have HV := Lib.hid g2
  have HS := Lib.hid hs
  clear g2 hs hf
  obtain ⟨U, rfl, hB0⟩ := h0
  refine wp_cut 5 (SSmid A l c B a d C b g x w 0) (by rfl) ?_ h
  clear h
  intro r HR
  dsimp only [Tryd.f3, Option.getD, tailN, putN]
  have hs0 := hB0.size
  go_wp2_with fail
  go_loopw [16, 17] (fun v i wx => ∃ k : Nat, k ≤ a.length ∧ i = .int .i64 k ∧ v = .int .i64 (cntS (a.take k)) ∧ Below w.heap.size w wx) (fun _ i _ => a.length - (intOf i).toNat)
  case atStart => exact ⟨0, Nat.zero_le _, rfl, rfl, hB0⟩
  case round =>
    obtain ⟨k, hk, rfl, rfl, hbx⟩ := hrel
    have hs := hbx.size
    by_cases hlt : k < a.length
    · obtain ⟨bb, off, rfl, hbb, c0, c1⟩ := (ha.below hbx).pair hlt
      have hsv := HV.out a[k] (List.getElem_mem _)
      obtain ⟨s1, s2, s3⟩ := hsv
      unfold maxA at s3
      have hcb := cntS_bound (a.take k) (valid_take HV.out k)
      have hkl : (a.take k).length ≤ 64 := by simp; omega
      have HC := Lib.hid (cntS_snoc a k hlt)
      generalize hC : cntS (a.take k) = CC at *
      clear hC
      have k0 : ∀ x : BelW wr.heap.size wr, x.1.cell? ⟨bb, off + k * 2, none⟩ = some (.int .i64 a[k].1) := BelW.cell c0 (by simp; omega)
      have k1 : ∀ x : BelW wr.heap.size wr, x.1.cell? ⟨bb, off + k * 2 + 1, none⟩ = some (.int .i64 a[k].2) := BelW.cell c1 (by simp; omega)
      go_wp2_with fail
      refine wp_region_bel wr.heap.size wr (by kernel_rfl) (by kernel_rfl) (Below.refl _ _) ?_
      repeat (go_big_quiet_step (fail))
      refine wpQuiet_nil ?_
      intro w2 hb2
      clear k0 k1
      go_wp2_with fail
      go_roundw
      case rel => exact ⟨k + 1, by omega, by go_num, (by rw [HC.out]; first | go_num | (refine congrArg (Value.int .i64) ?_; simp only [IntKind.wrap]; omega)), hbx.trans (hb2.mono hs)⟩
      case measure => simp [intOf]; omega
    · obtain rfl : k = a.length := by omega
      rw [List.take_length]
      go_wp2_with fail
      refine (count_ok B a d HS.out _ ((ha.below (show Below w.heap.size w _ from (by first | exact hbx | ((repeat' (first | exact hbx | refine Below.setCell ?_ ?_ _ | refine Below.alloc ?_ ?_ _ | refine Below.drew ?_)) <;> (first | omega | (simp <;> omega)))))).more (show w.heap.size ≤ _ from by first | omega | (simp <;> omega)))).mono ?_
      rintro e w1 ⟨rfl, hb1⟩
      have hB1 : Below w.heap.size w w1 := Below.trans (by first | exact hbx | ((repeat' (first | exact hbx | refine Below.setCell ?_ ?_ _ | refine Below.alloc ?_ ?_ _ | refine Below.drew ?_)) <;> (first | omega | (simp <;> omega)))) (hb1.mono (by first | omega | (simp <;> omega)))
      have hs1 : w.heap.size ≤ w1.heap.size := hB1.size
      have ht1 := hb1.size
      try simp only [World.size_alloc, World.size_setCell] at ht1
      clear hbx hb1
      go_wp2_with fail
      refine (error_nil0 _ (by exact HG.out.belowB (show Below w.heap.size w _ from (by first | exact hB1 | ((repeat' (first | exact hB1 | refine Below.setCell ?_ ?_ _ | refine Below.alloc ?_ ?_ _ | refine Below.drew ?_)) <;> (first | omega | (simp <;> omega))))) HG.out.lt)).mono ?_
      rintro e w2 ⟨rfl, hb2⟩
      have hB2 : Below w.heap.size w w2 := Below.trans (by first | exact hB1 | ((repeat' (first | exact hB1 | refine Below.setCell ?_ ?_ _ | refine Below.alloc ?_ ?_ _ | refine Below.drew ?_)) <;> (first | omega | (simp <;> omega)))) (hb2.mono (by first | omega | (simp <;> omega)))
      have hs2 : w.heap.size ≤ w2.heap.size := hB2.size
      have ht2 := hb2.size
      try simp only [World.size_alloc, World.size_setCell] at ht2
      clear hB1 hb2
      go_wp2_with fail
      refine wp_name ?_
      intro w3 hW3
      have hB3 : Below w.heap.size w w3 := by rw [hW3.out]; exact (by first | exact hB2 | ((repeat' (first | exact hB2 | refine Below.setCell ?_ ?_ _ | refine Below.alloc ?_ ?_ _ | refine Below.drew ?_)) <;> (first | omega | (simp <;> omega))))
      have hs3 : w.heap.size ≤ w3.heap.size := hB3.size
      have ht3 := congrArg (fun x : World => x.heap.size) hW3.out
      try simp only [World.size_alloc, World.size_setCell] at ht3
      have hu3 := Nat.le_of_eq ht3
      have hv3 := Nat.le_of_eq ht3.symm
      clear ht3 hB2 hW3
      exact HR.out _ _ (SSmid.mk (by kernel_rfl) hB3)
set_option maxRecDepth 100000 in
set_option maxHeartbeats 8000000 in
theorem spanSets_4b (A : Option Addr) (l : List Sp) (c : Nat) (B : Option Addr) (a : List Sp) (d : Nat) (C : Option Addr) (b : List Sp) (g : Nat) (x : Int) (hm : l.length ≤ maxLen) (hma : a.length ≤ maxLen) (hmb : b.length ≤ maxLen) (w : World) (hg : ErrVar w) (hl : Rd w w.heap.size A (cellsP l)) (ha : Rd w w.heap.size B (cellsP a)) (hb : Rd w w.heap.size C (cellsP b)) (hs : setFault a ≠ 0) (Q : Exit → Act → World → Prop) (s0 : Act) (w0 : World) (h0 : SSmid A l c B a d C b g x w (setFault a) s0 w0)
    (h : ∀ a' w', SSmid A l c B a d C b g x w (setFault a) a' w' → (tailN 5 (tailN 3 (tailN 6 (tailN 1 (tailN 3 (Tryd.f3.body.getD .skip)))))).wp Tryd.prog Q a' w') :
    (tailN 3 (tailN 6 (tailN 1 (tailN 3 (Tryd.f3.body.getD .skip))))).wp Tryd.prog Q s0 w0 := by
  have HG := Lib.hid hg
  clear hg
  have hz : (setFault a == 0) = false := by simpa using hs
  have HS := Lib.hid hs
  unfold maxLen at hma
  have HMA := Lib.hid (show a.length ≤ maxLen from hma)
  clear hs
  obtain ⟨U, rfl, hB0⟩ := h0
  refine wp_cut 5 (SSmid A l c B a d C b g x w (setFault a)) (by rfl) ?_ h
  clear h
  intro r HR
  dsimp only [Tryd.f3, Option.getD, tailN, putN]
  have hs0 := hB0.size
  go_wp2_with fail
  go_loopw [16, 17] (fun v i wx => i = .int .i64 0 ∧ v = .int .i64 0 ∧ Below w.heap.size w wx) (fun _ i _ => 0)
  case atStart => exact ⟨rfl, rfl, hB0⟩
  case round =>
    obtain ⟨rfl, rfl, hbx⟩ := hrel
    have hs := hbx.size
    by_cases hlt : 0 < a.length
    · have hlt' : (0 : Int) < (a.length : Int) := by omega
      go_wp2_with fail
      refine (count_bad B a d HMA.out HS.out _ ((ha.below (show Below w.heap.size w _ from (by first | exact hbx | ((repeat' (first | exact hbx | refine Below.setCell ?_ ?_ _ | refine Below.alloc ?_ ?_ _ | refine Below.drew ?_)) <;> (first | omega | (simp <;> omega)))))).more (show w.heap.size ≤ _ from by first | omega | (simp <;> omega)))).mono ?_
      rintro e w1 ⟨rfl, hb1⟩
      have hB1 : Below w.heap.size w w1 := Below.trans (by first | exact hbx | ((repeat' (first | exact hbx | refine Below.setCell ?_ ?_ _ | refine Below.alloc ?_ ?_ _ | refine Below.drew ?_)) <;> (first | omega | (simp <;> omega)))) (hb1.mono (by first | omega | (simp <;> omega)))
      have hs1 : w.heap.size ≤ w1.heap.size := hB1.size
      have ht1 := hb1.size
      try simp only [World.size_alloc, World.size_setCell] at ht1
      clear hbx hb1
      go_wp2_with fail
      refine (error_same _ HS.out _ (by exact HG.out.belowB (show Below w.heap.size w _ from (by first | exact hB1 | ((repeat' (first | exact hB1 | refine Below.setCell ?_ ?_ _ | refine Below.alloc ?_ ?_ _ | refine Below.drew ?_)) <;> (first | omega | (simp <;> omega))))) HG.out.lt)).mono ?_
      rintro e w2 ⟨rfl, hb2⟩
      have hB2 : Below w.heap.size w w2 := Below.trans (by first | exact hB1 | ((repeat' (first | exact hB1 | refine Below.setCell ?_ ?_ _ | refine Below.alloc ?_ ?_ _ | refine Below.drew ?_)) <;> (first | omega | (simp <;> omega)))) (hb2.mono (by first | omega | (simp <;> omega)))
      have hs2 : w.heap.size ≤ w2.heap.size := hB2.size
      have ht2 := hb2.size
      try simp only [World.size_alloc, World.size_setCell] at ht2
      clear hB1 hb2
      go_wp2_with fail
      refine wp_name ?_
      intro w3 hW3
      have hB3 : Below w.heap.size w w3 := by rw [hW3.out]; exact (by first | exact hB2 | ((repeat' (first | exact hB2 | refine Below.setCell ?_ ?_ _ | refine Below.alloc ?_ ?_ _ | refine Below.drew ?_)) <;> (first | omega | (simp <;> omega))))
      have hs3 : w.heap.size ≤ w3.heap.size := hB3.size
      have ht3 := congrArg (fun x : World => x.heap.size) hW3.out
      try simp only [World.size_alloc, World.size_setCell] at ht3
      have hu3 := Nat.le_of_eq ht3
      have hv3 := Nat.le_of_eq ht3.symm
      clear ht3 hB2 hW3
      exact HR.out _ _ (SSmid.mk (by kernel_rfl) hB3)
    · have hlt' : a.length = 0 := by omega
      have HL0 := Lib.hid hlt'
      have hlt2 : decide ((0 : Int) < (a.length : Int)) = false := decide_eq_false (by omega)
      clear hlt'
      go_wp2_with fail
      refine (count_bad B a d HMA.out HS.out _ ((ha.below (show Below w.heap.size w _ from (by first | exact hbx | ((repeat' (first | exact hbx | refine Below.setCell ?_ ?_ _ | refine Below.alloc ?_ ?_ _ | refine Below.drew ?_)) <;> (first | omega | (simp <;> omega)))))).more (show w.heap.size ≤ _ from by first | omega | (simp <;> omega)))).mono ?_
      rintro e w1 ⟨rfl, hb1⟩
      have hB1 : Below w.heap.size w w1 := Below.trans (by first | exact hbx | ((repeat' (first | exact hbx | refine Below.setCell ?_ ?_ _ | refine Below.alloc ?_ ?_ _ | refine Below.drew ?_)) <;> (first | omega | (simp <;> omega)))) (hb1.mono (by first | omega | (simp <;> omega)))
      have hs1 : w.heap.size ≤ w1.heap.size := hB1.size
      have ht1 := hb1.size
      try simp only [World.size_alloc, World.size_setCell] at ht1
      clear hbx hb1
      go_wp2_with fail
      refine (error_same _ HS.out _ (by exact HG.out.belowB (show Below w.heap.size w _ from (by first | exact hB1 | ((repeat' (first | exact hB1 | refine Below.setCell ?_ ?_ _ | refine Below.alloc ?_ ?_ _ | refine Below.drew ?_)) <;> (first | omega | (simp <;> omega))))) HG.out.lt)).mono ?_
      rintro e w2 ⟨rfl, hb2⟩
      have hB2 : Below w.heap.size w w2 := Below.trans (by first | exact hB1 | ((repeat' (first | exact hB1 | refine Below.setCell ?_ ?_ _ | refine Below.alloc ?_ ?_ _ | refine Below.drew ?_)) <;> (first | omega | (simp <;> omega)))) (hb2.mono (by first | omega | (simp <;> omega)))
      have hs2 : w.heap.size ≤ w2.heap.size := hB2.size
      have ht2 := hb2.size
      try simp only [World.size_alloc, World.size_setCell] at ht2
      clear hB1 hb2
      go_wp2_with fail
      refine wp_name ?_
      intro w3 hW3
      have hB3 : Below w.heap.size w w3 := by rw [hW3.out]; exact (by first | exact hB2 | ((repeat' (first | exact hB2 | refine Below.setCell ?_ ?_ _ | refine Below.alloc ?_ ?_ _ | refine Below.drew ?_)) <;> (first | omega | (simp <;> omega))))
      have hs3 : w.heap.size ≤ w3.heap.size := hB3.size
      have ht3 := congrArg (fun x : World => x.heap.size) hW3.out
      try simp only [World.size_alloc, World.size_setCell] at ht3
      have hu3 := Nat.le_of_eq ht3
      have hv3 := Nat.le_of_eq ht3.symm
      clear ht3 hB2 hW3
      exact HR.out _ _ (SSmid.mk (by kernel_rfl) hB3)
end Go.Proofs.YtmfaknngophmhaaDoor
