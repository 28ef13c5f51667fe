/- The law FreeIs, its parts: the first one, the best one. Any prefix, any list, any length. -/
import Derived.Test.YtmfaknngophmhaaDoorFreeIs0
namespace Go.Proofs.YtmfaknngophmhaaDoor
set_option linter.unusedVariables false
set_option linter.unusedSimpArgs false
open Go.RowKit

set_option maxRecDepth 100000 in
set_option maxHeartbeats 8000000 in
theorem freeIs_6a (p : Pf) (A : Option Addr) (l : List Pf) (c : Nat) (n : Int) (hm : l.length ≤ maxLen) (w : World) (hg : ErrVar w) (ht : TabVar w) (hl : Rd w w.heap.size A (cellsP l)) (e f bi : Int) (he : greatFault p l n = e) (he0 : e ≠ 0) (hf0 : f ≠ 0) (hbf : bestFault p l n = f) (s0 : Act) (w0 : World) (h0 : FI5 p A l c n w e f bi 0 false s0 w0) :
    (tailN 7 (tailN 2 (tailN 2 (tailN 8 (tailN 9 (Tryd.f5.body.getD .skip)))))).wp Tryd.prog (bodyPost Tryd.prog Tryd.f5 fun e w' => e = .returned (.bool true) ∧ Below w.heap.size w w') s0 w0 := by
  have HG := Lib.hid hg
  have HT := Lib.hid ht
  clear hg ht
  have hz : (e == 0) = false := by simpa using he0
  have hz2 : (f == 0) = false := by simpa using hf0
  have HEQ := Lib.hid he
  have HE0 := Lib.hid he0
  have HF0 := Lib.hid hf0
  have HBF := Lib.hid hbf
  have HV := Lib.hid (show greatFault p l n ≠ 0 by rw [he]; exact he0)
  have FBE := Lib.hid (fun W ht hl => (first_bad p A l c n hm HV.out W ht hl))
  rw [he] at FBE
  clear he he0 hf0 hbf
  obtain ⟨U, AB, cB, BL, rfl, hBL, hrB, hB0, c0_0, c0_1⟩ := h0
  have HBL := Lib.hid hBL
  clear hBL
  dsimp only [Tryd.f5, Option.getD, tailN]
  have hs0 := hB0.size
  have l0_0a : w.heap.size < w0.heap.size := World.block_lt_of_cell? w0 _ c0_0
  have l0_0b : w.heap.size < w0.heap.size + 1 := Nat.lt_succ_of_lt l0_0a
  have l0_0c : w.heap.size < w0.heap.size + 1 + 1 := Nat.lt_succ_of_lt l0_0b
  have l0_0d : w.heap.size < w0.heap.size + 1 + 1 + 1 := Nat.lt_succ_of_lt l0_0c
  go_wp2_with fail
  refine (FBE.out _ (by exact HT.out.belowB (show Below w.heap.size w _ from (by first | exact hB0 | ((repeat' (first | exact hB0 | refine Below.setCell ?_ ?_ _ | refine Below.alloc ?_ ?_ _ | refine Below.drew ?_)) <;> (first | omega | (simp <;> omega))))) HT.out.lt) ((hl.below (show Below w.heap.size w _ from (by first | exact hB0 | ((repeat' (first | exact hB0 | refine Below.setCell ?_ ?_ _ | refine Below.alloc ?_ ?_ _ | refine Below.drew ?_)) <;> (first | omega | (simp <;> omega)))))).more (show w.heap.size ≤ _ from by first | omega | (simp <;> omega)))).mono ?_
  rintro e w1 ⟨rfl, hb1⟩
  have hB1 : Below w.heap.size w w1 := Below.trans (by first | exact hB0 | ((repeat' (first | exact hB0 | refine Below.setCell ?_ ?_ _ | refine Below.alloc ?_ ?_ _ | refine Below.drew ?_)) <;> (first | omega | (simp <;> omega)))) (hb1.mono (by first | omega | (simp <;> omega)))
  have hs1 : w.heap.size ≤ w1.heap.size := hB1.size
  have ht1 := hb1.size
  try simp only [World.size_alloc, World.size_setCell] at ht1
  have c1_0 : w1.cell? ⟨w.heap.size, 0, none⟩ = some (.int .i64 p.1) := (hb1.cell (p := ⟨w.heap.size, 0, none⟩) (by first | omega | (simp <;> omega))).trans (by first | exact c0_0 | simp [go_sem, c0_0, l0_0a, l0_0b, l0_0c, l0_0d])
  have c1_1 : w1.cell? ⟨w.heap.size, 1, none⟩ = some (.int .i64 p.2) := (hb1.cell (p := ⟨w.heap.size, 1, none⟩) (by first | omega | (simp <;> omega))).trans (by first | exact c0_1 | simp [go_sem, c0_1, l0_0a, l0_0b, l0_0c, l0_0d])
  have c1_2 : w1.cell? ⟨w0.heap.size, 0, none⟩ = some (.int .i64 0) := (hb1.cell (p := ⟨w0.heap.size, 0, none⟩) (by first | omega | (simp <;> omega))).trans (by first | (simp; done) | simp [go_sem, l0_0a, l0_0b, l0_0c, l0_0d, c0_0, c0_1])
  have fc1_2 : w1.frozen? ⟨w0.heap.size, 0, none⟩ = false := (hb1.frozen (p := ⟨w0.heap.size, 0, none⟩) (by first | omega | (simp <;> omega))).trans (by first | (simp; done) | simp [go_sem, l0_0a, l0_0b, l0_0c, l0_0d, c0_0, c0_1])
  have c1_3 : w1.cell? ⟨w0.heap.size, 1, none⟩ = some (.int .i64 0) := (hb1.cell (p := ⟨w0.heap.size, 1, none⟩) (by first | omega | (simp <;> omega))).trans (by first | (simp; done) | simp [go_sem, l0_0a, l0_0b, l0_0c, l0_0d, c0_0, c0_1])
  have fc1_3 : w1.frozen? ⟨w0.heap.size, 1, none⟩ = false := (hb1.frozen (p := ⟨w0.heap.size, 1, none⟩) (by first | omega | (simp <;> omega))).trans (by first | (simp; done) | simp [go_sem, l0_0a, l0_0b, l0_0c, l0_0d, c0_0, c0_1])
  have c1_4 : w1.cell? ⟨(w0.heap.size + 1), 0, none⟩ = some (.int .i64 0) := (hb1.cell (p := ⟨(w0.heap.size + 1), 0, none⟩) (by first | omega | (simp <;> omega))).trans (by first | (simp; done) | simp [go_sem, l0_0a, l0_0b, l0_0c, l0_0d, c0_0, c0_1])
  have fc1_4 : w1.frozen? ⟨(w0.heap.size + 1), 0, none⟩ = false := (hb1.frozen (p := ⟨(w0.heap.size + 1), 0, none⟩) (by first | omega | (simp <;> omega))).trans (by first | (simp; done) | simp [go_sem, l0_0a, l0_0b, l0_0c, l0_0d, c0_0, c0_1])
  have c1_5 : w1.cell? ⟨(w0.heap.size + 1), 1, none⟩ = some (.int .i64 0) := (hb1.cell (p := ⟨(w0.heap.size + 1), 1, none⟩) (by first | omega | (simp <;> omega))).trans (by first | (simp; done) | simp [go_sem, l0_0a, l0_0b, l0_0c, l0_0d, c0_0, c0_1])
  have fc1_5 : w1.frozen? ⟨(w0.heap.size + 1), 1, none⟩ = false := (hb1.frozen (p := ⟨(w0.heap.size + 1), 1, none⟩) (by first | omega | (simp <;> omega))).trans (by first | (simp; done) | simp [go_sem, l0_0a, l0_0b, l0_0c, l0_0d, c0_0, c0_1])
  have l1_0a : w.heap.size < w1.heap.size := World.block_lt_of_cell? w1 _ c1_0
  have l1_0b : w.heap.size < w1.heap.size + 1 := Nat.lt_succ_of_lt l1_0a
  have l1_0c : w.heap.size < w1.heap.size + 1 + 1 := Nat.lt_succ_of_lt l1_0b
  have l1_0d : w.heap.size < w1.heap.size + 1 + 1 + 1 := Nat.lt_succ_of_lt l1_0c
  have l1_1a : w0.heap.size < w1.heap.size := World.block_lt_of_cell? w1 _ c1_2
  have l1_1b : w0.heap.size < w1.heap.size + 1 := Nat.lt_succ_of_lt l1_1a
  have l1_1c : w0.heap.size < w1.heap.size + 1 + 1 := Nat.lt_succ_of_lt l1_1b
  have l1_1d : w0.heap.size < w1.heap.size + 1 + 1 + 1 := Nat.lt_succ_of_lt l1_1c
  have l1_2a : (w0.heap.size + 1) < w1.heap.size := World.block_lt_of_cell? w1 _ c1_4
  have l1_2b : (w0.heap.size + 1) < w1.heap.size + 1 := Nat.lt_succ_of_lt l1_2a
  have l1_2c : (w0.heap.size + 1) < w1.heap.size + 1 + 1 := Nat.lt_succ_of_lt l1_2b
  have l1_2d : (w0.heap.size + 1) < w1.heap.size + 1 + 1 + 1 := Nat.lt_succ_of_lt l1_2c
  have n1_1_0 : w0.heap.size ≠ w.heap.size := by omega
  have m1_1_0 : w.heap.size ≠ w0.heap.size := by omega
  have n1_1_2 : w0.heap.size ≠ (w0.heap.size + 1) := by omega
  have m1_1_2 : (w0.heap.size + 1) ≠ w0.heap.size := by omega
  have n1_2_0 : (w0.heap.size + 1) ≠ w.heap.size := by omega
  have m1_2_0 : w.heap.size ≠ (w0.heap.size + 1) := by omega
  have n1_2_1 : (w0.heap.size + 1) ≠ w0.heap.size := by omega
  have m1_2_1 : w0.heap.size ≠ (w0.heap.size + 1) := by omega
  have hkw0_1 : Below w0.heap.size w0 w1 := Below.trans (by first | exact Below.refl _ _ | ((repeat' (first | exact Below.refl _ _ | refine Below.setCell ?_ ?_ _ | refine Below.alloc ?_ ?_ _ | refine Below.drew ?_)) <;> (first | omega | (simp <;> omega)))) (hb1.mono (by first | omega | (simp <;> omega)))
  clear c0_0 c0_1 l0_0a l0_0b l0_0c l0_0d hB0 hb1
  go_wp2_with fail
  refine (error_same e (HE0.out) _ (by exact HG.out.belowB (show Below w.heap.size w _ from (by first | exact hB1 | ((repeat' (first | exact hB1 | refine Below.setCell ?_ ?_ _ | refine Below.alloc ?_ ?_ _ | refine Below.drew ?_)) <;> (first | omega | (simp <;> omega))))) HG.out.lt)).mono ?_
  rintro e w2 ⟨rfl, hb2⟩
  have hB2 : Below w.heap.size w w2 := Below.trans (by first | exact hB1 | ((repeat' (first | exact hB1 | refine Below.setCell ?_ ?_ _ | refine Below.alloc ?_ ?_ _ | refine Below.drew ?_)) <;> (first | omega | (simp <;> omega)))) (hb2.mono (by first | omega | (simp <;> omega)))
  have hs2 : w.heap.size ≤ w2.heap.size := hB2.size
  have ht2 := hb2.size
  try simp only [World.size_alloc, World.size_setCell] at ht2
  have c2_0 : w2.cell? ⟨w.heap.size, 0, none⟩ = some (.int .i64 p.1) := (hb2.cell (p := ⟨w.heap.size, 0, none⟩) (by first | omega | (simp <;> omega))).trans (by first | exact c1_0 | simp [go_sem, c1_0, l1_0a, l1_0b, l1_0c, l1_0d, l1_1a, l1_1b, l1_1c, l1_1d, l1_2a, l1_2b, l1_2c, l1_2d, n1_1_0, m1_1_0, n1_1_2, m1_1_2, n1_2_0, m1_2_0, n1_2_1, m1_2_1])
  have c2_1 : w2.cell? ⟨w.heap.size, 1, none⟩ = some (.int .i64 p.2) := (hb2.cell (p := ⟨w.heap.size, 1, none⟩) (by first | omega | (simp <;> omega))).trans (by first | exact c1_1 | simp [go_sem, c1_1, l1_0a, l1_0b, l1_0c, l1_0d, l1_1a, l1_1b, l1_1c, l1_1d, l1_2a, l1_2b, l1_2c, l1_2d, n1_1_0, m1_1_0, n1_1_2, m1_1_2, n1_2_0, m1_2_0, n1_2_1, m1_2_1])
  have c2_2 : w2.cell? ⟨w0.heap.size, 0, none⟩ = some (.int .i64 0) := (hb2.cell (p := ⟨w0.heap.size, 0, none⟩) (by first | omega | (simp <;> omega))).trans (by first | exact c1_2 | simp [go_sem, c1_2, l1_0a, l1_0b, l1_0c, l1_0d, l1_1a, l1_1b, l1_1c, l1_1d, l1_2a, l1_2b, l1_2c, l1_2d, n1_1_0, m1_1_0, n1_1_2, m1_1_2, n1_2_0, m1_2_0, n1_2_1, m1_2_1])
  have fc2_2 : w2.frozen? ⟨w0.heap.size, 0, none⟩ = false := (hb2.frozen (p := ⟨w0.heap.size, 0, none⟩) (by first | omega | (simp <;> omega))).trans (by first | exact fc1_2 | simp [go_sem, fc1_2, l1_0a, l1_0b, l1_0c, l1_0d, l1_1a, l1_1b, l1_1c, l1_1d, l1_2a, l1_2b, l1_2c, l1_2d, n1_1_0, m1_1_0, n1_1_2, m1_1_2, n1_2_0, m1_2_0, n1_2_1, m1_2_1])
  have c2_3 : w2.cell? ⟨w0.heap.size, 1, none⟩ = some (.int .i64 0) := (hb2.cell (p := ⟨w0.heap.size, 1, none⟩) (by first | omega | (simp <;> omega))).trans (by first | exact c1_3 | simp [go_sem, c1_3, l1_0a, l1_0b, l1_0c, l1_0d, l1_1a, l1_1b, l1_1c, l1_1d, l1_2a, l1_2b, l1_2c, l1_2d, n1_1_0, m1_1_0, n1_1_2, m1_1_2, n1_2_0, m1_2_0, n1_2_1, m1_2_1])
  have fc2_3 : w2.frozen? ⟨w0.heap.size, 1, none⟩ = false := (hb2.frozen (p := ⟨w0.heap.size, 1, none⟩) (by first | omega | (simp <;> omega))).trans (by first | exact fc1_3 | simp [go_sem, fc1_3, l1_0a, l1_0b, l1_0c, l1_0d, l1_1a, l1_1b, l1_1c, l1_1d, l1_2a, l1_2b, l1_2c, l1_2d, n1_1_0, m1_1_0, n1_1_2, m1_1_2, n1_2_0, m1_2_0, n1_2_1, m1_2_1])
  have c2_4 : w2.cell? ⟨(w0.heap.size + 1), 0, none⟩ = some (.int .i64 0) := (hb2.cell (p := ⟨(w0.heap.size + 1), 0, none⟩) (by first | omega | (simp <;> omega))).trans (by first | exact c1_4 | simp [go_sem, c1_4, l1_0a, l1_0b, l1_0c, l1_0d, l1_1a, l1_1b, l1_1c, l1_1d, l1_2a, l1_2b, l1_2c, l1_2d, n1_1_0, m1_1_0, n1_1_2, m1_1_2, n1_2_0, m1_2_0, n1_2_1, m1_2_1])
  have fc2_4 : w2.frozen? ⟨(w0.heap.size + 1), 0, none⟩ = false := (hb2.frozen (p := ⟨(w0.heap.size + 1), 0, none⟩) (by first | omega | (simp <;> omega))).trans (by first | exact fc1_4 | simp [go_sem, fc1_4, l1_0a, l1_0b, l1_0c, l1_0d, l1_1a, l1_1b, l1_1c, l1_1d, l1_2a, l1_2b, l1_2c, l1_2d, n1_1_0, m1_1_0, n1_1_2, m1_1_2, n1_2_0, m1_2_0, n1_2_1, m1_2_1])
  have c2_5 : w2.cell? ⟨(w0.heap.size + 1), 1, none⟩ = some (.int .i64 0) := (hb2.cell (p := ⟨(w0.heap.size + 1), 1, none⟩) (by first | omega | (simp <;> omega))).trans (by first | exact c1_5 | simp [go_sem, c1_5, l1_0a, l1_0b, l1_0c, l1_0d, l1_1a, l1_1b, l1_1c, l1_1d, l1_2a, l1_2b, l1_2c, l1_2d, n1_1_0, m1_1_0, n1_1_2, m1_1_2, n1_2_0, m1_2_0, n1_2_1, m1_2_1])
  have fc2_5 : w2.frozen? ⟨(w0.heap.size + 1), 1, none⟩ = false := (hb2.frozen (p := ⟨(w0.heap.size + 1), 1, none⟩) (by first | omega | (simp <;> omega))).trans (by first | exact fc1_5 | simp [go_sem, fc1_5, l1_0a, l1_0b, l1_0c, l1_0d, l1_1a, l1_1b, l1_1c, l1_1d, l1_2a, l1_2b, l1_2c, l1_2d, n1_1_0, m1_1_0, n1_1_2, m1_1_2, n1_2_0, m1_2_0, n1_2_1, m1_2_1])
  have c2_6 : w2.cell? ⟨w1.heap.size, 0, none⟩ = some (.int .i64 0) := (hb2.cell (p := ⟨w1.heap.size, 0, none⟩) (by first | omega | (simp <;> omega))).trans (by first | (simp; done) | simp [go_sem, l1_0a, l1_0b, l1_0c, l1_0d, l1_1a, l1_1b, l1_1c, l1_1d, l1_2a, l1_2b, l1_2c, l1_2d, n1_1_0, m1_1_0, n1_1_2, m1_1_2, n1_2_0, m1_2_0, n1_2_1, m1_2_1, c1_0, c1_1, c1_2, c1_3, c1_4, c1_5, fc1_2, fc1_3, fc1_4, fc1_5])
  have fc2_6 : w2.frozen? ⟨w1.heap.size, 0, none⟩ = false := (hb2.frozen (p := ⟨w1.heap.size, 0, none⟩) (by first | omega | (simp <;> omega))).trans (by first | (simp; done) | simp [go_sem, l1_0a, l1_0b, l1_0c, l1_0d, l1_1a, l1_1b, l1_1c, l1_1d, l1_2a, l1_2b, l1_2c, l1_2d, n1_1_0, m1_1_0, n1_1_2, m1_1_2, n1_2_0, m1_2_0, n1_2_1, m1_2_1, c1_0, c1_1, c1_2, c1_3, c1_4, c1_5, fc1_2, fc1_3, fc1_4, fc1_5])
  have c2_7 : w2.cell? ⟨w1.heap.size, 1, none⟩ = some (.int .i64 0) := (hb2.cell (p := ⟨w1.heap.size, 1, none⟩) (by first | omega | (simp <;> omega))).trans (by first | (simp; done) | simp [go_sem, l1_0a, l1_0b, l1_0c, l1_0d, l1_1a, l1_1b, l1_1c, l1_1d, l1_2a, l1_2b, l1_2c, l1_2d, n1_1_0, m1_1_0, n1_1_2, m1_1_2, n1_2_0, m1_2_0, n1_2_1, m1_2_1, c1_0, c1_1, c1_2, c1_3, c1_4, c1_5, fc1_2, fc1_3, fc1_4, fc1_5])
  have fc2_7 : w2.frozen? ⟨w1.heap.size, 1, none⟩ = false := (hb2.frozen (p := ⟨w1.heap.size, 1, none⟩) (by first | omega | (simp <;> omega))).trans (by first | (simp; done) | simp [go_sem, l1_0a, l1_0b, l1_0c, l1_0d, l1_1a, l1_1b, l1_1c, l1_1d, l1_2a, l1_2b, l1_2c, l1_2d, n1_1_0, m1_1_0, n1_1_2, m1_1_2, n1_2_0, m1_2_0, n1_2_1, m1_2_1, c1_0, c1_1, c1_2, c1_3, c1_4, c1_5, fc1_2, fc1_3, fc1_4, fc1_5])
  have l2_0a : w.heap.size < w2.heap.size := World.block_lt_of_cell? w2 _ c2_0
  have l2_0b : w.heap.size < w2.heap.size + 1 := Nat.lt_succ_of_lt l2_0a
  have l2_0c : w.heap.size < w2.heap.size + 1 + 1 := Nat.lt_succ_of_lt l2_0b
  have l2_0d : w.heap.size < w2.heap.size + 1 + 1 + 1 := Nat.lt_succ_of_lt l2_0c
  have l2_1a : w0.heap.size < w2.heap.size := World.block_lt_of_cell? w2 _ c2_2
  have l2_1b : w0.heap.size < w2.heap.size + 1 := Nat.lt_succ_of_lt l2_1a
  have l2_1c : w0.heap.size < w2.heap.size + 1 + 1 := Nat.lt_succ_of_lt l2_1b
  have l2_1d : w0.heap.size < w2.heap.size + 1 + 1 + 1 := Nat.lt_succ_of_lt l2_1c
  have l2_2a : (w0.heap.size + 1) < w2.heap.size := World.block_lt_of_cell? w2 _ c2_4
  have l2_2b : (w0.heap.size + 1) < w2.heap.size + 1 := Nat.lt_succ_of_lt l2_2a
  have l2_2c : (w0.heap.size + 1) < w2.heap.size + 1 + 1 := Nat.lt_succ_of_lt l2_2b
  have l2_2d : (w0.heap.size + 1) < w2.heap.size + 1 + 1 + 1 := Nat.lt_succ_of_lt l2_2c
  have l2_3a : w1.heap.size < w2.heap.size := World.block_lt_of_cell? w2 _ c2_6
  have l2_3b : w1.heap.size < w2.heap.size + 1 := Nat.lt_succ_of_lt l2_3a
  have l2_3c : w1.heap.size < w2.heap.size + 1 + 1 := Nat.lt_succ_of_lt l2_3b
  have l2_3d : w1.heap.size < w2.heap.size + 1 + 1 + 1 := Nat.lt_succ_of_lt l2_3c
  have n2_1_0 : w0.heap.size ≠ w.heap.size := by omega
  have m2_1_0 : w.heap.size ≠ w0.heap.size := by omega
  have n2_1_2 : w0.heap.size ≠ (w0.heap.size + 1) := by omega
  have m2_1_2 : (w0.heap.size + 1) ≠ w0.heap.size := by omega
  have n2_1_3 : w0.heap.size ≠ w1.heap.size := by omega
  have m2_1_3 : w1.heap.size ≠ w0.heap.size := by omega
  have n2_2_0 : (w0.heap.size + 1) ≠ w.heap.size := by omega
  have m2_2_0 : w.heap.size ≠ (w0.heap.size + 1) := by omega
  have n2_2_1 : (w0.heap.size + 1) ≠ w0.heap.size := by omega
  have m2_2_1 : w0.heap.size ≠ (w0.heap.size + 1) := by omega
  have n2_2_3 : (w0.heap.size + 1) ≠ w1.heap.size := by omega
  have m2_2_3 : w1.heap.size ≠ (w0.heap.size + 1) := by omega
  have n2_3_0 : w1.heap.size ≠ w.heap.size := by omega
  have m2_3_0 : w.heap.size ≠ w1.heap.size := by omega
  have n2_3_1 : w1.heap.size ≠ w0.heap.size := by omega
  have m2_3_1 : w0.heap.size ≠ w1.heap.size := by omega
  have n2_3_2 : w1.heap.size ≠ (w0.heap.size + 1) := by omega
  have m2_3_2 : (w0.heap.size + 1) ≠ w1.heap.size := by omega
  have hkw0_2 : Below w0.heap.size w0 w2 := Below.trans (by first | exact hkw0_1 | ((repeat' (first | exact hkw0_1 | refine Below.setCell ?_ ?_ _ | refine Below.alloc ?_ ?_ _ | refine Below.drew ?_)) <;> (first | omega | (simp <;> omega)))) (hb2.mono (by first | omega | (simp <;> omega)))
  clear c1_0 c1_1 c1_2 c1_3 c1_4 c1_5 fc1_2 fc1_3 fc1_4 fc1_5 l1_0a l1_0b l1_0c l1_0d l1_1a l1_1b l1_1c l1_1d l1_2a l1_2b l1_2c l1_2d n1_1_0 m1_1_0 n1_1_2 m1_1_2 n1_2_0 m1_2_0 n1_2_1 m1_2_1 hkw0_1 hB1 hb2
  go_wp2_with fail
  refine (best_bad p A l c n f HBF.out (HF0.out) hm _ (by exact HT.out.belowB (show Below w.heap.size w _ from (by first | exact hB2 | ((repeat' (first | exact hB2 | refine Below.setCell ?_ ?_ _ | refine Below.alloc ?_ ?_ _ | refine Below.drew ?_)) <;> (first | omega | (simp <;> omega))))) HT.out.lt) ((hl.below (show Below w.heap.size w _ from (by first | exact hB2 | ((repeat' (first | exact hB2 | refine Below.setCell ?_ ?_ _ | refine Below.alloc ?_ ?_ _ | refine Below.drew ?_)) <;> (first | omega | (simp <;> omega)))))).more (show w.heap.size ≤ _ from by first | omega | (simp <;> omega)))).mono ?_
  rintro e w3 ⟨rfl, hb3⟩
  have hB3 : Below w.heap.size w w3 := Below.trans (by first | exact hB2 | ((repeat' (first | exact hB2 | refine Below.setCell ?_ ?_ _ | refine Below.alloc ?_ ?_ _ | refine Below.drew ?_)) <;> (first | omega | (simp <;> omega)))) (hb3.mono (by first | omega | (simp <;> omega)))
  have hs3 : w.heap.size ≤ w3.heap.size := hB3.size
  have ht3 := hb3.size
  try simp only [World.size_alloc, World.size_setCell] at ht3
  have c3_0 : w3.cell? ⟨w.heap.size, 0, none⟩ = some (.int .i64 p.1) := (hb3.cell (p := ⟨w.heap.size, 0, none⟩) (by first | omega | (simp <;> omega))).trans (by first | exact c2_0 | simp [go_sem, c2_0, l2_0a, l2_0b, l2_0c, l2_0d, l2_1a, l2_1b, l2_1c, l2_1d, l2_2a, l2_2b, l2_2c, l2_2d, l2_3a, l2_3b, l2_3c, l2_3d, n2_1_0, m2_1_0, n2_1_2, m2_1_2, n2_1_3, m2_1_3, n2_2_0, m2_2_0, n2_2_1, m2_2_1, n2_2_3, m2_2_3, n2_3_0, m2_3_0, n2_3_1, m2_3_1, n2_3_2, m2_3_2])
  have c3_1 : w3.cell? ⟨w.heap.size, 1, none⟩ = some (.int .i64 p.2) := (hb3.cell (p := ⟨w.heap.size, 1, none⟩) (by first | omega | (simp <;> omega))).trans (by first | exact c2_1 | simp [go_sem, c2_1, l2_0a, l2_0b, l2_0c, l2_0d, l2_1a, l2_1b, l2_1c, l2_1d, l2_2a, l2_2b, l2_2c, l2_2d, l2_3a, l2_3b, l2_3c, l2_3d, n2_1_0, m2_1_0, n2_1_2, m2_1_2, n2_1_3, m2_1_3, n2_2_0, m2_2_0, n2_2_1, m2_2_1, n2_2_3, m2_2_3, n2_3_0, m2_3_0, n2_3_1, m2_3_1, n2_3_2, m2_3_2])
  have c3_2 : w3.cell? ⟨w0.heap.size, 0, none⟩ = some (.int .i64 0) := (hb3.cell (p := ⟨w0.heap.size, 0, none⟩) (by first | omega | (simp <;> omega))).trans (by first | exact c2_2 | simp [go_sem, c2_2, l2_0a, l2_0b, l2_0c, l2_0d, l2_1a, l2_1b, l2_1c, l2_1d, l2_2a, l2_2b, l2_2c, l2_2d, l2_3a, l2_3b, l2_3c, l2_3d, n2_1_0, m2_1_0, n2_1_2, m2_1_2, n2_1_3, m2_1_3, n2_2_0, m2_2_0, n2_2_1, m2_2_1, n2_2_3, m2_2_3, n2_3_0, m2_3_0, n2_3_1, m2_3_1, n2_3_2, m2_3_2])
  have fc3_2 : w3.frozen? ⟨w0.heap.size, 0, none⟩ = false := (hb3.frozen (p := ⟨w0.heap.size, 0, none⟩) (by first | omega | (simp <;> omega))).trans (by first | exact fc2_2 | simp [go_sem, fc2_2, l2_0a, l2_0b, l2_0c, l2_0d, l2_1a, l2_1b, l2_1c, l2_1d, l2_2a, l2_2b, l2_2c, l2_2d, l2_3a, l2_3b, l2_3c, l2_3d, n2_1_0, m2_1_0, n2_1_2, m2_1_2, n2_1_3, m2_1_3, n2_2_0, m2_2_0, n2_2_1, m2_2_1, n2_2_3, m2_2_3, n2_3_0, m2_3_0, n2_3_1, m2_3_1, n2_3_2, m2_3_2])
  have c3_3 : w3.cell? ⟨w0.heap.size, 1, none⟩ = some (.int .i64 0) := (hb3.cell (p := ⟨w0.heap.size, 1, none⟩) (by first | omega | (simp <;> omega))).trans (by first | exact c2_3 | simp [go_sem, c2_3, l2_0a, l2_0b, l2_0c, l2_0d, l2_1a, l2_1b, l2_1c, l2_1d, l2_2a, l2_2b, l2_2c, l2_2d, l2_3a, l2_3b, l2_3c, l2_3d, n2_1_0, m2_1_0, n2_1_2, m2_1_2, n2_1_3, m2_1_3, n2_2_0, m2_2_0, n2_2_1, m2_2_1, n2_2_3, m2_2_3, n2_3_0, m2_3_0, n2_3_1, m2_3_1, n2_3_2, m2_3_2])
  have fc3_3 : w3.frozen? ⟨w0.heap.size, 1, none⟩ = false := (hb3.frozen (p := ⟨w0.heap.size, 1, none⟩) (by first | omega | (simp <;> omega))).trans (by first | exact fc2_3 | simp [go_sem, fc2_3, l2_0a, l2_0b, l2_0c, l2_0d, l2_1a, l2_1b, l2_1c, l2_1d, l2_2a, l2_2b, l2_2c, l2_2d, l2_3a, l2_3b, l2_3c, l2_3d, n2_1_0, m2_1_0, n2_1_2, m2_1_2, n2_1_3, m2_1_3, n2_2_0, m2_2_0, n2_2_1, m2_2_1, n2_2_3, m2_2_3, n2_3_0, m2_3_0, n2_3_1, m2_3_1, n2_3_2, m2_3_2])
  have c3_4 : w3.cell? ⟨(w0.heap.size + 1), 0, none⟩ = some (.int .i64 0) := (hb3.cell (p := ⟨(w0.heap.size + 1), 0, none⟩) (by first | omega | (simp <;> omega))).trans (by first | exact c2_4 | simp [go_sem, c2_4, l2_0a, l2_0b, l2_0c, l2_0d, l2_1a, l2_1b, l2_1c, l2_1d, l2_2a, l2_2b, l2_2c, l2_2d, l2_3a, l2_3b, l2_3c, l2_3d, n2_1_0, m2_1_0, n2_1_2, m2_1_2, n2_1_3, m2_1_3, n2_2_0, m2_2_0, n2_2_1, m2_2_1, n2_2_3, m2_2_3, n2_3_0, m2_3_0, n2_3_1, m2_3_1, n2_3_2, m2_3_2])
  have fc3_4 : w3.frozen? ⟨(w0.heap.size + 1), 0, none⟩ = false := (hb3.frozen (p := ⟨(w0.heap.size + 1), 0, none⟩) (by first | omega | (simp <;> omega))).trans (by first | exact fc2_4 | simp [go_sem, fc2_4, l2_0a, l2_0b, l2_0c, l2_0d, l2_1a, l2_1b, l2_1c, l2_1d, l2_2a, l2_2b, l2_2c, l2_2d, l2_3a, l2_3b, l2_3c, l2_3d, n2_1_0, m2_1_0, n2_1_2, m2_1_2, n2_1_3, m2_1_3, n2_2_0, m2_2_0, n2_2_1, m2_2_1, n2_2_3, m2_2_3, n2_3_0, m2_3_0, n2_3_1, m2_3_1, n2_3_2, m2_3_2])
  have c3_5 : w3.cell? ⟨(w0.heap.size + 1), 1, none⟩ = some (.int .i64 0) := (hb3.cell (p := ⟨(w0.heap.size + 1), 1, none⟩) (by first | omega | (simp <;> omega))).trans (by first | exact c2_5 | simp [go_sem, c2_5, l2_0a, l2_0b, l2_0c, l2_0d, l2_1a, l2_1b, l2_1c, l2_1d, l2_2a, l2_2b, l2_2c, l2_2d, l2_3a, l2_3b, l2_3c, l2_3d, n2_1_0, m2_1_0, n2_1_2, m2_1_2, n2_1_3, m2_1_3, n2_2_0, m2_2_0, n2_2_1, m2_2_1, n2_2_3, m2_2_3, n2_3_0, m2_3_0, n2_3_1, m2_3_1, n2_3_2, m2_3_2])
  have fc3_5 : w3.frozen? ⟨(w0.heap.size + 1), 1, none⟩ = false := (hb3.frozen (p := ⟨(w0.heap.size + 1), 1, none⟩) (by first | omega | (simp <;> omega))).trans (by first | exact fc2_5 | simp [go_sem, fc2_5, l2_0a, l2_0b, l2_0c, l2_0d, l2_1a, l2_1b, l2_1c, l2_1d, l2_2a, l2_2b, l2_2c, l2_2d, l2_3a, l2_3b, l2_3c, l2_3d, n2_1_0, m2_1_0, n2_1_2, m2_1_2, n2_1_3, m2_1_3, n2_2_0, m2_2_0, n2_2_1, m2_2_1, n2_2_3, m2_2_3, n2_3_0, m2_3_0, n2_3_1, m2_3_1, n2_3_2, m2_3_2])
  have c3_6 : w3.cell? ⟨w1.heap.size, 0, none⟩ = some (.int .i64 0) := (hb3.cell (p := ⟨w1.heap.size, 0, none⟩) (by first | omega | (simp <;> omega))).trans (by first | exact c2_6 | simp [go_sem, c2_6, l2_0a, l2_0b, l2_0c, l2_0d, l2_1a, l2_1b, l2_1c, l2_1d, l2_2a, l2_2b, l2_2c, l2_2d, l2_3a, l2_3b, l2_3c, l2_3d, n2_1_0, m2_1_0, n2_1_2, m2_1_2, n2_1_3, m2_1_3, n2_2_0, m2_2_0, n2_2_1, m2_2_1, n2_2_3, m2_2_3, n2_3_0, m2_3_0, n2_3_1, m2_3_1, n2_3_2, m2_3_2])
  have fc3_6 : w3.frozen? ⟨w1.heap.size, 0, none⟩ = false := (hb3.frozen (p := ⟨w1.heap.size, 0, none⟩) (by first | omega | (simp <;> omega))).trans (by first | exact fc2_6 | simp [go_sem, fc2_6, l2_0a, l2_0b, l2_0c, l2_0d, l2_1a, l2_1b, l2_1c, l2_1d, l2_2a, l2_2b, l2_2c, l2_2d, l2_3a, l2_3b, l2_3c, l2_3d, n2_1_0, m2_1_0, n2_1_2, m2_1_2, n2_1_3, m2_1_3, n2_2_0, m2_2_0, n2_2_1, m2_2_1, n2_2_3, m2_2_3, n2_3_0, m2_3_0, n2_3_1, m2_3_1, n2_3_2, m2_3_2])
  have c3_7 : w3.cell? ⟨w1.heap.size, 1, none⟩ = some (.int .i64 0) := (hb3.cell (p := ⟨w1.heap.size, 1, none⟩) (by first | omega | (simp <;> omega))).trans (by first | exact c2_7 | simp [go_sem, c2_7, l2_0a, l2_0b, l2_0c, l2_0d, l2_1a, l2_1b, l2_1c, l2_1d, l2_2a, l2_2b, l2_2c, l2_2d, l2_3a, l2_3b, l2_3c, l2_3d, n2_1_0, m2_1_0, n2_1_2, m2_1_2, n2_1_3, m2_1_3, n2_2_0, m2_2_0, n2_2_1, m2_2_1, n2_2_3, m2_2_3, n2_3_0, m2_3_0, n2_3_1, m2_3_1, n2_3_2, m2_3_2])
  have fc3_7 : w3.frozen? ⟨w1.heap.size, 1, none⟩ = false := (hb3.frozen (p := ⟨w1.heap.size, 1, none⟩) (by first | omega | (simp <;> omega))).trans (by first | exact fc2_7 | simp [go_sem, fc2_7, l2_0a, l2_0b, l2_0c, l2_0d, l2_1a, l2_1b, l2_1c, l2_1d, l2_2a, l2_2b, l2_2c, l2_2d, l2_3a, l2_3b, l2_3c, l2_3d, n2_1_0, m2_1_0, n2_1_2, m2_1_2, n2_1_3, m2_1_3, n2_2_0, m2_2_0, n2_2_1, m2_2_1, n2_2_3, m2_2_3, n2_3_0, m2_3_0, n2_3_1, m2_3_1, n2_3_2, m2_3_2])
  have l3_0a : w.heap.size < w3.heap.size := World.block_lt_of_cell? w3 _ c3_0
  have l3_0b : w.heap.size < w3.heap.size + 1 := Nat.lt_succ_of_lt l3_0a
  have l3_0c : w.heap.size < w3.heap.size + 1 + 1 := Nat.lt_succ_of_lt l3_0b
  have l3_0d : w.heap.size < w3.heap.size + 1 + 1 + 1 := Nat.lt_succ_of_lt l3_0c
  have l3_1a : w0.heap.size < w3.heap.size := World.block_lt_of_cell? w3 _ c3_2
  have l3_1b : w0.heap.size < w3.heap.size + 1 := Nat.lt_succ_of_lt l3_1a
  have l3_1c : w0.heap.size < w3.heap.size + 1 + 1 := Nat.lt_succ_of_lt l3_1b
  have l3_1d : w0.heap.size < w3.heap.size + 1 + 1 + 1 := Nat.lt_succ_of_lt l3_1c
  have l3_2a : (w0.heap.size + 1) < w3.heap.size := World.block_lt_of_cell? w3 _ c3_4
  have l3_2b : (w0.heap.size + 1) < w3.heap.size + 1 := Nat.lt_succ_of_lt l3_2a
  have l3_2c : (w0.heap.size + 1) < w3.heap.size + 1 + 1 := Nat.lt_succ_of_lt l3_2b
  have l3_2d : (w0.heap.size + 1) < w3.heap.size + 1 + 1 + 1 := Nat.lt_succ_of_lt l3_2c
  have l3_3a : w1.heap.size < w3.heap.size := World.block_lt_of_cell? w3 _ c3_6
  have l3_3b : w1.heap.size < w3.heap.size + 1 := Nat.lt_succ_of_lt l3_3a
  have l3_3c : w1.heap.size < w3.heap.size + 1 + 1 := Nat.lt_succ_of_lt l3_3b
  have l3_3d : w1.heap.size < w3.heap.size + 1 + 1 + 1 := Nat.lt_succ_of_lt l3_3c
  have n3_1_0 : w0.heap.size ≠ w.heap.size := by omega
  have m3_1_0 : w.heap.size ≠ w0.heap.size := by omega
  have n3_1_2 : w0.heap.size ≠ (w0.heap.size + 1) := by omega
  have m3_1_2 : (w0.heap.size + 1) ≠ w0.heap.size := by omega
  have n3_1_3 : w0.heap.size ≠ w1.heap.size := by omega
  have m3_1_3 : w1.heap.size ≠ w0.heap.size := by omega
  have n3_2_0 : (w0.heap.size + 1) ≠ w.heap.size := by omega
  have m3_2_0 : w.heap.size ≠ (w0.heap.size + 1) := by omega
  have n3_2_1 : (w0.heap.size + 1) ≠ w0.heap.size := by omega
  have m3_2_1 : w0.heap.size ≠ (w0.heap.size + 1) := by omega
  have n3_2_3 : (w0.heap.size + 1) ≠ w1.heap.size := by omega
  have m3_2_3 : w1.heap.size ≠ (w0.heap.size + 1) := by omega
  have n3_3_0 : w1.heap.size ≠ w.heap.size := by omega
  have m3_3_0 : w.heap.size ≠ w1.heap.size := by omega
  have n3_3_1 : w1.heap.size ≠ w0.heap.size := by omega
  have m3_3_1 : w0.heap.size ≠ w1.heap.size := by omega
  have n3_3_2 : w1.heap.size ≠ (w0.heap.size + 1) := by omega
  have m3_3_2 : (w0.heap.size + 1) ≠ w1.heap.size := by omega
  have hkw0_3 : Below w0.heap.size w0 w3 := Below.trans (by first | exact hkw0_2 | ((repeat' (first | exact hkw0_2 | refine Below.setCell ?_ ?_ _ | refine Below.alloc ?_ ?_ _ | refine Below.drew ?_)) <;> (first | omega | (simp <;> omega)))) (hb3.mono (by first | omega | (simp <;> omega)))
  clear c2_0 c2_1 c2_2 c2_3 c2_4 c2_5 c2_6 c2_7 fc2_2 fc2_3 fc2_4 fc2_5 fc2_6 fc2_7 l2_0a l2_0b l2_0c l2_0d l2_1a l2_1b l2_1c l2_1d l2_2a l2_2b l2_2c l2_2d l2_3a l2_3b l2_3c l2_3d n2_1_0 m2_1_0 n2_1_2 m2_1_2 n2_1_3 m2_1_3 n2_2_0 m2_2_0 n2_2_1 m2_2_1 n2_2_3 m2_2_3 n2_3_0 m2_3_0 n2_3_1 m2_3_1 n2_3_2 m2_3_2 hkw0_2 hB2 hb3
  go_wp2_with fail
  refine (error_same f (HF0.out) _ (by exact HG.out.belowB (show Below w.heap.size w _ from (by first | exact hB3 | ((repeat' (first | exact hB3 | refine Below.setCell ?_ ?_ _ | refine Below.alloc ?_ ?_ _ | refine Below.drew ?_)) <;> (first | omega | (simp <;> omega))))) HG.out.lt)).mono ?_
  rintro e w4 ⟨rfl, hb4⟩
  have hB4 : Below w.heap.size w w4 := Below.trans (by first | exact hB3 | ((repeat' (first | exact hB3 | refine Below.setCell ?_ ?_ _ | refine Below.alloc ?_ ?_ _ | refine Below.drew ?_)) <;> (first | omega | (simp <;> omega)))) (hb4.mono (by first | omega | (simp <;> omega)))
  have hs4 : w.heap.size ≤ w4.heap.size := hB4.size
  have ht4 := hb4.size
  try simp only [World.size_alloc, World.size_setCell] at ht4
  have c4_0 : w4.cell? ⟨w.heap.size, 0, none⟩ = some (.int .i64 p.1) := (hb4.cell (p := ⟨w.heap.size, 0, none⟩) (by first | omega | (simp <;> omega))).trans (by first | exact c3_0 | simp [go_sem, c3_0, l3_0a, l3_0b, l3_0c, l3_0d, l3_1a, l3_1b, l3_1c, l3_1d, l3_2a, l3_2b, l3_2c, l3_2d, l3_3a, l3_3b, l3_3c, l3_3d, n3_1_0, m3_1_0, n3_1_2, m3_1_2, n3_1_3, m3_1_3, n3_2_0, m3_2_0, n3_2_1, m3_2_1, n3_2_3, m3_2_3, n3_3_0, m3_3_0, n3_3_1, m3_3_1, n3_3_2, m3_3_2])
  have c4_1 : w4.cell? ⟨w.heap.size, 1, none⟩ = some (.int .i64 p.2) := (hb4.cell (p := ⟨w.heap.size, 1, none⟩) (by first | omega | (simp <;> omega))).trans (by first | exact c3_1 | simp [go_sem, c3_1, l3_0a, l3_0b, l3_0c, l3_0d, l3_1a, l3_1b, l3_1c, l3_1d, l3_2a, l3_2b, l3_2c, l3_2d, l3_3a, l3_3b, l3_3c, l3_3d, n3_1_0, m3_1_0, n3_1_2, m3_1_2, n3_1_3, m3_1_3, n3_2_0, m3_2_0, n3_2_1, m3_2_1, n3_2_3, m3_2_3, n3_3_0, m3_3_0, n3_3_1, m3_3_1, n3_3_2, m3_3_2])
  have c4_2 : w4.cell? ⟨w0.heap.size, 0, none⟩ = some (.int .i64 0) := (hb4.cell (p := ⟨w0.heap.size, 0, none⟩) (by first | omega | (simp <;> omega))).trans (by first | exact c3_2 | simp [go_sem, c3_2, l3_0a, l3_0b, l3_0c, l3_0d, l3_1a, l3_1b, l3_1c, l3_1d, l3_2a, l3_2b, l3_2c, l3_2d, l3_3a, l3_3b, l3_3c, l3_3d, n3_1_0, m3_1_0, n3_1_2, m3_1_2, n3_1_3, m3_1_3, n3_2_0, m3_2_0, n3_2_1, m3_2_1, n3_2_3, m3_2_3, n3_3_0, m3_3_0, n3_3_1, m3_3_1, n3_3_2, m3_3_2])
  have fc4_2 : w4.frozen? ⟨w0.heap.size, 0, none⟩ = false := (hb4.frozen (p := ⟨w0.heap.size, 0, none⟩) (by first | omega | (simp <;> omega))).trans (by first | exact fc3_2 | simp [go_sem, fc3_2, l3_0a, l3_0b, l3_0c, l3_0d, l3_1a, l3_1b, l3_1c, l3_1d, l3_2a, l3_2b, l3_2c, l3_2d, l3_3a, l3_3b, l3_3c, l3_3d, n3_1_0, m3_1_0, n3_1_2, m3_1_2, n3_1_3, m3_1_3, n3_2_0, m3_2_0, n3_2_1, m3_2_1, n3_2_3, m3_2_3, n3_3_0, m3_3_0, n3_3_1, m3_3_1, n3_3_2, m3_3_2])
  have c4_3 : w4.cell? ⟨w0.heap.size, 1, none⟩ = some (.int .i64 0) := (hb4.cell (p := ⟨w0.heap.size, 1, none⟩) (by first | omega | (simp <;> omega))).trans (by first | exact c3_3 | simp [go_sem, c3_3, l3_0a, l3_0b, l3_0c, l3_0d, l3_1a, l3_1b, l3_1c, l3_1d, l3_2a, l3_2b, l3_2c, l3_2d, l3_3a, l3_3b, l3_3c, l3_3d, n3_1_0, m3_1_0, n3_1_2, m3_1_2, n3_1_3, m3_1_3, n3_2_0, m3_2_0, n3_2_1, m3_2_1, n3_2_3, m3_2_3, n3_3_0, m3_3_0, n3_3_1, m3_3_1, n3_3_2, m3_3_2])
  have fc4_3 : w4.frozen? ⟨w0.heap.size, 1, none⟩ = false := (hb4.frozen (p := ⟨w0.heap.size, 1, none⟩) (by first | omega | (simp <;> omega))).trans (by first | exact fc3_3 | simp [go_sem, fc3_3, l3_0a, l3_0b, l3_0c, l3_0d, l3_1a, l3_1b, l3_1c, l3_1d, l3_2a, l3_2b, l3_2c, l3_2d, l3_3a, l3_3b, l3_3c, l3_3d, n3_1_0, m3_1_0, n3_1_2, m3_1_2, n3_1_3, m3_1_3, n3_2_0, m3_2_0, n3_2_1, m3_2_1, n3_2_3, m3_2_3, n3_3_0, m3_3_0, n3_3_1, m3_3_1, n3_3_2, m3_3_2])
  have c4_4 : w4.cell? ⟨(w0.heap.size + 1), 0, none⟩ = some (.int .i64 0) := (hb4.cell (p := ⟨(w0.heap.size + 1), 0, none⟩) (by first | omega | (simp <;> omega))).trans (by first | exact c3_4 | simp [go_sem, c3_4, l3_0a, l3_0b, l3_0c, l3_0d, l3_1a, l3_1b, l3_1c, l3_1d, l3_2a, l3_2b, l3_2c, l3_2d, l3_3a, l3_3b, l3_3c, l3_3d, n3_1_0, m3_1_0, n3_1_2, m3_1_2, n3_1_3, m3_1_3, n3_2_0, m3_2_0, n3_2_1, m3_2_1, n3_2_3, m3_2_3, n3_3_0, m3_3_0, n3_3_1, m3_3_1, n3_3_2, m3_3_2])
  have fc4_4 : w4.frozen? ⟨(w0.heap.size + 1), 0, none⟩ = false := (hb4.frozen (p := ⟨(w0.heap.size + 1), 0, none⟩) (by first | omega | (simp <;> omega))).trans (by first | exact fc3_4 | simp [go_sem, fc3_4, l3_0a, l3_0b, l3_0c, l3_0d, l3_1a, l3_1b, l3_1c, l3_1d, l3_2a, l3_2b, l3_2c, l3_2d, l3_3a, l3_3b, l3_3c, l3_3d, n3_1_0, m3_1_0, n3_1_2, m3_1_2, n3_1_3, m3_1_3, n3_2_0, m3_2_0, n3_2_1, m3_2_1, n3_2_3, m3_2_3, n3_3_0, m3_3_0, n3_3_1, m3_3_1, n3_3_2, m3_3_2])
  have c4_5 : w4.cell? ⟨(w0.heap.size + 1), 1, none⟩ = some (.int .i64 0) := (hb4.cell (p := ⟨(w0.heap.size + 1), 1, none⟩) (by first | omega | (simp <;> omega))).trans (by first | exact c3_5 | simp [go_sem, c3_5, l3_0a, l3_0b, l3_0c, l3_0d, l3_1a, l3_1b, l3_1c, l3_1d, l3_2a, l3_2b, l3_2c, l3_2d, l3_3a, l3_3b, l3_3c, l3_3d, n3_1_0, m3_1_0, n3_1_2, m3_1_2, n3_1_3, m3_1_3, n3_2_0, m3_2_0, n3_2_1, m3_2_1, n3_2_3, m3_2_3, n3_3_0, m3_3_0, n3_3_1, m3_3_1, n3_3_2, m3_3_2])
  have fc4_5 : w4.frozen? ⟨(w0.heap.size + 1), 1, none⟩ = false := (hb4.frozen (p := ⟨(w0.heap.size + 1), 1, none⟩) (by first | omega | (simp <;> omega))).trans (by first | exact fc3_5 | simp [go_sem, fc3_5, l3_0a, l3_0b, l3_0c, l3_0d, l3_1a, l3_1b, l3_1c, l3_1d, l3_2a, l3_2b, l3_2c, l3_2d, l3_3a, l3_3b, l3_3c, l3_3d, n3_1_0, m3_1_0, n3_1_2, m3_1_2, n3_1_3, m3_1_3, n3_2_0, m3_2_0, n3_2_1, m3_2_1, n3_2_3, m3_2_3, n3_3_0, m3_3_0, n3_3_1, m3_3_1, n3_3_2, m3_3_2])
  have c4_6 : w4.cell? ⟨w1.heap.size, 0, none⟩ = some (.int .i64 0) := (hb4.cell (p := ⟨w1.heap.size, 0, none⟩) (by first | omega | (simp <;> omega))).trans (by first | (simp; done) | simp [go_sem, l3_0a, l3_0b, l3_0c, l3_0d, l3_1a, l3_1b, l3_1c, l3_1d, l3_2a, l3_2b, l3_2c, l3_2d, l3_3a, l3_3b, l3_3c, l3_3d, n3_1_0, m3_1_0, n3_1_2, m3_1_2, n3_1_3, m3_1_3, n3_2_0, m3_2_0, n3_2_1, m3_2_1, n3_2_3, m3_2_3, n3_3_0, m3_3_0, n3_3_1, m3_3_1, n3_3_2, m3_3_2, c3_0, c3_1, c3_2, c3_3, c3_4, c3_5, c3_6, c3_7, fc3_2, fc3_3, fc3_4, fc3_5, fc3_6, fc3_7])
  have fc4_6 : w4.frozen? ⟨w1.heap.size, 0, none⟩ = false := (hb4.frozen (p := ⟨w1.heap.size, 0, none⟩) (by first | omega | (simp <;> omega))).trans (by first | (simp; done) | simp [go_sem, l3_0a, l3_0b, l3_0c, l3_0d, l3_1a, l3_1b, l3_1c, l3_1d, l3_2a, l3_2b, l3_2c, l3_2d, l3_3a, l3_3b, l3_3c, l3_3d, n3_1_0, m3_1_0, n3_1_2, m3_1_2, n3_1_3, m3_1_3, n3_2_0, m3_2_0, n3_2_1, m3_2_1, n3_2_3, m3_2_3, n3_3_0, m3_3_0, n3_3_1, m3_3_1, n3_3_2, m3_3_2, c3_0, c3_1, c3_2, c3_3, c3_4, c3_5, c3_6, c3_7, fc3_2, fc3_3, fc3_4, fc3_5, fc3_6, fc3_7])
  have c4_7 : w4.cell? ⟨w1.heap.size, 1, none⟩ = some (.int .i64 0) := (hb4.cell (p := ⟨w1.heap.size, 1, none⟩) (by first | omega | (simp <;> omega))).trans (by first | (simp; done) | simp [go_sem, l3_0a, l3_0b, l3_0c, l3_0d, l3_1a, l3_1b, l3_1c, l3_1d, l3_2a, l3_2b, l3_2c, l3_2d, l3_3a, l3_3b, l3_3c, l3_3d, n3_1_0, m3_1_0, n3_1_2, m3_1_2, n3_1_3, m3_1_3, n3_2_0, m3_2_0, n3_2_1, m3_2_1, n3_2_3, m3_2_3, n3_3_0, m3_3_0, n3_3_1, m3_3_1, n3_3_2, m3_3_2, c3_0, c3_1, c3_2, c3_3, c3_4, c3_5, c3_6, c3_7, fc3_2, fc3_3, fc3_4, fc3_5, fc3_6, fc3_7])
  have fc4_7 : w4.frozen? ⟨w1.heap.size, 1, none⟩ = false := (hb4.frozen (p := ⟨w1.heap.size, 1, none⟩) (by first | omega | (simp <;> omega))).trans (by first | (simp; done) | simp [go_sem, l3_0a, l3_0b, l3_0c, l3_0d, l3_1a, l3_1b, l3_1c, l3_1d, l3_2a, l3_2b, l3_2c, l3_2d, l3_3a, l3_3b, l3_3c, l3_3d, n3_1_0, m3_1_0, n3_1_2, m3_1_2, n3_1_3, m3_1_3, n3_2_0, m3_2_0, n3_2_1, m3_2_1, n3_2_3, m3_2_3, n3_3_0, m3_3_0, n3_3_1, m3_3_1, n3_3_2, m3_3_2, c3_0, c3_1, c3_2, c3_3, c3_4, c3_5, c3_6, c3_7, fc3_2, fc3_3, fc3_4, fc3_5, fc3_6, fc3_7])
  have l4_0a : w.heap.size < w4.heap.size := World.block_lt_of_cell? w4 _ c4_0
  have l4_0b : w.heap.size < w4.heap.size + 1 := Nat.lt_succ_of_lt l4_0a
  have l4_0c : w.heap.size < w4.heap.size + 1 + 1 := Nat.lt_succ_of_lt l4_0b
  have l4_0d : w.heap.size < w4.heap.size + 1 + 1 + 1 := Nat.lt_succ_of_lt l4_0c
  have l4_1a : w0.heap.size < w4.heap.size := World.block_lt_of_cell? w4 _ c4_2
  have l4_1b : w0.heap.size < w4.heap.size + 1 := Nat.lt_succ_of_lt l4_1a
  have l4_1c : w0.heap.size < w4.heap.size + 1 + 1 := Nat.lt_succ_of_lt l4_1b
  have l4_1d : w0.heap.size < w4.heap.size + 1 + 1 + 1 := Nat.lt_succ_of_lt l4_1c
  have l4_2a : (w0.heap.size + 1) < w4.heap.size := World.block_lt_of_cell? w4 _ c4_4
  have l4_2b : (w0.heap.size + 1) < w4.heap.size + 1 := Nat.lt_succ_of_lt l4_2a
  have l4_2c : (w0.heap.size + 1) < w4.heap.size + 1 + 1 := Nat.lt_succ_of_lt l4_2b
  have l4_2d : (w0.heap.size + 1) < w4.heap.size + 1 + 1 + 1 := Nat.lt_succ_of_lt l4_2c
  have l4_3a : w1.heap.size < w4.heap.size := World.block_lt_of_cell? w4 _ c4_6
  have l4_3b : w1.heap.size < w4.heap.size + 1 := Nat.lt_succ_of_lt l4_3a
  have l4_3c : w1.heap.size < w4.heap.size + 1 + 1 := Nat.lt_succ_of_lt l4_3b
  have l4_3d : w1.heap.size < w4.heap.size + 1 + 1 + 1 := Nat.lt_succ_of_lt l4_3c
  have n4_1_0 : w0.heap.size ≠ w.heap.size := by omega
  have m4_1_0 : w.heap.size ≠ w0.heap.size := by omega
  have n4_1_2 : w0.heap.size ≠ (w0.heap.size + 1) := by omega
  have m4_1_2 : (w0.heap.size + 1) ≠ w0.heap.size := by omega
  have n4_1_3 : w0.heap.size ≠ w1.heap.size := by omega
  have m4_1_3 : w1.heap.size ≠ w0.heap.size := by omega
  have n4_2_0 : (w0.heap.size + 1) ≠ w.heap.size := by omega
  have m4_2_0 : w.heap.size ≠ (w0.heap.size + 1) := by omega
  have n4_2_1 : (w0.heap.size + 1) ≠ w0.heap.size := by omega
  have m4_2_1 : w0.heap.size ≠ (w0.heap.size + 1) := by omega
  have n4_2_3 : (w0.heap.size + 1) ≠ w1.heap.size := by omega
  have m4_2_3 : w1.heap.size ≠ (w0.heap.size + 1) := by omega
  have n4_3_0 : w1.heap.size ≠ w.heap.size := by omega
  have m4_3_0 : w.heap.size ≠ w1.heap.size := by omega
  have n4_3_1 : w1.heap.size ≠ w0.heap.size := by omega
  have m4_3_1 : w0.heap.size ≠ w1.heap.size := by omega
  have n4_3_2 : w1.heap.size ≠ (w0.heap.size + 1) := by omega
  have m4_3_2 : (w0.heap.size + 1) ≠ w1.heap.size := by omega
  have hkw0_4 : Below w0.heap.size w0 w4 := Below.trans (by first | exact hkw0_3 | ((repeat' (first | exact hkw0_3 | refine Below.setCell ?_ ?_ _ | refine Below.alloc ?_ ?_ _ | refine Below.drew ?_)) <;> (first | omega | (simp <;> omega)))) (hb4.mono (by first | omega | (simp <;> omega)))
  clear c3_0 c3_1 c3_2 c3_3 c3_4 c3_5 c3_6 c3_7 fc3_2 fc3_3 fc3_4 fc3_5 fc3_6 fc3_7 l3_0a l3_0b l3_0c l3_0d l3_1a l3_1b l3_1c l3_1d l3_2a l3_2b l3_2c l3_2d l3_3a l3_3b l3_3c l3_3d n3_1_0 m3_1_0 n3_1_2 m3_1_2 n3_1_3 m3_1_3 n3_2_0 m3_2_0 n3_2_1 m3_2_1 n3_2_3 m3_2_3 n3_3_0 m3_3_0 n3_3_1 m3_3_1 n3_3_2 m3_3_2 hkw0_3 hB3 hb4
  go_wp2_with fail
  go_ret
  exact ⟨rfl, (by first | exact hB4 | ((repeat' (first | exact hB4 | refine Below.setCell ?_ ?_ _ | refine Below.alloc ?_ ?_ _ | refine Below.drew ?_)) <;> (first | omega | (simp <;> omega))))⟩
set_option maxRecDepth 100000 in
set_option maxHeartbeats 8000000 in
theorem freeIs_6b (p : Pf) (A : Option Addr) (l : List Pf) (c : Nat) (n : Int) (hm : l.length ≤ maxLen) (w : World) (hg : ErrVar w) (ht : TabVar w) (hl : Rd w w.heap.size A (cellsP l)) (hv : greatFault p l n = 0) (hgr : greatL p l n = []) (hbf : bestFault p l n = 4) (s0 : Act) (w0 : World) (h0 : FI5 p A l c n w 0 0 (-1) 0 false s0 w0) :
    (tailN 7 (tailN 2 (tailN 2 (tailN 8 (tailN 9 (Tryd.f5.body.getD .skip)))))).wp Tryd.prog (bodyPost Tryd.prog Tryd.f5 fun e w' => e = .returned (.bool true) ∧ Below w.heap.size w w') s0 w0 := by
  have HG := Lib.hid hg
  have HT := Lib.hid ht
  clear hg ht
  have HV := Lib.hid hv
  have HGR := Lib.hid hgr
  have HBF := Lib.hid hbf
  clear hv hgr hbf
  obtain ⟨U, AB, cB, BL, rfl, hBL, hrB, hB0, c0_0, c0_1⟩ := h0
  have HBL := Lib.hid hBL
  clear hBL
  dsimp only [Tryd.f5, Option.getD, tailN]
  have hs0 := hB0.size
  have l0_0a : w.heap.size < w0.heap.size := World.block_lt_of_cell? w0 _ c0_0
  have l0_0b : w.heap.size < w0.heap.size + 1 := Nat.lt_succ_of_lt l0_0a
  have l0_0c : w.heap.size < w0.heap.size + 1 + 1 := Nat.lt_succ_of_lt l0_0b
  have l0_0d : w.heap.size < w0.heap.size + 1 + 1 + 1 := Nat.lt_succ_of_lt l0_0c
  go_wp2_with fail
  refine (first_none p A l c n hm HV.out HGR.out _ (by exact HT.out.belowB (show Below w.heap.size w _ from (by first | exact hB0 | ((repeat' (first | exact hB0 | refine Below.setCell ?_ ?_ _ | refine Below.alloc ?_ ?_ _ | refine Below.drew ?_)) <;> (first | omega | (simp <;> omega))))) HT.out.lt) ((hl.below (show Below w.heap.size w _ from (by first | exact hB0 | ((repeat' (first | exact hB0 | refine Below.setCell ?_ ?_ _ | refine Below.alloc ?_ ?_ _ | refine Below.drew ?_)) <;> (first | omega | (simp <;> omega)))))).more (show w.heap.size ≤ _ from by first | omega | (simp <;> omega)))).mono ?_
  rintro e w1 ⟨rfl, hb1⟩
  have hB1 : Below w.heap.size w w1 := Below.trans (by first | exact hB0 | ((repeat' (first | exact hB0 | refine Below.setCell ?_ ?_ _ | refine Below.alloc ?_ ?_ _ | refine Below.drew ?_)) <;> (first | omega | (simp <;> omega)))) (hb1.mono (by first | omega | (simp <;> omega)))
  have hs1 : w.heap.size ≤ w1.heap.size := hB1.size
  have ht1 := hb1.size
  try simp only [World.size_alloc, World.size_setCell] at ht1
  have c1_0 : w1.cell? ⟨w.heap.size, 0, none⟩ = some (.int .i64 p.1) := (hb1.cell (p := ⟨w.heap.size, 0, none⟩) (by first | omega | (simp <;> omega))).trans (by first | exact c0_0 | simp [go_sem, c0_0, l0_0a, l0_0b, l0_0c, l0_0d])
  have c1_1 : w1.cell? ⟨w.heap.size, 1, none⟩ = some (.int .i64 p.2) := (hb1.cell (p := ⟨w.heap.size, 1, none⟩) (by first | omega | (simp <;> omega))).trans (by first | exact c0_1 | simp [go_sem, c0_1, l0_0a, l0_0b, l0_0c, l0_0d])
  have c1_2 : w1.cell? ⟨w0.heap.size, 0, none⟩ = some (.int .i64 0) := (hb1.cell (p := ⟨w0.heap.size, 0, none⟩) (by first | omega | (simp <;> omega))).trans (by first | (simp; done) | simp [go_sem, l0_0a, l0_0b, l0_0c, l0_0d, c0_0, c0_1])
  have fc1_2 : w1.frozen? ⟨w0.heap.size, 0, none⟩ = false := (hb1.frozen (p := ⟨w0.heap.size, 0, none⟩) (by first | omega | (simp <;> omega))).trans (by first | (simp; done) | simp [go_sem, l0_0a, l0_0b, l0_0c, l0_0d, c0_0, c0_1])
  have c1_3 : w1.cell? ⟨w0.heap.size, 1, none⟩ = some (.int .i64 0) := (hb1.cell (p := ⟨w0.heap.size, 1, none⟩) (by first | omega | (simp <;> omega))).trans (by first | (simp; done) | simp [go_sem, l0_0a, l0_0b, l0_0c, l0_0d, c0_0, c0_1])
  have fc1_3 : w1.frozen? ⟨w0.heap.size, 1, none⟩ = false := (hb1.frozen (p := ⟨w0.heap.size, 1, none⟩) (by first | omega | (simp <;> omega))).trans (by first | (simp; done) | simp [go_sem, l0_0a, l0_0b, l0_0c, l0_0d, c0_0, c0_1])
  have c1_4 : w1.cell? ⟨(w0.heap.size + 1), 0, none⟩ = some (.int .i64 0) := (hb1.cell (p := ⟨(w0.heap.size + 1), 0, none⟩) (by first | omega | (simp <;> omega))).trans (by first | (simp; done) | simp [go_sem, l0_0a, l0_0b, l0_0c, l0_0d, c0_0, c0_1])
  have fc1_4 : w1.frozen? ⟨(w0.heap.size + 1), 0, none⟩ = false := (hb1.frozen (p := ⟨(w0.heap.size + 1), 0, none⟩) (by first | omega | (simp <;> omega))).trans (by first | (simp; done) | simp [go_sem, l0_0a, l0_0b, l0_0c, l0_0d, c0_0, c0_1])
  have c1_5 : w1.cell? ⟨(w0.heap.size + 1), 1, none⟩ = some (.int .i64 0) := (hb1.cell (p := ⟨(w0.heap.size + 1), 1, none⟩) (by first | omega | (simp <;> omega))).trans (by first | (simp; done) | simp [go_sem, l0_0a, l0_0b, l0_0c, l0_0d, c0_0, c0_1])
  have fc1_5 : w1.frozen? ⟨(w0.heap.size + 1), 1, none⟩ = false := (hb1.frozen (p := ⟨(w0.heap.size + 1), 1, none⟩) (by first | omega | (simp <;> omega))).trans (by first | (simp; done) | simp [go_sem, l0_0a, l0_0b, l0_0c, l0_0d, c0_0, c0_1])
  have l1_0a : w.heap.size < w1.heap.size := World.block_lt_of_cell? w1 _ c1_0
  have l1_0b : w.heap.size < w1.heap.size + 1 := Nat.lt_succ_of_lt l1_0a
  have l1_0c : w.heap.size < w1.heap.size + 1 + 1 := Nat.lt_succ_of_lt l1_0b
  have l1_0d : w.heap.size < w1.heap.size + 1 + 1 + 1 := Nat.lt_succ_of_lt l1_0c
  have l1_1a : w0.heap.size < w1.heap.size := World.block_lt_of_cell? w1 _ c1_2
  have l1_1b : w0.heap.size < w1.heap.size + 1 := Nat.lt_succ_of_lt l1_1a
  have l1_1c : w0.heap.size < w1.heap.size + 1 + 1 := Nat.lt_succ_of_lt l1_1b
  have l1_1d : w0.heap.size < w1.heap.size + 1 + 1 + 1 := Nat.lt_succ_of_lt l1_1c
  have l1_2a : (w0.heap.size + 1) < w1.heap.size := World.block_lt_of_cell? w1 _ c1_4
  have l1_2b : (w0.heap.size + 1) < w1.heap.size + 1 := Nat.lt_succ_of_lt l1_2a
  have l1_2c : (w0.heap.size + 1) < w1.heap.size + 1 + 1 := Nat.lt_succ_of_lt l1_2b
  have l1_2d : (w0.heap.size + 1) < w1.heap.size + 1 + 1 + 1 := Nat.lt_succ_of_lt l1_2c
  have n1_1_0 : w0.heap.size ≠ w.heap.size := by omega
  have m1_1_0 : w.heap.size ≠ w0.heap.size := by omega
  have n1_1_2 : w0.heap.size ≠ (w0.heap.size + 1) := by omega
  have m1_1_2 : (w0.heap.size + 1) ≠ w0.heap.size := by omega
  have n1_2_0 : (w0.heap.size + 1) ≠ w.heap.size := by omega
  have m1_2_0 : w.heap.size ≠ (w0.heap.size + 1) := by omega
  have n1_2_1 : (w0.heap.size + 1) ≠ w0.heap.size := by omega
  have m1_2_1 : w0.heap.size ≠ (w0.heap.size + 1) := by omega
  have hkw0_1 : Below w0.heap.size w0 w1 := Below.trans (by first | exact Below.refl _ _ | ((repeat' (first | exact Below.refl _ _ | refine Below.setCell ?_ ?_ _ | refine Below.alloc ?_ ?_ _ | refine Below.drew ?_)) <;> (first | omega | (simp <;> omega)))) (hb1.mono (by first | omega | (simp <;> omega)))
  clear c0_0 c0_1 l0_0a l0_0b l0_0c l0_0d hB0 hb1
  go_wp2_with fail
  refine (error_same 4 (by decide) _ (by exact HG.out.belowB (show Below w.heap.size w _ from (by first | exact hB1 | ((repeat' (first | exact hB1 | refine Below.setCell ?_ ?_ _ | refine Below.alloc ?_ ?_ _ | refine Below.drew ?_)) <;> (first | omega | (simp <;> omega))))) HG.out.lt)).mono ?_
  rintro e w2 ⟨rfl, hb2⟩
  have hB2 : Below w.heap.size w w2 := Below.trans (by first | exact hB1 | ((repeat' (first | exact hB1 | refine Below.setCell ?_ ?_ _ | refine Below.alloc ?_ ?_ _ | refine Below.drew ?_)) <;> (first | omega | (simp <;> omega)))) (hb2.mono (by first | omega | (simp <;> omega)))
  have hs2 : w.heap.size ≤ w2.heap.size := hB2.size
  have ht2 := hb2.size
  try simp only [World.size_alloc, World.size_setCell] at ht2
  have c2_0 : w2.cell? ⟨w.heap.size, 0, none⟩ = some (.int .i64 p.1) := (hb2.cell (p := ⟨w.heap.size, 0, none⟩) (by first | omega | (simp <;> omega))).trans (by first | exact c1_0 | simp [go_sem, c1_0, l1_0a, l1_0b, l1_0c, l1_0d, l1_1a, l1_1b, l1_1c, l1_1d, l1_2a, l1_2b, l1_2c, l1_2d, n1_1_0, m1_1_0, n1_1_2, m1_1_2, n1_2_0, m1_2_0, n1_2_1, m1_2_1])
  have c2_1 : w2.cell? ⟨w.heap.size, 1, none⟩ = some (.int .i64 p.2) := (hb2.cell (p := ⟨w.heap.size, 1, none⟩) (by first | omega | (simp <;> omega))).trans (by first | exact c1_1 | simp [go_sem, c1_1, l1_0a, l1_0b, l1_0c, l1_0d, l1_1a, l1_1b, l1_1c, l1_1d, l1_2a, l1_2b, l1_2c, l1_2d, n1_1_0, m1_1_0, n1_1_2, m1_1_2, n1_2_0, m1_2_0, n1_2_1, m1_2_1])
  have c2_2 : w2.cell? ⟨w0.heap.size, 0, none⟩ = some (.int .i64 0) := (hb2.cell (p := ⟨w0.heap.size, 0, none⟩) (by first | omega | (simp <;> omega))).trans (by first | exact c1_2 | simp [go_sem, c1_2, l1_0a, l1_0b, l1_0c, l1_0d, l1_1a, l1_1b, l1_1c, l1_1d, l1_2a, l1_2b, l1_2c, l1_2d, n1_1_0, m1_1_0, n1_1_2, m1_1_2, n1_2_0, m1_2_0, n1_2_1, m1_2_1])
  have fc2_2 : w2.frozen? ⟨w0.heap.size, 0, none⟩ = false := (hb2.frozen (p := ⟨w0.heap.size, 0, none⟩) (by first | omega | (simp <;> omega))).trans (by first | exact fc1_2 | simp [go_sem, fc1_2, l1_0a, l1_0b, l1_0c, l1_0d, l1_1a, l1_1b, l1_1c, l1_1d, l1_2a, l1_2b, l1_2c, l1_2d, n1_1_0, m1_1_0, n1_1_2, m1_1_2, n1_2_0, m1_2_0, n1_2_1, m1_2_1])
  have c2_3 : w2.cell? ⟨w0.heap.size, 1, none⟩ = some (.int .i64 0) := (hb2.cell (p := ⟨w0.heap.size, 1, none⟩) (by first | omega | (simp <;> omega))).trans (by first | exact c1_3 | simp [go_sem, c1_3, l1_0a, l1_0b, l1_0c, l1_0d, l1_1a, l1_1b, l1_1c, l1_1d, l1_2a, l1_2b, l1_2c, l1_2d, n1_1_0, m1_1_0, n1_1_2, m1_1_2, n1_2_0, m1_2_0, n1_2_1, m1_2_1])
  have fc2_3 : w2.frozen? ⟨w0.heap.size, 1, none⟩ = false := (hb2.frozen (p := ⟨w0.heap.size, 1, none⟩) (by first | omega | (simp <;> omega))).trans (by first | exact fc1_3 | simp [go_sem, fc1_3, l1_0a, l1_0b, l1_0c, l1_0d, l1_1a, l1_1b, l1_1c, l1_1d, l1_2a, l1_2b, l1_2c, l1_2d, n1_1_0, m1_1_0, n1_1_2, m1_1_2, n1_2_0, m1_2_0, n1_2_1, m1_2_1])
  have c2_4 : w2.cell? ⟨(w0.heap.size + 1), 0, none⟩ = some (.int .i64 0) := (hb2.cell (p := ⟨(w0.heap.size + 1), 0, none⟩) (by first | omega | (simp <;> omega))).trans (by first | exact c1_4 | simp [go_sem, c1_4, l1_0a, l1_0b, l1_0c, l1_0d, l1_1a, l1_1b, l1_1c, l1_1d, l1_2a, l1_2b, l1_2c, l1_2d, n1_1_0, m1_1_0, n1_1_2, m1_1_2, n1_2_0, m1_2_0, n1_2_1, m1_2_1])
  have fc2_4 : w2.frozen? ⟨(w0.heap.size + 1), 0, none⟩ = false := (hb2.frozen (p := ⟨(w0.heap.size + 1), 0, none⟩) (by first | omega | (simp <;> omega))).trans (by first | exact fc1_4 | simp [go_sem, fc1_4, l1_0a, l1_0b, l1_0c, l1_0d, l1_1a, l1_1b, l1_1c, l1_1d, l1_2a, l1_2b, l1_2c, l1_2d, n1_1_0, m1_1_0, n1_1_2, m1_1_2, n1_2_0, m1_2_0, n1_2_1, m1_2_1])
  have c2_5 : w2.cell? ⟨(w0.heap.size + 1), 1, none⟩ = some (.int .i64 0) := (hb2.cell (p := ⟨(w0.heap.size + 1), 1, none⟩) (by first | omega | (simp <;> omega))).trans (by first | exact c1_5 | simp [go_sem, c1_5, l1_0a, l1_0b, l1_0c, l1_0d, l1_1a, l1_1b, l1_1c, l1_1d, l1_2a, l1_2b, l1_2c, l1_2d, n1_1_0, m1_1_0, n1_1_2, m1_1_2, n1_2_0, m1_2_0, n1_2_1, m1_2_1])
  have fc2_5 : w2.frozen? ⟨(w0.heap.size + 1), 1, none⟩ = false := (hb2.frozen (p := ⟨(w0.heap.size + 1), 1, none⟩) (by first | omega | (simp <;> omega))).trans (by first | exact fc1_5 | simp [go_sem, fc1_5, l1_0a, l1_0b, l1_0c, l1_0d, l1_1a, l1_1b, l1_1c, l1_1d, l1_2a, l1_2b, l1_2c, l1_2d, n1_1_0, m1_1_0, n1_1_2, m1_1_2, n1_2_0, m1_2_0, n1_2_1, m1_2_1])
  have c2_6 : w2.cell? ⟨w1.heap.size, 0, none⟩ = some (.int .i64 0) := (hb2.cell (p := ⟨w1.heap.size, 0, none⟩) (by first | omega | (simp <;> omega))).trans (by first | (simp; done) | simp [go_sem, l1_0a, l1_0b, l1_0c, l1_0d, l1_1a, l1_1b, l1_1c, l1_1d, l1_2a, l1_2b, l1_2c, l1_2d, n1_1_0, m1_1_0, n1_1_2, m1_1_2, n1_2_0, m1_2_0, n1_2_1, m1_2_1, c1_0, c1_1, c1_2, c1_3, c1_4, c1_5, fc1_2, fc1_3, fc1_4, fc1_5])
  have fc2_6 : w2.frozen? ⟨w1.heap.size, 0, none⟩ = false := (hb2.frozen (p := ⟨w1.heap.size, 0, none⟩) (by first | omega | (simp <;> omega))).trans (by first | (simp; done) | simp [go_sem, l1_0a, l1_0b, l1_0c, l1_0d, l1_1a, l1_1b, l1_1c, l1_1d, l1_2a, l1_2b, l1_2c, l1_2d, n1_1_0, m1_1_0, n1_1_2, m1_1_2, n1_2_0, m1_2_0, n1_2_1, m1_2_1, c1_0, c1_1, c1_2, c1_3, c1_4, c1_5, fc1_2, fc1_3, fc1_4, fc1_5])
  have c2_7 : w2.cell? ⟨w1.heap.size, 1, none⟩ = some (.int .i64 0) := (hb2.cell (p := ⟨w1.heap.size, 1, none⟩) (by first | omega | (simp <;> omega))).trans (by first | (simp; done) | simp [go_sem, l1_0a, l1_0b, l1_0c, l1_0d, l1_1a, l1_1b, l1_1c, l1_1d, l1_2a, l1_2b, l1_2c, l1_2d, n1_1_0, m1_1_0, n1_1_2, m1_1_2, n1_2_0, m1_2_0, n1_2_1, m1_2_1, c1_0, c1_1, c1_2, c1_3, c1_4, c1_5, fc1_2, fc1_3, fc1_4, fc1_5])
  have fc2_7 : w2.frozen? ⟨w1.heap.size, 1, none⟩ = false := (hb2.frozen (p := ⟨w1.heap.size, 1, none⟩) (by first | omega | (simp <;> omega))).trans (by first | (simp; done) | simp [go_sem, l1_0a, l1_0b, l1_0c, l1_0d, l1_1a, l1_1b, l1_1c, l1_1d, l1_2a, l1_2b, l1_2c, l1_2d, n1_1_0, m1_1_0, n1_1_2, m1_1_2, n1_2_0, m1_2_0, n1_2_1, m1_2_1, c1_0, c1_1, c1_2, c1_3, c1_4, c1_5, fc1_2, fc1_3, fc1_4, fc1_5])
  have l2_0a : w.heap.size < w2.heap.size := World.block_lt_of_cell? w2 _ c2_0
  have l2_0b : w.heap.size < w2.heap.size + 1 := Nat.lt_succ_of_lt l2_0a
  have l2_0c : w.heap.size < w2.heap.size + 1 + 1 := Nat.lt_succ_of_lt l2_0b
  have l2_0d : w.heap.size < w2.heap.size + 1 + 1 + 1 := Nat.lt_succ_of_lt l2_0c
  have l2_1a : w0.heap.size < w2.heap.size := World.block_lt_of_cell? w2 _ c2_2
  have l2_1b : w0.heap.size < w2.heap.size + 1 := Nat.lt_succ_of_lt l2_1a
  have l2_1c : w0.heap.size < w2.heap.size + 1 + 1 := Nat.lt_succ_of_lt l2_1b
  have l2_1d : w0.heap.size < w2.heap.size + 1 + 1 + 1 := Nat.lt_succ_of_lt l2_1c
  have l2_2a : (w0.heap.size + 1) < w2.heap.size := World.block_lt_of_cell? w2 _ c2_4
  have l2_2b : (w0.heap.size + 1) < w2.heap.size + 1 := Nat.lt_succ_of_lt l2_2a
  have l2_2c : (w0.heap.size + 1) < w2.heap.size + 1 + 1 := Nat.lt_succ_of_lt l2_2b
  have l2_2d : (w0.heap.size + 1) < w2.heap.size + 1 + 1 + 1 := Nat.lt_succ_of_lt l2_2c
  have l2_3a : w1.heap.size < w2.heap.size := World.block_lt_of_cell? w2 _ c2_6
  have l2_3b : w1.heap.size < w2.heap.size + 1 := Nat.lt_succ_of_lt l2_3a
  have l2_3c : w1.heap.size < w2.heap.size + 1 + 1 := Nat.lt_succ_of_lt l2_3b
  have l2_3d : w1.heap.size < w2.heap.size + 1 + 1 + 1 := Nat.lt_succ_of_lt l2_3c
  have n2_1_0 : w0.heap.size ≠ w.heap.size := by omega
  have m2_1_0 : w.heap.size ≠ w0.heap.size := by omega
  have n2_1_2 : w0.heap.size ≠ (w0.heap.size + 1) := by omega
  have m2_1_2 : (w0.heap.size + 1) ≠ w0.heap.size := by omega
  have n2_1_3 : w0.heap.size ≠ w1.heap.size := by omega
  have m2_1_3 : w1.heap.size ≠ w0.heap.size := by omega
  have n2_2_0 : (w0.heap.size + 1) ≠ w.heap.size := by omega
  have m2_2_0 : w.heap.size ≠ (w0.heap.size + 1) := by omega
  have n2_2_1 : (w0.heap.size + 1) ≠ w0.heap.size := by omega
  have m2_2_1 : w0.heap.size ≠ (w0.heap.size + 1) := by omega
  have n2_2_3 : (w0.heap.size + 1) ≠ w1.heap.size := by omega
  have m2_2_3 : w1.heap.size ≠ (w0.heap.size + 1) := by omega
  have n2_3_0 : w1.heap.size ≠ w.heap.size := by omega
  have m2_3_0 : w.heap.size ≠ w1.heap.size := by omega
  have n2_3_1 : w1.heap.size ≠ w0.heap.size := by omega
  have m2_3_1 : w0.heap.size ≠ w1.heap.size := by omega
  have n2_3_2 : w1.heap.size ≠ (w0.heap.size + 1) := by omega
  have m2_3_2 : (w0.heap.size + 1) ≠ w1.heap.size := by omega
  have hkw0_2 : Below w0.heap.size w0 w2 := Below.trans (by first | exact hkw0_1 | ((repeat' (first | exact hkw0_1 | refine Below.setCell ?_ ?_ _ | refine Below.alloc ?_ ?_ _ | refine Below.drew ?_)) <;> (first | omega | (simp <;> omega)))) (hb2.mono (by first | omega | (simp <;> omega)))
  clear c1_0 c1_1 c1_2 c1_3 c1_4 c1_5 fc1_2 fc1_3 fc1_4 fc1_5 l1_0a l1_0b l1_0c l1_0d l1_1a l1_1b l1_1c l1_1d l1_2a l1_2b l1_2c l1_2d n1_1_0 m1_1_0 n1_1_2 m1_1_2 n1_2_0 m1_2_0 n1_2_1 m1_2_1 hkw0_1 hB1 hb2
  go_wp2_with fail
  refine (best_bad p A l c n 4 HBF.out (by decide) hm _ (by exact HT.out.belowB (show Below w.heap.size w _ from (by first | exact hB2 | ((repeat' (first | exact hB2 | refine Below.setCell ?_ ?_ _ | refine Below.alloc ?_ ?_ _ | refine Below.drew ?_)) <;> (first | omega | (simp <;> omega))))) HT.out.lt) ((hl.below (show Below w.heap.size w _ from (by first | exact hB2 | ((repeat' (first | exact hB2 | refine Below.setCell ?_ ?_ _ | refine Below.alloc ?_ ?_ _ | refine Below.drew ?_)) <;> (first | omega | (simp <;> omega)))))).more (show w.heap.size ≤ _ from by first | omega | (simp <;> omega)))).mono ?_
  rintro e w3 ⟨rfl, hb3⟩
  have hB3 : Below w.heap.size w w3 := Below.trans (by first | exact hB2 | ((repeat' (first | exact hB2 | refine Below.setCell ?_ ?_ _ | refine Below.alloc ?_ ?_ _ | refine Below.drew ?_)) <;> (first | omega | (simp <;> omega)))) (hb3.mono (by first | omega | (simp <;> omega)))
  have hs3 : w.heap.size ≤ w3.heap.size := hB3.size
  have ht3 := hb3.size
  try simp only [World.size_alloc, World.size_setCell] at ht3
  have c3_0 : w3.cell? ⟨w.heap.size, 0, none⟩ = some (.int .i64 p.1) := (hb3.cell (p := ⟨w.heap.size, 0, none⟩) (by first | omega | (simp <;> omega))).trans (by first | exact c2_0 | simp [go_sem, c2_0, l2_0a, l2_0b, l2_0c, l2_0d, l2_1a, l2_1b, l2_1c, l2_1d, l2_2a, l2_2b, l2_2c, l2_2d, l2_3a, l2_3b, l2_3c, l2_3d, n2_1_0, m2_1_0, n2_1_2, m2_1_2, n2_1_3, m2_1_3, n2_2_0, m2_2_0, n2_2_1, m2_2_1, n2_2_3, m2_2_3, n2_3_0, m2_3_0, n2_3_1, m2_3_1, n2_3_2, m2_3_2])
  have c3_1 : w3.cell? ⟨w.heap.size, 1, none⟩ = some (.int .i64 p.2) := (hb3.cell (p := ⟨w.heap.size, 1, none⟩) (by first | omega | (simp <;> omega))).trans (by first | exact c2_1 | simp [go_sem, c2_1, l2_0a, l2_0b, l2_0c, l2_0d, l2_1a, l2_1b, l2_1c, l2_1d, l2_2a, l2_2b, l2_2c, l2_2d, l2_3a, l2_3b, l2_3c, l2_3d, n2_1_0, m2_1_0, n2_1_2, m2_1_2, n2_1_3, m2_1_3, n2_2_0, m2_2_0, n2_2_1, m2_2_1, n2_2_3, m2_2_3, n2_3_0, m2_3_0, n2_3_1, m2_3_1, n2_3_2, m2_3_2])
  have c3_2 : w3.cell? ⟨w0.heap.size, 0, none⟩ = some (.int .i64 0) := (hb3.cell (p := ⟨w0.heap.size, 0, none⟩) (by first | omega | (simp <;> omega))).trans (by first | exact c2_2 | simp [go_sem, c2_2, l2_0a, l2_0b, l2_0c, l2_0d, l2_1a, l2_1b, l2_1c, l2_1d, l2_2a, l2_2b, l2_2c, l2_2d, l2_3a, l2_3b, l2_3c, l2_3d, n2_1_0, m2_1_0, n2_1_2, m2_1_2, n2_1_3, m2_1_3, n2_2_0, m2_2_0, n2_2_1, m2_2_1, n2_2_3, m2_2_3, n2_3_0, m2_3_0, n2_3_1, m2_3_1, n2_3_2, m2_3_2])
  have fc3_2 : w3.frozen? ⟨w0.heap.size, 0, none⟩ = false := (hb3.frozen (p := ⟨w0.heap.size, 0, none⟩) (by first | omega | (simp <;> omega))).trans (by first | exact fc2_2 | simp [go_sem, fc2_2, l2_0a, l2_0b, l2_0c, l2_0d, l2_1a, l2_1b, l2_1c, l2_1d, l2_2a, l2_2b, l2_2c, l2_2d, l2_3a, l2_3b, l2_3c, l2_3d, n2_1_0, m2_1_0, n2_1_2, m2_1_2, n2_1_3, m2_1_3, n2_2_0, m2_2_0, n2_2_1, m2_2_1, n2_2_3, m2_2_3, n2_3_0, m2_3_0, n2_3_1, m2_3_1, n2_3_2, m2_3_2])
  have c3_3 : w3.cell? ⟨w0.heap.size, 1, none⟩ = some (.int .i64 0) := (hb3.cell (p := ⟨w0.heap.size, 1, none⟩) (by first | omega | (simp <;> omega))).trans (by first | exact c2_3 | simp [go_sem, c2_3, l2_0a, l2_0b, l2_0c, l2_0d, l2_1a, l2_1b, l2_1c, l2_1d, l2_2a, l2_2b, l2_2c, l2_2d, l2_3a, l2_3b, l2_3c, l2_3d, n2_1_0, m2_1_0, n2_1_2, m2_1_2, n2_1_3, m2_1_3, n2_2_0, m2_2_0, n2_2_1, m2_2_1, n2_2_3, m2_2_3, n2_3_0, m2_3_0, n2_3_1, m2_3_1, n2_3_2, m2_3_2])
  have fc3_3 : w3.frozen? ⟨w0.heap.size, 1, none⟩ = false := (hb3.frozen (p := ⟨w0.heap.size, 1, none⟩) (by first | omega | (simp <;> omega))).trans (by first | exact fc2_3 | simp [go_sem, fc2_3, l2_0a, l2_0b, l2_0c, l2_0d, l2_1a, l2_1b, l2_1c, l2_1d, l2_2a, l2_2b, l2_2c, l2_2d, l2_3a, l2_3b, l2_3c, l2_3d, n2_1_0, m2_1_0, n2_1_2, m2_1_2, n2_1_3, m2_1_3, n2_2_0, m2_2_0, n2_2_1, m2_2_1, n2_2_3, m2_2_3, n2_3_0, m2_3_0, n2_3_1, m2_3_1, n2_3_2, m2_3_2])
  have c3_4 : w3.cell? ⟨(w0.heap.size + 1), 0, none⟩ = some (.int .i64 0) := (hb3.cell (p := ⟨(w0.heap.size + 1), 0, none⟩) (by first | omega | (simp <;> omega))).trans (by first | exact c2_4 | simp [go_sem, c2_4, l2_0a, l2_0b, l2_0c, l2_0d, l2_1a, l2_1b, l2_1c, l2_1d, l2_2a, l2_2b, l2_2c, l2_2d, l2_3a, l2_3b, l2_3c, l2_3d, n2_1_0, m2_1_0, n2_1_2, m2_1_2, n2_1_3, m2_1_3, n2_2_0, m2_2_0, n2_2_1, m2_2_1, n2_2_3, m2_2_3, n2_3_0, m2_3_0, n2_3_1, m2_3_1, n2_3_2, m2_3_2])
  have fc3_4 : w3.frozen? ⟨(w0.heap.size + 1), 0, none⟩ = false := (hb3.frozen (p := ⟨(w0.heap.size + 1), 0, none⟩) (by first | omega | (simp <;> omega))).trans (by first | exact fc2_4 | simp [go_sem, fc2_4, l2_0a, l2_0b, l2_0c, l2_0d, l2_1a, l2_1b, l2_1c, l2_1d, l2_2a, l2_2b, l2_2c, l2_2d, l2_3a, l2_3b, l2_3c, l2_3d, n2_1_0, m2_1_0, n2_1_2, m2_1_2, n2_1_3, m2_1_3, n2_2_0, m2_2_0, n2_2_1, m2_2_1, n2_2_3, m2_2_3, n2_3_0, m2_3_0, n2_3_1, m2_3_1, n2_3_2, m2_3_2])
  have c3_5 : w3.cell? ⟨(w0.heap.size + 1), 1, none⟩ = some (.int .i64 0) := (hb3.cell (p := ⟨(w0.heap.size + 1), 1, none⟩) (by first | omega | (simp <;> omega))).trans (by first | exact c2_5 | simp [go_sem, c2_5, l2_0a, l2_0b, l2_0c, l2_0d, l2_1a, l2_1b, l2_1c, l2_1d, l2_2a, l2_2b, l2_2c, l2_2d, l2_3a, l2_3b, l2_3c, l2_3d, n2_1_0, m2_1_0, n2_1_2, m2_1_2, n2_1_3, m2_1_3, n2_2_0, m2_2_0, n2_2_1, m2_2_1, n2_2_3, m2_2_3, n2_3_0, m2_3_0, n2_3_1, m2_3_1, n2_3_2, m2_3_2])
  have fc3_5 : w3.frozen? ⟨(w0.heap.size + 1), 1, none⟩ = false := (hb3.frozen (p := ⟨(w0.heap.size + 1), 1, none⟩) (by first | omega | (simp <;> omega))).trans (by first | exact fc2_5 | simp [go_sem, fc2_5, l2_0a, l2_0b, l2_0c, l2_0d, l2_1a, l2_1b, l2_1c, l2_1d, l2_2a, l2_2b, l2_2c, l2_2d, l2_3a, l2_3b, l2_3c, l2_3d, n2_1_0, m2_1_0, n2_1_2, m2_1_2, n2_1_3, m2_1_3, n2_2_0, m2_2_0, n2_2_1, m2_2_1, n2_2_3, m2_2_3, n2_3_0, m2_3_0, n2_3_1, m2_3_1, n2_3_2, m2_3_2])
  have c3_6 : w3.cell? ⟨w1.heap.size, 0, none⟩ = some (.int .i64 0) := (hb3.cell (p := ⟨w1.heap.size, 0, none⟩) (by first | omega | (simp <;> omega))).trans (by first | exact c2_6 | simp [go_sem, c2_6, l2_0a, l2_0b, l2_0c, l2_0d, l2_1a, l2_1b, l2_1c, l2_1d, l2_2a, l2_2b, l2_2c, l2_2d, l2_3a, l2_3b, l2_3c, l2_3d, n2_1_0, m2_1_0, n2_1_2, m2_1_2, n2_1_3, m2_1_3, n2_2_0, m2_2_0, n2_2_1, m2_2_1, n2_2_3, m2_2_3, n2_3_0, m2_3_0, n2_3_1, m2_3_1, n2_3_2, m2_3_2])
  have fc3_6 : w3.frozen? ⟨w1.heap.size, 0, none⟩ = false := (hb3.frozen (p := ⟨w1.heap.size, 0, none⟩) (by first | omega | (simp <;> omega))).trans (by first | exact fc2_6 | simp [go_sem, fc2_6, l2_0a, l2_0b, l2_0c, l2_0d, l2_1a, l2_1b, l2_1c, l2_1d, l2_2a, l2_2b, l2_2c, l2_2d, l2_3a, l2_3b, l2_3c, l2_3d, n2_1_0, m2_1_0, n2_1_2, m2_1_2, n2_1_3, m2_1_3, n2_2_0, m2_2_0, n2_2_1, m2_2_1, n2_2_3, m2_2_3, n2_3_0, m2_3_0, n2_3_1, m2_3_1, n2_3_2, m2_3_2])
  have c3_7 : w3.cell? ⟨w1.heap.size, 1, none⟩ = some (.int .i64 0) := (hb3.cell (p := ⟨w1.heap.size, 1, none⟩) (by first | omega | (simp <;> omega))).trans (by first | exact c2_7 | simp [go_sem, c2_7, l2_0a, l2_0b, l2_0c, l2_0d, l2_1a, l2_1b, l2_1c, l2_1d, l2_2a, l2_2b, l2_2c, l2_2d, l2_3a, l2_3b, l2_3c, l2_3d, n2_1_0, m2_1_0, n2_1_2, m2_1_2, n2_1_3, m2_1_3, n2_2_0, m2_2_0, n2_2_1, m2_2_1, n2_2_3, m2_2_3, n2_3_0, m2_3_0, n2_3_1, m2_3_1, n2_3_2, m2_3_2])
  have fc3_7 : w3.frozen? ⟨w1.heap.size, 1, none⟩ = false := (hb3.frozen (p := ⟨w1.heap.size, 1, none⟩) (by first | omega | (simp <;> omega))).trans (by first | exact fc2_7 | simp [go_sem, fc2_7, l2_0a, l2_0b, l2_0c, l2_0d, l2_1a, l2_1b, l2_1c, l2_1d, l2_2a, l2_2b, l2_2c, l2_2d, l2_3a, l2_3b, l2_3c, l2_3d, n2_1_0, m2_1_0, n2_1_2, m2_1_2, n2_1_3, m2_1_3, n2_2_0, m2_2_0, n2_2_1, m2_2_1, n2_2_3, m2_2_3, n2_3_0, m2_3_0, n2_3_1, m2_3_1, n2_3_2, m2_3_2])
  have l3_0a : w.heap.size < w3.heap.size := World.block_lt_of_cell? w3 _ c3_0
  have l3_0b : w.heap.size < w3.heap.size + 1 := Nat.lt_succ_of_lt l3_0a
  have l3_0c : w.heap.size < w3.heap.size + 1 + 1 := Nat.lt_succ_of_lt l3_0b
  have l3_0d : w.heap.size < w3.heap.size + 1 + 1 + 1 := Nat.lt_succ_of_lt l3_0c
  have l3_1a : w0.heap.size < w3.heap.size := World.block_lt_of_cell? w3 _ c3_2
  have l3_1b : w0.heap.size < w3.heap.size + 1 := Nat.lt_succ_of_lt l3_1a
  have l3_1c : w0.heap.size < w3.heap.size + 1 + 1 := Nat.lt_succ_of_lt l3_1b
  have l3_1d : w0.heap.size < w3.heap.size + 1 + 1 + 1 := Nat.lt_succ_of_lt l3_1c
  have l3_2a : (w0.heap.size + 1) < w3.heap.size := World.block_lt_of_cell? w3 _ c3_4
  have l3_2b : (w0.heap.size + 1) < w3.heap.size + 1 := Nat.lt_succ_of_lt l3_2a
  have l3_2c : (w0.heap.size + 1) < w3.heap.size + 1 + 1 := Nat.lt_succ_of_lt l3_2b
  have l3_2d : (w0.heap.size + 1) < w3.heap.size + 1 + 1 + 1 := Nat.lt_succ_of_lt l3_2c
  have l3_3a : w1.heap.size < w3.heap.size := World.block_lt_of_cell? w3 _ c3_6
  have l3_3b : w1.heap.size < w3.heap.size + 1 := Nat.lt_succ_of_lt l3_3a
  have l3_3c : w1.heap.size < w3.heap.size + 1 + 1 := Nat.lt_succ_of_lt l3_3b
  have l3_3d : w1.heap.size < w3.heap.size + 1 + 1 + 1 := Nat.lt_succ_of_lt l3_3c
  have n3_1_0 : w0.heap.size ≠ w.heap.size := by omega
  have m3_1_0 : w.heap.size ≠ w0.heap.size := by omega
  have n3_1_2 : w0.heap.size ≠ (w0.heap.size + 1) := by omega
  have m3_1_2 : (w0.heap.size + 1) ≠ w0.heap.size := by omega
  have n3_1_3 : w0.heap.size ≠ w1.heap.size := by omega
  have m3_1_3 : w1.heap.size ≠ w0.heap.size := by omega
  have n3_2_0 : (w0.heap.size + 1) ≠ w.heap.size := by omega
  have m3_2_0 : w.heap.size ≠ (w0.heap.size + 1) := by omega
  have n3_2_1 : (w0.heap.size + 1) ≠ w0.heap.size := by omega
  have m3_2_1 : w0.heap.size ≠ (w0.heap.size + 1) := by omega
  have n3_2_3 : (w0.heap.size + 1) ≠ w1.heap.size := by omega
  have m3_2_3 : w1.heap.size ≠ (w0.heap.size + 1) := by omega
  have n3_3_0 : w1.heap.size ≠ w.heap.size := by omega
  have m3_3_0 : w.heap.size ≠ w1.heap.size := by omega
  have n3_3_1 : w1.heap.size ≠ w0.heap.size := by omega
  have m3_3_1 : w0.heap.size ≠ w1.heap.size := by omega
  have n3_3_2 : w1.heap.size ≠ (w0.heap.size + 1) := by omega
  have m3_3_2 : (w0.heap.size + 1) ≠ w1.heap.size := by omega
  have hkw0_3 : Below w0.heap.size w0 w3 := Below.trans (by first | exact hkw0_2 | ((repeat' (first | exact hkw0_2 | refine Below.setCell ?_ ?_ _ | refine Below.alloc ?_ ?_ _ | refine Below.drew ?_)) <;> (first | omega | (simp <;> omega)))) (hb3.mono (by first | omega | (simp <;> omega)))
  clear c2_0 c2_1 c2_2 c2_3 c2_4 c2_5 c2_6 c2_7 fc2_2 fc2_3 fc2_4 fc2_5 fc2_6 fc2_7 l2_0a l2_0b l2_0c l2_0d l2_1a l2_1b l2_1c l2_1d l2_2a l2_2b l2_2c l2_2d l2_3a l2_3b l2_3c l2_3d n2_1_0 m2_1_0 n2_1_2 m2_1_2 n2_1_3 m2_1_3 n2_2_0 m2_2_0 n2_2_1 m2_2_1 n2_2_3 m2_2_3 n2_3_0 m2_3_0 n2_3_1 m2_3_1 n2_3_2 m2_3_2 hkw0_2 hB2 hb3
  go_wp2_with fail
  refine (error_same 4 (by decide) _ (by exact HG.out.belowB (show Below w.heap.size w _ from (by first | exact hB3 | ((repeat' (first | exact hB3 | refine Below.setCell ?_ ?_ _ | refine Below.alloc ?_ ?_ _ | refine Below.drew ?_)) <;> (first | omega | (simp <;> omega))))) HG.out.lt)).mono ?_
  rintro e w4 ⟨rfl, hb4⟩
  have hB4 : Below w.heap.size w w4 := Below.trans (by first | exact hB3 | ((repeat' (first | exact hB3 | refine Below.setCell ?_ ?_ _ | refine Below.alloc ?_ ?_ _ | refine Below.drew ?_)) <;> (first | omega | (simp <;> omega)))) (hb4.mono (by first | omega | (simp <;> omega)))
  have hs4 : w.heap.size ≤ w4.heap.size := hB4.size
  have ht4 := hb4.size
  try simp only [World.size_alloc, World.size_setCell] at ht4
  have c4_0 : w4.cell? ⟨w.heap.size, 0, none⟩ = some (.int .i64 p.1) := (hb4.cell (p := ⟨w.heap.size, 0, none⟩) (by first | omega | (simp <;> omega))).trans (by first | exact c3_0 | simp [go_sem, c3_0, l3_0a, l3_0b, l3_0c, l3_0d, l3_1a, l3_1b, l3_1c, l3_1d, l3_2a, l3_2b, l3_2c, l3_2d, l3_3a, l3_3b, l3_3c, l3_3d, n3_1_0, m3_1_0, n3_1_2, m3_1_2, n3_1_3, m3_1_3, n3_2_0, m3_2_0, n3_2_1, m3_2_1, n3_2_3, m3_2_3, n3_3_0, m3_3_0, n3_3_1, m3_3_1, n3_3_2, m3_3_2])
  have c4_1 : w4.cell? ⟨w.heap.size, 1, none⟩ = some (.int .i64 p.2) := (hb4.cell (p := ⟨w.heap.size, 1, none⟩) (by first | omega | (simp <;> omega))).trans (by first | exact c3_1 | simp [go_sem, c3_1, l3_0a, l3_0b, l3_0c, l3_0d, l3_1a, l3_1b, l3_1c, l3_1d, l3_2a, l3_2b, l3_2c, l3_2d, l3_3a, l3_3b, l3_3c, l3_3d, n3_1_0, m3_1_0, n3_1_2, m3_1_2, n3_1_3, m3_1_3, n3_2_0, m3_2_0, n3_2_1, m3_2_1, n3_2_3, m3_2_3, n3_3_0, m3_3_0, n3_3_1, m3_3_1, n3_3_2, m3_3_2])
  have c4_2 : w4.cell? ⟨w0.heap.size, 0, none⟩ = some (.int .i64 0) := (hb4.cell (p := ⟨w0.heap.size, 0, none⟩) (by first | omega | (simp <;> omega))).trans (by first | exact c3_2 | simp [go_sem, c3_2, l3_0a, l3_0b, l3_0c, l3_0d, l3_1a, l3_1b, l3_1c, l3_1d, l3_2a, l3_2b, l3_2c, l3_2d, l3_3a, l3_3b, l3_3c, l3_3d, n3_1_0, m3_1_0, n3_1_2, m3_1_2, n3_1_3, m3_1_3, n3_2_0, m3_2_0, n3_2_1, m3_2_1, n3_2_3, m3_2_3, n3_3_0, m3_3_0, n3_3_1, m3_3_1, n3_3_2, m3_3_2])
  have fc4_2 : w4.frozen? ⟨w0.heap.size, 0, none⟩ = false := (hb4.frozen (p := ⟨w0.heap.size, 0, none⟩) (by first | omega | (simp <;> omega))).trans (by first | exact fc3_2 | simp [go_sem, fc3_2, l3_0a, l3_0b, l3_0c, l3_0d, l3_1a, l3_1b, l3_1c, l3_1d, l3_2a, l3_2b, l3_2c, l3_2d, l3_3a, l3_3b, l3_3c, l3_3d, n3_1_0, m3_1_0, n3_1_2, m3_1_2, n3_1_3, m3_1_3, n3_2_0, m3_2_0, n3_2_1, m3_2_1, n3_2_3, m3_2_3, n3_3_0, m3_3_0, n3_3_1, m3_3_1, n3_3_2, m3_3_2])
  have c4_3 : w4.cell? ⟨w0.heap.size, 1, none⟩ = some (.int .i64 0) := (hb4.cell (p := ⟨w0.heap.size, 1, none⟩) (by first | omega | (simp <;> omega))).trans (by first | exact c3_3 | simp [go_sem, c3_3, l3_0a, l3_0b, l3_0c, l3_0d, l3_1a, l3_1b, l3_1c, l3_1d, l3_2a, l3_2b, l3_2c, l3_2d, l3_3a, l3_3b, l3_3c, l3_3d, n3_1_0, m3_1_0, n3_1_2, m3_1_2, n3_1_3, m3_1_3, n3_2_0, m3_2_0, n3_2_1, m3_2_1, n3_2_3, m3_2_3, n3_3_0, m3_3_0, n3_3_1, m3_3_1, n3_3_2, m3_3_2])
  have fc4_3 : w4.frozen? ⟨w0.heap.size, 1, none⟩ = false := (hb4.frozen (p := ⟨w0.heap.size, 1, none⟩) (by first | omega | (simp <;> omega))).trans (by first | exact fc3_3 | simp [go_sem, fc3_3, l3_0a, l3_0b, l3_0c, l3_0d, l3_1a, l3_1b, l3_1c, l3_1d, l3_2a, l3_2b, l3_2c, l3_2d, l3_3a, l3_3b, l3_3c, l3_3d, n3_1_0, m3_1_0, n3_1_2, m3_1_2, n3_1_3, m3_1_3, n3_2_0, m3_2_0, n3_2_1, m3_2_1, n3_2_3, m3_2_3, n3_3_0, m3_3_0, n3_3_1, m3_3_1, n3_3_2, m3_3_2])
  have c4_4 : w4.cell? ⟨(w0.heap.size + 1), 0, none⟩ = some (.int .i64 0) := (hb4.cell (p := ⟨(w0.heap.size + 1), 0, none⟩) (by first | omega | (simp <;> omega))).trans (by first | exact c3_4 | simp [go_sem, c3_4, l3_0a, l3_0b, l3_0c, l3_0d, l3_1a, l3_1b, l3_1c, l3_1d, l3_2a, l3_2b, l3_2c, l3_2d, l3_3a, l3_3b, l3_3c, l3_3d, n3_1_0, m3_1_0, n3_1_2, m3_1_2, n3_1_3, m3_1_3, n3_2_0, m3_2_0, n3_2_1, m3_2_1, n3_2_3, m3_2_3, n3_3_0, m3_3_0, n3_3_1, m3_3_1, n3_3_2, m3_3_2])
  have fc4_4 : w4.frozen? ⟨(w0.heap.size + 1), 0, none⟩ = false := (hb4.frozen (p := ⟨(w0.heap.size + 1), 0, none⟩) (by first | omega | (simp <;> omega))).trans (by first | exact fc3_4 | simp [go_sem, fc3_4, l3_0a, l3_0b, l3_0c, l3_0d, l3_1a, l3_1b, l3_1c, l3_1d, l3_2a, l3_2b, l3_2c, l3_2d, l3_3a, l3_3b, l3_3c, l3_3d, n3_1_0, m3_1_0, n3_1_2, m3_1_2, n3_1_3, m3_1_3, n3_2_0, m3_2_0, n3_2_1, m3_2_1, n3_2_3, m3_2_3, n3_3_0, m3_3_0, n3_3_1, m3_3_1, n3_3_2, m3_3_2])
  have c4_5 : w4.cell? ⟨(w0.heap.size + 1), 1, none⟩ = some (.int .i64 0) := (hb4.cell (p := ⟨(w0.heap.size + 1), 1, none⟩) (by first | omega | (simp <;> omega))).trans (by first | exact c3_5 | simp [go_sem, c3_5, l3_0a, l3_0b, l3_0c, l3_0d, l3_1a, l3_1b, l3_1c, l3_1d, l3_2a, l3_2b, l3_2c, l3_2d, l3_3a, l3_3b, l3_3c, l3_3d, n3_1_0, m3_1_0, n3_1_2, m3_1_2, n3_1_3, m3_1_3, n3_2_0, m3_2_0, n3_2_1, m3_2_1, n3_2_3, m3_2_3, n3_3_0, m3_3_0, n3_3_1, m3_3_1, n3_3_2, m3_3_2])
  have fc4_5 : w4.frozen? ⟨(w0.heap.size + 1), 1, none⟩ = false := (hb4.frozen (p := ⟨(w0.heap.size + 1), 1, none⟩) (by first | omega | (simp <;> omega))).trans (by first | exact fc3_5 | simp [go_sem, fc3_5, l3_0a, l3_0b, l3_0c, l3_0d, l3_1a, l3_1b, l3_1c, l3_1d, l3_2a, l3_2b, l3_2c, l3_2d, l3_3a, l3_3b, l3_3c, l3_3d, n3_1_0, m3_1_0, n3_1_2, m3_1_2, n3_1_3, m3_1_3, n3_2_0, m3_2_0, n3_2_1, m3_2_1, n3_2_3, m3_2_3, n3_3_0, m3_3_0, n3_3_1, m3_3_1, n3_3_2, m3_3_2])
  have c4_6 : w4.cell? ⟨w1.heap.size, 0, none⟩ = some (.int .i64 0) := (hb4.cell (p := ⟨w1.heap.size, 0, none⟩) (by first | omega | (simp <;> omega))).trans (by first | (simp; done) | simp [go_sem, l3_0a, l3_0b, l3_0c, l3_0d, l3_1a, l3_1b, l3_1c, l3_1d, l3_2a, l3_2b, l3_2c, l3_2d, l3_3a, l3_3b, l3_3c, l3_3d, n3_1_0, m3_1_0, n3_1_2, m3_1_2, n3_1_3, m3_1_3, n3_2_0, m3_2_0, n3_2_1, m3_2_1, n3_2_3, m3_2_3, n3_3_0, m3_3_0, n3_3_1, m3_3_1, n3_3_2, m3_3_2, c3_0, c3_1, c3_2, c3_3, c3_4, c3_5, c3_6, c3_7, fc3_2, fc3_3, fc3_4, fc3_5, fc3_6, fc3_7])
  have fc4_6 : w4.frozen? ⟨w1.heap.size, 0, none⟩ = false := (hb4.frozen (p := ⟨w1.heap.size, 0, none⟩) (by first | omega | (simp <;> omega))).trans (by first | (simp; done) | simp [go_sem, l3_0a, l3_0b, l3_0c, l3_0d, l3_1a, l3_1b, l3_1c, l3_1d, l3_2a, l3_2b, l3_2c, l3_2d, l3_3a, l3_3b, l3_3c, l3_3d, n3_1_0, m3_1_0, n3_1_2, m3_1_2, n3_1_3, m3_1_3, n3_2_0, m3_2_0, n3_2_1, m3_2_1, n3_2_3, m3_2_3, n3_3_0, m3_3_0, n3_3_1, m3_3_1, n3_3_2, m3_3_2, c3_0, c3_1, c3_2, c3_3, c3_4, c3_5, c3_6, c3_7, fc3_2, fc3_3, fc3_4, fc3_5, fc3_6, fc3_7])
  have c4_7 : w4.cell? ⟨w1.heap.size, 1, none⟩ = some (.int .i64 0) := (hb4.cell (p := ⟨w1.heap.size, 1, none⟩) (by first | omega | (simp <;> omega))).trans (by first | (simp; done) | simp [go_sem, l3_0a, l3_0b, l3_0c, l3_0d, l3_1a, l3_1b, l3_1c, l3_1d, l3_2a, l3_2b, l3_2c, l3_2d, l3_3a, l3_3b, l3_3c, l3_3d, n3_1_0, m3_1_0, n3_1_2, m3_1_2, n3_1_3, m3_1_3, n3_2_0, m3_2_0, n3_2_1, m3_2_1, n3_2_3, m3_2_3, n3_3_0, m3_3_0, n3_3_1, m3_3_1, n3_3_2, m3_3_2, c3_0, c3_1, c3_2, c3_3, c3_4, c3_5, c3_6, c3_7, fc3_2, fc3_3, fc3_4, fc3_5, fc3_6, fc3_7])
  have fc4_7 : w4.frozen? ⟨w1.heap.size, 1, none⟩ = false := (hb4.frozen (p := ⟨w1.heap.size, 1, none⟩) (by first | omega | (simp <;> omega))).trans (by first | (simp; done) | simp [go_sem, l3_0a, l3_0b, l3_0c, l3_0d, l3_1a, l3_1b, l3_1c, l3_1d, l3_2a, l3_2b, l3_2c, l3_2d, l3_3a, l3_3b, l3_3c, l3_3d, n3_1_0, m3_1_0, n3_1_2, m3_1_2, n3_1_3, m3_1_3, n3_2_0, m3_2_0, n3_2_1, m3_2_1, n3_2_3, m3_2_3, n3_3_0, m3_3_0, n3_3_1, m3_3_1, n3_3_2, m3_3_2, c3_0, c3_1, c3_2, c3_3, c3_4, c3_5, c3_6, c3_7, fc3_2, fc3_3, fc3_4, fc3_5, fc3_6, fc3_7])
  have l4_0a : w.heap.size < w4.heap.size := World.block_lt_of_cell? w4 _ c4_0
  have l4_0b : w.heap.size < w4.heap.size + 1 := Nat.lt_succ_of_lt l4_0a
  have l4_0c : w.heap.size < w4.heap.size + 1 + 1 := Nat.lt_succ_of_lt l4_0b
  have l4_0d : w.heap.size < w4.heap.size + 1 + 1 + 1 := Nat.lt_succ_of_lt l4_0c
  have l4_1a : w0.heap.size < w4.heap.size := World.block_lt_of_cell? w4 _ c4_2
  have l4_1b : w0.heap.size < w4.heap.size + 1 := Nat.lt_succ_of_lt l4_1a
  have l4_1c : w0.heap.size < w4.heap.size + 1 + 1 := Nat.lt_succ_of_lt l4_1b
  have l4_1d : w0.heap.size < w4.heap.size + 1 + 1 + 1 := Nat.lt_succ_of_lt l4_1c
  have l4_2a : (w0.heap.size + 1) < w4.heap.size := World.block_lt_of_cell? w4 _ c4_4
  have l4_2b : (w0.heap.size + 1) < w4.heap.size + 1 := Nat.lt_succ_of_lt l4_2a
  have l4_2c : (w0.heap.size + 1) < w4.heap.size + 1 + 1 := Nat.lt_succ_of_lt l4_2b
  have l4_2d : (w0.heap.size + 1) < w4.heap.size + 1 + 1 + 1 := Nat.lt_succ_of_lt l4_2c
  have l4_3a : w1.heap.size < w4.heap.size := World.block_lt_of_cell? w4 _ c4_6
  have l4_3b : w1.heap.size < w4.heap.size + 1 := Nat.lt_succ_of_lt l4_3a
  have l4_3c : w1.heap.size < w4.heap.size + 1 + 1 := Nat.lt_succ_of_lt l4_3b
  have l4_3d : w1.heap.size < w4.heap.size + 1 + 1 + 1 := Nat.lt_succ_of_lt l4_3c
  have n4_1_0 : w0.heap.size ≠ w.heap.size := by omega
  have m4_1_0 : w.heap.size ≠ w0.heap.size := by omega
  have n4_1_2 : w0.heap.size ≠ (w0.heap.size + 1) := by omega
  have m4_1_2 : (w0.heap.size + 1) ≠ w0.heap.size := by omega
  have n4_1_3 : w0.heap.size ≠ w1.heap.size := by omega
  have m4_1_3 : w1.heap.size ≠ w0.heap.size := by omega
  have n4_2_0 : (w0.heap.size + 1) ≠ w.heap.size := by omega
  have m4_2_0 : w.heap.size ≠ (w0.heap.size + 1) := by omega
  have n4_2_1 : (w0.heap.size + 1) ≠ w0.heap.size := by omega
  have m4_2_1 : w0.heap.size ≠ (w0.heap.size + 1) := by omega
  have n4_2_3 : (w0.heap.size + 1) ≠ w1.heap.size := by omega
  have m4_2_3 : w1.heap.size ≠ (w0.heap.size + 1) := by omega
  have n4_3_0 : w1.heap.size ≠ w.heap.size := by omega
  have m4_3_0 : w.heap.size ≠ w1.heap.size := by omega
  have n4_3_1 : w1.heap.size ≠ w0.heap.size := by omega
  have m4_3_1 : w0.heap.size ≠ w1.heap.size := by omega
  have n4_3_2 : w1.heap.size ≠ (w0.heap.size + 1) := by omega
  have m4_3_2 : (w0.heap.size + 1) ≠ w1.heap.size := by omega
  have hkw0_4 : Below w0.heap.size w0 w4 := Below.trans (by first | exact hkw0_3 | ((repeat' (first | exact hkw0_3 | refine Below.setCell ?_ ?_ _ | refine Below.alloc ?_ ?_ _ | refine Below.drew ?_)) <;> (first | omega | (simp <;> omega)))) (hb4.mono (by first | omega | (simp <;> omega)))
  clear c3_0 c3_1 c3_2 c3_3 c3_4 c3_5 c3_6 c3_7 fc3_2 fc3_3 fc3_4 fc3_5 fc3_6 fc3_7 l3_0a l3_0b l3_0c l3_0d l3_1a l3_1b l3_1c l3_1d l3_2a l3_2b l3_2c l3_2d l3_3a l3_3b l3_3c l3_3d n3_1_0 m3_1_0 n3_1_2 m3_1_2 n3_1_3 m3_1_3 n3_2_0 m3_2_0 n3_2_1 m3_2_1 n3_2_3 m3_2_3 n3_3_0 m3_3_0 n3_3_1 m3_3_1 n3_3_2 m3_3_2 hkw0_3 hB3 hb4
  go_wp2_with fail
  go_ret
  exact ⟨rfl, (by first | exact hB4 | ((repeat' (first | exact hB4 | refine Below.setCell ?_ ?_ _ | refine Below.alloc ?_ ?_ _ | refine Below.drew ?_)) <;> (first | omega | (simp <;> omega))))⟩
set_option maxRecDepth 100000 in
set_option maxHeartbeats 8000000 in
theorem freeIs_6c (p : Pf) (A : Option Addr) (l : List Pf) (c : Nat) (n : Int) (hm : l.length ≤ maxLen) (w : World) (hg : ErrVar w) (ht : TabVar w) (hl : Rd w w.heap.size A (cellsP l)) (bi : Int) (hv : greatFault p l n = 0) (hgr : greatL p l n = []) (hbf : bestFault p l n = 3) (s0 : Act) (w0 : World) (h0 : FI5 p A l c n w 0 3 bi 0 false s0 w0) :
    (tailN 7 (tailN 2 (tailN 2 (tailN 8 (tailN 9 (Tryd.f5.body.getD .skip)))))).wp Tryd.prog (bodyPost Tryd.prog Tryd.f5 fun e w' => e = .returned (.bool true) ∧ Below w.heap.size w w') s0 w0 := by
  have HG := Lib.hid hg
  have HT := Lib.hid ht
  clear hg ht
  have HV := Lib.hid hv
  have HGR := Lib.hid hgr
  have HBF := Lib.hid hbf
  clear hv hgr hbf
  obtain ⟨U, AB, cB, BL, rfl, hBL, hrB, hB0, c0_0, c0_1⟩ := h0
  have HBL := Lib.hid hBL
  clear hBL
  dsimp only [Tryd.f5, Option.getD, tailN]
  have hs0 := hB0.size
  have l0_0a : w.heap.size < w0.heap.size := World.block_lt_of_cell? w0 _ c0_0
  have l0_0b : w.heap.size < w0.heap.size + 1 := Nat.lt_succ_of_lt l0_0a
  have l0_0c : w.heap.size < w0.heap.size + 1 + 1 := Nat.lt_succ_of_lt l0_0b
  have l0_0d : w.heap.size < w0.heap.size + 1 + 1 + 1 := Nat.lt_succ_of_lt l0_0c
  go_wp2_with fail
  refine (first_none p A l c n hm HV.out HGR.out _ (by exact HT.out.belowB (show Below w.heap.size w _ from (by first | exact hB0 | ((repeat' (first | exact hB0 | refine Below.setCell ?_ ?_ _ | refine Below.alloc ?_ ?_ _ | refine Below.drew ?_)) <;> (first | omega | (simp <;> omega))))) HT.out.lt) ((hl.below (show Below w.heap.size w _ from (by first | exact hB0 | ((repeat' (first | exact hB0 | refine Below.setCell ?_ ?_ _ | refine Below.alloc ?_ ?_ _ | refine Below.drew ?_)) <;> (first | omega | (simp <;> omega)))))).more (show w.heap.size ≤ _ from by first | omega | (simp <;> omega)))).mono ?_
  rintro e w1 ⟨rfl, hb1⟩
  have hB1 : Below w.heap.size w w1 := Below.trans (by first | exact hB0 | ((repeat' (first | exact hB0 | refine Below.setCell ?_ ?_ _ | refine Below.alloc ?_ ?_ _ | refine Below.drew ?_)) <;> (first | omega | (simp <;> omega)))) (hb1.mono (by first | omega | (simp <;> omega)))
  have hs1 : w.heap.size ≤ w1.heap.size := hB1.size
  have ht1 := hb1.size
  try simp only [World.size_alloc, World.size_setCell] at ht1
  have c1_0 : w1.cell? ⟨w.heap.size, 0, none⟩ = some (.int .i64 p.1) := (hb1.cell (p := ⟨w.heap.size, 0, none⟩) (by first | omega | (simp <;> omega))).trans (by first | exact c0_0 | simp [go_sem, c0_0, l0_0a, l0_0b, l0_0c, l0_0d])
  have c1_1 : w1.cell? ⟨w.heap.size, 1, none⟩ = some (.int .i64 p.2) := (hb1.cell (p := ⟨w.heap.size, 1, none⟩) (by first | omega | (simp <;> omega))).trans (by first | exact c0_1 | simp [go_sem, c0_1, l0_0a, l0_0b, l0_0c, l0_0d])
  have c1_2 : w1.cell? ⟨w0.heap.size, 0, none⟩ = some (.int .i64 0) := (hb1.cell (p := ⟨w0.heap.size, 0, none⟩) (by first | omega | (simp <;> omega))).trans (by first | (simp; done) | simp [go_sem, l0_0a, l0_0b, l0_0c, l0_0d, c0_0, c0_1])
  have fc1_2 : w1.frozen? ⟨w0.heap.size, 0, none⟩ = false := (hb1.frozen (p := ⟨w0.heap.size, 0, none⟩) (by first | omega | (simp <;> omega))).trans (by first | (simp; done) | simp [go_sem, l0_0a, l0_0b, l0_0c, l0_0d, c0_0, c0_1])
  have c1_3 : w1.cell? ⟨w0.heap.size, 1, none⟩ = some (.int .i64 0) := (hb1.cell (p := ⟨w0.heap.size, 1, none⟩) (by first | omega | (simp <;> omega))).trans (by first | (simp; done) | simp [go_sem, l0_0a, l0_0b, l0_0c, l0_0d, c0_0, c0_1])
  have fc1_3 : w1.frozen? ⟨w0.heap.size, 1, none⟩ = false := (hb1.frozen (p := ⟨w0.heap.size, 1, none⟩) (by first | omega | (simp <;> omega))).trans (by first | (simp; done) | simp [go_sem, l0_0a, l0_0b, l0_0c, l0_0d, c0_0, c0_1])
  have c1_4 : w1.cell? ⟨(w0.heap.size + 1), 0, none⟩ = some (.int .i64 0) := (hb1.cell (p := ⟨(w0.heap.size + 1), 0, none⟩) (by first | omega | (simp <;> omega))).trans (by first | (simp; done) | simp [go_sem, l0_0a, l0_0b, l0_0c, l0_0d, c0_0, c0_1])
  have fc1_4 : w1.frozen? ⟨(w0.heap.size + 1), 0, none⟩ = false := (hb1.frozen (p := ⟨(w0.heap.size + 1), 0, none⟩) (by first | omega | (simp <;> omega))).trans (by first | (simp; done) | simp [go_sem, l0_0a, l0_0b, l0_0c, l0_0d, c0_0, c0_1])
  have c1_5 : w1.cell? ⟨(w0.heap.size + 1), 1, none⟩ = some (.int .i64 0) := (hb1.cell (p := ⟨(w0.heap.size + 1), 1, none⟩) (by first | omega | (simp <;> omega))).trans (by first | (simp; done) | simp [go_sem, l0_0a, l0_0b, l0_0c, l0_0d, c0_0, c0_1])
  have fc1_5 : w1.frozen? ⟨(w0.heap.size + 1), 1, none⟩ = false := (hb1.frozen (p := ⟨(w0.heap.size + 1), 1, none⟩) (by first | omega | (simp <;> omega))).trans (by first | (simp; done) | simp [go_sem, l0_0a, l0_0b, l0_0c, l0_0d, c0_0, c0_1])
  have l1_0a : w.heap.size < w1.heap.size := World.block_lt_of_cell? w1 _ c1_0
  have l1_0b : w.heap.size < w1.heap.size + 1 := Nat.lt_succ_of_lt l1_0a
  have l1_0c : w.heap.size < w1.heap.size + 1 + 1 := Nat.lt_succ_of_lt l1_0b
  have l1_0d : w.heap.size < w1.heap.size + 1 + 1 + 1 := Nat.lt_succ_of_lt l1_0c
  have l1_1a : w0.heap.size < w1.heap.size := World.block_lt_of_cell? w1 _ c1_2
  have l1_1b : w0.heap.size < w1.heap.size + 1 := Nat.lt_succ_of_lt l1_1a
  have l1_1c : w0.heap.size < w1.heap.size + 1 + 1 := Nat.lt_succ_of_lt l1_1b
  have l1_1d : w0.heap.size < w1.heap.size + 1 + 1 + 1 := Nat.lt_succ_of_lt l1_1c
  have l1_2a : (w0.heap.size + 1) < w1.heap.size := World.block_lt_of_cell? w1 _ c1_4
  have l1_2b : (w0.heap.size + 1) < w1.heap.size + 1 := Nat.lt_succ_of_lt l1_2a
  have l1_2c : (w0.heap.size + 1) < w1.heap.size + 1 + 1 := Nat.lt_succ_of_lt l1_2b
  have l1_2d : (w0.heap.size + 1) < w1.heap.size + 1 + 1 + 1 := Nat.lt_succ_of_lt l1_2c
  have n1_1_0 : w0.heap.size ≠ w.heap.size := by omega
  have m1_1_0 : w.heap.size ≠ w0.heap.size := by omega
  have n1_1_2 : w0.heap.size ≠ (w0.heap.size + 1) := by omega
  have m1_1_2 : (w0.heap.size + 1) ≠ w0.heap.size := by omega
  have n1_2_0 : (w0.heap.size + 1) ≠ w.heap.size := by omega
  have m1_2_0 : w.heap.size ≠ (w0.heap.size + 1) := by omega
  have n1_2_1 : (w0.heap.size + 1) ≠ w0.heap.size := by omega
  have m1_2_1 : w0.heap.size ≠ (w0.heap.size + 1) := by omega
  have hkw0_1 : Below w0.heap.size w0 w1 := Below.trans (by first | exact Below.refl _ _ | ((repeat' (first | exact Below.refl _ _ | refine Below.setCell ?_ ?_ _ | refine Below.alloc ?_ ?_ _ | refine Below.drew ?_)) <;> (first | omega | (simp <;> omega)))) (hb1.mono (by first | omega | (simp <;> omega)))
  clear c0_0 c0_1 l0_0a l0_0b l0_0c l0_0d hB0 hb1
  go_wp2_with fail
  refine (error_same 4 (by decide) _ (by exact HG.out.belowB (show Below w.heap.size w _ from (by first | exact hB1 | ((repeat' (first | exact hB1 | refine Below.setCell ?_ ?_ _ | refine Below.alloc ?_ ?_ _ | refine Below.drew ?_)) <;> (first | omega | (simp <;> omega))))) HG.out.lt)).mono ?_
  rintro e w2 ⟨rfl, hb2⟩
  have hB2 : Below w.heap.size w w2 := Below.trans (by first | exact hB1 | ((repeat' (first | exact hB1 | refine Below.setCell ?_ ?_ _ | refine Below.alloc ?_ ?_ _ | refine Below.drew ?_)) <;> (first | omega | (simp <;> omega)))) (hb2.mono (by first | omega | (simp <;> omega)))
  have hs2 : w.heap.size ≤ w2.heap.size := hB2.size
  have ht2 := hb2.size
  try simp only [World.size_alloc, World.size_setCell] at ht2
  have c2_0 : w2.cell? ⟨w.heap.size, 0, none⟩ = some (.int .i64 p.1) := (hb2.cell (p := ⟨w.heap.size, 0, none⟩) (by first | omega | (simp <;> omega))).trans (by first | exact c1_0 | simp [go_sem, c1_0, l1_0a, l1_0b, l1_0c, l1_0d, l1_1a, l1_1b, l1_1c, l1_1d, l1_2a, l1_2b, l1_2c, l1_2d, n1_1_0, m1_1_0, n1_1_2, m1_1_2, n1_2_0, m1_2_0, n1_2_1, m1_2_1])
  have c2_1 : w2.cell? ⟨w.heap.size, 1, none⟩ = some (.int .i64 p.2) := (hb2.cell (p := ⟨w.heap.size, 1, none⟩) (by first | omega | (simp <;> omega))).trans (by first | exact c1_1 | simp [go_sem, c1_1, l1_0a, l1_0b, l1_0c, l1_0d, l1_1a, l1_1b, l1_1c, l1_1d, l1_2a, l1_2b, l1_2c, l1_2d, n1_1_0, m1_1_0, n1_1_2, m1_1_2, n1_2_0, m1_2_0, n1_2_1, m1_2_1])
  have c2_2 : w2.cell? ⟨w0.heap.size, 0, none⟩ = some (.int .i64 0) := (hb2.cell (p := ⟨w0.heap.size, 0, none⟩) (by first | omega | (simp <;> omega))).trans (by first | exact c1_2 | simp [go_sem, c1_2, l1_0a, l1_0b, l1_0c, l1_0d, l1_1a, l1_1b, l1_1c, l1_1d, l1_2a, l1_2b, l1_2c, l1_2d, n1_1_0, m1_1_0, n1_1_2, m1_1_2, n1_2_0, m1_2_0, n1_2_1, m1_2_1])
  have fc2_2 : w2.frozen? ⟨w0.heap.size, 0, none⟩ = false := (hb2.frozen (p := ⟨w0.heap.size, 0, none⟩) (by first | omega | (simp <;> omega))).trans (by first | exact fc1_2 | simp [go_sem, fc1_2, l1_0a, l1_0b, l1_0c, l1_0d, l1_1a, l1_1b, l1_1c, l1_1d, l1_2a, l1_2b, l1_2c, l1_2d, n1_1_0, m1_1_0, n1_1_2, m1_1_2, n1_2_0, m1_2_0, n1_2_1, m1_2_1])
  have c2_3 : w2.cell? ⟨w0.heap.size, 1, none⟩ = some (.int .i64 0) := (hb2.cell (p := ⟨w0.heap.size, 1, none⟩) (by first | omega | (simp <;> omega))).trans (by first | exact c1_3 | simp [go_sem, c1_3, l1_0a, l1_0b, l1_0c, l1_0d, l1_1a, l1_1b, l1_1c, l1_1d, l1_2a, l1_2b, l1_2c, l1_2d, n1_1_0, m1_1_0, n1_1_2, m1_1_2, n1_2_0, m1_2_0, n1_2_1, m1_2_1])
  have fc2_3 : w2.frozen? ⟨w0.heap.size, 1, none⟩ = false := (hb2.frozen (p := ⟨w0.heap.size, 1, none⟩) (by first | omega | (simp <;> omega))).trans (by first | exact fc1_3 | simp [go_sem, fc1_3, l1_0a, l1_0b, l1_0c, l1_0d, l1_1a, l1_1b, l1_1c, l1_1d, l1_2a, l1_2b, l1_2c, l1_2d, n1_1_0, m1_1_0, n1_1_2, m1_1_2, n1_2_0, m1_2_0, n1_2_1, m1_2_1])
  have c2_4 : w2.cell? ⟨(w0.heap.size + 1), 0, none⟩ = some (.int .i64 0) := (hb2.cell (p := ⟨(w0.heap.size + 1), 0, none⟩) (by first | omega | (simp <;> omega))).trans (by first | exact c1_4 | simp [go_sem, c1_4, l1_0a, l1_0b, l1_0c, l1_0d, l1_1a, l1_1b, l1_1c, l1_1d, l1_2a, l1_2b, l1_2c, l1_2d, n1_1_0, m1_1_0, n1_1_2, m1_1_2, n1_2_0, m1_2_0, n1_2_1, m1_2_1])
  have fc2_4 : w2.frozen? ⟨(w0.heap.size + 1), 0, none⟩ = false := (hb2.frozen (p := ⟨(w0.heap.size + 1), 0, none⟩) (by first | omega | (simp <;> omega))).trans (by first | exact fc1_4 | simp [go_sem, fc1_4, l1_0a, l1_0b, l1_0c, l1_0d, l1_1a, l1_1b, l1_1c, l1_1d, l1_2a, l1_2b, l1_2c, l1_2d, n1_1_0, m1_1_0, n1_1_2, m1_1_2, n1_2_0, m1_2_0, n1_2_1, m1_2_1])
  have c2_5 : w2.cell? ⟨(w0.heap.size + 1), 1, none⟩ = some (.int .i64 0) := (hb2.cell (p := ⟨(w0.heap.size + 1), 1, none⟩) (by first | omega | (simp <;> omega))).trans (by first | exact c1_5 | simp [go_sem, c1_5, l1_0a, l1_0b, l1_0c, l1_0d, l1_1a, l1_1b, l1_1c, l1_1d, l1_2a, l1_2b, l1_2c, l1_2d, n1_1_0, m1_1_0, n1_1_2, m1_1_2, n1_2_0, m1_2_0, n1_2_1, m1_2_1])
  have fc2_5 : w2.frozen? ⟨(w0.heap.size + 1), 1, none⟩ = false := (hb2.frozen (p := ⟨(w0.heap.size + 1), 1, none⟩) (by first | omega | (simp <;> omega))).trans (by first | exact fc1_5 | simp [go_sem, fc1_5, l1_0a, l1_0b, l1_0c, l1_0d, l1_1a, l1_1b, l1_1c, l1_1d, l1_2a, l1_2b, l1_2c, l1_2d, n1_1_0, m1_1_0, n1_1_2, m1_1_2, n1_2_0, m1_2_0, n1_2_1, m1_2_1])
  have c2_6 : w2.cell? ⟨w1.heap.size, 0, none⟩ = some (.int .i64 0) := (hb2.cell (p := ⟨w1.heap.size, 0, none⟩) (by first | omega | (simp <;> omega))).trans (by first | (simp; done) | simp [go_sem, l1_0a, l1_0b, l1_0c, l1_0d, l1_1a, l1_1b, l1_1c, l1_1d, l1_2a, l1_2b, l1_2c, l1_2d, n1_1_0, m1_1_0, n1_1_2, m1_1_2, n1_2_0, m1_2_0, n1_2_1, m1_2_1, c1_0, c1_1, c1_2, c1_3, c1_4, c1_5, fc1_2, fc1_3, fc1_4, fc1_5])
  have fc2_6 : w2.frozen? ⟨w1.heap.size, 0, none⟩ = false := (hb2.frozen (p := ⟨w1.heap.size, 0, none⟩) (by first | omega | (simp <;> omega))).trans (by first | (simp; done) | simp [go_sem, l1_0a, l1_0b, l1_0c, l1_0d, l1_1a, l1_1b, l1_1c, l1_1d, l1_2a, l1_2b, l1_2c, l1_2d, n1_1_0, m1_1_0, n1_1_2, m1_1_2, n1_2_0, m1_2_0, n1_2_1, m1_2_1, c1_0, c1_1, c1_2, c1_3, c1_4, c1_5, fc1_2, fc1_3, fc1_4, fc1_5])
  have c2_7 : w2.cell? ⟨w1.heap.size, 1, none⟩ = some (.int .i64 0) := (hb2.cell (p := ⟨w1.heap.size, 1, none⟩) (by first | omega | (simp <;> omega))).trans (by first | (simp; done) | simp [go_sem, l1_0a, l1_0b, l1_0c, l1_0d, l1_1a, l1_1b, l1_1c, l1_1d, l1_2a, l1_2b, l1_2c, l1_2d, n1_1_0, m1_1_0, n1_1_2, m1_1_2, n1_2_0, m1_2_0, n1_2_1, m1_2_1, c1_0, c1_1, c1_2, c1_3, c1_4, c1_5, fc1_2, fc1_3, fc1_4, fc1_5])
  have fc2_7 : w2.frozen? ⟨w1.heap.size, 1, none⟩ = false := (hb2.frozen (p := ⟨w1.heap.size, 1, none⟩) (by first | omega | (simp <;> omega))).trans (by first | (simp; done) | simp [go_sem, l1_0a, l1_0b, l1_0c, l1_0d, l1_1a, l1_1b, l1_1c, l1_1d, l1_2a, l1_2b, l1_2c, l1_2d, n1_1_0, m1_1_0, n1_1_2, m1_1_2, n1_2_0, m1_2_0, n1_2_1, m1_2_1, c1_0, c1_1, c1_2, c1_3, c1_4, c1_5, fc1_2, fc1_3, fc1_4, fc1_5])
  have l2_0a : w.heap.size < w2.heap.size := World.block_lt_of_cell? w2 _ c2_0
  have l2_0b : w.heap.size < w2.heap.size + 1 := Nat.lt_succ_of_lt l2_0a
  have l2_0c : w.heap.size < w2.heap.size + 1 + 1 := Nat.lt_succ_of_lt l2_0b
  have l2_0d : w.heap.size < w2.heap.size + 1 + 1 + 1 := Nat.lt_succ_of_lt l2_0c
  have l2_1a : w0.heap.size < w2.heap.size := World.block_lt_of_cell? w2 _ c2_2
  have l2_1b : w0.heap.size < w2.heap.size + 1 := Nat.lt_succ_of_lt l2_1a
  have l2_1c : w0.heap.size < w2.heap.size + 1 + 1 := Nat.lt_succ_of_lt l2_1b
  have l2_1d : w0.heap.size < w2.heap.size + 1 + 1 + 1 := Nat.lt_succ_of_lt l2_1c
  have l2_2a : (w0.heap.size + 1) < w2.heap.size := World.block_lt_of_cell? w2 _ c2_4
  have l2_2b : (w0.heap.size + 1) < w2.heap.size + 1 := Nat.lt_succ_of_lt l2_2a
  have l2_2c : (w0.heap.size + 1) < w2.heap.size + 1 + 1 := Nat.lt_succ_of_lt l2_2b
  have l2_2d : (w0.heap.size + 1) < w2.heap.size + 1 + 1 + 1 := Nat.lt_succ_of_lt l2_2c
  have l2_3a : w1.heap.size < w2.heap.size := World.block_lt_of_cell? w2 _ c2_6
  have l2_3b : w1.heap.size < w2.heap.size + 1 := Nat.lt_succ_of_lt l2_3a
  have l2_3c : w1.heap.size < w2.heap.size + 1 + 1 := Nat.lt_succ_of_lt l2_3b
  have l2_3d : w1.heap.size < w2.heap.size + 1 + 1 + 1 := Nat.lt_succ_of_lt l2_3c
  have n2_1_0 : w0.heap.size ≠ w.heap.size := by omega
  have m2_1_0 : w.heap.size ≠ w0.heap.size := by omega
  have n2_1_2 : w0.heap.size ≠ (w0.heap.size + 1) := by omega
  have m2_1_2 : (w0.heap.size + 1) ≠ w0.heap.size := by omega
  have n2_1_3 : w0.heap.size ≠ w1.heap.size := by omega
  have m2_1_3 : w1.heap.size ≠ w0.heap.size := by omega
  have n2_2_0 : (w0.heap.size + 1) ≠ w.heap.size := by omega
  have m2_2_0 : w.heap.size ≠ (w0.heap.size + 1) := by omega
  have n2_2_1 : (w0.heap.size + 1) ≠ w0.heap.size := by omega
  have m2_2_1 : w0.heap.size ≠ (w0.heap.size + 1) := by omega
  have n2_2_3 : (w0.heap.size + 1) ≠ w1.heap.size := by omega
  have m2_2_3 : w1.heap.size ≠ (w0.heap.size + 1) := by omega
  have n2_3_0 : w1.heap.size ≠ w.heap.size := by omega
  have m2_3_0 : w.heap.size ≠ w1.heap.size := by omega
  have n2_3_1 : w1.heap.size ≠ w0.heap.size := by omega
  have m2_3_1 : w0.heap.size ≠ w1.heap.size := by omega
  have n2_3_2 : w1.heap.size ≠ (w0.heap.size + 1) := by omega
  have m2_3_2 : (w0.heap.size + 1) ≠ w1.heap.size := by omega
  have hkw0_2 : Below w0.heap.size w0 w2 := Below.trans (by first | exact hkw0_1 | ((repeat' (first | exact hkw0_1 | refine Below.setCell ?_ ?_ _ | refine Below.alloc ?_ ?_ _ | refine Below.drew ?_)) <;> (first | omega | (simp <;> omega)))) (hb2.mono (by first | omega | (simp <;> omega)))
  clear c1_0 c1_1 c1_2 c1_3 c1_4 c1_5 fc1_2 fc1_3 fc1_4 fc1_5 l1_0a l1_0b l1_0c l1_0d l1_1a l1_1b l1_1c l1_1d l1_2a l1_2b l1_2c l1_2d n1_1_0 m1_1_0 n1_1_2 m1_1_2 n1_2_0 m1_2_0 n1_2_1 m1_2_1 hkw0_1 hB1 hb2
  go_wp2_with fail
  refine (best_bad p A l c n 3 HBF.out (by decide) hm _ (by exact HT.out.belowB (show Below w.heap.size w _ from (by first | exact hB2 | ((repeat' (first | exact hB2 | refine Below.setCell ?_ ?_ _ | refine Below.alloc ?_ ?_ _ | refine Below.drew ?_)) <;> (first | omega | (simp <;> omega))))) HT.out.lt) ((hl.below (show Below w.heap.size w _ from (by first | exact hB2 | ((repeat' (first | exact hB2 | refine Below.setCell ?_ ?_ _ | refine Below.alloc ?_ ?_ _ | refine Below.drew ?_)) <;> (first | omega | (simp <;> omega)))))).more (show w.heap.size ≤ _ from by first | omega | (simp <;> omega)))).mono ?_
  rintro e w3 ⟨rfl, hb3⟩
  have hB3 : Below w.heap.size w w3 := Below.trans (by first | exact hB2 | ((repeat' (first | exact hB2 | refine Below.setCell ?_ ?_ _ | refine Below.alloc ?_ ?_ _ | refine Below.drew ?_)) <;> (first | omega | (simp <;> omega)))) (hb3.mono (by first | omega | (simp <;> omega)))
  have hs3 : w.heap.size ≤ w3.heap.size := hB3.size
  have ht3 := hb3.size
  try simp only [World.size_alloc, World.size_setCell] at ht3
  have c3_0 : w3.cell? ⟨w.heap.size, 0, none⟩ = some (.int .i64 p.1) := (hb3.cell (p := ⟨w.heap.size, 0, none⟩) (by first | omega | (simp <;> omega))).trans (by first | exact c2_0 | simp [go_sem, c2_0, l2_0a, l2_0b, l2_0c, l2_0d, l2_1a, l2_1b, l2_1c, l2_1d, l2_2a, l2_2b, l2_2c, l2_2d, l2_3a, l2_3b, l2_3c, l2_3d, n2_1_0, m2_1_0, n2_1_2, m2_1_2, n2_1_3, m2_1_3, n2_2_0, m2_2_0, n2_2_1, m2_2_1, n2_2_3, m2_2_3, n2_3_0, m2_3_0, n2_3_1, m2_3_1, n2_3_2, m2_3_2])
  have c3_1 : w3.cell? ⟨w.heap.size, 1, none⟩ = some (.int .i64 p.2) := (hb3.cell (p := ⟨w.heap.size, 1, none⟩) (by first | omega | (simp <;> omega))).trans (by first | exact c2_1 | simp [go_sem, c2_1, l2_0a, l2_0b, l2_0c, l2_0d, l2_1a, l2_1b, l2_1c, l2_1d, l2_2a, l2_2b, l2_2c, l2_2d, l2_3a, l2_3b, l2_3c, l2_3d, n2_1_0, m2_1_0, n2_1_2, m2_1_2, n2_1_3, m2_1_3, n2_2_0, m2_2_0, n2_2_1, m2_2_1, n2_2_3, m2_2_3, n2_3_0, m2_3_0, n2_3_1, m2_3_1, n2_3_2, m2_3_2])
  have c3_2 : w3.cell? ⟨w0.heap.size, 0, none⟩ = some (.int .i64 0) := (hb3.cell (p := ⟨w0.heap.size, 0, none⟩) (by first | omega | (simp <;> omega))).trans (by first | exact c2_2 | simp [go_sem, c2_2, l2_0a, l2_0b, l2_0c, l2_0d, l2_1a, l2_1b, l2_1c, l2_1d, l2_2a, l2_2b, l2_2c, l2_2d, l2_3a, l2_3b, l2_3c, l2_3d, n2_1_0, m2_1_0, n2_1_2, m2_1_2, n2_1_3, m2_1_3, n2_2_0, m2_2_0, n2_2_1, m2_2_1, n2_2_3, m2_2_3, n2_3_0, m2_3_0, n2_3_1, m2_3_1, n2_3_2, m2_3_2])
  have fc3_2 : w3.frozen? ⟨w0.heap.size, 0, none⟩ = false := (hb3.frozen (p := ⟨w0.heap.size, 0, none⟩) (by first | omega | (simp <;> omega))).trans (by first | exact fc2_2 | simp [go_sem, fc2_2, l2_0a, l2_0b, l2_0c, l2_0d, l2_1a, l2_1b, l2_1c, l2_1d, l2_2a, l2_2b, l2_2c, l2_2d, l2_3a, l2_3b, l2_3c, l2_3d, n2_1_0, m2_1_0, n2_1_2, m2_1_2, n2_1_3, m2_1_3, n2_2_0, m2_2_0, n2_2_1, m2_2_1, n2_2_3, m2_2_3, n2_3_0, m2_3_0, n2_3_1, m2_3_1, n2_3_2, m2_3_2])
  have c3_3 : w3.cell? ⟨w0.heap.size, 1, none⟩ = some (.int .i64 0) := (hb3.cell (p := ⟨w0.heap.size, 1, none⟩) (by first | omega | (simp <;> omega))).trans (by first | exact c2_3 | simp [go_sem, c2_3, l2_0a, l2_0b, l2_0c, l2_0d, l2_1a, l2_1b, l2_1c, l2_1d, l2_2a, l2_2b, l2_2c, l2_2d, l2_3a, l2_3b, l2_3c, l2_3d, n2_1_0, m2_1_0, n2_1_2, m2_1_2, n2_1_3, m2_1_3, n2_2_0, m2_2_0, n2_2_1, m2_2_1, n2_2_3, m2_2_3, n2_3_0, m2_3_0, n2_3_1, m2_3_1, n2_3_2, m2_3_2])
  have fc3_3 : w3.frozen? ⟨w0.heap.size, 1, none⟩ = false := (hb3.frozen (p := ⟨w0.heap.size, 1, none⟩) (by first | omega | (simp <;> omega))).trans (by first | exact fc2_3 | simp [go_sem, fc2_3, l2_0a, l2_0b, l2_0c, l2_0d, l2_1a, l2_1b, l2_1c, l2_1d, l2_2a, l2_2b, l2_2c, l2_2d, l2_3a, l2_3b, l2_3c, l2_3d, n2_1_0, m2_1_0, n2_1_2, m2_1_2, n2_1_3, m2_1_3, n2_2_0, m2_2_0, n2_2_1, m2_2_1, n2_2_3, m2_2_3, n2_3_0, m2_3_0, n2_3_1, m2_3_1, n2_3_2, m2_3_2])
  have c3_4 : w3.cell? ⟨(w0.heap.size + 1), 0, none⟩ = some (.int .i64 0) := (hb3.cell (p := ⟨(w0.heap.size + 1), 0, none⟩) (by first | omega | (simp <;> omega))).trans (by first | exact c2_4 | simp [go_sem, c2_4, l2_0a, l2_0b, l2_0c, l2_0d, l2_1a, l2_1b, l2_1c, l2_1d, l2_2a, l2_2b, l2_2c, l2_2d, l2_3a, l2_3b, l2_3c, l2_3d, n2_1_0, m2_1_0, n2_1_2, m2_1_2, n2_1_3, m2_1_3, n2_2_0, m2_2_0, n2_2_1, m2_2_1, n2_2_3, m2_2_3, n2_3_0, m2_3_0, n2_3_1, m2_3_1, n2_3_2, m2_3_2])
  have fc3_4 : w3.frozen? ⟨(w0.heap.size + 1), 0, none⟩ = false := (hb3.frozen (p := ⟨(w0.heap.size + 1), 0, none⟩) (by first | omega | (simp <;> omega))).trans (by first | exact fc2_4 | simp [go_sem, fc2_4, l2_0a, l2_0b, l2_0c, l2_0d, l2_1a, l2_1b, l2_1c, l2_1d, l2_2a, l2_2b, l2_2c, l2_2d, l2_3a, l2_3b, l2_3c, l2_3d, n2_1_0, m2_1_0, n2_1_2, m2_1_2, n2_1_3, m2_1_3, n2_2_0, m2_2_0, n2_2_1, m2_2_1, n2_2_3, m2_2_3, n2_3_0, m2_3_0, n2_3_1, m2_3_1, n2_3_2, m2_3_2])
  have c3_5 : w3.cell? ⟨(w0.heap.size + 1), 1, none⟩ = some (.int .i64 0) := (hb3.cell (p := ⟨(w0.heap.size + 1), 1, none⟩) (by first | omega | (simp <;> omega))).trans (by first | exact c2_5 | simp [go_sem, c2_5, l2_0a, l2_0b, l2_0c, l2_0d, l2_1a, l2_1b, l2_1c, l2_1d, l2_2a, l2_2b, l2_2c, l2_2d, l2_3a, l2_3b, l2_3c, l2_3d, n2_1_0, m2_1_0, n2_1_2, m2_1_2, n2_1_3, m2_1_3, n2_2_0, m2_2_0, n2_2_1, m2_2_1, n2_2_3, m2_2_3, n2_3_0, m2_3_0, n2_3_1, m2_3_1, n2_3_2, m2_3_2])
  have fc3_5 : w3.frozen? ⟨(w0.heap.size + 1), 1, none⟩ = false := (hb3.frozen (p := ⟨(w0.heap.size + 1), 1, none⟩) (by first | omega | (simp <;> omega))).trans (by first | exact fc2_5 | simp [go_sem, fc2_5, l2_0a, l2_0b, l2_0c, l2_0d, l2_1a, l2_1b, l2_1c, l2_1d, l2_2a, l2_2b, l2_2c, l2_2d, l2_3a, l2_3b, l2_3c, l2_3d, n2_1_0, m2_1_0, n2_1_2, m2_1_2, n2_1_3, m2_1_3, n2_2_0, m2_2_0, n2_2_1, m2_2_1, n2_2_3, m2_2_3, n2_3_0, m2_3_0, n2_3_1, m2_3_1, n2_3_2, m2_3_2])
  have c3_6 : w3.cell? ⟨w1.heap.size, 0, none⟩ = some (.int .i64 0) := (hb3.cell (p := ⟨w1.heap.size, 0, none⟩) (by first | omega | (simp <;> omega))).trans (by first | exact c2_6 | simp [go_sem, c2_6, l2_0a, l2_0b, l2_0c, l2_0d, l2_1a, l2_1b, l2_1c, l2_1d, l2_2a, l2_2b, l2_2c, l2_2d, l2_3a, l2_3b, l2_3c, l2_3d, n2_1_0, m2_1_0, n2_1_2, m2_1_2, n2_1_3, m2_1_3, n2_2_0, m2_2_0, n2_2_1, m2_2_1, n2_2_3, m2_2_3, n2_3_0, m2_3_0, n2_3_1, m2_3_1, n2_3_2, m2_3_2])
  have fc3_6 : w3.frozen? ⟨w1.heap.size, 0, none⟩ = false := (hb3.frozen (p := ⟨w1.heap.size, 0, none⟩) (by first | omega | (simp <;> omega))).trans (by first | exact fc2_6 | simp [go_sem, fc2_6, l2_0a, l2_0b, l2_0c, l2_0d, l2_1a, l2_1b, l2_1c, l2_1d, l2_2a, l2_2b, l2_2c, l2_2d, l2_3a, l2_3b, l2_3c, l2_3d, n2_1_0, m2_1_0, n2_1_2, m2_1_2, n2_1_3, m2_1_3, n2_2_0, m2_2_0, n2_2_1, m2_2_1, n2_2_3, m2_2_3, n2_3_0, m2_3_0, n2_3_1, m2_3_1, n2_3_2, m2_3_2])
  have c3_7 : w3.cell? ⟨w1.heap.size, 1, none⟩ = some (.int .i64 0) := (hb3.cell (p := ⟨w1.heap.size, 1, none⟩) (by first | omega | (simp <;> omega))).trans (by first | exact c2_7 | simp [go_sem, c2_7, l2_0a, l2_0b, l2_0c, l2_0d, l2_1a, l2_1b, l2_1c, l2_1d, l2_2a, l2_2b, l2_2c, l2_2d, l2_3a, l2_3b, l2_3c, l2_3d, n2_1_0, m2_1_0, n2_1_2, m2_1_2, n2_1_3, m2_1_3, n2_2_0, m2_2_0, n2_2_1, m2_2_1, n2_2_3, m2_2_3, n2_3_0, m2_3_0, n2_3_1, m2_3_1, n2_3_2, m2_3_2])
  have fc3_7 : w3.frozen? ⟨w1.heap.size, 1, none⟩ = false := (hb3.frozen (p := ⟨w1.heap.size, 1, none⟩) (by first | omega | (simp <;> omega))).trans (by first | exact fc2_7 | simp [go_sem, fc2_7, l2_0a, l2_0b, l2_0c, l2_0d, l2_1a, l2_1b, l2_1c, l2_1d, l2_2a, l2_2b, l2_2c, l2_2d, l2_3a, l2_3b, l2_3c, l2_3d, n2_1_0, m2_1_0, n2_1_2, m2_1_2, n2_1_3, m2_1_3, n2_2_0, m2_2_0, n2_2_1, m2_2_1, n2_2_3, m2_2_3, n2_3_0, m2_3_0, n2_3_1, m2_3_1, n2_3_2, m2_3_2])
  have l3_0a : w.heap.size < w3.heap.size := World.block_lt_of_cell? w3 _ c3_0
  have l3_0b : w.heap.size < w3.heap.size + 1 := Nat.lt_succ_of_lt l3_0a
  have l3_0c : w.heap.size < w3.heap.size + 1 + 1 := Nat.lt_succ_of_lt l3_0b
  have l3_0d : w.heap.size < w3.heap.size + 1 + 1 + 1 := Nat.lt_succ_of_lt l3_0c
  have l3_1a : w0.heap.size < w3.heap.size := World.block_lt_of_cell? w3 _ c3_2
  have l3_1b : w0.heap.size < w3.heap.size + 1 := Nat.lt_succ_of_lt l3_1a
  have l3_1c : w0.heap.size < w3.heap.size + 1 + 1 := Nat.lt_succ_of_lt l3_1b
  have l3_1d : w0.heap.size < w3.heap.size + 1 + 1 + 1 := Nat.lt_succ_of_lt l3_1c
  have l3_2a : (w0.heap.size + 1) < w3.heap.size := World.block_lt_of_cell? w3 _ c3_4
  have l3_2b : (w0.heap.size + 1) < w3.heap.size + 1 := Nat.lt_succ_of_lt l3_2a
  have l3_2c : (w0.heap.size + 1) < w3.heap.size + 1 + 1 := Nat.lt_succ_of_lt l3_2b
  have l3_2d : (w0.heap.size + 1) < w3.heap.size + 1 + 1 + 1 := Nat.lt_succ_of_lt l3_2c
  have l3_3a : w1.heap.size < w3.heap.size := World.block_lt_of_cell? w3 _ c3_6
  have l3_3b : w1.heap.size < w3.heap.size + 1 := Nat.lt_succ_of_lt l3_3a
  have l3_3c : w1.heap.size < w3.heap.size + 1 + 1 := Nat.lt_succ_of_lt l3_3b
  have l3_3d : w1.heap.size < w3.heap.size + 1 + 1 + 1 := Nat.lt_succ_of_lt l3_3c
  have n3_1_0 : w0.heap.size ≠ w.heap.size := by omega
  have m3_1_0 : w.heap.size ≠ w0.heap.size := by omega
  have n3_1_2 : w0.heap.size ≠ (w0.heap.size + 1) := by omega
  have m3_1_2 : (w0.heap.size + 1) ≠ w0.heap.size := by omega
  have n3_1_3 : w0.heap.size ≠ w1.heap.size := by omega
  have m3_1_3 : w1.heap.size ≠ w0.heap.size := by omega
  have n3_2_0 : (w0.heap.size + 1) ≠ w.heap.size := by omega
  have m3_2_0 : w.heap.size ≠ (w0.heap.size + 1) := by omega
  have n3_2_1 : (w0.heap.size + 1) ≠ w0.heap.size := by omega
  have m3_2_1 : w0.heap.size ≠ (w0.heap.size + 1) := by omega
  have n3_2_3 : (w0.heap.size + 1) ≠ w1.heap.size := by omega
  have m3_2_3 : w1.heap.size ≠ (w0.heap.size + 1) := by omega
  have n3_3_0 : w1.heap.size ≠ w.heap.size := by omega
  have m3_3_0 : w.heap.size ≠ w1.heap.size := by omega
  have n3_3_1 : w1.heap.size ≠ w0.heap.size := by omega
  have m3_3_1 : w0.heap.size ≠ w1.heap.size := by omega
  have n3_3_2 : w1.heap.size ≠ (w0.heap.size + 1) := by omega
  have m3_3_2 : (w0.heap.size + 1) ≠ w1.heap.size := by omega
  have hkw0_3 : Below w0.heap.size w0 w3 := Below.trans (by first | exact hkw0_2 | ((repeat' (first | exact hkw0_2 | refine Below.setCell ?_ ?_ _ | refine Below.alloc ?_ ?_ _ | refine Below.drew ?_)) <;> (first | omega | (simp <;> omega)))) (hb3.mono (by first | omega | (simp <;> omega)))
  clear c2_0 c2_1 c2_2 c2_3 c2_4 c2_5 c2_6 c2_7 fc2_2 fc2_3 fc2_4 fc2_5 fc2_6 fc2_7 l2_0a l2_0b l2_0c l2_0d l2_1a l2_1b l2_1c l2_1d l2_2a l2_2b l2_2c l2_2d l2_3a l2_3b l2_3c l2_3d n2_1_0 m2_1_0 n2_1_2 m2_1_2 n2_1_3 m2_1_3 n2_2_0 m2_2_0 n2_2_1 m2_2_1 n2_2_3 m2_2_3 n2_3_0 m2_3_0 n2_3_1 m2_3_1 n2_3_2 m2_3_2 hkw0_2 hB2 hb3
  go_wp2_with fail
  refine (error_same 3 (by decide) _ (by exact HG.out.belowB (show Below w.heap.size w _ from (by first | exact hB3 | ((repeat' (first | exact hB3 | refine Below.setCell ?_ ?_ _ | refine Below.alloc ?_ ?_ _ | refine Below.drew ?_)) <;> (first | omega | (simp <;> omega))))) HG.out.lt)).mono ?_
  rintro e w4 ⟨rfl, hb4⟩
  have hB4 : Below w.heap.size w w4 := Below.trans (by first | exact hB3 | ((repeat' (first | exact hB3 | refine Below.setCell ?_ ?_ _ | refine Below.alloc ?_ ?_ _ | refine Below.drew ?_)) <;> (first | omega | (simp <;> omega)))) (hb4.mono (by first | omega | (simp <;> omega)))
  have hs4 : w.heap.size ≤ w4.heap.size := hB4.size
  have ht4 := hb4.size
  try simp only [World.size_alloc, World.size_setCell] at ht4
  have c4_0 : w4.cell? ⟨w.heap.size, 0, none⟩ = some (.int .i64 p.1) := (hb4.cell (p := ⟨w.heap.size, 0, none⟩) (by first | omega | (simp <;> omega))).trans (by first | exact c3_0 | simp [go_sem, c3_0, l3_0a, l3_0b, l3_0c, l3_0d, l3_1a, l3_1b, l3_1c, l3_1d, l3_2a, l3_2b, l3_2c, l3_2d, l3_3a, l3_3b, l3_3c, l3_3d, n3_1_0, m3_1_0, n3_1_2, m3_1_2, n3_1_3, m3_1_3, n3_2_0, m3_2_0, n3_2_1, m3_2_1, n3_2_3, m3_2_3, n3_3_0, m3_3_0, n3_3_1, m3_3_1, n3_3_2, m3_3_2])
  have c4_1 : w4.cell? ⟨w.heap.size, 1, none⟩ = some (.int .i64 p.2) := (hb4.cell (p := ⟨w.heap.size, 1, none⟩) (by first | omega | (simp <;> omega))).trans (by first | exact c3_1 | simp [go_sem, c3_1, l3_0a, l3_0b, l3_0c, l3_0d, l3_1a, l3_1b, l3_1c, l3_1d, l3_2a, l3_2b, l3_2c, l3_2d, l3_3a, l3_3b, l3_3c, l3_3d, n3_1_0, m3_1_0, n3_1_2, m3_1_2, n3_1_3, m3_1_3, n3_2_0, m3_2_0, n3_2_1, m3_2_1, n3_2_3, m3_2_3, n3_3_0, m3_3_0, n3_3_1, m3_3_1, n3_3_2, m3_3_2])
  have c4_2 : w4.cell? ⟨w0.heap.size, 0, none⟩ = some (.int .i64 0) := (hb4.cell (p := ⟨w0.heap.size, 0, none⟩) (by first | omega | (simp <;> omega))).trans (by first | exact c3_2 | simp [go_sem, c3_2, l3_0a, l3_0b, l3_0c, l3_0d, l3_1a, l3_1b, l3_1c, l3_1d, l3_2a, l3_2b, l3_2c, l3_2d, l3_3a, l3_3b, l3_3c, l3_3d, n3_1_0, m3_1_0, n3_1_2, m3_1_2, n3_1_3, m3_1_3, n3_2_0, m3_2_0, n3_2_1, m3_2_1, n3_2_3, m3_2_3, n3_3_0, m3_3_0, n3_3_1, m3_3_1, n3_3_2, m3_3_2])
  have fc4_2 : w4.frozen? ⟨w0.heap.size, 0, none⟩ = false := (hb4.frozen (p := ⟨w0.heap.size, 0, none⟩) (by first | omega | (simp <;> omega))).trans (by first | exact fc3_2 | simp [go_sem, fc3_2, l3_0a, l3_0b, l3_0c, l3_0d, l3_1a, l3_1b, l3_1c, l3_1d, l3_2a, l3_2b, l3_2c, l3_2d, l3_3a, l3_3b, l3_3c, l3_3d, n3_1_0, m3_1_0, n3_1_2, m3_1_2, n3_1_3, m3_1_3, n3_2_0, m3_2_0, n3_2_1, m3_2_1, n3_2_3, m3_2_3, n3_3_0, m3_3_0, n3_3_1, m3_3_1, n3_3_2, m3_3_2])
  have c4_3 : w4.cell? ⟨w0.heap.size, 1, none⟩ = some (.int .i64 0) := (hb4.cell (p := ⟨w0.heap.size, 1, none⟩) (by first | omega | (simp <;> omega))).trans (by first | exact c3_3 | simp [go_sem, c3_3, l3_0a, l3_0b, l3_0c, l3_0d, l3_1a, l3_1b, l3_1c, l3_1d, l3_2a, l3_2b, l3_2c, l3_2d, l3_3a, l3_3b, l3_3c, l3_3d, n3_1_0, m3_1_0, n3_1_2, m3_1_2, n3_1_3, m3_1_3, n3_2_0, m3_2_0, n3_2_1, m3_2_1, n3_2_3, m3_2_3, n3_3_0, m3_3_0, n3_3_1, m3_3_1, n3_3_2, m3_3_2])
  have fc4_3 : w4.frozen? ⟨w0.heap.size, 1, none⟩ = false := (hb4.frozen (p := ⟨w0.heap.size, 1, none⟩) (by first | omega | (simp <;> omega))).trans (by first | exact fc3_3 | simp [go_sem, fc3_3, l3_0a, l3_0b, l3_0c, l3_0d, l3_1a, l3_1b, l3_1c, l3_1d, l3_2a, l3_2b, l3_2c, l3_2d, l3_3a, l3_3b, l3_3c, l3_3d, n3_1_0, m3_1_0, n3_1_2, m3_1_2, n3_1_3, m3_1_3, n3_2_0, m3_2_0, n3_2_1, m3_2_1, n3_2_3, m3_2_3, n3_3_0, m3_3_0, n3_3_1, m3_3_1, n3_3_2, m3_3_2])
  have c4_4 : w4.cell? ⟨(w0.heap.size + 1), 0, none⟩ = some (.int .i64 0) := (hb4.cell (p := ⟨(w0.heap.size + 1), 0, none⟩) (by first | omega | (simp <;> omega))).trans (by first | exact c3_4 | simp [go_sem, c3_4, l3_0a, l3_0b, l3_0c, l3_0d, l3_1a, l3_1b, l3_1c, l3_1d, l3_2a, l3_2b, l3_2c, l3_2d, l3_3a, l3_3b, l3_3c, l3_3d, n3_1_0, m3_1_0, n3_1_2, m3_1_2, n3_1_3, m3_1_3, n3_2_0, m3_2_0, n3_2_1, m3_2_1, n3_2_3, m3_2_3, n3_3_0, m3_3_0, n3_3_1, m3_3_1, n3_3_2, m3_3_2])
  have fc4_4 : w4.frozen? ⟨(w0.heap.size + 1), 0, none⟩ = false := (hb4.frozen (p := ⟨(w0.heap.size + 1), 0, none⟩) (by first | omega | (simp <;> omega))).trans (by first | exact fc3_4 | simp [go_sem, fc3_4, l3_0a, l3_0b, l3_0c, l3_0d, l3_1a, l3_1b, l3_1c, l3_1d, l3_2a, l3_2b, l3_2c, l3_2d, l3_3a, l3_3b, l3_3c, l3_3d, n3_1_0, m3_1_0, n3_1_2, m3_1_2, n3_1_3, m3_1_3, n3_2_0, m3_2_0, n3_2_1, m3_2_1, n3_2_3, m3_2_3, n3_3_0, m3_3_0, n3_3_1, m3_3_1, n3_3_2, m3_3_2])
  have c4_5 : w4.cell? ⟨(w0.heap.size + 1), 1, none⟩ = some (.int .i64 0) := (hb4.cell (p := ⟨(w0.heap.size + 1), 1, none⟩) (by first | omega | (simp <;> omega))).trans (by first | exact c3_5 | simp [go_sem, c3_5, l3_0a, l3_0b, l3_0c, l3_0d, l3_1a, l3_1b, l3_1c, l3_1d, l3_2a, l3_2b, l3_2c, l3_2d, l3_3a, l3_3b, l3_3c, l3_3d, n3_1_0, m3_1_0, n3_1_2, m3_1_2, n3_1_3, m3_1_3, n3_2_0, m3_2_0, n3_2_1, m3_2_1, n3_2_3, m3_2_3, n3_3_0, m3_3_0, n3_3_1, m3_3_1, n3_3_2, m3_3_2])
  have fc4_5 : w4.frozen? ⟨(w0.heap.size + 1), 1, none⟩ = false := (hb4.frozen (p := ⟨(w0.heap.size + 1), 1, none⟩) (by first | omega | (simp <;> omega))).trans (by first | exact fc3_5 | simp [go_sem, fc3_5, l3_0a, l3_0b, l3_0c, l3_0d, l3_1a, l3_1b, l3_1c, l3_1d, l3_2a, l3_2b, l3_2c, l3_2d, l3_3a, l3_3b, l3_3c, l3_3d, n3_1_0, m3_1_0, n3_1_2, m3_1_2, n3_1_3, m3_1_3, n3_2_0, m3_2_0, n3_2_1, m3_2_1, n3_2_3, m3_2_3, n3_3_0, m3_3_0, n3_3_1, m3_3_1, n3_3_2, m3_3_2])
  have c4_6 : w4.cell? ⟨w1.heap.size, 0, none⟩ = some (.int .i64 0) := (hb4.cell (p := ⟨w1.heap.size, 0, none⟩) (by first | omega | (simp <;> omega))).trans (by first | (simp; done) | simp [go_sem, l3_0a, l3_0b, l3_0c, l3_0d, l3_1a, l3_1b, l3_1c, l3_1d, l3_2a, l3_2b, l3_2c, l3_2d, l3_3a, l3_3b, l3_3c, l3_3d, n3_1_0, m3_1_0, n3_1_2, m3_1_2, n3_1_3, m3_1_3, n3_2_0, m3_2_0, n3_2_1, m3_2_1, n3_2_3, m3_2_3, n3_3_0, m3_3_0, n3_3_1, m3_3_1, n3_3_2, m3_3_2, c3_0, c3_1, c3_2, c3_3, c3_4, c3_5, c3_6, c3_7, fc3_2, fc3_3, fc3_4, fc3_5, fc3_6, fc3_7])
  have fc4_6 : w4.frozen? ⟨w1.heap.size, 0, none⟩ = false := (hb4.frozen (p := ⟨w1.heap.size, 0, none⟩) (by first | omega | (simp <;> omega))).trans (by first | (simp; done) | simp [go_sem, l3_0a, l3_0b, l3_0c, l3_0d, l3_1a, l3_1b, l3_1c, l3_1d, l3_2a, l3_2b, l3_2c, l3_2d, l3_3a, l3_3b, l3_3c, l3_3d, n3_1_0, m3_1_0, n3_1_2, m3_1_2, n3_1_3, m3_1_3, n3_2_0, m3_2_0, n3_2_1, m3_2_1, n3_2_3, m3_2_3, n3_3_0, m3_3_0, n3_3_1, m3_3_1, n3_3_2, m3_3_2, c3_0, c3_1, c3_2, c3_3, c3_4, c3_5, c3_6, c3_7, fc3_2, fc3_3, fc3_4, fc3_5, fc3_6, fc3_7])
  have c4_7 : w4.cell? ⟨w1.heap.size, 1, none⟩ = some (.int .i64 0) := (hb4.cell (p := ⟨w1.heap.size, 1, none⟩) (by first | omega | (simp <;> omega))).trans (by first | (simp; done) | simp [go_sem, l3_0a, l3_0b, l3_0c, l3_0d, l3_1a, l3_1b, l3_1c, l3_1d, l3_2a, l3_2b, l3_2c, l3_2d, l3_3a, l3_3b, l3_3c, l3_3d, n3_1_0, m3_1_0, n3_1_2, m3_1_2, n3_1_3, m3_1_3, n3_2_0, m3_2_0, n3_2_1, m3_2_1, n3_2_3, m3_2_3, n3_3_0, m3_3_0, n3_3_1, m3_3_1, n3_3_2, m3_3_2, c3_0, c3_1, c3_2, c3_3, c3_4, c3_5, c3_6, c3_7, fc3_2, fc3_3, fc3_4, fc3_5, fc3_6, fc3_7])
  have fc4_7 : w4.frozen? ⟨w1.heap.size, 1, none⟩ = false := (hb4.frozen (p := ⟨w1.heap.size, 1, none⟩) (by first | omega | (simp <;> omega))).trans (by first | (simp; done) | simp [go_sem, l3_0a, l3_0b, l3_0c, l3_0d, l3_1a, l3_1b, l3_1c, l3_1d, l3_2a, l3_2b, l3_2c, l3_2d, l3_3a, l3_3b, l3_3c, l3_3d, n3_1_0, m3_1_0, n3_1_2, m3_1_2, n3_1_3, m3_1_3, n3_2_0, m3_2_0, n3_2_1, m3_2_1, n3_2_3, m3_2_3, n3_3_0, m3_3_0, n3_3_1, m3_3_1, n3_3_2, m3_3_2, c3_0, c3_1, c3_2, c3_3, c3_4, c3_5, c3_6, c3_7, fc3_2, fc3_3, fc3_4, fc3_5, fc3_6, fc3_7])
  have l4_0a : w.heap.size < w4.heap.size := World.block_lt_of_cell? w4 _ c4_0
  have l4_0b : w.heap.size < w4.heap.size + 1 := Nat.lt_succ_of_lt l4_0a
  have l4_0c : w.heap.size < w4.heap.size + 1 + 1 := Nat.lt_succ_of_lt l4_0b
  have l4_0d : w.heap.size < w4.heap.size + 1 + 1 + 1 := Nat.lt_succ_of_lt l4_0c
  have l4_1a : w0.heap.size < w4.heap.size := World.block_lt_of_cell? w4 _ c4_2
  have l4_1b : w0.heap.size < w4.heap.size + 1 := Nat.lt_succ_of_lt l4_1a
  have l4_1c : w0.heap.size < w4.heap.size + 1 + 1 := Nat.lt_succ_of_lt l4_1b
  have l4_1d : w0.heap.size < w4.heap.size + 1 + 1 + 1 := Nat.lt_succ_of_lt l4_1c
  have l4_2a : (w0.heap.size + 1) < w4.heap.size := World.block_lt_of_cell? w4 _ c4_4
  have l4_2b : (w0.heap.size + 1) < w4.heap.size + 1 := Nat.lt_succ_of_lt l4_2a
  have l4_2c : (w0.heap.size + 1) < w4.heap.size + 1 + 1 := Nat.lt_succ_of_lt l4_2b
  have l4_2d : (w0.heap.size + 1) < w4.heap.size + 1 + 1 + 1 := Nat.lt_succ_of_lt l4_2c
  have l4_3a : w1.heap.size < w4.heap.size := World.block_lt_of_cell? w4 _ c4_6
  have l4_3b : w1.heap.size < w4.heap.size + 1 := Nat.lt_succ_of_lt l4_3a
  have l4_3c : w1.heap.size < w4.heap.size + 1 + 1 := Nat.lt_succ_of_lt l4_3b
  have l4_3d : w1.heap.size < w4.heap.size + 1 + 1 + 1 := Nat.lt_succ_of_lt l4_3c
  have n4_1_0 : w0.heap.size ≠ w.heap.size := by omega
  have m4_1_0 : w.heap.size ≠ w0.heap.size := by omega
  have n4_1_2 : w0.heap.size ≠ (w0.heap.size + 1) := by omega
  have m4_1_2 : (w0.heap.size + 1) ≠ w0.heap.size := by omega
  have n4_1_3 : w0.heap.size ≠ w1.heap.size := by omega
  have m4_1_3 : w1.heap.size ≠ w0.heap.size := by omega
  have n4_2_0 : (w0.heap.size + 1) ≠ w.heap.size := by omega
  have m4_2_0 : w.heap.size ≠ (w0.heap.size + 1) := by omega
  have n4_2_1 : (w0.heap.size + 1) ≠ w0.heap.size := by omega
  have m4_2_1 : w0.heap.size ≠ (w0.heap.size + 1) := by omega
  have n4_2_3 : (w0.heap.size + 1) ≠ w1.heap.size := by omega
  have m4_2_3 : w1.heap.size ≠ (w0.heap.size + 1) := by omega
  have n4_3_0 : w1.heap.size ≠ w.heap.size := by omega
  have m4_3_0 : w.heap.size ≠ w1.heap.size := by omega
  have n4_3_1 : w1.heap.size ≠ w0.heap.size := by omega
  have m4_3_1 : w0.heap.size ≠ w1.heap.size := by omega
  have n4_3_2 : w1.heap.size ≠ (w0.heap.size + 1) := by omega
  have m4_3_2 : (w0.heap.size + 1) ≠ w1.heap.size := by omega
  have hkw0_4 : Below w0.heap.size w0 w4 := Below.trans (by first | exact hkw0_3 | ((repeat' (first | exact hkw0_3 | refine Below.setCell ?_ ?_ _ | refine Below.alloc ?_ ?_ _ | refine Below.drew ?_)) <;> (first | omega | (simp <;> omega)))) (hb4.mono (by first | omega | (simp <;> omega)))
  clear c3_0 c3_1 c3_2 c3_3 c3_4 c3_5 c3_6 c3_7 fc3_2 fc3_3 fc3_4 fc3_5 fc3_6 fc3_7 l3_0a l3_0b l3_0c l3_0d l3_1a l3_1b l3_1c l3_1d l3_2a l3_2b l3_2c l3_2d l3_3a l3_3b l3_3c l3_3d n3_1_0 m3_1_0 n3_1_2 m3_1_2 n3_1_3 m3_1_3 n3_2_0 m3_2_0 n3_2_1 m3_2_1 n3_2_3 m3_2_3 n3_3_0 m3_3_0 n3_3_1 m3_3_1 n3_3_2 m3_3_2 hkw0_3 hB3 hb4
  go_wp2_with fail
  go_ret
  exact ⟨rfl, (by first | exact hB4 | ((repeat' (first | exact hB4 | refine Below.setCell ?_ ?_ _ | refine Below.alloc ?_ ?_ _ | refine Below.drew ?_)) <;> (first | omega | (simp <;> omega))))⟩
set_option maxRecDepth 100000 in
set_option maxHeartbeats 8000000 in
theorem freeIs_6d (p : Pf) (A : Option Addr) (l : List Pf) (c : Nat) (n : Int) (hm : l.length ≤ maxLen) (w : World) (hg : ErrVar w) (ht : TabVar w) (hl : Rd w w.heap.size A (cellsP l)) (bi : Int) (b : Pf) (r : List Pf) (hv : greatFault p l n = 0) (hgr : greatL p l n = b :: r) (hbf : bestFault p l n = 3) (s0 : Act) (w0 : World) (h0 : FI5 p A l c n w 0 3 bi b.1 true s0 w0) :
    (tailN 7 (tailN 2 (tailN 2 (tailN 8 (tailN 9 (Tryd.f5.body.getD .skip)))))).wp Tryd.prog (bodyPost Tryd.prog Tryd.f5 fun e w' => e = .returned (.bool true) ∧ Below w.heap.size w w') s0 w0 := by
  have HG := Lib.hid hg
  have HT := Lib.hid ht
  clear hg ht
  have HV := Lib.hid hv
  have HGR := Lib.hid hgr
  have HBF := Lib.hid hbf
  clear hv hgr hbf
  obtain ⟨U, AB, cB, BL, rfl, hBL, hrB, hB0, c0_0, c0_1⟩ := h0
  have HBL := Lib.hid hBL
  clear hBL
  dsimp only [Tryd.f5, Option.getD, tailN]
  have hs0 := hB0.size
  have l0_0a : w.heap.size < w0.heap.size := World.block_lt_of_cell? w0 _ c0_0
  have l0_0b : w.heap.size < w0.heap.size + 1 := Nat.lt_succ_of_lt l0_0a
  have l0_0c : w.heap.size < w0.heap.size + 1 + 1 := Nat.lt_succ_of_lt l0_0b
  have l0_0d : w.heap.size < w0.heap.size + 1 + 1 + 1 := Nat.lt_succ_of_lt l0_0c
  go_wp2_with fail
  refine (first_ok p A l c n b r hm HV.out HGR.out _ (by exact HT.out.belowB (show Below w.heap.size w _ from (by first | exact hB0 | ((repeat' (first | exact hB0 | refine Below.setCell ?_ ?_ _ | refine Below.alloc ?_ ?_ _ | refine Below.drew ?_)) <;> (first | omega | (simp <;> omega))))) HT.out.lt) ((hl.below (show Below w.heap.size w _ from (by first | exact hB0 | ((repeat' (first | exact hB0 | refine Below.setCell ?_ ?_ _ | refine Below.alloc ?_ ?_ _ | refine Below.drew ?_)) <;> (first | omega | (simp <;> omega)))))).more (show w.heap.size ≤ _ from by first | omega | (simp <;> omega)))).mono ?_
  rintro e w1 ⟨rfl, hb1⟩
  have hB1 : Below w.heap.size w w1 := Below.trans (by first | exact hB0 | ((repeat' (first | exact hB0 | refine Below.setCell ?_ ?_ _ | refine Below.alloc ?_ ?_ _ | refine Below.drew ?_)) <;> (first | omega | (simp <;> omega)))) (hb1.mono (by first | omega | (simp <;> omega)))
  have hs1 : w.heap.size ≤ w1.heap.size := hB1.size
  have ht1 := hb1.size
  try simp only [World.size_alloc, World.size_setCell] at ht1
  have c1_0 : w1.cell? ⟨w.heap.size, 0, none⟩ = some (.int .i64 p.1) := (hb1.cell (p := ⟨w.heap.size, 0, none⟩) (by first | omega | (simp <;> omega))).trans (by first | exact c0_0 | simp [go_sem, c0_0, l0_0a, l0_0b, l0_0c, l0_0d])
  have c1_1 : w1.cell? ⟨w.heap.size, 1, none⟩ = some (.int .i64 p.2) := (hb1.cell (p := ⟨w.heap.size, 1, none⟩) (by first | omega | (simp <;> omega))).trans (by first | exact c0_1 | simp [go_sem, c0_1, l0_0a, l0_0b, l0_0c, l0_0d])
  have c1_2 : w1.cell? ⟨w0.heap.size, 0, none⟩ = some (.int .i64 b.1) := (hb1.cell (p := ⟨w0.heap.size, 0, none⟩) (by first | omega | (simp <;> omega))).trans (by first | (simp; done) | simp [go_sem, l0_0a, l0_0b, l0_0c, l0_0d, c0_0, c0_1])
  have fc1_2 : w1.frozen? ⟨w0.heap.size, 0, none⟩ = false := (hb1.frozen (p := ⟨w0.heap.size, 0, none⟩) (by first | omega | (simp <;> omega))).trans (by first | (simp; done) | simp [go_sem, l0_0a, l0_0b, l0_0c, l0_0d, c0_0, c0_1])
  have c1_3 : w1.cell? ⟨w0.heap.size, 1, none⟩ = some (.int .i64 n) := (hb1.cell (p := ⟨w0.heap.size, 1, none⟩) (by first | omega | (simp <;> omega))).trans (by first | (simp; done) | simp [go_sem, l0_0a, l0_0b, l0_0c, l0_0d, c0_0, c0_1])
  have fc1_3 : w1.frozen? ⟨w0.heap.size, 1, none⟩ = false := (hb1.frozen (p := ⟨w0.heap.size, 1, none⟩) (by first | omega | (simp <;> omega))).trans (by first | (simp; done) | simp [go_sem, l0_0a, l0_0b, l0_0c, l0_0d, c0_0, c0_1])
  have c1_4 : w1.cell? ⟨(w0.heap.size + 1), 0, none⟩ = some (.int .i64 0) := (hb1.cell (p := ⟨(w0.heap.size + 1), 0, none⟩) (by first | omega | (simp <;> omega))).trans (by first | (simp; done) | simp [go_sem, l0_0a, l0_0b, l0_0c, l0_0d, c0_0, c0_1])
  have fc1_4 : w1.frozen? ⟨(w0.heap.size + 1), 0, none⟩ = false := (hb1.frozen (p := ⟨(w0.heap.size + 1), 0, none⟩) (by first | omega | (simp <;> omega))).trans (by first | (simp; done) | simp [go_sem, l0_0a, l0_0b, l0_0c, l0_0d, c0_0, c0_1])
  have c1_5 : w1.cell? ⟨(w0.heap.size + 1), 1, none⟩ = some (.int .i64 0) := (hb1.cell (p := ⟨(w0.heap.size + 1), 1, none⟩) (by first | omega | (simp <;> omega))).trans (by first | (simp; done) | simp [go_sem, l0_0a, l0_0b, l0_0c, l0_0d, c0_0, c0_1])
  have fc1_5 : w1.frozen? ⟨(w0.heap.size + 1), 1, none⟩ = false := (hb1.frozen (p := ⟨(w0.heap.size + 1), 1, none⟩) (by first | omega | (simp <;> omega))).trans (by first | (simp; done) | simp [go_sem, l0_0a, l0_0b, l0_0c, l0_0d, c0_0, c0_1])
  have l1_0a : w.heap.size < w1.heap.size := World.block_lt_of_cell? w1 _ c1_0
  have l1_0b : w.heap.size < w1.heap.size + 1 := Nat.lt_succ_of_lt l1_0a
  have l1_0c : w.heap.size < w1.heap.size + 1 + 1 := Nat.lt_succ_of_lt l1_0b
  have l1_0d : w.heap.size < w1.heap.size + 1 + 1 + 1 := Nat.lt_succ_of_lt l1_0c
  have l1_1a : w0.heap.size < w1.heap.size := World.block_lt_of_cell? w1 _ c1_2
  have l1_1b : w0.heap.size < w1.heap.size + 1 := Nat.lt_succ_of_lt l1_1a
  have l1_1c : w0.heap.size < w1.heap.size + 1 + 1 := Nat.lt_succ_of_lt l1_1b
  have l1_1d : w0.heap.size < w1.heap.size + 1 + 1 + 1 := Nat.lt_succ_of_lt l1_1c
  have l1_2a : (w0.heap.size + 1) < w1.heap.size := World.block_lt_of_cell? w1 _ c1_4
  have l1_2b : (w0.heap.size + 1) < w1.heap.size + 1 := Nat.lt_succ_of_lt l1_2a
  have l1_2c : (w0.heap.size + 1) < w1.heap.size + 1 + 1 := Nat.lt_succ_of_lt l1_2b
  have l1_2d : (w0.heap.size + 1) < w1.heap.size + 1 + 1 + 1 := Nat.lt_succ_of_lt l1_2c
  have n1_1_0 : w0.heap.size ≠ w.heap.size := by omega
  have m1_1_0 : w.heap.size ≠ w0.heap.size := by omega
  have n1_1_2 : w0.heap.size ≠ (w0.heap.size + 1) := by omega
  have m1_1_2 : (w0.heap.size + 1) ≠ w0.heap.size := by omega
  have n1_2_0 : (w0.heap.size + 1) ≠ w.heap.size := by omega
  have m1_2_0 : w.heap.size ≠ (w0.heap.size + 1) := by omega
  have n1_2_1 : (w0.heap.size + 1) ≠ w0.heap.size := by omega
  have m1_2_1 : w0.heap.size ≠ (w0.heap.size + 1) := by omega
  have hkw0_1 : Below w0.heap.size w0 w1 := Below.trans (by first | exact Below.refl _ _ | ((repeat' (first | exact Below.refl _ _ | refine Below.setCell ?_ ?_ _ | refine Below.alloc ?_ ?_ _ | refine Below.drew ?_)) <;> (first | omega | (simp <;> omega)))) (hb1.mono (by first | omega | (simp <;> omega)))
  clear c0_0 c0_1 l0_0a l0_0b l0_0c l0_0d hB0 hb1
  go_wp2_with fail
  refine (error_nil0 _ (by exact HG.out.belowB (show Below w.heap.size w _ from (by first | exact hB1 | ((repeat' (first | exact hB1 | refine Below.setCell ?_ ?_ _ | refine Below.alloc ?_ ?_ _ | refine Below.drew ?_)) <;> (first | omega | (simp <;> omega))))) HG.out.lt)).mono ?_
  rintro e w2 ⟨rfl, hb2⟩
  have hB2 : Below w.heap.size w w2 := Below.trans (by first | exact hB1 | ((repeat' (first | exact hB1 | refine Below.setCell ?_ ?_ _ | refine Below.alloc ?_ ?_ _ | refine Below.drew ?_)) <;> (first | omega | (simp <;> omega)))) (hb2.mono (by first | omega | (simp <;> omega)))
  have hs2 : w.heap.size ≤ w2.heap.size := hB2.size
  have ht2 := hb2.size
  try simp only [World.size_alloc, World.size_setCell] at ht2
  have c2_0 : w2.cell? ⟨w.heap.size, 0, none⟩ = some (.int .i64 p.1) := (hb2.cell (p := ⟨w.heap.size, 0, none⟩) (by first | omega | (simp <;> omega))).trans (by first | exact c1_0 | simp [go_sem, c1_0, l1_0a, l1_0b, l1_0c, l1_0d, l1_1a, l1_1b, l1_1c, l1_1d, l1_2a, l1_2b, l1_2c, l1_2d, n1_1_0, m1_1_0, n1_1_2, m1_1_2, n1_2_0, m1_2_0, n1_2_1, m1_2_1])
  have c2_1 : w2.cell? ⟨w.heap.size, 1, none⟩ = some (.int .i64 p.2) := (hb2.cell (p := ⟨w.heap.size, 1, none⟩) (by first | omega | (simp <;> omega))).trans (by first | exact c1_1 | simp [go_sem, c1_1, l1_0a, l1_0b, l1_0c, l1_0d, l1_1a, l1_1b, l1_1c, l1_1d, l1_2a, l1_2b, l1_2c, l1_2d, n1_1_0, m1_1_0, n1_1_2, m1_1_2, n1_2_0, m1_2_0, n1_2_1, m1_2_1])
  have c2_2 : w2.cell? ⟨w0.heap.size, 0, none⟩ = some (.int .i64 b.1) := (hb2.cell (p := ⟨w0.heap.size, 0, none⟩) (by first | omega | (simp <;> omega))).trans (by first | exact c1_2 | simp [go_sem, c1_2, l1_0a, l1_0b, l1_0c, l1_0d, l1_1a, l1_1b, l1_1c, l1_1d, l1_2a, l1_2b, l1_2c, l1_2d, n1_1_0, m1_1_0, n1_1_2, m1_1_2, n1_2_0, m1_2_0, n1_2_1, m1_2_1])
  have fc2_2 : w2.frozen? ⟨w0.heap.size, 0, none⟩ = false := (hb2.frozen (p := ⟨w0.heap.size, 0, none⟩) (by first | omega | (simp <;> omega))).trans (by first | exact fc1_2 | simp [go_sem, fc1_2, l1_0a, l1_0b, l1_0c, l1_0d, l1_1a, l1_1b, l1_1c, l1_1d, l1_2a, l1_2b, l1_2c, l1_2d, n1_1_0, m1_1_0, n1_1_2, m1_1_2, n1_2_0, m1_2_0, n1_2_1, m1_2_1])
  have c2_3 : w2.cell? ⟨w0.heap.size, 1, none⟩ = some (.int .i64 n) := (hb2.cell (p := ⟨w0.heap.size, 1, none⟩) (by first | omega | (simp <;> omega))).trans (by first | exact c1_3 | simp [go_sem, c1_3, l1_0a, l1_0b, l1_0c, l1_0d, l1_1a, l1_1b, l1_1c, l1_1d, l1_2a, l1_2b, l1_2c, l1_2d, n1_1_0, m1_1_0, n1_1_2, m1_1_2, n1_2_0, m1_2_0, n1_2_1, m1_2_1])
  have fc2_3 : w2.frozen? ⟨w0.heap.size, 1, none⟩ = false := (hb2.frozen (p := ⟨w0.heap.size, 1, none⟩) (by first | omega | (simp <;> omega))).trans (by first | exact fc1_3 | simp [go_sem, fc1_3, l1_0a, l1_0b, l1_0c, l1_0d, l1_1a, l1_1b, l1_1c, l1_1d, l1_2a, l1_2b, l1_2c, l1_2d, n1_1_0, m1_1_0, n1_1_2, m1_1_2, n1_2_0, m1_2_0, n1_2_1, m1_2_1])
  have c2_4 : w2.cell? ⟨(w0.heap.size + 1), 0, none⟩ = some (.int .i64 0) := (hb2.cell (p := ⟨(w0.heap.size + 1), 0, none⟩) (by first | omega | (simp <;> omega))).trans (by first | exact c1_4 | simp [go_sem, c1_4, l1_0a, l1_0b, l1_0c, l1_0d, l1_1a, l1_1b, l1_1c, l1_1d, l1_2a, l1_2b, l1_2c, l1_2d, n1_1_0, m1_1_0, n1_1_2, m1_1_2, n1_2_0, m1_2_0, n1_2_1, m1_2_1])
  have fc2_4 : w2.frozen? ⟨(w0.heap.size + 1), 0, none⟩ = false := (hb2.frozen (p := ⟨(w0.heap.size + 1), 0, none⟩) (by first | omega | (simp <;> omega))).trans (by first | exact fc1_4 | simp [go_sem, fc1_4, l1_0a, l1_0b, l1_0c, l1_0d, l1_1a, l1_1b, l1_1c, l1_1d, l1_2a, l1_2b, l1_2c, l1_2d, n1_1_0, m1_1_0, n1_1_2, m1_1_2, n1_2_0, m1_2_0, n1_2_1, m1_2_1])
  have c2_5 : w2.cell? ⟨(w0.heap.size + 1), 1, none⟩ = some (.int .i64 0) := (hb2.cell (p := ⟨(w0.heap.size + 1), 1, none⟩) (by first | omega | (simp <;> omega))).trans (by first | exact c1_5 | simp [go_sem, c1_5, l1_0a, l1_0b, l1_0c, l1_0d, l1_1a, l1_1b, l1_1c, l1_1d, l1_2a, l1_2b, l1_2c, l1_2d, n1_1_0, m1_1_0, n1_1_2, m1_1_2, n1_2_0, m1_2_0, n1_2_1, m1_2_1])
  have fc2_5 : w2.frozen? ⟨(w0.heap.size + 1), 1, none⟩ = false := (hb2.frozen (p := ⟨(w0.heap.size + 1), 1, none⟩) (by first | omega | (simp <;> omega))).trans (by first | exact fc1_5 | simp [go_sem, fc1_5, l1_0a, l1_0b, l1_0c, l1_0d, l1_1a, l1_1b, l1_1c, l1_1d, l1_2a, l1_2b, l1_2c, l1_2d, n1_1_0, m1_1_0, n1_1_2, m1_1_2, n1_2_0, m1_2_0, n1_2_1, m1_2_1])
  have c2_6 : w2.cell? ⟨w1.heap.size, 0, none⟩ = some (.int .i64 b.1) := (hb2.cell (p := ⟨w1.heap.size, 0, none⟩) (by first | omega | (simp <;> omega))).trans (by first | (simp; done) | simp [go_sem, l1_0a, l1_0b, l1_0c, l1_0d, l1_1a, l1_1b, l1_1c, l1_1d, l1_2a, l1_2b, l1_2c, l1_2d, n1_1_0, m1_1_0, n1_1_2, m1_1_2, n1_2_0, m1_2_0, n1_2_1, m1_2_1, c1_0, c1_1, c1_2, c1_3, c1_4, c1_5, fc1_2, fc1_3, fc1_4, fc1_5])
  have fc2_6 : w2.frozen? ⟨w1.heap.size, 0, none⟩ = false := (hb2.frozen (p := ⟨w1.heap.size, 0, none⟩) (by first | omega | (simp <;> omega))).trans (by first | (simp; done) | simp [go_sem, l1_0a, l1_0b, l1_0c, l1_0d, l1_1a, l1_1b, l1_1c, l1_1d, l1_2a, l1_2b, l1_2c, l1_2d, n1_1_0, m1_1_0, n1_1_2, m1_1_2, n1_2_0, m1_2_0, n1_2_1, m1_2_1, c1_0, c1_1, c1_2, c1_3, c1_4, c1_5, fc1_2, fc1_3, fc1_4, fc1_5])
  have c2_7 : w2.cell? ⟨w1.heap.size, 1, none⟩ = some (.int .i64 n) := (hb2.cell (p := ⟨w1.heap.size, 1, none⟩) (by first | omega | (simp <;> omega))).trans (by first | (simp; done) | simp [go_sem, l1_0a, l1_0b, l1_0c, l1_0d, l1_1a, l1_1b, l1_1c, l1_1d, l1_2a, l1_2b, l1_2c, l1_2d, n1_1_0, m1_1_0, n1_1_2, m1_1_2, n1_2_0, m1_2_0, n1_2_1, m1_2_1, c1_0, c1_1, c1_2, c1_3, c1_4, c1_5, fc1_2, fc1_3, fc1_4, fc1_5])
  have fc2_7 : w2.frozen? ⟨w1.heap.size, 1, none⟩ = false := (hb2.frozen (p := ⟨w1.heap.size, 1, none⟩) (by first | omega | (simp <;> omega))).trans (by first | (simp; done) | simp [go_sem, l1_0a, l1_0b, l1_0c, l1_0d, l1_1a, l1_1b, l1_1c, l1_1d, l1_2a, l1_2b, l1_2c, l1_2d, n1_1_0, m1_1_0, n1_1_2, m1_1_2, n1_2_0, m1_2_0, n1_2_1, m1_2_1, c1_0, c1_1, c1_2, c1_3, c1_4, c1_5, fc1_2, fc1_3, fc1_4, fc1_5])
  have l2_0a : w.heap.size < w2.heap.size := World.block_lt_of_cell? w2 _ c2_0
  have l2_0b : w.heap.size < w2.heap.size + 1 := Nat.lt_succ_of_lt l2_0a
  have l2_0c : w.heap.size < w2.heap.size + 1 + 1 := Nat.lt_succ_of_lt l2_0b
  have l2_0d : w.heap.size < w2.heap.size + 1 + 1 + 1 := Nat.lt_succ_of_lt l2_0c
  have l2_1a : w0.heap.size < w2.heap.size := World.block_lt_of_cell? w2 _ c2_2
  have l2_1b : w0.heap.size < w2.heap.size + 1 := Nat.lt_succ_of_lt l2_1a
  have l2_1c : w0.heap.size < w2.heap.size + 1 + 1 := Nat.lt_succ_of_lt l2_1b
  have l2_1d : w0.heap.size < w2.heap.size + 1 + 1 + 1 := Nat.lt_succ_of_lt l2_1c
  have l2_2a : (w0.heap.size + 1) < w2.heap.size := World.block_lt_of_cell? w2 _ c2_4
  have l2_2b : (w0.heap.size + 1) < w2.heap.size + 1 := Nat.lt_succ_of_lt l2_2a
  have l2_2c : (w0.heap.size + 1) < w2.heap.size + 1 + 1 := Nat.lt_succ_of_lt l2_2b
  have l2_2d : (w0.heap.size + 1) < w2.heap.size + 1 + 1 + 1 := Nat.lt_succ_of_lt l2_2c
  have l2_3a : w1.heap.size < w2.heap.size := World.block_lt_of_cell? w2 _ c2_6
  have l2_3b : w1.heap.size < w2.heap.size + 1 := Nat.lt_succ_of_lt l2_3a
  have l2_3c : w1.heap.size < w2.heap.size + 1 + 1 := Nat.lt_succ_of_lt l2_3b
  have l2_3d : w1.heap.size < w2.heap.size + 1 + 1 + 1 := Nat.lt_succ_of_lt l2_3c
  have n2_1_0 : w0.heap.size ≠ w.heap.size := by omega
  have m2_1_0 : w.heap.size ≠ w0.heap.size := by omega
  have n2_1_2 : w0.heap.size ≠ (w0.heap.size + 1) := by omega
  have m2_1_2 : (w0.heap.size + 1) ≠ w0.heap.size := by omega
  have n2_1_3 : w0.heap.size ≠ w1.heap.size := by omega
  have m2_1_3 : w1.heap.size ≠ w0.heap.size := by omega
  have n2_2_0 : (w0.heap.size + 1) ≠ w.heap.size := by omega
  have m2_2_0 : w.heap.size ≠ (w0.heap.size + 1) := by omega
  have n2_2_1 : (w0.heap.size + 1) ≠ w0.heap.size := by omega
  have m2_2_1 : w0.heap.size ≠ (w0.heap.size + 1) := by omega
  have n2_2_3 : (w0.heap.size + 1) ≠ w1.heap.size := by omega
  have m2_2_3 : w1.heap.size ≠ (w0.heap.size + 1) := by omega
  have n2_3_0 : w1.heap.size ≠ w.heap.size := by omega
  have m2_3_0 : w.heap.size ≠ w1.heap.size := by omega
  have n2_3_1 : w1.heap.size ≠ w0.heap.size := by omega
  have m2_3_1 : w0.heap.size ≠ w1.heap.size := by omega
  have n2_3_2 : w1.heap.size ≠ (w0.heap.size + 1) := by omega
  have m2_3_2 : (w0.heap.size + 1) ≠ w1.heap.size := by omega
  have hkw0_2 : Below w0.heap.size w0 w2 := Below.trans (by first | exact hkw0_1 | ((repeat' (first | exact hkw0_1 | refine Below.setCell ?_ ?_ _ | refine Below.alloc ?_ ?_ _ | refine Below.drew ?_)) <;> (first | omega | (simp <;> omega)))) (hb2.mono (by first | omega | (simp <;> omega)))
  clear c1_0 c1_1 c1_2 c1_3 c1_4 c1_5 fc1_2 fc1_3 fc1_4 fc1_5 l1_0a l1_0b l1_0c l1_0d l1_1a l1_1b l1_1c l1_1d l1_2a l1_2b l1_2c l1_2d n1_1_0 m1_1_0 n1_1_2 m1_1_2 n1_2_0 m1_2_0 n1_2_1 m1_2_1 hkw0_1 hB1 hb2
  go_wp2_with fail
  refine (best_bad p A l c n 3 HBF.out (by decide) hm _ (by exact HT.out.belowB (show Below w.heap.size w _ from (by first | exact hB2 | ((repeat' (first | exact hB2 | refine Below.setCell ?_ ?_ _ | refine Below.alloc ?_ ?_ _ | refine Below.drew ?_)) <;> (first | omega | (simp <;> omega))))) HT.out.lt) ((hl.below (show Below w.heap.size w _ from (by first | exact hB2 | ((repeat' (first | exact hB2 | refine Below.setCell ?_ ?_ _ | refine Below.alloc ?_ ?_ _ | refine Below.drew ?_)) <;> (first | omega | (simp <;> omega)))))).more (show w.heap.size ≤ _ from by first | omega | (simp <;> omega)))).mono ?_
  rintro e w3 ⟨rfl, hb3⟩
  have hB3 : Below w.heap.size w w3 := Below.trans (by first | exact hB2 | ((repeat' (first | exact hB2 | refine Below.setCell ?_ ?_ _ | refine Below.alloc ?_ ?_ _ | refine Below.drew ?_)) <;> (first | omega | (simp <;> omega)))) (hb3.mono (by first | omega | (simp <;> omega)))
  have hs3 : w.heap.size ≤ w3.heap.size := hB3.size
  have ht3 := hb3.size
  try simp only [World.size_alloc, World.size_setCell] at ht3
  have c3_0 : w3.cell? ⟨w.heap.size, 0, none⟩ = some (.int .i64 p.1) := (hb3.cell (p := ⟨w.heap.size, 0, none⟩) (by first | omega | (simp <;> omega))).trans (by first | exact c2_0 | simp [go_sem, c2_0, l2_0a, l2_0b, l2_0c, l2_0d, l2_1a, l2_1b, l2_1c, l2_1d, l2_2a, l2_2b, l2_2c, l2_2d, l2_3a, l2_3b, l2_3c, l2_3d, n2_1_0, m2_1_0, n2_1_2, m2_1_2, n2_1_3, m2_1_3, n2_2_0, m2_2_0, n2_2_1, m2_2_1, n2_2_3, m2_2_3, n2_3_0, m2_3_0, n2_3_1, m2_3_1, n2_3_2, m2_3_2])
  have c3_1 : w3.cell? ⟨w.heap.size, 1, none⟩ = some (.int .i64 p.2) := (hb3.cell (p := ⟨w.heap.size, 1, none⟩) (by first | omega | (simp <;> omega))).trans (by first | exact c2_1 | simp [go_sem, c2_1, l2_0a, l2_0b, l2_0c, l2_0d, l2_1a, l2_1b, l2_1c, l2_1d, l2_2a, l2_2b, l2_2c, l2_2d, l2_3a, l2_3b, l2_3c, l2_3d, n2_1_0, m2_1_0, n2_1_2, m2_1_2, n2_1_3, m2_1_3, n2_2_0, m2_2_0, n2_2_1, m2_2_1, n2_2_3, m2_2_3, n2_3_0, m2_3_0, n2_3_1, m2_3_1, n2_3_2, m2_3_2])
  have c3_2 : w3.cell? ⟨w0.heap.size, 0, none⟩ = some (.int .i64 b.1) := (hb3.cell (p := ⟨w0.heap.size, 0, none⟩) (by first | omega | (simp <;> omega))).trans (by first | exact c2_2 | simp [go_sem, c2_2, l2_0a, l2_0b, l2_0c, l2_0d, l2_1a, l2_1b, l2_1c, l2_1d, l2_2a, l2_2b, l2_2c, l2_2d, l2_3a, l2_3b, l2_3c, l2_3d, n2_1_0, m2_1_0, n2_1_2, m2_1_2, n2_1_3, m2_1_3, n2_2_0, m2_2_0, n2_2_1, m2_2_1, n2_2_3, m2_2_3, n2_3_0, m2_3_0, n2_3_1, m2_3_1, n2_3_2, m2_3_2])
  have fc3_2 : w3.frozen? ⟨w0.heap.size, 0, none⟩ = false := (hb3.frozen (p := ⟨w0.heap.size, 0, none⟩) (by first | omega | (simp <;> omega))).trans (by first | exact fc2_2 | simp [go_sem, fc2_2, l2_0a, l2_0b, l2_0c, l2_0d, l2_1a, l2_1b, l2_1c, l2_1d, l2_2a, l2_2b, l2_2c, l2_2d, l2_3a, l2_3b, l2_3c, l2_3d, n2_1_0, m2_1_0, n2_1_2, m2_1_2, n2_1_3, m2_1_3, n2_2_0, m2_2_0, n2_2_1, m2_2_1, n2_2_3, m2_2_3, n2_3_0, m2_3_0, n2_3_1, m2_3_1, n2_3_2, m2_3_2])
  have c3_3 : w3.cell? ⟨w0.heap.size, 1, none⟩ = some (.int .i64 n) := (hb3.cell (p := ⟨w0.heap.size, 1, none⟩) (by first | omega | (simp <;> omega))).trans (by first | exact c2_3 | simp [go_sem, c2_3, l2_0a, l2_0b, l2_0c, l2_0d, l2_1a, l2_1b, l2_1c, l2_1d, l2_2a, l2_2b, l2_2c, l2_2d, l2_3a, l2_3b, l2_3c, l2_3d, n2_1_0, m2_1_0, n2_1_2, m2_1_2, n2_1_3, m2_1_3, n2_2_0, m2_2_0, n2_2_1, m2_2_1, n2_2_3, m2_2_3, n2_3_0, m2_3_0, n2_3_1, m2_3_1, n2_3_2, m2_3_2])
  have fc3_3 : w3.frozen? ⟨w0.heap.size, 1, none⟩ = false := (hb3.frozen (p := ⟨w0.heap.size, 1, none⟩) (by first | omega | (simp <;> omega))).trans (by first | exact fc2_3 | simp [go_sem, fc2_3, l2_0a, l2_0b, l2_0c, l2_0d, l2_1a, l2_1b, l2_1c, l2_1d, l2_2a, l2_2b, l2_2c, l2_2d, l2_3a, l2_3b, l2_3c, l2_3d, n2_1_0, m2_1_0, n2_1_2, m2_1_2, n2_1_3, m2_1_3, n2_2_0, m2_2_0, n2_2_1, m2_2_1, n2_2_3, m2_2_3, n2_3_0, m2_3_0, n2_3_1, m2_3_1, n2_3_2, m2_3_2])
  have c3_4 : w3.cell? ⟨(w0.heap.size + 1), 0, none⟩ = some (.int .i64 0) := (hb3.cell (p := ⟨(w0.heap.size + 1), 0, none⟩) (by first | omega | (simp <;> omega))).trans (by first | exact c2_4 | simp [go_sem, c2_4, l2_0a, l2_0b, l2_0c, l2_0d, l2_1a, l2_1b, l2_1c, l2_1d, l2_2a, l2_2b, l2_2c, l2_2d, l2_3a, l2_3b, l2_3c, l2_3d, n2_1_0, m2_1_0, n2_1_2, m2_1_2, n2_1_3, m2_1_3, n2_2_0, m2_2_0, n2_2_1, m2_2_1, n2_2_3, m2_2_3, n2_3_0, m2_3_0, n2_3_1, m2_3_1, n2_3_2, m2_3_2])
  have fc3_4 : w3.frozen? ⟨(w0.heap.size + 1), 0, none⟩ = false := (hb3.frozen (p := ⟨(w0.heap.size + 1), 0, none⟩) (by first | omega | (simp <;> omega))).trans (by first | exact fc2_4 | simp [go_sem, fc2_4, l2_0a, l2_0b, l2_0c, l2_0d, l2_1a, l2_1b, l2_1c, l2_1d, l2_2a, l2_2b, l2_2c, l2_2d, l2_3a, l2_3b, l2_3c, l2_3d, n2_1_0, m2_1_0, n2_1_2, m2_1_2, n2_1_3, m2_1_3, n2_2_0, m2_2_0, n2_2_1, m2_2_1, n2_2_3, m2_2_3, n2_3_0, m2_3_0, n2_3_1, m2_3_1, n2_3_2, m2_3_2])
  have c3_5 : w3.cell? ⟨(w0.heap.size + 1), 1, none⟩ = some (.int .i64 0) := (hb3.cell (p := ⟨(w0.heap.size + 1), 1, none⟩) (by first | omega | (simp <;> omega))).trans (by first | exact c2_5 | simp [go_sem, c2_5, l2_0a, l2_0b, l2_0c, l2_0d, l2_1a, l2_1b, l2_1c, l2_1d, l2_2a, l2_2b, l2_2c, l2_2d, l2_3a, l2_3b, l2_3c, l2_3d, n2_1_0, m2_1_0, n2_1_2, m2_1_2, n2_1_3, m2_1_3, n2_2_0, m2_2_0, n2_2_1, m2_2_1, n2_2_3, m2_2_3, n2_3_0, m2_3_0, n2_3_1, m2_3_1, n2_3_2, m2_3_2])
  have fc3_5 : w3.frozen? ⟨(w0.heap.size + 1), 1, none⟩ = false := (hb3.frozen (p := ⟨(w0.heap.size + 1), 1, none⟩) (by first | omega | (simp <;> omega))).trans (by first | exact fc2_5 | simp [go_sem, fc2_5, l2_0a, l2_0b, l2_0c, l2_0d, l2_1a, l2_1b, l2_1c, l2_1d, l2_2a, l2_2b, l2_2c, l2_2d, l2_3a, l2_3b, l2_3c, l2_3d, n2_1_0, m2_1_0, n2_1_2, m2_1_2, n2_1_3, m2_1_3, n2_2_0, m2_2_0, n2_2_1, m2_2_1, n2_2_3, m2_2_3, n2_3_0, m2_3_0, n2_3_1, m2_3_1, n2_3_2, m2_3_2])
  have c3_6 : w3.cell? ⟨w1.heap.size, 0, none⟩ = some (.int .i64 b.1) := (hb3.cell (p := ⟨w1.heap.size, 0, none⟩) (by first | omega | (simp <;> omega))).trans (by first | exact c2_6 | simp [go_sem, c2_6, l2_0a, l2_0b, l2_0c, l2_0d, l2_1a, l2_1b, l2_1c, l2_1d, l2_2a, l2_2b, l2_2c, l2_2d, l2_3a, l2_3b, l2_3c, l2_3d, n2_1_0, m2_1_0, n2_1_2, m2_1_2, n2_1_3, m2_1_3, n2_2_0, m2_2_0, n2_2_1, m2_2_1, n2_2_3, m2_2_3, n2_3_0, m2_3_0, n2_3_1, m2_3_1, n2_3_2, m2_3_2])
  have fc3_6 : w3.frozen? ⟨w1.heap.size, 0, none⟩ = false := (hb3.frozen (p := ⟨w1.heap.size, 0, none⟩) (by first | omega | (simp <;> omega))).trans (by first | exact fc2_6 | simp [go_sem, fc2_6, l2_0a, l2_0b, l2_0c, l2_0d, l2_1a, l2_1b, l2_1c, l2_1d, l2_2a, l2_2b, l2_2c, l2_2d, l2_3a, l2_3b, l2_3c, l2_3d, n2_1_0, m2_1_0, n2_1_2, m2_1_2, n2_1_3, m2_1_3, n2_2_0, m2_2_0, n2_2_1, m2_2_1, n2_2_3, m2_2_3, n2_3_0, m2_3_0, n2_3_1, m2_3_1, n2_3_2, m2_3_2])
  have c3_7 : w3.cell? ⟨w1.heap.size, 1, none⟩ = some (.int .i64 n) := (hb3.cell (p := ⟨w1.heap.size, 1, none⟩) (by first | omega | (simp <;> omega))).trans (by first | exact c2_7 | simp [go_sem, c2_7, l2_0a, l2_0b, l2_0c, l2_0d, l2_1a, l2_1b, l2_1c, l2_1d, l2_2a, l2_2b, l2_2c, l2_2d, l2_3a, l2_3b, l2_3c, l2_3d, n2_1_0, m2_1_0, n2_1_2, m2_1_2, n2_1_3, m2_1_3, n2_2_0, m2_2_0, n2_2_1, m2_2_1, n2_2_3, m2_2_3, n2_3_0, m2_3_0, n2_3_1, m2_3_1, n2_3_2, m2_3_2])
  have fc3_7 : w3.frozen? ⟨w1.heap.size, 1, none⟩ = false := (hb3.frozen (p := ⟨w1.heap.size, 1, none⟩) (by first | omega | (simp <;> omega))).trans (by first | exact fc2_7 | simp [go_sem, fc2_7, l2_0a, l2_0b, l2_0c, l2_0d, l2_1a, l2_1b, l2_1c, l2_1d, l2_2a, l2_2b, l2_2c, l2_2d, l2_3a, l2_3b, l2_3c, l2_3d, n2_1_0, m2_1_0, n2_1_2, m2_1_2, n2_1_3, m2_1_3, n2_2_0, m2_2_0, n2_2_1, m2_2_1, n2_2_3, m2_2_3, n2_3_0, m2_3_0, n2_3_1, m2_3_1, n2_3_2, m2_3_2])
  have l3_0a : w.heap.size < w3.heap.size := World.block_lt_of_cell? w3 _ c3_0
  have l3_0b : w.heap.size < w3.heap.size + 1 := Nat.lt_succ_of_lt l3_0a
  have l3_0c : w.heap.size < w3.heap.size + 1 + 1 := Nat.lt_succ_of_lt l3_0b
  have l3_0d : w.heap.size < w3.heap.size + 1 + 1 + 1 := Nat.lt_succ_of_lt l3_0c
  have l3_1a : w0.heap.size < w3.heap.size := World.block_lt_of_cell? w3 _ c3_2
  have l3_1b : w0.heap.size < w3.heap.size + 1 := Nat.lt_succ_of_lt l3_1a
  have l3_1c : w0.heap.size < w3.heap.size + 1 + 1 := Nat.lt_succ_of_lt l3_1b
  have l3_1d : w0.heap.size < w3.heap.size + 1 + 1 + 1 := Nat.lt_succ_of_lt l3_1c
  have l3_2a : (w0.heap.size + 1) < w3.heap.size := World.block_lt_of_cell? w3 _ c3_4
  have l3_2b : (w0.heap.size + 1) < w3.heap.size + 1 := Nat.lt_succ_of_lt l3_2a
  have l3_2c : (w0.heap.size + 1) < w3.heap.size + 1 + 1 := Nat.lt_succ_of_lt l3_2b
  have l3_2d : (w0.heap.size + 1) < w3.heap.size + 1 + 1 + 1 := Nat.lt_succ_of_lt l3_2c
  have l3_3a : w1.heap.size < w3.heap.size := World.block_lt_of_cell? w3 _ c3_6
  have l3_3b : w1.heap.size < w3.heap.size + 1 := Nat.lt_succ_of_lt l3_3a
  have l3_3c : w1.heap.size < w3.heap.size + 1 + 1 := Nat.lt_succ_of_lt l3_3b
  have l3_3d : w1.heap.size < w3.heap.size + 1 + 1 + 1 := Nat.lt_succ_of_lt l3_3c
  have n3_1_0 : w0.heap.size ≠ w.heap.size := by omega
  have m3_1_0 : w.heap.size ≠ w0.heap.size := by omega
  have n3_1_2 : w0.heap.size ≠ (w0.heap.size + 1) := by omega
  have m3_1_2 : (w0.heap.size + 1) ≠ w0.heap.size := by omega
  have n3_1_3 : w0.heap.size ≠ w1.heap.size := by omega
  have m3_1_3 : w1.heap.size ≠ w0.heap.size := by omega
  have n3_2_0 : (w0.heap.size + 1) ≠ w.heap.size := by omega
  have m3_2_0 : w.heap.size ≠ (w0.heap.size + 1) := by omega
  have n3_2_1 : (w0.heap.size + 1) ≠ w0.heap.size := by omega
  have m3_2_1 : w0.heap.size ≠ (w0.heap.size + 1) := by omega
  have n3_2_3 : (w0.heap.size + 1) ≠ w1.heap.size := by omega
  have m3_2_3 : w1.heap.size ≠ (w0.heap.size + 1) := by omega
  have n3_3_0 : w1.heap.size ≠ w.heap.size := by omega
  have m3_3_0 : w.heap.size ≠ w1.heap.size := by omega
  have n3_3_1 : w1.heap.size ≠ w0.heap.size := by omega
  have m3_3_1 : w0.heap.size ≠ w1.heap.size := by omega
  have n3_3_2 : w1.heap.size ≠ (w0.heap.size + 1) := by omega
  have m3_3_2 : (w0.heap.size + 1) ≠ w1.heap.size := by omega
  have hkw0_3 : Below w0.heap.size w0 w3 := Below.trans (by first | exact hkw0_2 | ((repeat' (first | exact hkw0_2 | refine Below.setCell ?_ ?_ _ | refine Below.alloc ?_ ?_ _ | refine Below.drew ?_)) <;> (first | omega | (simp <;> omega)))) (hb3.mono (by first | omega | (simp <;> omega)))
  clear c2_0 c2_1 c2_2 c2_3 c2_4 c2_5 c2_6 c2_7 fc2_2 fc2_3 fc2_4 fc2_5 fc2_6 fc2_7 l2_0a l2_0b l2_0c l2_0d l2_1a l2_1b l2_1c l2_1d l2_2a l2_2b l2_2c l2_2d l2_3a l2_3b l2_3c l2_3d n2_1_0 m2_1_0 n2_1_2 m2_1_2 n2_1_3 m2_1_3 n2_2_0 m2_2_0 n2_2_1 m2_2_1 n2_2_3 m2_2_3 n2_3_0 m2_3_0 n2_3_1 m2_3_1 n2_3_2 m2_3_2 hkw0_2 hB2 hb3
  go_wp2_with fail
  refine (error_same 3 (by decide) _ (by exact HG.out.belowB (show Below w.heap.size w _ from (by first | exact hB3 | ((repeat' (first | exact hB3 | refine Below.setCell ?_ ?_ _ | refine Below.alloc ?_ ?_ _ | refine Below.drew ?_)) <;> (first | omega | (simp <;> omega))))) HG.out.lt)).mono ?_
  rintro e w4 ⟨rfl, hb4⟩
  have hB4 : Below w.heap.size w w4 := Below.trans (by first | exact hB3 | ((repeat' (first | exact hB3 | refine Below.setCell ?_ ?_ _ | refine Below.alloc ?_ ?_ _ | refine Below.drew ?_)) <;> (first | omega | (simp <;> omega)))) (hb4.mono (by first | omega | (simp <;> omega)))
  have hs4 : w.heap.size ≤ w4.heap.size := hB4.size
  have ht4 := hb4.size
  try simp only [World.size_alloc, World.size_setCell] at ht4
  have c4_0 : w4.cell? ⟨w.heap.size, 0, none⟩ = some (.int .i64 p.1) := (hb4.cell (p := ⟨w.heap.size, 0, none⟩) (by first | omega | (simp <;> omega))).trans (by first | exact c3_0 | simp [go_sem, c3_0, l3_0a, l3_0b, l3_0c, l3_0d, l3_1a, l3_1b, l3_1c, l3_1d, l3_2a, l3_2b, l3_2c, l3_2d, l3_3a, l3_3b, l3_3c, l3_3d, n3_1_0, m3_1_0, n3_1_2, m3_1_2, n3_1_3, m3_1_3, n3_2_0, m3_2_0, n3_2_1, m3_2_1, n3_2_3, m3_2_3, n3_3_0, m3_3_0, n3_3_1, m3_3_1, n3_3_2, m3_3_2])
  have c4_1 : w4.cell? ⟨w.heap.size, 1, none⟩ = some (.int .i64 p.2) := (hb4.cell (p := ⟨w.heap.size, 1, none⟩) (by first | omega | (simp <;> omega))).trans (by first | exact c3_1 | simp [go_sem, c3_1, l3_0a, l3_0b, l3_0c, l3_0d, l3_1a, l3_1b, l3_1c, l3_1d, l3_2a, l3_2b, l3_2c, l3_2d, l3_3a, l3_3b, l3_3c, l3_3d, n3_1_0, m3_1_0, n3_1_2, m3_1_2, n3_1_3, m3_1_3, n3_2_0, m3_2_0, n3_2_1, m3_2_1, n3_2_3, m3_2_3, n3_3_0, m3_3_0, n3_3_1, m3_3_1, n3_3_2, m3_3_2])
  have c4_2 : w4.cell? ⟨w0.heap.size, 0, none⟩ = some (.int .i64 b.1) := (hb4.cell (p := ⟨w0.heap.size, 0, none⟩) (by first | omega | (simp <;> omega))).trans (by first | exact c3_2 | simp [go_sem, c3_2, l3_0a, l3_0b, l3_0c, l3_0d, l3_1a, l3_1b, l3_1c, l3_1d, l3_2a, l3_2b, l3_2c, l3_2d, l3_3a, l3_3b, l3_3c, l3_3d, n3_1_0, m3_1_0, n3_1_2, m3_1_2, n3_1_3, m3_1_3, n3_2_0, m3_2_0, n3_2_1, m3_2_1, n3_2_3, m3_2_3, n3_3_0, m3_3_0, n3_3_1, m3_3_1, n3_3_2, m3_3_2])
  have fc4_2 : w4.frozen? ⟨w0.heap.size, 0, none⟩ = false := (hb4.frozen (p := ⟨w0.heap.size, 0, none⟩) (by first | omega | (simp <;> omega))).trans (by first | exact fc3_2 | simp [go_sem, fc3_2, l3_0a, l3_0b, l3_0c, l3_0d, l3_1a, l3_1b, l3_1c, l3_1d, l3_2a, l3_2b, l3_2c, l3_2d, l3_3a, l3_3b, l3_3c, l3_3d, n3_1_0, m3_1_0, n3_1_2, m3_1_2, n3_1_3, m3_1_3, n3_2_0, m3_2_0, n3_2_1, m3_2_1, n3_2_3, m3_2_3, n3_3_0, m3_3_0, n3_3_1, m3_3_1, n3_3_2, m3_3_2])
  have c4_3 : w4.cell? ⟨w0.heap.size, 1, none⟩ = some (.int .i64 n) := (hb4.cell (p := ⟨w0.heap.size, 1, none⟩) (by first | omega | (simp <;> omega))).trans (by first | exact c3_3 | simp [go_sem, c3_3, l3_0a, l3_0b, l3_0c, l3_0d, l3_1a, l3_1b, l3_1c, l3_1d, l3_2a, l3_2b, l3_2c, l3_2d, l3_3a, l3_3b, l3_3c, l3_3d, n3_1_0, m3_1_0, n3_1_2, m3_1_2, n3_1_3, m3_1_3, n3_2_0, m3_2_0, n3_2_1, m3_2_1, n3_2_3, m3_2_3, n3_3_0, m3_3_0, n3_3_1, m3_3_1, n3_3_2, m3_3_2])
  have fc4_3 : w4.frozen? ⟨w0.heap.size, 1, none⟩ = false := (hb4.frozen (p := ⟨w0.heap.size, 1, none⟩) (by first | omega | (simp <;> omega))).trans (by first | exact fc3_3 | simp [go_sem, fc3_3, l3_0a, l3_0b, l3_0c, l3_0d, l3_1a, l3_1b, l3_1c, l3_1d, l3_2a, l3_2b, l3_2c, l3_2d, l3_3a, l3_3b, l3_3c, l3_3d, n3_1_0, m3_1_0, n3_1_2, m3_1_2, n3_1_3, m3_1_3, n3_2_0, m3_2_0, n3_2_1, m3_2_1, n3_2_3, m3_2_3, n3_3_0, m3_3_0, n3_3_1, m3_3_1, n3_3_2, m3_3_2])
  have c4_4 : w4.cell? ⟨(w0.heap.size + 1), 0, none⟩ = some (.int .i64 0) := (hb4.cell (p := ⟨(w0.heap.size + 1), 0, none⟩) (by first | omega | (simp <;> omega))).trans (by first | exact c3_4 | simp [go_sem, c3_4, l3_0a, l3_0b, l3_0c, l3_0d, l3_1a, l3_1b, l3_1c, l3_1d, l3_2a, l3_2b, l3_2c, l3_2d, l3_3a, l3_3b, l3_3c, l3_3d, n3_1_0, m3_1_0, n3_1_2, m3_1_2, n3_1_3, m3_1_3, n3_2_0, m3_2_0, n3_2_1, m3_2_1, n3_2_3, m3_2_3, n3_3_0, m3_3_0, n3_3_1, m3_3_1, n3_3_2, m3_3_2])
  have fc4_4 : w4.frozen? ⟨(w0.heap.size + 1), 0, none⟩ = false := (hb4.frozen (p := ⟨(w0.heap.size + 1), 0, none⟩) (by first | omega | (simp <;> omega))).trans (by first | exact fc3_4 | simp [go_sem, fc3_4, l3_0a, l3_0b, l3_0c, l3_0d, l3_1a, l3_1b, l3_1c, l3_1d, l3_2a, l3_2b, l3_2c, l3_2d, l3_3a, l3_3b, l3_3c, l3_3d, n3_1_0, m3_1_0, n3_1_2, m3_1_2, n3_1_3, m3_1_3, n3_2_0, m3_2_0, n3_2_1, m3_2_1, n3_2_3, m3_2_3, n3_3_0, m3_3_0, n3_3_1, m3_3_1, n3_3_2, m3_3_2])
  have c4_5 : w4.cell? ⟨(w0.heap.size + 1), 1, none⟩ = some (.int .i64 0) := (hb4.cell (p := ⟨(w0.heap.size + 1), 1, none⟩) (by first | omega | (simp <;> omega))).trans (by first | exact c3_5 | simp [go_sem, c3_5, l3_0a, l3_0b, l3_0c, l3_0d, l3_1a, l3_1b, l3_1c, l3_1d, l3_2a, l3_2b, l3_2c, l3_2d, l3_3a, l3_3b, l3_3c, l3_3d, n3_1_0, m3_1_0, n3_1_2, m3_1_2, n3_1_3, m3_1_3, n3_2_0, m3_2_0, n3_2_1, m3_2_1, n3_2_3, m3_2_3, n3_3_0, m3_3_0, n3_3_1, m3_3_1, n3_3_2, m3_3_2])
  have fc4_5 : w4.frozen? ⟨(w0.heap.size + 1), 1, none⟩ = false := (hb4.frozen (p := ⟨(w0.heap.size + 1), 1, none⟩) (by first | omega | (simp <;> omega))).trans (by first | exact fc3_5 | simp [go_sem, fc3_5, l3_0a, l3_0b, l3_0c, l3_0d, l3_1a, l3_1b, l3_1c, l3_1d, l3_2a, l3_2b, l3_2c, l3_2d, l3_3a, l3_3b, l3_3c, l3_3d, n3_1_0, m3_1_0, n3_1_2, m3_1_2, n3_1_3, m3_1_3, n3_2_0, m3_2_0, n3_2_1, m3_2_1, n3_2_3, m3_2_3, n3_3_0, m3_3_0, n3_3_1, m3_3_1, n3_3_2, m3_3_2])
  have c4_6 : w4.cell? ⟨w1.heap.size, 0, none⟩ = some (.int .i64 0) := (hb4.cell (p := ⟨w1.heap.size, 0, none⟩) (by first | omega | (simp <;> omega))).trans (by first | (simp; done) | simp [go_sem, l3_0a, l3_0b, l3_0c, l3_0d, l3_1a, l3_1b, l3_1c, l3_1d, l3_2a, l3_2b, l3_2c, l3_2d, l3_3a, l3_3b, l3_3c, l3_3d, n3_1_0, m3_1_0, n3_1_2, m3_1_2, n3_1_3, m3_1_3, n3_2_0, m3_2_0, n3_2_1, m3_2_1, n3_2_3, m3_2_3, n3_3_0, m3_3_0, n3_3_1, m3_3_1, n3_3_2, m3_3_2, c3_0, c3_1, c3_2, c3_3, c3_4, c3_5, c3_6, c3_7, fc3_2, fc3_3, fc3_4, fc3_5, fc3_6, fc3_7])
  have fc4_6 : w4.frozen? ⟨w1.heap.size, 0, none⟩ = false := (hb4.frozen (p := ⟨w1.heap.size, 0, none⟩) (by first | omega | (simp <;> omega))).trans (by first | (simp; done) | simp [go_sem, l3_0a, l3_0b, l3_0c, l3_0d, l3_1a, l3_1b, l3_1c, l3_1d, l3_2a, l3_2b, l3_2c, l3_2d, l3_3a, l3_3b, l3_3c, l3_3d, n3_1_0, m3_1_0, n3_1_2, m3_1_2, n3_1_3, m3_1_3, n3_2_0, m3_2_0, n3_2_1, m3_2_1, n3_2_3, m3_2_3, n3_3_0, m3_3_0, n3_3_1, m3_3_1, n3_3_2, m3_3_2, c3_0, c3_1, c3_2, c3_3, c3_4, c3_5, c3_6, c3_7, fc3_2, fc3_3, fc3_4, fc3_5, fc3_6, fc3_7])
  have c4_7 : w4.cell? ⟨w1.heap.size, 1, none⟩ = some (.int .i64 0) := (hb4.cell (p := ⟨w1.heap.size, 1, none⟩) (by first | omega | (simp <;> omega))).trans (by first | (simp; done) | simp [go_sem, l3_0a, l3_0b, l3_0c, l3_0d, l3_1a, l3_1b, l3_1c, l3_1d, l3_2a, l3_2b, l3_2c, l3_2d, l3_3a, l3_3b, l3_3c, l3_3d, n3_1_0, m3_1_0, n3_1_2, m3_1_2, n3_1_3, m3_1_3, n3_2_0, m3_2_0, n3_2_1, m3_2_1, n3_2_3, m3_2_3, n3_3_0, m3_3_0, n3_3_1, m3_3_1, n3_3_2, m3_3_2, c3_0, c3_1, c3_2, c3_3, c3_4, c3_5, c3_6, c3_7, fc3_2, fc3_3, fc3_4, fc3_5, fc3_6, fc3_7])
  have fc4_7 : w4.frozen? ⟨w1.heap.size, 1, none⟩ = false := (hb4.frozen (p := ⟨w1.heap.size, 1, none⟩) (by first | omega | (simp <;> omega))).trans (by first | (simp; done) | simp [go_sem, l3_0a, l3_0b, l3_0c, l3_0d, l3_1a, l3_1b, l3_1c, l3_1d, l3_2a, l3_2b, l3_2c, l3_2d, l3_3a, l3_3b, l3_3c, l3_3d, n3_1_0, m3_1_0, n3_1_2, m3_1_2, n3_1_3, m3_1_3, n3_2_0, m3_2_0, n3_2_1, m3_2_1, n3_2_3, m3_2_3, n3_3_0, m3_3_0, n3_3_1, m3_3_1, n3_3_2, m3_3_2, c3_0, c3_1, c3_2, c3_3, c3_4, c3_5, c3_6, c3_7, fc3_2, fc3_3, fc3_4, fc3_5, fc3_6, fc3_7])
  have l4_0a : w.heap.size < w4.heap.size := World.block_lt_of_cell? w4 _ c4_0
  have l4_0b : w.heap.size < w4.heap.size + 1 := Nat.lt_succ_of_lt l4_0a
  have l4_0c : w.heap.size < w4.heap.size + 1 + 1 := Nat.lt_succ_of_lt l4_0b
  have l4_0d : w.heap.size < w4.heap.size + 1 + 1 + 1 := Nat.lt_succ_of_lt l4_0c
  have l4_1a : w0.heap.size < w4.heap.size := World.block_lt_of_cell? w4 _ c4_2
  have l4_1b : w0.heap.size < w4.heap.size + 1 := Nat.lt_succ_of_lt l4_1a
  have l4_1c : w0.heap.size < w4.heap.size + 1 + 1 := Nat.lt_succ_of_lt l4_1b
  have l4_1d : w0.heap.size < w4.heap.size + 1 + 1 + 1 := Nat.lt_succ_of_lt l4_1c
  have l4_2a : (w0.heap.size + 1) < w4.heap.size := World.block_lt_of_cell? w4 _ c4_4
  have l4_2b : (w0.heap.size + 1) < w4.heap.size + 1 := Nat.lt_succ_of_lt l4_2a
  have l4_2c : (w0.heap.size + 1) < w4.heap.size + 1 + 1 := Nat.lt_succ_of_lt l4_2b
  have l4_2d : (w0.heap.size + 1) < w4.heap.size + 1 + 1 + 1 := Nat.lt_succ_of_lt l4_2c
  have l4_3a : w1.heap.size < w4.heap.size := World.block_lt_of_cell? w4 _ c4_6
  have l4_3b : w1.heap.size < w4.heap.size + 1 := Nat.lt_succ_of_lt l4_3a
  have l4_3c : w1.heap.size < w4.heap.size + 1 + 1 := Nat.lt_succ_of_lt l4_3b
  have l4_3d : w1.heap.size < w4.heap.size + 1 + 1 + 1 := Nat.lt_succ_of_lt l4_3c
  have n4_1_0 : w0.heap.size ≠ w.heap.size := by omega
  have m4_1_0 : w.heap.size ≠ w0.heap.size := by omega
  have n4_1_2 : w0.heap.size ≠ (w0.heap.size + 1) := by omega
  have m4_1_2 : (w0.heap.size + 1) ≠ w0.heap.size := by omega
  have n4_1_3 : w0.heap.size ≠ w1.heap.size := by omega
  have m4_1_3 : w1.heap.size ≠ w0.heap.size := by omega
  have n4_2_0 : (w0.heap.size + 1) ≠ w.heap.size := by omega
  have m4_2_0 : w.heap.size ≠ (w0.heap.size + 1) := by omega
  have n4_2_1 : (w0.heap.size + 1) ≠ w0.heap.size := by omega
  have m4_2_1 : w0.heap.size ≠ (w0.heap.size + 1) := by omega
  have n4_2_3 : (w0.heap.size + 1) ≠ w1.heap.size := by omega
  have m4_2_3 : w1.heap.size ≠ (w0.heap.size + 1) := by omega
  have n4_3_0 : w1.heap.size ≠ w.heap.size := by omega
  have m4_3_0 : w.heap.size ≠ w1.heap.size := by omega
  have n4_3_1 : w1.heap.size ≠ w0.heap.size := by omega
  have m4_3_1 : w0.heap.size ≠ w1.heap.size := by omega
  have n4_3_2 : w1.heap.size ≠ (w0.heap.size + 1) := by omega
  have m4_3_2 : (w0.heap.size + 1) ≠ w1.heap.size := by omega
  have hkw0_4 : Below w0.heap.size w0 w4 := Below.trans (by first | exact hkw0_3 | ((repeat' (first | exact hkw0_3 | refine Below.setCell ?_ ?_ _ | refine Below.alloc ?_ ?_ _ | refine Below.drew ?_)) <;> (first | omega | (simp <;> omega)))) (hb4.mono (by first | omega | (simp <;> omega)))
  clear c3_0 c3_1 c3_2 c3_3 c3_4 c3_5 c3_6 c3_7 fc3_2 fc3_3 fc3_4 fc3_5 fc3_6 fc3_7 l3_0a l3_0b l3_0c l3_0d l3_1a l3_1b l3_1c l3_1d l3_2a l3_2b l3_2c l3_2d l3_3a l3_3b l3_3c l3_3d n3_1_0 m3_1_0 n3_1_2 m3_1_2 n3_1_3 m3_1_3 n3_2_0 m3_2_0 n3_2_1 m3_2_1 n3_2_3 m3_2_3 n3_3_0 m3_3_0 n3_3_1 m3_3_1 n3_3_2 m3_3_2 hkw0_3 hB3 hb4
  go_wp2_with fail
  go_ret
  exact ⟨rfl, (by first | exact hB4 | ((repeat' (first | exact hB4 | refine Below.setCell ?_ ?_ _ | refine Below.alloc ?_ ?_ _ | refine Below.drew ?_)) <;> (first | omega | (simp <;> omega))))⟩
set_option maxRecDepth 100000 in
set_option maxHeartbeats 8000000 in
theorem freeIs_6e (p : Pf) (A : Option Addr) (l : List Pf) (c : Nat) (n : Int) (hm : l.length ≤ maxLen) (w : World) (hg : ErrVar w) (ht : TabVar w) (hl : Rd w w.heap.size A (cellsP l)) (b : Pf) (r : List Pf) (j : Nat) (hj0 : j < (frB p l).length) (hv : greatFault p l n = 0) (hgr : greatL p l n = b :: r) (hbf : bestFault p l n = 0) (hbest : bestGo none (greatL p l n) = some (frB p l)[j]) (s0 : Act) (w0 : World) (h0 : FI5 p A l c n w 0 0 j b.1 true s0 w0) :
    (tailN 7 (tailN 2 (tailN 2 (tailN 8 (tailN 9 (Tryd.f5.body.getD .skip)))))).wp Tryd.prog (bodyPost Tryd.prog Tryd.f5 fun e w' => e = .returned (.bool true) ∧ Below w.heap.size w w') s0 w0 := by
  have HG := Lib.hid hg
  have HT := Lib.hid ht
  clear hg ht
  have HBE := Lib.hid hbest
  have hjn : decide ((j : Int) < 0) = false := by simp
  clear hbest
  have HV := Lib.hid hv
  have HGR := Lib.hid hgr
  have HBF := Lib.hid hbf
  clear hv hgr hbf
  obtain ⟨U, AB, cB, BL, rfl, hBL, hrB, hB0, c0_0, c0_1⟩ := h0
  have hj : j < BL.length := by rw [hBL]; exact hj0
  have HBG := Lib.hid (show bestGo none (greatL p l n) = some BL[j] by subst hBL; exact HBE.out)
  have HBL := Lib.hid hBL
  clear hBL HBE hj0
  dsimp only [Tryd.f5, Option.getD, tailN]
  have hs0 := hB0.size
  have l0_0a : w.heap.size < w0.heap.size := World.block_lt_of_cell? w0 _ c0_0
  have l0_0b : w.heap.size < w0.heap.size + 1 := Nat.lt_succ_of_lt l0_0a
  have l0_0c : w.heap.size < w0.heap.size + 1 + 1 := Nat.lt_succ_of_lt l0_0b
  have l0_0d : w.heap.size < w0.heap.size + 1 + 1 + 1 := Nat.lt_succ_of_lt l0_0c
  go_wp2_with fail
  refine (first_ok p A l c n b r hm HV.out HGR.out _ (by exact HT.out.belowB (show Below w.heap.size w _ from (by first | exact hB0 | ((repeat' (first | exact hB0 | refine Below.setCell ?_ ?_ _ | refine Below.alloc ?_ ?_ _ | refine Below.drew ?_)) <;> (first | omega | (simp <;> omega))))) HT.out.lt) ((hl.below (show Below w.heap.size w _ from (by first | exact hB0 | ((repeat' (first | exact hB0 | refine Below.setCell ?_ ?_ _ | refine Below.alloc ?_ ?_ _ | refine Below.drew ?_)) <;> (first | omega | (simp <;> omega)))))).more (show w.heap.size ≤ _ from by first | omega | (simp <;> omega)))).mono ?_
  rintro e w1 ⟨rfl, hb1⟩
  have hB1 : Below w.heap.size w w1 := Below.trans (by first | exact hB0 | ((repeat' (first | exact hB0 | refine Below.setCell ?_ ?_ _ | refine Below.alloc ?_ ?_ _ | refine Below.drew ?_)) <;> (first | omega | (simp <;> omega)))) (hb1.mono (by first | omega | (simp <;> omega)))
  have hs1 : w.heap.size ≤ w1.heap.size := hB1.size
  have ht1 := hb1.size
  try simp only [World.size_alloc, World.size_setCell] at ht1
  have c1_0 : w1.cell? ⟨w.heap.size, 0, none⟩ = some (.int .i64 p.1) := (hb1.cell (p := ⟨w.heap.size, 0, none⟩) (by first | omega | (simp <;> omega))).trans (by first | exact c0_0 | simp [go_sem, c0_0, l0_0a, l0_0b, l0_0c, l0_0d])
  have c1_1 : w1.cell? ⟨w.heap.size, 1, none⟩ = some (.int .i64 p.2) := (hb1.cell (p := ⟨w.heap.size, 1, none⟩) (by first | omega | (simp <;> omega))).trans (by first | exact c0_1 | simp [go_sem, c0_1, l0_0a, l0_0b, l0_0c, l0_0d])
  have c1_2 : w1.cell? ⟨w0.heap.size, 0, none⟩ = some (.int .i64 b.1) := (hb1.cell (p := ⟨w0.heap.size, 0, none⟩) (by first | omega | (simp <;> omega))).trans (by first | (simp; done) | simp [go_sem, l0_0a, l0_0b, l0_0c, l0_0d, c0_0, c0_1])
  have fc1_2 : w1.frozen? ⟨w0.heap.size, 0, none⟩ = false := (hb1.frozen (p := ⟨w0.heap.size, 0, none⟩) (by first | omega | (simp <;> omega))).trans (by first | (simp; done) | simp [go_sem, l0_0a, l0_0b, l0_0c, l0_0d, c0_0, c0_1])
  have c1_3 : w1.cell? ⟨w0.heap.size, 1, none⟩ = some (.int .i64 n) := (hb1.cell (p := ⟨w0.heap.size, 1, none⟩) (by first | omega | (simp <;> omega))).trans (by first | (simp; done) | simp [go_sem, l0_0a, l0_0b, l0_0c, l0_0d, c0_0, c0_1])
  have fc1_3 : w1.frozen? ⟨w0.heap.size, 1, none⟩ = false := (hb1.frozen (p := ⟨w0.heap.size, 1, none⟩) (by first | omega | (simp <;> omega))).trans (by first | (simp; done) | simp [go_sem, l0_0a, l0_0b, l0_0c, l0_0d, c0_0, c0_1])
  have c1_4 : w1.cell? ⟨(w0.heap.size + 1), 0, none⟩ = some (.int .i64 0) := (hb1.cell (p := ⟨(w0.heap.size + 1), 0, none⟩) (by first | omega | (simp <;> omega))).trans (by first | (simp; done) | simp [go_sem, l0_0a, l0_0b, l0_0c, l0_0d, c0_0, c0_1])
  have fc1_4 : w1.frozen? ⟨(w0.heap.size + 1), 0, none⟩ = false := (hb1.frozen (p := ⟨(w0.heap.size + 1), 0, none⟩) (by first | omega | (simp <;> omega))).trans (by first | (simp; done) | simp [go_sem, l0_0a, l0_0b, l0_0c, l0_0d, c0_0, c0_1])
  have c1_5 : w1.cell? ⟨(w0.heap.size + 1), 1, none⟩ = some (.int .i64 0) := (hb1.cell (p := ⟨(w0.heap.size + 1), 1, none⟩) (by first | omega | (simp <;> omega))).trans (by first | (simp; done) | simp [go_sem, l0_0a, l0_0b, l0_0c, l0_0d, c0_0, c0_1])
  have fc1_5 : w1.frozen? ⟨(w0.heap.size + 1), 1, none⟩ = false := (hb1.frozen (p := ⟨(w0.heap.size + 1), 1, none⟩) (by first | omega | (simp <;> omega))).trans (by first | (simp; done) | simp [go_sem, l0_0a, l0_0b, l0_0c, l0_0d, c0_0, c0_1])
  have l1_0a : w.heap.size < w1.heap.size := World.block_lt_of_cell? w1 _ c1_0
  have l1_0b : w.heap.size < w1.heap.size + 1 := Nat.lt_succ_of_lt l1_0a
  have l1_0c : w.heap.size < w1.heap.size + 1 + 1 := Nat.lt_succ_of_lt l1_0b
  have l1_0d : w.heap.size < w1.heap.size + 1 + 1 + 1 := Nat.lt_succ_of_lt l1_0c
  have l1_1a : w0.heap.size < w1.heap.size := World.block_lt_of_cell? w1 _ c1_2
  have l1_1b : w0.heap.size < w1.heap.size + 1 := Nat.lt_succ_of_lt l1_1a
  have l1_1c : w0.heap.size < w1.heap.size + 1 + 1 := Nat.lt_succ_of_lt l1_1b
  have l1_1d : w0.heap.size < w1.heap.size + 1 + 1 + 1 := Nat.lt_succ_of_lt l1_1c
  have l1_2a : (w0.heap.size + 1) < w1.heap.size := World.block_lt_of_cell? w1 _ c1_4
  have l1_2b : (w0.heap.size + 1) < w1.heap.size + 1 := Nat.lt_succ_of_lt l1_2a
  have l1_2c : (w0.heap.size + 1) < w1.heap.size + 1 + 1 := Nat.lt_succ_of_lt l1_2b
  have l1_2d : (w0.heap.size + 1) < w1.heap.size + 1 + 1 + 1 := Nat.lt_succ_of_lt l1_2c
  have n1_1_0 : w0.heap.size ≠ w.heap.size := by omega
  have m1_1_0 : w.heap.size ≠ w0.heap.size := by omega
  have n1_1_2 : w0.heap.size ≠ (w0.heap.size + 1) := by omega
  have m1_1_2 : (w0.heap.size + 1) ≠ w0.heap.size := by omega
  have n1_2_0 : (w0.heap.size + 1) ≠ w.heap.size := by omega
  have m1_2_0 : w.heap.size ≠ (w0.heap.size + 1) := by omega
  have n1_2_1 : (w0.heap.size + 1) ≠ w0.heap.size := by omega
  have m1_2_1 : w0.heap.size ≠ (w0.heap.size + 1) := by omega
  have hkw0_1 : Below w0.heap.size w0 w1 := Below.trans (by first | exact Below.refl _ _ | ((repeat' (first | exact Below.refl _ _ | refine Below.setCell ?_ ?_ _ | refine Below.alloc ?_ ?_ _ | refine Below.drew ?_)) <;> (first | omega | (simp <;> omega)))) (hb1.mono (by first | omega | (simp <;> omega)))
  clear c0_0 c0_1 l0_0a l0_0b l0_0c l0_0d hB0 hb1
  go_wp2_with fail
  refine (error_nil0 _ (by exact HG.out.belowB (show Below w.heap.size w _ from (by first | exact hB1 | ((repeat' (first | exact hB1 | refine Below.setCell ?_ ?_ _ | refine Below.alloc ?_ ?_ _ | refine Below.drew ?_)) <;> (first | omega | (simp <;> omega))))) HG.out.lt)).mono ?_
  rintro e w2 ⟨rfl, hb2⟩
  have hB2 : Below w.heap.size w w2 := Below.trans (by first | exact hB1 | ((repeat' (first | exact hB1 | refine Below.setCell ?_ ?_ _ | refine Below.alloc ?_ ?_ _ | refine Below.drew ?_)) <;> (first | omega | (simp <;> omega)))) (hb2.mono (by first | omega | (simp <;> omega)))
  have hs2 : w.heap.size ≤ w2.heap.size := hB2.size
  have ht2 := hb2.size
  try simp only [World.size_alloc, World.size_setCell] at ht2
  have c2_0 : w2.cell? ⟨w.heap.size, 0, none⟩ = some (.int .i64 p.1) := (hb2.cell (p := ⟨w.heap.size, 0, none⟩) (by first | omega | (simp <;> omega))).trans (by first | exact c1_0 | simp [go_sem, c1_0, l1_0a, l1_0b, l1_0c, l1_0d, l1_1a, l1_1b, l1_1c, l1_1d, l1_2a, l1_2b, l1_2c, l1_2d, n1_1_0, m1_1_0, n1_1_2, m1_1_2, n1_2_0, m1_2_0, n1_2_1, m1_2_1])
  have c2_1 : w2.cell? ⟨w.heap.size, 1, none⟩ = some (.int .i64 p.2) := (hb2.cell (p := ⟨w.heap.size, 1, none⟩) (by first | omega | (simp <;> omega))).trans (by first | exact c1_1 | simp [go_sem, c1_1, l1_0a, l1_0b, l1_0c, l1_0d, l1_1a, l1_1b, l1_1c, l1_1d, l1_2a, l1_2b, l1_2c, l1_2d, n1_1_0, m1_1_0, n1_1_2, m1_1_2, n1_2_0, m1_2_0, n1_2_1, m1_2_1])
  have c2_2 : w2.cell? ⟨w0.heap.size, 0, none⟩ = some (.int .i64 b.1) := (hb2.cell (p := ⟨w0.heap.size, 0, none⟩) (by first | omega | (simp <;> omega))).trans (by first | exact c1_2 | simp [go_sem, c1_2, l1_0a, l1_0b, l1_0c, l1_0d, l1_1a, l1_1b, l1_1c, l1_1d, l1_2a, l1_2b, l1_2c, l1_2d, n1_1_0, m1_1_0, n1_1_2, m1_1_2, n1_2_0, m1_2_0, n1_2_1, m1_2_1])
  have fc2_2 : w2.frozen? ⟨w0.heap.size, 0, none⟩ = false := (hb2.frozen (p := ⟨w0.heap.size, 0, none⟩) (by first | omega | (simp <;> omega))).trans (by first | exact fc1_2 | simp [go_sem, fc1_2, l1_0a, l1_0b, l1_0c, l1_0d, l1_1a, l1_1b, l1_1c, l1_1d, l1_2a, l1_2b, l1_2c, l1_2d, n1_1_0, m1_1_0, n1_1_2, m1_1_2, n1_2_0, m1_2_0, n1_2_1, m1_2_1])
  have c2_3 : w2.cell? ⟨w0.heap.size, 1, none⟩ = some (.int .i64 n) := (hb2.cell (p := ⟨w0.heap.size, 1, none⟩) (by first | omega | (simp <;> omega))).trans (by first | exact c1_3 | simp [go_sem, c1_3, l1_0a, l1_0b, l1_0c, l1_0d, l1_1a, l1_1b, l1_1c, l1_1d, l1_2a, l1_2b, l1_2c, l1_2d, n1_1_0, m1_1_0, n1_1_2, m1_1_2, n1_2_0, m1_2_0, n1_2_1, m1_2_1])
  have fc2_3 : w2.frozen? ⟨w0.heap.size, 1, none⟩ = false := (hb2.frozen (p := ⟨w0.heap.size, 1, none⟩) (by first | omega | (simp <;> omega))).trans (by first | exact fc1_3 | simp [go_sem, fc1_3, l1_0a, l1_0b, l1_0c, l1_0d, l1_1a, l1_1b, l1_1c, l1_1d, l1_2a, l1_2b, l1_2c, l1_2d, n1_1_0, m1_1_0, n1_1_2, m1_1_2, n1_2_0, m1_2_0, n1_2_1, m1_2_1])
  have c2_4 : w2.cell? ⟨(w0.heap.size + 1), 0, none⟩ = some (.int .i64 0) := (hb2.cell (p := ⟨(w0.heap.size + 1), 0, none⟩) (by first | omega | (simp <;> omega))).trans (by first | exact c1_4 | simp [go_sem, c1_4, l1_0a, l1_0b, l1_0c, l1_0d, l1_1a, l1_1b, l1_1c, l1_1d, l1_2a, l1_2b, l1_2c, l1_2d, n1_1_0, m1_1_0, n1_1_2, m1_1_2, n1_2_0, m1_2_0, n1_2_1, m1_2_1])
  have fc2_4 : w2.frozen? ⟨(w0.heap.size + 1), 0, none⟩ = false := (hb2.frozen (p := ⟨(w0.heap.size + 1), 0, none⟩) (by first | omega | (simp <;> omega))).trans (by first | exact fc1_4 | simp [go_sem, fc1_4, l1_0a, l1_0b, l1_0c, l1_0d, l1_1a, l1_1b, l1_1c, l1_1d, l1_2a, l1_2b, l1_2c, l1_2d, n1_1_0, m1_1_0, n1_1_2, m1_1_2, n1_2_0, m1_2_0, n1_2_1, m1_2_1])
  have c2_5 : w2.cell? ⟨(w0.heap.size + 1), 1, none⟩ = some (.int .i64 0) := (hb2.cell (p := ⟨(w0.heap.size + 1), 1, none⟩) (by first | omega | (simp <;> omega))).trans (by first | exact c1_5 | simp [go_sem, c1_5, l1_0a, l1_0b, l1_0c, l1_0d, l1_1a, l1_1b, l1_1c, l1_1d, l1_2a, l1_2b, l1_2c, l1_2d, n1_1_0, m1_1_0, n1_1_2, m1_1_2, n1_2_0, m1_2_0, n1_2_1, m1_2_1])
  have fc2_5 : w2.frozen? ⟨(w0.heap.size + 1), 1, none⟩ = false := (hb2.frozen (p := ⟨(w0.heap.size + 1), 1, none⟩) (by first | omega | (simp <;> omega))).trans (by first | exact fc1_5 | simp [go_sem, fc1_5, l1_0a, l1_0b, l1_0c, l1_0d, l1_1a, l1_1b, l1_1c, l1_1d, l1_2a, l1_2b, l1_2c, l1_2d, n1_1_0, m1_1_0, n1_1_2, m1_1_2, n1_2_0, m1_2_0, n1_2_1, m1_2_1])
  have c2_6 : w2.cell? ⟨w1.heap.size, 0, none⟩ = some (.int .i64 b.1) := (hb2.cell (p := ⟨w1.heap.size, 0, none⟩) (by first | omega | (simp <;> omega))).trans (by first | (simp; done) | simp [go_sem, l1_0a, l1_0b, l1_0c, l1_0d, l1_1a, l1_1b, l1_1c, l1_1d, l1_2a, l1_2b, l1_2c, l1_2d, n1_1_0, m1_1_0, n1_1_2, m1_1_2, n1_2_0, m1_2_0, n1_2_1, m1_2_1, c1_0, c1_1, c1_2, c1_3, c1_4, c1_5, fc1_2, fc1_3, fc1_4, fc1_5])
  have fc2_6 : w2.frozen? ⟨w1.heap.size, 0, none⟩ = false := (hb2.frozen (p := ⟨w1.heap.size, 0, none⟩) (by first | omega | (simp <;> omega))).trans (by first | (simp; done) | simp [go_sem, l1_0a, l1_0b, l1_0c, l1_0d, l1_1a, l1_1b, l1_1c, l1_1d, l1_2a, l1_2b, l1_2c, l1_2d, n1_1_0, m1_1_0, n1_1_2, m1_1_2, n1_2_0, m1_2_0, n1_2_1, m1_2_1, c1_0, c1_1, c1_2, c1_3, c1_4, c1_5, fc1_2, fc1_3, fc1_4, fc1_5])
  have c2_7 : w2.cell? ⟨w1.heap.size, 1, none⟩ = some (.int .i64 n) := (hb2.cell (p := ⟨w1.heap.size, 1, none⟩) (by first | omega | (simp <;> omega))).trans (by first | (simp; done) | simp [go_sem, l1_0a, l1_0b, l1_0c, l1_0d, l1_1a, l1_1b, l1_1c, l1_1d, l1_2a, l1_2b, l1_2c, l1_2d, n1_1_0, m1_1_0, n1_1_2, m1_1_2, n1_2_0, m1_2_0, n1_2_1, m1_2_1, c1_0, c1_1, c1_2, c1_3, c1_4, c1_5, fc1_2, fc1_3, fc1_4, fc1_5])
  have fc2_7 : w2.frozen? ⟨w1.heap.size, 1, none⟩ = false := (hb2.frozen (p := ⟨w1.heap.size, 1, none⟩) (by first | omega | (simp <;> omega))).trans (by first | (simp; done) | simp [go_sem, l1_0a, l1_0b, l1_0c, l1_0d, l1_1a, l1_1b, l1_1c, l1_1d, l1_2a, l1_2b, l1_2c, l1_2d, n1_1_0, m1_1_0, n1_1_2, m1_1_2, n1_2_0, m1_2_0, n1_2_1, m1_2_1, c1_0, c1_1, c1_2, c1_3, c1_4, c1_5, fc1_2, fc1_3, fc1_4, fc1_5])
  have l2_0a : w.heap.size < w2.heap.size := World.block_lt_of_cell? w2 _ c2_0
  have l2_0b : w.heap.size < w2.heap.size + 1 := Nat.lt_succ_of_lt l2_0a
  have l2_0c : w.heap.size < w2.heap.size + 1 + 1 := Nat.lt_succ_of_lt l2_0b
  have l2_0d : w.heap.size < w2.heap.size + 1 + 1 + 1 := Nat.lt_succ_of_lt l2_0c
  have l2_1a : w0.heap.size < w2.heap.size := World.block_lt_of_cell? w2 _ c2_2
  have l2_1b : w0.heap.size < w2.heap.size + 1 := Nat.lt_succ_of_lt l2_1a
  have l2_1c : w0.heap.size < w2.heap.size + 1 + 1 := Nat.lt_succ_of_lt l2_1b
  have l2_1d : w0.heap.size < w2.heap.size + 1 + 1 + 1 := Nat.lt_succ_of_lt l2_1c
  have l2_2a : (w0.heap.size + 1) < w2.heap.size := World.block_lt_of_cell? w2 _ c2_4
  have l2_2b : (w0.heap.size + 1) < w2.heap.size + 1 := Nat.lt_succ_of_lt l2_2a
  have l2_2c : (w0.heap.size + 1) < w2.heap.size + 1 + 1 := Nat.lt_succ_of_lt l2_2b
  have l2_2d : (w0.heap.size + 1) < w2.heap.size + 1 + 1 + 1 := Nat.lt_succ_of_lt l2_2c
  have l2_3a : w1.heap.size < w2.heap.size := World.block_lt_of_cell? w2 _ c2_6
  have l2_3b : w1.heap.size < w2.heap.size + 1 := Nat.lt_succ_of_lt l2_3a
  have l2_3c : w1.heap.size < w2.heap.size + 1 + 1 := Nat.lt_succ_of_lt l2_3b
  have l2_3d : w1.heap.size < w2.heap.size + 1 + 1 + 1 := Nat.lt_succ_of_lt l2_3c
  have n2_1_0 : w0.heap.size ≠ w.heap.size := by omega
  have m2_1_0 : w.heap.size ≠ w0.heap.size := by omega
  have n2_1_2 : w0.heap.size ≠ (w0.heap.size + 1) := by omega
  have m2_1_2 : (w0.heap.size + 1) ≠ w0.heap.size := by omega
  have n2_1_3 : w0.heap.size ≠ w1.heap.size := by omega
  have m2_1_3 : w1.heap.size ≠ w0.heap.size := by omega
  have n2_2_0 : (w0.heap.size + 1) ≠ w.heap.size := by omega
  have m2_2_0 : w.heap.size ≠ (w0.heap.size + 1) := by omega
  have n2_2_1 : (w0.heap.size + 1) ≠ w0.heap.size := by omega
  have m2_2_1 : w0.heap.size ≠ (w0.heap.size + 1) := by omega
  have n2_2_3 : (w0.heap.size + 1) ≠ w1.heap.size := by omega
  have m2_2_3 : w1.heap.size ≠ (w0.heap.size + 1) := by omega
  have n2_3_0 : w1.heap.size ≠ w.heap.size := by omega
  have m2_3_0 : w.heap.size ≠ w1.heap.size := by omega
  have n2_3_1 : w1.heap.size ≠ w0.heap.size := by omega
  have m2_3_1 : w0.heap.size ≠ w1.heap.size := by omega
  have n2_3_2 : w1.heap.size ≠ (w0.heap.size + 1) := by omega
  have m2_3_2 : (w0.heap.size + 1) ≠ w1.heap.size := by omega
  have hkw0_2 : Below w0.heap.size w0 w2 := Below.trans (by first | exact hkw0_1 | ((repeat' (first | exact hkw0_1 | refine Below.setCell ?_ ?_ _ | refine Below.alloc ?_ ?_ _ | refine Below.drew ?_)) <;> (first | omega | (simp <;> omega)))) (hb2.mono (by first | omega | (simp <;> omega)))
  clear c1_0 c1_1 c1_2 c1_3 c1_4 c1_5 fc1_2 fc1_3 fc1_4 fc1_5 l1_0a l1_0b l1_0c l1_0d l1_1a l1_1b l1_1c l1_1d l1_2a l1_2b l1_2c l1_2d n1_1_0 m1_1_0 n1_1_2 m1_1_2 n1_2_0 m1_2_0 n1_2_1 m1_2_1 hkw0_1 hB1 hb2
  obtain ⟨b9, off9, rfl, hbb9, g0, g1⟩ := (hrB.below (show Below w0.heap.size w0 w2 from hkw0_2)).pair hj
  go_wp2_with fail
  refine (best_good p A l c n BL[j] HBF.out HBG.out hm _ (by exact HT.out.belowB (show Below w.heap.size w _ from (by first | exact hB2 | ((repeat' (first | exact hB2 | refine Below.setCell ?_ ?_ _ | refine Below.alloc ?_ ?_ _ | refine Below.drew ?_)) <;> (first | omega | (simp <;> omega))))) HT.out.lt) ((hl.below (show Below w.heap.size w _ from (by first | exact hB2 | ((repeat' (first | exact hB2 | refine Below.setCell ?_ ?_ _ | refine Below.alloc ?_ ?_ _ | refine Below.drew ?_)) <;> (first | omega | (simp <;> omega)))))).more (show w.heap.size ≤ _ from by first | omega | (simp <;> omega)))).mono ?_
  rintro e w3 ⟨rfl, hb3⟩
  have hB3 : Below w.heap.size w w3 := Below.trans (by first | exact hB2 | ((repeat' (first | exact hB2 | refine Below.setCell ?_ ?_ _ | refine Below.alloc ?_ ?_ _ | refine Below.drew ?_)) <;> (first | omega | (simp <;> omega)))) (hb3.mono (by first | omega | (simp <;> omega)))
  have hs3 : w.heap.size ≤ w3.heap.size := hB3.size
  have ht3 := hb3.size
  try simp only [World.size_alloc, World.size_setCell] at ht3
  have c3_0 : w3.cell? ⟨w.heap.size, 0, none⟩ = some (.int .i64 p.1) := (hb3.cell (p := ⟨w.heap.size, 0, none⟩) (by first | omega | (simp <;> omega))).trans (by first | exact c2_0 | simp [go_sem, c2_0, l2_0a, l2_0b, l2_0c, l2_0d, l2_1a, l2_1b, l2_1c, l2_1d, l2_2a, l2_2b, l2_2c, l2_2d, l2_3a, l2_3b, l2_3c, l2_3d, n2_1_0, m2_1_0, n2_1_2, m2_1_2, n2_1_3, m2_1_3, n2_2_0, m2_2_0, n2_2_1, m2_2_1, n2_2_3, m2_2_3, n2_3_0, m2_3_0, n2_3_1, m2_3_1, n2_3_2, m2_3_2])
  have c3_1 : w3.cell? ⟨w.heap.size, 1, none⟩ = some (.int .i64 p.2) := (hb3.cell (p := ⟨w.heap.size, 1, none⟩) (by first | omega | (simp <;> omega))).trans (by first | exact c2_1 | simp [go_sem, c2_1, l2_0a, l2_0b, l2_0c, l2_0d, l2_1a, l2_1b, l2_1c, l2_1d, l2_2a, l2_2b, l2_2c, l2_2d, l2_3a, l2_3b, l2_3c, l2_3d, n2_1_0, m2_1_0, n2_1_2, m2_1_2, n2_1_3, m2_1_3, n2_2_0, m2_2_0, n2_2_1, m2_2_1, n2_2_3, m2_2_3, n2_3_0, m2_3_0, n2_3_1, m2_3_1, n2_3_2, m2_3_2])
  have c3_2 : w3.cell? ⟨w0.heap.size, 0, none⟩ = some (.int .i64 b.1) := (hb3.cell (p := ⟨w0.heap.size, 0, none⟩) (by first | omega | (simp <;> omega))).trans (by first | exact c2_2 | simp [go_sem, c2_2, l2_0a, l2_0b, l2_0c, l2_0d, l2_1a, l2_1b, l2_1c, l2_1d, l2_2a, l2_2b, l2_2c, l2_2d, l2_3a, l2_3b, l2_3c, l2_3d, n2_1_0, m2_1_0, n2_1_2, m2_1_2, n2_1_3, m2_1_3, n2_2_0, m2_2_0, n2_2_1, m2_2_1, n2_2_3, m2_2_3, n2_3_0, m2_3_0, n2_3_1, m2_3_1, n2_3_2, m2_3_2])
  have fc3_2 : w3.frozen? ⟨w0.heap.size, 0, none⟩ = false := (hb3.frozen (p := ⟨w0.heap.size, 0, none⟩) (by first | omega | (simp <;> omega))).trans (by first | exact fc2_2 | simp [go_sem, fc2_2, l2_0a, l2_0b, l2_0c, l2_0d, l2_1a, l2_1b, l2_1c, l2_1d, l2_2a, l2_2b, l2_2c, l2_2d, l2_3a, l2_3b, l2_3c, l2_3d, n2_1_0, m2_1_0, n2_1_2, m2_1_2, n2_1_3, m2_1_3, n2_2_0, m2_2_0, n2_2_1, m2_2_1, n2_2_3, m2_2_3, n2_3_0, m2_3_0, n2_3_1, m2_3_1, n2_3_2, m2_3_2])
  have c3_3 : w3.cell? ⟨w0.heap.size, 1, none⟩ = some (.int .i64 n) := (hb3.cell (p := ⟨w0.heap.size, 1, none⟩) (by first | omega | (simp <;> omega))).trans (by first | exact c2_3 | simp [go_sem, c2_3, l2_0a, l2_0b, l2_0c, l2_0d, l2_1a, l2_1b, l2_1c, l2_1d, l2_2a, l2_2b, l2_2c, l2_2d, l2_3a, l2_3b, l2_3c, l2_3d, n2_1_0, m2_1_0, n2_1_2, m2_1_2, n2_1_3, m2_1_3, n2_2_0, m2_2_0, n2_2_1, m2_2_1, n2_2_3, m2_2_3, n2_3_0, m2_3_0, n2_3_1, m2_3_1, n2_3_2, m2_3_2])
  have fc3_3 : w3.frozen? ⟨w0.heap.size, 1, none⟩ = false := (hb3.frozen (p := ⟨w0.heap.size, 1, none⟩) (by first | omega | (simp <;> omega))).trans (by first | exact fc2_3 | simp [go_sem, fc2_3, l2_0a, l2_0b, l2_0c, l2_0d, l2_1a, l2_1b, l2_1c, l2_1d, l2_2a, l2_2b, l2_2c, l2_2d, l2_3a, l2_3b, l2_3c, l2_3d, n2_1_0, m2_1_0, n2_1_2, m2_1_2, n2_1_3, m2_1_3, n2_2_0, m2_2_0, n2_2_1, m2_2_1, n2_2_3, m2_2_3, n2_3_0, m2_3_0, n2_3_1, m2_3_1, n2_3_2, m2_3_2])
  have c3_4 : w3.cell? ⟨w1.heap.size, 0, none⟩ = some (.int .i64 b.1) := (hb3.cell (p := ⟨w1.heap.size, 0, none⟩) (by first | omega | (simp <;> omega))).trans (by first | exact c2_6 | simp [go_sem, c2_6, l2_0a, l2_0b, l2_0c, l2_0d, l2_1a, l2_1b, l2_1c, l2_1d, l2_2a, l2_2b, l2_2c, l2_2d, l2_3a, l2_3b, l2_3c, l2_3d, n2_1_0, m2_1_0, n2_1_2, m2_1_2, n2_1_3, m2_1_3, n2_2_0, m2_2_0, n2_2_1, m2_2_1, n2_2_3, m2_2_3, n2_3_0, m2_3_0, n2_3_1, m2_3_1, n2_3_2, m2_3_2])
  have fc3_4 : w3.frozen? ⟨w1.heap.size, 0, none⟩ = false := (hb3.frozen (p := ⟨w1.heap.size, 0, none⟩) (by first | omega | (simp <;> omega))).trans (by first | exact fc2_6 | simp [go_sem, fc2_6, l2_0a, l2_0b, l2_0c, l2_0d, l2_1a, l2_1b, l2_1c, l2_1d, l2_2a, l2_2b, l2_2c, l2_2d, l2_3a, l2_3b, l2_3c, l2_3d, n2_1_0, m2_1_0, n2_1_2, m2_1_2, n2_1_3, m2_1_3, n2_2_0, m2_2_0, n2_2_1, m2_2_1, n2_2_3, m2_2_3, n2_3_0, m2_3_0, n2_3_1, m2_3_1, n2_3_2, m2_3_2])
  have c3_5 : w3.cell? ⟨w1.heap.size, 1, none⟩ = some (.int .i64 n) := (hb3.cell (p := ⟨w1.heap.size, 1, none⟩) (by first | omega | (simp <;> omega))).trans (by first | exact c2_7 | simp [go_sem, c2_7, l2_0a, l2_0b, l2_0c, l2_0d, l2_1a, l2_1b, l2_1c, l2_1d, l2_2a, l2_2b, l2_2c, l2_2d, l2_3a, l2_3b, l2_3c, l2_3d, n2_1_0, m2_1_0, n2_1_2, m2_1_2, n2_1_3, m2_1_3, n2_2_0, m2_2_0, n2_2_1, m2_2_1, n2_2_3, m2_2_3, n2_3_0, m2_3_0, n2_3_1, m2_3_1, n2_3_2, m2_3_2])
  have fc3_5 : w3.frozen? ⟨w1.heap.size, 1, none⟩ = false := (hb3.frozen (p := ⟨w1.heap.size, 1, none⟩) (by first | omega | (simp <;> omega))).trans (by first | exact fc2_7 | simp [go_sem, fc2_7, l2_0a, l2_0b, l2_0c, l2_0d, l2_1a, l2_1b, l2_1c, l2_1d, l2_2a, l2_2b, l2_2c, l2_2d, l2_3a, l2_3b, l2_3c, l2_3d, n2_1_0, m2_1_0, n2_1_2, m2_1_2, n2_1_3, m2_1_3, n2_2_0, m2_2_0, n2_2_1, m2_2_1, n2_2_3, m2_2_3, n2_3_0, m2_3_0, n2_3_1, m2_3_1, n2_3_2, m2_3_2])
  have c3_6 : w3.cell? ⟨(w0.heap.size + 1), 0, none⟩ = some (.int .i64 BL[j].1) := (hb3.cell (p := ⟨(w0.heap.size + 1), 0, none⟩) (by first | omega | (simp <;> omega))).trans (by first | (simp; done) | simp [go_sem, l2_0a, l2_0b, l2_0c, l2_0d, l2_1a, l2_1b, l2_1c, l2_1d, l2_2a, l2_2b, l2_2c, l2_2d, l2_3a, l2_3b, l2_3c, l2_3d, n2_1_0, m2_1_0, n2_1_2, m2_1_2, n2_1_3, m2_1_3, n2_2_0, m2_2_0, n2_2_1, m2_2_1, n2_2_3, m2_2_3, n2_3_0, m2_3_0, n2_3_1, m2_3_1, n2_3_2, m2_3_2, c2_0, c2_1, c2_2, c2_3, c2_6, c2_7, c2_4, c2_5, fc2_2, fc2_3, fc2_6, fc2_7, fc2_4, fc2_5])
  have fc3_6 : w3.frozen? ⟨(w0.heap.size + 1), 0, none⟩ = false := (hb3.frozen (p := ⟨(w0.heap.size + 1), 0, none⟩) (by first | omega | (simp <;> omega))).trans (by first | (simp; done) | simp [go_sem, l2_0a, l2_0b, l2_0c, l2_0d, l2_1a, l2_1b, l2_1c, l2_1d, l2_2a, l2_2b, l2_2c, l2_2d, l2_3a, l2_3b, l2_3c, l2_3d, n2_1_0, m2_1_0, n2_1_2, m2_1_2, n2_1_3, m2_1_3, n2_2_0, m2_2_0, n2_2_1, m2_2_1, n2_2_3, m2_2_3, n2_3_0, m2_3_0, n2_3_1, m2_3_1, n2_3_2, m2_3_2, c2_0, c2_1, c2_2, c2_3, c2_6, c2_7, c2_4, c2_5, fc2_2, fc2_3, fc2_6, fc2_7, fc2_4, fc2_5])
  have c3_7 : w3.cell? ⟨(w0.heap.size + 1), 1, none⟩ = some (.int .i64 n) := (hb3.cell (p := ⟨(w0.heap.size + 1), 1, none⟩) (by first | omega | (simp <;> omega))).trans (by first | (simp; done) | simp [go_sem, l2_0a, l2_0b, l2_0c, l2_0d, l2_1a, l2_1b, l2_1c, l2_1d, l2_2a, l2_2b, l2_2c, l2_2d, l2_3a, l2_3b, l2_3c, l2_3d, n2_1_0, m2_1_0, n2_1_2, m2_1_2, n2_1_3, m2_1_3, n2_2_0, m2_2_0, n2_2_1, m2_2_1, n2_2_3, m2_2_3, n2_3_0, m2_3_0, n2_3_1, m2_3_1, n2_3_2, m2_3_2, c2_0, c2_1, c2_2, c2_3, c2_6, c2_7, c2_4, c2_5, fc2_2, fc2_3, fc2_6, fc2_7, fc2_4, fc2_5])
  have fc3_7 : w3.frozen? ⟨(w0.heap.size + 1), 1, none⟩ = false := (hb3.frozen (p := ⟨(w0.heap.size + 1), 1, none⟩) (by first | omega | (simp <;> omega))).trans (by first | (simp; done) | simp [go_sem, l2_0a, l2_0b, l2_0c, l2_0d, l2_1a, l2_1b, l2_1c, l2_1d, l2_2a, l2_2b, l2_2c, l2_2d, l2_3a, l2_3b, l2_3c, l2_3d, n2_1_0, m2_1_0, n2_1_2, m2_1_2, n2_1_3, m2_1_3, n2_2_0, m2_2_0, n2_2_1, m2_2_1, n2_2_3, m2_2_3, n2_3_0, m2_3_0, n2_3_1, m2_3_1, n2_3_2, m2_3_2, c2_0, c2_1, c2_2, c2_3, c2_6, c2_7, c2_4, c2_5, fc2_2, fc2_3, fc2_6, fc2_7, fc2_4, fc2_5])
  have l3_0a : w.heap.size < w3.heap.size := World.block_lt_of_cell? w3 _ c3_0
  have l3_0b : w.heap.size < w3.heap.size + 1 := Nat.lt_succ_of_lt l3_0a
  have l3_0c : w.heap.size < w3.heap.size + 1 + 1 := Nat.lt_succ_of_lt l3_0b
  have l3_0d : w.heap.size < w3.heap.size + 1 + 1 + 1 := Nat.lt_succ_of_lt l3_0c
  have l3_1a : w0.heap.size < w3.heap.size := World.block_lt_of_cell? w3 _ c3_2
  have l3_1b : w0.heap.size < w3.heap.size + 1 := Nat.lt_succ_of_lt l3_1a
  have l3_1c : w0.heap.size < w3.heap.size + 1 + 1 := Nat.lt_succ_of_lt l3_1b
  have l3_1d : w0.heap.size < w3.heap.size + 1 + 1 + 1 := Nat.lt_succ_of_lt l3_1c
  have l3_2a : w1.heap.size < w3.heap.size := World.block_lt_of_cell? w3 _ c3_4
  have l3_2b : w1.heap.size < w3.heap.size + 1 := Nat.lt_succ_of_lt l3_2a
  have l3_2c : w1.heap.size < w3.heap.size + 1 + 1 := Nat.lt_succ_of_lt l3_2b
  have l3_2d : w1.heap.size < w3.heap.size + 1 + 1 + 1 := Nat.lt_succ_of_lt l3_2c
  have l3_3a : (w0.heap.size + 1) < w3.heap.size := World.block_lt_of_cell? w3 _ c3_6
  have l3_3b : (w0.heap.size + 1) < w3.heap.size + 1 := Nat.lt_succ_of_lt l3_3a
  have l3_3c : (w0.heap.size + 1) < w3.heap.size + 1 + 1 := Nat.lt_succ_of_lt l3_3b
  have l3_3d : (w0.heap.size + 1) < w3.heap.size + 1 + 1 + 1 := Nat.lt_succ_of_lt l3_3c
  have n3_1_0 : w0.heap.size ≠ w.heap.size := by omega
  have m3_1_0 : w.heap.size ≠ w0.heap.size := by omega
  have n3_1_2 : w0.heap.size ≠ w1.heap.size := by omega
  have m3_1_2 : w1.heap.size ≠ w0.heap.size := by omega
  have n3_1_3 : w0.heap.size ≠ (w0.heap.size + 1) := by omega
  have m3_1_3 : (w0.heap.size + 1) ≠ w0.heap.size := by omega
  have n3_2_0 : w1.heap.size ≠ w.heap.size := by omega
  have m3_2_0 : w.heap.size ≠ w1.heap.size := by omega
  have n3_2_1 : w1.heap.size ≠ w0.heap.size := by omega
  have m3_2_1 : w0.heap.size ≠ w1.heap.size := by omega
  have n3_2_3 : w1.heap.size ≠ (w0.heap.size + 1) := by omega
  have m3_2_3 : (w0.heap.size + 1) ≠ w1.heap.size := by omega
  have n3_3_0 : (w0.heap.size + 1) ≠ w.heap.size := by omega
  have m3_3_0 : w.heap.size ≠ (w0.heap.size + 1) := by omega
  have n3_3_1 : (w0.heap.size + 1) ≠ w0.heap.size := by omega
  have m3_3_1 : w0.heap.size ≠ (w0.heap.size + 1) := by omega
  have n3_3_2 : (w0.heap.size + 1) ≠ w1.heap.size := by omega
  have m3_3_2 : w1.heap.size ≠ (w0.heap.size + 1) := by omega
  have hkw0_3 : Below w0.heap.size w0 w3 := Below.trans (by first | exact hkw0_2 | ((repeat' (first | exact hkw0_2 | refine Below.setCell ?_ ?_ _ | refine Below.alloc ?_ ?_ _ | refine Below.drew ?_)) <;> (first | omega | (simp <;> omega)))) (hb3.mono (by first | omega | (simp <;> omega)))
  clear c2_0 c2_1 c2_2 c2_3 c2_6 c2_7 c2_4 c2_5 fc2_2 fc2_3 fc2_6 fc2_7 fc2_4 fc2_5 l2_0a l2_0b l2_0c l2_0d l2_1a l2_1b l2_1c l2_1d l2_2a l2_2b l2_2c l2_2d l2_3a l2_3b l2_3c l2_3d n2_1_0 m2_1_0 n2_1_2 m2_1_2 n2_1_3 m2_1_3 n2_2_0 m2_2_0 n2_2_1 m2_2_1 n2_2_3 m2_2_3 n2_3_0 m2_3_0 n2_3_1 m2_3_1 n2_3_2 m2_3_2 hkw0_2 hB2 hb3
  go_wp2_with fail
  refine (error_nil0 _ (by exact HG.out.belowB (show Below w.heap.size w _ from (by first | exact hB3 | ((repeat' (first | exact hB3 | refine Below.setCell ?_ ?_ _ | refine Below.alloc ?_ ?_ _ | refine Below.drew ?_)) <;> (first | omega | (simp <;> omega))))) HG.out.lt)).mono ?_
  rintro e w4 ⟨rfl, hb4⟩
  have hB4 : Below w.heap.size w w4 := Below.trans (by first | exact hB3 | ((repeat' (first | exact hB3 | refine Below.setCell ?_ ?_ _ | refine Below.alloc ?_ ?_ _ | refine Below.drew ?_)) <;> (first | omega | (simp <;> omega)))) (hb4.mono (by first | omega | (simp <;> omega)))
  have hs4 : w.heap.size ≤ w4.heap.size := hB4.size
  have ht4 := hb4.size
  try simp only [World.size_alloc, World.size_setCell] at ht4
  have c4_0 : w4.cell? ⟨w.heap.size, 0, none⟩ = some (.int .i64 p.1) := (hb4.cell (p := ⟨w.heap.size, 0, none⟩) (by first | omega | (simp <;> omega))).trans (by first | exact c3_0 | simp [go_sem, c3_0, l3_0a, l3_0b, l3_0c, l3_0d, l3_1a, l3_1b, l3_1c, l3_1d, l3_2a, l3_2b, l3_2c, l3_2d, l3_3a, l3_3b, l3_3c, l3_3d, n3_1_0, m3_1_0, n3_1_2, m3_1_2, n3_1_3, m3_1_3, n3_2_0, m3_2_0, n3_2_1, m3_2_1, n3_2_3, m3_2_3, n3_3_0, m3_3_0, n3_3_1, m3_3_1, n3_3_2, m3_3_2])
  have c4_1 : w4.cell? ⟨w.heap.size, 1, none⟩ = some (.int .i64 p.2) := (hb4.cell (p := ⟨w.heap.size, 1, none⟩) (by first | omega | (simp <;> omega))).trans (by first | exact c3_1 | simp [go_sem, c3_1, l3_0a, l3_0b, l3_0c, l3_0d, l3_1a, l3_1b, l3_1c, l3_1d, l3_2a, l3_2b, l3_2c, l3_2d, l3_3a, l3_3b, l3_3c, l3_3d, n3_1_0, m3_1_0, n3_1_2, m3_1_2, n3_1_3, m3_1_3, n3_2_0, m3_2_0, n3_2_1, m3_2_1, n3_2_3, m3_2_3, n3_3_0, m3_3_0, n3_3_1, m3_3_1, n3_3_2, m3_3_2])
  have c4_2 : w4.cell? ⟨w0.heap.size, 0, none⟩ = some (.int .i64 b.1) := (hb4.cell (p := ⟨w0.heap.size, 0, none⟩) (by first | omega | (simp <;> omega))).trans (by first | exact c3_2 | simp [go_sem, c3_2, l3_0a, l3_0b, l3_0c, l3_0d, l3_1a, l3_1b, l3_1c, l3_1d, l3_2a, l3_2b, l3_2c, l3_2d, l3_3a, l3_3b, l3_3c, l3_3d, n3_1_0, m3_1_0, n3_1_2, m3_1_2, n3_1_3, m3_1_3, n3_2_0, m3_2_0, n3_2_1, m3_2_1, n3_2_3, m3_2_3, n3_3_0, m3_3_0, n3_3_1, m3_3_1, n3_3_2, m3_3_2])
  have fc4_2 : w4.frozen? ⟨w0.heap.size, 0, none⟩ = false := (hb4.frozen (p := ⟨w0.heap.size, 0, none⟩) (by first | omega | (simp <;> omega))).trans (by first | exact fc3_2 | simp [go_sem, fc3_2, l3_0a, l3_0b, l3_0c, l3_0d, l3_1a, l3_1b, l3_1c, l3_1d, l3_2a, l3_2b, l3_2c, l3_2d, l3_3a, l3_3b, l3_3c, l3_3d, n3_1_0, m3_1_0, n3_1_2, m3_1_2, n3_1_3, m3_1_3, n3_2_0, m3_2_0, n3_2_1, m3_2_1, n3_2_3, m3_2_3, n3_3_0, m3_3_0, n3_3_1, m3_3_1, n3_3_2, m3_3_2])
  have c4_3 : w4.cell? ⟨w0.heap.size, 1, none⟩ = some (.int .i64 n) := (hb4.cell (p := ⟨w0.heap.size, 1, none⟩) (by first | omega | (simp <;> omega))).trans (by first | exact c3_3 | simp [go_sem, c3_3, l3_0a, l3_0b, l3_0c, l3_0d, l3_1a, l3_1b, l3_1c, l3_1d, l3_2a, l3_2b, l3_2c, l3_2d, l3_3a, l3_3b, l3_3c, l3_3d, n3_1_0, m3_1_0, n3_1_2, m3_1_2, n3_1_3, m3_1_3, n3_2_0, m3_2_0, n3_2_1, m3_2_1, n3_2_3, m3_2_3, n3_3_0, m3_3_0, n3_3_1, m3_3_1, n3_3_2, m3_3_2])
  have fc4_3 : w4.frozen? ⟨w0.heap.size, 1, none⟩ = false := (hb4.frozen (p := ⟨w0.heap.size, 1, none⟩) (by first | omega | (simp <;> omega))).trans (by first | exact fc3_3 | simp [go_sem, fc3_3, l3_0a, l3_0b, l3_0c, l3_0d, l3_1a, l3_1b, l3_1c, l3_1d, l3_2a, l3_2b, l3_2c, l3_2d, l3_3a, l3_3b, l3_3c, l3_3d, n3_1_0, m3_1_0, n3_1_2, m3_1_2, n3_1_3, m3_1_3, n3_2_0, m3_2_0, n3_2_1, m3_2_1, n3_2_3, m3_2_3, n3_3_0, m3_3_0, n3_3_1, m3_3_1, n3_3_2, m3_3_2])
  have c4_4 : w4.cell? ⟨(w0.heap.size + 1), 0, none⟩ = some (.int .i64 BL[j].1) := (hb4.cell (p := ⟨(w0.heap.size + 1), 0, none⟩) (by first | omega | (simp <;> omega))).trans (by first | exact c3_6 | simp [go_sem, c3_6, l3_0a, l3_0b, l3_0c, l3_0d, l3_1a, l3_1b, l3_1c, l3_1d, l3_2a, l3_2b, l3_2c, l3_2d, l3_3a, l3_3b, l3_3c, l3_3d, n3_1_0, m3_1_0, n3_1_2, m3_1_2, n3_1_3, m3_1_3, n3_2_0, m3_2_0, n3_2_1, m3_2_1, n3_2_3, m3_2_3, n3_3_0, m3_3_0, n3_3_1, m3_3_1, n3_3_2, m3_3_2])
  have fc4_4 : w4.frozen? ⟨(w0.heap.size + 1), 0, none⟩ = false := (hb4.frozen (p := ⟨(w0.heap.size + 1), 0, none⟩) (by first | omega | (simp <;> omega))).trans (by first | exact fc3_6 | simp [go_sem, fc3_6, l3_0a, l3_0b, l3_0c, l3_0d, l3_1a, l3_1b, l3_1c, l3_1d, l3_2a, l3_2b, l3_2c, l3_2d, l3_3a, l3_3b, l3_3c, l3_3d, n3_1_0, m3_1_0, n3_1_2, m3_1_2, n3_1_3, m3_1_3, n3_2_0, m3_2_0, n3_2_1, m3_2_1, n3_2_3, m3_2_3, n3_3_0, m3_3_0, n3_3_1, m3_3_1, n3_3_2, m3_3_2])
  have c4_5 : w4.cell? ⟨(w0.heap.size + 1), 1, none⟩ = some (.int .i64 n) := (hb4.cell (p := ⟨(w0.heap.size + 1), 1, none⟩) (by first | omega | (simp <;> omega))).trans (by first | exact c3_7 | simp [go_sem, c3_7, l3_0a, l3_0b, l3_0c, l3_0d, l3_1a, l3_1b, l3_1c, l3_1d, l3_2a, l3_2b, l3_2c, l3_2d, l3_3a, l3_3b, l3_3c, l3_3d, n3_1_0, m3_1_0, n3_1_2, m3_1_2, n3_1_3, m3_1_3, n3_2_0, m3_2_0, n3_2_1, m3_2_1, n3_2_3, m3_2_3, n3_3_0, m3_3_0, n3_3_1, m3_3_1, n3_3_2, m3_3_2])
  have fc4_5 : w4.frozen? ⟨(w0.heap.size + 1), 1, none⟩ = false := (hb4.frozen (p := ⟨(w0.heap.size + 1), 1, none⟩) (by first | omega | (simp <;> omega))).trans (by first | exact fc3_7 | simp [go_sem, fc3_7, l3_0a, l3_0b, l3_0c, l3_0d, l3_1a, l3_1b, l3_1c, l3_1d, l3_2a, l3_2b, l3_2c, l3_2d, l3_3a, l3_3b, l3_3c, l3_3d, n3_1_0, m3_1_0, n3_1_2, m3_1_2, n3_1_3, m3_1_3, n3_2_0, m3_2_0, n3_2_1, m3_2_1, n3_2_3, m3_2_3, n3_3_0, m3_3_0, n3_3_1, m3_3_1, n3_3_2, m3_3_2])
  have c4_6 : w4.cell? ⟨w1.heap.size, 0, none⟩ = some (.int .i64 BL[j].1) := (hb4.cell (p := ⟨w1.heap.size, 0, none⟩) (by first | omega | (simp <;> omega))).trans (by first | (simp; done) | simp [go_sem, l3_0a, l3_0b, l3_0c, l3_0d, l3_1a, l3_1b, l3_1c, l3_1d, l3_2a, l3_2b, l3_2c, l3_2d, l3_3a, l3_3b, l3_3c, l3_3d, n3_1_0, m3_1_0, n3_1_2, m3_1_2, n3_1_3, m3_1_3, n3_2_0, m3_2_0, n3_2_1, m3_2_1, n3_2_3, m3_2_3, n3_3_0, m3_3_0, n3_3_1, m3_3_1, n3_3_2, m3_3_2, c3_0, c3_1, c3_2, c3_3, c3_6, c3_7, c3_4, c3_5, fc3_2, fc3_3, fc3_6, fc3_7, fc3_4, fc3_5])
  have fc4_6 : w4.frozen? ⟨w1.heap.size, 0, none⟩ = false := (hb4.frozen (p := ⟨w1.heap.size, 0, none⟩) (by first | omega | (simp <;> omega))).trans (by first | (simp; done) | simp [go_sem, l3_0a, l3_0b, l3_0c, l3_0d, l3_1a, l3_1b, l3_1c, l3_1d, l3_2a, l3_2b, l3_2c, l3_2d, l3_3a, l3_3b, l3_3c, l3_3d, n3_1_0, m3_1_0, n3_1_2, m3_1_2, n3_1_3, m3_1_3, n3_2_0, m3_2_0, n3_2_1, m3_2_1, n3_2_3, m3_2_3, n3_3_0, m3_3_0, n3_3_1, m3_3_1, n3_3_2, m3_3_2, c3_0, c3_1, c3_2, c3_3, c3_6, c3_7, c3_4, c3_5, fc3_2, fc3_3, fc3_6, fc3_7, fc3_4, fc3_5])
  have c4_7 : w4.cell? ⟨w1.heap.size, 1, none⟩ = some (.int .i64 n) := (hb4.cell (p := ⟨w1.heap.size, 1, none⟩) (by first | omega | (simp <;> omega))).trans (by first | (simp; done) | simp [go_sem, l3_0a, l3_0b, l3_0c, l3_0d, l3_1a, l3_1b, l3_1c, l3_1d, l3_2a, l3_2b, l3_2c, l3_2d, l3_3a, l3_3b, l3_3c, l3_3d, n3_1_0, m3_1_0, n3_1_2, m3_1_2, n3_1_3, m3_1_3, n3_2_0, m3_2_0, n3_2_1, m3_2_1, n3_2_3, m3_2_3, n3_3_0, m3_3_0, n3_3_1, m3_3_1, n3_3_2, m3_3_2, c3_0, c3_1, c3_2, c3_3, c3_6, c3_7, c3_4, c3_5, fc3_2, fc3_3, fc3_6, fc3_7, fc3_4, fc3_5])
  have fc4_7 : w4.frozen? ⟨w1.heap.size, 1, none⟩ = false := (hb4.frozen (p := ⟨w1.heap.size, 1, none⟩) (by first | omega | (simp <;> omega))).trans (by first | (simp; done) | simp [go_sem, l3_0a, l3_0b, l3_0c, l3_0d, l3_1a, l3_1b, l3_1c, l3_1d, l3_2a, l3_2b, l3_2c, l3_2d, l3_3a, l3_3b, l3_3c, l3_3d, n3_1_0, m3_1_0, n3_1_2, m3_1_2, n3_1_3, m3_1_3, n3_2_0, m3_2_0, n3_2_1, m3_2_1, n3_2_3, m3_2_3, n3_3_0, m3_3_0, n3_3_1, m3_3_1, n3_3_2, m3_3_2, c3_0, c3_1, c3_2, c3_3, c3_6, c3_7, c3_4, c3_5, fc3_2, fc3_3, fc3_6, fc3_7, fc3_4, fc3_5])
  have l4_0a : w.heap.size < w4.heap.size := World.block_lt_of_cell? w4 _ c4_0
  have l4_0b : w.heap.size < w4.heap.size + 1 := Nat.lt_succ_of_lt l4_0a
  have l4_0c : w.heap.size < w4.heap.size + 1 + 1 := Nat.lt_succ_of_lt l4_0b
  have l4_0d : w.heap.size < w4.heap.size + 1 + 1 + 1 := Nat.lt_succ_of_lt l4_0c
  have l4_1a : w0.heap.size < w4.heap.size := World.block_lt_of_cell? w4 _ c4_2
  have l4_1b : w0.heap.size < w4.heap.size + 1 := Nat.lt_succ_of_lt l4_1a
  have l4_1c : w0.heap.size < w4.heap.size + 1 + 1 := Nat.lt_succ_of_lt l4_1b
  have l4_1d : w0.heap.size < w4.heap.size + 1 + 1 + 1 := Nat.lt_succ_of_lt l4_1c
  have l4_2a : (w0.heap.size + 1) < w4.heap.size := World.block_lt_of_cell? w4 _ c4_4
  have l4_2b : (w0.heap.size + 1) < w4.heap.size + 1 := Nat.lt_succ_of_lt l4_2a
  have l4_2c : (w0.heap.size + 1) < w4.heap.size + 1 + 1 := Nat.lt_succ_of_lt l4_2b
  have l4_2d : (w0.heap.size + 1) < w4.heap.size + 1 + 1 + 1 := Nat.lt_succ_of_lt l4_2c
  have l4_3a : w1.heap.size < w4.heap.size := World.block_lt_of_cell? w4 _ c4_6
  have l4_3b : w1.heap.size < w4.heap.size + 1 := Nat.lt_succ_of_lt l4_3a
  have l4_3c : w1.heap.size < w4.heap.size + 1 + 1 := Nat.lt_succ_of_lt l4_3b
  have l4_3d : w1.heap.size < w4.heap.size + 1 + 1 + 1 := Nat.lt_succ_of_lt l4_3c
  have n4_1_0 : w0.heap.size ≠ w.heap.size := by omega
  have m4_1_0 : w.heap.size ≠ w0.heap.size := by omega
  have n4_1_2 : w0.heap.size ≠ (w0.heap.size + 1) := by omega
  have m4_1_2 : (w0.heap.size + 1) ≠ w0.heap.size := by omega
  have n4_1_3 : w0.heap.size ≠ w1.heap.size := by omega
  have m4_1_3 : w1.heap.size ≠ w0.heap.size := by omega
  have n4_2_0 : (w0.heap.size + 1) ≠ w.heap.size := by omega
  have m4_2_0 : w.heap.size ≠ (w0.heap.size + 1) := by omega
  have n4_2_1 : (w0.heap.size + 1) ≠ w0.heap.size := by omega
  have m4_2_1 : w0.heap.size ≠ (w0.heap.size + 1) := by omega
  have n4_2_3 : (w0.heap.size + 1) ≠ w1.heap.size := by omega
  have m4_2_3 : w1.heap.size ≠ (w0.heap.size + 1) := by omega
  have n4_3_0 : w1.heap.size ≠ w.heap.size := by omega
  have m4_3_0 : w.heap.size ≠ w1.heap.size := by omega
  have n4_3_1 : w1.heap.size ≠ w0.heap.size := by omega
  have m4_3_1 : w0.heap.size ≠ w1.heap.size := by omega
  have n4_3_2 : w1.heap.size ≠ (w0.heap.size + 1) := by omega
  have m4_3_2 : (w0.heap.size + 1) ≠ w1.heap.size := by omega
  have hkw0_4 : Below w0.heap.size w0 w4 := Below.trans (by first | exact hkw0_3 | ((repeat' (first | exact hkw0_3 | refine Below.setCell ?_ ?_ _ | refine Below.alloc ?_ ?_ _ | refine Below.drew ?_)) <;> (first | omega | (simp <;> omega)))) (hb4.mono (by first | omega | (simp <;> omega)))
  clear c3_0 c3_1 c3_2 c3_3 c3_6 c3_7 c3_4 c3_5 fc3_2 fc3_3 fc3_6 fc3_7 fc3_4 fc3_5 l3_0a l3_0b l3_0c l3_0d l3_1a l3_1b l3_1c l3_1d l3_2a l3_2b l3_2c l3_2d l3_3a l3_3b l3_3c l3_3d n3_1_0 m3_1_0 n3_1_2 m3_1_2 n3_1_3 m3_1_3 n3_2_0 m3_2_0 n3_2_1 m3_2_1 n3_2_3 m3_2_3 n3_3_0 m3_3_0 n3_3_1 m3_3_1 n3_3_2 m3_3_2 hkw0_3 hB3 hb4
  go_wp2_with fail
  go_ret
  exact ⟨rfl, (by first | exact hB4 | ((repeat' (first | exact hB4 | refine Below.setCell ?_ ?_ _ | refine Below.alloc ?_ ?_ _ | refine Below.drew ?_)) <;> (first | omega | (simp <;> omega))))⟩
end Go.Proofs.YtmfaknngophmhaaDoor
