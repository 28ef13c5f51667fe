/- The law AddrParts, its parts: the third. Any prefixes, any two numbers. -/
import Derived.Test.YtcgeagobndhpjaaDoorAddrParts0
namespace Go.Proofs.YtcgeagobndhpjaaDoor
set_option linter.unusedVariables false
set_option linter.unusedSimpArgs false
open Go.RowKit

set_option maxRecDepth 100000 in
set_option maxHeartbeats 8000000 in
theorem addrParts_3a (a n b m x y : Int) (w : World) (hg : ErrVar w) (hx : isA x = false) (s0 : Act) (w0 : World) (h0 : APmid2 a n b m x y w s0 w0) :
    (tailN 4 (tailN 20 (Tryd.f4.body.getD .skip))).wp Tryd.prog (bodyPost Tryd.prog Tryd.f4 fun e w' => e = .returned (.bool true) ∧ Below w.heap.size w w') s0 w0 := by
  have HG := Lib.hid hg
  clear hg
  have HX := Lib.hid hx
  clear hx
  obtain ⟨U, g, k, rfl, _, hB0, ⟨c0_0, c0_1⟩, ⟨c0_2, c0_3⟩, hgb, fc0_4, fc0_5, u, v, c0_4, c0_5⟩ := h0
  dsimp only [Tryd.f4, Option.getD, tailN]
  have hs0 := hB0.size
  have l0_0a : w.heap.size < w0.heap.size := World.block_lt_of_cell? w0 _ c0_0
  have l0_0b : w.heap.size < w0.heap.size + 1 := Nat.lt_succ_of_lt l0_0a
  have l0_0c : w.heap.size < w0.heap.size + 1 + 1 := Nat.lt_succ_of_lt l0_0b
  have l0_0d : w.heap.size < w0.heap.size + 1 + 1 + 1 := Nat.lt_succ_of_lt l0_0c
  have l0_1a : w.heap.size + 1 < w0.heap.size := World.block_lt_of_cell? w0 _ c0_2
  have l0_1b : w.heap.size + 1 < w0.heap.size + 1 := Nat.lt_succ_of_lt l0_1a
  have l0_1c : w.heap.size + 1 < w0.heap.size + 1 + 1 := Nat.lt_succ_of_lt l0_1b
  have l0_1d : w.heap.size + 1 < w0.heap.size + 1 + 1 + 1 := Nat.lt_succ_of_lt l0_1c
  have l0_2a : g < w0.heap.size := World.block_lt_of_cell? w0 _ c0_4
  have l0_2b : g < w0.heap.size + 1 := Nat.lt_succ_of_lt l0_2a
  have l0_2c : g < w0.heap.size + 1 + 1 := Nat.lt_succ_of_lt l0_2b
  have l0_2d : g < w0.heap.size + 1 + 1 + 1 := Nat.lt_succ_of_lt l0_2c
  have n0_2_0 : g ≠ w.heap.size := by omega
  have m0_2_0 : w.heap.size ≠ g := by omega
  have n0_2_1 : g ≠ w.heap.size + 1 := by omega
  have m0_2_1 : w.heap.size + 1 ≠ g := by omega
  clear c0_0 c0_1
  clear c0_2 c0_3
  go_wp2_with fail
  refine (refIs_any x _).mono ?_
  rintro e w1 ⟨rfl, rfl⟩
  rw [HX.out]
  go_wp2_with fail
  refine (refIs_any y _).mono ?_
  rintro e w1 ⟨rfl, rfl⟩
  obtain ⟨i, hi⟩ : ∃ i, i = isA y := ⟨_, rfl⟩
  rw [← hi]
  clear hi
  go_wp2_with fail
  refine (both_bad x y (by simp [HX.out]) _).mono ?_
  rintro e w1 ⟨rfl, hb1⟩
  have hB1 : Below w.heap.size w w1 := Below.trans (by first | exact hB0 | ((repeat' (first | exact hB0 | refine Below.setCell ?_ ?_ _ | refine Below.alloc ?_ ?_ _ | refine Below.drew ?_)) <;> (first | omega | (simp <;> omega)))) (hb1.mono (by first | omega | (simp <;> omega)))
  have hs1 : w.heap.size ≤ w1.heap.size := hB1.size
  have ht1 := hb1.size
  try simp only [World.size_alloc, World.size_setCell] at ht1
  have c1_0 : w1.cell? ⟨g, 0, none⟩ = some (.int .i64 u) := (hb1.cell (p := ⟨g, 0, none⟩) (by first | omega | (simp <;> omega))).trans (by first | exact c0_4 | simp [go_sem, c0_4, l0_0a, l0_0b, l0_0c, l0_0d, l0_1a, l0_1b, l0_1c, l0_1d, l0_2a, l0_2b, l0_2c, l0_2d, n0_2_0, m0_2_0, n0_2_1, m0_2_1])
  have fc1_0 : w1.frozen? ⟨g, 0, none⟩ = false := (hb1.frozen (p := ⟨g, 0, none⟩) (by first | omega | (simp <;> omega))).trans (by first | exact fc0_4 | simp [go_sem, fc0_4, l0_0a, l0_0b, l0_0c, l0_0d, l0_1a, l0_1b, l0_1c, l0_1d, l0_2a, l0_2b, l0_2c, l0_2d, n0_2_0, m0_2_0, n0_2_1, m0_2_1])
  have c1_1 : w1.cell? ⟨g, 1, none⟩ = some (.int .i64 v) := (hb1.cell (p := ⟨g, 1, none⟩) (by first | omega | (simp <;> omega))).trans (by first | exact c0_5 | simp [go_sem, c0_5, l0_0a, l0_0b, l0_0c, l0_0d, l0_1a, l0_1b, l0_1c, l0_1d, l0_2a, l0_2b, l0_2c, l0_2d, n0_2_0, m0_2_0, n0_2_1, m0_2_1])
  have fc1_1 : w1.frozen? ⟨g, 1, none⟩ = false := (hb1.frozen (p := ⟨g, 1, none⟩) (by first | omega | (simp <;> omega))).trans (by first | exact fc0_5 | simp [go_sem, fc0_5, l0_0a, l0_0b, l0_0c, l0_0d, l0_1a, l0_1b, l0_1c, l0_1d, l0_2a, l0_2b, l0_2c, l0_2d, n0_2_0, m0_2_0, n0_2_1, m0_2_1])
  have c1_2 : w1.cell? ⟨w0.heap.size, 0, none⟩ = some (.int .i64 0) := (hb1.cell (p := ⟨w0.heap.size, 0, none⟩) (by first | omega | (simp <;> omega))).trans (by first | (simp; done) | simp [go_sem, l0_0a, l0_0b, l0_0c, l0_0d, l0_1a, l0_1b, l0_1c, l0_1d, l0_2a, l0_2b, l0_2c, l0_2d, n0_2_0, m0_2_0, n0_2_1, m0_2_1, c0_4, c0_5, fc0_4, fc0_5])
  have fc1_2 : w1.frozen? ⟨w0.heap.size, 0, none⟩ = false := (hb1.frozen (p := ⟨w0.heap.size, 0, none⟩) (by first | omega | (simp <;> omega))).trans (by first | (simp; done) | simp [go_sem, l0_0a, l0_0b, l0_0c, l0_0d, l0_1a, l0_1b, l0_1c, l0_1d, l0_2a, l0_2b, l0_2c, l0_2d, n0_2_0, m0_2_0, n0_2_1, m0_2_1, c0_4, c0_5, fc0_4, fc0_5])
  have c1_3 : w1.cell? ⟨w0.heap.size, 1, none⟩ = some (.int .i64 0) := (hb1.cell (p := ⟨w0.heap.size, 1, none⟩) (by first | omega | (simp <;> omega))).trans (by first | (simp; done) | simp [go_sem, l0_0a, l0_0b, l0_0c, l0_0d, l0_1a, l0_1b, l0_1c, l0_1d, l0_2a, l0_2b, l0_2c, l0_2d, n0_2_0, m0_2_0, n0_2_1, m0_2_1, c0_4, c0_5, fc0_4, fc0_5])
  have fc1_3 : w1.frozen? ⟨w0.heap.size, 1, none⟩ = false := (hb1.frozen (p := ⟨w0.heap.size, 1, none⟩) (by first | omega | (simp <;> omega))).trans (by first | (simp; done) | simp [go_sem, l0_0a, l0_0b, l0_0c, l0_0d, l0_1a, l0_1b, l0_1c, l0_1d, l0_2a, l0_2b, l0_2c, l0_2d, n0_2_0, m0_2_0, n0_2_1, m0_2_1, c0_4, c0_5, fc0_4, fc0_5])
  have l1_0a : g < w1.heap.size := World.block_lt_of_cell? w1 _ c1_0
  have l1_0b : g < w1.heap.size + 1 := Nat.lt_succ_of_lt l1_0a
  have l1_0c : g < w1.heap.size + 1 + 1 := Nat.lt_succ_of_lt l1_0b
  have l1_0d : g < w1.heap.size + 1 + 1 + 1 := Nat.lt_succ_of_lt l1_0c
  have l1_1a : w0.heap.size < w1.heap.size := World.block_lt_of_cell? w1 _ c1_2
  have l1_1b : w0.heap.size < w1.heap.size + 1 := Nat.lt_succ_of_lt l1_1a
  have l1_1c : w0.heap.size < w1.heap.size + 1 + 1 := Nat.lt_succ_of_lt l1_1b
  have l1_1d : w0.heap.size < w1.heap.size + 1 + 1 + 1 := Nat.lt_succ_of_lt l1_1c
  have n1_0_1 : g ≠ w0.heap.size := by omega
  have m1_0_1 : w0.heap.size ≠ g := by omega
  have n1_1_0 : w0.heap.size ≠ g := by omega
  have m1_1_0 : g ≠ w0.heap.size := by omega
  clear c0_4 c0_5 fc0_4 fc0_5 l0_0a l0_0b l0_0c l0_0d l0_1a l0_1b l0_1c l0_1d l0_2a l0_2b l0_2c l0_2d n0_2_0 m0_2_0 n0_2_1 m0_2_1 hB0 hb1
  go_wp2_with fail
  refine (error_same 1 (by decide) _ (by exact HG.out.belowB (show Below w.heap.size w _ from (by first | exact hB1 | ((repeat' (first | exact hB1 | refine Below.setCell ?_ ?_ _ | refine Below.alloc ?_ ?_ _ | refine Below.drew ?_)) <;> (first | omega | (simp <;> omega))))) HG.out.lt)).mono ?_
  rintro e w2 ⟨rfl, hb2⟩
  have hB2 : Below w.heap.size w w2 := Below.trans (by first | exact hB1 | ((repeat' (first | exact hB1 | refine Below.setCell ?_ ?_ _ | refine Below.alloc ?_ ?_ _ | refine Below.drew ?_)) <;> (first | omega | (simp <;> omega)))) (hb2.mono (by first | omega | (simp <;> omega)))
  have hs2 : w.heap.size ≤ w2.heap.size := hB2.size
  have ht2 := hb2.size
  try simp only [World.size_alloc, World.size_setCell] at ht2
  have c2_0 : w2.cell? ⟨w0.heap.size, 0, none⟩ = some (.int .i64 0) := (hb2.cell (p := ⟨w0.heap.size, 0, none⟩) (by first | omega | (simp <;> omega))).trans (by first | exact c1_2 | simp [go_sem, c1_2, l1_0a, l1_0b, l1_0c, l1_0d, l1_1a, l1_1b, l1_1c, l1_1d, n1_0_1, m1_0_1, n1_1_0, m1_1_0])
  have fc2_0 : w2.frozen? ⟨w0.heap.size, 0, none⟩ = false := (hb2.frozen (p := ⟨w0.heap.size, 0, none⟩) (by first | omega | (simp <;> omega))).trans (by first | exact fc1_2 | simp [go_sem, fc1_2, l1_0a, l1_0b, l1_0c, l1_0d, l1_1a, l1_1b, l1_1c, l1_1d, n1_0_1, m1_0_1, n1_1_0, m1_1_0])
  have c2_1 : w2.cell? ⟨w0.heap.size, 1, none⟩ = some (.int .i64 0) := (hb2.cell (p := ⟨w0.heap.size, 1, none⟩) (by first | omega | (simp <;> omega))).trans (by first | exact c1_3 | simp [go_sem, c1_3, l1_0a, l1_0b, l1_0c, l1_0d, l1_1a, l1_1b, l1_1c, l1_1d, n1_0_1, m1_0_1, n1_1_0, m1_1_0])
  have fc2_1 : w2.frozen? ⟨w0.heap.size, 1, none⟩ = false := (hb2.frozen (p := ⟨w0.heap.size, 1, none⟩) (by first | omega | (simp <;> omega))).trans (by first | exact fc1_3 | simp [go_sem, fc1_3, l1_0a, l1_0b, l1_0c, l1_0d, l1_1a, l1_1b, l1_1c, l1_1d, n1_0_1, m1_0_1, n1_1_0, m1_1_0])
  have c2_2 : w2.cell? ⟨g, 0, none⟩ = some (.int .i64 0) := (hb2.cell (p := ⟨g, 0, none⟩) (by first | omega | (simp <;> omega))).trans (by first | (simp; done) | simp [go_sem, l1_0a, l1_0b, l1_0c, l1_0d, l1_1a, l1_1b, l1_1c, l1_1d, n1_0_1, m1_0_1, n1_1_0, m1_1_0, c1_2, c1_3, c1_0, c1_1, fc1_2, fc1_3, fc1_0, fc1_1])
  have fc2_2 : w2.frozen? ⟨g, 0, none⟩ = false := (hb2.frozen (p := ⟨g, 0, none⟩) (by first | omega | (simp <;> omega))).trans (by first | (simp; done) | simp [go_sem, l1_0a, l1_0b, l1_0c, l1_0d, l1_1a, l1_1b, l1_1c, l1_1d, n1_0_1, m1_0_1, n1_1_0, m1_1_0, c1_2, c1_3, c1_0, c1_1, fc1_2, fc1_3, fc1_0, fc1_1])
  have c2_3 : w2.cell? ⟨g, 1, none⟩ = some (.int .i64 0) := (hb2.cell (p := ⟨g, 1, none⟩) (by first | omega | (simp <;> omega))).trans (by first | (simp; done) | simp [go_sem, l1_0a, l1_0b, l1_0c, l1_0d, l1_1a, l1_1b, l1_1c, l1_1d, n1_0_1, m1_0_1, n1_1_0, m1_1_0, c1_2, c1_3, c1_0, c1_1, fc1_2, fc1_3, fc1_0, fc1_1])
  have fc2_3 : w2.frozen? ⟨g, 1, none⟩ = false := (hb2.frozen (p := ⟨g, 1, none⟩) (by first | omega | (simp <;> omega))).trans (by first | (simp; done) | simp [go_sem, l1_0a, l1_0b, l1_0c, l1_0d, l1_1a, l1_1b, l1_1c, l1_1d, n1_0_1, m1_0_1, n1_1_0, m1_1_0, c1_2, c1_3, c1_0, c1_1, fc1_2, fc1_3, fc1_0, fc1_1])
  have l2_0a : w0.heap.size < w2.heap.size := World.block_lt_of_cell? w2 _ c2_0
  have l2_0b : w0.heap.size < w2.heap.size + 1 := Nat.lt_succ_of_lt l2_0a
  have l2_0c : w0.heap.size < w2.heap.size + 1 + 1 := Nat.lt_succ_of_lt l2_0b
  have l2_0d : w0.heap.size < w2.heap.size + 1 + 1 + 1 := Nat.lt_succ_of_lt l2_0c
  have l2_1a : g < w2.heap.size := World.block_lt_of_cell? w2 _ c2_2
  have l2_1b : g < w2.heap.size + 1 := Nat.lt_succ_of_lt l2_1a
  have l2_1c : g < w2.heap.size + 1 + 1 := Nat.lt_succ_of_lt l2_1b
  have l2_1d : g < w2.heap.size + 1 + 1 + 1 := Nat.lt_succ_of_lt l2_1c
  have n2_0_1 : w0.heap.size ≠ g := by omega
  have m2_0_1 : g ≠ w0.heap.size := by omega
  have n2_1_0 : g ≠ w0.heap.size := by omega
  have m2_1_0 : w0.heap.size ≠ g := by omega
  clear c1_2 c1_3 c1_0 c1_1 fc1_2 fc1_3 fc1_0 fc1_1 l1_0a l1_0b l1_0c l1_0d l1_1a l1_1b l1_1c l1_1d n1_0_1 m1_0_1 n1_1_0 m1_1_0 hB1 hb2
  go_wp2
  go_ret
  exact ⟨rfl, hB2⟩
set_option maxRecDepth 100000 in
set_option maxHeartbeats 8000000 in
theorem addrParts_3b (a n b m x y : Int) (w : World) (hg : ErrVar w) (hx : isA x = true) (hy : isA y = false) (s0 : Act) (w0 : World) (h0 : APmid2 a n b m x y w s0 w0) :
    (tailN 4 (tailN 20 (Tryd.f4.body.getD .skip))).wp Tryd.prog (bodyPost Tryd.prog Tryd.f4 fun e w' => e = .returned (.bool true) ∧ Below w.heap.size w w') s0 w0 := by
  have HG := Lib.hid hg
  clear hg
  have HX := Lib.hid hx
  have HY := Lib.hid hy
  clear hx hy
  obtain ⟨U, g, k, rfl, _, hB0, ⟨c0_0, c0_1⟩, ⟨c0_2, c0_3⟩, hgb, fc0_4, fc0_5, u, v, c0_4, c0_5⟩ := h0
  dsimp only [Tryd.f4, Option.getD, tailN]
  have hs0 := hB0.size
  have l0_0a : w.heap.size < w0.heap.size := World.block_lt_of_cell? w0 _ c0_0
  have l0_0b : w.heap.size < w0.heap.size + 1 := Nat.lt_succ_of_lt l0_0a
  have l0_0c : w.heap.size < w0.heap.size + 1 + 1 := Nat.lt_succ_of_lt l0_0b
  have l0_0d : w.heap.size < w0.heap.size + 1 + 1 + 1 := Nat.lt_succ_of_lt l0_0c
  have l0_1a : w.heap.size + 1 < w0.heap.size := World.block_lt_of_cell? w0 _ c0_2
  have l0_1b : w.heap.size + 1 < w0.heap.size + 1 := Nat.lt_succ_of_lt l0_1a
  have l0_1c : w.heap.size + 1 < w0.heap.size + 1 + 1 := Nat.lt_succ_of_lt l0_1b
  have l0_1d : w.heap.size + 1 < w0.heap.size + 1 + 1 + 1 := Nat.lt_succ_of_lt l0_1c
  have l0_2a : g < w0.heap.size := World.block_lt_of_cell? w0 _ c0_4
  have l0_2b : g < w0.heap.size + 1 := Nat.lt_succ_of_lt l0_2a
  have l0_2c : g < w0.heap.size + 1 + 1 := Nat.lt_succ_of_lt l0_2b
  have l0_2d : g < w0.heap.size + 1 + 1 + 1 := Nat.lt_succ_of_lt l0_2c
  have n0_2_0 : g ≠ w.heap.size := by omega
  have m0_2_0 : w.heap.size ≠ g := by omega
  have n0_2_1 : g ≠ w.heap.size + 1 := by omega
  have m0_2_1 : w.heap.size + 1 ≠ g := by omega
  clear c0_0 c0_1
  clear c0_2 c0_3
  go_wp2_with fail
  refine (refIs_any x _).mono ?_
  rintro e w1 ⟨rfl, rfl⟩
  rw [HX.out]
  go_wp2_with fail
  refine (refIs_any y _).mono ?_
  rintro e w1 ⟨rfl, rfl⟩
  rw [HY.out]
  go_wp2_with fail
  refine (both_bad x y (by simp [HX.out, HY.out]) _).mono ?_
  rintro e w1 ⟨rfl, hb1⟩
  have hB1 : Below w.heap.size w w1 := Below.trans (by first | exact hB0 | ((repeat' (first | exact hB0 | refine Below.setCell ?_ ?_ _ | refine Below.alloc ?_ ?_ _ | refine Below.drew ?_)) <;> (first | omega | (simp <;> omega)))) (hb1.mono (by first | omega | (simp <;> omega)))
  have hs1 : w.heap.size ≤ w1.heap.size := hB1.size
  have ht1 := hb1.size
  try simp only [World.size_alloc, World.size_setCell] at ht1
  have c1_0 : w1.cell? ⟨g, 0, none⟩ = some (.int .i64 u) := (hb1.cell (p := ⟨g, 0, none⟩) (by first | omega | (simp <;> omega))).trans (by first | exact c0_4 | simp [go_sem, c0_4, l0_0a, l0_0b, l0_0c, l0_0d, l0_1a, l0_1b, l0_1c, l0_1d, l0_2a, l0_2b, l0_2c, l0_2d, n0_2_0, m0_2_0, n0_2_1, m0_2_1])
  have fc1_0 : w1.frozen? ⟨g, 0, none⟩ = false := (hb1.frozen (p := ⟨g, 0, none⟩) (by first | omega | (simp <;> omega))).trans (by first | exact fc0_4 | simp [go_sem, fc0_4, l0_0a, l0_0b, l0_0c, l0_0d, l0_1a, l0_1b, l0_1c, l0_1d, l0_2a, l0_2b, l0_2c, l0_2d, n0_2_0, m0_2_0, n0_2_1, m0_2_1])
  have c1_1 : w1.cell? ⟨g, 1, none⟩ = some (.int .i64 v) := (hb1.cell (p := ⟨g, 1, none⟩) (by first | omega | (simp <;> omega))).trans (by first | exact c0_5 | simp [go_sem, c0_5, l0_0a, l0_0b, l0_0c, l0_0d, l0_1a, l0_1b, l0_1c, l0_1d, l0_2a, l0_2b, l0_2c, l0_2d, n0_2_0, m0_2_0, n0_2_1, m0_2_1])
  have fc1_1 : w1.frozen? ⟨g, 1, none⟩ = false := (hb1.frozen (p := ⟨g, 1, none⟩) (by first | omega | (simp <;> omega))).trans (by first | exact fc0_5 | simp [go_sem, fc0_5, l0_0a, l0_0b, l0_0c, l0_0d, l0_1a, l0_1b, l0_1c, l0_1d, l0_2a, l0_2b, l0_2c, l0_2d, n0_2_0, m0_2_0, n0_2_1, m0_2_1])
  have c1_2 : w1.cell? ⟨w0.heap.size, 0, none⟩ = some (.int .i64 0) := (hb1.cell (p := ⟨w0.heap.size, 0, none⟩) (by first | omega | (simp <;> omega))).trans (by first | (simp; done) | simp [go_sem, l0_0a, l0_0b, l0_0c, l0_0d, l0_1a, l0_1b, l0_1c, l0_1d, l0_2a, l0_2b, l0_2c, l0_2d, n0_2_0, m0_2_0, n0_2_1, m0_2_1, c0_4, c0_5, fc0_4, fc0_5])
  have fc1_2 : w1.frozen? ⟨w0.heap.size, 0, none⟩ = false := (hb1.frozen (p := ⟨w0.heap.size, 0, none⟩) (by first | omega | (simp <;> omega))).trans (by first | (simp; done) | simp [go_sem, l0_0a, l0_0b, l0_0c, l0_0d, l0_1a, l0_1b, l0_1c, l0_1d, l0_2a, l0_2b, l0_2c, l0_2d, n0_2_0, m0_2_0, n0_2_1, m0_2_1, c0_4, c0_5, fc0_4, fc0_5])
  have c1_3 : w1.cell? ⟨w0.heap.size, 1, none⟩ = some (.int .i64 0) := (hb1.cell (p := ⟨w0.heap.size, 1, none⟩) (by first | omega | (simp <;> omega))).trans (by first | (simp; done) | simp [go_sem, l0_0a, l0_0b, l0_0c, l0_0d, l0_1a, l0_1b, l0_1c, l0_1d, l0_2a, l0_2b, l0_2c, l0_2d, n0_2_0, m0_2_0, n0_2_1, m0_2_1, c0_4, c0_5, fc0_4, fc0_5])
  have fc1_3 : w1.frozen? ⟨w0.heap.size, 1, none⟩ = false := (hb1.frozen (p := ⟨w0.heap.size, 1, none⟩) (by first | omega | (simp <;> omega))).trans (by first | (simp; done) | simp [go_sem, l0_0a, l0_0b, l0_0c, l0_0d, l0_1a, l0_1b, l0_1c, l0_1d, l0_2a, l0_2b, l0_2c, l0_2d, n0_2_0, m0_2_0, n0_2_1, m0_2_1, c0_4, c0_5, fc0_4, fc0_5])
  have l1_0a : g < w1.heap.size := World.block_lt_of_cell? w1 _ c1_0
  have l1_0b : g < w1.heap.size + 1 := Nat.lt_succ_of_lt l1_0a
  have l1_0c : g < w1.heap.size + 1 + 1 := Nat.lt_succ_of_lt l1_0b
  have l1_0d : g < w1.heap.size + 1 + 1 + 1 := Nat.lt_succ_of_lt l1_0c
  have l1_1a : w0.heap.size < w1.heap.size := World.block_lt_of_cell? w1 _ c1_2
  have l1_1b : w0.heap.size < w1.heap.size + 1 := Nat.lt_succ_of_lt l1_1a
  have l1_1c : w0.heap.size < w1.heap.size + 1 + 1 := Nat.lt_succ_of_lt l1_1b
  have l1_1d : w0.heap.size < w1.heap.size + 1 + 1 + 1 := Nat.lt_succ_of_lt l1_1c
  have n1_0_1 : g ≠ w0.heap.size := by omega
  have m1_0_1 : w0.heap.size ≠ g := by omega
  have n1_1_0 : w0.heap.size ≠ g := by omega
  have m1_1_0 : g ≠ w0.heap.size := by omega
  clear c0_4 c0_5 fc0_4 fc0_5 l0_0a l0_0b l0_0c l0_0d l0_1a l0_1b l0_1c l0_1d l0_2a l0_2b l0_2c l0_2d n0_2_0 m0_2_0 n0_2_1 m0_2_1 hB0 hb1
  go_wp2_with fail
  refine (error_same 1 (by decide) _ (by exact HG.out.belowB (show Below w.heap.size w _ from (by first | exact hB1 | ((repeat' (first | exact hB1 | refine Below.setCell ?_ ?_ _ | refine Below.alloc ?_ ?_ _ | refine Below.drew ?_)) <;> (first | omega | (simp <;> omega))))) HG.out.lt)).mono ?_
  rintro e w2 ⟨rfl, hb2⟩
  have hB2 : Below w.heap.size w w2 := Below.trans (by first | exact hB1 | ((repeat' (first | exact hB1 | refine Below.setCell ?_ ?_ _ | refine Below.alloc ?_ ?_ _ | refine Below.drew ?_)) <;> (first | omega | (simp <;> omega)))) (hb2.mono (by first | omega | (simp <;> omega)))
  have hs2 : w.heap.size ≤ w2.heap.size := hB2.size
  have ht2 := hb2.size
  try simp only [World.size_alloc, World.size_setCell] at ht2
  have c2_0 : w2.cell? ⟨w0.heap.size, 0, none⟩ = some (.int .i64 0) := (hb2.cell (p := ⟨w0.heap.size, 0, none⟩) (by first | omega | (simp <;> omega))).trans (by first | exact c1_2 | simp [go_sem, c1_2, l1_0a, l1_0b, l1_0c, l1_0d, l1_1a, l1_1b, l1_1c, l1_1d, n1_0_1, m1_0_1, n1_1_0, m1_1_0])
  have fc2_0 : w2.frozen? ⟨w0.heap.size, 0, none⟩ = false := (hb2.frozen (p := ⟨w0.heap.size, 0, none⟩) (by first | omega | (simp <;> omega))).trans (by first | exact fc1_2 | simp [go_sem, fc1_2, l1_0a, l1_0b, l1_0c, l1_0d, l1_1a, l1_1b, l1_1c, l1_1d, n1_0_1, m1_0_1, n1_1_0, m1_1_0])
  have c2_1 : w2.cell? ⟨w0.heap.size, 1, none⟩ = some (.int .i64 0) := (hb2.cell (p := ⟨w0.heap.size, 1, none⟩) (by first | omega | (simp <;> omega))).trans (by first | exact c1_3 | simp [go_sem, c1_3, l1_0a, l1_0b, l1_0c, l1_0d, l1_1a, l1_1b, l1_1c, l1_1d, n1_0_1, m1_0_1, n1_1_0, m1_1_0])
  have fc2_1 : w2.frozen? ⟨w0.heap.size, 1, none⟩ = false := (hb2.frozen (p := ⟨w0.heap.size, 1, none⟩) (by first | omega | (simp <;> omega))).trans (by first | exact fc1_3 | simp [go_sem, fc1_3, l1_0a, l1_0b, l1_0c, l1_0d, l1_1a, l1_1b, l1_1c, l1_1d, n1_0_1, m1_0_1, n1_1_0, m1_1_0])
  have c2_2 : w2.cell? ⟨g, 0, none⟩ = some (.int .i64 0) := (hb2.cell (p := ⟨g, 0, none⟩) (by first | omega | (simp <;> omega))).trans (by first | (simp; done) | simp [go_sem, l1_0a, l1_0b, l1_0c, l1_0d, l1_1a, l1_1b, l1_1c, l1_1d, n1_0_1, m1_0_1, n1_1_0, m1_1_0, c1_2, c1_3, c1_0, c1_1, fc1_2, fc1_3, fc1_0, fc1_1])
  have fc2_2 : w2.frozen? ⟨g, 0, none⟩ = false := (hb2.frozen (p := ⟨g, 0, none⟩) (by first | omega | (simp <;> omega))).trans (by first | (simp; done) | simp [go_sem, l1_0a, l1_0b, l1_0c, l1_0d, l1_1a, l1_1b, l1_1c, l1_1d, n1_0_1, m1_0_1, n1_1_0, m1_1_0, c1_2, c1_3, c1_0, c1_1, fc1_2, fc1_3, fc1_0, fc1_1])
  have c2_3 : w2.cell? ⟨g, 1, none⟩ = some (.int .i64 0) := (hb2.cell (p := ⟨g, 1, none⟩) (by first | omega | (simp <;> omega))).trans (by first | (simp; done) | simp [go_sem, l1_0a, l1_0b, l1_0c, l1_0d, l1_1a, l1_1b, l1_1c, l1_1d, n1_0_1, m1_0_1, n1_1_0, m1_1_0, c1_2, c1_3, c1_0, c1_1, fc1_2, fc1_3, fc1_0, fc1_1])
  have fc2_3 : w2.frozen? ⟨g, 1, none⟩ = false := (hb2.frozen (p := ⟨g, 1, none⟩) (by first | omega | (simp <;> omega))).trans (by first | (simp; done) | simp [go_sem, l1_0a, l1_0b, l1_0c, l1_0d, l1_1a, l1_1b, l1_1c, l1_1d, n1_0_1, m1_0_1, n1_1_0, m1_1_0, c1_2, c1_3, c1_0, c1_1, fc1_2, fc1_3, fc1_0, fc1_1])
  have l2_0a : w0.heap.size < w2.heap.size := World.block_lt_of_cell? w2 _ c2_0
  have l2_0b : w0.heap.size < w2.heap.size + 1 := Nat.lt_succ_of_lt l2_0a
  have l2_0c : w0.heap.size < w2.heap.size + 1 + 1 := Nat.lt_succ_of_lt l2_0b
  have l2_0d : w0.heap.size < w2.heap.size + 1 + 1 + 1 := Nat.lt_succ_of_lt l2_0c
  have l2_1a : g < w2.heap.size := World.block_lt_of_cell? w2 _ c2_2
  have l2_1b : g < w2.heap.size + 1 := Nat.lt_succ_of_lt l2_1a
  have l2_1c : g < w2.heap.size + 1 + 1 := Nat.lt_succ_of_lt l2_1b
  have l2_1d : g < w2.heap.size + 1 + 1 + 1 := Nat.lt_succ_of_lt l2_1c
  have n2_0_1 : w0.heap.size ≠ g := by omega
  have m2_0_1 : g ≠ w0.heap.size := by omega
  have n2_1_0 : g ≠ w0.heap.size := by omega
  have m2_1_0 : w0.heap.size ≠ g := by omega
  clear c1_2 c1_3 c1_0 c1_1 fc1_2 fc1_3 fc1_0 fc1_1 l1_0a l1_0b l1_0c l1_0d l1_1a l1_1b l1_1c l1_1d n1_0_1 m1_0_1 n1_1_0 m1_1_0 hB1 hb2
  go_wp2
  go_ret
  exact ⟨rfl, hB2⟩
set_option maxRecDepth 100000 in
set_option maxHeartbeats 8000000 in
theorem addrParts_3c (a n b m x y : Int) (w : World) (hg : ErrVar w) (hx : isA x = true) (hy : isA y = true) (s0 : Act) (w0 : World) (h0 : APmid2 a n b m x y w s0 w0) :
    (tailN 4 (tailN 20 (Tryd.f4.body.getD .skip))).wp Tryd.prog (bodyPost Tryd.prog Tryd.f4 fun e w' => e = .returned (.bool true) ∧ Below w.heap.size w w') s0 w0 := by
  have HG := Lib.hid hg
  clear hg
  have HX := Lib.hid hx
  have HY := Lib.hid hy
  clear hx hy
  obtain ⟨U, g, k, rfl, _, hB0, ⟨c0_0, c0_1⟩, ⟨c0_2, c0_3⟩, hgb, fc0_4, fc0_5, u, v, c0_4, c0_5⟩ := h0
  dsimp only [Tryd.f4, Option.getD, tailN]
  have hs0 := hB0.size
  have l0_0a : w.heap.size < w0.heap.size := World.block_lt_of_cell? w0 _ c0_0
  have l0_0b : w.heap.size < w0.heap.size + 1 := Nat.lt_succ_of_lt l0_0a
  have l0_0c : w.heap.size < w0.heap.size + 1 + 1 := Nat.lt_succ_of_lt l0_0b
  have l0_0d : w.heap.size < w0.heap.size + 1 + 1 + 1 := Nat.lt_succ_of_lt l0_0c
  have l0_1a : w.heap.size + 1 < w0.heap.size := World.block_lt_of_cell? w0 _ c0_2
  have l0_1b : w.heap.size + 1 < w0.heap.size + 1 := Nat.lt_succ_of_lt l0_1a
  have l0_1c : w.heap.size + 1 < w0.heap.size + 1 + 1 := Nat.lt_succ_of_lt l0_1b
  have l0_1d : w.heap.size + 1 < w0.heap.size + 1 + 1 + 1 := Nat.lt_succ_of_lt l0_1c
  have l0_2a : g < w0.heap.size := World.block_lt_of_cell? w0 _ c0_4
  have l0_2b : g < w0.heap.size + 1 := Nat.lt_succ_of_lt l0_2a
  have l0_2c : g < w0.heap.size + 1 + 1 := Nat.lt_succ_of_lt l0_2b
  have l0_2d : g < w0.heap.size + 1 + 1 + 1 := Nat.lt_succ_of_lt l0_2c
  have n0_2_0 : g ≠ w.heap.size := by omega
  have m0_2_0 : w.heap.size ≠ g := by omega
  have n0_2_1 : g ≠ w.heap.size + 1 := by omega
  have m0_2_1 : w.heap.size + 1 ≠ g := by omega
  clear c0_0 c0_1
  clear c0_2 c0_3
  go_wp2_with fail
  refine (refIs_any x _).mono ?_
  rintro e w1 ⟨rfl, rfl⟩
  rw [HX.out]
  go_wp2_with fail
  refine (refIs_any y _).mono ?_
  rintro e w1 ⟨rfl, rfl⟩
  rw [HY.out]
  go_wp2_with fail
  refine (bothOf_any x y HX.out HY.out _).mono ?_
  rintro e w1 ⟨rfl, hb1⟩
  have hB1 : Below w.heap.size w w1 := Below.trans (by first | exact hB0 | ((repeat' (first | exact hB0 | refine Below.setCell ?_ ?_ _ | refine Below.alloc ?_ ?_ _ | refine Below.drew ?_)) <;> (first | omega | (simp <;> omega)))) (hb1.mono (by first | omega | (simp <;> omega)))
  have hs1 : w.heap.size ≤ w1.heap.size := hB1.size
  have ht1 := hb1.size
  try simp only [World.size_alloc, World.size_setCell] at ht1
  have c1_0 : w1.cell? ⟨g, 0, none⟩ = some (.int .i64 u) := (hb1.cell (p := ⟨g, 0, none⟩) (by first | omega | (simp <;> omega))).trans (by first | exact c0_4 | simp [go_sem, c0_4, l0_0a, l0_0b, l0_0c, l0_0d, l0_1a, l0_1b, l0_1c, l0_1d, l0_2a, l0_2b, l0_2c, l0_2d, n0_2_0, m0_2_0, n0_2_1, m0_2_1])
  have fc1_0 : w1.frozen? ⟨g, 0, none⟩ = false := (hb1.frozen (p := ⟨g, 0, none⟩) (by first | omega | (simp <;> omega))).trans (by first | exact fc0_4 | simp [go_sem, fc0_4, l0_0a, l0_0b, l0_0c, l0_0d, l0_1a, l0_1b, l0_1c, l0_1d, l0_2a, l0_2b, l0_2c, l0_2d, n0_2_0, m0_2_0, n0_2_1, m0_2_1])
  have c1_1 : w1.cell? ⟨g, 1, none⟩ = some (.int .i64 v) := (hb1.cell (p := ⟨g, 1, none⟩) (by first | omega | (simp <;> omega))).trans (by first | exact c0_5 | simp [go_sem, c0_5, l0_0a, l0_0b, l0_0c, l0_0d, l0_1a, l0_1b, l0_1c, l0_1d, l0_2a, l0_2b, l0_2c, l0_2d, n0_2_0, m0_2_0, n0_2_1, m0_2_1])
  have fc1_1 : w1.frozen? ⟨g, 1, none⟩ = false := (hb1.frozen (p := ⟨g, 1, none⟩) (by first | omega | (simp <;> omega))).trans (by first | exact fc0_5 | simp [go_sem, fc0_5, l0_0a, l0_0b, l0_0c, l0_0d, l0_1a, l0_1b, l0_1c, l0_1d, l0_2a, l0_2b, l0_2c, l0_2d, n0_2_0, m0_2_0, n0_2_1, m0_2_1])
  have c1_2 : w1.cell? ⟨w0.heap.size, 0, none⟩ = some (.int .i64 0) := (hb1.cell (p := ⟨w0.heap.size, 0, none⟩) (by first | omega | (simp <;> omega))).trans (by first | (simp; done) | simp [go_sem, l0_0a, l0_0b, l0_0c, l0_0d, l0_1a, l0_1b, l0_1c, l0_1d, l0_2a, l0_2b, l0_2c, l0_2d, n0_2_0, m0_2_0, n0_2_1, m0_2_1, c0_4, c0_5, fc0_4, fc0_5])
  have fc1_2 : w1.frozen? ⟨w0.heap.size, 0, none⟩ = false := (hb1.frozen (p := ⟨w0.heap.size, 0, none⟩) (by first | omega | (simp <;> omega))).trans (by first | (simp; done) | simp [go_sem, l0_0a, l0_0b, l0_0c, l0_0d, l0_1a, l0_1b, l0_1c, l0_1d, l0_2a, l0_2b, l0_2c, l0_2d, n0_2_0, m0_2_0, n0_2_1, m0_2_1, c0_4, c0_5, fc0_4, fc0_5])
  have c1_3 : w1.cell? ⟨w0.heap.size, 1, none⟩ = some (.int .i64 0) := (hb1.cell (p := ⟨w0.heap.size, 1, none⟩) (by first | omega | (simp <;> omega))).trans (by first | (simp; done) | simp [go_sem, l0_0a, l0_0b, l0_0c, l0_0d, l0_1a, l0_1b, l0_1c, l0_1d, l0_2a, l0_2b, l0_2c, l0_2d, n0_2_0, m0_2_0, n0_2_1, m0_2_1, c0_4, c0_5, fc0_4, fc0_5])
  have fc1_3 : w1.frozen? ⟨w0.heap.size, 1, none⟩ = false := (hb1.frozen (p := ⟨w0.heap.size, 1, none⟩) (by first | omega | (simp <;> omega))).trans (by first | (simp; done) | simp [go_sem, l0_0a, l0_0b, l0_0c, l0_0d, l0_1a, l0_1b, l0_1c, l0_1d, l0_2a, l0_2b, l0_2c, l0_2d, n0_2_0, m0_2_0, n0_2_1, m0_2_1, c0_4, c0_5, fc0_4, fc0_5])
  have l1_0a : g < w1.heap.size := World.block_lt_of_cell? w1 _ c1_0
  have l1_0b : g < w1.heap.size + 1 := Nat.lt_succ_of_lt l1_0a
  have l1_0c : g < w1.heap.size + 1 + 1 := Nat.lt_succ_of_lt l1_0b
  have l1_0d : g < w1.heap.size + 1 + 1 + 1 := Nat.lt_succ_of_lt l1_0c
  have l1_1a : w0.heap.size < w1.heap.size := World.block_lt_of_cell? w1 _ c1_2
  have l1_1b : w0.heap.size < w1.heap.size + 1 := Nat.lt_succ_of_lt l1_1a
  have l1_1c : w0.heap.size < w1.heap.size + 1 + 1 := Nat.lt_succ_of_lt l1_1b
  have l1_1d : w0.heap.size < w1.heap.size + 1 + 1 + 1 := Nat.lt_succ_of_lt l1_1c
  have n1_0_1 : g ≠ w0.heap.size := by omega
  have m1_0_1 : w0.heap.size ≠ g := by omega
  have n1_1_0 : w0.heap.size ≠ g := by omega
  have m1_1_0 : g ≠ w0.heap.size := by omega
  clear c0_4 c0_5 fc0_4 fc0_5 l0_0a l0_0b l0_0c l0_0d l0_1a l0_1b l0_1c l0_1d l0_2a l0_2b l0_2c l0_2d n0_2_0 m0_2_0 n0_2_1 m0_2_1 hB0 hb1
  go_wp2_with fail
  refine (both_ok x y HX.out HY.out _).mono ?_
  rintro e w2 ⟨rfl, hb2⟩
  have hB2 : Below w.heap.size w w2 := Below.trans (by first | exact hB1 | ((repeat' (first | exact hB1 | refine Below.setCell ?_ ?_ _ | refine Below.alloc ?_ ?_ _ | refine Below.drew ?_)) <;> (first | omega | (simp <;> omega)))) (hb2.mono (by first | omega | (simp <;> omega)))
  have hs2 : w.heap.size ≤ w2.heap.size := hB2.size
  have ht2 := hb2.size
  try simp only [World.size_alloc, World.size_setCell] at ht2
  have c2_0 : w2.cell? ⟨g, 0, none⟩ = some (.int .i64 u) := (hb2.cell (p := ⟨g, 0, none⟩) (by first | omega | (simp <;> omega))).trans (by first | exact c1_0 | simp [go_sem, c1_0, l1_0a, l1_0b, l1_0c, l1_0d, l1_1a, l1_1b, l1_1c, l1_1d, n1_0_1, m1_0_1, n1_1_0, m1_1_0])
  have fc2_0 : w2.frozen? ⟨g, 0, none⟩ = false := (hb2.frozen (p := ⟨g, 0, none⟩) (by first | omega | (simp <;> omega))).trans (by first | exact fc1_0 | simp [go_sem, fc1_0, l1_0a, l1_0b, l1_0c, l1_0d, l1_1a, l1_1b, l1_1c, l1_1d, n1_0_1, m1_0_1, n1_1_0, m1_1_0])
  have c2_1 : w2.cell? ⟨g, 1, none⟩ = some (.int .i64 v) := (hb2.cell (p := ⟨g, 1, none⟩) (by first | omega | (simp <;> omega))).trans (by first | exact c1_1 | simp [go_sem, c1_1, l1_0a, l1_0b, l1_0c, l1_0d, l1_1a, l1_1b, l1_1c, l1_1d, n1_0_1, m1_0_1, n1_1_0, m1_1_0])
  have fc2_1 : w2.frozen? ⟨g, 1, none⟩ = false := (hb2.frozen (p := ⟨g, 1, none⟩) (by first | omega | (simp <;> omega))).trans (by first | exact fc1_1 | simp [go_sem, fc1_1, l1_0a, l1_0b, l1_0c, l1_0d, l1_1a, l1_1b, l1_1c, l1_1d, n1_0_1, m1_0_1, n1_1_0, m1_1_0])
  have c2_2 : w2.cell? ⟨w0.heap.size, 0, none⟩ = some (.int .i64 (clr x (bothN x y))) := (hb2.cell (p := ⟨w0.heap.size, 0, none⟩) (by first | omega | (simp <;> omega))).trans (by first | (simp; done) | simp [go_sem, l1_0a, l1_0b, l1_0c, l1_0d, l1_1a, l1_1b, l1_1c, l1_1d, n1_0_1, m1_0_1, n1_1_0, m1_1_0, c1_0, c1_1, c1_2, c1_3, fc1_0, fc1_1, fc1_2, fc1_3])
  have fc2_2 : w2.frozen? ⟨w0.heap.size, 0, none⟩ = false := (hb2.frozen (p := ⟨w0.heap.size, 0, none⟩) (by first | omega | (simp <;> omega))).trans (by first | (simp; done) | simp [go_sem, l1_0a, l1_0b, l1_0c, l1_0d, l1_1a, l1_1b, l1_1c, l1_1d, n1_0_1, m1_0_1, n1_1_0, m1_1_0, c1_0, c1_1, c1_2, c1_3, fc1_0, fc1_1, fc1_2, fc1_3])
  have c2_3 : w2.cell? ⟨w0.heap.size, 1, none⟩ = some (.int .i64 (bothN x y)) := (hb2.cell (p := ⟨w0.heap.size, 1, none⟩) (by first | omega | (simp <;> omega))).trans (by first | (simp; done) | simp [go_sem, l1_0a, l1_0b, l1_0c, l1_0d, l1_1a, l1_1b, l1_1c, l1_1d, n1_0_1, m1_0_1, n1_1_0, m1_1_0, c1_0, c1_1, c1_2, c1_3, fc1_0, fc1_1, fc1_2, fc1_3])
  have fc2_3 : w2.frozen? ⟨w0.heap.size, 1, none⟩ = false := (hb2.frozen (p := ⟨w0.heap.size, 1, none⟩) (by first | omega | (simp <;> omega))).trans (by first | (simp; done) | simp [go_sem, l1_0a, l1_0b, l1_0c, l1_0d, l1_1a, l1_1b, l1_1c, l1_1d, n1_0_1, m1_0_1, n1_1_0, m1_1_0, c1_0, c1_1, c1_2, c1_3, fc1_0, fc1_1, fc1_2, fc1_3])
  have l2_0a : g < w2.heap.size := World.block_lt_of_cell? w2 _ c2_0
  have l2_0b : g < w2.heap.size + 1 := Nat.lt_succ_of_lt l2_0a
  have l2_0c : g < w2.heap.size + 1 + 1 := Nat.lt_succ_of_lt l2_0b
  have l2_0d : g < w2.heap.size + 1 + 1 + 1 := Nat.lt_succ_of_lt l2_0c
  have l2_1a : w0.heap.size < w2.heap.size := World.block_lt_of_cell? w2 _ c2_2
  have l2_1b : w0.heap.size < w2.heap.size + 1 := Nat.lt_succ_of_lt l2_1a
  have l2_1c : w0.heap.size < w2.heap.size + 1 + 1 := Nat.lt_succ_of_lt l2_1b
  have l2_1d : w0.heap.size < w2.heap.size + 1 + 1 + 1 := Nat.lt_succ_of_lt l2_1c
  have n2_0_1 : g ≠ w0.heap.size := by omega
  have m2_0_1 : w0.heap.size ≠ g := by omega
  have n2_1_0 : w0.heap.size ≠ g := by omega
  have m2_1_0 : g ≠ w0.heap.size := by omega
  clear c1_0 c1_1 c1_2 c1_3 fc1_0 fc1_1 fc1_2 fc1_3 l1_0a l1_0b l1_0c l1_0d l1_1a l1_1b l1_1c l1_1d n1_0_1 m1_0_1 n1_1_0 m1_1_0 hB1 hb2
  go_wp2_with fail
  refine (error_nil0 _ (by exact HG.out.belowB (show Below w.heap.size w _ from (by first | exact hB2 | ((repeat' (first | exact hB2 | refine Below.setCell ?_ ?_ _ | refine Below.alloc ?_ ?_ _ | refine Below.drew ?_)) <;> (first | omega | (simp <;> omega))))) HG.out.lt)).mono ?_
  rintro e w3 ⟨rfl, hb3⟩
  have hB3 : Below w.heap.size w w3 := Below.trans (by first | exact hB2 | ((repeat' (first | exact hB2 | refine Below.setCell ?_ ?_ _ | refine Below.alloc ?_ ?_ _ | refine Below.drew ?_)) <;> (first | omega | (simp <;> omega)))) (hb3.mono (by first | omega | (simp <;> omega)))
  have hs3 : w.heap.size ≤ w3.heap.size := hB3.size
  have ht3 := hb3.size
  try simp only [World.size_alloc, World.size_setCell] at ht3
  have c3_0 : w3.cell? ⟨w0.heap.size, 0, none⟩ = some (.int .i64 (clr x (bothN x y))) := (hb3.cell (p := ⟨w0.heap.size, 0, none⟩) (by first | omega | (simp <;> omega))).trans (by first | exact c2_2 | simp [go_sem, c2_2, l2_0a, l2_0b, l2_0c, l2_0d, l2_1a, l2_1b, l2_1c, l2_1d, n2_0_1, m2_0_1, n2_1_0, m2_1_0])
  have fc3_0 : w3.frozen? ⟨w0.heap.size, 0, none⟩ = false := (hb3.frozen (p := ⟨w0.heap.size, 0, none⟩) (by first | omega | (simp <;> omega))).trans (by first | exact fc2_2 | simp [go_sem, fc2_2, l2_0a, l2_0b, l2_0c, l2_0d, l2_1a, l2_1b, l2_1c, l2_1d, n2_0_1, m2_0_1, n2_1_0, m2_1_0])
  have c3_1 : w3.cell? ⟨w0.heap.size, 1, none⟩ = some (.int .i64 (bothN x y)) := (hb3.cell (p := ⟨w0.heap.size, 1, none⟩) (by first | omega | (simp <;> omega))).trans (by first | exact c2_3 | simp [go_sem, c2_3, l2_0a, l2_0b, l2_0c, l2_0d, l2_1a, l2_1b, l2_1c, l2_1d, n2_0_1, m2_0_1, n2_1_0, m2_1_0])
  have fc3_1 : w3.frozen? ⟨w0.heap.size, 1, none⟩ = false := (hb3.frozen (p := ⟨w0.heap.size, 1, none⟩) (by first | omega | (simp <;> omega))).trans (by first | exact fc2_3 | simp [go_sem, fc2_3, l2_0a, l2_0b, l2_0c, l2_0d, l2_1a, l2_1b, l2_1c, l2_1d, n2_0_1, m2_0_1, n2_1_0, m2_1_0])
  have c3_2 : w3.cell? ⟨g, 0, none⟩ = some (.int .i64 (clr x (bothN x y))) := (hb3.cell (p := ⟨g, 0, none⟩) (by first | omega | (simp <;> omega))).trans (by first | (simp; done) | simp [go_sem, l2_0a, l2_0b, l2_0c, l2_0d, l2_1a, l2_1b, l2_1c, l2_1d, n2_0_1, m2_0_1, n2_1_0, m2_1_0, c2_2, c2_3, c2_0, c2_1, fc2_2, fc2_3, fc2_0, fc2_1])
  have fc3_2 : w3.frozen? ⟨g, 0, none⟩ = false := (hb3.frozen (p := ⟨g, 0, none⟩) (by first | omega | (simp <;> omega))).trans (by first | (simp; done) | simp [go_sem, l2_0a, l2_0b, l2_0c, l2_0d, l2_1a, l2_1b, l2_1c, l2_1d, n2_0_1, m2_0_1, n2_1_0, m2_1_0, c2_2, c2_3, c2_0, c2_1, fc2_2, fc2_3, fc2_0, fc2_1])
  have c3_3 : w3.cell? ⟨g, 1, none⟩ = some (.int .i64 (bothN x y)) := (hb3.cell (p := ⟨g, 1, none⟩) (by first | omega | (simp <;> omega))).trans (by first | (simp; done) | simp [go_sem, l2_0a, l2_0b, l2_0c, l2_0d, l2_1a, l2_1b, l2_1c, l2_1d, n2_0_1, m2_0_1, n2_1_0, m2_1_0, c2_2, c2_3, c2_0, c2_1, fc2_2, fc2_3, fc2_0, fc2_1])
  have fc3_3 : w3.frozen? ⟨g, 1, none⟩ = false := (hb3.frozen (p := ⟨g, 1, none⟩) (by first | omega | (simp <;> omega))).trans (by first | (simp; done) | simp [go_sem, l2_0a, l2_0b, l2_0c, l2_0d, l2_1a, l2_1b, l2_1c, l2_1d, n2_0_1, m2_0_1, n2_1_0, m2_1_0, c2_2, c2_3, c2_0, c2_1, fc2_2, fc2_3, fc2_0, fc2_1])
  have l3_0a : w0.heap.size < w3.heap.size := World.block_lt_of_cell? w3 _ c3_0
  have l3_0b : w0.heap.size < w3.heap.size + 1 := Nat.lt_succ_of_lt l3_0a
  have l3_0c : w0.heap.size < w3.heap.size + 1 + 1 := Nat.lt_succ_of_lt l3_0b
  have l3_0d : w0.heap.size < w3.heap.size + 1 + 1 + 1 := Nat.lt_succ_of_lt l3_0c
  have l3_1a : g < w3.heap.size := World.block_lt_of_cell? w3 _ c3_2
  have l3_1b : g < w3.heap.size + 1 := Nat.lt_succ_of_lt l3_1a
  have l3_1c : g < w3.heap.size + 1 + 1 := Nat.lt_succ_of_lt l3_1b
  have l3_1d : g < w3.heap.size + 1 + 1 + 1 := Nat.lt_succ_of_lt l3_1c
  have n3_0_1 : w0.heap.size ≠ g := by omega
  have m3_0_1 : g ≠ w0.heap.size := by omega
  have n3_1_0 : g ≠ w0.heap.size := by omega
  have m3_1_0 : w0.heap.size ≠ g := by omega
  clear c2_2 c2_3 c2_0 c2_1 fc2_2 fc2_3 fc2_0 fc2_1 l2_0a l2_0b l2_0c l2_0d l2_1a l2_1b l2_1c l2_1d n2_0_1 m2_0_1 n2_1_0 m2_1_0 hB2 hb3
  go_wp2
  go_ret
  exact ⟨rfl, hB3⟩
end Go.Proofs.YtcgeagobndhpjaaDoor
