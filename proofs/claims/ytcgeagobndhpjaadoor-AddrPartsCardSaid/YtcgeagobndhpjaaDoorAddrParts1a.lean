/- The law AddrParts, its parts: the first, of a prefix that is none. Any prefixes, any two numbers. -/
import Derived.Test.YtcgeagobndhpjaaDoorAddrParts0
namespace Go.Proofs.YtcgeagobndhpjaaDoor
set_option linter.unusedVariables false
set_option linter.unusedSimpArgs false
open Go.RowKit

set_option maxRecDepth 100000 in
set_option maxHeartbeats 8000000 in
theorem addrParts_1a (a n b m x y : Int) (w : World) (hg : ErrVar w) (hc : chk a n ≠ 0) (R : Ending → World → Prop)
    (h : ∀ a' w', APmid1 a n b m x y w a' w' → (tailN 20 (Tryd.f4.body.getD .skip)).wp Tryd.prog (bodyPost Tryd.prog Tryd.f4 R) a' w') :
    Calls Tryd.prog 4 #[.agg #[.int .i64 a, .int .i64 n], .agg #[.int .i64 b, .int .i64 m], .int .i64 x, .int .i64 y] w R := by
  have HG := Lib.hid hg
  clear hg
  have hz : (chk a n == 0) = false := by simpa using hc
  have hz' : (chk a n != 0) = true := by simpa using hc
  have HC := Lib.hid hc
  clear hc
  go_enter Tryd.func4, Tryd.ntmps4
  refine wp_cut 20 (APmid1 a n b m x y w) (by rfl) ?_ h
  clear h
  intro r HR
  dsimp only [putN]
  go_wp2_with fail
  refine (fault_any a n _).mono ?_
  rintro e w1 ⟨rfl, hb1⟩
  have hB1 : Below w.heap.size w w1 := Below.trans (by first | exact Below.refl _ _ | ((repeat' (first | exact Below.refl _ _ | refine Below.setCell ?_ ?_ _ | refine Below.alloc ?_ ?_ _ | refine Below.drew ?_)) <;> (first | omega | (simp <;> omega)))) (hb1.mono (by first | omega | (simp <;> omega)))
  have hs1 : w.heap.size ≤ w1.heap.size := hB1.size
  have ht1 := hb1.size
  try simp only [World.size_alloc, World.size_setCell] at ht1
  have c1_0 : w1.cell? ⟨w.heap.size, 0, none⟩ = some (.int .i64 a) := (hb1.cell (p := ⟨w.heap.size, 0, none⟩) (by first | omega | (simp <;> omega))).trans (by first | (simp; done) | simp [go_sem])
  have c1_1 : w1.cell? ⟨w.heap.size, 1, none⟩ = some (.int .i64 n) := (hb1.cell (p := ⟨w.heap.size, 1, none⟩) (by first | omega | (simp <;> omega))).trans (by first | (simp; done) | simp [go_sem])
  have c1_2 : w1.cell? ⟨w.heap.size + 1, 0, none⟩ = some (.int .i64 b) := (hb1.cell (p := ⟨w.heap.size + 1, 0, none⟩) (by first | omega | (simp <;> omega))).trans (by first | (simp; done) | simp [go_sem])
  have c1_3 : w1.cell? ⟨w.heap.size + 1, 1, none⟩ = some (.int .i64 m) := (hb1.cell (p := ⟨w.heap.size + 1, 1, none⟩) (by first | omega | (simp <;> omega))).trans (by first | (simp; done) | simp [go_sem])
  have l1_0a : w.heap.size < w1.heap.size := World.block_lt_of_cell? w1 _ c1_0
  have l1_0b : w.heap.size < w1.heap.size + 1 := Nat.lt_succ_of_lt l1_0a
  have l1_0c : w.heap.size < w1.heap.size + 1 + 1 := Nat.lt_succ_of_lt l1_0b
  have l1_0d : w.heap.size < w1.heap.size + 1 + 1 + 1 := Nat.lt_succ_of_lt l1_0c
  have l1_1a : w.heap.size + 1 < w1.heap.size := World.block_lt_of_cell? w1 _ c1_2
  have l1_1b : w.heap.size + 1 < w1.heap.size + 1 := Nat.lt_succ_of_lt l1_1a
  have l1_1c : w.heap.size + 1 < w1.heap.size + 1 + 1 := Nat.lt_succ_of_lt l1_1b
  have l1_1d : w.heap.size + 1 < w1.heap.size + 1 + 1 + 1 := Nat.lt_succ_of_lt l1_1c
  clear hb1
  go_wp2_with fail
  refine (ends_bad a n HC.out _).mono ?_
  rintro e w2 ⟨rfl, hb2⟩
  have hB2 : Below w.heap.size w w2 := Below.trans (by first | exact hB1 | ((repeat' (first | exact hB1 | refine Below.setCell ?_ ?_ _ | refine Below.alloc ?_ ?_ _ | refine Below.drew ?_)) <;> (first | omega | (simp <;> omega)))) (hb2.mono (by first | omega | (simp <;> omega)))
  have hs2 : w.heap.size ≤ w2.heap.size := hB2.size
  have ht2 := hb2.size
  try simp only [World.size_alloc, World.size_setCell] at ht2
  have c2_0 : w2.cell? ⟨w.heap.size, 0, none⟩ = some (.int .i64 a) := (hb2.cell (p := ⟨w.heap.size, 0, none⟩) (by first | omega | (simp <;> omega))).trans (by first | exact c1_0 | simp [go_sem, c1_0, l1_0a, l1_0b, l1_0c, l1_0d, l1_1a, l1_1b, l1_1c, l1_1d])
  have c2_1 : w2.cell? ⟨w.heap.size, 1, none⟩ = some (.int .i64 n) := (hb2.cell (p := ⟨w.heap.size, 1, none⟩) (by first | omega | (simp <;> omega))).trans (by first | exact c1_1 | simp [go_sem, c1_1, l1_0a, l1_0b, l1_0c, l1_0d, l1_1a, l1_1b, l1_1c, l1_1d])
  have c2_2 : w2.cell? ⟨w.heap.size + 1, 0, none⟩ = some (.int .i64 b) := (hb2.cell (p := ⟨w.heap.size + 1, 0, none⟩) (by first | omega | (simp <;> omega))).trans (by first | exact c1_2 | simp [go_sem, c1_2, l1_0a, l1_0b, l1_0c, l1_0d, l1_1a, l1_1b, l1_1c, l1_1d])
  have c2_3 : w2.cell? ⟨w.heap.size + 1, 1, none⟩ = some (.int .i64 m) := (hb2.cell (p := ⟨w.heap.size + 1, 1, none⟩) (by first | omega | (simp <;> omega))).trans (by first | exact c1_3 | simp [go_sem, c1_3, l1_0a, l1_0b, l1_0c, l1_0d, l1_1a, l1_1b, l1_1c, l1_1d])
  have l2_0a : w.heap.size < w2.heap.size := World.block_lt_of_cell? w2 _ c2_0
  have l2_0b : w.heap.size < w2.heap.size + 1 := Nat.lt_succ_of_lt l2_0a
  have l2_0c : w.heap.size < w2.heap.size + 1 + 1 := Nat.lt_succ_of_lt l2_0b
  have l2_0d : w.heap.size < w2.heap.size + 1 + 1 + 1 := Nat.lt_succ_of_lt l2_0c
  have l2_1a : w.heap.size + 1 < w2.heap.size := World.block_lt_of_cell? w2 _ c2_2
  have l2_1b : w.heap.size + 1 < w2.heap.size + 1 := Nat.lt_succ_of_lt l2_1a
  have l2_1c : w.heap.size + 1 < w2.heap.size + 1 + 1 := Nat.lt_succ_of_lt l2_1b
  have l2_1d : w.heap.size + 1 < w2.heap.size + 1 + 1 + 1 := Nat.lt_succ_of_lt l2_1c
  clear c1_0 c1_1 c1_2 c1_3 l1_0a l1_0b l1_0c l1_0d l1_1a l1_1b l1_1c l1_1d hB1 hb2
  go_wp2_with fail
  refine (error_same _ HC.out _ (by exact HG.out.belowB (show Below w.heap.size w _ from (by first | exact hB2 | ((repeat' (first | exact hB2 | refine Below.setCell ?_ ?_ _ | refine Below.alloc ?_ ?_ _ | refine Below.drew ?_)) <;> (first | omega | (simp <;> omega))))) HG.out.lt)).mono ?_
  rintro e w3 ⟨rfl, hb3⟩
  have hB3 : Below w.heap.size w w3 := Below.trans (by first | exact hB2 | ((repeat' (first | exact hB2 | refine Below.setCell ?_ ?_ _ | refine Below.alloc ?_ ?_ _ | refine Below.drew ?_)) <;> (first | omega | (simp <;> omega)))) (hb3.mono (by first | omega | (simp <;> omega)))
  have hs3 : w.heap.size ≤ w3.heap.size := hB3.size
  have ht3 := hb3.size
  try simp only [World.size_alloc, World.size_setCell] at ht3
  have c3_0 : w3.cell? ⟨w.heap.size, 0, none⟩ = some (.int .i64 a) := (hb3.cell (p := ⟨w.heap.size, 0, none⟩) (by first | omega | (simp <;> omega))).trans (by first | exact c2_0 | simp [go_sem, c2_0, l2_0a, l2_0b, l2_0c, l2_0d, l2_1a, l2_1b, l2_1c, l2_1d])
  have c3_1 : w3.cell? ⟨w.heap.size, 1, none⟩ = some (.int .i64 n) := (hb3.cell (p := ⟨w.heap.size, 1, none⟩) (by first | omega | (simp <;> omega))).trans (by first | exact c2_1 | simp [go_sem, c2_1, l2_0a, l2_0b, l2_0c, l2_0d, l2_1a, l2_1b, l2_1c, l2_1d])
  have c3_2 : w3.cell? ⟨w.heap.size + 1, 0, none⟩ = some (.int .i64 b) := (hb3.cell (p := ⟨w.heap.size + 1, 0, none⟩) (by first | omega | (simp <;> omega))).trans (by first | exact c2_2 | simp [go_sem, c2_2, l2_0a, l2_0b, l2_0c, l2_0d, l2_1a, l2_1b, l2_1c, l2_1d])
  have c3_3 : w3.cell? ⟨w.heap.size + 1, 1, none⟩ = some (.int .i64 m) := (hb3.cell (p := ⟨w.heap.size + 1, 1, none⟩) (by first | omega | (simp <;> omega))).trans (by first | exact c2_3 | simp [go_sem, c2_3, l2_0a, l2_0b, l2_0c, l2_0d, l2_1a, l2_1b, l2_1c, l2_1d])
  have l3_0a : w.heap.size < w3.heap.size := World.block_lt_of_cell? w3 _ c3_0
  have l3_0b : w.heap.size < w3.heap.size + 1 := Nat.lt_succ_of_lt l3_0a
  have l3_0c : w.heap.size < w3.heap.size + 1 + 1 := Nat.lt_succ_of_lt l3_0b
  have l3_0d : w.heap.size < w3.heap.size + 1 + 1 + 1 := Nat.lt_succ_of_lt l3_0c
  have l3_1a : w.heap.size + 1 < w3.heap.size := World.block_lt_of_cell? w3 _ c3_2
  have l3_1b : w.heap.size + 1 < w3.heap.size + 1 := Nat.lt_succ_of_lt l3_1a
  have l3_1c : w.heap.size + 1 < w3.heap.size + 1 + 1 := Nat.lt_succ_of_lt l3_1b
  have l3_1d : w.heap.size + 1 < w3.heap.size + 1 + 1 + 1 := Nat.lt_succ_of_lt l3_1c
  clear c2_0 c2_1 c2_2 c2_3 l2_0a l2_0b l2_0c l2_0d l2_1a l2_1b l2_1c l2_1d hB2 hb3
  go_wp2_with fail
  refine (halves_bad1 a n HC.out _).mono ?_
  rintro e w4 ⟨rfl, hb4⟩
  have hB4 : Below w.heap.size w w4 := Below.trans (by first | exact hB3 | ((repeat' (first | exact hB3 | refine Below.setCell ?_ ?_ _ | refine Below.alloc ?_ ?_ _ | refine Below.drew ?_)) <;> (first | omega | (simp <;> omega)))) (hb4.mono (by first | omega | (simp <;> omega)))
  have hs4 : w.heap.size ≤ w4.heap.size := hB4.size
  have ht4 := hb4.size
  try simp only [World.size_alloc, World.size_setCell] at ht4
  have c4_0 : w4.cell? ⟨w.heap.size, 0, none⟩ = some (.int .i64 a) := (hb4.cell (p := ⟨w.heap.size, 0, none⟩) (by first | omega | (simp <;> omega))).trans (by first | exact c3_0 | simp [go_sem, c3_0, l3_0a, l3_0b, l3_0c, l3_0d, l3_1a, l3_1b, l3_1c, l3_1d])
  have c4_1 : w4.cell? ⟨w.heap.size, 1, none⟩ = some (.int .i64 n) := (hb4.cell (p := ⟨w.heap.size, 1, none⟩) (by first | omega | (simp <;> omega))).trans (by first | exact c3_1 | simp [go_sem, c3_1, l3_0a, l3_0b, l3_0c, l3_0d, l3_1a, l3_1b, l3_1c, l3_1d])
  have c4_2 : w4.cell? ⟨w.heap.size + 1, 0, none⟩ = some (.int .i64 b) := (hb4.cell (p := ⟨w.heap.size + 1, 0, none⟩) (by first | omega | (simp <;> omega))).trans (by first | exact c3_2 | simp [go_sem, c3_2, l3_0a, l3_0b, l3_0c, l3_0d, l3_1a, l3_1b, l3_1c, l3_1d])
  have c4_3 : w4.cell? ⟨w.heap.size + 1, 1, none⟩ = some (.int .i64 m) := (hb4.cell (p := ⟨w.heap.size + 1, 1, none⟩) (by first | omega | (simp <;> omega))).trans (by first | exact c3_3 | simp [go_sem, c3_3, l3_0a, l3_0b, l3_0c, l3_0d, l3_1a, l3_1b, l3_1c, l3_1d])
  have c4_4 : w4.cell? ⟨w3.heap.size, 0, none⟩ = some (.int .i64 0) := (hb4.cell (p := ⟨w3.heap.size, 0, none⟩) (by first | omega | (simp <;> omega))).trans (by first | (simp; done) | simp [go_sem, l3_0a, l3_0b, l3_0c, l3_0d, l3_1a, l3_1b, l3_1c, l3_1d, c3_0, c3_1, c3_2, c3_3])
  have c4_5 : w4.cell? ⟨w3.heap.size, 1, none⟩ = some (.int .i64 0) := (hb4.cell (p := ⟨w3.heap.size, 1, none⟩) (by first | omega | (simp <;> omega))).trans (by first | (simp; done) | simp [go_sem, l3_0a, l3_0b, l3_0c, l3_0d, l3_1a, l3_1b, l3_1c, l3_1d, c3_0, c3_1, c3_2, c3_3])
  have c4_6 : w4.cell? ⟨w3.heap.size + 1, 0, none⟩ = some (.int .i64 0) := (hb4.cell (p := ⟨w3.heap.size + 1, 0, none⟩) (by first | omega | (simp <;> omega))).trans (by first | (simp; done) | simp [go_sem, l3_0a, l3_0b, l3_0c, l3_0d, l3_1a, l3_1b, l3_1c, l3_1d, c3_0, c3_1, c3_2, c3_3])
  have c4_7 : w4.cell? ⟨w3.heap.size + 1, 1, none⟩ = some (.int .i64 0) := (hb4.cell (p := ⟨w3.heap.size + 1, 1, none⟩) (by first | omega | (simp <;> omega))).trans (by first | (simp; done) | simp [go_sem, l3_0a, l3_0b, l3_0c, l3_0d, l3_1a, l3_1b, l3_1c, l3_1d, c3_0, c3_1, c3_2, c3_3])
  have l4_0a : w.heap.size < w4.heap.size := World.block_lt_of_cell? w4 _ c4_0
  have l4_0b : w.heap.size < w4.heap.size + 1 := Nat.lt_succ_of_lt l4_0a
  have l4_0c : w.heap.size < w4.heap.size + 1 + 1 := Nat.lt_succ_of_lt l4_0b
  have l4_0d : w.heap.size < w4.heap.size + 1 + 1 + 1 := Nat.lt_succ_of_lt l4_0c
  have l4_1a : w.heap.size + 1 < w4.heap.size := World.block_lt_of_cell? w4 _ c4_2
  have l4_1b : w.heap.size + 1 < w4.heap.size + 1 := Nat.lt_succ_of_lt l4_1a
  have l4_1c : w.heap.size + 1 < w4.heap.size + 1 + 1 := Nat.lt_succ_of_lt l4_1b
  have l4_1d : w.heap.size + 1 < w4.heap.size + 1 + 1 + 1 := Nat.lt_succ_of_lt l4_1c
  have l4_2a : w3.heap.size < w4.heap.size := World.block_lt_of_cell? w4 _ c4_4
  have l4_2b : w3.heap.size < w4.heap.size + 1 := Nat.lt_succ_of_lt l4_2a
  have l4_2c : w3.heap.size < w4.heap.size + 1 + 1 := Nat.lt_succ_of_lt l4_2b
  have l4_2d : w3.heap.size < w4.heap.size + 1 + 1 + 1 := Nat.lt_succ_of_lt l4_2c
  have l4_3a : w3.heap.size + 1 < w4.heap.size := World.block_lt_of_cell? w4 _ c4_6
  have l4_3b : w3.heap.size + 1 < w4.heap.size + 1 := Nat.lt_succ_of_lt l4_3a
  have l4_3c : w3.heap.size + 1 < w4.heap.size + 1 + 1 := Nat.lt_succ_of_lt l4_3b
  have l4_3d : w3.heap.size + 1 < w4.heap.size + 1 + 1 + 1 := Nat.lt_succ_of_lt l4_3c
  clear c3_0 c3_1 c3_2 c3_3 l3_0a l3_0b l3_0c l3_0d l3_1a l3_1b l3_1c l3_1d hB3 hb4
  go_wp2_with fail
  refine (error_same _ HC.out _ (by exact HG.out.belowB (show Below w.heap.size w _ from (by first | exact hB4 | ((repeat' (first | exact hB4 | refine Below.setCell ?_ ?_ _ | refine Below.alloc ?_ ?_ _ | refine Below.drew ?_)) <;> (first | omega | (simp <;> omega))))) HG.out.lt)).mono ?_
  rintro e w5 ⟨rfl, hb5⟩
  have hB5 : Below w.heap.size w w5 := Below.trans (by first | exact hB4 | ((repeat' (first | exact hB4 | refine Below.setCell ?_ ?_ _ | refine Below.alloc ?_ ?_ _ | refine Below.drew ?_)) <;> (first | omega | (simp <;> omega)))) (hb5.mono (by first | omega | (simp <;> omega)))
  have hs5 : w.heap.size ≤ w5.heap.size := hB5.size
  have ht5 := hb5.size
  try simp only [World.size_alloc, World.size_setCell] at ht5
  have c5_0 : w5.cell? ⟨w.heap.size, 0, none⟩ = some (.int .i64 a) := (hb5.cell (p := ⟨w.heap.size, 0, none⟩) (by first | omega | (simp <;> omega))).trans (by first | exact c4_0 | simp [go_sem, c4_0, l4_0a, l4_0b, l4_0c, l4_0d, l4_1a, l4_1b, l4_1c, l4_1d, l4_2a, l4_2b, l4_2c, l4_2d, l4_3a, l4_3b, l4_3c, l4_3d])
  have c5_1 : w5.cell? ⟨w.heap.size, 1, none⟩ = some (.int .i64 n) := (hb5.cell (p := ⟨w.heap.size, 1, none⟩) (by first | omega | (simp <;> omega))).trans (by first | exact c4_1 | simp [go_sem, c4_1, l4_0a, l4_0b, l4_0c, l4_0d, l4_1a, l4_1b, l4_1c, l4_1d, l4_2a, l4_2b, l4_2c, l4_2d, l4_3a, l4_3b, l4_3c, l4_3d])
  have c5_2 : w5.cell? ⟨w.heap.size + 1, 0, none⟩ = some (.int .i64 b) := (hb5.cell (p := ⟨w.heap.size + 1, 0, none⟩) (by first | omega | (simp <;> omega))).trans (by first | exact c4_2 | simp [go_sem, c4_2, l4_0a, l4_0b, l4_0c, l4_0d, l4_1a, l4_1b, l4_1c, l4_1d, l4_2a, l4_2b, l4_2c, l4_2d, l4_3a, l4_3b, l4_3c, l4_3d])
  have c5_3 : w5.cell? ⟨w.heap.size + 1, 1, none⟩ = some (.int .i64 m) := (hb5.cell (p := ⟨w.heap.size + 1, 1, none⟩) (by first | omega | (simp <;> omega))).trans (by first | exact c4_3 | simp [go_sem, c4_3, l4_0a, l4_0b, l4_0c, l4_0d, l4_1a, l4_1b, l4_1c, l4_1d, l4_2a, l4_2b, l4_2c, l4_2d, l4_3a, l4_3b, l4_3c, l4_3d])
  have c5_4 : w5.cell? ⟨w3.heap.size, 0, none⟩ = some (.int .i64 0) := (hb5.cell (p := ⟨w3.heap.size, 0, none⟩) (by first | omega | (simp <;> omega))).trans (by first | exact c4_4 | simp [go_sem, c4_4, l4_0a, l4_0b, l4_0c, l4_0d, l4_1a, l4_1b, l4_1c, l4_1d, l4_2a, l4_2b, l4_2c, l4_2d, l4_3a, l4_3b, l4_3c, l4_3d])
  have c5_5 : w5.cell? ⟨w3.heap.size, 1, none⟩ = some (.int .i64 0) := (hb5.cell (p := ⟨w3.heap.size, 1, none⟩) (by first | omega | (simp <;> omega))).trans (by first | exact c4_5 | simp [go_sem, c4_5, l4_0a, l4_0b, l4_0c, l4_0d, l4_1a, l4_1b, l4_1c, l4_1d, l4_2a, l4_2b, l4_2c, l4_2d, l4_3a, l4_3b, l4_3c, l4_3d])
  have c5_6 : w5.cell? ⟨w3.heap.size + 1, 0, none⟩ = some (.int .i64 0) := (hb5.cell (p := ⟨w3.heap.size + 1, 0, none⟩) (by first | omega | (simp <;> omega))).trans (by first | exact c4_6 | simp [go_sem, c4_6, l4_0a, l4_0b, l4_0c, l4_0d, l4_1a, l4_1b, l4_1c, l4_1d, l4_2a, l4_2b, l4_2c, l4_2d, l4_3a, l4_3b, l4_3c, l4_3d])
  have c5_7 : w5.cell? ⟨w3.heap.size + 1, 1, none⟩ = some (.int .i64 0) := (hb5.cell (p := ⟨w3.heap.size + 1, 1, none⟩) (by first | omega | (simp <;> omega))).trans (by first | exact c4_7 | simp [go_sem, c4_7, l4_0a, l4_0b, l4_0c, l4_0d, l4_1a, l4_1b, l4_1c, l4_1d, l4_2a, l4_2b, l4_2c, l4_2d, l4_3a, l4_3b, l4_3c, l4_3d])
  have c5_8 : w5.cell? ⟨w4.heap.size, 0, none⟩ = some (.int .i64 0) := (hb5.cell (p := ⟨w4.heap.size, 0, none⟩) (by first | omega | (simp <;> omega))).trans (by first | (simp; done) | simp [go_sem, l4_0a, l4_0b, l4_0c, l4_0d, l4_1a, l4_1b, l4_1c, l4_1d, l4_2a, l4_2b, l4_2c, l4_2d, l4_3a, l4_3b, l4_3c, l4_3d, c4_0, c4_1, c4_2, c4_3, c4_4, c4_5, c4_6, c4_7])
  have fc5_8 : w5.frozen? ⟨w4.heap.size, 0, none⟩ = false := (hb5.frozen (p := ⟨w4.heap.size, 0, none⟩) (by first | omega | (simp <;> omega))).trans (by first | (simp; done) | simp [go_sem, l4_0a, l4_0b, l4_0c, l4_0d, l4_1a, l4_1b, l4_1c, l4_1d, l4_2a, l4_2b, l4_2c, l4_2d, l4_3a, l4_3b, l4_3c, l4_3d, c4_0, c4_1, c4_2, c4_3, c4_4, c4_5, c4_6, c4_7])
  have c5_9 : w5.cell? ⟨w4.heap.size, 1, none⟩ = some (.int .i64 0) := (hb5.cell (p := ⟨w4.heap.size, 1, none⟩) (by first | omega | (simp <;> omega))).trans (by first | (simp; done) | simp [go_sem, l4_0a, l4_0b, l4_0c, l4_0d, l4_1a, l4_1b, l4_1c, l4_1d, l4_2a, l4_2b, l4_2c, l4_2d, l4_3a, l4_3b, l4_3c, l4_3d, c4_0, c4_1, c4_2, c4_3, c4_4, c4_5, c4_6, c4_7])
  have fc5_9 : w5.frozen? ⟨w4.heap.size, 1, none⟩ = false := (hb5.frozen (p := ⟨w4.heap.size, 1, none⟩) (by first | omega | (simp <;> omega))).trans (by first | (simp; done) | simp [go_sem, l4_0a, l4_0b, l4_0c, l4_0d, l4_1a, l4_1b, l4_1c, l4_1d, l4_2a, l4_2b, l4_2c, l4_2d, l4_3a, l4_3b, l4_3c, l4_3d, c4_0, c4_1, c4_2, c4_3, c4_4, c4_5, c4_6, c4_7])
  have c5_10 : w5.cell? ⟨w4.heap.size + 1, 0, none⟩ = some (.int .i64 0) := (hb5.cell (p := ⟨w4.heap.size + 1, 0, none⟩) (by first | omega | (simp <;> omega))).trans (by first | (simp; done) | simp [go_sem, l4_0a, l4_0b, l4_0c, l4_0d, l4_1a, l4_1b, l4_1c, l4_1d, l4_2a, l4_2b, l4_2c, l4_2d, l4_3a, l4_3b, l4_3c, l4_3d, c4_0, c4_1, c4_2, c4_3, c4_4, c4_5, c4_6, c4_7])
  have c5_11 : w5.cell? ⟨w4.heap.size + 1, 1, none⟩ = some (.int .i64 0) := (hb5.cell (p := ⟨w4.heap.size + 1, 1, none⟩) (by first | omega | (simp <;> omega))).trans (by first | (simp; done) | simp [go_sem, l4_0a, l4_0b, l4_0c, l4_0d, l4_1a, l4_1b, l4_1c, l4_1d, l4_2a, l4_2b, l4_2c, l4_2d, l4_3a, l4_3b, l4_3c, l4_3d, c4_0, c4_1, c4_2, c4_3, c4_4, c4_5, c4_6, c4_7])
  have l5_0a : w.heap.size < w5.heap.size := World.block_lt_of_cell? w5 _ c5_0
  have l5_0b : w.heap.size < w5.heap.size + 1 := Nat.lt_succ_of_lt l5_0a
  have l5_0c : w.heap.size < w5.heap.size + 1 + 1 := Nat.lt_succ_of_lt l5_0b
  have l5_0d : w.heap.size < w5.heap.size + 1 + 1 + 1 := Nat.lt_succ_of_lt l5_0c
  have l5_1a : w.heap.size + 1 < w5.heap.size := World.block_lt_of_cell? w5 _ c5_2
  have l5_1b : w.heap.size + 1 < w5.heap.size + 1 := Nat.lt_succ_of_lt l5_1a
  have l5_1c : w.heap.size + 1 < w5.heap.size + 1 + 1 := Nat.lt_succ_of_lt l5_1b
  have l5_1d : w.heap.size + 1 < w5.heap.size + 1 + 1 + 1 := Nat.lt_succ_of_lt l5_1c
  have l5_2a : w3.heap.size < w5.heap.size := World.block_lt_of_cell? w5 _ c5_4
  have l5_2b : w3.heap.size < w5.heap.size + 1 := Nat.lt_succ_of_lt l5_2a
  have l5_2c : w3.heap.size < w5.heap.size + 1 + 1 := Nat.lt_succ_of_lt l5_2b
  have l5_2d : w3.heap.size < w5.heap.size + 1 + 1 + 1 := Nat.lt_succ_of_lt l5_2c
  have l5_3a : w3.heap.size + 1 < w5.heap.size := World.block_lt_of_cell? w5 _ c5_6
  have l5_3b : w3.heap.size + 1 < w5.heap.size + 1 := Nat.lt_succ_of_lt l5_3a
  have l5_3c : w3.heap.size + 1 < w5.heap.size + 1 + 1 := Nat.lt_succ_of_lt l5_3b
  have l5_3d : w3.heap.size + 1 < w5.heap.size + 1 + 1 + 1 := Nat.lt_succ_of_lt l5_3c
  have l5_4a : w4.heap.size < w5.heap.size := World.block_lt_of_cell? w5 _ c5_8
  have l5_4b : w4.heap.size < w5.heap.size + 1 := Nat.lt_succ_of_lt l5_4a
  have l5_4c : w4.heap.size < w5.heap.size + 1 + 1 := Nat.lt_succ_of_lt l5_4b
  have l5_4d : w4.heap.size < w5.heap.size + 1 + 1 + 1 := Nat.lt_succ_of_lt l5_4c
  have l5_5a : w4.heap.size + 1 < w5.heap.size := World.block_lt_of_cell? w5 _ c5_10
  have l5_5b : w4.heap.size + 1 < w5.heap.size + 1 := Nat.lt_succ_of_lt l5_5a
  have l5_5c : w4.heap.size + 1 < w5.heap.size + 1 + 1 := Nat.lt_succ_of_lt l5_5b
  have l5_5d : w4.heap.size + 1 < w5.heap.size + 1 + 1 + 1 := Nat.lt_succ_of_lt l5_5c
  have n5_4_0 : w4.heap.size ≠ w.heap.size := by omega
  have m5_4_0 : w.heap.size ≠ w4.heap.size := by omega
  have n5_4_1 : w4.heap.size ≠ w.heap.size + 1 := by omega
  have m5_4_1 : w.heap.size + 1 ≠ w4.heap.size := by omega
  have n5_4_2 : w4.heap.size ≠ w3.heap.size := by omega
  have m5_4_2 : w3.heap.size ≠ w4.heap.size := by omega
  have n5_4_3 : w4.heap.size ≠ w3.heap.size + 1 := by omega
  have m5_4_3 : w3.heap.size + 1 ≠ w4.heap.size := by omega
  have n5_4_5 : w4.heap.size ≠ w4.heap.size + 1 := by omega
  have m5_4_5 : w4.heap.size + 1 ≠ w4.heap.size := by omega
  clear c4_0 c4_1 c4_2 c4_3 c4_4 c4_5 c4_6 c4_7 l4_0a l4_0b l4_0c l4_0d l4_1a l4_1b l4_1c l4_1d l4_2a l4_2b l4_2c l4_2d l4_3a l4_3b l4_3c l4_3d hB4 hb5
  go_wp2_with fail
  refine (prefixes_same (some ⟨w5.heap.size, 0, none⟩) (some ⟨w5.heap.size + 1, 0, none⟩) [(0, 0), (0, 0)] [(0, 0), (0, 0)] 2 2 2 2 rfl rfl (show 2 ≤ maxLen by decide) rfl _ (((rd_new w5 [(0, 0), (0, 0)] #[.int .i64 0, .int .i64 0, .int .i64 0, .int .i64 0] 23 _ rfl rfl).alloc (Nat.le_refl _) (.cells #[.int .i64 0, .int .i64 0, .int .i64 0, .int .i64 0] 23)).more (by simp)) (rd_new (w5.alloc (.cells #[.int .i64 0, .int .i64 0, .int .i64 0, .int .i64 0] 23)) [(0, 0), (0, 0)] #[.int .i64 0, .int .i64 0, .int .i64 0, .int .i64 0] 23 _ (by simp) rfl)).mono ?_
  rintro e w6 ⟨rfl, hb6⟩
  have hB6 : Below w.heap.size w w6 := Below.trans (by first | exact hB5 | ((repeat' (first | exact hB5 | refine Below.setCell ?_ ?_ _ | refine Below.alloc ?_ ?_ _ | refine Below.drew ?_)) <;> (first | omega | (simp <;> omega)))) (hb6.mono (by first | omega | (simp <;> omega)))
  have hs6 : w.heap.size ≤ w6.heap.size := hB6.size
  have ht6 := hb6.size
  try simp only [World.size_alloc, World.size_setCell] at ht6
  have c6_0 : w6.cell? ⟨w.heap.size, 0, none⟩ = some (.int .i64 a) := (hb6.cell (p := ⟨w.heap.size, 0, none⟩) (by first | omega | (simp <;> omega))).trans (by first | exact c5_0 | simp [go_sem, c5_0, l5_0a, l5_0b, l5_0c, l5_0d, l5_1a, l5_1b, l5_1c, l5_1d, l5_2a, l5_2b, l5_2c, l5_2d, l5_3a, l5_3b, l5_3c, l5_3d, l5_4a, l5_4b, l5_4c, l5_4d, l5_5a, l5_5b, l5_5c, l5_5d, n5_4_0, m5_4_0, n5_4_1, m5_4_1, n5_4_2, m5_4_2, n5_4_3, m5_4_3, n5_4_5, m5_4_5])
  have c6_1 : w6.cell? ⟨w.heap.size, 1, none⟩ = some (.int .i64 n) := (hb6.cell (p := ⟨w.heap.size, 1, none⟩) (by first | omega | (simp <;> omega))).trans (by first | exact c5_1 | simp [go_sem, c5_1, l5_0a, l5_0b, l5_0c, l5_0d, l5_1a, l5_1b, l5_1c, l5_1d, l5_2a, l5_2b, l5_2c, l5_2d, l5_3a, l5_3b, l5_3c, l5_3d, l5_4a, l5_4b, l5_4c, l5_4d, l5_5a, l5_5b, l5_5c, l5_5d, n5_4_0, m5_4_0, n5_4_1, m5_4_1, n5_4_2, m5_4_2, n5_4_3, m5_4_3, n5_4_5, m5_4_5])
  have c6_2 : w6.cell? ⟨w.heap.size + 1, 0, none⟩ = some (.int .i64 b) := (hb6.cell (p := ⟨w.heap.size + 1, 0, none⟩) (by first | omega | (simp <;> omega))).trans (by first | exact c5_2 | simp [go_sem, c5_2, l5_0a, l5_0b, l5_0c, l5_0d, l5_1a, l5_1b, l5_1c, l5_1d, l5_2a, l5_2b, l5_2c, l5_2d, l5_3a, l5_3b, l5_3c, l5_3d, l5_4a, l5_4b, l5_4c, l5_4d, l5_5a, l5_5b, l5_5c, l5_5d, n5_4_0, m5_4_0, n5_4_1, m5_4_1, n5_4_2, m5_4_2, n5_4_3, m5_4_3, n5_4_5, m5_4_5])
  have c6_3 : w6.cell? ⟨w.heap.size + 1, 1, none⟩ = some (.int .i64 m) := (hb6.cell (p := ⟨w.heap.size + 1, 1, none⟩) (by first | omega | (simp <;> omega))).trans (by first | exact c5_3 | simp [go_sem, c5_3, l5_0a, l5_0b, l5_0c, l5_0d, l5_1a, l5_1b, l5_1c, l5_1d, l5_2a, l5_2b, l5_2c, l5_2d, l5_3a, l5_3b, l5_3c, l5_3d, l5_4a, l5_4b, l5_4c, l5_4d, l5_5a, l5_5b, l5_5c, l5_5d, n5_4_0, m5_4_0, n5_4_1, m5_4_1, n5_4_2, m5_4_2, n5_4_3, m5_4_3, n5_4_5, m5_4_5])
  have c6_4 : w6.cell? ⟨w3.heap.size, 0, none⟩ = some (.int .i64 0) := (hb6.cell (p := ⟨w3.heap.size, 0, none⟩) (by first | omega | (simp <;> omega))).trans (by first | exact c5_4 | simp [go_sem, c5_4, l5_0a, l5_0b, l5_0c, l5_0d, l5_1a, l5_1b, l5_1c, l5_1d, l5_2a, l5_2b, l5_2c, l5_2d, l5_3a, l5_3b, l5_3c, l5_3d, l5_4a, l5_4b, l5_4c, l5_4d, l5_5a, l5_5b, l5_5c, l5_5d, n5_4_0, m5_4_0, n5_4_1, m5_4_1, n5_4_2, m5_4_2, n5_4_3, m5_4_3, n5_4_5, m5_4_5])
  have c6_5 : w6.cell? ⟨w3.heap.size, 1, none⟩ = some (.int .i64 0) := (hb6.cell (p := ⟨w3.heap.size, 1, none⟩) (by first | omega | (simp <;> omega))).trans (by first | exact c5_5 | simp [go_sem, c5_5, l5_0a, l5_0b, l5_0c, l5_0d, l5_1a, l5_1b, l5_1c, l5_1d, l5_2a, l5_2b, l5_2c, l5_2d, l5_3a, l5_3b, l5_3c, l5_3d, l5_4a, l5_4b, l5_4c, l5_4d, l5_5a, l5_5b, l5_5c, l5_5d, n5_4_0, m5_4_0, n5_4_1, m5_4_1, n5_4_2, m5_4_2, n5_4_3, m5_4_3, n5_4_5, m5_4_5])
  have c6_6 : w6.cell? ⟨w3.heap.size + 1, 0, none⟩ = some (.int .i64 0) := (hb6.cell (p := ⟨w3.heap.size + 1, 0, none⟩) (by first | omega | (simp <;> omega))).trans (by first | exact c5_6 | simp [go_sem, c5_6, l5_0a, l5_0b, l5_0c, l5_0d, l5_1a, l5_1b, l5_1c, l5_1d, l5_2a, l5_2b, l5_2c, l5_2d, l5_3a, l5_3b, l5_3c, l5_3d, l5_4a, l5_4b, l5_4c, l5_4d, l5_5a, l5_5b, l5_5c, l5_5d, n5_4_0, m5_4_0, n5_4_1, m5_4_1, n5_4_2, m5_4_2, n5_4_3, m5_4_3, n5_4_5, m5_4_5])
  have c6_7 : w6.cell? ⟨w3.heap.size + 1, 1, none⟩ = some (.int .i64 0) := (hb6.cell (p := ⟨w3.heap.size + 1, 1, none⟩) (by first | omega | (simp <;> omega))).trans (by first | exact c5_7 | simp [go_sem, c5_7, l5_0a, l5_0b, l5_0c, l5_0d, l5_1a, l5_1b, l5_1c, l5_1d, l5_2a, l5_2b, l5_2c, l5_2d, l5_3a, l5_3b, l5_3c, l5_3d, l5_4a, l5_4b, l5_4c, l5_4d, l5_5a, l5_5b, l5_5c, l5_5d, n5_4_0, m5_4_0, n5_4_1, m5_4_1, n5_4_2, m5_4_2, n5_4_3, m5_4_3, n5_4_5, m5_4_5])
  have c6_8 : w6.cell? ⟨w4.heap.size, 0, none⟩ = some (.int .i64 0) := (hb6.cell (p := ⟨w4.heap.size, 0, none⟩) (by first | omega | (simp <;> omega))).trans (by first | exact c5_8 | simp [go_sem, c5_8, l5_0a, l5_0b, l5_0c, l5_0d, l5_1a, l5_1b, l5_1c, l5_1d, l5_2a, l5_2b, l5_2c, l5_2d, l5_3a, l5_3b, l5_3c, l5_3d, l5_4a, l5_4b, l5_4c, l5_4d, l5_5a, l5_5b, l5_5c, l5_5d, n5_4_0, m5_4_0, n5_4_1, m5_4_1, n5_4_2, m5_4_2, n5_4_3, m5_4_3, n5_4_5, m5_4_5])
  have fc6_8 : w6.frozen? ⟨w4.heap.size, 0, none⟩ = false := (hb6.frozen (p := ⟨w4.heap.size, 0, none⟩) (by first | omega | (simp <;> omega))).trans (by first | exact fc5_8 | simp [go_sem, fc5_8, l5_0a, l5_0b, l5_0c, l5_0d, l5_1a, l5_1b, l5_1c, l5_1d, l5_2a, l5_2b, l5_2c, l5_2d, l5_3a, l5_3b, l5_3c, l5_3d, l5_4a, l5_4b, l5_4c, l5_4d, l5_5a, l5_5b, l5_5c, l5_5d, n5_4_0, m5_4_0, n5_4_1, m5_4_1, n5_4_2, m5_4_2, n5_4_3, m5_4_3, n5_4_5, m5_4_5])
  have c6_9 : w6.cell? ⟨w4.heap.size, 1, none⟩ = some (.int .i64 0) := (hb6.cell (p := ⟨w4.heap.size, 1, none⟩) (by first | omega | (simp <;> omega))).trans (by first | exact c5_9 | simp [go_sem, c5_9, l5_0a, l5_0b, l5_0c, l5_0d, l5_1a, l5_1b, l5_1c, l5_1d, l5_2a, l5_2b, l5_2c, l5_2d, l5_3a, l5_3b, l5_3c, l5_3d, l5_4a, l5_4b, l5_4c, l5_4d, l5_5a, l5_5b, l5_5c, l5_5d, n5_4_0, m5_4_0, n5_4_1, m5_4_1, n5_4_2, m5_4_2, n5_4_3, m5_4_3, n5_4_5, m5_4_5])
  have fc6_9 : w6.frozen? ⟨w4.heap.size, 1, none⟩ = false := (hb6.frozen (p := ⟨w4.heap.size, 1, none⟩) (by first | omega | (simp <;> omega))).trans (by first | exact fc5_9 | simp [go_sem, fc5_9, l5_0a, l5_0b, l5_0c, l5_0d, l5_1a, l5_1b, l5_1c, l5_1d, l5_2a, l5_2b, l5_2c, l5_2d, l5_3a, l5_3b, l5_3c, l5_3d, l5_4a, l5_4b, l5_4c, l5_4d, l5_5a, l5_5b, l5_5c, l5_5d, n5_4_0, m5_4_0, n5_4_1, m5_4_1, n5_4_2, m5_4_2, n5_4_3, m5_4_3, n5_4_5, m5_4_5])
  have c6_10 : w6.cell? ⟨w4.heap.size + 1, 0, none⟩ = some (.int .i64 0) := (hb6.cell (p := ⟨w4.heap.size + 1, 0, none⟩) (by first | omega | (simp <;> omega))).trans (by first | exact c5_10 | simp [go_sem, c5_10, l5_0a, l5_0b, l5_0c, l5_0d, l5_1a, l5_1b, l5_1c, l5_1d, l5_2a, l5_2b, l5_2c, l5_2d, l5_3a, l5_3b, l5_3c, l5_3d, l5_4a, l5_4b, l5_4c, l5_4d, l5_5a, l5_5b, l5_5c, l5_5d, n5_4_0, m5_4_0, n5_4_1, m5_4_1, n5_4_2, m5_4_2, n5_4_3, m5_4_3, n5_4_5, m5_4_5])
  have c6_11 : w6.cell? ⟨w4.heap.size + 1, 1, none⟩ = some (.int .i64 0) := (hb6.cell (p := ⟨w4.heap.size + 1, 1, none⟩) (by first | omega | (simp <;> omega))).trans (by first | exact c5_11 | simp [go_sem, c5_11, l5_0a, l5_0b, l5_0c, l5_0d, l5_1a, l5_1b, l5_1c, l5_1d, l5_2a, l5_2b, l5_2c, l5_2d, l5_3a, l5_3b, l5_3c, l5_3d, l5_4a, l5_4b, l5_4c, l5_4d, l5_5a, l5_5b, l5_5c, l5_5d, n5_4_0, m5_4_0, n5_4_1, m5_4_1, n5_4_2, m5_4_2, n5_4_3, m5_4_3, n5_4_5, m5_4_5])
  have l6_0a : w.heap.size < w6.heap.size := World.block_lt_of_cell? w6 _ c6_0
  have l6_0b : w.heap.size < w6.heap.size + 1 := Nat.lt_succ_of_lt l6_0a
  have l6_0c : w.heap.size < w6.heap.size + 1 + 1 := Nat.lt_succ_of_lt l6_0b
  have l6_0d : w.heap.size < w6.heap.size + 1 + 1 + 1 := Nat.lt_succ_of_lt l6_0c
  have l6_1a : w.heap.size + 1 < w6.heap.size := World.block_lt_of_cell? w6 _ c6_2
  have l6_1b : w.heap.size + 1 < w6.heap.size + 1 := Nat.lt_succ_of_lt l6_1a
  have l6_1c : w.heap.size + 1 < w6.heap.size + 1 + 1 := Nat.lt_succ_of_lt l6_1b
  have l6_1d : w.heap.size + 1 < w6.heap.size + 1 + 1 + 1 := Nat.lt_succ_of_lt l6_1c
  have l6_2a : w3.heap.size < w6.heap.size := World.block_lt_of_cell? w6 _ c6_4
  have l6_2b : w3.heap.size < w6.heap.size + 1 := Nat.lt_succ_of_lt l6_2a
  have l6_2c : w3.heap.size < w6.heap.size + 1 + 1 := Nat.lt_succ_of_lt l6_2b
  have l6_2d : w3.heap.size < w6.heap.size + 1 + 1 + 1 := Nat.lt_succ_of_lt l6_2c
  have l6_3a : w3.heap.size + 1 < w6.heap.size := World.block_lt_of_cell? w6 _ c6_6
  have l6_3b : w3.heap.size + 1 < w6.heap.size + 1 := Nat.lt_succ_of_lt l6_3a
  have l6_3c : w3.heap.size + 1 < w6.heap.size + 1 + 1 := Nat.lt_succ_of_lt l6_3b
  have l6_3d : w3.heap.size + 1 < w6.heap.size + 1 + 1 + 1 := Nat.lt_succ_of_lt l6_3c
  have l6_4a : w4.heap.size < w6.heap.size := World.block_lt_of_cell? w6 _ c6_8
  have l6_4b : w4.heap.size < w6.heap.size + 1 := Nat.lt_succ_of_lt l6_4a
  have l6_4c : w4.heap.size < w6.heap.size + 1 + 1 := Nat.lt_succ_of_lt l6_4b
  have l6_4d : w4.heap.size < w6.heap.size + 1 + 1 + 1 := Nat.lt_succ_of_lt l6_4c
  have l6_5a : w4.heap.size + 1 < w6.heap.size := World.block_lt_of_cell? w6 _ c6_10
  have l6_5b : w4.heap.size + 1 < w6.heap.size + 1 := Nat.lt_succ_of_lt l6_5a
  have l6_5c : w4.heap.size + 1 < w6.heap.size + 1 + 1 := Nat.lt_succ_of_lt l6_5b
  have l6_5d : w4.heap.size + 1 < w6.heap.size + 1 + 1 + 1 := Nat.lt_succ_of_lt l6_5c
  have n6_4_0 : w4.heap.size ≠ w.heap.size := by omega
  have m6_4_0 : w.heap.size ≠ w4.heap.size := by omega
  have n6_4_1 : w4.heap.size ≠ w.heap.size + 1 := by omega
  have m6_4_1 : w.heap.size + 1 ≠ w4.heap.size := by omega
  have n6_4_2 : w4.heap.size ≠ w3.heap.size := by omega
  have m6_4_2 : w3.heap.size ≠ w4.heap.size := by omega
  have n6_4_3 : w4.heap.size ≠ w3.heap.size + 1 := by omega
  have m6_4_3 : w3.heap.size + 1 ≠ w4.heap.size := by omega
  have n6_4_5 : w4.heap.size ≠ w4.heap.size + 1 := by omega
  have m6_4_5 : w4.heap.size + 1 ≠ w4.heap.size := by omega
  clear c5_0 c5_1 c5_2 c5_3 c5_4 c5_5 c5_6 c5_7 c5_8 c5_9 c5_10 c5_11 fc5_8 fc5_9 l5_0a l5_0b l5_0c l5_0d l5_1a l5_1b l5_1c l5_1d l5_2a l5_2b l5_2c l5_2d l5_3a l5_3b l5_3c l5_3d l5_4a l5_4b l5_4c l5_4d l5_5a l5_5b l5_5c l5_5d n5_4_0 m5_4_0 n5_4_1 m5_4_1 n5_4_2 m5_4_2 n5_4_3 m5_4_3 n5_4_5 m5_4_5 hB5 hb6
  clear c6_4 c6_5
  clear c6_6 c6_7
  clear c6_10 c6_11
  go_wp2_with fail
  refine (up_bad a n HC.out _).mono ?_
  rintro e w7 ⟨rfl, hb7⟩
  have hB7 : Below w.heap.size w w7 := Below.trans (by first | exact hB6 | ((repeat' (first | exact hB6 | refine Below.setCell ?_ ?_ _ | refine Below.alloc ?_ ?_ _ | refine Below.drew ?_)) <;> (first | omega | (simp <;> omega)))) (hb7.mono (by first | omega | (simp <;> omega)))
  have hs7 : w.heap.size ≤ w7.heap.size := hB7.size
  have ht7 := hb7.size
  try simp only [World.size_alloc, World.size_setCell] at ht7
  have c7_0 : w7.cell? ⟨w.heap.size, 0, none⟩ = some (.int .i64 a) := (hb7.cell (p := ⟨w.heap.size, 0, none⟩) (by first | omega | (simp <;> omega))).trans (by first | exact c6_0 | simp [go_sem, c6_0, l6_0a, l6_0b, l6_0c, l6_0d, l6_1a, l6_1b, l6_1c, l6_1d, l6_2a, l6_2b, l6_2c, l6_2d, l6_3a, l6_3b, l6_3c, l6_3d, l6_4a, l6_4b, l6_4c, l6_4d, l6_5a, l6_5b, l6_5c, l6_5d, n6_4_0, m6_4_0, n6_4_1, m6_4_1, n6_4_2, m6_4_2, n6_4_3, m6_4_3, n6_4_5, m6_4_5])
  have c7_1 : w7.cell? ⟨w.heap.size, 1, none⟩ = some (.int .i64 n) := (hb7.cell (p := ⟨w.heap.size, 1, none⟩) (by first | omega | (simp <;> omega))).trans (by first | exact c6_1 | simp [go_sem, c6_1, l6_0a, l6_0b, l6_0c, l6_0d, l6_1a, l6_1b, l6_1c, l6_1d, l6_2a, l6_2b, l6_2c, l6_2d, l6_3a, l6_3b, l6_3c, l6_3d, l6_4a, l6_4b, l6_4c, l6_4d, l6_5a, l6_5b, l6_5c, l6_5d, n6_4_0, m6_4_0, n6_4_1, m6_4_1, n6_4_2, m6_4_2, n6_4_3, m6_4_3, n6_4_5, m6_4_5])
  have c7_2 : w7.cell? ⟨w.heap.size + 1, 0, none⟩ = some (.int .i64 b) := (hb7.cell (p := ⟨w.heap.size + 1, 0, none⟩) (by first | omega | (simp <;> omega))).trans (by first | exact c6_2 | simp [go_sem, c6_2, l6_0a, l6_0b, l6_0c, l6_0d, l6_1a, l6_1b, l6_1c, l6_1d, l6_2a, l6_2b, l6_2c, l6_2d, l6_3a, l6_3b, l6_3c, l6_3d, l6_4a, l6_4b, l6_4c, l6_4d, l6_5a, l6_5b, l6_5c, l6_5d, n6_4_0, m6_4_0, n6_4_1, m6_4_1, n6_4_2, m6_4_2, n6_4_3, m6_4_3, n6_4_5, m6_4_5])
  have c7_3 : w7.cell? ⟨w.heap.size + 1, 1, none⟩ = some (.int .i64 m) := (hb7.cell (p := ⟨w.heap.size + 1, 1, none⟩) (by first | omega | (simp <;> omega))).trans (by first | exact c6_3 | simp [go_sem, c6_3, l6_0a, l6_0b, l6_0c, l6_0d, l6_1a, l6_1b, l6_1c, l6_1d, l6_2a, l6_2b, l6_2c, l6_2d, l6_3a, l6_3b, l6_3c, l6_3d, l6_4a, l6_4b, l6_4c, l6_4d, l6_5a, l6_5b, l6_5c, l6_5d, n6_4_0, m6_4_0, n6_4_1, m6_4_1, n6_4_2, m6_4_2, n6_4_3, m6_4_3, n6_4_5, m6_4_5])
  have c7_4 : w7.cell? ⟨w4.heap.size, 0, none⟩ = some (.int .i64 0) := (hb7.cell (p := ⟨w4.heap.size, 0, none⟩) (by first | omega | (simp <;> omega))).trans (by first | exact c6_8 | simp [go_sem, c6_8, l6_0a, l6_0b, l6_0c, l6_0d, l6_1a, l6_1b, l6_1c, l6_1d, l6_2a, l6_2b, l6_2c, l6_2d, l6_3a, l6_3b, l6_3c, l6_3d, l6_4a, l6_4b, l6_4c, l6_4d, l6_5a, l6_5b, l6_5c, l6_5d, n6_4_0, m6_4_0, n6_4_1, m6_4_1, n6_4_2, m6_4_2, n6_4_3, m6_4_3, n6_4_5, m6_4_5])
  have fc7_4 : w7.frozen? ⟨w4.heap.size, 0, none⟩ = false := (hb7.frozen (p := ⟨w4.heap.size, 0, none⟩) (by first | omega | (simp <;> omega))).trans (by first | exact fc6_8 | simp [go_sem, fc6_8, l6_0a, l6_0b, l6_0c, l6_0d, l6_1a, l6_1b, l6_1c, l6_1d, l6_2a, l6_2b, l6_2c, l6_2d, l6_3a, l6_3b, l6_3c, l6_3d, l6_4a, l6_4b, l6_4c, l6_4d, l6_5a, l6_5b, l6_5c, l6_5d, n6_4_0, m6_4_0, n6_4_1, m6_4_1, n6_4_2, m6_4_2, n6_4_3, m6_4_3, n6_4_5, m6_4_5])
  have c7_5 : w7.cell? ⟨w4.heap.size, 1, none⟩ = some (.int .i64 0) := (hb7.cell (p := ⟨w4.heap.size, 1, none⟩) (by first | omega | (simp <;> omega))).trans (by first | exact c6_9 | simp [go_sem, c6_9, l6_0a, l6_0b, l6_0c, l6_0d, l6_1a, l6_1b, l6_1c, l6_1d, l6_2a, l6_2b, l6_2c, l6_2d, l6_3a, l6_3b, l6_3c, l6_3d, l6_4a, l6_4b, l6_4c, l6_4d, l6_5a, l6_5b, l6_5c, l6_5d, n6_4_0, m6_4_0, n6_4_1, m6_4_1, n6_4_2, m6_4_2, n6_4_3, m6_4_3, n6_4_5, m6_4_5])
  have fc7_5 : w7.frozen? ⟨w4.heap.size, 1, none⟩ = false := (hb7.frozen (p := ⟨w4.heap.size, 1, none⟩) (by first | omega | (simp <;> omega))).trans (by first | exact fc6_9 | simp [go_sem, fc6_9, l6_0a, l6_0b, l6_0c, l6_0d, l6_1a, l6_1b, l6_1c, l6_1d, l6_2a, l6_2b, l6_2c, l6_2d, l6_3a, l6_3b, l6_3c, l6_3d, l6_4a, l6_4b, l6_4c, l6_4d, l6_5a, l6_5b, l6_5c, l6_5d, n6_4_0, m6_4_0, n6_4_1, m6_4_1, n6_4_2, m6_4_2, n6_4_3, m6_4_3, n6_4_5, m6_4_5])
  have c7_6 : w7.cell? ⟨w6.heap.size, 0, none⟩ = some (.int .i64 0) := (hb7.cell (p := ⟨w6.heap.size, 0, none⟩) (by first | omega | (simp <;> omega))).trans (by first | (simp; done) | simp [go_sem, l6_0a, l6_0b, l6_0c, l6_0d, l6_1a, l6_1b, l6_1c, l6_1d, l6_2a, l6_2b, l6_2c, l6_2d, l6_3a, l6_3b, l6_3c, l6_3d, l6_4a, l6_4b, l6_4c, l6_4d, l6_5a, l6_5b, l6_5c, l6_5d, n6_4_0, m6_4_0, n6_4_1, m6_4_1, n6_4_2, m6_4_2, n6_4_3, m6_4_3, n6_4_5, m6_4_5, c6_0, c6_1, c6_2, c6_3, c6_8, c6_9, fc6_8, fc6_9])
  have c7_7 : w7.cell? ⟨w6.heap.size, 1, none⟩ = some (.int .i64 0) := (hb7.cell (p := ⟨w6.heap.size, 1, none⟩) (by first | omega | (simp <;> omega))).trans (by first | (simp; done) | simp [go_sem, l6_0a, l6_0b, l6_0c, l6_0d, l6_1a, l6_1b, l6_1c, l6_1d, l6_2a, l6_2b, l6_2c, l6_2d, l6_3a, l6_3b, l6_3c, l6_3d, l6_4a, l6_4b, l6_4c, l6_4d, l6_5a, l6_5b, l6_5c, l6_5d, n6_4_0, m6_4_0, n6_4_1, m6_4_1, n6_4_2, m6_4_2, n6_4_3, m6_4_3, n6_4_5, m6_4_5, c6_0, c6_1, c6_2, c6_3, c6_8, c6_9, fc6_8, fc6_9])
  have l7_0a : w.heap.size < w7.heap.size := World.block_lt_of_cell? w7 _ c7_0
  have l7_0b : w.heap.size < w7.heap.size + 1 := Nat.lt_succ_of_lt l7_0a
  have l7_0c : w.heap.size < w7.heap.size + 1 + 1 := Nat.lt_succ_of_lt l7_0b
  have l7_0d : w.heap.size < w7.heap.size + 1 + 1 + 1 := Nat.lt_succ_of_lt l7_0c
  have l7_1a : w.heap.size + 1 < w7.heap.size := World.block_lt_of_cell? w7 _ c7_2
  have l7_1b : w.heap.size + 1 < w7.heap.size + 1 := Nat.lt_succ_of_lt l7_1a
  have l7_1c : w.heap.size + 1 < w7.heap.size + 1 + 1 := Nat.lt_succ_of_lt l7_1b
  have l7_1d : w.heap.size + 1 < w7.heap.size + 1 + 1 + 1 := Nat.lt_succ_of_lt l7_1c
  have l7_2a : w4.heap.size < w7.heap.size := World.block_lt_of_cell? w7 _ c7_4
  have l7_2b : w4.heap.size < w7.heap.size + 1 := Nat.lt_succ_of_lt l7_2a
  have l7_2c : w4.heap.size < w7.heap.size + 1 + 1 := Nat.lt_succ_of_lt l7_2b
  have l7_2d : w4.heap.size < w7.heap.size + 1 + 1 + 1 := Nat.lt_succ_of_lt l7_2c
  have l7_3a : w6.heap.size < w7.heap.size := World.block_lt_of_cell? w7 _ c7_6
  have l7_3b : w6.heap.size < w7.heap.size + 1 := Nat.lt_succ_of_lt l7_3a
  have l7_3c : w6.heap.size < w7.heap.size + 1 + 1 := Nat.lt_succ_of_lt l7_3b
  have l7_3d : w6.heap.size < w7.heap.size + 1 + 1 + 1 := Nat.lt_succ_of_lt l7_3c
  have n7_2_0 : w4.heap.size ≠ w.heap.size := by omega
  have m7_2_0 : w.heap.size ≠ w4.heap.size := by omega
  have n7_2_1 : w4.heap.size ≠ w.heap.size + 1 := by omega
  have m7_2_1 : w.heap.size + 1 ≠ w4.heap.size := by omega
  have n7_2_3 : w4.heap.size ≠ w6.heap.size := by omega
  have m7_2_3 : w6.heap.size ≠ w4.heap.size := by omega
  clear c6_0 c6_1 c6_2 c6_3 c6_8 c6_9 fc6_8 fc6_9 l6_0a l6_0b l6_0c l6_0d l6_1a l6_1b l6_1c l6_1d l6_2a l6_2b l6_2c l6_2d l6_3a l6_3b l6_3c l6_3d l6_4a l6_4b l6_4c l6_4d l6_5a l6_5b l6_5c l6_5d n6_4_0 m6_4_0 n6_4_1 m6_4_1 n6_4_2 m6_4_2 n6_4_3 m6_4_3 n6_4_5 m6_4_5 hB6 hb7
  go_wp2_with fail
  refine (error_same _ HC.out _ (by exact HG.out.belowB (show Below w.heap.size w _ from (by first | exact hB7 | ((repeat' (first | exact hB7 | refine Below.setCell ?_ ?_ _ | refine Below.alloc ?_ ?_ _ | refine Below.drew ?_)) <;> (first | omega | (simp <;> omega))))) HG.out.lt)).mono ?_
  rintro e w8 ⟨rfl, hb8⟩
  have hB8 : Below w.heap.size w w8 := Below.trans (by first | exact hB7 | ((repeat' (first | exact hB7 | refine Below.setCell ?_ ?_ _ | refine Below.alloc ?_ ?_ _ | refine Below.drew ?_)) <;> (first | omega | (simp <;> omega)))) (hb8.mono (by first | omega | (simp <;> omega)))
  have hs8 : w.heap.size ≤ w8.heap.size := hB8.size
  have ht8 := hb8.size
  try simp only [World.size_alloc, World.size_setCell] at ht8
  have c8_0 : w8.cell? ⟨w.heap.size, 0, none⟩ = some (.int .i64 a) := (hb8.cell (p := ⟨w.heap.size, 0, none⟩) (by first | omega | (simp <;> omega))).trans (by first | exact c7_0 | simp [go_sem, c7_0, l7_0a, l7_0b, l7_0c, l7_0d, l7_1a, l7_1b, l7_1c, l7_1d, l7_2a, l7_2b, l7_2c, l7_2d, l7_3a, l7_3b, l7_3c, l7_3d, n7_2_0, m7_2_0, n7_2_1, m7_2_1, n7_2_3, m7_2_3])
  have c8_1 : w8.cell? ⟨w.heap.size, 1, none⟩ = some (.int .i64 n) := (hb8.cell (p := ⟨w.heap.size, 1, none⟩) (by first | omega | (simp <;> omega))).trans (by first | exact c7_1 | simp [go_sem, c7_1, l7_0a, l7_0b, l7_0c, l7_0d, l7_1a, l7_1b, l7_1c, l7_1d, l7_2a, l7_2b, l7_2c, l7_2d, l7_3a, l7_3b, l7_3c, l7_3d, n7_2_0, m7_2_0, n7_2_1, m7_2_1, n7_2_3, m7_2_3])
  have c8_2 : w8.cell? ⟨w.heap.size + 1, 0, none⟩ = some (.int .i64 b) := (hb8.cell (p := ⟨w.heap.size + 1, 0, none⟩) (by first | omega | (simp <;> omega))).trans (by first | exact c7_2 | simp [go_sem, c7_2, l7_0a, l7_0b, l7_0c, l7_0d, l7_1a, l7_1b, l7_1c, l7_1d, l7_2a, l7_2b, l7_2c, l7_2d, l7_3a, l7_3b, l7_3c, l7_3d, n7_2_0, m7_2_0, n7_2_1, m7_2_1, n7_2_3, m7_2_3])
  have c8_3 : w8.cell? ⟨w.heap.size + 1, 1, none⟩ = some (.int .i64 m) := (hb8.cell (p := ⟨w.heap.size + 1, 1, none⟩) (by first | omega | (simp <;> omega))).trans (by first | exact c7_3 | simp [go_sem, c7_3, l7_0a, l7_0b, l7_0c, l7_0d, l7_1a, l7_1b, l7_1c, l7_1d, l7_2a, l7_2b, l7_2c, l7_2d, l7_3a, l7_3b, l7_3c, l7_3d, n7_2_0, m7_2_0, n7_2_1, m7_2_1, n7_2_3, m7_2_3])
  have c8_4 : w8.cell? ⟨w6.heap.size, 0, none⟩ = some (.int .i64 0) := (hb8.cell (p := ⟨w6.heap.size, 0, none⟩) (by first | omega | (simp <;> omega))).trans (by first | exact c7_6 | simp [go_sem, c7_6, l7_0a, l7_0b, l7_0c, l7_0d, l7_1a, l7_1b, l7_1c, l7_1d, l7_2a, l7_2b, l7_2c, l7_2d, l7_3a, l7_3b, l7_3c, l7_3d, n7_2_0, m7_2_0, n7_2_1, m7_2_1, n7_2_3, m7_2_3])
  have c8_5 : w8.cell? ⟨w6.heap.size, 1, none⟩ = some (.int .i64 0) := (hb8.cell (p := ⟨w6.heap.size, 1, none⟩) (by first | omega | (simp <;> omega))).trans (by first | exact c7_7 | simp [go_sem, c7_7, l7_0a, l7_0b, l7_0c, l7_0d, l7_1a, l7_1b, l7_1c, l7_1d, l7_2a, l7_2b, l7_2c, l7_2d, l7_3a, l7_3b, l7_3c, l7_3d, n7_2_0, m7_2_0, n7_2_1, m7_2_1, n7_2_3, m7_2_3])
  have c8_6 : w8.cell? ⟨w4.heap.size, 0, none⟩ = some (.int .i64 0) := (hb8.cell (p := ⟨w4.heap.size, 0, none⟩) (by first | omega | (simp <;> omega))).trans (by first | (simp; done) | simp [go_sem, l7_0a, l7_0b, l7_0c, l7_0d, l7_1a, l7_1b, l7_1c, l7_1d, l7_2a, l7_2b, l7_2c, l7_2d, l7_3a, l7_3b, l7_3c, l7_3d, n7_2_0, m7_2_0, n7_2_1, m7_2_1, n7_2_3, m7_2_3, c7_0, c7_1, c7_2, c7_3, c7_6, c7_7, c7_4, c7_5, fc7_4, fc7_5])
  have fc8_6 : w8.frozen? ⟨w4.heap.size, 0, none⟩ = false := (hb8.frozen (p := ⟨w4.heap.size, 0, none⟩) (by first | omega | (simp <;> omega))).trans (by first | (simp; done) | simp [go_sem, l7_0a, l7_0b, l7_0c, l7_0d, l7_1a, l7_1b, l7_1c, l7_1d, l7_2a, l7_2b, l7_2c, l7_2d, l7_3a, l7_3b, l7_3c, l7_3d, n7_2_0, m7_2_0, n7_2_1, m7_2_1, n7_2_3, m7_2_3, c7_0, c7_1, c7_2, c7_3, c7_6, c7_7, c7_4, c7_5, fc7_4, fc7_5])
  have c8_7 : w8.cell? ⟨w4.heap.size, 1, none⟩ = some (.int .i64 0) := (hb8.cell (p := ⟨w4.heap.size, 1, none⟩) (by first | omega | (simp <;> omega))).trans (by first | (simp; done) | simp [go_sem, l7_0a, l7_0b, l7_0c, l7_0d, l7_1a, l7_1b, l7_1c, l7_1d, l7_2a, l7_2b, l7_2c, l7_2d, l7_3a, l7_3b, l7_3c, l7_3d, n7_2_0, m7_2_0, n7_2_1, m7_2_1, n7_2_3, m7_2_3, c7_0, c7_1, c7_2, c7_3, c7_6, c7_7, c7_4, c7_5, fc7_4, fc7_5])
  have fc8_7 : w8.frozen? ⟨w4.heap.size, 1, none⟩ = false := (hb8.frozen (p := ⟨w4.heap.size, 1, none⟩) (by first | omega | (simp <;> omega))).trans (by first | (simp; done) | simp [go_sem, l7_0a, l7_0b, l7_0c, l7_0d, l7_1a, l7_1b, l7_1c, l7_1d, l7_2a, l7_2b, l7_2c, l7_2d, l7_3a, l7_3b, l7_3c, l7_3d, n7_2_0, m7_2_0, n7_2_1, m7_2_1, n7_2_3, m7_2_3, c7_0, c7_1, c7_2, c7_3, c7_6, c7_7, c7_4, c7_5, fc7_4, fc7_5])
  have l8_0a : w.heap.size < w8.heap.size := World.block_lt_of_cell? w8 _ c8_0
  have l8_0b : w.heap.size < w8.heap.size + 1 := Nat.lt_succ_of_lt l8_0a
  have l8_0c : w.heap.size < w8.heap.size + 1 + 1 := Nat.lt_succ_of_lt l8_0b
  have l8_0d : w.heap.size < w8.heap.size + 1 + 1 + 1 := Nat.lt_succ_of_lt l8_0c
  have l8_1a : w.heap.size + 1 < w8.heap.size := World.block_lt_of_cell? w8 _ c8_2
  have l8_1b : w.heap.size + 1 < w8.heap.size + 1 := Nat.lt_succ_of_lt l8_1a
  have l8_1c : w.heap.size + 1 < w8.heap.size + 1 + 1 := Nat.lt_succ_of_lt l8_1b
  have l8_1d : w.heap.size + 1 < w8.heap.size + 1 + 1 + 1 := Nat.lt_succ_of_lt l8_1c
  have l8_2a : w6.heap.size < w8.heap.size := World.block_lt_of_cell? w8 _ c8_4
  have l8_2b : w6.heap.size < w8.heap.size + 1 := Nat.lt_succ_of_lt l8_2a
  have l8_2c : w6.heap.size < w8.heap.size + 1 + 1 := Nat.lt_succ_of_lt l8_2b
  have l8_2d : w6.heap.size < w8.heap.size + 1 + 1 + 1 := Nat.lt_succ_of_lt l8_2c
  have l8_3a : w4.heap.size < w8.heap.size := World.block_lt_of_cell? w8 _ c8_6
  have l8_3b : w4.heap.size < w8.heap.size + 1 := Nat.lt_succ_of_lt l8_3a
  have l8_3c : w4.heap.size < w8.heap.size + 1 + 1 := Nat.lt_succ_of_lt l8_3b
  have l8_3d : w4.heap.size < w8.heap.size + 1 + 1 + 1 := Nat.lt_succ_of_lt l8_3c
  have n8_3_0 : w4.heap.size ≠ w.heap.size := by omega
  have m8_3_0 : w.heap.size ≠ w4.heap.size := by omega
  have n8_3_1 : w4.heap.size ≠ w.heap.size + 1 := by omega
  have m8_3_1 : w.heap.size + 1 ≠ w4.heap.size := by omega
  have n8_3_2 : w4.heap.size ≠ w6.heap.size := by omega
  have m8_3_2 : w6.heap.size ≠ w4.heap.size := by omega
  clear c7_0 c7_1 c7_2 c7_3 c7_6 c7_7 c7_4 c7_5 fc7_4 fc7_5 l7_0a l7_0b l7_0c l7_0d l7_1a l7_1b l7_1c l7_1d l7_2a l7_2b l7_2c l7_2d l7_3a l7_3b l7_3c l7_3d n7_2_0 m7_2_0 n7_2_1 m7_2_1 n7_2_3 m7_2_3 hB7 hb8
  go_wp2_with fail
  refine wp_name ?_
  intro w9 hW9
  have hB9 : Below w.heap.size w w9 := by rw [hW9.out]; exact (by first | exact hB8 | ((repeat' (first | exact hB8 | refine Below.setCell ?_ ?_ _ | refine Below.alloc ?_ ?_ _ | refine Below.drew ?_)) <;> (first | omega | (simp <;> omega))))
  have hs9 : w.heap.size ≤ w9.heap.size := hB9.size
  have ht9 := congrArg (fun x : World => x.heap.size) hW9.out
  try simp only [World.size_alloc, World.size_setCell] at ht9
  have c9_0 : w9.cell? ⟨w.heap.size, 0, none⟩ = some (.int .i64 a) := by rw [hW9.out]; first | exact c8_0 | simp [go_sem, c8_0, l8_0a, l8_0b, l8_0c, l8_0d, l8_1a, l8_1b, l8_1c, l8_1d, l8_2a, l8_2b, l8_2c, l8_2d, l8_3a, l8_3b, l8_3c, l8_3d, n8_3_0, m8_3_0, n8_3_1, m8_3_1, n8_3_2, m8_3_2]
  have c9_1 : w9.cell? ⟨w.heap.size, 1, none⟩ = some (.int .i64 n) := by rw [hW9.out]; first | exact c8_1 | simp [go_sem, c8_1, l8_0a, l8_0b, l8_0c, l8_0d, l8_1a, l8_1b, l8_1c, l8_1d, l8_2a, l8_2b, l8_2c, l8_2d, l8_3a, l8_3b, l8_3c, l8_3d, n8_3_0, m8_3_0, n8_3_1, m8_3_1, n8_3_2, m8_3_2]
  have c9_2 : w9.cell? ⟨w.heap.size + 1, 0, none⟩ = some (.int .i64 b) := by rw [hW9.out]; first | exact c8_2 | simp [go_sem, c8_2, l8_0a, l8_0b, l8_0c, l8_0d, l8_1a, l8_1b, l8_1c, l8_1d, l8_2a, l8_2b, l8_2c, l8_2d, l8_3a, l8_3b, l8_3c, l8_3d, n8_3_0, m8_3_0, n8_3_1, m8_3_1, n8_3_2, m8_3_2]
  have c9_3 : w9.cell? ⟨w.heap.size + 1, 1, none⟩ = some (.int .i64 m) := by rw [hW9.out]; first | exact c8_3 | simp [go_sem, c8_3, l8_0a, l8_0b, l8_0c, l8_0d, l8_1a, l8_1b, l8_1c, l8_1d, l8_2a, l8_2b, l8_2c, l8_2d, l8_3a, l8_3b, l8_3c, l8_3d, n8_3_0, m8_3_0, n8_3_1, m8_3_1, n8_3_2, m8_3_2]
  have c9_4 : w9.cell? ⟨w6.heap.size, 0, none⟩ = some (.int .i64 0) := by rw [hW9.out]; first | exact c8_4 | simp [go_sem, c8_4, l8_0a, l8_0b, l8_0c, l8_0d, l8_1a, l8_1b, l8_1c, l8_1d, l8_2a, l8_2b, l8_2c, l8_2d, l8_3a, l8_3b, l8_3c, l8_3d, n8_3_0, m8_3_0, n8_3_1, m8_3_1, n8_3_2, m8_3_2]
  have c9_5 : w9.cell? ⟨w6.heap.size, 1, none⟩ = some (.int .i64 0) := by rw [hW9.out]; first | exact c8_5 | simp [go_sem, c8_5, l8_0a, l8_0b, l8_0c, l8_0d, l8_1a, l8_1b, l8_1c, l8_1d, l8_2a, l8_2b, l8_2c, l8_2d, l8_3a, l8_3b, l8_3c, l8_3d, n8_3_0, m8_3_0, n8_3_1, m8_3_1, n8_3_2, m8_3_2]
  have c9_6 : w9.cell? ⟨w4.heap.size, 0, none⟩ = some (.int .i64 0) := by rw [hW9.out]; first | exact c8_6 | simp [go_sem, c8_6, l8_0a, l8_0b, l8_0c, l8_0d, l8_1a, l8_1b, l8_1c, l8_1d, l8_2a, l8_2b, l8_2c, l8_2d, l8_3a, l8_3b, l8_3c, l8_3d, n8_3_0, m8_3_0, n8_3_1, m8_3_1, n8_3_2, m8_3_2]
  have fc9_6 : w9.frozen? ⟨w4.heap.size, 0, none⟩ = false := by rw [hW9.out]; first | exact fc8_6 | simp [go_sem, fc8_6, l8_0a, l8_0b, l8_0c, l8_0d, l8_1a, l8_1b, l8_1c, l8_1d, l8_2a, l8_2b, l8_2c, l8_2d, l8_3a, l8_3b, l8_3c, l8_3d, n8_3_0, m8_3_0, n8_3_1, m8_3_1, n8_3_2, m8_3_2]
  have c9_7 : w9.cell? ⟨w4.heap.size, 1, none⟩ = some (.int .i64 0) := by rw [hW9.out]; first | exact c8_7 | simp [go_sem, c8_7, l8_0a, l8_0b, l8_0c, l8_0d, l8_1a, l8_1b, l8_1c, l8_1d, l8_2a, l8_2b, l8_2c, l8_2d, l8_3a, l8_3b, l8_3c, l8_3d, n8_3_0, m8_3_0, n8_3_1, m8_3_1, n8_3_2, m8_3_2]
  have fc9_7 : w9.frozen? ⟨w4.heap.size, 1, none⟩ = false := by rw [hW9.out]; first | exact fc8_7 | simp [go_sem, fc8_7, l8_0a, l8_0b, l8_0c, l8_0d, l8_1a, l8_1b, l8_1c, l8_1d, l8_2a, l8_2b, l8_2c, l8_2d, l8_3a, l8_3b, l8_3c, l8_3d, n8_3_0, m8_3_0, n8_3_1, m8_3_1, n8_3_2, m8_3_2]
  have l9_0a : w.heap.size < w9.heap.size := World.block_lt_of_cell? w9 _ c9_0
  have l9_0b : w.heap.size < w9.heap.size + 1 := Nat.lt_succ_of_lt l9_0a
  have l9_0c : w.heap.size < w9.heap.size + 1 + 1 := Nat.lt_succ_of_lt l9_0b
  have l9_0d : w.heap.size < w9.heap.size + 1 + 1 + 1 := Nat.lt_succ_of_lt l9_0c
  have l9_1a : w.heap.size + 1 < w9.heap.size := World.block_lt_of_cell? w9 _ c9_2
  have l9_1b : w.heap.size + 1 < w9.heap.size + 1 := Nat.lt_succ_of_lt l9_1a
  have l9_1c : w.heap.size + 1 < w9.heap.size + 1 + 1 := Nat.lt_succ_of_lt l9_1b
  have l9_1d : w.heap.size + 1 < w9.heap.size + 1 + 1 + 1 := Nat.lt_succ_of_lt l9_1c
  have l9_2a : w6.heap.size < w9.heap.size := World.block_lt_of_cell? w9 _ c9_4
  have l9_2b : w6.heap.size < w9.heap.size + 1 := Nat.lt_succ_of_lt l9_2a
  have l9_2c : w6.heap.size < w9.heap.size + 1 + 1 := Nat.lt_succ_of_lt l9_2b
  have l9_2d : w6.heap.size < w9.heap.size + 1 + 1 + 1 := Nat.lt_succ_of_lt l9_2c
  have l9_3a : w4.heap.size < w9.heap.size := World.block_lt_of_cell? w9 _ c9_6
  have l9_3b : w4.heap.size < w9.heap.size + 1 := Nat.lt_succ_of_lt l9_3a
  have l9_3c : w4.heap.size < w9.heap.size + 1 + 1 := Nat.lt_succ_of_lt l9_3b
  have l9_3d : w4.heap.size < w9.heap.size + 1 + 1 + 1 := Nat.lt_succ_of_lt l9_3c
  have n9_3_0 : w4.heap.size ≠ w.heap.size := by omega
  have m9_3_0 : w.heap.size ≠ w4.heap.size := by omega
  have n9_3_1 : w4.heap.size ≠ w.heap.size + 1 := by omega
  have m9_3_1 : w.heap.size + 1 ≠ w4.heap.size := by omega
  have n9_3_2 : w4.heap.size ≠ w6.heap.size := by omega
  have m9_3_2 : w6.heap.size ≠ w4.heap.size := by omega
  have hu9 := Nat.le_of_eq ht9
  have hv9 := Nat.le_of_eq ht9.symm
  clear ht9 c8_0 c8_1 c8_2 c8_3 c8_4 c8_5 c8_6 c8_7 fc8_6 fc8_7 l8_0a l8_0b l8_0c l8_0d l8_1a l8_1b l8_1c l8_1d l8_2a l8_2b l8_2c l8_2d l8_3a l8_3b l8_3c l8_3d n8_3_0 m8_3_0 n8_3_1 m8_3_1 n8_3_2 m8_3_2 hB8 hW9
  exact HR.out _ _ (APmid1.mk (w4.heap.size) _ rfl (by kernel_rfl) ⟨hB9, ⟨c9_0, c9_1⟩, ⟨c9_2, c9_3⟩, by omega, fc9_6, fc9_7, _, _, c9_6, c9_7⟩)
end Go.Proofs.YtcgeagobndhpjaaDoor
