/- The law AddrParts, its parts: the first, of a prefix of no bits. Any prefixes, any two numbers. -/
import Derived.Test.YtcgeagobndhpjaaDoorAddrParts0
namespace Go.Proofs.YtcgeagobndhpjaaDoor
set_option linter.unusedVariables false
set_option linter.unusedSimpArgs false
open Go.RowKit

set_option maxRecDepth 100000 in
set_option maxHeartbeats 8000000 in
theorem addrParts_1c (a n b m x y : Int) (w : World) (hg : ErrVar w) (hc : chk a n = 0) (hn : n = 0) (R : Ending → World → Prop)
    (h : ∀ a' w', APmid1 a n b m x y w a' w' → (tailN 20 (Tryd.f4.body.getD .skip)).wp Tryd.prog (bodyPost Tryd.prog Tryd.f4 R) a' w') :
    Calls Tryd.prog 4 #[.agg #[.int .i64 a, .int .i64 n], .agg #[.int .i64 b, .int .i64 m], .int .i64 x, .int .i64 y] w R := by
  have HG := Lib.hid hg
  clear hg
  subst hn
  obtain ⟨_, _, g3, g4, _⟩ := chk_zero.1 hc
  have HC := Lib.hid hc
  clear hc
  have q1 := sz_pos 1
  have q7 := sz_le 1 (by decide)
  go_enter Tryd.func4, Tryd.ntmps4
  refine wp_cut 20 (APmid1 a 0 b m x y w) (by rfl) ?_ h
  clear h
  intro r HR
  dsimp only [putN]
  go_wp2_with fail
  refine (fault_any a 0 _).mono ?_
  rintro e w1 ⟨rfl, hb1⟩
  have hB1 : Below w.heap.size w w1 := Below.trans (by first | exact Below.refl _ _ | ((repeat' (first | exact Below.refl _ _ | refine Below.setCell ?_ ?_ _ | refine Below.alloc ?_ ?_ _ | refine Below.drew ?_)) <;> (first | omega | (simp <;> omega)))) (hb1.mono (by first | omega | (simp <;> omega)))
  have hs1 : w.heap.size ≤ w1.heap.size := hB1.size
  have ht1 := hb1.size
  try simp only [World.size_alloc, World.size_setCell] at ht1
  have c1_0 : w1.cell? ⟨w.heap.size, 0, none⟩ = some (.int .i64 a) := (hb1.cell (p := ⟨w.heap.size, 0, none⟩) (by first | omega | (simp <;> omega))).trans (by first | (simp; done) | simp [go_sem])
  have c1_1 : w1.cell? ⟨w.heap.size, 1, none⟩ = some (.int .i64 0) := (hb1.cell (p := ⟨w.heap.size, 1, none⟩) (by first | omega | (simp <;> omega))).trans (by first | (simp; done) | simp [go_sem])
  have c1_2 : w1.cell? ⟨w.heap.size + 1, 0, none⟩ = some (.int .i64 b) := (hb1.cell (p := ⟨w.heap.size + 1, 0, none⟩) (by first | omega | (simp <;> omega))).trans (by first | (simp; done) | simp [go_sem])
  have c1_3 : w1.cell? ⟨w.heap.size + 1, 1, none⟩ = some (.int .i64 m) := (hb1.cell (p := ⟨w.heap.size + 1, 1, none⟩) (by first | omega | (simp <;> omega))).trans (by first | (simp; done) | simp [go_sem])
  have l1_0a : w.heap.size < w1.heap.size := World.block_lt_of_cell? w1 _ c1_0
  have l1_0b : w.heap.size < w1.heap.size + 1 := Nat.lt_succ_of_lt l1_0a
  have l1_0c : w.heap.size < w1.heap.size + 1 + 1 := Nat.lt_succ_of_lt l1_0b
  have l1_0d : w.heap.size < w1.heap.size + 1 + 1 + 1 := Nat.lt_succ_of_lt l1_0c
  have l1_1a : w.heap.size + 1 < w1.heap.size := World.block_lt_of_cell? w1 _ c1_2
  have l1_1b : w.heap.size + 1 < w1.heap.size + 1 := Nat.lt_succ_of_lt l1_1a
  have l1_1c : w.heap.size + 1 < w1.heap.size + 1 + 1 := Nat.lt_succ_of_lt l1_1b
  have l1_1d : w.heap.size + 1 < w1.heap.size + 1 + 1 + 1 := Nat.lt_succ_of_lt l1_1c
  clear hb1
  rw [HC.out]
  go_wp2_with fail
  refine (ends_ok a 0 HC.out _).mono ?_
  rintro e w2 ⟨rfl, hb2⟩
  have hB2 : Below w.heap.size w w2 := Below.trans (by first | exact hB1 | ((repeat' (first | exact hB1 | refine Below.setCell ?_ ?_ _ | refine Below.alloc ?_ ?_ _ | refine Below.drew ?_)) <;> (first | omega | (simp <;> omega)))) (hb2.mono (by first | omega | (simp <;> omega)))
  have hs2 : w.heap.size ≤ w2.heap.size := hB2.size
  have ht2 := hb2.size
  try simp only [World.size_alloc, World.size_setCell] at ht2
  have c2_0 : w2.cell? ⟨w.heap.size, 0, none⟩ = some (.int .i64 a) := (hb2.cell (p := ⟨w.heap.size, 0, none⟩) (by first | omega | (simp <;> omega))).trans (by first | exact c1_0 | simp [go_sem, c1_0, l1_0a, l1_0b, l1_0c, l1_0d, l1_1a, l1_1b, l1_1c, l1_1d])
  have c2_1 : w2.cell? ⟨w.heap.size, 1, none⟩ = some (.int .i64 0) := (hb2.cell (p := ⟨w.heap.size, 1, none⟩) (by first | omega | (simp <;> omega))).trans (by first | exact c1_1 | simp [go_sem, c1_1, l1_0a, l1_0b, l1_0c, l1_0d, l1_1a, l1_1b, l1_1c, l1_1d])
  have c2_2 : w2.cell? ⟨w.heap.size + 1, 0, none⟩ = some (.int .i64 b) := (hb2.cell (p := ⟨w.heap.size + 1, 0, none⟩) (by first | omega | (simp <;> omega))).trans (by first | exact c1_2 | simp [go_sem, c1_2, l1_0a, l1_0b, l1_0c, l1_0d, l1_1a, l1_1b, l1_1c, l1_1d])
  have c2_3 : w2.cell? ⟨w.heap.size + 1, 1, none⟩ = some (.int .i64 m) := (hb2.cell (p := ⟨w.heap.size + 1, 1, none⟩) (by first | omega | (simp <;> omega))).trans (by first | exact c1_3 | simp [go_sem, c1_3, l1_0a, l1_0b, l1_0c, l1_0d, l1_1a, l1_1b, l1_1c, l1_1d])
  have l2_0a : w.heap.size < w2.heap.size := World.block_lt_of_cell? w2 _ c2_0
  have l2_0b : w.heap.size < w2.heap.size + 1 := Nat.lt_succ_of_lt l2_0a
  have l2_0c : w.heap.size < w2.heap.size + 1 + 1 := Nat.lt_succ_of_lt l2_0b
  have l2_0d : w.heap.size < w2.heap.size + 1 + 1 + 1 := Nat.lt_succ_of_lt l2_0c
  have l2_1a : w.heap.size + 1 < w2.heap.size := World.block_lt_of_cell? w2 _ c2_2
  have l2_1b : w.heap.size + 1 < w2.heap.size + 1 := Nat.lt_succ_of_lt l2_1a
  have l2_1c : w.heap.size + 1 < w2.heap.size + 1 + 1 := Nat.lt_succ_of_lt l2_1b
  have l2_1d : w.heap.size + 1 < w2.heap.size + 1 + 1 + 1 := Nat.lt_succ_of_lt l2_1c
  clear c1_0 c1_1 c1_2 c1_3 l1_0a l1_0b l1_0c l1_0d l1_1a l1_1b l1_1c l1_1d hB1 hb2
  go_wp2_with fail
  refine (error_nil0 _ (by exact HG.out.belowB (show Below w.heap.size w _ from (by first | exact hB2 | ((repeat' (first | exact hB2 | refine Below.setCell ?_ ?_ _ | refine Below.alloc ?_ ?_ _ | refine Below.drew ?_)) <;> (first | omega | (simp <;> omega))))) HG.out.lt)).mono ?_
  rintro e w3 ⟨rfl, hb3⟩
  have hB3 : Below w.heap.size w w3 := Below.trans (by first | exact hB2 | ((repeat' (first | exact hB2 | refine Below.setCell ?_ ?_ _ | refine Below.alloc ?_ ?_ _ | refine Below.drew ?_)) <;> (first | omega | (simp <;> omega)))) (hb3.mono (by first | omega | (simp <;> omega)))
  have hs3 : w.heap.size ≤ w3.heap.size := hB3.size
  have ht3 := hb3.size
  try simp only [World.size_alloc, World.size_setCell] at ht3
  have c3_0 : w3.cell? ⟨w.heap.size, 0, none⟩ = some (.int .i64 a) := (hb3.cell (p := ⟨w.heap.size, 0, none⟩) (by first | omega | (simp <;> omega))).trans (by first | exact c2_0 | simp [go_sem, c2_0, l2_0a, l2_0b, l2_0c, l2_0d, l2_1a, l2_1b, l2_1c, l2_1d])
  have c3_1 : w3.cell? ⟨w.heap.size, 1, none⟩ = some (.int .i64 0) := (hb3.cell (p := ⟨w.heap.size, 1, none⟩) (by first | omega | (simp <;> omega))).trans (by first | exact c2_1 | simp [go_sem, c2_1, l2_0a, l2_0b, l2_0c, l2_0d, l2_1a, l2_1b, l2_1c, l2_1d])
  have c3_2 : w3.cell? ⟨w.heap.size + 1, 0, none⟩ = some (.int .i64 b) := (hb3.cell (p := ⟨w.heap.size + 1, 0, none⟩) (by first | omega | (simp <;> omega))).trans (by first | exact c2_2 | simp [go_sem, c2_2, l2_0a, l2_0b, l2_0c, l2_0d, l2_1a, l2_1b, l2_1c, l2_1d])
  have c3_3 : w3.cell? ⟨w.heap.size + 1, 1, none⟩ = some (.int .i64 m) := (hb3.cell (p := ⟨w.heap.size + 1, 1, none⟩) (by first | omega | (simp <;> omega))).trans (by first | exact c2_3 | simp [go_sem, c2_3, l2_0a, l2_0b, l2_0c, l2_0d, l2_1a, l2_1b, l2_1c, l2_1d])
  have l3_0a : w.heap.size < w3.heap.size := World.block_lt_of_cell? w3 _ c3_0
  have l3_0b : w.heap.size < w3.heap.size + 1 := Nat.lt_succ_of_lt l3_0a
  have l3_0c : w.heap.size < w3.heap.size + 1 + 1 := Nat.lt_succ_of_lt l3_0b
  have l3_0d : w.heap.size < w3.heap.size + 1 + 1 + 1 := Nat.lt_succ_of_lt l3_0c
  have l3_1a : w.heap.size + 1 < w3.heap.size := World.block_lt_of_cell? w3 _ c3_2
  have l3_1b : w.heap.size + 1 < w3.heap.size + 1 := Nat.lt_succ_of_lt l3_1a
  have l3_1c : w.heap.size + 1 < w3.heap.size + 1 + 1 := Nat.lt_succ_of_lt l3_1b
  have l3_1d : w.heap.size + 1 < w3.heap.size + 1 + 1 + 1 := Nat.lt_succ_of_lt l3_1c
  clear c2_0 c2_1 c2_2 c2_3 l2_0a l2_0b l2_0c l2_0d l2_1a l2_1b l2_1c l2_1d hB2 hb3
  go_wp2_with fail
  refine (lastOf_any a 0 HC.out _).mono ?_
  rintro e w4 ⟨rfl, hb4⟩
  have hB4 : Below w.heap.size w w4 := Below.trans (by first | exact hB3 | ((repeat' (first | exact hB3 | refine Below.setCell ?_ ?_ _ | refine Below.alloc ?_ ?_ _ | refine Below.drew ?_)) <;> (first | omega | (simp <;> omega)))) (hb4.mono (by first | omega | (simp <;> omega)))
  have hs4 : w.heap.size ≤ w4.heap.size := hB4.size
  have ht4 := hb4.size
  try simp only [World.size_alloc, World.size_setCell] at ht4
  have c4_0 : w4.cell? ⟨w.heap.size, 0, none⟩ = some (.int .i64 a) := (hb4.cell (p := ⟨w.heap.size, 0, none⟩) (by first | omega | (simp <;> omega))).trans (by first | exact c3_0 | simp [go_sem, c3_0, l3_0a, l3_0b, l3_0c, l3_0d, l3_1a, l3_1b, l3_1c, l3_1d])
  have c4_1 : w4.cell? ⟨w.heap.size, 1, none⟩ = some (.int .i64 0) := (hb4.cell (p := ⟨w.heap.size, 1, none⟩) (by first | omega | (simp <;> omega))).trans (by first | exact c3_1 | simp [go_sem, c3_1, l3_0a, l3_0b, l3_0c, l3_0d, l3_1a, l3_1b, l3_1c, l3_1d])
  have c4_2 : w4.cell? ⟨w.heap.size + 1, 0, none⟩ = some (.int .i64 b) := (hb4.cell (p := ⟨w.heap.size + 1, 0, none⟩) (by first | omega | (simp <;> omega))).trans (by first | exact c3_2 | simp [go_sem, c3_2, l3_0a, l3_0b, l3_0c, l3_0d, l3_1a, l3_1b, l3_1c, l3_1d])
  have c4_3 : w4.cell? ⟨w.heap.size + 1, 1, none⟩ = some (.int .i64 m) := (hb4.cell (p := ⟨w.heap.size + 1, 1, none⟩) (by first | omega | (simp <;> omega))).trans (by first | exact c3_3 | simp [go_sem, c3_3, l3_0a, l3_0b, l3_0c, l3_0d, l3_1a, l3_1b, l3_1c, l3_1d])
  have l4_0a : w.heap.size < w4.heap.size := World.block_lt_of_cell? w4 _ c4_0
  have l4_0b : w.heap.size < w4.heap.size + 1 := Nat.lt_succ_of_lt l4_0a
  have l4_0c : w.heap.size < w4.heap.size + 1 + 1 := Nat.lt_succ_of_lt l4_0b
  have l4_0d : w.heap.size < w4.heap.size + 1 + 1 + 1 := Nat.lt_succ_of_lt l4_0c
  have l4_1a : w.heap.size + 1 < w4.heap.size := World.block_lt_of_cell? w4 _ c4_2
  have l4_1b : w.heap.size + 1 < w4.heap.size + 1 := Nat.lt_succ_of_lt l4_1a
  have l4_1c : w.heap.size + 1 < w4.heap.size + 1 + 1 := Nat.lt_succ_of_lt l4_1b
  have l4_1d : w.heap.size + 1 < w4.heap.size + 1 + 1 + 1 := Nat.lt_succ_of_lt l4_1c
  clear c3_0 c3_1 c3_2 c3_3 l3_0a l3_0b l3_0c l3_0d l3_1a l3_1b l3_1c l3_1d hB3 hb4
  go_wp2_with fail
  refine wp_name ?_
  intro w5 hW5
  have hB5 : Below w.heap.size w w5 := by rw [hW5.out]; exact (by first | exact hB4 | ((repeat' (first | exact hB4 | refine Below.setCell ?_ ?_ _ | refine Below.alloc ?_ ?_ _ | refine Below.drew ?_)) <;> (first | omega | (simp <;> omega))))
  have hs5 : w.heap.size ≤ w5.heap.size := hB5.size
  have ht5 := congrArg (fun x : World => x.heap.size) hW5.out
  try simp only [World.size_alloc, World.size_setCell] at ht5
  have c5_0 : w5.cell? ⟨w.heap.size, 0, none⟩ = some (.int .i64 a) := by rw [hW5.out]; first | exact c4_0 | simp [go_sem, c4_0, l4_0a, l4_0b, l4_0c, l4_0d, l4_1a, l4_1b, l4_1c, l4_1d]
  have c5_1 : w5.cell? ⟨w.heap.size, 1, none⟩ = some (.int .i64 0) := by rw [hW5.out]; first | exact c4_1 | simp [go_sem, c4_1, l4_0a, l4_0b, l4_0c, l4_0d, l4_1a, l4_1b, l4_1c, l4_1d]
  have c5_2 : w5.cell? ⟨w.heap.size + 1, 0, none⟩ = some (.int .i64 b) := by rw [hW5.out]; first | exact c4_2 | simp [go_sem, c4_2, l4_0a, l4_0b, l4_0c, l4_0d, l4_1a, l4_1b, l4_1c, l4_1d]
  have c5_3 : w5.cell? ⟨w.heap.size + 1, 1, none⟩ = some (.int .i64 m) := by rw [hW5.out]; first | exact c4_3 | simp [go_sem, c4_3, l4_0a, l4_0b, l4_0c, l4_0d, l4_1a, l4_1b, l4_1c, l4_1d]
  have c5_4 : w5.cell? ⟨w4.heap.size + 1, 0, none⟩ = some (.int .i64 0) := by rw [hW5.out]; first | (simp; done) | simp [go_sem, l4_0a, l4_0b, l4_0c, l4_0d, l4_1a, l4_1b, l4_1c, l4_1d, c4_0, c4_1, c4_2, c4_3]
  have fc5_4 : w5.frozen? ⟨w4.heap.size + 1, 0, none⟩ = false := by rw [hW5.out]; first | (simp; done) | simp [go_sem, l4_0a, l4_0b, l4_0c, l4_0d, l4_1a, l4_1b, l4_1c, l4_1d, c4_0, c4_1, c4_2, c4_3]
  have c5_5 : w5.cell? ⟨w4.heap.size + 1, 1, none⟩ = some (.int .i64 0) := by rw [hW5.out]; first | (simp; done) | simp [go_sem, l4_0a, l4_0b, l4_0c, l4_0d, l4_1a, l4_1b, l4_1c, l4_1d, c4_0, c4_1, c4_2, c4_3]
  have fc5_5 : w5.frozen? ⟨w4.heap.size + 1, 1, none⟩ = false := by rw [hW5.out]; first | (simp; done) | simp [go_sem, l4_0a, l4_0b, l4_0c, l4_0d, l4_1a, l4_1b, l4_1c, l4_1d, c4_0, c4_1, c4_2, c4_3]
  have c5_6 : w5.cell? ⟨w4.heap.size, 0, none⟩ = some (.int .i64 a) := by rw [hW5.out]; first | (simp; done) | simp [go_sem, l4_0a, l4_0b, l4_0c, l4_0d, l4_1a, l4_1b, l4_1c, l4_1d, c4_0, c4_1, c4_2, c4_3]
  have fc5_6 : w5.frozen? ⟨w4.heap.size, 0, none⟩ = false := by rw [hW5.out]; first | (simp; done) | simp [go_sem, l4_0a, l4_0b, l4_0c, l4_0d, l4_1a, l4_1b, l4_1c, l4_1d, c4_0, c4_1, c4_2, c4_3]
  have c5_7 : w5.cell? ⟨w4.heap.size, 1, none⟩ = some (.int .i64 1) := by rw [hW5.out]; first | (simp; done) | simp [go_sem, l4_0a, l4_0b, l4_0c, l4_0d, l4_1a, l4_1b, l4_1c, l4_1d, c4_0, c4_1, c4_2, c4_3]
  have fc5_7 : w5.frozen? ⟨w4.heap.size, 1, none⟩ = false := by rw [hW5.out]; first | (simp; done) | simp [go_sem, l4_0a, l4_0b, l4_0c, l4_0d, l4_1a, l4_1b, l4_1c, l4_1d, c4_0, c4_1, c4_2, c4_3]
  have l5_0a : w.heap.size < w5.heap.size := World.block_lt_of_cell? w5 _ c5_0
  have l5_0b : w.heap.size < w5.heap.size + 1 := Nat.lt_succ_of_lt l5_0a
  have l5_0c : w.heap.size < w5.heap.size + 1 + 1 := Nat.lt_succ_of_lt l5_0b
  have l5_0d : w.heap.size < w5.heap.size + 1 + 1 + 1 := Nat.lt_succ_of_lt l5_0c
  have l5_1a : w.heap.size + 1 < w5.heap.size := World.block_lt_of_cell? w5 _ c5_2
  have l5_1b : w.heap.size + 1 < w5.heap.size + 1 := Nat.lt_succ_of_lt l5_1a
  have l5_1c : w.heap.size + 1 < w5.heap.size + 1 + 1 := Nat.lt_succ_of_lt l5_1b
  have l5_1d : w.heap.size + 1 < w5.heap.size + 1 + 1 + 1 := Nat.lt_succ_of_lt l5_1c
  have l5_2a : w4.heap.size + 1 < w5.heap.size := World.block_lt_of_cell? w5 _ c5_4
  have l5_2b : w4.heap.size + 1 < w5.heap.size + 1 := Nat.lt_succ_of_lt l5_2a
  have l5_2c : w4.heap.size + 1 < w5.heap.size + 1 + 1 := Nat.lt_succ_of_lt l5_2b
  have l5_2d : w4.heap.size + 1 < w5.heap.size + 1 + 1 + 1 := Nat.lt_succ_of_lt l5_2c
  have l5_3a : w4.heap.size < w5.heap.size := World.block_lt_of_cell? w5 _ c5_6
  have l5_3b : w4.heap.size < w5.heap.size + 1 := Nat.lt_succ_of_lt l5_3a
  have l5_3c : w4.heap.size < w5.heap.size + 1 + 1 := Nat.lt_succ_of_lt l5_3b
  have l5_3d : w4.heap.size < w5.heap.size + 1 + 1 + 1 := Nat.lt_succ_of_lt l5_3c
  have n5_2_0 : w4.heap.size + 1 ≠ w.heap.size := by omega
  have m5_2_0 : w.heap.size ≠ w4.heap.size + 1 := by omega
  have n5_2_1 : w4.heap.size + 1 ≠ w.heap.size + 1 := by omega
  have m5_2_1 : w.heap.size + 1 ≠ w4.heap.size + 1 := by omega
  have n5_2_3 : w4.heap.size + 1 ≠ w4.heap.size := by omega
  have m5_2_3 : w4.heap.size ≠ w4.heap.size + 1 := by omega
  have n5_3_0 : w4.heap.size ≠ w.heap.size := by omega
  have m5_3_0 : w.heap.size ≠ w4.heap.size := by omega
  have n5_3_1 : w4.heap.size ≠ w.heap.size + 1 := by omega
  have m5_3_1 : w.heap.size + 1 ≠ w4.heap.size := by omega
  have n5_3_2 : w4.heap.size ≠ w4.heap.size + 1 := by omega
  have m5_3_2 : w4.heap.size + 1 ≠ w4.heap.size := by omega
  have hu5 := Nat.le_of_eq ht5
  have hv5 := Nat.le_of_eq ht5.symm
  clear ht5 c4_0 c4_1 c4_2 c4_3 l4_0a l4_0b l4_0c l4_0d l4_1a l4_1b l4_1c l4_1d hB4 hW5
  have kc5_0 : ∀ x : BelW w5.heap.size w5, x.1.cell? ⟨w.heap.size, 0, none⟩ = some (.int .i64 a) := BelW.cell c5_0 (World.block_lt_of_cell? w5 _ c5_0)
  have kc5_1 : ∀ x : BelW w5.heap.size w5, x.1.cell? ⟨w.heap.size, 1, none⟩ = some (.int .i64 0) := BelW.cell c5_1 (World.block_lt_of_cell? w5 _ c5_1)
  have kc5_2 : ∀ x : BelW w5.heap.size w5, x.1.cell? ⟨w.heap.size + 1, 0, none⟩ = some (.int .i64 b) := BelW.cell c5_2 (World.block_lt_of_cell? w5 _ c5_2)
  have kc5_3 : ∀ x : BelW w5.heap.size w5, x.1.cell? ⟨w.heap.size + 1, 1, none⟩ = some (.int .i64 m) := BelW.cell c5_3 (World.block_lt_of_cell? w5 _ c5_3)
  have kc5_4 : ∀ x : BelW w5.heap.size w5, x.1.cell? ⟨w4.heap.size + 1, 0, none⟩ = some (.int .i64 0) := BelW.cell c5_4 (World.block_lt_of_cell? w5 _ c5_4)
  have kc5_5 : ∀ x : BelW w5.heap.size w5, x.1.cell? ⟨w4.heap.size + 1, 1, none⟩ = some (.int .i64 0) := BelW.cell c5_5 (World.block_lt_of_cell? w5 _ c5_5)
  have kc5_6 : ∀ x : BelW w5.heap.size w5, x.1.cell? ⟨w4.heap.size, 0, none⟩ = some (.int .i64 a) := BelW.cell c5_6 (World.block_lt_of_cell? w5 _ c5_6)
  have kc5_7 : ∀ x : BelW w5.heap.size w5, x.1.cell? ⟨w4.heap.size, 1, none⟩ = some (.int .i64 1) := BelW.cell c5_7 (World.block_lt_of_cell? w5 _ c5_7)
  refine wp_region_bel_tail 11 w5.heap.size w5 (by kernel_rfl) (by kernel_rfl) (Below.refl _ _) ?_
  simp only [List.take_succ_cons, List.take_zero, List.drop_succ_cons, List.drop_zero]
  repeat (go_big_quiet_step ((go_at_call 24; refine Calls.bel_same (size_any _ ?_ ?_ _) <;> omega)))
  refine wpQuiet_nil ?_
  intro w6 hb6
  clear kc5_0 kc5_1 kc5_2 kc5_3 kc5_4 kc5_5 kc5_6 kc5_7
  have hB6 : Below w.heap.size w w6 := Below.trans (by first | exact hB5 | ((repeat' (first | exact hB5 | refine Below.setCell ?_ ?_ _ | refine Below.alloc ?_ ?_ _ | refine Below.drew ?_)) <;> (first | omega | (simp <;> omega)))) (hb6.mono (by first | omega | (simp <;> omega)))
  have hs6 : w.heap.size ≤ w6.heap.size := hB6.size
  have ht6 := hb6.size
  try simp only [World.size_alloc, World.size_setCell] at ht6
  have c6_0 : w6.cell? ⟨w.heap.size, 0, none⟩ = some (.int .i64 a) := (hb6.cell (p := ⟨w.heap.size, 0, none⟩) (by first | omega | (simp <;> omega))).trans (by first | exact c5_0 | simp [go_sem, c5_0, l5_0a, l5_0b, l5_0c, l5_0d, l5_1a, l5_1b, l5_1c, l5_1d, l5_2a, l5_2b, l5_2c, l5_2d, l5_3a, l5_3b, l5_3c, l5_3d, n5_2_0, m5_2_0, n5_2_1, m5_2_1, n5_2_3, m5_2_3, n5_3_0, m5_3_0, n5_3_1, m5_3_1, n5_3_2, m5_3_2])
  have c6_1 : w6.cell? ⟨w.heap.size, 1, none⟩ = some (.int .i64 0) := (hb6.cell (p := ⟨w.heap.size, 1, none⟩) (by first | omega | (simp <;> omega))).trans (by first | exact c5_1 | simp [go_sem, c5_1, l5_0a, l5_0b, l5_0c, l5_0d, l5_1a, l5_1b, l5_1c, l5_1d, l5_2a, l5_2b, l5_2c, l5_2d, l5_3a, l5_3b, l5_3c, l5_3d, n5_2_0, m5_2_0, n5_2_1, m5_2_1, n5_2_3, m5_2_3, n5_3_0, m5_3_0, n5_3_1, m5_3_1, n5_3_2, m5_3_2])
  have c6_2 : w6.cell? ⟨w.heap.size + 1, 0, none⟩ = some (.int .i64 b) := (hb6.cell (p := ⟨w.heap.size + 1, 0, none⟩) (by first | omega | (simp <;> omega))).trans (by first | exact c5_2 | simp [go_sem, c5_2, l5_0a, l5_0b, l5_0c, l5_0d, l5_1a, l5_1b, l5_1c, l5_1d, l5_2a, l5_2b, l5_2c, l5_2d, l5_3a, l5_3b, l5_3c, l5_3d, n5_2_0, m5_2_0, n5_2_1, m5_2_1, n5_2_3, m5_2_3, n5_3_0, m5_3_0, n5_3_1, m5_3_1, n5_3_2, m5_3_2])
  have c6_3 : w6.cell? ⟨w.heap.size + 1, 1, none⟩ = some (.int .i64 m) := (hb6.cell (p := ⟨w.heap.size + 1, 1, none⟩) (by first | omega | (simp <;> omega))).trans (by first | exact c5_3 | simp [go_sem, c5_3, l5_0a, l5_0b, l5_0c, l5_0d, l5_1a, l5_1b, l5_1c, l5_1d, l5_2a, l5_2b, l5_2c, l5_2d, l5_3a, l5_3b, l5_3c, l5_3d, n5_2_0, m5_2_0, n5_2_1, m5_2_1, n5_2_3, m5_2_3, n5_3_0, m5_3_0, n5_3_1, m5_3_1, n5_3_2, m5_3_2])
  have c6_4 : w6.cell? ⟨w4.heap.size + 1, 0, none⟩ = some (.int .i64 0) := (hb6.cell (p := ⟨w4.heap.size + 1, 0, none⟩) (by first | omega | (simp <;> omega))).trans (by first | exact c5_4 | simp [go_sem, c5_4, l5_0a, l5_0b, l5_0c, l5_0d, l5_1a, l5_1b, l5_1c, l5_1d, l5_2a, l5_2b, l5_2c, l5_2d, l5_3a, l5_3b, l5_3c, l5_3d, n5_2_0, m5_2_0, n5_2_1, m5_2_1, n5_2_3, m5_2_3, n5_3_0, m5_3_0, n5_3_1, m5_3_1, n5_3_2, m5_3_2])
  have fc6_4 : w6.frozen? ⟨w4.heap.size + 1, 0, none⟩ = false := (hb6.frozen (p := ⟨w4.heap.size + 1, 0, none⟩) (by first | omega | (simp <;> omega))).trans (by first | exact fc5_4 | simp [go_sem, fc5_4, l5_0a, l5_0b, l5_0c, l5_0d, l5_1a, l5_1b, l5_1c, l5_1d, l5_2a, l5_2b, l5_2c, l5_2d, l5_3a, l5_3b, l5_3c, l5_3d, n5_2_0, m5_2_0, n5_2_1, m5_2_1, n5_2_3, m5_2_3, n5_3_0, m5_3_0, n5_3_1, m5_3_1, n5_3_2, m5_3_2])
  have c6_5 : w6.cell? ⟨w4.heap.size + 1, 1, none⟩ = some (.int .i64 0) := (hb6.cell (p := ⟨w4.heap.size + 1, 1, none⟩) (by first | omega | (simp <;> omega))).trans (by first | exact c5_5 | simp [go_sem, c5_5, l5_0a, l5_0b, l5_0c, l5_0d, l5_1a, l5_1b, l5_1c, l5_1d, l5_2a, l5_2b, l5_2c, l5_2d, l5_3a, l5_3b, l5_3c, l5_3d, n5_2_0, m5_2_0, n5_2_1, m5_2_1, n5_2_3, m5_2_3, n5_3_0, m5_3_0, n5_3_1, m5_3_1, n5_3_2, m5_3_2])
  have fc6_5 : w6.frozen? ⟨w4.heap.size + 1, 1, none⟩ = false := (hb6.frozen (p := ⟨w4.heap.size + 1, 1, none⟩) (by first | omega | (simp <;> omega))).trans (by first | exact fc5_5 | simp [go_sem, fc5_5, l5_0a, l5_0b, l5_0c, l5_0d, l5_1a, l5_1b, l5_1c, l5_1d, l5_2a, l5_2b, l5_2c, l5_2d, l5_3a, l5_3b, l5_3c, l5_3d, n5_2_0, m5_2_0, n5_2_1, m5_2_1, n5_2_3, m5_2_3, n5_3_0, m5_3_0, n5_3_1, m5_3_1, n5_3_2, m5_3_2])
  have c6_6 : w6.cell? ⟨w4.heap.size, 0, none⟩ = some (.int .i64 a) := (hb6.cell (p := ⟨w4.heap.size, 0, none⟩) (by first | omega | (simp <;> omega))).trans (by first | exact c5_6 | simp [go_sem, c5_6, l5_0a, l5_0b, l5_0c, l5_0d, l5_1a, l5_1b, l5_1c, l5_1d, l5_2a, l5_2b, l5_2c, l5_2d, l5_3a, l5_3b, l5_3c, l5_3d, n5_2_0, m5_2_0, n5_2_1, m5_2_1, n5_2_3, m5_2_3, n5_3_0, m5_3_0, n5_3_1, m5_3_1, n5_3_2, m5_3_2])
  have fc6_6 : w6.frozen? ⟨w4.heap.size, 0, none⟩ = false := (hb6.frozen (p := ⟨w4.heap.size, 0, none⟩) (by first | omega | (simp <;> omega))).trans (by first | exact fc5_6 | simp [go_sem, fc5_6, l5_0a, l5_0b, l5_0c, l5_0d, l5_1a, l5_1b, l5_1c, l5_1d, l5_2a, l5_2b, l5_2c, l5_2d, l5_3a, l5_3b, l5_3c, l5_3d, n5_2_0, m5_2_0, n5_2_1, m5_2_1, n5_2_3, m5_2_3, n5_3_0, m5_3_0, n5_3_1, m5_3_1, n5_3_2, m5_3_2])
  have c6_7 : w6.cell? ⟨w4.heap.size, 1, none⟩ = some (.int .i64 1) := (hb6.cell (p := ⟨w4.heap.size, 1, none⟩) (by first | omega | (simp <;> omega))).trans (by first | exact c5_7 | simp [go_sem, c5_7, l5_0a, l5_0b, l5_0c, l5_0d, l5_1a, l5_1b, l5_1c, l5_1d, l5_2a, l5_2b, l5_2c, l5_2d, l5_3a, l5_3b, l5_3c, l5_3d, n5_2_0, m5_2_0, n5_2_1, m5_2_1, n5_2_3, m5_2_3, n5_3_0, m5_3_0, n5_3_1, m5_3_1, n5_3_2, m5_3_2])
  have fc6_7 : w6.frozen? ⟨w4.heap.size, 1, none⟩ = false := (hb6.frozen (p := ⟨w4.heap.size, 1, none⟩) (by first | omega | (simp <;> omega))).trans (by first | exact fc5_7 | simp [go_sem, fc5_7, l5_0a, l5_0b, l5_0c, l5_0d, l5_1a, l5_1b, l5_1c, l5_1d, l5_2a, l5_2b, l5_2c, l5_2d, l5_3a, l5_3b, l5_3c, l5_3d, n5_2_0, m5_2_0, n5_2_1, m5_2_1, n5_2_3, m5_2_3, n5_3_0, m5_3_0, n5_3_1, m5_3_1, n5_3_2, m5_3_2])
  have l6_0a : w.heap.size < w6.heap.size := World.block_lt_of_cell? w6 _ c6_0
  have l6_0b : w.heap.size < w6.heap.size + 1 := Nat.lt_succ_of_lt l6_0a
  have l6_0c : w.heap.size < w6.heap.size + 1 + 1 := Nat.lt_succ_of_lt l6_0b
  have l6_0d : w.heap.size < w6.heap.size + 1 + 1 + 1 := Nat.lt_succ_of_lt l6_0c
  have l6_1a : w.heap.size + 1 < w6.heap.size := World.block_lt_of_cell? w6 _ c6_2
  have l6_1b : w.heap.size + 1 < w6.heap.size + 1 := Nat.lt_succ_of_lt l6_1a
  have l6_1c : w.heap.size + 1 < w6.heap.size + 1 + 1 := Nat.lt_succ_of_lt l6_1b
  have l6_1d : w.heap.size + 1 < w6.heap.size + 1 + 1 + 1 := Nat.lt_succ_of_lt l6_1c
  have l6_2a : w4.heap.size + 1 < w6.heap.size := World.block_lt_of_cell? w6 _ c6_4
  have l6_2b : w4.heap.size + 1 < w6.heap.size + 1 := Nat.lt_succ_of_lt l6_2a
  have l6_2c : w4.heap.size + 1 < w6.heap.size + 1 + 1 := Nat.lt_succ_of_lt l6_2b
  have l6_2d : w4.heap.size + 1 < w6.heap.size + 1 + 1 + 1 := Nat.lt_succ_of_lt l6_2c
  have l6_3a : w4.heap.size < w6.heap.size := World.block_lt_of_cell? w6 _ c6_6
  have l6_3b : w4.heap.size < w6.heap.size + 1 := Nat.lt_succ_of_lt l6_3a
  have l6_3c : w4.heap.size < w6.heap.size + 1 + 1 := Nat.lt_succ_of_lt l6_3b
  have l6_3d : w4.heap.size < w6.heap.size + 1 + 1 + 1 := Nat.lt_succ_of_lt l6_3c
  have n6_2_0 : w4.heap.size + 1 ≠ w.heap.size := by omega
  have m6_2_0 : w.heap.size ≠ w4.heap.size + 1 := by omega
  have n6_2_1 : w4.heap.size + 1 ≠ w.heap.size + 1 := by omega
  have m6_2_1 : w.heap.size + 1 ≠ w4.heap.size + 1 := by omega
  have n6_2_3 : w4.heap.size + 1 ≠ w4.heap.size := by omega
  have m6_2_3 : w4.heap.size ≠ w4.heap.size + 1 := by omega
  have n6_3_0 : w4.heap.size ≠ w.heap.size := by omega
  have m6_3_0 : w.heap.size ≠ w4.heap.size := by omega
  have n6_3_1 : w4.heap.size ≠ w.heap.size + 1 := by omega
  have m6_3_1 : w.heap.size + 1 ≠ w4.heap.size := by omega
  have n6_3_2 : w4.heap.size ≠ w4.heap.size + 1 := by omega
  have m6_3_2 : w4.heap.size + 1 ≠ w4.heap.size := by omega
  clear c5_0 c5_1 c5_2 c5_3 c5_4 c5_5 c5_6 c5_7 fc5_4 fc5_5 fc5_6 fc5_7 l5_0a l5_0b l5_0c l5_0d l5_1a l5_1b l5_1c l5_1d l5_2a l5_2b l5_2c l5_2d l5_3a l5_3b l5_3c l5_3d n5_2_0 m5_2_0 n5_2_1 m5_2_1 n5_2_3 m5_2_3 n5_3_0 m5_3_0 n5_3_1 m5_3_1 n5_3_2 m5_3_2 hB5 hb6
  go_wp2_with fail
  refine (halves_zero a HC.out _).mono ?_
  rintro e w7 ⟨rfl, hb7⟩
  have hB7 : Below w.heap.size w w7 := Below.trans (by first | exact hB6 | ((repeat' (first | exact hB6 | refine Below.setCell ?_ ?_ _ | refine Below.alloc ?_ ?_ _ | refine Below.drew ?_)) <;> (first | omega | (simp <;> omega)))) (hb7.mono (by first | omega | (simp <;> omega)))
  have hs7 : w.heap.size ≤ w7.heap.size := hB7.size
  have ht7 := hb7.size
  try simp only [World.size_alloc, World.size_setCell] at ht7
  have c7_0 : w7.cell? ⟨w.heap.size, 0, none⟩ = some (.int .i64 a) := (hb7.cell (p := ⟨w.heap.size, 0, none⟩) (by first | omega | (simp <;> omega))).trans (by first | exact c6_0 | simp [go_sem, c6_0, l6_0a, l6_0b, l6_0c, l6_0d, l6_1a, l6_1b, l6_1c, l6_1d, l6_2a, l6_2b, l6_2c, l6_2d, l6_3a, l6_3b, l6_3c, l6_3d, n6_2_0, m6_2_0, n6_2_1, m6_2_1, n6_2_3, m6_2_3, n6_3_0, m6_3_0, n6_3_1, m6_3_1, n6_3_2, m6_3_2])
  have c7_1 : w7.cell? ⟨w.heap.size, 1, none⟩ = some (.int .i64 0) := (hb7.cell (p := ⟨w.heap.size, 1, none⟩) (by first | omega | (simp <;> omega))).trans (by first | exact c6_1 | simp [go_sem, c6_1, l6_0a, l6_0b, l6_0c, l6_0d, l6_1a, l6_1b, l6_1c, l6_1d, l6_2a, l6_2b, l6_2c, l6_2d, l6_3a, l6_3b, l6_3c, l6_3d, n6_2_0, m6_2_0, n6_2_1, m6_2_1, n6_2_3, m6_2_3, n6_3_0, m6_3_0, n6_3_1, m6_3_1, n6_3_2, m6_3_2])
  have c7_2 : w7.cell? ⟨w.heap.size + 1, 0, none⟩ = some (.int .i64 b) := (hb7.cell (p := ⟨w.heap.size + 1, 0, none⟩) (by first | omega | (simp <;> omega))).trans (by first | exact c6_2 | simp [go_sem, c6_2, l6_0a, l6_0b, l6_0c, l6_0d, l6_1a, l6_1b, l6_1c, l6_1d, l6_2a, l6_2b, l6_2c, l6_2d, l6_3a, l6_3b, l6_3c, l6_3d, n6_2_0, m6_2_0, n6_2_1, m6_2_1, n6_2_3, m6_2_3, n6_3_0, m6_3_0, n6_3_1, m6_3_1, n6_3_2, m6_3_2])
  have c7_3 : w7.cell? ⟨w.heap.size + 1, 1, none⟩ = some (.int .i64 m) := (hb7.cell (p := ⟨w.heap.size + 1, 1, none⟩) (by first | omega | (simp <;> omega))).trans (by first | exact c6_3 | simp [go_sem, c6_3, l6_0a, l6_0b, l6_0c, l6_0d, l6_1a, l6_1b, l6_1c, l6_1d, l6_2a, l6_2b, l6_2c, l6_2d, l6_3a, l6_3b, l6_3c, l6_3d, n6_2_0, m6_2_0, n6_2_1, m6_2_1, n6_2_3, m6_2_3, n6_3_0, m6_3_0, n6_3_1, m6_3_1, n6_3_2, m6_3_2])
  have c7_4 : w7.cell? ⟨w4.heap.size, 0, none⟩ = some (.int .i64 a) := (hb7.cell (p := ⟨w4.heap.size, 0, none⟩) (by first | omega | (simp <;> omega))).trans (by first | exact c6_6 | simp [go_sem, c6_6, l6_0a, l6_0b, l6_0c, l6_0d, l6_1a, l6_1b, l6_1c, l6_1d, l6_2a, l6_2b, l6_2c, l6_2d, l6_3a, l6_3b, l6_3c, l6_3d, n6_2_0, m6_2_0, n6_2_1, m6_2_1, n6_2_3, m6_2_3, n6_3_0, m6_3_0, n6_3_1, m6_3_1, n6_3_2, m6_3_2])
  have fc7_4 : w7.frozen? ⟨w4.heap.size, 0, none⟩ = false := (hb7.frozen (p := ⟨w4.heap.size, 0, none⟩) (by first | omega | (simp <;> omega))).trans (by first | exact fc6_6 | simp [go_sem, fc6_6, l6_0a, l6_0b, l6_0c, l6_0d, l6_1a, l6_1b, l6_1c, l6_1d, l6_2a, l6_2b, l6_2c, l6_2d, l6_3a, l6_3b, l6_3c, l6_3d, n6_2_0, m6_2_0, n6_2_1, m6_2_1, n6_2_3, m6_2_3, n6_3_0, m6_3_0, n6_3_1, m6_3_1, n6_3_2, m6_3_2])
  have c7_5 : w7.cell? ⟨w4.heap.size, 1, none⟩ = some (.int .i64 1) := (hb7.cell (p := ⟨w4.heap.size, 1, none⟩) (by first | omega | (simp <;> omega))).trans (by first | exact c6_7 | simp [go_sem, c6_7, l6_0a, l6_0b, l6_0c, l6_0d, l6_1a, l6_1b, l6_1c, l6_1d, l6_2a, l6_2b, l6_2c, l6_2d, l6_3a, l6_3b, l6_3c, l6_3d, n6_2_0, m6_2_0, n6_2_1, m6_2_1, n6_2_3, m6_2_3, n6_3_0, m6_3_0, n6_3_1, m6_3_1, n6_3_2, m6_3_2])
  have fc7_5 : w7.frozen? ⟨w4.heap.size, 1, none⟩ = false := (hb7.frozen (p := ⟨w4.heap.size, 1, none⟩) (by first | omega | (simp <;> omega))).trans (by first | exact fc6_7 | simp [go_sem, fc6_7, l6_0a, l6_0b, l6_0c, l6_0d, l6_1a, l6_1b, l6_1c, l6_1d, l6_2a, l6_2b, l6_2c, l6_2d, l6_3a, l6_3b, l6_3c, l6_3d, n6_2_0, m6_2_0, n6_2_1, m6_2_1, n6_2_3, m6_2_3, n6_3_0, m6_3_0, n6_3_1, m6_3_1, n6_3_2, m6_3_2])
  have c7_6 : w7.cell? ⟨w4.heap.size + 1, 0, none⟩ = some (.int .i64 (a + sz 1)) := (hb7.cell (p := ⟨w4.heap.size + 1, 0, none⟩) (by first | omega | (simp <;> omega))).trans (by first | (simp; done) | simp [go_sem, l6_0a, l6_0b, l6_0c, l6_0d, l6_1a, l6_1b, l6_1c, l6_1d, l6_2a, l6_2b, l6_2c, l6_2d, l6_3a, l6_3b, l6_3c, l6_3d, n6_2_0, m6_2_0, n6_2_1, m6_2_1, n6_2_3, m6_2_3, n6_3_0, m6_3_0, n6_3_1, m6_3_1, n6_3_2, m6_3_2, c6_0, c6_1, c6_2, c6_3, c6_6, c6_7, c6_4, c6_5, fc6_6, fc6_7, fc6_4, fc6_5])
  have fc7_6 : w7.frozen? ⟨w4.heap.size + 1, 0, none⟩ = false := (hb7.frozen (p := ⟨w4.heap.size + 1, 0, none⟩) (by first | omega | (simp <;> omega))).trans (by first | (simp; done) | simp [go_sem, l6_0a, l6_0b, l6_0c, l6_0d, l6_1a, l6_1b, l6_1c, l6_1d, l6_2a, l6_2b, l6_2c, l6_2d, l6_3a, l6_3b, l6_3c, l6_3d, n6_2_0, m6_2_0, n6_2_1, m6_2_1, n6_2_3, m6_2_3, n6_3_0, m6_3_0, n6_3_1, m6_3_1, n6_3_2, m6_3_2, c6_0, c6_1, c6_2, c6_3, c6_6, c6_7, c6_4, c6_5, fc6_6, fc6_7, fc6_4, fc6_5])
  have c7_7 : w7.cell? ⟨w4.heap.size + 1, 1, none⟩ = some (.int .i64 1) := (hb7.cell (p := ⟨w4.heap.size + 1, 1, none⟩) (by first | omega | (simp <;> omega))).trans (by first | (simp; done) | simp [go_sem, l6_0a, l6_0b, l6_0c, l6_0d, l6_1a, l6_1b, l6_1c, l6_1d, l6_2a, l6_2b, l6_2c, l6_2d, l6_3a, l6_3b, l6_3c, l6_3d, n6_2_0, m6_2_0, n6_2_1, m6_2_1, n6_2_3, m6_2_3, n6_3_0, m6_3_0, n6_3_1, m6_3_1, n6_3_2, m6_3_2, c6_0, c6_1, c6_2, c6_3, c6_6, c6_7, c6_4, c6_5, fc6_6, fc6_7, fc6_4, fc6_5])
  have fc7_7 : w7.frozen? ⟨w4.heap.size + 1, 1, none⟩ = false := (hb7.frozen (p := ⟨w4.heap.size + 1, 1, none⟩) (by first | omega | (simp <;> omega))).trans (by first | (simp; done) | simp [go_sem, l6_0a, l6_0b, l6_0c, l6_0d, l6_1a, l6_1b, l6_1c, l6_1d, l6_2a, l6_2b, l6_2c, l6_2d, l6_3a, l6_3b, l6_3c, l6_3d, n6_2_0, m6_2_0, n6_2_1, m6_2_1, n6_2_3, m6_2_3, n6_3_0, m6_3_0, n6_3_1, m6_3_1, n6_3_2, m6_3_2, c6_0, c6_1, c6_2, c6_3, c6_6, c6_7, c6_4, c6_5, fc6_6, fc6_7, fc6_4, fc6_5])
  have l7_0a : w.heap.size < w7.heap.size := World.block_lt_of_cell? w7 _ c7_0
  have l7_0b : w.heap.size < w7.heap.size + 1 := Nat.lt_succ_of_lt l7_0a
  have l7_0c : w.heap.size < w7.heap.size + 1 + 1 := Nat.lt_succ_of_lt l7_0b
  have l7_0d : w.heap.size < w7.heap.size + 1 + 1 + 1 := Nat.lt_succ_of_lt l7_0c
  have l7_1a : w.heap.size + 1 < w7.heap.size := World.block_lt_of_cell? w7 _ c7_2
  have l7_1b : w.heap.size + 1 < w7.heap.size + 1 := Nat.lt_succ_of_lt l7_1a
  have l7_1c : w.heap.size + 1 < w7.heap.size + 1 + 1 := Nat.lt_succ_of_lt l7_1b
  have l7_1d : w.heap.size + 1 < w7.heap.size + 1 + 1 + 1 := Nat.lt_succ_of_lt l7_1c
  have l7_2a : w4.heap.size < w7.heap.size := World.block_lt_of_cell? w7 _ c7_4
  have l7_2b : w4.heap.size < w7.heap.size + 1 := Nat.lt_succ_of_lt l7_2a
  have l7_2c : w4.heap.size < w7.heap.size + 1 + 1 := Nat.lt_succ_of_lt l7_2b
  have l7_2d : w4.heap.size < w7.heap.size + 1 + 1 + 1 := Nat.lt_succ_of_lt l7_2c
  have l7_3a : w4.heap.size + 1 < w7.heap.size := World.block_lt_of_cell? w7 _ c7_6
  have l7_3b : w4.heap.size + 1 < w7.heap.size + 1 := Nat.lt_succ_of_lt l7_3a
  have l7_3c : w4.heap.size + 1 < w7.heap.size + 1 + 1 := Nat.lt_succ_of_lt l7_3b
  have l7_3d : w4.heap.size + 1 < w7.heap.size + 1 + 1 + 1 := Nat.lt_succ_of_lt l7_3c
  have n7_2_0 : w4.heap.size ≠ w.heap.size := by omega
  have m7_2_0 : w.heap.size ≠ w4.heap.size := by omega
  have n7_2_1 : w4.heap.size ≠ w.heap.size + 1 := by omega
  have m7_2_1 : w.heap.size + 1 ≠ w4.heap.size := by omega
  have n7_2_3 : w4.heap.size ≠ w4.heap.size + 1 := by omega
  have m7_2_3 : w4.heap.size + 1 ≠ w4.heap.size := by omega
  have n7_3_0 : w4.heap.size + 1 ≠ w.heap.size := by omega
  have m7_3_0 : w.heap.size ≠ w4.heap.size + 1 := by omega
  have n7_3_1 : w4.heap.size + 1 ≠ w.heap.size + 1 := by omega
  have m7_3_1 : w.heap.size + 1 ≠ w4.heap.size + 1 := by omega
  have n7_3_2 : w4.heap.size + 1 ≠ w4.heap.size := by omega
  have m7_3_2 : w4.heap.size ≠ w4.heap.size + 1 := by omega
  clear c6_0 c6_1 c6_2 c6_3 c6_6 c6_7 c6_4 c6_5 fc6_6 fc6_7 fc6_4 fc6_5 l6_0a l6_0b l6_0c l6_0d l6_1a l6_1b l6_1c l6_1d l6_2a l6_2b l6_2c l6_2d l6_3a l6_3b l6_3c l6_3d n6_2_0 m6_2_0 n6_2_1 m6_2_1 n6_2_3 m6_2_3 n6_3_0 m6_3_0 n6_3_1 m6_3_1 n6_3_2 m6_3_2 hB6 hb7
  go_wp2_with fail
  refine (error_nil0 _ (by exact HG.out.belowB (show Below w.heap.size w _ from (by first | exact hB7 | ((repeat' (first | exact hB7 | refine Below.setCell ?_ ?_ _ | refine Below.alloc ?_ ?_ _ | refine Below.drew ?_)) <;> (first | omega | (simp <;> omega))))) HG.out.lt)).mono ?_
  rintro e w8 ⟨rfl, hb8⟩
  have hB8 : Below w.heap.size w w8 := Below.trans (by first | exact hB7 | ((repeat' (first | exact hB7 | refine Below.setCell ?_ ?_ _ | refine Below.alloc ?_ ?_ _ | refine Below.drew ?_)) <;> (first | omega | (simp <;> omega)))) (hb8.mono (by first | omega | (simp <;> omega)))
  have hs8 : w.heap.size ≤ w8.heap.size := hB8.size
  have ht8 := hb8.size
  try simp only [World.size_alloc, World.size_setCell] at ht8
  have c8_0 : w8.cell? ⟨w.heap.size, 0, none⟩ = some (.int .i64 a) := (hb8.cell (p := ⟨w.heap.size, 0, none⟩) (by first | omega | (simp <;> omega))).trans (by first | exact c7_0 | simp [go_sem, c7_0, l7_0a, l7_0b, l7_0c, l7_0d, l7_1a, l7_1b, l7_1c, l7_1d, l7_2a, l7_2b, l7_2c, l7_2d, l7_3a, l7_3b, l7_3c, l7_3d, n7_2_0, m7_2_0, n7_2_1, m7_2_1, n7_2_3, m7_2_3, n7_3_0, m7_3_0, n7_3_1, m7_3_1, n7_3_2, m7_3_2])
  have c8_1 : w8.cell? ⟨w.heap.size, 1, none⟩ = some (.int .i64 0) := (hb8.cell (p := ⟨w.heap.size, 1, none⟩) (by first | omega | (simp <;> omega))).trans (by first | exact c7_1 | simp [go_sem, c7_1, l7_0a, l7_0b, l7_0c, l7_0d, l7_1a, l7_1b, l7_1c, l7_1d, l7_2a, l7_2b, l7_2c, l7_2d, l7_3a, l7_3b, l7_3c, l7_3d, n7_2_0, m7_2_0, n7_2_1, m7_2_1, n7_2_3, m7_2_3, n7_3_0, m7_3_0, n7_3_1, m7_3_1, n7_3_2, m7_3_2])
  have c8_2 : w8.cell? ⟨w.heap.size + 1, 0, none⟩ = some (.int .i64 b) := (hb8.cell (p := ⟨w.heap.size + 1, 0, none⟩) (by first | omega | (simp <;> omega))).trans (by first | exact c7_2 | simp [go_sem, c7_2, l7_0a, l7_0b, l7_0c, l7_0d, l7_1a, l7_1b, l7_1c, l7_1d, l7_2a, l7_2b, l7_2c, l7_2d, l7_3a, l7_3b, l7_3c, l7_3d, n7_2_0, m7_2_0, n7_2_1, m7_2_1, n7_2_3, m7_2_3, n7_3_0, m7_3_0, n7_3_1, m7_3_1, n7_3_2, m7_3_2])
  have c8_3 : w8.cell? ⟨w.heap.size + 1, 1, none⟩ = some (.int .i64 m) := (hb8.cell (p := ⟨w.heap.size + 1, 1, none⟩) (by first | omega | (simp <;> omega))).trans (by first | exact c7_3 | simp [go_sem, c7_3, l7_0a, l7_0b, l7_0c, l7_0d, l7_1a, l7_1b, l7_1c, l7_1d, l7_2a, l7_2b, l7_2c, l7_2d, l7_3a, l7_3b, l7_3c, l7_3d, n7_2_0, m7_2_0, n7_2_1, m7_2_1, n7_2_3, m7_2_3, n7_3_0, m7_3_0, n7_3_1, m7_3_1, n7_3_2, m7_3_2])
  have c8_4 : w8.cell? ⟨w4.heap.size, 0, none⟩ = some (.int .i64 a) := (hb8.cell (p := ⟨w4.heap.size, 0, none⟩) (by first | omega | (simp <;> omega))).trans (by first | exact c7_4 | simp [go_sem, c7_4, l7_0a, l7_0b, l7_0c, l7_0d, l7_1a, l7_1b, l7_1c, l7_1d, l7_2a, l7_2b, l7_2c, l7_2d, l7_3a, l7_3b, l7_3c, l7_3d, n7_2_0, m7_2_0, n7_2_1, m7_2_1, n7_2_3, m7_2_3, n7_3_0, m7_3_0, n7_3_1, m7_3_1, n7_3_2, m7_3_2])
  have fc8_4 : w8.frozen? ⟨w4.heap.size, 0, none⟩ = false := (hb8.frozen (p := ⟨w4.heap.size, 0, none⟩) (by first | omega | (simp <;> omega))).trans (by first | exact fc7_4 | simp [go_sem, fc7_4, l7_0a, l7_0b, l7_0c, l7_0d, l7_1a, l7_1b, l7_1c, l7_1d, l7_2a, l7_2b, l7_2c, l7_2d, l7_3a, l7_3b, l7_3c, l7_3d, n7_2_0, m7_2_0, n7_2_1, m7_2_1, n7_2_3, m7_2_3, n7_3_0, m7_3_0, n7_3_1, m7_3_1, n7_3_2, m7_3_2])
  have c8_5 : w8.cell? ⟨w4.heap.size, 1, none⟩ = some (.int .i64 1) := (hb8.cell (p := ⟨w4.heap.size, 1, none⟩) (by first | omega | (simp <;> omega))).trans (by first | exact c7_5 | simp [go_sem, c7_5, l7_0a, l7_0b, l7_0c, l7_0d, l7_1a, l7_1b, l7_1c, l7_1d, l7_2a, l7_2b, l7_2c, l7_2d, l7_3a, l7_3b, l7_3c, l7_3d, n7_2_0, m7_2_0, n7_2_1, m7_2_1, n7_2_3, m7_2_3, n7_3_0, m7_3_0, n7_3_1, m7_3_1, n7_3_2, m7_3_2])
  have fc8_5 : w8.frozen? ⟨w4.heap.size, 1, none⟩ = false := (hb8.frozen (p := ⟨w4.heap.size, 1, none⟩) (by first | omega | (simp <;> omega))).trans (by first | exact fc7_5 | simp [go_sem, fc7_5, l7_0a, l7_0b, l7_0c, l7_0d, l7_1a, l7_1b, l7_1c, l7_1d, l7_2a, l7_2b, l7_2c, l7_2d, l7_3a, l7_3b, l7_3c, l7_3d, n7_2_0, m7_2_0, n7_2_1, m7_2_1, n7_2_3, m7_2_3, n7_3_0, m7_3_0, n7_3_1, m7_3_1, n7_3_2, m7_3_2])
  have c8_6 : w8.cell? ⟨w4.heap.size + 1, 0, none⟩ = some (.int .i64 (a + sz 1)) := (hb8.cell (p := ⟨w4.heap.size + 1, 0, none⟩) (by first | omega | (simp <;> omega))).trans (by first | exact c7_6 | simp [go_sem, c7_6, l7_0a, l7_0b, l7_0c, l7_0d, l7_1a, l7_1b, l7_1c, l7_1d, l7_2a, l7_2b, l7_2c, l7_2d, l7_3a, l7_3b, l7_3c, l7_3d, n7_2_0, m7_2_0, n7_2_1, m7_2_1, n7_2_3, m7_2_3, n7_3_0, m7_3_0, n7_3_1, m7_3_1, n7_3_2, m7_3_2])
  have fc8_6 : w8.frozen? ⟨w4.heap.size + 1, 0, none⟩ = false := (hb8.frozen (p := ⟨w4.heap.size + 1, 0, none⟩) (by first | omega | (simp <;> omega))).trans (by first | exact fc7_6 | simp [go_sem, fc7_6, l7_0a, l7_0b, l7_0c, l7_0d, l7_1a, l7_1b, l7_1c, l7_1d, l7_2a, l7_2b, l7_2c, l7_2d, l7_3a, l7_3b, l7_3c, l7_3d, n7_2_0, m7_2_0, n7_2_1, m7_2_1, n7_2_3, m7_2_3, n7_3_0, m7_3_0, n7_3_1, m7_3_1, n7_3_2, m7_3_2])
  have c8_7 : w8.cell? ⟨w4.heap.size + 1, 1, none⟩ = some (.int .i64 1) := (hb8.cell (p := ⟨w4.heap.size + 1, 1, none⟩) (by first | omega | (simp <;> omega))).trans (by first | exact c7_7 | simp [go_sem, c7_7, l7_0a, l7_0b, l7_0c, l7_0d, l7_1a, l7_1b, l7_1c, l7_1d, l7_2a, l7_2b, l7_2c, l7_2d, l7_3a, l7_3b, l7_3c, l7_3d, n7_2_0, m7_2_0, n7_2_1, m7_2_1, n7_2_3, m7_2_3, n7_3_0, m7_3_0, n7_3_1, m7_3_1, n7_3_2, m7_3_2])
  have fc8_7 : w8.frozen? ⟨w4.heap.size + 1, 1, none⟩ = false := (hb8.frozen (p := ⟨w4.heap.size + 1, 1, none⟩) (by first | omega | (simp <;> omega))).trans (by first | exact fc7_7 | simp [go_sem, fc7_7, l7_0a, l7_0b, l7_0c, l7_0d, l7_1a, l7_1b, l7_1c, l7_1d, l7_2a, l7_2b, l7_2c, l7_2d, l7_3a, l7_3b, l7_3c, l7_3d, n7_2_0, m7_2_0, n7_2_1, m7_2_1, n7_2_3, m7_2_3, n7_3_0, m7_3_0, n7_3_1, m7_3_1, n7_3_2, m7_3_2])
  have c8_8 : w8.cell? ⟨w7.heap.size, 0, none⟩ = some (.int .i64 a) := (hb8.cell (p := ⟨w7.heap.size, 0, none⟩) (by first | omega | (simp <;> omega))).trans (by first | (simp; done) | simp [go_sem, l7_0a, l7_0b, l7_0c, l7_0d, l7_1a, l7_1b, l7_1c, l7_1d, l7_2a, l7_2b, l7_2c, l7_2d, l7_3a, l7_3b, l7_3c, l7_3d, n7_2_0, m7_2_0, n7_2_1, m7_2_1, n7_2_3, m7_2_3, n7_3_0, m7_3_0, n7_3_1, m7_3_1, n7_3_2, m7_3_2, c7_0, c7_1, c7_2, c7_3, c7_4, c7_5, c7_6, c7_7, fc7_4, fc7_5, fc7_6, fc7_7])
  have fc8_8 : w8.frozen? ⟨w7.heap.size, 0, none⟩ = false := (hb8.frozen (p := ⟨w7.heap.size, 0, none⟩) (by first | omega | (simp <;> omega))).trans (by first | (simp; done) | simp [go_sem, l7_0a, l7_0b, l7_0c, l7_0d, l7_1a, l7_1b, l7_1c, l7_1d, l7_2a, l7_2b, l7_2c, l7_2d, l7_3a, l7_3b, l7_3c, l7_3d, n7_2_0, m7_2_0, n7_2_1, m7_2_1, n7_2_3, m7_2_3, n7_3_0, m7_3_0, n7_3_1, m7_3_1, n7_3_2, m7_3_2, c7_0, c7_1, c7_2, c7_3, c7_4, c7_5, c7_6, c7_7, fc7_4, fc7_5, fc7_6, fc7_7])
  have c8_9 : w8.cell? ⟨w7.heap.size, 1, none⟩ = some (.int .i64 1) := (hb8.cell (p := ⟨w7.heap.size, 1, none⟩) (by first | omega | (simp <;> omega))).trans (by first | (simp; done) | simp [go_sem, l7_0a, l7_0b, l7_0c, l7_0d, l7_1a, l7_1b, l7_1c, l7_1d, l7_2a, l7_2b, l7_2c, l7_2d, l7_3a, l7_3b, l7_3c, l7_3d, n7_2_0, m7_2_0, n7_2_1, m7_2_1, n7_2_3, m7_2_3, n7_3_0, m7_3_0, n7_3_1, m7_3_1, n7_3_2, m7_3_2, c7_0, c7_1, c7_2, c7_3, c7_4, c7_5, c7_6, c7_7, fc7_4, fc7_5, fc7_6, fc7_7])
  have fc8_9 : w8.frozen? ⟨w7.heap.size, 1, none⟩ = false := (hb8.frozen (p := ⟨w7.heap.size, 1, none⟩) (by first | omega | (simp <;> omega))).trans (by first | (simp; done) | simp [go_sem, l7_0a, l7_0b, l7_0c, l7_0d, l7_1a, l7_1b, l7_1c, l7_1d, l7_2a, l7_2b, l7_2c, l7_2d, l7_3a, l7_3b, l7_3c, l7_3d, n7_2_0, m7_2_0, n7_2_1, m7_2_1, n7_2_3, m7_2_3, n7_3_0, m7_3_0, n7_3_1, m7_3_1, n7_3_2, m7_3_2, c7_0, c7_1, c7_2, c7_3, c7_4, c7_5, c7_6, c7_7, fc7_4, fc7_5, fc7_6, fc7_7])
  have c8_10 : w8.cell? ⟨w7.heap.size + 1, 0, none⟩ = some (.int .i64 (a + sz 1)) := (hb8.cell (p := ⟨w7.heap.size + 1, 0, none⟩) (by first | omega | (simp <;> omega))).trans (by first | (simp; done) | simp [go_sem, l7_0a, l7_0b, l7_0c, l7_0d, l7_1a, l7_1b, l7_1c, l7_1d, l7_2a, l7_2b, l7_2c, l7_2d, l7_3a, l7_3b, l7_3c, l7_3d, n7_2_0, m7_2_0, n7_2_1, m7_2_1, n7_2_3, m7_2_3, n7_3_0, m7_3_0, n7_3_1, m7_3_1, n7_3_2, m7_3_2, c7_0, c7_1, c7_2, c7_3, c7_4, c7_5, c7_6, c7_7, fc7_4, fc7_5, fc7_6, fc7_7])
  have c8_11 : w8.cell? ⟨w7.heap.size + 1, 1, none⟩ = some (.int .i64 1) := (hb8.cell (p := ⟨w7.heap.size + 1, 1, none⟩) (by first | omega | (simp <;> omega))).trans (by first | (simp; done) | simp [go_sem, l7_0a, l7_0b, l7_0c, l7_0d, l7_1a, l7_1b, l7_1c, l7_1d, l7_2a, l7_2b, l7_2c, l7_2d, l7_3a, l7_3b, l7_3c, l7_3d, n7_2_0, m7_2_0, n7_2_1, m7_2_1, n7_2_3, m7_2_3, n7_3_0, m7_3_0, n7_3_1, m7_3_1, n7_3_2, m7_3_2, c7_0, c7_1, c7_2, c7_3, c7_4, c7_5, c7_6, c7_7, fc7_4, fc7_5, fc7_6, fc7_7])
  have l8_0a : w.heap.size < w8.heap.size := World.block_lt_of_cell? w8 _ c8_0
  have l8_0b : w.heap.size < w8.heap.size + 1 := Nat.lt_succ_of_lt l8_0a
  have l8_0c : w.heap.size < w8.heap.size + 1 + 1 := Nat.lt_succ_of_lt l8_0b
  have l8_0d : w.heap.size < w8.heap.size + 1 + 1 + 1 := Nat.lt_succ_of_lt l8_0c
  have l8_1a : w.heap.size + 1 < w8.heap.size := World.block_lt_of_cell? w8 _ c8_2
  have l8_1b : w.heap.size + 1 < w8.heap.size + 1 := Nat.lt_succ_of_lt l8_1a
  have l8_1c : w.heap.size + 1 < w8.heap.size + 1 + 1 := Nat.lt_succ_of_lt l8_1b
  have l8_1d : w.heap.size + 1 < w8.heap.size + 1 + 1 + 1 := Nat.lt_succ_of_lt l8_1c
  have l8_2a : w4.heap.size < w8.heap.size := World.block_lt_of_cell? w8 _ c8_4
  have l8_2b : w4.heap.size < w8.heap.size + 1 := Nat.lt_succ_of_lt l8_2a
  have l8_2c : w4.heap.size < w8.heap.size + 1 + 1 := Nat.lt_succ_of_lt l8_2b
  have l8_2d : w4.heap.size < w8.heap.size + 1 + 1 + 1 := Nat.lt_succ_of_lt l8_2c
  have l8_3a : w4.heap.size + 1 < w8.heap.size := World.block_lt_of_cell? w8 _ c8_6
  have l8_3b : w4.heap.size + 1 < w8.heap.size + 1 := Nat.lt_succ_of_lt l8_3a
  have l8_3c : w4.heap.size + 1 < w8.heap.size + 1 + 1 := Nat.lt_succ_of_lt l8_3b
  have l8_3d : w4.heap.size + 1 < w8.heap.size + 1 + 1 + 1 := Nat.lt_succ_of_lt l8_3c
  have l8_4a : w7.heap.size < w8.heap.size := World.block_lt_of_cell? w8 _ c8_8
  have l8_4b : w7.heap.size < w8.heap.size + 1 := Nat.lt_succ_of_lt l8_4a
  have l8_4c : w7.heap.size < w8.heap.size + 1 + 1 := Nat.lt_succ_of_lt l8_4b
  have l8_4d : w7.heap.size < w8.heap.size + 1 + 1 + 1 := Nat.lt_succ_of_lt l8_4c
  have l8_5a : w7.heap.size + 1 < w8.heap.size := World.block_lt_of_cell? w8 _ c8_10
  have l8_5b : w7.heap.size + 1 < w8.heap.size + 1 := Nat.lt_succ_of_lt l8_5a
  have l8_5c : w7.heap.size + 1 < w8.heap.size + 1 + 1 := Nat.lt_succ_of_lt l8_5b
  have l8_5d : w7.heap.size + 1 < w8.heap.size + 1 + 1 + 1 := Nat.lt_succ_of_lt l8_5c
  have n8_2_0 : w4.heap.size ≠ w.heap.size := by omega
  have m8_2_0 : w.heap.size ≠ w4.heap.size := by omega
  have n8_2_1 : w4.heap.size ≠ w.heap.size + 1 := by omega
  have m8_2_1 : w.heap.size + 1 ≠ w4.heap.size := by omega
  have n8_2_3 : w4.heap.size ≠ w4.heap.size + 1 := by omega
  have m8_2_3 : w4.heap.size + 1 ≠ w4.heap.size := by omega
  have n8_2_4 : w4.heap.size ≠ w7.heap.size := by omega
  have m8_2_4 : w7.heap.size ≠ w4.heap.size := by omega
  have n8_2_5 : w4.heap.size ≠ w7.heap.size + 1 := by omega
  have m8_2_5 : w7.heap.size + 1 ≠ w4.heap.size := by omega
  have n8_3_0 : w4.heap.size + 1 ≠ w.heap.size := by omega
  have m8_3_0 : w.heap.size ≠ w4.heap.size + 1 := by omega
  have n8_3_1 : w4.heap.size + 1 ≠ w.heap.size + 1 := by omega
  have m8_3_1 : w.heap.size + 1 ≠ w4.heap.size + 1 := by omega
  have n8_3_2 : w4.heap.size + 1 ≠ w4.heap.size := by omega
  have m8_3_2 : w4.heap.size ≠ w4.heap.size + 1 := by omega
  have n8_3_4 : w4.heap.size + 1 ≠ w7.heap.size := by omega
  have m8_3_4 : w7.heap.size ≠ w4.heap.size + 1 := by omega
  have n8_3_5 : w4.heap.size + 1 ≠ w7.heap.size + 1 := by omega
  have m8_3_5 : w7.heap.size + 1 ≠ w4.heap.size + 1 := by omega
  have n8_4_0 : w7.heap.size ≠ w.heap.size := by omega
  have m8_4_0 : w.heap.size ≠ w7.heap.size := by omega
  have n8_4_1 : w7.heap.size ≠ w.heap.size + 1 := by omega
  have m8_4_1 : w.heap.size + 1 ≠ w7.heap.size := by omega
  have n8_4_2 : w7.heap.size ≠ w4.heap.size := by omega
  have m8_4_2 : w4.heap.size ≠ w7.heap.size := by omega
  have n8_4_3 : w7.heap.size ≠ w4.heap.size + 1 := by omega
  have m8_4_3 : w4.heap.size + 1 ≠ w7.heap.size := by omega
  have n8_4_5 : w7.heap.size ≠ w7.heap.size + 1 := by omega
  have m8_4_5 : w7.heap.size + 1 ≠ w7.heap.size := by omega
  clear c7_0 c7_1 c7_2 c7_3 c7_4 c7_5 c7_6 c7_7 fc7_4 fc7_5 fc7_6 fc7_7 l7_0a l7_0b l7_0c l7_0d l7_1a l7_1b l7_1c l7_1d l7_2a l7_2b l7_2c l7_2d l7_3a l7_3b l7_3c l7_3d n7_2_0 m7_2_0 n7_2_1 m7_2_1 n7_2_3 m7_2_3 n7_3_0 m7_3_0 n7_3_1 m7_3_1 n7_3_2 m7_3_2 hB7 hb8
  go_wp2_with fail
  refine (prefixes_same (some ⟨w8.heap.size, 0, none⟩) (some ⟨w8.heap.size + 1, 0, none⟩) [(a, 1), (a + sz 1, 1)] [(a, 1), (a + sz 1, 1)] 2 2 2 2 rfl rfl (show 2 ≤ maxLen by decide) rfl _ (((rd_new w8 [(a, 1), (a + sz 1, 1)] #[.int .i64 a, .int .i64 1, .int .i64 (a + sz 1), .int .i64 1] 23 _ rfl rfl).alloc (Nat.le_refl _) (.cells #[.int .i64 a, .int .i64 1, .int .i64 (a + sz 1), .int .i64 1] 23)).more (by simp)) (rd_new (w8.alloc (.cells #[.int .i64 a, .int .i64 1, .int .i64 (a + sz 1), .int .i64 1] 23)) [(a, 1), (a + sz 1, 1)] #[.int .i64 a, .int .i64 1, .int .i64 (a + sz 1), .int .i64 1] 23 _ (by simp) rfl)).mono ?_
  rintro e w9 ⟨rfl, hb9⟩
  have hB9 : Below w.heap.size w w9 := Below.trans (by first | exact hB8 | ((repeat' (first | exact hB8 | refine Below.setCell ?_ ?_ _ | refine Below.alloc ?_ ?_ _ | refine Below.drew ?_)) <;> (first | omega | (simp <;> omega)))) (hb9.mono (by first | omega | (simp <;> omega)))
  have hs9 : w.heap.size ≤ w9.heap.size := hB9.size
  have ht9 := hb9.size
  try simp only [World.size_alloc, World.size_setCell] at ht9
  have c9_0 : w9.cell? ⟨w.heap.size, 0, none⟩ = some (.int .i64 a) := (hb9.cell (p := ⟨w.heap.size, 0, none⟩) (by first | omega | (simp <;> omega))).trans (by first | exact c8_0 | simp [go_sem, c8_0, l8_0a, l8_0b, l8_0c, l8_0d, l8_1a, l8_1b, l8_1c, l8_1d, l8_2a, l8_2b, l8_2c, l8_2d, l8_3a, l8_3b, l8_3c, l8_3d, l8_4a, l8_4b, l8_4c, l8_4d, l8_5a, l8_5b, l8_5c, l8_5d, n8_2_0, m8_2_0, n8_2_1, m8_2_1, n8_2_3, m8_2_3, n8_2_4, m8_2_4, n8_2_5, m8_2_5, n8_3_0, m8_3_0, n8_3_1, m8_3_1, n8_3_2, m8_3_2, n8_3_4, m8_3_4, n8_3_5, m8_3_5, n8_4_0, m8_4_0, n8_4_1, m8_4_1, n8_4_2, m8_4_2, n8_4_3, m8_4_3, n8_4_5, m8_4_5])
  have c9_1 : w9.cell? ⟨w.heap.size, 1, none⟩ = some (.int .i64 0) := (hb9.cell (p := ⟨w.heap.size, 1, none⟩) (by first | omega | (simp <;> omega))).trans (by first | exact c8_1 | simp [go_sem, c8_1, l8_0a, l8_0b, l8_0c, l8_0d, l8_1a, l8_1b, l8_1c, l8_1d, l8_2a, l8_2b, l8_2c, l8_2d, l8_3a, l8_3b, l8_3c, l8_3d, l8_4a, l8_4b, l8_4c, l8_4d, l8_5a, l8_5b, l8_5c, l8_5d, n8_2_0, m8_2_0, n8_2_1, m8_2_1, n8_2_3, m8_2_3, n8_2_4, m8_2_4, n8_2_5, m8_2_5, n8_3_0, m8_3_0, n8_3_1, m8_3_1, n8_3_2, m8_3_2, n8_3_4, m8_3_4, n8_3_5, m8_3_5, n8_4_0, m8_4_0, n8_4_1, m8_4_1, n8_4_2, m8_4_2, n8_4_3, m8_4_3, n8_4_5, m8_4_5])
  have c9_2 : w9.cell? ⟨w.heap.size + 1, 0, none⟩ = some (.int .i64 b) := (hb9.cell (p := ⟨w.heap.size + 1, 0, none⟩) (by first | omega | (simp <;> omega))).trans (by first | exact c8_2 | simp [go_sem, c8_2, l8_0a, l8_0b, l8_0c, l8_0d, l8_1a, l8_1b, l8_1c, l8_1d, l8_2a, l8_2b, l8_2c, l8_2d, l8_3a, l8_3b, l8_3c, l8_3d, l8_4a, l8_4b, l8_4c, l8_4d, l8_5a, l8_5b, l8_5c, l8_5d, n8_2_0, m8_2_0, n8_2_1, m8_2_1, n8_2_3, m8_2_3, n8_2_4, m8_2_4, n8_2_5, m8_2_5, n8_3_0, m8_3_0, n8_3_1, m8_3_1, n8_3_2, m8_3_2, n8_3_4, m8_3_4, n8_3_5, m8_3_5, n8_4_0, m8_4_0, n8_4_1, m8_4_1, n8_4_2, m8_4_2, n8_4_3, m8_4_3, n8_4_5, m8_4_5])
  have c9_3 : w9.cell? ⟨w.heap.size + 1, 1, none⟩ = some (.int .i64 m) := (hb9.cell (p := ⟨w.heap.size + 1, 1, none⟩) (by first | omega | (simp <;> omega))).trans (by first | exact c8_3 | simp [go_sem, c8_3, l8_0a, l8_0b, l8_0c, l8_0d, l8_1a, l8_1b, l8_1c, l8_1d, l8_2a, l8_2b, l8_2c, l8_2d, l8_3a, l8_3b, l8_3c, l8_3d, l8_4a, l8_4b, l8_4c, l8_4d, l8_5a, l8_5b, l8_5c, l8_5d, n8_2_0, m8_2_0, n8_2_1, m8_2_1, n8_2_3, m8_2_3, n8_2_4, m8_2_4, n8_2_5, m8_2_5, n8_3_0, m8_3_0, n8_3_1, m8_3_1, n8_3_2, m8_3_2, n8_3_4, m8_3_4, n8_3_5, m8_3_5, n8_4_0, m8_4_0, n8_4_1, m8_4_1, n8_4_2, m8_4_2, n8_4_3, m8_4_3, n8_4_5, m8_4_5])
  have c9_4 : w9.cell? ⟨w4.heap.size, 0, none⟩ = some (.int .i64 a) := (hb9.cell (p := ⟨w4.heap.size, 0, none⟩) (by first | omega | (simp <;> omega))).trans (by first | exact c8_4 | simp [go_sem, c8_4, l8_0a, l8_0b, l8_0c, l8_0d, l8_1a, l8_1b, l8_1c, l8_1d, l8_2a, l8_2b, l8_2c, l8_2d, l8_3a, l8_3b, l8_3c, l8_3d, l8_4a, l8_4b, l8_4c, l8_4d, l8_5a, l8_5b, l8_5c, l8_5d, n8_2_0, m8_2_0, n8_2_1, m8_2_1, n8_2_3, m8_2_3, n8_2_4, m8_2_4, n8_2_5, m8_2_5, n8_3_0, m8_3_0, n8_3_1, m8_3_1, n8_3_2, m8_3_2, n8_3_4, m8_3_4, n8_3_5, m8_3_5, n8_4_0, m8_4_0, n8_4_1, m8_4_1, n8_4_2, m8_4_2, n8_4_3, m8_4_3, n8_4_5, m8_4_5])
  have fc9_4 : w9.frozen? ⟨w4.heap.size, 0, none⟩ = false := (hb9.frozen (p := ⟨w4.heap.size, 0, none⟩) (by first | omega | (simp <;> omega))).trans (by first | exact fc8_4 | simp [go_sem, fc8_4, l8_0a, l8_0b, l8_0c, l8_0d, l8_1a, l8_1b, l8_1c, l8_1d, l8_2a, l8_2b, l8_2c, l8_2d, l8_3a, l8_3b, l8_3c, l8_3d, l8_4a, l8_4b, l8_4c, l8_4d, l8_5a, l8_5b, l8_5c, l8_5d, n8_2_0, m8_2_0, n8_2_1, m8_2_1, n8_2_3, m8_2_3, n8_2_4, m8_2_4, n8_2_5, m8_2_5, n8_3_0, m8_3_0, n8_3_1, m8_3_1, n8_3_2, m8_3_2, n8_3_4, m8_3_4, n8_3_5, m8_3_5, n8_4_0, m8_4_0, n8_4_1, m8_4_1, n8_4_2, m8_4_2, n8_4_3, m8_4_3, n8_4_5, m8_4_5])
  have c9_5 : w9.cell? ⟨w4.heap.size, 1, none⟩ = some (.int .i64 1) := (hb9.cell (p := ⟨w4.heap.size, 1, none⟩) (by first | omega | (simp <;> omega))).trans (by first | exact c8_5 | simp [go_sem, c8_5, l8_0a, l8_0b, l8_0c, l8_0d, l8_1a, l8_1b, l8_1c, l8_1d, l8_2a, l8_2b, l8_2c, l8_2d, l8_3a, l8_3b, l8_3c, l8_3d, l8_4a, l8_4b, l8_4c, l8_4d, l8_5a, l8_5b, l8_5c, l8_5d, n8_2_0, m8_2_0, n8_2_1, m8_2_1, n8_2_3, m8_2_3, n8_2_4, m8_2_4, n8_2_5, m8_2_5, n8_3_0, m8_3_0, n8_3_1, m8_3_1, n8_3_2, m8_3_2, n8_3_4, m8_3_4, n8_3_5, m8_3_5, n8_4_0, m8_4_0, n8_4_1, m8_4_1, n8_4_2, m8_4_2, n8_4_3, m8_4_3, n8_4_5, m8_4_5])
  have fc9_5 : w9.frozen? ⟨w4.heap.size, 1, none⟩ = false := (hb9.frozen (p := ⟨w4.heap.size, 1, none⟩) (by first | omega | (simp <;> omega))).trans (by first | exact fc8_5 | simp [go_sem, fc8_5, l8_0a, l8_0b, l8_0c, l8_0d, l8_1a, l8_1b, l8_1c, l8_1d, l8_2a, l8_2b, l8_2c, l8_2d, l8_3a, l8_3b, l8_3c, l8_3d, l8_4a, l8_4b, l8_4c, l8_4d, l8_5a, l8_5b, l8_5c, l8_5d, n8_2_0, m8_2_0, n8_2_1, m8_2_1, n8_2_3, m8_2_3, n8_2_4, m8_2_4, n8_2_5, m8_2_5, n8_3_0, m8_3_0, n8_3_1, m8_3_1, n8_3_2, m8_3_2, n8_3_4, m8_3_4, n8_3_5, m8_3_5, n8_4_0, m8_4_0, n8_4_1, m8_4_1, n8_4_2, m8_4_2, n8_4_3, m8_4_3, n8_4_5, m8_4_5])
  have c9_6 : w9.cell? ⟨w4.heap.size + 1, 0, none⟩ = some (.int .i64 (a + sz 1)) := (hb9.cell (p := ⟨w4.heap.size + 1, 0, none⟩) (by first | omega | (simp <;> omega))).trans (by first | exact c8_6 | simp [go_sem, c8_6, l8_0a, l8_0b, l8_0c, l8_0d, l8_1a, l8_1b, l8_1c, l8_1d, l8_2a, l8_2b, l8_2c, l8_2d, l8_3a, l8_3b, l8_3c, l8_3d, l8_4a, l8_4b, l8_4c, l8_4d, l8_5a, l8_5b, l8_5c, l8_5d, n8_2_0, m8_2_0, n8_2_1, m8_2_1, n8_2_3, m8_2_3, n8_2_4, m8_2_4, n8_2_5, m8_2_5, n8_3_0, m8_3_0, n8_3_1, m8_3_1, n8_3_2, m8_3_2, n8_3_4, m8_3_4, n8_3_5, m8_3_5, n8_4_0, m8_4_0, n8_4_1, m8_4_1, n8_4_2, m8_4_2, n8_4_3, m8_4_3, n8_4_5, m8_4_5])
  have fc9_6 : w9.frozen? ⟨w4.heap.size + 1, 0, none⟩ = false := (hb9.frozen (p := ⟨w4.heap.size + 1, 0, none⟩) (by first | omega | (simp <;> omega))).trans (by first | exact fc8_6 | simp [go_sem, fc8_6, l8_0a, l8_0b, l8_0c, l8_0d, l8_1a, l8_1b, l8_1c, l8_1d, l8_2a, l8_2b, l8_2c, l8_2d, l8_3a, l8_3b, l8_3c, l8_3d, l8_4a, l8_4b, l8_4c, l8_4d, l8_5a, l8_5b, l8_5c, l8_5d, n8_2_0, m8_2_0, n8_2_1, m8_2_1, n8_2_3, m8_2_3, n8_2_4, m8_2_4, n8_2_5, m8_2_5, n8_3_0, m8_3_0, n8_3_1, m8_3_1, n8_3_2, m8_3_2, n8_3_4, m8_3_4, n8_3_5, m8_3_5, n8_4_0, m8_4_0, n8_4_1, m8_4_1, n8_4_2, m8_4_2, n8_4_3, m8_4_3, n8_4_5, m8_4_5])
  have c9_7 : w9.cell? ⟨w4.heap.size + 1, 1, none⟩ = some (.int .i64 1) := (hb9.cell (p := ⟨w4.heap.size + 1, 1, none⟩) (by first | omega | (simp <;> omega))).trans (by first | exact c8_7 | simp [go_sem, c8_7, l8_0a, l8_0b, l8_0c, l8_0d, l8_1a, l8_1b, l8_1c, l8_1d, l8_2a, l8_2b, l8_2c, l8_2d, l8_3a, l8_3b, l8_3c, l8_3d, l8_4a, l8_4b, l8_4c, l8_4d, l8_5a, l8_5b, l8_5c, l8_5d, n8_2_0, m8_2_0, n8_2_1, m8_2_1, n8_2_3, m8_2_3, n8_2_4, m8_2_4, n8_2_5, m8_2_5, n8_3_0, m8_3_0, n8_3_1, m8_3_1, n8_3_2, m8_3_2, n8_3_4, m8_3_4, n8_3_5, m8_3_5, n8_4_0, m8_4_0, n8_4_1, m8_4_1, n8_4_2, m8_4_2, n8_4_3, m8_4_3, n8_4_5, m8_4_5])
  have fc9_7 : w9.frozen? ⟨w4.heap.size + 1, 1, none⟩ = false := (hb9.frozen (p := ⟨w4.heap.size + 1, 1, none⟩) (by first | omega | (simp <;> omega))).trans (by first | exact fc8_7 | simp [go_sem, fc8_7, l8_0a, l8_0b, l8_0c, l8_0d, l8_1a, l8_1b, l8_1c, l8_1d, l8_2a, l8_2b, l8_2c, l8_2d, l8_3a, l8_3b, l8_3c, l8_3d, l8_4a, l8_4b, l8_4c, l8_4d, l8_5a, l8_5b, l8_5c, l8_5d, n8_2_0, m8_2_0, n8_2_1, m8_2_1, n8_2_3, m8_2_3, n8_2_4, m8_2_4, n8_2_5, m8_2_5, n8_3_0, m8_3_0, n8_3_1, m8_3_1, n8_3_2, m8_3_2, n8_3_4, m8_3_4, n8_3_5, m8_3_5, n8_4_0, m8_4_0, n8_4_1, m8_4_1, n8_4_2, m8_4_2, n8_4_3, m8_4_3, n8_4_5, m8_4_5])
  have c9_8 : w9.cell? ⟨w7.heap.size, 0, none⟩ = some (.int .i64 a) := (hb9.cell (p := ⟨w7.heap.size, 0, none⟩) (by first | omega | (simp <;> omega))).trans (by first | exact c8_8 | simp [go_sem, c8_8, l8_0a, l8_0b, l8_0c, l8_0d, l8_1a, l8_1b, l8_1c, l8_1d, l8_2a, l8_2b, l8_2c, l8_2d, l8_3a, l8_3b, l8_3c, l8_3d, l8_4a, l8_4b, l8_4c, l8_4d, l8_5a, l8_5b, l8_5c, l8_5d, n8_2_0, m8_2_0, n8_2_1, m8_2_1, n8_2_3, m8_2_3, n8_2_4, m8_2_4, n8_2_5, m8_2_5, n8_3_0, m8_3_0, n8_3_1, m8_3_1, n8_3_2, m8_3_2, n8_3_4, m8_3_4, n8_3_5, m8_3_5, n8_4_0, m8_4_0, n8_4_1, m8_4_1, n8_4_2, m8_4_2, n8_4_3, m8_4_3, n8_4_5, m8_4_5])
  have fc9_8 : w9.frozen? ⟨w7.heap.size, 0, none⟩ = false := (hb9.frozen (p := ⟨w7.heap.size, 0, none⟩) (by first | omega | (simp <;> omega))).trans (by first | exact fc8_8 | simp [go_sem, fc8_8, l8_0a, l8_0b, l8_0c, l8_0d, l8_1a, l8_1b, l8_1c, l8_1d, l8_2a, l8_2b, l8_2c, l8_2d, l8_3a, l8_3b, l8_3c, l8_3d, l8_4a, l8_4b, l8_4c, l8_4d, l8_5a, l8_5b, l8_5c, l8_5d, n8_2_0, m8_2_0, n8_2_1, m8_2_1, n8_2_3, m8_2_3, n8_2_4, m8_2_4, n8_2_5, m8_2_5, n8_3_0, m8_3_0, n8_3_1, m8_3_1, n8_3_2, m8_3_2, n8_3_4, m8_3_4, n8_3_5, m8_3_5, n8_4_0, m8_4_0, n8_4_1, m8_4_1, n8_4_2, m8_4_2, n8_4_3, m8_4_3, n8_4_5, m8_4_5])
  have c9_9 : w9.cell? ⟨w7.heap.size, 1, none⟩ = some (.int .i64 1) := (hb9.cell (p := ⟨w7.heap.size, 1, none⟩) (by first | omega | (simp <;> omega))).trans (by first | exact c8_9 | simp [go_sem, c8_9, l8_0a, l8_0b, l8_0c, l8_0d, l8_1a, l8_1b, l8_1c, l8_1d, l8_2a, l8_2b, l8_2c, l8_2d, l8_3a, l8_3b, l8_3c, l8_3d, l8_4a, l8_4b, l8_4c, l8_4d, l8_5a, l8_5b, l8_5c, l8_5d, n8_2_0, m8_2_0, n8_2_1, m8_2_1, n8_2_3, m8_2_3, n8_2_4, m8_2_4, n8_2_5, m8_2_5, n8_3_0, m8_3_0, n8_3_1, m8_3_1, n8_3_2, m8_3_2, n8_3_4, m8_3_4, n8_3_5, m8_3_5, n8_4_0, m8_4_0, n8_4_1, m8_4_1, n8_4_2, m8_4_2, n8_4_3, m8_4_3, n8_4_5, m8_4_5])
  have fc9_9 : w9.frozen? ⟨w7.heap.size, 1, none⟩ = false := (hb9.frozen (p := ⟨w7.heap.size, 1, none⟩) (by first | omega | (simp <;> omega))).trans (by first | exact fc8_9 | simp [go_sem, fc8_9, l8_0a, l8_0b, l8_0c, l8_0d, l8_1a, l8_1b, l8_1c, l8_1d, l8_2a, l8_2b, l8_2c, l8_2d, l8_3a, l8_3b, l8_3c, l8_3d, l8_4a, l8_4b, l8_4c, l8_4d, l8_5a, l8_5b, l8_5c, l8_5d, n8_2_0, m8_2_0, n8_2_1, m8_2_1, n8_2_3, m8_2_3, n8_2_4, m8_2_4, n8_2_5, m8_2_5, n8_3_0, m8_3_0, n8_3_1, m8_3_1, n8_3_2, m8_3_2, n8_3_4, m8_3_4, n8_3_5, m8_3_5, n8_4_0, m8_4_0, n8_4_1, m8_4_1, n8_4_2, m8_4_2, n8_4_3, m8_4_3, n8_4_5, m8_4_5])
  have c9_10 : w9.cell? ⟨w7.heap.size + 1, 0, none⟩ = some (.int .i64 (a + sz 1)) := (hb9.cell (p := ⟨w7.heap.size + 1, 0, none⟩) (by first | omega | (simp <;> omega))).trans (by first | exact c8_10 | simp [go_sem, c8_10, l8_0a, l8_0b, l8_0c, l8_0d, l8_1a, l8_1b, l8_1c, l8_1d, l8_2a, l8_2b, l8_2c, l8_2d, l8_3a, l8_3b, l8_3c, l8_3d, l8_4a, l8_4b, l8_4c, l8_4d, l8_5a, l8_5b, l8_5c, l8_5d, n8_2_0, m8_2_0, n8_2_1, m8_2_1, n8_2_3, m8_2_3, n8_2_4, m8_2_4, n8_2_5, m8_2_5, n8_3_0, m8_3_0, n8_3_1, m8_3_1, n8_3_2, m8_3_2, n8_3_4, m8_3_4, n8_3_5, m8_3_5, n8_4_0, m8_4_0, n8_4_1, m8_4_1, n8_4_2, m8_4_2, n8_4_3, m8_4_3, n8_4_5, m8_4_5])
  have c9_11 : w9.cell? ⟨w7.heap.size + 1, 1, none⟩ = some (.int .i64 1) := (hb9.cell (p := ⟨w7.heap.size + 1, 1, none⟩) (by first | omega | (simp <;> omega))).trans (by first | exact c8_11 | simp [go_sem, c8_11, l8_0a, l8_0b, l8_0c, l8_0d, l8_1a, l8_1b, l8_1c, l8_1d, l8_2a, l8_2b, l8_2c, l8_2d, l8_3a, l8_3b, l8_3c, l8_3d, l8_4a, l8_4b, l8_4c, l8_4d, l8_5a, l8_5b, l8_5c, l8_5d, n8_2_0, m8_2_0, n8_2_1, m8_2_1, n8_2_3, m8_2_3, n8_2_4, m8_2_4, n8_2_5, m8_2_5, n8_3_0, m8_3_0, n8_3_1, m8_3_1, n8_3_2, m8_3_2, n8_3_4, m8_3_4, n8_3_5, m8_3_5, n8_4_0, m8_4_0, n8_4_1, m8_4_1, n8_4_2, m8_4_2, n8_4_3, m8_4_3, n8_4_5, m8_4_5])
  have l9_0a : w.heap.size < w9.heap.size := World.block_lt_of_cell? w9 _ c9_0
  have l9_0b : w.heap.size < w9.heap.size + 1 := Nat.lt_succ_of_lt l9_0a
  have l9_0c : w.heap.size < w9.heap.size + 1 + 1 := Nat.lt_succ_of_lt l9_0b
  have l9_0d : w.heap.size < w9.heap.size + 1 + 1 + 1 := Nat.lt_succ_of_lt l9_0c
  have l9_1a : w.heap.size + 1 < w9.heap.size := World.block_lt_of_cell? w9 _ c9_2
  have l9_1b : w.heap.size + 1 < w9.heap.size + 1 := Nat.lt_succ_of_lt l9_1a
  have l9_1c : w.heap.size + 1 < w9.heap.size + 1 + 1 := Nat.lt_succ_of_lt l9_1b
  have l9_1d : w.heap.size + 1 < w9.heap.size + 1 + 1 + 1 := Nat.lt_succ_of_lt l9_1c
  have l9_2a : w4.heap.size < w9.heap.size := World.block_lt_of_cell? w9 _ c9_4
  have l9_2b : w4.heap.size < w9.heap.size + 1 := Nat.lt_succ_of_lt l9_2a
  have l9_2c : w4.heap.size < w9.heap.size + 1 + 1 := Nat.lt_succ_of_lt l9_2b
  have l9_2d : w4.heap.size < w9.heap.size + 1 + 1 + 1 := Nat.lt_succ_of_lt l9_2c
  have l9_3a : w4.heap.size + 1 < w9.heap.size := World.block_lt_of_cell? w9 _ c9_6
  have l9_3b : w4.heap.size + 1 < w9.heap.size + 1 := Nat.lt_succ_of_lt l9_3a
  have l9_3c : w4.heap.size + 1 < w9.heap.size + 1 + 1 := Nat.lt_succ_of_lt l9_3b
  have l9_3d : w4.heap.size + 1 < w9.heap.size + 1 + 1 + 1 := Nat.lt_succ_of_lt l9_3c
  have l9_4a : w7.heap.size < w9.heap.size := World.block_lt_of_cell? w9 _ c9_8
  have l9_4b : w7.heap.size < w9.heap.size + 1 := Nat.lt_succ_of_lt l9_4a
  have l9_4c : w7.heap.size < w9.heap.size + 1 + 1 := Nat.lt_succ_of_lt l9_4b
  have l9_4d : w7.heap.size < w9.heap.size + 1 + 1 + 1 := Nat.lt_succ_of_lt l9_4c
  have l9_5a : w7.heap.size + 1 < w9.heap.size := World.block_lt_of_cell? w9 _ c9_10
  have l9_5b : w7.heap.size + 1 < w9.heap.size + 1 := Nat.lt_succ_of_lt l9_5a
  have l9_5c : w7.heap.size + 1 < w9.heap.size + 1 + 1 := Nat.lt_succ_of_lt l9_5b
  have l9_5d : w7.heap.size + 1 < w9.heap.size + 1 + 1 + 1 := Nat.lt_succ_of_lt l9_5c
  have n9_2_0 : w4.heap.size ≠ w.heap.size := by omega
  have m9_2_0 : w.heap.size ≠ w4.heap.size := by omega
  have n9_2_1 : w4.heap.size ≠ w.heap.size + 1 := by omega
  have m9_2_1 : w.heap.size + 1 ≠ w4.heap.size := by omega
  have n9_2_3 : w4.heap.size ≠ w4.heap.size + 1 := by omega
  have m9_2_3 : w4.heap.size + 1 ≠ w4.heap.size := by omega
  have n9_2_4 : w4.heap.size ≠ w7.heap.size := by omega
  have m9_2_4 : w7.heap.size ≠ w4.heap.size := by omega
  have n9_2_5 : w4.heap.size ≠ w7.heap.size + 1 := by omega
  have m9_2_5 : w7.heap.size + 1 ≠ w4.heap.size := by omega
  have n9_3_0 : w4.heap.size + 1 ≠ w.heap.size := by omega
  have m9_3_0 : w.heap.size ≠ w4.heap.size + 1 := by omega
  have n9_3_1 : w4.heap.size + 1 ≠ w.heap.size + 1 := by omega
  have m9_3_1 : w.heap.size + 1 ≠ w4.heap.size + 1 := by omega
  have n9_3_2 : w4.heap.size + 1 ≠ w4.heap.size := by omega
  have m9_3_2 : w4.heap.size ≠ w4.heap.size + 1 := by omega
  have n9_3_4 : w4.heap.size + 1 ≠ w7.heap.size := by omega
  have m9_3_4 : w7.heap.size ≠ w4.heap.size + 1 := by omega
  have n9_3_5 : w4.heap.size + 1 ≠ w7.heap.size + 1 := by omega
  have m9_3_5 : w7.heap.size + 1 ≠ w4.heap.size + 1 := by omega
  have n9_4_0 : w7.heap.size ≠ w.heap.size := by omega
  have m9_4_0 : w.heap.size ≠ w7.heap.size := by omega
  have n9_4_1 : w7.heap.size ≠ w.heap.size + 1 := by omega
  have m9_4_1 : w.heap.size + 1 ≠ w7.heap.size := by omega
  have n9_4_2 : w7.heap.size ≠ w4.heap.size := by omega
  have m9_4_2 : w4.heap.size ≠ w7.heap.size := by omega
  have n9_4_3 : w7.heap.size ≠ w4.heap.size + 1 := by omega
  have m9_4_3 : w4.heap.size + 1 ≠ w7.heap.size := by omega
  have n9_4_5 : w7.heap.size ≠ w7.heap.size + 1 := by omega
  have m9_4_5 : w7.heap.size + 1 ≠ w7.heap.size := by omega
  clear c8_0 c8_1 c8_2 c8_3 c8_4 c8_5 c8_6 c8_7 c8_8 c8_9 c8_10 c8_11 fc8_4 fc8_5 fc8_6 fc8_7 fc8_8 fc8_9 l8_0a l8_0b l8_0c l8_0d l8_1a l8_1b l8_1c l8_1d l8_2a l8_2b l8_2c l8_2d l8_3a l8_3b l8_3c l8_3d l8_4a l8_4b l8_4c l8_4d l8_5a l8_5b l8_5c l8_5d n8_2_0 m8_2_0 n8_2_1 m8_2_1 n8_2_3 m8_2_3 n8_2_4 m8_2_4 n8_2_5 m8_2_5 n8_3_0 m8_3_0 n8_3_1 m8_3_1 n8_3_2 m8_3_2 n8_3_4 m8_3_4 n8_3_5 m8_3_5 n8_4_0 m8_4_0 n8_4_1 m8_4_1 n8_4_2 m8_4_2 n8_4_3 m8_4_3 n8_4_5 m8_4_5 hB8 hb9
  clear c9_4 c9_5 fc9_4 fc9_5
  clear c9_6 c9_7 fc9_6 fc9_7
  clear c9_10 c9_11
  go_wp2_with fail
  refine (up_none a HC.out _).mono ?_
  rintro e w10 ⟨rfl, hb10⟩
  have hB10 : Below w.heap.size w w10 := Below.trans (by first | exact hB9 | ((repeat' (first | exact hB9 | refine Below.setCell ?_ ?_ _ | refine Below.alloc ?_ ?_ _ | refine Below.drew ?_)) <;> (first | omega | (simp <;> omega)))) (hb10.mono (by first | omega | (simp <;> omega)))
  have hs10 : w.heap.size ≤ w10.heap.size := hB10.size
  have ht10 := hb10.size
  try simp only [World.size_alloc, World.size_setCell] at ht10
  have c10_0 : w10.cell? ⟨w.heap.size, 0, none⟩ = some (.int .i64 a) := (hb10.cell (p := ⟨w.heap.size, 0, none⟩) (by first | omega | (simp <;> omega))).trans (by first | exact c9_0 | simp [go_sem, c9_0, l9_0a, l9_0b, l9_0c, l9_0d, l9_1a, l9_1b, l9_1c, l9_1d, l9_2a, l9_2b, l9_2c, l9_2d, l9_3a, l9_3b, l9_3c, l9_3d, l9_4a, l9_4b, l9_4c, l9_4d, l9_5a, l9_5b, l9_5c, l9_5d, n9_2_0, m9_2_0, n9_2_1, m9_2_1, n9_2_3, m9_2_3, n9_2_4, m9_2_4, n9_2_5, m9_2_5, n9_3_0, m9_3_0, n9_3_1, m9_3_1, n9_3_2, m9_3_2, n9_3_4, m9_3_4, n9_3_5, m9_3_5, n9_4_0, m9_4_0, n9_4_1, m9_4_1, n9_4_2, m9_4_2, n9_4_3, m9_4_3, n9_4_5, m9_4_5])
  have c10_1 : w10.cell? ⟨w.heap.size, 1, none⟩ = some (.int .i64 0) := (hb10.cell (p := ⟨w.heap.size, 1, none⟩) (by first | omega | (simp <;> omega))).trans (by first | exact c9_1 | simp [go_sem, c9_1, l9_0a, l9_0b, l9_0c, l9_0d, l9_1a, l9_1b, l9_1c, l9_1d, l9_2a, l9_2b, l9_2c, l9_2d, l9_3a, l9_3b, l9_3c, l9_3d, l9_4a, l9_4b, l9_4c, l9_4d, l9_5a, l9_5b, l9_5c, l9_5d, n9_2_0, m9_2_0, n9_2_1, m9_2_1, n9_2_3, m9_2_3, n9_2_4, m9_2_4, n9_2_5, m9_2_5, n9_3_0, m9_3_0, n9_3_1, m9_3_1, n9_3_2, m9_3_2, n9_3_4, m9_3_4, n9_3_5, m9_3_5, n9_4_0, m9_4_0, n9_4_1, m9_4_1, n9_4_2, m9_4_2, n9_4_3, m9_4_3, n9_4_5, m9_4_5])
  have c10_2 : w10.cell? ⟨w.heap.size + 1, 0, none⟩ = some (.int .i64 b) := (hb10.cell (p := ⟨w.heap.size + 1, 0, none⟩) (by first | omega | (simp <;> omega))).trans (by first | exact c9_2 | simp [go_sem, c9_2, l9_0a, l9_0b, l9_0c, l9_0d, l9_1a, l9_1b, l9_1c, l9_1d, l9_2a, l9_2b, l9_2c, l9_2d, l9_3a, l9_3b, l9_3c, l9_3d, l9_4a, l9_4b, l9_4c, l9_4d, l9_5a, l9_5b, l9_5c, l9_5d, n9_2_0, m9_2_0, n9_2_1, m9_2_1, n9_2_3, m9_2_3, n9_2_4, m9_2_4, n9_2_5, m9_2_5, n9_3_0, m9_3_0, n9_3_1, m9_3_1, n9_3_2, m9_3_2, n9_3_4, m9_3_4, n9_3_5, m9_3_5, n9_4_0, m9_4_0, n9_4_1, m9_4_1, n9_4_2, m9_4_2, n9_4_3, m9_4_3, n9_4_5, m9_4_5])
  have c10_3 : w10.cell? ⟨w.heap.size + 1, 1, none⟩ = some (.int .i64 m) := (hb10.cell (p := ⟨w.heap.size + 1, 1, none⟩) (by first | omega | (simp <;> omega))).trans (by first | exact c9_3 | simp [go_sem, c9_3, l9_0a, l9_0b, l9_0c, l9_0d, l9_1a, l9_1b, l9_1c, l9_1d, l9_2a, l9_2b, l9_2c, l9_2d, l9_3a, l9_3b, l9_3c, l9_3d, l9_4a, l9_4b, l9_4c, l9_4d, l9_5a, l9_5b, l9_5c, l9_5d, n9_2_0, m9_2_0, n9_2_1, m9_2_1, n9_2_3, m9_2_3, n9_2_4, m9_2_4, n9_2_5, m9_2_5, n9_3_0, m9_3_0, n9_3_1, m9_3_1, n9_3_2, m9_3_2, n9_3_4, m9_3_4, n9_3_5, m9_3_5, n9_4_0, m9_4_0, n9_4_1, m9_4_1, n9_4_2, m9_4_2, n9_4_3, m9_4_3, n9_4_5, m9_4_5])
  have c10_4 : w10.cell? ⟨w7.heap.size, 0, none⟩ = some (.int .i64 a) := (hb10.cell (p := ⟨w7.heap.size, 0, none⟩) (by first | omega | (simp <;> omega))).trans (by first | exact c9_8 | simp [go_sem, c9_8, l9_0a, l9_0b, l9_0c, l9_0d, l9_1a, l9_1b, l9_1c, l9_1d, l9_2a, l9_2b, l9_2c, l9_2d, l9_3a, l9_3b, l9_3c, l9_3d, l9_4a, l9_4b, l9_4c, l9_4d, l9_5a, l9_5b, l9_5c, l9_5d, n9_2_0, m9_2_0, n9_2_1, m9_2_1, n9_2_3, m9_2_3, n9_2_4, m9_2_4, n9_2_5, m9_2_5, n9_3_0, m9_3_0, n9_3_1, m9_3_1, n9_3_2, m9_3_2, n9_3_4, m9_3_4, n9_3_5, m9_3_5, n9_4_0, m9_4_0, n9_4_1, m9_4_1, n9_4_2, m9_4_2, n9_4_3, m9_4_3, n9_4_5, m9_4_5])
  have fc10_4 : w10.frozen? ⟨w7.heap.size, 0, none⟩ = false := (hb10.frozen (p := ⟨w7.heap.size, 0, none⟩) (by first | omega | (simp <;> omega))).trans (by first | exact fc9_8 | simp [go_sem, fc9_8, l9_0a, l9_0b, l9_0c, l9_0d, l9_1a, l9_1b, l9_1c, l9_1d, l9_2a, l9_2b, l9_2c, l9_2d, l9_3a, l9_3b, l9_3c, l9_3d, l9_4a, l9_4b, l9_4c, l9_4d, l9_5a, l9_5b, l9_5c, l9_5d, n9_2_0, m9_2_0, n9_2_1, m9_2_1, n9_2_3, m9_2_3, n9_2_4, m9_2_4, n9_2_5, m9_2_5, n9_3_0, m9_3_0, n9_3_1, m9_3_1, n9_3_2, m9_3_2, n9_3_4, m9_3_4, n9_3_5, m9_3_5, n9_4_0, m9_4_0, n9_4_1, m9_4_1, n9_4_2, m9_4_2, n9_4_3, m9_4_3, n9_4_5, m9_4_5])
  have c10_5 : w10.cell? ⟨w7.heap.size, 1, none⟩ = some (.int .i64 1) := (hb10.cell (p := ⟨w7.heap.size, 1, none⟩) (by first | omega | (simp <;> omega))).trans (by first | exact c9_9 | simp [go_sem, c9_9, l9_0a, l9_0b, l9_0c, l9_0d, l9_1a, l9_1b, l9_1c, l9_1d, l9_2a, l9_2b, l9_2c, l9_2d, l9_3a, l9_3b, l9_3c, l9_3d, l9_4a, l9_4b, l9_4c, l9_4d, l9_5a, l9_5b, l9_5c, l9_5d, n9_2_0, m9_2_0, n9_2_1, m9_2_1, n9_2_3, m9_2_3, n9_2_4, m9_2_4, n9_2_5, m9_2_5, n9_3_0, m9_3_0, n9_3_1, m9_3_1, n9_3_2, m9_3_2, n9_3_4, m9_3_4, n9_3_5, m9_3_5, n9_4_0, m9_4_0, n9_4_1, m9_4_1, n9_4_2, m9_4_2, n9_4_3, m9_4_3, n9_4_5, m9_4_5])
  have fc10_5 : w10.frozen? ⟨w7.heap.size, 1, none⟩ = false := (hb10.frozen (p := ⟨w7.heap.size, 1, none⟩) (by first | omega | (simp <;> omega))).trans (by first | exact fc9_9 | simp [go_sem, fc9_9, l9_0a, l9_0b, l9_0c, l9_0d, l9_1a, l9_1b, l9_1c, l9_1d, l9_2a, l9_2b, l9_2c, l9_2d, l9_3a, l9_3b, l9_3c, l9_3d, l9_4a, l9_4b, l9_4c, l9_4d, l9_5a, l9_5b, l9_5c, l9_5d, n9_2_0, m9_2_0, n9_2_1, m9_2_1, n9_2_3, m9_2_3, n9_2_4, m9_2_4, n9_2_5, m9_2_5, n9_3_0, m9_3_0, n9_3_1, m9_3_1, n9_3_2, m9_3_2, n9_3_4, m9_3_4, n9_3_5, m9_3_5, n9_4_0, m9_4_0, n9_4_1, m9_4_1, n9_4_2, m9_4_2, n9_4_3, m9_4_3, n9_4_5, m9_4_5])
  have c10_6 : w10.cell? ⟨w9.heap.size, 0, none⟩ = some (.int .i64 0) := (hb10.cell (p := ⟨w9.heap.size, 0, none⟩) (by first | omega | (simp <;> omega))).trans (by first | (simp; done) | simp [go_sem, l9_0a, l9_0b, l9_0c, l9_0d, l9_1a, l9_1b, l9_1c, l9_1d, l9_2a, l9_2b, l9_2c, l9_2d, l9_3a, l9_3b, l9_3c, l9_3d, l9_4a, l9_4b, l9_4c, l9_4d, l9_5a, l9_5b, l9_5c, l9_5d, n9_2_0, m9_2_0, n9_2_1, m9_2_1, n9_2_3, m9_2_3, n9_2_4, m9_2_4, n9_2_5, m9_2_5, n9_3_0, m9_3_0, n9_3_1, m9_3_1, n9_3_2, m9_3_2, n9_3_4, m9_3_4, n9_3_5, m9_3_5, n9_4_0, m9_4_0, n9_4_1, m9_4_1, n9_4_2, m9_4_2, n9_4_3, m9_4_3, n9_4_5, m9_4_5, c9_0, c9_1, c9_2, c9_3, c9_8, c9_9, fc9_8, fc9_9])
  have c10_7 : w10.cell? ⟨w9.heap.size, 1, none⟩ = some (.int .i64 0) := (hb10.cell (p := ⟨w9.heap.size, 1, none⟩) (by first | omega | (simp <;> omega))).trans (by first | (simp; done) | simp [go_sem, l9_0a, l9_0b, l9_0c, l9_0d, l9_1a, l9_1b, l9_1c, l9_1d, l9_2a, l9_2b, l9_2c, l9_2d, l9_3a, l9_3b, l9_3c, l9_3d, l9_4a, l9_4b, l9_4c, l9_4d, l9_5a, l9_5b, l9_5c, l9_5d, n9_2_0, m9_2_0, n9_2_1, m9_2_1, n9_2_3, m9_2_3, n9_2_4, m9_2_4, n9_2_5, m9_2_5, n9_3_0, m9_3_0, n9_3_1, m9_3_1, n9_3_2, m9_3_2, n9_3_4, m9_3_4, n9_3_5, m9_3_5, n9_4_0, m9_4_0, n9_4_1, m9_4_1, n9_4_2, m9_4_2, n9_4_3, m9_4_3, n9_4_5, m9_4_5, c9_0, c9_1, c9_2, c9_3, c9_8, c9_9, fc9_8, fc9_9])
  have l10_0a : w.heap.size < w10.heap.size := World.block_lt_of_cell? w10 _ c10_0
  have l10_0b : w.heap.size < w10.heap.size + 1 := Nat.lt_succ_of_lt l10_0a
  have l10_0c : w.heap.size < w10.heap.size + 1 + 1 := Nat.lt_succ_of_lt l10_0b
  have l10_0d : w.heap.size < w10.heap.size + 1 + 1 + 1 := Nat.lt_succ_of_lt l10_0c
  have l10_1a : w.heap.size + 1 < w10.heap.size := World.block_lt_of_cell? w10 _ c10_2
  have l10_1b : w.heap.size + 1 < w10.heap.size + 1 := Nat.lt_succ_of_lt l10_1a
  have l10_1c : w.heap.size + 1 < w10.heap.size + 1 + 1 := Nat.lt_succ_of_lt l10_1b
  have l10_1d : w.heap.size + 1 < w10.heap.size + 1 + 1 + 1 := Nat.lt_succ_of_lt l10_1c
  have l10_2a : w7.heap.size < w10.heap.size := World.block_lt_of_cell? w10 _ c10_4
  have l10_2b : w7.heap.size < w10.heap.size + 1 := Nat.lt_succ_of_lt l10_2a
  have l10_2c : w7.heap.size < w10.heap.size + 1 + 1 := Nat.lt_succ_of_lt l10_2b
  have l10_2d : w7.heap.size < w10.heap.size + 1 + 1 + 1 := Nat.lt_succ_of_lt l10_2c
  have l10_3a : w9.heap.size < w10.heap.size := World.block_lt_of_cell? w10 _ c10_6
  have l10_3b : w9.heap.size < w10.heap.size + 1 := Nat.lt_succ_of_lt l10_3a
  have l10_3c : w9.heap.size < w10.heap.size + 1 + 1 := Nat.lt_succ_of_lt l10_3b
  have l10_3d : w9.heap.size < w10.heap.size + 1 + 1 + 1 := Nat.lt_succ_of_lt l10_3c
  have n10_2_0 : w7.heap.size ≠ w.heap.size := by omega
  have m10_2_0 : w.heap.size ≠ w7.heap.size := by omega
  have n10_2_1 : w7.heap.size ≠ w.heap.size + 1 := by omega
  have m10_2_1 : w.heap.size + 1 ≠ w7.heap.size := by omega
  have n10_2_3 : w7.heap.size ≠ w9.heap.size := by omega
  have m10_2_3 : w9.heap.size ≠ w7.heap.size := by omega
  clear c9_0 c9_1 c9_2 c9_3 c9_8 c9_9 fc9_8 fc9_9 l9_0a l9_0b l9_0c l9_0d l9_1a l9_1b l9_1c l9_1d l9_2a l9_2b l9_2c l9_2d l9_3a l9_3b l9_3c l9_3d l9_4a l9_4b l9_4c l9_4d l9_5a l9_5b l9_5c l9_5d n9_2_0 m9_2_0 n9_2_1 m9_2_1 n9_2_3 m9_2_3 n9_2_4 m9_2_4 n9_2_5 m9_2_5 n9_3_0 m9_3_0 n9_3_1 m9_3_1 n9_3_2 m9_3_2 n9_3_4 m9_3_4 n9_3_5 m9_3_5 n9_4_0 m9_4_0 n9_4_1 m9_4_1 n9_4_2 m9_4_2 n9_4_3 m9_4_3 n9_4_5 m9_4_5 hB9 hb10
  go_wp2_with fail
  refine (error_same 4 (by decide) _ (by exact HG.out.belowB (show Below w.heap.size w _ from (by first | exact hB10 | ((repeat' (first | exact hB10 | refine Below.setCell ?_ ?_ _ | refine Below.alloc ?_ ?_ _ | refine Below.drew ?_)) <;> (first | omega | (simp <;> omega))))) HG.out.lt)).mono ?_
  rintro e w11 ⟨rfl, hb11⟩
  have hB11 : Below w.heap.size w w11 := Below.trans (by first | exact hB10 | ((repeat' (first | exact hB10 | refine Below.setCell ?_ ?_ _ | refine Below.alloc ?_ ?_ _ | refine Below.drew ?_)) <;> (first | omega | (simp <;> omega)))) (hb11.mono (by first | omega | (simp <;> omega)))
  have hs11 : w.heap.size ≤ w11.heap.size := hB11.size
  have ht11 := hb11.size
  try simp only [World.size_alloc, World.size_setCell] at ht11
  have c11_0 : w11.cell? ⟨w.heap.size, 0, none⟩ = some (.int .i64 a) := (hb11.cell (p := ⟨w.heap.size, 0, none⟩) (by first | omega | (simp <;> omega))).trans (by first | exact c10_0 | simp [go_sem, c10_0, l10_0a, l10_0b, l10_0c, l10_0d, l10_1a, l10_1b, l10_1c, l10_1d, l10_2a, l10_2b, l10_2c, l10_2d, l10_3a, l10_3b, l10_3c, l10_3d, n10_2_0, m10_2_0, n10_2_1, m10_2_1, n10_2_3, m10_2_3])
  have c11_1 : w11.cell? ⟨w.heap.size, 1, none⟩ = some (.int .i64 0) := (hb11.cell (p := ⟨w.heap.size, 1, none⟩) (by first | omega | (simp <;> omega))).trans (by first | exact c10_1 | simp [go_sem, c10_1, l10_0a, l10_0b, l10_0c, l10_0d, l10_1a, l10_1b, l10_1c, l10_1d, l10_2a, l10_2b, l10_2c, l10_2d, l10_3a, l10_3b, l10_3c, l10_3d, n10_2_0, m10_2_0, n10_2_1, m10_2_1, n10_2_3, m10_2_3])
  have c11_2 : w11.cell? ⟨w.heap.size + 1, 0, none⟩ = some (.int .i64 b) := (hb11.cell (p := ⟨w.heap.size + 1, 0, none⟩) (by first | omega | (simp <;> omega))).trans (by first | exact c10_2 | simp [go_sem, c10_2, l10_0a, l10_0b, l10_0c, l10_0d, l10_1a, l10_1b, l10_1c, l10_1d, l10_2a, l10_2b, l10_2c, l10_2d, l10_3a, l10_3b, l10_3c, l10_3d, n10_2_0, m10_2_0, n10_2_1, m10_2_1, n10_2_3, m10_2_3])
  have c11_3 : w11.cell? ⟨w.heap.size + 1, 1, none⟩ = some (.int .i64 m) := (hb11.cell (p := ⟨w.heap.size + 1, 1, none⟩) (by first | omega | (simp <;> omega))).trans (by first | exact c10_3 | simp [go_sem, c10_3, l10_0a, l10_0b, l10_0c, l10_0d, l10_1a, l10_1b, l10_1c, l10_1d, l10_2a, l10_2b, l10_2c, l10_2d, l10_3a, l10_3b, l10_3c, l10_3d, n10_2_0, m10_2_0, n10_2_1, m10_2_1, n10_2_3, m10_2_3])
  have c11_4 : w11.cell? ⟨w9.heap.size, 0, none⟩ = some (.int .i64 0) := (hb11.cell (p := ⟨w9.heap.size, 0, none⟩) (by first | omega | (simp <;> omega))).trans (by first | exact c10_6 | simp [go_sem, c10_6, l10_0a, l10_0b, l10_0c, l10_0d, l10_1a, l10_1b, l10_1c, l10_1d, l10_2a, l10_2b, l10_2c, l10_2d, l10_3a, l10_3b, l10_3c, l10_3d, n10_2_0, m10_2_0, n10_2_1, m10_2_1, n10_2_3, m10_2_3])
  have c11_5 : w11.cell? ⟨w9.heap.size, 1, none⟩ = some (.int .i64 0) := (hb11.cell (p := ⟨w9.heap.size, 1, none⟩) (by first | omega | (simp <;> omega))).trans (by first | exact c10_7 | simp [go_sem, c10_7, l10_0a, l10_0b, l10_0c, l10_0d, l10_1a, l10_1b, l10_1c, l10_1d, l10_2a, l10_2b, l10_2c, l10_2d, l10_3a, l10_3b, l10_3c, l10_3d, n10_2_0, m10_2_0, n10_2_1, m10_2_1, n10_2_3, m10_2_3])
  have c11_6 : w11.cell? ⟨w7.heap.size, 0, none⟩ = some (.int .i64 0) := (hb11.cell (p := ⟨w7.heap.size, 0, none⟩) (by first | omega | (simp <;> omega))).trans (by first | (simp; done) | simp [go_sem, l10_0a, l10_0b, l10_0c, l10_0d, l10_1a, l10_1b, l10_1c, l10_1d, l10_2a, l10_2b, l10_2c, l10_2d, l10_3a, l10_3b, l10_3c, l10_3d, n10_2_0, m10_2_0, n10_2_1, m10_2_1, n10_2_3, m10_2_3, c10_0, c10_1, c10_2, c10_3, c10_6, c10_7, c10_4, c10_5, fc10_4, fc10_5])
  have fc11_6 : w11.frozen? ⟨w7.heap.size, 0, none⟩ = false := (hb11.frozen (p := ⟨w7.heap.size, 0, none⟩) (by first | omega | (simp <;> omega))).trans (by first | (simp; done) | simp [go_sem, l10_0a, l10_0b, l10_0c, l10_0d, l10_1a, l10_1b, l10_1c, l10_1d, l10_2a, l10_2b, l10_2c, l10_2d, l10_3a, l10_3b, l10_3c, l10_3d, n10_2_0, m10_2_0, n10_2_1, m10_2_1, n10_2_3, m10_2_3, c10_0, c10_1, c10_2, c10_3, c10_6, c10_7, c10_4, c10_5, fc10_4, fc10_5])
  have c11_7 : w11.cell? ⟨w7.heap.size, 1, none⟩ = some (.int .i64 0) := (hb11.cell (p := ⟨w7.heap.size, 1, none⟩) (by first | omega | (simp <;> omega))).trans (by first | (simp; done) | simp [go_sem, l10_0a, l10_0b, l10_0c, l10_0d, l10_1a, l10_1b, l10_1c, l10_1d, l10_2a, l10_2b, l10_2c, l10_2d, l10_3a, l10_3b, l10_3c, l10_3d, n10_2_0, m10_2_0, n10_2_1, m10_2_1, n10_2_3, m10_2_3, c10_0, c10_1, c10_2, c10_3, c10_6, c10_7, c10_4, c10_5, fc10_4, fc10_5])
  have fc11_7 : w11.frozen? ⟨w7.heap.size, 1, none⟩ = false := (hb11.frozen (p := ⟨w7.heap.size, 1, none⟩) (by first | omega | (simp <;> omega))).trans (by first | (simp; done) | simp [go_sem, l10_0a, l10_0b, l10_0c, l10_0d, l10_1a, l10_1b, l10_1c, l10_1d, l10_2a, l10_2b, l10_2c, l10_2d, l10_3a, l10_3b, l10_3c, l10_3d, n10_2_0, m10_2_0, n10_2_1, m10_2_1, n10_2_3, m10_2_3, c10_0, c10_1, c10_2, c10_3, c10_6, c10_7, c10_4, c10_5, fc10_4, fc10_5])
  have l11_0a : w.heap.size < w11.heap.size := World.block_lt_of_cell? w11 _ c11_0
  have l11_0b : w.heap.size < w11.heap.size + 1 := Nat.lt_succ_of_lt l11_0a
  have l11_0c : w.heap.size < w11.heap.size + 1 + 1 := Nat.lt_succ_of_lt l11_0b
  have l11_0d : w.heap.size < w11.heap.size + 1 + 1 + 1 := Nat.lt_succ_of_lt l11_0c
  have l11_1a : w.heap.size + 1 < w11.heap.size := World.block_lt_of_cell? w11 _ c11_2
  have l11_1b : w.heap.size + 1 < w11.heap.size + 1 := Nat.lt_succ_of_lt l11_1a
  have l11_1c : w.heap.size + 1 < w11.heap.size + 1 + 1 := Nat.lt_succ_of_lt l11_1b
  have l11_1d : w.heap.size + 1 < w11.heap.size + 1 + 1 + 1 := Nat.lt_succ_of_lt l11_1c
  have l11_2a : w9.heap.size < w11.heap.size := World.block_lt_of_cell? w11 _ c11_4
  have l11_2b : w9.heap.size < w11.heap.size + 1 := Nat.lt_succ_of_lt l11_2a
  have l11_2c : w9.heap.size < w11.heap.size + 1 + 1 := Nat.lt_succ_of_lt l11_2b
  have l11_2d : w9.heap.size < w11.heap.size + 1 + 1 + 1 := Nat.lt_succ_of_lt l11_2c
  have l11_3a : w7.heap.size < w11.heap.size := World.block_lt_of_cell? w11 _ c11_6
  have l11_3b : w7.heap.size < w11.heap.size + 1 := Nat.lt_succ_of_lt l11_3a
  have l11_3c : w7.heap.size < w11.heap.size + 1 + 1 := Nat.lt_succ_of_lt l11_3b
  have l11_3d : w7.heap.size < w11.heap.size + 1 + 1 + 1 := Nat.lt_succ_of_lt l11_3c
  have n11_3_0 : w7.heap.size ≠ w.heap.size := by omega
  have m11_3_0 : w.heap.size ≠ w7.heap.size := by omega
  have n11_3_1 : w7.heap.size ≠ w.heap.size + 1 := by omega
  have m11_3_1 : w.heap.size + 1 ≠ w7.heap.size := by omega
  have n11_3_2 : w7.heap.size ≠ w9.heap.size := by omega
  have m11_3_2 : w9.heap.size ≠ w7.heap.size := by omega
  clear c10_0 c10_1 c10_2 c10_3 c10_6 c10_7 c10_4 c10_5 fc10_4 fc10_5 l10_0a l10_0b l10_0c l10_0d l10_1a l10_1b l10_1c l10_1d l10_2a l10_2b l10_2c l10_2d l10_3a l10_3b l10_3c l10_3d n10_2_0 m10_2_0 n10_2_1 m10_2_1 n10_2_3 m10_2_3 hB10 hb11
  go_wp2_with fail
  refine wp_name ?_
  intro w12 hW12
  have hB12 : Below w.heap.size w w12 := by rw [hW12.out]; exact (by first | exact hB11 | ((repeat' (first | exact hB11 | refine Below.setCell ?_ ?_ _ | refine Below.alloc ?_ ?_ _ | refine Below.drew ?_)) <;> (first | omega | (simp <;> omega))))
  have hs12 : w.heap.size ≤ w12.heap.size := hB12.size
  have ht12 := congrArg (fun x : World => x.heap.size) hW12.out
  try simp only [World.size_alloc, World.size_setCell] at ht12
  have c12_0 : w12.cell? ⟨w.heap.size, 0, none⟩ = some (.int .i64 a) := by rw [hW12.out]; first | exact c11_0 | simp [go_sem, c11_0, l11_0a, l11_0b, l11_0c, l11_0d, l11_1a, l11_1b, l11_1c, l11_1d, l11_2a, l11_2b, l11_2c, l11_2d, l11_3a, l11_3b, l11_3c, l11_3d, n11_3_0, m11_3_0, n11_3_1, m11_3_1, n11_3_2, m11_3_2]
  have c12_1 : w12.cell? ⟨w.heap.size, 1, none⟩ = some (.int .i64 0) := by rw [hW12.out]; first | exact c11_1 | simp [go_sem, c11_1, l11_0a, l11_0b, l11_0c, l11_0d, l11_1a, l11_1b, l11_1c, l11_1d, l11_2a, l11_2b, l11_2c, l11_2d, l11_3a, l11_3b, l11_3c, l11_3d, n11_3_0, m11_3_0, n11_3_1, m11_3_1, n11_3_2, m11_3_2]
  have c12_2 : w12.cell? ⟨w.heap.size + 1, 0, none⟩ = some (.int .i64 b) := by rw [hW12.out]; first | exact c11_2 | simp [go_sem, c11_2, l11_0a, l11_0b, l11_0c, l11_0d, l11_1a, l11_1b, l11_1c, l11_1d, l11_2a, l11_2b, l11_2c, l11_2d, l11_3a, l11_3b, l11_3c, l11_3d, n11_3_0, m11_3_0, n11_3_1, m11_3_1, n11_3_2, m11_3_2]
  have c12_3 : w12.cell? ⟨w.heap.size + 1, 1, none⟩ = some (.int .i64 m) := by rw [hW12.out]; first | exact c11_3 | simp [go_sem, c11_3, l11_0a, l11_0b, l11_0c, l11_0d, l11_1a, l11_1b, l11_1c, l11_1d, l11_2a, l11_2b, l11_2c, l11_2d, l11_3a, l11_3b, l11_3c, l11_3d, n11_3_0, m11_3_0, n11_3_1, m11_3_1, n11_3_2, m11_3_2]
  have c12_4 : w12.cell? ⟨w9.heap.size, 0, none⟩ = some (.int .i64 0) := by rw [hW12.out]; first | exact c11_4 | simp [go_sem, c11_4, l11_0a, l11_0b, l11_0c, l11_0d, l11_1a, l11_1b, l11_1c, l11_1d, l11_2a, l11_2b, l11_2c, l11_2d, l11_3a, l11_3b, l11_3c, l11_3d, n11_3_0, m11_3_0, n11_3_1, m11_3_1, n11_3_2, m11_3_2]
  have c12_5 : w12.cell? ⟨w9.heap.size, 1, none⟩ = some (.int .i64 0) := by rw [hW12.out]; first | exact c11_5 | simp [go_sem, c11_5, l11_0a, l11_0b, l11_0c, l11_0d, l11_1a, l11_1b, l11_1c, l11_1d, l11_2a, l11_2b, l11_2c, l11_2d, l11_3a, l11_3b, l11_3c, l11_3d, n11_3_0, m11_3_0, n11_3_1, m11_3_1, n11_3_2, m11_3_2]
  have c12_6 : w12.cell? ⟨w7.heap.size, 0, none⟩ = some (.int .i64 0) := by rw [hW12.out]; first | exact c11_6 | simp [go_sem, c11_6, l11_0a, l11_0b, l11_0c, l11_0d, l11_1a, l11_1b, l11_1c, l11_1d, l11_2a, l11_2b, l11_2c, l11_2d, l11_3a, l11_3b, l11_3c, l11_3d, n11_3_0, m11_3_0, n11_3_1, m11_3_1, n11_3_2, m11_3_2]
  have fc12_6 : w12.frozen? ⟨w7.heap.size, 0, none⟩ = false := by rw [hW12.out]; first | exact fc11_6 | simp [go_sem, fc11_6, l11_0a, l11_0b, l11_0c, l11_0d, l11_1a, l11_1b, l11_1c, l11_1d, l11_2a, l11_2b, l11_2c, l11_2d, l11_3a, l11_3b, l11_3c, l11_3d, n11_3_0, m11_3_0, n11_3_1, m11_3_1, n11_3_2, m11_3_2]
  have c12_7 : w12.cell? ⟨w7.heap.size, 1, none⟩ = some (.int .i64 0) := by rw [hW12.out]; first | exact c11_7 | simp [go_sem, c11_7, l11_0a, l11_0b, l11_0c, l11_0d, l11_1a, l11_1b, l11_1c, l11_1d, l11_2a, l11_2b, l11_2c, l11_2d, l11_3a, l11_3b, l11_3c, l11_3d, n11_3_0, m11_3_0, n11_3_1, m11_3_1, n11_3_2, m11_3_2]
  have fc12_7 : w12.frozen? ⟨w7.heap.size, 1, none⟩ = false := by rw [hW12.out]; first | exact fc11_7 | simp [go_sem, fc11_7, l11_0a, l11_0b, l11_0c, l11_0d, l11_1a, l11_1b, l11_1c, l11_1d, l11_2a, l11_2b, l11_2c, l11_2d, l11_3a, l11_3b, l11_3c, l11_3d, n11_3_0, m11_3_0, n11_3_1, m11_3_1, n11_3_2, m11_3_2]
  have l12_0a : w.heap.size < w12.heap.size := World.block_lt_of_cell? w12 _ c12_0
  have l12_0b : w.heap.size < w12.heap.size + 1 := Nat.lt_succ_of_lt l12_0a
  have l12_0c : w.heap.size < w12.heap.size + 1 + 1 := Nat.lt_succ_of_lt l12_0b
  have l12_0d : w.heap.size < w12.heap.size + 1 + 1 + 1 := Nat.lt_succ_of_lt l12_0c
  have l12_1a : w.heap.size + 1 < w12.heap.size := World.block_lt_of_cell? w12 _ c12_2
  have l12_1b : w.heap.size + 1 < w12.heap.size + 1 := Nat.lt_succ_of_lt l12_1a
  have l12_1c : w.heap.size + 1 < w12.heap.size + 1 + 1 := Nat.lt_succ_of_lt l12_1b
  have l12_1d : w.heap.size + 1 < w12.heap.size + 1 + 1 + 1 := Nat.lt_succ_of_lt l12_1c
  have l12_2a : w9.heap.size < w12.heap.size := World.block_lt_of_cell? w12 _ c12_4
  have l12_2b : w9.heap.size < w12.heap.size + 1 := Nat.lt_succ_of_lt l12_2a
  have l12_2c : w9.heap.size < w12.heap.size + 1 + 1 := Nat.lt_succ_of_lt l12_2b
  have l12_2d : w9.heap.size < w12.heap.size + 1 + 1 + 1 := Nat.lt_succ_of_lt l12_2c
  have l12_3a : w7.heap.size < w12.heap.size := World.block_lt_of_cell? w12 _ c12_6
  have l12_3b : w7.heap.size < w12.heap.size + 1 := Nat.lt_succ_of_lt l12_3a
  have l12_3c : w7.heap.size < w12.heap.size + 1 + 1 := Nat.lt_succ_of_lt l12_3b
  have l12_3d : w7.heap.size < w12.heap.size + 1 + 1 + 1 := Nat.lt_succ_of_lt l12_3c
  have n12_3_0 : w7.heap.size ≠ w.heap.size := by omega
  have m12_3_0 : w.heap.size ≠ w7.heap.size := by omega
  have n12_3_1 : w7.heap.size ≠ w.heap.size + 1 := by omega
  have m12_3_1 : w.heap.size + 1 ≠ w7.heap.size := by omega
  have n12_3_2 : w7.heap.size ≠ w9.heap.size := by omega
  have m12_3_2 : w9.heap.size ≠ w7.heap.size := by omega
  have hu12 := Nat.le_of_eq ht12
  have hv12 := Nat.le_of_eq ht12.symm
  clear ht12 c11_0 c11_1 c11_2 c11_3 c11_4 c11_5 c11_6 c11_7 fc11_6 fc11_7 l11_0a l11_0b l11_0c l11_0d l11_1a l11_1b l11_1c l11_1d l11_2a l11_2b l11_2c l11_2d l11_3a l11_3b l11_3c l11_3d n11_3_0 m11_3_0 n11_3_1 m11_3_1 n11_3_2 m11_3_2 hB11 hW12
  exact HR.out _ _ (APmid1.mk (w7.heap.size) 0 HC.out.symm (by kernel_rfl) ⟨hB12, ⟨c12_0, c12_1⟩, ⟨c12_2, c12_3⟩, by omega, fc12_6, fc12_7, _, _, c12_6, c12_7⟩)
end Go.Proofs.YtcgeagobndhpjaaDoor
