/- The law TreeIs, its parts: above, below, roots. Any list, any prefix, any number. -/
import Derived.Test.YtcgeagobndhpjaaDoorTreeIs0
namespace Go.Proofs.YtcgeagobndhpjaaDoor
set_option linter.unusedVariables false
set_option linter.unusedSimpArgs false
open Go.RowKit

set_option maxRecDepth 100000 in
set_option maxHeartbeats 8000000 in
theorem treeIs_5a (A : Option Addr) (l : List Pf) (c : Nat) (p : Pf) (a : Int) (hm : l.length ≤ maxLen) (w : World) (hg : ErrVar w) (hl : Rd w w.heap.size A (cellsP l)) (ht : treeFault l ≠ 0) (s0 : Act) (w0 : World) (h0 : TImid A l c p a w s0 w0) :
    (tailN 8 (tailN 5 (tailN 5 (tailN 4 (Tryd.f5.body.getD .skip))))).wp Tryd.prog (bodyPost Tryd.prog Tryd.f5 fun e w' => e = .returned (.bool true) ∧ Below w.heap.size w w') s0 w0 := by
  have HG := Lib.hid hg
  clear hg
  have hz : (treeFault l == 0) = false := by simpa using ht
  have HE := Lib.hid (show treeFault2 l p = treeFault l by unfold treeFault2; rw [if_pos (by simpa using ht)])
  have H2 := Lib.hid (show treeFault2 l p ≠ 0 by rw [HE.out]; exact ht)
  have HT := Lib.hid ht
  clear ht
  obtain ⟨U, k, rfl, hk, hB0, c0_0, c0_1⟩ := h0
  subst hk
  dsimp only [Tryd.f5, Option.getD, tailN, putN]
  have hs0 := hB0.size
  have l0_0a : w.heap.size < w0.heap.size := World.block_lt_of_cell? w0 _ c0_0
  have l0_0b : w.heap.size < w0.heap.size + 1 := Nat.lt_succ_of_lt l0_0a
  have l0_0c : w.heap.size < w0.heap.size + 1 + 1 := Nat.lt_succ_of_lt l0_0b
  have l0_0d : w.heap.size < w0.heap.size + 1 + 1 + 1 := Nat.lt_succ_of_lt l0_0c
  go_wp2_with fail
  refine (above_bad A l c p hm H2.out _ ((hl.below (show Below w.heap.size w _ from (by first | exact hB0 | ((repeat' (first | exact hB0 | refine Below.setCell ?_ ?_ _ | refine Below.alloc ?_ ?_ _ | refine Below.drew ?_)) <;> (first | omega | (simp <;> omega)))))).more (show w.heap.size ≤ _ from by first | omega | (simp <;> omega)))).mono ?_
  rintro e w1 ⟨rfl, hb1⟩
  have hB1 : Below w.heap.size w w1 := Below.trans (by first | exact hB0 | ((repeat' (first | exact hB0 | refine Below.setCell ?_ ?_ _ | refine Below.alloc ?_ ?_ _ | refine Below.drew ?_)) <;> (first | omega | (simp <;> omega)))) (hb1.mono (by first | omega | (simp <;> omega)))
  have hs1 : w.heap.size ≤ w1.heap.size := hB1.size
  have ht1 := hb1.size
  try simp only [World.size_alloc, World.size_setCell] at ht1
  have c1_0 : w1.cell? ⟨w.heap.size, 0, none⟩ = some (.int .i64 p.1) := (hb1.cell (p := ⟨w.heap.size, 0, none⟩) (by first | omega | (simp <;> omega))).trans (by first | exact c0_0 | simp [go_sem, c0_0, l0_0a, l0_0b, l0_0c, l0_0d])
  have c1_1 : w1.cell? ⟨w.heap.size, 1, none⟩ = some (.int .i64 p.2) := (hb1.cell (p := ⟨w.heap.size, 1, none⟩) (by first | omega | (simp <;> omega))).trans (by first | exact c0_1 | simp [go_sem, c0_1, l0_0a, l0_0b, l0_0c, l0_0d])
  have l1_0a : w.heap.size < w1.heap.size := World.block_lt_of_cell? w1 _ c1_0
  have l1_0b : w.heap.size < w1.heap.size + 1 := Nat.lt_succ_of_lt l1_0a
  have l1_0c : w.heap.size < w1.heap.size + 1 + 1 := Nat.lt_succ_of_lt l1_0b
  have l1_0d : w.heap.size < w1.heap.size + 1 + 1 + 1 := Nat.lt_succ_of_lt l1_0c
  clear c0_0 c0_1 l0_0a l0_0b l0_0c l0_0d hB0 hb1
  rw [HE.out]
  go_wp2_with fail
  refine (error_same _ HT.out _ (by exact HG.out.belowB (show Below w.heap.size w _ from (by first | exact hB1 | ((repeat' (first | exact hB1 | refine Below.setCell ?_ ?_ _ | refine Below.alloc ?_ ?_ _ | refine Below.drew ?_)) <;> (first | omega | (simp <;> omega))))) HG.out.lt)).mono ?_
  rintro e w2 ⟨rfl, hb2⟩
  have hB2 : Below w.heap.size w w2 := Below.trans (by first | exact hB1 | ((repeat' (first | exact hB1 | refine Below.setCell ?_ ?_ _ | refine Below.alloc ?_ ?_ _ | refine Below.drew ?_)) <;> (first | omega | (simp <;> omega)))) (hb2.mono (by first | omega | (simp <;> omega)))
  have hs2 : w.heap.size ≤ w2.heap.size := hB2.size
  have ht2 := hb2.size
  try simp only [World.size_alloc, World.size_setCell] at ht2
  have c2_0 : w2.cell? ⟨w.heap.size, 0, none⟩ = some (.int .i64 p.1) := (hb2.cell (p := ⟨w.heap.size, 0, none⟩) (by first | omega | (simp <;> omega))).trans (by first | exact c1_0 | simp [go_sem, c1_0, l1_0a, l1_0b, l1_0c, l1_0d])
  have c2_1 : w2.cell? ⟨w.heap.size, 1, none⟩ = some (.int .i64 p.2) := (hb2.cell (p := ⟨w.heap.size, 1, none⟩) (by first | omega | (simp <;> omega))).trans (by first | exact c1_1 | simp [go_sem, c1_1, l1_0a, l1_0b, l1_0c, l1_0d])
  have l2_0a : w.heap.size < w2.heap.size := World.block_lt_of_cell? w2 _ c2_0
  have l2_0b : w.heap.size < w2.heap.size + 1 := Nat.lt_succ_of_lt l2_0a
  have l2_0c : w.heap.size < w2.heap.size + 1 + 1 := Nat.lt_succ_of_lt l2_0b
  have l2_0d : w.heap.size < w2.heap.size + 1 + 1 + 1 := Nat.lt_succ_of_lt l2_0c
  clear c1_0 c1_1 l1_0a l1_0b l1_0c l1_0d hB1 hb2
  go_wp2_with fail
  refine (prefixes_nil _).mono ?_
  rintro e w3 ⟨rfl, hb3⟩
  have hB3 : Below w.heap.size w w3 := Below.trans (by first | exact hB2 | ((repeat' (first | exact hB2 | refine Below.setCell ?_ ?_ _ | refine Below.alloc ?_ ?_ _ | refine Below.drew ?_)) <;> (first | omega | (simp <;> omega)))) (hb3.mono (by first | omega | (simp <;> omega)))
  have hs3 : w.heap.size ≤ w3.heap.size := hB3.size
  have ht3 := hb3.size
  try simp only [World.size_alloc, World.size_setCell] at ht3
  have c3_0 : w3.cell? ⟨w.heap.size, 0, none⟩ = some (.int .i64 p.1) := (hb3.cell (p := ⟨w.heap.size, 0, none⟩) (by first | omega | (simp <;> omega))).trans (by first | exact c2_0 | simp [go_sem, c2_0, l2_0a, l2_0b, l2_0c, l2_0d])
  have c3_1 : w3.cell? ⟨w.heap.size, 1, none⟩ = some (.int .i64 p.2) := (hb3.cell (p := ⟨w.heap.size, 1, none⟩) (by first | omega | (simp <;> omega))).trans (by first | exact c2_1 | simp [go_sem, c2_1, l2_0a, l2_0b, l2_0c, l2_0d])
  have l3_0a : w.heap.size < w3.heap.size := World.block_lt_of_cell? w3 _ c3_0
  have l3_0b : w.heap.size < w3.heap.size + 1 := Nat.lt_succ_of_lt l3_0a
  have l3_0c : w.heap.size < w3.heap.size + 1 + 1 := Nat.lt_succ_of_lt l3_0b
  have l3_0d : w.heap.size < w3.heap.size + 1 + 1 + 1 := Nat.lt_succ_of_lt l3_0c
  clear c2_0 c2_1 l2_0a l2_0b l2_0c l2_0d hB2 hb3
  go_wp2_with fail
  refine (below_bad A l c p hm H2.out _ ((hl.below (show Below w.heap.size w _ from (by first | exact hB3 | ((repeat' (first | exact hB3 | refine Below.setCell ?_ ?_ _ | refine Below.alloc ?_ ?_ _ | refine Below.drew ?_)) <;> (first | omega | (simp <;> omega)))))).more (show w.heap.size ≤ _ from by first | omega | (simp <;> omega)))).mono ?_
  rintro e w4 ⟨rfl, hb4⟩
  have hB4 : Below w.heap.size w w4 := Below.trans (by first | exact hB3 | ((repeat' (first | exact hB3 | refine Below.setCell ?_ ?_ _ | refine Below.alloc ?_ ?_ _ | refine Below.drew ?_)) <;> (first | omega | (simp <;> omega)))) (hb4.mono (by first | omega | (simp <;> omega)))
  have hs4 : w.heap.size ≤ w4.heap.size := hB4.size
  have ht4 := hb4.size
  try simp only [World.size_alloc, World.size_setCell] at ht4
  have c4_0 : w4.cell? ⟨w.heap.size, 0, none⟩ = some (.int .i64 p.1) := (hb4.cell (p := ⟨w.heap.size, 0, none⟩) (by first | omega | (simp <;> omega))).trans (by first | exact c3_0 | simp [go_sem, c3_0, l3_0a, l3_0b, l3_0c, l3_0d])
  have c4_1 : w4.cell? ⟨w.heap.size, 1, none⟩ = some (.int .i64 p.2) := (hb4.cell (p := ⟨w.heap.size, 1, none⟩) (by first | omega | (simp <;> omega))).trans (by first | exact c3_1 | simp [go_sem, c3_1, l3_0a, l3_0b, l3_0c, l3_0d])
  have l4_0a : w.heap.size < w4.heap.size := World.block_lt_of_cell? w4 _ c4_0
  have l4_0b : w.heap.size < w4.heap.size + 1 := Nat.lt_succ_of_lt l4_0a
  have l4_0c : w.heap.size < w4.heap.size + 1 + 1 := Nat.lt_succ_of_lt l4_0b
  have l4_0d : w.heap.size < w4.heap.size + 1 + 1 + 1 := Nat.lt_succ_of_lt l4_0c
  clear c3_0 c3_1 l3_0a l3_0b l3_0c l3_0d hB3 hb4
  rw [HE.out]
  go_wp2_with fail
  refine (error_same _ HT.out _ (by exact HG.out.belowB (show Below w.heap.size w _ from (by first | exact hB4 | ((repeat' (first | exact hB4 | refine Below.setCell ?_ ?_ _ | refine Below.alloc ?_ ?_ _ | refine Below.drew ?_)) <;> (first | omega | (simp <;> omega))))) HG.out.lt)).mono ?_
  rintro e w5 ⟨rfl, hb5⟩
  have hB5 : Below w.heap.size w w5 := Below.trans (by first | exact hB4 | ((repeat' (first | exact hB4 | refine Below.setCell ?_ ?_ _ | refine Below.alloc ?_ ?_ _ | refine Below.drew ?_)) <;> (first | omega | (simp <;> omega)))) (hb5.mono (by first | omega | (simp <;> omega)))
  have hs5 : w.heap.size ≤ w5.heap.size := hB5.size
  have ht5 := hb5.size
  try simp only [World.size_alloc, World.size_setCell] at ht5
  have c5_0 : w5.cell? ⟨w.heap.size, 0, none⟩ = some (.int .i64 p.1) := (hb5.cell (p := ⟨w.heap.size, 0, none⟩) (by first | omega | (simp <;> omega))).trans (by first | exact c4_0 | simp [go_sem, c4_0, l4_0a, l4_0b, l4_0c, l4_0d])
  have c5_1 : w5.cell? ⟨w.heap.size, 1, none⟩ = some (.int .i64 p.2) := (hb5.cell (p := ⟨w.heap.size, 1, none⟩) (by first | omega | (simp <;> omega))).trans (by first | exact c4_1 | simp [go_sem, c4_1, l4_0a, l4_0b, l4_0c, l4_0d])
  have l5_0a : w.heap.size < w5.heap.size := World.block_lt_of_cell? w5 _ c5_0
  have l5_0b : w.heap.size < w5.heap.size + 1 := Nat.lt_succ_of_lt l5_0a
  have l5_0c : w.heap.size < w5.heap.size + 1 + 1 := Nat.lt_succ_of_lt l5_0b
  have l5_0d : w.heap.size < w5.heap.size + 1 + 1 + 1 := Nat.lt_succ_of_lt l5_0c
  clear c4_0 c4_1 l4_0a l4_0b l4_0c l4_0d hB4 hb5
  go_wp2_with fail
  refine (prefixes_nil _).mono ?_
  rintro e w6 ⟨rfl, hb6⟩
  have hB6 : Below w.heap.size w w6 := Below.trans (by first | exact hB5 | ((repeat' (first | exact hB5 | refine Below.setCell ?_ ?_ _ | refine Below.alloc ?_ ?_ _ | refine Below.drew ?_)) <;> (first | omega | (simp <;> omega)))) (hb6.mono (by first | omega | (simp <;> omega)))
  have hs6 : w.heap.size ≤ w6.heap.size := hB6.size
  have ht6 := hb6.size
  try simp only [World.size_alloc, World.size_setCell] at ht6
  have c6_0 : w6.cell? ⟨w.heap.size, 0, none⟩ = some (.int .i64 p.1) := (hb6.cell (p := ⟨w.heap.size, 0, none⟩) (by first | omega | (simp <;> omega))).trans (by first | exact c5_0 | simp [go_sem, c5_0, l5_0a, l5_0b, l5_0c, l5_0d])
  have c6_1 : w6.cell? ⟨w.heap.size, 1, none⟩ = some (.int .i64 p.2) := (hb6.cell (p := ⟨w.heap.size, 1, none⟩) (by first | omega | (simp <;> omega))).trans (by first | exact c5_1 | simp [go_sem, c5_1, l5_0a, l5_0b, l5_0c, l5_0d])
  have l6_0a : w.heap.size < w6.heap.size := World.block_lt_of_cell? w6 _ c6_0
  have l6_0b : w.heap.size < w6.heap.size + 1 := Nat.lt_succ_of_lt l6_0a
  have l6_0c : w.heap.size < w6.heap.size + 1 + 1 := Nat.lt_succ_of_lt l6_0b
  have l6_0d : w.heap.size < w6.heap.size + 1 + 1 + 1 := Nat.lt_succ_of_lt l6_0c
  clear c5_0 c5_1 l5_0a l5_0b l5_0c l5_0d hB5 hb6
  go_wp2_with fail
  refine (roots_bad A l c hm HT.out _ ((hl.below (show Below w.heap.size w _ from (by first | exact hB6 | ((repeat' (first | exact hB6 | refine Below.setCell ?_ ?_ _ | refine Below.alloc ?_ ?_ _ | refine Below.drew ?_)) <;> (first | omega | (simp <;> omega)))))).more (show w.heap.size ≤ _ from by first | omega | (simp <;> omega)))).mono ?_
  rintro e w7 ⟨rfl, hb7⟩
  have hB7 : Below w.heap.size w w7 := Below.trans (by first | exact hB6 | ((repeat' (first | exact hB6 | refine Below.setCell ?_ ?_ _ | refine Below.alloc ?_ ?_ _ | refine Below.drew ?_)) <;> (first | omega | (simp <;> omega)))) (hb7.mono (by first | omega | (simp <;> omega)))
  have hs7 : w.heap.size ≤ w7.heap.size := hB7.size
  have ht7 := hb7.size
  try simp only [World.size_alloc, World.size_setCell] at ht7
  have c7_0 : w7.cell? ⟨w.heap.size, 0, none⟩ = some (.int .i64 p.1) := (hb7.cell (p := ⟨w.heap.size, 0, none⟩) (by first | omega | (simp <;> omega))).trans (by first | exact c6_0 | simp [go_sem, c6_0, l6_0a, l6_0b, l6_0c, l6_0d])
  have c7_1 : w7.cell? ⟨w.heap.size, 1, none⟩ = some (.int .i64 p.2) := (hb7.cell (p := ⟨w.heap.size, 1, none⟩) (by first | omega | (simp <;> omega))).trans (by first | exact c6_1 | simp [go_sem, c6_1, l6_0a, l6_0b, l6_0c, l6_0d])
  have l7_0a : w.heap.size < w7.heap.size := World.block_lt_of_cell? w7 _ c7_0
  have l7_0b : w.heap.size < w7.heap.size + 1 := Nat.lt_succ_of_lt l7_0a
  have l7_0c : w.heap.size < w7.heap.size + 1 + 1 := Nat.lt_succ_of_lt l7_0b
  have l7_0d : w.heap.size < w7.heap.size + 1 + 1 + 1 := Nat.lt_succ_of_lt l7_0c
  clear c6_0 c6_1 l6_0a l6_0b l6_0c l6_0d hB6 hb7
  go_wp2_with fail
  refine (error_same _ HT.out _ (by exact HG.out.belowB (show Below w.heap.size w _ from (by first | exact hB7 | ((repeat' (first | exact hB7 | refine Below.setCell ?_ ?_ _ | refine Below.alloc ?_ ?_ _ | refine Below.drew ?_)) <;> (first | omega | (simp <;> omega))))) HG.out.lt)).mono ?_
  rintro e w8 ⟨rfl, hb8⟩
  have hB8 : Below w.heap.size w w8 := Below.trans (by first | exact hB7 | ((repeat' (first | exact hB7 | refine Below.setCell ?_ ?_ _ | refine Below.alloc ?_ ?_ _ | refine Below.drew ?_)) <;> (first | omega | (simp <;> omega)))) (hb8.mono (by first | omega | (simp <;> omega)))
  have hs8 : w.heap.size ≤ w8.heap.size := hB8.size
  have ht8 := hb8.size
  try simp only [World.size_alloc, World.size_setCell] at ht8
  have c8_0 : w8.cell? ⟨w.heap.size, 0, none⟩ = some (.int .i64 p.1) := (hb8.cell (p := ⟨w.heap.size, 0, none⟩) (by first | omega | (simp <;> omega))).trans (by first | exact c7_0 | simp [go_sem, c7_0, l7_0a, l7_0b, l7_0c, l7_0d])
  have c8_1 : w8.cell? ⟨w.heap.size, 1, none⟩ = some (.int .i64 p.2) := (hb8.cell (p := ⟨w.heap.size, 1, none⟩) (by first | omega | (simp <;> omega))).trans (by first | exact c7_1 | simp [go_sem, c7_1, l7_0a, l7_0b, l7_0c, l7_0d])
  have l8_0a : w.heap.size < w8.heap.size := World.block_lt_of_cell? w8 _ c8_0
  have l8_0b : w.heap.size < w8.heap.size + 1 := Nat.lt_succ_of_lt l8_0a
  have l8_0c : w.heap.size < w8.heap.size + 1 + 1 := Nat.lt_succ_of_lt l8_0b
  have l8_0d : w.heap.size < w8.heap.size + 1 + 1 + 1 := Nat.lt_succ_of_lt l8_0c
  clear c7_0 c7_1 l7_0a l7_0b l7_0c l7_0d hB7 hb8
  go_wp2_with fail
  refine (prefixes_nil _).mono ?_
  rintro e w9 ⟨rfl, hb9⟩
  have hB9 : Below w.heap.size w w9 := Below.trans (by first | exact hB8 | ((repeat' (first | exact hB8 | refine Below.setCell ?_ ?_ _ | refine Below.alloc ?_ ?_ _ | refine Below.drew ?_)) <;> (first | omega | (simp <;> omega)))) (hb9.mono (by first | omega | (simp <;> omega)))
  have hs9 : w.heap.size ≤ w9.heap.size := hB9.size
  have ht9 := hb9.size
  try simp only [World.size_alloc, World.size_setCell] at ht9
  have c9_0 : w9.cell? ⟨w.heap.size, 0, none⟩ = some (.int .i64 p.1) := (hb9.cell (p := ⟨w.heap.size, 0, none⟩) (by first | omega | (simp <;> omega))).trans (by first | exact c8_0 | simp [go_sem, c8_0, l8_0a, l8_0b, l8_0c, l8_0d])
  have c9_1 : w9.cell? ⟨w.heap.size, 1, none⟩ = some (.int .i64 p.2) := (hb9.cell (p := ⟨w.heap.size, 1, none⟩) (by first | omega | (simp <;> omega))).trans (by first | exact c8_1 | simp [go_sem, c8_1, l8_0a, l8_0b, l8_0c, l8_0d])
  have l9_0a : w.heap.size < w9.heap.size := World.block_lt_of_cell? w9 _ c9_0
  have l9_0b : w.heap.size < w9.heap.size + 1 := Nat.lt_succ_of_lt l9_0a
  have l9_0c : w.heap.size < w9.heap.size + 1 + 1 := Nat.lt_succ_of_lt l9_0b
  have l9_0d : w.heap.size < w9.heap.size + 1 + 1 + 1 := Nat.lt_succ_of_lt l9_0c
  clear c8_0 c8_1 l8_0a l8_0b l8_0c l8_0d hB8 hb9
  go_wp2
  go_ret
  exact ⟨rfl, (by first | exact hB9 | ((repeat' (first | exact hB9 | refine Below.setCell ?_ ?_ _ | refine Below.alloc ?_ ?_ _ | refine Below.drew ?_)) <;> (first | omega | (simp <;> omega))))⟩
set_option maxRecDepth 100000 in
set_option maxHeartbeats 8000000 in
theorem treeIs_5b (A : Option Addr) (l : List Pf) (c : Nat) (p : Pf) (a : Int) (hm : l.length ≤ maxLen) (w : World) (hg : ErrVar w) (hl : Rd w w.heap.size A (cellsP l)) (ht : treeFault l = 0) (hp : chk p.1 p.2 ≠ 0) (s0 : Act) (w0 : World) (h0 : TImid A l c p a w s0 w0) :
    (tailN 8 (tailN 5 (tailN 5 (tailN 4 (Tryd.f5.body.getD .skip))))).wp Tryd.prog (bodyPost Tryd.prog Tryd.f5 fun e w' => e = .returned (.bool true) ∧ Below w.heap.size w w') s0 w0 := by
  have HG := Lib.hid hg
  clear hg
  have hz : (chk p.1 p.2 == 0) = false := by simpa using hp
  have HE := Lib.hid (show treeFault2 l p = chk p.1 p.2 by unfold treeFault2; rw [if_neg (by simpa using ht)]; rfl)
  have H2 := Lib.hid (show treeFault2 l p ≠ 0 by rw [HE.out]; exact hp)
  have hTL := Lib.hid (show (tops l).length ≤ maxLen from Nat.le_trans (topsGo_length _ _) hm)
  have HBT := Lib.hid (belowRef_all p (tree_good ht).2.1 (tree_good ht).2.2)
  have HT := Lib.hid ht
  have HP := Lib.hid hp
  clear ht hp
  obtain ⟨U, k, rfl, hk, hB0, c0_0, c0_1⟩ := h0
  obtain rfl : k = 0 := hk.trans HT.out
  clear hk
  dsimp only [Tryd.f5, Option.getD, tailN, putN]
  have hs0 := hB0.size
  have l0_0a : w.heap.size < w0.heap.size := World.block_lt_of_cell? w0 _ c0_0
  have l0_0b : w.heap.size < w0.heap.size + 1 := Nat.lt_succ_of_lt l0_0a
  have l0_0c : w.heap.size < w0.heap.size + 1 + 1 := Nat.lt_succ_of_lt l0_0b
  have l0_0d : w.heap.size < w0.heap.size + 1 + 1 + 1 := Nat.lt_succ_of_lt l0_0c
  go_wp2_with fail
  refine (fault_any p.1 p.2 _).mono ?_
  rintro e w1 ⟨rfl, hb1⟩
  have hB1 : Below w.heap.size w w1 := Below.trans (by first | exact hB0 | ((repeat' (first | exact hB0 | refine Below.setCell ?_ ?_ _ | refine Below.alloc ?_ ?_ _ | refine Below.drew ?_)) <;> (first | omega | (simp <;> omega)))) (hb1.mono (by first | omega | (simp <;> omega)))
  have hs1 : w.heap.size ≤ w1.heap.size := hB1.size
  have ht1 := hb1.size
  try simp only [World.size_alloc, World.size_setCell] at ht1
  have c1_0 : w1.cell? ⟨w.heap.size, 0, none⟩ = some (.int .i64 p.1) := (hb1.cell (p := ⟨w.heap.size, 0, none⟩) (by first | omega | (simp <;> omega))).trans (by first | exact c0_0 | simp [go_sem, c0_0, l0_0a, l0_0b, l0_0c, l0_0d])
  have c1_1 : w1.cell? ⟨w.heap.size, 1, none⟩ = some (.int .i64 p.2) := (hb1.cell (p := ⟨w.heap.size, 1, none⟩) (by first | omega | (simp <;> omega))).trans (by first | exact c0_1 | simp [go_sem, c0_1, l0_0a, l0_0b, l0_0c, l0_0d])
  have l1_0a : w.heap.size < w1.heap.size := World.block_lt_of_cell? w1 _ c1_0
  have l1_0b : w.heap.size < w1.heap.size + 1 := Nat.lt_succ_of_lt l1_0a
  have l1_0c : w.heap.size < w1.heap.size + 1 + 1 := Nat.lt_succ_of_lt l1_0b
  have l1_0d : w.heap.size < w1.heap.size + 1 + 1 + 1 := Nat.lt_succ_of_lt l1_0c
  clear c0_0 c0_1 l0_0a l0_0b l0_0c l0_0d hB0 hb1
  go_wp2_with fail
  refine (belowRef_T A l c p HT.out _ ((hl.below (show Below w.heap.size w _ from (by first | exact hB1 | ((repeat' (first | exact hB1 | refine Below.setCell ?_ ?_ _ | refine Below.alloc ?_ ?_ _ | refine Below.drew ?_)) <;> (first | omega | (simp <;> omega)))))).more (show w.heap.size ≤ _ from by first | omega | (simp <;> omega)))).mono ?_
  rintro e w2 ⟨v2, rfl, hown2, hb2⟩
  have hB2 : Below w.heap.size w w2 := Below.trans (by first | exact hB1 | ((repeat' (first | exact hB1 | refine Below.setCell ?_ ?_ _ | refine Below.alloc ?_ ?_ _ | refine Below.drew ?_)) <;> (first | omega | (simp <;> omega)))) (hb2.mono (by first | omega | (simp <;> omega)))
  have hs2 : w.heap.size ≤ w2.heap.size := hB2.size
  have ht2 := hb2.size
  try simp only [World.size_alloc, World.size_setCell] at ht2
  have c2_0 : w2.cell? ⟨w.heap.size, 0, none⟩ = some (.int .i64 p.1) := (hb2.cell (p := ⟨w.heap.size, 0, none⟩) (by first | omega | (simp <;> omega))).trans (by first | exact c1_0 | simp [go_sem, c1_0, l1_0a, l1_0b, l1_0c, l1_0d])
  have c2_1 : w2.cell? ⟨w.heap.size, 1, none⟩ = some (.int .i64 p.2) := (hb2.cell (p := ⟨w.heap.size, 1, none⟩) (by first | omega | (simp <;> omega))).trans (by first | exact c1_1 | simp [go_sem, c1_1, l1_0a, l1_0b, l1_0c, l1_0d])
  have l2_0a : w.heap.size < w2.heap.size := World.block_lt_of_cell? w2 _ c2_0
  have l2_0b : w.heap.size < w2.heap.size + 1 := Nat.lt_succ_of_lt l2_0a
  have l2_0c : w.heap.size < w2.heap.size + 1 + 1 := Nat.lt_succ_of_lt l2_0b
  have l2_0d : w.heap.size < w2.heap.size + 1 + 1 + 1 := Nat.lt_succ_of_lt l2_0c
  clear c1_0 c1_1 l1_0a l1_0b l1_0c l1_0d hB1 hb2
  rw [HBT.out] at hown2
  obtain ⟨A2, c2, rfl, hr2⟩ := hown2.form
  clear hown2
  go_wp2_with fail
  refine (above_bad A l c p hm H2.out _ ((hl.below (show Below w.heap.size w _ from (by first | exact hB2 | ((repeat' (first | exact hB2 | refine Below.setCell ?_ ?_ _ | refine Below.alloc ?_ ?_ _ | refine Below.drew ?_)) <;> (first | omega | (simp <;> omega)))))).more (show w.heap.size ≤ _ from by first | omega | (simp <;> omega)))).mono ?_
  rintro e w3 ⟨rfl, hb3⟩
  have hB3 : Below w.heap.size w w3 := Below.trans (by first | exact hB2 | ((repeat' (first | exact hB2 | refine Below.setCell ?_ ?_ _ | refine Below.alloc ?_ ?_ _ | refine Below.drew ?_)) <;> (first | omega | (simp <;> omega)))) (hb3.mono (by first | omega | (simp <;> omega)))
  have hs3 : w.heap.size ≤ w3.heap.size := hB3.size
  have ht3 := hb3.size
  try simp only [World.size_alloc, World.size_setCell] at ht3
  have c3_0 : w3.cell? ⟨w.heap.size, 0, none⟩ = some (.int .i64 p.1) := (hb3.cell (p := ⟨w.heap.size, 0, none⟩) (by first | omega | (simp <;> omega))).trans (by first | exact c2_0 | simp [go_sem, c2_0, l2_0a, l2_0b, l2_0c, l2_0d])
  have c3_1 : w3.cell? ⟨w.heap.size, 1, none⟩ = some (.int .i64 p.2) := (hb3.cell (p := ⟨w.heap.size, 1, none⟩) (by first | omega | (simp <;> omega))).trans (by first | exact c2_1 | simp [go_sem, c2_1, l2_0a, l2_0b, l2_0c, l2_0d])
  have l3_0a : w.heap.size < w3.heap.size := World.block_lt_of_cell? w3 _ c3_0
  have l3_0b : w.heap.size < w3.heap.size + 1 := Nat.lt_succ_of_lt l3_0a
  have l3_0c : w.heap.size < w3.heap.size + 1 + 1 := Nat.lt_succ_of_lt l3_0b
  have l3_0d : w.heap.size < w3.heap.size + 1 + 1 + 1 := Nat.lt_succ_of_lt l3_0c
  have hkw2_3 : Below w2.heap.size w2 w3 := Below.trans (by first | exact Below.refl _ _ | ((repeat' (first | exact Below.refl _ _ | refine Below.setCell ?_ ?_ _ | refine Below.alloc ?_ ?_ _ | refine Below.drew ?_)) <;> (first | omega | (simp <;> omega)))) (hb3.mono (by first | omega | (simp <;> omega)))
  clear c2_0 c2_1 l2_0a l2_0b l2_0c l2_0d hB2 hb3
  rw [HE.out]
  go_wp2_with fail
  refine (error_same _ HP.out _ (by exact HG.out.belowB (show Below w.heap.size w _ from (by first | exact hB3 | ((repeat' (first | exact hB3 | refine Below.setCell ?_ ?_ _ | refine Below.alloc ?_ ?_ _ | refine Below.drew ?_)) <;> (first | omega | (simp <;> omega))))) HG.out.lt)).mono ?_
  rintro e w4 ⟨rfl, hb4⟩
  have hB4 : Below w.heap.size w w4 := Below.trans (by first | exact hB3 | ((repeat' (first | exact hB3 | refine Below.setCell ?_ ?_ _ | refine Below.alloc ?_ ?_ _ | refine Below.drew ?_)) <;> (first | omega | (simp <;> omega)))) (hb4.mono (by first | omega | (simp <;> omega)))
  have hs4 : w.heap.size ≤ w4.heap.size := hB4.size
  have ht4 := hb4.size
  try simp only [World.size_alloc, World.size_setCell] at ht4
  have c4_0 : w4.cell? ⟨w.heap.size, 0, none⟩ = some (.int .i64 p.1) := (hb4.cell (p := ⟨w.heap.size, 0, none⟩) (by first | omega | (simp <;> omega))).trans (by first | exact c3_0 | simp [go_sem, c3_0, l3_0a, l3_0b, l3_0c, l3_0d])
  have c4_1 : w4.cell? ⟨w.heap.size, 1, none⟩ = some (.int .i64 p.2) := (hb4.cell (p := ⟨w.heap.size, 1, none⟩) (by first | omega | (simp <;> omega))).trans (by first | exact c3_1 | simp [go_sem, c3_1, l3_0a, l3_0b, l3_0c, l3_0d])
  have l4_0a : w.heap.size < w4.heap.size := World.block_lt_of_cell? w4 _ c4_0
  have l4_0b : w.heap.size < w4.heap.size + 1 := Nat.lt_succ_of_lt l4_0a
  have l4_0c : w.heap.size < w4.heap.size + 1 + 1 := Nat.lt_succ_of_lt l4_0b
  have l4_0d : w.heap.size < w4.heap.size + 1 + 1 + 1 := Nat.lt_succ_of_lt l4_0c
  have hkw2_4 : Below w2.heap.size w2 w4 := Below.trans (by first | exact hkw2_3 | ((repeat' (first | exact hkw2_3 | refine Below.setCell ?_ ?_ _ | refine Below.alloc ?_ ?_ _ | refine Below.drew ?_)) <;> (first | omega | (simp <;> omega)))) (hb4.mono (by first | omega | (simp <;> omega)))
  clear c3_0 c3_1 l3_0a l3_0b l3_0c l3_0d hkw2_3 hB3 hb4
  go_wp2_with fail
  refine (prefixes_nil _).mono ?_
  rintro e w5 ⟨rfl, hb5⟩
  have hB5 : Below w.heap.size w w5 := Below.trans (by first | exact hB4 | ((repeat' (first | exact hB4 | refine Below.setCell ?_ ?_ _ | refine Below.alloc ?_ ?_ _ | refine Below.drew ?_)) <;> (first | omega | (simp <;> omega)))) (hb5.mono (by first | omega | (simp <;> omega)))
  have hs5 : w.heap.size ≤ w5.heap.size := hB5.size
  have ht5 := hb5.size
  try simp only [World.size_alloc, World.size_setCell] at ht5
  have c5_0 : w5.cell? ⟨w.heap.size, 0, none⟩ = some (.int .i64 p.1) := (hb5.cell (p := ⟨w.heap.size, 0, none⟩) (by first | omega | (simp <;> omega))).trans (by first | exact c4_0 | simp [go_sem, c4_0, l4_0a, l4_0b, l4_0c, l4_0d])
  have c5_1 : w5.cell? ⟨w.heap.size, 1, none⟩ = some (.int .i64 p.2) := (hb5.cell (p := ⟨w.heap.size, 1, none⟩) (by first | omega | (simp <;> omega))).trans (by first | exact c4_1 | simp [go_sem, c4_1, l4_0a, l4_0b, l4_0c, l4_0d])
  have l5_0a : w.heap.size < w5.heap.size := World.block_lt_of_cell? w5 _ c5_0
  have l5_0b : w.heap.size < w5.heap.size + 1 := Nat.lt_succ_of_lt l5_0a
  have l5_0c : w.heap.size < w5.heap.size + 1 + 1 := Nat.lt_succ_of_lt l5_0b
  have l5_0d : w.heap.size < w5.heap.size + 1 + 1 + 1 := Nat.lt_succ_of_lt l5_0c
  have hkw2_5 : Below w2.heap.size w2 w5 := Below.trans (by first | exact hkw2_4 | ((repeat' (first | exact hkw2_4 | refine Below.setCell ?_ ?_ _ | refine Below.alloc ?_ ?_ _ | refine Below.drew ?_)) <;> (first | omega | (simp <;> omega)))) (hb5.mono (by first | omega | (simp <;> omega)))
  clear c4_0 c4_1 l4_0a l4_0b l4_0c l4_0d hkw2_4 hB4 hb5
  go_wp2_with fail
  refine (below_bad A l c p hm H2.out _ ((hl.below (show Below w.heap.size w _ from (by first | exact hB5 | ((repeat' (first | exact hB5 | refine Below.setCell ?_ ?_ _ | refine Below.alloc ?_ ?_ _ | refine Below.drew ?_)) <;> (first | omega | (simp <;> omega)))))).more (show w.heap.size ≤ _ from by first | omega | (simp <;> omega)))).mono ?_
  rintro e w6 ⟨rfl, hb6⟩
  have hB6 : Below w.heap.size w w6 := Below.trans (by first | exact hB5 | ((repeat' (first | exact hB5 | refine Below.setCell ?_ ?_ _ | refine Below.alloc ?_ ?_ _ | refine Below.drew ?_)) <;> (first | omega | (simp <;> omega)))) (hb6.mono (by first | omega | (simp <;> omega)))
  have hs6 : w.heap.size ≤ w6.heap.size := hB6.size
  have ht6 := hb6.size
  try simp only [World.size_alloc, World.size_setCell] at ht6
  have c6_0 : w6.cell? ⟨w.heap.size, 0, none⟩ = some (.int .i64 p.1) := (hb6.cell (p := ⟨w.heap.size, 0, none⟩) (by first | omega | (simp <;> omega))).trans (by first | exact c5_0 | simp [go_sem, c5_0, l5_0a, l5_0b, l5_0c, l5_0d])
  have c6_1 : w6.cell? ⟨w.heap.size, 1, none⟩ = some (.int .i64 p.2) := (hb6.cell (p := ⟨w.heap.size, 1, none⟩) (by first | omega | (simp <;> omega))).trans (by first | exact c5_1 | simp [go_sem, c5_1, l5_0a, l5_0b, l5_0c, l5_0d])
  have l6_0a : w.heap.size < w6.heap.size := World.block_lt_of_cell? w6 _ c6_0
  have l6_0b : w.heap.size < w6.heap.size + 1 := Nat.lt_succ_of_lt l6_0a
  have l6_0c : w.heap.size < w6.heap.size + 1 + 1 := Nat.lt_succ_of_lt l6_0b
  have l6_0d : w.heap.size < w6.heap.size + 1 + 1 + 1 := Nat.lt_succ_of_lt l6_0c
  have hkw2_6 : Below w2.heap.size w2 w6 := Below.trans (by first | exact hkw2_5 | ((repeat' (first | exact hkw2_5 | refine Below.setCell ?_ ?_ _ | refine Below.alloc ?_ ?_ _ | refine Below.drew ?_)) <;> (first | omega | (simp <;> omega)))) (hb6.mono (by first | omega | (simp <;> omega)))
  clear c5_0 c5_1 l5_0a l5_0b l5_0c l5_0d hkw2_5 hB5 hb6
  rw [HE.out]
  go_wp2_with fail
  refine (error_same _ HP.out _ (by exact HG.out.belowB (show Below w.heap.size w _ from (by first | exact hB6 | ((repeat' (first | exact hB6 | refine Below.setCell ?_ ?_ _ | refine Below.alloc ?_ ?_ _ | refine Below.drew ?_)) <;> (first | omega | (simp <;> omega))))) HG.out.lt)).mono ?_
  rintro e w7 ⟨rfl, hb7⟩
  have hB7 : Below w.heap.size w w7 := Below.trans (by first | exact hB6 | ((repeat' (first | exact hB6 | refine Below.setCell ?_ ?_ _ | refine Below.alloc ?_ ?_ _ | refine Below.drew ?_)) <;> (first | omega | (simp <;> omega)))) (hb7.mono (by first | omega | (simp <;> omega)))
  have hs7 : w.heap.size ≤ w7.heap.size := hB7.size
  have ht7 := hb7.size
  try simp only [World.size_alloc, World.size_setCell] at ht7
  have c7_0 : w7.cell? ⟨w.heap.size, 0, none⟩ = some (.int .i64 p.1) := (hb7.cell (p := ⟨w.heap.size, 0, none⟩) (by first | omega | (simp <;> omega))).trans (by first | exact c6_0 | simp [go_sem, c6_0, l6_0a, l6_0b, l6_0c, l6_0d])
  have c7_1 : w7.cell? ⟨w.heap.size, 1, none⟩ = some (.int .i64 p.2) := (hb7.cell (p := ⟨w.heap.size, 1, none⟩) (by first | omega | (simp <;> omega))).trans (by first | exact c6_1 | simp [go_sem, c6_1, l6_0a, l6_0b, l6_0c, l6_0d])
  have l7_0a : w.heap.size < w7.heap.size := World.block_lt_of_cell? w7 _ c7_0
  have l7_0b : w.heap.size < w7.heap.size + 1 := Nat.lt_succ_of_lt l7_0a
  have l7_0c : w.heap.size < w7.heap.size + 1 + 1 := Nat.lt_succ_of_lt l7_0b
  have l7_0d : w.heap.size < w7.heap.size + 1 + 1 + 1 := Nat.lt_succ_of_lt l7_0c
  have hkw2_7 : Below w2.heap.size w2 w7 := Below.trans (by first | exact hkw2_6 | ((repeat' (first | exact hkw2_6 | refine Below.setCell ?_ ?_ _ | refine Below.alloc ?_ ?_ _ | refine Below.drew ?_)) <;> (first | omega | (simp <;> omega)))) (hb7.mono (by first | omega | (simp <;> omega)))
  clear c6_0 c6_1 l6_0a l6_0b l6_0c l6_0d hkw2_6 hB6 hb7
  go_wp2_with fail
  refine (prefixes_nil _).mono ?_
  rintro e w8 ⟨rfl, hb8⟩
  have hB8 : Below w.heap.size w w8 := Below.trans (by first | exact hB7 | ((repeat' (first | exact hB7 | refine Below.setCell ?_ ?_ _ | refine Below.alloc ?_ ?_ _ | refine Below.drew ?_)) <;> (first | omega | (simp <;> omega)))) (hb8.mono (by first | omega | (simp <;> omega)))
  have hs8 : w.heap.size ≤ w8.heap.size := hB8.size
  have ht8 := hb8.size
  try simp only [World.size_alloc, World.size_setCell] at ht8
  have c8_0 : w8.cell? ⟨w.heap.size, 0, none⟩ = some (.int .i64 p.1) := (hb8.cell (p := ⟨w.heap.size, 0, none⟩) (by first | omega | (simp <;> omega))).trans (by first | exact c7_0 | simp [go_sem, c7_0, l7_0a, l7_0b, l7_0c, l7_0d])
  have c8_1 : w8.cell? ⟨w.heap.size, 1, none⟩ = some (.int .i64 p.2) := (hb8.cell (p := ⟨w.heap.size, 1, none⟩) (by first | omega | (simp <;> omega))).trans (by first | exact c7_1 | simp [go_sem, c7_1, l7_0a, l7_0b, l7_0c, l7_0d])
  have l8_0a : w.heap.size < w8.heap.size := World.block_lt_of_cell? w8 _ c8_0
  have l8_0b : w.heap.size < w8.heap.size + 1 := Nat.lt_succ_of_lt l8_0a
  have l8_0c : w.heap.size < w8.heap.size + 1 + 1 := Nat.lt_succ_of_lt l8_0b
  have l8_0d : w.heap.size < w8.heap.size + 1 + 1 + 1 := Nat.lt_succ_of_lt l8_0c
  have hkw2_8 : Below w2.heap.size w2 w8 := Below.trans (by first | exact hkw2_7 | ((repeat' (first | exact hkw2_7 | refine Below.setCell ?_ ?_ _ | refine Below.alloc ?_ ?_ _ | refine Below.drew ?_)) <;> (first | omega | (simp <;> omega)))) (hb8.mono (by first | omega | (simp <;> omega)))
  clear c7_0 c7_1 l7_0a l7_0b l7_0c l7_0d hkw2_7 hB7 hb8
  go_wp2_with fail
  refine (roots_ok A l c HT.out _ ((hl.below (show Below w.heap.size w _ from (by first | exact hB8 | ((repeat' (first | exact hB8 | refine Below.setCell ?_ ?_ _ | refine Below.alloc ?_ ?_ _ | refine Below.drew ?_)) <;> (first | omega | (simp <;> omega)))))).more (show w.heap.size ≤ _ from by first | omega | (simp <;> omega)))).mono ?_
  rintro e w9 ⟨v9, rfl, hown9, hb9⟩
  have hB9 : Below w.heap.size w w9 := Below.trans (by first | exact hB8 | ((repeat' (first | exact hB8 | refine Below.setCell ?_ ?_ _ | refine Below.alloc ?_ ?_ _ | refine Below.drew ?_)) <;> (first | omega | (simp <;> omega)))) (hb9.mono (by first | omega | (simp <;> omega)))
  have hs9 : w.heap.size ≤ w9.heap.size := hB9.size
  have ht9 := hb9.size
  try simp only [World.size_alloc, World.size_setCell] at ht9
  have c9_0 : w9.cell? ⟨w.heap.size, 0, none⟩ = some (.int .i64 p.1) := (hb9.cell (p := ⟨w.heap.size, 0, none⟩) (by first | omega | (simp <;> omega))).trans (by first | exact c8_0 | simp [go_sem, c8_0, l8_0a, l8_0b, l8_0c, l8_0d])
  have c9_1 : w9.cell? ⟨w.heap.size, 1, none⟩ = some (.int .i64 p.2) := (hb9.cell (p := ⟨w.heap.size, 1, none⟩) (by first | omega | (simp <;> omega))).trans (by first | exact c8_1 | simp [go_sem, c8_1, l8_0a, l8_0b, l8_0c, l8_0d])
  have l9_0a : w.heap.size < w9.heap.size := World.block_lt_of_cell? w9 _ c9_0
  have l9_0b : w.heap.size < w9.heap.size + 1 := Nat.lt_succ_of_lt l9_0a
  have l9_0c : w.heap.size < w9.heap.size + 1 + 1 := Nat.lt_succ_of_lt l9_0b
  have l9_0d : w.heap.size < w9.heap.size + 1 + 1 + 1 := Nat.lt_succ_of_lt l9_0c
  have hkw2_9 : Below w2.heap.size w2 w9 := Below.trans (by first | exact hkw2_8 | ((repeat' (first | exact hkw2_8 | refine Below.setCell ?_ ?_ _ | refine Below.alloc ?_ ?_ _ | refine Below.drew ?_)) <;> (first | omega | (simp <;> omega)))) (hb9.mono (by first | omega | (simp <;> omega)))
  clear c8_0 c8_1 l8_0a l8_0b l8_0c l8_0d hkw2_8 hB8 hb9
  obtain ⟨A9, c9, rfl, hr9⟩ := hown9.form
  clear hown9
  go_wp2_with fail
  refine (error_nil0 _ (by exact HG.out.belowB (show Below w.heap.size w _ from (by first | exact hB9 | ((repeat' (first | exact hB9 | refine Below.setCell ?_ ?_ _ | refine Below.alloc ?_ ?_ _ | refine Below.drew ?_)) <;> (first | omega | (simp <;> omega))))) HG.out.lt)).mono ?_
  rintro e w10 ⟨rfl, hb10⟩
  have hB10 : Below w.heap.size w w10 := Below.trans (by first | exact hB9 | ((repeat' (first | exact hB9 | refine Below.setCell ?_ ?_ _ | refine Below.alloc ?_ ?_ _ | refine Below.drew ?_)) <;> (first | omega | (simp <;> omega)))) (hb10.mono (by first | omega | (simp <;> omega)))
  have hs10 : w.heap.size ≤ w10.heap.size := hB10.size
  have ht10 := hb10.size
  try simp only [World.size_alloc, World.size_setCell] at ht10
  have c10_0 : w10.cell? ⟨w.heap.size, 0, none⟩ = some (.int .i64 p.1) := (hb10.cell (p := ⟨w.heap.size, 0, none⟩) (by first | omega | (simp <;> omega))).trans (by first | exact c9_0 | simp [go_sem, c9_0, l9_0a, l9_0b, l9_0c, l9_0d])
  have c10_1 : w10.cell? ⟨w.heap.size, 1, none⟩ = some (.int .i64 p.2) := (hb10.cell (p := ⟨w.heap.size, 1, none⟩) (by first | omega | (simp <;> omega))).trans (by first | exact c9_1 | simp [go_sem, c9_1, l9_0a, l9_0b, l9_0c, l9_0d])
  have l10_0a : w.heap.size < w10.heap.size := World.block_lt_of_cell? w10 _ c10_0
  have l10_0b : w.heap.size < w10.heap.size + 1 := Nat.lt_succ_of_lt l10_0a
  have l10_0c : w.heap.size < w10.heap.size + 1 + 1 := Nat.lt_succ_of_lt l10_0b
  have l10_0d : w.heap.size < w10.heap.size + 1 + 1 + 1 := Nat.lt_succ_of_lt l10_0c
  have hkw2_10 : Below w2.heap.size w2 w10 := Below.trans (by first | exact hkw2_9 | ((repeat' (first | exact hkw2_9 | refine Below.setCell ?_ ?_ _ | refine Below.alloc ?_ ?_ _ | refine Below.drew ?_)) <;> (first | omega | (simp <;> omega)))) (hb10.mono (by first | omega | (simp <;> omega)))
  have hkw9_10 : Below w9.heap.size w9 w10 := Below.trans (by first | exact Below.refl _ _ | ((repeat' (first | exact Below.refl _ _ | refine Below.setCell ?_ ?_ _ | refine Below.alloc ?_ ?_ _ | refine Below.drew ?_)) <;> (first | omega | (simp <;> omega)))) (hb10.mono (by first | omega | (simp <;> omega)))
  clear c9_0 c9_1 l9_0a l9_0b l9_0c l9_0d hkw2_9 hB9 hb10
  go_wp2_with fail
  refine (prefixes_same A9 A2 (tops l) (tops l) _ _ c9 c2 rfl rfl hTL.out rfl _ ((hr9.below (show Below w9.heap.size w9 _ from (by first | exact hkw9_10 | ((repeat' (first | exact hkw9_10 | refine Below.setCell ?_ ?_ _ | refine Below.alloc ?_ ?_ _ | refine Below.drew ?_)) <;> (first | omega | (simp <;> omega)))))).more (show w9.heap.size ≤ _ from by first | omega | (simp <;> omega))) ((hr2.below (show Below w2.heap.size w2 _ from (by first | exact hkw2_10 | ((repeat' (first | exact hkw2_10 | refine Below.setCell ?_ ?_ _ | refine Below.alloc ?_ ?_ _ | refine Below.drew ?_)) <;> (first | omega | (simp <;> omega)))))).more (show w2.heap.size ≤ _ from by first | omega | (simp <;> omega)))).mono ?_
  rintro e w11 ⟨rfl, hb11⟩
  have hB11 : Below w.heap.size w w11 := Below.trans (by first | exact hB10 | ((repeat' (first | exact hB10 | refine Below.setCell ?_ ?_ _ | refine Below.alloc ?_ ?_ _ | refine Below.drew ?_)) <;> (first | omega | (simp <;> omega)))) (hb11.mono (by first | omega | (simp <;> omega)))
  have hs11 : w.heap.size ≤ w11.heap.size := hB11.size
  have ht11 := hb11.size
  try simp only [World.size_alloc, World.size_setCell] at ht11
  have c11_0 : w11.cell? ⟨w.heap.size, 0, none⟩ = some (.int .i64 p.1) := (hb11.cell (p := ⟨w.heap.size, 0, none⟩) (by first | omega | (simp <;> omega))).trans (by first | exact c10_0 | simp [go_sem, c10_0, l10_0a, l10_0b, l10_0c, l10_0d])
  have c11_1 : w11.cell? ⟨w.heap.size, 1, none⟩ = some (.int .i64 p.2) := (hb11.cell (p := ⟨w.heap.size, 1, none⟩) (by first | omega | (simp <;> omega))).trans (by first | exact c10_1 | simp [go_sem, c10_1, l10_0a, l10_0b, l10_0c, l10_0d])
  have l11_0a : w.heap.size < w11.heap.size := World.block_lt_of_cell? w11 _ c11_0
  have l11_0b : w.heap.size < w11.heap.size + 1 := Nat.lt_succ_of_lt l11_0a
  have l11_0c : w.heap.size < w11.heap.size + 1 + 1 := Nat.lt_succ_of_lt l11_0b
  have l11_0d : w.heap.size < w11.heap.size + 1 + 1 + 1 := Nat.lt_succ_of_lt l11_0c
  have hkw2_11 : Below w2.heap.size w2 w11 := Below.trans (by first | exact hkw2_10 | ((repeat' (first | exact hkw2_10 | refine Below.setCell ?_ ?_ _ | refine Below.alloc ?_ ?_ _ | refine Below.drew ?_)) <;> (first | omega | (simp <;> omega)))) (hb11.mono (by first | omega | (simp <;> omega)))
  have hkw9_11 : Below w9.heap.size w9 w11 := Below.trans (by first | exact hkw9_10 | ((repeat' (first | exact hkw9_10 | refine Below.setCell ?_ ?_ _ | refine Below.alloc ?_ ?_ _ | refine Below.drew ?_)) <;> (first | omega | (simp <;> omega)))) (hb11.mono (by first | omega | (simp <;> omega)))
  clear c10_0 c10_1 l10_0a l10_0b l10_0c l10_0d hkw2_10 hkw9_10 hB10 hb11
  go_wp2
  go_ret
  exact ⟨rfl, (by first | exact hB11 | ((repeat' (first | exact hB11 | refine Below.setCell ?_ ?_ _ | refine Below.alloc ?_ ?_ _ | refine Below.drew ?_)) <;> (first | omega | (simp <;> omega))))⟩
set_option maxRecDepth 100000 in
set_option maxHeartbeats 8000000 in
theorem treeIs_5c (A : Option Addr) (l : List Pf) (c : Nat) (p : Pf) (a : Int) (hm : l.length ≤ maxLen) (w : World) (hg : ErrVar w) (hl : Rd w w.heap.size A (cellsP l)) (ht : treeFault l = 0) (hp : chk p.1 p.2 = 0) (s0 : Act) (w0 : World) (h0 : TImid A l c p a w s0 w0) :
    (tailN 8 (tailN 5 (tailN 5 (tailN 4 (Tryd.f5.body.getD .skip))))).wp Tryd.prog (bodyPost Tryd.prog Tryd.f5 fun e w' => e = .returned (.bool true) ∧ Below w.heap.size w w') s0 w0 := by
  have HG := Lib.hid hg
  clear hg
  have hTL := Lib.hid (show (tops l).length ≤ maxLen from Nat.le_trans (topsGo_length _ _) hm)
  have HBT := Lib.hid (belowRef_all p (tree_good ht).2.1 (tree_good ht).2.2)
  have HBF := Lib.hid (belowRef_some p (tree_good ht).2.1 (tree_good ht).2.2)
  have hUL := Lib.hid (show (l.filter (aboveOf p)).length ≤ maxLen from Nat.le_trans (List.length_filter_le _ _) hm)
  have hDL := Lib.hid (show (tops (l.filter (belowOf p))).length ≤ maxLen from Nat.le_trans (topsGo_length _ _) (Nat.le_trans (List.length_filter_le _ _) hm))
  have H2 := Lib.hid (treeFault2_zero.2 ⟨ht, hp⟩)
  have HT := Lib.hid ht
  have HP := Lib.hid hp
  clear ht hp
  obtain ⟨U, k, rfl, hk, hB0, c0_0, c0_1⟩ := h0
  obtain rfl : k = 0 := hk.trans HT.out
  clear hk
  dsimp only [Tryd.f5, Option.getD, tailN, putN]
  have hs0 := hB0.size
  have l0_0a : w.heap.size < w0.heap.size := World.block_lt_of_cell? w0 _ c0_0
  have l0_0b : w.heap.size < w0.heap.size + 1 := Nat.lt_succ_of_lt l0_0a
  have l0_0c : w.heap.size < w0.heap.size + 1 + 1 := Nat.lt_succ_of_lt l0_0b
  have l0_0d : w.heap.size < w0.heap.size + 1 + 1 + 1 := Nat.lt_succ_of_lt l0_0c
  go_wp2_with fail
  refine (fault_any p.1 p.2 _).mono ?_
  rintro e w1 ⟨rfl, hb1⟩
  have hB1 : Below w.heap.size w w1 := Below.trans (by first | exact hB0 | ((repeat' (first | exact hB0 | refine Below.setCell ?_ ?_ _ | refine Below.alloc ?_ ?_ _ | refine Below.drew ?_)) <;> (first | omega | (simp <;> omega)))) (hb1.mono (by first | omega | (simp <;> omega)))
  have hs1 : w.heap.size ≤ w1.heap.size := hB1.size
  have ht1 := hb1.size
  try simp only [World.size_alloc, World.size_setCell] at ht1
  have c1_0 : w1.cell? ⟨w.heap.size, 0, none⟩ = some (.int .i64 p.1) := (hb1.cell (p := ⟨w.heap.size, 0, none⟩) (by first | omega | (simp <;> omega))).trans (by first | exact c0_0 | simp [go_sem, c0_0, l0_0a, l0_0b, l0_0c, l0_0d])
  have c1_1 : w1.cell? ⟨w.heap.size, 1, none⟩ = some (.int .i64 p.2) := (hb1.cell (p := ⟨w.heap.size, 1, none⟩) (by first | omega | (simp <;> omega))).trans (by first | exact c0_1 | simp [go_sem, c0_1, l0_0a, l0_0b, l0_0c, l0_0d])
  have l1_0a : w.heap.size < w1.heap.size := World.block_lt_of_cell? w1 _ c1_0
  have l1_0b : w.heap.size < w1.heap.size + 1 := Nat.lt_succ_of_lt l1_0a
  have l1_0c : w.heap.size < w1.heap.size + 1 + 1 := Nat.lt_succ_of_lt l1_0b
  have l1_0d : w.heap.size < w1.heap.size + 1 + 1 + 1 := Nat.lt_succ_of_lt l1_0c
  clear c0_0 c0_1 l0_0a l0_0b l0_0c l0_0d hB0 hb1
  rw [HP.out]
  go_wp2_with fail
  refine (aboveRef_any A l c p HT.out HP.out _ ((hl.below (show Below w.heap.size w _ from (by first | exact hB1 | ((repeat' (first | exact hB1 | refine Below.setCell ?_ ?_ _ | refine Below.alloc ?_ ?_ _ | refine Below.drew ?_)) <;> (first | omega | (simp <;> omega)))))).more (show w.heap.size ≤ _ from by first | omega | (simp <;> omega)))).mono ?_
  rintro e w2 ⟨v2, rfl, hown2, hb2⟩
  have hB2 : Below w.heap.size w w2 := Below.trans (by first | exact hB1 | ((repeat' (first | exact hB1 | refine Below.setCell ?_ ?_ _ | refine Below.alloc ?_ ?_ _ | refine Below.drew ?_)) <;> (first | omega | (simp <;> omega)))) (hb2.mono (by first | omega | (simp <;> omega)))
  have hs2 : w.heap.size ≤ w2.heap.size := hB2.size
  have ht2 := hb2.size
  try simp only [World.size_alloc, World.size_setCell] at ht2
  have c2_0 : w2.cell? ⟨w.heap.size, 0, none⟩ = some (.int .i64 p.1) := (hb2.cell (p := ⟨w.heap.size, 0, none⟩) (by first | omega | (simp <;> omega))).trans (by first | exact c1_0 | simp [go_sem, c1_0, l1_0a, l1_0b, l1_0c, l1_0d])
  have c2_1 : w2.cell? ⟨w.heap.size, 1, none⟩ = some (.int .i64 p.2) := (hb2.cell (p := ⟨w.heap.size, 1, none⟩) (by first | omega | (simp <;> omega))).trans (by first | exact c1_1 | simp [go_sem, c1_1, l1_0a, l1_0b, l1_0c, l1_0d])
  have l2_0a : w.heap.size < w2.heap.size := World.block_lt_of_cell? w2 _ c2_0
  have l2_0b : w.heap.size < w2.heap.size + 1 := Nat.lt_succ_of_lt l2_0a
  have l2_0c : w.heap.size < w2.heap.size + 1 + 1 := Nat.lt_succ_of_lt l2_0b
  have l2_0d : w.heap.size < w2.heap.size + 1 + 1 + 1 := Nat.lt_succ_of_lt l2_0c
  clear c1_0 c1_1 l1_0a l1_0b l1_0c l1_0d hB1 hb2
  obtain ⟨A2, c2, rfl, hr2⟩ := hown2.form
  clear hown2
  go_wp2_with fail
  refine (belowRef_F A l c p HT.out HP.out _ ((hl.below (show Below w.heap.size w _ from (by first | exact hB2 | ((repeat' (first | exact hB2 | refine Below.setCell ?_ ?_ _ | refine Below.alloc ?_ ?_ _ | refine Below.drew ?_)) <;> (first | omega | (simp <;> omega)))))).more (show w.heap.size ≤ _ from by first | omega | (simp <;> omega)))).mono ?_
  rintro e w3 ⟨v3, rfl, hown3, hb3⟩
  have hB3 : Below w.heap.size w w3 := Below.trans (by first | exact hB2 | ((repeat' (first | exact hB2 | refine Below.setCell ?_ ?_ _ | refine Below.alloc ?_ ?_ _ | refine Below.drew ?_)) <;> (first | omega | (simp <;> omega)))) (hb3.mono (by first | omega | (simp <;> omega)))
  have hs3 : w.heap.size ≤ w3.heap.size := hB3.size
  have ht3 := hb3.size
  try simp only [World.size_alloc, World.size_setCell] at ht3
  have c3_0 : w3.cell? ⟨w.heap.size, 0, none⟩ = some (.int .i64 p.1) := (hb3.cell (p := ⟨w.heap.size, 0, none⟩) (by first | omega | (simp <;> omega))).trans (by first | exact c2_0 | simp [go_sem, c2_0, l2_0a, l2_0b, l2_0c, l2_0d])
  have c3_1 : w3.cell? ⟨w.heap.size, 1, none⟩ = some (.int .i64 p.2) := (hb3.cell (p := ⟨w.heap.size, 1, none⟩) (by first | omega | (simp <;> omega))).trans (by first | exact c2_1 | simp [go_sem, c2_1, l2_0a, l2_0b, l2_0c, l2_0d])
  have l3_0a : w.heap.size < w3.heap.size := World.block_lt_of_cell? w3 _ c3_0
  have l3_0b : w.heap.size < w3.heap.size + 1 := Nat.lt_succ_of_lt l3_0a
  have l3_0c : w.heap.size < w3.heap.size + 1 + 1 := Nat.lt_succ_of_lt l3_0b
  have l3_0d : w.heap.size < w3.heap.size + 1 + 1 + 1 := Nat.lt_succ_of_lt l3_0c
  have hkw2_3 : Below w2.heap.size w2 w3 := Below.trans (by first | exact Below.refl _ _ | ((repeat' (first | exact Below.refl _ _ | refine Below.setCell ?_ ?_ _ | refine Below.alloc ?_ ?_ _ | refine Below.drew ?_)) <;> (first | omega | (simp <;> omega)))) (hb3.mono (by first | omega | (simp <;> omega)))
  clear c2_0 c2_1 l2_0a l2_0b l2_0c l2_0d hB2 hb3
  rw [HBF.out] at hown3
  obtain ⟨A3, c3, rfl, hr3⟩ := hown3.form
  clear hown3
  go_wp2_with fail
  refine (belowRef_T A l c p HT.out _ ((hl.below (show Below w.heap.size w _ from (by first | exact hB3 | ((repeat' (first | exact hB3 | refine Below.setCell ?_ ?_ _ | refine Below.alloc ?_ ?_ _ | refine Below.drew ?_)) <;> (first | omega | (simp <;> omega)))))).more (show w.heap.size ≤ _ from by first | omega | (simp <;> omega)))).mono ?_
  rintro e w4 ⟨v4, rfl, hown4, hb4⟩
  have hB4 : Below w.heap.size w w4 := Below.trans (by first | exact hB3 | ((repeat' (first | exact hB3 | refine Below.setCell ?_ ?_ _ | refine Below.alloc ?_ ?_ _ | refine Below.drew ?_)) <;> (first | omega | (simp <;> omega)))) (hb4.mono (by first | omega | (simp <;> omega)))
  have hs4 : w.heap.size ≤ w4.heap.size := hB4.size
  have ht4 := hb4.size
  try simp only [World.size_alloc, World.size_setCell] at ht4
  have c4_0 : w4.cell? ⟨w.heap.size, 0, none⟩ = some (.int .i64 p.1) := (hb4.cell (p := ⟨w.heap.size, 0, none⟩) (by first | omega | (simp <;> omega))).trans (by first | exact c3_0 | simp [go_sem, c3_0, l3_0a, l3_0b, l3_0c, l3_0d])
  have c4_1 : w4.cell? ⟨w.heap.size, 1, none⟩ = some (.int .i64 p.2) := (hb4.cell (p := ⟨w.heap.size, 1, none⟩) (by first | omega | (simp <;> omega))).trans (by first | exact c3_1 | simp [go_sem, c3_1, l3_0a, l3_0b, l3_0c, l3_0d])
  have l4_0a : w.heap.size < w4.heap.size := World.block_lt_of_cell? w4 _ c4_0
  have l4_0b : w.heap.size < w4.heap.size + 1 := Nat.lt_succ_of_lt l4_0a
  have l4_0c : w.heap.size < w4.heap.size + 1 + 1 := Nat.lt_succ_of_lt l4_0b
  have l4_0d : w.heap.size < w4.heap.size + 1 + 1 + 1 := Nat.lt_succ_of_lt l4_0c
  have hkw2_4 : Below w2.heap.size w2 w4 := Below.trans (by first | exact hkw2_3 | ((repeat' (first | exact hkw2_3 | refine Below.setCell ?_ ?_ _ | refine Below.alloc ?_ ?_ _ | refine Below.drew ?_)) <;> (first | omega | (simp <;> omega)))) (hb4.mono (by first | omega | (simp <;> omega)))
  have hkw3_4 : Below w3.heap.size w3 w4 := Below.trans (by first | exact Below.refl _ _ | ((repeat' (first | exact Below.refl _ _ | refine Below.setCell ?_ ?_ _ | refine Below.alloc ?_ ?_ _ | refine Below.drew ?_)) <;> (first | omega | (simp <;> omega)))) (hb4.mono (by first | omega | (simp <;> omega)))
  clear c3_0 c3_1 l3_0a l3_0b l3_0c l3_0d hkw2_3 hB3 hb4
  rw [HBT.out] at hown4
  obtain ⟨A4, c4, rfl, hr4⟩ := hown4.form
  clear hown4
  go_wp2_with fail
  refine (above_ok A l c p H2.out _ ((hl.below (show Below w.heap.size w _ from (by first | exact hB4 | ((repeat' (first | exact hB4 | refine Below.setCell ?_ ?_ _ | refine Below.alloc ?_ ?_ _ | refine Below.drew ?_)) <;> (first | omega | (simp <;> omega)))))).more (show w.heap.size ≤ _ from by first | omega | (simp <;> omega)))).mono ?_
  rintro e w5 ⟨v5, rfl, hown5, hb5⟩
  have hB5 : Below w.heap.size w w5 := Below.trans (by first | exact hB4 | ((repeat' (first | exact hB4 | refine Below.setCell ?_ ?_ _ | refine Below.alloc ?_ ?_ _ | refine Below.drew ?_)) <;> (first | omega | (simp <;> omega)))) (hb5.mono (by first | omega | (simp <;> omega)))
  have hs5 : w.heap.size ≤ w5.heap.size := hB5.size
  have ht5 := hb5.size
  try simp only [World.size_alloc, World.size_setCell] at ht5
  have c5_0 : w5.cell? ⟨w.heap.size, 0, none⟩ = some (.int .i64 p.1) := (hb5.cell (p := ⟨w.heap.size, 0, none⟩) (by first | omega | (simp <;> omega))).trans (by first | exact c4_0 | simp [go_sem, c4_0, l4_0a, l4_0b, l4_0c, l4_0d])
  have c5_1 : w5.cell? ⟨w.heap.size, 1, none⟩ = some (.int .i64 p.2) := (hb5.cell (p := ⟨w.heap.size, 1, none⟩) (by first | omega | (simp <;> omega))).trans (by first | exact c4_1 | simp [go_sem, c4_1, l4_0a, l4_0b, l4_0c, l4_0d])
  have l5_0a : w.heap.size < w5.heap.size := World.block_lt_of_cell? w5 _ c5_0
  have l5_0b : w.heap.size < w5.heap.size + 1 := Nat.lt_succ_of_lt l5_0a
  have l5_0c : w.heap.size < w5.heap.size + 1 + 1 := Nat.lt_succ_of_lt l5_0b
  have l5_0d : w.heap.size < w5.heap.size + 1 + 1 + 1 := Nat.lt_succ_of_lt l5_0c
  have hkw2_5 : Below w2.heap.size w2 w5 := Below.trans (by first | exact hkw2_4 | ((repeat' (first | exact hkw2_4 | refine Below.setCell ?_ ?_ _ | refine Below.alloc ?_ ?_ _ | refine Below.drew ?_)) <;> (first | omega | (simp <;> omega)))) (hb5.mono (by first | omega | (simp <;> omega)))
  have hkw3_5 : Below w3.heap.size w3 w5 := Below.trans (by first | exact hkw3_4 | ((repeat' (first | exact hkw3_4 | refine Below.setCell ?_ ?_ _ | refine Below.alloc ?_ ?_ _ | refine Below.drew ?_)) <;> (first | omega | (simp <;> omega)))) (hb5.mono (by first | omega | (simp <;> omega)))
  have hkw4_5 : Below w4.heap.size w4 w5 := Below.trans (by first | exact Below.refl _ _ | ((repeat' (first | exact Below.refl _ _ | refine Below.setCell ?_ ?_ _ | refine Below.alloc ?_ ?_ _ | refine Below.drew ?_)) <;> (first | omega | (simp <;> omega)))) (hb5.mono (by first | omega | (simp <;> omega)))
  clear c4_0 c4_1 l4_0a l4_0b l4_0c l4_0d hkw2_4 hkw3_4 hB4 hb5
  obtain ⟨A5, c5, rfl, hr5⟩ := hown5.form
  clear hown5
  go_wp2_with fail
  refine (error_nil0 _ (by exact HG.out.belowB (show Below w.heap.size w _ from (by first | exact hB5 | ((repeat' (first | exact hB5 | refine Below.setCell ?_ ?_ _ | refine Below.alloc ?_ ?_ _ | refine Below.drew ?_)) <;> (first | omega | (simp <;> omega))))) HG.out.lt)).mono ?_
  rintro e w6 ⟨rfl, hb6⟩
  have hB6 : Below w.heap.size w w6 := Below.trans (by first | exact hB5 | ((repeat' (first | exact hB5 | refine Below.setCell ?_ ?_ _ | refine Below.alloc ?_ ?_ _ | refine Below.drew ?_)) <;> (first | omega | (simp <;> omega)))) (hb6.mono (by first | omega | (simp <;> omega)))
  have hs6 : w.heap.size ≤ w6.heap.size := hB6.size
  have ht6 := hb6.size
  try simp only [World.size_alloc, World.size_setCell] at ht6
  have c6_0 : w6.cell? ⟨w.heap.size, 0, none⟩ = some (.int .i64 p.1) := (hb6.cell (p := ⟨w.heap.size, 0, none⟩) (by first | omega | (simp <;> omega))).trans (by first | exact c5_0 | simp [go_sem, c5_0, l5_0a, l5_0b, l5_0c, l5_0d])
  have c6_1 : w6.cell? ⟨w.heap.size, 1, none⟩ = some (.int .i64 p.2) := (hb6.cell (p := ⟨w.heap.size, 1, none⟩) (by first | omega | (simp <;> omega))).trans (by first | exact c5_1 | simp [go_sem, c5_1, l5_0a, l5_0b, l5_0c, l5_0d])
  have l6_0a : w.heap.size < w6.heap.size := World.block_lt_of_cell? w6 _ c6_0
  have l6_0b : w.heap.size < w6.heap.size + 1 := Nat.lt_succ_of_lt l6_0a
  have l6_0c : w.heap.size < w6.heap.size + 1 + 1 := Nat.lt_succ_of_lt l6_0b
  have l6_0d : w.heap.size < w6.heap.size + 1 + 1 + 1 := Nat.lt_succ_of_lt l6_0c
  have hkw2_6 : Below w2.heap.size w2 w6 := Below.trans (by first | exact hkw2_5 | ((repeat' (first | exact hkw2_5 | refine Below.setCell ?_ ?_ _ | refine Below.alloc ?_ ?_ _ | refine Below.drew ?_)) <;> (first | omega | (simp <;> omega)))) (hb6.mono (by first | omega | (simp <;> omega)))
  have hkw3_6 : Below w3.heap.size w3 w6 := Below.trans (by first | exact hkw3_5 | ((repeat' (first | exact hkw3_5 | refine Below.setCell ?_ ?_ _ | refine Below.alloc ?_ ?_ _ | refine Below.drew ?_)) <;> (first | omega | (simp <;> omega)))) (hb6.mono (by first | omega | (simp <;> omega)))
  have hkw4_6 : Below w4.heap.size w4 w6 := Below.trans (by first | exact hkw4_5 | ((repeat' (first | exact hkw4_5 | refine Below.setCell ?_ ?_ _ | refine Below.alloc ?_ ?_ _ | refine Below.drew ?_)) <;> (first | omega | (simp <;> omega)))) (hb6.mono (by first | omega | (simp <;> omega)))
  have hkw5_6 : Below w5.heap.size w5 w6 := Below.trans (by first | exact Below.refl _ _ | ((repeat' (first | exact Below.refl _ _ | refine Below.setCell ?_ ?_ _ | refine Below.alloc ?_ ?_ _ | refine Below.drew ?_)) <;> (first | omega | (simp <;> omega)))) (hb6.mono (by first | omega | (simp <;> omega)))
  clear c5_0 c5_1 l5_0a l5_0b l5_0c l5_0d hkw2_5 hkw3_5 hkw4_5 hB5 hb6
  go_wp2_with fail
  refine (prefixes_same A5 A2 (l.filter (aboveOf p)) (l.filter (aboveOf p)) _ _ c5 c2 rfl rfl hUL.out rfl _ ((hr5.below (show Below w5.heap.size w5 _ from (by first | exact hkw5_6 | ((repeat' (first | exact hkw5_6 | refine Below.setCell ?_ ?_ _ | refine Below.alloc ?_ ?_ _ | refine Below.drew ?_)) <;> (first | omega | (simp <;> omega)))))).more (show w5.heap.size ≤ _ from by first | omega | (simp <;> omega))) ((hr2.below (show Below w2.heap.size w2 _ from (by first | exact hkw2_6 | ((repeat' (first | exact hkw2_6 | refine Below.setCell ?_ ?_ _ | refine Below.alloc ?_ ?_ _ | refine Below.drew ?_)) <;> (first | omega | (simp <;> omega)))))).more (show w2.heap.size ≤ _ from by first | omega | (simp <;> omega)))).mono ?_
  rintro e w7 ⟨rfl, hb7⟩
  have hB7 : Below w.heap.size w w7 := Below.trans (by first | exact hB6 | ((repeat' (first | exact hB6 | refine Below.setCell ?_ ?_ _ | refine Below.alloc ?_ ?_ _ | refine Below.drew ?_)) <;> (first | omega | (simp <;> omega)))) (hb7.mono (by first | omega | (simp <;> omega)))
  have hs7 : w.heap.size ≤ w7.heap.size := hB7.size
  have ht7 := hb7.size
  try simp only [World.size_alloc, World.size_setCell] at ht7
  have c7_0 : w7.cell? ⟨w.heap.size, 0, none⟩ = some (.int .i64 p.1) := (hb7.cell (p := ⟨w.heap.size, 0, none⟩) (by first | omega | (simp <;> omega))).trans (by first | exact c6_0 | simp [go_sem, c6_0, l6_0a, l6_0b, l6_0c, l6_0d])
  have c7_1 : w7.cell? ⟨w.heap.size, 1, none⟩ = some (.int .i64 p.2) := (hb7.cell (p := ⟨w.heap.size, 1, none⟩) (by first | omega | (simp <;> omega))).trans (by first | exact c6_1 | simp [go_sem, c6_1, l6_0a, l6_0b, l6_0c, l6_0d])
  have l7_0a : w.heap.size < w7.heap.size := World.block_lt_of_cell? w7 _ c7_0
  have l7_0b : w.heap.size < w7.heap.size + 1 := Nat.lt_succ_of_lt l7_0a
  have l7_0c : w.heap.size < w7.heap.size + 1 + 1 := Nat.lt_succ_of_lt l7_0b
  have l7_0d : w.heap.size < w7.heap.size + 1 + 1 + 1 := Nat.lt_succ_of_lt l7_0c
  have hkw2_7 : Below w2.heap.size w2 w7 := Below.trans (by first | exact hkw2_6 | ((repeat' (first | exact hkw2_6 | refine Below.setCell ?_ ?_ _ | refine Below.alloc ?_ ?_ _ | refine Below.drew ?_)) <;> (first | omega | (simp <;> omega)))) (hb7.mono (by first | omega | (simp <;> omega)))
  have hkw3_7 : Below w3.heap.size w3 w7 := Below.trans (by first | exact hkw3_6 | ((repeat' (first | exact hkw3_6 | refine Below.setCell ?_ ?_ _ | refine Below.alloc ?_ ?_ _ | refine Below.drew ?_)) <;> (first | omega | (simp <;> omega)))) (hb7.mono (by first | omega | (simp <;> omega)))
  have hkw4_7 : Below w4.heap.size w4 w7 := Below.trans (by first | exact hkw4_6 | ((repeat' (first | exact hkw4_6 | refine Below.setCell ?_ ?_ _ | refine Below.alloc ?_ ?_ _ | refine Below.drew ?_)) <;> (first | omega | (simp <;> omega)))) (hb7.mono (by first | omega | (simp <;> omega)))
  have hkw5_7 : Below w5.heap.size w5 w7 := Below.trans (by first | exact hkw5_6 | ((repeat' (first | exact hkw5_6 | refine Below.setCell ?_ ?_ _ | refine Below.alloc ?_ ?_ _ | refine Below.drew ?_)) <;> (first | omega | (simp <;> omega)))) (hb7.mono (by first | omega | (simp <;> omega)))
  clear c6_0 c6_1 l6_0a l6_0b l6_0c l6_0d hkw2_6 hkw3_6 hkw4_6 hkw5_6 hB6 hb7
  go_wp2_with fail
  refine (below_ok A l c p H2.out _ ((hl.below (show Below w.heap.size w _ from (by first | exact hB7 | ((repeat' (first | exact hB7 | refine Below.setCell ?_ ?_ _ | refine Below.alloc ?_ ?_ _ | refine Below.drew ?_)) <;> (first | omega | (simp <;> omega)))))).more (show w.heap.size ≤ _ from by first | omega | (simp <;> omega)))).mono ?_
  rintro e w8 ⟨v8, rfl, hown8, hb8⟩
  have hB8 : Below w.heap.size w w8 := Below.trans (by first | exact hB7 | ((repeat' (first | exact hB7 | refine Below.setCell ?_ ?_ _ | refine Below.alloc ?_ ?_ _ | refine Below.drew ?_)) <;> (first | omega | (simp <;> omega)))) (hb8.mono (by first | omega | (simp <;> omega)))
  have hs8 : w.heap.size ≤ w8.heap.size := hB8.size
  have ht8 := hb8.size
  try simp only [World.size_alloc, World.size_setCell] at ht8
  have c8_0 : w8.cell? ⟨w.heap.size, 0, none⟩ = some (.int .i64 p.1) := (hb8.cell (p := ⟨w.heap.size, 0, none⟩) (by first | omega | (simp <;> omega))).trans (by first | exact c7_0 | simp [go_sem, c7_0, l7_0a, l7_0b, l7_0c, l7_0d])
  have c8_1 : w8.cell? ⟨w.heap.size, 1, none⟩ = some (.int .i64 p.2) := (hb8.cell (p := ⟨w.heap.size, 1, none⟩) (by first | omega | (simp <;> omega))).trans (by first | exact c7_1 | simp [go_sem, c7_1, l7_0a, l7_0b, l7_0c, l7_0d])
  have l8_0a : w.heap.size < w8.heap.size := World.block_lt_of_cell? w8 _ c8_0
  have l8_0b : w.heap.size < w8.heap.size + 1 := Nat.lt_succ_of_lt l8_0a
  have l8_0c : w.heap.size < w8.heap.size + 1 + 1 := Nat.lt_succ_of_lt l8_0b
  have l8_0d : w.heap.size < w8.heap.size + 1 + 1 + 1 := Nat.lt_succ_of_lt l8_0c
  have hkw2_8 : Below w2.heap.size w2 w8 := Below.trans (by first | exact hkw2_7 | ((repeat' (first | exact hkw2_7 | refine Below.setCell ?_ ?_ _ | refine Below.alloc ?_ ?_ _ | refine Below.drew ?_)) <;> (first | omega | (simp <;> omega)))) (hb8.mono (by first | omega | (simp <;> omega)))
  have hkw3_8 : Below w3.heap.size w3 w8 := Below.trans (by first | exact hkw3_7 | ((repeat' (first | exact hkw3_7 | refine Below.setCell ?_ ?_ _ | refine Below.alloc ?_ ?_ _ | refine Below.drew ?_)) <;> (first | omega | (simp <;> omega)))) (hb8.mono (by first | omega | (simp <;> omega)))
  have hkw4_8 : Below w4.heap.size w4 w8 := Below.trans (by first | exact hkw4_7 | ((repeat' (first | exact hkw4_7 | refine Below.setCell ?_ ?_ _ | refine Below.alloc ?_ ?_ _ | refine Below.drew ?_)) <;> (first | omega | (simp <;> omega)))) (hb8.mono (by first | omega | (simp <;> omega)))
  have hkw5_8 : Below w5.heap.size w5 w8 := Below.trans (by first | exact hkw5_7 | ((repeat' (first | exact hkw5_7 | refine Below.setCell ?_ ?_ _ | refine Below.alloc ?_ ?_ _ | refine Below.drew ?_)) <;> (first | omega | (simp <;> omega)))) (hb8.mono (by first | omega | (simp <;> omega)))
  clear c7_0 c7_1 l7_0a l7_0b l7_0c l7_0d hkw2_7 hkw3_7 hkw4_7 hkw5_7 hB7 hb8
  obtain ⟨A8, c8, rfl, hr8⟩ := hown8.form
  clear hown8
  go_wp2_with fail
  refine (error_nil0 _ (by exact HG.out.belowB (show Below w.heap.size w _ from (by first | exact hB8 | ((repeat' (first | exact hB8 | refine Below.setCell ?_ ?_ _ | refine Below.alloc ?_ ?_ _ | refine Below.drew ?_)) <;> (first | omega | (simp <;> omega))))) HG.out.lt)).mono ?_
  rintro e w9 ⟨rfl, hb9⟩
  have hB9 : Below w.heap.size w w9 := Below.trans (by first | exact hB8 | ((repeat' (first | exact hB8 | refine Below.setCell ?_ ?_ _ | refine Below.alloc ?_ ?_ _ | refine Below.drew ?_)) <;> (first | omega | (simp <;> omega)))) (hb9.mono (by first | omega | (simp <;> omega)))
  have hs9 : w.heap.size ≤ w9.heap.size := hB9.size
  have ht9 := hb9.size
  try simp only [World.size_alloc, World.size_setCell] at ht9
  have c9_0 : w9.cell? ⟨w.heap.size, 0, none⟩ = some (.int .i64 p.1) := (hb9.cell (p := ⟨w.heap.size, 0, none⟩) (by first | omega | (simp <;> omega))).trans (by first | exact c8_0 | simp [go_sem, c8_0, l8_0a, l8_0b, l8_0c, l8_0d])
  have c9_1 : w9.cell? ⟨w.heap.size, 1, none⟩ = some (.int .i64 p.2) := (hb9.cell (p := ⟨w.heap.size, 1, none⟩) (by first | omega | (simp <;> omega))).trans (by first | exact c8_1 | simp [go_sem, c8_1, l8_0a, l8_0b, l8_0c, l8_0d])
  have l9_0a : w.heap.size < w9.heap.size := World.block_lt_of_cell? w9 _ c9_0
  have l9_0b : w.heap.size < w9.heap.size + 1 := Nat.lt_succ_of_lt l9_0a
  have l9_0c : w.heap.size < w9.heap.size + 1 + 1 := Nat.lt_succ_of_lt l9_0b
  have l9_0d : w.heap.size < w9.heap.size + 1 + 1 + 1 := Nat.lt_succ_of_lt l9_0c
  have hkw2_9 : Below w2.heap.size w2 w9 := Below.trans (by first | exact hkw2_8 | ((repeat' (first | exact hkw2_8 | refine Below.setCell ?_ ?_ _ | refine Below.alloc ?_ ?_ _ | refine Below.drew ?_)) <;> (first | omega | (simp <;> omega)))) (hb9.mono (by first | omega | (simp <;> omega)))
  have hkw3_9 : Below w3.heap.size w3 w9 := Below.trans (by first | exact hkw3_8 | ((repeat' (first | exact hkw3_8 | refine Below.setCell ?_ ?_ _ | refine Below.alloc ?_ ?_ _ | refine Below.drew ?_)) <;> (first | omega | (simp <;> omega)))) (hb9.mono (by first | omega | (simp <;> omega)))
  have hkw4_9 : Below w4.heap.size w4 w9 := Below.trans (by first | exact hkw4_8 | ((repeat' (first | exact hkw4_8 | refine Below.setCell ?_ ?_ _ | refine Below.alloc ?_ ?_ _ | refine Below.drew ?_)) <;> (first | omega | (simp <;> omega)))) (hb9.mono (by first | omega | (simp <;> omega)))
  have hkw5_9 : Below w5.heap.size w5 w9 := Below.trans (by first | exact hkw5_8 | ((repeat' (first | exact hkw5_8 | refine Below.setCell ?_ ?_ _ | refine Below.alloc ?_ ?_ _ | refine Below.drew ?_)) <;> (first | omega | (simp <;> omega)))) (hb9.mono (by first | omega | (simp <;> omega)))
  have hkw8_9 : Below w8.heap.size w8 w9 := Below.trans (by first | exact Below.refl _ _ | ((repeat' (first | exact Below.refl _ _ | refine Below.setCell ?_ ?_ _ | refine Below.alloc ?_ ?_ _ | refine Below.drew ?_)) <;> (first | omega | (simp <;> omega)))) (hb9.mono (by first | omega | (simp <;> omega)))
  clear c8_0 c8_1 l8_0a l8_0b l8_0c l8_0d hkw2_8 hkw3_8 hkw4_8 hkw5_8 hB8 hb9
  go_wp2_with fail
  refine (prefixes_same A8 A3 (tops (l.filter (belowOf p))) (tops (l.filter (belowOf p))) _ _ c8 c3 rfl rfl hDL.out rfl _ ((hr8.below (show Below w8.heap.size w8 _ from (by first | exact hkw8_9 | ((repeat' (first | exact hkw8_9 | refine Below.setCell ?_ ?_ _ | refine Below.alloc ?_ ?_ _ | refine Below.drew ?_)) <;> (first | omega | (simp <;> omega)))))).more (show w8.heap.size ≤ _ from by first | omega | (simp <;> omega))) ((hr3.below (show Below w3.heap.size w3 _ from (by first | exact hkw3_9 | ((repeat' (first | exact hkw3_9 | refine Below.setCell ?_ ?_ _ | refine Below.alloc ?_ ?_ _ | refine Below.drew ?_)) <;> (first | omega | (simp <;> omega)))))).more (show w3.heap.size ≤ _ from by first | omega | (simp <;> omega)))).mono ?_
  rintro e w10 ⟨rfl, hb10⟩
  have hB10 : Below w.heap.size w w10 := Below.trans (by first | exact hB9 | ((repeat' (first | exact hB9 | refine Below.setCell ?_ ?_ _ | refine Below.alloc ?_ ?_ _ | refine Below.drew ?_)) <;> (first | omega | (simp <;> omega)))) (hb10.mono (by first | omega | (simp <;> omega)))
  have hs10 : w.heap.size ≤ w10.heap.size := hB10.size
  have ht10 := hb10.size
  try simp only [World.size_alloc, World.size_setCell] at ht10
  have c10_0 : w10.cell? ⟨w.heap.size, 0, none⟩ = some (.int .i64 p.1) := (hb10.cell (p := ⟨w.heap.size, 0, none⟩) (by first | omega | (simp <;> omega))).trans (by first | exact c9_0 | simp [go_sem, c9_0, l9_0a, l9_0b, l9_0c, l9_0d])
  have c10_1 : w10.cell? ⟨w.heap.size, 1, none⟩ = some (.int .i64 p.2) := (hb10.cell (p := ⟨w.heap.size, 1, none⟩) (by first | omega | (simp <;> omega))).trans (by first | exact c9_1 | simp [go_sem, c9_1, l9_0a, l9_0b, l9_0c, l9_0d])
  have l10_0a : w.heap.size < w10.heap.size := World.block_lt_of_cell? w10 _ c10_0
  have l10_0b : w.heap.size < w10.heap.size + 1 := Nat.lt_succ_of_lt l10_0a
  have l10_0c : w.heap.size < w10.heap.size + 1 + 1 := Nat.lt_succ_of_lt l10_0b
  have l10_0d : w.heap.size < w10.heap.size + 1 + 1 + 1 := Nat.lt_succ_of_lt l10_0c
  have hkw2_10 : Below w2.heap.size w2 w10 := Below.trans (by first | exact hkw2_9 | ((repeat' (first | exact hkw2_9 | refine Below.setCell ?_ ?_ _ | refine Below.alloc ?_ ?_ _ | refine Below.drew ?_)) <;> (first | omega | (simp <;> omega)))) (hb10.mono (by first | omega | (simp <;> omega)))
  have hkw3_10 : Below w3.heap.size w3 w10 := Below.trans (by first | exact hkw3_9 | ((repeat' (first | exact hkw3_9 | refine Below.setCell ?_ ?_ _ | refine Below.alloc ?_ ?_ _ | refine Below.drew ?_)) <;> (first | omega | (simp <;> omega)))) (hb10.mono (by first | omega | (simp <;> omega)))
  have hkw4_10 : Below w4.heap.size w4 w10 := Below.trans (by first | exact hkw4_9 | ((repeat' (first | exact hkw4_9 | refine Below.setCell ?_ ?_ _ | refine Below.alloc ?_ ?_ _ | refine Below.drew ?_)) <;> (first | omega | (simp <;> omega)))) (hb10.mono (by first | omega | (simp <;> omega)))
  have hkw5_10 : Below w5.heap.size w5 w10 := Below.trans (by first | exact hkw5_9 | ((repeat' (first | exact hkw5_9 | refine Below.setCell ?_ ?_ _ | refine Below.alloc ?_ ?_ _ | refine Below.drew ?_)) <;> (first | omega | (simp <;> omega)))) (hb10.mono (by first | omega | (simp <;> omega)))
  have hkw8_10 : Below w8.heap.size w8 w10 := Below.trans (by first | exact hkw8_9 | ((repeat' (first | exact hkw8_9 | refine Below.setCell ?_ ?_ _ | refine Below.alloc ?_ ?_ _ | refine Below.drew ?_)) <;> (first | omega | (simp <;> omega)))) (hb10.mono (by first | omega | (simp <;> omega)))
  clear c9_0 c9_1 l9_0a l9_0b l9_0c l9_0d hkw2_9 hkw3_9 hkw4_9 hkw5_9 hkw8_9 hB9 hb10
  go_wp2_with fail
  refine (roots_ok A l c HT.out _ ((hl.below (show Below w.heap.size w _ from (by first | exact hB10 | ((repeat' (first | exact hB10 | refine Below.setCell ?_ ?_ _ | refine Below.alloc ?_ ?_ _ | refine Below.drew ?_)) <;> (first | omega | (simp <;> omega)))))).more (show w.heap.size ≤ _ from by first | omega | (simp <;> omega)))).mono ?_
  rintro e w11 ⟨v11, rfl, hown11, hb11⟩
  have hB11 : Below w.heap.size w w11 := Below.trans (by first | exact hB10 | ((repeat' (first | exact hB10 | refine Below.setCell ?_ ?_ _ | refine Below.alloc ?_ ?_ _ | refine Below.drew ?_)) <;> (first | omega | (simp <;> omega)))) (hb11.mono (by first | omega | (simp <;> omega)))
  have hs11 : w.heap.size ≤ w11.heap.size := hB11.size
  have ht11 := hb11.size
  try simp only [World.size_alloc, World.size_setCell] at ht11
  have c11_0 : w11.cell? ⟨w.heap.size, 0, none⟩ = some (.int .i64 p.1) := (hb11.cell (p := ⟨w.heap.size, 0, none⟩) (by first | omega | (simp <;> omega))).trans (by first | exact c10_0 | simp [go_sem, c10_0, l10_0a, l10_0b, l10_0c, l10_0d])
  have c11_1 : w11.cell? ⟨w.heap.size, 1, none⟩ = some (.int .i64 p.2) := (hb11.cell (p := ⟨w.heap.size, 1, none⟩) (by first | omega | (simp <;> omega))).trans (by first | exact c10_1 | simp [go_sem, c10_1, l10_0a, l10_0b, l10_0c, l10_0d])
  have l11_0a : w.heap.size < w11.heap.size := World.block_lt_of_cell? w11 _ c11_0
  have l11_0b : w.heap.size < w11.heap.size + 1 := Nat.lt_succ_of_lt l11_0a
  have l11_0c : w.heap.size < w11.heap.size + 1 + 1 := Nat.lt_succ_of_lt l11_0b
  have l11_0d : w.heap.size < w11.heap.size + 1 + 1 + 1 := Nat.lt_succ_of_lt l11_0c
  have hkw2_11 : Below w2.heap.size w2 w11 := Below.trans (by first | exact hkw2_10 | ((repeat' (first | exact hkw2_10 | refine Below.setCell ?_ ?_ _ | refine Below.alloc ?_ ?_ _ | refine Below.drew ?_)) <;> (first | omega | (simp <;> omega)))) (hb11.mono (by first | omega | (simp <;> omega)))
  have hkw3_11 : Below w3.heap.size w3 w11 := Below.trans (by first | exact hkw3_10 | ((repeat' (first | exact hkw3_10 | refine Below.setCell ?_ ?_ _ | refine Below.alloc ?_ ?_ _ | refine Below.drew ?_)) <;> (first | omega | (simp <;> omega)))) (hb11.mono (by first | omega | (simp <;> omega)))
  have hkw4_11 : Below w4.heap.size w4 w11 := Below.trans (by first | exact hkw4_10 | ((repeat' (first | exact hkw4_10 | refine Below.setCell ?_ ?_ _ | refine Below.alloc ?_ ?_ _ | refine Below.drew ?_)) <;> (first | omega | (simp <;> omega)))) (hb11.mono (by first | omega | (simp <;> omega)))
  have hkw5_11 : Below w5.heap.size w5 w11 := Below.trans (by first | exact hkw5_10 | ((repeat' (first | exact hkw5_10 | refine Below.setCell ?_ ?_ _ | refine Below.alloc ?_ ?_ _ | refine Below.drew ?_)) <;> (first | omega | (simp <;> omega)))) (hb11.mono (by first | omega | (simp <;> omega)))
  have hkw8_11 : Below w8.heap.size w8 w11 := Below.trans (by first | exact hkw8_10 | ((repeat' (first | exact hkw8_10 | refine Below.setCell ?_ ?_ _ | refine Below.alloc ?_ ?_ _ | refine Below.drew ?_)) <;> (first | omega | (simp <;> omega)))) (hb11.mono (by first | omega | (simp <;> omega)))
  clear c10_0 c10_1 l10_0a l10_0b l10_0c l10_0d hkw2_10 hkw3_10 hkw4_10 hkw5_10 hkw8_10 hB10 hb11
  obtain ⟨A11, c11, rfl, hr11⟩ := hown11.form
  clear hown11
  go_wp2_with fail
  refine (error_nil0 _ (by exact HG.out.belowB (show Below w.heap.size w _ from (by first | exact hB11 | ((repeat' (first | exact hB11 | refine Below.setCell ?_ ?_ _ | refine Below.alloc ?_ ?_ _ | refine Below.drew ?_)) <;> (first | omega | (simp <;> omega))))) HG.out.lt)).mono ?_
  rintro e w12 ⟨rfl, hb12⟩
  have hB12 : Below w.heap.size w w12 := Below.trans (by first | exact hB11 | ((repeat' (first | exact hB11 | refine Below.setCell ?_ ?_ _ | refine Below.alloc ?_ ?_ _ | refine Below.drew ?_)) <;> (first | omega | (simp <;> omega)))) (hb12.mono (by first | omega | (simp <;> omega)))
  have hs12 : w.heap.size ≤ w12.heap.size := hB12.size
  have ht12 := hb12.size
  try simp only [World.size_alloc, World.size_setCell] at ht12
  have c12_0 : w12.cell? ⟨w.heap.size, 0, none⟩ = some (.int .i64 p.1) := (hb12.cell (p := ⟨w.heap.size, 0, none⟩) (by first | omega | (simp <;> omega))).trans (by first | exact c11_0 | simp [go_sem, c11_0, l11_0a, l11_0b, l11_0c, l11_0d])
  have c12_1 : w12.cell? ⟨w.heap.size, 1, none⟩ = some (.int .i64 p.2) := (hb12.cell (p := ⟨w.heap.size, 1, none⟩) (by first | omega | (simp <;> omega))).trans (by first | exact c11_1 | simp [go_sem, c11_1, l11_0a, l11_0b, l11_0c, l11_0d])
  have l12_0a : w.heap.size < w12.heap.size := World.block_lt_of_cell? w12 _ c12_0
  have l12_0b : w.heap.size < w12.heap.size + 1 := Nat.lt_succ_of_lt l12_0a
  have l12_0c : w.heap.size < w12.heap.size + 1 + 1 := Nat.lt_succ_of_lt l12_0b
  have l12_0d : w.heap.size < w12.heap.size + 1 + 1 + 1 := Nat.lt_succ_of_lt l12_0c
  have hkw2_12 : Below w2.heap.size w2 w12 := Below.trans (by first | exact hkw2_11 | ((repeat' (first | exact hkw2_11 | refine Below.setCell ?_ ?_ _ | refine Below.alloc ?_ ?_ _ | refine Below.drew ?_)) <;> (first | omega | (simp <;> omega)))) (hb12.mono (by first | omega | (simp <;> omega)))
  have hkw3_12 : Below w3.heap.size w3 w12 := Below.trans (by first | exact hkw3_11 | ((repeat' (first | exact hkw3_11 | refine Below.setCell ?_ ?_ _ | refine Below.alloc ?_ ?_ _ | refine Below.drew ?_)) <;> (first | omega | (simp <;> omega)))) (hb12.mono (by first | omega | (simp <;> omega)))
  have hkw4_12 : Below w4.heap.size w4 w12 := Below.trans (by first | exact hkw4_11 | ((repeat' (first | exact hkw4_11 | refine Below.setCell ?_ ?_ _ | refine Below.alloc ?_ ?_ _ | refine Below.drew ?_)) <;> (first | omega | (simp <;> omega)))) (hb12.mono (by first | omega | (simp <;> omega)))
  have hkw5_12 : Below w5.heap.size w5 w12 := Below.trans (by first | exact hkw5_11 | ((repeat' (first | exact hkw5_11 | refine Below.setCell ?_ ?_ _ | refine Below.alloc ?_ ?_ _ | refine Below.drew ?_)) <;> (first | omega | (simp <;> omega)))) (hb12.mono (by first | omega | (simp <;> omega)))
  have hkw8_12 : Below w8.heap.size w8 w12 := Below.trans (by first | exact hkw8_11 | ((repeat' (first | exact hkw8_11 | refine Below.setCell ?_ ?_ _ | refine Below.alloc ?_ ?_ _ | refine Below.drew ?_)) <;> (first | omega | (simp <;> omega)))) (hb12.mono (by first | omega | (simp <;> omega)))
  have hkw11_12 : Below w11.heap.size w11 w12 := Below.trans (by first | exact Below.refl _ _ | ((repeat' (first | exact Below.refl _ _ | refine Below.setCell ?_ ?_ _ | refine Below.alloc ?_ ?_ _ | refine Below.drew ?_)) <;> (first | omega | (simp <;> omega)))) (hb12.mono (by first | omega | (simp <;> omega)))
  clear c11_0 c11_1 l11_0a l11_0b l11_0c l11_0d hkw2_11 hkw3_11 hkw4_11 hkw5_11 hkw8_11 hB11 hb12
  go_wp2_with fail
  refine (prefixes_same A11 A4 (tops l) (tops l) _ _ c11 c4 rfl rfl hTL.out rfl _ ((hr11.below (show Below w11.heap.size w11 _ from (by first | exact hkw11_12 | ((repeat' (first | exact hkw11_12 | refine Below.setCell ?_ ?_ _ | refine Below.alloc ?_ ?_ _ | refine Below.drew ?_)) <;> (first | omega | (simp <;> omega)))))).more (show w11.heap.size ≤ _ from by first | omega | (simp <;> omega))) ((hr4.below (show Below w4.heap.size w4 _ from (by first | exact hkw4_12 | ((repeat' (first | exact hkw4_12 | refine Below.setCell ?_ ?_ _ | refine Below.alloc ?_ ?_ _ | refine Below.drew ?_)) <;> (first | omega | (simp <;> omega)))))).more (show w4.heap.size ≤ _ from by first | omega | (simp <;> omega)))).mono ?_
  rintro e w13 ⟨rfl, hb13⟩
  have hB13 : Below w.heap.size w w13 := Below.trans (by first | exact hB12 | ((repeat' (first | exact hB12 | refine Below.setCell ?_ ?_ _ | refine Below.alloc ?_ ?_ _ | refine Below.drew ?_)) <;> (first | omega | (simp <;> omega)))) (hb13.mono (by first | omega | (simp <;> omega)))
  have hs13 : w.heap.size ≤ w13.heap.size := hB13.size
  have ht13 := hb13.size
  try simp only [World.size_alloc, World.size_setCell] at ht13
  have c13_0 : w13.cell? ⟨w.heap.size, 0, none⟩ = some (.int .i64 p.1) := (hb13.cell (p := ⟨w.heap.size, 0, none⟩) (by first | omega | (simp <;> omega))).trans (by first | exact c12_0 | simp [go_sem, c12_0, l12_0a, l12_0b, l12_0c, l12_0d])
  have c13_1 : w13.cell? ⟨w.heap.size, 1, none⟩ = some (.int .i64 p.2) := (hb13.cell (p := ⟨w.heap.size, 1, none⟩) (by first | omega | (simp <;> omega))).trans (by first | exact c12_1 | simp [go_sem, c12_1, l12_0a, l12_0b, l12_0c, l12_0d])
  have l13_0a : w.heap.size < w13.heap.size := World.block_lt_of_cell? w13 _ c13_0
  have l13_0b : w.heap.size < w13.heap.size + 1 := Nat.lt_succ_of_lt l13_0a
  have l13_0c : w.heap.size < w13.heap.size + 1 + 1 := Nat.lt_succ_of_lt l13_0b
  have l13_0d : w.heap.size < w13.heap.size + 1 + 1 + 1 := Nat.lt_succ_of_lt l13_0c
  have hkw2_13 : Below w2.heap.size w2 w13 := Below.trans (by first | exact hkw2_12 | ((repeat' (first | exact hkw2_12 | refine Below.setCell ?_ ?_ _ | refine Below.alloc ?_ ?_ _ | refine Below.drew ?_)) <;> (first | omega | (simp <;> omega)))) (hb13.mono (by first | omega | (simp <;> omega)))
  have hkw3_13 : Below w3.heap.size w3 w13 := Below.trans (by first | exact hkw3_12 | ((repeat' (first | exact hkw3_12 | refine Below.setCell ?_ ?_ _ | refine Below.alloc ?_ ?_ _ | refine Below.drew ?_)) <;> (first | omega | (simp <;> omega)))) (hb13.mono (by first | omega | (simp <;> omega)))
  have hkw4_13 : Below w4.heap.size w4 w13 := Below.trans (by first | exact hkw4_12 | ((repeat' (first | exact hkw4_12 | refine Below.setCell ?_ ?_ _ | refine Below.alloc ?_ ?_ _ | refine Below.drew ?_)) <;> (first | omega | (simp <;> omega)))) (hb13.mono (by first | omega | (simp <;> omega)))
  have hkw5_13 : Below w5.heap.size w5 w13 := Below.trans (by first | exact hkw5_12 | ((repeat' (first | exact hkw5_12 | refine Below.setCell ?_ ?_ _ | refine Below.alloc ?_ ?_ _ | refine Below.drew ?_)) <;> (first | omega | (simp <;> omega)))) (hb13.mono (by first | omega | (simp <;> omega)))
  have hkw8_13 : Below w8.heap.size w8 w13 := Below.trans (by first | exact hkw8_12 | ((repeat' (first | exact hkw8_12 | refine Below.setCell ?_ ?_ _ | refine Below.alloc ?_ ?_ _ | refine Below.drew ?_)) <;> (first | omega | (simp <;> omega)))) (hb13.mono (by first | omega | (simp <;> omega)))
  have hkw11_13 : Below w11.heap.size w11 w13 := Below.trans (by first | exact hkw11_12 | ((repeat' (first | exact hkw11_12 | refine Below.setCell ?_ ?_ _ | refine Below.alloc ?_ ?_ _ | refine Below.drew ?_)) <;> (first | omega | (simp <;> omega)))) (hb13.mono (by first | omega | (simp <;> omega)))
  clear c12_0 c12_1 l12_0a l12_0b l12_0c l12_0d hkw2_12 hkw3_12 hkw4_12 hkw5_12 hkw8_12 hkw11_12 hB12 hb13
  go_wp2
  go_ret
  exact ⟨rfl, (by first | exact hB13 | ((repeat' (first | exact hB13 | refine Below.setCell ?_ ?_ _ | refine Below.alloc ?_ ?_ _ | refine Below.drew ?_)) <;> (first | omega | (simp <;> omega))))⟩
end Go.Proofs.YtcgeagobndhpjaaDoor
