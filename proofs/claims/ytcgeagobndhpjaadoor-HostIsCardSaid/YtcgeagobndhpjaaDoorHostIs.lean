/- The law HostIs: the walk of its own text, by the contracts of package host and of the references. Any prefix, any numbers. -/
import Derived.Test.YtcgeagobndhpjaaDoorRefShare
import Derived.Test.YtcgeagobndhpjaaDoorHost
import Derived.Test.YtcgeagobndhpjaaDoorLaw
namespace Go.Proofs.YtcgeagobndhpjaaDoor
set_option linter.unusedVariables false
set_option linter.unusedSimpArgs false
open Go.RowKit

theorem next_yes (a n : Int) (A : Option Addr) (used : List Int) (c : Nat) (hf : usedFault a n used = 0) (hx : nextOf a n used ≤ uHi a n) (w : World) (hl : Rd w w.heap.size A (used.map (Value.int .i64))) :
    Calls Tryd.prog 21 #[.agg #[.int .i64 a, .int .i64 n], .slice A used.length c] w fun e w' => e = .returned (.tuple #[.int .i64 (nextOf a n used), .nilIface]) ∧ Below w.heap.size w w' :=
  (next_any a n A used c hf w hl).mono fun e w' h => ⟨by rw [h.2, if_pos hx], h.1⟩
theorem next_no (a n : Int) (A : Option Addr) (used : List Int) (c : Nat) (hf : usedFault a n used = 0) (hx : ¬ nextOf a n used ≤ uHi a n) (w : World) (hl : Rd w w.heap.size A (used.map (Value.int .i64))) :
    Calls Tryd.prog 21 #[.agg #[.int .i64 a, .int .i64 n], .slice A used.length c] w fun e w' => e = .returned (.tuple #[.int .i64 0, .iface 25 (.int .i64 4)]) ∧ Below w.heap.size w w' :=
  (next_any a n A used c hf w hl).mono fun e w' h => ⟨by rw [h.2, if_neg hx], h.1⟩
theorem nextOf_yes (a n : Int) (A : Option Addr) (used : List Int) (c : Nat) (hc : chk a n = 0) (hm : used.length ≤ maxLen) (hx : nextOf a n used ≤ uHi a n) (w : World) (hl : Rd w w.heap.size A (used.map (Value.int .i64))) :
    Calls Tryd.prog 20 #[.agg #[.int .i64 a, .int .i64 n], .slice A used.length c] w fun e w' => e = .returned (.tuple #[.int .i64 (nextOf a n used), .bool true]) ∧ Below w.heap.size w w' :=
  (nextOf_any a n A used c hc hm w hl).mono fun e w' h => ⟨by rw [h.1]; unfold NextV; rw [if_pos hx], h.2⟩
theorem nextOf_no (a n : Int) (A : Option Addr) (used : List Int) (c : Nat) (hc : chk a n = 0) (hm : used.length ≤ maxLen) (hx : ¬ nextOf a n used ≤ uHi a n) (w : World) (hl : Rd w w.heap.size A (used.map (Value.int .i64))) :
    Calls Tryd.prog 20 #[.agg #[.int .i64 a, .int .i64 n], .slice A used.length c] w fun e w' => e = .returned (.tuple #[.int .i64 0, .bool false]) ∧ Below w.heap.size w w' :=
  (nextOf_any a n A used c hc hm w hl).mono fun e w' h => ⟨by rw [h.1]; unfold NextV; rw [if_neg hx], h.2⟩
theorem share_ok' (a n : Int) (A : Option Addr) (used : List Int) (c : Nat) (hf : usedFault a n used = 0) (w : World) (hl : Rd w w.heap.size A (used.map (Value.int .i64))) :
    Calls Tryd.prog 19 #[.agg #[.int .i64 a, .int .i64 n], .slice A used.length c] w fun e w' => e = .returned (.tuple #[.int .i64 (cntU a n used), .int .i64 (uHi a n - uLo a n + 1), .nilIface]) ∧ Below w.heap.size w w' := share_ok a n A used c hf w hl

set_option maxRecDepth 100000 in
set_option maxHeartbeats 8000000 in
theorem hostIs_1 (a n : Int) (A : Option Addr) (used : List Int) (c : Nat) (hm : used.length ≤ maxLen) (hcap : used.length ≤ c) (hc : chk a n ≠ 0) (w : World) (hg : ErrVar w) (hl : Rd w w.heap.size A (used.map (Value.int .i64))) :
    Calls Tryd.prog 3 #[.agg #[.int .i64 a, .int .i64 n], .slice A used.length c] w fun e w' => e = .returned (.bool true) ∧ Below w.heap.size w w' := by
  have HG := Lib.hid hg
  clear hg
  have hz : (chk a n == 0) = false := by simpa using hc
  have hz' : (chk a n != 0) = true := by simpa using hc
  have HU := Lib.hid (usedFault_chk (used := used) hc)
  have HU2 := Lib.hid (show usedFault a n used ≠ 0 by rw [usedFault_chk hc]; exact hc)
  have HC := Lib.hid hc
  clear hc
  go_enter Tryd.func3, Tryd.ntmps3
  go_wp2_with fail
  refine (fault_any a n _).mono ?_
  rintro e w1 ⟨rfl, hb1⟩
  have hB1 : Below w.heap.size w w1 := Below.trans (by first | exact Below.refl _ _ | ((repeat' (first | exact Below.refl _ _ | refine Below.setCell ?_ ?_ _ | refine Below.alloc ?_ ?_ _ | refine Below.drew ?_)) <;> (first | omega | (simp <;> omega)))) (hb1.mono (by first | omega | (simp <;> omega)))
  have hs1 : w.heap.size ≤ w1.heap.size := hB1.size
  have ht1 := hb1.size
  try simp only [World.size_alloc, World.size_setCell] at ht1
  have c1_0 : w1.cell? ⟨w.heap.size, 0, none⟩ = some (.int .i64 a) := (hb1.cell (p := ⟨w.heap.size, 0, none⟩) (by first | omega | (simp <;> omega))).trans (by first | (simp; done) | simp [go_sem])
  have c1_1 : w1.cell? ⟨w.heap.size, 1, none⟩ = some (.int .i64 n) := (hb1.cell (p := ⟨w.heap.size, 1, none⟩) (by first | omega | (simp <;> omega))).trans (by first | (simp; done) | simp [go_sem])
  have l1_0a : w.heap.size < w1.heap.size := World.block_lt_of_cell? w1 _ c1_0
  have l1_0b : w.heap.size < w1.heap.size + 1 := Nat.lt_succ_of_lt l1_0a
  have l1_0c : w.heap.size < w1.heap.size + 1 + 1 := Nat.lt_succ_of_lt l1_0b
  have l1_0d : w.heap.size < w1.heap.size + 1 + 1 + 1 := Nat.lt_succ_of_lt l1_0c
  clear hb1
  go_wp2_with fail
  refine (usable_bad a n HC.out _).mono ?_
  rintro e w2 ⟨rfl, hb2⟩
  have hB2 : Below w.heap.size w w2 := Below.trans (by first | exact hB1 | ((repeat' (first | exact hB1 | refine Below.setCell ?_ ?_ _ | refine Below.alloc ?_ ?_ _ | refine Below.drew ?_)) <;> (first | omega | (simp <;> omega)))) (hb2.mono (by first | omega | (simp <;> omega)))
  have hs2 : w.heap.size ≤ w2.heap.size := hB2.size
  have ht2 := hb2.size
  try simp only [World.size_alloc, World.size_setCell] at ht2
  have c2_0 : w2.cell? ⟨w.heap.size, 0, none⟩ = some (.int .i64 a) := (hb2.cell (p := ⟨w.heap.size, 0, none⟩) (by first | omega | (simp <;> omega))).trans (by first | exact c1_0 | simp [go_sem, c1_0, l1_0a, l1_0b, l1_0c, l1_0d])
  have c2_1 : w2.cell? ⟨w.heap.size, 1, none⟩ = some (.int .i64 n) := (hb2.cell (p := ⟨w.heap.size, 1, none⟩) (by first | omega | (simp <;> omega))).trans (by first | exact c1_1 | simp [go_sem, c1_1, l1_0a, l1_0b, l1_0c, l1_0d])
  have c2_2 : w2.cell? ⟨w1.heap.size, 0, none⟩ = some (.int .i64 0) := (hb2.cell (p := ⟨w1.heap.size, 0, none⟩) (by first | omega | (simp <;> omega))).trans (by first | (simp; done) | simp [go_sem, l1_0a, l1_0b, l1_0c, l1_0d, c1_0, c1_1])
  have c2_3 : w2.cell? ⟨w1.heap.size, 1, none⟩ = some (.int .i64 0) := (hb2.cell (p := ⟨w1.heap.size, 1, none⟩) (by first | omega | (simp <;> omega))).trans (by first | (simp; done) | simp [go_sem, l1_0a, l1_0b, l1_0c, l1_0d, c1_0, c1_1])
  have l2_0a : w.heap.size < w2.heap.size := World.block_lt_of_cell? w2 _ c2_0
  have l2_0b : w.heap.size < w2.heap.size + 1 := Nat.lt_succ_of_lt l2_0a
  have l2_0c : w.heap.size < w2.heap.size + 1 + 1 := Nat.lt_succ_of_lt l2_0b
  have l2_0d : w.heap.size < w2.heap.size + 1 + 1 + 1 := Nat.lt_succ_of_lt l2_0c
  have l2_1a : w1.heap.size < w2.heap.size := World.block_lt_of_cell? w2 _ c2_2
  have l2_1b : w1.heap.size < w2.heap.size + 1 := Nat.lt_succ_of_lt l2_1a
  have l2_1c : w1.heap.size < w2.heap.size + 1 + 1 := Nat.lt_succ_of_lt l2_1b
  have l2_1d : w1.heap.size < w2.heap.size + 1 + 1 + 1 := Nat.lt_succ_of_lt l2_1c
  clear c1_0 c1_1 l1_0a l1_0b l1_0c l1_0d hB1 hb2
  go_wp2_with fail
  refine (error_same _ HC.out _ (by exact HG.out.belowB (show Below w.heap.size w _ from (by first | exact hB2 | ((repeat' (first | exact hB2 | refine Below.setCell ?_ ?_ _ | refine Below.alloc ?_ ?_ _ | refine Below.drew ?_)) <;> (first | omega | (simp <;> omega))))) HG.out.lt)).mono ?_
  rintro e w3 ⟨rfl, hb3⟩
  have hB3 : Below w.heap.size w w3 := Below.trans (by first | exact hB2 | ((repeat' (first | exact hB2 | refine Below.setCell ?_ ?_ _ | refine Below.alloc ?_ ?_ _ | refine Below.drew ?_)) <;> (first | omega | (simp <;> omega)))) (hb3.mono (by first | omega | (simp <;> omega)))
  have hs3 : w.heap.size ≤ w3.heap.size := hB3.size
  have ht3 := hb3.size
  try simp only [World.size_alloc, World.size_setCell] at ht3
  have c3_0 : w3.cell? ⟨w.heap.size, 0, none⟩ = some (.int .i64 a) := (hb3.cell (p := ⟨w.heap.size, 0, none⟩) (by first | omega | (simp <;> omega))).trans (by first | exact c2_0 | simp [go_sem, c2_0, l2_0a, l2_0b, l2_0c, l2_0d, l2_1a, l2_1b, l2_1c, l2_1d])
  have c3_1 : w3.cell? ⟨w.heap.size, 1, none⟩ = some (.int .i64 n) := (hb3.cell (p := ⟨w.heap.size, 1, none⟩) (by first | omega | (simp <;> omega))).trans (by first | exact c2_1 | simp [go_sem, c2_1, l2_0a, l2_0b, l2_0c, l2_0d, l2_1a, l2_1b, l2_1c, l2_1d])
  have c3_2 : w3.cell? ⟨w1.heap.size, 0, none⟩ = some (.int .i64 0) := (hb3.cell (p := ⟨w1.heap.size, 0, none⟩) (by first | omega | (simp <;> omega))).trans (by first | exact c2_2 | simp [go_sem, c2_2, l2_0a, l2_0b, l2_0c, l2_0d, l2_1a, l2_1b, l2_1c, l2_1d])
  have c3_3 : w3.cell? ⟨w1.heap.size, 1, none⟩ = some (.int .i64 0) := (hb3.cell (p := ⟨w1.heap.size, 1, none⟩) (by first | omega | (simp <;> omega))).trans (by first | exact c2_3 | simp [go_sem, c2_3, l2_0a, l2_0b, l2_0c, l2_0d, l2_1a, l2_1b, l2_1c, l2_1d])
  have c3_4 : w3.cell? ⟨w2.heap.size, 0, none⟩ = some (.int .i64 0) := (hb3.cell (p := ⟨w2.heap.size, 0, none⟩) (by first | omega | (simp <;> omega))).trans (by first | (simp; done) | simp [go_sem, l2_0a, l2_0b, l2_0c, l2_0d, l2_1a, l2_1b, l2_1c, l2_1d, c2_0, c2_1, c2_2, c2_3])
  have c3_5 : w3.cell? ⟨w2.heap.size, 1, none⟩ = some (.int .i64 0) := (hb3.cell (p := ⟨w2.heap.size, 1, none⟩) (by first | omega | (simp <;> omega))).trans (by first | (simp; done) | simp [go_sem, l2_0a, l2_0b, l2_0c, l2_0d, l2_1a, l2_1b, l2_1c, l2_1d, c2_0, c2_1, c2_2, c2_3])
  have l3_0a : w.heap.size < w3.heap.size := World.block_lt_of_cell? w3 _ c3_0
  have l3_0b : w.heap.size < w3.heap.size + 1 := Nat.lt_succ_of_lt l3_0a
  have l3_0c : w.heap.size < w3.heap.size + 1 + 1 := Nat.lt_succ_of_lt l3_0b
  have l3_0d : w.heap.size < w3.heap.size + 1 + 1 + 1 := Nat.lt_succ_of_lt l3_0c
  have l3_1a : w1.heap.size < w3.heap.size := World.block_lt_of_cell? w3 _ c3_2
  have l3_1b : w1.heap.size < w3.heap.size + 1 := Nat.lt_succ_of_lt l3_1a
  have l3_1c : w1.heap.size < w3.heap.size + 1 + 1 := Nat.lt_succ_of_lt l3_1b
  have l3_1d : w1.heap.size < w3.heap.size + 1 + 1 + 1 := Nat.lt_succ_of_lt l3_1c
  have l3_2a : w2.heap.size < w3.heap.size := World.block_lt_of_cell? w3 _ c3_4
  have l3_2b : w2.heap.size < w3.heap.size + 1 := Nat.lt_succ_of_lt l3_2a
  have l3_2c : w2.heap.size < w3.heap.size + 1 + 1 := Nat.lt_succ_of_lt l3_2b
  have l3_2d : w2.heap.size < w3.heap.size + 1 + 1 + 1 := Nat.lt_succ_of_lt l3_2c
  clear c2_0 c2_1 c2_2 c2_3 l2_0a l2_0b l2_0c l2_0d l2_1a l2_1b l2_1c l2_1d hB2 hb3
  go_wp2_with fail
  refine (usedFault_any a n A used c hm _ ((hl.below (show Below w.heap.size w _ from (by first | exact hB3 | ((repeat' (first | exact hB3 | refine Below.setCell ?_ ?_ _ | refine Below.alloc ?_ ?_ _ | refine Below.drew ?_)) <;> (first | omega | (simp <;> omega)))))).more (show w.heap.size ≤ _ from by first | omega | (simp <;> omega)))).mono ?_
  rintro e w4 ⟨rfl, hb4⟩
  have hB4 : Below w.heap.size w w4 := Below.trans (by first | exact hB3 | ((repeat' (first | exact hB3 | refine Below.setCell ?_ ?_ _ | refine Below.alloc ?_ ?_ _ | refine Below.drew ?_)) <;> (first | omega | (simp <;> omega)))) (hb4.mono (by first | omega | (simp <;> omega)))
  have hs4 : w.heap.size ≤ w4.heap.size := hB4.size
  have ht4 := hb4.size
  try simp only [World.size_alloc, World.size_setCell] at ht4
  have c4_0 : w4.cell? ⟨w.heap.size, 0, none⟩ = some (.int .i64 a) := (hb4.cell (p := ⟨w.heap.size, 0, none⟩) (by first | omega | (simp <;> omega))).trans (by first | exact c3_0 | simp [go_sem, c3_0, l3_0a, l3_0b, l3_0c, l3_0d, l3_1a, l3_1b, l3_1c, l3_1d, l3_2a, l3_2b, l3_2c, l3_2d])
  have c4_1 : w4.cell? ⟨w.heap.size, 1, none⟩ = some (.int .i64 n) := (hb4.cell (p := ⟨w.heap.size, 1, none⟩) (by first | omega | (simp <;> omega))).trans (by first | exact c3_1 | simp [go_sem, c3_1, l3_0a, l3_0b, l3_0c, l3_0d, l3_1a, l3_1b, l3_1c, l3_1d, l3_2a, l3_2b, l3_2c, l3_2d])
  have c4_2 : w4.cell? ⟨w1.heap.size, 0, none⟩ = some (.int .i64 0) := (hb4.cell (p := ⟨w1.heap.size, 0, none⟩) (by first | omega | (simp <;> omega))).trans (by first | exact c3_2 | simp [go_sem, c3_2, l3_0a, l3_0b, l3_0c, l3_0d, l3_1a, l3_1b, l3_1c, l3_1d, l3_2a, l3_2b, l3_2c, l3_2d])
  have c4_3 : w4.cell? ⟨w1.heap.size, 1, none⟩ = some (.int .i64 0) := (hb4.cell (p := ⟨w1.heap.size, 1, none⟩) (by first | omega | (simp <;> omega))).trans (by first | exact c3_3 | simp [go_sem, c3_3, l3_0a, l3_0b, l3_0c, l3_0d, l3_1a, l3_1b, l3_1c, l3_1d, l3_2a, l3_2b, l3_2c, l3_2d])
  have c4_4 : w4.cell? ⟨w2.heap.size, 0, none⟩ = some (.int .i64 0) := (hb4.cell (p := ⟨w2.heap.size, 0, none⟩) (by first | omega | (simp <;> omega))).trans (by first | exact c3_4 | simp [go_sem, c3_4, l3_0a, l3_0b, l3_0c, l3_0d, l3_1a, l3_1b, l3_1c, l3_1d, l3_2a, l3_2b, l3_2c, l3_2d])
  have c4_5 : w4.cell? ⟨w2.heap.size, 1, none⟩ = some (.int .i64 0) := (hb4.cell (p := ⟨w2.heap.size, 1, none⟩) (by first | omega | (simp <;> omega))).trans (by first | exact c3_5 | simp [go_sem, c3_5, l3_0a, l3_0b, l3_0c, l3_0d, l3_1a, l3_1b, l3_1c, l3_1d, l3_2a, l3_2b, l3_2c, l3_2d])
  have l4_0a : w.heap.size < w4.heap.size := World.block_lt_of_cell? w4 _ c4_0
  have l4_0b : w.heap.size < w4.heap.size + 1 := Nat.lt_succ_of_lt l4_0a
  have l4_0c : w.heap.size < w4.heap.size + 1 + 1 := Nat.lt_succ_of_lt l4_0b
  have l4_0d : w.heap.size < w4.heap.size + 1 + 1 + 1 := Nat.lt_succ_of_lt l4_0c
  have l4_1a : w1.heap.size < w4.heap.size := World.block_lt_of_cell? w4 _ c4_2
  have l4_1b : w1.heap.size < w4.heap.size + 1 := Nat.lt_succ_of_lt l4_1a
  have l4_1c : w1.heap.size < w4.heap.size + 1 + 1 := Nat.lt_succ_of_lt l4_1b
  have l4_1d : w1.heap.size < w4.heap.size + 1 + 1 + 1 := Nat.lt_succ_of_lt l4_1c
  have l4_2a : w2.heap.size < w4.heap.size := World.block_lt_of_cell? w4 _ c4_4
  have l4_2b : w2.heap.size < w4.heap.size + 1 := Nat.lt_succ_of_lt l4_2a
  have l4_2c : w2.heap.size < w4.heap.size + 1 + 1 := Nat.lt_succ_of_lt l4_2b
  have l4_2d : w2.heap.size < w4.heap.size + 1 + 1 + 1 := Nat.lt_succ_of_lt l4_2c
  clear c3_0 c3_1 c3_2 c3_3 c3_4 c3_5 l3_0a l3_0b l3_0c l3_0d l3_1a l3_1b l3_1c l3_1d l3_2a l3_2b l3_2c l3_2d hB3 hb4
  rw [HU.out]
  go_wp2_with fail
  refine (share_bad a n A used c HU2.out hm _ ((hl.below (show Below w.heap.size w _ from (by first | exact hB4 | ((repeat' (first | exact hB4 | refine Below.setCell ?_ ?_ _ | refine Below.alloc ?_ ?_ _ | refine Below.drew ?_)) <;> (first | omega | (simp <;> omega)))))).more (show w.heap.size ≤ _ from by first | omega | (simp <;> omega)))).mono ?_
  rintro e w5 ⟨rfl, hb5⟩
  have hB5 : Below w.heap.size w w5 := Below.trans (by first | exact hB4 | ((repeat' (first | exact hB4 | refine Below.setCell ?_ ?_ _ | refine Below.alloc ?_ ?_ _ | refine Below.drew ?_)) <;> (first | omega | (simp <;> omega)))) (hb5.mono (by first | omega | (simp <;> omega)))
  have hs5 : w.heap.size ≤ w5.heap.size := hB5.size
  have ht5 := hb5.size
  try simp only [World.size_alloc, World.size_setCell] at ht5
  have c5_0 : w5.cell? ⟨w.heap.size, 0, none⟩ = some (.int .i64 a) := (hb5.cell (p := ⟨w.heap.size, 0, none⟩) (by first | omega | (simp <;> omega))).trans (by first | exact c4_0 | simp [go_sem, c4_0, l4_0a, l4_0b, l4_0c, l4_0d, l4_1a, l4_1b, l4_1c, l4_1d, l4_2a, l4_2b, l4_2c, l4_2d])
  have c5_1 : w5.cell? ⟨w.heap.size, 1, none⟩ = some (.int .i64 n) := (hb5.cell (p := ⟨w.heap.size, 1, none⟩) (by first | omega | (simp <;> omega))).trans (by first | exact c4_1 | simp [go_sem, c4_1, l4_0a, l4_0b, l4_0c, l4_0d, l4_1a, l4_1b, l4_1c, l4_1d, l4_2a, l4_2b, l4_2c, l4_2d])
  have c5_2 : w5.cell? ⟨w1.heap.size, 0, none⟩ = some (.int .i64 0) := (hb5.cell (p := ⟨w1.heap.size, 0, none⟩) (by first | omega | (simp <;> omega))).trans (by first | exact c4_2 | simp [go_sem, c4_2, l4_0a, l4_0b, l4_0c, l4_0d, l4_1a, l4_1b, l4_1c, l4_1d, l4_2a, l4_2b, l4_2c, l4_2d])
  have c5_3 : w5.cell? ⟨w1.heap.size, 1, none⟩ = some (.int .i64 0) := (hb5.cell (p := ⟨w1.heap.size, 1, none⟩) (by first | omega | (simp <;> omega))).trans (by first | exact c4_3 | simp [go_sem, c4_3, l4_0a, l4_0b, l4_0c, l4_0d, l4_1a, l4_1b, l4_1c, l4_1d, l4_2a, l4_2b, l4_2c, l4_2d])
  have c5_4 : w5.cell? ⟨w2.heap.size, 0, none⟩ = some (.int .i64 0) := (hb5.cell (p := ⟨w2.heap.size, 0, none⟩) (by first | omega | (simp <;> omega))).trans (by first | exact c4_4 | simp [go_sem, c4_4, l4_0a, l4_0b, l4_0c, l4_0d, l4_1a, l4_1b, l4_1c, l4_1d, l4_2a, l4_2b, l4_2c, l4_2d])
  have c5_5 : w5.cell? ⟨w2.heap.size, 1, none⟩ = some (.int .i64 0) := (hb5.cell (p := ⟨w2.heap.size, 1, none⟩) (by first | omega | (simp <;> omega))).trans (by first | exact c4_5 | simp [go_sem, c4_5, l4_0a, l4_0b, l4_0c, l4_0d, l4_1a, l4_1b, l4_1c, l4_1d, l4_2a, l4_2b, l4_2c, l4_2d])
  have l5_0a : w.heap.size < w5.heap.size := World.block_lt_of_cell? w5 _ c5_0
  have l5_0b : w.heap.size < w5.heap.size + 1 := Nat.lt_succ_of_lt l5_0a
  have l5_0c : w.heap.size < w5.heap.size + 1 + 1 := Nat.lt_succ_of_lt l5_0b
  have l5_0d : w.heap.size < w5.heap.size + 1 + 1 + 1 := Nat.lt_succ_of_lt l5_0c
  have l5_1a : w1.heap.size < w5.heap.size := World.block_lt_of_cell? w5 _ c5_2
  have l5_1b : w1.heap.size < w5.heap.size + 1 := Nat.lt_succ_of_lt l5_1a
  have l5_1c : w1.heap.size < w5.heap.size + 1 + 1 := Nat.lt_succ_of_lt l5_1b
  have l5_1d : w1.heap.size < w5.heap.size + 1 + 1 + 1 := Nat.lt_succ_of_lt l5_1c
  have l5_2a : w2.heap.size < w5.heap.size := World.block_lt_of_cell? w5 _ c5_4
  have l5_2b : w2.heap.size < w5.heap.size + 1 := Nat.lt_succ_of_lt l5_2a
  have l5_2c : w2.heap.size < w5.heap.size + 1 + 1 := Nat.lt_succ_of_lt l5_2b
  have l5_2d : w2.heap.size < w5.heap.size + 1 + 1 + 1 := Nat.lt_succ_of_lt l5_2c
  clear c4_0 c4_1 c4_2 c4_3 c4_4 c4_5 l4_0a l4_0b l4_0c l4_0d l4_1a l4_1b l4_1c l4_1d l4_2a l4_2b l4_2c l4_2d hB4 hb5
  rw [HU.out]
  go_wp2_with fail
  refine (error_same _ HC.out _ (by exact HG.out.belowB (show Below w.heap.size w _ from (by first | exact hB5 | ((repeat' (first | exact hB5 | refine Below.setCell ?_ ?_ _ | refine Below.alloc ?_ ?_ _ | refine Below.drew ?_)) <;> (first | omega | (simp <;> omega))))) HG.out.lt)).mono ?_
  rintro e w6 ⟨rfl, hb6⟩
  have hB6 : Below w.heap.size w w6 := Below.trans (by first | exact hB5 | ((repeat' (first | exact hB5 | refine Below.setCell ?_ ?_ _ | refine Below.alloc ?_ ?_ _ | refine Below.drew ?_)) <;> (first | omega | (simp <;> omega)))) (hb6.mono (by first | omega | (simp <;> omega)))
  have hs6 : w.heap.size ≤ w6.heap.size := hB6.size
  have ht6 := hb6.size
  try simp only [World.size_alloc, World.size_setCell] at ht6
  have c6_0 : w6.cell? ⟨w.heap.size, 0, none⟩ = some (.int .i64 a) := (hb6.cell (p := ⟨w.heap.size, 0, none⟩) (by first | omega | (simp <;> omega))).trans (by first | exact c5_0 | simp [go_sem, c5_0, l5_0a, l5_0b, l5_0c, l5_0d, l5_1a, l5_1b, l5_1c, l5_1d, l5_2a, l5_2b, l5_2c, l5_2d])
  have c6_1 : w6.cell? ⟨w.heap.size, 1, none⟩ = some (.int .i64 n) := (hb6.cell (p := ⟨w.heap.size, 1, none⟩) (by first | omega | (simp <;> omega))).trans (by first | exact c5_1 | simp [go_sem, c5_1, l5_0a, l5_0b, l5_0c, l5_0d, l5_1a, l5_1b, l5_1c, l5_1d, l5_2a, l5_2b, l5_2c, l5_2d])
  have c6_2 : w6.cell? ⟨w1.heap.size, 0, none⟩ = some (.int .i64 0) := (hb6.cell (p := ⟨w1.heap.size, 0, none⟩) (by first | omega | (simp <;> omega))).trans (by first | exact c5_2 | simp [go_sem, c5_2, l5_0a, l5_0b, l5_0c, l5_0d, l5_1a, l5_1b, l5_1c, l5_1d, l5_2a, l5_2b, l5_2c, l5_2d])
  have c6_3 : w6.cell? ⟨w1.heap.size, 1, none⟩ = some (.int .i64 0) := (hb6.cell (p := ⟨w1.heap.size, 1, none⟩) (by first | omega | (simp <;> omega))).trans (by first | exact c5_3 | simp [go_sem, c5_3, l5_0a, l5_0b, l5_0c, l5_0d, l5_1a, l5_1b, l5_1c, l5_1d, l5_2a, l5_2b, l5_2c, l5_2d])
  have c6_4 : w6.cell? ⟨w2.heap.size, 0, none⟩ = some (.int .i64 0) := (hb6.cell (p := ⟨w2.heap.size, 0, none⟩) (by first | omega | (simp <;> omega))).trans (by first | exact c5_4 | simp [go_sem, c5_4, l5_0a, l5_0b, l5_0c, l5_0d, l5_1a, l5_1b, l5_1c, l5_1d, l5_2a, l5_2b, l5_2c, l5_2d])
  have c6_5 : w6.cell? ⟨w2.heap.size, 1, none⟩ = some (.int .i64 0) := (hb6.cell (p := ⟨w2.heap.size, 1, none⟩) (by first | omega | (simp <;> omega))).trans (by first | exact c5_5 | simp [go_sem, c5_5, l5_0a, l5_0b, l5_0c, l5_0d, l5_1a, l5_1b, l5_1c, l5_1d, l5_2a, l5_2b, l5_2c, l5_2d])
  have l6_0a : w.heap.size < w6.heap.size := World.block_lt_of_cell? w6 _ c6_0
  have l6_0b : w.heap.size < w6.heap.size + 1 := Nat.lt_succ_of_lt l6_0a
  have l6_0c : w.heap.size < w6.heap.size + 1 + 1 := Nat.lt_succ_of_lt l6_0b
  have l6_0d : w.heap.size < w6.heap.size + 1 + 1 + 1 := Nat.lt_succ_of_lt l6_0c
  have l6_1a : w1.heap.size < w6.heap.size := World.block_lt_of_cell? w6 _ c6_2
  have l6_1b : w1.heap.size < w6.heap.size + 1 := Nat.lt_succ_of_lt l6_1a
  have l6_1c : w1.heap.size < w6.heap.size + 1 + 1 := Nat.lt_succ_of_lt l6_1b
  have l6_1d : w1.heap.size < w6.heap.size + 1 + 1 + 1 := Nat.lt_succ_of_lt l6_1c
  have l6_2a : w2.heap.size < w6.heap.size := World.block_lt_of_cell? w6 _ c6_4
  have l6_2b : w2.heap.size < w6.heap.size + 1 := Nat.lt_succ_of_lt l6_2a
  have l6_2c : w2.heap.size < w6.heap.size + 1 + 1 := Nat.lt_succ_of_lt l6_2b
  have l6_2d : w2.heap.size < w6.heap.size + 1 + 1 + 1 := Nat.lt_succ_of_lt l6_2c
  clear c5_0 c5_1 c5_2 c5_3 c5_4 c5_5 l5_0a l5_0b l5_0c l5_0d l5_1a l5_1b l5_1c l5_1d l5_2a l5_2b l5_2c l5_2d hB5 hb6
  go_wp2_with fail
  refine (next_bad a n A used c HU2.out hm _ ((hl.below (show Below w.heap.size w _ from (by first | exact hB6 | ((repeat' (first | exact hB6 | refine Below.setCell ?_ ?_ _ | refine Below.alloc ?_ ?_ _ | refine Below.drew ?_)) <;> (first | omega | (simp <;> omega)))))).more (show w.heap.size ≤ _ from by first | omega | (simp <;> omega)))).mono ?_
  rintro e w7 ⟨rfl, hb7⟩
  have hB7 : Below w.heap.size w w7 := Below.trans (by first | exact hB6 | ((repeat' (first | exact hB6 | refine Below.setCell ?_ ?_ _ | refine Below.alloc ?_ ?_ _ | refine Below.drew ?_)) <;> (first | omega | (simp <;> omega)))) (hb7.mono (by first | omega | (simp <;> omega)))
  have hs7 : w.heap.size ≤ w7.heap.size := hB7.size
  have ht7 := hb7.size
  try simp only [World.size_alloc, World.size_setCell] at ht7
  have c7_0 : w7.cell? ⟨w.heap.size, 0, none⟩ = some (.int .i64 a) := (hb7.cell (p := ⟨w.heap.size, 0, none⟩) (by first | omega | (simp <;> omega))).trans (by first | exact c6_0 | simp [go_sem, c6_0, l6_0a, l6_0b, l6_0c, l6_0d, l6_1a, l6_1b, l6_1c, l6_1d, l6_2a, l6_2b, l6_2c, l6_2d])
  have c7_1 : w7.cell? ⟨w.heap.size, 1, none⟩ = some (.int .i64 n) := (hb7.cell (p := ⟨w.heap.size, 1, none⟩) (by first | omega | (simp <;> omega))).trans (by first | exact c6_1 | simp [go_sem, c6_1, l6_0a, l6_0b, l6_0c, l6_0d, l6_1a, l6_1b, l6_1c, l6_1d, l6_2a, l6_2b, l6_2c, l6_2d])
  have c7_2 : w7.cell? ⟨w1.heap.size, 0, none⟩ = some (.int .i64 0) := (hb7.cell (p := ⟨w1.heap.size, 0, none⟩) (by first | omega | (simp <;> omega))).trans (by first | exact c6_2 | simp [go_sem, c6_2, l6_0a, l6_0b, l6_0c, l6_0d, l6_1a, l6_1b, l6_1c, l6_1d, l6_2a, l6_2b, l6_2c, l6_2d])
  have c7_3 : w7.cell? ⟨w1.heap.size, 1, none⟩ = some (.int .i64 0) := (hb7.cell (p := ⟨w1.heap.size, 1, none⟩) (by first | omega | (simp <;> omega))).trans (by first | exact c6_3 | simp [go_sem, c6_3, l6_0a, l6_0b, l6_0c, l6_0d, l6_1a, l6_1b, l6_1c, l6_1d, l6_2a, l6_2b, l6_2c, l6_2d])
  have c7_4 : w7.cell? ⟨w2.heap.size, 0, none⟩ = some (.int .i64 0) := (hb7.cell (p := ⟨w2.heap.size, 0, none⟩) (by first | omega | (simp <;> omega))).trans (by first | exact c6_4 | simp [go_sem, c6_4, l6_0a, l6_0b, l6_0c, l6_0d, l6_1a, l6_1b, l6_1c, l6_1d, l6_2a, l6_2b, l6_2c, l6_2d])
  have c7_5 : w7.cell? ⟨w2.heap.size, 1, none⟩ = some (.int .i64 0) := (hb7.cell (p := ⟨w2.heap.size, 1, none⟩) (by first | omega | (simp <;> omega))).trans (by first | exact c6_5 | simp [go_sem, c6_5, l6_0a, l6_0b, l6_0c, l6_0d, l6_1a, l6_1b, l6_1c, l6_1d, l6_2a, l6_2b, l6_2c, l6_2d])
  have l7_0a : w.heap.size < w7.heap.size := World.block_lt_of_cell? w7 _ c7_0
  have l7_0b : w.heap.size < w7.heap.size + 1 := Nat.lt_succ_of_lt l7_0a
  have l7_0c : w.heap.size < w7.heap.size + 1 + 1 := Nat.lt_succ_of_lt l7_0b
  have l7_0d : w.heap.size < w7.heap.size + 1 + 1 + 1 := Nat.lt_succ_of_lt l7_0c
  have l7_1a : w1.heap.size < w7.heap.size := World.block_lt_of_cell? w7 _ c7_2
  have l7_1b : w1.heap.size < w7.heap.size + 1 := Nat.lt_succ_of_lt l7_1a
  have l7_1c : w1.heap.size < w7.heap.size + 1 + 1 := Nat.lt_succ_of_lt l7_1b
  have l7_1d : w1.heap.size < w7.heap.size + 1 + 1 + 1 := Nat.lt_succ_of_lt l7_1c
  have l7_2a : w2.heap.size < w7.heap.size := World.block_lt_of_cell? w7 _ c7_4
  have l7_2b : w2.heap.size < w7.heap.size + 1 := Nat.lt_succ_of_lt l7_2a
  have l7_2c : w2.heap.size < w7.heap.size + 1 + 1 := Nat.lt_succ_of_lt l7_2b
  have l7_2d : w2.heap.size < w7.heap.size + 1 + 1 + 1 := Nat.lt_succ_of_lt l7_2c
  clear c6_0 c6_1 c6_2 c6_3 c6_4 c6_5 l6_0a l6_0b l6_0c l6_0d l6_1a l6_1b l6_1c l6_1d l6_2a l6_2b l6_2c l6_2d hB6 hb7
  rw [HU.out]
  go_wp2_with fail
  refine (error_same _ HC.out _ (by exact HG.out.belowB (show Below w.heap.size w _ from (by first | exact hB7 | ((repeat' (first | exact hB7 | refine Below.setCell ?_ ?_ _ | refine Below.alloc ?_ ?_ _ | refine Below.drew ?_)) <;> (first | omega | (simp <;> omega))))) HG.out.lt)).mono ?_
  rintro e w8 ⟨rfl, hb8⟩
  have hB8 : Below w.heap.size w w8 := Below.trans (by first | exact hB7 | ((repeat' (first | exact hB7 | refine Below.setCell ?_ ?_ _ | refine Below.alloc ?_ ?_ _ | refine Below.drew ?_)) <;> (first | omega | (simp <;> omega)))) (hb8.mono (by first | omega | (simp <;> omega)))
  have hs8 : w.heap.size ≤ w8.heap.size := hB8.size
  have ht8 := hb8.size
  try simp only [World.size_alloc, World.size_setCell] at ht8
  have c8_0 : w8.cell? ⟨w.heap.size, 0, none⟩ = some (.int .i64 a) := (hb8.cell (p := ⟨w.heap.size, 0, none⟩) (by first | omega | (simp <;> omega))).trans (by first | exact c7_0 | simp [go_sem, c7_0, l7_0a, l7_0b, l7_0c, l7_0d, l7_1a, l7_1b, l7_1c, l7_1d, l7_2a, l7_2b, l7_2c, l7_2d])
  have c8_1 : w8.cell? ⟨w.heap.size, 1, none⟩ = some (.int .i64 n) := (hb8.cell (p := ⟨w.heap.size, 1, none⟩) (by first | omega | (simp <;> omega))).trans (by first | exact c7_1 | simp [go_sem, c7_1, l7_0a, l7_0b, l7_0c, l7_0d, l7_1a, l7_1b, l7_1c, l7_1d, l7_2a, l7_2b, l7_2c, l7_2d])
  have c8_2 : w8.cell? ⟨w1.heap.size, 0, none⟩ = some (.int .i64 0) := (hb8.cell (p := ⟨w1.heap.size, 0, none⟩) (by first | omega | (simp <;> omega))).trans (by first | exact c7_2 | simp [go_sem, c7_2, l7_0a, l7_0b, l7_0c, l7_0d, l7_1a, l7_1b, l7_1c, l7_1d, l7_2a, l7_2b, l7_2c, l7_2d])
  have c8_3 : w8.cell? ⟨w1.heap.size, 1, none⟩ = some (.int .i64 0) := (hb8.cell (p := ⟨w1.heap.size, 1, none⟩) (by first | omega | (simp <;> omega))).trans (by first | exact c7_3 | simp [go_sem, c7_3, l7_0a, l7_0b, l7_0c, l7_0d, l7_1a, l7_1b, l7_1c, l7_1d, l7_2a, l7_2b, l7_2c, l7_2d])
  have c8_4 : w8.cell? ⟨w2.heap.size, 0, none⟩ = some (.int .i64 0) := (hb8.cell (p := ⟨w2.heap.size, 0, none⟩) (by first | omega | (simp <;> omega))).trans (by first | exact c7_4 | simp [go_sem, c7_4, l7_0a, l7_0b, l7_0c, l7_0d, l7_1a, l7_1b, l7_1c, l7_1d, l7_2a, l7_2b, l7_2c, l7_2d])
  have c8_5 : w8.cell? ⟨w2.heap.size, 1, none⟩ = some (.int .i64 0) := (hb8.cell (p := ⟨w2.heap.size, 1, none⟩) (by first | omega | (simp <;> omega))).trans (by first | exact c7_5 | simp [go_sem, c7_5, l7_0a, l7_0b, l7_0c, l7_0d, l7_1a, l7_1b, l7_1c, l7_1d, l7_2a, l7_2b, l7_2c, l7_2d])
  have l8_0a : w.heap.size < w8.heap.size := World.block_lt_of_cell? w8 _ c8_0
  have l8_0b : w.heap.size < w8.heap.size + 1 := Nat.lt_succ_of_lt l8_0a
  have l8_0c : w.heap.size < w8.heap.size + 1 + 1 := Nat.lt_succ_of_lt l8_0b
  have l8_0d : w.heap.size < w8.heap.size + 1 + 1 + 1 := Nat.lt_succ_of_lt l8_0c
  have l8_1a : w1.heap.size < w8.heap.size := World.block_lt_of_cell? w8 _ c8_2
  have l8_1b : w1.heap.size < w8.heap.size + 1 := Nat.lt_succ_of_lt l8_1a
  have l8_1c : w1.heap.size < w8.heap.size + 1 + 1 := Nat.lt_succ_of_lt l8_1b
  have l8_1d : w1.heap.size < w8.heap.size + 1 + 1 + 1 := Nat.lt_succ_of_lt l8_1c
  have l8_2a : w2.heap.size < w8.heap.size := World.block_lt_of_cell? w8 _ c8_4
  have l8_2b : w2.heap.size < w8.heap.size + 1 := Nat.lt_succ_of_lt l8_2a
  have l8_2c : w2.heap.size < w8.heap.size + 1 + 1 := Nat.lt_succ_of_lt l8_2b
  have l8_2d : w2.heap.size < w8.heap.size + 1 + 1 + 1 := Nat.lt_succ_of_lt l8_2c
  clear c7_0 c7_1 c7_2 c7_3 c7_4 c7_5 l7_0a l7_0b l7_0c l7_0d l7_1a l7_1b l7_1c l7_1d l7_2a l7_2b l7_2c l7_2d hB7 hb8
  go_wp2
  go_ret
  exact ⟨rfl, (by first | exact hB8 | ((repeat' (first | exact hB8 | refine Below.setCell ?_ ?_ _ | refine Below.alloc ?_ ?_ _ | refine Below.drew ?_)) <;> (first | omega | (simp <;> omega))))⟩

set_option maxRecDepth 100000 in
set_option maxHeartbeats 8000000 in
theorem hostIs_2 (a n : Int) (A : Option Addr) (used : List Int) (c : Nat) (hm : used.length ≤ maxLen) (hcap : used.length ≤ c) (hc : chk a n = 0) (hu : usedFault a n used ≠ 0) (w : World) (hg : ErrVar w) (hl : Rd w w.heap.size A (used.map (Value.int .i64))) :
    Calls Tryd.prog 3 #[.agg #[.int .i64 a, .int .i64 n], .slice A used.length c] w fun e w' => e = .returned (.bool true) ∧ Below w.heap.size w w' := by
  have HG := Lib.hid hg
  clear hg
  have hz : (usedFault a n used == 0) = false := by simpa using hu
  have hz' : (usedFault a n used != 0) = true := by simpa using hu
  have HU := Lib.hid hu
  have HC := Lib.hid hc
  clear hc hu
  go_enter Tryd.func3, Tryd.ntmps3
  go_wp2_with fail
  refine (fault_any a n _).mono ?_
  rintro e w1 ⟨rfl, hb1⟩
  have hB1 : Below w.heap.size w w1 := Below.trans (by first | exact Below.refl _ _ | ((repeat' (first | exact Below.refl _ _ | refine Below.setCell ?_ ?_ _ | refine Below.alloc ?_ ?_ _ | refine Below.drew ?_)) <;> (first | omega | (simp <;> omega)))) (hb1.mono (by first | omega | (simp <;> omega)))
  have hs1 : w.heap.size ≤ w1.heap.size := hB1.size
  have ht1 := hb1.size
  try simp only [World.size_alloc, World.size_setCell] at ht1
  have c1_0 : w1.cell? ⟨w.heap.size, 0, none⟩ = some (.int .i64 a) := (hb1.cell (p := ⟨w.heap.size, 0, none⟩) (by first | omega | (simp <;> omega))).trans (by first | (simp; done) | simp [go_sem])
  have c1_1 : w1.cell? ⟨w.heap.size, 1, none⟩ = some (.int .i64 n) := (hb1.cell (p := ⟨w.heap.size, 1, none⟩) (by first | omega | (simp <;> omega))).trans (by first | (simp; done) | simp [go_sem])
  have l1_0a : w.heap.size < w1.heap.size := World.block_lt_of_cell? w1 _ c1_0
  have l1_0b : w.heap.size < w1.heap.size + 1 := Nat.lt_succ_of_lt l1_0a
  have l1_0c : w.heap.size < w1.heap.size + 1 + 1 := Nat.lt_succ_of_lt l1_0b
  have l1_0d : w.heap.size < w1.heap.size + 1 + 1 + 1 := Nat.lt_succ_of_lt l1_0c
  clear hb1
  rw [HC.out]
  go_wp2_with fail
  refine (usableOf_any a n HC.out _).mono ?_
  rintro e w2 ⟨rfl, hb2⟩
  have hB2 : Below w.heap.size w w2 := Below.trans (by first | exact hB1 | ((repeat' (first | exact hB1 | refine Below.setCell ?_ ?_ _ | refine Below.alloc ?_ ?_ _ | refine Below.drew ?_)) <;> (first | omega | (simp <;> omega)))) (hb2.mono (by first | omega | (simp <;> omega)))
  have hs2 : w.heap.size ≤ w2.heap.size := hB2.size
  have ht2 := hb2.size
  try simp only [World.size_alloc, World.size_setCell] at ht2
  have c2_0 : w2.cell? ⟨w.heap.size, 0, none⟩ = some (.int .i64 a) := (hb2.cell (p := ⟨w.heap.size, 0, none⟩) (by first | omega | (simp <;> omega))).trans (by first | exact c1_0 | simp [go_sem, c1_0, l1_0a, l1_0b, l1_0c, l1_0d])
  have c2_1 : w2.cell? ⟨w.heap.size, 1, none⟩ = some (.int .i64 n) := (hb2.cell (p := ⟨w.heap.size, 1, none⟩) (by first | omega | (simp <;> omega))).trans (by first | exact c1_1 | simp [go_sem, c1_1, l1_0a, l1_0b, l1_0c, l1_0d])
  have c2_2 : w2.cell? ⟨w1.heap.size, 0, none⟩ = some (.int .i64 0) := (hb2.cell (p := ⟨w1.heap.size, 0, none⟩) (by first | omega | (simp <;> omega))).trans (by first | (simp; done) | simp [go_sem, l1_0a, l1_0b, l1_0c, l1_0d, c1_0, c1_1])
  have fc2_2 : w2.frozen? ⟨w1.heap.size, 0, none⟩ = false := (hb2.frozen (p := ⟨w1.heap.size, 0, none⟩) (by first | omega | (simp <;> omega))).trans (by first | (simp; done) | simp [go_sem, l1_0a, l1_0b, l1_0c, l1_0d, c1_0, c1_1])
  have c2_3 : w2.cell? ⟨w1.heap.size, 1, none⟩ = some (.int .i64 0) := (hb2.cell (p := ⟨w1.heap.size, 1, none⟩) (by first | omega | (simp <;> omega))).trans (by first | (simp; done) | simp [go_sem, l1_0a, l1_0b, l1_0c, l1_0d, c1_0, c1_1])
  have fc2_3 : w2.frozen? ⟨w1.heap.size, 1, none⟩ = false := (hb2.frozen (p := ⟨w1.heap.size, 1, none⟩) (by first | omega | (simp <;> omega))).trans (by first | (simp; done) | simp [go_sem, l1_0a, l1_0b, l1_0c, l1_0d, c1_0, c1_1])
  have l2_0a : w.heap.size < w2.heap.size := World.block_lt_of_cell? w2 _ c2_0
  have l2_0b : w.heap.size < w2.heap.size + 1 := Nat.lt_succ_of_lt l2_0a
  have l2_0c : w.heap.size < w2.heap.size + 1 + 1 := Nat.lt_succ_of_lt l2_0b
  have l2_0d : w.heap.size < w2.heap.size + 1 + 1 + 1 := Nat.lt_succ_of_lt l2_0c
  have l2_1a : w1.heap.size < w2.heap.size := World.block_lt_of_cell? w2 _ c2_2
  have l2_1b : w1.heap.size < w2.heap.size + 1 := Nat.lt_succ_of_lt l2_1a
  have l2_1c : w1.heap.size < w2.heap.size + 1 + 1 := Nat.lt_succ_of_lt l2_1b
  have l2_1d : w1.heap.size < w2.heap.size + 1 + 1 + 1 := Nat.lt_succ_of_lt l2_1c
  have n2_1_0 : w1.heap.size ≠ w.heap.size := by omega
  have m2_1_0 : w.heap.size ≠ w1.heap.size := by omega
  clear c1_0 c1_1 l1_0a l1_0b l1_0c l1_0d hB1 hb2
  go_wp2_with fail
  refine (usable_ok a n HC.out _).mono ?_
  rintro e w3 ⟨rfl, hb3⟩
  have hB3 : Below w.heap.size w w3 := Below.trans (by first | exact hB2 | ((repeat' (first | exact hB2 | refine Below.setCell ?_ ?_ _ | refine Below.alloc ?_ ?_ _ | refine Below.drew ?_)) <;> (first | omega | (simp <;> omega)))) (hb3.mono (by first | omega | (simp <;> omega)))
  have hs3 : w.heap.size ≤ w3.heap.size := hB3.size
  have ht3 := hb3.size
  try simp only [World.size_alloc, World.size_setCell] at ht3
  have c3_0 : w3.cell? ⟨w.heap.size, 0, none⟩ = some (.int .i64 a) := (hb3.cell (p := ⟨w.heap.size, 0, none⟩) (by first | omega | (simp <;> omega))).trans (by first | exact c2_0 | simp [go_sem, c2_0, l2_0a, l2_0b, l2_0c, l2_0d, l2_1a, l2_1b, l2_1c, l2_1d, n2_1_0, m2_1_0])
  have c3_1 : w3.cell? ⟨w.heap.size, 1, none⟩ = some (.int .i64 n) := (hb3.cell (p := ⟨w.heap.size, 1, none⟩) (by first | omega | (simp <;> omega))).trans (by first | exact c2_1 | simp [go_sem, c2_1, l2_0a, l2_0b, l2_0c, l2_0d, l2_1a, l2_1b, l2_1c, l2_1d, n2_1_0, m2_1_0])
  have c3_2 : w3.cell? ⟨w1.heap.size, 0, none⟩ = some (.int .i64 (uLo a n)) := (hb3.cell (p := ⟨w1.heap.size, 0, none⟩) (by first | omega | (simp <;> omega))).trans (by first | (simp; done) | simp [go_sem, l2_0a, l2_0b, l2_0c, l2_0d, l2_1a, l2_1b, l2_1c, l2_1d, n2_1_0, m2_1_0, c2_0, c2_1, c2_2, c2_3, fc2_2, fc2_3])
  have fc3_2 : w3.frozen? ⟨w1.heap.size, 0, none⟩ = false := (hb3.frozen (p := ⟨w1.heap.size, 0, none⟩) (by first | omega | (simp <;> omega))).trans (by first | (simp; done) | simp [go_sem, l2_0a, l2_0b, l2_0c, l2_0d, l2_1a, l2_1b, l2_1c, l2_1d, n2_1_0, m2_1_0, c2_0, c2_1, c2_2, c2_3, fc2_2, fc2_3])
  have c3_3 : w3.cell? ⟨w1.heap.size, 1, none⟩ = some (.int .i64 (uHi a n)) := (hb3.cell (p := ⟨w1.heap.size, 1, none⟩) (by first | omega | (simp <;> omega))).trans (by first | (simp; done) | simp [go_sem, l2_0a, l2_0b, l2_0c, l2_0d, l2_1a, l2_1b, l2_1c, l2_1d, n2_1_0, m2_1_0, c2_0, c2_1, c2_2, c2_3, fc2_2, fc2_3])
  have fc3_3 : w3.frozen? ⟨w1.heap.size, 1, none⟩ = false := (hb3.frozen (p := ⟨w1.heap.size, 1, none⟩) (by first | omega | (simp <;> omega))).trans (by first | (simp; done) | simp [go_sem, l2_0a, l2_0b, l2_0c, l2_0d, l2_1a, l2_1b, l2_1c, l2_1d, n2_1_0, m2_1_0, c2_0, c2_1, c2_2, c2_3, fc2_2, fc2_3])
  have l3_0a : w.heap.size < w3.heap.size := World.block_lt_of_cell? w3 _ c3_0
  have l3_0b : w.heap.size < w3.heap.size + 1 := Nat.lt_succ_of_lt l3_0a
  have l3_0c : w.heap.size < w3.heap.size + 1 + 1 := Nat.lt_succ_of_lt l3_0b
  have l3_0d : w.heap.size < w3.heap.size + 1 + 1 + 1 := Nat.lt_succ_of_lt l3_0c
  have l3_1a : w1.heap.size < w3.heap.size := World.block_lt_of_cell? w3 _ c3_2
  have l3_1b : w1.heap.size < w3.heap.size + 1 := Nat.lt_succ_of_lt l3_1a
  have l3_1c : w1.heap.size < w3.heap.size + 1 + 1 := Nat.lt_succ_of_lt l3_1b
  have l3_1d : w1.heap.size < w3.heap.size + 1 + 1 + 1 := Nat.lt_succ_of_lt l3_1c
  have n3_1_0 : w1.heap.size ≠ w.heap.size := by omega
  have m3_1_0 : w.heap.size ≠ w1.heap.size := by omega
  clear c2_0 c2_1 c2_2 c2_3 fc2_2 fc2_3 l2_0a l2_0b l2_0c l2_0d l2_1a l2_1b l2_1c l2_1d n2_1_0 m2_1_0 hB2 hb3
  go_wp2_with fail
  refine (error_nil0 _ (by exact HG.out.belowB (show Below w.heap.size w _ from (by first | exact hB3 | ((repeat' (first | exact hB3 | refine Below.setCell ?_ ?_ _ | refine Below.alloc ?_ ?_ _ | refine Below.drew ?_)) <;> (first | omega | (simp <;> omega))))) HG.out.lt)).mono ?_
  rintro e w4 ⟨rfl, hb4⟩
  have hB4 : Below w.heap.size w w4 := Below.trans (by first | exact hB3 | ((repeat' (first | exact hB3 | refine Below.setCell ?_ ?_ _ | refine Below.alloc ?_ ?_ _ | refine Below.drew ?_)) <;> (first | omega | (simp <;> omega)))) (hb4.mono (by first | omega | (simp <;> omega)))
  have hs4 : w.heap.size ≤ w4.heap.size := hB4.size
  have ht4 := hb4.size
  try simp only [World.size_alloc, World.size_setCell] at ht4
  have c4_0 : w4.cell? ⟨w.heap.size, 0, none⟩ = some (.int .i64 a) := (hb4.cell (p := ⟨w.heap.size, 0, none⟩) (by first | omega | (simp <;> omega))).trans (by first | exact c3_0 | simp [go_sem, c3_0, l3_0a, l3_0b, l3_0c, l3_0d, l3_1a, l3_1b, l3_1c, l3_1d, n3_1_0, m3_1_0])
  have c4_1 : w4.cell? ⟨w.heap.size, 1, none⟩ = some (.int .i64 n) := (hb4.cell (p := ⟨w.heap.size, 1, none⟩) (by first | omega | (simp <;> omega))).trans (by first | exact c3_1 | simp [go_sem, c3_1, l3_0a, l3_0b, l3_0c, l3_0d, l3_1a, l3_1b, l3_1c, l3_1d, n3_1_0, m3_1_0])
  have c4_2 : w4.cell? ⟨w1.heap.size, 0, none⟩ = some (.int .i64 (uLo a n)) := (hb4.cell (p := ⟨w1.heap.size, 0, none⟩) (by first | omega | (simp <;> omega))).trans (by first | exact c3_2 | simp [go_sem, c3_2, l3_0a, l3_0b, l3_0c, l3_0d, l3_1a, l3_1b, l3_1c, l3_1d, n3_1_0, m3_1_0])
  have fc4_2 : w4.frozen? ⟨w1.heap.size, 0, none⟩ = false := (hb4.frozen (p := ⟨w1.heap.size, 0, none⟩) (by first | omega | (simp <;> omega))).trans (by first | exact fc3_2 | simp [go_sem, fc3_2, l3_0a, l3_0b, l3_0c, l3_0d, l3_1a, l3_1b, l3_1c, l3_1d, n3_1_0, m3_1_0])
  have c4_3 : w4.cell? ⟨w1.heap.size, 1, none⟩ = some (.int .i64 (uHi a n)) := (hb4.cell (p := ⟨w1.heap.size, 1, none⟩) (by first | omega | (simp <;> omega))).trans (by first | exact c3_3 | simp [go_sem, c3_3, l3_0a, l3_0b, l3_0c, l3_0d, l3_1a, l3_1b, l3_1c, l3_1d, n3_1_0, m3_1_0])
  have fc4_3 : w4.frozen? ⟨w1.heap.size, 1, none⟩ = false := (hb4.frozen (p := ⟨w1.heap.size, 1, none⟩) (by first | omega | (simp <;> omega))).trans (by first | exact fc3_3 | simp [go_sem, fc3_3, l3_0a, l3_0b, l3_0c, l3_0d, l3_1a, l3_1b, l3_1c, l3_1d, n3_1_0, m3_1_0])
  have c4_4 : w4.cell? ⟨w3.heap.size, 0, none⟩ = some (.int .i64 (uLo a n)) := (hb4.cell (p := ⟨w3.heap.size, 0, none⟩) (by first | omega | (simp <;> omega))).trans (by first | (simp; done) | simp [go_sem, l3_0a, l3_0b, l3_0c, l3_0d, l3_1a, l3_1b, l3_1c, l3_1d, n3_1_0, m3_1_0, c3_0, c3_1, c3_2, c3_3, fc3_2, fc3_3])
  have c4_5 : w4.cell? ⟨w3.heap.size, 1, none⟩ = some (.int .i64 (uHi a n)) := (hb4.cell (p := ⟨w3.heap.size, 1, none⟩) (by first | omega | (simp <;> omega))).trans (by first | (simp; done) | simp [go_sem, l3_0a, l3_0b, l3_0c, l3_0d, l3_1a, l3_1b, l3_1c, l3_1d, n3_1_0, m3_1_0, c3_0, c3_1, c3_2, c3_3, fc3_2, fc3_3])
  have l4_0a : w.heap.size < w4.heap.size := World.block_lt_of_cell? w4 _ c4_0
  have l4_0b : w.heap.size < w4.heap.size + 1 := Nat.lt_succ_of_lt l4_0a
  have l4_0c : w.heap.size < w4.heap.size + 1 + 1 := Nat.lt_succ_of_lt l4_0b
  have l4_0d : w.heap.size < w4.heap.size + 1 + 1 + 1 := Nat.lt_succ_of_lt l4_0c
  have l4_1a : w1.heap.size < w4.heap.size := World.block_lt_of_cell? w4 _ c4_2
  have l4_1b : w1.heap.size < w4.heap.size + 1 := Nat.lt_succ_of_lt l4_1a
  have l4_1c : w1.heap.size < w4.heap.size + 1 + 1 := Nat.lt_succ_of_lt l4_1b
  have l4_1d : w1.heap.size < w4.heap.size + 1 + 1 + 1 := Nat.lt_succ_of_lt l4_1c
  have l4_2a : w3.heap.size < w4.heap.size := World.block_lt_of_cell? w4 _ c4_4
  have l4_2b : w3.heap.size < w4.heap.size + 1 := Nat.lt_succ_of_lt l4_2a
  have l4_2c : w3.heap.size < w4.heap.size + 1 + 1 := Nat.lt_succ_of_lt l4_2b
  have l4_2d : w3.heap.size < w4.heap.size + 1 + 1 + 1 := Nat.lt_succ_of_lt l4_2c
  have n4_1_0 : w1.heap.size ≠ w.heap.size := by omega
  have m4_1_0 : w.heap.size ≠ w1.heap.size := by omega
  have n4_1_2 : w1.heap.size ≠ w3.heap.size := by omega
  have m4_1_2 : w3.heap.size ≠ w1.heap.size := by omega
  clear c3_0 c3_1 c3_2 c3_3 fc3_2 fc3_3 l3_0a l3_0b l3_0c l3_0d l3_1a l3_1b l3_1c l3_1d n3_1_0 m3_1_0 hB3 hb4
  go_wp2_with fail
  refine (usedFault_any a n A used c hm _ ((hl.below (show Below w.heap.size w _ from (by first | exact hB4 | ((repeat' (first | exact hB4 | refine Below.setCell ?_ ?_ _ | refine Below.alloc ?_ ?_ _ | refine Below.drew ?_)) <;> (first | omega | (simp <;> omega)))))).more (show w.heap.size ≤ _ from by first | omega | (simp <;> omega)))).mono ?_
  rintro e w5 ⟨rfl, hb5⟩
  have hB5 : Below w.heap.size w w5 := Below.trans (by first | exact hB4 | ((repeat' (first | exact hB4 | refine Below.setCell ?_ ?_ _ | refine Below.alloc ?_ ?_ _ | refine Below.drew ?_)) <;> (first | omega | (simp <;> omega)))) (hb5.mono (by first | omega | (simp <;> omega)))
  have hs5 : w.heap.size ≤ w5.heap.size := hB5.size
  have ht5 := hb5.size
  try simp only [World.size_alloc, World.size_setCell] at ht5
  have c5_0 : w5.cell? ⟨w.heap.size, 0, none⟩ = some (.int .i64 a) := (hb5.cell (p := ⟨w.heap.size, 0, none⟩) (by first | omega | (simp <;> omega))).trans (by first | exact c4_0 | simp [go_sem, c4_0, l4_0a, l4_0b, l4_0c, l4_0d, l4_1a, l4_1b, l4_1c, l4_1d, l4_2a, l4_2b, l4_2c, l4_2d, n4_1_0, m4_1_0, n4_1_2, m4_1_2])
  have c5_1 : w5.cell? ⟨w.heap.size, 1, none⟩ = some (.int .i64 n) := (hb5.cell (p := ⟨w.heap.size, 1, none⟩) (by first | omega | (simp <;> omega))).trans (by first | exact c4_1 | simp [go_sem, c4_1, l4_0a, l4_0b, l4_0c, l4_0d, l4_1a, l4_1b, l4_1c, l4_1d, l4_2a, l4_2b, l4_2c, l4_2d, n4_1_0, m4_1_0, n4_1_2, m4_1_2])
  have c5_2 : w5.cell? ⟨w1.heap.size, 0, none⟩ = some (.int .i64 (uLo a n)) := (hb5.cell (p := ⟨w1.heap.size, 0, none⟩) (by first | omega | (simp <;> omega))).trans (by first | exact c4_2 | simp [go_sem, c4_2, l4_0a, l4_0b, l4_0c, l4_0d, l4_1a, l4_1b, l4_1c, l4_1d, l4_2a, l4_2b, l4_2c, l4_2d, n4_1_0, m4_1_0, n4_1_2, m4_1_2])
  have fc5_2 : w5.frozen? ⟨w1.heap.size, 0, none⟩ = false := (hb5.frozen (p := ⟨w1.heap.size, 0, none⟩) (by first | omega | (simp <;> omega))).trans (by first | exact fc4_2 | simp [go_sem, fc4_2, l4_0a, l4_0b, l4_0c, l4_0d, l4_1a, l4_1b, l4_1c, l4_1d, l4_2a, l4_2b, l4_2c, l4_2d, n4_1_0, m4_1_0, n4_1_2, m4_1_2])
  have c5_3 : w5.cell? ⟨w1.heap.size, 1, none⟩ = some (.int .i64 (uHi a n)) := (hb5.cell (p := ⟨w1.heap.size, 1, none⟩) (by first | omega | (simp <;> omega))).trans (by first | exact c4_3 | simp [go_sem, c4_3, l4_0a, l4_0b, l4_0c, l4_0d, l4_1a, l4_1b, l4_1c, l4_1d, l4_2a, l4_2b, l4_2c, l4_2d, n4_1_0, m4_1_0, n4_1_2, m4_1_2])
  have fc5_3 : w5.frozen? ⟨w1.heap.size, 1, none⟩ = false := (hb5.frozen (p := ⟨w1.heap.size, 1, none⟩) (by first | omega | (simp <;> omega))).trans (by first | exact fc4_3 | simp [go_sem, fc4_3, l4_0a, l4_0b, l4_0c, l4_0d, l4_1a, l4_1b, l4_1c, l4_1d, l4_2a, l4_2b, l4_2c, l4_2d, n4_1_0, m4_1_0, n4_1_2, m4_1_2])
  have c5_4 : w5.cell? ⟨w3.heap.size, 0, none⟩ = some (.int .i64 (uLo a n)) := (hb5.cell (p := ⟨w3.heap.size, 0, none⟩) (by first | omega | (simp <;> omega))).trans (by first | exact c4_4 | simp [go_sem, c4_4, l4_0a, l4_0b, l4_0c, l4_0d, l4_1a, l4_1b, l4_1c, l4_1d, l4_2a, l4_2b, l4_2c, l4_2d, n4_1_0, m4_1_0, n4_1_2, m4_1_2])
  have c5_5 : w5.cell? ⟨w3.heap.size, 1, none⟩ = some (.int .i64 (uHi a n)) := (hb5.cell (p := ⟨w3.heap.size, 1, none⟩) (by first | omega | (simp <;> omega))).trans (by first | exact c4_5 | simp [go_sem, c4_5, l4_0a, l4_0b, l4_0c, l4_0d, l4_1a, l4_1b, l4_1c, l4_1d, l4_2a, l4_2b, l4_2c, l4_2d, n4_1_0, m4_1_0, n4_1_2, m4_1_2])
  have l5_0a : w.heap.size < w5.heap.size := World.block_lt_of_cell? w5 _ c5_0
  have l5_0b : w.heap.size < w5.heap.size + 1 := Nat.lt_succ_of_lt l5_0a
  have l5_0c : w.heap.size < w5.heap.size + 1 + 1 := Nat.lt_succ_of_lt l5_0b
  have l5_0d : w.heap.size < w5.heap.size + 1 + 1 + 1 := Nat.lt_succ_of_lt l5_0c
  have l5_1a : w1.heap.size < w5.heap.size := World.block_lt_of_cell? w5 _ c5_2
  have l5_1b : w1.heap.size < w5.heap.size + 1 := Nat.lt_succ_of_lt l5_1a
  have l5_1c : w1.heap.size < w5.heap.size + 1 + 1 := Nat.lt_succ_of_lt l5_1b
  have l5_1d : w1.heap.size < w5.heap.size + 1 + 1 + 1 := Nat.lt_succ_of_lt l5_1c
  have l5_2a : w3.heap.size < w5.heap.size := World.block_lt_of_cell? w5 _ c5_4
  have l5_2b : w3.heap.size < w5.heap.size + 1 := Nat.lt_succ_of_lt l5_2a
  have l5_2c : w3.heap.size < w5.heap.size + 1 + 1 := Nat.lt_succ_of_lt l5_2b
  have l5_2d : w3.heap.size < w5.heap.size + 1 + 1 + 1 := Nat.lt_succ_of_lt l5_2c
  have n5_1_0 : w1.heap.size ≠ w.heap.size := by omega
  have m5_1_0 : w.heap.size ≠ w1.heap.size := by omega
  have n5_1_2 : w1.heap.size ≠ w3.heap.size := by omega
  have m5_1_2 : w3.heap.size ≠ w1.heap.size := by omega
  clear c4_0 c4_1 c4_2 c4_3 c4_4 c4_5 fc4_2 fc4_3 l4_0a l4_0b l4_0c l4_0d l4_1a l4_1b l4_1c l4_1d l4_2a l4_2b l4_2c l4_2d n4_1_0 m4_1_0 n4_1_2 m4_1_2 hB4 hb5
  clear c5_2 c5_3 fc5_2 fc5_3
  clear c5_4 c5_5
  go_wp2_with fail
  refine (share_bad a n A used c HU.out hm _ ((hl.below (show Below w.heap.size w _ from (by first | exact hB5 | ((repeat' (first | exact hB5 | refine Below.setCell ?_ ?_ _ | refine Below.alloc ?_ ?_ _ | refine Below.drew ?_)) <;> (first | omega | (simp <;> omega)))))).more (show w.heap.size ≤ _ from by first | omega | (simp <;> omega)))).mono ?_
  rintro e w6 ⟨rfl, hb6⟩
  have hB6 : Below w.heap.size w w6 := Below.trans (by first | exact hB5 | ((repeat' (first | exact hB5 | refine Below.setCell ?_ ?_ _ | refine Below.alloc ?_ ?_ _ | refine Below.drew ?_)) <;> (first | omega | (simp <;> omega)))) (hb6.mono (by first | omega | (simp <;> omega)))
  have hs6 : w.heap.size ≤ w6.heap.size := hB6.size
  have ht6 := hb6.size
  try simp only [World.size_alloc, World.size_setCell] at ht6
  have c6_0 : w6.cell? ⟨w.heap.size, 0, none⟩ = some (.int .i64 a) := (hb6.cell (p := ⟨w.heap.size, 0, none⟩) (by first | omega | (simp <;> omega))).trans (by first | exact c5_0 | simp [go_sem, c5_0, l5_0a, l5_0b, l5_0c, l5_0d, l5_1a, l5_1b, l5_1c, l5_1d, l5_2a, l5_2b, l5_2c, l5_2d, n5_1_0, m5_1_0, n5_1_2, m5_1_2])
  have c6_1 : w6.cell? ⟨w.heap.size, 1, none⟩ = some (.int .i64 n) := (hb6.cell (p := ⟨w.heap.size, 1, none⟩) (by first | omega | (simp <;> omega))).trans (by first | exact c5_1 | simp [go_sem, c5_1, l5_0a, l5_0b, l5_0c, l5_0d, l5_1a, l5_1b, l5_1c, l5_1d, l5_2a, l5_2b, l5_2c, l5_2d, n5_1_0, m5_1_0, n5_1_2, m5_1_2])
  have l6_0a : w.heap.size < w6.heap.size := World.block_lt_of_cell? w6 _ c6_0
  have l6_0b : w.heap.size < w6.heap.size + 1 := Nat.lt_succ_of_lt l6_0a
  have l6_0c : w.heap.size < w6.heap.size + 1 + 1 := Nat.lt_succ_of_lt l6_0b
  have l6_0d : w.heap.size < w6.heap.size + 1 + 1 + 1 := Nat.lt_succ_of_lt l6_0c
  clear c5_0 c5_1 l5_0a l5_0b l5_0c l5_0d l5_1a l5_1b l5_1c l5_1d l5_2a l5_2b l5_2c l5_2d n5_1_0 m5_1_0 n5_1_2 m5_1_2 hB5 hb6
  go_wp2_with fail
  refine (error_same _ HU.out _ (by exact HG.out.belowB (show Below w.heap.size w _ from (by first | exact hB6 | ((repeat' (first | exact hB6 | refine Below.setCell ?_ ?_ _ | refine Below.alloc ?_ ?_ _ | refine Below.drew ?_)) <;> (first | omega | (simp <;> omega))))) HG.out.lt)).mono ?_
  rintro e w7 ⟨rfl, hb7⟩
  have hB7 : Below w.heap.size w w7 := Below.trans (by first | exact hB6 | ((repeat' (first | exact hB6 | refine Below.setCell ?_ ?_ _ | refine Below.alloc ?_ ?_ _ | refine Below.drew ?_)) <;> (first | omega | (simp <;> omega)))) (hb7.mono (by first | omega | (simp <;> omega)))
  have hs7 : w.heap.size ≤ w7.heap.size := hB7.size
  have ht7 := hb7.size
  try simp only [World.size_alloc, World.size_setCell] at ht7
  have c7_0 : w7.cell? ⟨w.heap.size, 0, none⟩ = some (.int .i64 a) := (hb7.cell (p := ⟨w.heap.size, 0, none⟩) (by first | omega | (simp <;> omega))).trans (by first | exact c6_0 | simp [go_sem, c6_0, l6_0a, l6_0b, l6_0c, l6_0d])
  have c7_1 : w7.cell? ⟨w.heap.size, 1, none⟩ = some (.int .i64 n) := (hb7.cell (p := ⟨w.heap.size, 1, none⟩) (by first | omega | (simp <;> omega))).trans (by first | exact c6_1 | simp [go_sem, c6_1, l6_0a, l6_0b, l6_0c, l6_0d])
  have l7_0a : w.heap.size < w7.heap.size := World.block_lt_of_cell? w7 _ c7_0
  have l7_0b : w.heap.size < w7.heap.size + 1 := Nat.lt_succ_of_lt l7_0a
  have l7_0c : w.heap.size < w7.heap.size + 1 + 1 := Nat.lt_succ_of_lt l7_0b
  have l7_0d : w.heap.size < w7.heap.size + 1 + 1 + 1 := Nat.lt_succ_of_lt l7_0c
  clear c6_0 c6_1 l6_0a l6_0b l6_0c l6_0d hB6 hb7
  go_wp2_with fail
  refine (next_bad a n A used c HU.out hm _ ((hl.below (show Below w.heap.size w _ from (by first | exact hB7 | ((repeat' (first | exact hB7 | refine Below.setCell ?_ ?_ _ | refine Below.alloc ?_ ?_ _ | refine Below.drew ?_)) <;> (first | omega | (simp <;> omega)))))).more (show w.heap.size ≤ _ from by first | omega | (simp <;> omega)))).mono ?_
  rintro e w8 ⟨rfl, hb8⟩
  have hB8 : Below w.heap.size w w8 := Below.trans (by first | exact hB7 | ((repeat' (first | exact hB7 | refine Below.setCell ?_ ?_ _ | refine Below.alloc ?_ ?_ _ | refine Below.drew ?_)) <;> (first | omega | (simp <;> omega)))) (hb8.mono (by first | omega | (simp <;> omega)))
  have hs8 : w.heap.size ≤ w8.heap.size := hB8.size
  have ht8 := hb8.size
  try simp only [World.size_alloc, World.size_setCell] at ht8
  have c8_0 : w8.cell? ⟨w.heap.size, 0, none⟩ = some (.int .i64 a) := (hb8.cell (p := ⟨w.heap.size, 0, none⟩) (by first | omega | (simp <;> omega))).trans (by first | exact c7_0 | simp [go_sem, c7_0, l7_0a, l7_0b, l7_0c, l7_0d])
  have c8_1 : w8.cell? ⟨w.heap.size, 1, none⟩ = some (.int .i64 n) := (hb8.cell (p := ⟨w.heap.size, 1, none⟩) (by first | omega | (simp <;> omega))).trans (by first | exact c7_1 | simp [go_sem, c7_1, l7_0a, l7_0b, l7_0c, l7_0d])
  have l8_0a : w.heap.size < w8.heap.size := World.block_lt_of_cell? w8 _ c8_0
  have l8_0b : w.heap.size < w8.heap.size + 1 := Nat.lt_succ_of_lt l8_0a
  have l8_0c : w.heap.size < w8.heap.size + 1 + 1 := Nat.lt_succ_of_lt l8_0b
  have l8_0d : w.heap.size < w8.heap.size + 1 + 1 + 1 := Nat.lt_succ_of_lt l8_0c
  clear c7_0 c7_1 l7_0a l7_0b l7_0c l7_0d hB7 hb8
  go_wp2_with fail
  refine (error_same _ HU.out _ (by exact HG.out.belowB (show Below w.heap.size w _ from (by first | exact hB8 | ((repeat' (first | exact hB8 | refine Below.setCell ?_ ?_ _ | refine Below.alloc ?_ ?_ _ | refine Below.drew ?_)) <;> (first | omega | (simp <;> omega))))) HG.out.lt)).mono ?_
  rintro e w9 ⟨rfl, hb9⟩
  have hB9 : Below w.heap.size w w9 := Below.trans (by first | exact hB8 | ((repeat' (first | exact hB8 | refine Below.setCell ?_ ?_ _ | refine Below.alloc ?_ ?_ _ | refine Below.drew ?_)) <;> (first | omega | (simp <;> omega)))) (hb9.mono (by first | omega | (simp <;> omega)))
  have hs9 : w.heap.size ≤ w9.heap.size := hB9.size
  have ht9 := hb9.size
  try simp only [World.size_alloc, World.size_setCell] at ht9
  have c9_0 : w9.cell? ⟨w.heap.size, 0, none⟩ = some (.int .i64 a) := (hb9.cell (p := ⟨w.heap.size, 0, none⟩) (by first | omega | (simp <;> omega))).trans (by first | exact c8_0 | simp [go_sem, c8_0, l8_0a, l8_0b, l8_0c, l8_0d])
  have c9_1 : w9.cell? ⟨w.heap.size, 1, none⟩ = some (.int .i64 n) := (hb9.cell (p := ⟨w.heap.size, 1, none⟩) (by first | omega | (simp <;> omega))).trans (by first | exact c8_1 | simp [go_sem, c8_1, l8_0a, l8_0b, l8_0c, l8_0d])
  have l9_0a : w.heap.size < w9.heap.size := World.block_lt_of_cell? w9 _ c9_0
  have l9_0b : w.heap.size < w9.heap.size + 1 := Nat.lt_succ_of_lt l9_0a
  have l9_0c : w.heap.size < w9.heap.size + 1 + 1 := Nat.lt_succ_of_lt l9_0b
  have l9_0d : w.heap.size < w9.heap.size + 1 + 1 + 1 := Nat.lt_succ_of_lt l9_0c
  clear c8_0 c8_1 l8_0a l8_0b l8_0c l8_0d hB8 hb9
  go_wp2
  go_ret
  exact ⟨rfl, (by first | exact hB9 | ((repeat' (first | exact hB9 | refine Below.setCell ?_ ?_ _ | refine Below.alloc ?_ ?_ _ | refine Below.drew ?_)) <;> (first | omega | (simp <;> omega))))⟩

set_option maxRecDepth 100000 in
set_option maxHeartbeats 8000000 in
theorem hostIs_3 (a n : Int) (A : Option Addr) (used : List Int) (c : Nat) (hm : used.length ≤ maxLen) (hcap : used.length ≤ c) (hu : usedFault a n used = 0) (hx : nextOf a n used ≤ uHi a n) (w : World) (hg : ErrVar w) (hl : Rd w w.heap.size A (used.map (Value.int .i64))) :
    Calls Tryd.prog 3 #[.agg #[.int .i64 a, .int .i64 n], .slice A used.length c] w fun e w' => e = .returned (.bool true) ∧ Below w.heap.size w w' := by
  have HG := Lib.hid hg
  clear hg
  have HC := Lib.hid (usedFault_zero.1 hu).1
  have HU := Lib.hid hu
  have HX := Lib.hid hx
  clear hu hx
  go_enter Tryd.func3, Tryd.ntmps3
  go_wp2_with fail
  refine (fault_any a n _).mono ?_
  rintro e w1 ⟨rfl, hb1⟩
  have hB1 : Below w.heap.size w w1 := Below.trans (by first | exact Below.refl _ _ | ((repeat' (first | exact Below.refl _ _ | refine Below.setCell ?_ ?_ _ | refine Below.alloc ?_ ?_ _ | refine Below.drew ?_)) <;> (first | omega | (simp <;> omega)))) (hb1.mono (by first | omega | (simp <;> omega)))
  have hs1 : w.heap.size ≤ w1.heap.size := hB1.size
  have ht1 := hb1.size
  try simp only [World.size_alloc, World.size_setCell] at ht1
  have c1_0 : w1.cell? ⟨w.heap.size, 0, none⟩ = some (.int .i64 a) := (hb1.cell (p := ⟨w.heap.size, 0, none⟩) (by first | omega | (simp <;> omega))).trans (by first | (simp; done) | simp [go_sem])
  have c1_1 : w1.cell? ⟨w.heap.size, 1, none⟩ = some (.int .i64 n) := (hb1.cell (p := ⟨w.heap.size, 1, none⟩) (by first | omega | (simp <;> omega))).trans (by first | (simp; done) | simp [go_sem])
  have l1_0a : w.heap.size < w1.heap.size := World.block_lt_of_cell? w1 _ c1_0
  have l1_0b : w.heap.size < w1.heap.size + 1 := Nat.lt_succ_of_lt l1_0a
  have l1_0c : w.heap.size < w1.heap.size + 1 + 1 := Nat.lt_succ_of_lt l1_0b
  have l1_0d : w.heap.size < w1.heap.size + 1 + 1 + 1 := Nat.lt_succ_of_lt l1_0c
  clear hb1
  rw [HC.out]
  go_wp2_with fail
  refine (usableOf_any a n HC.out _).mono ?_
  rintro e w2 ⟨rfl, hb2⟩
  have hB2 : Below w.heap.size w w2 := Below.trans (by first | exact hB1 | ((repeat' (first | exact hB1 | refine Below.setCell ?_ ?_ _ | refine Below.alloc ?_ ?_ _ | refine Below.drew ?_)) <;> (first | omega | (simp <;> omega)))) (hb2.mono (by first | omega | (simp <;> omega)))
  have hs2 : w.heap.size ≤ w2.heap.size := hB2.size
  have ht2 := hb2.size
  try simp only [World.size_alloc, World.size_setCell] at ht2
  have c2_0 : w2.cell? ⟨w.heap.size, 0, none⟩ = some (.int .i64 a) := (hb2.cell (p := ⟨w.heap.size, 0, none⟩) (by first | omega | (simp <;> omega))).trans (by first | exact c1_0 | simp [go_sem, c1_0, l1_0a, l1_0b, l1_0c, l1_0d])
  have c2_1 : w2.cell? ⟨w.heap.size, 1, none⟩ = some (.int .i64 n) := (hb2.cell (p := ⟨w.heap.size, 1, none⟩) (by first | omega | (simp <;> omega))).trans (by first | exact c1_1 | simp [go_sem, c1_1, l1_0a, l1_0b, l1_0c, l1_0d])
  have c2_2 : w2.cell? ⟨w1.heap.size, 0, none⟩ = some (.int .i64 0) := (hb2.cell (p := ⟨w1.heap.size, 0, none⟩) (by first | omega | (simp <;> omega))).trans (by first | (simp; done) | simp [go_sem, l1_0a, l1_0b, l1_0c, l1_0d, c1_0, c1_1])
  have fc2_2 : w2.frozen? ⟨w1.heap.size, 0, none⟩ = false := (hb2.frozen (p := ⟨w1.heap.size, 0, none⟩) (by first | omega | (simp <;> omega))).trans (by first | (simp; done) | simp [go_sem, l1_0a, l1_0b, l1_0c, l1_0d, c1_0, c1_1])
  have c2_3 : w2.cell? ⟨w1.heap.size, 1, none⟩ = some (.int .i64 0) := (hb2.cell (p := ⟨w1.heap.size, 1, none⟩) (by first | omega | (simp <;> omega))).trans (by first | (simp; done) | simp [go_sem, l1_0a, l1_0b, l1_0c, l1_0d, c1_0, c1_1])
  have fc2_3 : w2.frozen? ⟨w1.heap.size, 1, none⟩ = false := (hb2.frozen (p := ⟨w1.heap.size, 1, none⟩) (by first | omega | (simp <;> omega))).trans (by first | (simp; done) | simp [go_sem, l1_0a, l1_0b, l1_0c, l1_0d, c1_0, c1_1])
  have l2_0a : w.heap.size < w2.heap.size := World.block_lt_of_cell? w2 _ c2_0
  have l2_0b : w.heap.size < w2.heap.size + 1 := Nat.lt_succ_of_lt l2_0a
  have l2_0c : w.heap.size < w2.heap.size + 1 + 1 := Nat.lt_succ_of_lt l2_0b
  have l2_0d : w.heap.size < w2.heap.size + 1 + 1 + 1 := Nat.lt_succ_of_lt l2_0c
  have l2_1a : w1.heap.size < w2.heap.size := World.block_lt_of_cell? w2 _ c2_2
  have l2_1b : w1.heap.size < w2.heap.size + 1 := Nat.lt_succ_of_lt l2_1a
  have l2_1c : w1.heap.size < w2.heap.size + 1 + 1 := Nat.lt_succ_of_lt l2_1b
  have l2_1d : w1.heap.size < w2.heap.size + 1 + 1 + 1 := Nat.lt_succ_of_lt l2_1c
  have n2_1_0 : w1.heap.size ≠ w.heap.size := by omega
  have m2_1_0 : w.heap.size ≠ w1.heap.size := by omega
  clear c1_0 c1_1 l1_0a l1_0b l1_0c l1_0d hB1 hb2
  go_wp2_with fail
  refine (usable_ok a n HC.out _).mono ?_
  rintro e w3 ⟨rfl, hb3⟩
  have hB3 : Below w.heap.size w w3 := Below.trans (by first | exact hB2 | ((repeat' (first | exact hB2 | refine Below.setCell ?_ ?_ _ | refine Below.alloc ?_ ?_ _ | refine Below.drew ?_)) <;> (first | omega | (simp <;> omega)))) (hb3.mono (by first | omega | (simp <;> omega)))
  have hs3 : w.heap.size ≤ w3.heap.size := hB3.size
  have ht3 := hb3.size
  try simp only [World.size_alloc, World.size_setCell] at ht3
  have c3_0 : w3.cell? ⟨w.heap.size, 0, none⟩ = some (.int .i64 a) := (hb3.cell (p := ⟨w.heap.size, 0, none⟩) (by first | omega | (simp <;> omega))).trans (by first | exact c2_0 | simp [go_sem, c2_0, l2_0a, l2_0b, l2_0c, l2_0d, l2_1a, l2_1b, l2_1c, l2_1d, n2_1_0, m2_1_0])
  have c3_1 : w3.cell? ⟨w.heap.size, 1, none⟩ = some (.int .i64 n) := (hb3.cell (p := ⟨w.heap.size, 1, none⟩) (by first | omega | (simp <;> omega))).trans (by first | exact c2_1 | simp [go_sem, c2_1, l2_0a, l2_0b, l2_0c, l2_0d, l2_1a, l2_1b, l2_1c, l2_1d, n2_1_0, m2_1_0])
  have c3_2 : w3.cell? ⟨w1.heap.size, 0, none⟩ = some (.int .i64 (uLo a n)) := (hb3.cell (p := ⟨w1.heap.size, 0, none⟩) (by first | omega | (simp <;> omega))).trans (by first | (simp; done) | simp [go_sem, l2_0a, l2_0b, l2_0c, l2_0d, l2_1a, l2_1b, l2_1c, l2_1d, n2_1_0, m2_1_0, c2_0, c2_1, c2_2, c2_3, fc2_2, fc2_3])
  have fc3_2 : w3.frozen? ⟨w1.heap.size, 0, none⟩ = false := (hb3.frozen (p := ⟨w1.heap.size, 0, none⟩) (by first | omega | (simp <;> omega))).trans (by first | (simp; done) | simp [go_sem, l2_0a, l2_0b, l2_0c, l2_0d, l2_1a, l2_1b, l2_1c, l2_1d, n2_1_0, m2_1_0, c2_0, c2_1, c2_2, c2_3, fc2_2, fc2_3])
  have c3_3 : w3.cell? ⟨w1.heap.size, 1, none⟩ = some (.int .i64 (uHi a n)) := (hb3.cell (p := ⟨w1.heap.size, 1, none⟩) (by first | omega | (simp <;> omega))).trans (by first | (simp; done) | simp [go_sem, l2_0a, l2_0b, l2_0c, l2_0d, l2_1a, l2_1b, l2_1c, l2_1d, n2_1_0, m2_1_0, c2_0, c2_1, c2_2, c2_3, fc2_2, fc2_3])
  have fc3_3 : w3.frozen? ⟨w1.heap.size, 1, none⟩ = false := (hb3.frozen (p := ⟨w1.heap.size, 1, none⟩) (by first | omega | (simp <;> omega))).trans (by first | (simp; done) | simp [go_sem, l2_0a, l2_0b, l2_0c, l2_0d, l2_1a, l2_1b, l2_1c, l2_1d, n2_1_0, m2_1_0, c2_0, c2_1, c2_2, c2_3, fc2_2, fc2_3])
  have l3_0a : w.heap.size < w3.heap.size := World.block_lt_of_cell? w3 _ c3_0
  have l3_0b : w.heap.size < w3.heap.size + 1 := Nat.lt_succ_of_lt l3_0a
  have l3_0c : w.heap.size < w3.heap.size + 1 + 1 := Nat.lt_succ_of_lt l3_0b
  have l3_0d : w.heap.size < w3.heap.size + 1 + 1 + 1 := Nat.lt_succ_of_lt l3_0c
  have l3_1a : w1.heap.size < w3.heap.size := World.block_lt_of_cell? w3 _ c3_2
  have l3_1b : w1.heap.size < w3.heap.size + 1 := Nat.lt_succ_of_lt l3_1a
  have l3_1c : w1.heap.size < w3.heap.size + 1 + 1 := Nat.lt_succ_of_lt l3_1b
  have l3_1d : w1.heap.size < w3.heap.size + 1 + 1 + 1 := Nat.lt_succ_of_lt l3_1c
  have n3_1_0 : w1.heap.size ≠ w.heap.size := by omega
  have m3_1_0 : w.heap.size ≠ w1.heap.size := by omega
  clear c2_0 c2_1 c2_2 c2_3 fc2_2 fc2_3 l2_0a l2_0b l2_0c l2_0d l2_1a l2_1b l2_1c l2_1d n2_1_0 m2_1_0 hB2 hb3
  go_wp2_with fail
  refine (error_nil0 _ (by exact HG.out.belowB (show Below w.heap.size w _ from (by first | exact hB3 | ((repeat' (first | exact hB3 | refine Below.setCell ?_ ?_ _ | refine Below.alloc ?_ ?_ _ | refine Below.drew ?_)) <;> (first | omega | (simp <;> omega))))) HG.out.lt)).mono ?_
  rintro e w4 ⟨rfl, hb4⟩
  have hB4 : Below w.heap.size w w4 := Below.trans (by first | exact hB3 | ((repeat' (first | exact hB3 | refine Below.setCell ?_ ?_ _ | refine Below.alloc ?_ ?_ _ | refine Below.drew ?_)) <;> (first | omega | (simp <;> omega)))) (hb4.mono (by first | omega | (simp <;> omega)))
  have hs4 : w.heap.size ≤ w4.heap.size := hB4.size
  have ht4 := hb4.size
  try simp only [World.size_alloc, World.size_setCell] at ht4
  have c4_0 : w4.cell? ⟨w.heap.size, 0, none⟩ = some (.int .i64 a) := (hb4.cell (p := ⟨w.heap.size, 0, none⟩) (by first | omega | (simp <;> omega))).trans (by first | exact c3_0 | simp [go_sem, c3_0, l3_0a, l3_0b, l3_0c, l3_0d, l3_1a, l3_1b, l3_1c, l3_1d, n3_1_0, m3_1_0])
  have c4_1 : w4.cell? ⟨w.heap.size, 1, none⟩ = some (.int .i64 n) := (hb4.cell (p := ⟨w.heap.size, 1, none⟩) (by first | omega | (simp <;> omega))).trans (by first | exact c3_1 | simp [go_sem, c3_1, l3_0a, l3_0b, l3_0c, l3_0d, l3_1a, l3_1b, l3_1c, l3_1d, n3_1_0, m3_1_0])
  have c4_2 : w4.cell? ⟨w1.heap.size, 0, none⟩ = some (.int .i64 (uLo a n)) := (hb4.cell (p := ⟨w1.heap.size, 0, none⟩) (by first | omega | (simp <;> omega))).trans (by first | exact c3_2 | simp [go_sem, c3_2, l3_0a, l3_0b, l3_0c, l3_0d, l3_1a, l3_1b, l3_1c, l3_1d, n3_1_0, m3_1_0])
  have fc4_2 : w4.frozen? ⟨w1.heap.size, 0, none⟩ = false := (hb4.frozen (p := ⟨w1.heap.size, 0, none⟩) (by first | omega | (simp <;> omega))).trans (by first | exact fc3_2 | simp [go_sem, fc3_2, l3_0a, l3_0b, l3_0c, l3_0d, l3_1a, l3_1b, l3_1c, l3_1d, n3_1_0, m3_1_0])
  have c4_3 : w4.cell? ⟨w1.heap.size, 1, none⟩ = some (.int .i64 (uHi a n)) := (hb4.cell (p := ⟨w1.heap.size, 1, none⟩) (by first | omega | (simp <;> omega))).trans (by first | exact c3_3 | simp [go_sem, c3_3, l3_0a, l3_0b, l3_0c, l3_0d, l3_1a, l3_1b, l3_1c, l3_1d, n3_1_0, m3_1_0])
  have fc4_3 : w4.frozen? ⟨w1.heap.size, 1, none⟩ = false := (hb4.frozen (p := ⟨w1.heap.size, 1, none⟩) (by first | omega | (simp <;> omega))).trans (by first | exact fc3_3 | simp [go_sem, fc3_3, l3_0a, l3_0b, l3_0c, l3_0d, l3_1a, l3_1b, l3_1c, l3_1d, n3_1_0, m3_1_0])
  have c4_4 : w4.cell? ⟨w3.heap.size, 0, none⟩ = some (.int .i64 (uLo a n)) := (hb4.cell (p := ⟨w3.heap.size, 0, none⟩) (by first | omega | (simp <;> omega))).trans (by first | (simp; done) | simp [go_sem, l3_0a, l3_0b, l3_0c, l3_0d, l3_1a, l3_1b, l3_1c, l3_1d, n3_1_0, m3_1_0, c3_0, c3_1, c3_2, c3_3, fc3_2, fc3_3])
  have c4_5 : w4.cell? ⟨w3.heap.size, 1, none⟩ = some (.int .i64 (uHi a n)) := (hb4.cell (p := ⟨w3.heap.size, 1, none⟩) (by first | omega | (simp <;> omega))).trans (by first | (simp; done) | simp [go_sem, l3_0a, l3_0b, l3_0c, l3_0d, l3_1a, l3_1b, l3_1c, l3_1d, n3_1_0, m3_1_0, c3_0, c3_1, c3_2, c3_3, fc3_2, fc3_3])
  have l4_0a : w.heap.size < w4.heap.size := World.block_lt_of_cell? w4 _ c4_0
  have l4_0b : w.heap.size < w4.heap.size + 1 := Nat.lt_succ_of_lt l4_0a
  have l4_0c : w.heap.size < w4.heap.size + 1 + 1 := Nat.lt_succ_of_lt l4_0b
  have l4_0d : w.heap.size < w4.heap.size + 1 + 1 + 1 := Nat.lt_succ_of_lt l4_0c
  have l4_1a : w1.heap.size < w4.heap.size := World.block_lt_of_cell? w4 _ c4_2
  have l4_1b : w1.heap.size < w4.heap.size + 1 := Nat.lt_succ_of_lt l4_1a
  have l4_1c : w1.heap.size < w4.heap.size + 1 + 1 := Nat.lt_succ_of_lt l4_1b
  have l4_1d : w1.heap.size < w4.heap.size + 1 + 1 + 1 := Nat.lt_succ_of_lt l4_1c
  have l4_2a : w3.heap.size < w4.heap.size := World.block_lt_of_cell? w4 _ c4_4
  have l4_2b : w3.heap.size < w4.heap.size + 1 := Nat.lt_succ_of_lt l4_2a
  have l4_2c : w3.heap.size < w4.heap.size + 1 + 1 := Nat.lt_succ_of_lt l4_2b
  have l4_2d : w3.heap.size < w4.heap.size + 1 + 1 + 1 := Nat.lt_succ_of_lt l4_2c
  have n4_1_0 : w1.heap.size ≠ w.heap.size := by omega
  have m4_1_0 : w.heap.size ≠ w1.heap.size := by omega
  have n4_1_2 : w1.heap.size ≠ w3.heap.size := by omega
  have m4_1_2 : w3.heap.size ≠ w1.heap.size := by omega
  clear c3_0 c3_1 c3_2 c3_3 fc3_2 fc3_3 l3_0a l3_0b l3_0c l3_0d l3_1a l3_1b l3_1c l3_1d n3_1_0 m3_1_0 hB3 hb4
  go_wp2_with fail
  refine (usedFault_any a n A used c hm _ ((hl.below (show Below w.heap.size w _ from (by first | exact hB4 | ((repeat' (first | exact hB4 | refine Below.setCell ?_ ?_ _ | refine Below.alloc ?_ ?_ _ | refine Below.drew ?_)) <;> (first | omega | (simp <;> omega)))))).more (show w.heap.size ≤ _ from by first | omega | (simp <;> omega)))).mono ?_
  rintro e w5 ⟨rfl, hb5⟩
  have hB5 : Below w.heap.size w w5 := Below.trans (by first | exact hB4 | ((repeat' (first | exact hB4 | refine Below.setCell ?_ ?_ _ | refine Below.alloc ?_ ?_ _ | refine Below.drew ?_)) <;> (first | omega | (simp <;> omega)))) (hb5.mono (by first | omega | (simp <;> omega)))
  have hs5 : w.heap.size ≤ w5.heap.size := hB5.size
  have ht5 := hb5.size
  try simp only [World.size_alloc, World.size_setCell] at ht5
  have c5_0 : w5.cell? ⟨w.heap.size, 0, none⟩ = some (.int .i64 a) := (hb5.cell (p := ⟨w.heap.size, 0, none⟩) (by first | omega | (simp <;> omega))).trans (by first | exact c4_0 | simp [go_sem, c4_0, l4_0a, l4_0b, l4_0c, l4_0d, l4_1a, l4_1b, l4_1c, l4_1d, l4_2a, l4_2b, l4_2c, l4_2d, n4_1_0, m4_1_0, n4_1_2, m4_1_2])
  have c5_1 : w5.cell? ⟨w.heap.size, 1, none⟩ = some (.int .i64 n) := (hb5.cell (p := ⟨w.heap.size, 1, none⟩) (by first | omega | (simp <;> omega))).trans (by first | exact c4_1 | simp [go_sem, c4_1, l4_0a, l4_0b, l4_0c, l4_0d, l4_1a, l4_1b, l4_1c, l4_1d, l4_2a, l4_2b, l4_2c, l4_2d, n4_1_0, m4_1_0, n4_1_2, m4_1_2])
  have c5_2 : w5.cell? ⟨w1.heap.size, 0, none⟩ = some (.int .i64 (uLo a n)) := (hb5.cell (p := ⟨w1.heap.size, 0, none⟩) (by first | omega | (simp <;> omega))).trans (by first | exact c4_2 | simp [go_sem, c4_2, l4_0a, l4_0b, l4_0c, l4_0d, l4_1a, l4_1b, l4_1c, l4_1d, l4_2a, l4_2b, l4_2c, l4_2d, n4_1_0, m4_1_0, n4_1_2, m4_1_2])
  have fc5_2 : w5.frozen? ⟨w1.heap.size, 0, none⟩ = false := (hb5.frozen (p := ⟨w1.heap.size, 0, none⟩) (by first | omega | (simp <;> omega))).trans (by first | exact fc4_2 | simp [go_sem, fc4_2, l4_0a, l4_0b, l4_0c, l4_0d, l4_1a, l4_1b, l4_1c, l4_1d, l4_2a, l4_2b, l4_2c, l4_2d, n4_1_0, m4_1_0, n4_1_2, m4_1_2])
  have c5_3 : w5.cell? ⟨w1.heap.size, 1, none⟩ = some (.int .i64 (uHi a n)) := (hb5.cell (p := ⟨w1.heap.size, 1, none⟩) (by first | omega | (simp <;> omega))).trans (by first | exact c4_3 | simp [go_sem, c4_3, l4_0a, l4_0b, l4_0c, l4_0d, l4_1a, l4_1b, l4_1c, l4_1d, l4_2a, l4_2b, l4_2c, l4_2d, n4_1_0, m4_1_0, n4_1_2, m4_1_2])
  have fc5_3 : w5.frozen? ⟨w1.heap.size, 1, none⟩ = false := (hb5.frozen (p := ⟨w1.heap.size, 1, none⟩) (by first | omega | (simp <;> omega))).trans (by first | exact fc4_3 | simp [go_sem, fc4_3, l4_0a, l4_0b, l4_0c, l4_0d, l4_1a, l4_1b, l4_1c, l4_1d, l4_2a, l4_2b, l4_2c, l4_2d, n4_1_0, m4_1_0, n4_1_2, m4_1_2])
  have c5_4 : w5.cell? ⟨w3.heap.size, 0, none⟩ = some (.int .i64 (uLo a n)) := (hb5.cell (p := ⟨w3.heap.size, 0, none⟩) (by first | omega | (simp <;> omega))).trans (by first | exact c4_4 | simp [go_sem, c4_4, l4_0a, l4_0b, l4_0c, l4_0d, l4_1a, l4_1b, l4_1c, l4_1d, l4_2a, l4_2b, l4_2c, l4_2d, n4_1_0, m4_1_0, n4_1_2, m4_1_2])
  have c5_5 : w5.cell? ⟨w3.heap.size, 1, none⟩ = some (.int .i64 (uHi a n)) := (hb5.cell (p := ⟨w3.heap.size, 1, none⟩) (by first | omega | (simp <;> omega))).trans (by first | exact c4_5 | simp [go_sem, c4_5, l4_0a, l4_0b, l4_0c, l4_0d, l4_1a, l4_1b, l4_1c, l4_1d, l4_2a, l4_2b, l4_2c, l4_2d, n4_1_0, m4_1_0, n4_1_2, m4_1_2])
  have l5_0a : w.heap.size < w5.heap.size := World.block_lt_of_cell? w5 _ c5_0
  have l5_0b : w.heap.size < w5.heap.size + 1 := Nat.lt_succ_of_lt l5_0a
  have l5_0c : w.heap.size < w5.heap.size + 1 + 1 := Nat.lt_succ_of_lt l5_0b
  have l5_0d : w.heap.size < w5.heap.size + 1 + 1 + 1 := Nat.lt_succ_of_lt l5_0c
  have l5_1a : w1.heap.size < w5.heap.size := World.block_lt_of_cell? w5 _ c5_2
  have l5_1b : w1.heap.size < w5.heap.size + 1 := Nat.lt_succ_of_lt l5_1a
  have l5_1c : w1.heap.size < w5.heap.size + 1 + 1 := Nat.lt_succ_of_lt l5_1b
  have l5_1d : w1.heap.size < w5.heap.size + 1 + 1 + 1 := Nat.lt_succ_of_lt l5_1c
  have l5_2a : w3.heap.size < w5.heap.size := World.block_lt_of_cell? w5 _ c5_4
  have l5_2b : w3.heap.size < w5.heap.size + 1 := Nat.lt_succ_of_lt l5_2a
  have l5_2c : w3.heap.size < w5.heap.size + 1 + 1 := Nat.lt_succ_of_lt l5_2b
  have l5_2d : w3.heap.size < w5.heap.size + 1 + 1 + 1 := Nat.lt_succ_of_lt l5_2c
  have n5_1_0 : w1.heap.size ≠ w.heap.size := by omega
  have m5_1_0 : w.heap.size ≠ w1.heap.size := by omega
  have n5_1_2 : w1.heap.size ≠ w3.heap.size := by omega
  have m5_1_2 : w3.heap.size ≠ w1.heap.size := by omega
  clear c4_0 c4_1 c4_2 c4_3 c4_4 c4_5 fc4_2 fc4_3 l4_0a l4_0b l4_0c l4_0d l4_1a l4_1b l4_1c l4_1d l4_2a l4_2b l4_2c l4_2d n4_1_0 m4_1_0 n4_1_2 m4_1_2 hB4 hb5
  rw [HU.out]
  clear c5_2 c5_3 fc5_2 fc5_3
  clear c5_4 c5_5
  go_wp2_with fail
  refine (shareOf_any a n A used c HC.out hm hcap _ ((hl.below (show Below w.heap.size w _ from (by first | exact hB5 | ((repeat' (first | exact hB5 | refine Below.setCell ?_ ?_ _ | refine Below.alloc ?_ ?_ _ | refine Below.drew ?_)) <;> (first | omega | (simp <;> omega)))))).more (show w.heap.size ≤ _ from by first | omega | (simp <;> omega)))).mono ?_
  rintro e w6 ⟨rfl, hb6⟩
  have hB6 : Below w.heap.size w w6 := Below.trans (by first | exact hB5 | ((repeat' (first | exact hB5 | refine Below.setCell ?_ ?_ _ | refine Below.alloc ?_ ?_ _ | refine Below.drew ?_)) <;> (first | omega | (simp <;> omega)))) (hb6.mono (by first | omega | (simp <;> omega)))
  have hs6 : w.heap.size ≤ w6.heap.size := hB6.size
  have ht6 := hb6.size
  try simp only [World.size_alloc, World.size_setCell] at ht6
  have c6_0 : w6.cell? ⟨w.heap.size, 0, none⟩ = some (.int .i64 a) := (hb6.cell (p := ⟨w.heap.size, 0, none⟩) (by first | omega | (simp <;> omega))).trans (by first | exact c5_0 | simp [go_sem, c5_0, l5_0a, l5_0b, l5_0c, l5_0d, l5_1a, l5_1b, l5_1c, l5_1d, l5_2a, l5_2b, l5_2c, l5_2d, n5_1_0, m5_1_0, n5_1_2, m5_1_2])
  have c6_1 : w6.cell? ⟨w.heap.size, 1, none⟩ = some (.int .i64 n) := (hb6.cell (p := ⟨w.heap.size, 1, none⟩) (by first | omega | (simp <;> omega))).trans (by first | exact c5_1 | simp [go_sem, c5_1, l5_0a, l5_0b, l5_0c, l5_0d, l5_1a, l5_1b, l5_1c, l5_1d, l5_2a, l5_2b, l5_2c, l5_2d, n5_1_0, m5_1_0, n5_1_2, m5_1_2])
  have l6_0a : w.heap.size < w6.heap.size := World.block_lt_of_cell? w6 _ c6_0
  have l6_0b : w.heap.size < w6.heap.size + 1 := Nat.lt_succ_of_lt l6_0a
  have l6_0c : w.heap.size < w6.heap.size + 1 + 1 := Nat.lt_succ_of_lt l6_0b
  have l6_0d : w.heap.size < w6.heap.size + 1 + 1 + 1 := Nat.lt_succ_of_lt l6_0c
  clear c5_0 c5_1 l5_0a l5_0b l5_0c l5_0d l5_1a l5_1b l5_1c l5_1d l5_2a l5_2b l5_2c l5_2d n5_1_0 m5_1_0 n5_1_2 m5_1_2 hB5 hb6
  go_wp2_with fail
  refine (share_ok' a n A used c HU.out _ ((hl.below (show Below w.heap.size w _ from (by first | exact hB6 | ((repeat' (first | exact hB6 | refine Below.setCell ?_ ?_ _ | refine Below.alloc ?_ ?_ _ | refine Below.drew ?_)) <;> (first | omega | (simp <;> omega)))))).more (show w.heap.size ≤ _ from by first | omega | (simp <;> omega)))).mono ?_
  rintro e w7 ⟨rfl, hb7⟩
  have hB7 : Below w.heap.size w w7 := Below.trans (by first | exact hB6 | ((repeat' (first | exact hB6 | refine Below.setCell ?_ ?_ _ | refine Below.alloc ?_ ?_ _ | refine Below.drew ?_)) <;> (first | omega | (simp <;> omega)))) (hb7.mono (by first | omega | (simp <;> omega)))
  have hs7 : w.heap.size ≤ w7.heap.size := hB7.size
  have ht7 := hb7.size
  try simp only [World.size_alloc, World.size_setCell] at ht7
  have c7_0 : w7.cell? ⟨w.heap.size, 0, none⟩ = some (.int .i64 a) := (hb7.cell (p := ⟨w.heap.size, 0, none⟩) (by first | omega | (simp <;> omega))).trans (by first | exact c6_0 | simp [go_sem, c6_0, l6_0a, l6_0b, l6_0c, l6_0d])
  have c7_1 : w7.cell? ⟨w.heap.size, 1, none⟩ = some (.int .i64 n) := (hb7.cell (p := ⟨w.heap.size, 1, none⟩) (by first | omega | (simp <;> omega))).trans (by first | exact c6_1 | simp [go_sem, c6_1, l6_0a, l6_0b, l6_0c, l6_0d])
  have l7_0a : w.heap.size < w7.heap.size := World.block_lt_of_cell? w7 _ c7_0
  have l7_0b : w.heap.size < w7.heap.size + 1 := Nat.lt_succ_of_lt l7_0a
  have l7_0c : w.heap.size < w7.heap.size + 1 + 1 := Nat.lt_succ_of_lt l7_0b
  have l7_0d : w.heap.size < w7.heap.size + 1 + 1 + 1 := Nat.lt_succ_of_lt l7_0c
  clear c6_0 c6_1 l6_0a l6_0b l6_0c l6_0d hB6 hb7
  go_wp2_with fail
  refine (error_nil0 _ (by exact HG.out.belowB (show Below w.heap.size w _ from (by first | exact hB7 | ((repeat' (first | exact hB7 | refine Below.setCell ?_ ?_ _ | refine Below.alloc ?_ ?_ _ | refine Below.drew ?_)) <;> (first | omega | (simp <;> omega))))) HG.out.lt)).mono ?_
  rintro e w8 ⟨rfl, hb8⟩
  have hB8 : Below w.heap.size w w8 := Below.trans (by first | exact hB7 | ((repeat' (first | exact hB7 | refine Below.setCell ?_ ?_ _ | refine Below.alloc ?_ ?_ _ | refine Below.drew ?_)) <;> (first | omega | (simp <;> omega)))) (hb8.mono (by first | omega | (simp <;> omega)))
  have hs8 : w.heap.size ≤ w8.heap.size := hB8.size
  have ht8 := hb8.size
  try simp only [World.size_alloc, World.size_setCell] at ht8
  have c8_0 : w8.cell? ⟨w.heap.size, 0, none⟩ = some (.int .i64 a) := (hb8.cell (p := ⟨w.heap.size, 0, none⟩) (by first | omega | (simp <;> omega))).trans (by first | exact c7_0 | simp [go_sem, c7_0, l7_0a, l7_0b, l7_0c, l7_0d])
  have c8_1 : w8.cell? ⟨w.heap.size, 1, none⟩ = some (.int .i64 n) := (hb8.cell (p := ⟨w.heap.size, 1, none⟩) (by first | omega | (simp <;> omega))).trans (by first | exact c7_1 | simp [go_sem, c7_1, l7_0a, l7_0b, l7_0c, l7_0d])
  have l8_0a : w.heap.size < w8.heap.size := World.block_lt_of_cell? w8 _ c8_0
  have l8_0b : w.heap.size < w8.heap.size + 1 := Nat.lt_succ_of_lt l8_0a
  have l8_0c : w.heap.size < w8.heap.size + 1 + 1 := Nat.lt_succ_of_lt l8_0b
  have l8_0d : w.heap.size < w8.heap.size + 1 + 1 + 1 := Nat.lt_succ_of_lt l8_0c
  clear c7_0 c7_1 l7_0a l7_0b l7_0c l7_0d hB7 hb8
  go_wp2_with fail
  refine (nextOf_yes a n A used c HC.out hm (by have := HX.out; omega) _ ((hl.below (show Below w.heap.size w _ from (by first | exact hB8 | ((repeat' (first | exact hB8 | refine Below.setCell ?_ ?_ _ | refine Below.alloc ?_ ?_ _ | refine Below.drew ?_)) <;> (first | omega | (simp <;> omega)))))).more (show w.heap.size ≤ _ from by first | omega | (simp <;> omega)))).mono ?_
  rintro e w9 ⟨rfl, hb9⟩
  have hB9 : Below w.heap.size w w9 := Below.trans (by first | exact hB8 | ((repeat' (first | exact hB8 | refine Below.setCell ?_ ?_ _ | refine Below.alloc ?_ ?_ _ | refine Below.drew ?_)) <;> (first | omega | (simp <;> omega)))) (hb9.mono (by first | omega | (simp <;> omega)))
  have hs9 : w.heap.size ≤ w9.heap.size := hB9.size
  have ht9 := hb9.size
  try simp only [World.size_alloc, World.size_setCell] at ht9
  have c9_0 : w9.cell? ⟨w.heap.size, 0, none⟩ = some (.int .i64 a) := (hb9.cell (p := ⟨w.heap.size, 0, none⟩) (by first | omega | (simp <;> omega))).trans (by first | exact c8_0 | simp [go_sem, c8_0, l8_0a, l8_0b, l8_0c, l8_0d])
  have c9_1 : w9.cell? ⟨w.heap.size, 1, none⟩ = some (.int .i64 n) := (hb9.cell (p := ⟨w.heap.size, 1, none⟩) (by first | omega | (simp <;> omega))).trans (by first | exact c8_1 | simp [go_sem, c8_1, l8_0a, l8_0b, l8_0c, l8_0d])
  have l9_0a : w.heap.size < w9.heap.size := World.block_lt_of_cell? w9 _ c9_0
  have l9_0b : w.heap.size < w9.heap.size + 1 := Nat.lt_succ_of_lt l9_0a
  have l9_0c : w.heap.size < w9.heap.size + 1 + 1 := Nat.lt_succ_of_lt l9_0b
  have l9_0d : w.heap.size < w9.heap.size + 1 + 1 + 1 := Nat.lt_succ_of_lt l9_0c
  clear c8_0 c8_1 l8_0a l8_0b l8_0c l8_0d hB8 hb9
  go_wp2_with fail
  refine (next_yes a n A used c HU.out (by have := HX.out; omega) _ ((hl.below (show Below w.heap.size w _ from (by first | exact hB9 | ((repeat' (first | exact hB9 | refine Below.setCell ?_ ?_ _ | refine Below.alloc ?_ ?_ _ | refine Below.drew ?_)) <;> (first | omega | (simp <;> omega)))))).more (show w.heap.size ≤ _ from by first | omega | (simp <;> omega)))).mono ?_
  rintro e w10 ⟨rfl, hb10⟩
  have hB10 : Below w.heap.size w w10 := Below.trans (by first | exact hB9 | ((repeat' (first | exact hB9 | refine Below.setCell ?_ ?_ _ | refine Below.alloc ?_ ?_ _ | refine Below.drew ?_)) <;> (first | omega | (simp <;> omega)))) (hb10.mono (by first | omega | (simp <;> omega)))
  have hs10 : w.heap.size ≤ w10.heap.size := hB10.size
  have ht10 := hb10.size
  try simp only [World.size_alloc, World.size_setCell] at ht10
  have c10_0 : w10.cell? ⟨w.heap.size, 0, none⟩ = some (.int .i64 a) := (hb10.cell (p := ⟨w.heap.size, 0, none⟩) (by first | omega | (simp <;> omega))).trans (by first | exact c9_0 | simp [go_sem, c9_0, l9_0a, l9_0b, l9_0c, l9_0d])
  have c10_1 : w10.cell? ⟨w.heap.size, 1, none⟩ = some (.int .i64 n) := (hb10.cell (p := ⟨w.heap.size, 1, none⟩) (by first | omega | (simp <;> omega))).trans (by first | exact c9_1 | simp [go_sem, c9_1, l9_0a, l9_0b, l9_0c, l9_0d])
  have l10_0a : w.heap.size < w10.heap.size := World.block_lt_of_cell? w10 _ c10_0
  have l10_0b : w.heap.size < w10.heap.size + 1 := Nat.lt_succ_of_lt l10_0a
  have l10_0c : w.heap.size < w10.heap.size + 1 + 1 := Nat.lt_succ_of_lt l10_0b
  have l10_0d : w.heap.size < w10.heap.size + 1 + 1 + 1 := Nat.lt_succ_of_lt l10_0c
  clear c9_0 c9_1 l9_0a l9_0b l9_0c l9_0d hB9 hb10
  go_wp2_with fail
  refine (error_nil0 _ (by exact HG.out.belowB (show Below w.heap.size w _ from (by first | exact hB10 | ((repeat' (first | exact hB10 | refine Below.setCell ?_ ?_ _ | refine Below.alloc ?_ ?_ _ | refine Below.drew ?_)) <;> (first | omega | (simp <;> omega))))) HG.out.lt)).mono ?_
  rintro e w11 ⟨rfl, hb11⟩
  have hB11 : Below w.heap.size w w11 := Below.trans (by first | exact hB10 | ((repeat' (first | exact hB10 | refine Below.setCell ?_ ?_ _ | refine Below.alloc ?_ ?_ _ | refine Below.drew ?_)) <;> (first | omega | (simp <;> omega)))) (hb11.mono (by first | omega | (simp <;> omega)))
  have hs11 : w.heap.size ≤ w11.heap.size := hB11.size
  have ht11 := hb11.size
  try simp only [World.size_alloc, World.size_setCell] at ht11
  have c11_0 : w11.cell? ⟨w.heap.size, 0, none⟩ = some (.int .i64 a) := (hb11.cell (p := ⟨w.heap.size, 0, none⟩) (by first | omega | (simp <;> omega))).trans (by first | exact c10_0 | simp [go_sem, c10_0, l10_0a, l10_0b, l10_0c, l10_0d])
  have c11_1 : w11.cell? ⟨w.heap.size, 1, none⟩ = some (.int .i64 n) := (hb11.cell (p := ⟨w.heap.size, 1, none⟩) (by first | omega | (simp <;> omega))).trans (by first | exact c10_1 | simp [go_sem, c10_1, l10_0a, l10_0b, l10_0c, l10_0d])
  have l11_0a : w.heap.size < w11.heap.size := World.block_lt_of_cell? w11 _ c11_0
  have l11_0b : w.heap.size < w11.heap.size + 1 := Nat.lt_succ_of_lt l11_0a
  have l11_0c : w.heap.size < w11.heap.size + 1 + 1 := Nat.lt_succ_of_lt l11_0b
  have l11_0d : w.heap.size < w11.heap.size + 1 + 1 + 1 := Nat.lt_succ_of_lt l11_0c
  clear c10_0 c10_1 l10_0a l10_0b l10_0c l10_0d hB10 hb11
  go_wp2
  go_ret
  exact ⟨rfl, (by first | exact hB11 | ((repeat' (first | exact hB11 | refine Below.setCell ?_ ?_ _ | refine Below.alloc ?_ ?_ _ | refine Below.drew ?_)) <;> (first | omega | (simp <;> omega))))⟩

set_option maxRecDepth 100000 in
set_option maxHeartbeats 8000000 in
theorem hostIs_4 (a n : Int) (A : Option Addr) (used : List Int) (c : Nat) (hm : used.length ≤ maxLen) (hcap : used.length ≤ c) (hu : usedFault a n used = 0) (hx : ¬ nextOf a n used ≤ uHi a n) (w : World) (hg : ErrVar w) (hl : Rd w w.heap.size A (used.map (Value.int .i64))) :
    Calls Tryd.prog 3 #[.agg #[.int .i64 a, .int .i64 n], .slice A used.length c] w fun e w' => e = .returned (.bool true) ∧ Below w.heap.size w w' := by
  have HG := Lib.hid hg
  clear hg
  have HC := Lib.hid (usedFault_zero.1 hu).1
  have HU := Lib.hid hu
  have HX := Lib.hid hx
  clear hu hx
  go_enter Tryd.func3, Tryd.ntmps3
  go_wp2_with fail
  refine (fault_any a n _).mono ?_
  rintro e w1 ⟨rfl, hb1⟩
  have hB1 : Below w.heap.size w w1 := Below.trans (by first | exact Below.refl _ _ | ((repeat' (first | exact Below.refl _ _ | refine Below.setCell ?_ ?_ _ | refine Below.alloc ?_ ?_ _ | refine Below.drew ?_)) <;> (first | omega | (simp <;> omega)))) (hb1.mono (by first | omega | (simp <;> omega)))
  have hs1 : w.heap.size ≤ w1.heap.size := hB1.size
  have ht1 := hb1.size
  try simp only [World.size_alloc, World.size_setCell] at ht1
  have c1_0 : w1.cell? ⟨w.heap.size, 0, none⟩ = some (.int .i64 a) := (hb1.cell (p := ⟨w.heap.size, 0, none⟩) (by first | omega | (simp <;> omega))).trans (by first | (simp; done) | simp [go_sem])
  have c1_1 : w1.cell? ⟨w.heap.size, 1, none⟩ = some (.int .i64 n) := (hb1.cell (p := ⟨w.heap.size, 1, none⟩) (by first | omega | (simp <;> omega))).trans (by first | (simp; done) | simp [go_sem])
  have l1_0a : w.heap.size < w1.heap.size := World.block_lt_of_cell? w1 _ c1_0
  have l1_0b : w.heap.size < w1.heap.size + 1 := Nat.lt_succ_of_lt l1_0a
  have l1_0c : w.heap.size < w1.heap.size + 1 + 1 := Nat.lt_succ_of_lt l1_0b
  have l1_0d : w.heap.size < w1.heap.size + 1 + 1 + 1 := Nat.lt_succ_of_lt l1_0c
  clear hb1
  rw [HC.out]
  go_wp2_with fail
  refine (usableOf_any a n HC.out _).mono ?_
  rintro e w2 ⟨rfl, hb2⟩
  have hB2 : Below w.heap.size w w2 := Below.trans (by first | exact hB1 | ((repeat' (first | exact hB1 | refine Below.setCell ?_ ?_ _ | refine Below.alloc ?_ ?_ _ | refine Below.drew ?_)) <;> (first | omega | (simp <;> omega)))) (hb2.mono (by first | omega | (simp <;> omega)))
  have hs2 : w.heap.size ≤ w2.heap.size := hB2.size
  have ht2 := hb2.size
  try simp only [World.size_alloc, World.size_setCell] at ht2
  have c2_0 : w2.cell? ⟨w.heap.size, 0, none⟩ = some (.int .i64 a) := (hb2.cell (p := ⟨w.heap.size, 0, none⟩) (by first | omega | (simp <;> omega))).trans (by first | exact c1_0 | simp [go_sem, c1_0, l1_0a, l1_0b, l1_0c, l1_0d])
  have c2_1 : w2.cell? ⟨w.heap.size, 1, none⟩ = some (.int .i64 n) := (hb2.cell (p := ⟨w.heap.size, 1, none⟩) (by first | omega | (simp <;> omega))).trans (by first | exact c1_1 | simp [go_sem, c1_1, l1_0a, l1_0b, l1_0c, l1_0d])
  have c2_2 : w2.cell? ⟨w1.heap.size, 0, none⟩ = some (.int .i64 0) := (hb2.cell (p := ⟨w1.heap.size, 0, none⟩) (by first | omega | (simp <;> omega))).trans (by first | (simp; done) | simp [go_sem, l1_0a, l1_0b, l1_0c, l1_0d, c1_0, c1_1])
  have fc2_2 : w2.frozen? ⟨w1.heap.size, 0, none⟩ = false := (hb2.frozen (p := ⟨w1.heap.size, 0, none⟩) (by first | omega | (simp <;> omega))).trans (by first | (simp; done) | simp [go_sem, l1_0a, l1_0b, l1_0c, l1_0d, c1_0, c1_1])
  have c2_3 : w2.cell? ⟨w1.heap.size, 1, none⟩ = some (.int .i64 0) := (hb2.cell (p := ⟨w1.heap.size, 1, none⟩) (by first | omega | (simp <;> omega))).trans (by first | (simp; done) | simp [go_sem, l1_0a, l1_0b, l1_0c, l1_0d, c1_0, c1_1])
  have fc2_3 : w2.frozen? ⟨w1.heap.size, 1, none⟩ = false := (hb2.frozen (p := ⟨w1.heap.size, 1, none⟩) (by first | omega | (simp <;> omega))).trans (by first | (simp; done) | simp [go_sem, l1_0a, l1_0b, l1_0c, l1_0d, c1_0, c1_1])
  have l2_0a : w.heap.size < w2.heap.size := World.block_lt_of_cell? w2 _ c2_0
  have l2_0b : w.heap.size < w2.heap.size + 1 := Nat.lt_succ_of_lt l2_0a
  have l2_0c : w.heap.size < w2.heap.size + 1 + 1 := Nat.lt_succ_of_lt l2_0b
  have l2_0d : w.heap.size < w2.heap.size + 1 + 1 + 1 := Nat.lt_succ_of_lt l2_0c
  have l2_1a : w1.heap.size < w2.heap.size := World.block_lt_of_cell? w2 _ c2_2
  have l2_1b : w1.heap.size < w2.heap.size + 1 := Nat.lt_succ_of_lt l2_1a
  have l2_1c : w1.heap.size < w2.heap.size + 1 + 1 := Nat.lt_succ_of_lt l2_1b
  have l2_1d : w1.heap.size < w2.heap.size + 1 + 1 + 1 := Nat.lt_succ_of_lt l2_1c
  have n2_1_0 : w1.heap.size ≠ w.heap.size := by omega
  have m2_1_0 : w.heap.size ≠ w1.heap.size := by omega
  clear c1_0 c1_1 l1_0a l1_0b l1_0c l1_0d hB1 hb2
  go_wp2_with fail
  refine (usable_ok a n HC.out _).mono ?_
  rintro e w3 ⟨rfl, hb3⟩
  have hB3 : Below w.heap.size w w3 := Below.trans (by first | exact hB2 | ((repeat' (first | exact hB2 | refine Below.setCell ?_ ?_ _ | refine Below.alloc ?_ ?_ _ | refine Below.drew ?_)) <;> (first | omega | (simp <;> omega)))) (hb3.mono (by first | omega | (simp <;> omega)))
  have hs3 : w.heap.size ≤ w3.heap.size := hB3.size
  have ht3 := hb3.size
  try simp only [World.size_alloc, World.size_setCell] at ht3
  have c3_0 : w3.cell? ⟨w.heap.size, 0, none⟩ = some (.int .i64 a) := (hb3.cell (p := ⟨w.heap.size, 0, none⟩) (by first | omega | (simp <;> omega))).trans (by first | exact c2_0 | simp [go_sem, c2_0, l2_0a, l2_0b, l2_0c, l2_0d, l2_1a, l2_1b, l2_1c, l2_1d, n2_1_0, m2_1_0])
  have c3_1 : w3.cell? ⟨w.heap.size, 1, none⟩ = some (.int .i64 n) := (hb3.cell (p := ⟨w.heap.size, 1, none⟩) (by first | omega | (simp <;> omega))).trans (by first | exact c2_1 | simp [go_sem, c2_1, l2_0a, l2_0b, l2_0c, l2_0d, l2_1a, l2_1b, l2_1c, l2_1d, n2_1_0, m2_1_0])
  have c3_2 : w3.cell? ⟨w1.heap.size, 0, none⟩ = some (.int .i64 (uLo a n)) := (hb3.cell (p := ⟨w1.heap.size, 0, none⟩) (by first | omega | (simp <;> omega))).trans (by first | (simp; done) | simp [go_sem, l2_0a, l2_0b, l2_0c, l2_0d, l2_1a, l2_1b, l2_1c, l2_1d, n2_1_0, m2_1_0, c2_0, c2_1, c2_2, c2_3, fc2_2, fc2_3])
  have fc3_2 : w3.frozen? ⟨w1.heap.size, 0, none⟩ = false := (hb3.frozen (p := ⟨w1.heap.size, 0, none⟩) (by first | omega | (simp <;> omega))).trans (by first | (simp; done) | simp [go_sem, l2_0a, l2_0b, l2_0c, l2_0d, l2_1a, l2_1b, l2_1c, l2_1d, n2_1_0, m2_1_0, c2_0, c2_1, c2_2, c2_3, fc2_2, fc2_3])
  have c3_3 : w3.cell? ⟨w1.heap.size, 1, none⟩ = some (.int .i64 (uHi a n)) := (hb3.cell (p := ⟨w1.heap.size, 1, none⟩) (by first | omega | (simp <;> omega))).trans (by first | (simp; done) | simp [go_sem, l2_0a, l2_0b, l2_0c, l2_0d, l2_1a, l2_1b, l2_1c, l2_1d, n2_1_0, m2_1_0, c2_0, c2_1, c2_2, c2_3, fc2_2, fc2_3])
  have fc3_3 : w3.frozen? ⟨w1.heap.size, 1, none⟩ = false := (hb3.frozen (p := ⟨w1.heap.size, 1, none⟩) (by first | omega | (simp <;> omega))).trans (by first | (simp; done) | simp [go_sem, l2_0a, l2_0b, l2_0c, l2_0d, l2_1a, l2_1b, l2_1c, l2_1d, n2_1_0, m2_1_0, c2_0, c2_1, c2_2, c2_3, fc2_2, fc2_3])
  have l3_0a : w.heap.size < w3.heap.size := World.block_lt_of_cell? w3 _ c3_0
  have l3_0b : w.heap.size < w3.heap.size + 1 := Nat.lt_succ_of_lt l3_0a
  have l3_0c : w.heap.size < w3.heap.size + 1 + 1 := Nat.lt_succ_of_lt l3_0b
  have l3_0d : w.heap.size < w3.heap.size + 1 + 1 + 1 := Nat.lt_succ_of_lt l3_0c
  have l3_1a : w1.heap.size < w3.heap.size := World.block_lt_of_cell? w3 _ c3_2
  have l3_1b : w1.heap.size < w3.heap.size + 1 := Nat.lt_succ_of_lt l3_1a
  have l3_1c : w1.heap.size < w3.heap.size + 1 + 1 := Nat.lt_succ_of_lt l3_1b
  have l3_1d : w1.heap.size < w3.heap.size + 1 + 1 + 1 := Nat.lt_succ_of_lt l3_1c
  have n3_1_0 : w1.heap.size ≠ w.heap.size := by omega
  have m3_1_0 : w.heap.size ≠ w1.heap.size := by omega
  clear c2_0 c2_1 c2_2 c2_3 fc2_2 fc2_3 l2_0a l2_0b l2_0c l2_0d l2_1a l2_1b l2_1c l2_1d n2_1_0 m2_1_0 hB2 hb3
  go_wp2_with fail
  refine (error_nil0 _ (by exact HG.out.belowB (show Below w.heap.size w _ from (by first | exact hB3 | ((repeat' (first | exact hB3 | refine Below.setCell ?_ ?_ _ | refine Below.alloc ?_ ?_ _ | refine Below.drew ?_)) <;> (first | omega | (simp <;> omega))))) HG.out.lt)).mono ?_
  rintro e w4 ⟨rfl, hb4⟩
  have hB4 : Below w.heap.size w w4 := Below.trans (by first | exact hB3 | ((repeat' (first | exact hB3 | refine Below.setCell ?_ ?_ _ | refine Below.alloc ?_ ?_ _ | refine Below.drew ?_)) <;> (first | omega | (simp <;> omega)))) (hb4.mono (by first | omega | (simp <;> omega)))
  have hs4 : w.heap.size ≤ w4.heap.size := hB4.size
  have ht4 := hb4.size
  try simp only [World.size_alloc, World.size_setCell] at ht4
  have c4_0 : w4.cell? ⟨w.heap.size, 0, none⟩ = some (.int .i64 a) := (hb4.cell (p := ⟨w.heap.size, 0, none⟩) (by first | omega | (simp <;> omega))).trans (by first | exact c3_0 | simp [go_sem, c3_0, l3_0a, l3_0b, l3_0c, l3_0d, l3_1a, l3_1b, l3_1c, l3_1d, n3_1_0, m3_1_0])
  have c4_1 : w4.cell? ⟨w.heap.size, 1, none⟩ = some (.int .i64 n) := (hb4.cell (p := ⟨w.heap.size, 1, none⟩) (by first | omega | (simp <;> omega))).trans (by first | exact c3_1 | simp [go_sem, c3_1, l3_0a, l3_0b, l3_0c, l3_0d, l3_1a, l3_1b, l3_1c, l3_1d, n3_1_0, m3_1_0])
  have c4_2 : w4.cell? ⟨w1.heap.size, 0, none⟩ = some (.int .i64 (uLo a n)) := (hb4.cell (p := ⟨w1.heap.size, 0, none⟩) (by first | omega | (simp <;> omega))).trans (by first | exact c3_2 | simp [go_sem, c3_2, l3_0a, l3_0b, l3_0c, l3_0d, l3_1a, l3_1b, l3_1c, l3_1d, n3_1_0, m3_1_0])
  have fc4_2 : w4.frozen? ⟨w1.heap.size, 0, none⟩ = false := (hb4.frozen (p := ⟨w1.heap.size, 0, none⟩) (by first | omega | (simp <;> omega))).trans (by first | exact fc3_2 | simp [go_sem, fc3_2, l3_0a, l3_0b, l3_0c, l3_0d, l3_1a, l3_1b, l3_1c, l3_1d, n3_1_0, m3_1_0])
  have c4_3 : w4.cell? ⟨w1.heap.size, 1, none⟩ = some (.int .i64 (uHi a n)) := (hb4.cell (p := ⟨w1.heap.size, 1, none⟩) (by first | omega | (simp <;> omega))).trans (by first | exact c3_3 | simp [go_sem, c3_3, l3_0a, l3_0b, l3_0c, l3_0d, l3_1a, l3_1b, l3_1c, l3_1d, n3_1_0, m3_1_0])
  have fc4_3 : w4.frozen? ⟨w1.heap.size, 1, none⟩ = false := (hb4.frozen (p := ⟨w1.heap.size, 1, none⟩) (by first | omega | (simp <;> omega))).trans (by first | exact fc3_3 | simp [go_sem, fc3_3, l3_0a, l3_0b, l3_0c, l3_0d, l3_1a, l3_1b, l3_1c, l3_1d, n3_1_0, m3_1_0])
  have c4_4 : w4.cell? ⟨w3.heap.size, 0, none⟩ = some (.int .i64 (uLo a n)) := (hb4.cell (p := ⟨w3.heap.size, 0, none⟩) (by first | omega | (simp <;> omega))).trans (by first | (simp; done) | simp [go_sem, l3_0a, l3_0b, l3_0c, l3_0d, l3_1a, l3_1b, l3_1c, l3_1d, n3_1_0, m3_1_0, c3_0, c3_1, c3_2, c3_3, fc3_2, fc3_3])
  have c4_5 : w4.cell? ⟨w3.heap.size, 1, none⟩ = some (.int .i64 (uHi a n)) := (hb4.cell (p := ⟨w3.heap.size, 1, none⟩) (by first | omega | (simp <;> omega))).trans (by first | (simp; done) | simp [go_sem, l3_0a, l3_0b, l3_0c, l3_0d, l3_1a, l3_1b, l3_1c, l3_1d, n3_1_0, m3_1_0, c3_0, c3_1, c3_2, c3_3, fc3_2, fc3_3])
  have l4_0a : w.heap.size < w4.heap.size := World.block_lt_of_cell? w4 _ c4_0
  have l4_0b : w.heap.size < w4.heap.size + 1 := Nat.lt_succ_of_lt l4_0a
  have l4_0c : w.heap.size < w4.heap.size + 1 + 1 := Nat.lt_succ_of_lt l4_0b
  have l4_0d : w.heap.size < w4.heap.size + 1 + 1 + 1 := Nat.lt_succ_of_lt l4_0c
  have l4_1a : w1.heap.size < w4.heap.size := World.block_lt_of_cell? w4 _ c4_2
  have l4_1b : w1.heap.size < w4.heap.size + 1 := Nat.lt_succ_of_lt l4_1a
  have l4_1c : w1.heap.size < w4.heap.size + 1 + 1 := Nat.lt_succ_of_lt l4_1b
  have l4_1d : w1.heap.size < w4.heap.size + 1 + 1 + 1 := Nat.lt_succ_of_lt l4_1c
  have l4_2a : w3.heap.size < w4.heap.size := World.block_lt_of_cell? w4 _ c4_4
  have l4_2b : w3.heap.size < w4.heap.size + 1 := Nat.lt_succ_of_lt l4_2a
  have l4_2c : w3.heap.size < w4.heap.size + 1 + 1 := Nat.lt_succ_of_lt l4_2b
  have l4_2d : w3.heap.size < w4.heap.size + 1 + 1 + 1 := Nat.lt_succ_of_lt l4_2c
  have n4_1_0 : w1.heap.size ≠ w.heap.size := by omega
  have m4_1_0 : w.heap.size ≠ w1.heap.size := by omega
  have n4_1_2 : w1.heap.size ≠ w3.heap.size := by omega
  have m4_1_2 : w3.heap.size ≠ w1.heap.size := by omega
  clear c3_0 c3_1 c3_2 c3_3 fc3_2 fc3_3 l3_0a l3_0b l3_0c l3_0d l3_1a l3_1b l3_1c l3_1d n3_1_0 m3_1_0 hB3 hb4
  go_wp2_with fail
  refine (usedFault_any a n A used c hm _ ((hl.below (show Below w.heap.size w _ from (by first | exact hB4 | ((repeat' (first | exact hB4 | refine Below.setCell ?_ ?_ _ | refine Below.alloc ?_ ?_ _ | refine Below.drew ?_)) <;> (first | omega | (simp <;> omega)))))).more (show w.heap.size ≤ _ from by first | omega | (simp <;> omega)))).mono ?_
  rintro e w5 ⟨rfl, hb5⟩
  have hB5 : Below w.heap.size w w5 := Below.trans (by first | exact hB4 | ((repeat' (first | exact hB4 | refine Below.setCell ?_ ?_ _ | refine Below.alloc ?_ ?_ _ | refine Below.drew ?_)) <;> (first | omega | (simp <;> omega)))) (hb5.mono (by first | omega | (simp <;> omega)))
  have hs5 : w.heap.size ≤ w5.heap.size := hB5.size
  have ht5 := hb5.size
  try simp only [World.size_alloc, World.size_setCell] at ht5
  have c5_0 : w5.cell? ⟨w.heap.size, 0, none⟩ = some (.int .i64 a) := (hb5.cell (p := ⟨w.heap.size, 0, none⟩) (by first | omega | (simp <;> omega))).trans (by first | exact c4_0 | simp [go_sem, c4_0, l4_0a, l4_0b, l4_0c, l4_0d, l4_1a, l4_1b, l4_1c, l4_1d, l4_2a, l4_2b, l4_2c, l4_2d, n4_1_0, m4_1_0, n4_1_2, m4_1_2])
  have c5_1 : w5.cell? ⟨w.heap.size, 1, none⟩ = some (.int .i64 n) := (hb5.cell (p := ⟨w.heap.size, 1, none⟩) (by first | omega | (simp <;> omega))).trans (by first | exact c4_1 | simp [go_sem, c4_1, l4_0a, l4_0b, l4_0c, l4_0d, l4_1a, l4_1b, l4_1c, l4_1d, l4_2a, l4_2b, l4_2c, l4_2d, n4_1_0, m4_1_0, n4_1_2, m4_1_2])
  have c5_2 : w5.cell? ⟨w1.heap.size, 0, none⟩ = some (.int .i64 (uLo a n)) := (hb5.cell (p := ⟨w1.heap.size, 0, none⟩) (by first | omega | (simp <;> omega))).trans (by first | exact c4_2 | simp [go_sem, c4_2, l4_0a, l4_0b, l4_0c, l4_0d, l4_1a, l4_1b, l4_1c, l4_1d, l4_2a, l4_2b, l4_2c, l4_2d, n4_1_0, m4_1_0, n4_1_2, m4_1_2])
  have fc5_2 : w5.frozen? ⟨w1.heap.size, 0, none⟩ = false := (hb5.frozen (p := ⟨w1.heap.size, 0, none⟩) (by first | omega | (simp <;> omega))).trans (by first | exact fc4_2 | simp [go_sem, fc4_2, l4_0a, l4_0b, l4_0c, l4_0d, l4_1a, l4_1b, l4_1c, l4_1d, l4_2a, l4_2b, l4_2c, l4_2d, n4_1_0, m4_1_0, n4_1_2, m4_1_2])
  have c5_3 : w5.cell? ⟨w1.heap.size, 1, none⟩ = some (.int .i64 (uHi a n)) := (hb5.cell (p := ⟨w1.heap.size, 1, none⟩) (by first | omega | (simp <;> omega))).trans (by first | exact c4_3 | simp [go_sem, c4_3, l4_0a, l4_0b, l4_0c, l4_0d, l4_1a, l4_1b, l4_1c, l4_1d, l4_2a, l4_2b, l4_2c, l4_2d, n4_1_0, m4_1_0, n4_1_2, m4_1_2])
  have fc5_3 : w5.frozen? ⟨w1.heap.size, 1, none⟩ = false := (hb5.frozen (p := ⟨w1.heap.size, 1, none⟩) (by first | omega | (simp <;> omega))).trans (by first | exact fc4_3 | simp [go_sem, fc4_3, l4_0a, l4_0b, l4_0c, l4_0d, l4_1a, l4_1b, l4_1c, l4_1d, l4_2a, l4_2b, l4_2c, l4_2d, n4_1_0, m4_1_0, n4_1_2, m4_1_2])
  have c5_4 : w5.cell? ⟨w3.heap.size, 0, none⟩ = some (.int .i64 (uLo a n)) := (hb5.cell (p := ⟨w3.heap.size, 0, none⟩) (by first | omega | (simp <;> omega))).trans (by first | exact c4_4 | simp [go_sem, c4_4, l4_0a, l4_0b, l4_0c, l4_0d, l4_1a, l4_1b, l4_1c, l4_1d, l4_2a, l4_2b, l4_2c, l4_2d, n4_1_0, m4_1_0, n4_1_2, m4_1_2])
  have c5_5 : w5.cell? ⟨w3.heap.size, 1, none⟩ = some (.int .i64 (uHi a n)) := (hb5.cell (p := ⟨w3.heap.size, 1, none⟩) (by first | omega | (simp <;> omega))).trans (by first | exact c4_5 | simp [go_sem, c4_5, l4_0a, l4_0b, l4_0c, l4_0d, l4_1a, l4_1b, l4_1c, l4_1d, l4_2a, l4_2b, l4_2c, l4_2d, n4_1_0, m4_1_0, n4_1_2, m4_1_2])
  have l5_0a : w.heap.size < w5.heap.size := World.block_lt_of_cell? w5 _ c5_0
  have l5_0b : w.heap.size < w5.heap.size + 1 := Nat.lt_succ_of_lt l5_0a
  have l5_0c : w.heap.size < w5.heap.size + 1 + 1 := Nat.lt_succ_of_lt l5_0b
  have l5_0d : w.heap.size < w5.heap.size + 1 + 1 + 1 := Nat.lt_succ_of_lt l5_0c
  have l5_1a : w1.heap.size < w5.heap.size := World.block_lt_of_cell? w5 _ c5_2
  have l5_1b : w1.heap.size < w5.heap.size + 1 := Nat.lt_succ_of_lt l5_1a
  have l5_1c : w1.heap.size < w5.heap.size + 1 + 1 := Nat.lt_succ_of_lt l5_1b
  have l5_1d : w1.heap.size < w5.heap.size + 1 + 1 + 1 := Nat.lt_succ_of_lt l5_1c
  have l5_2a : w3.heap.size < w5.heap.size := World.block_lt_of_cell? w5 _ c5_4
  have l5_2b : w3.heap.size < w5.heap.size + 1 := Nat.lt_succ_of_lt l5_2a
  have l5_2c : w3.heap.size < w5.heap.size + 1 + 1 := Nat.lt_succ_of_lt l5_2b
  have l5_2d : w3.heap.size < w5.heap.size + 1 + 1 + 1 := Nat.lt_succ_of_lt l5_2c
  have n5_1_0 : w1.heap.size ≠ w.heap.size := by omega
  have m5_1_0 : w.heap.size ≠ w1.heap.size := by omega
  have n5_1_2 : w1.heap.size ≠ w3.heap.size := by omega
  have m5_1_2 : w3.heap.size ≠ w1.heap.size := by omega
  clear c4_0 c4_1 c4_2 c4_3 c4_4 c4_5 fc4_2 fc4_3 l4_0a l4_0b l4_0c l4_0d l4_1a l4_1b l4_1c l4_1d l4_2a l4_2b l4_2c l4_2d n4_1_0 m4_1_0 n4_1_2 m4_1_2 hB4 hb5
  rw [HU.out]
  clear c5_2 c5_3 fc5_2 fc5_3
  clear c5_4 c5_5
  go_wp2_with fail
  refine (shareOf_any a n A used c HC.out hm hcap _ ((hl.below (show Below w.heap.size w _ from (by first | exact hB5 | ((repeat' (first | exact hB5 | refine Below.setCell ?_ ?_ _ | refine Below.alloc ?_ ?_ _ | refine Below.drew ?_)) <;> (first | omega | (simp <;> omega)))))).more (show w.heap.size ≤ _ from by first | omega | (simp <;> omega)))).mono ?_
  rintro e w6 ⟨rfl, hb6⟩
  have hB6 : Below w.heap.size w w6 := Below.trans (by first | exact hB5 | ((repeat' (first | exact hB5 | refine Below.setCell ?_ ?_ _ | refine Below.alloc ?_ ?_ _ | refine Below.drew ?_)) <;> (first | omega | (simp <;> omega)))) (hb6.mono (by first | omega | (simp <;> omega)))
  have hs6 : w.heap.size ≤ w6.heap.size := hB6.size
  have ht6 := hb6.size
  try simp only [World.size_alloc, World.size_setCell] at ht6
  have c6_0 : w6.cell? ⟨w.heap.size, 0, none⟩ = some (.int .i64 a) := (hb6.cell (p := ⟨w.heap.size, 0, none⟩) (by first | omega | (simp <;> omega))).trans (by first | exact c5_0 | simp [go_sem, c5_0, l5_0a, l5_0b, l5_0c, l5_0d, l5_1a, l5_1b, l5_1c, l5_1d, l5_2a, l5_2b, l5_2c, l5_2d, n5_1_0, m5_1_0, n5_1_2, m5_1_2])
  have c6_1 : w6.cell? ⟨w.heap.size, 1, none⟩ = some (.int .i64 n) := (hb6.cell (p := ⟨w.heap.size, 1, none⟩) (by first | omega | (simp <;> omega))).trans (by first | exact c5_1 | simp [go_sem, c5_1, l5_0a, l5_0b, l5_0c, l5_0d, l5_1a, l5_1b, l5_1c, l5_1d, l5_2a, l5_2b, l5_2c, l5_2d, n5_1_0, m5_1_0, n5_1_2, m5_1_2])
  have l6_0a : w.heap.size < w6.heap.size := World.block_lt_of_cell? w6 _ c6_0
  have l6_0b : w.heap.size < w6.heap.size + 1 := Nat.lt_succ_of_lt l6_0a
  have l6_0c : w.heap.size < w6.heap.size + 1 + 1 := Nat.lt_succ_of_lt l6_0b
  have l6_0d : w.heap.size < w6.heap.size + 1 + 1 + 1 := Nat.lt_succ_of_lt l6_0c
  clear c5_0 c5_1 l5_0a l5_0b l5_0c l5_0d l5_1a l5_1b l5_1c l5_1d l5_2a l5_2b l5_2c l5_2d n5_1_0 m5_1_0 n5_1_2 m5_1_2 hB5 hb6
  go_wp2_with fail
  refine (share_ok' a n A used c HU.out _ ((hl.below (show Below w.heap.size w _ from (by first | exact hB6 | ((repeat' (first | exact hB6 | refine Below.setCell ?_ ?_ _ | refine Below.alloc ?_ ?_ _ | refine Below.drew ?_)) <;> (first | omega | (simp <;> omega)))))).more (show w.heap.size ≤ _ from by first | omega | (simp <;> omega)))).mono ?_
  rintro e w7 ⟨rfl, hb7⟩
  have hB7 : Below w.heap.size w w7 := Below.trans (by first | exact hB6 | ((repeat' (first | exact hB6 | refine Below.setCell ?_ ?_ _ | refine Below.alloc ?_ ?_ _ | refine Below.drew ?_)) <;> (first | omega | (simp <;> omega)))) (hb7.mono (by first | omega | (simp <;> omega)))
  have hs7 : w.heap.size ≤ w7.heap.size := hB7.size
  have ht7 := hb7.size
  try simp only [World.size_alloc, World.size_setCell] at ht7
  have c7_0 : w7.cell? ⟨w.heap.size, 0, none⟩ = some (.int .i64 a) := (hb7.cell (p := ⟨w.heap.size, 0, none⟩) (by first | omega | (simp <;> omega))).trans (by first | exact c6_0 | simp [go_sem, c6_0, l6_0a, l6_0b, l6_0c, l6_0d])
  have c7_1 : w7.cell? ⟨w.heap.size, 1, none⟩ = some (.int .i64 n) := (hb7.cell (p := ⟨w.heap.size, 1, none⟩) (by first | omega | (simp <;> omega))).trans (by first | exact c6_1 | simp [go_sem, c6_1, l6_0a, l6_0b, l6_0c, l6_0d])
  have l7_0a : w.heap.size < w7.heap.size := World.block_lt_of_cell? w7 _ c7_0
  have l7_0b : w.heap.size < w7.heap.size + 1 := Nat.lt_succ_of_lt l7_0a
  have l7_0c : w.heap.size < w7.heap.size + 1 + 1 := Nat.lt_succ_of_lt l7_0b
  have l7_0d : w.heap.size < w7.heap.size + 1 + 1 + 1 := Nat.lt_succ_of_lt l7_0c
  clear c6_0 c6_1 l6_0a l6_0b l6_0c l6_0d hB6 hb7
  go_wp2_with fail
  refine (error_nil0 _ (by exact HG.out.belowB (show Below w.heap.size w _ from (by first | exact hB7 | ((repeat' (first | exact hB7 | refine Below.setCell ?_ ?_ _ | refine Below.alloc ?_ ?_ _ | refine Below.drew ?_)) <;> (first | omega | (simp <;> omega))))) HG.out.lt)).mono ?_
  rintro e w8 ⟨rfl, hb8⟩
  have hB8 : Below w.heap.size w w8 := Below.trans (by first | exact hB7 | ((repeat' (first | exact hB7 | refine Below.setCell ?_ ?_ _ | refine Below.alloc ?_ ?_ _ | refine Below.drew ?_)) <;> (first | omega | (simp <;> omega)))) (hb8.mono (by first | omega | (simp <;> omega)))
  have hs8 : w.heap.size ≤ w8.heap.size := hB8.size
  have ht8 := hb8.size
  try simp only [World.size_alloc, World.size_setCell] at ht8
  have c8_0 : w8.cell? ⟨w.heap.size, 0, none⟩ = some (.int .i64 a) := (hb8.cell (p := ⟨w.heap.size, 0, none⟩) (by first | omega | (simp <;> omega))).trans (by first | exact c7_0 | simp [go_sem, c7_0, l7_0a, l7_0b, l7_0c, l7_0d])
  have c8_1 : w8.cell? ⟨w.heap.size, 1, none⟩ = some (.int .i64 n) := (hb8.cell (p := ⟨w.heap.size, 1, none⟩) (by first | omega | (simp <;> omega))).trans (by first | exact c7_1 | simp [go_sem, c7_1, l7_0a, l7_0b, l7_0c, l7_0d])
  have l8_0a : w.heap.size < w8.heap.size := World.block_lt_of_cell? w8 _ c8_0
  have l8_0b : w.heap.size < w8.heap.size + 1 := Nat.lt_succ_of_lt l8_0a
  have l8_0c : w.heap.size < w8.heap.size + 1 + 1 := Nat.lt_succ_of_lt l8_0b
  have l8_0d : w.heap.size < w8.heap.size + 1 + 1 + 1 := Nat.lt_succ_of_lt l8_0c
  clear c7_0 c7_1 l7_0a l7_0b l7_0c l7_0d hB7 hb8
  go_wp2_with fail
  refine (nextOf_no a n A used c HC.out hm (by have := HX.out; omega) _ ((hl.below (show Below w.heap.size w _ from (by first | exact hB8 | ((repeat' (first | exact hB8 | refine Below.setCell ?_ ?_ _ | refine Below.alloc ?_ ?_ _ | refine Below.drew ?_)) <;> (first | omega | (simp <;> omega)))))).more (show w.heap.size ≤ _ from by first | omega | (simp <;> omega)))).mono ?_
  rintro e w9 ⟨rfl, hb9⟩
  have hB9 : Below w.heap.size w w9 := Below.trans (by first | exact hB8 | ((repeat' (first | exact hB8 | refine Below.setCell ?_ ?_ _ | refine Below.alloc ?_ ?_ _ | refine Below.drew ?_)) <;> (first | omega | (simp <;> omega)))) (hb9.mono (by first | omega | (simp <;> omega)))
  have hs9 : w.heap.size ≤ w9.heap.size := hB9.size
  have ht9 := hb9.size
  try simp only [World.size_alloc, World.size_setCell] at ht9
  have c9_0 : w9.cell? ⟨w.heap.size, 0, none⟩ = some (.int .i64 a) := (hb9.cell (p := ⟨w.heap.size, 0, none⟩) (by first | omega | (simp <;> omega))).trans (by first | exact c8_0 | simp [go_sem, c8_0, l8_0a, l8_0b, l8_0c, l8_0d])
  have c9_1 : w9.cell? ⟨w.heap.size, 1, none⟩ = some (.int .i64 n) := (hb9.cell (p := ⟨w.heap.size, 1, none⟩) (by first | omega | (simp <;> omega))).trans (by first | exact c8_1 | simp [go_sem, c8_1, l8_0a, l8_0b, l8_0c, l8_0d])
  have l9_0a : w.heap.size < w9.heap.size := World.block_lt_of_cell? w9 _ c9_0
  have l9_0b : w.heap.size < w9.heap.size + 1 := Nat.lt_succ_of_lt l9_0a
  have l9_0c : w.heap.size < w9.heap.size + 1 + 1 := Nat.lt_succ_of_lt l9_0b
  have l9_0d : w.heap.size < w9.heap.size + 1 + 1 + 1 := Nat.lt_succ_of_lt l9_0c
  clear c8_0 c8_1 l8_0a l8_0b l8_0c l8_0d hB8 hb9
  go_wp2_with fail
  refine (next_no a n A used c HU.out (by have := HX.out; omega) _ ((hl.below (show Below w.heap.size w _ from (by first | exact hB9 | ((repeat' (first | exact hB9 | refine Below.setCell ?_ ?_ _ | refine Below.alloc ?_ ?_ _ | refine Below.drew ?_)) <;> (first | omega | (simp <;> omega)))))).more (show w.heap.size ≤ _ from by first | omega | (simp <;> omega)))).mono ?_
  rintro e w10 ⟨rfl, hb10⟩
  have hB10 : Below w.heap.size w w10 := Below.trans (by first | exact hB9 | ((repeat' (first | exact hB9 | refine Below.setCell ?_ ?_ _ | refine Below.alloc ?_ ?_ _ | refine Below.drew ?_)) <;> (first | omega | (simp <;> omega)))) (hb10.mono (by first | omega | (simp <;> omega)))
  have hs10 : w.heap.size ≤ w10.heap.size := hB10.size
  have ht10 := hb10.size
  try simp only [World.size_alloc, World.size_setCell] at ht10
  have c10_0 : w10.cell? ⟨w.heap.size, 0, none⟩ = some (.int .i64 a) := (hb10.cell (p := ⟨w.heap.size, 0, none⟩) (by first | omega | (simp <;> omega))).trans (by first | exact c9_0 | simp [go_sem, c9_0, l9_0a, l9_0b, l9_0c, l9_0d])
  have c10_1 : w10.cell? ⟨w.heap.size, 1, none⟩ = some (.int .i64 n) := (hb10.cell (p := ⟨w.heap.size, 1, none⟩) (by first | omega | (simp <;> omega))).trans (by first | exact c9_1 | simp [go_sem, c9_1, l9_0a, l9_0b, l9_0c, l9_0d])
  have l10_0a : w.heap.size < w10.heap.size := World.block_lt_of_cell? w10 _ c10_0
  have l10_0b : w.heap.size < w10.heap.size + 1 := Nat.lt_succ_of_lt l10_0a
  have l10_0c : w.heap.size < w10.heap.size + 1 + 1 := Nat.lt_succ_of_lt l10_0b
  have l10_0d : w.heap.size < w10.heap.size + 1 + 1 + 1 := Nat.lt_succ_of_lt l10_0c
  clear c9_0 c9_1 l9_0a l9_0b l9_0c l9_0d hB9 hb10
  go_wp2_with fail
  refine (error_same 4 (by decide) _ (by exact HG.out.belowB (show Below w.heap.size w _ from (by first | exact hB10 | ((repeat' (first | exact hB10 | refine Below.setCell ?_ ?_ _ | refine Below.alloc ?_ ?_ _ | refine Below.drew ?_)) <;> (first | omega | (simp <;> omega))))) HG.out.lt)).mono ?_
  rintro e w11 ⟨rfl, hb11⟩
  have hB11 : Below w.heap.size w w11 := Below.trans (by first | exact hB10 | ((repeat' (first | exact hB10 | refine Below.setCell ?_ ?_ _ | refine Below.alloc ?_ ?_ _ | refine Below.drew ?_)) <;> (first | omega | (simp <;> omega)))) (hb11.mono (by first | omega | (simp <;> omega)))
  have hs11 : w.heap.size ≤ w11.heap.size := hB11.size
  have ht11 := hb11.size
  try simp only [World.size_alloc, World.size_setCell] at ht11
  have c11_0 : w11.cell? ⟨w.heap.size, 0, none⟩ = some (.int .i64 a) := (hb11.cell (p := ⟨w.heap.size, 0, none⟩) (by first | omega | (simp <;> omega))).trans (by first | exact c10_0 | simp [go_sem, c10_0, l10_0a, l10_0b, l10_0c, l10_0d])
  have c11_1 : w11.cell? ⟨w.heap.size, 1, none⟩ = some (.int .i64 n) := (hb11.cell (p := ⟨w.heap.size, 1, none⟩) (by first | omega | (simp <;> omega))).trans (by first | exact c10_1 | simp [go_sem, c10_1, l10_0a, l10_0b, l10_0c, l10_0d])
  have l11_0a : w.heap.size < w11.heap.size := World.block_lt_of_cell? w11 _ c11_0
  have l11_0b : w.heap.size < w11.heap.size + 1 := Nat.lt_succ_of_lt l11_0a
  have l11_0c : w.heap.size < w11.heap.size + 1 + 1 := Nat.lt_succ_of_lt l11_0b
  have l11_0d : w.heap.size < w11.heap.size + 1 + 1 + 1 := Nat.lt_succ_of_lt l11_0c
  clear c10_0 c10_1 l10_0a l10_0b l10_0c l10_0d hB10 hb11
  go_wp2
  go_ret
  exact ⟨rfl, (by first | exact hB11 | ((repeat' (first | exact hB11 | refine Below.setCell ?_ ?_ _ | refine Below.alloc ?_ ?_ _ | refine Below.drew ?_)) <;> (first | omega | (simp <;> omega))))⟩

theorem hostIs_walk (a n : Int) (A : Option Addr) (used : List Int) (c : Nat) (hm : used.length ≤ maxLen) (hcap : used.length ≤ c) (w : World) (hg : ErrVar w) (hl : Rd w w.heap.size A (used.map (Value.int .i64))) :
    Calls Tryd.prog 3 #[.agg #[.int .i64 a, .int .i64 n], .slice A used.length c] w fun e w' => e = .returned (.bool true) ∧ Below w.heap.size w w' := by
  by_cases hc : chk a n = 0
  · by_cases hu : usedFault a n used = 0
    · by_cases hx : nextOf a n used ≤ uHi a n
      · exact hostIs_3 a n A used c hm hcap hu hx w hg hl
      · exact hostIs_4 a n A used c hm hcap hu hx w hg hl
    · exact hostIs_2 a n A used c hm hcap hc hu w hg hl
  · exact hostIs_1 a n A used c hm hcap hc w hg hl
end Go.Proofs.YtcgeagobndhpjaaDoor
