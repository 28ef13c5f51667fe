/- The references of host: UsableOf, UsedFault, among, NextOf, ShareOf. Conditions: as each states. -/
import Derived.Test.YtcgeagobndhpjaaDoorRefAddr
import Derived.Test.YtcgeagobndhpjaaDoorCut
namespace Go.Proofs.YtcgeagobndhpjaaDoor
set_option linter.unusedVariables false
set_option linter.unusedSimpArgs false
open Go.RowKit

set_option maxHeartbeats 800000 in
theorem usableOf_1 (a n : Int) (hc : chk a n = 0) (hn : 30 < n) (w : World) :
    Calls Tryd.prog 14 #[.agg #[.int .i64 a, .int .i64 n]] w fun e w' => e = .returned (.agg #[.int .i64 a, .int .i64 (lastA a n)]) ∧ Below w.heap.size w w' := by
  obtain ⟨g1, g2, g3, g4, _⟩ := chk_zero.1 hc
  have g5 := last_le hc
  have g6 := last_ge a n
  have HC := Lib.hid hc
  clear hc
  go_enter Tryd.func14, Tryd.ntmps14
  go_wp2_with fail
  refine wp_name ?_
  intro w1 hW1
  have hB1 : Below w.heap.size w w1 := by rw [hW1.out]; exact (by first | exact Below.refl _ _ | ((repeat' (first | exact Below.refl _ _ | refine Below.setCell ?_ ?_ _ | refine Below.alloc ?_ ?_ _ | refine Below.drew ?_)) <;> (first | omega | (simp <;> omega))))
  have hs1 : w.heap.size ≤ w1.heap.size := hB1.size
  have ht1 := congrArg (fun x : World => x.heap.size) hW1.out
  try simp only [World.size_alloc, World.size_setCell] at ht1
  have c1_0 : w1.cell? ⟨w.heap.size, 0, none⟩ = some (.int .i64 a) := by rw [hW1.out]; first | (simp; done) | simp [go_sem]
  have c1_1 : w1.cell? ⟨w.heap.size, 1, none⟩ = some (.int .i64 n) := by rw [hW1.out]; first | (simp; done) | simp [go_sem]
  have c1_2 : w1.cell? ⟨w.heap.size + 1, 0, none⟩ = some (.int .i64 0) := by rw [hW1.out]; first | (simp; done) | simp [go_sem]
  have fc1_2 : w1.frozen? ⟨w.heap.size + 1, 0, none⟩ = false := by rw [hW1.out]; first | (simp; done) | simp [go_sem]
  have c1_3 : w1.cell? ⟨w.heap.size + 1, 1, none⟩ = some (.int .i64 0) := by rw [hW1.out]; first | (simp; done) | simp [go_sem]
  have fc1_3 : w1.frozen? ⟨w.heap.size + 1, 1, none⟩ = false := by rw [hW1.out]; first | (simp; done) | simp [go_sem]
  have l1_0a : w.heap.size < w1.heap.size := World.block_lt_of_cell? w1 _ c1_0
  have l1_0b : w.heap.size < w1.heap.size + 1 := Nat.lt_succ_of_lt l1_0a
  have l1_0c : w.heap.size < w1.heap.size + 1 + 1 := Nat.lt_succ_of_lt l1_0b
  have l1_0d : w.heap.size < w1.heap.size + 1 + 1 + 1 := Nat.lt_succ_of_lt l1_0c
  have l1_1a : w.heap.size + 1 < w1.heap.size := World.block_lt_of_cell? w1 _ c1_2
  have l1_1b : w.heap.size + 1 < w1.heap.size + 1 := Nat.lt_succ_of_lt l1_1a
  have l1_1c : w.heap.size + 1 < w1.heap.size + 1 + 1 := Nat.lt_succ_of_lt l1_1b
  have l1_1d : w.heap.size + 1 < w1.heap.size + 1 + 1 + 1 := Nat.lt_succ_of_lt l1_1c
  have n1_1_0 : w.heap.size + 1 ≠ w.heap.size := by omega
  have m1_1_0 : w.heap.size ≠ w.heap.size + 1 := by omega
  have hu1 := Nat.le_of_eq ht1
  have hv1 := Nat.le_of_eq ht1.symm
  clear ht1 hW1
  have kc1_0 : ∀ x : BelW w1.heap.size w1, x.1.cell? ⟨w.heap.size, 0, none⟩ = some (.int .i64 a) := BelW.cell c1_0 (World.block_lt_of_cell? w1 _ c1_0)
  have kc1_1 : ∀ x : BelW w1.heap.size w1, x.1.cell? ⟨w.heap.size, 1, none⟩ = some (.int .i64 n) := BelW.cell c1_1 (World.block_lt_of_cell? w1 _ c1_1)
  have kc1_2 : ∀ x : BelW w1.heap.size w1, x.1.cell? ⟨w.heap.size + 1, 0, none⟩ = some (.int .i64 0) := BelW.cell c1_2 (World.block_lt_of_cell? w1 _ c1_2)
  have kc1_3 : ∀ x : BelW w1.heap.size w1, x.1.cell? ⟨w.heap.size + 1, 1, none⟩ = some (.int .i64 0) := BelW.cell c1_3 (World.block_lt_of_cell? w1 _ c1_3)
  refine wp_region_bel_tail 5 w1.heap.size w1 (by kernel_rfl) (by kernel_rfl) (Below.refl _ _) ?_
  simp only [List.take_succ_cons, List.take_zero, List.drop_succ_cons, List.drop_zero]
  repeat (go_big_quiet_step ((go_at_call 23; refine Calls.bel_of (by simp) (lastOf_any _ _ HC.out _))))
  refine wpQuiet_nil ?_
  intro w2 hb2
  clear kc1_0 kc1_1 kc1_2 kc1_3
  have hB2 : Below w.heap.size w w2 := Below.trans (by first | exact hB1 | ((repeat' (first | exact hB1 | refine Below.setCell ?_ ?_ _ | refine Below.alloc ?_ ?_ _ | refine Below.drew ?_)) <;> (first | omega | (simp <;> omega)))) (hb2.mono (by first | omega | (simp <;> omega)))
  have hs2 : w.heap.size ≤ w2.heap.size := hB2.size
  have ht2 := hb2.size
  try simp only [World.size_alloc, World.size_setCell] at ht2
  have c2_0 : w2.cell? ⟨w.heap.size, 0, none⟩ = some (.int .i64 a) := (hb2.cell (p := ⟨w.heap.size, 0, none⟩) (by first | omega | (simp <;> omega))).trans (by first | exact c1_0 | simp [go_sem, c1_0, l1_0a, l1_0b, l1_0c, l1_0d, l1_1a, l1_1b, l1_1c, l1_1d, n1_1_0, m1_1_0])
  have c2_1 : w2.cell? ⟨w.heap.size, 1, none⟩ = some (.int .i64 n) := (hb2.cell (p := ⟨w.heap.size, 1, none⟩) (by first | omega | (simp <;> omega))).trans (by first | exact c1_1 | simp [go_sem, c1_1, l1_0a, l1_0b, l1_0c, l1_0d, l1_1a, l1_1b, l1_1c, l1_1d, n1_1_0, m1_1_0])
  have c2_2 : w2.cell? ⟨w.heap.size + 1, 0, none⟩ = some (.int .i64 0) := (hb2.cell (p := ⟨w.heap.size + 1, 0, none⟩) (by first | omega | (simp <;> omega))).trans (by first | exact c1_2 | simp [go_sem, c1_2, l1_0a, l1_0b, l1_0c, l1_0d, l1_1a, l1_1b, l1_1c, l1_1d, n1_1_0, m1_1_0])
  have fc2_2 : w2.frozen? ⟨w.heap.size + 1, 0, none⟩ = false := (hb2.frozen (p := ⟨w.heap.size + 1, 0, none⟩) (by first | omega | (simp <;> omega))).trans (by first | exact fc1_2 | simp [go_sem, fc1_2, l1_0a, l1_0b, l1_0c, l1_0d, l1_1a, l1_1b, l1_1c, l1_1d, n1_1_0, m1_1_0])
  have c2_3 : w2.cell? ⟨w.heap.size + 1, 1, none⟩ = some (.int .i64 0) := (hb2.cell (p := ⟨w.heap.size + 1, 1, none⟩) (by first | omega | (simp <;> omega))).trans (by first | exact c1_3 | simp [go_sem, c1_3, l1_0a, l1_0b, l1_0c, l1_0d, l1_1a, l1_1b, l1_1c, l1_1d, n1_1_0, m1_1_0])
  have fc2_3 : w2.frozen? ⟨w.heap.size + 1, 1, none⟩ = false := (hb2.frozen (p := ⟨w.heap.size + 1, 1, none⟩) (by first | omega | (simp <;> omega))).trans (by first | exact fc1_3 | simp [go_sem, fc1_3, l1_0a, l1_0b, l1_0c, l1_0d, l1_1a, l1_1b, l1_1c, l1_1d, n1_1_0, m1_1_0])
  have l2_0a : w.heap.size < w2.heap.size := World.block_lt_of_cell? w2 _ c2_0
  have l2_0b : w.heap.size < w2.heap.size + 1 := Nat.lt_succ_of_lt l2_0a
  have l2_0c : w.heap.size < w2.heap.size + 1 + 1 := Nat.lt_succ_of_lt l2_0b
  have l2_0d : w.heap.size < w2.heap.size + 1 + 1 + 1 := Nat.lt_succ_of_lt l2_0c
  have l2_1a : w.heap.size + 1 < w2.heap.size := World.block_lt_of_cell? w2 _ c2_2
  have l2_1b : w.heap.size + 1 < w2.heap.size + 1 := Nat.lt_succ_of_lt l2_1a
  have l2_1c : w.heap.size + 1 < w2.heap.size + 1 + 1 := Nat.lt_succ_of_lt l2_1b
  have l2_1d : w.heap.size + 1 < w2.heap.size + 1 + 1 + 1 := Nat.lt_succ_of_lt l2_1c
  have n2_1_0 : w.heap.size + 1 ≠ w.heap.size := by omega
  have m2_1_0 : w.heap.size ≠ w.heap.size + 1 := by omega
  clear c1_0 c1_1 c1_2 c1_3 fc1_2 fc1_3 l1_0a l1_0b l1_0c l1_0d l1_1a l1_1b l1_1c l1_1d n1_1_0 m1_1_0 hB1 hb2
  go_wp2
  refine bodyPost_ret (v := .agg #[.int .i64 a, .int .i64 (lastA a n)]) (by simp [results, Tryd.results14, go_sem, c2_0, c2_1, c2_2, c2_3, fc2_2, fc2_3]) rfl ⟨rfl, ?_⟩
  exact (hB2.setCell (by simp <;> omega) _).setCell (by simp <;> omega) _
set_option maxHeartbeats 800000 in
theorem usableOf_2 (a n : Int) (hc : chk a n = 0) (hn : n ≤ 30) (w : World) :
    Calls Tryd.prog 14 #[.agg #[.int .i64 a, .int .i64 n]] w fun e w' => e = .returned (.agg #[.int .i64 (a + 1), .int .i64 (lastA a n - 1)]) ∧ Below w.heap.size w w' := by
  obtain ⟨g1, g2, g3, g4, _⟩ := chk_zero.1 hc
  have g5 := last_le hc
  have g6 := last_ge a n
  have HC := Lib.hid hc
  clear hc
  go_enter Tryd.func14, Tryd.ntmps14
  go_wp2_with fail
  refine wp_name ?_
  intro w1 hW1
  have hB1 : Below w.heap.size w w1 := by rw [hW1.out]; exact (by first | exact Below.refl _ _ | ((repeat' (first | exact Below.refl _ _ | refine Below.setCell ?_ ?_ _ | refine Below.alloc ?_ ?_ _ | refine Below.drew ?_)) <;> (first | omega | (simp <;> omega))))
  have hs1 : w.heap.size ≤ w1.heap.size := hB1.size
  have ht1 := congrArg (fun x : World => x.heap.size) hW1.out
  try simp only [World.size_alloc, World.size_setCell] at ht1
  have c1_0 : w1.cell? ⟨w.heap.size, 0, none⟩ = some (.int .i64 a) := by rw [hW1.out]; first | (simp; done) | simp [go_sem]
  have c1_1 : w1.cell? ⟨w.heap.size, 1, none⟩ = some (.int .i64 n) := by rw [hW1.out]; first | (simp; done) | simp [go_sem]
  have c1_2 : w1.cell? ⟨w.heap.size + 1, 0, none⟩ = some (.int .i64 0) := by rw [hW1.out]; first | (simp; done) | simp [go_sem]
  have fc1_2 : w1.frozen? ⟨w.heap.size + 1, 0, none⟩ = false := by rw [hW1.out]; first | (simp; done) | simp [go_sem]
  have c1_3 : w1.cell? ⟨w.heap.size + 1, 1, none⟩ = some (.int .i64 0) := by rw [hW1.out]; first | (simp; done) | simp [go_sem]
  have fc1_3 : w1.frozen? ⟨w.heap.size + 1, 1, none⟩ = false := by rw [hW1.out]; first | (simp; done) | simp [go_sem]
  have l1_0a : w.heap.size < w1.heap.size := World.block_lt_of_cell? w1 _ c1_0
  have l1_0b : w.heap.size < w1.heap.size + 1 := Nat.lt_succ_of_lt l1_0a
  have l1_0c : w.heap.size < w1.heap.size + 1 + 1 := Nat.lt_succ_of_lt l1_0b
  have l1_0d : w.heap.size < w1.heap.size + 1 + 1 + 1 := Nat.lt_succ_of_lt l1_0c
  have l1_1a : w.heap.size + 1 < w1.heap.size := World.block_lt_of_cell? w1 _ c1_2
  have l1_1b : w.heap.size + 1 < w1.heap.size + 1 := Nat.lt_succ_of_lt l1_1a
  have l1_1c : w.heap.size + 1 < w1.heap.size + 1 + 1 := Nat.lt_succ_of_lt l1_1b
  have l1_1d : w.heap.size + 1 < w1.heap.size + 1 + 1 + 1 := Nat.lt_succ_of_lt l1_1c
  have n1_1_0 : w.heap.size + 1 ≠ w.heap.size := by omega
  have m1_1_0 : w.heap.size ≠ w.heap.size + 1 := by omega
  have hu1 := Nat.le_of_eq ht1
  have hv1 := Nat.le_of_eq ht1.symm
  clear ht1 hW1
  have kc1_0 : ∀ x : BelW w1.heap.size w1, x.1.cell? ⟨w.heap.size, 0, none⟩ = some (.int .i64 a) := BelW.cell c1_0 (World.block_lt_of_cell? w1 _ c1_0)
  have kc1_1 : ∀ x : BelW w1.heap.size w1, x.1.cell? ⟨w.heap.size, 1, none⟩ = some (.int .i64 n) := BelW.cell c1_1 (World.block_lt_of_cell? w1 _ c1_1)
  have kc1_2 : ∀ x : BelW w1.heap.size w1, x.1.cell? ⟨w.heap.size + 1, 0, none⟩ = some (.int .i64 0) := BelW.cell c1_2 (World.block_lt_of_cell? w1 _ c1_2)
  have kc1_3 : ∀ x : BelW w1.heap.size w1, x.1.cell? ⟨w.heap.size + 1, 1, none⟩ = some (.int .i64 0) := BelW.cell c1_3 (World.block_lt_of_cell? w1 _ c1_3)
  refine wp_region_bel_tail 7 w1.heap.size w1 (by kernel_rfl) (by kernel_rfl) (Below.refl _ _) ?_
  simp only [List.take_succ_cons, List.take_zero, List.drop_succ_cons, List.drop_zero]
  repeat (go_big_quiet_step ((go_at_call 23; refine Calls.bel_of (by simp) (lastOf_any _ _ HC.out _))))
  refine wpQuiet_nil ?_
  intro w2 hb2
  clear kc1_0 kc1_1 kc1_2 kc1_3
  have hB2 : Below w.heap.size w w2 := Below.trans (by first | exact hB1 | ((repeat' (first | exact hB1 | refine Below.setCell ?_ ?_ _ | refine Below.alloc ?_ ?_ _ | refine Below.drew ?_)) <;> (first | omega | (simp <;> omega)))) (hb2.mono (by first | omega | (simp <;> omega)))
  have hs2 : w.heap.size ≤ w2.heap.size := hB2.size
  have ht2 := hb2.size
  try simp only [World.size_alloc, World.size_setCell] at ht2
  have c2_0 : w2.cell? ⟨w.heap.size, 0, none⟩ = some (.int .i64 a) := (hb2.cell (p := ⟨w.heap.size, 0, none⟩) (by first | omega | (simp <;> omega))).trans (by first | exact c1_0 | simp [go_sem, c1_0, l1_0a, l1_0b, l1_0c, l1_0d, l1_1a, l1_1b, l1_1c, l1_1d, n1_1_0, m1_1_0])
  have c2_1 : w2.cell? ⟨w.heap.size, 1, none⟩ = some (.int .i64 n) := (hb2.cell (p := ⟨w.heap.size, 1, none⟩) (by first | omega | (simp <;> omega))).trans (by first | exact c1_1 | simp [go_sem, c1_1, l1_0a, l1_0b, l1_0c, l1_0d, l1_1a, l1_1b, l1_1c, l1_1d, n1_1_0, m1_1_0])
  have c2_2 : w2.cell? ⟨w.heap.size + 1, 0, none⟩ = some (.int .i64 0) := (hb2.cell (p := ⟨w.heap.size + 1, 0, none⟩) (by first | omega | (simp <;> omega))).trans (by first | exact c1_2 | simp [go_sem, c1_2, l1_0a, l1_0b, l1_0c, l1_0d, l1_1a, l1_1b, l1_1c, l1_1d, n1_1_0, m1_1_0])
  have fc2_2 : w2.frozen? ⟨w.heap.size + 1, 0, none⟩ = false := (hb2.frozen (p := ⟨w.heap.size + 1, 0, none⟩) (by first | omega | (simp <;> omega))).trans (by first | exact fc1_2 | simp [go_sem, fc1_2, l1_0a, l1_0b, l1_0c, l1_0d, l1_1a, l1_1b, l1_1c, l1_1d, n1_1_0, m1_1_0])
  have c2_3 : w2.cell? ⟨w.heap.size + 1, 1, none⟩ = some (.int .i64 0) := (hb2.cell (p := ⟨w.heap.size + 1, 1, none⟩) (by first | omega | (simp <;> omega))).trans (by first | exact c1_3 | simp [go_sem, c1_3, l1_0a, l1_0b, l1_0c, l1_0d, l1_1a, l1_1b, l1_1c, l1_1d, n1_1_0, m1_1_0])
  have fc2_3 : w2.frozen? ⟨w.heap.size + 1, 1, none⟩ = false := (hb2.frozen (p := ⟨w.heap.size + 1, 1, none⟩) (by first | omega | (simp <;> omega))).trans (by first | exact fc1_3 | simp [go_sem, fc1_3, l1_0a, l1_0b, l1_0c, l1_0d, l1_1a, l1_1b, l1_1c, l1_1d, n1_1_0, m1_1_0])
  have l2_0a : w.heap.size < w2.heap.size := World.block_lt_of_cell? w2 _ c2_0
  have l2_0b : w.heap.size < w2.heap.size + 1 := Nat.lt_succ_of_lt l2_0a
  have l2_0c : w.heap.size < w2.heap.size + 1 + 1 := Nat.lt_succ_of_lt l2_0b
  have l2_0d : w.heap.size < w2.heap.size + 1 + 1 + 1 := Nat.lt_succ_of_lt l2_0c
  have l2_1a : w.heap.size + 1 < w2.heap.size := World.block_lt_of_cell? w2 _ c2_2
  have l2_1b : w.heap.size + 1 < w2.heap.size + 1 := Nat.lt_succ_of_lt l2_1a
  have l2_1c : w.heap.size + 1 < w2.heap.size + 1 + 1 := Nat.lt_succ_of_lt l2_1b
  have l2_1d : w.heap.size + 1 < w2.heap.size + 1 + 1 + 1 := Nat.lt_succ_of_lt l2_1c
  have n2_1_0 : w.heap.size + 1 ≠ w.heap.size := by omega
  have m2_1_0 : w.heap.size ≠ w.heap.size + 1 := by omega
  clear c1_0 c1_1 c1_2 c1_3 fc1_2 fc1_3 l1_0a l1_0b l1_0c l1_0d l1_1a l1_1b l1_1c l1_1d n1_1_0 m1_1_0 hB1 hb2
  go_wp2
  refine bodyPost_ret (v := .agg #[.int .i64 (a + 1), .int .i64 (lastA a n - 1)]) (by simp [results, Tryd.results14, go_sem, c2_0, c2_1, c2_2, c2_3, fc2_2, fc2_3]) rfl ⟨rfl, ?_⟩
  exact (hB2.setCell (by simp <;> omega) _).setCell (by simp <;> omega) _
theorem usableOf_any (a n : Int) (hc : chk a n = 0) (w : World) :
    Calls Tryd.prog 14 #[.agg #[.int .i64 a, .int .i64 n]] w fun e w' => e = .returned (.agg #[.int .i64 (uLo a n), .int .i64 (uHi a n)]) ∧ Below w.heap.size w w' := by
  by_cases h : n < 31
  · rw [show uLo a n = a + 1 by simp [uLo, h], show uHi a n = lastA a n - 1 by simp [uHi, h]]
    exact usableOf_2 a n hc (by omega) w
  · rw [show uLo a n = a by simp [uLo, h], show uHi a n = lastA a n by simp [uHi, h]]
    exact usableOf_1 a n hc (by omega) w

set_option maxHeartbeats 800000 in
theorem among_any (A : Option Addr) (l : List Int) (c : Nat) (x : Int) (hm : l.length ≤ maxLen) (w : World) (hl : Rd w w.heap.size A (l.map (Value.int .i64))) :
    Calls Tryd.prog 75 #[.slice A l.length c, .int .i64 x] w fun e w' => e = .returned (.bool (decide (x ∈ l))) ∧ w = w' := by
  unfold maxLen at hm
  go_enter Tryd.func75, Tryd.ntmps75
  go_wp2
  go_loop [5] (fun i => ∃ k : Nat, k ≤ l.length ∧ i = .int .i64 k ∧ x ∉ l.take k) (fun i => l.length - (intOf i).toNat)
  case atStart => exact ⟨0, Nat.zero_le _, rfl, by simp⟩
  case round =>
    obtain ⟨k, hk, rfl, hnot⟩ := hrel
    have HN := Lib.hid hnot
    clear hnot
    by_cases hlt : k < l.length
    · obtain ⟨b, off, rfl, hbb, c0⟩ := hl.int hlt
      by_cases hx : l[k] = x
      · have hin : x ∈ l := hx ▸ List.getElem_mem hlt
        have HI := Lib.hid hin
        have hx' : (l[k] == x) = true := by simpa using hx
        clear hin hx
        go_wp2
        go_ret
        exact ⟨by rw [decide_eq_true HI.out]; rfl, rfl⟩
      · have hx' : (l[k] == x) = false := by simpa using hx
        have HS := Lib.hid (show x ∉ l.take (k + 1) by
          rw [List.take_succ_eq_append_getElem hlt, List.mem_append]
          rintro (h | h)
          · exact HN.out h
          · simp at h; exact hx h.symm)
        clear hx
        go_wp2
        go_round
        case rel => exact ⟨k + 1, by omega, by go_num, HS.out⟩
        case measure => simp [intOf]; omega
    · obtain rfl : k = l.length := by omega
      have HE := Lib.hid (show x ∉ l by have := HN.out; rwa [List.take_length] at this)
      go_wp2
      go_ret
      exact ⟨by rw [decide_eq_false HE.out]; rfl, rfl⟩

theorem among_yes (A : Option Addr) (l : List Int) (c n : Nat) (x : Int) (hn : n = l.length) (hm : l.length ≤ maxLen) (hx : x ∈ l) (w : World) (hl : Rd w w.heap.size A (l.map (Value.int .i64))) :
    Calls Tryd.prog 75 #[.slice A n c, .int .i64 x] w fun e w' => e = .returned (.bool true) ∧ w = w' := by
  subst hn
  exact (among_any A l c x hm w hl).mono fun e w' h => ⟨by rw [h.1, decide_eq_true hx], h.2⟩
theorem among_no (A : Option Addr) (l : List Int) (c n : Nat) (x : Int) (hn : n = l.length) (hm : l.length ≤ maxLen) (hx : x ∉ l) (w : World) (hl : Rd w w.heap.size A (l.map (Value.int .i64))) :
    Calls Tryd.prog 75 #[.slice A n c, .int .i64 x] w fun e w' => e = .returned (.bool false) ∧ w = w' := by
  subst hn
  exact (among_any A l c x hm w hl).mono fun e w' h => ⟨by rw [h.1, decide_eq_false hx], h.2⟩

theorem usedFault_chk {a n : Int} {used : List Int} (h : chk a n ≠ 0) : usedFault a n used = chk a n := by unfold usedFault; rw [if_pos h]
theorem usedFault_full {a n : Int} {used : List Int} (h : chk a n = 0) (h2 : 200 < used.length) : usedFault a n used = 3 := by unfold usedFault; rw [if_neg (by simp [h]), if_pos h2]
theorem usedFault_all {a n : Int} {used : List Int} (h : chk a n = 0) (h2 : used.length ≤ 200) : usedFault a n used = if used.all isA then 0 else 1 := by unfold usedFault; rw [if_neg (by simp [h]), if_neg (by omega)]
set_option maxHeartbeats 800000 in
theorem usedFault_any (a n : Int) (A : Option Addr) (used : List Int) (c : Nat) (hm : used.length ≤ maxLen) (w : World) (hl : Rd w w.heap.size A (used.map (Value.int .i64))) :
    Calls Tryd.prog 17 #[.agg #[.int .i64 a, .int .i64 n], .slice A used.length c] w fun e w' => e = .returned (.int .i64 (usedFault a n used)) ∧ Below w.heap.size w w' := by
  unfold maxLen at hm
  by_cases hc : chk a n = 0
  · by_cases h200 : used.length ≤ 200
    · have H17 := Lib.hid (usedFault_all (used := used) hc h200)
      have HC := Lib.hid hc
      clear hc
      go_enter Tryd.func17, Tryd.ntmps17
      go_wp2_with fail
      refine (fault_any a n _).mono ?_
      rintro e w1 ⟨rfl, hb1⟩
      rw [HC.out]
      have hB1 : Below w.heap.size w w1 := ((Below.refl _ _).alloc (Nat.le_refl _) _).trans (hb1.mono (by simp))
      have hl1 := hl.below hB1
      clear hl hb1
      go_wp2
      go_loop [6, 7] (fun i _ => ∃ k : Nat, k ≤ used.length ∧ i = .int .i64 k ∧ (used.take k).all isA = true) (fun i _ => used.length - (intOf i).toNat)
      case atStart => exact ⟨0, Nat.zero_le _, rfl, by simp⟩
      case round =>
        obtain ⟨k, hk, rfl, hall⟩ := hrel
        have HN := Lib.hid hall
        clear hall
        by_cases hlt : k < used.length
        · obtain ⟨b, off, rfl, hbb, c0⟩ := hl1.int hlt
          cases hx : isA used[k]
          · have HX := Lib.hid hx
            have HF := Lib.hid (show usedFault a n used = 1 by rw [H17.out, all_of_bad isA used k hlt hx]; rfl)
            clear hx
            go_wp2_with fail
            refine (refIs_any _ _).mono ?_
            rintro e w' ⟨rfl, rfl⟩
            rw [HX.out]
            go_wp2
            go_ret
            exact ⟨by rw [HF.out]; rfl, hB1⟩
          · have HX := Lib.hid hx
            have HF := Lib.hid (show (used.take (k + 1)).all isA = true by rw [all_snoc isA used k hlt, HN.out, hx]; rfl)
            clear hx
            go_wp2_with fail
            refine (refIs_any _ _).mono ?_
            rintro e w' ⟨rfl, rfl⟩
            rw [HX.out]
            go_wp2
            go_round
            case rel => exact ⟨k + 1, by omega, by go_num, HF.out⟩
            case measure => simp [intOf]; omega
        · obtain rfl : k = used.length := by omega
          have HE := Lib.hid (show usedFault a n used = 0 by have := HN.out; rw [List.take_length] at this; rw [H17.out, this]; rfl)
          go_wp2
          go_ret
          exact ⟨by rw [HE.out]; rfl, hB1⟩
    · rw [usedFault_full hc (by omega)]
      have HC := Lib.hid hc
      clear hc
      go_enter Tryd.func17, Tryd.ntmps17
      go_wp2_with fail
      refine (fault_any a n _).mono ?_
      rintro e w1 ⟨rfl, hb1⟩
      rw [HC.out]
      go_wp2
      go_ret
      exact ⟨rfl, ((Below.refl _ _).alloc (Nat.le_refl _) _).trans (hb1.mono (by simp))⟩
  · rw [usedFault_chk hc]
    have hz : (chk a n != 0) = true := by simpa using hc
    clear hc
    go_enter Tryd.func17, Tryd.ntmps17
    go_wp2_with fail
    refine (fault_any a n _).mono ?_
    rintro e w1 ⟨rfl, hb1⟩
    go_wp2
    go_ret
    exact ⟨rfl, ((Below.refl _ _).alloc (Nat.le_refl _) _).trans (hb1.mono (by simp))⟩

theorem uSpan0 {a n : Int} (hc : chk a n = 0) : uLo a n ≤ uHi a n + 1 ∧ 0 ≤ uLo a n ∧ uHi a n ≤ 4294967295 := by
  obtain ⟨g1, g2, g3, g4, _⟩ := chk_zero.1 hc
  have g5 := last_le hc
  have g6 := last_ge a n
  have g7 := sz_pos n
  unfold uLo uHi
  split
  · rename_i h
    have : 2 ≤ sz n := by
      have := sz_half n (by omega)
      have := sz_pos (n + 1)
      omega
    unfold lastA at *
    omega
  · omega
def NextV (a n : Int) (used : List Int) : Value := if nextOf a n used ≤ uHi a n then .tuple #[.int .i64 (nextOf a n used), .bool true] else .tuple #[.int .i64 0, .bool false]
set_option maxHeartbeats 1600000 in
theorem nextOf_any (a n : Int) (A : Option Addr) (used : List Int) (c : Nat) (hc : chk a n = 0) (hm : used.length ≤ maxLen) (w : World) (hl : Rd w w.heap.size A (used.map (Value.int .i64))) :
    Calls Tryd.prog 20 #[.agg #[.int .i64 a, .int .i64 n], .slice A used.length c] w fun e w' => e = .returned (NextV a n used) ∧ Below w.heap.size w w' := by
  obtain ⟨u1, u2, u3⟩ := uSpan0 hc
  have HC := Lib.hid hc
  have HU := Lib.hid (nextOf_unique a n used)
  clear hc
  go_enter Tryd.func20, Tryd.ntmps20
  go_wp2_with fail
  refine (usableOf_any a n HC.out _).mono ?_
  rintro e w1 ⟨rfl, hb1⟩
  obtain ⟨lo, hlo⟩ : ∃ lo, lo = uLo a n := ⟨_, rfl⟩
  obtain ⟨hi, hhi⟩ : ∃ hi, hi = uHi a n := ⟨_, rfl⟩
  rw [← hlo, ← hhi] at u1 HU
  rw [← hlo] at u2
  rw [← hhi] at u3
  rw [← hlo, ← hhi]
  have HLO := Lib.hid hlo
  have HHI := Lib.hid hhi
  clear hlo hhi
  have hB1 : Below w.heap.size w w1 := ((Below.refl _ _).alloc (Nat.le_refl _) _).trans (hb1.mono (by simp))
  have hs1 := hB1.size
  have hl1 := (hl.below hB1).alloc hs1 (.cells #[.int .i64 lo, .int .i64 hi] 28)
  have hB2 := hB1.alloc hs1 (.cells #[.int .i64 lo, .int .i64 hi] 28)
  have hl2 := hl1.more hB2.size
  clear hl hb1 hl1
  go_wp2
  go_loop [7, 8] (fun i _ => ∃ x : Int, lo ≤ x ∧ x ≤ hi + 1 ∧ i = .int .i64 x ∧ ∀ z, lo ≤ z → z < x → z ∈ used) (fun i _ => (hi + 1 - intOf i).toNat)
  case atStart => exact ⟨lo, Int.le_refl _, u1, rfl, fun z h1 h2 => by omega⟩
  case round =>
    obtain ⟨x, hx1, hx2, rfl, hall⟩ := hrel
    have HN := Lib.hid hall
    clear hall
    by_cases hlt : x ≤ hi
    · by_cases hin : x ∈ used
      · have HI := Lib.hid hin
        have HS := Lib.hid (show ∀ z, lo ≤ z → z < x + 1 → z ∈ used from fun z h1 h2 => by
          by_cases e : z = x
          · exact e ▸ hin
          · exact HN.out z h1 (by omega))
        clear hin
        go_wp2_with fail
        refine (among_yes A used c _ x rfl hm HI.out _ hl2).mono ?_
        rintro e w' ⟨rfl, rfl⟩
        go_wp2
        go_round
        case rel => exact ⟨x + 1, by omega, by omega, by go_num, HS.out⟩
        case measure => simp [intOf]; omega
      · have HI := Lib.hid hin
        have hnx : nextOf a n used = x := HU.out x hx1 hx2 (fun z h1 h2 => mem_marks.2 ⟨HN.out z h1 h2, by rw [← HLO.out]; exact h1, by rw [← HHI.out]; omega⟩) (fun h => hin (mem_marks.1 h).1)
        have HV := Lib.hid (show NextV a n used = .tuple #[.int .i64 x, .bool true] by unfold NextV; rw [hnx, if_pos (by rw [← HHI.out]; exact hlt)])
        clear hin hnx
        go_wp2_with fail
        refine (among_no A used c _ x rfl hm HI.out _ hl2).mono ?_
        rintro e w' ⟨rfl, rfl⟩
        go_wp2
        go_ret2
        exact ⟨by rw [HV.out]; rfl, hB2⟩
    · have hnx : nextOf a n used = x := HU.out x hx1 hx2 (fun z h1 h2 => mem_marks.2 ⟨HN.out z h1 h2, by rw [← HLO.out]; exact h1, by rw [← HHI.out]; omega⟩) (fun h => by have := (mem_marks.1 h).2.2; rw [← HHI.out] at this; omega)
      have HV := Lib.hid (show NextV a n used = .tuple #[.int .i64 0, .bool false] by unfold NextV; rw [hnx, if_neg (by rw [← HHI.out]; exact hlt)])
      clear hnx
      go_wp2
      go_ret2
      exact ⟨by rw [HV.out]; rfl, hB2⟩

theorem take_rd {w : World} {B : Nat} {A : Option Addr} {l : List Int} (h : Rd w B A (l.map (Value.int .i64))) (k : Nat) : Rd w B A ((l.take k).map (Value.int .i64)) := fun hn => by
  have hne : l.map (Value.int .i64) ≠ [] := fun e => hn (by simp at e; subst e; simp)
  obtain ⟨b, off, e, hb, hc⟩ := h hne
  refine ⟨b, off, e, hb, fun j u hj => hc j u ?_⟩
  rw [List.map_take, List.getElem?_take] at hj
  split at hj
  · exact hj
  · cases hj
def cntU (a n : Int) (l : List Int) : Nat := (distinct (marks a n l)).length
theorem cntU_step {a n : Int} {used : List Int} {k : Nat} (h : k < used.length) : cntU a n (used.take (k + 1)) = cntU a n (used.take k) + (if inU a n used[k] = true ∧ used[k] ∉ used.take k then 1 else 0) := by
  unfold cntU
  rw [marks_snoc a n used k h]
  by_cases hi : inU a n used[k] = true
  · rw [if_pos hi, distinct_snoc]
    unfold addNew
    have hm : used[k] ∈ distinct (marks a n (used.take k)) ↔ used[k] ∈ used.take k := by
      rw [mem_distinct, mem_marks]
      simp [inU] at hi
      exact ⟨fun h => h.1, fun h => ⟨h, hi.1, hi.2⟩⟩
    by_cases hin : used[k] ∈ used.take k
    · rw [if_pos (hm.2 hin), if_neg (by simp [hin])]; rfl
    · rw [if_neg (fun h => hin (hm.1 h)), if_pos ⟨hi, hin⟩]; simp
  · rw [if_neg hi, if_neg (fun h => hi h.1)]; simp
theorem cntU_le (a n : Int) (used : List Int) (k : Nat) : cntU a n (used.take k) ≤ k := by
  induction k with
  | zero => simp [cntU, marks, distinct]
  | succ k ih =>
    by_cases h : k < used.length
    · rw [cntU_step h]; split <;> omega
    · rw [List.take_of_length_le (by omega)]
      rw [List.take_of_length_le (by omega)] at ih
      omega
end Go.Proofs.YtcgeagobndhpjaaDoor
