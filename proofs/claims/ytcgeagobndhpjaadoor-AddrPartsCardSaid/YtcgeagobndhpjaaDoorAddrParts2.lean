/- The law AddrParts, its parts: the second. Any prefixes, any two numbers. -/
import Derived.Test.YtcgeagobndhpjaaDoorAddrParts0
import Derived.Test.YtcgeagobndhpjaaDoorTree
namespace Go.Proofs.YtcgeagobndhpjaaDoor
set_option linter.unusedVariables false
set_option linter.unusedSimpArgs false
open Go.RowKit

theorem within_1 (a n b m : Int) (h : chk a n ≠ 0) (w : World) : Calls Tryd.prog 28 #[.agg #[.int .i64 a, .int .i64 n], .agg #[.int .i64 b, .int .i64 m]] w fun e w' => e = .returned (.tuple #[.bool false, .iface 25 (.int .i64 (chk a n))]) ∧ Below w.heap.size w w' :=
  (within_any (a, n) (b, m) w).mono fun e w' h' => ⟨by rw [h'.1]; simp [WithinV, withinFault, chkP, h], h'.2⟩
theorem within_2 (a n b m : Int) (h : chk a n = 0) (h2 : chk b m ≠ 0) (w : World) : Calls Tryd.prog 28 #[.agg #[.int .i64 a, .int .i64 n], .agg #[.int .i64 b, .int .i64 m]] w fun e w' => e = .returned (.tuple #[.bool false, .iface 25 (.int .i64 (chk b m))]) ∧ Below w.heap.size w w' :=
  (within_any (a, n) (b, m) w).mono fun e w' h' => ⟨by rw [h'.1]; simp [WithinV, withinFault, chkP, h, h2], h'.2⟩
theorem within_3 (a n b m : Int) (h : chk a n = 0) (h2 : chk b m = 0) (w : World) : Calls Tryd.prog 28 #[.agg #[.int .i64 a, .int .i64 n], .agg #[.int .i64 b, .int .i64 m]] w fun e w' => e = .returned (.tuple #[.bool (inP a n b m), .nilIface]) ∧ Below w.heap.size w w' :=
  (within_ok (a, n) (b, m) h h2 w)
set_option maxRecDepth 100000 in
set_option maxHeartbeats 8000000 in
theorem addrParts_2a (a n b m x y : Int) (w : World) (hg : ErrVar w) (hc : chk a n ≠ 0) (Q : Exit → Act → World → Prop) (s0 : Act) (w0 : World) (h0 : APmid1 a n b m x y w s0 w0)
    (h : ∀ a' w', APmid2 a n b m x y w a' w' → (tailN 4 (tailN 20 (Tryd.f4.body.getD .skip))).wp Tryd.prog Q a' w') :
    (tailN 20 (Tryd.f4.body.getD .skip)).wp Tryd.prog Q s0 w0 := by
  have HG := Lib.hid hg
  clear hg
  have hz : (chk a n == 0) = false := by simpa using hc
  have hz' : (chk a n != 0) = true := by simpa using hc
  have HC := Lib.hid hc
  clear hc
  obtain ⟨U, g, k, rfl, rfl, hB0, ⟨c0_0, c0_1⟩, ⟨c0_2, c0_3⟩, hgb, fc0_4, fc0_5, u, v, c0_4, c0_5⟩ := h0
  refine wp_cut 4 (APmid2 a n b m x y w) (by rfl) ?_ h
  clear h
  intro r HR
  dsimp only [Tryd.f4, Option.getD, tailN, putN]
  have hs0 := hB0.size
  have l0_0a : w.heap.size < w0.heap.size := World.block_lt_of_cell? w0 _ c0_0
  have l0_0b : w.heap.size < w0.heap.size + 1 := Nat.lt_succ_of_lt l0_0a
  have l0_0c : w.heap.size < w0.heap.size + 1 + 1 := Nat.lt_succ_of_lt l0_0b
  have l0_0d : w.heap.size < w0.heap.size + 1 + 1 + 1 := Nat.lt_succ_of_lt l0_0c
  have l0_1a : w.heap.size + 1 < w0.heap.size := World.block_lt_of_cell? w0 _ c0_2
  have l0_1b : w.heap.size + 1 < w0.heap.size + 1 := Nat.lt_succ_of_lt l0_1a
  have l0_1c : w.heap.size + 1 < w0.heap.size + 1 + 1 := Nat.lt_succ_of_lt l0_1b
  have l0_1d : w.heap.size + 1 < w0.heap.size + 1 + 1 + 1 := Nat.lt_succ_of_lt l0_1c
  have l0_2a : g < w0.heap.size := World.block_lt_of_cell? w0 _ c0_4
  have l0_2b : g < w0.heap.size + 1 := Nat.lt_succ_of_lt l0_2a
  have l0_2c : g < w0.heap.size + 1 + 1 := Nat.lt_succ_of_lt l0_2b
  have l0_2d : g < w0.heap.size + 1 + 1 + 1 := Nat.lt_succ_of_lt l0_2c
  have n0_2_0 : g ≠ w.heap.size := by omega
  have m0_2_0 : w.heap.size ≠ g := by omega
  have n0_2_1 : g ≠ w.heap.size + 1 := by omega
  have m0_2_1 : w.heap.size + 1 ≠ g := by omega
  go_wp2_with fail
  refine (within_1 a n b m HC.out _).mono ?_
  rintro e w1 ⟨rfl, hb1⟩
  have hB1 : Below w.heap.size w w1 := Below.trans (by first | exact hB0 | ((repeat' (first | exact hB0 | refine Below.setCell ?_ ?_ _ | refine Below.alloc ?_ ?_ _ | refine Below.drew ?_)) <;> (first | omega | (simp <;> omega)))) (hb1.mono (by first | omega | (simp <;> omega)))
  have hs1 : w.heap.size ≤ w1.heap.size := hB1.size
  have ht1 := hb1.size
  try simp only [World.size_alloc, World.size_setCell] at ht1
  have c1_0 : w1.cell? ⟨w.heap.size, 0, none⟩ = some (.int .i64 a) := (hb1.cell (p := ⟨w.heap.size, 0, none⟩) (by first | omega | (simp <;> omega))).trans (by first | exact c0_0 | simp [go_sem, c0_0, l0_0a, l0_0b, l0_0c, l0_0d, l0_1a, l0_1b, l0_1c, l0_1d, l0_2a, l0_2b, l0_2c, l0_2d, n0_2_0, m0_2_0, n0_2_1, m0_2_1])
  have c1_1 : w1.cell? ⟨w.heap.size, 1, none⟩ = some (.int .i64 n) := (hb1.cell (p := ⟨w.heap.size, 1, none⟩) (by first | omega | (simp <;> omega))).trans (by first | exact c0_1 | simp [go_sem, c0_1, l0_0a, l0_0b, l0_0c, l0_0d, l0_1a, l0_1b, l0_1c, l0_1d, l0_2a, l0_2b, l0_2c, l0_2d, n0_2_0, m0_2_0, n0_2_1, m0_2_1])
  have c1_2 : w1.cell? ⟨w.heap.size + 1, 0, none⟩ = some (.int .i64 b) := (hb1.cell (p := ⟨w.heap.size + 1, 0, none⟩) (by first | omega | (simp <;> omega))).trans (by first | exact c0_2 | simp [go_sem, c0_2, l0_0a, l0_0b, l0_0c, l0_0d, l0_1a, l0_1b, l0_1c, l0_1d, l0_2a, l0_2b, l0_2c, l0_2d, n0_2_0, m0_2_0, n0_2_1, m0_2_1])
  have c1_3 : w1.cell? ⟨w.heap.size + 1, 1, none⟩ = some (.int .i64 m) := (hb1.cell (p := ⟨w.heap.size + 1, 1, none⟩) (by first | omega | (simp <;> omega))).trans (by first | exact c0_3 | simp [go_sem, c0_3, l0_0a, l0_0b, l0_0c, l0_0d, l0_1a, l0_1b, l0_1c, l0_1d, l0_2a, l0_2b, l0_2c, l0_2d, n0_2_0, m0_2_0, n0_2_1, m0_2_1])
  have c1_4 : w1.cell? ⟨g, 0, none⟩ = some (.int .i64 u) := (hb1.cell (p := ⟨g, 0, none⟩) (by first | omega | (simp <;> omega))).trans (by first | exact c0_4 | simp [go_sem, c0_4, l0_0a, l0_0b, l0_0c, l0_0d, l0_1a, l0_1b, l0_1c, l0_1d, l0_2a, l0_2b, l0_2c, l0_2d, n0_2_0, m0_2_0, n0_2_1, m0_2_1])
  have fc1_4 : w1.frozen? ⟨g, 0, none⟩ = false := (hb1.frozen (p := ⟨g, 0, none⟩) (by first | omega | (simp <;> omega))).trans (by first | exact fc0_4 | simp [go_sem, fc0_4, l0_0a, l0_0b, l0_0c, l0_0d, l0_1a, l0_1b, l0_1c, l0_1d, l0_2a, l0_2b, l0_2c, l0_2d, n0_2_0, m0_2_0, n0_2_1, m0_2_1])
  have c1_5 : w1.cell? ⟨g, 1, none⟩ = some (.int .i64 v) := (hb1.cell (p := ⟨g, 1, none⟩) (by first | omega | (simp <;> omega))).trans (by first | exact c0_5 | simp [go_sem, c0_5, l0_0a, l0_0b, l0_0c, l0_0d, l0_1a, l0_1b, l0_1c, l0_1d, l0_2a, l0_2b, l0_2c, l0_2d, n0_2_0, m0_2_0, n0_2_1, m0_2_1])
  have fc1_5 : w1.frozen? ⟨g, 1, none⟩ = false := (hb1.frozen (p := ⟨g, 1, none⟩) (by first | omega | (simp <;> omega))).trans (by first | exact fc0_5 | simp [go_sem, fc0_5, l0_0a, l0_0b, l0_0c, l0_0d, l0_1a, l0_1b, l0_1c, l0_1d, l0_2a, l0_2b, l0_2c, l0_2d, n0_2_0, m0_2_0, n0_2_1, m0_2_1])
  have l1_0a : w.heap.size < w1.heap.size := World.block_lt_of_cell? w1 _ c1_0
  have l1_0b : w.heap.size < w1.heap.size + 1 := Nat.lt_succ_of_lt l1_0a
  have l1_0c : w.heap.size < w1.heap.size + 1 + 1 := Nat.lt_succ_of_lt l1_0b
  have l1_0d : w.heap.size < w1.heap.size + 1 + 1 + 1 := Nat.lt_succ_of_lt l1_0c
  have l1_1a : w.heap.size + 1 < w1.heap.size := World.block_lt_of_cell? w1 _ c1_2
  have l1_1b : w.heap.size + 1 < w1.heap.size + 1 := Nat.lt_succ_of_lt l1_1a
  have l1_1c : w.heap.size + 1 < w1.heap.size + 1 + 1 := Nat.lt_succ_of_lt l1_1b
  have l1_1d : w.heap.size + 1 < w1.heap.size + 1 + 1 + 1 := Nat.lt_succ_of_lt l1_1c
  have l1_2a : g < w1.heap.size := World.block_lt_of_cell? w1 _ c1_4
  have l1_2b : g < w1.heap.size + 1 := Nat.lt_succ_of_lt l1_2a
  have l1_2c : g < w1.heap.size + 1 + 1 := Nat.lt_succ_of_lt l1_2b
  have l1_2d : g < w1.heap.size + 1 + 1 + 1 := Nat.lt_succ_of_lt l1_2c
  have n1_2_0 : g ≠ w.heap.size := by omega
  have m1_2_0 : w.heap.size ≠ g := by omega
  have n1_2_1 : g ≠ w.heap.size + 1 := by omega
  have m1_2_1 : w.heap.size + 1 ≠ g := by omega
  clear c0_0 c0_1 c0_2 c0_3 c0_4 c0_5 fc0_4 fc0_5 l0_0a l0_0b l0_0c l0_0d l0_1a l0_1b l0_1c l0_1d l0_2a l0_2b l0_2c l0_2d n0_2_0 m0_2_0 n0_2_1 m0_2_1 hB0 hb1
  go_wp2_with fail
  refine (error_same _ HC.out _ (by exact HG.out.belowB (show Below w.heap.size w _ from (by first | exact hB1 | ((repeat' (first | exact hB1 | refine Below.setCell ?_ ?_ _ | refine Below.alloc ?_ ?_ _ | refine Below.drew ?_)) <;> (first | omega | (simp <;> omega))))) HG.out.lt)).mono ?_
  rintro e w2 ⟨rfl, hb2⟩
  have hB2 : Below w.heap.size w w2 := Below.trans (by first | exact hB1 | ((repeat' (first | exact hB1 | refine Below.setCell ?_ ?_ _ | refine Below.alloc ?_ ?_ _ | refine Below.drew ?_)) <;> (first | omega | (simp <;> omega)))) (hb2.mono (by first | omega | (simp <;> omega)))
  have hs2 : w.heap.size ≤ w2.heap.size := hB2.size
  have ht2 := hb2.size
  try simp only [World.size_alloc, World.size_setCell] at ht2
  have c2_0 : w2.cell? ⟨w.heap.size, 0, none⟩ = some (.int .i64 a) := (hb2.cell (p := ⟨w.heap.size, 0, none⟩) (by first | omega | (simp <;> omega))).trans (by first | exact c1_0 | simp [go_sem, c1_0, l1_0a, l1_0b, l1_0c, l1_0d, l1_1a, l1_1b, l1_1c, l1_1d, l1_2a, l1_2b, l1_2c, l1_2d, n1_2_0, m1_2_0, n1_2_1, m1_2_1])
  have c2_1 : w2.cell? ⟨w.heap.size, 1, none⟩ = some (.int .i64 n) := (hb2.cell (p := ⟨w.heap.size, 1, none⟩) (by first | omega | (simp <;> omega))).trans (by first | exact c1_1 | simp [go_sem, c1_1, l1_0a, l1_0b, l1_0c, l1_0d, l1_1a, l1_1b, l1_1c, l1_1d, l1_2a, l1_2b, l1_2c, l1_2d, n1_2_0, m1_2_0, n1_2_1, m1_2_1])
  have c2_2 : w2.cell? ⟨w.heap.size + 1, 0, none⟩ = some (.int .i64 b) := (hb2.cell (p := ⟨w.heap.size + 1, 0, none⟩) (by first | omega | (simp <;> omega))).trans (by first | exact c1_2 | simp [go_sem, c1_2, l1_0a, l1_0b, l1_0c, l1_0d, l1_1a, l1_1b, l1_1c, l1_1d, l1_2a, l1_2b, l1_2c, l1_2d, n1_2_0, m1_2_0, n1_2_1, m1_2_1])
  have c2_3 : w2.cell? ⟨w.heap.size + 1, 1, none⟩ = some (.int .i64 m) := (hb2.cell (p := ⟨w.heap.size + 1, 1, none⟩) (by first | omega | (simp <;> omega))).trans (by first | exact c1_3 | simp [go_sem, c1_3, l1_0a, l1_0b, l1_0c, l1_0d, l1_1a, l1_1b, l1_1c, l1_1d, l1_2a, l1_2b, l1_2c, l1_2d, n1_2_0, m1_2_0, n1_2_1, m1_2_1])
  have c2_4 : w2.cell? ⟨g, 0, none⟩ = some (.int .i64 u) := (hb2.cell (p := ⟨g, 0, none⟩) (by first | omega | (simp <;> omega))).trans (by first | exact c1_4 | simp [go_sem, c1_4, l1_0a, l1_0b, l1_0c, l1_0d, l1_1a, l1_1b, l1_1c, l1_1d, l1_2a, l1_2b, l1_2c, l1_2d, n1_2_0, m1_2_0, n1_2_1, m1_2_1])
  have fc2_4 : w2.frozen? ⟨g, 0, none⟩ = false := (hb2.frozen (p := ⟨g, 0, none⟩) (by first | omega | (simp <;> omega))).trans (by first | exact fc1_4 | simp [go_sem, fc1_4, l1_0a, l1_0b, l1_0c, l1_0d, l1_1a, l1_1b, l1_1c, l1_1d, l1_2a, l1_2b, l1_2c, l1_2d, n1_2_0, m1_2_0, n1_2_1, m1_2_1])
  have c2_5 : w2.cell? ⟨g, 1, none⟩ = some (.int .i64 v) := (hb2.cell (p := ⟨g, 1, none⟩) (by first | omega | (simp <;> omega))).trans (by first | exact c1_5 | simp [go_sem, c1_5, l1_0a, l1_0b, l1_0c, l1_0d, l1_1a, l1_1b, l1_1c, l1_1d, l1_2a, l1_2b, l1_2c, l1_2d, n1_2_0, m1_2_0, n1_2_1, m1_2_1])
  have fc2_5 : w2.frozen? ⟨g, 1, none⟩ = false := (hb2.frozen (p := ⟨g, 1, none⟩) (by first | omega | (simp <;> omega))).trans (by first | exact fc1_5 | simp [go_sem, fc1_5, l1_0a, l1_0b, l1_0c, l1_0d, l1_1a, l1_1b, l1_1c, l1_1d, l1_2a, l1_2b, l1_2c, l1_2d, n1_2_0, m1_2_0, n1_2_1, m1_2_1])
  have l2_0a : w.heap.size < w2.heap.size := World.block_lt_of_cell? w2 _ c2_0
  have l2_0b : w.heap.size < w2.heap.size + 1 := Nat.lt_succ_of_lt l2_0a
  have l2_0c : w.heap.size < w2.heap.size + 1 + 1 := Nat.lt_succ_of_lt l2_0b
  have l2_0d : w.heap.size < w2.heap.size + 1 + 1 + 1 := Nat.lt_succ_of_lt l2_0c
  have l2_1a : w.heap.size + 1 < w2.heap.size := World.block_lt_of_cell? w2 _ c2_2
  have l2_1b : w.heap.size + 1 < w2.heap.size + 1 := Nat.lt_succ_of_lt l2_1a
  have l2_1c : w.heap.size + 1 < w2.heap.size + 1 + 1 := Nat.lt_succ_of_lt l2_1b
  have l2_1d : w.heap.size + 1 < w2.heap.size + 1 + 1 + 1 := Nat.lt_succ_of_lt l2_1c
  have l2_2a : g < w2.heap.size := World.block_lt_of_cell? w2 _ c2_4
  have l2_2b : g < w2.heap.size + 1 := Nat.lt_succ_of_lt l2_2a
  have l2_2c : g < w2.heap.size + 1 + 1 := Nat.lt_succ_of_lt l2_2b
  have l2_2d : g < w2.heap.size + 1 + 1 + 1 := Nat.lt_succ_of_lt l2_2c
  have n2_2_0 : g ≠ w.heap.size := by omega
  have m2_2_0 : w.heap.size ≠ g := by omega
  have n2_2_1 : g ≠ w.heap.size + 1 := by omega
  have m2_2_1 : w.heap.size + 1 ≠ g := by omega
  clear c1_0 c1_1 c1_2 c1_3 c1_4 c1_5 fc1_4 fc1_5 l1_0a l1_0b l1_0c l1_0d l1_1a l1_1b l1_1c l1_1d l1_2a l1_2b l1_2c l1_2d n1_2_0 m1_2_0 n1_2_1 m1_2_1 hB1 hb2
  go_wp2_with fail
  refine wp_name ?_
  intro w3 hW3
  have hB3 : Below w.heap.size w w3 := by rw [hW3.out]; exact (by first | exact hB2 | ((repeat' (first | exact hB2 | refine Below.setCell ?_ ?_ _ | refine Below.alloc ?_ ?_ _ | refine Below.drew ?_)) <;> (first | omega | (simp <;> omega))))
  have hs3 : w.heap.size ≤ w3.heap.size := hB3.size
  have ht3 := congrArg (fun x : World => x.heap.size) hW3.out
  try simp only [World.size_alloc, World.size_setCell] at ht3
  have c3_0 : w3.cell? ⟨w.heap.size, 0, none⟩ = some (.int .i64 a) := by rw [hW3.out]; first | exact c2_0 | simp [go_sem, c2_0, l2_0a, l2_0b, l2_0c, l2_0d, l2_1a, l2_1b, l2_1c, l2_1d, l2_2a, l2_2b, l2_2c, l2_2d, n2_2_0, m2_2_0, n2_2_1, m2_2_1]
  have c3_1 : w3.cell? ⟨w.heap.size, 1, none⟩ = some (.int .i64 n) := by rw [hW3.out]; first | exact c2_1 | simp [go_sem, c2_1, l2_0a, l2_0b, l2_0c, l2_0d, l2_1a, l2_1b, l2_1c, l2_1d, l2_2a, l2_2b, l2_2c, l2_2d, n2_2_0, m2_2_0, n2_2_1, m2_2_1]
  have c3_2 : w3.cell? ⟨w.heap.size + 1, 0, none⟩ = some (.int .i64 b) := by rw [hW3.out]; first | exact c2_2 | simp [go_sem, c2_2, l2_0a, l2_0b, l2_0c, l2_0d, l2_1a, l2_1b, l2_1c, l2_1d, l2_2a, l2_2b, l2_2c, l2_2d, n2_2_0, m2_2_0, n2_2_1, m2_2_1]
  have c3_3 : w3.cell? ⟨w.heap.size + 1, 1, none⟩ = some (.int .i64 m) := by rw [hW3.out]; first | exact c2_3 | simp [go_sem, c2_3, l2_0a, l2_0b, l2_0c, l2_0d, l2_1a, l2_1b, l2_1c, l2_1d, l2_2a, l2_2b, l2_2c, l2_2d, n2_2_0, m2_2_0, n2_2_1, m2_2_1]
  have c3_4 : w3.cell? ⟨g, 0, none⟩ = some (.int .i64 u) := by rw [hW3.out]; first | exact c2_4 | simp [go_sem, c2_4, l2_0a, l2_0b, l2_0c, l2_0d, l2_1a, l2_1b, l2_1c, l2_1d, l2_2a, l2_2b, l2_2c, l2_2d, n2_2_0, m2_2_0, n2_2_1, m2_2_1]
  have fc3_4 : w3.frozen? ⟨g, 0, none⟩ = false := by rw [hW3.out]; first | exact fc2_4 | simp [go_sem, fc2_4, l2_0a, l2_0b, l2_0c, l2_0d, l2_1a, l2_1b, l2_1c, l2_1d, l2_2a, l2_2b, l2_2c, l2_2d, n2_2_0, m2_2_0, n2_2_1, m2_2_1]
  have c3_5 : w3.cell? ⟨g, 1, none⟩ = some (.int .i64 v) := by rw [hW3.out]; first | exact c2_5 | simp [go_sem, c2_5, l2_0a, l2_0b, l2_0c, l2_0d, l2_1a, l2_1b, l2_1c, l2_1d, l2_2a, l2_2b, l2_2c, l2_2d, n2_2_0, m2_2_0, n2_2_1, m2_2_1]
  have fc3_5 : w3.frozen? ⟨g, 1, none⟩ = false := by rw [hW3.out]; first | exact fc2_5 | simp [go_sem, fc2_5, l2_0a, l2_0b, l2_0c, l2_0d, l2_1a, l2_1b, l2_1c, l2_1d, l2_2a, l2_2b, l2_2c, l2_2d, n2_2_0, m2_2_0, n2_2_1, m2_2_1]
  have l3_0a : w.heap.size < w3.heap.size := World.block_lt_of_cell? w3 _ c3_0
  have l3_0b : w.heap.size < w3.heap.size + 1 := Nat.lt_succ_of_lt l3_0a
  have l3_0c : w.heap.size < w3.heap.size + 1 + 1 := Nat.lt_succ_of_lt l3_0b
  have l3_0d : w.heap.size < w3.heap.size + 1 + 1 + 1 := Nat.lt_succ_of_lt l3_0c
  have l3_1a : w.heap.size + 1 < w3.heap.size := World.block_lt_of_cell? w3 _ c3_2
  have l3_1b : w.heap.size + 1 < w3.heap.size + 1 := Nat.lt_succ_of_lt l3_1a
  have l3_1c : w.heap.size + 1 < w3.heap.size + 1 + 1 := Nat.lt_succ_of_lt l3_1b
  have l3_1d : w.heap.size + 1 < w3.heap.size + 1 + 1 + 1 := Nat.lt_succ_of_lt l3_1c
  have l3_2a : g < w3.heap.size := World.block_lt_of_cell? w3 _ c3_4
  have l3_2b : g < w3.heap.size + 1 := Nat.lt_succ_of_lt l3_2a
  have l3_2c : g < w3.heap.size + 1 + 1 := Nat.lt_succ_of_lt l3_2b
  have l3_2d : g < w3.heap.size + 1 + 1 + 1 := Nat.lt_succ_of_lt l3_2c
  have n3_2_0 : g ≠ w.heap.size := by omega
  have m3_2_0 : w.heap.size ≠ g := by omega
  have n3_2_1 : g ≠ w.heap.size + 1 := by omega
  have m3_2_1 : w.heap.size + 1 ≠ g := by omega
  have hu3 := Nat.le_of_eq ht3
  have hv3 := Nat.le_of_eq ht3.symm
  clear ht3 c2_0 c2_1 c2_2 c2_3 c2_4 c2_5 fc2_4 fc2_5 l2_0a l2_0b l2_0c l2_0d l2_1a l2_1b l2_1c l2_1d l2_2a l2_2b l2_2c l2_2d n2_2_0 m2_2_0 n2_2_1 m2_2_1 hB2 hW3
  exact HR.out _ _ (APmid2.mk (g) _ rfl (by kernel_rfl) ⟨hB3, ⟨c3_0, c3_1⟩, ⟨c3_2, c3_3⟩, by omega, fc3_4, fc3_5, _, _, c3_4, c3_5⟩)
set_option maxRecDepth 100000 in
set_option maxHeartbeats 8000000 in
theorem addrParts_2b (a n b m x y : Int) (w : World) (hg : ErrVar w) (hc : chk a n = 0) (hd : chk b m ≠ 0) (Q : Exit → Act → World → Prop) (s0 : Act) (w0 : World) (h0 : APmid1 a n b m x y w s0 w0)
    (h : ∀ a' w', APmid2 a n b m x y w a' w' → (tailN 4 (tailN 20 (Tryd.f4.body.getD .skip))).wp Tryd.prog Q a' w') :
    (tailN 20 (Tryd.f4.body.getD .skip)).wp Tryd.prog Q s0 w0 := by
  have HG := Lib.hid hg
  clear hg
  have hz : (chk b m == 0) = false := by simpa using hd
  have hz' : (chk b m != 0) = true := by simpa using hd
  have HC := Lib.hid hc
  have HD := Lib.hid hd
  clear hc hd
  obtain ⟨U, g, k, rfl, hk, hB0, ⟨c0_0, c0_1⟩, ⟨c0_2, c0_3⟩, hgb, fc0_4, fc0_5, u, v, c0_4, c0_5⟩ := h0
  obtain rfl : k = 0 := hk.trans HC.out
  clear hk
  refine wp_cut 4 (APmid2 a n b m x y w) (by rfl) ?_ h
  clear h
  intro r HR
  dsimp only [Tryd.f4, Option.getD, tailN, putN]
  have hs0 := hB0.size
  have l0_0a : w.heap.size < w0.heap.size := World.block_lt_of_cell? w0 _ c0_0
  have l0_0b : w.heap.size < w0.heap.size + 1 := Nat.lt_succ_of_lt l0_0a
  have l0_0c : w.heap.size < w0.heap.size + 1 + 1 := Nat.lt_succ_of_lt l0_0b
  have l0_0d : w.heap.size < w0.heap.size + 1 + 1 + 1 := Nat.lt_succ_of_lt l0_0c
  have l0_1a : w.heap.size + 1 < w0.heap.size := World.block_lt_of_cell? w0 _ c0_2
  have l0_1b : w.heap.size + 1 < w0.heap.size + 1 := Nat.lt_succ_of_lt l0_1a
  have l0_1c : w.heap.size + 1 < w0.heap.size + 1 + 1 := Nat.lt_succ_of_lt l0_1b
  have l0_1d : w.heap.size + 1 < w0.heap.size + 1 + 1 + 1 := Nat.lt_succ_of_lt l0_1c
  have l0_2a : g < w0.heap.size := World.block_lt_of_cell? w0 _ c0_4
  have l0_2b : g < w0.heap.size + 1 := Nat.lt_succ_of_lt l0_2a
  have l0_2c : g < w0.heap.size + 1 + 1 := Nat.lt_succ_of_lt l0_2b
  have l0_2d : g < w0.heap.size + 1 + 1 + 1 := Nat.lt_succ_of_lt l0_2c
  have n0_2_0 : g ≠ w.heap.size := by omega
  have m0_2_0 : w.heap.size ≠ g := by omega
  have n0_2_1 : g ≠ w.heap.size + 1 := by omega
  have m0_2_1 : w.heap.size + 1 ≠ g := by omega
  go_wp2_with fail
  refine (fault_any b m _).mono ?_
  rintro e w1 ⟨rfl, hb1⟩
  have hB1 : Below w.heap.size w w1 := Below.trans (by first | exact hB0 | ((repeat' (first | exact hB0 | refine Below.setCell ?_ ?_ _ | refine Below.alloc ?_ ?_ _ | refine Below.drew ?_)) <;> (first | omega | (simp <;> omega)))) (hb1.mono (by first | omega | (simp <;> omega)))
  have hs1 : w.heap.size ≤ w1.heap.size := hB1.size
  have ht1 := hb1.size
  try simp only [World.size_alloc, World.size_setCell] at ht1
  have c1_0 : w1.cell? ⟨w.heap.size, 0, none⟩ = some (.int .i64 a) := (hb1.cell (p := ⟨w.heap.size, 0, none⟩) (by first | omega | (simp <;> omega))).trans (by first | exact c0_0 | simp [go_sem, c0_0, l0_0a, l0_0b, l0_0c, l0_0d, l0_1a, l0_1b, l0_1c, l0_1d, l0_2a, l0_2b, l0_2c, l0_2d, n0_2_0, m0_2_0, n0_2_1, m0_2_1])
  have c1_1 : w1.cell? ⟨w.heap.size, 1, none⟩ = some (.int .i64 n) := (hb1.cell (p := ⟨w.heap.size, 1, none⟩) (by first | omega | (simp <;> omega))).trans (by first | exact c0_1 | simp [go_sem, c0_1, l0_0a, l0_0b, l0_0c, l0_0d, l0_1a, l0_1b, l0_1c, l0_1d, l0_2a, l0_2b, l0_2c, l0_2d, n0_2_0, m0_2_0, n0_2_1, m0_2_1])
  have c1_2 : w1.cell? ⟨w.heap.size + 1, 0, none⟩ = some (.int .i64 b) := (hb1.cell (p := ⟨w.heap.size + 1, 0, none⟩) (by first | omega | (simp <;> omega))).trans (by first | exact c0_2 | simp [go_sem, c0_2, l0_0a, l0_0b, l0_0c, l0_0d, l0_1a, l0_1b, l0_1c, l0_1d, l0_2a, l0_2b, l0_2c, l0_2d, n0_2_0, m0_2_0, n0_2_1, m0_2_1])
  have c1_3 : w1.cell? ⟨w.heap.size + 1, 1, none⟩ = some (.int .i64 m) := (hb1.cell (p := ⟨w.heap.size + 1, 1, none⟩) (by first | omega | (simp <;> omega))).trans (by first | exact c0_3 | simp [go_sem, c0_3, l0_0a, l0_0b, l0_0c, l0_0d, l0_1a, l0_1b, l0_1c, l0_1d, l0_2a, l0_2b, l0_2c, l0_2d, n0_2_0, m0_2_0, n0_2_1, m0_2_1])
  have c1_4 : w1.cell? ⟨g, 0, none⟩ = some (.int .i64 u) := (hb1.cell (p := ⟨g, 0, none⟩) (by first | omega | (simp <;> omega))).trans (by first | exact c0_4 | simp [go_sem, c0_4, l0_0a, l0_0b, l0_0c, l0_0d, l0_1a, l0_1b, l0_1c, l0_1d, l0_2a, l0_2b, l0_2c, l0_2d, n0_2_0, m0_2_0, n0_2_1, m0_2_1])
  have fc1_4 : w1.frozen? ⟨g, 0, none⟩ = false := (hb1.frozen (p := ⟨g, 0, none⟩) (by first | omega | (simp <;> omega))).trans (by first | exact fc0_4 | simp [go_sem, fc0_4, l0_0a, l0_0b, l0_0c, l0_0d, l0_1a, l0_1b, l0_1c, l0_1d, l0_2a, l0_2b, l0_2c, l0_2d, n0_2_0, m0_2_0, n0_2_1, m0_2_1])
  have c1_5 : w1.cell? ⟨g, 1, none⟩ = some (.int .i64 v) := (hb1.cell (p := ⟨g, 1, none⟩) (by first | omega | (simp <;> omega))).trans (by first | exact c0_5 | simp [go_sem, c0_5, l0_0a, l0_0b, l0_0c, l0_0d, l0_1a, l0_1b, l0_1c, l0_1d, l0_2a, l0_2b, l0_2c, l0_2d, n0_2_0, m0_2_0, n0_2_1, m0_2_1])
  have fc1_5 : w1.frozen? ⟨g, 1, none⟩ = false := (hb1.frozen (p := ⟨g, 1, none⟩) (by first | omega | (simp <;> omega))).trans (by first | exact fc0_5 | simp [go_sem, fc0_5, l0_0a, l0_0b, l0_0c, l0_0d, l0_1a, l0_1b, l0_1c, l0_1d, l0_2a, l0_2b, l0_2c, l0_2d, n0_2_0, m0_2_0, n0_2_1, m0_2_1])
  have l1_0a : w.heap.size < w1.heap.size := World.block_lt_of_cell? w1 _ c1_0
  have l1_0b : w.heap.size < w1.heap.size + 1 := Nat.lt_succ_of_lt l1_0a
  have l1_0c : w.heap.size < w1.heap.size + 1 + 1 := Nat.lt_succ_of_lt l1_0b
  have l1_0d : w.heap.size < w1.heap.size + 1 + 1 + 1 := Nat.lt_succ_of_lt l1_0c
  have l1_1a : w.heap.size + 1 < w1.heap.size := World.block_lt_of_cell? w1 _ c1_2
  have l1_1b : w.heap.size + 1 < w1.heap.size + 1 := Nat.lt_succ_of_lt l1_1a
  have l1_1c : w.heap.size + 1 < w1.heap.size + 1 + 1 := Nat.lt_succ_of_lt l1_1b
  have l1_1d : w.heap.size + 1 < w1.heap.size + 1 + 1 + 1 := Nat.lt_succ_of_lt l1_1c
  have l1_2a : g < w1.heap.size := World.block_lt_of_cell? w1 _ c1_4
  have l1_2b : g < w1.heap.size + 1 := Nat.lt_succ_of_lt l1_2a
  have l1_2c : g < w1.heap.size + 1 + 1 := Nat.lt_succ_of_lt l1_2b
  have l1_2d : g < w1.heap.size + 1 + 1 + 1 := Nat.lt_succ_of_lt l1_2c
  have n1_2_0 : g ≠ w.heap.size := by omega
  have m1_2_0 : w.heap.size ≠ g := by omega
  have n1_2_1 : g ≠ w.heap.size + 1 := by omega
  have m1_2_1 : w.heap.size + 1 ≠ g := by omega
  clear c0_0 c0_1 c0_2 c0_3 c0_4 c0_5 fc0_4 fc0_5 l0_0a l0_0b l0_0c l0_0d l0_1a l0_1b l0_1c l0_1d l0_2a l0_2b l0_2c l0_2d n0_2_0 m0_2_0 n0_2_1 m0_2_1 hB0 hb1
  go_wp2_with fail
  refine (within_2 a n b m HC.out HD.out _).mono ?_
  rintro e w2 ⟨rfl, hb2⟩
  have hB2 : Below w.heap.size w w2 := Below.trans (by first | exact hB1 | ((repeat' (first | exact hB1 | refine Below.setCell ?_ ?_ _ | refine Below.alloc ?_ ?_ _ | refine Below.drew ?_)) <;> (first | omega | (simp <;> omega)))) (hb2.mono (by first | omega | (simp <;> omega)))
  have hs2 : w.heap.size ≤ w2.heap.size := hB2.size
  have ht2 := hb2.size
  try simp only [World.size_alloc, World.size_setCell] at ht2
  have c2_0 : w2.cell? ⟨w.heap.size, 0, none⟩ = some (.int .i64 a) := (hb2.cell (p := ⟨w.heap.size, 0, none⟩) (by first | omega | (simp <;> omega))).trans (by first | exact c1_0 | simp [go_sem, c1_0, l1_0a, l1_0b, l1_0c, l1_0d, l1_1a, l1_1b, l1_1c, l1_1d, l1_2a, l1_2b, l1_2c, l1_2d, n1_2_0, m1_2_0, n1_2_1, m1_2_1])
  have c2_1 : w2.cell? ⟨w.heap.size, 1, none⟩ = some (.int .i64 n) := (hb2.cell (p := ⟨w.heap.size, 1, none⟩) (by first | omega | (simp <;> omega))).trans (by first | exact c1_1 | simp [go_sem, c1_1, l1_0a, l1_0b, l1_0c, l1_0d, l1_1a, l1_1b, l1_1c, l1_1d, l1_2a, l1_2b, l1_2c, l1_2d, n1_2_0, m1_2_0, n1_2_1, m1_2_1])
  have c2_2 : w2.cell? ⟨w.heap.size + 1, 0, none⟩ = some (.int .i64 b) := (hb2.cell (p := ⟨w.heap.size + 1, 0, none⟩) (by first | omega | (simp <;> omega))).trans (by first | exact c1_2 | simp [go_sem, c1_2, l1_0a, l1_0b, l1_0c, l1_0d, l1_1a, l1_1b, l1_1c, l1_1d, l1_2a, l1_2b, l1_2c, l1_2d, n1_2_0, m1_2_0, n1_2_1, m1_2_1])
  have c2_3 : w2.cell? ⟨w.heap.size + 1, 1, none⟩ = some (.int .i64 m) := (hb2.cell (p := ⟨w.heap.size + 1, 1, none⟩) (by first | omega | (simp <;> omega))).trans (by first | exact c1_3 | simp [go_sem, c1_3, l1_0a, l1_0b, l1_0c, l1_0d, l1_1a, l1_1b, l1_1c, l1_1d, l1_2a, l1_2b, l1_2c, l1_2d, n1_2_0, m1_2_0, n1_2_1, m1_2_1])
  have c2_4 : w2.cell? ⟨g, 0, none⟩ = some (.int .i64 u) := (hb2.cell (p := ⟨g, 0, none⟩) (by first | omega | (simp <;> omega))).trans (by first | exact c1_4 | simp [go_sem, c1_4, l1_0a, l1_0b, l1_0c, l1_0d, l1_1a, l1_1b, l1_1c, l1_1d, l1_2a, l1_2b, l1_2c, l1_2d, n1_2_0, m1_2_0, n1_2_1, m1_2_1])
  have fc2_4 : w2.frozen? ⟨g, 0, none⟩ = false := (hb2.frozen (p := ⟨g, 0, none⟩) (by first | omega | (simp <;> omega))).trans (by first | exact fc1_4 | simp [go_sem, fc1_4, l1_0a, l1_0b, l1_0c, l1_0d, l1_1a, l1_1b, l1_1c, l1_1d, l1_2a, l1_2b, l1_2c, l1_2d, n1_2_0, m1_2_0, n1_2_1, m1_2_1])
  have c2_5 : w2.cell? ⟨g, 1, none⟩ = some (.int .i64 v) := (hb2.cell (p := ⟨g, 1, none⟩) (by first | omega | (simp <;> omega))).trans (by first | exact c1_5 | simp [go_sem, c1_5, l1_0a, l1_0b, l1_0c, l1_0d, l1_1a, l1_1b, l1_1c, l1_1d, l1_2a, l1_2b, l1_2c, l1_2d, n1_2_0, m1_2_0, n1_2_1, m1_2_1])
  have fc2_5 : w2.frozen? ⟨g, 1, none⟩ = false := (hb2.frozen (p := ⟨g, 1, none⟩) (by first | omega | (simp <;> omega))).trans (by first | exact fc1_5 | simp [go_sem, fc1_5, l1_0a, l1_0b, l1_0c, l1_0d, l1_1a, l1_1b, l1_1c, l1_1d, l1_2a, l1_2b, l1_2c, l1_2d, n1_2_0, m1_2_0, n1_2_1, m1_2_1])
  have l2_0a : w.heap.size < w2.heap.size := World.block_lt_of_cell? w2 _ c2_0
  have l2_0b : w.heap.size < w2.heap.size + 1 := Nat.lt_succ_of_lt l2_0a
  have l2_0c : w.heap.size < w2.heap.size + 1 + 1 := Nat.lt_succ_of_lt l2_0b
  have l2_0d : w.heap.size < w2.heap.size + 1 + 1 + 1 := Nat.lt_succ_of_lt l2_0c
  have l2_1a : w.heap.size + 1 < w2.heap.size := World.block_lt_of_cell? w2 _ c2_2
  have l2_1b : w.heap.size + 1 < w2.heap.size + 1 := Nat.lt_succ_of_lt l2_1a
  have l2_1c : w.heap.size + 1 < w2.heap.size + 1 + 1 := Nat.lt_succ_of_lt l2_1b
  have l2_1d : w.heap.size + 1 < w2.heap.size + 1 + 1 + 1 := Nat.lt_succ_of_lt l2_1c
  have l2_2a : g < w2.heap.size := World.block_lt_of_cell? w2 _ c2_4
  have l2_2b : g < w2.heap.size + 1 := Nat.lt_succ_of_lt l2_2a
  have l2_2c : g < w2.heap.size + 1 + 1 := Nat.lt_succ_of_lt l2_2b
  have l2_2d : g < w2.heap.size + 1 + 1 + 1 := Nat.lt_succ_of_lt l2_2c
  have n2_2_0 : g ≠ w.heap.size := by omega
  have m2_2_0 : w.heap.size ≠ g := by omega
  have n2_2_1 : g ≠ w.heap.size + 1 := by omega
  have m2_2_1 : w.heap.size + 1 ≠ g := by omega
  clear c1_0 c1_1 c1_2 c1_3 c1_4 c1_5 fc1_4 fc1_5 l1_0a l1_0b l1_0c l1_0d l1_1a l1_1b l1_1c l1_1d l1_2a l1_2b l1_2c l1_2d n1_2_0 m1_2_0 n1_2_1 m1_2_1 hB1 hb2
  go_wp2_with fail
  refine (error_same _ HD.out _ (by exact HG.out.belowB (show Below w.heap.size w _ from (by first | exact hB2 | ((repeat' (first | exact hB2 | refine Below.setCell ?_ ?_ _ | refine Below.alloc ?_ ?_ _ | refine Below.drew ?_)) <;> (first | omega | (simp <;> omega))))) HG.out.lt)).mono ?_
  rintro e w3 ⟨rfl, hb3⟩
  have hB3 : Below w.heap.size w w3 := Below.trans (by first | exact hB2 | ((repeat' (first | exact hB2 | refine Below.setCell ?_ ?_ _ | refine Below.alloc ?_ ?_ _ | refine Below.drew ?_)) <;> (first | omega | (simp <;> omega)))) (hb3.mono (by first | omega | (simp <;> omega)))
  have hs3 : w.heap.size ≤ w3.heap.size := hB3.size
  have ht3 := hb3.size
  try simp only [World.size_alloc, World.size_setCell] at ht3
  have c3_0 : w3.cell? ⟨w.heap.size, 0, none⟩ = some (.int .i64 a) := (hb3.cell (p := ⟨w.heap.size, 0, none⟩) (by first | omega | (simp <;> omega))).trans (by first | exact c2_0 | simp [go_sem, c2_0, l2_0a, l2_0b, l2_0c, l2_0d, l2_1a, l2_1b, l2_1c, l2_1d, l2_2a, l2_2b, l2_2c, l2_2d, n2_2_0, m2_2_0, n2_2_1, m2_2_1])
  have c3_1 : w3.cell? ⟨w.heap.size, 1, none⟩ = some (.int .i64 n) := (hb3.cell (p := ⟨w.heap.size, 1, none⟩) (by first | omega | (simp <;> omega))).trans (by first | exact c2_1 | simp [go_sem, c2_1, l2_0a, l2_0b, l2_0c, l2_0d, l2_1a, l2_1b, l2_1c, l2_1d, l2_2a, l2_2b, l2_2c, l2_2d, n2_2_0, m2_2_0, n2_2_1, m2_2_1])
  have c3_2 : w3.cell? ⟨w.heap.size + 1, 0, none⟩ = some (.int .i64 b) := (hb3.cell (p := ⟨w.heap.size + 1, 0, none⟩) (by first | omega | (simp <;> omega))).trans (by first | exact c2_2 | simp [go_sem, c2_2, l2_0a, l2_0b, l2_0c, l2_0d, l2_1a, l2_1b, l2_1c, l2_1d, l2_2a, l2_2b, l2_2c, l2_2d, n2_2_0, m2_2_0, n2_2_1, m2_2_1])
  have c3_3 : w3.cell? ⟨w.heap.size + 1, 1, none⟩ = some (.int .i64 m) := (hb3.cell (p := ⟨w.heap.size + 1, 1, none⟩) (by first | omega | (simp <;> omega))).trans (by first | exact c2_3 | simp [go_sem, c2_3, l2_0a, l2_0b, l2_0c, l2_0d, l2_1a, l2_1b, l2_1c, l2_1d, l2_2a, l2_2b, l2_2c, l2_2d, n2_2_0, m2_2_0, n2_2_1, m2_2_1])
  have c3_4 : w3.cell? ⟨g, 0, none⟩ = some (.int .i64 u) := (hb3.cell (p := ⟨g, 0, none⟩) (by first | omega | (simp <;> omega))).trans (by first | exact c2_4 | simp [go_sem, c2_4, l2_0a, l2_0b, l2_0c, l2_0d, l2_1a, l2_1b, l2_1c, l2_1d, l2_2a, l2_2b, l2_2c, l2_2d, n2_2_0, m2_2_0, n2_2_1, m2_2_1])
  have fc3_4 : w3.frozen? ⟨g, 0, none⟩ = false := (hb3.frozen (p := ⟨g, 0, none⟩) (by first | omega | (simp <;> omega))).trans (by first | exact fc2_4 | simp [go_sem, fc2_4, l2_0a, l2_0b, l2_0c, l2_0d, l2_1a, l2_1b, l2_1c, l2_1d, l2_2a, l2_2b, l2_2c, l2_2d, n2_2_0, m2_2_0, n2_2_1, m2_2_1])
  have c3_5 : w3.cell? ⟨g, 1, none⟩ = some (.int .i64 v) := (hb3.cell (p := ⟨g, 1, none⟩) (by first | omega | (simp <;> omega))).trans (by first | exact c2_5 | simp [go_sem, c2_5, l2_0a, l2_0b, l2_0c, l2_0d, l2_1a, l2_1b, l2_1c, l2_1d, l2_2a, l2_2b, l2_2c, l2_2d, n2_2_0, m2_2_0, n2_2_1, m2_2_1])
  have fc3_5 : w3.frozen? ⟨g, 1, none⟩ = false := (hb3.frozen (p := ⟨g, 1, none⟩) (by first | omega | (simp <;> omega))).trans (by first | exact fc2_5 | simp [go_sem, fc2_5, l2_0a, l2_0b, l2_0c, l2_0d, l2_1a, l2_1b, l2_1c, l2_1d, l2_2a, l2_2b, l2_2c, l2_2d, n2_2_0, m2_2_0, n2_2_1, m2_2_1])
  have l3_0a : w.heap.size < w3.heap.size := World.block_lt_of_cell? w3 _ c3_0
  have l3_0b : w.heap.size < w3.heap.size + 1 := Nat.lt_succ_of_lt l3_0a
  have l3_0c : w.heap.size < w3.heap.size + 1 + 1 := Nat.lt_succ_of_lt l3_0b
  have l3_0d : w.heap.size < w3.heap.size + 1 + 1 + 1 := Nat.lt_succ_of_lt l3_0c
  have l3_1a : w.heap.size + 1 < w3.heap.size := World.block_lt_of_cell? w3 _ c3_2
  have l3_1b : w.heap.size + 1 < w3.heap.size + 1 := Nat.lt_succ_of_lt l3_1a
  have l3_1c : w.heap.size + 1 < w3.heap.size + 1 + 1 := Nat.lt_succ_of_lt l3_1b
  have l3_1d : w.heap.size + 1 < w3.heap.size + 1 + 1 + 1 := Nat.lt_succ_of_lt l3_1c
  have l3_2a : g < w3.heap.size := World.block_lt_of_cell? w3 _ c3_4
  have l3_2b : g < w3.heap.size + 1 := Nat.lt_succ_of_lt l3_2a
  have l3_2c : g < w3.heap.size + 1 + 1 := Nat.lt_succ_of_lt l3_2b
  have l3_2d : g < w3.heap.size + 1 + 1 + 1 := Nat.lt_succ_of_lt l3_2c
  have n3_2_0 : g ≠ w.heap.size := by omega
  have m3_2_0 : w.heap.size ≠ g := by omega
  have n3_2_1 : g ≠ w.heap.size + 1 := by omega
  have m3_2_1 : w.heap.size + 1 ≠ g := by omega
  clear c2_0 c2_1 c2_2 c2_3 c2_4 c2_5 fc2_4 fc2_5 l2_0a l2_0b l2_0c l2_0d l2_1a l2_1b l2_1c l2_1d l2_2a l2_2b l2_2c l2_2d n2_2_0 m2_2_0 n2_2_1 m2_2_1 hB2 hb3
  go_wp2_with fail
  refine wp_name ?_
  intro w4 hW4
  have hB4 : Below w.heap.size w w4 := by rw [hW4.out]; exact (by first | exact hB3 | ((repeat' (first | exact hB3 | refine Below.setCell ?_ ?_ _ | refine Below.alloc ?_ ?_ _ | refine Below.drew ?_)) <;> (first | omega | (simp <;> omega))))
  have hs4 : w.heap.size ≤ w4.heap.size := hB4.size
  have ht4 := congrArg (fun x : World => x.heap.size) hW4.out
  try simp only [World.size_alloc, World.size_setCell] at ht4
  have c4_0 : w4.cell? ⟨w.heap.size, 0, none⟩ = some (.int .i64 a) := by rw [hW4.out]; first | exact c3_0 | simp [go_sem, c3_0, l3_0a, l3_0b, l3_0c, l3_0d, l3_1a, l3_1b, l3_1c, l3_1d, l3_2a, l3_2b, l3_2c, l3_2d, n3_2_0, m3_2_0, n3_2_1, m3_2_1]
  have c4_1 : w4.cell? ⟨w.heap.size, 1, none⟩ = some (.int .i64 n) := by rw [hW4.out]; first | exact c3_1 | simp [go_sem, c3_1, l3_0a, l3_0b, l3_0c, l3_0d, l3_1a, l3_1b, l3_1c, l3_1d, l3_2a, l3_2b, l3_2c, l3_2d, n3_2_0, m3_2_0, n3_2_1, m3_2_1]
  have c4_2 : w4.cell? ⟨w.heap.size + 1, 0, none⟩ = some (.int .i64 b) := by rw [hW4.out]; first | exact c3_2 | simp [go_sem, c3_2, l3_0a, l3_0b, l3_0c, l3_0d, l3_1a, l3_1b, l3_1c, l3_1d, l3_2a, l3_2b, l3_2c, l3_2d, n3_2_0, m3_2_0, n3_2_1, m3_2_1]
  have c4_3 : w4.cell? ⟨w.heap.size + 1, 1, none⟩ = some (.int .i64 m) := by rw [hW4.out]; first | exact c3_3 | simp [go_sem, c3_3, l3_0a, l3_0b, l3_0c, l3_0d, l3_1a, l3_1b, l3_1c, l3_1d, l3_2a, l3_2b, l3_2c, l3_2d, n3_2_0, m3_2_0, n3_2_1, m3_2_1]
  have c4_4 : w4.cell? ⟨g, 0, none⟩ = some (.int .i64 u) := by rw [hW4.out]; first | exact c3_4 | simp [go_sem, c3_4, l3_0a, l3_0b, l3_0c, l3_0d, l3_1a, l3_1b, l3_1c, l3_1d, l3_2a, l3_2b, l3_2c, l3_2d, n3_2_0, m3_2_0, n3_2_1, m3_2_1]
  have fc4_4 : w4.frozen? ⟨g, 0, none⟩ = false := by rw [hW4.out]; first | exact fc3_4 | simp [go_sem, fc3_4, l3_0a, l3_0b, l3_0c, l3_0d, l3_1a, l3_1b, l3_1c, l3_1d, l3_2a, l3_2b, l3_2c, l3_2d, n3_2_0, m3_2_0, n3_2_1, m3_2_1]
  have c4_5 : w4.cell? ⟨g, 1, none⟩ = some (.int .i64 v) := by rw [hW4.out]; first | exact c3_5 | simp [go_sem, c3_5, l3_0a, l3_0b, l3_0c, l3_0d, l3_1a, l3_1b, l3_1c, l3_1d, l3_2a, l3_2b, l3_2c, l3_2d, n3_2_0, m3_2_0, n3_2_1, m3_2_1]
  have fc4_5 : w4.frozen? ⟨g, 1, none⟩ = false := by rw [hW4.out]; first | exact fc3_5 | simp [go_sem, fc3_5, l3_0a, l3_0b, l3_0c, l3_0d, l3_1a, l3_1b, l3_1c, l3_1d, l3_2a, l3_2b, l3_2c, l3_2d, n3_2_0, m3_2_0, n3_2_1, m3_2_1]
  have l4_0a : w.heap.size < w4.heap.size := World.block_lt_of_cell? w4 _ c4_0
  have l4_0b : w.heap.size < w4.heap.size + 1 := Nat.lt_succ_of_lt l4_0a
  have l4_0c : w.heap.size < w4.heap.size + 1 + 1 := Nat.lt_succ_of_lt l4_0b
  have l4_0d : w.heap.size < w4.heap.size + 1 + 1 + 1 := Nat.lt_succ_of_lt l4_0c
  have l4_1a : w.heap.size + 1 < w4.heap.size := World.block_lt_of_cell? w4 _ c4_2
  have l4_1b : w.heap.size + 1 < w4.heap.size + 1 := Nat.lt_succ_of_lt l4_1a
  have l4_1c : w.heap.size + 1 < w4.heap.size + 1 + 1 := Nat.lt_succ_of_lt l4_1b
  have l4_1d : w.heap.size + 1 < w4.heap.size + 1 + 1 + 1 := Nat.lt_succ_of_lt l4_1c
  have l4_2a : g < w4.heap.size := World.block_lt_of_cell? w4 _ c4_4
  have l4_2b : g < w4.heap.size + 1 := Nat.lt_succ_of_lt l4_2a
  have l4_2c : g < w4.heap.size + 1 + 1 := Nat.lt_succ_of_lt l4_2b
  have l4_2d : g < w4.heap.size + 1 + 1 + 1 := Nat.lt_succ_of_lt l4_2c
  have n4_2_0 : g ≠ w.heap.size := by omega
  have m4_2_0 : w.heap.size ≠ g := by omega
  have n4_2_1 : g ≠ w.heap.size + 1 := by omega
  have m4_2_1 : w.heap.size + 1 ≠ g := by omega
  have hu4 := Nat.le_of_eq ht4
  have hv4 := Nat.le_of_eq ht4.symm
  clear ht4 c3_0 c3_1 c3_2 c3_3 c3_4 c3_5 fc3_4 fc3_5 l3_0a l3_0b l3_0c l3_0d l3_1a l3_1b l3_1c l3_1d l3_2a l3_2b l3_2c l3_2d n3_2_0 m3_2_0 n3_2_1 m3_2_1 hB3 hW4
  exact HR.out _ _ (APmid2.mk (g) 0 HC.out.symm (by kernel_rfl) ⟨hB4, ⟨c4_0, c4_1⟩, ⟨c4_2, c4_3⟩, by omega, fc4_4, fc4_5, _, _, c4_4, c4_5⟩)
set_option maxRecDepth 100000 in
set_option maxHeartbeats 8000000 in
theorem addrParts_2c (a n b m x y : Int) (w : World) (hg : ErrVar w) (hc : chk a n = 0) (hd : chk b m = 0) (Q : Exit → Act → World → Prop) (s0 : Act) (w0 : World) (h0 : APmid1 a n b m x y w s0 w0)
    (h : ∀ a' w', APmid2 a n b m x y w a' w' → (tailN 4 (tailN 20 (Tryd.f4.body.getD .skip))).wp Tryd.prog Q a' w') :
    (tailN 20 (Tryd.f4.body.getD .skip)).wp Tryd.prog Q s0 w0 := by
  have HG := Lib.hid hg
  clear hg
  have HC := Lib.hid hc
  have HD := Lib.hid hd
  clear hc hd
  obtain ⟨U, g, k, rfl, hk, hB0, ⟨c0_0, c0_1⟩, ⟨c0_2, c0_3⟩, hgb, fc0_4, fc0_5, u, v, c0_4, c0_5⟩ := h0
  obtain rfl : k = 0 := hk.trans HC.out
  clear hk
  refine wp_cut 4 (APmid2 a n b m x y w) (by rfl) ?_ h
  clear h
  intro r HR
  dsimp only [Tryd.f4, Option.getD, tailN, putN]
  have hs0 := hB0.size
  have l0_0a : w.heap.size < w0.heap.size := World.block_lt_of_cell? w0 _ c0_0
  have l0_0b : w.heap.size < w0.heap.size + 1 := Nat.lt_succ_of_lt l0_0a
  have l0_0c : w.heap.size < w0.heap.size + 1 + 1 := Nat.lt_succ_of_lt l0_0b
  have l0_0d : w.heap.size < w0.heap.size + 1 + 1 + 1 := Nat.lt_succ_of_lt l0_0c
  have l0_1a : w.heap.size + 1 < w0.heap.size := World.block_lt_of_cell? w0 _ c0_2
  have l0_1b : w.heap.size + 1 < w0.heap.size + 1 := Nat.lt_succ_of_lt l0_1a
  have l0_1c : w.heap.size + 1 < w0.heap.size + 1 + 1 := Nat.lt_succ_of_lt l0_1b
  have l0_1d : w.heap.size + 1 < w0.heap.size + 1 + 1 + 1 := Nat.lt_succ_of_lt l0_1c
  have l0_2a : g < w0.heap.size := World.block_lt_of_cell? w0 _ c0_4
  have l0_2b : g < w0.heap.size + 1 := Nat.lt_succ_of_lt l0_2a
  have l0_2c : g < w0.heap.size + 1 + 1 := Nat.lt_succ_of_lt l0_2b
  have l0_2d : g < w0.heap.size + 1 + 1 + 1 := Nat.lt_succ_of_lt l0_2c
  have n0_2_0 : g ≠ w.heap.size := by omega
  have m0_2_0 : w.heap.size ≠ g := by omega
  have n0_2_1 : g ≠ w.heap.size + 1 := by omega
  have m0_2_1 : w.heap.size + 1 ≠ g := by omega
  go_wp2_with fail
  refine (fault_any b m _).mono ?_
  rintro e w1 ⟨rfl, hb1⟩
  have hB1 : Below w.heap.size w w1 := Below.trans (by first | exact hB0 | ((repeat' (first | exact hB0 | refine Below.setCell ?_ ?_ _ | refine Below.alloc ?_ ?_ _ | refine Below.drew ?_)) <;> (first | omega | (simp <;> omega)))) (hb1.mono (by first | omega | (simp <;> omega)))
  have hs1 : w.heap.size ≤ w1.heap.size := hB1.size
  have ht1 := hb1.size
  try simp only [World.size_alloc, World.size_setCell] at ht1
  have c1_0 : w1.cell? ⟨w.heap.size, 0, none⟩ = some (.int .i64 a) := (hb1.cell (p := ⟨w.heap.size, 0, none⟩) (by first | omega | (simp <;> omega))).trans (by first | exact c0_0 | simp [go_sem, c0_0, l0_0a, l0_0b, l0_0c, l0_0d, l0_1a, l0_1b, l0_1c, l0_1d, l0_2a, l0_2b, l0_2c, l0_2d, n0_2_0, m0_2_0, n0_2_1, m0_2_1])
  have c1_1 : w1.cell? ⟨w.heap.size, 1, none⟩ = some (.int .i64 n) := (hb1.cell (p := ⟨w.heap.size, 1, none⟩) (by first | omega | (simp <;> omega))).trans (by first | exact c0_1 | simp [go_sem, c0_1, l0_0a, l0_0b, l0_0c, l0_0d, l0_1a, l0_1b, l0_1c, l0_1d, l0_2a, l0_2b, l0_2c, l0_2d, n0_2_0, m0_2_0, n0_2_1, m0_2_1])
  have c1_2 : w1.cell? ⟨w.heap.size + 1, 0, none⟩ = some (.int .i64 b) := (hb1.cell (p := ⟨w.heap.size + 1, 0, none⟩) (by first | omega | (simp <;> omega))).trans (by first | exact c0_2 | simp [go_sem, c0_2, l0_0a, l0_0b, l0_0c, l0_0d, l0_1a, l0_1b, l0_1c, l0_1d, l0_2a, l0_2b, l0_2c, l0_2d, n0_2_0, m0_2_0, n0_2_1, m0_2_1])
  have c1_3 : w1.cell? ⟨w.heap.size + 1, 1, none⟩ = some (.int .i64 m) := (hb1.cell (p := ⟨w.heap.size + 1, 1, none⟩) (by first | omega | (simp <;> omega))).trans (by first | exact c0_3 | simp [go_sem, c0_3, l0_0a, l0_0b, l0_0c, l0_0d, l0_1a, l0_1b, l0_1c, l0_1d, l0_2a, l0_2b, l0_2c, l0_2d, n0_2_0, m0_2_0, n0_2_1, m0_2_1])
  have c1_4 : w1.cell? ⟨g, 0, none⟩ = some (.int .i64 u) := (hb1.cell (p := ⟨g, 0, none⟩) (by first | omega | (simp <;> omega))).trans (by first | exact c0_4 | simp [go_sem, c0_4, l0_0a, l0_0b, l0_0c, l0_0d, l0_1a, l0_1b, l0_1c, l0_1d, l0_2a, l0_2b, l0_2c, l0_2d, n0_2_0, m0_2_0, n0_2_1, m0_2_1])
  have fc1_4 : w1.frozen? ⟨g, 0, none⟩ = false := (hb1.frozen (p := ⟨g, 0, none⟩) (by first | omega | (simp <;> omega))).trans (by first | exact fc0_4 | simp [go_sem, fc0_4, l0_0a, l0_0b, l0_0c, l0_0d, l0_1a, l0_1b, l0_1c, l0_1d, l0_2a, l0_2b, l0_2c, l0_2d, n0_2_0, m0_2_0, n0_2_1, m0_2_1])
  have c1_5 : w1.cell? ⟨g, 1, none⟩ = some (.int .i64 v) := (hb1.cell (p := ⟨g, 1, none⟩) (by first | omega | (simp <;> omega))).trans (by first | exact c0_5 | simp [go_sem, c0_5, l0_0a, l0_0b, l0_0c, l0_0d, l0_1a, l0_1b, l0_1c, l0_1d, l0_2a, l0_2b, l0_2c, l0_2d, n0_2_0, m0_2_0, n0_2_1, m0_2_1])
  have fc1_5 : w1.frozen? ⟨g, 1, none⟩ = false := (hb1.frozen (p := ⟨g, 1, none⟩) (by first | omega | (simp <;> omega))).trans (by first | exact fc0_5 | simp [go_sem, fc0_5, l0_0a, l0_0b, l0_0c, l0_0d, l0_1a, l0_1b, l0_1c, l0_1d, l0_2a, l0_2b, l0_2c, l0_2d, n0_2_0, m0_2_0, n0_2_1, m0_2_1])
  have l1_0a : w.heap.size < w1.heap.size := World.block_lt_of_cell? w1 _ c1_0
  have l1_0b : w.heap.size < w1.heap.size + 1 := Nat.lt_succ_of_lt l1_0a
  have l1_0c : w.heap.size < w1.heap.size + 1 + 1 := Nat.lt_succ_of_lt l1_0b
  have l1_0d : w.heap.size < w1.heap.size + 1 + 1 + 1 := Nat.lt_succ_of_lt l1_0c
  have l1_1a : w.heap.size + 1 < w1.heap.size := World.block_lt_of_cell? w1 _ c1_2
  have l1_1b : w.heap.size + 1 < w1.heap.size + 1 := Nat.lt_succ_of_lt l1_1a
  have l1_1c : w.heap.size + 1 < w1.heap.size + 1 + 1 := Nat.lt_succ_of_lt l1_1b
  have l1_1d : w.heap.size + 1 < w1.heap.size + 1 + 1 + 1 := Nat.lt_succ_of_lt l1_1c
  have l1_2a : g < w1.heap.size := World.block_lt_of_cell? w1 _ c1_4
  have l1_2b : g < w1.heap.size + 1 := Nat.lt_succ_of_lt l1_2a
  have l1_2c : g < w1.heap.size + 1 + 1 := Nat.lt_succ_of_lt l1_2b
  have l1_2d : g < w1.heap.size + 1 + 1 + 1 := Nat.lt_succ_of_lt l1_2c
  have n1_2_0 : g ≠ w.heap.size := by omega
  have m1_2_0 : w.heap.size ≠ g := by omega
  have n1_2_1 : g ≠ w.heap.size + 1 := by omega
  have m1_2_1 : w.heap.size + 1 ≠ g := by omega
  clear c0_0 c0_1 c0_2 c0_3 c0_4 c0_5 fc0_4 fc0_5 l0_0a l0_0b l0_0c l0_0d l0_1a l0_1b l0_1c l0_1d l0_2a l0_2b l0_2c l0_2d n0_2_0 m0_2_0 n0_2_1 m0_2_1 hB0 hb1
  rw [HD.out]
  go_wp2_with fail
  refine (within_3 a n b m HC.out HD.out _).mono ?_
  rintro e w2 ⟨rfl, hb2⟩
  have hB2 : Below w.heap.size w w2 := Below.trans (by first | exact hB1 | ((repeat' (first | exact hB1 | refine Below.setCell ?_ ?_ _ | refine Below.alloc ?_ ?_ _ | refine Below.drew ?_)) <;> (first | omega | (simp <;> omega)))) (hb2.mono (by first | omega | (simp <;> omega)))
  have hs2 : w.heap.size ≤ w2.heap.size := hB2.size
  have ht2 := hb2.size
  try simp only [World.size_alloc, World.size_setCell] at ht2
  have c2_0 : w2.cell? ⟨w.heap.size, 0, none⟩ = some (.int .i64 a) := (hb2.cell (p := ⟨w.heap.size, 0, none⟩) (by first | omega | (simp <;> omega))).trans (by first | exact c1_0 | simp [go_sem, c1_0, l1_0a, l1_0b, l1_0c, l1_0d, l1_1a, l1_1b, l1_1c, l1_1d, l1_2a, l1_2b, l1_2c, l1_2d, n1_2_0, m1_2_0, n1_2_1, m1_2_1])
  have c2_1 : w2.cell? ⟨w.heap.size, 1, none⟩ = some (.int .i64 n) := (hb2.cell (p := ⟨w.heap.size, 1, none⟩) (by first | omega | (simp <;> omega))).trans (by first | exact c1_1 | simp [go_sem, c1_1, l1_0a, l1_0b, l1_0c, l1_0d, l1_1a, l1_1b, l1_1c, l1_1d, l1_2a, l1_2b, l1_2c, l1_2d, n1_2_0, m1_2_0, n1_2_1, m1_2_1])
  have c2_2 : w2.cell? ⟨w.heap.size + 1, 0, none⟩ = some (.int .i64 b) := (hb2.cell (p := ⟨w.heap.size + 1, 0, none⟩) (by first | omega | (simp <;> omega))).trans (by first | exact c1_2 | simp [go_sem, c1_2, l1_0a, l1_0b, l1_0c, l1_0d, l1_1a, l1_1b, l1_1c, l1_1d, l1_2a, l1_2b, l1_2c, l1_2d, n1_2_0, m1_2_0, n1_2_1, m1_2_1])
  have c2_3 : w2.cell? ⟨w.heap.size + 1, 1, none⟩ = some (.int .i64 m) := (hb2.cell (p := ⟨w.heap.size + 1, 1, none⟩) (by first | omega | (simp <;> omega))).trans (by first | exact c1_3 | simp [go_sem, c1_3, l1_0a, l1_0b, l1_0c, l1_0d, l1_1a, l1_1b, l1_1c, l1_1d, l1_2a, l1_2b, l1_2c, l1_2d, n1_2_0, m1_2_0, n1_2_1, m1_2_1])
  have c2_4 : w2.cell? ⟨g, 0, none⟩ = some (.int .i64 u) := (hb2.cell (p := ⟨g, 0, none⟩) (by first | omega | (simp <;> omega))).trans (by first | exact c1_4 | simp [go_sem, c1_4, l1_0a, l1_0b, l1_0c, l1_0d, l1_1a, l1_1b, l1_1c, l1_1d, l1_2a, l1_2b, l1_2c, l1_2d, n1_2_0, m1_2_0, n1_2_1, m1_2_1])
  have fc2_4 : w2.frozen? ⟨g, 0, none⟩ = false := (hb2.frozen (p := ⟨g, 0, none⟩) (by first | omega | (simp <;> omega))).trans (by first | exact fc1_4 | simp [go_sem, fc1_4, l1_0a, l1_0b, l1_0c, l1_0d, l1_1a, l1_1b, l1_1c, l1_1d, l1_2a, l1_2b, l1_2c, l1_2d, n1_2_0, m1_2_0, n1_2_1, m1_2_1])
  have c2_5 : w2.cell? ⟨g, 1, none⟩ = some (.int .i64 v) := (hb2.cell (p := ⟨g, 1, none⟩) (by first | omega | (simp <;> omega))).trans (by first | exact c1_5 | simp [go_sem, c1_5, l1_0a, l1_0b, l1_0c, l1_0d, l1_1a, l1_1b, l1_1c, l1_1d, l1_2a, l1_2b, l1_2c, l1_2d, n1_2_0, m1_2_0, n1_2_1, m1_2_1])
  have fc2_5 : w2.frozen? ⟨g, 1, none⟩ = false := (hb2.frozen (p := ⟨g, 1, none⟩) (by first | omega | (simp <;> omega))).trans (by first | exact fc1_5 | simp [go_sem, fc1_5, l1_0a, l1_0b, l1_0c, l1_0d, l1_1a, l1_1b, l1_1c, l1_1d, l1_2a, l1_2b, l1_2c, l1_2d, n1_2_0, m1_2_0, n1_2_1, m1_2_1])
  have l2_0a : w.heap.size < w2.heap.size := World.block_lt_of_cell? w2 _ c2_0
  have l2_0b : w.heap.size < w2.heap.size + 1 := Nat.lt_succ_of_lt l2_0a
  have l2_0c : w.heap.size < w2.heap.size + 1 + 1 := Nat.lt_succ_of_lt l2_0b
  have l2_0d : w.heap.size < w2.heap.size + 1 + 1 + 1 := Nat.lt_succ_of_lt l2_0c
  have l2_1a : w.heap.size + 1 < w2.heap.size := World.block_lt_of_cell? w2 _ c2_2
  have l2_1b : w.heap.size + 1 < w2.heap.size + 1 := Nat.lt_succ_of_lt l2_1a
  have l2_1c : w.heap.size + 1 < w2.heap.size + 1 + 1 := Nat.lt_succ_of_lt l2_1b
  have l2_1d : w.heap.size + 1 < w2.heap.size + 1 + 1 + 1 := Nat.lt_succ_of_lt l2_1c
  have l2_2a : g < w2.heap.size := World.block_lt_of_cell? w2 _ c2_4
  have l2_2b : g < w2.heap.size + 1 := Nat.lt_succ_of_lt l2_2a
  have l2_2c : g < w2.heap.size + 1 + 1 := Nat.lt_succ_of_lt l2_2b
  have l2_2d : g < w2.heap.size + 1 + 1 + 1 := Nat.lt_succ_of_lt l2_2c
  have n2_2_0 : g ≠ w.heap.size := by omega
  have m2_2_0 : w.heap.size ≠ g := by omega
  have n2_2_1 : g ≠ w.heap.size + 1 := by omega
  have m2_2_1 : w.heap.size + 1 ≠ g := by omega
  clear c1_0 c1_1 c1_2 c1_3 c1_4 c1_5 fc1_4 fc1_5 l1_0a l1_0b l1_0c l1_0d l1_1a l1_1b l1_1c l1_1d l1_2a l1_2b l1_2c l1_2d n1_2_0 m1_2_0 n1_2_1 m1_2_1 hB1 hb2
  go_wp2_with fail
  refine (error_nil0 _ (by exact HG.out.belowB (show Below w.heap.size w _ from (by first | exact hB2 | ((repeat' (first | exact hB2 | refine Below.setCell ?_ ?_ _ | refine Below.alloc ?_ ?_ _ | refine Below.drew ?_)) <;> (first | omega | (simp <;> omega))))) HG.out.lt)).mono ?_
  rintro e w3 ⟨rfl, hb3⟩
  have hB3 : Below w.heap.size w w3 := Below.trans (by first | exact hB2 | ((repeat' (first | exact hB2 | refine Below.setCell ?_ ?_ _ | refine Below.alloc ?_ ?_ _ | refine Below.drew ?_)) <;> (first | omega | (simp <;> omega)))) (hb3.mono (by first | omega | (simp <;> omega)))
  have hs3 : w.heap.size ≤ w3.heap.size := hB3.size
  have ht3 := hb3.size
  try simp only [World.size_alloc, World.size_setCell] at ht3
  have c3_0 : w3.cell? ⟨w.heap.size, 0, none⟩ = some (.int .i64 a) := (hb3.cell (p := ⟨w.heap.size, 0, none⟩) (by first | omega | (simp <;> omega))).trans (by first | exact c2_0 | simp [go_sem, c2_0, l2_0a, l2_0b, l2_0c, l2_0d, l2_1a, l2_1b, l2_1c, l2_1d, l2_2a, l2_2b, l2_2c, l2_2d, n2_2_0, m2_2_0, n2_2_1, m2_2_1])
  have c3_1 : w3.cell? ⟨w.heap.size, 1, none⟩ = some (.int .i64 n) := (hb3.cell (p := ⟨w.heap.size, 1, none⟩) (by first | omega | (simp <;> omega))).trans (by first | exact c2_1 | simp [go_sem, c2_1, l2_0a, l2_0b, l2_0c, l2_0d, l2_1a, l2_1b, l2_1c, l2_1d, l2_2a, l2_2b, l2_2c, l2_2d, n2_2_0, m2_2_0, n2_2_1, m2_2_1])
  have c3_2 : w3.cell? ⟨w.heap.size + 1, 0, none⟩ = some (.int .i64 b) := (hb3.cell (p := ⟨w.heap.size + 1, 0, none⟩) (by first | omega | (simp <;> omega))).trans (by first | exact c2_2 | simp [go_sem, c2_2, l2_0a, l2_0b, l2_0c, l2_0d, l2_1a, l2_1b, l2_1c, l2_1d, l2_2a, l2_2b, l2_2c, l2_2d, n2_2_0, m2_2_0, n2_2_1, m2_2_1])
  have c3_3 : w3.cell? ⟨w.heap.size + 1, 1, none⟩ = some (.int .i64 m) := (hb3.cell (p := ⟨w.heap.size + 1, 1, none⟩) (by first | omega | (simp <;> omega))).trans (by first | exact c2_3 | simp [go_sem, c2_3, l2_0a, l2_0b, l2_0c, l2_0d, l2_1a, l2_1b, l2_1c, l2_1d, l2_2a, l2_2b, l2_2c, l2_2d, n2_2_0, m2_2_0, n2_2_1, m2_2_1])
  have c3_4 : w3.cell? ⟨g, 0, none⟩ = some (.int .i64 u) := (hb3.cell (p := ⟨g, 0, none⟩) (by first | omega | (simp <;> omega))).trans (by first | exact c2_4 | simp [go_sem, c2_4, l2_0a, l2_0b, l2_0c, l2_0d, l2_1a, l2_1b, l2_1c, l2_1d, l2_2a, l2_2b, l2_2c, l2_2d, n2_2_0, m2_2_0, n2_2_1, m2_2_1])
  have fc3_4 : w3.frozen? ⟨g, 0, none⟩ = false := (hb3.frozen (p := ⟨g, 0, none⟩) (by first | omega | (simp <;> omega))).trans (by first | exact fc2_4 | simp [go_sem, fc2_4, l2_0a, l2_0b, l2_0c, l2_0d, l2_1a, l2_1b, l2_1c, l2_1d, l2_2a, l2_2b, l2_2c, l2_2d, n2_2_0, m2_2_0, n2_2_1, m2_2_1])
  have c3_5 : w3.cell? ⟨g, 1, none⟩ = some (.int .i64 v) := (hb3.cell (p := ⟨g, 1, none⟩) (by first | omega | (simp <;> omega))).trans (by first | exact c2_5 | simp [go_sem, c2_5, l2_0a, l2_0b, l2_0c, l2_0d, l2_1a, l2_1b, l2_1c, l2_1d, l2_2a, l2_2b, l2_2c, l2_2d, n2_2_0, m2_2_0, n2_2_1, m2_2_1])
  have fc3_5 : w3.frozen? ⟨g, 1, none⟩ = false := (hb3.frozen (p := ⟨g, 1, none⟩) (by first | omega | (simp <;> omega))).trans (by first | exact fc2_5 | simp [go_sem, fc2_5, l2_0a, l2_0b, l2_0c, l2_0d, l2_1a, l2_1b, l2_1c, l2_1d, l2_2a, l2_2b, l2_2c, l2_2d, n2_2_0, m2_2_0, n2_2_1, m2_2_1])
  have l3_0a : w.heap.size < w3.heap.size := World.block_lt_of_cell? w3 _ c3_0
  have l3_0b : w.heap.size < w3.heap.size + 1 := Nat.lt_succ_of_lt l3_0a
  have l3_0c : w.heap.size < w3.heap.size + 1 + 1 := Nat.lt_succ_of_lt l3_0b
  have l3_0d : w.heap.size < w3.heap.size + 1 + 1 + 1 := Nat.lt_succ_of_lt l3_0c
  have l3_1a : w.heap.size + 1 < w3.heap.size := World.block_lt_of_cell? w3 _ c3_2
  have l3_1b : w.heap.size + 1 < w3.heap.size + 1 := Nat.lt_succ_of_lt l3_1a
  have l3_1c : w.heap.size + 1 < w3.heap.size + 1 + 1 := Nat.lt_succ_of_lt l3_1b
  have l3_1d : w.heap.size + 1 < w3.heap.size + 1 + 1 + 1 := Nat.lt_succ_of_lt l3_1c
  have l3_2a : g < w3.heap.size := World.block_lt_of_cell? w3 _ c3_4
  have l3_2b : g < w3.heap.size + 1 := Nat.lt_succ_of_lt l3_2a
  have l3_2c : g < w3.heap.size + 1 + 1 := Nat.lt_succ_of_lt l3_2b
  have l3_2d : g < w3.heap.size + 1 + 1 + 1 := Nat.lt_succ_of_lt l3_2c
  have n3_2_0 : g ≠ w.heap.size := by omega
  have m3_2_0 : w.heap.size ≠ g := by omega
  have n3_2_1 : g ≠ w.heap.size + 1 := by omega
  have m3_2_1 : w.heap.size + 1 ≠ g := by omega
  clear c2_0 c2_1 c2_2 c2_3 c2_4 c2_5 fc2_4 fc2_5 l2_0a l2_0b l2_0c l2_0d l2_1a l2_1b l2_1c l2_1d l2_2a l2_2b l2_2c l2_2d n2_2_0 m2_2_0 n2_2_1 m2_2_1 hB2 hb3
  go_wp2_with fail
  refine (refIn_any a n b m HC.out HD.out _).mono ?_
  rintro e w4 ⟨rfl, hb4⟩
  have hB4 : Below w.heap.size w w4 := Below.trans (by first | exact hB3 | ((repeat' (first | exact hB3 | refine Below.setCell ?_ ?_ _ | refine Below.alloc ?_ ?_ _ | refine Below.drew ?_)) <;> (first | omega | (simp <;> omega)))) (hb4.mono (by first | omega | (simp <;> omega)))
  have hs4 : w.heap.size ≤ w4.heap.size := hB4.size
  have ht4 := hb4.size
  try simp only [World.size_alloc, World.size_setCell] at ht4
  have c4_0 : w4.cell? ⟨w.heap.size, 0, none⟩ = some (.int .i64 a) := (hb4.cell (p := ⟨w.heap.size, 0, none⟩) (by first | omega | (simp <;> omega))).trans (by first | exact c3_0 | simp [go_sem, c3_0, l3_0a, l3_0b, l3_0c, l3_0d, l3_1a, l3_1b, l3_1c, l3_1d, l3_2a, l3_2b, l3_2c, l3_2d, n3_2_0, m3_2_0, n3_2_1, m3_2_1])
  have c4_1 : w4.cell? ⟨w.heap.size, 1, none⟩ = some (.int .i64 n) := (hb4.cell (p := ⟨w.heap.size, 1, none⟩) (by first | omega | (simp <;> omega))).trans (by first | exact c3_1 | simp [go_sem, c3_1, l3_0a, l3_0b, l3_0c, l3_0d, l3_1a, l3_1b, l3_1c, l3_1d, l3_2a, l3_2b, l3_2c, l3_2d, n3_2_0, m3_2_0, n3_2_1, m3_2_1])
  have c4_2 : w4.cell? ⟨w.heap.size + 1, 0, none⟩ = some (.int .i64 b) := (hb4.cell (p := ⟨w.heap.size + 1, 0, none⟩) (by first | omega | (simp <;> omega))).trans (by first | exact c3_2 | simp [go_sem, c3_2, l3_0a, l3_0b, l3_0c, l3_0d, l3_1a, l3_1b, l3_1c, l3_1d, l3_2a, l3_2b, l3_2c, l3_2d, n3_2_0, m3_2_0, n3_2_1, m3_2_1])
  have c4_3 : w4.cell? ⟨w.heap.size + 1, 1, none⟩ = some (.int .i64 m) := (hb4.cell (p := ⟨w.heap.size + 1, 1, none⟩) (by first | omega | (simp <;> omega))).trans (by first | exact c3_3 | simp [go_sem, c3_3, l3_0a, l3_0b, l3_0c, l3_0d, l3_1a, l3_1b, l3_1c, l3_1d, l3_2a, l3_2b, l3_2c, l3_2d, n3_2_0, m3_2_0, n3_2_1, m3_2_1])
  have c4_4 : w4.cell? ⟨g, 0, none⟩ = some (.int .i64 u) := (hb4.cell (p := ⟨g, 0, none⟩) (by first | omega | (simp <;> omega))).trans (by first | exact c3_4 | simp [go_sem, c3_4, l3_0a, l3_0b, l3_0c, l3_0d, l3_1a, l3_1b, l3_1c, l3_1d, l3_2a, l3_2b, l3_2c, l3_2d, n3_2_0, m3_2_0, n3_2_1, m3_2_1])
  have fc4_4 : w4.frozen? ⟨g, 0, none⟩ = false := (hb4.frozen (p := ⟨g, 0, none⟩) (by first | omega | (simp <;> omega))).trans (by first | exact fc3_4 | simp [go_sem, fc3_4, l3_0a, l3_0b, l3_0c, l3_0d, l3_1a, l3_1b, l3_1c, l3_1d, l3_2a, l3_2b, l3_2c, l3_2d, n3_2_0, m3_2_0, n3_2_1, m3_2_1])
  have c4_5 : w4.cell? ⟨g, 1, none⟩ = some (.int .i64 v) := (hb4.cell (p := ⟨g, 1, none⟩) (by first | omega | (simp <;> omega))).trans (by first | exact c3_5 | simp [go_sem, c3_5, l3_0a, l3_0b, l3_0c, l3_0d, l3_1a, l3_1b, l3_1c, l3_1d, l3_2a, l3_2b, l3_2c, l3_2d, n3_2_0, m3_2_0, n3_2_1, m3_2_1])
  have fc4_5 : w4.frozen? ⟨g, 1, none⟩ = false := (hb4.frozen (p := ⟨g, 1, none⟩) (by first | omega | (simp <;> omega))).trans (by first | exact fc3_5 | simp [go_sem, fc3_5, l3_0a, l3_0b, l3_0c, l3_0d, l3_1a, l3_1b, l3_1c, l3_1d, l3_2a, l3_2b, l3_2c, l3_2d, n3_2_0, m3_2_0, n3_2_1, m3_2_1])
  have l4_0a : w.heap.size < w4.heap.size := World.block_lt_of_cell? w4 _ c4_0
  have l4_0b : w.heap.size < w4.heap.size + 1 := Nat.lt_succ_of_lt l4_0a
  have l4_0c : w.heap.size < w4.heap.size + 1 + 1 := Nat.lt_succ_of_lt l4_0b
  have l4_0d : w.heap.size < w4.heap.size + 1 + 1 + 1 := Nat.lt_succ_of_lt l4_0c
  have l4_1a : w.heap.size + 1 < w4.heap.size := World.block_lt_of_cell? w4 _ c4_2
  have l4_1b : w.heap.size + 1 < w4.heap.size + 1 := Nat.lt_succ_of_lt l4_1a
  have l4_1c : w.heap.size + 1 < w4.heap.size + 1 + 1 := Nat.lt_succ_of_lt l4_1b
  have l4_1d : w.heap.size + 1 < w4.heap.size + 1 + 1 + 1 := Nat.lt_succ_of_lt l4_1c
  have l4_2a : g < w4.heap.size := World.block_lt_of_cell? w4 _ c4_4
  have l4_2b : g < w4.heap.size + 1 := Nat.lt_succ_of_lt l4_2a
  have l4_2c : g < w4.heap.size + 1 + 1 := Nat.lt_succ_of_lt l4_2b
  have l4_2d : g < w4.heap.size + 1 + 1 + 1 := Nat.lt_succ_of_lt l4_2c
  have n4_2_0 : g ≠ w.heap.size := by omega
  have m4_2_0 : w.heap.size ≠ g := by omega
  have n4_2_1 : g ≠ w.heap.size + 1 := by omega
  have m4_2_1 : w.heap.size + 1 ≠ g := by omega
  clear c3_0 c3_1 c3_2 c3_3 c3_4 c3_5 fc3_4 fc3_5 l3_0a l3_0b l3_0c l3_0d l3_1a l3_1b l3_1c l3_1d l3_2a l3_2b l3_2c l3_2d n3_2_0 m3_2_0 n3_2_1 m3_2_1 hB3 hb4
  go_wp2_with fail
  refine wp_name ?_
  intro w5 hW5
  have hB5 : Below w.heap.size w w5 := by rw [hW5.out]; exact (by first | exact hB4 | ((repeat' (first | exact hB4 | refine Below.setCell ?_ ?_ _ | refine Below.alloc ?_ ?_ _ | refine Below.drew ?_)) <;> (first | omega | (simp <;> omega))))
  have hs5 : w.heap.size ≤ w5.heap.size := hB5.size
  have ht5 := congrArg (fun x : World => x.heap.size) hW5.out
  try simp only [World.size_alloc, World.size_setCell] at ht5
  have c5_0 : w5.cell? ⟨w.heap.size, 0, none⟩ = some (.int .i64 a) := by rw [hW5.out]; first | exact c4_0 | simp [go_sem, c4_0, l4_0a, l4_0b, l4_0c, l4_0d, l4_1a, l4_1b, l4_1c, l4_1d, l4_2a, l4_2b, l4_2c, l4_2d, n4_2_0, m4_2_0, n4_2_1, m4_2_1]
  have c5_1 : w5.cell? ⟨w.heap.size, 1, none⟩ = some (.int .i64 n) := by rw [hW5.out]; first | exact c4_1 | simp [go_sem, c4_1, l4_0a, l4_0b, l4_0c, l4_0d, l4_1a, l4_1b, l4_1c, l4_1d, l4_2a, l4_2b, l4_2c, l4_2d, n4_2_0, m4_2_0, n4_2_1, m4_2_1]
  have c5_2 : w5.cell? ⟨w.heap.size + 1, 0, none⟩ = some (.int .i64 b) := by rw [hW5.out]; first | exact c4_2 | simp [go_sem, c4_2, l4_0a, l4_0b, l4_0c, l4_0d, l4_1a, l4_1b, l4_1c, l4_1d, l4_2a, l4_2b, l4_2c, l4_2d, n4_2_0, m4_2_0, n4_2_1, m4_2_1]
  have c5_3 : w5.cell? ⟨w.heap.size + 1, 1, none⟩ = some (.int .i64 m) := by rw [hW5.out]; first | exact c4_3 | simp [go_sem, c4_3, l4_0a, l4_0b, l4_0c, l4_0d, l4_1a, l4_1b, l4_1c, l4_1d, l4_2a, l4_2b, l4_2c, l4_2d, n4_2_0, m4_2_0, n4_2_1, m4_2_1]
  have c5_4 : w5.cell? ⟨g, 0, none⟩ = some (.int .i64 u) := by rw [hW5.out]; first | exact c4_4 | simp [go_sem, c4_4, l4_0a, l4_0b, l4_0c, l4_0d, l4_1a, l4_1b, l4_1c, l4_1d, l4_2a, l4_2b, l4_2c, l4_2d, n4_2_0, m4_2_0, n4_2_1, m4_2_1]
  have fc5_4 : w5.frozen? ⟨g, 0, none⟩ = false := by rw [hW5.out]; first | exact fc4_4 | simp [go_sem, fc4_4, l4_0a, l4_0b, l4_0c, l4_0d, l4_1a, l4_1b, l4_1c, l4_1d, l4_2a, l4_2b, l4_2c, l4_2d, n4_2_0, m4_2_0, n4_2_1, m4_2_1]
  have c5_5 : w5.cell? ⟨g, 1, none⟩ = some (.int .i64 v) := by rw [hW5.out]; first | exact c4_5 | simp [go_sem, c4_5, l4_0a, l4_0b, l4_0c, l4_0d, l4_1a, l4_1b, l4_1c, l4_1d, l4_2a, l4_2b, l4_2c, l4_2d, n4_2_0, m4_2_0, n4_2_1, m4_2_1]
  have fc5_5 : w5.frozen? ⟨g, 1, none⟩ = false := by rw [hW5.out]; first | exact fc4_5 | simp [go_sem, fc4_5, l4_0a, l4_0b, l4_0c, l4_0d, l4_1a, l4_1b, l4_1c, l4_1d, l4_2a, l4_2b, l4_2c, l4_2d, n4_2_0, m4_2_0, n4_2_1, m4_2_1]
  have l5_0a : w.heap.size < w5.heap.size := World.block_lt_of_cell? w5 _ c5_0
  have l5_0b : w.heap.size < w5.heap.size + 1 := Nat.lt_succ_of_lt l5_0a
  have l5_0c : w.heap.size < w5.heap.size + 1 + 1 := Nat.lt_succ_of_lt l5_0b
  have l5_0d : w.heap.size < w5.heap.size + 1 + 1 + 1 := Nat.lt_succ_of_lt l5_0c
  have l5_1a : w.heap.size + 1 < w5.heap.size := World.block_lt_of_cell? w5 _ c5_2
  have l5_1b : w.heap.size + 1 < w5.heap.size + 1 := Nat.lt_succ_of_lt l5_1a
  have l5_1c : w.heap.size + 1 < w5.heap.size + 1 + 1 := Nat.lt_succ_of_lt l5_1b
  have l5_1d : w.heap.size + 1 < w5.heap.size + 1 + 1 + 1 := Nat.lt_succ_of_lt l5_1c
  have l5_2a : g < w5.heap.size := World.block_lt_of_cell? w5 _ c5_4
  have l5_2b : g < w5.heap.size + 1 := Nat.lt_succ_of_lt l5_2a
  have l5_2c : g < w5.heap.size + 1 + 1 := Nat.lt_succ_of_lt l5_2b
  have l5_2d : g < w5.heap.size + 1 + 1 + 1 := Nat.lt_succ_of_lt l5_2c
  have n5_2_0 : g ≠ w.heap.size := by omega
  have m5_2_0 : w.heap.size ≠ g := by omega
  have n5_2_1 : g ≠ w.heap.size + 1 := by omega
  have m5_2_1 : w.heap.size + 1 ≠ g := by omega
  have hu5 := Nat.le_of_eq ht5
  have hv5 := Nat.le_of_eq ht5.symm
  clear ht5 c4_0 c4_1 c4_2 c4_3 c4_4 c4_5 fc4_4 fc4_5 l4_0a l4_0b l4_0c l4_0d l4_1a l4_1b l4_1c l4_1d l4_2a l4_2b l4_2c l4_2d n4_2_0 m4_2_0 n4_2_1 m4_2_1 hB4 hW5
  exact HR.out _ _ (APmid2.mk (g) 0 HC.out.symm (by kernel_rfl) ⟨hB5, ⟨c5_0, c5_1⟩, ⟨c5_2, c5_3⟩, by omega, fc5_4, fc5_5, _, _, c5_4, c5_5⟩)
end Go.Proofs.YtcgeagobndhpjaaDoor
