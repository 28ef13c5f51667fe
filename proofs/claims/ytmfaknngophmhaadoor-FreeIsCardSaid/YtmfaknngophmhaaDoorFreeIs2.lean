/- The law FreeIs, its parts: the length, the best. Any prefix, any list, any length. -/
import Derived.Test.YtmfaknngophmhaaDoorFreeIs0
namespace Go.Proofs.YtmfaknngophmhaaDoor
set_option linter.unusedVariables false
set_option linter.unusedSimpArgs false
open Go.RowKit

set_option maxRecDepth 100000 in
set_option maxHeartbeats 8000000 in
theorem freeIs_3a (p : Pf) (A : Option Addr) (l : List Pf) (c : Nat) (n : Int) (hm : l.length ≤ maxLen) (w : World) (hg : ErrVar w) (ht : TabVar w) (hl : Rd w w.heap.size A (cellsP l)) (e f : Int) (he0 : e ≠ 0) (hf0 : f ≠ 0) (Q : Exit → Act → World → Prop) (s0 : Act) (w0 : World) (h0 : FI2 p A l c n w e f 0 0 false s0 w0)
    (h : ∀ a' w', FI3 p A l c n w e f 0 0 false a' w' → (tailN 2 (tailN 8 (tailN 9 (Tryd.f5.body.getD .skip)))).wp Tryd.prog Q a' w') :
    (tailN 8 (tailN 9 (Tryd.f5.body.getD .skip))).wp Tryd.prog Q s0 w0 := by
  have HG := Lib.hid hg
  have HT := Lib.hid ht
  clear hg ht
  have hz : (e == 0) = false := by simpa using he0
  have hz2 : (f == 0) = false := by simpa using hf0
  clear he0 hf0
  obtain ⟨U, AB, cB, BL, rfl, hBL, hrB, hB0, c0_0, c0_1⟩ := h0
  have HBL := Lib.hid hBL
  clear hBL
  refine wp_cut 2 (FI3 p A l c n w e f 0 0 false) (by rfl) ?_ h
  clear h
  intro r HR
  dsimp only [Tryd.f5, Option.getD, tailN, putN]
  have hs0 := hB0.size
  have l0_0a : w.heap.size < w0.heap.size := World.block_lt_of_cell? w0 _ c0_0
  have l0_0b : w.heap.size < w0.heap.size + 1 := Nat.lt_succ_of_lt l0_0a
  have l0_0c : w.heap.size < w0.heap.size + 1 + 1 := Nat.lt_succ_of_lt l0_0b
  have l0_0d : w.heap.size < w0.heap.size + 1 + 1 + 1 := Nat.lt_succ_of_lt l0_0c
  go_wp2_with fail
  refine wp_name ?_
  intro w1 hW1
  have hB1 : Below w.heap.size w w1 := by rw [hW1.out]; exact (by first | exact hB0 | ((repeat' (first | exact hB0 | refine Below.setCell ?_ ?_ _ | refine Below.alloc ?_ ?_ _ | refine Below.drew ?_)) <;> (first | omega | (simp <;> omega))))
  have hs1 : w.heap.size ≤ w1.heap.size := hB1.size
  have ht1 := congrArg (fun x : World => x.heap.size) hW1.out
  try simp only [World.size_alloc, World.size_setCell] at ht1
  have c1_0 : w1.cell? ⟨w.heap.size, 0, none⟩ = some (.int .i64 p.1) := by rw [hW1.out]; first | exact c0_0 | simp [go_sem, c0_0, l0_0a, l0_0b, l0_0c, l0_0d]
  have c1_1 : w1.cell? ⟨w.heap.size, 1, none⟩ = some (.int .i64 p.2) := by rw [hW1.out]; first | exact c0_1 | simp [go_sem, c0_1, l0_0a, l0_0b, l0_0c, l0_0d]
  have l1_0a : w.heap.size < w1.heap.size := World.block_lt_of_cell? w1 _ c1_0
  have l1_0b : w.heap.size < w1.heap.size + 1 := Nat.lt_succ_of_lt l1_0a
  have l1_0c : w.heap.size < w1.heap.size + 1 + 1 := Nat.lt_succ_of_lt l1_0b
  have l1_0d : w.heap.size < w1.heap.size + 1 + 1 + 1 := Nat.lt_succ_of_lt l1_0c
  have hkw0_1 : Below w0.heap.size w0 w1 := by rw [hW1.out]; exact (by first | exact Below.refl _ _ | ((repeat' (first | exact Below.refl _ _ | refine Below.setCell ?_ ?_ _ | refine Below.alloc ?_ ?_ _ | refine Below.drew ?_)) <;> (first | omega | (simp <;> omega))))
  have hu1 := Nat.le_of_eq ht1
  have hv1 := Nat.le_of_eq ht1.symm
  clear ht1 c0_0 c0_1 l0_0a l0_0b l0_0c l0_0d hB0 hW1
  exact HR.out _ _ (FI3.mk AB cB BL (by kernel_rfl) ⟨HBL.out, ((hrB.below (show Below w0.heap.size w0 _ from (by first | exact hkw0_1 | ((repeat' (first | exact hkw0_1 | refine Below.setCell ?_ ?_ _ | refine Below.alloc ?_ ?_ _ | refine Below.drew ?_)) <;> (first | omega | (simp <;> omega)))))).more (show w0.heap.size ≤ _ from by first | omega | (simp <;> omega))), hB1, c1_0, c1_1⟩)
set_option maxRecDepth 100000 in
set_option maxHeartbeats 8000000 in
theorem freeIs_3b0 (p : Pf) (A : Option Addr) (l : List Pf) (c : Nat) (n : Int) (hm : l.length ≤ maxLen) (w : World) (hg : ErrVar w) (ht : TabVar w) (hl : Rd w w.heap.size A (cellsP l)) (hn1 : p.2 ≤ n) (hn2 : n ≤ 32) (Q : Exit → Act → World → Prop) (s0 : Act) (w0 : World) (h0 : FI2 p A l c n w 0 0 0 0 false s0 w0)
    (h : ∀ a' w', FI3 p A l c n w 0 0 0 0 false a' w' → (tailN 2 (tailN 8 (tailN 9 (Tryd.f5.body.getD .skip)))).wp Tryd.prog Q a' w') :
    (tailN 8 (tailN 9 (Tryd.f5.body.getD .skip))).wp Tryd.prog Q s0 w0 := by
  have HG := Lib.hid hg
  have HT := Lib.hid ht
  clear hg ht
  have hn1' : decide (n < p.2) = false := by simpa using (show ¬ n < p.2 by omega)
  have hn2' : decide (32 < n) = false := by simpa using (show ¬ 32 < n by omega)
  obtain ⟨U, AB, cB, BL, rfl, hBL, hrB, hB0, c0_0, c0_1⟩ := h0
  have HBL := Lib.hid hBL
  clear hBL
  refine wp_cut 2 (FI3 p A l c n w 0 0 0 0 false) (by rfl) ?_ h
  clear h
  intro r HR
  dsimp only [Tryd.f5, Option.getD, tailN, putN]
  have hs0 := hB0.size
  have l0_0a : w.heap.size < w0.heap.size := World.block_lt_of_cell? w0 _ c0_0
  have l0_0b : w.heap.size < w0.heap.size + 1 := Nat.lt_succ_of_lt l0_0a
  have l0_0c : w.heap.size < w0.heap.size + 1 + 1 := Nat.lt_succ_of_lt l0_0b
  have l0_0d : w.heap.size < w0.heap.size + 1 + 1 + 1 := Nat.lt_succ_of_lt l0_0c
  go_wp2_with fail
  refine wp_name ?_
  intro w1 hW1
  have hB1 : Below w.heap.size w w1 := by rw [hW1.out]; exact (by first | exact hB0 | ((repeat' (first | exact hB0 | refine Below.setCell ?_ ?_ _ | refine Below.alloc ?_ ?_ _ | refine Below.drew ?_)) <;> (first | omega | (simp <;> omega))))
  have hs1 : w.heap.size ≤ w1.heap.size := hB1.size
  have ht1 := congrArg (fun x : World => x.heap.size) hW1.out
  try simp only [World.size_alloc, World.size_setCell] at ht1
  have c1_0 : w1.cell? ⟨w.heap.size, 0, none⟩ = some (.int .i64 p.1) := by rw [hW1.out]; first | exact c0_0 | simp [go_sem, c0_0, l0_0a, l0_0b, l0_0c, l0_0d]
  have c1_1 : w1.cell? ⟨w.heap.size, 1, none⟩ = some (.int .i64 p.2) := by rw [hW1.out]; first | exact c0_1 | simp [go_sem, c0_1, l0_0a, l0_0b, l0_0c, l0_0d]
  have l1_0a : w.heap.size < w1.heap.size := World.block_lt_of_cell? w1 _ c1_0
  have l1_0b : w.heap.size < w1.heap.size + 1 := Nat.lt_succ_of_lt l1_0a
  have l1_0c : w.heap.size < w1.heap.size + 1 + 1 := Nat.lt_succ_of_lt l1_0b
  have l1_0d : w.heap.size < w1.heap.size + 1 + 1 + 1 := Nat.lt_succ_of_lt l1_0c
  have hkw0_1 : Below w0.heap.size w0 w1 := by rw [hW1.out]; exact (by first | exact Below.refl _ _ | ((repeat' (first | exact Below.refl _ _ | refine Below.setCell ?_ ?_ _ | refine Below.alloc ?_ ?_ _ | refine Below.drew ?_)) <;> (first | omega | (simp <;> omega))))
  have hu1 := Nat.le_of_eq ht1
  have hv1 := Nat.le_of_eq ht1.symm
  clear ht1 c0_0 c0_1 l0_0a l0_0b l0_0c l0_0d hB0 hW1
  exact HR.out _ _ (FI3.mk AB cB BL (by kernel_rfl) ⟨HBL.out, ((hrB.below (show Below w0.heap.size w0 _ from (by first | exact hkw0_1 | ((repeat' (first | exact hkw0_1 | refine Below.setCell ?_ ?_ _ | refine Below.alloc ?_ ?_ _ | refine Below.drew ?_)) <;> (first | omega | (simp <;> omega)))))).more (show w0.heap.size ≤ _ from by first | omega | (simp <;> omega))), hB1, c1_0, c1_1⟩)
set_option maxRecDepth 100000 in
set_option maxHeartbeats 8000000 in
theorem freeIs_3c0 (p : Pf) (A : Option Addr) (l : List Pf) (c : Nat) (n : Int) (hm : l.length ≤ maxLen) (w : World) (hg : ErrVar w) (ht : TabVar w) (hl : Rd w w.heap.size A (cellsP l)) (hn1 : n < p.2) (Q : Exit → Act → World → Prop) (s0 : Act) (w0 : World) (h0 : FI2 p A l c n w 0 0 0 0 false s0 w0)
    (h : ∀ a' w', FI3 p A l c n w 1 1 0 0 false a' w' → (tailN 2 (tailN 8 (tailN 9 (Tryd.f5.body.getD .skip)))).wp Tryd.prog Q a' w') :
    (tailN 8 (tailN 9 (Tryd.f5.body.getD .skip))).wp Tryd.prog Q s0 w0 := by
  have HG := Lib.hid hg
  have HT := Lib.hid ht
  clear hg ht
  obtain ⟨U, AB, cB, BL, rfl, hBL, hrB, hB0, c0_0, c0_1⟩ := h0
  have HBL := Lib.hid hBL
  clear hBL
  refine wp_cut 2 (FI3 p A l c n w 1 1 0 0 false) (by rfl) ?_ h
  clear h
  intro r HR
  dsimp only [Tryd.f5, Option.getD, tailN, putN]
  have hs0 := hB0.size
  have l0_0a : w.heap.size < w0.heap.size := World.block_lt_of_cell? w0 _ c0_0
  have l0_0b : w.heap.size < w0.heap.size + 1 := Nat.lt_succ_of_lt l0_0a
  have l0_0c : w.heap.size < w0.heap.size + 1 + 1 := Nat.lt_succ_of_lt l0_0b
  have l0_0d : w.heap.size < w0.heap.size + 1 + 1 + 1 := Nat.lt_succ_of_lt l0_0c
  go_wp2_with fail
  refine wp_name ?_
  intro w1 hW1
  have hB1 : Below w.heap.size w w1 := by rw [hW1.out]; exact (by first | exact hB0 | ((repeat' (first | exact hB0 | refine Below.setCell ?_ ?_ _ | refine Below.alloc ?_ ?_ _ | refine Below.drew ?_)) <;> (first | omega | (simp <;> omega))))
  have hs1 : w.heap.size ≤ w1.heap.size := hB1.size
  have ht1 := congrArg (fun x : World => x.heap.size) hW1.out
  try simp only [World.size_alloc, World.size_setCell] at ht1
  have c1_0 : w1.cell? ⟨w.heap.size, 0, none⟩ = some (.int .i64 p.1) := by rw [hW1.out]; first | exact c0_0 | simp [go_sem, c0_0, l0_0a, l0_0b, l0_0c, l0_0d]
  have c1_1 : w1.cell? ⟨w.heap.size, 1, none⟩ = some (.int .i64 p.2) := by rw [hW1.out]; first | exact c0_1 | simp [go_sem, c0_1, l0_0a, l0_0b, l0_0c, l0_0d]
  have l1_0a : w.heap.size < w1.heap.size := World.block_lt_of_cell? w1 _ c1_0
  have l1_0b : w.heap.size < w1.heap.size + 1 := Nat.lt_succ_of_lt l1_0a
  have l1_0c : w.heap.size < w1.heap.size + 1 + 1 := Nat.lt_succ_of_lt l1_0b
  have l1_0d : w.heap.size < w1.heap.size + 1 + 1 + 1 := Nat.lt_succ_of_lt l1_0c
  have hkw0_1 : Below w0.heap.size w0 w1 := by rw [hW1.out]; exact (by first | exact Below.refl _ _ | ((repeat' (first | exact Below.refl _ _ | refine Below.setCell ?_ ?_ _ | refine Below.alloc ?_ ?_ _ | refine Below.drew ?_)) <;> (first | omega | (simp <;> omega))))
  have hu1 := Nat.le_of_eq ht1
  have hv1 := Nat.le_of_eq ht1.symm
  clear ht1 c0_0 c0_1 l0_0a l0_0b l0_0c l0_0d hB0 hW1
  exact HR.out _ _ (FI3.mk AB cB BL (by kernel_rfl) ⟨HBL.out, ((hrB.below (show Below w0.heap.size w0 _ from (by first | exact hkw0_1 | ((repeat' (first | exact hkw0_1 | refine Below.setCell ?_ ?_ _ | refine Below.alloc ?_ ?_ _ | refine Below.drew ?_)) <;> (first | omega | (simp <;> omega)))))).more (show w0.heap.size ≤ _ from by first | omega | (simp <;> omega))), hB1, c1_0, c1_1⟩)
set_option maxRecDepth 100000 in
set_option maxHeartbeats 8000000 in
theorem freeIs_3d0 (p : Pf) (A : Option Addr) (l : List Pf) (c : Nat) (n : Int) (hm : l.length ≤ maxLen) (w : World) (hg : ErrVar w) (ht : TabVar w) (hl : Rd w w.heap.size A (cellsP l)) (hn1 : ¬ n < p.2) (hn2 : 32 < n) (Q : Exit → Act → World → Prop) (s0 : Act) (w0 : World) (h0 : FI2 p A l c n w 0 0 0 0 false s0 w0)
    (h : ∀ a' w', FI3 p A l c n w 1 1 0 0 false a' w' → (tailN 2 (tailN 8 (tailN 9 (Tryd.f5.body.getD .skip)))).wp Tryd.prog Q a' w') :
    (tailN 8 (tailN 9 (Tryd.f5.body.getD .skip))).wp Tryd.prog Q s0 w0 := by
  have HG := Lib.hid hg
  have HT := Lib.hid ht
  clear hg ht
  have hn1' : decide (n < p.2) = false := by simpa using hn1
  have hn2' : (32 : Int) < n := hn2
  obtain ⟨U, AB, cB, BL, rfl, hBL, hrB, hB0, c0_0, c0_1⟩ := h0
  have HBL := Lib.hid hBL
  clear hBL
  refine wp_cut 2 (FI3 p A l c n w 1 1 0 0 false) (by rfl) ?_ h
  clear h
  intro r HR
  dsimp only [Tryd.f5, Option.getD, tailN, putN]
  have hs0 := hB0.size
  have l0_0a : w.heap.size < w0.heap.size := World.block_lt_of_cell? w0 _ c0_0
  have l0_0b : w.heap.size < w0.heap.size + 1 := Nat.lt_succ_of_lt l0_0a
  have l0_0c : w.heap.size < w0.heap.size + 1 + 1 := Nat.lt_succ_of_lt l0_0b
  have l0_0d : w.heap.size < w0.heap.size + 1 + 1 + 1 := Nat.lt_succ_of_lt l0_0c
  go_wp2_with fail
  refine wp_name ?_
  intro w1 hW1
  have hB1 : Below w.heap.size w w1 := by rw [hW1.out]; exact (by first | exact hB0 | ((repeat' (first | exact hB0 | refine Below.setCell ?_ ?_ _ | refine Below.alloc ?_ ?_ _ | refine Below.drew ?_)) <;> (first | omega | (simp <;> omega))))
  have hs1 : w.heap.size ≤ w1.heap.size := hB1.size
  have ht1 := congrArg (fun x : World => x.heap.size) hW1.out
  try simp only [World.size_alloc, World.size_setCell] at ht1
  have c1_0 : w1.cell? ⟨w.heap.size, 0, none⟩ = some (.int .i64 p.1) := by rw [hW1.out]; first | exact c0_0 | simp [go_sem, c0_0, l0_0a, l0_0b, l0_0c, l0_0d]
  have c1_1 : w1.cell? ⟨w.heap.size, 1, none⟩ = some (.int .i64 p.2) := by rw [hW1.out]; first | exact c0_1 | simp [go_sem, c0_1, l0_0a, l0_0b, l0_0c, l0_0d]
  have l1_0a : w.heap.size < w1.heap.size := World.block_lt_of_cell? w1 _ c1_0
  have l1_0b : w.heap.size < w1.heap.size + 1 := Nat.lt_succ_of_lt l1_0a
  have l1_0c : w.heap.size < w1.heap.size + 1 + 1 := Nat.lt_succ_of_lt l1_0b
  have l1_0d : w.heap.size < w1.heap.size + 1 + 1 + 1 := Nat.lt_succ_of_lt l1_0c
  have hkw0_1 : Below w0.heap.size w0 w1 := by rw [hW1.out]; exact (by first | exact Below.refl _ _ | ((repeat' (first | exact Below.refl _ _ | refine Below.setCell ?_ ?_ _ | refine Below.alloc ?_ ?_ _ | refine Below.drew ?_)) <;> (first | omega | (simp <;> omega))))
  have hu1 := Nat.le_of_eq ht1
  have hv1 := Nat.le_of_eq ht1.symm
  clear ht1 c0_0 c0_1 l0_0a l0_0b l0_0c l0_0d hB0 hW1
  exact HR.out _ _ (FI3.mk AB cB BL (by kernel_rfl) ⟨HBL.out, ((hrB.below (show Below w0.heap.size w0 _ from (by first | exact hkw0_1 | ((repeat' (first | exact hkw0_1 | refine Below.setCell ?_ ?_ _ | refine Below.alloc ?_ ?_ _ | refine Below.drew ?_)) <;> (first | omega | (simp <;> omega)))))).more (show w0.heap.size ≤ _ from by first | omega | (simp <;> omega))), hB1, c1_0, c1_1⟩)
set_option maxRecDepth 100000 in
set_option maxHeartbeats 8000000 in
theorem freeIs_3b3 (p : Pf) (A : Option Addr) (l : List Pf) (c : Nat) (n : Int) (hm : l.length ≤ maxLen) (w : World) (hg : ErrVar w) (ht : TabVar w) (hl : Rd w w.heap.size A (cellsP l)) (hn1 : p.2 ≤ n) (hn2 : n ≤ 32) (Q : Exit → Act → World → Prop) (s0 : Act) (w0 : World) (h0 : FI2 p A l c n w 0 3 0 0 false s0 w0)
    (h : ∀ a' w', FI3 p A l c n w 0 3 0 0 false a' w' → (tailN 2 (tailN 8 (tailN 9 (Tryd.f5.body.getD .skip)))).wp Tryd.prog Q a' w') :
    (tailN 8 (tailN 9 (Tryd.f5.body.getD .skip))).wp Tryd.prog Q s0 w0 := by
  have HG := Lib.hid hg
  have HT := Lib.hid ht
  clear hg ht
  have hn1' : decide (n < p.2) = false := by simpa using (show ¬ n < p.2 by omega)
  have hn2' : decide (32 < n) = false := by simpa using (show ¬ 32 < n by omega)
  obtain ⟨U, AB, cB, BL, rfl, hBL, hrB, hB0, c0_0, c0_1⟩ := h0
  have HBL := Lib.hid hBL
  clear hBL
  refine wp_cut 2 (FI3 p A l c n w 0 3 0 0 false) (by rfl) ?_ h
  clear h
  intro r HR
  dsimp only [Tryd.f5, Option.getD, tailN, putN]
  have hs0 := hB0.size
  have l0_0a : w.heap.size < w0.heap.size := World.block_lt_of_cell? w0 _ c0_0
  have l0_0b : w.heap.size < w0.heap.size + 1 := Nat.lt_succ_of_lt l0_0a
  have l0_0c : w.heap.size < w0.heap.size + 1 + 1 := Nat.lt_succ_of_lt l0_0b
  have l0_0d : w.heap.size < w0.heap.size + 1 + 1 + 1 := Nat.lt_succ_of_lt l0_0c
  go_wp2_with fail
  refine wp_name ?_
  intro w1 hW1
  have hB1 : Below w.heap.size w w1 := by rw [hW1.out]; exact (by first | exact hB0 | ((repeat' (first | exact hB0 | refine Below.setCell ?_ ?_ _ | refine Below.alloc ?_ ?_ _ | refine Below.drew ?_)) <;> (first | omega | (simp <;> omega))))
  have hs1 : w.heap.size ≤ w1.heap.size := hB1.size
  have ht1 := congrArg (fun x : World => x.heap.size) hW1.out
  try simp only [World.size_alloc, World.size_setCell] at ht1
  have c1_0 : w1.cell? ⟨w.heap.size, 0, none⟩ = some (.int .i64 p.1) := by rw [hW1.out]; first | exact c0_0 | simp [go_sem, c0_0, l0_0a, l0_0b, l0_0c, l0_0d]
  have c1_1 : w1.cell? ⟨w.heap.size, 1, none⟩ = some (.int .i64 p.2) := by rw [hW1.out]; first | exact c0_1 | simp [go_sem, c0_1, l0_0a, l0_0b, l0_0c, l0_0d]
  have l1_0a : w.heap.size < w1.heap.size := World.block_lt_of_cell? w1 _ c1_0
  have l1_0b : w.heap.size < w1.heap.size + 1 := Nat.lt_succ_of_lt l1_0a
  have l1_0c : w.heap.size < w1.heap.size + 1 + 1 := Nat.lt_succ_of_lt l1_0b
  have l1_0d : w.heap.size < w1.heap.size + 1 + 1 + 1 := Nat.lt_succ_of_lt l1_0c
  have hkw0_1 : Below w0.heap.size w0 w1 := by rw [hW1.out]; exact (by first | exact Below.refl _ _ | ((repeat' (first | exact Below.refl _ _ | refine Below.setCell ?_ ?_ _ | refine Below.alloc ?_ ?_ _ | refine Below.drew ?_)) <;> (first | omega | (simp <;> omega))))
  have hu1 := Nat.le_of_eq ht1
  have hv1 := Nat.le_of_eq ht1.symm
  clear ht1 c0_0 c0_1 l0_0a l0_0b l0_0c l0_0d hB0 hW1
  exact HR.out _ _ (FI3.mk AB cB BL (by kernel_rfl) ⟨HBL.out, ((hrB.below (show Below w0.heap.size w0 _ from (by first | exact hkw0_1 | ((repeat' (first | exact hkw0_1 | refine Below.setCell ?_ ?_ _ | refine Below.alloc ?_ ?_ _ | refine Below.drew ?_)) <;> (first | omega | (simp <;> omega)))))).more (show w0.heap.size ≤ _ from by first | omega | (simp <;> omega))), hB1, c1_0, c1_1⟩)
set_option maxRecDepth 100000 in
set_option maxHeartbeats 8000000 in
theorem freeIs_3c3 (p : Pf) (A : Option Addr) (l : List Pf) (c : Nat) (n : Int) (hm : l.length ≤ maxLen) (w : World) (hg : ErrVar w) (ht : TabVar w) (hl : Rd w w.heap.size A (cellsP l)) (hn1 : n < p.2) (Q : Exit → Act → World → Prop) (s0 : Act) (w0 : World) (h0 : FI2 p A l c n w 0 3 0 0 false s0 w0)
    (h : ∀ a' w', FI3 p A l c n w 1 3 0 0 false a' w' → (tailN 2 (tailN 8 (tailN 9 (Tryd.f5.body.getD .skip)))).wp Tryd.prog Q a' w') :
    (tailN 8 (tailN 9 (Tryd.f5.body.getD .skip))).wp Tryd.prog Q s0 w0 := by
  have HG := Lib.hid hg
  have HT := Lib.hid ht
  clear hg ht
  obtain ⟨U, AB, cB, BL, rfl, hBL, hrB, hB0, c0_0, c0_1⟩ := h0
  have HBL := Lib.hid hBL
  clear hBL
  refine wp_cut 2 (FI3 p A l c n w 1 3 0 0 false) (by rfl) ?_ h
  clear h
  intro r HR
  dsimp only [Tryd.f5, Option.getD, tailN, putN]
  have hs0 := hB0.size
  have l0_0a : w.heap.size < w0.heap.size := World.block_lt_of_cell? w0 _ c0_0
  have l0_0b : w.heap.size < w0.heap.size + 1 := Nat.lt_succ_of_lt l0_0a
  have l0_0c : w.heap.size < w0.heap.size + 1 + 1 := Nat.lt_succ_of_lt l0_0b
  have l0_0d : w.heap.size < w0.heap.size + 1 + 1 + 1 := Nat.lt_succ_of_lt l0_0c
  go_wp2_with fail
  refine wp_name ?_
  intro w1 hW1
  have hB1 : Below w.heap.size w w1 := by rw [hW1.out]; exact (by first | exact hB0 | ((repeat' (first | exact hB0 | refine Below.setCell ?_ ?_ _ | refine Below.alloc ?_ ?_ _ | refine Below.drew ?_)) <;> (first | omega | (simp <;> omega))))
  have hs1 : w.heap.size ≤ w1.heap.size := hB1.size
  have ht1 := congrArg (fun x : World => x.heap.size) hW1.out
  try simp only [World.size_alloc, World.size_setCell] at ht1
  have c1_0 : w1.cell? ⟨w.heap.size, 0, none⟩ = some (.int .i64 p.1) := by rw [hW1.out]; first | exact c0_0 | simp [go_sem, c0_0, l0_0a, l0_0b, l0_0c, l0_0d]
  have c1_1 : w1.cell? ⟨w.heap.size, 1, none⟩ = some (.int .i64 p.2) := by rw [hW1.out]; first | exact c0_1 | simp [go_sem, c0_1, l0_0a, l0_0b, l0_0c, l0_0d]
  have l1_0a : w.heap.size < w1.heap.size := World.block_lt_of_cell? w1 _ c1_0
  have l1_0b : w.heap.size < w1.heap.size + 1 := Nat.lt_succ_of_lt l1_0a
  have l1_0c : w.heap.size < w1.heap.size + 1 + 1 := Nat.lt_succ_of_lt l1_0b
  have l1_0d : w.heap.size < w1.heap.size + 1 + 1 + 1 := Nat.lt_succ_of_lt l1_0c
  have hkw0_1 : Below w0.heap.size w0 w1 := by rw [hW1.out]; exact (by first | exact Below.refl _ _ | ((repeat' (first | exact Below.refl _ _ | refine Below.setCell ?_ ?_ _ | refine Below.alloc ?_ ?_ _ | refine Below.drew ?_)) <;> (first | omega | (simp <;> omega))))
  have hu1 := Nat.le_of_eq ht1
  have hv1 := Nat.le_of_eq ht1.symm
  clear ht1 c0_0 c0_1 l0_0a l0_0b l0_0c l0_0d hB0 hW1
  exact HR.out _ _ (FI3.mk AB cB BL (by kernel_rfl) ⟨HBL.out, ((hrB.below (show Below w0.heap.size w0 _ from (by first | exact hkw0_1 | ((repeat' (first | exact hkw0_1 | refine Below.setCell ?_ ?_ _ | refine Below.alloc ?_ ?_ _ | refine Below.drew ?_)) <;> (first | omega | (simp <;> omega)))))).more (show w0.heap.size ≤ _ from by first | omega | (simp <;> omega))), hB1, c1_0, c1_1⟩)
set_option maxRecDepth 100000 in
set_option maxHeartbeats 8000000 in
theorem freeIs_3d3 (p : Pf) (A : Option Addr) (l : List Pf) (c : Nat) (n : Int) (hm : l.length ≤ maxLen) (w : World) (hg : ErrVar w) (ht : TabVar w) (hl : Rd w w.heap.size A (cellsP l)) (hn1 : ¬ n < p.2) (hn2 : 32 < n) (Q : Exit → Act → World → Prop) (s0 : Act) (w0 : World) (h0 : FI2 p A l c n w 0 3 0 0 false s0 w0)
    (h : ∀ a' w', FI3 p A l c n w 1 3 0 0 false a' w' → (tailN 2 (tailN 8 (tailN 9 (Tryd.f5.body.getD .skip)))).wp Tryd.prog Q a' w') :
    (tailN 8 (tailN 9 (Tryd.f5.body.getD .skip))).wp Tryd.prog Q s0 w0 := by
  have HG := Lib.hid hg
  have HT := Lib.hid ht
  clear hg ht
  have hn1' : decide (n < p.2) = false := by simpa using hn1
  have hn2' : (32 : Int) < n := hn2
  obtain ⟨U, AB, cB, BL, rfl, hBL, hrB, hB0, c0_0, c0_1⟩ := h0
  have HBL := Lib.hid hBL
  clear hBL
  refine wp_cut 2 (FI3 p A l c n w 1 3 0 0 false) (by rfl) ?_ h
  clear h
  intro r HR
  dsimp only [Tryd.f5, Option.getD, tailN, putN]
  have hs0 := hB0.size
  have l0_0a : w.heap.size < w0.heap.size := World.block_lt_of_cell? w0 _ c0_0
  have l0_0b : w.heap.size < w0.heap.size + 1 := Nat.lt_succ_of_lt l0_0a
  have l0_0c : w.heap.size < w0.heap.size + 1 + 1 := Nat.lt_succ_of_lt l0_0b
  have l0_0d : w.heap.size < w0.heap.size + 1 + 1 + 1 := Nat.lt_succ_of_lt l0_0c
  go_wp2_with fail
  refine wp_name ?_
  intro w1 hW1
  have hB1 : Below w.heap.size w w1 := by rw [hW1.out]; exact (by first | exact hB0 | ((repeat' (first | exact hB0 | refine Below.setCell ?_ ?_ _ | refine Below.alloc ?_ ?_ _ | refine Below.drew ?_)) <;> (first | omega | (simp <;> omega))))
  have hs1 : w.heap.size ≤ w1.heap.size := hB1.size
  have ht1 := congrArg (fun x : World => x.heap.size) hW1.out
  try simp only [World.size_alloc, World.size_setCell] at ht1
  have c1_0 : w1.cell? ⟨w.heap.size, 0, none⟩ = some (.int .i64 p.1) := by rw [hW1.out]; first | exact c0_0 | simp [go_sem, c0_0, l0_0a, l0_0b, l0_0c, l0_0d]
  have c1_1 : w1.cell? ⟨w.heap.size, 1, none⟩ = some (.int .i64 p.2) := by rw [hW1.out]; first | exact c0_1 | simp [go_sem, c0_1, l0_0a, l0_0b, l0_0c, l0_0d]
  have l1_0a : w.heap.size < w1.heap.size := World.block_lt_of_cell? w1 _ c1_0
  have l1_0b : w.heap.size < w1.heap.size + 1 := Nat.lt_succ_of_lt l1_0a
  have l1_0c : w.heap.size < w1.heap.size + 1 + 1 := Nat.lt_succ_of_lt l1_0b
  have l1_0d : w.heap.size < w1.heap.size + 1 + 1 + 1 := Nat.lt_succ_of_lt l1_0c
  have hkw0_1 : Below w0.heap.size w0 w1 := by rw [hW1.out]; exact (by first | exact Below.refl _ _ | ((repeat' (first | exact Below.refl _ _ | refine Below.setCell ?_ ?_ _ | refine Below.alloc ?_ ?_ _ | refine Below.drew ?_)) <;> (first | omega | (simp <;> omega))))
  have hu1 := Nat.le_of_eq ht1
  have hv1 := Nat.le_of_eq ht1.symm
  clear ht1 c0_0 c0_1 l0_0a l0_0b l0_0c l0_0d hB0 hW1
  exact HR.out _ _ (FI3.mk AB cB BL (by kernel_rfl) ⟨HBL.out, ((hrB.below (show Below w0.heap.size w0 _ from (by first | exact hkw0_1 | ((repeat' (first | exact hkw0_1 | refine Below.setCell ?_ ?_ _ | refine Below.alloc ?_ ?_ _ | refine Below.drew ?_)) <;> (first | omega | (simp <;> omega)))))).more (show w0.heap.size ≤ _ from by first | omega | (simp <;> omega))), hB1, c1_0, c1_1⟩)
set_option maxRecDepth 100000 in
set_option maxHeartbeats 8000000 in
theorem freeIs_4a (p : Pf) (A : Option Addr) (l : List Pf) (c : Nat) (n : Int) (hm : l.length ≤ maxLen) (w : World) (hg : ErrVar w) (ht : TabVar w) (hl : Rd w w.heap.size A (cellsP l)) (hbl0 : (frB p l).length ≤ 200) (Q : Exit → Act → World → Prop) (s0 : Act) (w0 : World) (h0 : FI3 p A l c n w 0 0 0 0 false s0 w0)
    (h : ∀ bi, BestIs (frB p l) n 0 bi → ∀ a' w', FI4 p A l c n w 0 0 bi 0 false a' w' → (tailN 2 (tailN 2 (tailN 8 (tailN 9 (Tryd.f5.body.getD .skip))))).wp Tryd.prog Q a' w') :
    (tailN 2 (tailN 8 (tailN 9 (Tryd.f5.body.getD .skip)))).wp Tryd.prog Q s0 w0 := by
  have HG := Lib.hid hg
  have HT := Lib.hid ht
  clear hg ht
  obtain ⟨U, AB, cB, BL, rfl, hBL, hrB, hB0, c0_0, c0_1⟩ := h0
  have hbl : BL.length ≤ 200 := by rw [hBL]; exact hbl0
  have HBL := Lib.hid hBL
  clear hBL
  refine wp_cut 2 (fun a' w' => ∃ bi, BestIs (frB p l) n 0 bi ∧ FI4 p A l c n w 0 0 bi 0 false a' w') (by rfl) ?_ (fun a' w' q => by obtain ⟨bi, hb, q⟩ := q; exact h bi hb a' w' q)
  clear h
  intro r HR
  dsimp only [Tryd.f5, Option.getD, tailN, putN]
  have hs0 := hB0.size
  have l0_0a : w.heap.size < w0.heap.size := World.block_lt_of_cell? w0 _ c0_0
  have l0_0b : w.heap.size < w0.heap.size + 1 := Nat.lt_succ_of_lt l0_0a
  have l0_0c : w.heap.size < w0.heap.size + 1 + 1 := Nat.lt_succ_of_lt l0_0b
  have l0_0d : w.heap.size < w0.heap.size + 1 + 1 + 1 := Nat.lt_succ_of_lt l0_0c
  have hbl2 : BL.length ≤ 200 := hbl
  go_wp2_with fail
  go_loopw [17, 18] (fun v i wx => ∃ (k : Nat) (b : Int), k ≤ BL.length ∧ i = .int .i64 k ∧ v = .int .i64 b ∧ Below w0.heap.size w0 wx ∧ Hid (BestTo BL n k b)) (fun _ i _ => BL.length - (intOf i).toNat)
  case atStart => exact ⟨0, -1, Nat.zero_le _, rfl, rfl, Below.refl _ _, Lib.hid (.inl ⟨rfl, rfl⟩)⟩
  case round =>
    obtain ⟨k, bi, hk, rfl, rfl, hkx, HB⟩ := hrel
    have hbx := hB0.trans (hkx.mono hB0.size)
    have hs := hkx.size
    have e0 := (hkx.cell (p := ⟨w.heap.size, 0, none⟩) (by first | omega | (simp <;> omega))).trans c0_0
    have e1 := (hkx.cell (p := ⟨w.heap.size, 1, none⟩) (by first | omega | (simp <;> omega))).trans c0_1
    by_cases hlt : k < BL.length
    · obtain ⟨b, off, rfl, hbb, d0, d1⟩ := (hrB.below hkx).pair hlt
      have k1 : ∀ x : BelW wr.heap.size wr, x.1.cell? ⟨b, off + k * 2 + 1, none⟩ = some (.int .i64 BL[k].2) := BelW.cell d1 (by simp; omega)
      by_cases hfit : BL[k].2 ≤ n
      · rcases (show bi = -1 ∨ ∃ (j : Nat) (h : j < BL.length), bi = j by rcases HB.out with ⟨h, _⟩ | ⟨j, hj, h, _⟩; exact .inl h; exact .inr ⟨j, hj, h⟩) with rfl | ⟨j, hj, rfl⟩
        · have HN := Lib.hid (bestTo_first HB.out hlt hfit)
          have k0 := True.intro
          go_wp2_with fail
          refine wp_region_bel wr.heap.size wr (by kernel_rfl) (by kernel_rfl) (Below.refl _ _) ?_
          repeat (go_big_quiet_step (fail))
          refine wpQuiet_nil ?_
          intro w2 hb2
          clear k0 k1
          go_wp2_with fail
          go_roundw
          case rel => exact ⟨k + 1, (k : Int), by omega, by go_num, rfl, hkx.trans (hb2.mono hkx.size), HN⟩
          case measure => simp [intOf]; omega
        · obtain ⟨b', off', he, _, f0, f1⟩ := (hrB.below hkx).pair hj
          obtain ⟨rfl, rfl⟩ : b = b' ∧ off = off' := by simpa using he
          clear he
          have k0 : ∀ x : BelW wr.heap.size wr, x.1.cell? ⟨b, off + j * 2 + 1, none⟩ = some (.int .i64 BL[j].2) := BelW.cell f1 (by simp; omega)
          have hj0 : decide ((j : Int) < 0) = false := by simp
          clear f0 f1 d0 d1
          by_cases hmo : BL[j].2 < BL[k].2
          · have HN := Lib.hid (bestTo_more HB.out hj hlt hfit hmo)
            go_wp2_with fail
            refine wp_region_bel wr.heap.size wr (by kernel_rfl) (by kernel_rfl) (Below.refl _ _) ?_
            repeat (go_big_quiet_step (fail))
            refine wpQuiet_nil ?_
            intro w2 hb2
            clear k0 k1
            go_wp2_with fail
            go_roundw
            case rel => exact ⟨k + 1, (k : Int), by omega, by go_num, rfl, hkx.trans (hb2.mono hkx.size), HN⟩
            case measure => simp [intOf]; omega
          · have HN := Lib.hid (bestTo_less HB.out hj hlt hfit hmo)
            have hmo' : decide (BL[j].2 < BL[k].2) = false := by simpa using hmo
            clear hmo
            go_wp2_with fail
            refine wp_region_bel wr.heap.size wr (by kernel_rfl) (by kernel_rfl) (Below.refl _ _) ?_
            repeat (go_big_quiet_step (fail))
            refine wpQuiet_nil ?_
            intro w2 hb2
            clear k0 k1
            go_wp2_with fail
            go_roundw
            case rel => exact ⟨k + 1, (j : Int), by omega, by go_num, rfl, hkx.trans (hb2.mono hkx.size), HN⟩
            case measure => simp [intOf]; omega
      · have HN := Lib.hid (bestTo_skip HB.out hlt hfit)
        have hfit' : decide (BL[k].2 ≤ n) = false := by simpa using hfit
        have k0 := True.intro
        clear hfit
        go_wp2_with fail
        refine wp_region_bel wr.heap.size wr (by kernel_rfl) (by kernel_rfl) (Below.refl _ _) ?_
        repeat (go_big_quiet_step (fail))
        refine wpQuiet_nil ?_
        intro w2 hb2
        clear k0 k1
        go_wp2_with fail
        go_roundw
        case rel => exact ⟨k + 1, bi, by omega, by go_num, rfl, hkx.trans (hb2.mono hkx.size), HN⟩
        case measure => simp [intOf]; omega
    · obtain rfl : k = BL.length := by omega
      have HN := Lib.hid (show BestIs BL n 0 bi from ⟨fun h => absurd rfl h, fun _ => HB.out⟩)
      go_wp2_with fail
      refine wp_name ?_
      intro w21 hW21
      have hB21 : Below w.heap.size w w21 := by rw [hW21.out]; exact (by first | exact hbx | ((repeat' (first | exact hbx | refine Below.setCell ?_ ?_ _ | refine Below.alloc ?_ ?_ _ | refine Below.drew ?_)) <;> (first | omega | (simp <;> omega))))
      have hs21 : w.heap.size ≤ w21.heap.size := hB21.size
      have ht21 := congrArg (fun x : World => x.heap.size) hW21.out
      try simp only [World.size_alloc, World.size_setCell] at ht21
      have c21_0 : w21.cell? ⟨w.heap.size, 0, none⟩ = some (.int .i64 p.1) := by rw [hW21.out]; first | exact e0 | simp [go_sem, e0]
      have c21_1 : w21.cell? ⟨w.heap.size, 1, none⟩ = some (.int .i64 p.2) := by rw [hW21.out]; first | exact e1 | simp [go_sem, e1]
      have l21_0a : w.heap.size < w21.heap.size := World.block_lt_of_cell? w21 _ c21_0
      have l21_0b : w.heap.size < w21.heap.size + 1 := Nat.lt_succ_of_lt l21_0a
      have l21_0c : w.heap.size < w21.heap.size + 1 + 1 := Nat.lt_succ_of_lt l21_0b
      have l21_0d : w.heap.size < w21.heap.size + 1 + 1 + 1 := Nat.lt_succ_of_lt l21_0c
      have hkw0_21 : Below w0.heap.size w0 w21 := by rw [hW21.out]; exact (by first | exact hkx | ((repeat' (first | exact hkx | refine Below.setCell ?_ ?_ _ | refine Below.alloc ?_ ?_ _ | refine Below.drew ?_)) <;> (first | omega | (simp <;> omega))))
      have hu21 := Nat.le_of_eq ht21
      have hv21 := Nat.le_of_eq ht21.symm
      clear ht21 e0 e1 hkx hbx hW21
      exact HR.out _ _ ⟨bi, (by rw [← HBL.out]; exact HN.out), FI4.mk AB cB BL (by kernel_rfl) ⟨HBL.out, ((hrB.below (show Below w0.heap.size w0 _ from (by first | exact hkw0_21 | ((repeat' (first | exact hkw0_21 | refine Below.setCell ?_ ?_ _ | refine Below.alloc ?_ ?_ _ | refine Below.drew ?_)) <;> (first | omega | (simp <;> omega)))))).more (show w0.heap.size ≤ _ from by first | omega | (simp <;> omega))), hB21, c21_0, c21_1⟩⟩
set_option maxRecDepth 100000 in
set_option maxHeartbeats 8000000 in
theorem freeIs_4b (p : Pf) (A : Option Addr) (l : List Pf) (c : Nat) (n : Int) (hm : l.length ≤ maxLen) (w : World) (hg : ErrVar w) (ht : TabVar w) (hl : Rd w w.heap.size A (cellsP l)) (e f : Int) (hf0 : f ≠ 0) (Q : Exit → Act → World → Prop) (s0 : Act) (w0 : World) (h0 : FI3 p A l c n w e f 0 0 false s0 w0)
    (h : ∀ bi, BestIs (frB p l) n f bi → ∀ a' w', FI4 p A l c n w e f bi 0 false a' w' → (tailN 2 (tailN 2 (tailN 8 (tailN 9 (Tryd.f5.body.getD .skip))))).wp Tryd.prog Q a' w') :
    (tailN 2 (tailN 8 (tailN 9 (Tryd.f5.body.getD .skip)))).wp Tryd.prog Q s0 w0 := by
  have HG := Lib.hid hg
  have HT := Lib.hid ht
  clear hg ht
  have hz2 : (f == 0) = false := by simpa using hf0
  have HF0 := Lib.hid hf0
  clear hf0
  obtain ⟨U, AB, cB, BL, rfl, hBL, hrB, hB0, c0_0, c0_1⟩ := h0
  have HBL := Lib.hid hBL
  clear hBL
  refine wp_cut 2 (fun a' w' => ∃ bi, BestIs (frB p l) n f bi ∧ FI4 p A l c n w e f bi 0 false a' w') (by rfl) ?_ (fun a' w' q => by obtain ⟨bi, hb, q⟩ := q; exact h bi hb a' w' q)
  clear h
  intro r HR
  dsimp only [Tryd.f5, Option.getD, tailN, putN]
  have hs0 := hB0.size
  have l0_0a : w.heap.size < w0.heap.size := World.block_lt_of_cell? w0 _ c0_0
  have l0_0b : w.heap.size < w0.heap.size + 1 := Nat.lt_succ_of_lt l0_0a
  have l0_0c : w.heap.size < w0.heap.size + 1 + 1 := Nat.lt_succ_of_lt l0_0b
  have l0_0d : w.heap.size < w0.heap.size + 1 + 1 + 1 := Nat.lt_succ_of_lt l0_0c
  go_wp2_with fail
  go_loopw [17, 18] (fun v i wx => i = .int .i64 0 ∧ v = .int .i64 (-1) ∧ Below w0.heap.size w0 wx) (fun _ i _ => 0)
  case atStart => exact ⟨rfl, rfl, Below.refl _ _⟩
  case round =>
    obtain ⟨rfl, rfl, hkx⟩ := hrel
    have hbx := hB0.trans (hkx.mono hB0.size)
    have hs := hkx.size
    have e0 := (hkx.cell (p := ⟨w.heap.size, 0, none⟩) (by first | omega | (simp <;> omega))).trans c0_0
    have e1 := (hkx.cell (p := ⟨w.heap.size, 1, none⟩) (by first | omega | (simp <;> omega))).trans c0_1
    by_cases hlt : 0 < BL.length
    · have hlt' : (0 : Int) < (BL.length : Int) := by omega
      go_wp2_with fail
      refine wp_name ?_
      intro w21 hW21
      have hB21 : Below w.heap.size w w21 := by rw [hW21.out]; exact (by first | exact hbx | ((repeat' (first | exact hbx | refine Below.setCell ?_ ?_ _ | refine Below.alloc ?_ ?_ _ | refine Below.drew ?_)) <;> (first | omega | (simp <;> omega))))
      have hs21 : w.heap.size ≤ w21.heap.size := hB21.size
      have ht21 := congrArg (fun x : World => x.heap.size) hW21.out
      try simp only [World.size_alloc, World.size_setCell] at ht21
      have c21_0 : w21.cell? ⟨w.heap.size, 0, none⟩ = some (.int .i64 p.1) := by rw [hW21.out]; first | exact e0 | simp [go_sem, e0]
      have c21_1 : w21.cell? ⟨w.heap.size, 1, none⟩ = some (.int .i64 p.2) := by rw [hW21.out]; first | exact e1 | simp [go_sem, e1]
      have l21_0a : w.heap.size < w21.heap.size := World.block_lt_of_cell? w21 _ c21_0
      have l21_0b : w.heap.size < w21.heap.size + 1 := Nat.lt_succ_of_lt l21_0a
      have l21_0c : w.heap.size < w21.heap.size + 1 + 1 := Nat.lt_succ_of_lt l21_0b
      have l21_0d : w.heap.size < w21.heap.size + 1 + 1 + 1 := Nat.lt_succ_of_lt l21_0c
      have hkw0_21 : Below w0.heap.size w0 w21 := by rw [hW21.out]; exact (by first | exact hkx | ((repeat' (first | exact hkx | refine Below.setCell ?_ ?_ _ | refine Below.alloc ?_ ?_ _ | refine Below.drew ?_)) <;> (first | omega | (simp <;> omega))))
      have hu21 := Nat.le_of_eq ht21
      have hv21 := Nat.le_of_eq ht21.symm
      clear ht21 e0 e1 hkx hbx hW21
      exact HR.out _ _ ⟨(-1), ⟨fun _ => rfl, fun h => absurd h HF0.out⟩, FI4.mk AB cB BL (by kernel_rfl) ⟨HBL.out, ((hrB.below (show Below w0.heap.size w0 _ from (by first | exact hkw0_21 | ((repeat' (first | exact hkw0_21 | refine Below.setCell ?_ ?_ _ | refine Below.alloc ?_ ?_ _ | refine Below.drew ?_)) <;> (first | omega | (simp <;> omega)))))).more (show w0.heap.size ≤ _ from by first | omega | (simp <;> omega))), hB21, c21_0, c21_1⟩⟩
    · have hlt2 : decide ((0 : Int) < (BL.length : Int)) = false := decide_eq_false (by omega)
      have HL0 := Lib.hid hlt
      clear hlt
      go_wp2_with fail
      refine wp_name ?_
      intro w21 hW21
      have hB21 : Below w.heap.size w w21 := by rw [hW21.out]; exact (by first | exact hbx | ((repeat' (first | exact hbx | refine Below.setCell ?_ ?_ _ | refine Below.alloc ?_ ?_ _ | refine Below.drew ?_)) <;> (first | omega | (simp <;> omega))))
      have hs21 : w.heap.size ≤ w21.heap.size := hB21.size
      have ht21 := congrArg (fun x : World => x.heap.size) hW21.out
      try simp only [World.size_alloc, World.size_setCell] at ht21
      have c21_0 : w21.cell? ⟨w.heap.size, 0, none⟩ = some (.int .i64 p.1) := by rw [hW21.out]; first | exact e0 | simp [go_sem, e0]
      have c21_1 : w21.cell? ⟨w.heap.size, 1, none⟩ = some (.int .i64 p.2) := by rw [hW21.out]; first | exact e1 | simp [go_sem, e1]
      have l21_0a : w.heap.size < w21.heap.size := World.block_lt_of_cell? w21 _ c21_0
      have l21_0b : w.heap.size < w21.heap.size + 1 := Nat.lt_succ_of_lt l21_0a
      have l21_0c : w.heap.size < w21.heap.size + 1 + 1 := Nat.lt_succ_of_lt l21_0b
      have l21_0d : w.heap.size < w21.heap.size + 1 + 1 + 1 := Nat.lt_succ_of_lt l21_0c
      have hkw0_21 : Below w0.heap.size w0 w21 := by rw [hW21.out]; exact (by first | exact hkx | ((repeat' (first | exact hkx | refine Below.setCell ?_ ?_ _ | refine Below.alloc ?_ ?_ _ | refine Below.drew ?_)) <;> (first | omega | (simp <;> omega))))
      have hu21 := Nat.le_of_eq ht21
      have hv21 := Nat.le_of_eq ht21.symm
      clear ht21 e0 e1 hkx hbx hW21
      exact HR.out _ _ ⟨(-1), ⟨fun _ => rfl, fun h => absurd h HF0.out⟩, FI4.mk AB cB BL (by kernel_rfl) ⟨HBL.out, ((hrB.below (show Below w0.heap.size w0 _ from (by first | exact hkw0_21 | ((repeat' (first | exact hkw0_21 | refine Below.setCell ?_ ?_ _ | refine Below.alloc ?_ ?_ _ | refine Below.drew ?_)) <;> (first | omega | (simp <;> omega)))))).more (show w0.heap.size ≤ _ from by first | omega | (simp <;> omega))), hB21, c21_0, c21_1⟩⟩
end Go.Proofs.YtmfaknngophmhaaDoor
