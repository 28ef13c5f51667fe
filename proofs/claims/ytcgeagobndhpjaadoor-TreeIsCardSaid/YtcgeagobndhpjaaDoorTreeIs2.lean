/- The law TreeIs, its parts: dropped; found. Any list, any prefix, any number. -/
import Derived.Test.YtcgeagobndhpjaaDoorTreeIs0
namespace Go.Proofs.YtcgeagobndhpjaaDoor
set_option linter.unusedVariables false
set_option linter.unusedSimpArgs false
open Go.RowKit

set_option maxRecDepth 100000 in
set_option maxHeartbeats 8000000 in
theorem treeIs_3a (A : Option Addr) (l : List Pf) (c : Nat) (p : Pf) (a : Int) (hm : l.length ≤ maxLen) (w : World) (hg : ErrVar w) (hl : Rd w w.heap.size A (cellsP l)) (h2 : treeFault2 l p ≠ 0) (Q : Exit → Act → World → Prop) (s0 : Act) (w0 : World) (h0 : TImid A l c p a w s0 w0)
    (h : ∀ a' w', TImid A l c p a w a' w' → (tailN 5 (tailN 5 (tailN 4 (Tryd.f5.body.getD .skip)))).wp Tryd.prog Q a' w') :
    (tailN 5 (tailN 4 (Tryd.f5.body.getD .skip))).wp Tryd.prog Q s0 w0 := by
  have HG := Lib.hid hg
  clear hg
  have HE := Lib.hid (dropFault_two h2)
  have HP := Lib.hid (show dropFault l p ≠ 0 by rw [HE.out]; exact h2)
  have H2 := Lib.hid h2
  clear h2
  obtain ⟨U, k, rfl, hk, hB0, c0_0, c0_1⟩ := h0
  have HK := Lib.hid hk
  clear hk
  refine wp_cut 5 (TImid A l c p a w) (by rfl) ?_ h
  clear h
  intro r HR
  dsimp only [Tryd.f5, Option.getD, tailN, putN]
  have hs0 := hB0.size
  have l0_0a : w.heap.size < w0.heap.size := World.block_lt_of_cell? w0 _ c0_0
  have l0_0b : w.heap.size < w0.heap.size + 1 := Nat.lt_succ_of_lt l0_0a
  have l0_0c : w.heap.size < w0.heap.size + 1 + 1 := Nat.lt_succ_of_lt l0_0b
  have l0_0d : w.heap.size < w0.heap.size + 1 + 1 + 1 := Nat.lt_succ_of_lt l0_0c
  go_wp2_with fail
  refine (dropRef_bad A l c p hm H2.out _ ((hl.below (show Below w.heap.size w _ from (by first | exact hB0 | ((repeat' (first | exact hB0 | refine Below.setCell ?_ ?_ _ | refine Below.alloc ?_ ?_ _ | refine Below.drew ?_)) <;> (first | omega | (simp <;> omega)))))).more (show w.heap.size ≤ _ from by first | omega | (simp <;> omega)))).mono ?_
  rintro e w1 ⟨rfl, hb1⟩
  have hB1 : Below w.heap.size w w1 := Below.trans (by first | exact hB0 | ((repeat' (first | exact hB0 | refine Below.setCell ?_ ?_ _ | refine Below.alloc ?_ ?_ _ | refine Below.drew ?_)) <;> (first | omega | (simp <;> omega)))) (hb1.mono (by first | omega | (simp <;> omega)))
  have hs1 : w.heap.size ≤ w1.heap.size := hB1.size
  have ht1 := hb1.size
  try simp only [World.size_alloc, World.size_setCell] at ht1
  have c1_0 : w1.cell? ⟨w.heap.size, 0, none⟩ = some (.int .i64 p.1) := (hb1.cell (p := ⟨w.heap.size, 0, none⟩) (by first | omega | (simp <;> omega))).trans (by first | exact c0_0 | simp [go_sem, c0_0, l0_0a, l0_0b, l0_0c, l0_0d])
  have c1_1 : w1.cell? ⟨w.heap.size, 1, none⟩ = some (.int .i64 p.2) := (hb1.cell (p := ⟨w.heap.size, 1, none⟩) (by first | omega | (simp <;> omega))).trans (by first | exact c0_1 | simp [go_sem, c0_1, l0_0a, l0_0b, l0_0c, l0_0d])
  have l1_0a : w.heap.size < w1.heap.size := World.block_lt_of_cell? w1 _ c1_0
  have l1_0b : w.heap.size < w1.heap.size + 1 := Nat.lt_succ_of_lt l1_0a
  have l1_0c : w.heap.size < w1.heap.size + 1 + 1 := Nat.lt_succ_of_lt l1_0b
  have l1_0d : w.heap.size < w1.heap.size + 1 + 1 + 1 := Nat.lt_succ_of_lt l1_0c
  clear c0_0 c0_1 l0_0a l0_0b l0_0c l0_0d hB0 hb1
  go_wp2_with fail
  refine (drop_bad A l c p hm HP.out _ ((hl.below (show Below w.heap.size w _ from (by first | exact hB1 | ((repeat' (first | exact hB1 | refine Below.setCell ?_ ?_ _ | refine Below.alloc ?_ ?_ _ | refine Below.drew ?_)) <;> (first | omega | (simp <;> omega)))))).more (show w.heap.size ≤ _ from by first | omega | (simp <;> omega)))).mono ?_
  rintro e w2 ⟨rfl, hb2⟩
  have hB2 : Below w.heap.size w w2 := Below.trans (by first | exact hB1 | ((repeat' (first | exact hB1 | refine Below.setCell ?_ ?_ _ | refine Below.alloc ?_ ?_ _ | refine Below.drew ?_)) <;> (first | omega | (simp <;> omega)))) (hb2.mono (by first | omega | (simp <;> omega)))
  have hs2 : w.heap.size ≤ w2.heap.size := hB2.size
  have ht2 := hb2.size
  try simp only [World.size_alloc, World.size_setCell] at ht2
  have c2_0 : w2.cell? ⟨w.heap.size, 0, none⟩ = some (.int .i64 p.1) := (hb2.cell (p := ⟨w.heap.size, 0, none⟩) (by first | omega | (simp <;> omega))).trans (by first | exact c1_0 | simp [go_sem, c1_0, l1_0a, l1_0b, l1_0c, l1_0d])
  have c2_1 : w2.cell? ⟨w.heap.size, 1, none⟩ = some (.int .i64 p.2) := (hb2.cell (p := ⟨w.heap.size, 1, none⟩) (by first | omega | (simp <;> omega))).trans (by first | exact c1_1 | simp [go_sem, c1_1, l1_0a, l1_0b, l1_0c, l1_0d])
  have l2_0a : w.heap.size < w2.heap.size := World.block_lt_of_cell? w2 _ c2_0
  have l2_0b : w.heap.size < w2.heap.size + 1 := Nat.lt_succ_of_lt l2_0a
  have l2_0c : w.heap.size < w2.heap.size + 1 + 1 := Nat.lt_succ_of_lt l2_0b
  have l2_0d : w.heap.size < w2.heap.size + 1 + 1 + 1 := Nat.lt_succ_of_lt l2_0c
  clear c1_0 c1_1 l1_0a l1_0b l1_0c l1_0d hB1 hb2
  rw [HE.out]
  go_wp2_with fail
  refine (error_same _ H2.out _ (by exact HG.out.belowB (show Below w.heap.size w _ from (by first | exact hB2 | ((repeat' (first | exact hB2 | refine Below.setCell ?_ ?_ _ | refine Below.alloc ?_ ?_ _ | refine Below.drew ?_)) <;> (first | omega | (simp <;> omega))))) HG.out.lt)).mono ?_
  rintro e w3 ⟨rfl, hb3⟩
  have hB3 : Below w.heap.size w w3 := Below.trans (by first | exact hB2 | ((repeat' (first | exact hB2 | refine Below.setCell ?_ ?_ _ | refine Below.alloc ?_ ?_ _ | refine Below.drew ?_)) <;> (first | omega | (simp <;> omega)))) (hb3.mono (by first | omega | (simp <;> omega)))
  have hs3 : w.heap.size ≤ w3.heap.size := hB3.size
  have ht3 := hb3.size
  try simp only [World.size_alloc, World.size_setCell] at ht3
  have c3_0 : w3.cell? ⟨w.heap.size, 0, none⟩ = some (.int .i64 p.1) := (hb3.cell (p := ⟨w.heap.size, 0, none⟩) (by first | omega | (simp <;> omega))).trans (by first | exact c2_0 | simp [go_sem, c2_0, l2_0a, l2_0b, l2_0c, l2_0d])
  have c3_1 : w3.cell? ⟨w.heap.size, 1, none⟩ = some (.int .i64 p.2) := (hb3.cell (p := ⟨w.heap.size, 1, none⟩) (by first | omega | (simp <;> omega))).trans (by first | exact c2_1 | simp [go_sem, c2_1, l2_0a, l2_0b, l2_0c, l2_0d])
  have l3_0a : w.heap.size < w3.heap.size := World.block_lt_of_cell? w3 _ c3_0
  have l3_0b : w.heap.size < w3.heap.size + 1 := Nat.lt_succ_of_lt l3_0a
  have l3_0c : w.heap.size < w3.heap.size + 1 + 1 := Nat.lt_succ_of_lt l3_0b
  have l3_0d : w.heap.size < w3.heap.size + 1 + 1 + 1 := Nat.lt_succ_of_lt l3_0c
  clear c2_0 c2_1 l2_0a l2_0b l2_0c l2_0d hB2 hb3
  go_wp2_with fail
  refine (prefixes_nil _).mono ?_
  rintro e w4 ⟨rfl, hb4⟩
  have hB4 : Below w.heap.size w w4 := Below.trans (by first | exact hB3 | ((repeat' (first | exact hB3 | refine Below.setCell ?_ ?_ _ | refine Below.alloc ?_ ?_ _ | refine Below.drew ?_)) <;> (first | omega | (simp <;> omega)))) (hb4.mono (by first | omega | (simp <;> omega)))
  have hs4 : w.heap.size ≤ w4.heap.size := hB4.size
  have ht4 := hb4.size
  try simp only [World.size_alloc, World.size_setCell] at ht4
  have c4_0 : w4.cell? ⟨w.heap.size, 0, none⟩ = some (.int .i64 p.1) := (hb4.cell (p := ⟨w.heap.size, 0, none⟩) (by first | omega | (simp <;> omega))).trans (by first | exact c3_0 | simp [go_sem, c3_0, l3_0a, l3_0b, l3_0c, l3_0d])
  have c4_1 : w4.cell? ⟨w.heap.size, 1, none⟩ = some (.int .i64 p.2) := (hb4.cell (p := ⟨w.heap.size, 1, none⟩) (by first | omega | (simp <;> omega))).trans (by first | exact c3_1 | simp [go_sem, c3_1, l3_0a, l3_0b, l3_0c, l3_0d])
  have l4_0a : w.heap.size < w4.heap.size := World.block_lt_of_cell? w4 _ c4_0
  have l4_0b : w.heap.size < w4.heap.size + 1 := Nat.lt_succ_of_lt l4_0a
  have l4_0c : w.heap.size < w4.heap.size + 1 + 1 := Nat.lt_succ_of_lt l4_0b
  have l4_0d : w.heap.size < w4.heap.size + 1 + 1 + 1 := Nat.lt_succ_of_lt l4_0c
  clear c3_0 c3_1 l3_0a l3_0b l3_0c l3_0d hB3 hb4
  go_wp2_with fail
  refine wp_name ?_
  intro w5 hW5
  have hB5 : Below w.heap.size w w5 := by rw [hW5.out]; exact (by first | exact hB4 | ((repeat' (first | exact hB4 | refine Below.setCell ?_ ?_ _ | refine Below.alloc ?_ ?_ _ | refine Below.drew ?_)) <;> (first | omega | (simp <;> omega))))
  have hs5 : w.heap.size ≤ w5.heap.size := hB5.size
  have ht5 := congrArg (fun x : World => x.heap.size) hW5.out
  try simp only [World.size_alloc, World.size_setCell] at ht5
  have c5_0 : w5.cell? ⟨w.heap.size, 0, none⟩ = some (.int .i64 p.1) := by rw [hW5.out]; first | exact c4_0 | simp [go_sem, c4_0, l4_0a, l4_0b, l4_0c, l4_0d]
  have c5_1 : w5.cell? ⟨w.heap.size, 1, none⟩ = some (.int .i64 p.2) := by rw [hW5.out]; first | exact c4_1 | simp [go_sem, c4_1, l4_0a, l4_0b, l4_0c, l4_0d]
  have l5_0a : w.heap.size < w5.heap.size := World.block_lt_of_cell? w5 _ c5_0
  have l5_0b : w.heap.size < w5.heap.size + 1 := Nat.lt_succ_of_lt l5_0a
  have l5_0c : w.heap.size < w5.heap.size + 1 + 1 := Nat.lt_succ_of_lt l5_0b
  have l5_0d : w.heap.size < w5.heap.size + 1 + 1 + 1 := Nat.lt_succ_of_lt l5_0c
  have hu5 := Nat.le_of_eq ht5
  have hv5 := Nat.le_of_eq ht5.symm
  clear ht5 c4_0 c4_1 l4_0a l4_0b l4_0c l4_0d hB4 hW5
  exact HR.out _ _ (TImid.mk k (by kernel_rfl) ⟨HK.out, hB5, c5_0, c5_1⟩)
set_option maxRecDepth 100000 in
set_option maxHeartbeats 8000000 in
theorem treeIs_3b (A : Option Addr) (l : List Pf) (c : Nat) (p : Pf) (a : Int) (hm : l.length ≤ maxLen) (w : World) (hg : ErrVar w) (hl : Rd w w.heap.size A (cellsP l)) (h2 : treeFault2 l p = 0) (hmem : p ∉ l) (Q : Exit → Act → World → Prop) (s0 : Act) (w0 : World) (h0 : TImid A l c p a w s0 w0)
    (h : ∀ a' w', TImid A l c p a w a' w' → (tailN 5 (tailN 5 (tailN 4 (Tryd.f5.body.getD .skip)))).wp Tryd.prog Q a' w') :
    (tailN 5 (tailN 4 (Tryd.f5.body.getD .skip))).wp Tryd.prog Q s0 w0 := by
  have HG := Lib.hid hg
  clear hg
  have HE := Lib.hid (dropFault_none h2 hmem)
  have HP := Lib.hid (show dropFault l p ≠ 0 by rw [HE.out]; decide)
  have H2 := Lib.hid h2
  have HM := Lib.hid hmem
  clear h2 hmem
  obtain ⟨U, k, rfl, hk, hB0, c0_0, c0_1⟩ := h0
  have HK := Lib.hid hk
  clear hk
  refine wp_cut 5 (TImid A l c p a w) (by rfl) ?_ h
  clear h
  intro r HR
  dsimp only [Tryd.f5, Option.getD, tailN, putN]
  have hs0 := hB0.size
  have l0_0a : w.heap.size < w0.heap.size := World.block_lt_of_cell? w0 _ c0_0
  have l0_0b : w.heap.size < w0.heap.size + 1 := Nat.lt_succ_of_lt l0_0a
  have l0_0c : w.heap.size < w0.heap.size + 1 + 1 := Nat.lt_succ_of_lt l0_0b
  have l0_0d : w.heap.size < w0.heap.size + 1 + 1 + 1 := Nat.lt_succ_of_lt l0_0c
  go_wp2_with fail
  refine (dropRef_none A l c p H2.out HM.out _ ((hl.below (show Below w.heap.size w _ from (by first | exact hB0 | ((repeat' (first | exact hB0 | refine Below.setCell ?_ ?_ _ | refine Below.alloc ?_ ?_ _ | refine Below.drew ?_)) <;> (first | omega | (simp <;> omega)))))).more (show w.heap.size ≤ _ from by first | omega | (simp <;> omega)))).mono ?_
  rintro e w1 ⟨rfl, hb1⟩
  have hB1 : Below w.heap.size w w1 := Below.trans (by first | exact hB0 | ((repeat' (first | exact hB0 | refine Below.setCell ?_ ?_ _ | refine Below.alloc ?_ ?_ _ | refine Below.drew ?_)) <;> (first | omega | (simp <;> omega)))) (hb1.mono (by first | omega | (simp <;> omega)))
  have hs1 : w.heap.size ≤ w1.heap.size := hB1.size
  have ht1 := hb1.size
  try simp only [World.size_alloc, World.size_setCell] at ht1
  have c1_0 : w1.cell? ⟨w.heap.size, 0, none⟩ = some (.int .i64 p.1) := (hb1.cell (p := ⟨w.heap.size, 0, none⟩) (by first | omega | (simp <;> omega))).trans (by first | exact c0_0 | simp [go_sem, c0_0, l0_0a, l0_0b, l0_0c, l0_0d])
  have c1_1 : w1.cell? ⟨w.heap.size, 1, none⟩ = some (.int .i64 p.2) := (hb1.cell (p := ⟨w.heap.size, 1, none⟩) (by first | omega | (simp <;> omega))).trans (by first | exact c0_1 | simp [go_sem, c0_1, l0_0a, l0_0b, l0_0c, l0_0d])
  have l1_0a : w.heap.size < w1.heap.size := World.block_lt_of_cell? w1 _ c1_0
  have l1_0b : w.heap.size < w1.heap.size + 1 := Nat.lt_succ_of_lt l1_0a
  have l1_0c : w.heap.size < w1.heap.size + 1 + 1 := Nat.lt_succ_of_lt l1_0b
  have l1_0d : w.heap.size < w1.heap.size + 1 + 1 + 1 := Nat.lt_succ_of_lt l1_0c
  clear c0_0 c0_1 l0_0a l0_0b l0_0c l0_0d hB0 hb1
  go_wp2_with fail
  refine (drop_bad A l c p hm HP.out _ ((hl.below (show Below w.heap.size w _ from (by first | exact hB1 | ((repeat' (first | exact hB1 | refine Below.setCell ?_ ?_ _ | refine Below.alloc ?_ ?_ _ | refine Below.drew ?_)) <;> (first | omega | (simp <;> omega)))))).more (show w.heap.size ≤ _ from by first | omega | (simp <;> omega)))).mono ?_
  rintro e w2 ⟨rfl, hb2⟩
  have hB2 : Below w.heap.size w w2 := Below.trans (by first | exact hB1 | ((repeat' (first | exact hB1 | refine Below.setCell ?_ ?_ _ | refine Below.alloc ?_ ?_ _ | refine Below.drew ?_)) <;> (first | omega | (simp <;> omega)))) (hb2.mono (by first | omega | (simp <;> omega)))
  have hs2 : w.heap.size ≤ w2.heap.size := hB2.size
  have ht2 := hb2.size
  try simp only [World.size_alloc, World.size_setCell] at ht2
  have c2_0 : w2.cell? ⟨w.heap.size, 0, none⟩ = some (.int .i64 p.1) := (hb2.cell (p := ⟨w.heap.size, 0, none⟩) (by first | omega | (simp <;> omega))).trans (by first | exact c1_0 | simp [go_sem, c1_0, l1_0a, l1_0b, l1_0c, l1_0d])
  have c2_1 : w2.cell? ⟨w.heap.size, 1, none⟩ = some (.int .i64 p.2) := (hb2.cell (p := ⟨w.heap.size, 1, none⟩) (by first | omega | (simp <;> omega))).trans (by first | exact c1_1 | simp [go_sem, c1_1, l1_0a, l1_0b, l1_0c, l1_0d])
  have l2_0a : w.heap.size < w2.heap.size := World.block_lt_of_cell? w2 _ c2_0
  have l2_0b : w.heap.size < w2.heap.size + 1 := Nat.lt_succ_of_lt l2_0a
  have l2_0c : w.heap.size < w2.heap.size + 1 + 1 := Nat.lt_succ_of_lt l2_0b
  have l2_0d : w.heap.size < w2.heap.size + 1 + 1 + 1 := Nat.lt_succ_of_lt l2_0c
  clear c1_0 c1_1 l1_0a l1_0b l1_0c l1_0d hB1 hb2
  rw [HE.out]
  go_wp2_with fail
  refine (error_same 4 (by decide) _ (by exact HG.out.belowB (show Below w.heap.size w _ from (by first | exact hB2 | ((repeat' (first | exact hB2 | refine Below.setCell ?_ ?_ _ | refine Below.alloc ?_ ?_ _ | refine Below.drew ?_)) <;> (first | omega | (simp <;> omega))))) HG.out.lt)).mono ?_
  rintro e w3 ⟨rfl, hb3⟩
  have hB3 : Below w.heap.size w w3 := Below.trans (by first | exact hB2 | ((repeat' (first | exact hB2 | refine Below.setCell ?_ ?_ _ | refine Below.alloc ?_ ?_ _ | refine Below.drew ?_)) <;> (first | omega | (simp <;> omega)))) (hb3.mono (by first | omega | (simp <;> omega)))
  have hs3 : w.heap.size ≤ w3.heap.size := hB3.size
  have ht3 := hb3.size
  try simp only [World.size_alloc, World.size_setCell] at ht3
  have c3_0 : w3.cell? ⟨w.heap.size, 0, none⟩ = some (.int .i64 p.1) := (hb3.cell (p := ⟨w.heap.size, 0, none⟩) (by first | omega | (simp <;> omega))).trans (by first | exact c2_0 | simp [go_sem, c2_0, l2_0a, l2_0b, l2_0c, l2_0d])
  have c3_1 : w3.cell? ⟨w.heap.size, 1, none⟩ = some (.int .i64 p.2) := (hb3.cell (p := ⟨w.heap.size, 1, none⟩) (by first | omega | (simp <;> omega))).trans (by first | exact c2_1 | simp [go_sem, c2_1, l2_0a, l2_0b, l2_0c, l2_0d])
  have l3_0a : w.heap.size < w3.heap.size := World.block_lt_of_cell? w3 _ c3_0
  have l3_0b : w.heap.size < w3.heap.size + 1 := Nat.lt_succ_of_lt l3_0a
  have l3_0c : w.heap.size < w3.heap.size + 1 + 1 := Nat.lt_succ_of_lt l3_0b
  have l3_0d : w.heap.size < w3.heap.size + 1 + 1 + 1 := Nat.lt_succ_of_lt l3_0c
  clear c2_0 c2_1 l2_0a l2_0b l2_0c l2_0d hB2 hb3
  go_wp2_with fail
  refine (prefixes_nil _).mono ?_
  rintro e w4 ⟨rfl, hb4⟩
  have hB4 : Below w.heap.size w w4 := Below.trans (by first | exact hB3 | ((repeat' (first | exact hB3 | refine Below.setCell ?_ ?_ _ | refine Below.alloc ?_ ?_ _ | refine Below.drew ?_)) <;> (first | omega | (simp <;> omega)))) (hb4.mono (by first | omega | (simp <;> omega)))
  have hs4 : w.heap.size ≤ w4.heap.size := hB4.size
  have ht4 := hb4.size
  try simp only [World.size_alloc, World.size_setCell] at ht4
  have c4_0 : w4.cell? ⟨w.heap.size, 0, none⟩ = some (.int .i64 p.1) := (hb4.cell (p := ⟨w.heap.size, 0, none⟩) (by first | omega | (simp <;> omega))).trans (by first | exact c3_0 | simp [go_sem, c3_0, l3_0a, l3_0b, l3_0c, l3_0d])
  have c4_1 : w4.cell? ⟨w.heap.size, 1, none⟩ = some (.int .i64 p.2) := (hb4.cell (p := ⟨w.heap.size, 1, none⟩) (by first | omega | (simp <;> omega))).trans (by first | exact c3_1 | simp [go_sem, c3_1, l3_0a, l3_0b, l3_0c, l3_0d])
  have l4_0a : w.heap.size < w4.heap.size := World.block_lt_of_cell? w4 _ c4_0
  have l4_0b : w.heap.size < w4.heap.size + 1 := Nat.lt_succ_of_lt l4_0a
  have l4_0c : w.heap.size < w4.heap.size + 1 + 1 := Nat.lt_succ_of_lt l4_0b
  have l4_0d : w.heap.size < w4.heap.size + 1 + 1 + 1 := Nat.lt_succ_of_lt l4_0c
  clear c3_0 c3_1 l3_0a l3_0b l3_0c l3_0d hB3 hb4
  go_wp2_with fail
  refine wp_name ?_
  intro w5 hW5
  have hB5 : Below w.heap.size w w5 := by rw [hW5.out]; exact (by first | exact hB4 | ((repeat' (first | exact hB4 | refine Below.setCell ?_ ?_ _ | refine Below.alloc ?_ ?_ _ | refine Below.drew ?_)) <;> (first | omega | (simp <;> omega))))
  have hs5 : w.heap.size ≤ w5.heap.size := hB5.size
  have ht5 := congrArg (fun x : World => x.heap.size) hW5.out
  try simp only [World.size_alloc, World.size_setCell] at ht5
  have c5_0 : w5.cell? ⟨w.heap.size, 0, none⟩ = some (.int .i64 p.1) := by rw [hW5.out]; first | exact c4_0 | simp [go_sem, c4_0, l4_0a, l4_0b, l4_0c, l4_0d]
  have c5_1 : w5.cell? ⟨w.heap.size, 1, none⟩ = some (.int .i64 p.2) := by rw [hW5.out]; first | exact c4_1 | simp [go_sem, c4_1, l4_0a, l4_0b, l4_0c, l4_0d]
  have l5_0a : w.heap.size < w5.heap.size := World.block_lt_of_cell? w5 _ c5_0
  have l5_0b : w.heap.size < w5.heap.size + 1 := Nat.lt_succ_of_lt l5_0a
  have l5_0c : w.heap.size < w5.heap.size + 1 + 1 := Nat.lt_succ_of_lt l5_0b
  have l5_0d : w.heap.size < w5.heap.size + 1 + 1 + 1 := Nat.lt_succ_of_lt l5_0c
  have hu5 := Nat.le_of_eq ht5
  have hv5 := Nat.le_of_eq ht5.symm
  clear ht5 c4_0 c4_1 l4_0a l4_0b l4_0c l4_0d hB4 hW5
  exact HR.out _ _ (TImid.mk k (by kernel_rfl) ⟨HK.out, hB5, c5_0, c5_1⟩)
set_option maxRecDepth 100000 in
set_option maxHeartbeats 8000000 in
theorem treeIs_3c (A : Option Addr) (l : List Pf) (c : Nat) (p : Pf) (a : Int) (hm : l.length ≤ maxLen) (w : World) (hg : ErrVar w) (hl : Rd w w.heap.size A (cellsP l)) (h2 : treeFault2 l p = 0) (hmem : p ∈ l) (Q : Exit → Act → World → Prop) (s0 : Act) (w0 : World) (h0 : TImid A l c p a w s0 w0)
    (h : ∀ a' w', TImid A l c p a w a' w' → (tailN 5 (tailN 5 (tailN 4 (Tryd.f5.body.getD .skip)))).wp Tryd.prog Q a' w') :
    (tailN 5 (tailN 4 (Tryd.f5.body.getD .skip))).wp Tryd.prog Q s0 w0 := by
  have HG := Lib.hid hg
  clear hg
  have hML := Lib.hid (show (dropL l p).length ≤ maxLen from Nat.le_trans (List.length_filter_le _ _) hm)
  have HP := Lib.hid (dropFault_ok h2 hmem)
  have H2 := Lib.hid h2
  have HM := Lib.hid hmem
  clear h2 hmem
  obtain ⟨U, k, rfl, hk, hB0, c0_0, c0_1⟩ := h0
  have HK := Lib.hid hk
  clear hk
  refine wp_cut 5 (TImid A l c p a w) (by rfl) ?_ h
  clear h
  intro r HR
  dsimp only [Tryd.f5, Option.getD, tailN, putN]
  have hs0 := hB0.size
  have l0_0a : w.heap.size < w0.heap.size := World.block_lt_of_cell? w0 _ c0_0
  have l0_0b : w.heap.size < w0.heap.size + 1 := Nat.lt_succ_of_lt l0_0a
  have l0_0c : w.heap.size < w0.heap.size + 1 + 1 := Nat.lt_succ_of_lt l0_0b
  have l0_0d : w.heap.size < w0.heap.size + 1 + 1 + 1 := Nat.lt_succ_of_lt l0_0c
  go_wp2_with fail
  refine (dropRef_ok A l c p H2.out HM.out _ ((hl.below (show Below w.heap.size w _ from (by first | exact hB0 | ((repeat' (first | exact hB0 | refine Below.setCell ?_ ?_ _ | refine Below.alloc ?_ ?_ _ | refine Below.drew ?_)) <;> (first | omega | (simp <;> omega)))))).more (show w.heap.size ≤ _ from by first | omega | (simp <;> omega)))).mono ?_
  rintro e w1 ⟨v1, rfl, hown1, hb1⟩
  have hB1 : Below w.heap.size w w1 := Below.trans (by first | exact hB0 | ((repeat' (first | exact hB0 | refine Below.setCell ?_ ?_ _ | refine Below.alloc ?_ ?_ _ | refine Below.drew ?_)) <;> (first | omega | (simp <;> omega)))) (hb1.mono (by first | omega | (simp <;> omega)))
  have hs1 : w.heap.size ≤ w1.heap.size := hB1.size
  have ht1 := hb1.size
  try simp only [World.size_alloc, World.size_setCell] at ht1
  have c1_0 : w1.cell? ⟨w.heap.size, 0, none⟩ = some (.int .i64 p.1) := (hb1.cell (p := ⟨w.heap.size, 0, none⟩) (by first | omega | (simp <;> omega))).trans (by first | exact c0_0 | simp [go_sem, c0_0, l0_0a, l0_0b, l0_0c, l0_0d])
  have c1_1 : w1.cell? ⟨w.heap.size, 1, none⟩ = some (.int .i64 p.2) := (hb1.cell (p := ⟨w.heap.size, 1, none⟩) (by first | omega | (simp <;> omega))).trans (by first | exact c0_1 | simp [go_sem, c0_1, l0_0a, l0_0b, l0_0c, l0_0d])
  have l1_0a : w.heap.size < w1.heap.size := World.block_lt_of_cell? w1 _ c1_0
  have l1_0b : w.heap.size < w1.heap.size + 1 := Nat.lt_succ_of_lt l1_0a
  have l1_0c : w.heap.size < w1.heap.size + 1 + 1 := Nat.lt_succ_of_lt l1_0b
  have l1_0d : w.heap.size < w1.heap.size + 1 + 1 + 1 := Nat.lt_succ_of_lt l1_0c
  clear c0_0 c0_1 l0_0a l0_0b l0_0c l0_0d hB0 hb1
  obtain ⟨A1, c1, rfl, hr1⟩ := hown1.form
  clear hown1
  go_wp2_with fail
  refine (drop_ok A l c p HP.out _ ((hl.below (show Below w.heap.size w _ from (by first | exact hB1 | ((repeat' (first | exact hB1 | refine Below.setCell ?_ ?_ _ | refine Below.alloc ?_ ?_ _ | refine Below.drew ?_)) <;> (first | omega | (simp <;> omega)))))).more (show w.heap.size ≤ _ from by first | omega | (simp <;> omega)))).mono ?_
  rintro e w2 ⟨v2, rfl, hown2, hb2⟩
  have hB2 : Below w.heap.size w w2 := Below.trans (by first | exact hB1 | ((repeat' (first | exact hB1 | refine Below.setCell ?_ ?_ _ | refine Below.alloc ?_ ?_ _ | refine Below.drew ?_)) <;> (first | omega | (simp <;> omega)))) (hb2.mono (by first | omega | (simp <;> omega)))
  have hs2 : w.heap.size ≤ w2.heap.size := hB2.size
  have ht2 := hb2.size
  try simp only [World.size_alloc, World.size_setCell] at ht2
  have c2_0 : w2.cell? ⟨w.heap.size, 0, none⟩ = some (.int .i64 p.1) := (hb2.cell (p := ⟨w.heap.size, 0, none⟩) (by first | omega | (simp <;> omega))).trans (by first | exact c1_0 | simp [go_sem, c1_0, l1_0a, l1_0b, l1_0c, l1_0d])
  have c2_1 : w2.cell? ⟨w.heap.size, 1, none⟩ = some (.int .i64 p.2) := (hb2.cell (p := ⟨w.heap.size, 1, none⟩) (by first | omega | (simp <;> omega))).trans (by first | exact c1_1 | simp [go_sem, c1_1, l1_0a, l1_0b, l1_0c, l1_0d])
  have l2_0a : w.heap.size < w2.heap.size := World.block_lt_of_cell? w2 _ c2_0
  have l2_0b : w.heap.size < w2.heap.size + 1 := Nat.lt_succ_of_lt l2_0a
  have l2_0c : w.heap.size < w2.heap.size + 1 + 1 := Nat.lt_succ_of_lt l2_0b
  have l2_0d : w.heap.size < w2.heap.size + 1 + 1 + 1 := Nat.lt_succ_of_lt l2_0c
  have hkw1_2 : Below w1.heap.size w1 w2 := Below.trans (by first | exact Below.refl _ _ | ((repeat' (first | exact Below.refl _ _ | refine Below.setCell ?_ ?_ _ | refine Below.alloc ?_ ?_ _ | refine Below.drew ?_)) <;> (first | omega | (simp <;> omega)))) (hb2.mono (by first | omega | (simp <;> omega)))
  clear c1_0 c1_1 l1_0a l1_0b l1_0c l1_0d hB1 hb2
  obtain ⟨A2, c2, rfl, hr2⟩ := hown2.form
  clear hown2
  go_wp2_with fail
  refine (error_nil0 _ (by exact HG.out.belowB (show Below w.heap.size w _ from (by first | exact hB2 | ((repeat' (first | exact hB2 | refine Below.setCell ?_ ?_ _ | refine Below.alloc ?_ ?_ _ | refine Below.drew ?_)) <;> (first | omega | (simp <;> omega))))) HG.out.lt)).mono ?_
  rintro e w3 ⟨rfl, hb3⟩
  have hB3 : Below w.heap.size w w3 := Below.trans (by first | exact hB2 | ((repeat' (first | exact hB2 | refine Below.setCell ?_ ?_ _ | refine Below.alloc ?_ ?_ _ | refine Below.drew ?_)) <;> (first | omega | (simp <;> omega)))) (hb3.mono (by first | omega | (simp <;> omega)))
  have hs3 : w.heap.size ≤ w3.heap.size := hB3.size
  have ht3 := hb3.size
  try simp only [World.size_alloc, World.size_setCell] at ht3
  have c3_0 : w3.cell? ⟨w.heap.size, 0, none⟩ = some (.int .i64 p.1) := (hb3.cell (p := ⟨w.heap.size, 0, none⟩) (by first | omega | (simp <;> omega))).trans (by first | exact c2_0 | simp [go_sem, c2_0, l2_0a, l2_0b, l2_0c, l2_0d])
  have c3_1 : w3.cell? ⟨w.heap.size, 1, none⟩ = some (.int .i64 p.2) := (hb3.cell (p := ⟨w.heap.size, 1, none⟩) (by first | omega | (simp <;> omega))).trans (by first | exact c2_1 | simp [go_sem, c2_1, l2_0a, l2_0b, l2_0c, l2_0d])
  have l3_0a : w.heap.size < w3.heap.size := World.block_lt_of_cell? w3 _ c3_0
  have l3_0b : w.heap.size < w3.heap.size + 1 := Nat.lt_succ_of_lt l3_0a
  have l3_0c : w.heap.size < w3.heap.size + 1 + 1 := Nat.lt_succ_of_lt l3_0b
  have l3_0d : w.heap.size < w3.heap.size + 1 + 1 + 1 := Nat.lt_succ_of_lt l3_0c
  have hkw1_3 : Below w1.heap.size w1 w3 := Below.trans (by first | exact hkw1_2 | ((repeat' (first | exact hkw1_2 | refine Below.setCell ?_ ?_ _ | refine Below.alloc ?_ ?_ _ | refine Below.drew ?_)) <;> (first | omega | (simp <;> omega)))) (hb3.mono (by first | omega | (simp <;> omega)))
  have hkw2_3 : Below w2.heap.size w2 w3 := Below.trans (by first | exact Below.refl _ _ | ((repeat' (first | exact Below.refl _ _ | refine Below.setCell ?_ ?_ _ | refine Below.alloc ?_ ?_ _ | refine Below.drew ?_)) <;> (first | omega | (simp <;> omega)))) (hb3.mono (by first | omega | (simp <;> omega)))
  clear c2_0 c2_1 l2_0a l2_0b l2_0c l2_0d hkw1_2 hB2 hb3
  go_wp2_with fail
  refine (prefixes_same A2 A1 (dropL l p) (dropL l p) _ _ c2 c1 rfl rfl hML.out rfl _ ((hr2.below (show Below w2.heap.size w2 _ from (by first | exact hkw2_3 | ((repeat' (first | exact hkw2_3 | refine Below.setCell ?_ ?_ _ | refine Below.alloc ?_ ?_ _ | refine Below.drew ?_)) <;> (first | omega | (simp <;> omega)))))).more (show w2.heap.size ≤ _ from by first | omega | (simp <;> omega))) ((hr1.below (show Below w1.heap.size w1 _ from (by first | exact hkw1_3 | ((repeat' (first | exact hkw1_3 | refine Below.setCell ?_ ?_ _ | refine Below.alloc ?_ ?_ _ | refine Below.drew ?_)) <;> (first | omega | (simp <;> omega)))))).more (show w1.heap.size ≤ _ from by first | omega | (simp <;> omega)))).mono ?_
  rintro e w4 ⟨rfl, hb4⟩
  have hB4 : Below w.heap.size w w4 := Below.trans (by first | exact hB3 | ((repeat' (first | exact hB3 | refine Below.setCell ?_ ?_ _ | refine Below.alloc ?_ ?_ _ | refine Below.drew ?_)) <;> (first | omega | (simp <;> omega)))) (hb4.mono (by first | omega | (simp <;> omega)))
  have hs4 : w.heap.size ≤ w4.heap.size := hB4.size
  have ht4 := hb4.size
  try simp only [World.size_alloc, World.size_setCell] at ht4
  have c4_0 : w4.cell? ⟨w.heap.size, 0, none⟩ = some (.int .i64 p.1) := (hb4.cell (p := ⟨w.heap.size, 0, none⟩) (by first | omega | (simp <;> omega))).trans (by first | exact c3_0 | simp [go_sem, c3_0, l3_0a, l3_0b, l3_0c, l3_0d])
  have c4_1 : w4.cell? ⟨w.heap.size, 1, none⟩ = some (.int .i64 p.2) := (hb4.cell (p := ⟨w.heap.size, 1, none⟩) (by first | omega | (simp <;> omega))).trans (by first | exact c3_1 | simp [go_sem, c3_1, l3_0a, l3_0b, l3_0c, l3_0d])
  have l4_0a : w.heap.size < w4.heap.size := World.block_lt_of_cell? w4 _ c4_0
  have l4_0b : w.heap.size < w4.heap.size + 1 := Nat.lt_succ_of_lt l4_0a
  have l4_0c : w.heap.size < w4.heap.size + 1 + 1 := Nat.lt_succ_of_lt l4_0b
  have l4_0d : w.heap.size < w4.heap.size + 1 + 1 + 1 := Nat.lt_succ_of_lt l4_0c
  have hkw1_4 : Below w1.heap.size w1 w4 := Below.trans (by first | exact hkw1_3 | ((repeat' (first | exact hkw1_3 | refine Below.setCell ?_ ?_ _ | refine Below.alloc ?_ ?_ _ | refine Below.drew ?_)) <;> (first | omega | (simp <;> omega)))) (hb4.mono (by first | omega | (simp <;> omega)))
  have hkw2_4 : Below w2.heap.size w2 w4 := Below.trans (by first | exact hkw2_3 | ((repeat' (first | exact hkw2_3 | refine Below.setCell ?_ ?_ _ | refine Below.alloc ?_ ?_ _ | refine Below.drew ?_)) <;> (first | omega | (simp <;> omega)))) (hb4.mono (by first | omega | (simp <;> omega)))
  clear c3_0 c3_1 l3_0a l3_0b l3_0c l3_0d hkw1_3 hkw2_3 hB3 hb4
  go_wp2_with fail
  refine wp_name ?_
  intro w5 hW5
  have hB5 : Below w.heap.size w w5 := by rw [hW5.out]; exact (by first | exact hB4 | ((repeat' (first | exact hB4 | refine Below.setCell ?_ ?_ _ | refine Below.alloc ?_ ?_ _ | refine Below.drew ?_)) <;> (first | omega | (simp <;> omega))))
  have hs5 : w.heap.size ≤ w5.heap.size := hB5.size
  have ht5 := congrArg (fun x : World => x.heap.size) hW5.out
  try simp only [World.size_alloc, World.size_setCell] at ht5
  have c5_0 : w5.cell? ⟨w.heap.size, 0, none⟩ = some (.int .i64 p.1) := by rw [hW5.out]; first | exact c4_0 | simp [go_sem, c4_0, l4_0a, l4_0b, l4_0c, l4_0d]
  have c5_1 : w5.cell? ⟨w.heap.size, 1, none⟩ = some (.int .i64 p.2) := by rw [hW5.out]; first | exact c4_1 | simp [go_sem, c4_1, l4_0a, l4_0b, l4_0c, l4_0d]
  have l5_0a : w.heap.size < w5.heap.size := World.block_lt_of_cell? w5 _ c5_0
  have l5_0b : w.heap.size < w5.heap.size + 1 := Nat.lt_succ_of_lt l5_0a
  have l5_0c : w.heap.size < w5.heap.size + 1 + 1 := Nat.lt_succ_of_lt l5_0b
  have l5_0d : w.heap.size < w5.heap.size + 1 + 1 + 1 := Nat.lt_succ_of_lt l5_0c
  have hkw1_5 : Below w1.heap.size w1 w5 := by rw [hW5.out]; exact (by first | exact hkw1_4 | ((repeat' (first | exact hkw1_4 | refine Below.setCell ?_ ?_ _ | refine Below.alloc ?_ ?_ _ | refine Below.drew ?_)) <;> (first | omega | (simp <;> omega))))
  have hkw2_5 : Below w2.heap.size w2 w5 := by rw [hW5.out]; exact (by first | exact hkw2_4 | ((repeat' (first | exact hkw2_4 | refine Below.setCell ?_ ?_ _ | refine Below.alloc ?_ ?_ _ | refine Below.drew ?_)) <;> (first | omega | (simp <;> omega))))
  have hu5 := Nat.le_of_eq ht5
  have hv5 := Nat.le_of_eq ht5.symm
  clear ht5 c4_0 c4_1 l4_0a l4_0b l4_0c l4_0d hkw1_4 hkw2_4 hB4 hW5
  exact HR.out _ _ (TImid.mk k (by kernel_rfl) ⟨HK.out, hB5, c5_0, c5_1⟩)
set_option maxRecDepth 100000 in
set_option maxHeartbeats 8000000 in
theorem treeIs_4a (A : Option Addr) (l : List Pf) (c : Nat) (p : Pf) (a : Int) (hm : l.length ≤ maxLen) (w : World) (hg : ErrVar w) (hl : Rd w w.heap.size A (cellsP l)) (ht : treeFault l ≠ 0) (Q : Exit → Act → World → Prop) (s0 : Act) (w0 : World) (h0 : TImid A l c p a w s0 w0)
    (h : ∀ a' w', TImid A l c p a w a' w' → (tailN 8 (tailN 5 (tailN 5 (tailN 4 (Tryd.f5.body.getD .skip))))).wp Tryd.prog Q a' w') :
    (tailN 5 (tailN 5 (tailN 4 (Tryd.f5.body.getD .skip)))).wp Tryd.prog Q s0 w0 := by
  have HG := Lib.hid hg
  clear hg
  have hz : (treeFault l == 0) = false := by simpa using ht
  have HE := Lib.hid (findFault_tree (a := a) ht)
  have HP := Lib.hid (show findFault l a ≠ 0 by rw [HE.out]; exact ht)
  have HT := Lib.hid ht
  clear ht
  obtain ⟨U, k, rfl, hk, hB0, c0_0, c0_1⟩ := h0
  subst hk
  refine wp_cut 8 (TImid A l c p a w) (by rfl) ?_ h
  clear h
  intro r HR
  dsimp only [Tryd.f5, Option.getD, tailN, putN]
  have hs0 := hB0.size
  have l0_0a : w.heap.size < w0.heap.size := World.block_lt_of_cell? w0 _ c0_0
  have l0_0b : w.heap.size < w0.heap.size + 1 := Nat.lt_succ_of_lt l0_0a
  have l0_0c : w.heap.size < w0.heap.size + 1 + 1 := Nat.lt_succ_of_lt l0_0b
  have l0_0d : w.heap.size < w0.heap.size + 1 + 1 + 1 := Nat.lt_succ_of_lt l0_0c
  go_wp2_with fail
  refine (refIs_b a _).mono ?_
  rintro e w1 ⟨rfl, hb1⟩
  have hB1 : Below w.heap.size w w1 := Below.trans (by first | exact hB0 | ((repeat' (first | exact hB0 | refine Below.setCell ?_ ?_ _ | refine Below.alloc ?_ ?_ _ | refine Below.drew ?_)) <;> (first | omega | (simp <;> omega)))) (hb1.mono (by first | omega | (simp <;> omega)))
  have hs1 : w.heap.size ≤ w1.heap.size := hB1.size
  have ht1 := hb1.size
  try simp only [World.size_alloc, World.size_setCell] at ht1
  have c1_0 : w1.cell? ⟨w.heap.size, 0, none⟩ = some (.int .i64 p.1) := (hb1.cell (p := ⟨w.heap.size, 0, none⟩) (by first | omega | (simp <;> omega))).trans (by first | exact c0_0 | simp [go_sem, c0_0, l0_0a, l0_0b, l0_0c, l0_0d])
  have c1_1 : w1.cell? ⟨w.heap.size, 1, none⟩ = some (.int .i64 p.2) := (hb1.cell (p := ⟨w.heap.size, 1, none⟩) (by first | omega | (simp <;> omega))).trans (by first | exact c0_1 | simp [go_sem, c0_1, l0_0a, l0_0b, l0_0c, l0_0d])
  have c1_2 : w1.cell? ⟨w0.heap.size, 0, none⟩ = some (.int .i64 0) := (hb1.cell (p := ⟨w0.heap.size, 0, none⟩) (by first | omega | (simp <;> omega))).trans (by first | (simp; done) | simp [go_sem, l0_0a, l0_0b, l0_0c, l0_0d, c0_0, c0_1])
  have fc1_2 : w1.frozen? ⟨w0.heap.size, 0, none⟩ = false := (hb1.frozen (p := ⟨w0.heap.size, 0, none⟩) (by first | omega | (simp <;> omega))).trans (by first | (simp; done) | simp [go_sem, l0_0a, l0_0b, l0_0c, l0_0d, c0_0, c0_1])
  have c1_3 : w1.cell? ⟨w0.heap.size, 1, none⟩ = some (.int .i64 0) := (hb1.cell (p := ⟨w0.heap.size, 1, none⟩) (by first | omega | (simp <;> omega))).trans (by first | (simp; done) | simp [go_sem, l0_0a, l0_0b, l0_0c, l0_0d, c0_0, c0_1])
  have fc1_3 : w1.frozen? ⟨w0.heap.size, 1, none⟩ = false := (hb1.frozen (p := ⟨w0.heap.size, 1, none⟩) (by first | omega | (simp <;> omega))).trans (by first | (simp; done) | simp [go_sem, l0_0a, l0_0b, l0_0c, l0_0d, c0_0, c0_1])
  have l1_0a : w.heap.size < w1.heap.size := World.block_lt_of_cell? w1 _ c1_0
  have l1_0b : w.heap.size < w1.heap.size + 1 := Nat.lt_succ_of_lt l1_0a
  have l1_0c : w.heap.size < w1.heap.size + 1 + 1 := Nat.lt_succ_of_lt l1_0b
  have l1_0d : w.heap.size < w1.heap.size + 1 + 1 + 1 := Nat.lt_succ_of_lt l1_0c
  have l1_1a : w0.heap.size < w1.heap.size := World.block_lt_of_cell? w1 _ c1_2
  have l1_1b : w0.heap.size < w1.heap.size + 1 := Nat.lt_succ_of_lt l1_1a
  have l1_1c : w0.heap.size < w1.heap.size + 1 + 1 := Nat.lt_succ_of_lt l1_1b
  have l1_1d : w0.heap.size < w1.heap.size + 1 + 1 + 1 := Nat.lt_succ_of_lt l1_1c
  have n1_1_0 : w0.heap.size ≠ w.heap.size := by omega
  have m1_1_0 : w.heap.size ≠ w0.heap.size := by omega
  clear c0_0 c0_1 l0_0a l0_0b l0_0c l0_0d hB0 hb1
  go_wp2_with fail
  refine (find_bad A l c a hm HP.out _ ((hl.below (show Below w.heap.size w _ from (by first | exact hB1 | ((repeat' (first | exact hB1 | refine Below.setCell ?_ ?_ _ | refine Below.alloc ?_ ?_ _ | refine Below.drew ?_)) <;> (first | omega | (simp <;> omega)))))).more (show w.heap.size ≤ _ from by first | omega | (simp <;> omega)))).mono ?_
  rintro e w2 ⟨rfl, hb2⟩
  have hB2 : Below w.heap.size w w2 := Below.trans (by first | exact hB1 | ((repeat' (first | exact hB1 | refine Below.setCell ?_ ?_ _ | refine Below.alloc ?_ ?_ _ | refine Below.drew ?_)) <;> (first | omega | (simp <;> omega)))) (hb2.mono (by first | omega | (simp <;> omega)))
  have hs2 : w.heap.size ≤ w2.heap.size := hB2.size
  have ht2 := hb2.size
  try simp only [World.size_alloc, World.size_setCell] at ht2
  have c2_0 : w2.cell? ⟨w.heap.size, 0, none⟩ = some (.int .i64 p.1) := (hb2.cell (p := ⟨w.heap.size, 0, none⟩) (by first | omega | (simp <;> omega))).trans (by first | exact c1_0 | simp [go_sem, c1_0, l1_0a, l1_0b, l1_0c, l1_0d, l1_1a, l1_1b, l1_1c, l1_1d, n1_1_0, m1_1_0])
  have c2_1 : w2.cell? ⟨w.heap.size, 1, none⟩ = some (.int .i64 p.2) := (hb2.cell (p := ⟨w.heap.size, 1, none⟩) (by first | omega | (simp <;> omega))).trans (by first | exact c1_1 | simp [go_sem, c1_1, l1_0a, l1_0b, l1_0c, l1_0d, l1_1a, l1_1b, l1_1c, l1_1d, n1_1_0, m1_1_0])
  have c2_2 : w2.cell? ⟨w0.heap.size, 0, none⟩ = some (.int .i64 0) := (hb2.cell (p := ⟨w0.heap.size, 0, none⟩) (by first | omega | (simp <;> omega))).trans (by first | exact c1_2 | simp [go_sem, c1_2, l1_0a, l1_0b, l1_0c, l1_0d, l1_1a, l1_1b, l1_1c, l1_1d, n1_1_0, m1_1_0])
  have fc2_2 : w2.frozen? ⟨w0.heap.size, 0, none⟩ = false := (hb2.frozen (p := ⟨w0.heap.size, 0, none⟩) (by first | omega | (simp <;> omega))).trans (by first | exact fc1_2 | simp [go_sem, fc1_2, l1_0a, l1_0b, l1_0c, l1_0d, l1_1a, l1_1b, l1_1c, l1_1d, n1_1_0, m1_1_0])
  have c2_3 : w2.cell? ⟨w0.heap.size, 1, none⟩ = some (.int .i64 0) := (hb2.cell (p := ⟨w0.heap.size, 1, none⟩) (by first | omega | (simp <;> omega))).trans (by first | exact c1_3 | simp [go_sem, c1_3, l1_0a, l1_0b, l1_0c, l1_0d, l1_1a, l1_1b, l1_1c, l1_1d, n1_1_0, m1_1_0])
  have fc2_3 : w2.frozen? ⟨w0.heap.size, 1, none⟩ = false := (hb2.frozen (p := ⟨w0.heap.size, 1, none⟩) (by first | omega | (simp <;> omega))).trans (by first | exact fc1_3 | simp [go_sem, fc1_3, l1_0a, l1_0b, l1_0c, l1_0d, l1_1a, l1_1b, l1_1c, l1_1d, n1_1_0, m1_1_0])
  have l2_0a : w.heap.size < w2.heap.size := World.block_lt_of_cell? w2 _ c2_0
  have l2_0b : w.heap.size < w2.heap.size + 1 := Nat.lt_succ_of_lt l2_0a
  have l2_0c : w.heap.size < w2.heap.size + 1 + 1 := Nat.lt_succ_of_lt l2_0b
  have l2_0d : w.heap.size < w2.heap.size + 1 + 1 + 1 := Nat.lt_succ_of_lt l2_0c
  have l2_1a : w0.heap.size < w2.heap.size := World.block_lt_of_cell? w2 _ c2_2
  have l2_1b : w0.heap.size < w2.heap.size + 1 := Nat.lt_succ_of_lt l2_1a
  have l2_1c : w0.heap.size < w2.heap.size + 1 + 1 := Nat.lt_succ_of_lt l2_1b
  have l2_1d : w0.heap.size < w2.heap.size + 1 + 1 + 1 := Nat.lt_succ_of_lt l2_1c
  have n2_1_0 : w0.heap.size ≠ w.heap.size := by omega
  have m2_1_0 : w.heap.size ≠ w0.heap.size := by omega
  clear c1_0 c1_1 c1_2 c1_3 fc1_2 fc1_3 l1_0a l1_0b l1_0c l1_0d l1_1a l1_1b l1_1c l1_1d n1_1_0 m1_1_0 hB1 hb2
  rw [HE.out]
  go_wp2_with fail
  refine (error_same _ HT.out _ (by exact HG.out.belowB (show Below w.heap.size w _ from (by first | exact hB2 | ((repeat' (first | exact hB2 | refine Below.setCell ?_ ?_ _ | refine Below.alloc ?_ ?_ _ | refine Below.drew ?_)) <;> (first | omega | (simp <;> omega))))) HG.out.lt)).mono ?_
  rintro e w3 ⟨rfl, hb3⟩
  have hB3 : Below w.heap.size w w3 := Below.trans (by first | exact hB2 | ((repeat' (first | exact hB2 | refine Below.setCell ?_ ?_ _ | refine Below.alloc ?_ ?_ _ | refine Below.drew ?_)) <;> (first | omega | (simp <;> omega)))) (hb3.mono (by first | omega | (simp <;> omega)))
  have hs3 : w.heap.size ≤ w3.heap.size := hB3.size
  have ht3 := hb3.size
  try simp only [World.size_alloc, World.size_setCell] at ht3
  have c3_0 : w3.cell? ⟨w.heap.size, 0, none⟩ = some (.int .i64 p.1) := (hb3.cell (p := ⟨w.heap.size, 0, none⟩) (by first | omega | (simp <;> omega))).trans (by first | exact c2_0 | simp [go_sem, c2_0, l2_0a, l2_0b, l2_0c, l2_0d, l2_1a, l2_1b, l2_1c, l2_1d, n2_1_0, m2_1_0])
  have c3_1 : w3.cell? ⟨w.heap.size, 1, none⟩ = some (.int .i64 p.2) := (hb3.cell (p := ⟨w.heap.size, 1, none⟩) (by first | omega | (simp <;> omega))).trans (by first | exact c2_1 | simp [go_sem, c2_1, l2_0a, l2_0b, l2_0c, l2_0d, l2_1a, l2_1b, l2_1c, l2_1d, n2_1_0, m2_1_0])
  have c3_2 : w3.cell? ⟨w0.heap.size, 0, none⟩ = some (.int .i64 0) := (hb3.cell (p := ⟨w0.heap.size, 0, none⟩) (by first | omega | (simp <;> omega))).trans (by first | exact c2_2 | simp [go_sem, c2_2, l2_0a, l2_0b, l2_0c, l2_0d, l2_1a, l2_1b, l2_1c, l2_1d, n2_1_0, m2_1_0])
  have fc3_2 : w3.frozen? ⟨w0.heap.size, 0, none⟩ = false := (hb3.frozen (p := ⟨w0.heap.size, 0, none⟩) (by first | omega | (simp <;> omega))).trans (by first | exact fc2_2 | simp [go_sem, fc2_2, l2_0a, l2_0b, l2_0c, l2_0d, l2_1a, l2_1b, l2_1c, l2_1d, n2_1_0, m2_1_0])
  have c3_3 : w3.cell? ⟨w0.heap.size, 1, none⟩ = some (.int .i64 0) := (hb3.cell (p := ⟨w0.heap.size, 1, none⟩) (by first | omega | (simp <;> omega))).trans (by first | exact c2_3 | simp [go_sem, c2_3, l2_0a, l2_0b, l2_0c, l2_0d, l2_1a, l2_1b, l2_1c, l2_1d, n2_1_0, m2_1_0])
  have fc3_3 : w3.frozen? ⟨w0.heap.size, 1, none⟩ = false := (hb3.frozen (p := ⟨w0.heap.size, 1, none⟩) (by first | omega | (simp <;> omega))).trans (by first | exact fc2_3 | simp [go_sem, fc2_3, l2_0a, l2_0b, l2_0c, l2_0d, l2_1a, l2_1b, l2_1c, l2_1d, n2_1_0, m2_1_0])
  have c3_4 : w3.cell? ⟨w2.heap.size, 0, none⟩ = some (.int .i64 0) := (hb3.cell (p := ⟨w2.heap.size, 0, none⟩) (by first | omega | (simp <;> omega))).trans (by first | (simp; done) | simp [go_sem, l2_0a, l2_0b, l2_0c, l2_0d, l2_1a, l2_1b, l2_1c, l2_1d, n2_1_0, m2_1_0, c2_0, c2_1, c2_2, c2_3, fc2_2, fc2_3])
  have c3_5 : w3.cell? ⟨w2.heap.size, 1, none⟩ = some (.int .i64 0) := (hb3.cell (p := ⟨w2.heap.size, 1, none⟩) (by first | omega | (simp <;> omega))).trans (by first | (simp; done) | simp [go_sem, l2_0a, l2_0b, l2_0c, l2_0d, l2_1a, l2_1b, l2_1c, l2_1d, n2_1_0, m2_1_0, c2_0, c2_1, c2_2, c2_3, fc2_2, fc2_3])
  have l3_0a : w.heap.size < w3.heap.size := World.block_lt_of_cell? w3 _ c3_0
  have l3_0b : w.heap.size < w3.heap.size + 1 := Nat.lt_succ_of_lt l3_0a
  have l3_0c : w.heap.size < w3.heap.size + 1 + 1 := Nat.lt_succ_of_lt l3_0b
  have l3_0d : w.heap.size < w3.heap.size + 1 + 1 + 1 := Nat.lt_succ_of_lt l3_0c
  have l3_1a : w0.heap.size < w3.heap.size := World.block_lt_of_cell? w3 _ c3_2
  have l3_1b : w0.heap.size < w3.heap.size + 1 := Nat.lt_succ_of_lt l3_1a
  have l3_1c : w0.heap.size < w3.heap.size + 1 + 1 := Nat.lt_succ_of_lt l3_1b
  have l3_1d : w0.heap.size < w3.heap.size + 1 + 1 + 1 := Nat.lt_succ_of_lt l3_1c
  have l3_2a : w2.heap.size < w3.heap.size := World.block_lt_of_cell? w3 _ c3_4
  have l3_2b : w2.heap.size < w3.heap.size + 1 := Nat.lt_succ_of_lt l3_2a
  have l3_2c : w2.heap.size < w3.heap.size + 1 + 1 := Nat.lt_succ_of_lt l3_2b
  have l3_2d : w2.heap.size < w3.heap.size + 1 + 1 + 1 := Nat.lt_succ_of_lt l3_2c
  have n3_1_0 : w0.heap.size ≠ w.heap.size := by omega
  have m3_1_0 : w.heap.size ≠ w0.heap.size := by omega
  have n3_1_2 : w0.heap.size ≠ w2.heap.size := by omega
  have m3_1_2 : w2.heap.size ≠ w0.heap.size := by omega
  clear c2_0 c2_1 c2_2 c2_3 fc2_2 fc2_3 l2_0a l2_0b l2_0c l2_0d l2_1a l2_1b l2_1c l2_1d n2_1_0 m2_1_0 hB2 hb3
  go_wp2_with fail
  refine wp_name ?_
  intro w4 hW4
  have hB4 : Below w.heap.size w w4 := by rw [hW4.out]; exact (by first | exact hB3 | ((repeat' (first | exact hB3 | refine Below.setCell ?_ ?_ _ | refine Below.alloc ?_ ?_ _ | refine Below.drew ?_)) <;> (first | omega | (simp <;> omega))))
  have hs4 : w.heap.size ≤ w4.heap.size := hB4.size
  have ht4 := congrArg (fun x : World => x.heap.size) hW4.out
  try simp only [World.size_alloc, World.size_setCell] at ht4
  have c4_0 : w4.cell? ⟨w.heap.size, 0, none⟩ = some (.int .i64 p.1) := by rw [hW4.out]; first | exact c3_0 | simp [go_sem, c3_0, l3_0a, l3_0b, l3_0c, l3_0d, l3_1a, l3_1b, l3_1c, l3_1d, l3_2a, l3_2b, l3_2c, l3_2d, n3_1_0, m3_1_0, n3_1_2, m3_1_2]
  have c4_1 : w4.cell? ⟨w.heap.size, 1, none⟩ = some (.int .i64 p.2) := by rw [hW4.out]; first | exact c3_1 | simp [go_sem, c3_1, l3_0a, l3_0b, l3_0c, l3_0d, l3_1a, l3_1b, l3_1c, l3_1d, l3_2a, l3_2b, l3_2c, l3_2d, n3_1_0, m3_1_0, n3_1_2, m3_1_2]
  have c4_2 : w4.cell? ⟨w0.heap.size, 0, none⟩ = some (.int .i64 0) := by rw [hW4.out]; first | exact c3_2 | simp [go_sem, c3_2, l3_0a, l3_0b, l3_0c, l3_0d, l3_1a, l3_1b, l3_1c, l3_1d, l3_2a, l3_2b, l3_2c, l3_2d, n3_1_0, m3_1_0, n3_1_2, m3_1_2]
  have fc4_2 : w4.frozen? ⟨w0.heap.size, 0, none⟩ = false := by rw [hW4.out]; first | exact fc3_2 | simp [go_sem, fc3_2, l3_0a, l3_0b, l3_0c, l3_0d, l3_1a, l3_1b, l3_1c, l3_1d, l3_2a, l3_2b, l3_2c, l3_2d, n3_1_0, m3_1_0, n3_1_2, m3_1_2]
  have c4_3 : w4.cell? ⟨w0.heap.size, 1, none⟩ = some (.int .i64 0) := by rw [hW4.out]; first | exact c3_3 | simp [go_sem, c3_3, l3_0a, l3_0b, l3_0c, l3_0d, l3_1a, l3_1b, l3_1c, l3_1d, l3_2a, l3_2b, l3_2c, l3_2d, n3_1_0, m3_1_0, n3_1_2, m3_1_2]
  have fc4_3 : w4.frozen? ⟨w0.heap.size, 1, none⟩ = false := by rw [hW4.out]; first | exact fc3_3 | simp [go_sem, fc3_3, l3_0a, l3_0b, l3_0c, l3_0d, l3_1a, l3_1b, l3_1c, l3_1d, l3_2a, l3_2b, l3_2c, l3_2d, n3_1_0, m3_1_0, n3_1_2, m3_1_2]
  have c4_4 : w4.cell? ⟨w2.heap.size, 0, none⟩ = some (.int .i64 0) := by rw [hW4.out]; first | exact c3_4 | simp [go_sem, c3_4, l3_0a, l3_0b, l3_0c, l3_0d, l3_1a, l3_1b, l3_1c, l3_1d, l3_2a, l3_2b, l3_2c, l3_2d, n3_1_0, m3_1_0, n3_1_2, m3_1_2]
  have c4_5 : w4.cell? ⟨w2.heap.size, 1, none⟩ = some (.int .i64 0) := by rw [hW4.out]; first | exact c3_5 | simp [go_sem, c3_5, l3_0a, l3_0b, l3_0c, l3_0d, l3_1a, l3_1b, l3_1c, l3_1d, l3_2a, l3_2b, l3_2c, l3_2d, n3_1_0, m3_1_0, n3_1_2, m3_1_2]
  have l4_0a : w.heap.size < w4.heap.size := World.block_lt_of_cell? w4 _ c4_0
  have l4_0b : w.heap.size < w4.heap.size + 1 := Nat.lt_succ_of_lt l4_0a
  have l4_0c : w.heap.size < w4.heap.size + 1 + 1 := Nat.lt_succ_of_lt l4_0b
  have l4_0d : w.heap.size < w4.heap.size + 1 + 1 + 1 := Nat.lt_succ_of_lt l4_0c
  have l4_1a : w0.heap.size < w4.heap.size := World.block_lt_of_cell? w4 _ c4_2
  have l4_1b : w0.heap.size < w4.heap.size + 1 := Nat.lt_succ_of_lt l4_1a
  have l4_1c : w0.heap.size < w4.heap.size + 1 + 1 := Nat.lt_succ_of_lt l4_1b
  have l4_1d : w0.heap.size < w4.heap.size + 1 + 1 + 1 := Nat.lt_succ_of_lt l4_1c
  have l4_2a : w2.heap.size < w4.heap.size := World.block_lt_of_cell? w4 _ c4_4
  have l4_2b : w2.heap.size < w4.heap.size + 1 := Nat.lt_succ_of_lt l4_2a
  have l4_2c : w2.heap.size < w4.heap.size + 1 + 1 := Nat.lt_succ_of_lt l4_2b
  have l4_2d : w2.heap.size < w4.heap.size + 1 + 1 + 1 := Nat.lt_succ_of_lt l4_2c
  have n4_1_0 : w0.heap.size ≠ w.heap.size := by omega
  have m4_1_0 : w.heap.size ≠ w0.heap.size := by omega
  have n4_1_2 : w0.heap.size ≠ w2.heap.size := by omega
  have m4_1_2 : w2.heap.size ≠ w0.heap.size := by omega
  have hu4 := Nat.le_of_eq ht4
  have hv4 := Nat.le_of_eq ht4.symm
  clear ht4 c3_0 c3_1 c3_2 c3_3 c3_4 c3_5 fc3_2 fc3_3 l3_0a l3_0b l3_0c l3_0d l3_1a l3_1b l3_1c l3_1d l3_2a l3_2b l3_2c l3_2d n3_1_0 m3_1_0 n3_1_2 m3_1_2 hB3 hW4
  exact HR.out _ _ (TImid.mk (treeFault l) (by kernel_rfl) ⟨rfl, hB4, c4_0, c4_1⟩)
set_option maxRecDepth 100000 in
set_option maxHeartbeats 8000000 in
theorem treeIs_4b (A : Option Addr) (l : List Pf) (c : Nat) (p : Pf) (a : Int) (hm : l.length ≤ maxLen) (w : World) (hg : ErrVar w) (hl : Rd w w.heap.size A (cellsP l)) (ht : treeFault l = 0) (ha : isA a = false) (Q : Exit → Act → World → Prop) (s0 : Act) (w0 : World) (h0 : TImid A l c p a w s0 w0)
    (h : ∀ a' w', TImid A l c p a w a' w' → (tailN 8 (tailN 5 (tailN 5 (tailN 4 (Tryd.f5.body.getD .skip))))).wp Tryd.prog Q a' w') :
    (tailN 5 (tailN 5 (tailN 4 (Tryd.f5.body.getD .skip)))).wp Tryd.prog Q s0 w0 := by
  have HG := Lib.hid hg
  clear hg
  have HE := Lib.hid (findFault_range ht ha)
  have HP := Lib.hid (show findFault l a ≠ 0 by rw [HE.out]; decide)
  have HT := Lib.hid ht
  have HA := Lib.hid ha
  clear ht ha
  obtain ⟨U, k, rfl, hk, hB0, c0_0, c0_1⟩ := h0
  obtain rfl : k = 0 := hk.trans HT.out
  clear hk
  refine wp_cut 8 (TImid A l c p a w) (by rfl) ?_ h
  clear h
  intro r HR
  dsimp only [Tryd.f5, Option.getD, tailN, putN]
  have hs0 := hB0.size
  have l0_0a : w.heap.size < w0.heap.size := World.block_lt_of_cell? w0 _ c0_0
  have l0_0b : w.heap.size < w0.heap.size + 1 := Nat.lt_succ_of_lt l0_0a
  have l0_0c : w.heap.size < w0.heap.size + 1 + 1 := Nat.lt_succ_of_lt l0_0b
  have l0_0d : w.heap.size < w0.heap.size + 1 + 1 + 1 := Nat.lt_succ_of_lt l0_0c
  go_wp2_with fail
  refine (refIs_b a _).mono ?_
  rintro e w1 ⟨rfl, hb1⟩
  have hB1 : Below w.heap.size w w1 := Below.trans (by first | exact hB0 | ((repeat' (first | exact hB0 | refine Below.setCell ?_ ?_ _ | refine Below.alloc ?_ ?_ _ | refine Below.drew ?_)) <;> (first | omega | (simp <;> omega)))) (hb1.mono (by first | omega | (simp <;> omega)))
  have hs1 : w.heap.size ≤ w1.heap.size := hB1.size
  have ht1 := hb1.size
  try simp only [World.size_alloc, World.size_setCell] at ht1
  have c1_0 : w1.cell? ⟨w.heap.size, 0, none⟩ = some (.int .i64 p.1) := (hb1.cell (p := ⟨w.heap.size, 0, none⟩) (by first | omega | (simp <;> omega))).trans (by first | exact c0_0 | simp [go_sem, c0_0, l0_0a, l0_0b, l0_0c, l0_0d])
  have c1_1 : w1.cell? ⟨w.heap.size, 1, none⟩ = some (.int .i64 p.2) := (hb1.cell (p := ⟨w.heap.size, 1, none⟩) (by first | omega | (simp <;> omega))).trans (by first | exact c0_1 | simp [go_sem, c0_1, l0_0a, l0_0b, l0_0c, l0_0d])
  have c1_2 : w1.cell? ⟨w0.heap.size, 0, none⟩ = some (.int .i64 0) := (hb1.cell (p := ⟨w0.heap.size, 0, none⟩) (by first | omega | (simp <;> omega))).trans (by first | (simp; done) | simp [go_sem, l0_0a, l0_0b, l0_0c, l0_0d, c0_0, c0_1])
  have fc1_2 : w1.frozen? ⟨w0.heap.size, 0, none⟩ = false := (hb1.frozen (p := ⟨w0.heap.size, 0, none⟩) (by first | omega | (simp <;> omega))).trans (by first | (simp; done) | simp [go_sem, l0_0a, l0_0b, l0_0c, l0_0d, c0_0, c0_1])
  have c1_3 : w1.cell? ⟨w0.heap.size, 1, none⟩ = some (.int .i64 0) := (hb1.cell (p := ⟨w0.heap.size, 1, none⟩) (by first | omega | (simp <;> omega))).trans (by first | (simp; done) | simp [go_sem, l0_0a, l0_0b, l0_0c, l0_0d, c0_0, c0_1])
  have fc1_3 : w1.frozen? ⟨w0.heap.size, 1, none⟩ = false := (hb1.frozen (p := ⟨w0.heap.size, 1, none⟩) (by first | omega | (simp <;> omega))).trans (by first | (simp; done) | simp [go_sem, l0_0a, l0_0b, l0_0c, l0_0d, c0_0, c0_1])
  have l1_0a : w.heap.size < w1.heap.size := World.block_lt_of_cell? w1 _ c1_0
  have l1_0b : w.heap.size < w1.heap.size + 1 := Nat.lt_succ_of_lt l1_0a
  have l1_0c : w.heap.size < w1.heap.size + 1 + 1 := Nat.lt_succ_of_lt l1_0b
  have l1_0d : w.heap.size < w1.heap.size + 1 + 1 + 1 := Nat.lt_succ_of_lt l1_0c
  have l1_1a : w0.heap.size < w1.heap.size := World.block_lt_of_cell? w1 _ c1_2
  have l1_1b : w0.heap.size < w1.heap.size + 1 := Nat.lt_succ_of_lt l1_1a
  have l1_1c : w0.heap.size < w1.heap.size + 1 + 1 := Nat.lt_succ_of_lt l1_1b
  have l1_1d : w0.heap.size < w1.heap.size + 1 + 1 + 1 := Nat.lt_succ_of_lt l1_1c
  have n1_1_0 : w0.heap.size ≠ w.heap.size := by omega
  have m1_1_0 : w.heap.size ≠ w0.heap.size := by omega
  clear c0_0 c0_1 l0_0a l0_0b l0_0c l0_0d hB0 hb1
  rw [HA.out]
  go_wp2_with fail
  refine (find_bad A l c a hm HP.out _ ((hl.below (show Below w.heap.size w _ from (by first | exact hB1 | ((repeat' (first | exact hB1 | refine Below.setCell ?_ ?_ _ | refine Below.alloc ?_ ?_ _ | refine Below.drew ?_)) <;> (first | omega | (simp <;> omega)))))).more (show w.heap.size ≤ _ from by first | omega | (simp <;> omega)))).mono ?_
  rintro e w2 ⟨rfl, hb2⟩
  have hB2 : Below w.heap.size w w2 := Below.trans (by first | exact hB1 | ((repeat' (first | exact hB1 | refine Below.setCell ?_ ?_ _ | refine Below.alloc ?_ ?_ _ | refine Below.drew ?_)) <;> (first | omega | (simp <;> omega)))) (hb2.mono (by first | omega | (simp <;> omega)))
  have hs2 : w.heap.size ≤ w2.heap.size := hB2.size
  have ht2 := hb2.size
  try simp only [World.size_alloc, World.size_setCell] at ht2
  have c2_0 : w2.cell? ⟨w.heap.size, 0, none⟩ = some (.int .i64 p.1) := (hb2.cell (p := ⟨w.heap.size, 0, none⟩) (by first | omega | (simp <;> omega))).trans (by first | exact c1_0 | simp [go_sem, c1_0, l1_0a, l1_0b, l1_0c, l1_0d, l1_1a, l1_1b, l1_1c, l1_1d, n1_1_0, m1_1_0])
  have c2_1 : w2.cell? ⟨w.heap.size, 1, none⟩ = some (.int .i64 p.2) := (hb2.cell (p := ⟨w.heap.size, 1, none⟩) (by first | omega | (simp <;> omega))).trans (by first | exact c1_1 | simp [go_sem, c1_1, l1_0a, l1_0b, l1_0c, l1_0d, l1_1a, l1_1b, l1_1c, l1_1d, n1_1_0, m1_1_0])
  have c2_2 : w2.cell? ⟨w0.heap.size, 0, none⟩ = some (.int .i64 0) := (hb2.cell (p := ⟨w0.heap.size, 0, none⟩) (by first | omega | (simp <;> omega))).trans (by first | exact c1_2 | simp [go_sem, c1_2, l1_0a, l1_0b, l1_0c, l1_0d, l1_1a, l1_1b, l1_1c, l1_1d, n1_1_0, m1_1_0])
  have fc2_2 : w2.frozen? ⟨w0.heap.size, 0, none⟩ = false := (hb2.frozen (p := ⟨w0.heap.size, 0, none⟩) (by first | omega | (simp <;> omega))).trans (by first | exact fc1_2 | simp [go_sem, fc1_2, l1_0a, l1_0b, l1_0c, l1_0d, l1_1a, l1_1b, l1_1c, l1_1d, n1_1_0, m1_1_0])
  have c2_3 : w2.cell? ⟨w0.heap.size, 1, none⟩ = some (.int .i64 0) := (hb2.cell (p := ⟨w0.heap.size, 1, none⟩) (by first | omega | (simp <;> omega))).trans (by first | exact c1_3 | simp [go_sem, c1_3, l1_0a, l1_0b, l1_0c, l1_0d, l1_1a, l1_1b, l1_1c, l1_1d, n1_1_0, m1_1_0])
  have fc2_3 : w2.frozen? ⟨w0.heap.size, 1, none⟩ = false := (hb2.frozen (p := ⟨w0.heap.size, 1, none⟩) (by first | omega | (simp <;> omega))).trans (by first | exact fc1_3 | simp [go_sem, fc1_3, l1_0a, l1_0b, l1_0c, l1_0d, l1_1a, l1_1b, l1_1c, l1_1d, n1_1_0, m1_1_0])
  have l2_0a : w.heap.size < w2.heap.size := World.block_lt_of_cell? w2 _ c2_0
  have l2_0b : w.heap.size < w2.heap.size + 1 := Nat.lt_succ_of_lt l2_0a
  have l2_0c : w.heap.size < w2.heap.size + 1 + 1 := Nat.lt_succ_of_lt l2_0b
  have l2_0d : w.heap.size < w2.heap.size + 1 + 1 + 1 := Nat.lt_succ_of_lt l2_0c
  have l2_1a : w0.heap.size < w2.heap.size := World.block_lt_of_cell? w2 _ c2_2
  have l2_1b : w0.heap.size < w2.heap.size + 1 := Nat.lt_succ_of_lt l2_1a
  have l2_1c : w0.heap.size < w2.heap.size + 1 + 1 := Nat.lt_succ_of_lt l2_1b
  have l2_1d : w0.heap.size < w2.heap.size + 1 + 1 + 1 := Nat.lt_succ_of_lt l2_1c
  have n2_1_0 : w0.heap.size ≠ w.heap.size := by omega
  have m2_1_0 : w.heap.size ≠ w0.heap.size := by omega
  clear c1_0 c1_1 c1_2 c1_3 fc1_2 fc1_3 l1_0a l1_0b l1_0c l1_0d l1_1a l1_1b l1_1c l1_1d n1_1_0 m1_1_0 hB1 hb2
  rw [HE.out]
  go_wp2_with fail
  refine (error_same 1 (by decide) _ (by exact HG.out.belowB (show Below w.heap.size w _ from (by first | exact hB2 | ((repeat' (first | exact hB2 | refine Below.setCell ?_ ?_ _ | refine Below.alloc ?_ ?_ _ | refine Below.drew ?_)) <;> (first | omega | (simp <;> omega))))) HG.out.lt)).mono ?_
  rintro e w3 ⟨rfl, hb3⟩
  have hB3 : Below w.heap.size w w3 := Below.trans (by first | exact hB2 | ((repeat' (first | exact hB2 | refine Below.setCell ?_ ?_ _ | refine Below.alloc ?_ ?_ _ | refine Below.drew ?_)) <;> (first | omega | (simp <;> omega)))) (hb3.mono (by first | omega | (simp <;> omega)))
  have hs3 : w.heap.size ≤ w3.heap.size := hB3.size
  have ht3 := hb3.size
  try simp only [World.size_alloc, World.size_setCell] at ht3
  have c3_0 : w3.cell? ⟨w.heap.size, 0, none⟩ = some (.int .i64 p.1) := (hb3.cell (p := ⟨w.heap.size, 0, none⟩) (by first | omega | (simp <;> omega))).trans (by first | exact c2_0 | simp [go_sem, c2_0, l2_0a, l2_0b, l2_0c, l2_0d, l2_1a, l2_1b, l2_1c, l2_1d, n2_1_0, m2_1_0])
  have c3_1 : w3.cell? ⟨w.heap.size, 1, none⟩ = some (.int .i64 p.2) := (hb3.cell (p := ⟨w.heap.size, 1, none⟩) (by first | omega | (simp <;> omega))).trans (by first | exact c2_1 | simp [go_sem, c2_1, l2_0a, l2_0b, l2_0c, l2_0d, l2_1a, l2_1b, l2_1c, l2_1d, n2_1_0, m2_1_0])
  have c3_2 : w3.cell? ⟨w0.heap.size, 0, none⟩ = some (.int .i64 0) := (hb3.cell (p := ⟨w0.heap.size, 0, none⟩) (by first | omega | (simp <;> omega))).trans (by first | exact c2_2 | simp [go_sem, c2_2, l2_0a, l2_0b, l2_0c, l2_0d, l2_1a, l2_1b, l2_1c, l2_1d, n2_1_0, m2_1_0])
  have fc3_2 : w3.frozen? ⟨w0.heap.size, 0, none⟩ = false := (hb3.frozen (p := ⟨w0.heap.size, 0, none⟩) (by first | omega | (simp <;> omega))).trans (by first | exact fc2_2 | simp [go_sem, fc2_2, l2_0a, l2_0b, l2_0c, l2_0d, l2_1a, l2_1b, l2_1c, l2_1d, n2_1_0, m2_1_0])
  have c3_3 : w3.cell? ⟨w0.heap.size, 1, none⟩ = some (.int .i64 0) := (hb3.cell (p := ⟨w0.heap.size, 1, none⟩) (by first | omega | (simp <;> omega))).trans (by first | exact c2_3 | simp [go_sem, c2_3, l2_0a, l2_0b, l2_0c, l2_0d, l2_1a, l2_1b, l2_1c, l2_1d, n2_1_0, m2_1_0])
  have fc3_3 : w3.frozen? ⟨w0.heap.size, 1, none⟩ = false := (hb3.frozen (p := ⟨w0.heap.size, 1, none⟩) (by first | omega | (simp <;> omega))).trans (by first | exact fc2_3 | simp [go_sem, fc2_3, l2_0a, l2_0b, l2_0c, l2_0d, l2_1a, l2_1b, l2_1c, l2_1d, n2_1_0, m2_1_0])
  have c3_4 : w3.cell? ⟨w2.heap.size, 0, none⟩ = some (.int .i64 0) := (hb3.cell (p := ⟨w2.heap.size, 0, none⟩) (by first | omega | (simp <;> omega))).trans (by first | (simp; done) | simp [go_sem, l2_0a, l2_0b, l2_0c, l2_0d, l2_1a, l2_1b, l2_1c, l2_1d, n2_1_0, m2_1_0, c2_0, c2_1, c2_2, c2_3, fc2_2, fc2_3])
  have c3_5 : w3.cell? ⟨w2.heap.size, 1, none⟩ = some (.int .i64 0) := (hb3.cell (p := ⟨w2.heap.size, 1, none⟩) (by first | omega | (simp <;> omega))).trans (by first | (simp; done) | simp [go_sem, l2_0a, l2_0b, l2_0c, l2_0d, l2_1a, l2_1b, l2_1c, l2_1d, n2_1_0, m2_1_0, c2_0, c2_1, c2_2, c2_3, fc2_2, fc2_3])
  have l3_0a : w.heap.size < w3.heap.size := World.block_lt_of_cell? w3 _ c3_0
  have l3_0b : w.heap.size < w3.heap.size + 1 := Nat.lt_succ_of_lt l3_0a
  have l3_0c : w.heap.size < w3.heap.size + 1 + 1 := Nat.lt_succ_of_lt l3_0b
  have l3_0d : w.heap.size < w3.heap.size + 1 + 1 + 1 := Nat.lt_succ_of_lt l3_0c
  have l3_1a : w0.heap.size < w3.heap.size := World.block_lt_of_cell? w3 _ c3_2
  have l3_1b : w0.heap.size < w3.heap.size + 1 := Nat.lt_succ_of_lt l3_1a
  have l3_1c : w0.heap.size < w3.heap.size + 1 + 1 := Nat.lt_succ_of_lt l3_1b
  have l3_1d : w0.heap.size < w3.heap.size + 1 + 1 + 1 := Nat.lt_succ_of_lt l3_1c
  have l3_2a : w2.heap.size < w3.heap.size := World.block_lt_of_cell? w3 _ c3_4
  have l3_2b : w2.heap.size < w3.heap.size + 1 := Nat.lt_succ_of_lt l3_2a
  have l3_2c : w2.heap.size < w3.heap.size + 1 + 1 := Nat.lt_succ_of_lt l3_2b
  have l3_2d : w2.heap.size < w3.heap.size + 1 + 1 + 1 := Nat.lt_succ_of_lt l3_2c
  have n3_1_0 : w0.heap.size ≠ w.heap.size := by omega
  have m3_1_0 : w.heap.size ≠ w0.heap.size := by omega
  have n3_1_2 : w0.heap.size ≠ w2.heap.size := by omega
  have m3_1_2 : w2.heap.size ≠ w0.heap.size := by omega
  clear c2_0 c2_1 c2_2 c2_3 fc2_2 fc2_3 l2_0a l2_0b l2_0c l2_0d l2_1a l2_1b l2_1c l2_1d n2_1_0 m2_1_0 hB2 hb3
  go_wp2_with fail
  refine wp_name ?_
  intro w4 hW4
  have hB4 : Below w.heap.size w w4 := by rw [hW4.out]; exact (by first | exact hB3 | ((repeat' (first | exact hB3 | refine Below.setCell ?_ ?_ _ | refine Below.alloc ?_ ?_ _ | refine Below.drew ?_)) <;> (first | omega | (simp <;> omega))))
  have hs4 : w.heap.size ≤ w4.heap.size := hB4.size
  have ht4 := congrArg (fun x : World => x.heap.size) hW4.out
  try simp only [World.size_alloc, World.size_setCell] at ht4
  have c4_0 : w4.cell? ⟨w.heap.size, 0, none⟩ = some (.int .i64 p.1) := by rw [hW4.out]; first | exact c3_0 | simp [go_sem, c3_0, l3_0a, l3_0b, l3_0c, l3_0d, l3_1a, l3_1b, l3_1c, l3_1d, l3_2a, l3_2b, l3_2c, l3_2d, n3_1_0, m3_1_0, n3_1_2, m3_1_2]
  have c4_1 : w4.cell? ⟨w.heap.size, 1, none⟩ = some (.int .i64 p.2) := by rw [hW4.out]; first | exact c3_1 | simp [go_sem, c3_1, l3_0a, l3_0b, l3_0c, l3_0d, l3_1a, l3_1b, l3_1c, l3_1d, l3_2a, l3_2b, l3_2c, l3_2d, n3_1_0, m3_1_0, n3_1_2, m3_1_2]
  have c4_2 : w4.cell? ⟨w0.heap.size, 0, none⟩ = some (.int .i64 0) := by rw [hW4.out]; first | exact c3_2 | simp [go_sem, c3_2, l3_0a, l3_0b, l3_0c, l3_0d, l3_1a, l3_1b, l3_1c, l3_1d, l3_2a, l3_2b, l3_2c, l3_2d, n3_1_0, m3_1_0, n3_1_2, m3_1_2]
  have fc4_2 : w4.frozen? ⟨w0.heap.size, 0, none⟩ = false := by rw [hW4.out]; first | exact fc3_2 | simp [go_sem, fc3_2, l3_0a, l3_0b, l3_0c, l3_0d, l3_1a, l3_1b, l3_1c, l3_1d, l3_2a, l3_2b, l3_2c, l3_2d, n3_1_0, m3_1_0, n3_1_2, m3_1_2]
  have c4_3 : w4.cell? ⟨w0.heap.size, 1, none⟩ = some (.int .i64 0) := by rw [hW4.out]; first | exact c3_3 | simp [go_sem, c3_3, l3_0a, l3_0b, l3_0c, l3_0d, l3_1a, l3_1b, l3_1c, l3_1d, l3_2a, l3_2b, l3_2c, l3_2d, n3_1_0, m3_1_0, n3_1_2, m3_1_2]
  have fc4_3 : w4.frozen? ⟨w0.heap.size, 1, none⟩ = false := by rw [hW4.out]; first | exact fc3_3 | simp [go_sem, fc3_3, l3_0a, l3_0b, l3_0c, l3_0d, l3_1a, l3_1b, l3_1c, l3_1d, l3_2a, l3_2b, l3_2c, l3_2d, n3_1_0, m3_1_0, n3_1_2, m3_1_2]
  have c4_4 : w4.cell? ⟨w2.heap.size, 0, none⟩ = some (.int .i64 0) := by rw [hW4.out]; first | exact c3_4 | simp [go_sem, c3_4, l3_0a, l3_0b, l3_0c, l3_0d, l3_1a, l3_1b, l3_1c, l3_1d, l3_2a, l3_2b, l3_2c, l3_2d, n3_1_0, m3_1_0, n3_1_2, m3_1_2]
  have c4_5 : w4.cell? ⟨w2.heap.size, 1, none⟩ = some (.int .i64 0) := by rw [hW4.out]; first | exact c3_5 | simp [go_sem, c3_5, l3_0a, l3_0b, l3_0c, l3_0d, l3_1a, l3_1b, l3_1c, l3_1d, l3_2a, l3_2b, l3_2c, l3_2d, n3_1_0, m3_1_0, n3_1_2, m3_1_2]
  have l4_0a : w.heap.size < w4.heap.size := World.block_lt_of_cell? w4 _ c4_0
  have l4_0b : w.heap.size < w4.heap.size + 1 := Nat.lt_succ_of_lt l4_0a
  have l4_0c : w.heap.size < w4.heap.size + 1 + 1 := Nat.lt_succ_of_lt l4_0b
  have l4_0d : w.heap.size < w4.heap.size + 1 + 1 + 1 := Nat.lt_succ_of_lt l4_0c
  have l4_1a : w0.heap.size < w4.heap.size := World.block_lt_of_cell? w4 _ c4_2
  have l4_1b : w0.heap.size < w4.heap.size + 1 := Nat.lt_succ_of_lt l4_1a
  have l4_1c : w0.heap.size < w4.heap.size + 1 + 1 := Nat.lt_succ_of_lt l4_1b
  have l4_1d : w0.heap.size < w4.heap.size + 1 + 1 + 1 := Nat.lt_succ_of_lt l4_1c
  have l4_2a : w2.heap.size < w4.heap.size := World.block_lt_of_cell? w4 _ c4_4
  have l4_2b : w2.heap.size < w4.heap.size + 1 := Nat.lt_succ_of_lt l4_2a
  have l4_2c : w2.heap.size < w4.heap.size + 1 + 1 := Nat.lt_succ_of_lt l4_2b
  have l4_2d : w2.heap.size < w4.heap.size + 1 + 1 + 1 := Nat.lt_succ_of_lt l4_2c
  have n4_1_0 : w0.heap.size ≠ w.heap.size := by omega
  have m4_1_0 : w.heap.size ≠ w0.heap.size := by omega
  have n4_1_2 : w0.heap.size ≠ w2.heap.size := by omega
  have m4_1_2 : w2.heap.size ≠ w0.heap.size := by omega
  have hu4 := Nat.le_of_eq ht4
  have hv4 := Nat.le_of_eq ht4.symm
  clear ht4 c3_0 c3_1 c3_2 c3_3 c3_4 c3_5 fc3_2 fc3_3 l3_0a l3_0b l3_0c l3_0d l3_1a l3_1b l3_1c l3_1d l3_2a l3_2b l3_2c l3_2d n3_1_0 m3_1_0 n3_1_2 m3_1_2 hB3 hW4
  exact HR.out _ _ (TImid.mk 0 (by kernel_rfl) ⟨HT.out.symm, hB4, c4_0, c4_1⟩)
set_option maxRecDepth 100000 in
set_option maxHeartbeats 8000000 in
theorem treeIs_4c (A : Option Addr) (l : List Pf) (c : Nat) (p : Pf) (a : Int) (hm : l.length ≤ maxLen) (w : World) (hg : ErrVar w) (hl : Rd w w.heap.size A (cellsP l)) (ht : treeFault l = 0) (ha : isA a = true) (hn : l.filter (inQ (a, 32)) = []) (Q : Exit → Act → World → Prop) (s0 : Act) (w0 : World) (h0 : TImid A l c p a w s0 w0)
    (h : ∀ a' w', TImid A l c p a w a' w' → (tailN 8 (tailN 5 (tailN 5 (tailN 4 (Tryd.f5.body.getD .skip))))).wp Tryd.prog Q a' w') :
    (tailN 5 (tailN 5 (tailN 4 (Tryd.f5.body.getD .skip)))).wp Tryd.prog Q s0 w0 := by
  have HG := Lib.hid hg
  clear hg
  have HE := Lib.hid (findFault_none ht ha hn)
  have HP := Lib.hid (show findFault l a ≠ 0 by rw [HE.out]; decide)
  have HT := Lib.hid ht
  have HA := Lib.hid ha
  have HN := Lib.hid hn
  clear ht ha hn
  obtain ⟨U, k, rfl, hk, hB0, c0_0, c0_1⟩ := h0
  obtain rfl : k = 0 := hk.trans HT.out
  clear hk
  refine wp_cut 8 (TImid A l c p a w) (by rfl) ?_ h
  clear h
  intro r HR
  dsimp only [Tryd.f5, Option.getD, tailN, putN]
  have hs0 := hB0.size
  have l0_0a : w.heap.size < w0.heap.size := World.block_lt_of_cell? w0 _ c0_0
  have l0_0b : w.heap.size < w0.heap.size + 1 := Nat.lt_succ_of_lt l0_0a
  have l0_0c : w.heap.size < w0.heap.size + 1 + 1 := Nat.lt_succ_of_lt l0_0b
  have l0_0d : w.heap.size < w0.heap.size + 1 + 1 + 1 := Nat.lt_succ_of_lt l0_0c
  go_wp2_with fail
  refine (refIs_b a _).mono ?_
  rintro e w1 ⟨rfl, hb1⟩
  have hB1 : Below w.heap.size w w1 := Below.trans (by first | exact hB0 | ((repeat' (first | exact hB0 | refine Below.setCell ?_ ?_ _ | refine Below.alloc ?_ ?_ _ | refine Below.drew ?_)) <;> (first | omega | (simp <;> omega)))) (hb1.mono (by first | omega | (simp <;> omega)))
  have hs1 : w.heap.size ≤ w1.heap.size := hB1.size
  have ht1 := hb1.size
  try simp only [World.size_alloc, World.size_setCell] at ht1
  have c1_0 : w1.cell? ⟨w.heap.size, 0, none⟩ = some (.int .i64 p.1) := (hb1.cell (p := ⟨w.heap.size, 0, none⟩) (by first | omega | (simp <;> omega))).trans (by first | exact c0_0 | simp [go_sem, c0_0, l0_0a, l0_0b, l0_0c, l0_0d])
  have c1_1 : w1.cell? ⟨w.heap.size, 1, none⟩ = some (.int .i64 p.2) := (hb1.cell (p := ⟨w.heap.size, 1, none⟩) (by first | omega | (simp <;> omega))).trans (by first | exact c0_1 | simp [go_sem, c0_1, l0_0a, l0_0b, l0_0c, l0_0d])
  have c1_2 : w1.cell? ⟨w0.heap.size, 0, none⟩ = some (.int .i64 0) := (hb1.cell (p := ⟨w0.heap.size, 0, none⟩) (by first | omega | (simp <;> omega))).trans (by first | (simp; done) | simp [go_sem, l0_0a, l0_0b, l0_0c, l0_0d, c0_0, c0_1])
  have fc1_2 : w1.frozen? ⟨w0.heap.size, 0, none⟩ = false := (hb1.frozen (p := ⟨w0.heap.size, 0, none⟩) (by first | omega | (simp <;> omega))).trans (by first | (simp; done) | simp [go_sem, l0_0a, l0_0b, l0_0c, l0_0d, c0_0, c0_1])
  have c1_3 : w1.cell? ⟨w0.heap.size, 1, none⟩ = some (.int .i64 0) := (hb1.cell (p := ⟨w0.heap.size, 1, none⟩) (by first | omega | (simp <;> omega))).trans (by first | (simp; done) | simp [go_sem, l0_0a, l0_0b, l0_0c, l0_0d, c0_0, c0_1])
  have fc1_3 : w1.frozen? ⟨w0.heap.size, 1, none⟩ = false := (hb1.frozen (p := ⟨w0.heap.size, 1, none⟩) (by first | omega | (simp <;> omega))).trans (by first | (simp; done) | simp [go_sem, l0_0a, l0_0b, l0_0c, l0_0d, c0_0, c0_1])
  have l1_0a : w.heap.size < w1.heap.size := World.block_lt_of_cell? w1 _ c1_0
  have l1_0b : w.heap.size < w1.heap.size + 1 := Nat.lt_succ_of_lt l1_0a
  have l1_0c : w.heap.size < w1.heap.size + 1 + 1 := Nat.lt_succ_of_lt l1_0b
  have l1_0d : w.heap.size < w1.heap.size + 1 + 1 + 1 := Nat.lt_succ_of_lt l1_0c
  have l1_1a : w0.heap.size < w1.heap.size := World.block_lt_of_cell? w1 _ c1_2
  have l1_1b : w0.heap.size < w1.heap.size + 1 := Nat.lt_succ_of_lt l1_1a
  have l1_1c : w0.heap.size < w1.heap.size + 1 + 1 := Nat.lt_succ_of_lt l1_1b
  have l1_1d : w0.heap.size < w1.heap.size + 1 + 1 + 1 := Nat.lt_succ_of_lt l1_1c
  have n1_1_0 : w0.heap.size ≠ w.heap.size := by omega
  have m1_1_0 : w.heap.size ≠ w0.heap.size := by omega
  clear c0_0 c0_1 l0_0a l0_0b l0_0c l0_0d hB0 hb1
  rw [HA.out]
  go_wp2_with fail
  refine (findRef_none A l c a HT.out HA.out HN.out _ ((hl.below (show Below w.heap.size w _ from (by first | exact hB1 | ((repeat' (first | exact hB1 | refine Below.setCell ?_ ?_ _ | refine Below.alloc ?_ ?_ _ | refine Below.drew ?_)) <;> (first | omega | (simp <;> omega)))))).more (show w.heap.size ≤ _ from by first | omega | (simp <;> omega)))).mono ?_
  rintro e w2 ⟨rfl, hb2⟩
  have hB2 : Below w.heap.size w w2 := Below.trans (by first | exact hB1 | ((repeat' (first | exact hB1 | refine Below.setCell ?_ ?_ _ | refine Below.alloc ?_ ?_ _ | refine Below.drew ?_)) <;> (first | omega | (simp <;> omega)))) (hb2.mono (by first | omega | (simp <;> omega)))
  have hs2 : w.heap.size ≤ w2.heap.size := hB2.size
  have ht2 := hb2.size
  try simp only [World.size_alloc, World.size_setCell] at ht2
  have c2_0 : w2.cell? ⟨w.heap.size, 0, none⟩ = some (.int .i64 p.1) := (hb2.cell (p := ⟨w.heap.size, 0, none⟩) (by first | omega | (simp <;> omega))).trans (by first | exact c1_0 | simp [go_sem, c1_0, l1_0a, l1_0b, l1_0c, l1_0d, l1_1a, l1_1b, l1_1c, l1_1d, n1_1_0, m1_1_0])
  have c2_1 : w2.cell? ⟨w.heap.size, 1, none⟩ = some (.int .i64 p.2) := (hb2.cell (p := ⟨w.heap.size, 1, none⟩) (by first | omega | (simp <;> omega))).trans (by first | exact c1_1 | simp [go_sem, c1_1, l1_0a, l1_0b, l1_0c, l1_0d, l1_1a, l1_1b, l1_1c, l1_1d, n1_1_0, m1_1_0])
  have c2_2 : w2.cell? ⟨w0.heap.size, 0, none⟩ = some (.int .i64 0) := (hb2.cell (p := ⟨w0.heap.size, 0, none⟩) (by first | omega | (simp <;> omega))).trans (by first | exact c1_2 | simp [go_sem, c1_2, l1_0a, l1_0b, l1_0c, l1_0d, l1_1a, l1_1b, l1_1c, l1_1d, n1_1_0, m1_1_0])
  have fc2_2 : w2.frozen? ⟨w0.heap.size, 0, none⟩ = false := (hb2.frozen (p := ⟨w0.heap.size, 0, none⟩) (by first | omega | (simp <;> omega))).trans (by first | exact fc1_2 | simp [go_sem, fc1_2, l1_0a, l1_0b, l1_0c, l1_0d, l1_1a, l1_1b, l1_1c, l1_1d, n1_1_0, m1_1_0])
  have c2_3 : w2.cell? ⟨w0.heap.size, 1, none⟩ = some (.int .i64 0) := (hb2.cell (p := ⟨w0.heap.size, 1, none⟩) (by first | omega | (simp <;> omega))).trans (by first | exact c1_3 | simp [go_sem, c1_3, l1_0a, l1_0b, l1_0c, l1_0d, l1_1a, l1_1b, l1_1c, l1_1d, n1_1_0, m1_1_0])
  have fc2_3 : w2.frozen? ⟨w0.heap.size, 1, none⟩ = false := (hb2.frozen (p := ⟨w0.heap.size, 1, none⟩) (by first | omega | (simp <;> omega))).trans (by first | exact fc1_3 | simp [go_sem, fc1_3, l1_0a, l1_0b, l1_0c, l1_0d, l1_1a, l1_1b, l1_1c, l1_1d, n1_1_0, m1_1_0])
  have l2_0a : w.heap.size < w2.heap.size := World.block_lt_of_cell? w2 _ c2_0
  have l2_0b : w.heap.size < w2.heap.size + 1 := Nat.lt_succ_of_lt l2_0a
  have l2_0c : w.heap.size < w2.heap.size + 1 + 1 := Nat.lt_succ_of_lt l2_0b
  have l2_0d : w.heap.size < w2.heap.size + 1 + 1 + 1 := Nat.lt_succ_of_lt l2_0c
  have l2_1a : w0.heap.size < w2.heap.size := World.block_lt_of_cell? w2 _ c2_2
  have l2_1b : w0.heap.size < w2.heap.size + 1 := Nat.lt_succ_of_lt l2_1a
  have l2_1c : w0.heap.size < w2.heap.size + 1 + 1 := Nat.lt_succ_of_lt l2_1b
  have l2_1d : w0.heap.size < w2.heap.size + 1 + 1 + 1 := Nat.lt_succ_of_lt l2_1c
  have n2_1_0 : w0.heap.size ≠ w.heap.size := by omega
  have m2_1_0 : w.heap.size ≠ w0.heap.size := by omega
  clear c1_0 c1_1 c1_2 c1_3 fc1_2 fc1_3 l1_0a l1_0b l1_0c l1_0d l1_1a l1_1b l1_1c l1_1d n1_1_0 m1_1_0 hB1 hb2
  go_wp2_with fail
  refine (find_bad A l c a hm HP.out _ ((hl.below (show Below w.heap.size w _ from (by first | exact hB2 | ((repeat' (first | exact hB2 | refine Below.setCell ?_ ?_ _ | refine Below.alloc ?_ ?_ _ | refine Below.drew ?_)) <;> (first | omega | (simp <;> omega)))))).more (show w.heap.size ≤ _ from by first | omega | (simp <;> omega)))).mono ?_
  rintro e w3 ⟨rfl, hb3⟩
  have hB3 : Below w.heap.size w w3 := Below.trans (by first | exact hB2 | ((repeat' (first | exact hB2 | refine Below.setCell ?_ ?_ _ | refine Below.alloc ?_ ?_ _ | refine Below.drew ?_)) <;> (first | omega | (simp <;> omega)))) (hb3.mono (by first | omega | (simp <;> omega)))
  have hs3 : w.heap.size ≤ w3.heap.size := hB3.size
  have ht3 := hb3.size
  try simp only [World.size_alloc, World.size_setCell] at ht3
  have c3_0 : w3.cell? ⟨w.heap.size, 0, none⟩ = some (.int .i64 p.1) := (hb3.cell (p := ⟨w.heap.size, 0, none⟩) (by first | omega | (simp <;> omega))).trans (by first | exact c2_0 | simp [go_sem, c2_0, l2_0a, l2_0b, l2_0c, l2_0d, l2_1a, l2_1b, l2_1c, l2_1d, n2_1_0, m2_1_0])
  have c3_1 : w3.cell? ⟨w.heap.size, 1, none⟩ = some (.int .i64 p.2) := (hb3.cell (p := ⟨w.heap.size, 1, none⟩) (by first | omega | (simp <;> omega))).trans (by first | exact c2_1 | simp [go_sem, c2_1, l2_0a, l2_0b, l2_0c, l2_0d, l2_1a, l2_1b, l2_1c, l2_1d, n2_1_0, m2_1_0])
  have c3_2 : w3.cell? ⟨w0.heap.size, 0, none⟩ = some (.int .i64 0) := (hb3.cell (p := ⟨w0.heap.size, 0, none⟩) (by first | omega | (simp <;> omega))).trans (by first | exact c2_2 | simp [go_sem, c2_2, l2_0a, l2_0b, l2_0c, l2_0d, l2_1a, l2_1b, l2_1c, l2_1d, n2_1_0, m2_1_0])
  have fc3_2 : w3.frozen? ⟨w0.heap.size, 0, none⟩ = false := (hb3.frozen (p := ⟨w0.heap.size, 0, none⟩) (by first | omega | (simp <;> omega))).trans (by first | exact fc2_2 | simp [go_sem, fc2_2, l2_0a, l2_0b, l2_0c, l2_0d, l2_1a, l2_1b, l2_1c, l2_1d, n2_1_0, m2_1_0])
  have c3_3 : w3.cell? ⟨w0.heap.size, 1, none⟩ = some (.int .i64 0) := (hb3.cell (p := ⟨w0.heap.size, 1, none⟩) (by first | omega | (simp <;> omega))).trans (by first | exact c2_3 | simp [go_sem, c2_3, l2_0a, l2_0b, l2_0c, l2_0d, l2_1a, l2_1b, l2_1c, l2_1d, n2_1_0, m2_1_0])
  have fc3_3 : w3.frozen? ⟨w0.heap.size, 1, none⟩ = false := (hb3.frozen (p := ⟨w0.heap.size, 1, none⟩) (by first | omega | (simp <;> omega))).trans (by first | exact fc2_3 | simp [go_sem, fc2_3, l2_0a, l2_0b, l2_0c, l2_0d, l2_1a, l2_1b, l2_1c, l2_1d, n2_1_0, m2_1_0])
  have l3_0a : w.heap.size < w3.heap.size := World.block_lt_of_cell? w3 _ c3_0
  have l3_0b : w.heap.size < w3.heap.size + 1 := Nat.lt_succ_of_lt l3_0a
  have l3_0c : w.heap.size < w3.heap.size + 1 + 1 := Nat.lt_succ_of_lt l3_0b
  have l3_0d : w.heap.size < w3.heap.size + 1 + 1 + 1 := Nat.lt_succ_of_lt l3_0c
  have l3_1a : w0.heap.size < w3.heap.size := World.block_lt_of_cell? w3 _ c3_2
  have l3_1b : w0.heap.size < w3.heap.size + 1 := Nat.lt_succ_of_lt l3_1a
  have l3_1c : w0.heap.size < w3.heap.size + 1 + 1 := Nat.lt_succ_of_lt l3_1b
  have l3_1d : w0.heap.size < w3.heap.size + 1 + 1 + 1 := Nat.lt_succ_of_lt l3_1c
  have n3_1_0 : w0.heap.size ≠ w.heap.size := by omega
  have m3_1_0 : w.heap.size ≠ w0.heap.size := by omega
  clear c2_0 c2_1 c2_2 c2_3 fc2_2 fc2_3 l2_0a l2_0b l2_0c l2_0d l2_1a l2_1b l2_1c l2_1d n2_1_0 m2_1_0 hB2 hb3
  rw [HE.out]
  go_wp2_with fail
  refine (error_same 4 (by decide) _ (by exact HG.out.belowB (show Below w.heap.size w _ from (by first | exact hB3 | ((repeat' (first | exact hB3 | refine Below.setCell ?_ ?_ _ | refine Below.alloc ?_ ?_ _ | refine Below.drew ?_)) <;> (first | omega | (simp <;> omega))))) HG.out.lt)).mono ?_
  rintro e w4 ⟨rfl, hb4⟩
  have hB4 : Below w.heap.size w w4 := Below.trans (by first | exact hB3 | ((repeat' (first | exact hB3 | refine Below.setCell ?_ ?_ _ | refine Below.alloc ?_ ?_ _ | refine Below.drew ?_)) <;> (first | omega | (simp <;> omega)))) (hb4.mono (by first | omega | (simp <;> omega)))
  have hs4 : w.heap.size ≤ w4.heap.size := hB4.size
  have ht4 := hb4.size
  try simp only [World.size_alloc, World.size_setCell] at ht4
  have c4_0 : w4.cell? ⟨w.heap.size, 0, none⟩ = some (.int .i64 p.1) := (hb4.cell (p := ⟨w.heap.size, 0, none⟩) (by first | omega | (simp <;> omega))).trans (by first | exact c3_0 | simp [go_sem, c3_0, l3_0a, l3_0b, l3_0c, l3_0d, l3_1a, l3_1b, l3_1c, l3_1d, n3_1_0, m3_1_0])
  have c4_1 : w4.cell? ⟨w.heap.size, 1, none⟩ = some (.int .i64 p.2) := (hb4.cell (p := ⟨w.heap.size, 1, none⟩) (by first | omega | (simp <;> omega))).trans (by first | exact c3_1 | simp [go_sem, c3_1, l3_0a, l3_0b, l3_0c, l3_0d, l3_1a, l3_1b, l3_1c, l3_1d, n3_1_0, m3_1_0])
  have c4_2 : w4.cell? ⟨w0.heap.size, 0, none⟩ = some (.int .i64 0) := (hb4.cell (p := ⟨w0.heap.size, 0, none⟩) (by first | omega | (simp <;> omega))).trans (by first | exact c3_2 | simp [go_sem, c3_2, l3_0a, l3_0b, l3_0c, l3_0d, l3_1a, l3_1b, l3_1c, l3_1d, n3_1_0, m3_1_0])
  have fc4_2 : w4.frozen? ⟨w0.heap.size, 0, none⟩ = false := (hb4.frozen (p := ⟨w0.heap.size, 0, none⟩) (by first | omega | (simp <;> omega))).trans (by first | exact fc3_2 | simp [go_sem, fc3_2, l3_0a, l3_0b, l3_0c, l3_0d, l3_1a, l3_1b, l3_1c, l3_1d, n3_1_0, m3_1_0])
  have c4_3 : w4.cell? ⟨w0.heap.size, 1, none⟩ = some (.int .i64 0) := (hb4.cell (p := ⟨w0.heap.size, 1, none⟩) (by first | omega | (simp <;> omega))).trans (by first | exact c3_3 | simp [go_sem, c3_3, l3_0a, l3_0b, l3_0c, l3_0d, l3_1a, l3_1b, l3_1c, l3_1d, n3_1_0, m3_1_0])
  have fc4_3 : w4.frozen? ⟨w0.heap.size, 1, none⟩ = false := (hb4.frozen (p := ⟨w0.heap.size, 1, none⟩) (by first | omega | (simp <;> omega))).trans (by first | exact fc3_3 | simp [go_sem, fc3_3, l3_0a, l3_0b, l3_0c, l3_0d, l3_1a, l3_1b, l3_1c, l3_1d, n3_1_0, m3_1_0])
  have c4_4 : w4.cell? ⟨w3.heap.size, 0, none⟩ = some (.int .i64 0) := (hb4.cell (p := ⟨w3.heap.size, 0, none⟩) (by first | omega | (simp <;> omega))).trans (by first | (simp; done) | simp [go_sem, l3_0a, l3_0b, l3_0c, l3_0d, l3_1a, l3_1b, l3_1c, l3_1d, n3_1_0, m3_1_0, c3_0, c3_1, c3_2, c3_3, fc3_2, fc3_3])
  have c4_5 : w4.cell? ⟨w3.heap.size, 1, none⟩ = some (.int .i64 0) := (hb4.cell (p := ⟨w3.heap.size, 1, none⟩) (by first | omega | (simp <;> omega))).trans (by first | (simp; done) | simp [go_sem, l3_0a, l3_0b, l3_0c, l3_0d, l3_1a, l3_1b, l3_1c, l3_1d, n3_1_0, m3_1_0, c3_0, c3_1, c3_2, c3_3, fc3_2, fc3_3])
  have l4_0a : w.heap.size < w4.heap.size := World.block_lt_of_cell? w4 _ c4_0
  have l4_0b : w.heap.size < w4.heap.size + 1 := Nat.lt_succ_of_lt l4_0a
  have l4_0c : w.heap.size < w4.heap.size + 1 + 1 := Nat.lt_succ_of_lt l4_0b
  have l4_0d : w.heap.size < w4.heap.size + 1 + 1 + 1 := Nat.lt_succ_of_lt l4_0c
  have l4_1a : w0.heap.size < w4.heap.size := World.block_lt_of_cell? w4 _ c4_2
  have l4_1b : w0.heap.size < w4.heap.size + 1 := Nat.lt_succ_of_lt l4_1a
  have l4_1c : w0.heap.size < w4.heap.size + 1 + 1 := Nat.lt_succ_of_lt l4_1b
  have l4_1d : w0.heap.size < w4.heap.size + 1 + 1 + 1 := Nat.lt_succ_of_lt l4_1c
  have l4_2a : w3.heap.size < w4.heap.size := World.block_lt_of_cell? w4 _ c4_4
  have l4_2b : w3.heap.size < w4.heap.size + 1 := Nat.lt_succ_of_lt l4_2a
  have l4_2c : w3.heap.size < w4.heap.size + 1 + 1 := Nat.lt_succ_of_lt l4_2b
  have l4_2d : w3.heap.size < w4.heap.size + 1 + 1 + 1 := Nat.lt_succ_of_lt l4_2c
  have n4_1_0 : w0.heap.size ≠ w.heap.size := by omega
  have m4_1_0 : w.heap.size ≠ w0.heap.size := by omega
  have n4_1_2 : w0.heap.size ≠ w3.heap.size := by omega
  have m4_1_2 : w3.heap.size ≠ w0.heap.size := by omega
  clear c3_0 c3_1 c3_2 c3_3 fc3_2 fc3_3 l3_0a l3_0b l3_0c l3_0d l3_1a l3_1b l3_1c l3_1d n3_1_0 m3_1_0 hB3 hb4
  go_wp2_with fail
  refine wp_name ?_
  intro w5 hW5
  have hB5 : Below w.heap.size w w5 := by rw [hW5.out]; exact (by first | exact hB4 | ((repeat' (first | exact hB4 | refine Below.setCell ?_ ?_ _ | refine Below.alloc ?_ ?_ _ | refine Below.drew ?_)) <;> (first | omega | (simp <;> omega))))
  have hs5 : w.heap.size ≤ w5.heap.size := hB5.size
  have ht5 := congrArg (fun x : World => x.heap.size) hW5.out
  try simp only [World.size_alloc, World.size_setCell] at ht5
  have c5_0 : w5.cell? ⟨w.heap.size, 0, none⟩ = some (.int .i64 p.1) := by rw [hW5.out]; first | exact c4_0 | simp [go_sem, c4_0, l4_0a, l4_0b, l4_0c, l4_0d, l4_1a, l4_1b, l4_1c, l4_1d, l4_2a, l4_2b, l4_2c, l4_2d, n4_1_0, m4_1_0, n4_1_2, m4_1_2]
  have c5_1 : w5.cell? ⟨w.heap.size, 1, none⟩ = some (.int .i64 p.2) := by rw [hW5.out]; first | exact c4_1 | simp [go_sem, c4_1, l4_0a, l4_0b, l4_0c, l4_0d, l4_1a, l4_1b, l4_1c, l4_1d, l4_2a, l4_2b, l4_2c, l4_2d, n4_1_0, m4_1_0, n4_1_2, m4_1_2]
  have c5_2 : w5.cell? ⟨w0.heap.size, 0, none⟩ = some (.int .i64 0) := by rw [hW5.out]; first | exact c4_2 | simp [go_sem, c4_2, l4_0a, l4_0b, l4_0c, l4_0d, l4_1a, l4_1b, l4_1c, l4_1d, l4_2a, l4_2b, l4_2c, l4_2d, n4_1_0, m4_1_0, n4_1_2, m4_1_2]
  have fc5_2 : w5.frozen? ⟨w0.heap.size, 0, none⟩ = false := by rw [hW5.out]; first | exact fc4_2 | simp [go_sem, fc4_2, l4_0a, l4_0b, l4_0c, l4_0d, l4_1a, l4_1b, l4_1c, l4_1d, l4_2a, l4_2b, l4_2c, l4_2d, n4_1_0, m4_1_0, n4_1_2, m4_1_2]
  have c5_3 : w5.cell? ⟨w0.heap.size, 1, none⟩ = some (.int .i64 0) := by rw [hW5.out]; first | exact c4_3 | simp [go_sem, c4_3, l4_0a, l4_0b, l4_0c, l4_0d, l4_1a, l4_1b, l4_1c, l4_1d, l4_2a, l4_2b, l4_2c, l4_2d, n4_1_0, m4_1_0, n4_1_2, m4_1_2]
  have fc5_3 : w5.frozen? ⟨w0.heap.size, 1, none⟩ = false := by rw [hW5.out]; first | exact fc4_3 | simp [go_sem, fc4_3, l4_0a, l4_0b, l4_0c, l4_0d, l4_1a, l4_1b, l4_1c, l4_1d, l4_2a, l4_2b, l4_2c, l4_2d, n4_1_0, m4_1_0, n4_1_2, m4_1_2]
  have c5_4 : w5.cell? ⟨w3.heap.size, 0, none⟩ = some (.int .i64 0) := by rw [hW5.out]; first | exact c4_4 | simp [go_sem, c4_4, l4_0a, l4_0b, l4_0c, l4_0d, l4_1a, l4_1b, l4_1c, l4_1d, l4_2a, l4_2b, l4_2c, l4_2d, n4_1_0, m4_1_0, n4_1_2, m4_1_2]
  have c5_5 : w5.cell? ⟨w3.heap.size, 1, none⟩ = some (.int .i64 0) := by rw [hW5.out]; first | exact c4_5 | simp [go_sem, c4_5, l4_0a, l4_0b, l4_0c, l4_0d, l4_1a, l4_1b, l4_1c, l4_1d, l4_2a, l4_2b, l4_2c, l4_2d, n4_1_0, m4_1_0, n4_1_2, m4_1_2]
  have l5_0a : w.heap.size < w5.heap.size := World.block_lt_of_cell? w5 _ c5_0
  have l5_0b : w.heap.size < w5.heap.size + 1 := Nat.lt_succ_of_lt l5_0a
  have l5_0c : w.heap.size < w5.heap.size + 1 + 1 := Nat.lt_succ_of_lt l5_0b
  have l5_0d : w.heap.size < w5.heap.size + 1 + 1 + 1 := Nat.lt_succ_of_lt l5_0c
  have l5_1a : w0.heap.size < w5.heap.size := World.block_lt_of_cell? w5 _ c5_2
  have l5_1b : w0.heap.size < w5.heap.size + 1 := Nat.lt_succ_of_lt l5_1a
  have l5_1c : w0.heap.size < w5.heap.size + 1 + 1 := Nat.lt_succ_of_lt l5_1b
  have l5_1d : w0.heap.size < w5.heap.size + 1 + 1 + 1 := Nat.lt_succ_of_lt l5_1c
  have l5_2a : w3.heap.size < w5.heap.size := World.block_lt_of_cell? w5 _ c5_4
  have l5_2b : w3.heap.size < w5.heap.size + 1 := Nat.lt_succ_of_lt l5_2a
  have l5_2c : w3.heap.size < w5.heap.size + 1 + 1 := Nat.lt_succ_of_lt l5_2b
  have l5_2d : w3.heap.size < w5.heap.size + 1 + 1 + 1 := Nat.lt_succ_of_lt l5_2c
  have n5_1_0 : w0.heap.size ≠ w.heap.size := by omega
  have m5_1_0 : w.heap.size ≠ w0.heap.size := by omega
  have n5_1_2 : w0.heap.size ≠ w3.heap.size := by omega
  have m5_1_2 : w3.heap.size ≠ w0.heap.size := by omega
  have hu5 := Nat.le_of_eq ht5
  have hv5 := Nat.le_of_eq ht5.symm
  clear ht5 c4_0 c4_1 c4_2 c4_3 c4_4 c4_5 fc4_2 fc4_3 l4_0a l4_0b l4_0c l4_0d l4_1a l4_1b l4_1c l4_1d l4_2a l4_2b l4_2c l4_2d n4_1_0 m4_1_0 n4_1_2 m4_1_2 hB4 hW5
  exact HR.out _ _ (TImid.mk 0 (by kernel_rfl) ⟨HT.out.symm, hB5, c5_0, c5_1⟩)
set_option maxRecDepth 100000 in
set_option maxHeartbeats 8000000 in
theorem treeIs_4d (A : Option Addr) (l : List Pf) (c : Nat) (p : Pf) (a : Int) (hm : l.length ≤ maxLen) (w : World) (hg : ErrVar w) (hl : Rd w w.heap.size A (cellsP l)) (hp : findFault l a = 0) (Q : Exit → Act → World → Prop) (s0 : Act) (w0 : World) (h0 : TImid A l c p a w s0 w0)
    (h : ∀ a' w', TImid A l c p a w a' w' → (tailN 8 (tailN 5 (tailN 5 (tailN 4 (Tryd.f5.body.getD .skip))))).wp Tryd.prog Q a' w') :
    (tailN 5 (tailN 5 (tailN 4 (Tryd.f5.body.getD .skip)))).wp Tryd.prog Q s0 w0 := by
  have HG := Lib.hid hg
  clear hg
  obtain ⟨ht, ha, _⟩ := findFault_zero hp
  have HP := Lib.hid hp
  have HT := Lib.hid ht
  have HA := Lib.hid ha
  clear ht ha hp
  obtain ⟨U, k, rfl, hk, hB0, c0_0, c0_1⟩ := h0
  obtain rfl : k = 0 := hk.trans HT.out
  clear hk
  refine wp_cut 8 (TImid A l c p a w) (by rfl) ?_ h
  clear h
  intro r HR
  dsimp only [Tryd.f5, Option.getD, tailN, putN]
  have hs0 := hB0.size
  have l0_0a : w.heap.size < w0.heap.size := World.block_lt_of_cell? w0 _ c0_0
  have l0_0b : w.heap.size < w0.heap.size + 1 := Nat.lt_succ_of_lt l0_0a
  have l0_0c : w.heap.size < w0.heap.size + 1 + 1 := Nat.lt_succ_of_lt l0_0b
  have l0_0d : w.heap.size < w0.heap.size + 1 + 1 + 1 := Nat.lt_succ_of_lt l0_0c
  go_wp2_with fail
  refine (refIs_b a _).mono ?_
  rintro e w1 ⟨rfl, hb1⟩
  have hB1 : Below w.heap.size w w1 := Below.trans (by first | exact hB0 | ((repeat' (first | exact hB0 | refine Below.setCell ?_ ?_ _ | refine Below.alloc ?_ ?_ _ | refine Below.drew ?_)) <;> (first | omega | (simp <;> omega)))) (hb1.mono (by first | omega | (simp <;> omega)))
  have hs1 : w.heap.size ≤ w1.heap.size := hB1.size
  have ht1 := hb1.size
  try simp only [World.size_alloc, World.size_setCell] at ht1
  have c1_0 : w1.cell? ⟨w.heap.size, 0, none⟩ = some (.int .i64 p.1) := (hb1.cell (p := ⟨w.heap.size, 0, none⟩) (by first | omega | (simp <;> omega))).trans (by first | exact c0_0 | simp [go_sem, c0_0, l0_0a, l0_0b, l0_0c, l0_0d])
  have c1_1 : w1.cell? ⟨w.heap.size, 1, none⟩ = some (.int .i64 p.2) := (hb1.cell (p := ⟨w.heap.size, 1, none⟩) (by first | omega | (simp <;> omega))).trans (by first | exact c0_1 | simp [go_sem, c0_1, l0_0a, l0_0b, l0_0c, l0_0d])
  have c1_2 : w1.cell? ⟨w0.heap.size, 0, none⟩ = some (.int .i64 0) := (hb1.cell (p := ⟨w0.heap.size, 0, none⟩) (by first | omega | (simp <;> omega))).trans (by first | (simp; done) | simp [go_sem, l0_0a, l0_0b, l0_0c, l0_0d, c0_0, c0_1])
  have fc1_2 : w1.frozen? ⟨w0.heap.size, 0, none⟩ = false := (hb1.frozen (p := ⟨w0.heap.size, 0, none⟩) (by first | omega | (simp <;> omega))).trans (by first | (simp; done) | simp [go_sem, l0_0a, l0_0b, l0_0c, l0_0d, c0_0, c0_1])
  have c1_3 : w1.cell? ⟨w0.heap.size, 1, none⟩ = some (.int .i64 0) := (hb1.cell (p := ⟨w0.heap.size, 1, none⟩) (by first | omega | (simp <;> omega))).trans (by first | (simp; done) | simp [go_sem, l0_0a, l0_0b, l0_0c, l0_0d, c0_0, c0_1])
  have fc1_3 : w1.frozen? ⟨w0.heap.size, 1, none⟩ = false := (hb1.frozen (p := ⟨w0.heap.size, 1, none⟩) (by first | omega | (simp <;> omega))).trans (by first | (simp; done) | simp [go_sem, l0_0a, l0_0b, l0_0c, l0_0d, c0_0, c0_1])
  have l1_0a : w.heap.size < w1.heap.size := World.block_lt_of_cell? w1 _ c1_0
  have l1_0b : w.heap.size < w1.heap.size + 1 := Nat.lt_succ_of_lt l1_0a
  have l1_0c : w.heap.size < w1.heap.size + 1 + 1 := Nat.lt_succ_of_lt l1_0b
  have l1_0d : w.heap.size < w1.heap.size + 1 + 1 + 1 := Nat.lt_succ_of_lt l1_0c
  have l1_1a : w0.heap.size < w1.heap.size := World.block_lt_of_cell? w1 _ c1_2
  have l1_1b : w0.heap.size < w1.heap.size + 1 := Nat.lt_succ_of_lt l1_1a
  have l1_1c : w0.heap.size < w1.heap.size + 1 + 1 := Nat.lt_succ_of_lt l1_1b
  have l1_1d : w0.heap.size < w1.heap.size + 1 + 1 + 1 := Nat.lt_succ_of_lt l1_1c
  have n1_1_0 : w0.heap.size ≠ w.heap.size := by omega
  have m1_1_0 : w.heap.size ≠ w0.heap.size := by omega
  clear c0_0 c0_1 l0_0a l0_0b l0_0c l0_0d hB0 hb1
  rw [HA.out]
  go_wp2_with fail
  refine (findRef_some A l c a HP.out _ ((hl.below (show Below w.heap.size w _ from (by first | exact hB1 | ((repeat' (first | exact hB1 | refine Below.setCell ?_ ?_ _ | refine Below.alloc ?_ ?_ _ | refine Below.drew ?_)) <;> (first | omega | (simp <;> omega)))))).more (show w.heap.size ≤ _ from by first | omega | (simp <;> omega)))).mono ?_
  rintro e w2 ⟨j, hj, rfl, hjr, hb2⟩
  have hB2 : Below w.heap.size w w2 := Below.trans (by first | exact hB1 | ((repeat' (first | exact hB1 | refine Below.setCell ?_ ?_ _ | refine Below.alloc ?_ ?_ _ | refine Below.drew ?_)) <;> (first | omega | (simp <;> omega)))) (hb2.mono (by first | omega | (simp <;> omega)))
  have hs2 : w.heap.size ≤ w2.heap.size := hB2.size
  have ht2 := hb2.size
  try simp only [World.size_alloc, World.size_setCell] at ht2
  have c2_0 : w2.cell? ⟨w.heap.size, 0, none⟩ = some (.int .i64 p.1) := (hb2.cell (p := ⟨w.heap.size, 0, none⟩) (by first | omega | (simp <;> omega))).trans (by first | exact c1_0 | simp [go_sem, c1_0, l1_0a, l1_0b, l1_0c, l1_0d, l1_1a, l1_1b, l1_1c, l1_1d, n1_1_0, m1_1_0])
  have c2_1 : w2.cell? ⟨w.heap.size, 1, none⟩ = some (.int .i64 p.2) := (hb2.cell (p := ⟨w.heap.size, 1, none⟩) (by first | omega | (simp <;> omega))).trans (by first | exact c1_1 | simp [go_sem, c1_1, l1_0a, l1_0b, l1_0c, l1_0d, l1_1a, l1_1b, l1_1c, l1_1d, n1_1_0, m1_1_0])
  have c2_2 : w2.cell? ⟨w0.heap.size, 0, none⟩ = some (.int .i64 0) := (hb2.cell (p := ⟨w0.heap.size, 0, none⟩) (by first | omega | (simp <;> omega))).trans (by first | exact c1_2 | simp [go_sem, c1_2, l1_0a, l1_0b, l1_0c, l1_0d, l1_1a, l1_1b, l1_1c, l1_1d, n1_1_0, m1_1_0])
  have fc2_2 : w2.frozen? ⟨w0.heap.size, 0, none⟩ = false := (hb2.frozen (p := ⟨w0.heap.size, 0, none⟩) (by first | omega | (simp <;> omega))).trans (by first | exact fc1_2 | simp [go_sem, fc1_2, l1_0a, l1_0b, l1_0c, l1_0d, l1_1a, l1_1b, l1_1c, l1_1d, n1_1_0, m1_1_0])
  have c2_3 : w2.cell? ⟨w0.heap.size, 1, none⟩ = some (.int .i64 0) := (hb2.cell (p := ⟨w0.heap.size, 1, none⟩) (by first | omega | (simp <;> omega))).trans (by first | exact c1_3 | simp [go_sem, c1_3, l1_0a, l1_0b, l1_0c, l1_0d, l1_1a, l1_1b, l1_1c, l1_1d, n1_1_0, m1_1_0])
  have fc2_3 : w2.frozen? ⟨w0.heap.size, 1, none⟩ = false := (hb2.frozen (p := ⟨w0.heap.size, 1, none⟩) (by first | omega | (simp <;> omega))).trans (by first | exact fc1_3 | simp [go_sem, fc1_3, l1_0a, l1_0b, l1_0c, l1_0d, l1_1a, l1_1b, l1_1c, l1_1d, n1_1_0, m1_1_0])
  have l2_0a : w.heap.size < w2.heap.size := World.block_lt_of_cell? w2 _ c2_0
  have l2_0b : w.heap.size < w2.heap.size + 1 := Nat.lt_succ_of_lt l2_0a
  have l2_0c : w.heap.size < w2.heap.size + 1 + 1 := Nat.lt_succ_of_lt l2_0b
  have l2_0d : w.heap.size < w2.heap.size + 1 + 1 + 1 := Nat.lt_succ_of_lt l2_0c
  have l2_1a : w0.heap.size < w2.heap.size := World.block_lt_of_cell? w2 _ c2_2
  have l2_1b : w0.heap.size < w2.heap.size + 1 := Nat.lt_succ_of_lt l2_1a
  have l2_1c : w0.heap.size < w2.heap.size + 1 + 1 := Nat.lt_succ_of_lt l2_1b
  have l2_1d : w0.heap.size < w2.heap.size + 1 + 1 + 1 := Nat.lt_succ_of_lt l2_1c
  have n2_1_0 : w0.heap.size ≠ w.heap.size := by omega
  have m2_1_0 : w.heap.size ≠ w0.heap.size := by omega
  clear c1_0 c1_1 c1_2 c1_3 fc1_2 fc1_3 l1_0a l1_0b l1_0c l1_0d l1_1a l1_1b l1_1c l1_1d n1_1_0 m1_1_0 hB1 hb2
  have HJ := Lib.hid hjr
  clear hjr
  have hj0 : ¬ ((j : Int) < 0) := by omega
  have hj0' : decide ((j : Int) < 0) = false := by simp
  obtain ⟨b9, off9, rfl, hbb9, d0, d1⟩ := (hl.below hB2).pair hj
  rw [HJ.out] at d0 d1
  go_wp2_with fail
  refine (find_ok _ l c a HP.out _ ((hl.below (show Below w.heap.size w _ from (by first | exact hB2 | ((repeat' (first | exact hB2 | refine Below.setCell ?_ ?_ _ | refine Below.alloc ?_ ?_ _ | refine Below.drew ?_)) <;> (first | omega | (simp <;> omega)))))).more (show w.heap.size ≤ _ from by first | omega | (simp <;> omega)))).mono ?_
  rintro e w3 ⟨rfl, hb3⟩
  have hB3 : Below w.heap.size w w3 := Below.trans (by first | exact hB2 | ((repeat' (first | exact hB2 | refine Below.setCell ?_ ?_ _ | refine Below.alloc ?_ ?_ _ | refine Below.drew ?_)) <;> (first | omega | (simp <;> omega)))) (hb3.mono (by first | omega | (simp <;> omega)))
  have hs3 : w.heap.size ≤ w3.heap.size := hB3.size
  have ht3 := hb3.size
  try simp only [World.size_alloc, World.size_setCell] at ht3
  have c3_0 : w3.cell? ⟨w.heap.size, 0, none⟩ = some (.int .i64 p.1) := (hb3.cell (p := ⟨w.heap.size, 0, none⟩) (by first | omega | (simp <;> omega))).trans (by first | exact c2_0 | simp [go_sem, c2_0, l2_0a, l2_0b, l2_0c, l2_0d, l2_1a, l2_1b, l2_1c, l2_1d, n2_1_0, m2_1_0])
  have c3_1 : w3.cell? ⟨w.heap.size, 1, none⟩ = some (.int .i64 p.2) := (hb3.cell (p := ⟨w.heap.size, 1, none⟩) (by first | omega | (simp <;> omega))).trans (by first | exact c2_1 | simp [go_sem, c2_1, l2_0a, l2_0b, l2_0c, l2_0d, l2_1a, l2_1b, l2_1c, l2_1d, n2_1_0, m2_1_0])
  have c3_2 : w3.cell? ⟨w0.heap.size, 0, none⟩ = some (.int .i64 (findRes l a).1) := (hb3.cell (p := ⟨w0.heap.size, 0, none⟩) (by first | omega | (simp <;> omega))).trans (by first | (simp; done) | simp [go_sem, l2_0a, l2_0b, l2_0c, l2_0d, l2_1a, l2_1b, l2_1c, l2_1d, n2_1_0, m2_1_0, c2_0, c2_1, c2_2, c2_3, fc2_2, fc2_3])
  have fc3_2 : w3.frozen? ⟨w0.heap.size, 0, none⟩ = false := (hb3.frozen (p := ⟨w0.heap.size, 0, none⟩) (by first | omega | (simp <;> omega))).trans (by first | (simp; done) | simp [go_sem, l2_0a, l2_0b, l2_0c, l2_0d, l2_1a, l2_1b, l2_1c, l2_1d, n2_1_0, m2_1_0, c2_0, c2_1, c2_2, c2_3, fc2_2, fc2_3])
  have c3_3 : w3.cell? ⟨w0.heap.size, 1, none⟩ = some (.int .i64 (findRes l a).2) := (hb3.cell (p := ⟨w0.heap.size, 1, none⟩) (by first | omega | (simp <;> omega))).trans (by first | (simp; done) | simp [go_sem, l2_0a, l2_0b, l2_0c, l2_0d, l2_1a, l2_1b, l2_1c, l2_1d, n2_1_0, m2_1_0, c2_0, c2_1, c2_2, c2_3, fc2_2, fc2_3])
  have fc3_3 : w3.frozen? ⟨w0.heap.size, 1, none⟩ = false := (hb3.frozen (p := ⟨w0.heap.size, 1, none⟩) (by first | omega | (simp <;> omega))).trans (by first | (simp; done) | simp [go_sem, l2_0a, l2_0b, l2_0c, l2_0d, l2_1a, l2_1b, l2_1c, l2_1d, n2_1_0, m2_1_0, c2_0, c2_1, c2_2, c2_3, fc2_2, fc2_3])
  have l3_0a : w.heap.size < w3.heap.size := World.block_lt_of_cell? w3 _ c3_0
  have l3_0b : w.heap.size < w3.heap.size + 1 := Nat.lt_succ_of_lt l3_0a
  have l3_0c : w.heap.size < w3.heap.size + 1 + 1 := Nat.lt_succ_of_lt l3_0b
  have l3_0d : w.heap.size < w3.heap.size + 1 + 1 + 1 := Nat.lt_succ_of_lt l3_0c
  have l3_1a : w0.heap.size < w3.heap.size := World.block_lt_of_cell? w3 _ c3_2
  have l3_1b : w0.heap.size < w3.heap.size + 1 := Nat.lt_succ_of_lt l3_1a
  have l3_1c : w0.heap.size < w3.heap.size + 1 + 1 := Nat.lt_succ_of_lt l3_1b
  have l3_1d : w0.heap.size < w3.heap.size + 1 + 1 + 1 := Nat.lt_succ_of_lt l3_1c
  have n3_1_0 : w0.heap.size ≠ w.heap.size := by omega
  have m3_1_0 : w.heap.size ≠ w0.heap.size := by omega
  clear c2_0 c2_1 c2_2 c2_3 fc2_2 fc2_3 l2_0a l2_0b l2_0c l2_0d l2_1a l2_1b l2_1c l2_1d n2_1_0 m2_1_0 hB2 hb3
  go_wp2_with fail
  refine (error_nil0 _ (by exact HG.out.belowB (show Below w.heap.size w _ from (by first | exact hB3 | ((repeat' (first | exact hB3 | refine Below.setCell ?_ ?_ _ | refine Below.alloc ?_ ?_ _ | refine Below.drew ?_)) <;> (first | omega | (simp <;> omega))))) HG.out.lt)).mono ?_
  rintro e w4 ⟨rfl, hb4⟩
  have hB4 : Below w.heap.size w w4 := Below.trans (by first | exact hB3 | ((repeat' (first | exact hB3 | refine Below.setCell ?_ ?_ _ | refine Below.alloc ?_ ?_ _ | refine Below.drew ?_)) <;> (first | omega | (simp <;> omega)))) (hb4.mono (by first | omega | (simp <;> omega)))
  have hs4 : w.heap.size ≤ w4.heap.size := hB4.size
  have ht4 := hb4.size
  try simp only [World.size_alloc, World.size_setCell] at ht4
  have c4_0 : w4.cell? ⟨w.heap.size, 0, none⟩ = some (.int .i64 p.1) := (hb4.cell (p := ⟨w.heap.size, 0, none⟩) (by first | omega | (simp <;> omega))).trans (by first | exact c3_0 | simp [go_sem, c3_0, l3_0a, l3_0b, l3_0c, l3_0d, l3_1a, l3_1b, l3_1c, l3_1d, n3_1_0, m3_1_0])
  have c4_1 : w4.cell? ⟨w.heap.size, 1, none⟩ = some (.int .i64 p.2) := (hb4.cell (p := ⟨w.heap.size, 1, none⟩) (by first | omega | (simp <;> omega))).trans (by first | exact c3_1 | simp [go_sem, c3_1, l3_0a, l3_0b, l3_0c, l3_0d, l3_1a, l3_1b, l3_1c, l3_1d, n3_1_0, m3_1_0])
  have c4_2 : w4.cell? ⟨w0.heap.size, 0, none⟩ = some (.int .i64 (findRes l a).1) := (hb4.cell (p := ⟨w0.heap.size, 0, none⟩) (by first | omega | (simp <;> omega))).trans (by first | exact c3_2 | simp [go_sem, c3_2, l3_0a, l3_0b, l3_0c, l3_0d, l3_1a, l3_1b, l3_1c, l3_1d, n3_1_0, m3_1_0])
  have fc4_2 : w4.frozen? ⟨w0.heap.size, 0, none⟩ = false := (hb4.frozen (p := ⟨w0.heap.size, 0, none⟩) (by first | omega | (simp <;> omega))).trans (by first | exact fc3_2 | simp [go_sem, fc3_2, l3_0a, l3_0b, l3_0c, l3_0d, l3_1a, l3_1b, l3_1c, l3_1d, n3_1_0, m3_1_0])
  have c4_3 : w4.cell? ⟨w0.heap.size, 1, none⟩ = some (.int .i64 (findRes l a).2) := (hb4.cell (p := ⟨w0.heap.size, 1, none⟩) (by first | omega | (simp <;> omega))).trans (by first | exact c3_3 | simp [go_sem, c3_3, l3_0a, l3_0b, l3_0c, l3_0d, l3_1a, l3_1b, l3_1c, l3_1d, n3_1_0, m3_1_0])
  have fc4_3 : w4.frozen? ⟨w0.heap.size, 1, none⟩ = false := (hb4.frozen (p := ⟨w0.heap.size, 1, none⟩) (by first | omega | (simp <;> omega))).trans (by first | exact fc3_3 | simp [go_sem, fc3_3, l3_0a, l3_0b, l3_0c, l3_0d, l3_1a, l3_1b, l3_1c, l3_1d, n3_1_0, m3_1_0])
  have c4_4 : w4.cell? ⟨w3.heap.size, 0, none⟩ = some (.int .i64 (findRes l a).1) := (hb4.cell (p := ⟨w3.heap.size, 0, none⟩) (by first | omega | (simp <;> omega))).trans (by first | (simp; done) | simp [go_sem, l3_0a, l3_0b, l3_0c, l3_0d, l3_1a, l3_1b, l3_1c, l3_1d, n3_1_0, m3_1_0, c3_0, c3_1, c3_2, c3_3, fc3_2, fc3_3])
  have c4_5 : w4.cell? ⟨w3.heap.size, 1, none⟩ = some (.int .i64 (findRes l a).2) := (hb4.cell (p := ⟨w3.heap.size, 1, none⟩) (by first | omega | (simp <;> omega))).trans (by first | (simp; done) | simp [go_sem, l3_0a, l3_0b, l3_0c, l3_0d, l3_1a, l3_1b, l3_1c, l3_1d, n3_1_0, m3_1_0, c3_0, c3_1, c3_2, c3_3, fc3_2, fc3_3])
  have l4_0a : w.heap.size < w4.heap.size := World.block_lt_of_cell? w4 _ c4_0
  have l4_0b : w.heap.size < w4.heap.size + 1 := Nat.lt_succ_of_lt l4_0a
  have l4_0c : w.heap.size < w4.heap.size + 1 + 1 := Nat.lt_succ_of_lt l4_0b
  have l4_0d : w.heap.size < w4.heap.size + 1 + 1 + 1 := Nat.lt_succ_of_lt l4_0c
  have l4_1a : w0.heap.size < w4.heap.size := World.block_lt_of_cell? w4 _ c4_2
  have l4_1b : w0.heap.size < w4.heap.size + 1 := Nat.lt_succ_of_lt l4_1a
  have l4_1c : w0.heap.size < w4.heap.size + 1 + 1 := Nat.lt_succ_of_lt l4_1b
  have l4_1d : w0.heap.size < w4.heap.size + 1 + 1 + 1 := Nat.lt_succ_of_lt l4_1c
  have l4_2a : w3.heap.size < w4.heap.size := World.block_lt_of_cell? w4 _ c4_4
  have l4_2b : w3.heap.size < w4.heap.size + 1 := Nat.lt_succ_of_lt l4_2a
  have l4_2c : w3.heap.size < w4.heap.size + 1 + 1 := Nat.lt_succ_of_lt l4_2b
  have l4_2d : w3.heap.size < w4.heap.size + 1 + 1 + 1 := Nat.lt_succ_of_lt l4_2c
  have n4_1_0 : w0.heap.size ≠ w.heap.size := by omega
  have m4_1_0 : w.heap.size ≠ w0.heap.size := by omega
  have n4_1_2 : w0.heap.size ≠ w3.heap.size := by omega
  have m4_1_2 : w3.heap.size ≠ w0.heap.size := by omega
  clear c3_0 c3_1 c3_2 c3_3 fc3_2 fc3_3 l3_0a l3_0b l3_0c l3_0d l3_1a l3_1b l3_1c l3_1d n3_1_0 m3_1_0 hB3 hb4
  go_wp2_with fail
  refine wp_name ?_
  intro w5 hW5
  have hB5 : Below w.heap.size w w5 := by rw [hW5.out]; exact (by first | exact hB4 | ((repeat' (first | exact hB4 | refine Below.setCell ?_ ?_ _ | refine Below.alloc ?_ ?_ _ | refine Below.drew ?_)) <;> (first | omega | (simp <;> omega))))
  have hs5 : w.heap.size ≤ w5.heap.size := hB5.size
  have ht5 := congrArg (fun x : World => x.heap.size) hW5.out
  try simp only [World.size_alloc, World.size_setCell] at ht5
  have c5_0 : w5.cell? ⟨w.heap.size, 0, none⟩ = some (.int .i64 p.1) := by rw [hW5.out]; first | exact c4_0 | simp [go_sem, c4_0, l4_0a, l4_0b, l4_0c, l4_0d, l4_1a, l4_1b, l4_1c, l4_1d, l4_2a, l4_2b, l4_2c, l4_2d, n4_1_0, m4_1_0, n4_1_2, m4_1_2]
  have c5_1 : w5.cell? ⟨w.heap.size, 1, none⟩ = some (.int .i64 p.2) := by rw [hW5.out]; first | exact c4_1 | simp [go_sem, c4_1, l4_0a, l4_0b, l4_0c, l4_0d, l4_1a, l4_1b, l4_1c, l4_1d, l4_2a, l4_2b, l4_2c, l4_2d, n4_1_0, m4_1_0, n4_1_2, m4_1_2]
  have c5_2 : w5.cell? ⟨w0.heap.size, 0, none⟩ = some (.int .i64 (findRes l a).1) := by rw [hW5.out]; first | exact c4_2 | simp [go_sem, c4_2, l4_0a, l4_0b, l4_0c, l4_0d, l4_1a, l4_1b, l4_1c, l4_1d, l4_2a, l4_2b, l4_2c, l4_2d, n4_1_0, m4_1_0, n4_1_2, m4_1_2]
  have fc5_2 : w5.frozen? ⟨w0.heap.size, 0, none⟩ = false := by rw [hW5.out]; first | exact fc4_2 | simp [go_sem, fc4_2, l4_0a, l4_0b, l4_0c, l4_0d, l4_1a, l4_1b, l4_1c, l4_1d, l4_2a, l4_2b, l4_2c, l4_2d, n4_1_0, m4_1_0, n4_1_2, m4_1_2]
  have c5_3 : w5.cell? ⟨w0.heap.size, 1, none⟩ = some (.int .i64 (findRes l a).2) := by rw [hW5.out]; first | exact c4_3 | simp [go_sem, c4_3, l4_0a, l4_0b, l4_0c, l4_0d, l4_1a, l4_1b, l4_1c, l4_1d, l4_2a, l4_2b, l4_2c, l4_2d, n4_1_0, m4_1_0, n4_1_2, m4_1_2]
  have fc5_3 : w5.frozen? ⟨w0.heap.size, 1, none⟩ = false := by rw [hW5.out]; first | exact fc4_3 | simp [go_sem, fc4_3, l4_0a, l4_0b, l4_0c, l4_0d, l4_1a, l4_1b, l4_1c, l4_1d, l4_2a, l4_2b, l4_2c, l4_2d, n4_1_0, m4_1_0, n4_1_2, m4_1_2]
  have c5_4 : w5.cell? ⟨w3.heap.size, 0, none⟩ = some (.int .i64 (findRes l a).1) := by rw [hW5.out]; first | exact c4_4 | simp [go_sem, c4_4, l4_0a, l4_0b, l4_0c, l4_0d, l4_1a, l4_1b, l4_1c, l4_1d, l4_2a, l4_2b, l4_2c, l4_2d, n4_1_0, m4_1_0, n4_1_2, m4_1_2]
  have c5_5 : w5.cell? ⟨w3.heap.size, 1, none⟩ = some (.int .i64 (findRes l a).2) := by rw [hW5.out]; first | exact c4_5 | simp [go_sem, c4_5, l4_0a, l4_0b, l4_0c, l4_0d, l4_1a, l4_1b, l4_1c, l4_1d, l4_2a, l4_2b, l4_2c, l4_2d, n4_1_0, m4_1_0, n4_1_2, m4_1_2]
  have l5_0a : w.heap.size < w5.heap.size := World.block_lt_of_cell? w5 _ c5_0
  have l5_0b : w.heap.size < w5.heap.size + 1 := Nat.lt_succ_of_lt l5_0a
  have l5_0c : w.heap.size < w5.heap.size + 1 + 1 := Nat.lt_succ_of_lt l5_0b
  have l5_0d : w.heap.size < w5.heap.size + 1 + 1 + 1 := Nat.lt_succ_of_lt l5_0c
  have l5_1a : w0.heap.size < w5.heap.size := World.block_lt_of_cell? w5 _ c5_2
  have l5_1b : w0.heap.size < w5.heap.size + 1 := Nat.lt_succ_of_lt l5_1a
  have l5_1c : w0.heap.size < w5.heap.size + 1 + 1 := Nat.lt_succ_of_lt l5_1b
  have l5_1d : w0.heap.size < w5.heap.size + 1 + 1 + 1 := Nat.lt_succ_of_lt l5_1c
  have l5_2a : w3.heap.size < w5.heap.size := World.block_lt_of_cell? w5 _ c5_4
  have l5_2b : w3.heap.size < w5.heap.size + 1 := Nat.lt_succ_of_lt l5_2a
  have l5_2c : w3.heap.size < w5.heap.size + 1 + 1 := Nat.lt_succ_of_lt l5_2b
  have l5_2d : w3.heap.size < w5.heap.size + 1 + 1 + 1 := Nat.lt_succ_of_lt l5_2c
  have n5_1_0 : w0.heap.size ≠ w.heap.size := by omega
  have m5_1_0 : w.heap.size ≠ w0.heap.size := by omega
  have n5_1_2 : w0.heap.size ≠ w3.heap.size := by omega
  have m5_1_2 : w3.heap.size ≠ w0.heap.size := by omega
  have hu5 := Nat.le_of_eq ht5
  have hv5 := Nat.le_of_eq ht5.symm
  clear ht5 c4_0 c4_1 c4_2 c4_3 c4_4 c4_5 fc4_2 fc4_3 l4_0a l4_0b l4_0c l4_0d l4_1a l4_1b l4_1c l4_1d l4_2a l4_2b l4_2c l4_2d n4_1_0 m4_1_0 n4_1_2 m4_1_2 hB4 hW5
  exact HR.out _ _ (TImid.mk 0 (by kernel_rfl) ⟨HT.out.symm, hB5, c5_0, c5_1⟩)
end Go.Proofs.YtcgeagobndhpjaaDoor
