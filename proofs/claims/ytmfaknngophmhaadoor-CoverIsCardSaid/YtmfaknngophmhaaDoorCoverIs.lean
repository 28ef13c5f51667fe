/- The law CoverIs, its parts and the walk. Any span, any lists. -/
import Derived.Test.YtmfaknngophmhaaDoorCoverIs0
namespace Go.Proofs.YtmfaknngophmhaaDoor
set_option linter.unusedVariables false
set_option linter.unusedSimpArgs false
open Go.RowKit

set_option maxRecDepth 100000 in
set_option maxHeartbeats 8000000 in
theorem coverIs_1a (s : Sp) (A : Option Addr) (l : List Sp) (c : Nat) (B : Option Addr) (p : List Pf) (d : Nat) (hm : l.length ≤ maxLen) (hmp : p.length ≤ maxLen) (w : World) (hg : ErrVar w) (ht : TabVar w) (hl : Rd w w.heap.size A (cellsP l)) (hp : Rd w w.heap.size B (cellsP p)) (hs : spanFault s = 0) (R : Ending → World → Prop)
    (h : ∀ a' w', CImid A l c B p d w a' w' → (tailN 8 (Tryd.f4.body.getD .skip)).wp Tryd.prog (bodyPost Tryd.prog Tryd.f4 R) a' w') :
    Calls Tryd.prog 4 #[.agg #[.int .i64 s.1, .int .i64 s.2], .slice A l.length c, .slice B p.length d] w R := by
  have HG := Lib.hid hg
  have HT := Lib.hid ht
  clear hg ht
  have hlen : (cover s.1 s.2).length ≤ maxLen := by
    have h3 := spanFault_zero.1 hs
    have h2 := cover_len s.1 s.2
    unfold maxA at h3
    unfold maxLen
    omega
  have HS := Lib.hid (show spanFault (s.1, s.2) = 0 from hs)
  clear hs
  go_enter Tryd.func4, Tryd.ntmps4
  refine wp_cut 8 (CImid A l c B p d w) (by rfl) ?_ h
  clear h
  intro r HR
  dsimp only [putN]
  go_wp2_with fail
  refine (spanFaultRef_any s.1 s.2 _).mono ?_
  rintro e w1 ⟨rfl, hb1⟩
  have hB1 : Below w.heap.size w w1 := Below.trans (by first | exact Below.refl _ _ | ((repeat' (first | exact Below.refl _ _ | refine Below.setCell ?_ ?_ _ | refine Below.alloc ?_ ?_ _ | refine Below.drew ?_)) <;> (first | omega | (simp <;> omega)))) (hb1.mono (by first | omega | (simp <;> omega)))
  have hs1 : w.heap.size ≤ w1.heap.size := hB1.size
  have ht1 := hb1.size
  try simp only [World.size_alloc, World.size_setCell] at ht1
  have c1_0 : w1.cell? ⟨w.heap.size, 0, none⟩ = some (.int .i64 s.1) := (hb1.cell (p := ⟨w.heap.size, 0, none⟩) (by first | omega | (simp <;> omega))).trans (by first | (simp; done) | simp [go_sem])
  have c1_1 : w1.cell? ⟨w.heap.size, 1, none⟩ = some (.int .i64 s.2) := (hb1.cell (p := ⟨w.heap.size, 1, none⟩) (by first | omega | (simp <;> omega))).trans (by first | (simp; done) | simp [go_sem])
  have l1_0a : w.heap.size < w1.heap.size := World.block_lt_of_cell? w1 _ c1_0
  have l1_0b : w.heap.size < w1.heap.size + 1 := Nat.lt_succ_of_lt l1_0a
  have l1_0c : w.heap.size < w1.heap.size + 1 + 1 := Nat.lt_succ_of_lt l1_0b
  have l1_0d : w.heap.size < w1.heap.size + 1 + 1 + 1 := Nat.lt_succ_of_lt l1_0c
  clear hb1
  rw [HS.out]
  go_wp2_with fail
  refine (covers_one s HS.out _).mono ?_
  rintro e w2 ⟨v2, rfl, hown2, hb2⟩
  have hB2 : Below w.heap.size w w2 := Below.trans (by first | exact hB1 | ((repeat' (first | exact hB1 | refine Below.setCell ?_ ?_ _ | refine Below.alloc ?_ ?_ _ | refine Below.drew ?_)) <;> (first | omega | (simp <;> omega)))) (hb2.mono (by first | omega | (simp <;> omega)))
  have hs2 : w.heap.size ≤ w2.heap.size := hB2.size
  have ht2 := hb2.size
  try simp only [World.size_alloc, World.size_setCell] at ht2
  have c2_0 : w2.cell? ⟨w.heap.size, 0, none⟩ = some (.int .i64 s.1) := (hb2.cell (p := ⟨w.heap.size, 0, none⟩) (by first | omega | (simp <;> omega))).trans (by first | exact c1_0 | simp [go_sem, c1_0, l1_0a, l1_0b, l1_0c, l1_0d])
  have c2_1 : w2.cell? ⟨w.heap.size, 1, none⟩ = some (.int .i64 s.2) := (hb2.cell (p := ⟨w.heap.size, 1, none⟩) (by first | omega | (simp <;> omega))).trans (by first | exact c1_1 | simp [go_sem, c1_1, l1_0a, l1_0b, l1_0c, l1_0d])
  have l2_0a : w.heap.size < w2.heap.size := World.block_lt_of_cell? w2 _ c2_0
  have l2_0b : w.heap.size < w2.heap.size + 1 := Nat.lt_succ_of_lt l2_0a
  have l2_0c : w.heap.size < w2.heap.size + 1 + 1 := Nat.lt_succ_of_lt l2_0b
  have l2_0d : w.heap.size < w2.heap.size + 1 + 1 + 1 := Nat.lt_succ_of_lt l2_0c
  clear c1_0 c1_1 l1_0a l1_0b l1_0c l1_0d hB1 hb2
  obtain ⟨X, hX⟩ : ∃ X, X = cover s.1 s.2 := ⟨_, rfl⟩
  rw [← hX] at hown2
  have HX := Lib.hid hX
  clear hX
  obtain ⟨A2, c2, rfl, hr2⟩ := hown2.form
  clear hown2
  go_wp2_with fail
  refine (of_ok s HS.out _ (by exact HT.out.belowB (show Below w.heap.size w _ from (by first | exact hB2 | ((repeat' (first | exact hB2 | refine Below.setCell ?_ ?_ _ | refine Below.alloc ?_ ?_ _ | refine Below.drew ?_)) <;> (first | omega | (simp <;> omega))))) HT.out.lt)).mono ?_
  rintro e w3 ⟨v3, rfl, hown3, hb3⟩
  have hB3 : Below w.heap.size w w3 := Below.trans (by first | exact hB2 | ((repeat' (first | exact hB2 | refine Below.setCell ?_ ?_ _ | refine Below.alloc ?_ ?_ _ | refine Below.drew ?_)) <;> (first | omega | (simp <;> omega)))) (hb3.mono (by first | omega | (simp <;> omega)))
  have hs3 : w.heap.size ≤ w3.heap.size := hB3.size
  have ht3 := hb3.size
  try simp only [World.size_alloc, World.size_setCell] at ht3
  have c3_0 : w3.cell? ⟨w.heap.size, 0, none⟩ = some (.int .i64 s.1) := (hb3.cell (p := ⟨w.heap.size, 0, none⟩) (by first | omega | (simp <;> omega))).trans (by first | exact c2_0 | simp [go_sem, c2_0, l2_0a, l2_0b, l2_0c, l2_0d])
  have c3_1 : w3.cell? ⟨w.heap.size, 1, none⟩ = some (.int .i64 s.2) := (hb3.cell (p := ⟨w.heap.size, 1, none⟩) (by first | omega | (simp <;> omega))).trans (by first | exact c2_1 | simp [go_sem, c2_1, l2_0a, l2_0b, l2_0c, l2_0d])
  have l3_0a : w.heap.size < w3.heap.size := World.block_lt_of_cell? w3 _ c3_0
  have l3_0b : w.heap.size < w3.heap.size + 1 := Nat.lt_succ_of_lt l3_0a
  have l3_0c : w.heap.size < w3.heap.size + 1 + 1 := Nat.lt_succ_of_lt l3_0b
  have l3_0d : w.heap.size < w3.heap.size + 1 + 1 + 1 := Nat.lt_succ_of_lt l3_0c
  have hkw2_3 : Below w2.heap.size w2 w3 := Below.trans (by first | exact Below.refl _ _ | ((repeat' (first | exact Below.refl _ _ | refine Below.setCell ?_ ?_ _ | refine Below.alloc ?_ ?_ _ | refine Below.drew ?_)) <;> (first | omega | (simp <;> omega)))) (hb3.mono (by first | omega | (simp <;> omega)))
  clear c2_0 c2_1 l2_0a l2_0b l2_0c l2_0d hB2 hb3
  obtain ⟨Y, hY⟩ : ∃ Y, Y = cover s.1 s.2 := ⟨_, rfl⟩
  rw [← hY] at hown3
  have HY := Lib.hid hY
  clear hY
  obtain ⟨A3, c3, rfl, hr3⟩ := hown3.form
  clear hown3
  go_wp2_with fail
  refine (error_nil0 _ (by exact HG.out.belowB (show Below w.heap.size w _ from (by first | exact hB3 | ((repeat' (first | exact hB3 | refine Below.setCell ?_ ?_ _ | refine Below.alloc ?_ ?_ _ | refine Below.drew ?_)) <;> (first | omega | (simp <;> omega))))) HG.out.lt)).mono ?_
  rintro e w4 ⟨rfl, hb4⟩
  have hB4 : Below w.heap.size w w4 := Below.trans (by first | exact hB3 | ((repeat' (first | exact hB3 | refine Below.setCell ?_ ?_ _ | refine Below.alloc ?_ ?_ _ | refine Below.drew ?_)) <;> (first | omega | (simp <;> omega)))) (hb4.mono (by first | omega | (simp <;> omega)))
  have hs4 : w.heap.size ≤ w4.heap.size := hB4.size
  have ht4 := hb4.size
  try simp only [World.size_alloc, World.size_setCell] at ht4
  have c4_0 : w4.cell? ⟨w.heap.size, 0, none⟩ = some (.int .i64 s.1) := (hb4.cell (p := ⟨w.heap.size, 0, none⟩) (by first | omega | (simp <;> omega))).trans (by first | exact c3_0 | simp [go_sem, c3_0, l3_0a, l3_0b, l3_0c, l3_0d])
  have c4_1 : w4.cell? ⟨w.heap.size, 1, none⟩ = some (.int .i64 s.2) := (hb4.cell (p := ⟨w.heap.size, 1, none⟩) (by first | omega | (simp <;> omega))).trans (by first | exact c3_1 | simp [go_sem, c3_1, l3_0a, l3_0b, l3_0c, l3_0d])
  have l4_0a : w.heap.size < w4.heap.size := World.block_lt_of_cell? w4 _ c4_0
  have l4_0b : w.heap.size < w4.heap.size + 1 := Nat.lt_succ_of_lt l4_0a
  have l4_0c : w.heap.size < w4.heap.size + 1 + 1 := Nat.lt_succ_of_lt l4_0b
  have l4_0d : w.heap.size < w4.heap.size + 1 + 1 + 1 := Nat.lt_succ_of_lt l4_0c
  have hkw2_4 : Below w2.heap.size w2 w4 := Below.trans (by first | exact hkw2_3 | ((repeat' (first | exact hkw2_3 | refine Below.setCell ?_ ?_ _ | refine Below.alloc ?_ ?_ _ | refine Below.drew ?_)) <;> (first | omega | (simp <;> omega)))) (hb4.mono (by first | omega | (simp <;> omega)))
  have hkw3_4 : Below w3.heap.size w3 w4 := Below.trans (by first | exact Below.refl _ _ | ((repeat' (first | exact Below.refl _ _ | refine Below.setCell ?_ ?_ _ | refine Below.alloc ?_ ?_ _ | refine Below.drew ?_)) <;> (first | omega | (simp <;> omega)))) (hb4.mono (by first | omega | (simp <;> omega)))
  clear c3_0 c3_1 l3_0a l3_0b l3_0c l3_0d hkw2_3 hB3 hb4
  go_wp2_with fail
  refine (prefixes_same A3 A2 Y X _ _ c3 c2 rfl rfl (by rw [HY.out]; exact hlen) (by rw [HX.out, HY.out]) _ ((hr3.below (show Below w3.heap.size w3 _ from (by first | exact hkw3_4 | ((repeat' (first | exact hkw3_4 | refine Below.setCell ?_ ?_ _ | refine Below.alloc ?_ ?_ _ | refine Below.drew ?_)) <;> (first | omega | (simp <;> omega)))))).more (show w3.heap.size ≤ _ from by first | omega | (simp <;> omega))) ((hr2.below (show Below w2.heap.size w2 _ from (by first | exact hkw2_4 | ((repeat' (first | exact hkw2_4 | refine Below.setCell ?_ ?_ _ | refine Below.alloc ?_ ?_ _ | refine Below.drew ?_)) <;> (first | omega | (simp <;> omega)))))).more (show w2.heap.size ≤ _ from by first | omega | (simp <;> omega)))).mono ?_
  rintro e w5 ⟨rfl, hb5⟩
  have hB5 : Below w.heap.size w w5 := Below.trans (by first | exact hB4 | ((repeat' (first | exact hB4 | refine Below.setCell ?_ ?_ _ | refine Below.alloc ?_ ?_ _ | refine Below.drew ?_)) <;> (first | omega | (simp <;> omega)))) (hb5.mono (by first | omega | (simp <;> omega)))
  have hs5 : w.heap.size ≤ w5.heap.size := hB5.size
  have ht5 := hb5.size
  try simp only [World.size_alloc, World.size_setCell] at ht5
  have c5_0 : w5.cell? ⟨w.heap.size, 0, none⟩ = some (.int .i64 s.1) := (hb5.cell (p := ⟨w.heap.size, 0, none⟩) (by first | omega | (simp <;> omega))).trans (by first | exact c4_0 | simp [go_sem, c4_0, l4_0a, l4_0b, l4_0c, l4_0d])
  have c5_1 : w5.cell? ⟨w.heap.size, 1, none⟩ = some (.int .i64 s.2) := (hb5.cell (p := ⟨w.heap.size, 1, none⟩) (by first | omega | (simp <;> omega))).trans (by first | exact c4_1 | simp [go_sem, c4_1, l4_0a, l4_0b, l4_0c, l4_0d])
  have l5_0a : w.heap.size < w5.heap.size := World.block_lt_of_cell? w5 _ c5_0
  have l5_0b : w.heap.size < w5.heap.size + 1 := Nat.lt_succ_of_lt l5_0a
  have l5_0c : w.heap.size < w5.heap.size + 1 + 1 := Nat.lt_succ_of_lt l5_0b
  have l5_0d : w.heap.size < w5.heap.size + 1 + 1 + 1 := Nat.lt_succ_of_lt l5_0c
  have hkw2_5 : Below w2.heap.size w2 w5 := Below.trans (by first | exact hkw2_4 | ((repeat' (first | exact hkw2_4 | refine Below.setCell ?_ ?_ _ | refine Below.alloc ?_ ?_ _ | refine Below.drew ?_)) <;> (first | omega | (simp <;> omega)))) (hb5.mono (by first | omega | (simp <;> omega)))
  have hkw3_5 : Below w3.heap.size w3 w5 := Below.trans (by first | exact hkw3_4 | ((repeat' (first | exact hkw3_4 | refine Below.setCell ?_ ?_ _ | refine Below.alloc ?_ ?_ _ | refine Below.drew ?_)) <;> (first | omega | (simp <;> omega)))) (hb5.mono (by first | omega | (simp <;> omega)))
  clear c4_0 c4_1 l4_0a l4_0b l4_0c l4_0d hkw2_4 hkw3_4 hB4 hb5
  go_wp2_with fail
  refine wp_name ?_
  intro w6 hW6
  have hB6 : Below w.heap.size w w6 := by rw [hW6.out]; exact (by first | exact hB5 | ((repeat' (first | exact hB5 | refine Below.setCell ?_ ?_ _ | refine Below.alloc ?_ ?_ _ | refine Below.drew ?_)) <;> (first | omega | (simp <;> omega))))
  have hs6 : w.heap.size ≤ w6.heap.size := hB6.size
  have ht6 := congrArg (fun x : World => x.heap.size) hW6.out
  try simp only [World.size_alloc, World.size_setCell] at ht6
  have c6_0 : w6.cell? ⟨w.heap.size, 0, none⟩ = some (.int .i64 s.1) := by rw [hW6.out]; first | exact c5_0 | simp [go_sem, c5_0, l5_0a, l5_0b, l5_0c, l5_0d]
  have c6_1 : w6.cell? ⟨w.heap.size, 1, none⟩ = some (.int .i64 s.2) := by rw [hW6.out]; first | exact c5_1 | simp [go_sem, c5_1, l5_0a, l5_0b, l5_0c, l5_0d]
  have l6_0a : w.heap.size < w6.heap.size := World.block_lt_of_cell? w6 _ c6_0
  have l6_0b : w.heap.size < w6.heap.size + 1 := Nat.lt_succ_of_lt l6_0a
  have l6_0c : w.heap.size < w6.heap.size + 1 + 1 := Nat.lt_succ_of_lt l6_0b
  have l6_0d : w.heap.size < w6.heap.size + 1 + 1 + 1 := Nat.lt_succ_of_lt l6_0c
  have hkw2_6 : Below w2.heap.size w2 w6 := by rw [hW6.out]; exact (by first | exact hkw2_5 | ((repeat' (first | exact hkw2_5 | refine Below.setCell ?_ ?_ _ | refine Below.alloc ?_ ?_ _ | refine Below.drew ?_)) <;> (first | omega | (simp <;> omega))))
  have hkw3_6 : Below w3.heap.size w3 w6 := by rw [hW6.out]; exact (by first | exact hkw3_5 | ((repeat' (first | exact hkw3_5 | refine Below.setCell ?_ ?_ _ | refine Below.alloc ?_ ?_ _ | refine Below.drew ?_)) <;> (first | omega | (simp <;> omega))))
  have hu6 := Nat.le_of_eq ht6
  have hv6 := Nat.le_of_eq ht6.symm
  clear ht6 c5_0 c5_1 l5_0a l5_0b l5_0c l5_0d hkw2_5 hkw3_5 hB5 hW6
  exact HR.out _ _ (CImid.mk (by kernel_rfl) hB6)
set_option maxRecDepth 100000 in
set_option maxHeartbeats 8000000 in
theorem coverIs_1b (s : Sp) (A : Option Addr) (l : List Sp) (c : Nat) (B : Option Addr) (p : List Pf) (d : Nat) (hm : l.length ≤ maxLen) (hmp : p.length ≤ maxLen) (w : World) (hg : ErrVar w) (ht : TabVar w) (hl : Rd w w.heap.size A (cellsP l)) (hp : Rd w w.heap.size B (cellsP p)) (hs : spanFault s ≠ 0) (R : Ending → World → Prop)
    (h : ∀ a' w', CImid A l c B p d w a' w' → (tailN 8 (Tryd.f4.body.getD .skip)).wp Tryd.prog (bodyPost Tryd.prog Tryd.f4 R) a' w') :
    Calls Tryd.prog 4 #[.agg #[.int .i64 s.1, .int .i64 s.2], .slice A l.length c, .slice B p.length d] w R := by
  have HG := Lib.hid hg
  have HT := Lib.hid ht
  clear hg ht
  have hz : (spanFault (s.1, s.2) == 0) = false := by simpa using hs
  have HS := Lib.hid (show spanFault (s.1, s.2) ≠ 0 from hs)
  clear hs
  go_enter Tryd.func4, Tryd.ntmps4
  refine wp_cut 8 (CImid A l c B p d w) (by rfl) ?_ h
  clear h
  intro r HR
  dsimp only [putN]
  go_wp2_with fail
  refine (spanFaultRef_any s.1 s.2 _).mono ?_
  rintro e w1 ⟨rfl, hb1⟩
  have hB1 : Below w.heap.size w w1 := Below.trans (by first | exact Below.refl _ _ | ((repeat' (first | exact Below.refl _ _ | refine Below.setCell ?_ ?_ _ | refine Below.alloc ?_ ?_ _ | refine Below.drew ?_)) <;> (first | omega | (simp <;> omega)))) (hb1.mono (by first | omega | (simp <;> omega)))
  have hs1 : w.heap.size ≤ w1.heap.size := hB1.size
  have ht1 := hb1.size
  try simp only [World.size_alloc, World.size_setCell] at ht1
  have c1_0 : w1.cell? ⟨w.heap.size, 0, none⟩ = some (.int .i64 s.1) := (hb1.cell (p := ⟨w.heap.size, 0, none⟩) (by first | omega | (simp <;> omega))).trans (by first | (simp; done) | simp [go_sem])
  have c1_1 : w1.cell? ⟨w.heap.size, 1, none⟩ = some (.int .i64 s.2) := (hb1.cell (p := ⟨w.heap.size, 1, none⟩) (by first | omega | (simp <;> omega))).trans (by first | (simp; done) | simp [go_sem])
  have l1_0a : w.heap.size < w1.heap.size := World.block_lt_of_cell? w1 _ c1_0
  have l1_0b : w.heap.size < w1.heap.size + 1 := Nat.lt_succ_of_lt l1_0a
  have l1_0c : w.heap.size < w1.heap.size + 1 + 1 := Nat.lt_succ_of_lt l1_0b
  have l1_0d : w.heap.size < w1.heap.size + 1 + 1 + 1 := Nat.lt_succ_of_lt l1_0c
  clear hb1
  go_wp2_with fail
  refine (of_bad s HS.out _).mono ?_
  rintro e w2 ⟨rfl, hb2⟩
  have hB2 : Below w.heap.size w w2 := Below.trans (by first | exact hB1 | ((repeat' (first | exact hB1 | refine Below.setCell ?_ ?_ _ | refine Below.alloc ?_ ?_ _ | refine Below.drew ?_)) <;> (first | omega | (simp <;> omega)))) (hb2.mono (by first | omega | (simp <;> omega)))
  have hs2 : w.heap.size ≤ w2.heap.size := hB2.size
  have ht2 := hb2.size
  try simp only [World.size_alloc, World.size_setCell] at ht2
  have c2_0 : w2.cell? ⟨w.heap.size, 0, none⟩ = some (.int .i64 s.1) := (hb2.cell (p := ⟨w.heap.size, 0, none⟩) (by first | omega | (simp <;> omega))).trans (by first | exact c1_0 | simp [go_sem, c1_0, l1_0a, l1_0b, l1_0c, l1_0d])
  have c2_1 : w2.cell? ⟨w.heap.size, 1, none⟩ = some (.int .i64 s.2) := (hb2.cell (p := ⟨w.heap.size, 1, none⟩) (by first | omega | (simp <;> omega))).trans (by first | exact c1_1 | simp [go_sem, c1_1, l1_0a, l1_0b, l1_0c, l1_0d])
  have l2_0a : w.heap.size < w2.heap.size := World.block_lt_of_cell? w2 _ c2_0
  have l2_0b : w.heap.size < w2.heap.size + 1 := Nat.lt_succ_of_lt l2_0a
  have l2_0c : w.heap.size < w2.heap.size + 1 + 1 := Nat.lt_succ_of_lt l2_0b
  have l2_0d : w.heap.size < w2.heap.size + 1 + 1 + 1 := Nat.lt_succ_of_lt l2_0c
  clear c1_0 c1_1 l1_0a l1_0b l1_0c l1_0d hB1 hb2
  go_wp2_with fail
  refine (error_same _ HS.out _ (by exact HG.out.belowB (show Below w.heap.size w _ from (by first | exact hB2 | ((repeat' (first | exact hB2 | refine Below.setCell ?_ ?_ _ | refine Below.alloc ?_ ?_ _ | refine Below.drew ?_)) <;> (first | omega | (simp <;> omega))))) HG.out.lt)).mono ?_
  rintro e w3 ⟨rfl, hb3⟩
  have hB3 : Below w.heap.size w w3 := Below.trans (by first | exact hB2 | ((repeat' (first | exact hB2 | refine Below.setCell ?_ ?_ _ | refine Below.alloc ?_ ?_ _ | refine Below.drew ?_)) <;> (first | omega | (simp <;> omega)))) (hb3.mono (by first | omega | (simp <;> omega)))
  have hs3 : w.heap.size ≤ w3.heap.size := hB3.size
  have ht3 := hb3.size
  try simp only [World.size_alloc, World.size_setCell] at ht3
  have c3_0 : w3.cell? ⟨w.heap.size, 0, none⟩ = some (.int .i64 s.1) := (hb3.cell (p := ⟨w.heap.size, 0, none⟩) (by first | omega | (simp <;> omega))).trans (by first | exact c2_0 | simp [go_sem, c2_0, l2_0a, l2_0b, l2_0c, l2_0d])
  have c3_1 : w3.cell? ⟨w.heap.size, 1, none⟩ = some (.int .i64 s.2) := (hb3.cell (p := ⟨w.heap.size, 1, none⟩) (by first | omega | (simp <;> omega))).trans (by first | exact c2_1 | simp [go_sem, c2_1, l2_0a, l2_0b, l2_0c, l2_0d])
  have l3_0a : w.heap.size < w3.heap.size := World.block_lt_of_cell? w3 _ c3_0
  have l3_0b : w.heap.size < w3.heap.size + 1 := Nat.lt_succ_of_lt l3_0a
  have l3_0c : w.heap.size < w3.heap.size + 1 + 1 := Nat.lt_succ_of_lt l3_0b
  have l3_0d : w.heap.size < w3.heap.size + 1 + 1 + 1 := Nat.lt_succ_of_lt l3_0c
  clear c2_0 c2_1 l2_0a l2_0b l2_0c l2_0d hB2 hb3
  go_wp2_with fail
  refine (prefixes_nil _).mono ?_
  rintro e w4 ⟨rfl, hb4⟩
  have hB4 : Below w.heap.size w w4 := Below.trans (by first | exact hB3 | ((repeat' (first | exact hB3 | refine Below.setCell ?_ ?_ _ | refine Below.alloc ?_ ?_ _ | refine Below.drew ?_)) <;> (first | omega | (simp <;> omega)))) (hb4.mono (by first | omega | (simp <;> omega)))
  have hs4 : w.heap.size ≤ w4.heap.size := hB4.size
  have ht4 := hb4.size
  try simp only [World.size_alloc, World.size_setCell] at ht4
  have c4_0 : w4.cell? ⟨w.heap.size, 0, none⟩ = some (.int .i64 s.1) := (hb4.cell (p := ⟨w.heap.size, 0, none⟩) (by first | omega | (simp <;> omega))).trans (by first | exact c3_0 | simp [go_sem, c3_0, l3_0a, l3_0b, l3_0c, l3_0d])
  have c4_1 : w4.cell? ⟨w.heap.size, 1, none⟩ = some (.int .i64 s.2) := (hb4.cell (p := ⟨w.heap.size, 1, none⟩) (by first | omega | (simp <;> omega))).trans (by first | exact c3_1 | simp [go_sem, c3_1, l3_0a, l3_0b, l3_0c, l3_0d])
  have l4_0a : w.heap.size < w4.heap.size := World.block_lt_of_cell? w4 _ c4_0
  have l4_0b : w.heap.size < w4.heap.size + 1 := Nat.lt_succ_of_lt l4_0a
  have l4_0c : w.heap.size < w4.heap.size + 1 + 1 := Nat.lt_succ_of_lt l4_0b
  have l4_0d : w.heap.size < w4.heap.size + 1 + 1 + 1 := Nat.lt_succ_of_lt l4_0c
  clear c3_0 c3_1 l3_0a l3_0b l3_0c l3_0d hB3 hb4
  go_wp2_with fail
  refine wp_name ?_
  intro w5 hW5
  have hB5 : Below w.heap.size w w5 := by rw [hW5.out]; exact (by first | exact hB4 | ((repeat' (first | exact hB4 | refine Below.setCell ?_ ?_ _ | refine Below.alloc ?_ ?_ _ | refine Below.drew ?_)) <;> (first | omega | (simp <;> omega))))
  have hs5 : w.heap.size ≤ w5.heap.size := hB5.size
  have ht5 := congrArg (fun x : World => x.heap.size) hW5.out
  try simp only [World.size_alloc, World.size_setCell] at ht5
  have c5_0 : w5.cell? ⟨w.heap.size, 0, none⟩ = some (.int .i64 s.1) := by rw [hW5.out]; first | exact c4_0 | simp [go_sem, c4_0, l4_0a, l4_0b, l4_0c, l4_0d]
  have c5_1 : w5.cell? ⟨w.heap.size, 1, none⟩ = some (.int .i64 s.2) := by rw [hW5.out]; first | exact c4_1 | simp [go_sem, c4_1, l4_0a, l4_0b, l4_0c, l4_0d]
  have l5_0a : w.heap.size < w5.heap.size := World.block_lt_of_cell? w5 _ c5_0
  have l5_0b : w.heap.size < w5.heap.size + 1 := Nat.lt_succ_of_lt l5_0a
  have l5_0c : w.heap.size < w5.heap.size + 1 + 1 := Nat.lt_succ_of_lt l5_0b
  have l5_0d : w.heap.size < w5.heap.size + 1 + 1 + 1 := Nat.lt_succ_of_lt l5_0c
  have hu5 := Nat.le_of_eq ht5
  have hv5 := Nat.le_of_eq ht5.symm
  clear ht5 c4_0 c4_1 l4_0a l4_0b l4_0c l4_0d hB4 hW5
  exact HR.out _ _ (CImid.mk (by kernel_rfl) hB5)
set_option maxRecDepth 100000 in
set_option maxHeartbeats 8000000 in
theorem coverIs_2a (A : Option Addr) (l : List Sp) (c : Nat) (B : Option Addr) (p : List Pf) (d : Nat) (hm : l.length ≤ maxLen) (hmp : p.length ≤ maxLen) (w : World) (hg : ErrVar w) (ht : TabVar w) (hl : Rd w w.heap.size A (cellsP l)) (hp : Rd w w.heap.size B (cellsP p)) (hs : setFault l ≠ 0) (Q : Exit → Act → World → Prop) (s0 : Act) (w0 : World) (h0 : CImid A l c B p d w s0 w0)
    (h : ∀ a' w', CImid A l c B p d w a' w' → (tailN 7 (tailN 8 (Tryd.f4.body.getD .skip))).wp Tryd.prog Q a' w') :
    (tailN 8 (Tryd.f4.body.getD .skip)).wp Tryd.prog Q s0 w0 := by
  have HG := Lib.hid hg
  have HT := Lib.hid ht
  clear hg ht
  have hz : (setFault l == 0) = false := by simpa using hs
  have HS := Lib.hid hs
  clear hs
  obtain ⟨U, rfl, hB0⟩ := h0
  refine wp_cut 7 (CImid A l c B p d w) (by rfl) ?_ h
  clear h
  intro r HR
  dsimp only [Tryd.f4, Option.getD, tailN, putN]
  have hs0 := hB0.size
  go_wp2_with fail
  refine (setFaultRef_any A l c hm _ ((hl.below (show Below w.heap.size w _ from (by first | exact hB0 | ((repeat' (first | exact hB0 | refine Below.setCell ?_ ?_ _ | refine Below.alloc ?_ ?_ _ | refine Below.drew ?_)) <;> (first | omega | (simp <;> omega)))))).more (show w.heap.size ≤ _ from by first | omega | (simp <;> omega)))).mono ?_
  rintro e w1 ⟨rfl, hb1⟩
  have hB1 : Below w.heap.size w w1 := Below.trans (by first | exact hB0 | ((repeat' (first | exact hB0 | refine Below.setCell ?_ ?_ _ | refine Below.alloc ?_ ?_ _ | refine Below.drew ?_)) <;> (first | omega | (simp <;> omega)))) (hb1.mono (by first | omega | (simp <;> omega)))
  have hs1 : w.heap.size ≤ w1.heap.size := hB1.size
  have ht1 := hb1.size
  try simp only [World.size_alloc, World.size_setCell] at ht1
  clear hB0 hb1
  go_wp2_with fail
  refine (setP_bad A l c hm HS.out _ ((hl.below (show Below w.heap.size w _ from (by first | exact hB1 | ((repeat' (first | exact hB1 | refine Below.setCell ?_ ?_ _ | refine Below.alloc ?_ ?_ _ | refine Below.drew ?_)) <;> (first | omega | (simp <;> omega)))))).more (show w.heap.size ≤ _ from by first | omega | (simp <;> omega)))).mono ?_
  rintro e w2 ⟨rfl, hb2⟩
  have hB2 : Below w.heap.size w w2 := Below.trans (by first | exact hB1 | ((repeat' (first | exact hB1 | refine Below.setCell ?_ ?_ _ | refine Below.alloc ?_ ?_ _ | refine Below.drew ?_)) <;> (first | omega | (simp <;> omega)))) (hb2.mono (by first | omega | (simp <;> omega)))
  have hs2 : w.heap.size ≤ w2.heap.size := hB2.size
  have ht2 := hb2.size
  try simp only [World.size_alloc, World.size_setCell] at ht2
  clear hB1 hb2
  go_wp2_with fail
  refine (error_same _ HS.out _ (by exact HG.out.belowB (show Below w.heap.size w _ from (by first | exact hB2 | ((repeat' (first | exact hB2 | refine Below.setCell ?_ ?_ _ | refine Below.alloc ?_ ?_ _ | refine Below.drew ?_)) <;> (first | omega | (simp <;> omega))))) HG.out.lt)).mono ?_
  rintro e w3 ⟨rfl, hb3⟩
  have hB3 : Below w.heap.size w w3 := Below.trans (by first | exact hB2 | ((repeat' (first | exact hB2 | refine Below.setCell ?_ ?_ _ | refine Below.alloc ?_ ?_ _ | refine Below.drew ?_)) <;> (first | omega | (simp <;> omega)))) (hb3.mono (by first | omega | (simp <;> omega)))
  have hs3 : w.heap.size ≤ w3.heap.size := hB3.size
  have ht3 := hb3.size
  try simp only [World.size_alloc, World.size_setCell] at ht3
  clear hB2 hb3
  go_wp2_with fail
  refine (prefixes_nil _).mono ?_
  rintro e w4 ⟨rfl, hb4⟩
  have hB4 : Below w.heap.size w w4 := Below.trans (by first | exact hB3 | ((repeat' (first | exact hB3 | refine Below.setCell ?_ ?_ _ | refine Below.alloc ?_ ?_ _ | refine Below.drew ?_)) <;> (first | omega | (simp <;> omega)))) (hb4.mono (by first | omega | (simp <;> omega)))
  have hs4 : w.heap.size ≤ w4.heap.size := hB4.size
  have ht4 := hb4.size
  try simp only [World.size_alloc, World.size_setCell] at ht4
  clear hB3 hb4
  go_wp2_with fail
  refine wp_name ?_
  intro w5 hW5
  have hB5 : Below w.heap.size w w5 := by rw [hW5.out]; exact (by first | exact hB4 | ((repeat' (first | exact hB4 | refine Below.setCell ?_ ?_ _ | refine Below.alloc ?_ ?_ _ | refine Below.drew ?_)) <;> (first | omega | (simp <;> omega))))
  have hs5 : w.heap.size ≤ w5.heap.size := hB5.size
  have ht5 := congrArg (fun x : World => x.heap.size) hW5.out
  try simp only [World.size_alloc, World.size_setCell] at ht5
  have hu5 := Nat.le_of_eq ht5
  have hv5 := Nat.le_of_eq ht5.symm
  clear ht5 hB4 hW5
  exact HR.out _ _ (CImid.mk (by kernel_rfl) hB5)
set_option maxRecDepth 100000 in
set_option maxHeartbeats 8000000 in
theorem coverIs_2b (A : Option Addr) (l : List Sp) (c : Nat) (B : Option Addr) (p : List Pf) (d : Nat) (hm : l.length ≤ maxLen) (hmp : p.length ≤ maxLen) (w : World) (hg : ErrVar w) (ht : TabVar w) (hl : Rd w w.heap.size A (cellsP l)) (hp : Rd w w.heap.size B (cellsP p)) (hs : setFault l = 0) (h2 : (coverSet l).length ≤ 200) (Q : Exit → Act → World → Prop) (s0 : Act) (w0 : World) (h0 : CImid A l c B p d w s0 w0)
    (h : ∀ a' w', CImid A l c B p d w a' w' → (tailN 7 (tailN 8 (Tryd.f4.body.getD .skip))).wp Tryd.prog Q a' w') :
    (tailN 8 (Tryd.f4.body.getD .skip)).wp Tryd.prog Q s0 w0 := by
  have HG := Lib.hid hg
  have HT := Lib.hid ht
  clear hg ht
  obtain ⟨hl64, hv, _⟩ := set_good hs
  have HV := Lib.hid hv
  have HS := Lib.hid hs
  have H2 := Lib.hid h2
  clear hs hv h2
  obtain ⟨U, rfl, hB0⟩ := h0
  refine wp_cut 7 (CImid A l c B p d w) (by rfl) ?_ h
  clear h
  intro r HR
  dsimp only [Tryd.f4, Option.getD, tailN, putN]
  have hs0 := hB0.size
  go_wp2_with fail
  refine (setFaultRef_any A l c hm _ ((hl.below (show Below w.heap.size w _ from (by first | exact hB0 | ((repeat' (first | exact hB0 | refine Below.setCell ?_ ?_ _ | refine Below.alloc ?_ ?_ _ | refine Below.drew ?_)) <;> (first | omega | (simp <;> omega)))))).more (show w.heap.size ≤ _ from by first | omega | (simp <;> omega)))).mono ?_
  rintro e w1 ⟨rfl, hb1⟩
  have hB1 : Below w.heap.size w w1 := Below.trans (by first | exact hB0 | ((repeat' (first | exact hB0 | refine Below.setCell ?_ ?_ _ | refine Below.alloc ?_ ?_ _ | refine Below.drew ?_)) <;> (first | omega | (simp <;> omega)))) (hb1.mono (by first | omega | (simp <;> omega)))
  have hs1 : w.heap.size ≤ w1.heap.size := hB1.size
  have ht1 := hb1.size
  try simp only [World.size_alloc, World.size_setCell] at ht1
  clear hB0 hb1
  rw [HS.out]
  go_wp2_with fail
  refine (coverOf_any A l c HV.out hl64 _ ((hl.below (show Below w.heap.size w _ from (by first | exact hB1 | ((repeat' (first | exact hB1 | refine Below.setCell ?_ ?_ _ | refine Below.alloc ?_ ?_ _ | refine Below.drew ?_)) <;> (first | omega | (simp <;> omega)))))).more (show w.heap.size ≤ _ from by first | omega | (simp <;> omega)))).mono ?_
  rintro e w2 ⟨v2, rfl, hown2, hb2⟩
  have hB2 : Below w.heap.size w w2 := Below.trans (by first | exact hB1 | ((repeat' (first | exact hB1 | refine Below.setCell ?_ ?_ _ | refine Below.alloc ?_ ?_ _ | refine Below.drew ?_)) <;> (first | omega | (simp <;> omega)))) (hb2.mono (by first | omega | (simp <;> omega)))
  have hs2 : w.heap.size ≤ w2.heap.size := hB2.size
  have ht2 := hb2.size
  try simp only [World.size_alloc, World.size_setCell] at ht2
  clear hB1 hb2
  obtain ⟨X, hX⟩ : ∃ X, X = coverSet l := ⟨_, rfl⟩
  rw [← hX] at hown2
  have HX := Lib.hid hX
  clear hX
  obtain ⟨A2, c2, rfl, hr2⟩ := hown2.form
  clear hown2
  have hx : X.length ≤ 200 := by rw [HX.out]; exact H2.out
  go_wp2_with fail
  refine (setP_ok A l c HS.out H2.out _ (by exact HT.out.belowB (show Below w.heap.size w _ from (by first | exact hB2 | ((repeat' (first | exact hB2 | refine Below.setCell ?_ ?_ _ | refine Below.alloc ?_ ?_ _ | refine Below.drew ?_)) <;> (first | omega | (simp <;> omega))))) HT.out.lt) ((hl.below (show Below w.heap.size w _ from (by first | exact hB2 | ((repeat' (first | exact hB2 | refine Below.setCell ?_ ?_ _ | refine Below.alloc ?_ ?_ _ | refine Below.drew ?_)) <;> (first | omega | (simp <;> omega)))))).more (show w.heap.size ≤ _ from by first | omega | (simp <;> omega)))).mono ?_
  rintro e w3 ⟨v3, rfl, hown3, hb3⟩
  have hB3 : Below w.heap.size w w3 := Below.trans (by first | exact hB2 | ((repeat' (first | exact hB2 | refine Below.setCell ?_ ?_ _ | refine Below.alloc ?_ ?_ _ | refine Below.drew ?_)) <;> (first | omega | (simp <;> omega)))) (hb3.mono (by first | omega | (simp <;> omega)))
  have hs3 : w.heap.size ≤ w3.heap.size := hB3.size
  have ht3 := hb3.size
  try simp only [World.size_alloc, World.size_setCell] at ht3
  have hkw2_3 : Below w2.heap.size w2 w3 := Below.trans (by first | exact Below.refl _ _ | ((repeat' (first | exact Below.refl _ _ | refine Below.setCell ?_ ?_ _ | refine Below.alloc ?_ ?_ _ | refine Below.drew ?_)) <;> (first | omega | (simp <;> omega)))) (hb3.mono (by first | omega | (simp <;> omega)))
  clear hB2 hb3
  obtain ⟨Y, hY⟩ : ∃ Y, Y = coverSet l := ⟨_, rfl⟩
  rw [← hY] at hown3
  have HY := Lib.hid hY
  clear hY
  obtain ⟨A3, c3, rfl, hr3⟩ := hown3.form
  clear hown3
  go_wp2_with fail
  refine (error_nil0 _ (by exact HG.out.belowB (show Below w.heap.size w _ from (by first | exact hB3 | ((repeat' (first | exact hB3 | refine Below.setCell ?_ ?_ _ | refine Below.alloc ?_ ?_ _ | refine Below.drew ?_)) <;> (first | omega | (simp <;> omega))))) HG.out.lt)).mono ?_
  rintro e w4 ⟨rfl, hb4⟩
  have hB4 : Below w.heap.size w w4 := Below.trans (by first | exact hB3 | ((repeat' (first | exact hB3 | refine Below.setCell ?_ ?_ _ | refine Below.alloc ?_ ?_ _ | refine Below.drew ?_)) <;> (first | omega | (simp <;> omega)))) (hb4.mono (by first | omega | (simp <;> omega)))
  have hs4 : w.heap.size ≤ w4.heap.size := hB4.size
  have ht4 := hb4.size
  try simp only [World.size_alloc, World.size_setCell] at ht4
  have hkw2_4 : Below w2.heap.size w2 w4 := Below.trans (by first | exact hkw2_3 | ((repeat' (first | exact hkw2_3 | refine Below.setCell ?_ ?_ _ | refine Below.alloc ?_ ?_ _ | refine Below.drew ?_)) <;> (first | omega | (simp <;> omega)))) (hb4.mono (by first | omega | (simp <;> omega)))
  have hkw3_4 : Below w3.heap.size w3 w4 := Below.trans (by first | exact Below.refl _ _ | ((repeat' (first | exact Below.refl _ _ | refine Below.setCell ?_ ?_ _ | refine Below.alloc ?_ ?_ _ | refine Below.drew ?_)) <;> (first | omega | (simp <;> omega)))) (hb4.mono (by first | omega | (simp <;> omega)))
  clear hkw2_3 hB3 hb4
  go_wp2_with fail
  refine (prefixes_same A3 A2 Y X _ _ c3 c2 rfl rfl (by unfold maxLen; have : Y.length ≤ 200 := (by rw [HY.out]; exact H2.out); omega) (by rw [HX.out, HY.out]) _ ((hr3.below (show Below w3.heap.size w3 _ from (by first | exact hkw3_4 | ((repeat' (first | exact hkw3_4 | refine Below.setCell ?_ ?_ _ | refine Below.alloc ?_ ?_ _ | refine Below.drew ?_)) <;> (first | omega | (simp <;> omega)))))).more (show w3.heap.size ≤ _ from by first | omega | (simp <;> omega))) ((hr2.below (show Below w2.heap.size w2 _ from (by first | exact hkw2_4 | ((repeat' (first | exact hkw2_4 | refine Below.setCell ?_ ?_ _ | refine Below.alloc ?_ ?_ _ | refine Below.drew ?_)) <;> (first | omega | (simp <;> omega)))))).more (show w2.heap.size ≤ _ from by first | omega | (simp <;> omega)))).mono ?_
  rintro e w5 ⟨rfl, hb5⟩
  have hB5 : Below w.heap.size w w5 := Below.trans (by first | exact hB4 | ((repeat' (first | exact hB4 | refine Below.setCell ?_ ?_ _ | refine Below.alloc ?_ ?_ _ | refine Below.drew ?_)) <;> (first | omega | (simp <;> omega)))) (hb5.mono (by first | omega | (simp <;> omega)))
  have hs5 : w.heap.size ≤ w5.heap.size := hB5.size
  have ht5 := hb5.size
  try simp only [World.size_alloc, World.size_setCell] at ht5
  have hkw2_5 : Below w2.heap.size w2 w5 := Below.trans (by first | exact hkw2_4 | ((repeat' (first | exact hkw2_4 | refine Below.setCell ?_ ?_ _ | refine Below.alloc ?_ ?_ _ | refine Below.drew ?_)) <;> (first | omega | (simp <;> omega)))) (hb5.mono (by first | omega | (simp <;> omega)))
  have hkw3_5 : Below w3.heap.size w3 w5 := Below.trans (by first | exact hkw3_4 | ((repeat' (first | exact hkw3_4 | refine Below.setCell ?_ ?_ _ | refine Below.alloc ?_ ?_ _ | refine Below.drew ?_)) <;> (first | omega | (simp <;> omega)))) (hb5.mono (by first | omega | (simp <;> omega)))
  clear hkw2_4 hkw3_4 hB4 hb5
  go_wp2_with fail
  refine wp_name ?_
  intro w6 hW6
  have hB6 : Below w.heap.size w w6 := by rw [hW6.out]; exact (by first | exact hB5 | ((repeat' (first | exact hB5 | refine Below.setCell ?_ ?_ _ | refine Below.alloc ?_ ?_ _ | refine Below.drew ?_)) <;> (first | omega | (simp <;> omega))))
  have hs6 : w.heap.size ≤ w6.heap.size := hB6.size
  have ht6 := congrArg (fun x : World => x.heap.size) hW6.out
  try simp only [World.size_alloc, World.size_setCell] at ht6
  have hkw2_6 : Below w2.heap.size w2 w6 := by rw [hW6.out]; exact (by first | exact hkw2_5 | ((repeat' (first | exact hkw2_5 | refine Below.setCell ?_ ?_ _ | refine Below.alloc ?_ ?_ _ | refine Below.drew ?_)) <;> (first | omega | (simp <;> omega))))
  have hkw3_6 : Below w3.heap.size w3 w6 := by rw [hW6.out]; exact (by first | exact hkw3_5 | ((repeat' (first | exact hkw3_5 | refine Below.setCell ?_ ?_ _ | refine Below.alloc ?_ ?_ _ | refine Below.drew ?_)) <;> (first | omega | (simp <;> omega))))
  have hu6 := Nat.le_of_eq ht6
  have hv6 := Nat.le_of_eq ht6.symm
  clear ht6 hkw2_5 hkw3_5 hB5 hW6
  exact HR.out _ _ (CImid.mk (by kernel_rfl) hB6)
set_option maxRecDepth 100000 in
set_option maxHeartbeats 8000000 in
theorem coverIs_2c (A : Option Addr) (l : List Sp) (c : Nat) (B : Option Addr) (p : List Pf) (d : Nat) (hm : l.length ≤ maxLen) (hmp : p.length ≤ maxLen) (w : World) (hg : ErrVar w) (ht : TabVar w) (hl : Rd w w.heap.size A (cellsP l)) (hp : Rd w w.heap.size B (cellsP p)) (hs : setFault l = 0) (h2 : 200 < (coverSet l).length) (Q : Exit → Act → World → Prop) (s0 : Act) (w0 : World) (h0 : CImid A l c B p d w s0 w0)
    (h : ∀ a' w', CImid A l c B p d w a' w' → (tailN 7 (tailN 8 (Tryd.f4.body.getD .skip))).wp Tryd.prog Q a' w') :
    (tailN 8 (Tryd.f4.body.getD .skip)).wp Tryd.prog Q s0 w0 := by
  have HG := Lib.hid hg
  have HT := Lib.hid ht
  clear hg ht
  obtain ⟨hl64, hv, _⟩ := set_good hs
  have HV := Lib.hid hv
  have HS := Lib.hid hs
  have H2 := Lib.hid h2
  clear hs hv h2
  obtain ⟨U, rfl, hB0⟩ := h0
  refine wp_cut 7 (CImid A l c B p d w) (by rfl) ?_ h
  clear h
  intro r HR
  dsimp only [Tryd.f4, Option.getD, tailN, putN]
  have hs0 := hB0.size
  go_wp2_with fail
  refine (setFaultRef_any A l c hm _ ((hl.below (show Below w.heap.size w _ from (by first | exact hB0 | ((repeat' (first | exact hB0 | refine Below.setCell ?_ ?_ _ | refine Below.alloc ?_ ?_ _ | refine Below.drew ?_)) <;> (first | omega | (simp <;> omega)))))).more (show w.heap.size ≤ _ from by first | omega | (simp <;> omega)))).mono ?_
  rintro e w1 ⟨rfl, hb1⟩
  have hB1 : Below w.heap.size w w1 := Below.trans (by first | exact hB0 | ((repeat' (first | exact hB0 | refine Below.setCell ?_ ?_ _ | refine Below.alloc ?_ ?_ _ | refine Below.drew ?_)) <;> (first | omega | (simp <;> omega)))) (hb1.mono (by first | omega | (simp <;> omega)))
  have hs1 : w.heap.size ≤ w1.heap.size := hB1.size
  have ht1 := hb1.size
  try simp only [World.size_alloc, World.size_setCell] at ht1
  clear hB0 hb1
  rw [HS.out]
  go_wp2_with fail
  refine (coverOf_any A l c HV.out hl64 _ ((hl.below (show Below w.heap.size w _ from (by first | exact hB1 | ((repeat' (first | exact hB1 | refine Below.setCell ?_ ?_ _ | refine Below.alloc ?_ ?_ _ | refine Below.drew ?_)) <;> (first | omega | (simp <;> omega)))))).more (show w.heap.size ≤ _ from by first | omega | (simp <;> omega)))).mono ?_
  rintro e w2 ⟨v2, rfl, hown2, hb2⟩
  have hB2 : Below w.heap.size w w2 := Below.trans (by first | exact hB1 | ((repeat' (first | exact hB1 | refine Below.setCell ?_ ?_ _ | refine Below.alloc ?_ ?_ _ | refine Below.drew ?_)) <;> (first | omega | (simp <;> omega)))) (hb2.mono (by first | omega | (simp <;> omega)))
  have hs2 : w.heap.size ≤ w2.heap.size := hB2.size
  have ht2 := hb2.size
  try simp only [World.size_alloc, World.size_setCell] at ht2
  clear hB1 hb2
  obtain ⟨X, hX⟩ : ∃ X, X = coverSet l := ⟨_, rfl⟩
  rw [← hX] at hown2
  have HX := Lib.hid hX
  clear hX
  obtain ⟨A2, c2, rfl, hr2⟩ := hown2.form
  clear hown2
  have hx : 200 < X.length := by rw [HX.out]; exact H2.out
  go_wp2_with fail
  refine (setP_full A l c HS.out H2.out _ (by exact HT.out.belowB (show Below w.heap.size w _ from (by first | exact hB2 | ((repeat' (first | exact hB2 | refine Below.setCell ?_ ?_ _ | refine Below.alloc ?_ ?_ _ | refine Below.drew ?_)) <;> (first | omega | (simp <;> omega))))) HT.out.lt) ((hl.below (show Below w.heap.size w _ from (by first | exact hB2 | ((repeat' (first | exact hB2 | refine Below.setCell ?_ ?_ _ | refine Below.alloc ?_ ?_ _ | refine Below.drew ?_)) <;> (first | omega | (simp <;> omega)))))).more (show w.heap.size ≤ _ from by first | omega | (simp <;> omega)))).mono ?_
  rintro e w3 ⟨rfl, hb3⟩
  have hB3 : Below w.heap.size w w3 := Below.trans (by first | exact hB2 | ((repeat' (first | exact hB2 | refine Below.setCell ?_ ?_ _ | refine Below.alloc ?_ ?_ _ | refine Below.drew ?_)) <;> (first | omega | (simp <;> omega)))) (hb3.mono (by first | omega | (simp <;> omega)))
  have hs3 : w.heap.size ≤ w3.heap.size := hB3.size
  have ht3 := hb3.size
  try simp only [World.size_alloc, World.size_setCell] at ht3
  have hkw2_3 : Below w2.heap.size w2 w3 := Below.trans (by first | exact Below.refl _ _ | ((repeat' (first | exact Below.refl _ _ | refine Below.setCell ?_ ?_ _ | refine Below.alloc ?_ ?_ _ | refine Below.drew ?_)) <;> (first | omega | (simp <;> omega)))) (hb3.mono (by first | omega | (simp <;> omega)))
  clear hB2 hb3
  go_wp2_with fail
  refine (error_same 3 (by decide) _ (by exact HG.out.belowB (show Below w.heap.size w _ from (by first | exact hB3 | ((repeat' (first | exact hB3 | refine Below.setCell ?_ ?_ _ | refine Below.alloc ?_ ?_ _ | refine Below.drew ?_)) <;> (first | omega | (simp <;> omega))))) HG.out.lt)).mono ?_
  rintro e w4 ⟨rfl, hb4⟩
  have hB4 : Below w.heap.size w w4 := Below.trans (by first | exact hB3 | ((repeat' (first | exact hB3 | refine Below.setCell ?_ ?_ _ | refine Below.alloc ?_ ?_ _ | refine Below.drew ?_)) <;> (first | omega | (simp <;> omega)))) (hb4.mono (by first | omega | (simp <;> omega)))
  have hs4 : w.heap.size ≤ w4.heap.size := hB4.size
  have ht4 := hb4.size
  try simp only [World.size_alloc, World.size_setCell] at ht4
  have hkw2_4 : Below w2.heap.size w2 w4 := Below.trans (by first | exact hkw2_3 | ((repeat' (first | exact hkw2_3 | refine Below.setCell ?_ ?_ _ | refine Below.alloc ?_ ?_ _ | refine Below.drew ?_)) <;> (first | omega | (simp <;> omega)))) (hb4.mono (by first | omega | (simp <;> omega)))
  clear hkw2_3 hB3 hb4
  go_wp2_with fail
  refine (prefixes_nil _).mono ?_
  rintro e w5 ⟨rfl, hb5⟩
  have hB5 : Below w.heap.size w w5 := Below.trans (by first | exact hB4 | ((repeat' (first | exact hB4 | refine Below.setCell ?_ ?_ _ | refine Below.alloc ?_ ?_ _ | refine Below.drew ?_)) <;> (first | omega | (simp <;> omega)))) (hb5.mono (by first | omega | (simp <;> omega)))
  have hs5 : w.heap.size ≤ w5.heap.size := hB5.size
  have ht5 := hb5.size
  try simp only [World.size_alloc, World.size_setCell] at ht5
  have hkw2_5 : Below w2.heap.size w2 w5 := Below.trans (by first | exact hkw2_4 | ((repeat' (first | exact hkw2_4 | refine Below.setCell ?_ ?_ _ | refine Below.alloc ?_ ?_ _ | refine Below.drew ?_)) <;> (first | omega | (simp <;> omega)))) (hb5.mono (by first | omega | (simp <;> omega)))
  clear hkw2_4 hB4 hb5
  go_wp2_with fail
  refine wp_name ?_
  intro w6 hW6
  have hB6 : Below w.heap.size w w6 := by rw [hW6.out]; exact (by first | exact hB5 | ((repeat' (first | exact hB5 | refine Below.setCell ?_ ?_ _ | refine Below.alloc ?_ ?_ _ | refine Below.drew ?_)) <;> (first | omega | (simp <;> omega))))
  have hs6 : w.heap.size ≤ w6.heap.size := hB6.size
  have ht6 := congrArg (fun x : World => x.heap.size) hW6.out
  try simp only [World.size_alloc, World.size_setCell] at ht6
  have hkw2_6 : Below w2.heap.size w2 w6 := by rw [hW6.out]; exact (by first | exact hkw2_5 | ((repeat' (first | exact hkw2_5 | refine Below.setCell ?_ ?_ _ | refine Below.alloc ?_ ?_ _ | refine Below.drew ?_)) <;> (first | omega | (simp <;> omega))))
  have hu6 := Nat.le_of_eq ht6
  have hv6 := Nat.le_of_eq ht6.symm
  clear ht6 hkw2_5 hB5 hW6
  exact HR.out _ _ (CImid.mk (by kernel_rfl) hB6)
set_option maxRecDepth 100000 in
set_option maxHeartbeats 8000000 in
theorem coverIs_3a (A : Option Addr) (l : List Sp) (c : Nat) (B : Option Addr) (p : List Pf) (d : Nat) (hm : l.length ≤ maxLen) (hmp : p.length ≤ maxLen) (w : World) (hg : ErrVar w) (ht : TabVar w) (hl : Rd w w.heap.size A (cellsP l)) (hp : Rd w w.heap.size B (cellsP p)) (hs : spansPFault p ≠ 0) (s0 : Act) (w0 : World) (h0 : CImid A l c B p d w s0 w0) :
    (tailN 7 (tailN 8 (Tryd.f4.body.getD .skip))).wp Tryd.prog (bodyPost Tryd.prog Tryd.f4 fun e w' => e = .returned (.bool true) ∧ Below w.heap.size w w') s0 w0 := by
  have HG := Lib.hid hg
  have HT := Lib.hid ht
  clear hg ht
  have hz : (spansPFault p == 0) = false := by simpa using hs
  have HE := Lib.hid (fewestFault_spans hs)
  have HF := Lib.hid (show fewestFault p ≠ 0 by rw [HE.out]; exact hs)
  have HS := Lib.hid hs
  clear hs
  obtain ⟨U, rfl, hB0⟩ := h0
  dsimp only [Tryd.f4, Option.getD, tailN]
  have hs0 := hB0.size
  go_wp2_with fail
  refine (spansOf_bad B p d hmp HS.out _ ((hp.below (show Below w.heap.size w _ from (by first | exact hB0 | ((repeat' (first | exact hB0 | refine Below.setCell ?_ ?_ _ | refine Below.alloc ?_ ?_ _ | refine Below.drew ?_)) <;> (first | omega | (simp <;> omega)))))).more (show w.heap.size ≤ _ from by first | omega | (simp <;> omega)))).mono ?_
  rintro e w1 ⟨rfl, hb1⟩
  have hB1 : Below w.heap.size w w1 := Below.trans (by first | exact hB0 | ((repeat' (first | exact hB0 | refine Below.setCell ?_ ?_ _ | refine Below.alloc ?_ ?_ _ | refine Below.drew ?_)) <;> (first | omega | (simp <;> omega)))) (hb1.mono (by first | omega | (simp <;> omega)))
  have hs1 : w.heap.size ≤ w1.heap.size := hB1.size
  have ht1 := hb1.size
  try simp only [World.size_alloc, World.size_setCell] at ht1
  clear hB0 hb1
  go_wp2_with fail
  refine (spansP_bad B p d hmp HS.out _ ((hp.below (show Below w.heap.size w _ from (by first | exact hB1 | ((repeat' (first | exact hB1 | refine Below.setCell ?_ ?_ _ | refine Below.alloc ?_ ?_ _ | refine Below.drew ?_)) <;> (first | omega | (simp <;> omega)))))).more (show w.heap.size ≤ _ from by first | omega | (simp <;> omega)))).mono ?_
  rintro e w2 ⟨rfl, hb2⟩
  have hB2 : Below w.heap.size w w2 := Below.trans (by first | exact hB1 | ((repeat' (first | exact hB1 | refine Below.setCell ?_ ?_ _ | refine Below.alloc ?_ ?_ _ | refine Below.drew ?_)) <;> (first | omega | (simp <;> omega)))) (hb2.mono (by first | omega | (simp <;> omega)))
  have hs2 : w.heap.size ≤ w2.heap.size := hB2.size
  have ht2 := hb2.size
  try simp only [World.size_alloc, World.size_setCell] at ht2
  clear hB1 hb2
  go_wp2_with fail
  refine (error_same _ HS.out _ (by exact HG.out.belowB (show Below w.heap.size w _ from (by first | exact hB2 | ((repeat' (first | exact hB2 | refine Below.setCell ?_ ?_ _ | refine Below.alloc ?_ ?_ _ | refine Below.drew ?_)) <;> (first | omega | (simp <;> omega))))) HG.out.lt)).mono ?_
  rintro e w3 ⟨rfl, hb3⟩
  have hB3 : Below w.heap.size w w3 := Below.trans (by first | exact hB2 | ((repeat' (first | exact hB2 | refine Below.setCell ?_ ?_ _ | refine Below.alloc ?_ ?_ _ | refine Below.drew ?_)) <;> (first | omega | (simp <;> omega)))) (hb3.mono (by first | omega | (simp <;> omega)))
  have hs3 : w.heap.size ≤ w3.heap.size := hB3.size
  have ht3 := hb3.size
  try simp only [World.size_alloc, World.size_setCell] at ht3
  clear hB2 hb3
  go_wp2_with fail
  refine (spans_nil _).mono ?_
  rintro e w4 ⟨rfl, hb4⟩
  have hB4 : Below w.heap.size w w4 := Below.trans (by first | exact hB3 | ((repeat' (first | exact hB3 | refine Below.setCell ?_ ?_ _ | refine Below.alloc ?_ ?_ _ | refine Below.drew ?_)) <;> (first | omega | (simp <;> omega)))) (hb4.mono (by first | omega | (simp <;> omega)))
  have hs4 : w.heap.size ≤ w4.heap.size := hB4.size
  have ht4 := hb4.size
  try simp only [World.size_alloc, World.size_setCell] at ht4
  clear hB3 hb4
  go_wp2_with fail
  refine (fewest_bad B p d hmp HF.out _ (by exact HT.out.belowB (show Below w.heap.size w _ from (by first | exact hB4 | ((repeat' (first | exact hB4 | refine Below.setCell ?_ ?_ _ | refine Below.alloc ?_ ?_ _ | refine Below.drew ?_)) <;> (first | omega | (simp <;> omega))))) HT.out.lt) ((hp.below (show Below w.heap.size w _ from (by first | exact hB4 | ((repeat' (first | exact hB4 | refine Below.setCell ?_ ?_ _ | refine Below.alloc ?_ ?_ _ | refine Below.drew ?_)) <;> (first | omega | (simp <;> omega)))))).more (show w.heap.size ≤ _ from by first | omega | (simp <;> omega)))).mono ?_
  rintro e w5 ⟨rfl, hb5⟩
  have hB5 : Below w.heap.size w w5 := Below.trans (by first | exact hB4 | ((repeat' (first | exact hB4 | refine Below.setCell ?_ ?_ _ | refine Below.alloc ?_ ?_ _ | refine Below.drew ?_)) <;> (first | omega | (simp <;> omega)))) (hb5.mono (by first | omega | (simp <;> omega)))
  have hs5 : w.heap.size ≤ w5.heap.size := hB5.size
  have ht5 := hb5.size
  try simp only [World.size_alloc, World.size_setCell] at ht5
  clear hB4 hb5
  rw [HE.out]
  go_wp2_with fail
  refine (error_same _ HS.out _ (by exact HG.out.belowB (show Below w.heap.size w _ from (by first | exact hB5 | ((repeat' (first | exact hB5 | refine Below.setCell ?_ ?_ _ | refine Below.alloc ?_ ?_ _ | refine Below.drew ?_)) <;> (first | omega | (simp <;> omega))))) HG.out.lt)).mono ?_
  rintro e w6 ⟨rfl, hb6⟩
  have hB6 : Below w.heap.size w w6 := Below.trans (by first | exact hB5 | ((repeat' (first | exact hB5 | refine Below.setCell ?_ ?_ _ | refine Below.alloc ?_ ?_ _ | refine Below.drew ?_)) <;> (first | omega | (simp <;> omega)))) (hb6.mono (by first | omega | (simp <;> omega)))
  have hs6 : w.heap.size ≤ w6.heap.size := hB6.size
  have ht6 := hb6.size
  try simp only [World.size_alloc, World.size_setCell] at ht6
  clear hB5 hb6
  go_wp2_with fail
  refine (prefixes_nil _).mono ?_
  rintro e w7 ⟨rfl, hb7⟩
  have hB7 : Below w.heap.size w w7 := Below.trans (by first | exact hB6 | ((repeat' (first | exact hB6 | refine Below.setCell ?_ ?_ _ | refine Below.alloc ?_ ?_ _ | refine Below.drew ?_)) <;> (first | omega | (simp <;> omega)))) (hb7.mono (by first | omega | (simp <;> omega)))
  have hs7 : w.heap.size ≤ w7.heap.size := hB7.size
  have ht7 := hb7.size
  try simp only [World.size_alloc, World.size_setCell] at ht7
  clear hB6 hb7
  go_wp2_with fail
  go_ret
  exact ⟨rfl, (by first | exact hB7 | ((repeat' (first | exact hB7 | refine Below.setCell ?_ ?_ _ | refine Below.alloc ?_ ?_ _ | refine Below.drew ?_)) <;> (first | omega | (simp <;> omega))))⟩
set_option maxRecDepth 100000 in
set_option maxHeartbeats 8000000 in
theorem coverIs_3b (A : Option Addr) (l : List Sp) (c : Nat) (B : Option Addr) (p : List Pf) (d : Nat) (hm : l.length ≤ maxLen) (hmp : p.length ≤ maxLen) (w : World) (hg : ErrVar w) (ht : TabVar w) (hl : Rd w w.heap.size A (cellsP l)) (hp : Rd w w.heap.size B (cellsP p)) (hs : spansPFault p = 0) (h2 : (fewest p).length ≤ 200) (s0 : Act) (w0 : World) (h0 : CImid A l c B p d w s0 w0) :
    (tailN 7 (tailN 8 (Tryd.f4.body.getD .skip))).wp Tryd.prog (bodyPost Tryd.prog Tryd.f4 fun e w' => e = .returned (.bool true) ∧ Below w.heap.size w w') s0 w0 := by
  have HG := Lib.hid hg
  have HT := Lib.hid ht
  clear hg ht
  have hz0 := spansPFault_zero.1 hs
  have HN64 := Lib.hid hz0.2.2
  have HV := Lib.hid (norm_valid (spansP_valid hz0.2.1))
  have HE := Lib.hid (fewestFault_ok hs h2)
  have HS := Lib.hid hs
  have H2 := Lib.hid (show (coverSet (norm (spansP p))).length ≤ 200 from h2)
  clear hs h2 hz0
  obtain ⟨U, rfl, hB0⟩ := h0
  dsimp only [Tryd.f4, Option.getD, tailN]
  have hs0 := hB0.size
  go_wp2_with fail
  refine (spansOf_ok B p d hmp HS.out _ ((hp.below (show Below w.heap.size w _ from (by first | exact hB0 | ((repeat' (first | exact hB0 | refine Below.setCell ?_ ?_ _ | refine Below.alloc ?_ ?_ _ | refine Below.drew ?_)) <;> (first | omega | (simp <;> omega)))))).more (show w.heap.size ≤ _ from by first | omega | (simp <;> omega)))).mono ?_
  rintro e w1 ⟨v1, rfl, hown1, hb1⟩
  have hB1 : Below w.heap.size w w1 := Below.trans (by first | exact hB0 | ((repeat' (first | exact hB0 | refine Below.setCell ?_ ?_ _ | refine Below.alloc ?_ ?_ _ | refine Below.drew ?_)) <;> (first | omega | (simp <;> omega)))) (hb1.mono (by first | omega | (simp <;> omega)))
  have hs1 : w.heap.size ≤ w1.heap.size := hB1.size
  have ht1 := hb1.size
  try simp only [World.size_alloc, World.size_setCell] at ht1
  clear hB0 hb1
  obtain ⟨N, hN⟩ : ∃ N, N = norm (spansP p) := ⟨_, rfl⟩
  rw [← hN] at hown1
  have HN := Lib.hid hN
  clear hN
  obtain ⟨A1, c1, rfl, hr1⟩ := hown1.form
  clear hown1
  go_wp2_with fail
  refine (spansP_ok B p d hmp HS.out _ ((hp.below (show Below w.heap.size w _ from (by first | exact hB1 | ((repeat' (first | exact hB1 | refine Below.setCell ?_ ?_ _ | refine Below.alloc ?_ ?_ _ | refine Below.drew ?_)) <;> (first | omega | (simp <;> omega)))))).more (show w.heap.size ≤ _ from by first | omega | (simp <;> omega)))).mono ?_
  rintro e w2 ⟨v2, rfl, hown2, hb2⟩
  have hB2 : Below w.heap.size w w2 := Below.trans (by first | exact hB1 | ((repeat' (first | exact hB1 | refine Below.setCell ?_ ?_ _ | refine Below.alloc ?_ ?_ _ | refine Below.drew ?_)) <;> (first | omega | (simp <;> omega)))) (hb2.mono (by first | omega | (simp <;> omega)))
  have hs2 : w.heap.size ≤ w2.heap.size := hB2.size
  have ht2 := hb2.size
  try simp only [World.size_alloc, World.size_setCell] at ht2
  have hkw1_2 : Below w1.heap.size w1 w2 := Below.trans (by first | exact Below.refl _ _ | ((repeat' (first | exact Below.refl _ _ | refine Below.setCell ?_ ?_ _ | refine Below.alloc ?_ ?_ _ | refine Below.drew ?_)) <;> (first | omega | (simp <;> omega)))) (hb2.mono (by first | omega | (simp <;> omega)))
  clear hB1 hb2
  obtain ⟨M, hM⟩ : ∃ M, M = norm (spansP p) := ⟨_, rfl⟩
  rw [← hM] at hown2
  have HM := Lib.hid hM
  clear hM
  obtain ⟨A2, c2, rfl, hr2⟩ := hown2.form
  clear hown2
  go_wp2_with fail
  refine (error_nil0 _ (by exact HG.out.belowB (show Below w.heap.size w _ from (by first | exact hB2 | ((repeat' (first | exact hB2 | refine Below.setCell ?_ ?_ _ | refine Below.alloc ?_ ?_ _ | refine Below.drew ?_)) <;> (first | omega | (simp <;> omega))))) HG.out.lt)).mono ?_
  rintro e w3 ⟨rfl, hb3⟩
  have hB3 : Below w.heap.size w w3 := Below.trans (by first | exact hB2 | ((repeat' (first | exact hB2 | refine Below.setCell ?_ ?_ _ | refine Below.alloc ?_ ?_ _ | refine Below.drew ?_)) <;> (first | omega | (simp <;> omega)))) (hb3.mono (by first | omega | (simp <;> omega)))
  have hs3 : w.heap.size ≤ w3.heap.size := hB3.size
  have ht3 := hb3.size
  try simp only [World.size_alloc, World.size_setCell] at ht3
  have hkw1_3 : Below w1.heap.size w1 w3 := Below.trans (by first | exact hkw1_2 | ((repeat' (first | exact hkw1_2 | refine Below.setCell ?_ ?_ _ | refine Below.alloc ?_ ?_ _ | refine Below.drew ?_)) <;> (first | omega | (simp <;> omega)))) (hb3.mono (by first | omega | (simp <;> omega)))
  have hkw2_3 : Below w2.heap.size w2 w3 := Below.trans (by first | exact Below.refl _ _ | ((repeat' (first | exact Below.refl _ _ | refine Below.setCell ?_ ?_ _ | refine Below.alloc ?_ ?_ _ | refine Below.drew ?_)) <;> (first | omega | (simp <;> omega)))) (hb3.mono (by first | omega | (simp <;> omega)))
  clear hkw1_2 hB2 hb3
  go_wp2_with fail
  refine (spans_same A2 A1 M N _ _ c2 c1 rfl rfl (by unfold maxLen; have : M.length ≤ 64 := (by rw [HM.out]; exact HN64.out); omega) (by rw [HN.out, HM.out]) _ ((hr2.below (show Below w2.heap.size w2 _ from (by first | exact hkw2_3 | ((repeat' (first | exact hkw2_3 | refine Below.setCell ?_ ?_ _ | refine Below.alloc ?_ ?_ _ | refine Below.drew ?_)) <;> (first | omega | (simp <;> omega)))))).more (show w2.heap.size ≤ _ from by first | omega | (simp <;> omega))) ((hr1.below (show Below w1.heap.size w1 _ from (by first | exact hkw1_3 | ((repeat' (first | exact hkw1_3 | refine Below.setCell ?_ ?_ _ | refine Below.alloc ?_ ?_ _ | refine Below.drew ?_)) <;> (first | omega | (simp <;> omega)))))).more (show w1.heap.size ≤ _ from by first | omega | (simp <;> omega)))).mono ?_
  rintro e w4 ⟨rfl, hb4⟩
  have hB4 : Below w.heap.size w w4 := Below.trans (by first | exact hB3 | ((repeat' (first | exact hB3 | refine Below.setCell ?_ ?_ _ | refine Below.alloc ?_ ?_ _ | refine Below.drew ?_)) <;> (first | omega | (simp <;> omega)))) (hb4.mono (by first | omega | (simp <;> omega)))
  have hs4 : w.heap.size ≤ w4.heap.size := hB4.size
  have ht4 := hb4.size
  try simp only [World.size_alloc, World.size_setCell] at ht4
  have hkw1_4 : Below w1.heap.size w1 w4 := Below.trans (by first | exact hkw1_3 | ((repeat' (first | exact hkw1_3 | refine Below.setCell ?_ ?_ _ | refine Below.alloc ?_ ?_ _ | refine Below.drew ?_)) <;> (first | omega | (simp <;> omega)))) (hb4.mono (by first | omega | (simp <;> omega)))
  have hkw2_4 : Below w2.heap.size w2 w4 := Below.trans (by first | exact hkw2_3 | ((repeat' (first | exact hkw2_3 | refine Below.setCell ?_ ?_ _ | refine Below.alloc ?_ ?_ _ | refine Below.drew ?_)) <;> (first | omega | (simp <;> omega)))) (hb4.mono (by first | omega | (simp <;> omega)))
  clear hkw1_3 hkw2_3 hB3 hb4
  go_wp2_with fail
  refine (coverOf_any A1 N c1 (by rw [HN.out]; exact HV.out) (by rw [HN.out]; exact HN64.out) _ ((hr1.below (show Below w1.heap.size w1 _ from (by first | exact hkw1_4 | ((repeat' (first | exact hkw1_4 | refine Below.setCell ?_ ?_ _ | refine Below.alloc ?_ ?_ _ | refine Below.drew ?_)) <;> (first | omega | (simp <;> omega)))))).more (show w1.heap.size ≤ _ from by first | omega | (simp <;> omega)))).mono ?_
  rintro e w5 ⟨v5, rfl, hown5, hb5⟩
  have hB5 : Below w.heap.size w w5 := Below.trans (by first | exact hB4 | ((repeat' (first | exact hB4 | refine Below.setCell ?_ ?_ _ | refine Below.alloc ?_ ?_ _ | refine Below.drew ?_)) <;> (first | omega | (simp <;> omega)))) (hb5.mono (by first | omega | (simp <;> omega)))
  have hs5 : w.heap.size ≤ w5.heap.size := hB5.size
  have ht5 := hb5.size
  try simp only [World.size_alloc, World.size_setCell] at ht5
  have hkw1_5 : Below w1.heap.size w1 w5 := Below.trans (by first | exact hkw1_4 | ((repeat' (first | exact hkw1_4 | refine Below.setCell ?_ ?_ _ | refine Below.alloc ?_ ?_ _ | refine Below.drew ?_)) <;> (first | omega | (simp <;> omega)))) (hb5.mono (by first | omega | (simp <;> omega)))
  have hkw2_5 : Below w2.heap.size w2 w5 := Below.trans (by first | exact hkw2_4 | ((repeat' (first | exact hkw2_4 | refine Below.setCell ?_ ?_ _ | refine Below.alloc ?_ ?_ _ | refine Below.drew ?_)) <;> (first | omega | (simp <;> omega)))) (hb5.mono (by first | omega | (simp <;> omega)))
  clear hkw1_4 hkw2_4 hB4 hb5
  rw [HN.out] at hown5
  obtain ⟨X, hX⟩ : ∃ X, X = coverSet (norm (spansP p)) := ⟨_, rfl⟩
  rw [← hX] at hown5
  have HX := Lib.hid hX
  clear hX
  obtain ⟨A5, c5, rfl, hr5⟩ := hown5.form
  clear hown5
  have hx : X.length ≤ 200 := by rw [HX.out]; exact H2.out
  go_wp2_with fail
  refine (fewest_ok B p d hmp HE.out _ (by exact HT.out.belowB (show Below w.heap.size w _ from (by first | exact hB5 | ((repeat' (first | exact hB5 | refine Below.setCell ?_ ?_ _ | refine Below.alloc ?_ ?_ _ | refine Below.drew ?_)) <;> (first | omega | (simp <;> omega))))) HT.out.lt) ((hp.below (show Below w.heap.size w _ from (by first | exact hB5 | ((repeat' (first | exact hB5 | refine Below.setCell ?_ ?_ _ | refine Below.alloc ?_ ?_ _ | refine Below.drew ?_)) <;> (first | omega | (simp <;> omega)))))).more (show w.heap.size ≤ _ from by first | omega | (simp <;> omega)))).mono ?_
  rintro e w6 ⟨v6, rfl, hown6, hb6⟩
  have hB6 : Below w.heap.size w w6 := Below.trans (by first | exact hB5 | ((repeat' (first | exact hB5 | refine Below.setCell ?_ ?_ _ | refine Below.alloc ?_ ?_ _ | refine Below.drew ?_)) <;> (first | omega | (simp <;> omega)))) (hb6.mono (by first | omega | (simp <;> omega)))
  have hs6 : w.heap.size ≤ w6.heap.size := hB6.size
  have ht6 := hb6.size
  try simp only [World.size_alloc, World.size_setCell] at ht6
  have hkw1_6 : Below w1.heap.size w1 w6 := Below.trans (by first | exact hkw1_5 | ((repeat' (first | exact hkw1_5 | refine Below.setCell ?_ ?_ _ | refine Below.alloc ?_ ?_ _ | refine Below.drew ?_)) <;> (first | omega | (simp <;> omega)))) (hb6.mono (by first | omega | (simp <;> omega)))
  have hkw2_6 : Below w2.heap.size w2 w6 := Below.trans (by first | exact hkw2_5 | ((repeat' (first | exact hkw2_5 | refine Below.setCell ?_ ?_ _ | refine Below.alloc ?_ ?_ _ | refine Below.drew ?_)) <;> (first | omega | (simp <;> omega)))) (hb6.mono (by first | omega | (simp <;> omega)))
  have hkw5_6 : Below w5.heap.size w5 w6 := Below.trans (by first | exact Below.refl _ _ | ((repeat' (first | exact Below.refl _ _ | refine Below.setCell ?_ ?_ _ | refine Below.alloc ?_ ?_ _ | refine Below.drew ?_)) <;> (first | omega | (simp <;> omega)))) (hb6.mono (by first | omega | (simp <;> omega)))
  clear hkw1_5 hkw2_5 hB5 hb6
  obtain ⟨Y, hY⟩ : ∃ Y, Y = fewest p := ⟨_, rfl⟩
  rw [← hY] at hown6
  have HY := Lib.hid hY
  clear hY
  obtain ⟨A6, c6, rfl, hr6⟩ := hown6.form
  clear hown6
  go_wp2_with fail
  refine (error_nil0 _ (by exact HG.out.belowB (show Below w.heap.size w _ from (by first | exact hB6 | ((repeat' (first | exact hB6 | refine Below.setCell ?_ ?_ _ | refine Below.alloc ?_ ?_ _ | refine Below.drew ?_)) <;> (first | omega | (simp <;> omega))))) HG.out.lt)).mono ?_
  rintro e w7 ⟨rfl, hb7⟩
  have hB7 : Below w.heap.size w w7 := Below.trans (by first | exact hB6 | ((repeat' (first | exact hB6 | refine Below.setCell ?_ ?_ _ | refine Below.alloc ?_ ?_ _ | refine Below.drew ?_)) <;> (first | omega | (simp <;> omega)))) (hb7.mono (by first | omega | (simp <;> omega)))
  have hs7 : w.heap.size ≤ w7.heap.size := hB7.size
  have ht7 := hb7.size
  try simp only [World.size_alloc, World.size_setCell] at ht7
  have hkw1_7 : Below w1.heap.size w1 w7 := Below.trans (by first | exact hkw1_6 | ((repeat' (first | exact hkw1_6 | refine Below.setCell ?_ ?_ _ | refine Below.alloc ?_ ?_ _ | refine Below.drew ?_)) <;> (first | omega | (simp <;> omega)))) (hb7.mono (by first | omega | (simp <;> omega)))
  have hkw2_7 : Below w2.heap.size w2 w7 := Below.trans (by first | exact hkw2_6 | ((repeat' (first | exact hkw2_6 | refine Below.setCell ?_ ?_ _ | refine Below.alloc ?_ ?_ _ | refine Below.drew ?_)) <;> (first | omega | (simp <;> omega)))) (hb7.mono (by first | omega | (simp <;> omega)))
  have hkw5_7 : Below w5.heap.size w5 w7 := Below.trans (by first | exact hkw5_6 | ((repeat' (first | exact hkw5_6 | refine Below.setCell ?_ ?_ _ | refine Below.alloc ?_ ?_ _ | refine Below.drew ?_)) <;> (first | omega | (simp <;> omega)))) (hb7.mono (by first | omega | (simp <;> omega)))
  have hkw6_7 : Below w6.heap.size w6 w7 := Below.trans (by first | exact Below.refl _ _ | ((repeat' (first | exact Below.refl _ _ | refine Below.setCell ?_ ?_ _ | refine Below.alloc ?_ ?_ _ | refine Below.drew ?_)) <;> (first | omega | (simp <;> omega)))) (hb7.mono (by first | omega | (simp <;> omega)))
  clear hkw1_6 hkw2_6 hkw5_6 hB6 hb7
  go_wp2_with fail
  refine (prefixes_same A6 A5 Y X _ _ c6 c5 rfl rfl (by unfold maxLen; have : Y.length ≤ 200 := (by rw [HY.out]; exact H2.out); omega) (by rw [HX.out, HY.out]; rfl) _ ((hr6.below (show Below w6.heap.size w6 _ from (by first | exact hkw6_7 | ((repeat' (first | exact hkw6_7 | refine Below.setCell ?_ ?_ _ | refine Below.alloc ?_ ?_ _ | refine Below.drew ?_)) <;> (first | omega | (simp <;> omega)))))).more (show w6.heap.size ≤ _ from by first | omega | (simp <;> omega))) ((hr5.below (show Below w5.heap.size w5 _ from (by first | exact hkw5_7 | ((repeat' (first | exact hkw5_7 | refine Below.setCell ?_ ?_ _ | refine Below.alloc ?_ ?_ _ | refine Below.drew ?_)) <;> (first | omega | (simp <;> omega)))))).more (show w5.heap.size ≤ _ from by first | omega | (simp <;> omega)))).mono ?_
  rintro e w8 ⟨rfl, hb8⟩
  have hB8 : Below w.heap.size w w8 := Below.trans (by first | exact hB7 | ((repeat' (first | exact hB7 | refine Below.setCell ?_ ?_ _ | refine Below.alloc ?_ ?_ _ | refine Below.drew ?_)) <;> (first | omega | (simp <;> omega)))) (hb8.mono (by first | omega | (simp <;> omega)))
  have hs8 : w.heap.size ≤ w8.heap.size := hB8.size
  have ht8 := hb8.size
  try simp only [World.size_alloc, World.size_setCell] at ht8
  have hkw1_8 : Below w1.heap.size w1 w8 := Below.trans (by first | exact hkw1_7 | ((repeat' (first | exact hkw1_7 | refine Below.setCell ?_ ?_ _ | refine Below.alloc ?_ ?_ _ | refine Below.drew ?_)) <;> (first | omega | (simp <;> omega)))) (hb8.mono (by first | omega | (simp <;> omega)))
  have hkw2_8 : Below w2.heap.size w2 w8 := Below.trans (by first | exact hkw2_7 | ((repeat' (first | exact hkw2_7 | refine Below.setCell ?_ ?_ _ | refine Below.alloc ?_ ?_ _ | refine Below.drew ?_)) <;> (first | omega | (simp <;> omega)))) (hb8.mono (by first | omega | (simp <;> omega)))
  have hkw5_8 : Below w5.heap.size w5 w8 := Below.trans (by first | exact hkw5_7 | ((repeat' (first | exact hkw5_7 | refine Below.setCell ?_ ?_ _ | refine Below.alloc ?_ ?_ _ | refine Below.drew ?_)) <;> (first | omega | (simp <;> omega)))) (hb8.mono (by first | omega | (simp <;> omega)))
  have hkw6_8 : Below w6.heap.size w6 w8 := Below.trans (by first | exact hkw6_7 | ((repeat' (first | exact hkw6_7 | refine Below.setCell ?_ ?_ _ | refine Below.alloc ?_ ?_ _ | refine Below.drew ?_)) <;> (first | omega | (simp <;> omega)))) (hb8.mono (by first | omega | (simp <;> omega)))
  clear hkw1_7 hkw2_7 hkw5_7 hkw6_7 hB7 hb8
  go_wp2_with fail
  go_ret
  exact ⟨rfl, (by first | exact hB8 | ((repeat' (first | exact hB8 | refine Below.setCell ?_ ?_ _ | refine Below.alloc ?_ ?_ _ | refine Below.drew ?_)) <;> (first | omega | (simp <;> omega))))⟩
set_option maxRecDepth 100000 in
set_option maxHeartbeats 8000000 in
theorem coverIs_3c (A : Option Addr) (l : List Sp) (c : Nat) (B : Option Addr) (p : List Pf) (d : Nat) (hm : l.length ≤ maxLen) (hmp : p.length ≤ maxLen) (w : World) (hg : ErrVar w) (ht : TabVar w) (hl : Rd w w.heap.size A (cellsP l)) (hp : Rd w w.heap.size B (cellsP p)) (hs : spansPFault p = 0) (h2 : 200 < (fewest p).length) (s0 : Act) (w0 : World) (h0 : CImid A l c B p d w s0 w0) :
    (tailN 7 (tailN 8 (Tryd.f4.body.getD .skip))).wp Tryd.prog (bodyPost Tryd.prog Tryd.f4 fun e w' => e = .returned (.bool true) ∧ Below w.heap.size w w') s0 w0 := by
  have HG := Lib.hid hg
  have HT := Lib.hid ht
  clear hg ht
  have hz0 := spansPFault_zero.1 hs
  have HN64 := Lib.hid hz0.2.2
  have HV := Lib.hid (norm_valid (spansP_valid hz0.2.1))
  have HE := Lib.hid (fewestFault_full hs h2)
  have HF := Lib.hid (show fewestFault p ≠ 0 by rw [HE.out]; decide)
  have HS := Lib.hid hs
  have H2 := Lib.hid (show 200 < (coverSet (norm (spansP p))).length from h2)
  clear hs h2 hz0
  obtain ⟨U, rfl, hB0⟩ := h0
  dsimp only [Tryd.f4, Option.getD, tailN]
  have hs0 := hB0.size
  go_wp2_with fail
  refine (spansOf_ok B p d hmp HS.out _ ((hp.below (show Below w.heap.size w _ from (by first | exact hB0 | ((repeat' (first | exact hB0 | refine Below.setCell ?_ ?_ _ | refine Below.alloc ?_ ?_ _ | refine Below.drew ?_)) <;> (first | omega | (simp <;> omega)))))).more (show w.heap.size ≤ _ from by first | omega | (simp <;> omega)))).mono ?_
  rintro e w1 ⟨v1, rfl, hown1, hb1⟩
  have hB1 : Below w.heap.size w w1 := Below.trans (by first | exact hB0 | ((repeat' (first | exact hB0 | refine Below.setCell ?_ ?_ _ | refine Below.alloc ?_ ?_ _ | refine Below.drew ?_)) <;> (first | omega | (simp <;> omega)))) (hb1.mono (by first | omega | (simp <;> omega)))
  have hs1 : w.heap.size ≤ w1.heap.size := hB1.size
  have ht1 := hb1.size
  try simp only [World.size_alloc, World.size_setCell] at ht1
  clear hB0 hb1
  obtain ⟨N, hN⟩ : ∃ N, N = norm (spansP p) := ⟨_, rfl⟩
  rw [← hN] at hown1
  have HN := Lib.hid hN
  clear hN
  obtain ⟨A1, c1, rfl, hr1⟩ := hown1.form
  clear hown1
  go_wp2_with fail
  refine (spansP_ok B p d hmp HS.out _ ((hp.below (show Below w.heap.size w _ from (by first | exact hB1 | ((repeat' (first | exact hB1 | refine Below.setCell ?_ ?_ _ | refine Below.alloc ?_ ?_ _ | refine Below.drew ?_)) <;> (first | omega | (simp <;> omega)))))).more (show w.heap.size ≤ _ from by first | omega | (simp <;> omega)))).mono ?_
  rintro e w2 ⟨v2, rfl, hown2, hb2⟩
  have hB2 : Below w.heap.size w w2 := Below.trans (by first | exact hB1 | ((repeat' (first | exact hB1 | refine Below.setCell ?_ ?_ _ | refine Below.alloc ?_ ?_ _ | refine Below.drew ?_)) <;> (first | omega | (simp <;> omega)))) (hb2.mono (by first | omega | (simp <;> omega)))
  have hs2 : w.heap.size ≤ w2.heap.size := hB2.size
  have ht2 := hb2.size
  try simp only [World.size_alloc, World.size_setCell] at ht2
  have hkw1_2 : Below w1.heap.size w1 w2 := Below.trans (by first | exact Below.refl _ _ | ((repeat' (first | exact Below.refl _ _ | refine Below.setCell ?_ ?_ _ | refine Below.alloc ?_ ?_ _ | refine Below.drew ?_)) <;> (first | omega | (simp <;> omega)))) (hb2.mono (by first | omega | (simp <;> omega)))
  clear hB1 hb2
  obtain ⟨M, hM⟩ : ∃ M, M = norm (spansP p) := ⟨_, rfl⟩
  rw [← hM] at hown2
  have HM := Lib.hid hM
  clear hM
  obtain ⟨A2, c2, rfl, hr2⟩ := hown2.form
  clear hown2
  go_wp2_with fail
  refine (error_nil0 _ (by exact HG.out.belowB (show Below w.heap.size w _ from (by first | exact hB2 | ((repeat' (first | exact hB2 | refine Below.setCell ?_ ?_ _ | refine Below.alloc ?_ ?_ _ | refine Below.drew ?_)) <;> (first | omega | (simp <;> omega))))) HG.out.lt)).mono ?_
  rintro e w3 ⟨rfl, hb3⟩
  have hB3 : Below w.heap.size w w3 := Below.trans (by first | exact hB2 | ((repeat' (first | exact hB2 | refine Below.setCell ?_ ?_ _ | refine Below.alloc ?_ ?_ _ | refine Below.drew ?_)) <;> (first | omega | (simp <;> omega)))) (hb3.mono (by first | omega | (simp <;> omega)))
  have hs3 : w.heap.size ≤ w3.heap.size := hB3.size
  have ht3 := hb3.size
  try simp only [World.size_alloc, World.size_setCell] at ht3
  have hkw1_3 : Below w1.heap.size w1 w3 := Below.trans (by first | exact hkw1_2 | ((repeat' (first | exact hkw1_2 | refine Below.setCell ?_ ?_ _ | refine Below.alloc ?_ ?_ _ | refine Below.drew ?_)) <;> (first | omega | (simp <;> omega)))) (hb3.mono (by first | omega | (simp <;> omega)))
  have hkw2_3 : Below w2.heap.size w2 w3 := Below.trans (by first | exact Below.refl _ _ | ((repeat' (first | exact Below.refl _ _ | refine Below.setCell ?_ ?_ _ | refine Below.alloc ?_ ?_ _ | refine Below.drew ?_)) <;> (first | omega | (simp <;> omega)))) (hb3.mono (by first | omega | (simp <;> omega)))
  clear hkw1_2 hB2 hb3
  go_wp2_with fail
  refine (spans_same A2 A1 M N _ _ c2 c1 rfl rfl (by unfold maxLen; have : M.length ≤ 64 := (by rw [HM.out]; exact HN64.out); omega) (by rw [HN.out, HM.out]) _ ((hr2.below (show Below w2.heap.size w2 _ from (by first | exact hkw2_3 | ((repeat' (first | exact hkw2_3 | refine Below.setCell ?_ ?_ _ | refine Below.alloc ?_ ?_ _ | refine Below.drew ?_)) <;> (first | omega | (simp <;> omega)))))).more (show w2.heap.size ≤ _ from by first | omega | (simp <;> omega))) ((hr1.below (show Below w1.heap.size w1 _ from (by first | exact hkw1_3 | ((repeat' (first | exact hkw1_3 | refine Below.setCell ?_ ?_ _ | refine Below.alloc ?_ ?_ _ | refine Below.drew ?_)) <;> (first | omega | (simp <;> omega)))))).more (show w1.heap.size ≤ _ from by first | omega | (simp <;> omega)))).mono ?_
  rintro e w4 ⟨rfl, hb4⟩
  have hB4 : Below w.heap.size w w4 := Below.trans (by first | exact hB3 | ((repeat' (first | exact hB3 | refine Below.setCell ?_ ?_ _ | refine Below.alloc ?_ ?_ _ | refine Below.drew ?_)) <;> (first | omega | (simp <;> omega)))) (hb4.mono (by first | omega | (simp <;> omega)))
  have hs4 : w.heap.size ≤ w4.heap.size := hB4.size
  have ht4 := hb4.size
  try simp only [World.size_alloc, World.size_setCell] at ht4
  have hkw1_4 : Below w1.heap.size w1 w4 := Below.trans (by first | exact hkw1_3 | ((repeat' (first | exact hkw1_3 | refine Below.setCell ?_ ?_ _ | refine Below.alloc ?_ ?_ _ | refine Below.drew ?_)) <;> (first | omega | (simp <;> omega)))) (hb4.mono (by first | omega | (simp <;> omega)))
  have hkw2_4 : Below w2.heap.size w2 w4 := Below.trans (by first | exact hkw2_3 | ((repeat' (first | exact hkw2_3 | refine Below.setCell ?_ ?_ _ | refine Below.alloc ?_ ?_ _ | refine Below.drew ?_)) <;> (first | omega | (simp <;> omega)))) (hb4.mono (by first | omega | (simp <;> omega)))
  clear hkw1_3 hkw2_3 hB3 hb4
  go_wp2_with fail
  refine (coverOf_any A1 N c1 (by rw [HN.out]; exact HV.out) (by rw [HN.out]; exact HN64.out) _ ((hr1.below (show Below w1.heap.size w1 _ from (by first | exact hkw1_4 | ((repeat' (first | exact hkw1_4 | refine Below.setCell ?_ ?_ _ | refine Below.alloc ?_ ?_ _ | refine Below.drew ?_)) <;> (first | omega | (simp <;> omega)))))).more (show w1.heap.size ≤ _ from by first | omega | (simp <;> omega)))).mono ?_
  rintro e w5 ⟨v5, rfl, hown5, hb5⟩
  have hB5 : Below w.heap.size w w5 := Below.trans (by first | exact hB4 | ((repeat' (first | exact hB4 | refine Below.setCell ?_ ?_ _ | refine Below.alloc ?_ ?_ _ | refine Below.drew ?_)) <;> (first | omega | (simp <;> omega)))) (hb5.mono (by first | omega | (simp <;> omega)))
  have hs5 : w.heap.size ≤ w5.heap.size := hB5.size
  have ht5 := hb5.size
  try simp only [World.size_alloc, World.size_setCell] at ht5
  have hkw1_5 : Below w1.heap.size w1 w5 := Below.trans (by first | exact hkw1_4 | ((repeat' (first | exact hkw1_4 | refine Below.setCell ?_ ?_ _ | refine Below.alloc ?_ ?_ _ | refine Below.drew ?_)) <;> (first | omega | (simp <;> omega)))) (hb5.mono (by first | omega | (simp <;> omega)))
  have hkw2_5 : Below w2.heap.size w2 w5 := Below.trans (by first | exact hkw2_4 | ((repeat' (first | exact hkw2_4 | refine Below.setCell ?_ ?_ _ | refine Below.alloc ?_ ?_ _ | refine Below.drew ?_)) <;> (first | omega | (simp <;> omega)))) (hb5.mono (by first | omega | (simp <;> omega)))
  clear hkw1_4 hkw2_4 hB4 hb5
  rw [HN.out] at hown5
  obtain ⟨X, hX⟩ : ∃ X, X = coverSet (norm (spansP p)) := ⟨_, rfl⟩
  rw [← hX] at hown5
  have HX := Lib.hid hX
  clear hX
  obtain ⟨A5, c5, rfl, hr5⟩ := hown5.form
  clear hown5
  have hx : 200 < X.length := by rw [HX.out]; exact H2.out
  go_wp2_with fail
  refine (fewest_bad B p d hmp HF.out _ (by exact HT.out.belowB (show Below w.heap.size w _ from (by first | exact hB5 | ((repeat' (first | exact hB5 | refine Below.setCell ?_ ?_ _ | refine Below.alloc ?_ ?_ _ | refine Below.drew ?_)) <;> (first | omega | (simp <;> omega))))) HT.out.lt) ((hp.below (show Below w.heap.size w _ from (by first | exact hB5 | ((repeat' (first | exact hB5 | refine Below.setCell ?_ ?_ _ | refine Below.alloc ?_ ?_ _ | refine Below.drew ?_)) <;> (first | omega | (simp <;> omega)))))).more (show w.heap.size ≤ _ from by first | omega | (simp <;> omega)))).mono ?_
  rintro e w6 ⟨rfl, hb6⟩
  have hB6 : Below w.heap.size w w6 := Below.trans (by first | exact hB5 | ((repeat' (first | exact hB5 | refine Below.setCell ?_ ?_ _ | refine Below.alloc ?_ ?_ _ | refine Below.drew ?_)) <;> (first | omega | (simp <;> omega)))) (hb6.mono (by first | omega | (simp <;> omega)))
  have hs6 : w.heap.size ≤ w6.heap.size := hB6.size
  have ht6 := hb6.size
  try simp only [World.size_alloc, World.size_setCell] at ht6
  have hkw1_6 : Below w1.heap.size w1 w6 := Below.trans (by first | exact hkw1_5 | ((repeat' (first | exact hkw1_5 | refine Below.setCell ?_ ?_ _ | refine Below.alloc ?_ ?_ _ | refine Below.drew ?_)) <;> (first | omega | (simp <;> omega)))) (hb6.mono (by first | omega | (simp <;> omega)))
  have hkw2_6 : Below w2.heap.size w2 w6 := Below.trans (by first | exact hkw2_5 | ((repeat' (first | exact hkw2_5 | refine Below.setCell ?_ ?_ _ | refine Below.alloc ?_ ?_ _ | refine Below.drew ?_)) <;> (first | omega | (simp <;> omega)))) (hb6.mono (by first | omega | (simp <;> omega)))
  have hkw5_6 : Below w5.heap.size w5 w6 := Below.trans (by first | exact Below.refl _ _ | ((repeat' (first | exact Below.refl _ _ | refine Below.setCell ?_ ?_ _ | refine Below.alloc ?_ ?_ _ | refine Below.drew ?_)) <;> (first | omega | (simp <;> omega)))) (hb6.mono (by first | omega | (simp <;> omega)))
  clear hkw1_5 hkw2_5 hB5 hb6
  rw [HE.out]
  go_wp2_with fail
  refine (error_same 3 (by decide) _ (by exact HG.out.belowB (show Below w.heap.size w _ from (by first | exact hB6 | ((repeat' (first | exact hB6 | refine Below.setCell ?_ ?_ _ | refine Below.alloc ?_ ?_ _ | refine Below.drew ?_)) <;> (first | omega | (simp <;> omega))))) HG.out.lt)).mono ?_
  rintro e w7 ⟨rfl, hb7⟩
  have hB7 : Below w.heap.size w w7 := Below.trans (by first | exact hB6 | ((repeat' (first | exact hB6 | refine Below.setCell ?_ ?_ _ | refine Below.alloc ?_ ?_ _ | refine Below.drew ?_)) <;> (first | omega | (simp <;> omega)))) (hb7.mono (by first | omega | (simp <;> omega)))
  have hs7 : w.heap.size ≤ w7.heap.size := hB7.size
  have ht7 := hb7.size
  try simp only [World.size_alloc, World.size_setCell] at ht7
  have hkw1_7 : Below w1.heap.size w1 w7 := Below.trans (by first | exact hkw1_6 | ((repeat' (first | exact hkw1_6 | refine Below.setCell ?_ ?_ _ | refine Below.alloc ?_ ?_ _ | refine Below.drew ?_)) <;> (first | omega | (simp <;> omega)))) (hb7.mono (by first | omega | (simp <;> omega)))
  have hkw2_7 : Below w2.heap.size w2 w7 := Below.trans (by first | exact hkw2_6 | ((repeat' (first | exact hkw2_6 | refine Below.setCell ?_ ?_ _ | refine Below.alloc ?_ ?_ _ | refine Below.drew ?_)) <;> (first | omega | (simp <;> omega)))) (hb7.mono (by first | omega | (simp <;> omega)))
  have hkw5_7 : Below w5.heap.size w5 w7 := Below.trans (by first | exact hkw5_6 | ((repeat' (first | exact hkw5_6 | refine Below.setCell ?_ ?_ _ | refine Below.alloc ?_ ?_ _ | refine Below.drew ?_)) <;> (first | omega | (simp <;> omega)))) (hb7.mono (by first | omega | (simp <;> omega)))
  clear hkw1_6 hkw2_6 hkw5_6 hB6 hb7
  go_wp2_with fail
  refine (prefixes_nil _).mono ?_
  rintro e w8 ⟨rfl, hb8⟩
  have hB8 : Below w.heap.size w w8 := Below.trans (by first | exact hB7 | ((repeat' (first | exact hB7 | refine Below.setCell ?_ ?_ _ | refine Below.alloc ?_ ?_ _ | refine Below.drew ?_)) <;> (first | omega | (simp <;> omega)))) (hb8.mono (by first | omega | (simp <;> omega)))
  have hs8 : w.heap.size ≤ w8.heap.size := hB8.size
  have ht8 := hb8.size
  try simp only [World.size_alloc, World.size_setCell] at ht8
  have hkw1_8 : Below w1.heap.size w1 w8 := Below.trans (by first | exact hkw1_7 | ((repeat' (first | exact hkw1_7 | refine Below.setCell ?_ ?_ _ | refine Below.alloc ?_ ?_ _ | refine Below.drew ?_)) <;> (first | omega | (simp <;> omega)))) (hb8.mono (by first | omega | (simp <;> omega)))
  have hkw2_8 : Below w2.heap.size w2 w8 := Below.trans (by first | exact hkw2_7 | ((repeat' (first | exact hkw2_7 | refine Below.setCell ?_ ?_ _ | refine Below.alloc ?_ ?_ _ | refine Below.drew ?_)) <;> (first | omega | (simp <;> omega)))) (hb8.mono (by first | omega | (simp <;> omega)))
  have hkw5_8 : Below w5.heap.size w5 w8 := Below.trans (by first | exact hkw5_7 | ((repeat' (first | exact hkw5_7 | refine Below.setCell ?_ ?_ _ | refine Below.alloc ?_ ?_ _ | refine Below.drew ?_)) <;> (first | omega | (simp <;> omega)))) (hb8.mono (by first | omega | (simp <;> omega)))
  clear hkw1_7 hkw2_7 hkw5_7 hB7 hb8
  go_wp2_with fail
  go_ret
  exact ⟨rfl, (by first | exact hB8 | ((repeat' (first | exact hB8 | refine Below.setCell ?_ ?_ _ | refine Below.alloc ?_ ?_ _ | refine Below.drew ?_)) <;> (first | omega | (simp <;> omega))))⟩
theorem coverIs_walk (x y : Int) (A : Option Addr) (l : List Sp) (c : Nat) (hm : l.length ≤ maxLen) (B : Option Addr) (p : List Pf) (d : Nat) (hmp : p.length ≤ maxLen) (w : World) (hg : ErrVar w) (ht : TabVar w) (hl : Rd w w.heap.size A (cellsP l)) (hp : Rd w w.heap.size B (cellsP p)) :
    Calls Tryd.prog 4 #[.agg #[.int .i64 x, .int .i64 y], .slice A l.length c, .slice B p.length d] w fun e w' => e = .returned (.bool true) ∧ Below w.heap.size w w' := by
  have h3 : ∀ s0 w0, CImid A l c B p d w s0 w0 → (tailN 7 (tailN 8 (Tryd.f4.body.getD .skip))).wp Tryd.prog (bodyPost Tryd.prog Tryd.f4 fun e w' => e = .returned (.bool true) ∧ Below w.heap.size w w') s0 w0 := fun s0 w0 h0 => by
    by_cases hs : spansPFault p = 0
    · by_cases h2 : (fewest p).length ≤ 200
      · exact coverIs_3b A l c B p d hm hmp w hg ht hl hp hs h2 s0 w0 h0
      · exact coverIs_3c A l c B p d hm hmp w hg ht hl hp hs (by omega) s0 w0 h0
    · exact coverIs_3a A l c B p d hm hmp w hg ht hl hp hs s0 w0 h0
  have h2 : ∀ s0 w0, CImid A l c B p d w s0 w0 → (tailN 8 (Tryd.f4.body.getD .skip)).wp Tryd.prog (bodyPost Tryd.prog Tryd.f4 fun e w' => e = .returned (.bool true) ∧ Below w.heap.size w w') s0 w0 := fun s0 w0 h0 => by
    by_cases hs : setFault l = 0
    · by_cases h2 : (coverSet l).length ≤ 200
      · exact coverIs_2b A l c B p d hm hmp w hg ht hl hp hs h2 _ s0 w0 h0 h3
      · exact coverIs_2c A l c B p d hm hmp w hg ht hl hp hs (by omega) _ s0 w0 h0 h3
    · exact coverIs_2a A l c B p d hm hmp w hg ht hl hp hs _ s0 w0 h0 h3
  by_cases hs : spanFault (x, y) = 0
  · exact coverIs_1a (x, y) A l c B p d hm hmp w hg ht hl hp hs _ h2
  · exact coverIs_1b (x, y) A l c B p d hm hmp w hg ht hl hp hs _ h2
end Go.Proofs.YtmfaknngophmhaaDoor
