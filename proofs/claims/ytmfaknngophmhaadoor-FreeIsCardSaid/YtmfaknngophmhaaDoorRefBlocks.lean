/- The reference BlocksOf: what is free of a prefix, halved as often as is needed. A prefix and a list that may be. -/
import Derived.Test.YtmfaknngophmhaaDoorRefFree
namespace Go.Proofs.YtmfaknngophmhaaDoor
set_option linter.unusedVariables false
set_option linter.unusedSimpArgs false
open Go.RowKit

set_option maxRecDepth 100000 in
set_option maxHeartbeats 4000000 in
theorem blocksOf_0 (p : Pf) (A : Option Addr) (l : List Pf) (c : Nat) (hm : l.length ≤ 60) (hv : ∀ q ∈ l, chkP q = 0) (hs : stT l p = 0) (hc : chkP p = 0) (w : World) (hl : Rd w w.heap.size A (cellsP l)) :
    Calls Tryd.prog 30 #[.agg #[.int .i64 p.1, .int .i64 p.2], .slice A l.length c] w (OwnRes 46 w [p]) := by
  obtain ⟨hp0, hp1, hp2, hp3, _⟩ := chk_zero.1 (show chk p.1 p.2 = 0 from hc)
  have HV := Lib.hid hv
  have HC := Lib.hid hc
  clear hv hc
  have HS := Lib.hid (show (stT l p : Int) = 0 by rw [hs]; rfl)
  clear hs
  go_enter Tryd.func30, Tryd.ntmps30
  go_wp2_with fail
  refine (state_any p A l c HC.out hm HV.out _ ((hl.below (show Below w.heap.size w _ from (by first | exact Below.refl _ _ | ((repeat' (first | exact Below.refl _ _ | refine Below.setCell ?_ ?_ _ | refine Below.alloc ?_ ?_ _ | refine Below.drew ?_)) <;> (first | omega | (simp <;> omega)))))).more (show w.heap.size ≤ _ from by first | omega | (simp <;> omega)))).mono ?_
  rintro e w1 ⟨rfl, hb1⟩
  have hB1 : Below w.heap.size w w1 := Below.trans (by first | exact Below.refl _ _ | ((repeat' (first | exact Below.refl _ _ | refine Below.setCell ?_ ?_ _ | refine Below.alloc ?_ ?_ _ | refine Below.drew ?_)) <;> (first | omega | (simp <;> omega)))) (hb1.mono (by first | omega | (simp <;> omega)))
  have hs1 : w.heap.size ≤ w1.heap.size := hB1.size
  have ht1 := hb1.size
  try simp only [World.size_alloc, World.size_setCell] at ht1
  have c1_0 : w1.cell? ⟨w.heap.size, 0, none⟩ = some (.int .i64 p.1) := (hb1.cell (p := ⟨w.heap.size, 0, none⟩) (by first | omega | (simp <;> omega))).trans (by first | (simp; done) | simp [go_sem])
  have c1_1 : w1.cell? ⟨w.heap.size, 1, none⟩ = some (.int .i64 p.2) := (hb1.cell (p := ⟨w.heap.size, 1, none⟩) (by first | omega | (simp <;> omega))).trans (by first | (simp; done) | simp [go_sem])
  have l1_0a : w.heap.size < w1.heap.size := World.block_lt_of_cell? w1 _ c1_0
  have l1_0b : w.heap.size < w1.heap.size + 1 := Nat.lt_succ_of_lt l1_0a
  have l1_0c : w.heap.size < w1.heap.size + 1 + 1 := Nat.lt_succ_of_lt l1_0b
  have l1_0d : w.heap.size < w1.heap.size + 1 + 1 + 1 := Nat.lt_succ_of_lt l1_0c
  clear hb1
  rw [HS.out]
  go_wp2_with fail
  go_ret
  exact ⟨_, rfl, own_lit w1 w.heap.size hs1 p 46, (by first | exact hB1 | ((repeat' (first | exact hB1 | refine Below.setCell ?_ ?_ _ | refine Below.alloc ?_ ?_ _ | refine Below.drew ?_)) <;> (first | omega | (simp <;> omega))))⟩
set_option maxRecDepth 100000 in
set_option maxHeartbeats 4000000 in
theorem blocksOf_1 (p : Pf) (A : Option Addr) (l : List Pf) (c : Nat) (hm : l.length ≤ 60) (hv : ∀ q ∈ l, chkP q = 0) (hs : stT l p = 1) (hc : chkP p = 0) (w : World) (hl : Rd w w.heap.size A (cellsP l)) :
    Calls Tryd.prog 30 #[.agg #[.int .i64 p.1, .int .i64 p.2], .slice A l.length c] w (OwnRes 46 w []) := by
  obtain ⟨hp0, hp1, hp2, hp3, _⟩ := chk_zero.1 (show chk p.1 p.2 = 0 from hc)
  have HV := Lib.hid hv
  have HC := Lib.hid hc
  clear hv hc
  have HS := Lib.hid (show (stT l p : Int) = 1 by rw [hs]; rfl)
  clear hs
  go_enter Tryd.func30, Tryd.ntmps30
  go_wp2_with fail
  refine (state_any p A l c HC.out hm HV.out _ ((hl.below (show Below w.heap.size w _ from (by first | exact Below.refl _ _ | ((repeat' (first | exact Below.refl _ _ | refine Below.setCell ?_ ?_ _ | refine Below.alloc ?_ ?_ _ | refine Below.drew ?_)) <;> (first | omega | (simp <;> omega)))))).more (show w.heap.size ≤ _ from by first | omega | (simp <;> omega)))).mono ?_
  rintro e w1 ⟨rfl, hb1⟩
  have hB1 : Below w.heap.size w w1 := Below.trans (by first | exact Below.refl _ _ | ((repeat' (first | exact Below.refl _ _ | refine Below.setCell ?_ ?_ _ | refine Below.alloc ?_ ?_ _ | refine Below.drew ?_)) <;> (first | omega | (simp <;> omega)))) (hb1.mono (by first | omega | (simp <;> omega)))
  have hs1 : w.heap.size ≤ w1.heap.size := hB1.size
  have ht1 := hb1.size
  try simp only [World.size_alloc, World.size_setCell] at ht1
  have c1_0 : w1.cell? ⟨w.heap.size, 0, none⟩ = some (.int .i64 p.1) := (hb1.cell (p := ⟨w.heap.size, 0, none⟩) (by first | omega | (simp <;> omega))).trans (by first | (simp; done) | simp [go_sem])
  have c1_1 : w1.cell? ⟨w.heap.size, 1, none⟩ = some (.int .i64 p.2) := (hb1.cell (p := ⟨w.heap.size, 1, none⟩) (by first | omega | (simp <;> omega))).trans (by first | (simp; done) | simp [go_sem])
  have l1_0a : w.heap.size < w1.heap.size := World.block_lt_of_cell? w1 _ c1_0
  have l1_0b : w.heap.size < w1.heap.size + 1 := Nat.lt_succ_of_lt l1_0a
  have l1_0c : w.heap.size < w1.heap.size + 1 + 1 := Nat.lt_succ_of_lt l1_0b
  have l1_0d : w.heap.size < w1.heap.size + 1 + 1 + 1 := Nat.lt_succ_of_lt l1_0c
  clear hb1
  rw [HS.out]
  go_wp2_with fail
  go_ret
  exact ⟨_, rfl, OwnP.nil _ _ _, (by first | exact hB1 | ((repeat' (first | exact hB1 | refine Below.setCell ?_ ?_ _ | refine Below.alloc ?_ ?_ _ | refine Below.drew ?_)) <;> (first | omega | (simp <;> omega))))⟩
set_option maxRecDepth 100000 in
set_option maxHeartbeats 4000000 in
theorem blocksOf_2 (p : Pf) (A : Option Addr) (l : List Pf) (c : Nat) (hm : l.length ≤ 60) (hv : ∀ q ∈ l, chkP q = 0) (hs : stT l p = 2) (h32 : p.2 < 32) (k : Nat) (hk : k ≤ 32) (ih0 : ∀ w, Rd w w.heap.size A (cellsP l) → Calls Tryd.prog 30 #[.agg #[.int .i64 p.1, .int .i64 (p.2 + 1)], .slice A l.length c] w (OwnRes 46 w (halvL (stT l) k (p.1, p.2 + 1)))) (ih1 : ∀ w, Rd w w.heap.size A (cellsP l) → Calls Tryd.prog 30 #[.agg #[.int .i64 (p.1 + sz (p.2 + 1)), .int .i64 (p.2 + 1)], .slice A l.length c] w (OwnRes 46 w (halvL (stT l) k (p.1 + sz (p.2 + 1), p.2 + 1)))) (hc : chkP p = 0) (w : World) (hl : Rd w w.heap.size A (cellsP l)) :
    Calls Tryd.prog 30 #[.agg #[.int .i64 p.1, .int .i64 p.2], .slice A l.length c] w (OwnRes 46 w (halvL (stT l) k (p.1, p.2 + 1) ++ halvL (stT l) k (p.1 + sz (p.2 + 1), p.2 + 1))) := by
  obtain ⟨hp0, hp1, hp2, hp3, _⟩ := chk_zero.1 (show chk p.1 p.2 = 0 from hc)
  have HV := Lib.hid hv
  have HC := Lib.hid hc
  clear hv hc
  have HS := Lib.hid (show (stT l p : Int) = 2 by rw [hs]; rfl)
  clear hs
  go_enter Tryd.func30, Tryd.ntmps30
  go_wp2_with fail
  refine (state_any p A l c HC.out hm HV.out _ ((hl.below (show Below w.heap.size w _ from (by first | exact Below.refl _ _ | ((repeat' (first | exact Below.refl _ _ | refine Below.setCell ?_ ?_ _ | refine Below.alloc ?_ ?_ _ | refine Below.drew ?_)) <;> (first | omega | (simp <;> omega)))))).more (show w.heap.size ≤ _ from by first | omega | (simp <;> omega)))).mono ?_
  rintro e w1 ⟨rfl, hb1⟩
  have hB1 : Below w.heap.size w w1 := Below.trans (by first | exact Below.refl _ _ | ((repeat' (first | exact Below.refl _ _ | refine Below.setCell ?_ ?_ _ | refine Below.alloc ?_ ?_ _ | refine Below.drew ?_)) <;> (first | omega | (simp <;> omega)))) (hb1.mono (by first | omega | (simp <;> omega)))
  have hs1 : w.heap.size ≤ w1.heap.size := hB1.size
  have ht1 := hb1.size
  try simp only [World.size_alloc, World.size_setCell] at ht1
  have c1_0 : w1.cell? ⟨w.heap.size, 0, none⟩ = some (.int .i64 p.1) := (hb1.cell (p := ⟨w.heap.size, 0, none⟩) (by first | omega | (simp <;> omega))).trans (by first | (simp; done) | simp [go_sem])
  have c1_1 : w1.cell? ⟨w.heap.size, 1, none⟩ = some (.int .i64 p.2) := (hb1.cell (p := ⟨w.heap.size, 1, none⟩) (by first | omega | (simp <;> omega))).trans (by first | (simp; done) | simp [go_sem])
  have l1_0a : w.heap.size < w1.heap.size := World.block_lt_of_cell? w1 _ c1_0
  have l1_0b : w.heap.size < w1.heap.size + 1 := Nat.lt_succ_of_lt l1_0a
  have l1_0c : w.heap.size < w1.heap.size + 1 + 1 := Nat.lt_succ_of_lt l1_0b
  have l1_0d : w.heap.size < w1.heap.size + 1 + 1 + 1 := Nat.lt_succ_of_lt l1_0c
  clear hb1
  rw [HS.out]
  have hz0 := sz_pos (p.2 + 1)
  have hz1 := sz_le (p.2 + 1) (by omega)
  go_wp2_with fail
  refine wp_name ?_
  intro w2 hW2
  have hB2 : Below w.heap.size w w2 := by rw [hW2.out]; exact (by first | exact hB1 | ((repeat' (first | exact hB1 | refine Below.setCell ?_ ?_ _ | refine Below.alloc ?_ ?_ _ | refine Below.drew ?_)) <;> (first | omega | (simp <;> omega))))
  have hs2 : w.heap.size ≤ w2.heap.size := hB2.size
  have ht2 := congrArg (fun x : World => x.heap.size) hW2.out
  try simp only [World.size_alloc, World.size_setCell] at ht2
  have c2_0 : w2.cell? ⟨w.heap.size, 0, none⟩ = some (.int .i64 p.1) := by rw [hW2.out]; first | exact c1_0 | simp [go_sem, c1_0, l1_0a, l1_0b, l1_0c, l1_0d]
  have c2_1 : w2.cell? ⟨w.heap.size, 1, none⟩ = some (.int .i64 p.2) := by rw [hW2.out]; first | exact c1_1 | simp [go_sem, c1_1, l1_0a, l1_0b, l1_0c, l1_0d]
  have c2_2 : w2.cell? ⟨w1.heap.size, 0, none⟩ = some (.int .i64 p.1) := by rw [hW2.out]; first | (simp; done) | simp [go_sem, l1_0a, l1_0b, l1_0c, l1_0d, c1_0, c1_1]
  have c2_3 : w2.cell? ⟨w1.heap.size, 1, none⟩ = some (.int .i64 (p.2 + 1)) := by rw [hW2.out]; first | (simp; done) | simp [go_sem, l1_0a, l1_0b, l1_0c, l1_0d, c1_0, c1_1]
  have l2_0a : w.heap.size < w2.heap.size := World.block_lt_of_cell? w2 _ c2_0
  have l2_0b : w.heap.size < w2.heap.size + 1 := Nat.lt_succ_of_lt l2_0a
  have l2_0c : w.heap.size < w2.heap.size + 1 + 1 := Nat.lt_succ_of_lt l2_0b
  have l2_0d : w.heap.size < w2.heap.size + 1 + 1 + 1 := Nat.lt_succ_of_lt l2_0c
  have l2_1a : w1.heap.size < w2.heap.size := World.block_lt_of_cell? w2 _ c2_2
  have l2_1b : w1.heap.size < w2.heap.size + 1 := Nat.lt_succ_of_lt l2_1a
  have l2_1c : w1.heap.size < w2.heap.size + 1 + 1 := Nat.lt_succ_of_lt l2_1b
  have l2_1d : w1.heap.size < w2.heap.size + 1 + 1 + 1 := Nat.lt_succ_of_lt l2_1c
  have hu2 := Nat.le_of_eq ht2
  have hv2 := Nat.le_of_eq ht2.symm
  clear ht2 c1_0 c1_1 l1_0a l1_0b l1_0c l1_0d hB1 hW2
  go_cut [7] (fun hi wx => ∃ g : Nat, hi = .pointer (some ⟨g, 0, none⟩) ∧ Below w2.heap.size w2 wx ∧ w2.heap.size ≤ g ∧ wx.cell? ⟨g, 0, none⟩ = some (.int .i64 (p.1 + sz (p.2 + 1))) ∧ wx.cell? ⟨g, 1, none⟩ = some (.int .i64 (p.2 + 1)))
  case first =>
    have q1 : IntKind.i64.wrap (p.1 + sz (p.2 + 1)) = p.1 + sz (p.2 + 1) := IntWalk.i64_in _ (by omega)
    have q2 : IntKind.i64.wrap (p.2 + 1) = p.2 + 1 := IntWalk.i64_in _ (by omega)
    go_region_held3 (fun w' => w'.cell? ⟨w.heap.size, 0, none⟩ = some (.int .i64 p.1) ∧ w'.cell? ⟨w.heap.size, 1, none⟩ = some (.int .i64 p.2)) (go_keep) ((go_at_call 59; refine (size_any _ (by omega) (by omega) _).mono ?_; rintro e w' ⟨rfl, rfl⟩))
    all_goals
      go_wp2_with fail
      go_meet
      case rel => exact ⟨_, rfl, (by ((repeat' (first | exact Below.refl _ _ | refine Below.setCell ?_ ?_ _ | refine Below.alloc ?_ ?_ _ | refine Below.drew ?_)) <;> (first | omega | (simp <;> omega)))), by simp <;> omega, by simp [go_sem], by simp [go_sem]⟩
  case rest =>
    obtain ⟨g7, hg7, hb3, hge7, hc7a, hc7b⟩ := hcut
    subst hg7
    obtain ⟨w3, rfl⟩ : ∃ x : World, x = wc := ⟨_, rfl⟩
    have hB3 : Below w.heap.size w w3 := Below.trans (by first | exact hB2 | ((repeat' (first | exact hB2 | refine Below.setCell ?_ ?_ _ | refine Below.alloc ?_ ?_ _ | refine Below.drew ?_)) <;> (first | omega | (simp <;> omega)))) (hb3.mono (by first | omega | (simp <;> omega)))
    have hs3 : w.heap.size ≤ w3.heap.size := hB3.size
    have ht3 := hb3.size
    try simp only [World.size_alloc, World.size_setCell] at ht3
    have c3_0 : w3.cell? ⟨w.heap.size, 0, none⟩ = some (.int .i64 p.1) := (hb3.cell (p := ⟨w.heap.size, 0, none⟩) (by first | omega | (simp <;> omega))).trans (by first | exact c2_0 | simp [go_sem, c2_0, l2_0a, l2_0b, l2_0c, l2_0d, l2_1a, l2_1b, l2_1c, l2_1d])
    have c3_1 : w3.cell? ⟨w.heap.size, 1, none⟩ = some (.int .i64 p.2) := (hb3.cell (p := ⟨w.heap.size, 1, none⟩) (by first | omega | (simp <;> omega))).trans (by first | exact c2_1 | simp [go_sem, c2_1, l2_0a, l2_0b, l2_0c, l2_0d, l2_1a, l2_1b, l2_1c, l2_1d])
    have c3_2 : w3.cell? ⟨w1.heap.size, 0, none⟩ = some (.int .i64 p.1) := (hb3.cell (p := ⟨w1.heap.size, 0, none⟩) (by first | omega | (simp <;> omega))).trans (by first | exact c2_2 | simp [go_sem, c2_2, l2_0a, l2_0b, l2_0c, l2_0d, l2_1a, l2_1b, l2_1c, l2_1d])
    have c3_3 : w3.cell? ⟨w1.heap.size, 1, none⟩ = some (.int .i64 (p.2 + 1)) := (hb3.cell (p := ⟨w1.heap.size, 1, none⟩) (by first | omega | (simp <;> omega))).trans (by first | exact c2_3 | simp [go_sem, c2_3, l2_0a, l2_0b, l2_0c, l2_0d, l2_1a, l2_1b, l2_1c, l2_1d])
    have l3_0a : w.heap.size < w3.heap.size := World.block_lt_of_cell? w3 _ c3_0
    have l3_0b : w.heap.size < w3.heap.size + 1 := Nat.lt_succ_of_lt l3_0a
    have l3_0c : w.heap.size < w3.heap.size + 1 + 1 := Nat.lt_succ_of_lt l3_0b
    have l3_0d : w.heap.size < w3.heap.size + 1 + 1 + 1 := Nat.lt_succ_of_lt l3_0c
    have l3_1a : w1.heap.size < w3.heap.size := World.block_lt_of_cell? w3 _ c3_2
    have l3_1b : w1.heap.size < w3.heap.size + 1 := Nat.lt_succ_of_lt l3_1a
    have l3_1c : w1.heap.size < w3.heap.size + 1 + 1 := Nat.lt_succ_of_lt l3_1b
    have l3_1d : w1.heap.size < w3.heap.size + 1 + 1 + 1 := Nat.lt_succ_of_lt l3_1c
    clear c2_0 c2_1 c2_2 c2_3 l2_0a l2_0b l2_0c l2_0d l2_1a l2_1b l2_1c l2_1d hB2 hb3
    have lt7 := World.block_lt_of_cell? w3 _ hc7a
    go_wp2_with fail
    refine wp_name ?_
    intro w4 hW4
    have hB4 : Below w.heap.size w w4 := by rw [hW4.out]; exact (by first | exact hB3 | ((repeat' (first | exact hB3 | refine Below.setCell ?_ ?_ _ | refine Below.alloc ?_ ?_ _ | refine Below.drew ?_)) <;> (first | omega | (simp <;> omega))))
    have hs4 : w.heap.size ≤ w4.heap.size := hB4.size
    have ht4 := congrArg (fun x : World => x.heap.size) hW4.out
    try simp only [World.size_alloc, World.size_setCell] at ht4
    have c4_0 : w4.cell? ⟨w.heap.size, 0, none⟩ = some (.int .i64 p.1) := by rw [hW4.out]; first | exact c3_0 | simp [go_sem, c3_0, l3_0a, l3_0b, l3_0c, l3_0d, l3_1a, l3_1b, l3_1c, l3_1d]
    have c4_1 : w4.cell? ⟨w.heap.size, 1, none⟩ = some (.int .i64 p.2) := by rw [hW4.out]; first | exact c3_1 | simp [go_sem, c3_1, l3_0a, l3_0b, l3_0c, l3_0d, l3_1a, l3_1b, l3_1c, l3_1d]
    have c4_2 : w4.cell? ⟨w1.heap.size, 0, none⟩ = some (.int .i64 p.1) := by rw [hW4.out]; first | exact c3_2 | simp [go_sem, c3_2, l3_0a, l3_0b, l3_0c, l3_0d, l3_1a, l3_1b, l3_1c, l3_1d]
    have c4_3 : w4.cell? ⟨w1.heap.size, 1, none⟩ = some (.int .i64 (p.2 + 1)) := by rw [hW4.out]; first | exact c3_3 | simp [go_sem, c3_3, l3_0a, l3_0b, l3_0c, l3_0d, l3_1a, l3_1b, l3_1c, l3_1d]
    have c4_4 : w4.cell? ⟨g7, 0, none⟩ = some (.int .i64 (p.1 + sz (p.2 + 1))) := by rw [hW4.out]; first | exact hc7a | simp [go_sem, hc7a, l3_0a, l3_0b, l3_0c, l3_0d, l3_1a, l3_1b, l3_1c, l3_1d]
    have c4_5 : w4.cell? ⟨g7, 1, none⟩ = some (.int .i64 (p.2 + 1)) := by rw [hW4.out]; first | exact hc7b | simp [go_sem, hc7b, l3_0a, l3_0b, l3_0c, l3_0d, l3_1a, l3_1b, l3_1c, l3_1d]
    have l4_0a : w.heap.size < w4.heap.size := World.block_lt_of_cell? w4 _ c4_0
    have l4_0b : w.heap.size < w4.heap.size + 1 := Nat.lt_succ_of_lt l4_0a
    have l4_0c : w.heap.size < w4.heap.size + 1 + 1 := Nat.lt_succ_of_lt l4_0b
    have l4_0d : w.heap.size < w4.heap.size + 1 + 1 + 1 := Nat.lt_succ_of_lt l4_0c
    have l4_1a : w1.heap.size < w4.heap.size := World.block_lt_of_cell? w4 _ c4_2
    have l4_1b : w1.heap.size < w4.heap.size + 1 := Nat.lt_succ_of_lt l4_1a
    have l4_1c : w1.heap.size < w4.heap.size + 1 + 1 := Nat.lt_succ_of_lt l4_1b
    have l4_1d : w1.heap.size < w4.heap.size + 1 + 1 + 1 := Nat.lt_succ_of_lt l4_1c
    have l4_2a : g7 < w4.heap.size := World.block_lt_of_cell? w4 _ c4_4
    have l4_2b : g7 < w4.heap.size + 1 := Nat.lt_succ_of_lt l4_2a
    have l4_2c : g7 < w4.heap.size + 1 + 1 := Nat.lt_succ_of_lt l4_2b
    have l4_2d : g7 < w4.heap.size + 1 + 1 + 1 := Nat.lt_succ_of_lt l4_2c
    have hu4 := Nat.le_of_eq ht4
    have hv4 := Nat.le_of_eq ht4.symm
    clear ht4 c3_0 c3_1 c3_2 c3_3 hc7a hc7b l3_0a l3_0b l3_0c l3_0d l3_1a l3_1b l3_1c l3_1d hB3 hW4
    have hrd : Rd w4.drew w4.drew.heap.size A (cellsP l) := (hl.below (hB4).drew).more (show w.heap.size ≤ _ from by first | omega | (simp <;> omega))
    have HRD := Lib.hid hrd
    clear hrd
    obtain ⟨L0, hL0⟩ : ∃ L, L = halvL (stT l) k (p.1, p.2 + 1) := ⟨_, rfl⟩
    obtain ⟨L1, hL1⟩ : ∃ L, L = halvL (stT l) k (p.1 + sz (p.2 + 1), p.2 + 1) := ⟨_, rfl⟩
    have hl0 : L0.length ≤ 4294967296 := by rw [hL0]; exact Nat.le_trans (halvL_len _ _ _) (show 2 ^ k ≤ 2 ^ 32 from Nat.pow_le_pow_right (by decide) hk)
    have hl1 : L1.length ≤ 4294967296 := by rw [hL1]; exact Nat.le_trans (halvL_len _ _ _) (show 2 ^ k ≤ 2 ^ 32 from Nat.pow_le_pow_right (by decide) hk)
    rw [← hL0] at ih0
    rw [← hL1] at ih1
    have HL0 := Lib.hid hL0
    have HL1 := Lib.hid hL1
    have IH0 := Lib.hid ih0
    have IH1 := Lib.hid ih1
    clear hL0 hL1 ih0 ih1
    have hS0 : w4.drew.cell? ⟨w1.heap.size, 0, none⟩ = some (.int .i64 p.1) ∧ w4.drew.cell? ⟨w1.heap.size, 1, none⟩ = some (.int .i64 (p.2 + 1)) ∧ w4.drew.cell? ⟨g7, 0, none⟩ = some (.int .i64 (p.1 + sz (p.2 + 1))) ∧ w4.drew.cell? ⟨g7, 1, none⟩ = some (.int .i64 (p.2 + 1)) := ⟨c4_2, c4_3, c4_4, c4_5⟩
    have hBd : Below w.heap.size w w4.drew := hB4.drew
    refine wp_region_held_drew (S := fun w' : World => w'.cell? ⟨w1.heap.size, 0, none⟩ = some (.int .i64 p.1) ∧ w'.cell? ⟨w1.heap.size, 1, none⟩ = some (.int .i64 (p.2 + 1)) ∧ w'.cell? ⟨g7, 0, none⟩ = some (.int .i64 (p.1 + sz (p.2 + 1))) ∧ w'.cell? ⟨g7, 1, none⟩ = some (.int .i64 (p.2 + 1))) (by kernel_rfl) hS0 (fun hS => ?_)
    refine hand_take 0 (v := ?_) rfl (by kernel_rfl) (by kernel_rfl) (by kernel_rfl) (fun _ _ _ h => h) (Or.inl ⟨by rfl, ?_⟩) (by assumption) ?_
    rotate_left
    (intro w hSw; (try dsimp only at hSw); go_simp)
    all_goals (try with_reducible rfl)
    all_goals (try simp only [Act.put, List.setIfInBounds_toArray, List.set_cons_zero, List.set_cons_succ])
    refine hand_take 1 (v := ?_) rfl (by kernel_rfl) (by kernel_rfl) (by kernel_rfl) (fun _ _ _ h => h) (Or.inl ⟨by rfl, ?_⟩) (by assumption) ?_
    rotate_left
    (intro w hSw; (try dsimp only at hSw); go_simp)
    all_goals (try with_reducible rfl)
    all_goals (try simp only [Act.put, List.setIfInBounds_toArray, List.set_cons_zero, List.set_cons_succ])
    refine hand_take 3 (v := ?_) rfl (by kernel_rfl) (by kernel_rfl) (by kernel_rfl) (fun _ _ _ h => h) (Or.inl ⟨by rfl, ?_⟩) (by assumption) ?_
    rotate_left
    (intro w hSw; (try dsimp only at hSw); go_simp)
    all_goals (try with_reducible rfl)
    all_goals (try simp only [Act.put, List.setIfInBounds_toArray, List.set_cons_zero, List.set_cons_succ])
    refine hand_take 4 (v := ?_) rfl (by kernel_rfl) (by kernel_rfl) (by kernel_rfl) (fun _ _ _ h => h) (Or.inl ⟨by rfl, ?_⟩) (by assumption) ?_
    rotate_left
    (intro w hSw; (try dsimp only at hSw); go_simp)
    all_goals (try with_reducible rfl)
    all_goals (try simp only [Act.put, List.setIfInBounds_toArray, List.set_cons_zero, List.set_cons_succ])
    refine hand_one 2 (by kernel_rfl) rfl (fun K hK => ?_)
    go_simp
    refine (IH0.out _ HRD.out).mono ?_
    rintro e x1 ⟨v1, rfl, hown1, hbx1⟩
    have hS1 : x1.cell? ⟨w1.heap.size, 0, none⟩ = some (.int .i64 p.1) ∧ x1.cell? ⟨w1.heap.size, 1, none⟩ = some (.int .i64 (p.2 + 1)) ∧ x1.cell? ⟨g7, 0, none⟩ = some (.int .i64 (p.1 + sz (p.2 + 1))) ∧ x1.cell? ⟨g7, 1, none⟩ = some (.int .i64 (p.2 + 1)) := ⟨(hbx1.cell (p := ⟨w1.heap.size, 0, none⟩) (by first | omega | (simp <;> omega))).trans c4_2, (hbx1.cell (p := ⟨w1.heap.size, 1, none⟩) (by first | omega | (simp <;> omega))).trans c4_3, (hbx1.cell (p := ⟨g7, 0, none⟩) (by first | omega | (simp <;> omega))).trans c4_4, (hbx1.cell (p := ⟨g7, 1, none⟩) (by first | omega | (simp <;> omega))).trans c4_5⟩
    refine hK.out _ _ hS1 (fun hS2 => ?_)
    clear hS hS0 hK
    have hBx1 := hBd.trans (hbx1.mono hBd.size)
    have hsx1 : w4.heap.size ≤ x1.heap.size := hbx1.size
    refine hand_one 5 (by kernel_rfl) rfl (fun K hK => ?_)
    go_simp
    refine (IH1.out _ ((HRD.out.below hbx1).more hbx1.size)).mono ?_
    rintro e x2 ⟨v2, rfl, hown2, hbx2⟩
    have hS3 : x2.cell? ⟨w1.heap.size, 0, none⟩ = some (.int .i64 p.1) ∧ x2.cell? ⟨w1.heap.size, 1, none⟩ = some (.int .i64 (p.2 + 1)) ∧ x2.cell? ⟨g7, 0, none⟩ = some (.int .i64 (p.1 + sz (p.2 + 1))) ∧ x2.cell? ⟨g7, 1, none⟩ = some (.int .i64 (p.2 + 1)) := ⟨(hbx2.cell (p := ⟨w1.heap.size, 0, none⟩) (by first | omega | (simp <;> omega))).trans hS1.1, (hbx2.cell (p := ⟨w1.heap.size, 1, none⟩) (by first | omega | (simp <;> omega))).trans hS1.2.1, (hbx2.cell (p := ⟨g7, 0, none⟩) (by first | omega | (simp <;> omega))).trans hS1.2.2.1, (hbx2.cell (p := ⟨g7, 1, none⟩) (by first | omega | (simp <;> omega))).trans hS1.2.2.2⟩
    refine hK.out _ _ hS3 (fun hS4 => ?_)
    clear hS2 hS1 hK
    have hBx2 := hBx1.trans (hbx2.mono hBx1.size)
    have hown3 : OwnP x2 w4.drew.heap.size 46 v1 L0 := hown1.below hbx2
    have hsx2 : w4.drew.heap.size ≤ x2.heap.size := Nat.le_trans hbx1.size hbx2.size
    obtain ⟨A2, c2, rfl, hr2⟩ := hown2.form
    clear hown1 hown2
    refine hand_one 6 (by kernel_rfl) rfl (fun K hK => ?_)
    refine wanted_wp rfl (wp_append_rd (.tmp 36) (.tmp 39) 43 rfl 46 Tryd.underlying43 _ 2 16 infoPfx rfl (by decide) w4.drew.heap.size v1 L0.length (cellsP L0) (by rfl) hown3 x2.heap.size A2 L1.length c2 (cellsP L1) (by rfl) (by rw [cellsP_length, Nat.mul_comm]) hr2 (cellsP_one L1) (by unfold maxLen; omega) (by omega) hsx2 ?_)
    intro v4 x3 hown4 hb4
    have hS5 : x3.cell? ⟨w1.heap.size, 0, none⟩ = some (.int .i64 p.1) ∧ x3.cell? ⟨w1.heap.size, 1, none⟩ = some (.int .i64 (p.2 + 1)) ∧ x3.cell? ⟨g7, 0, none⟩ = some (.int .i64 (p.1 + sz (p.2 + 1))) ∧ x3.cell? ⟨g7, 1, none⟩ = some (.int .i64 (p.2 + 1)) := ⟨(hb4.cell (p := ⟨w1.heap.size, 0, none⟩) (by first | omega | (simp <;> omega))).trans hS3.1, (hb4.cell (p := ⟨w1.heap.size, 1, none⟩) (by first | omega | (simp <;> omega))).trans hS3.2.1, (hb4.cell (p := ⟨g7, 0, none⟩) (by first | omega | (simp <;> omega))).trans hS3.2.2.1, (hb4.cell (p := ⟨g7, 1, none⟩) (by first | omega | (simp <;> omega))).trans hS3.2.2.2⟩
    refine hK.out _ _ hS5 (fun hS6 => ?_)
    clear hS3 hS4 hK
    refine hand_take 7 (v := ?_) rfl (by kernel_rfl) (by kernel_rfl) (by kernel_rfl) (fun _ _ _ h => h) (Or.inl ⟨by rfl, ?_⟩) (by assumption) ?_
    rotate_left
    (intro w hSw; (try dsimp only at hSw); go_simp)
    all_goals (try with_reducible rfl)
    all_goals (try simp only [Act.put, List.setIfInBounds_toArray, List.set_cons_zero, List.set_cons_succ])
    refine wpAnyH_done (by kernel_rfl) ?_ _
    have hBx3 := hBd.trans ((Below.trans (hbx1.trans (hbx2.mono hbx1.size)) hb4).mono hBd.size)
    have hown5 : OwnP x3 w.heap.size 46 v4 (L0 ++ L1) := own_of_base (by rw [cellsP_append, List.length_append]; exact hown4) hBd.size
    clear hown4 hown3 hb4 hbx1 hbx2
    go_wp2_with fail
    go_ret
    exact ⟨_, rfl, by rw [← HL0.out, ← HL1.out]; exact hown5, hBx3⟩
theorem blocksOf_any (A : Option Addr) (l : List Pf) (c : Nat) (hm : l.length ≤ 60) (hv : ∀ q ∈ l, chkP q = 0) : ∀ (k : Nat) (p : Pf) (w : World), chkP p = 0 → p.2 + k = 32 → Rd w w.heap.size A (cellsP l) → Calls Tryd.prog 30 #[.agg #[.int .i64 p.1, .int .i64 p.2], .slice A l.length c] w (OwnRes 46 w (halvL (stT l) k p)) := by
  intro k
  induction k with
  | zero =>
    intro p w hp hk hl
    rcases (stT_says l).least p hp (by omega) with h | h
    · rw [halv_all h]; exact blocksOf_0 p A l c hm hv h hp w hl
    · rw [halv_none h]; exact blocksOf_1 p A l c hm hv h hp w hl
  | succ k ih =>
    intro p w hp hk hl
    have hk32 : k ≤ 32 := by have := (chk_zero.1 (show chk p.1 p.2 = 0 from hp)).1; omega
    have hlt : p.2 < 32 := by omega
    obtain ⟨g1, g2, _⟩ := halves hp hlt
    rcases stT_cases l p with ⟨h, _⟩ | ⟨h, _⟩ | ⟨h, _⟩
    · rw [halv_all h]; exact blocksOf_0 p A l c hm hv h hp w hl
    · rw [halv_none h]; exact blocksOf_1 p A l c hm hv h hp w hl
    · rw [halv_more (by rw [h]; decide) (by rw [h]; decide)]
      exact blocksOf_2 p A l c hm hv h hlt k hk32 (fun w hw => ih _ w g1 (by show p.2 + 1 + (k : Int) = 32; omega) hw) (fun w hw => ih _ w g2 (by show p.2 + 1 + (k : Int) = 32; omega) hw) hp w hl
theorem blocksRef (p : Pf) (A : Option Addr) (l : List Pf) (c : Nat) (hf : freeFault p l = 0) (w : World) (hl : Rd w w.heap.size A (cellsP l)) : Calls Tryd.prog 30 #[.agg #[.int .i64 p.1, .int .i64 p.2], .slice A l.length c] w (OwnRes 46 w (blocksL p l)) := by
  obtain ⟨h1, h2, h3⟩ := freeFault_zero.1 hf
  have hc := chk_zero.1 (show chk p.1 p.2 = 0 from h1)
  have hk : p.2 + ((32 - p.2).toNat : Int) = 32 := by omega
  rw [← blocks_halv hf hk]
  exact blocksOf_any A l c h2 h3 _ p w h1 hk hl
end Go.Proofs.YtmfaknngophmhaaDoor
