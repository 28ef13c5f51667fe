/- The references Covers, CoverOf: a span's, a set's prefixes, halved as often as is needed. Any span that may be. -/
import Derived.Test.YtmfaknngophmhaaDoorRefSpan
import Derived.Test.YtmfaknngophmhaaDoorHalv
import Derived.Test.YtmfaknngophmhaaDoorTreeB
import Derived.Test.YtmfaknngophmhaaDoorHand2
import Derived.Test.YtmfaknngophmhaaDoorTail
import Derived.Test.YtmfaknngophmhaaDoorCut
import Derived.Deep.DeepCutAuto
import Derived.Deep.CutRange
namespace Go.Proofs.YtmfaknngophmhaaDoor
set_option linter.unusedVariables false
set_option linter.unusedSimpArgs false
open Go.RowKit

def stS (s : Sp) (p : Pf) : Nat := if s.2 < p.1 ∨ lastP p < s.1 then 1 else if s.1 ≤ p.1 ∧ lastP p ≤ s.2 then 0 else 2
theorem stS_out {s : Sp} {p : Pf} (h : s.2 < p.1 ∨ lastP p < s.1) : stS s p = 1 := if_pos h
theorem stS_in {s : Sp} {p : Pf} (h : ¬ (s.2 < p.1 ∨ lastP p < s.1)) (h2 : s.1 ≤ p.1 ∧ lastP p ≤ s.2) : stS s p = 0 := by unfold stS; rw [if_neg h, if_pos h2]
theorem stS_some {s : Sp} {p : Pf} (h : ¬ (s.2 < p.1 ∨ lastP p < s.1)) (h2 : ¬ (s.1 ≤ p.1 ∧ lastP p ≤ s.2)) : stS s p = 2 := by unfold stS; rw [if_neg h, if_neg h2]
theorem stS_says (s : Sp) (hs : s.1 ≤ s.2) : Says (stS s) (inS s) := by
  refine ⟨fun p hp h t h1 h2 => ?_, fun p hp h t h1 h2 => ?_, fun p hp h => ?_, fun p hp h => ?_⟩
  · unfold stS at h
    split at h
    · cases h
    · split at h
      · exact inS_iff.2 ⟨by omega, by omega⟩
      · cases h
  · unfold stS at h
    split at h
    · rw [Bool.eq_false_iff, ne_eq, inS_iff]; omega
    · split at h <;> cases h
  · have hl := last_geP p
    by_cases h1 : s.1 ≤ p.1
    · by_cases h2 : lastP p ≤ s.2
      · by_cases h3 : s.2 < p.1
        · exact ⟨p.1, by omega, hl, by rw [Bool.eq_false_iff, ne_eq, inS_iff]; omega⟩
        · exact absurd (stS_in (by omega) ⟨h1, h2⟩) h
      · exact ⟨lastP p, hl, by omega, by rw [Bool.eq_false_iff, ne_eq, inS_iff]; omega⟩
    · exact ⟨p.1, by omega, hl, by rw [Bool.eq_false_iff, ne_eq, inS_iff]; omega⟩
  · have hl : lastP p = p.1 := by unfold lastP lastA; rw [h, sz_32]; omega
    by_cases h1 : s.2 < p.1 ∨ lastP p < s.1
    · exact .inr (stS_out h1)
    · exact .inl (stS_in h1 (by omega))
theorem halvL_len (st : Pf → Nat) : ∀ (k : Nat) (p : Pf), (halvL st k p).length ≤ 2 ^ k
  | 0, p => by unfold halvL; split <;> simp
  | k + 1, p => by
    have h1 := halvL_len st k (p.1, p.2 + 1)
    have h2 := halvL_len st k (p.1 + sz (p.2 + 1), p.2 + 1)
    unfold halvL
    rw [Nat.pow_succ]
    have := Nat.two_pow_pos k
    split
    · simp; omega
    · split
      · simp
      · rw [List.length_append]; omega
set_option maxRecDepth 100000 in
set_option maxHeartbeats 4000000 in
theorem covers_out1 (s : Sp) (p : Pf) (h1 : s.2 < p.1) (hc : chk p.1 p.2 = 0) (w : World) :
    Calls Tryd.prog 20 #[.agg #[.int .i64 p.1, .int .i64 p.2], .agg #[.int .i64 s.1, .int .i64 s.2]] w (OwnRes 46 w []) := by
  go_enter Tryd.func20, Tryd.ntmps20
  go_wp2_with fail
  refine (lastOf_any p.1 p.2 hc _).mono ?_
  rintro e w1 ⟨rfl, hb1⟩
  have hB1 : Below w.heap.size w w1 := Below.trans (by first | exact Below.refl _ _ | ((repeat' (first | exact Below.refl _ _ | refine Below.setCell ?_ ?_ _ | refine Below.alloc ?_ ?_ _ | refine Below.drew ?_)) <;> (first | omega | (simp <;> omega)))) (hb1.mono (by first | omega | (simp <;> omega)))
  have hs1 : w.heap.size ≤ w1.heap.size := hB1.size
  have ht1 := hb1.size
  try simp only [World.size_alloc, World.size_setCell] at ht1
  have c1_0 : w1.cell? ⟨w.heap.size, 0, none⟩ = some (.int .i64 p.1) := (hb1.cell (p := ⟨w.heap.size, 0, none⟩) (by first | omega | (simp <;> omega))).trans (by first | (simp; done) | simp [go_sem])
  have c1_1 : w1.cell? ⟨w.heap.size, 1, none⟩ = some (.int .i64 p.2) := (hb1.cell (p := ⟨w.heap.size, 1, none⟩) (by first | omega | (simp <;> omega))).trans (by first | (simp; done) | simp [go_sem])
  have c1_2 : w1.cell? ⟨(w.heap.size + 1), 0, none⟩ = some (.int .i64 s.1) := (hb1.cell (p := ⟨(w.heap.size + 1), 0, none⟩) (by first | omega | (simp <;> omega))).trans (by first | (simp; done) | simp [go_sem])
  have c1_3 : w1.cell? ⟨(w.heap.size + 1), 1, none⟩ = some (.int .i64 s.2) := (hb1.cell (p := ⟨(w.heap.size + 1), 1, none⟩) (by first | omega | (simp <;> omega))).trans (by first | (simp; done) | simp [go_sem])
  have l1_0a : w.heap.size < w1.heap.size := World.block_lt_of_cell? w1 _ c1_0
  have l1_0b : w.heap.size < w1.heap.size + 1 := Nat.lt_succ_of_lt l1_0a
  have l1_0c : w.heap.size < w1.heap.size + 1 + 1 := Nat.lt_succ_of_lt l1_0b
  have l1_0d : w.heap.size < w1.heap.size + 1 + 1 + 1 := Nat.lt_succ_of_lt l1_0c
  have l1_1a : (w.heap.size + 1) < w1.heap.size := World.block_lt_of_cell? w1 _ c1_2
  have l1_1b : (w.heap.size + 1) < w1.heap.size + 1 := Nat.lt_succ_of_lt l1_1a
  have l1_1c : (w.heap.size + 1) < w1.heap.size + 1 + 1 := Nat.lt_succ_of_lt l1_1b
  have l1_1d : (w.heap.size + 1) < w1.heap.size + 1 + 1 + 1 := Nat.lt_succ_of_lt l1_1c
  clear hb1
  go_wp2_with fail
  go_ret
  exact ⟨_, rfl, OwnP.nil _ _ _, (by first | exact hB1 | ((repeat' (first | exact hB1 | refine Below.setCell ?_ ?_ _ | refine Below.alloc ?_ ?_ _ | refine Below.drew ?_)) <;> (first | omega | (simp <;> omega))))⟩
set_option maxRecDepth 100000 in
set_option maxHeartbeats 4000000 in
theorem covers_out2 (s : Sp) (p : Pf) (h1 : ¬ s.2 < p.1) (h2 : lastP p < s.1) (hc : chk p.1 p.2 = 0) (w : World) :
    Calls Tryd.prog 20 #[.agg #[.int .i64 p.1, .int .i64 p.2], .agg #[.int .i64 s.1, .int .i64 s.2]] w (OwnRes 46 w []) := by
  have h1' : decide (s.2 < p.1) = false := by simpa using h1
  have h2' : lastA p.1 p.2 < s.1 := h2
  clear h1 h2
  go_enter Tryd.func20, Tryd.ntmps20
  go_wp2_with fail
  refine (lastOf_any p.1 p.2 hc _).mono ?_
  rintro e w1 ⟨rfl, hb1⟩
  have hB1 : Below w.heap.size w w1 := Below.trans (by first | exact Below.refl _ _ | ((repeat' (first | exact Below.refl _ _ | refine Below.setCell ?_ ?_ _ | refine Below.alloc ?_ ?_ _ | refine Below.drew ?_)) <;> (first | omega | (simp <;> omega)))) (hb1.mono (by first | omega | (simp <;> omega)))
  have hs1 : w.heap.size ≤ w1.heap.size := hB1.size
  have ht1 := hb1.size
  try simp only [World.size_alloc, World.size_setCell] at ht1
  have c1_0 : w1.cell? ⟨w.heap.size, 0, none⟩ = some (.int .i64 p.1) := (hb1.cell (p := ⟨w.heap.size, 0, none⟩) (by first | omega | (simp <;> omega))).trans (by first | (simp; done) | simp [go_sem])
  have c1_1 : w1.cell? ⟨w.heap.size, 1, none⟩ = some (.int .i64 p.2) := (hb1.cell (p := ⟨w.heap.size, 1, none⟩) (by first | omega | (simp <;> omega))).trans (by first | (simp; done) | simp [go_sem])
  have c1_2 : w1.cell? ⟨(w.heap.size + 1), 0, none⟩ = some (.int .i64 s.1) := (hb1.cell (p := ⟨(w.heap.size + 1), 0, none⟩) (by first | omega | (simp <;> omega))).trans (by first | (simp; done) | simp [go_sem])
  have c1_3 : w1.cell? ⟨(w.heap.size + 1), 1, none⟩ = some (.int .i64 s.2) := (hb1.cell (p := ⟨(w.heap.size + 1), 1, none⟩) (by first | omega | (simp <;> omega))).trans (by first | (simp; done) | simp [go_sem])
  have l1_0a : w.heap.size < w1.heap.size := World.block_lt_of_cell? w1 _ c1_0
  have l1_0b : w.heap.size < w1.heap.size + 1 := Nat.lt_succ_of_lt l1_0a
  have l1_0c : w.heap.size < w1.heap.size + 1 + 1 := Nat.lt_succ_of_lt l1_0b
  have l1_0d : w.heap.size < w1.heap.size + 1 + 1 + 1 := Nat.lt_succ_of_lt l1_0c
  have l1_1a : (w.heap.size + 1) < w1.heap.size := World.block_lt_of_cell? w1 _ c1_2
  have l1_1b : (w.heap.size + 1) < w1.heap.size + 1 := Nat.lt_succ_of_lt l1_1a
  have l1_1c : (w.heap.size + 1) < w1.heap.size + 1 + 1 := Nat.lt_succ_of_lt l1_1b
  have l1_1d : (w.heap.size + 1) < w1.heap.size + 1 + 1 + 1 := Nat.lt_succ_of_lt l1_1c
  clear hb1
  go_wp2_with fail
  go_ret
  exact ⟨_, rfl, OwnP.nil _ _ _, (by first | exact hB1 | ((repeat' (first | exact hB1 | refine Below.setCell ?_ ?_ _ | refine Below.alloc ?_ ?_ _ | refine Below.drew ?_)) <;> (first | omega | (simp <;> omega))))⟩
set_option maxRecDepth 100000 in
set_option maxHeartbeats 4000000 in
theorem covers_in (s : Sp) (p : Pf) (h1 : ¬ s.2 < p.1) (h2 : ¬ lastP p < s.1) (h3 : s.1 ≤ p.1) (h4 : lastP p ≤ s.2) (hc : chk p.1 p.2 = 0) (w : World) :
    Calls Tryd.prog 20 #[.agg #[.int .i64 p.1, .int .i64 p.2], .agg #[.int .i64 s.1, .int .i64 s.2]] w (OwnRes 46 w [p]) := by
  have h1' : decide (s.2 < p.1) = false := by simpa using h1
  have h2' : decide (lastA p.1 p.2 < s.1) = false := by simpa using (show ¬ lastA p.1 p.2 < s.1 from h2)
  clear h1 h2
  have h4' : lastA p.1 p.2 ≤ s.2 := h4
  clear h4
  go_enter Tryd.func20, Tryd.ntmps20
  go_wp2_with fail
  refine (lastOf_any p.1 p.2 hc _).mono ?_
  rintro e w1 ⟨rfl, hb1⟩
  have hB1 : Below w.heap.size w w1 := Below.trans (by first | exact Below.refl _ _ | ((repeat' (first | exact Below.refl _ _ | refine Below.setCell ?_ ?_ _ | refine Below.alloc ?_ ?_ _ | refine Below.drew ?_)) <;> (first | omega | (simp <;> omega)))) (hb1.mono (by first | omega | (simp <;> omega)))
  have hs1 : w.heap.size ≤ w1.heap.size := hB1.size
  have ht1 := hb1.size
  try simp only [World.size_alloc, World.size_setCell] at ht1
  have c1_0 : w1.cell? ⟨w.heap.size, 0, none⟩ = some (.int .i64 p.1) := (hb1.cell (p := ⟨w.heap.size, 0, none⟩) (by first | omega | (simp <;> omega))).trans (by first | (simp; done) | simp [go_sem])
  have c1_1 : w1.cell? ⟨w.heap.size, 1, none⟩ = some (.int .i64 p.2) := (hb1.cell (p := ⟨w.heap.size, 1, none⟩) (by first | omega | (simp <;> omega))).trans (by first | (simp; done) | simp [go_sem])
  have c1_2 : w1.cell? ⟨(w.heap.size + 1), 0, none⟩ = some (.int .i64 s.1) := (hb1.cell (p := ⟨(w.heap.size + 1), 0, none⟩) (by first | omega | (simp <;> omega))).trans (by first | (simp; done) | simp [go_sem])
  have c1_3 : w1.cell? ⟨(w.heap.size + 1), 1, none⟩ = some (.int .i64 s.2) := (hb1.cell (p := ⟨(w.heap.size + 1), 1, none⟩) (by first | omega | (simp <;> omega))).trans (by first | (simp; done) | simp [go_sem])
  have l1_0a : w.heap.size < w1.heap.size := World.block_lt_of_cell? w1 _ c1_0
  have l1_0b : w.heap.size < w1.heap.size + 1 := Nat.lt_succ_of_lt l1_0a
  have l1_0c : w.heap.size < w1.heap.size + 1 + 1 := Nat.lt_succ_of_lt l1_0b
  have l1_0d : w.heap.size < w1.heap.size + 1 + 1 + 1 := Nat.lt_succ_of_lt l1_0c
  have l1_1a : (w.heap.size + 1) < w1.heap.size := World.block_lt_of_cell? w1 _ c1_2
  have l1_1b : (w.heap.size + 1) < w1.heap.size + 1 := Nat.lt_succ_of_lt l1_1a
  have l1_1c : (w.heap.size + 1) < w1.heap.size + 1 + 1 := Nat.lt_succ_of_lt l1_1b
  have l1_1d : (w.heap.size + 1) < w1.heap.size + 1 + 1 + 1 := Nat.lt_succ_of_lt l1_1c
  clear hb1
  go_wp2_with fail
  go_ret
  exact ⟨_, rfl, own_lit w1 w.heap.size hs1 p 46, (by first | exact hB1 | ((repeat' (first | exact hB1 | refine Below.setCell ?_ ?_ _ | refine Below.alloc ?_ ?_ _ | refine Below.drew ?_)) <;> (first | omega | (simp <;> omega))))⟩
set_option maxRecDepth 100000 in
set_option maxHeartbeats 4000000 in
theorem covers_rec1 (s : Sp) (p : Pf) (h1 : ¬ s.2 < p.1) (h2 : ¬ lastP p < s.1) (h3 : ¬ s.1 ≤ p.1) (h32 : p.2 < 32) (k : Nat) (hk : k ≤ 32) (ih0 : ∀ w, Calls Tryd.prog 20 #[.agg #[.int .i64 p.1, .int .i64 (p.2 + 1)], .agg #[.int .i64 s.1, .int .i64 s.2]] w (OwnRes 46 w (halvL (stS s) k (p.1, p.2 + 1)))) (ih1 : ∀ w, Calls Tryd.prog 20 #[.agg #[.int .i64 (p.1 + sz (p.2 + 1)), .int .i64 (p.2 + 1)], .agg #[.int .i64 s.1, .int .i64 s.2]] w (OwnRes 46 w (halvL (stS s) k (p.1 + sz (p.2 + 1), p.2 + 1)))) (hc : chk p.1 p.2 = 0) (w : World) :
    Calls Tryd.prog 20 #[.agg #[.int .i64 p.1, .int .i64 p.2], .agg #[.int .i64 s.1, .int .i64 s.2]] w (OwnRes 46 w (halvL (stS s) k (p.1, p.2 + 1) ++ halvL (stS s) k (p.1 + sz (p.2 + 1), p.2 + 1))) := by
  obtain ⟨hp0, hp1, hp2, hp3, _⟩ := chk_zero.1 hc
  have h1' : decide (s.2 < p.1) = false := by simpa using h1
  have h2' : decide (lastA p.1 p.2 < s.1) = false := by simpa using (show ¬ lastA p.1 p.2 < s.1 from h2)
  clear h1 h2
  have h3' : decide (s.1 ≤ p.1) = false := by simpa using h3
  clear h3
  go_enter Tryd.func20, Tryd.ntmps20
  go_wp2_with fail
  refine (lastOf_any p.1 p.2 hc _).mono ?_
  rintro e w1 ⟨rfl, hb1⟩
  have hB1 : Below w.heap.size w w1 := Below.trans (by first | exact Below.refl _ _ | ((repeat' (first | exact Below.refl _ _ | refine Below.setCell ?_ ?_ _ | refine Below.alloc ?_ ?_ _ | refine Below.drew ?_)) <;> (first | omega | (simp <;> omega)))) (hb1.mono (by first | omega | (simp <;> omega)))
  have hs1 : w.heap.size ≤ w1.heap.size := hB1.size
  have ht1 := hb1.size
  try simp only [World.size_alloc, World.size_setCell] at ht1
  have c1_0 : w1.cell? ⟨w.heap.size, 0, none⟩ = some (.int .i64 p.1) := (hb1.cell (p := ⟨w.heap.size, 0, none⟩) (by first | omega | (simp <;> omega))).trans (by first | (simp; done) | simp [go_sem])
  have c1_1 : w1.cell? ⟨w.heap.size, 1, none⟩ = some (.int .i64 p.2) := (hb1.cell (p := ⟨w.heap.size, 1, none⟩) (by first | omega | (simp <;> omega))).trans (by first | (simp; done) | simp [go_sem])
  have c1_2 : w1.cell? ⟨(w.heap.size + 1), 0, none⟩ = some (.int .i64 s.1) := (hb1.cell (p := ⟨(w.heap.size + 1), 0, none⟩) (by first | omega | (simp <;> omega))).trans (by first | (simp; done) | simp [go_sem])
  have c1_3 : w1.cell? ⟨(w.heap.size + 1), 1, none⟩ = some (.int .i64 s.2) := (hb1.cell (p := ⟨(w.heap.size + 1), 1, none⟩) (by first | omega | (simp <;> omega))).trans (by first | (simp; done) | simp [go_sem])
  have l1_0a : w.heap.size < w1.heap.size := World.block_lt_of_cell? w1 _ c1_0
  have l1_0b : w.heap.size < w1.heap.size + 1 := Nat.lt_succ_of_lt l1_0a
  have l1_0c : w.heap.size < w1.heap.size + 1 + 1 := Nat.lt_succ_of_lt l1_0b
  have l1_0d : w.heap.size < w1.heap.size + 1 + 1 + 1 := Nat.lt_succ_of_lt l1_0c
  have l1_1a : (w.heap.size + 1) < w1.heap.size := World.block_lt_of_cell? w1 _ c1_2
  have l1_1b : (w.heap.size + 1) < w1.heap.size + 1 := Nat.lt_succ_of_lt l1_1a
  have l1_1c : (w.heap.size + 1) < w1.heap.size + 1 + 1 := Nat.lt_succ_of_lt l1_1b
  have l1_1d : (w.heap.size + 1) < w1.heap.size + 1 + 1 + 1 := Nat.lt_succ_of_lt l1_1c
  clear hb1
  have hz0 := sz_pos (p.2 + 1)
  have hz1 := sz_le (p.2 + 1) (by omega)
  go_wp2_with fail
  refine wp_name ?_
  intro w2 hW2
  have hB2 : Below w.heap.size w w2 := by rw [hW2.out]; exact (by first | exact hB1 | ((repeat' (first | exact hB1 | refine Below.setCell ?_ ?_ _ | refine Below.alloc ?_ ?_ _ | refine Below.drew ?_)) <;> (first | omega | (simp <;> omega))))
  have hs2 : w.heap.size ≤ w2.heap.size := hB2.size
  have ht2 := congrArg (fun x : World => x.heap.size) hW2.out
  try simp only [World.size_alloc, World.size_setCell] at ht2
  have c2_0 : w2.cell? ⟨w.heap.size, 0, none⟩ = some (.int .i64 p.1) := by rw [hW2.out]; first | exact c1_0 | simp [go_sem, c1_0, l1_0a, l1_0b, l1_0c, l1_0d, l1_1a, l1_1b, l1_1c, l1_1d]
  have c2_1 : w2.cell? ⟨w.heap.size, 1, none⟩ = some (.int .i64 p.2) := by rw [hW2.out]; first | exact c1_1 | simp [go_sem, c1_1, l1_0a, l1_0b, l1_0c, l1_0d, l1_1a, l1_1b, l1_1c, l1_1d]
  have c2_2 : w2.cell? ⟨(w.heap.size + 1), 0, none⟩ = some (.int .i64 s.1) := by rw [hW2.out]; first | exact c1_2 | simp [go_sem, c1_2, l1_0a, l1_0b, l1_0c, l1_0d, l1_1a, l1_1b, l1_1c, l1_1d]
  have c2_3 : w2.cell? ⟨(w.heap.size + 1), 1, none⟩ = some (.int .i64 s.2) := by rw [hW2.out]; first | exact c1_3 | simp [go_sem, c1_3, l1_0a, l1_0b, l1_0c, l1_0d, l1_1a, l1_1b, l1_1c, l1_1d]
  have c2_4 : w2.cell? ⟨w1.heap.size, 0, none⟩ = some (.int .i64 p.1) := by rw [hW2.out]; first | (simp; done) | simp [go_sem, l1_0a, l1_0b, l1_0c, l1_0d, l1_1a, l1_1b, l1_1c, l1_1d, c1_0, c1_1, c1_2, c1_3]
  have c2_5 : w2.cell? ⟨w1.heap.size, 1, none⟩ = some (.int .i64 (p.2 + 1)) := by rw [hW2.out]; first | (simp; done) | simp [go_sem, l1_0a, l1_0b, l1_0c, l1_0d, l1_1a, l1_1b, l1_1c, l1_1d, c1_0, c1_1, c1_2, c1_3]
  have l2_0a : w.heap.size < w2.heap.size := World.block_lt_of_cell? w2 _ c2_0
  have l2_0b : w.heap.size < w2.heap.size + 1 := Nat.lt_succ_of_lt l2_0a
  have l2_0c : w.heap.size < w2.heap.size + 1 + 1 := Nat.lt_succ_of_lt l2_0b
  have l2_0d : w.heap.size < w2.heap.size + 1 + 1 + 1 := Nat.lt_succ_of_lt l2_0c
  have l2_1a : (w.heap.size + 1) < w2.heap.size := World.block_lt_of_cell? w2 _ c2_2
  have l2_1b : (w.heap.size + 1) < w2.heap.size + 1 := Nat.lt_succ_of_lt l2_1a
  have l2_1c : (w.heap.size + 1) < w2.heap.size + 1 + 1 := Nat.lt_succ_of_lt l2_1b
  have l2_1d : (w.heap.size + 1) < w2.heap.size + 1 + 1 + 1 := Nat.lt_succ_of_lt l2_1c
  have l2_2a : w1.heap.size < w2.heap.size := World.block_lt_of_cell? w2 _ c2_4
  have l2_2b : w1.heap.size < w2.heap.size + 1 := Nat.lt_succ_of_lt l2_2a
  have l2_2c : w1.heap.size < w2.heap.size + 1 + 1 := Nat.lt_succ_of_lt l2_2b
  have l2_2d : w1.heap.size < w2.heap.size + 1 + 1 + 1 := Nat.lt_succ_of_lt l2_2c
  have hu2 := Nat.le_of_eq ht2
  have hv2 := Nat.le_of_eq ht2.symm
  clear ht2 c1_0 c1_1 c1_2 c1_3 l1_0a l1_0b l1_0c l1_0d l1_1a l1_1b l1_1c l1_1d hB1 hW2
  go_cut [7] (fun hi wx => ∃ g : Nat, hi = .pointer (some ⟨g, 0, none⟩) ∧ Below w2.heap.size w2 wx ∧ w2.heap.size ≤ g ∧ wx.cell? ⟨g, 0, none⟩ = some (.int .i64 (p.1 + sz (p.2 + 1))) ∧ wx.cell? ⟨g, 1, none⟩ = some (.int .i64 (p.2 + 1)))
  case first =>
    have q1 : IntKind.i64.wrap (p.1 + sz (p.2 + 1)) = p.1 + sz (p.2 + 1) := IntWalk.i64_in _ (by omega)
    have q2 : IntKind.i64.wrap (p.2 + 1) = p.2 + 1 := IntWalk.i64_in _ (by omega)
    go_region_held3 (fun w' => w'.cell? ⟨w.heap.size, 0, none⟩ = some (.int .i64 p.1) ∧ w'.cell? ⟨w.heap.size, 1, none⟩ = some (.int .i64 p.2)) (go_keep) ((go_at_call 59; refine (size_any _ (by omega) (by omega) _).mono ?_; rintro e w' ⟨rfl, rfl⟩))
    all_goals
      go_wp2_with fail
      go_meet
      case rel => exact ⟨_, rfl, (by ((repeat' (first | exact Below.refl _ _ | refine Below.setCell ?_ ?_ _ | refine Below.alloc ?_ ?_ _ | refine Below.drew ?_)) <;> (first | omega | (simp <;> omega)))), by simp <;> omega, by simp [go_sem], by simp [go_sem]⟩
  case rest =>
    obtain ⟨g7, hg7, hb3, hge7, hc7a, hc7b⟩ := hcut
    subst hg7
    obtain ⟨w3, rfl⟩ : ∃ x : World, x = wc := ⟨_, rfl⟩
    have hB3 : Below w.heap.size w w3 := Below.trans (by first | exact hB2 | ((repeat' (first | exact hB2 | refine Below.setCell ?_ ?_ _ | refine Below.alloc ?_ ?_ _ | refine Below.drew ?_)) <;> (first | omega | (simp <;> omega)))) (hb3.mono (by first | omega | (simp <;> omega)))
    have hs3 : w.heap.size ≤ w3.heap.size := hB3.size
    have ht3 := hb3.size
    try simp only [World.size_alloc, World.size_setCell] at ht3
    have c3_0 : w3.cell? ⟨w.heap.size, 0, none⟩ = some (.int .i64 p.1) := (hb3.cell (p := ⟨w.heap.size, 0, none⟩) (by first | omega | (simp <;> omega))).trans (by first | exact c2_0 | simp [go_sem, c2_0, l2_0a, l2_0b, l2_0c, l2_0d, l2_1a, l2_1b, l2_1c, l2_1d, l2_2a, l2_2b, l2_2c, l2_2d])
    have c3_1 : w3.cell? ⟨w.heap.size, 1, none⟩ = some (.int .i64 p.2) := (hb3.cell (p := ⟨w.heap.size, 1, none⟩) (by first | omega | (simp <;> omega))).trans (by first | exact c2_1 | simp [go_sem, c2_1, l2_0a, l2_0b, l2_0c, l2_0d, l2_1a, l2_1b, l2_1c, l2_1d, l2_2a, l2_2b, l2_2c, l2_2d])
    have c3_2 : w3.cell? ⟨(w.heap.size + 1), 0, none⟩ = some (.int .i64 s.1) := (hb3.cell (p := ⟨(w.heap.size + 1), 0, none⟩) (by first | omega | (simp <;> omega))).trans (by first | exact c2_2 | simp [go_sem, c2_2, l2_0a, l2_0b, l2_0c, l2_0d, l2_1a, l2_1b, l2_1c, l2_1d, l2_2a, l2_2b, l2_2c, l2_2d])
    have c3_3 : w3.cell? ⟨(w.heap.size + 1), 1, none⟩ = some (.int .i64 s.2) := (hb3.cell (p := ⟨(w.heap.size + 1), 1, none⟩) (by first | omega | (simp <;> omega))).trans (by first | exact c2_3 | simp [go_sem, c2_3, l2_0a, l2_0b, l2_0c, l2_0d, l2_1a, l2_1b, l2_1c, l2_1d, l2_2a, l2_2b, l2_2c, l2_2d])
    have c3_4 : w3.cell? ⟨w1.heap.size, 0, none⟩ = some (.int .i64 p.1) := (hb3.cell (p := ⟨w1.heap.size, 0, none⟩) (by first | omega | (simp <;> omega))).trans (by first | exact c2_4 | simp [go_sem, c2_4, l2_0a, l2_0b, l2_0c, l2_0d, l2_1a, l2_1b, l2_1c, l2_1d, l2_2a, l2_2b, l2_2c, l2_2d])
    have c3_5 : w3.cell? ⟨w1.heap.size, 1, none⟩ = some (.int .i64 (p.2 + 1)) := (hb3.cell (p := ⟨w1.heap.size, 1, none⟩) (by first | omega | (simp <;> omega))).trans (by first | exact c2_5 | simp [go_sem, c2_5, l2_0a, l2_0b, l2_0c, l2_0d, l2_1a, l2_1b, l2_1c, l2_1d, l2_2a, l2_2b, l2_2c, l2_2d])
    have l3_0a : w.heap.size < w3.heap.size := World.block_lt_of_cell? w3 _ c3_0
    have l3_0b : w.heap.size < w3.heap.size + 1 := Nat.lt_succ_of_lt l3_0a
    have l3_0c : w.heap.size < w3.heap.size + 1 + 1 := Nat.lt_succ_of_lt l3_0b
    have l3_0d : w.heap.size < w3.heap.size + 1 + 1 + 1 := Nat.lt_succ_of_lt l3_0c
    have l3_1a : (w.heap.size + 1) < w3.heap.size := World.block_lt_of_cell? w3 _ c3_2
    have l3_1b : (w.heap.size + 1) < w3.heap.size + 1 := Nat.lt_succ_of_lt l3_1a
    have l3_1c : (w.heap.size + 1) < w3.heap.size + 1 + 1 := Nat.lt_succ_of_lt l3_1b
    have l3_1d : (w.heap.size + 1) < w3.heap.size + 1 + 1 + 1 := Nat.lt_succ_of_lt l3_1c
    have l3_2a : w1.heap.size < w3.heap.size := World.block_lt_of_cell? w3 _ c3_4
    have l3_2b : w1.heap.size < w3.heap.size + 1 := Nat.lt_succ_of_lt l3_2a
    have l3_2c : w1.heap.size < w3.heap.size + 1 + 1 := Nat.lt_succ_of_lt l3_2b
    have l3_2d : w1.heap.size < w3.heap.size + 1 + 1 + 1 := Nat.lt_succ_of_lt l3_2c
    clear c2_0 c2_1 c2_2 c2_3 c2_4 c2_5 l2_0a l2_0b l2_0c l2_0d l2_1a l2_1b l2_1c l2_1d l2_2a l2_2b l2_2c l2_2d hB2 hb3
    have lt7 := World.block_lt_of_cell? w3 _ hc7a
    go_wp2_with fail
    refine wp_name ?_
    intro w4 hW4
    have hB4 : Below w.heap.size w w4 := by rw [hW4.out]; exact (by first | exact hB3 | ((repeat' (first | exact hB3 | refine Below.setCell ?_ ?_ _ | refine Below.alloc ?_ ?_ _ | refine Below.drew ?_)) <;> (first | omega | (simp <;> omega))))
    have hs4 : w.heap.size ≤ w4.heap.size := hB4.size
    have ht4 := congrArg (fun x : World => x.heap.size) hW4.out
    try simp only [World.size_alloc, World.size_setCell] at ht4
    have c4_0 : w4.cell? ⟨w.heap.size, 0, none⟩ = some (.int .i64 p.1) := by rw [hW4.out]; first | exact c3_0 | simp [go_sem, c3_0, l3_0a, l3_0b, l3_0c, l3_0d, l3_1a, l3_1b, l3_1c, l3_1d, l3_2a, l3_2b, l3_2c, l3_2d]
    have c4_1 : w4.cell? ⟨w.heap.size, 1, none⟩ = some (.int .i64 p.2) := by rw [hW4.out]; first | exact c3_1 | simp [go_sem, c3_1, l3_0a, l3_0b, l3_0c, l3_0d, l3_1a, l3_1b, l3_1c, l3_1d, l3_2a, l3_2b, l3_2c, l3_2d]
    have c4_2 : w4.cell? ⟨(w.heap.size + 1), 0, none⟩ = some (.int .i64 s.1) := by rw [hW4.out]; first | exact c3_2 | simp [go_sem, c3_2, l3_0a, l3_0b, l3_0c, l3_0d, l3_1a, l3_1b, l3_1c, l3_1d, l3_2a, l3_2b, l3_2c, l3_2d]
    have c4_3 : w4.cell? ⟨(w.heap.size + 1), 1, none⟩ = some (.int .i64 s.2) := by rw [hW4.out]; first | exact c3_3 | simp [go_sem, c3_3, l3_0a, l3_0b, l3_0c, l3_0d, l3_1a, l3_1b, l3_1c, l3_1d, l3_2a, l3_2b, l3_2c, l3_2d]
    have c4_4 : w4.cell? ⟨w1.heap.size, 0, none⟩ = some (.int .i64 p.1) := by rw [hW4.out]; first | exact c3_4 | simp [go_sem, c3_4, l3_0a, l3_0b, l3_0c, l3_0d, l3_1a, l3_1b, l3_1c, l3_1d, l3_2a, l3_2b, l3_2c, l3_2d]
    have c4_5 : w4.cell? ⟨w1.heap.size, 1, none⟩ = some (.int .i64 (p.2 + 1)) := by rw [hW4.out]; first | exact c3_5 | simp [go_sem, c3_5, l3_0a, l3_0b, l3_0c, l3_0d, l3_1a, l3_1b, l3_1c, l3_1d, l3_2a, l3_2b, l3_2c, l3_2d]
    have c4_6 : w4.cell? ⟨g7, 0, none⟩ = some (.int .i64 (p.1 + sz (p.2 + 1))) := by rw [hW4.out]; first | exact hc7a | simp [go_sem, hc7a, l3_0a, l3_0b, l3_0c, l3_0d, l3_1a, l3_1b, l3_1c, l3_1d, l3_2a, l3_2b, l3_2c, l3_2d]
    have c4_7 : w4.cell? ⟨g7, 1, none⟩ = some (.int .i64 (p.2 + 1)) := by rw [hW4.out]; first | exact hc7b | simp [go_sem, hc7b, l3_0a, l3_0b, l3_0c, l3_0d, l3_1a, l3_1b, l3_1c, l3_1d, l3_2a, l3_2b, l3_2c, l3_2d]
    have l4_0a : w.heap.size < w4.heap.size := World.block_lt_of_cell? w4 _ c4_0
    have l4_0b : w.heap.size < w4.heap.size + 1 := Nat.lt_succ_of_lt l4_0a
    have l4_0c : w.heap.size < w4.heap.size + 1 + 1 := Nat.lt_succ_of_lt l4_0b
    have l4_0d : w.heap.size < w4.heap.size + 1 + 1 + 1 := Nat.lt_succ_of_lt l4_0c
    have l4_1a : (w.heap.size + 1) < w4.heap.size := World.block_lt_of_cell? w4 _ c4_2
    have l4_1b : (w.heap.size + 1) < w4.heap.size + 1 := Nat.lt_succ_of_lt l4_1a
    have l4_1c : (w.heap.size + 1) < w4.heap.size + 1 + 1 := Nat.lt_succ_of_lt l4_1b
    have l4_1d : (w.heap.size + 1) < w4.heap.size + 1 + 1 + 1 := Nat.lt_succ_of_lt l4_1c
    have l4_2a : w1.heap.size < w4.heap.size := World.block_lt_of_cell? w4 _ c4_4
    have l4_2b : w1.heap.size < w4.heap.size + 1 := Nat.lt_succ_of_lt l4_2a
    have l4_2c : w1.heap.size < w4.heap.size + 1 + 1 := Nat.lt_succ_of_lt l4_2b
    have l4_2d : w1.heap.size < w4.heap.size + 1 + 1 + 1 := Nat.lt_succ_of_lt l4_2c
    have l4_3a : g7 < w4.heap.size := World.block_lt_of_cell? w4 _ c4_6
    have l4_3b : g7 < w4.heap.size + 1 := Nat.lt_succ_of_lt l4_3a
    have l4_3c : g7 < w4.heap.size + 1 + 1 := Nat.lt_succ_of_lt l4_3b
    have l4_3d : g7 < w4.heap.size + 1 + 1 + 1 := Nat.lt_succ_of_lt l4_3c
    have hu4 := Nat.le_of_eq ht4
    have hv4 := Nat.le_of_eq ht4.symm
    clear ht4 c3_0 c3_1 c3_2 c3_3 c3_4 c3_5 hc7a hc7b l3_0a l3_0b l3_0c l3_0d l3_1a l3_1b l3_1c l3_1d l3_2a l3_2b l3_2c l3_2d hB3 hW4
    obtain ⟨L0, hL0⟩ : ∃ L, L = halvL (stS s) k (p.1, p.2 + 1) := ⟨_, rfl⟩
    obtain ⟨L1, hL1⟩ : ∃ L, L = halvL (stS s) k (p.1 + sz (p.2 + 1), p.2 + 1) := ⟨_, rfl⟩
    have hl0 : L0.length ≤ 4294967296 := by rw [hL0]; exact Nat.le_trans (halvL_len _ _ _) (show 2 ^ k ≤ 2 ^ 32 from Nat.pow_le_pow_right (by decide) hk)
    have hl1 : L1.length ≤ 4294967296 := by rw [hL1]; exact Nat.le_trans (halvL_len _ _ _) (show 2 ^ k ≤ 2 ^ 32 from Nat.pow_le_pow_right (by decide) hk)
    rw [← hL0] at ih0
    rw [← hL1] at ih1
    have HL0 := Lib.hid hL0
    have HL1 := Lib.hid hL1
    have IH0 := Lib.hid ih0
    have IH1 := Lib.hid ih1
    clear hL0 hL1 ih0 ih1
    have hS0 : w4.drew.cell? ⟨(w.heap.size + 1), 0, none⟩ = some (.int .i64 s.1) ∧ w4.drew.cell? ⟨(w.heap.size + 1), 1, none⟩ = some (.int .i64 s.2) ∧ w4.drew.cell? ⟨w1.heap.size, 0, none⟩ = some (.int .i64 p.1) ∧ w4.drew.cell? ⟨w1.heap.size, 1, none⟩ = some (.int .i64 (p.2 + 1)) ∧ w4.drew.cell? ⟨g7, 0, none⟩ = some (.int .i64 (p.1 + sz (p.2 + 1))) ∧ w4.drew.cell? ⟨g7, 1, none⟩ = some (.int .i64 (p.2 + 1)) := ⟨c4_2, c4_3, c4_4, c4_5, c4_6, c4_7⟩
    have hBd : Below w.heap.size w w4.drew := hB4.drew
    refine wp_region_held_drew (S := fun w' : World => w'.cell? ⟨(w.heap.size + 1), 0, none⟩ = some (.int .i64 s.1) ∧ w'.cell? ⟨(w.heap.size + 1), 1, none⟩ = some (.int .i64 s.2) ∧ w'.cell? ⟨w1.heap.size, 0, none⟩ = some (.int .i64 p.1) ∧ w'.cell? ⟨w1.heap.size, 1, none⟩ = some (.int .i64 (p.2 + 1)) ∧ w'.cell? ⟨g7, 0, none⟩ = some (.int .i64 (p.1 + sz (p.2 + 1))) ∧ w'.cell? ⟨g7, 1, none⟩ = some (.int .i64 (p.2 + 1))) (by kernel_rfl) hS0 (fun hS => ?_)
    refine hand_take 0 (v := ?_) rfl (by kernel_rfl) (by kernel_rfl) (by kernel_rfl) (fun _ _ _ h => h) (Or.inl ⟨by rfl, ?_⟩) (by assumption) ?_
    rotate_left
    (intro w hSw; (try dsimp only at hSw); go_simp)
    all_goals (try with_reducible rfl)
    all_goals (try simp only [Act.put, List.setIfInBounds_toArray, List.set_cons_zero, List.set_cons_succ])
    refine hand_take 1 (v := ?_) rfl (by kernel_rfl) (by kernel_rfl) (by kernel_rfl) (fun _ _ _ h => h) (Or.inl ⟨by rfl, ?_⟩) (by assumption) ?_
    rotate_left
    (intro w hSw; (try dsimp only at hSw); go_simp)
    all_goals (try with_reducible rfl)
    all_goals (try simp only [Act.put, List.setIfInBounds_toArray, List.set_cons_zero, List.set_cons_succ])
    refine hand_take 3 (v := ?_) rfl (by kernel_rfl) (by kernel_rfl) (by kernel_rfl) (fun _ _ _ h => h) (Or.inl ⟨by rfl, ?_⟩) (by assumption) ?_
    rotate_left
    (intro w hSw; (try dsimp only at hSw); go_simp)
    all_goals (try with_reducible rfl)
    all_goals (try simp only [Act.put, List.setIfInBounds_toArray, List.set_cons_zero, List.set_cons_succ])
    refine hand_take 4 (v := ?_) rfl (by kernel_rfl) (by kernel_rfl) (by kernel_rfl) (fun _ _ _ h => h) (Or.inl ⟨by rfl, ?_⟩) (by assumption) ?_
    rotate_left
    (intro w hSw; (try dsimp only at hSw); go_simp)
    all_goals (try with_reducible rfl)
    all_goals (try simp only [Act.put, List.setIfInBounds_toArray, List.set_cons_zero, List.set_cons_succ])
    refine hand_one 2 (by kernel_rfl) rfl (fun K hK => ?_)
    go_simp
    refine (IH0.out _).mono ?_
    rintro e x1 ⟨v1, rfl, hown1, hbx1⟩
    have hS1 : x1.cell? ⟨(w.heap.size + 1), 0, none⟩ = some (.int .i64 s.1) ∧ x1.cell? ⟨(w.heap.size + 1), 1, none⟩ = some (.int .i64 s.2) ∧ x1.cell? ⟨w1.heap.size, 0, none⟩ = some (.int .i64 p.1) ∧ x1.cell? ⟨w1.heap.size, 1, none⟩ = some (.int .i64 (p.2 + 1)) ∧ x1.cell? ⟨g7, 0, none⟩ = some (.int .i64 (p.1 + sz (p.2 + 1))) ∧ x1.cell? ⟨g7, 1, none⟩ = some (.int .i64 (p.2 + 1)) := ⟨(hbx1.cell (p := ⟨(w.heap.size + 1), 0, none⟩) (by first | omega | (simp <;> omega))).trans c4_2, (hbx1.cell (p := ⟨(w.heap.size + 1), 1, none⟩) (by first | omega | (simp <;> omega))).trans c4_3, (hbx1.cell (p := ⟨w1.heap.size, 0, none⟩) (by first | omega | (simp <;> omega))).trans c4_4, (hbx1.cell (p := ⟨w1.heap.size, 1, none⟩) (by first | omega | (simp <;> omega))).trans c4_5, (hbx1.cell (p := ⟨g7, 0, none⟩) (by first | omega | (simp <;> omega))).trans c4_6, (hbx1.cell (p := ⟨g7, 1, none⟩) (by first | omega | (simp <;> omega))).trans c4_7⟩
    refine hK.out _ _ hS1 (fun hS2 => ?_)
    clear hS hS0 hK
    have hBx1 := hBd.trans (hbx1.mono hBd.size)
    have hsx1 : w4.heap.size ≤ x1.heap.size := hbx1.size
    refine hand_one 5 (by kernel_rfl) rfl (fun K hK => ?_)
    go_simp
    refine (IH1.out _).mono ?_
    rintro e x2 ⟨v2, rfl, hown2, hbx2⟩
    have hS3 : x2.cell? ⟨(w.heap.size + 1), 0, none⟩ = some (.int .i64 s.1) ∧ x2.cell? ⟨(w.heap.size + 1), 1, none⟩ = some (.int .i64 s.2) ∧ x2.cell? ⟨w1.heap.size, 0, none⟩ = some (.int .i64 p.1) ∧ x2.cell? ⟨w1.heap.size, 1, none⟩ = some (.int .i64 (p.2 + 1)) ∧ x2.cell? ⟨g7, 0, none⟩ = some (.int .i64 (p.1 + sz (p.2 + 1))) ∧ x2.cell? ⟨g7, 1, none⟩ = some (.int .i64 (p.2 + 1)) := ⟨(hbx2.cell (p := ⟨(w.heap.size + 1), 0, none⟩) (by first | omega | (simp <;> omega))).trans hS1.1, (hbx2.cell (p := ⟨(w.heap.size + 1), 1, none⟩) (by first | omega | (simp <;> omega))).trans hS1.2.1, (hbx2.cell (p := ⟨w1.heap.size, 0, none⟩) (by first | omega | (simp <;> omega))).trans hS1.2.2.1, (hbx2.cell (p := ⟨w1.heap.size, 1, none⟩) (by first | omega | (simp <;> omega))).trans hS1.2.2.2.1, (hbx2.cell (p := ⟨g7, 0, none⟩) (by first | omega | (simp <;> omega))).trans hS1.2.2.2.2.1, (hbx2.cell (p := ⟨g7, 1, none⟩) (by first | omega | (simp <;> omega))).trans hS1.2.2.2.2.2⟩
    refine hK.out _ _ hS3 (fun hS4 => ?_)
    clear hS2 hS1 hK
    have hBx2 := hBx1.trans (hbx2.mono hBx1.size)
    have hown3 : OwnP x2 w4.drew.heap.size 46 v1 L0 := hown1.below hbx2
    have hsx2 : w4.drew.heap.size ≤ x2.heap.size := Nat.le_trans hbx1.size hbx2.size
    obtain ⟨A2, c2, rfl, hr2⟩ := hown2.form
    clear hown1 hown2
    refine hand_one 6 (by kernel_rfl) rfl (fun K hK => ?_)
    refine wanted_wp rfl (wp_append_rd (.tmp 53) (.tmp 56) 43 rfl 46 Tryd.underlying43 _ 2 16 infoPfx rfl (by decide) w4.drew.heap.size v1 L0.length (cellsP L0) (by rfl) hown3 x2.heap.size A2 L1.length c2 (cellsP L1) (by rfl) (by rw [cellsP_length, Nat.mul_comm]) hr2 (cellsP_one L1) (by unfold maxLen; omega) (by omega) hsx2 ?_)
    intro v4 x3 hown4 hb4
    have hS5 : x3.cell? ⟨(w.heap.size + 1), 0, none⟩ = some (.int .i64 s.1) ∧ x3.cell? ⟨(w.heap.size + 1), 1, none⟩ = some (.int .i64 s.2) ∧ x3.cell? ⟨w1.heap.size, 0, none⟩ = some (.int .i64 p.1) ∧ x3.cell? ⟨w1.heap.size, 1, none⟩ = some (.int .i64 (p.2 + 1)) ∧ x3.cell? ⟨g7, 0, none⟩ = some (.int .i64 (p.1 + sz (p.2 + 1))) ∧ x3.cell? ⟨g7, 1, none⟩ = some (.int .i64 (p.2 + 1)) := ⟨(hb4.cell (p := ⟨(w.heap.size + 1), 0, none⟩) (by first | omega | (simp <;> omega))).trans hS3.1, (hb4.cell (p := ⟨(w.heap.size + 1), 1, none⟩) (by first | omega | (simp <;> omega))).trans hS3.2.1, (hb4.cell (p := ⟨w1.heap.size, 0, none⟩) (by first | omega | (simp <;> omega))).trans hS3.2.2.1, (hb4.cell (p := ⟨w1.heap.size, 1, none⟩) (by first | omega | (simp <;> omega))).trans hS3.2.2.2.1, (hb4.cell (p := ⟨g7, 0, none⟩) (by first | omega | (simp <;> omega))).trans hS3.2.2.2.2.1, (hb4.cell (p := ⟨g7, 1, none⟩) (by first | omega | (simp <;> omega))).trans hS3.2.2.2.2.2⟩
    refine hK.out _ _ hS5 (fun hS6 => ?_)
    clear hS3 hS4 hK
    refine hand_take 7 (v := ?_) rfl (by kernel_rfl) (by kernel_rfl) (by kernel_rfl) (fun _ _ _ h => h) (Or.inl ⟨by rfl, ?_⟩) (by assumption) ?_
    rotate_left
    (intro w hSw; (try dsimp only at hSw); go_simp)
    all_goals (try with_reducible rfl)
    all_goals (try simp only [Act.put, List.setIfInBounds_toArray, List.set_cons_zero, List.set_cons_succ])
    refine wpAnyH_done (by kernel_rfl) ?_ _
    have hBx3 := hBd.trans ((Below.trans (hbx1.trans (hbx2.mono hbx1.size)) hb4).mono hBd.size)
    have hown5 : OwnP x3 w.heap.size 46 v4 (L0 ++ L1) := own_of_base (by rw [cellsP_append, List.length_append]; exact hown4) hBd.size
    clear hown4 hown3 hb4 hbx1 hbx2
    go_wp2_with fail
    go_ret
    exact ⟨_, rfl, by rw [← HL0.out, ← HL1.out]; exact hown5, hBx3⟩
set_option maxRecDepth 100000 in
set_option maxHeartbeats 4000000 in
theorem covers_rec2 (s : Sp) (p : Pf) (h1 : ¬ s.2 < p.1) (h2 : ¬ lastP p < s.1) (h3 : s.1 ≤ p.1) (h4 : ¬ lastP p ≤ s.2) (h32 : p.2 < 32) (k : Nat) (hk : k ≤ 32) (ih0 : ∀ w, Calls Tryd.prog 20 #[.agg #[.int .i64 p.1, .int .i64 (p.2 + 1)], .agg #[.int .i64 s.1, .int .i64 s.2]] w (OwnRes 46 w (halvL (stS s) k (p.1, p.2 + 1)))) (ih1 : ∀ w, Calls Tryd.prog 20 #[.agg #[.int .i64 (p.1 + sz (p.2 + 1)), .int .i64 (p.2 + 1)], .agg #[.int .i64 s.1, .int .i64 s.2]] w (OwnRes 46 w (halvL (stS s) k (p.1 + sz (p.2 + 1), p.2 + 1)))) (hc : chk p.1 p.2 = 0) (w : World) :
    Calls Tryd.prog 20 #[.agg #[.int .i64 p.1, .int .i64 p.2], .agg #[.int .i64 s.1, .int .i64 s.2]] w (OwnRes 46 w (halvL (stS s) k (p.1, p.2 + 1) ++ halvL (stS s) k (p.1 + sz (p.2 + 1), p.2 + 1))) := by
  obtain ⟨hp0, hp1, hp2, hp3, _⟩ := chk_zero.1 hc
  have h1' : decide (s.2 < p.1) = false := by simpa using h1
  have h2' : decide (lastA p.1 p.2 < s.1) = false := by simpa using (show ¬ lastA p.1 p.2 < s.1 from h2)
  clear h1 h2
  have h4' : decide (lastA p.1 p.2 ≤ s.2) = false := by simpa using (show ¬ lastA p.1 p.2 ≤ s.2 from h4)
  clear h4
  go_enter Tryd.func20, Tryd.ntmps20
  go_wp2_with fail
  refine (lastOf_any p.1 p.2 hc _).mono ?_
  rintro e w1 ⟨rfl, hb1⟩
  have hB1 : Below w.heap.size w w1 := Below.trans (by first | exact Below.refl _ _ | ((repeat' (first | exact Below.refl _ _ | refine Below.setCell ?_ ?_ _ | refine Below.alloc ?_ ?_ _ | refine Below.drew ?_)) <;> (first | omega | (simp <;> omega)))) (hb1.mono (by first | omega | (simp <;> omega)))
  have hs1 : w.heap.size ≤ w1.heap.size := hB1.size
  have ht1 := hb1.size
  try simp only [World.size_alloc, World.size_setCell] at ht1
  have c1_0 : w1.cell? ⟨w.heap.size, 0, none⟩ = some (.int .i64 p.1) := (hb1.cell (p := ⟨w.heap.size, 0, none⟩) (by first | omega | (simp <;> omega))).trans (by first | (simp; done) | simp [go_sem])
  have c1_1 : w1.cell? ⟨w.heap.size, 1, none⟩ = some (.int .i64 p.2) := (hb1.cell (p := ⟨w.heap.size, 1, none⟩) (by first | omega | (simp <;> omega))).trans (by first | (simp; done) | simp [go_sem])
  have c1_2 : w1.cell? ⟨(w.heap.size + 1), 0, none⟩ = some (.int .i64 s.1) := (hb1.cell (p := ⟨(w.heap.size + 1), 0, none⟩) (by first | omega | (simp <;> omega))).trans (by first | (simp; done) | simp [go_sem])
  have c1_3 : w1.cell? ⟨(w.heap.size + 1), 1, none⟩ = some (.int .i64 s.2) := (hb1.cell (p := ⟨(w.heap.size + 1), 1, none⟩) (by first | omega | (simp <;> omega))).trans (by first | (simp; done) | simp [go_sem])
  have l1_0a : w.heap.size < w1.heap.size := World.block_lt_of_cell? w1 _ c1_0
  have l1_0b : w.heap.size < w1.heap.size + 1 := Nat.lt_succ_of_lt l1_0a
  have l1_0c : w.heap.size < w1.heap.size + 1 + 1 := Nat.lt_succ_of_lt l1_0b
  have l1_0d : w.heap.size < w1.heap.size + 1 + 1 + 1 := Nat.lt_succ_of_lt l1_0c
  have l1_1a : (w.heap.size + 1) < w1.heap.size := World.block_lt_of_cell? w1 _ c1_2
  have l1_1b : (w.heap.size + 1) < w1.heap.size + 1 := Nat.lt_succ_of_lt l1_1a
  have l1_1c : (w.heap.size + 1) < w1.heap.size + 1 + 1 := Nat.lt_succ_of_lt l1_1b
  have l1_1d : (w.heap.size + 1) < w1.heap.size + 1 + 1 + 1 := Nat.lt_succ_of_lt l1_1c
  clear hb1
  have hz0 := sz_pos (p.2 + 1)
  have hz1 := sz_le (p.2 + 1) (by omega)
  go_wp2_with fail
  refine wp_name ?_
  intro w2 hW2
  have hB2 : Below w.heap.size w w2 := by rw [hW2.out]; exact (by first | exact hB1 | ((repeat' (first | exact hB1 | refine Below.setCell ?_ ?_ _ | refine Below.alloc ?_ ?_ _ | refine Below.drew ?_)) <;> (first | omega | (simp <;> omega))))
  have hs2 : w.heap.size ≤ w2.heap.size := hB2.size
  have ht2 := congrArg (fun x : World => x.heap.size) hW2.out
  try simp only [World.size_alloc, World.size_setCell] at ht2
  have c2_0 : w2.cell? ⟨w.heap.size, 0, none⟩ = some (.int .i64 p.1) := by rw [hW2.out]; first | exact c1_0 | simp [go_sem, c1_0, l1_0a, l1_0b, l1_0c, l1_0d, l1_1a, l1_1b, l1_1c, l1_1d]
  have c2_1 : w2.cell? ⟨w.heap.size, 1, none⟩ = some (.int .i64 p.2) := by rw [hW2.out]; first | exact c1_1 | simp [go_sem, c1_1, l1_0a, l1_0b, l1_0c, l1_0d, l1_1a, l1_1b, l1_1c, l1_1d]
  have c2_2 : w2.cell? ⟨(w.heap.size + 1), 0, none⟩ = some (.int .i64 s.1) := by rw [hW2.out]; first | exact c1_2 | simp [go_sem, c1_2, l1_0a, l1_0b, l1_0c, l1_0d, l1_1a, l1_1b, l1_1c, l1_1d]
  have c2_3 : w2.cell? ⟨(w.heap.size + 1), 1, none⟩ = some (.int .i64 s.2) := by rw [hW2.out]; first | exact c1_3 | simp [go_sem, c1_3, l1_0a, l1_0b, l1_0c, l1_0d, l1_1a, l1_1b, l1_1c, l1_1d]
  have c2_4 : w2.cell? ⟨w1.heap.size, 0, none⟩ = some (.int .i64 p.1) := by rw [hW2.out]; first | (simp; done) | simp [go_sem, l1_0a, l1_0b, l1_0c, l1_0d, l1_1a, l1_1b, l1_1c, l1_1d, c1_0, c1_1, c1_2, c1_3]
  have c2_5 : w2.cell? ⟨w1.heap.size, 1, none⟩ = some (.int .i64 (p.2 + 1)) := by rw [hW2.out]; first | (simp; done) | simp [go_sem, l1_0a, l1_0b, l1_0c, l1_0d, l1_1a, l1_1b, l1_1c, l1_1d, c1_0, c1_1, c1_2, c1_3]
  have l2_0a : w.heap.size < w2.heap.size := World.block_lt_of_cell? w2 _ c2_0
  have l2_0b : w.heap.size < w2.heap.size + 1 := Nat.lt_succ_of_lt l2_0a
  have l2_0c : w.heap.size < w2.heap.size + 1 + 1 := Nat.lt_succ_of_lt l2_0b
  have l2_0d : w.heap.size < w2.heap.size + 1 + 1 + 1 := Nat.lt_succ_of_lt l2_0c
  have l2_1a : (w.heap.size + 1) < w2.heap.size := World.block_lt_of_cell? w2 _ c2_2
  have l2_1b : (w.heap.size + 1) < w2.heap.size + 1 := Nat.lt_succ_of_lt l2_1a
  have l2_1c : (w.heap.size + 1) < w2.heap.size + 1 + 1 := Nat.lt_succ_of_lt l2_1b
  have l2_1d : (w.heap.size + 1) < w2.heap.size + 1 + 1 + 1 := Nat.lt_succ_of_lt l2_1c
  have l2_2a : w1.heap.size < w2.heap.size := World.block_lt_of_cell? w2 _ c2_4
  have l2_2b : w1.heap.size < w2.heap.size + 1 := Nat.lt_succ_of_lt l2_2a
  have l2_2c : w1.heap.size < w2.heap.size + 1 + 1 := Nat.lt_succ_of_lt l2_2b
  have l2_2d : w1.heap.size < w2.heap.size + 1 + 1 + 1 := Nat.lt_succ_of_lt l2_2c
  have hu2 := Nat.le_of_eq ht2
  have hv2 := Nat.le_of_eq ht2.symm
  clear ht2 c1_0 c1_1 c1_2 c1_3 l1_0a l1_0b l1_0c l1_0d l1_1a l1_1b l1_1c l1_1d hB1 hW2
  go_cut [7] (fun hi wx => ∃ g : Nat, hi = .pointer (some ⟨g, 0, none⟩) ∧ Below w2.heap.size w2 wx ∧ w2.heap.size ≤ g ∧ wx.cell? ⟨g, 0, none⟩ = some (.int .i64 (p.1 + sz (p.2 + 1))) ∧ wx.cell? ⟨g, 1, none⟩ = some (.int .i64 (p.2 + 1)))
  case first =>
    have q1 : IntKind.i64.wrap (p.1 + sz (p.2 + 1)) = p.1 + sz (p.2 + 1) := IntWalk.i64_in _ (by omega)
    have q2 : IntKind.i64.wrap (p.2 + 1) = p.2 + 1 := IntWalk.i64_in _ (by omega)
    go_region_held3 (fun w' => w'.cell? ⟨w.heap.size, 0, none⟩ = some (.int .i64 p.1) ∧ w'.cell? ⟨w.heap.size, 1, none⟩ = some (.int .i64 p.2)) (go_keep) ((go_at_call 59; refine (size_any _ (by omega) (by omega) _).mono ?_; rintro e w' ⟨rfl, rfl⟩))
    all_goals
      go_wp2_with fail
      go_meet
      case rel => exact ⟨_, rfl, (by ((repeat' (first | exact Below.refl _ _ | refine Below.setCell ?_ ?_ _ | refine Below.alloc ?_ ?_ _ | refine Below.drew ?_)) <;> (first | omega | (simp <;> omega)))), by simp <;> omega, by simp [go_sem], by simp [go_sem]⟩
  case rest =>
    obtain ⟨g7, hg7, hb3, hge7, hc7a, hc7b⟩ := hcut
    subst hg7
    obtain ⟨w3, rfl⟩ : ∃ x : World, x = wc := ⟨_, rfl⟩
    have hB3 : Below w.heap.size w w3 := Below.trans (by first | exact hB2 | ((repeat' (first | exact hB2 | refine Below.setCell ?_ ?_ _ | refine Below.alloc ?_ ?_ _ | refine Below.drew ?_)) <;> (first | omega | (simp <;> omega)))) (hb3.mono (by first | omega | (simp <;> omega)))
    have hs3 : w.heap.size ≤ w3.heap.size := hB3.size
    have ht3 := hb3.size
    try simp only [World.size_alloc, World.size_setCell] at ht3
    have c3_0 : w3.cell? ⟨w.heap.size, 0, none⟩ = some (.int .i64 p.1) := (hb3.cell (p := ⟨w.heap.size, 0, none⟩) (by first | omega | (simp <;> omega))).trans (by first | exact c2_0 | simp [go_sem, c2_0, l2_0a, l2_0b, l2_0c, l2_0d, l2_1a, l2_1b, l2_1c, l2_1d, l2_2a, l2_2b, l2_2c, l2_2d])
    have c3_1 : w3.cell? ⟨w.heap.size, 1, none⟩ = some (.int .i64 p.2) := (hb3.cell (p := ⟨w.heap.size, 1, none⟩) (by first | omega | (simp <;> omega))).trans (by first | exact c2_1 | simp [go_sem, c2_1, l2_0a, l2_0b, l2_0c, l2_0d, l2_1a, l2_1b, l2_1c, l2_1d, l2_2a, l2_2b, l2_2c, l2_2d])
    have c3_2 : w3.cell? ⟨(w.heap.size + 1), 0, none⟩ = some (.int .i64 s.1) := (hb3.cell (p := ⟨(w.heap.size + 1), 0, none⟩) (by first | omega | (simp <;> omega))).trans (by first | exact c2_2 | simp [go_sem, c2_2, l2_0a, l2_0b, l2_0c, l2_0d, l2_1a, l2_1b, l2_1c, l2_1d, l2_2a, l2_2b, l2_2c, l2_2d])
    have c3_3 : w3.cell? ⟨(w.heap.size + 1), 1, none⟩ = some (.int .i64 s.2) := (hb3.cell (p := ⟨(w.heap.size + 1), 1, none⟩) (by first | omega | (simp <;> omega))).trans (by first | exact c2_3 | simp [go_sem, c2_3, l2_0a, l2_0b, l2_0c, l2_0d, l2_1a, l2_1b, l2_1c, l2_1d, l2_2a, l2_2b, l2_2c, l2_2d])
    have c3_4 : w3.cell? ⟨w1.heap.size, 0, none⟩ = some (.int .i64 p.1) := (hb3.cell (p := ⟨w1.heap.size, 0, none⟩) (by first | omega | (simp <;> omega))).trans (by first | exact c2_4 | simp [go_sem, c2_4, l2_0a, l2_0b, l2_0c, l2_0d, l2_1a, l2_1b, l2_1c, l2_1d, l2_2a, l2_2b, l2_2c, l2_2d])
    have c3_5 : w3.cell? ⟨w1.heap.size, 1, none⟩ = some (.int .i64 (p.2 + 1)) := (hb3.cell (p := ⟨w1.heap.size, 1, none⟩) (by first | omega | (simp <;> omega))).trans (by first | exact c2_5 | simp [go_sem, c2_5, l2_0a, l2_0b, l2_0c, l2_0d, l2_1a, l2_1b, l2_1c, l2_1d, l2_2a, l2_2b, l2_2c, l2_2d])
    have l3_0a : w.heap.size < w3.heap.size := World.block_lt_of_cell? w3 _ c3_0
    have l3_0b : w.heap.size < w3.heap.size + 1 := Nat.lt_succ_of_lt l3_0a
    have l3_0c : w.heap.size < w3.heap.size + 1 + 1 := Nat.lt_succ_of_lt l3_0b
    have l3_0d : w.heap.size < w3.heap.size + 1 + 1 + 1 := Nat.lt_succ_of_lt l3_0c
    have l3_1a : (w.heap.size + 1) < w3.heap.size := World.block_lt_of_cell? w3 _ c3_2
    have l3_1b : (w.heap.size + 1) < w3.heap.size + 1 := Nat.lt_succ_of_lt l3_1a
    have l3_1c : (w.heap.size + 1) < w3.heap.size + 1 + 1 := Nat.lt_succ_of_lt l3_1b
    have l3_1d : (w.heap.size + 1) < w3.heap.size + 1 + 1 + 1 := Nat.lt_succ_of_lt l3_1c
    have l3_2a : w1.heap.size < w3.heap.size := World.block_lt_of_cell? w3 _ c3_4
    have l3_2b : w1.heap.size < w3.heap.size + 1 := Nat.lt_succ_of_lt l3_2a
    have l3_2c : w1.heap.size < w3.heap.size + 1 + 1 := Nat.lt_succ_of_lt l3_2b
    have l3_2d : w1.heap.size < w3.heap.size + 1 + 1 + 1 := Nat.lt_succ_of_lt l3_2c
    clear c2_0 c2_1 c2_2 c2_3 c2_4 c2_5 l2_0a l2_0b l2_0c l2_0d l2_1a l2_1b l2_1c l2_1d l2_2a l2_2b l2_2c l2_2d hB2 hb3
    have lt7 := World.block_lt_of_cell? w3 _ hc7a
    go_wp2_with fail
    refine wp_name ?_
    intro w4 hW4
    have hB4 : Below w.heap.size w w4 := by rw [hW4.out]; exact (by first | exact hB3 | ((repeat' (first | exact hB3 | refine Below.setCell ?_ ?_ _ | refine Below.alloc ?_ ?_ _ | refine Below.drew ?_)) <;> (first | omega | (simp <;> omega))))
    have hs4 : w.heap.size ≤ w4.heap.size := hB4.size
    have ht4 := congrArg (fun x : World => x.heap.size) hW4.out
    try simp only [World.size_alloc, World.size_setCell] at ht4
    have c4_0 : w4.cell? ⟨w.heap.size, 0, none⟩ = some (.int .i64 p.1) := by rw [hW4.out]; first | exact c3_0 | simp [go_sem, c3_0, l3_0a, l3_0b, l3_0c, l3_0d, l3_1a, l3_1b, l3_1c, l3_1d, l3_2a, l3_2b, l3_2c, l3_2d]
    have c4_1 : w4.cell? ⟨w.heap.size, 1, none⟩ = some (.int .i64 p.2) := by rw [hW4.out]; first | exact c3_1 | simp [go_sem, c3_1, l3_0a, l3_0b, l3_0c, l3_0d, l3_1a, l3_1b, l3_1c, l3_1d, l3_2a, l3_2b, l3_2c, l3_2d]
    have c4_2 : w4.cell? ⟨(w.heap.size + 1), 0, none⟩ = some (.int .i64 s.1) := by rw [hW4.out]; first | exact c3_2 | simp [go_sem, c3_2, l3_0a, l3_0b, l3_0c, l3_0d, l3_1a, l3_1b, l3_1c, l3_1d, l3_2a, l3_2b, l3_2c, l3_2d]
    have c4_3 : w4.cell? ⟨(w.heap.size + 1), 1, none⟩ = some (.int .i64 s.2) := by rw [hW4.out]; first | exact c3_3 | simp [go_sem, c3_3, l3_0a, l3_0b, l3_0c, l3_0d, l3_1a, l3_1b, l3_1c, l3_1d, l3_2a, l3_2b, l3_2c, l3_2d]
    have c4_4 : w4.cell? ⟨w1.heap.size, 0, none⟩ = some (.int .i64 p.1) := by rw [hW4.out]; first | exact c3_4 | simp [go_sem, c3_4, l3_0a, l3_0b, l3_0c, l3_0d, l3_1a, l3_1b, l3_1c, l3_1d, l3_2a, l3_2b, l3_2c, l3_2d]
    have c4_5 : w4.cell? ⟨w1.heap.size, 1, none⟩ = some (.int .i64 (p.2 + 1)) := by rw [hW4.out]; first | exact c3_5 | simp [go_sem, c3_5, l3_0a, l3_0b, l3_0c, l3_0d, l3_1a, l3_1b, l3_1c, l3_1d, l3_2a, l3_2b, l3_2c, l3_2d]
    have c4_6 : w4.cell? ⟨g7, 0, none⟩ = some (.int .i64 (p.1 + sz (p.2 + 1))) := by rw [hW4.out]; first | exact hc7a | simp [go_sem, hc7a, l3_0a, l3_0b, l3_0c, l3_0d, l3_1a, l3_1b, l3_1c, l3_1d, l3_2a, l3_2b, l3_2c, l3_2d]
    have c4_7 : w4.cell? ⟨g7, 1, none⟩ = some (.int .i64 (p.2 + 1)) := by rw [hW4.out]; first | exact hc7b | simp [go_sem, hc7b, l3_0a, l3_0b, l3_0c, l3_0d, l3_1a, l3_1b, l3_1c, l3_1d, l3_2a, l3_2b, l3_2c, l3_2d]
    have l4_0a : w.heap.size < w4.heap.size := World.block_lt_of_cell? w4 _ c4_0
    have l4_0b : w.heap.size < w4.heap.size + 1 := Nat.lt_succ_of_lt l4_0a
    have l4_0c : w.heap.size < w4.heap.size + 1 + 1 := Nat.lt_succ_of_lt l4_0b
    have l4_0d : w.heap.size < w4.heap.size + 1 + 1 + 1 := Nat.lt_succ_of_lt l4_0c
    have l4_1a : (w.heap.size + 1) < w4.heap.size := World.block_lt_of_cell? w4 _ c4_2
    have l4_1b : (w.heap.size + 1) < w4.heap.size + 1 := Nat.lt_succ_of_lt l4_1a
    have l4_1c : (w.heap.size + 1) < w4.heap.size + 1 + 1 := Nat.lt_succ_of_lt l4_1b
    have l4_1d : (w.heap.size + 1) < w4.heap.size + 1 + 1 + 1 := Nat.lt_succ_of_lt l4_1c
    have l4_2a : w1.heap.size < w4.heap.size := World.block_lt_of_cell? w4 _ c4_4
    have l4_2b : w1.heap.size < w4.heap.size + 1 := Nat.lt_succ_of_lt l4_2a
    have l4_2c : w1.heap.size < w4.heap.size + 1 + 1 := Nat.lt_succ_of_lt l4_2b
    have l4_2d : w1.heap.size < w4.heap.size + 1 + 1 + 1 := Nat.lt_succ_of_lt l4_2c
    have l4_3a : g7 < w4.heap.size := World.block_lt_of_cell? w4 _ c4_6
    have l4_3b : g7 < w4.heap.size + 1 := Nat.lt_succ_of_lt l4_3a
    have l4_3c : g7 < w4.heap.size + 1 + 1 := Nat.lt_succ_of_lt l4_3b
    have l4_3d : g7 < w4.heap.size + 1 + 1 + 1 := Nat.lt_succ_of_lt l4_3c
    have hu4 := Nat.le_of_eq ht4
    have hv4 := Nat.le_of_eq ht4.symm
    clear ht4 c3_0 c3_1 c3_2 c3_3 c3_4 c3_5 hc7a hc7b l3_0a l3_0b l3_0c l3_0d l3_1a l3_1b l3_1c l3_1d l3_2a l3_2b l3_2c l3_2d hB3 hW4
    obtain ⟨L0, hL0⟩ : ∃ L, L = halvL (stS s) k (p.1, p.2 + 1) := ⟨_, rfl⟩
    obtain ⟨L1, hL1⟩ : ∃ L, L = halvL (stS s) k (p.1 + sz (p.2 + 1), p.2 + 1) := ⟨_, rfl⟩
    have hl0 : L0.length ≤ 4294967296 := by rw [hL0]; exact Nat.le_trans (halvL_len _ _ _) (show 2 ^ k ≤ 2 ^ 32 from Nat.pow_le_pow_right (by decide) hk)
    have hl1 : L1.length ≤ 4294967296 := by rw [hL1]; exact Nat.le_trans (halvL_len _ _ _) (show 2 ^ k ≤ 2 ^ 32 from Nat.pow_le_pow_right (by decide) hk)
    rw [← hL0] at ih0
    rw [← hL1] at ih1
    have HL0 := Lib.hid hL0
    have HL1 := Lib.hid hL1
    have IH0 := Lib.hid ih0
    have IH1 := Lib.hid ih1
    clear hL0 hL1 ih0 ih1
    have hS0 : w4.drew.cell? ⟨(w.heap.size + 1), 0, none⟩ = some (.int .i64 s.1) ∧ w4.drew.cell? ⟨(w.heap.size + 1), 1, none⟩ = some (.int .i64 s.2) ∧ w4.drew.cell? ⟨w1.heap.size, 0, none⟩ = some (.int .i64 p.1) ∧ w4.drew.cell? ⟨w1.heap.size, 1, none⟩ = some (.int .i64 (p.2 + 1)) ∧ w4.drew.cell? ⟨g7, 0, none⟩ = some (.int .i64 (p.1 + sz (p.2 + 1))) ∧ w4.drew.cell? ⟨g7, 1, none⟩ = some (.int .i64 (p.2 + 1)) := ⟨c4_2, c4_3, c4_4, c4_5, c4_6, c4_7⟩
    have hBd : Below w.heap.size w w4.drew := hB4.drew
    refine wp_region_held_drew (S := fun w' : World => w'.cell? ⟨(w.heap.size + 1), 0, none⟩ = some (.int .i64 s.1) ∧ w'.cell? ⟨(w.heap.size + 1), 1, none⟩ = some (.int .i64 s.2) ∧ w'.cell? ⟨w1.heap.size, 0, none⟩ = some (.int .i64 p.1) ∧ w'.cell? ⟨w1.heap.size, 1, none⟩ = some (.int .i64 (p.2 + 1)) ∧ w'.cell? ⟨g7, 0, none⟩ = some (.int .i64 (p.1 + sz (p.2 + 1))) ∧ w'.cell? ⟨g7, 1, none⟩ = some (.int .i64 (p.2 + 1))) (by kernel_rfl) hS0 (fun hS => ?_)
    refine hand_take 0 (v := ?_) rfl (by kernel_rfl) (by kernel_rfl) (by kernel_rfl) (fun _ _ _ h => h) (Or.inl ⟨by rfl, ?_⟩) (by assumption) ?_
    rotate_left
    (intro w hSw; (try dsimp only at hSw); go_simp)
    all_goals (try with_reducible rfl)
    all_goals (try simp only [Act.put, List.setIfInBounds_toArray, List.set_cons_zero, List.set_cons_succ])
    refine hand_take 1 (v := ?_) rfl (by kernel_rfl) (by kernel_rfl) (by kernel_rfl) (fun _ _ _ h => h) (Or.inl ⟨by rfl, ?_⟩) (by assumption) ?_
    rotate_left
    (intro w hSw; (try dsimp only at hSw); go_simp)
    all_goals (try with_reducible rfl)
    all_goals (try simp only [Act.put, List.setIfInBounds_toArray, List.set_cons_zero, List.set_cons_succ])
    refine hand_take 3 (v := ?_) rfl (by kernel_rfl) (by kernel_rfl) (by kernel_rfl) (fun _ _ _ h => h) (Or.inl ⟨by rfl, ?_⟩) (by assumption) ?_
    rotate_left
    (intro w hSw; (try dsimp only at hSw); go_simp)
    all_goals (try with_reducible rfl)
    all_goals (try simp only [Act.put, List.setIfInBounds_toArray, List.set_cons_zero, List.set_cons_succ])
    refine hand_take 4 (v := ?_) rfl (by kernel_rfl) (by kernel_rfl) (by kernel_rfl) (fun _ _ _ h => h) (Or.inl ⟨by rfl, ?_⟩) (by assumption) ?_
    rotate_left
    (intro w hSw; (try dsimp only at hSw); go_simp)
    all_goals (try with_reducible rfl)
    all_goals (try simp only [Act.put, List.setIfInBounds_toArray, List.set_cons_zero, List.set_cons_succ])
    refine hand_one 2 (by kernel_rfl) rfl (fun K hK => ?_)
    go_simp
    refine (IH0.out _).mono ?_
    rintro e x1 ⟨v1, rfl, hown1, hbx1⟩
    have hS1 : x1.cell? ⟨(w.heap.size + 1), 0, none⟩ = some (.int .i64 s.1) ∧ x1.cell? ⟨(w.heap.size + 1), 1, none⟩ = some (.int .i64 s.2) ∧ x1.cell? ⟨w1.heap.size, 0, none⟩ = some (.int .i64 p.1) ∧ x1.cell? ⟨w1.heap.size, 1, none⟩ = some (.int .i64 (p.2 + 1)) ∧ x1.cell? ⟨g7, 0, none⟩ = some (.int .i64 (p.1 + sz (p.2 + 1))) ∧ x1.cell? ⟨g7, 1, none⟩ = some (.int .i64 (p.2 + 1)) := ⟨(hbx1.cell (p := ⟨(w.heap.size + 1), 0, none⟩) (by first | omega | (simp <;> omega))).trans c4_2, (hbx1.cell (p := ⟨(w.heap.size + 1), 1, none⟩) (by first | omega | (simp <;> omega))).trans c4_3, (hbx1.cell (p := ⟨w1.heap.size, 0, none⟩) (by first | omega | (simp <;> omega))).trans c4_4, (hbx1.cell (p := ⟨w1.heap.size, 1, none⟩) (by first | omega | (simp <;> omega))).trans c4_5, (hbx1.cell (p := ⟨g7, 0, none⟩) (by first | omega | (simp <;> omega))).trans c4_6, (hbx1.cell (p := ⟨g7, 1, none⟩) (by first | omega | (simp <;> omega))).trans c4_7⟩
    refine hK.out _ _ hS1 (fun hS2 => ?_)
    clear hS hS0 hK
    have hBx1 := hBd.trans (hbx1.mono hBd.size)
    have hsx1 : w4.heap.size ≤ x1.heap.size := hbx1.size
    refine hand_one 5 (by kernel_rfl) rfl (fun K hK => ?_)
    go_simp
    refine (IH1.out _).mono ?_
    rintro e x2 ⟨v2, rfl, hown2, hbx2⟩
    have hS3 : x2.cell? ⟨(w.heap.size + 1), 0, none⟩ = some (.int .i64 s.1) ∧ x2.cell? ⟨(w.heap.size + 1), 1, none⟩ = some (.int .i64 s.2) ∧ x2.cell? ⟨w1.heap.size, 0, none⟩ = some (.int .i64 p.1) ∧ x2.cell? ⟨w1.heap.size, 1, none⟩ = some (.int .i64 (p.2 + 1)) ∧ x2.cell? ⟨g7, 0, none⟩ = some (.int .i64 (p.1 + sz (p.2 + 1))) ∧ x2.cell? ⟨g7, 1, none⟩ = some (.int .i64 (p.2 + 1)) := ⟨(hbx2.cell (p := ⟨(w.heap.size + 1), 0, none⟩) (by first | omega | (simp <;> omega))).trans hS1.1, (hbx2.cell (p := ⟨(w.heap.size + 1), 1, none⟩) (by first | omega | (simp <;> omega))).trans hS1.2.1, (hbx2.cell (p := ⟨w1.heap.size, 0, none⟩) (by first | omega | (simp <;> omega))).trans hS1.2.2.1, (hbx2.cell (p := ⟨w1.heap.size, 1, none⟩) (by first | omega | (simp <;> omega))).trans hS1.2.2.2.1, (hbx2.cell (p := ⟨g7, 0, none⟩) (by first | omega | (simp <;> omega))).trans hS1.2.2.2.2.1, (hbx2.cell (p := ⟨g7, 1, none⟩) (by first | omega | (simp <;> omega))).trans hS1.2.2.2.2.2⟩
    refine hK.out _ _ hS3 (fun hS4 => ?_)
    clear hS2 hS1 hK
    have hBx2 := hBx1.trans (hbx2.mono hBx1.size)
    have hown3 : OwnP x2 w4.drew.heap.size 46 v1 L0 := hown1.below hbx2
    have hsx2 : w4.drew.heap.size ≤ x2.heap.size := Nat.le_trans hbx1.size hbx2.size
    obtain ⟨A2, c2, rfl, hr2⟩ := hown2.form
    clear hown1 hown2
    refine hand_one 6 (by kernel_rfl) rfl (fun K hK => ?_)
    refine wanted_wp rfl (wp_append_rd (.tmp 53) (.tmp 56) 43 rfl 46 Tryd.underlying43 _ 2 16 infoPfx rfl (by decide) w4.drew.heap.size v1 L0.length (cellsP L0) (by rfl) hown3 x2.heap.size A2 L1.length c2 (cellsP L1) (by rfl) (by rw [cellsP_length, Nat.mul_comm]) hr2 (cellsP_one L1) (by unfold maxLen; omega) (by omega) hsx2 ?_)
    intro v4 x3 hown4 hb4
    have hS5 : x3.cell? ⟨(w.heap.size + 1), 0, none⟩ = some (.int .i64 s.1) ∧ x3.cell? ⟨(w.heap.size + 1), 1, none⟩ = some (.int .i64 s.2) ∧ x3.cell? ⟨w1.heap.size, 0, none⟩ = some (.int .i64 p.1) ∧ x3.cell? ⟨w1.heap.size, 1, none⟩ = some (.int .i64 (p.2 + 1)) ∧ x3.cell? ⟨g7, 0, none⟩ = some (.int .i64 (p.1 + sz (p.2 + 1))) ∧ x3.cell? ⟨g7, 1, none⟩ = some (.int .i64 (p.2 + 1)) := ⟨(hb4.cell (p := ⟨(w.heap.size + 1), 0, none⟩) (by first | omega | (simp <;> omega))).trans hS3.1, (hb4.cell (p := ⟨(w.heap.size + 1), 1, none⟩) (by first | omega | (simp <;> omega))).trans hS3.2.1, (hb4.cell (p := ⟨w1.heap.size, 0, none⟩) (by first | omega | (simp <;> omega))).trans hS3.2.2.1, (hb4.cell (p := ⟨w1.heap.size, 1, none⟩) (by first | omega | (simp <;> omega))).trans hS3.2.2.2.1, (hb4.cell (p := ⟨g7, 0, none⟩) (by first | omega | (simp <;> omega))).trans hS3.2.2.2.2.1, (hb4.cell (p := ⟨g7, 1, none⟩) (by first | omega | (simp <;> omega))).trans hS3.2.2.2.2.2⟩
    refine hK.out _ _ hS5 (fun hS6 => ?_)
    clear hS3 hS4 hK
    refine hand_take 7 (v := ?_) rfl (by kernel_rfl) (by kernel_rfl) (by kernel_rfl) (fun _ _ _ h => h) (Or.inl ⟨by rfl, ?_⟩) (by assumption) ?_
    rotate_left
    (intro w hSw; (try dsimp only at hSw); go_simp)
    all_goals (try with_reducible rfl)
    all_goals (try simp only [Act.put, List.setIfInBounds_toArray, List.set_cons_zero, List.set_cons_succ])
    refine wpAnyH_done (by kernel_rfl) ?_ _
    have hBx3 := hBd.trans ((Below.trans (hbx1.trans (hbx2.mono hbx1.size)) hb4).mono hBd.size)
    have hown5 : OwnP x3 w.heap.size 46 v4 (L0 ++ L1) := own_of_base (by rw [cellsP_append, List.length_append]; exact hown4) hBd.size
    clear hown4 hown3 hb4 hbx1 hbx2
    go_wp2_with fail
    go_ret
    exact ⟨_, rfl, by rw [← HL0.out, ← HL1.out]; exact hown5, hBx3⟩
theorem covers_any (s : Sp) (hs : s.1 ≤ s.2) : ∀ (k : Nat) (p : Pf) (w : World), chkP p = 0 → p.2 + k = 32 → Calls Tryd.prog 20 #[.agg #[.int .i64 p.1, .int .i64 p.2], .agg #[.int .i64 s.1, .int .i64 s.2]] w (OwnRes 46 w (halvL (stS s) k p)) := by
  intro k
  induction k with
  | zero =>
    intro p w hp hk
    rcases (stS_says s hs).least p hp (by omega) with h | h
    · rw [halv_all h]
      unfold stS at h
      split at h
      · cases h
      · rename_i h1
        split at h
        · rename_i h2
          exact covers_in s p (by omega) (by omega) h2.1 h2.2 hp w
        · cases h
    · rw [halv_none h]
      by_cases h1 : s.2 < p.1
      · exact covers_out1 s p h1 hp w
      · refine covers_out2 s p h1 (Int.not_le.1 fun h2 => ?_) hp w
        unfold stS at h
        rw [if_neg (by omega)] at h
        split at h <;> cases h
  | succ k ih =>
    intro p w hp hk
    by_cases h1 : s.2 < p.1
    · rw [halv_none (stS_out (.inl h1))]; exact covers_out1 s p h1 hp w
    · by_cases h2 : lastP p < s.1
      · rw [halv_none (stS_out (.inr h2))]; exact covers_out2 s p h1 h2 hp w
      · have hk32 : k ≤ 32 := by have := (chk_zero.1 (show chk p.1 p.2 = 0 from hp)).1; omega
        have hlt : p.2 < 32 := by omega
        obtain ⟨g1, g2, _⟩ := halves hp hlt
        by_cases h3 : s.1 ≤ p.1
        · by_cases h4 : lastP p ≤ s.2
          · rw [halv_all (stS_in (by omega) ⟨h3, h4⟩)]; exact covers_in s p h1 h2 h3 h4 hp w
          · have hst := stS_some (s := s) (p := p) (by omega) (by omega)
            rw [halv_more (by rw [hst]; decide) (by rw [hst]; decide)]
            exact covers_rec2 s p h1 h2 h3 h4 hlt k hk32 (fun w => ih _ w g1 (by show p.2 + 1 + (k : Int) = 32; omega)) (fun w => ih _ w g2 (by show p.2 + 1 + (k : Int) = 32; omega)) hp w
        · have hst := stS_some (s := s) (p := p) (by omega) (by omega)
          rw [halv_more (by rw [hst]; decide) (by rw [hst]; decide)]
          exact covers_rec1 s p h1 h2 h3 hlt k hk32 (fun w => ih _ w g1 (by show p.2 + 1 + (k : Int) = 32; omega)) (fun w => ih _ w g2 (by show p.2 + 1 + (k : Int) = 32; omega)) hp w
theorem covers_one (s : Sp) (hs : spanFault s = 0) (w : World) : Calls Tryd.prog 20 #[.agg #[.int .i64 0, .int .i64 0], .agg #[.int .i64 s.1, .int .i64 s.2]] w (OwnRes 46 w (cover s.1 s.2)) := by
  have hv := spanFault_zero.1 hs
  have hc : Valid [s] := fun q hq => by simp at hq; subst hq; exact hv
  have h00 : chkP ((0 : Int), (0 : Int)) = 0 := by decide
  have hl : lastP ((0 : Int), (0 : Int)) = maxA := by decide
  have e : halvL (stS s) 32 (0, 0) = cover s.1 s.2 := by
    have := halv_cover (st := stS s) (l := [s]) (p := (0, 0)) (k := 32) (b := -1) ?_ h00 (by decide) ⟨by have := hv.1; omega, hv.2.1, trivial⟩ hc fun t ht => ?_
    · rw [this]; simp [coverSet]
    · have hf : (fun t => decide (((0 : Int), (0 : Int)).1 ≤ t) && decide (t ≤ lastP ((0 : Int), (0 : Int))) && memS [s] t) = inS s := by
        funext t
        rw [hl]
        by_cases h : inS s t = true
        · have := inS_iff.1 h
          have h1 : (0 : Int) ≤ t := by omega
          have h2 : t ≤ maxA := by omega
          simp [memS, h, h1, h2]
        · simp at h; simp [memS, h]
      rw [hf]
      exact stS_says s hv.2.1
    · have := valid_mem hc ht
      rw [hl]
      exact this
  rw [← e]
  exact covers_any s hv.2.1 32 (0, 0) w h00 (by decide)
end Go.Proofs.YtmfaknngophmhaaDoor
