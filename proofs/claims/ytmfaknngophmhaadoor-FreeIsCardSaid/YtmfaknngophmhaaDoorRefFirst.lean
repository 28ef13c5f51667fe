/- The references FirstOf, ManyOf: the first that is free of a length, and how many. A prefix, a list and a length that may be. -/
import Derived.Test.YtmfaknngophmhaaDoorRefFree
namespace Go.Proofs.YtmfaknngophmhaaDoor
set_option linter.unusedVariables false
set_option linter.unusedSimpArgs false
open Go.RowKit
theorem halvL_ge (st : Pf → Nat) : ∀ (k : Nat) (p q : Pf), q ∈ halvL st k p → p.2 ≤ q.2
  | 0, p, q, h => by
    unfold halvL at h
    split at h
    · simp at h; subst h; omega
    · cases h
  | k + 1, p, q, h => by
    unfold halvL at h
    split at h
    · simp at h; subst h; omega
    · split at h
      · cases h
      · rcases List.mem_append.1 h with h | h
        · have := halvL_ge st k _ q h
          have : p.2 + 1 ≤ q.2 := this
          omega
        · have := halvL_ge st k _ q h
          have : p.2 + 1 ≤ q.2 := this
          omega
theorem fit_none {st : Pf → Nat} {k : Nat} {p : Pf} {n : Int} (h0 : st p ≠ 0) (hn : n ≤ p.2) : (halvL st k p).filter (fitB n) = [] := by
  rw [List.filter_eq_nil_iff]
  intro q hq
  cases k with
  | zero => unfold halvL at hq; rw [if_neg h0] at hq; cases hq
  | succ k =>
    unfold halvL at hq
    rw [if_neg h0] at hq
    split at hq
    · cases hq
    · have : p.2 + 1 ≤ q.2 := by
        rcases List.mem_append.1 hq with h | h
        · exact halvL_ge st k _ q h
        · exact halvL_ge st k _ q h
      simp [fitB]; omega
def firstGo (st : Pf → Nat) (n : Int) : Nat → Pf → Option Int
  | 0, p => if st p = 0 then some p.1 else none
  | k + 1, p => if st p = 0 then some p.1 else if st p = 1 ∨ n ≤ p.2 then none else
    match firstGo st n k (p.1, p.2 + 1) with
    | some a => some a
    | none => firstGo st n k (p.1 + sz (p.2 + 1), p.2 + 1)
def headF (l : List Pf) : Option Int := l.head?.map (·.1)
theorem firstGo_eq (st : Pf → Nat) (n : Int) (hn : n ≤ 32) : ∀ (k : Nat) (p : Pf), p.2 + k = 32 → p.2 ≤ n → firstGo st n k p = headF ((halvL st k p).filter (fitB n))
  | 0, p, hk, hp => by
    unfold firstGo halvL
    by_cases h : st p = 0
    · rw [if_pos h, if_pos h]; simp [fitB, hp, headF]
    · rw [if_neg h, if_neg h]; rfl
  | k + 1, p, hk, hp => by
    by_cases h : st p = 0
    · rw [halv_all h]; unfold firstGo; rw [if_pos h]; simp [fitB, hp, headF]
    · by_cases h1 : st p = 1
      · rw [halv_none h1]; unfold firstGo; rw [if_neg h, if_pos (.inl h1)]; rfl
      · by_cases h2 : n ≤ p.2
        · rw [fit_none h h2]; unfold firstGo; rw [if_neg h, if_pos (.inr h2)]; rfl
        · rw [halv_more h h1, List.filter_append]
          unfold firstGo
          rw [if_neg h, if_neg (by omega), firstGo_eq st n hn k _ (by show p.2 + 1 + (k : Int) = 32; omega) (by show p.2 + 1 ≤ n; omega), firstGo_eq st n hn k _ (by show p.2 + 1 + (k : Int) = 32; omega) (by show p.2 + 1 ≤ n; omega)]
          cases (halvL st k (p.1, p.2 + 1)).filter (fitB n) <;> rfl
def manyGo (st : Pf → Nat) (n : Int) : Nat → Pf → Nat
  | 0, p => if st p = 0 then 2 ^ (n - p.2).toNat else 0
  | k + 1, p => if st p = 0 then 2 ^ (n - p.2).toNat else if st p = 1 ∨ n ≤ p.2 then 0 else manyGo st n k (p.1, p.2 + 1) + manyGo st n k (p.1 + sz (p.2 + 1), p.2 + 1)
theorem manyL_append (a b : List Pf) (n : Int) : manyL (a ++ b) n = manyL a n + manyL b n := by simp [manyL]
theorem manyGo_eq (st : Pf → Nat) (n : Int) (hn : n ≤ 32) : ∀ (k : Nat) (p : Pf), p.2 + k = 32 → p.2 ≤ n → manyGo st n k p = manyL ((halvL st k p).filter (fitB n)) n
  | 0, p, hk, hp => by
    unfold manyGo halvL
    by_cases h : st p = 0
    · rw [if_pos h, if_pos h]; simp [fitB, hp, manyL]
    · rw [if_neg h, if_neg h]; rfl
  | k + 1, p, hk, hp => by
    by_cases h : st p = 0
    · rw [halv_all h]; unfold manyGo; rw [if_pos h]; simp [fitB, hp, manyL]
    · by_cases h1 : st p = 1
      · rw [halv_none h1]; unfold manyGo; rw [if_neg h, if_pos (.inl h1)]; rfl
      · by_cases h2 : n ≤ p.2
        · rw [fit_none h h2]; unfold manyGo; rw [if_neg h, if_pos (.inr h2)]; rfl
        · rw [halv_more h h1, List.filter_append, manyL_append]
          unfold manyGo
          rw [if_neg h, if_neg (by omega), manyGo_eq st n hn k _ (by show p.2 + 1 + (k : Int) = 32; omega) (by show p.2 + 1 ≤ n; omega), manyGo_eq st n hn k _ (by show p.2 + 1 + (k : Int) = 32; omega) (by show p.2 + 1 ≤ n; omega)]
theorem manyGo_le (st : Pf → Nat) (n : Int) : ∀ (k : Nat) (p : Pf), manyGo st n k p ≤ 2 ^ (n - p.2).toNat
  | 0, p => by unfold manyGo; split <;> simp
  | k + 1, p => by
    unfold manyGo
    split
    · exact Nat.le_refl _
    · split
      · exact Nat.zero_le _
      · rename_i h
        have h1 := manyGo_le st n k (p.1, p.2 + 1)
        have h2 := manyGo_le st n k (p.1 + sz (p.2 + 1), p.2 + 1)
        have e : (n - p.2).toNat = (n - (p.2 + 1)).toNat + 1 := by omega
        rw [e, Nat.pow_succ]
        simp only at h1 h2
        omega
theorem size_quo {m n : Int} (h0 : 0 ≤ m) (h : m ≤ n) (h2 : n ≤ 32) : sz m / sz n = ((2 ^ (n - m).toNat : Nat) : Int) := by
  rw [sz_times h0 h h2, Int.mul_ediv_cancel _ (by have := sz_pos n; omega)]
theorem great_halv {p : Pf} {l : List Pf} {k : Nat} (n : Int) (hf : freeFault p l = 0) (hk : p.2 + k = 32) : (halvL (stT l) k p).filter (fitB n) = greatL p l n := by
  rw [blocks_halv hf hk]; rfl

def optV : Option Int → Value
  | some a => .tuple #[.int .i64 a, .bool true]
  | none => .tuple #[.int .i64 0, .bool false]
set_option maxRecDepth 100000 in
set_option maxHeartbeats 4000000 in
theorem firstOf_0 (p : Pf) (A : Option Addr) (l : List Pf) (c : Nat) (n : Int) (hm : l.length ≤ 60) (hv : ∀ q ∈ l, chkP q = 0) (hs : stT l p = 0) (hc : chkP p = 0) (w : World) (hl : Rd w w.heap.size A (cellsP l)) :
    Calls Tryd.prog 33 #[.agg #[.int .i64 p.1, .int .i64 p.2], .slice A l.length c, .int .i64 n] w fun e w' => e = .returned (.tuple #[.int .i64 p.1, .bool true]) ∧ Below w.heap.size w w' := by
  obtain ⟨hp0, hp1, hp2, hp3, _⟩ := chk_zero.1 (show chk p.1 p.2 = 0 from hc)
  have HV := Lib.hid hv
  have HC := Lib.hid hc
  clear hv hc
  have HS := Lib.hid (show (stT l p : Int) = 0 by rw [hs]; rfl)
  clear hs
  go_enter Tryd.func33, Tryd.ntmps33
  go_wp2_with fail
  refine (state_any p A l c HC.out hm HV.out _ ((hl.below (show Below w.heap.size w _ from (by first | exact Below.refl _ _ | ((repeat' (first | exact Below.refl _ _ | refine Below.setCell ?_ ?_ _ | refine Below.alloc ?_ ?_ _ | refine Below.drew ?_)) <;> (first | omega | (simp <;> omega)))))).more (show w.heap.size ≤ _ from by first | omega | (simp <;> omega)))).mono ?_
  rintro e w1 ⟨rfl, hb1⟩
  have hB1 : Below w.heap.size w w1 := Below.trans (by first | exact Below.refl _ _ | ((repeat' (first | exact Below.refl _ _ | refine Below.setCell ?_ ?_ _ | refine Below.alloc ?_ ?_ _ | refine Below.drew ?_)) <;> (first | omega | (simp <;> omega)))) (hb1.mono (by first | omega | (simp <;> omega)))
  have hs1 : w.heap.size ≤ w1.heap.size := hB1.size
  have ht1 := hb1.size
  try simp only [World.size_alloc, World.size_setCell] at ht1
  have c1_0 : w1.cell? ⟨w.heap.size, 0, none⟩ = some (.int .i64 p.1) := (hb1.cell (p := ⟨w.heap.size, 0, none⟩) (by first | omega | (simp <;> omega))).trans (by first | (simp; done) | simp [go_sem])
  have c1_1 : w1.cell? ⟨w.heap.size, 1, none⟩ = some (.int .i64 p.2) := (hb1.cell (p := ⟨w.heap.size, 1, none⟩) (by first | omega | (simp <;> omega))).trans (by first | (simp; done) | simp [go_sem])
  have l1_0a : w.heap.size < w1.heap.size := World.block_lt_of_cell? w1 _ c1_0
  have l1_0b : w.heap.size < w1.heap.size + 1 := Nat.lt_succ_of_lt l1_0a
  have l1_0c : w.heap.size < w1.heap.size + 1 + 1 := Nat.lt_succ_of_lt l1_0b
  have l1_0d : w.heap.size < w1.heap.size + 1 + 1 + 1 := Nat.lt_succ_of_lt l1_0c
  clear hb1
  rw [HS.out]
  go_wp2_with fail
  go_ret2
  exact ⟨rfl, (by first | exact hB1 | ((repeat' (first | exact hB1 | refine Below.setCell ?_ ?_ _ | refine Below.alloc ?_ ?_ _ | refine Below.drew ?_)) <;> (first | omega | (simp <;> omega))))⟩
set_option maxRecDepth 100000 in
set_option maxHeartbeats 4000000 in
theorem firstOf_1 (p : Pf) (A : Option Addr) (l : List Pf) (c : Nat) (n : Int) (hm : l.length ≤ 60) (hv : ∀ q ∈ l, chkP q = 0) (hs : stT l p = 1) (hc : chkP p = 0) (w : World) (hl : Rd w w.heap.size A (cellsP l)) :
    Calls Tryd.prog 33 #[.agg #[.int .i64 p.1, .int .i64 p.2], .slice A l.length c, .int .i64 n] w fun e w' => e = .returned (.tuple #[.int .i64 0, .bool false]) ∧ Below w.heap.size w w' := by
  obtain ⟨hp0, hp1, hp2, hp3, _⟩ := chk_zero.1 (show chk p.1 p.2 = 0 from hc)
  have HV := Lib.hid hv
  have HC := Lib.hid hc
  clear hv hc
  have HS := Lib.hid (show (stT l p : Int) = 1 by rw [hs]; rfl)
  clear hs
  go_enter Tryd.func33, Tryd.ntmps33
  go_wp2_with fail
  refine (state_any p A l c HC.out hm HV.out _ ((hl.below (show Below w.heap.size w _ from (by first | exact Below.refl _ _ | ((repeat' (first | exact Below.refl _ _ | refine Below.setCell ?_ ?_ _ | refine Below.alloc ?_ ?_ _ | refine Below.drew ?_)) <;> (first | omega | (simp <;> omega)))))).more (show w.heap.size ≤ _ from by first | omega | (simp <;> omega)))).mono ?_
  rintro e w1 ⟨rfl, hb1⟩
  have hB1 : Below w.heap.size w w1 := Below.trans (by first | exact Below.refl _ _ | ((repeat' (first | exact Below.refl _ _ | refine Below.setCell ?_ ?_ _ | refine Below.alloc ?_ ?_ _ | refine Below.drew ?_)) <;> (first | omega | (simp <;> omega)))) (hb1.mono (by first | omega | (simp <;> omega)))
  have hs1 : w.heap.size ≤ w1.heap.size := hB1.size
  have ht1 := hb1.size
  try simp only [World.size_alloc, World.size_setCell] at ht1
  have c1_0 : w1.cell? ⟨w.heap.size, 0, none⟩ = some (.int .i64 p.1) := (hb1.cell (p := ⟨w.heap.size, 0, none⟩) (by first | omega | (simp <;> omega))).trans (by first | (simp; done) | simp [go_sem])
  have c1_1 : w1.cell? ⟨w.heap.size, 1, none⟩ = some (.int .i64 p.2) := (hb1.cell (p := ⟨w.heap.size, 1, none⟩) (by first | omega | (simp <;> omega))).trans (by first | (simp; done) | simp [go_sem])
  have l1_0a : w.heap.size < w1.heap.size := World.block_lt_of_cell? w1 _ c1_0
  have l1_0b : w.heap.size < w1.heap.size + 1 := Nat.lt_succ_of_lt l1_0a
  have l1_0c : w.heap.size < w1.heap.size + 1 + 1 := Nat.lt_succ_of_lt l1_0b
  have l1_0d : w.heap.size < w1.heap.size + 1 + 1 + 1 := Nat.lt_succ_of_lt l1_0c
  clear hb1
  rw [HS.out]
  go_wp2_with fail
  go_ret2
  exact ⟨rfl, (by first | exact hB1 | ((repeat' (first | exact hB1 | refine Below.setCell ?_ ?_ _ | refine Below.alloc ?_ ?_ _ | refine Below.drew ?_)) <;> (first | omega | (simp <;> omega))))⟩
set_option maxRecDepth 100000 in
set_option maxHeartbeats 4000000 in
theorem firstOf_2 (p : Pf) (A : Option Addr) (l : List Pf) (c : Nat) (n : Int) (hm : l.length ≤ 60) (hv : ∀ q ∈ l, chkP q = 0) (hs : stT l p = 2) (hn : n ≤ p.2) (hc : chkP p = 0) (w : World) (hl : Rd w w.heap.size A (cellsP l)) :
    Calls Tryd.prog 33 #[.agg #[.int .i64 p.1, .int .i64 p.2], .slice A l.length c, .int .i64 n] w fun e w' => e = .returned (.tuple #[.int .i64 0, .bool false]) ∧ Below w.heap.size w w' := by
  obtain ⟨hp0, hp1, hp2, hp3, _⟩ := chk_zero.1 (show chk p.1 p.2 = 0 from hc)
  have HV := Lib.hid hv
  have HC := Lib.hid hc
  clear hv hc
  have HS := Lib.hid (show (stT l p : Int) = 2 by rw [hs]; rfl)
  clear hs
  go_enter Tryd.func33, Tryd.ntmps33
  go_wp2_with fail
  refine (state_any p A l c HC.out hm HV.out _ ((hl.below (show Below w.heap.size w _ from (by first | exact Below.refl _ _ | ((repeat' (first | exact Below.refl _ _ | refine Below.setCell ?_ ?_ _ | refine Below.alloc ?_ ?_ _ | refine Below.drew ?_)) <;> (first | omega | (simp <;> omega)))))).more (show w.heap.size ≤ _ from by first | omega | (simp <;> omega)))).mono ?_
  rintro e w1 ⟨rfl, hb1⟩
  have hB1 : Below w.heap.size w w1 := Below.trans (by first | exact Below.refl _ _ | ((repeat' (first | exact Below.refl _ _ | refine Below.setCell ?_ ?_ _ | refine Below.alloc ?_ ?_ _ | refine Below.drew ?_)) <;> (first | omega | (simp <;> omega)))) (hb1.mono (by first | omega | (simp <;> omega)))
  have hs1 : w.heap.size ≤ w1.heap.size := hB1.size
  have ht1 := hb1.size
  try simp only [World.size_alloc, World.size_setCell] at ht1
  have c1_0 : w1.cell? ⟨w.heap.size, 0, none⟩ = some (.int .i64 p.1) := (hb1.cell (p := ⟨w.heap.size, 0, none⟩) (by first | omega | (simp <;> omega))).trans (by first | (simp; done) | simp [go_sem])
  have c1_1 : w1.cell? ⟨w.heap.size, 1, none⟩ = some (.int .i64 p.2) := (hb1.cell (p := ⟨w.heap.size, 1, none⟩) (by first | omega | (simp <;> omega))).trans (by first | (simp; done) | simp [go_sem])
  have l1_0a : w.heap.size < w1.heap.size := World.block_lt_of_cell? w1 _ c1_0
  have l1_0b : w.heap.size < w1.heap.size + 1 := Nat.lt_succ_of_lt l1_0a
  have l1_0c : w.heap.size < w1.heap.size + 1 + 1 := Nat.lt_succ_of_lt l1_0b
  have l1_0d : w.heap.size < w1.heap.size + 1 + 1 + 1 := Nat.lt_succ_of_lt l1_0c
  clear hb1
  rw [HS.out]
  go_wp2_with fail
  go_ret2
  exact ⟨rfl, (by first | exact hB1 | ((repeat' (first | exact hB1 | refine Below.setCell ?_ ?_ _ | refine Below.alloc ?_ ?_ _ | refine Below.drew ?_)) <;> (first | omega | (simp <;> omega))))⟩
set_option maxRecDepth 100000 in
set_option maxHeartbeats 4000000 in
theorem firstOf_3 (p : Pf) (A : Option Addr) (l : List Pf) (c : Nat) (n : Int) (hm : l.length ≤ 60) (hv : ∀ q ∈ l, chkP q = 0) (hs : stT l p = 2) (hn : p.2 < n) (h32 : p.2 < 32) (b : Int) (ih0 : ∀ w, Rd w w.heap.size A (cellsP l) → Calls Tryd.prog 33 #[.agg #[.int .i64 p.1, .int .i64 (p.2 + 1)], .slice A l.length c, .int .i64 n] w fun e w' => e = .returned (.tuple #[.int .i64 b, .bool true]) ∧ Below w.heap.size w w') (hc : chkP p = 0) (w : World) (hl : Rd w w.heap.size A (cellsP l)) :
    Calls Tryd.prog 33 #[.agg #[.int .i64 p.1, .int .i64 p.2], .slice A l.length c, .int .i64 n] w fun e w' => e = .returned (.tuple #[.int .i64 b, .bool true]) ∧ Below w.heap.size w w' := by
  obtain ⟨hp0, hp1, hp2, hp3, _⟩ := chk_zero.1 (show chk p.1 p.2 = 0 from hc)
  have HV := Lib.hid hv
  have HC := Lib.hid hc
  clear hv hc
  have HS := Lib.hid (show (stT l p : Int) = 2 by rw [hs]; rfl)
  clear hs
  have hlt' : decide (n ≤ p.2) = false := by simpa using (show ¬ n ≤ p.2 by omega)
  have hz0 := sz_pos (p.2 + 1)
  have hz1 := sz_le (p.2 + 1) (by omega)
  have IH0 := Lib.hid ih0
  clear ih0
  go_enter Tryd.func33, Tryd.ntmps33
  go_wp2_with fail
  refine (state_any p A l c HC.out hm HV.out _ ((hl.below (show Below w.heap.size w _ from (by first | exact Below.refl _ _ | ((repeat' (first | exact Below.refl _ _ | refine Below.setCell ?_ ?_ _ | refine Below.alloc ?_ ?_ _ | refine Below.drew ?_)) <;> (first | omega | (simp <;> omega)))))).more (show w.heap.size ≤ _ from by first | omega | (simp <;> omega)))).mono ?_
  rintro e w1 ⟨rfl, hb1⟩
  have hB1 : Below w.heap.size w w1 := Below.trans (by first | exact Below.refl _ _ | ((repeat' (first | exact Below.refl _ _ | refine Below.setCell ?_ ?_ _ | refine Below.alloc ?_ ?_ _ | refine Below.drew ?_)) <;> (first | omega | (simp <;> omega)))) (hb1.mono (by first | omega | (simp <;> omega)))
  have hs1 : w.heap.size ≤ w1.heap.size := hB1.size
  have ht1 := hb1.size
  try simp only [World.size_alloc, World.size_setCell] at ht1
  have c1_0 : w1.cell? ⟨w.heap.size, 0, none⟩ = some (.int .i64 p.1) := (hb1.cell (p := ⟨w.heap.size, 0, none⟩) (by first | omega | (simp <;> omega))).trans (by first | (simp; done) | simp [go_sem])
  have c1_1 : w1.cell? ⟨w.heap.size, 1, none⟩ = some (.int .i64 p.2) := (hb1.cell (p := ⟨w.heap.size, 1, none⟩) (by first | omega | (simp <;> omega))).trans (by first | (simp; done) | simp [go_sem])
  have l1_0a : w.heap.size < w1.heap.size := World.block_lt_of_cell? w1 _ c1_0
  have l1_0b : w.heap.size < w1.heap.size + 1 := Nat.lt_succ_of_lt l1_0a
  have l1_0c : w.heap.size < w1.heap.size + 1 + 1 := Nat.lt_succ_of_lt l1_0b
  have l1_0d : w.heap.size < w1.heap.size + 1 + 1 + 1 := Nat.lt_succ_of_lt l1_0c
  clear hb1
  rw [HS.out]
  go_wp2_with fail
  refine (IH0.out _ ((hl.below (show Below w.heap.size w _ from (by first | exact hB1 | ((repeat' (first | exact hB1 | refine Below.setCell ?_ ?_ _ | refine Below.alloc ?_ ?_ _ | refine Below.drew ?_)) <;> (first | omega | (simp <;> omega)))))).more (show w.heap.size ≤ _ from by first | omega | (simp <;> omega)))).mono ?_
  rintro e w2 ⟨rfl, hb2⟩
  have hB2 : Below w.heap.size w w2 := Below.trans (by first | exact hB1 | ((repeat' (first | exact hB1 | refine Below.setCell ?_ ?_ _ | refine Below.alloc ?_ ?_ _ | refine Below.drew ?_)) <;> (first | omega | (simp <;> omega)))) (hb2.mono (by first | omega | (simp <;> omega)))
  have hs2 : w.heap.size ≤ w2.heap.size := hB2.size
  have ht2 := hb2.size
  try simp only [World.size_alloc, World.size_setCell] at ht2
  have c2_0 : w2.cell? ⟨w.heap.size, 0, none⟩ = some (.int .i64 p.1) := (hb2.cell (p := ⟨w.heap.size, 0, none⟩) (by first | omega | (simp <;> omega))).trans (by first | exact c1_0 | simp [go_sem, c1_0, l1_0a, l1_0b, l1_0c, l1_0d])
  have c2_1 : w2.cell? ⟨w.heap.size, 1, none⟩ = some (.int .i64 p.2) := (hb2.cell (p := ⟨w.heap.size, 1, none⟩) (by first | omega | (simp <;> omega))).trans (by first | exact c1_1 | simp [go_sem, c1_1, l1_0a, l1_0b, l1_0c, l1_0d])
  have l2_0a : w.heap.size < w2.heap.size := World.block_lt_of_cell? w2 _ c2_0
  have l2_0b : w.heap.size < w2.heap.size + 1 := Nat.lt_succ_of_lt l2_0a
  have l2_0c : w.heap.size < w2.heap.size + 1 + 1 := Nat.lt_succ_of_lt l2_0b
  have l2_0d : w.heap.size < w2.heap.size + 1 + 1 + 1 := Nat.lt_succ_of_lt l2_0c
  clear c1_0 c1_1 l1_0a l1_0b l1_0c l1_0d hB1 hb2
  go_wp2_with fail
  go_ret2
  exact ⟨rfl, (by first | exact hB2 | ((repeat' (first | exact hB2 | refine Below.setCell ?_ ?_ _ | refine Below.alloc ?_ ?_ _ | refine Below.drew ?_)) <;> (first | omega | (simp <;> omega))))⟩
set_option maxRecDepth 100000 in
set_option maxHeartbeats 4000000 in
theorem firstOf_4 (p : Pf) (A : Option Addr) (l : List Pf) (c : Nat) (n : Int) (hm : l.length ≤ 60) (hv : ∀ q ∈ l, chkP q = 0) (hs : stT l p = 2) (hn : p.2 < n) (h32 : p.2 < 32) (u : Int) (t : Bool) (ih0 : ∀ w, Rd w w.heap.size A (cellsP l) → Calls Tryd.prog 33 #[.agg #[.int .i64 p.1, .int .i64 (p.2 + 1)], .slice A l.length c, .int .i64 n] w fun e w' => e = .returned (.tuple #[.int .i64 0, .bool false]) ∧ Below w.heap.size w w') (ih1 : ∀ w, Rd w w.heap.size A (cellsP l) → Calls Tryd.prog 33 #[.agg #[.int .i64 (p.1 + sz (p.2 + 1)), .int .i64 (p.2 + 1)], .slice A l.length c, .int .i64 n] w fun e w' => e = .returned (.tuple #[.int .i64 u, .bool t]) ∧ Below w.heap.size w w') (hc : chkP p = 0) (w : World) (hl : Rd w w.heap.size A (cellsP l)) :
    Calls Tryd.prog 33 #[.agg #[.int .i64 p.1, .int .i64 p.2], .slice A l.length c, .int .i64 n] w fun e w' => e = .returned (.tuple #[.int .i64 u, .bool t]) ∧ Below w.heap.size w w' := by
  obtain ⟨hp0, hp1, hp2, hp3, _⟩ := chk_zero.1 (show chk p.1 p.2 = 0 from hc)
  have HV := Lib.hid hv
  have HC := Lib.hid hc
  clear hv hc
  have HS := Lib.hid (show (stT l p : Int) = 2 by rw [hs]; rfl)
  clear hs
  have hlt' : decide (n ≤ p.2) = false := by simpa using (show ¬ n ≤ p.2 by omega)
  have hz0 := sz_pos (p.2 + 1)
  have hz1 := sz_le (p.2 + 1) (by omega)
  have IH0 := Lib.hid ih0
  clear ih0
  have IH1 := Lib.hid ih1
  clear ih1
  go_enter Tryd.func33, Tryd.ntmps33
  go_wp2_with fail
  refine (state_any p A l c HC.out hm HV.out _ ((hl.below (show Below w.heap.size w _ from (by first | exact Below.refl _ _ | ((repeat' (first | exact Below.refl _ _ | refine Below.setCell ?_ ?_ _ | refine Below.alloc ?_ ?_ _ | refine Below.drew ?_)) <;> (first | omega | (simp <;> omega)))))).more (show w.heap.size ≤ _ from by first | omega | (simp <;> omega)))).mono ?_
  rintro e w1 ⟨rfl, hb1⟩
  have hB1 : Below w.heap.size w w1 := Below.trans (by first | exact Below.refl _ _ | ((repeat' (first | exact Below.refl _ _ | refine Below.setCell ?_ ?_ _ | refine Below.alloc ?_ ?_ _ | refine Below.drew ?_)) <;> (first | omega | (simp <;> omega)))) (hb1.mono (by first | omega | (simp <;> omega)))
  have hs1 : w.heap.size ≤ w1.heap.size := hB1.size
  have ht1 := hb1.size
  try simp only [World.size_alloc, World.size_setCell] at ht1
  have c1_0 : w1.cell? ⟨w.heap.size, 0, none⟩ = some (.int .i64 p.1) := (hb1.cell (p := ⟨w.heap.size, 0, none⟩) (by first | omega | (simp <;> omega))).trans (by first | (simp; done) | simp [go_sem])
  have c1_1 : w1.cell? ⟨w.heap.size, 1, none⟩ = some (.int .i64 p.2) := (hb1.cell (p := ⟨w.heap.size, 1, none⟩) (by first | omega | (simp <;> omega))).trans (by first | (simp; done) | simp [go_sem])
  have l1_0a : w.heap.size < w1.heap.size := World.block_lt_of_cell? w1 _ c1_0
  have l1_0b : w.heap.size < w1.heap.size + 1 := Nat.lt_succ_of_lt l1_0a
  have l1_0c : w.heap.size < w1.heap.size + 1 + 1 := Nat.lt_succ_of_lt l1_0b
  have l1_0d : w.heap.size < w1.heap.size + 1 + 1 + 1 := Nat.lt_succ_of_lt l1_0c
  clear hb1
  rw [HS.out]
  go_wp2_with fail
  refine (IH0.out _ ((hl.below (show Below w.heap.size w _ from (by first | exact hB1 | ((repeat' (first | exact hB1 | refine Below.setCell ?_ ?_ _ | refine Below.alloc ?_ ?_ _ | refine Below.drew ?_)) <;> (first | omega | (simp <;> omega)))))).more (show w.heap.size ≤ _ from by first | omega | (simp <;> omega)))).mono ?_
  rintro e w2 ⟨rfl, hb2⟩
  have hB2 : Below w.heap.size w w2 := Below.trans (by first | exact hB1 | ((repeat' (first | exact hB1 | refine Below.setCell ?_ ?_ _ | refine Below.alloc ?_ ?_ _ | refine Below.drew ?_)) <;> (first | omega | (simp <;> omega)))) (hb2.mono (by first | omega | (simp <;> omega)))
  have hs2 : w.heap.size ≤ w2.heap.size := hB2.size
  have ht2 := hb2.size
  try simp only [World.size_alloc, World.size_setCell] at ht2
  have c2_0 : w2.cell? ⟨w.heap.size, 0, none⟩ = some (.int .i64 p.1) := (hb2.cell (p := ⟨w.heap.size, 0, none⟩) (by first | omega | (simp <;> omega))).trans (by first | exact c1_0 | simp [go_sem, c1_0, l1_0a, l1_0b, l1_0c, l1_0d])
  have c2_1 : w2.cell? ⟨w.heap.size, 1, none⟩ = some (.int .i64 p.2) := (hb2.cell (p := ⟨w.heap.size, 1, none⟩) (by first | omega | (simp <;> omega))).trans (by first | exact c1_1 | simp [go_sem, c1_1, l1_0a, l1_0b, l1_0c, l1_0d])
  have l2_0a : w.heap.size < w2.heap.size := World.block_lt_of_cell? w2 _ c2_0
  have l2_0b : w.heap.size < w2.heap.size + 1 := Nat.lt_succ_of_lt l2_0a
  have l2_0c : w.heap.size < w2.heap.size + 1 + 1 := Nat.lt_succ_of_lt l2_0b
  have l2_0d : w.heap.size < w2.heap.size + 1 + 1 + 1 := Nat.lt_succ_of_lt l2_0c
  clear c1_0 c1_1 l1_0a l1_0b l1_0c l1_0d hB1 hb2
  go_wp2_with fail
  refine wp_name ?_
  intro w3 hW3
  have hB3 : Below w.heap.size w w3 := by rw [hW3.out]; exact (by first | exact hB2 | ((repeat' (first | exact hB2 | refine Below.setCell ?_ ?_ _ | refine Below.alloc ?_ ?_ _ | refine Below.drew ?_)) <;> (first | omega | (simp <;> omega))))
  have hs3 : w.heap.size ≤ w3.heap.size := hB3.size
  have ht3 := congrArg (fun x : World => x.heap.size) hW3.out
  try simp only [World.size_alloc, World.size_setCell] at ht3
  have c3_0 : w3.cell? ⟨w.heap.size, 0, none⟩ = some (.int .i64 p.1) := by rw [hW3.out]; first | exact c2_0 | simp [go_sem, c2_0, l2_0a, l2_0b, l2_0c, l2_0d]
  have c3_1 : w3.cell? ⟨w.heap.size, 1, none⟩ = some (.int .i64 p.2) := by rw [hW3.out]; first | exact c2_1 | simp [go_sem, c2_1, l2_0a, l2_0b, l2_0c, l2_0d]
  have l3_0a : w.heap.size < w3.heap.size := World.block_lt_of_cell? w3 _ c3_0
  have l3_0b : w.heap.size < w3.heap.size + 1 := Nat.lt_succ_of_lt l3_0a
  have l3_0c : w.heap.size < w3.heap.size + 1 + 1 := Nat.lt_succ_of_lt l3_0b
  have l3_0d : w.heap.size < w3.heap.size + 1 + 1 + 1 := Nat.lt_succ_of_lt l3_0c
  have hu3 := Nat.le_of_eq ht3
  have hv3 := Nat.le_of_eq ht3.symm
  clear ht3 c2_0 c2_1 l2_0a l2_0b l2_0c l2_0d hB2 hW3
  have hrd : Rd w3 w3.heap.size A (cellsP l) := ((hl.below (show Below w.heap.size w _ from (by first | exact hB3 | ((repeat' (first | exact hB3 | refine Below.setCell ?_ ?_ _ | refine Below.alloc ?_ ?_ _ | refine Below.drew ?_)) <;> (first | omega | (simp <;> omega)))))).more (show w.heap.size ≤ _ from by first | omega | (simp <;> omega)))
  have KC := Lib.hid (fun x : BelW w3.heap.size w3 => Calls.bel_of (Nat.le_refl _) (IH1.out x.1 ((hrd.below x.2).more x.2.size)))
  clear hrd
  have kc3_0 : ∀ x : BelW w3.heap.size w3, x.1.cell? ⟨w.heap.size, 0, none⟩ = some (.int .i64 p.1) := BelW.cell c3_0 (World.block_lt_of_cell? w3 _ c3_0)
  have kc3_1 : ∀ x : BelW w3.heap.size w3, x.1.cell? ⟨w.heap.size, 1, none⟩ = some (.int .i64 p.2) := BelW.cell c3_1 (World.block_lt_of_cell? w3 _ c3_1)
  refine wp_region_bel w3.heap.size w3 (by kernel_rfl) (by kernel_rfl) (Below.refl _ _) ?_
  repeat (go_big_quiet_step ((first | (go_at_call 59; exact Calls.bel_of (Nat.le_refl _) ((size_any _ (by omega) (by omega) _).mono fun e w' h => ⟨h.1, h.2 ▸ Below.refl _ _⟩)) | (go_at_call 33; exact KC.out _))))
  refine wpQuiet_nil ?_
  intro w4 hb4
  clear kc3_0 kc3_1
  have hB4 : Below w.heap.size w w4 := Below.trans (by first | exact hB3 | ((repeat' (first | exact hB3 | refine Below.setCell ?_ ?_ _ | refine Below.alloc ?_ ?_ _ | refine Below.drew ?_)) <;> (first | omega | (simp <;> omega)))) (hb4.mono (by first | omega | (simp <;> omega)))
  have hs4 : w.heap.size ≤ w4.heap.size := hB4.size
  have ht4 := hb4.size
  try simp only [World.size_alloc, World.size_setCell] at ht4
  have c4_0 : w4.cell? ⟨w.heap.size, 0, none⟩ = some (.int .i64 p.1) := (hb4.cell (p := ⟨w.heap.size, 0, none⟩) (by first | omega | (simp <;> omega))).trans (by first | exact c3_0 | simp [go_sem, c3_0, l3_0a, l3_0b, l3_0c, l3_0d])
  have c4_1 : w4.cell? ⟨w.heap.size, 1, none⟩ = some (.int .i64 p.2) := (hb4.cell (p := ⟨w.heap.size, 1, none⟩) (by first | omega | (simp <;> omega))).trans (by first | exact c3_1 | simp [go_sem, c3_1, l3_0a, l3_0b, l3_0c, l3_0d])
  have l4_0a : w.heap.size < w4.heap.size := World.block_lt_of_cell? w4 _ c4_0
  have l4_0b : w.heap.size < w4.heap.size + 1 := Nat.lt_succ_of_lt l4_0a
  have l4_0c : w.heap.size < w4.heap.size + 1 + 1 := Nat.lt_succ_of_lt l4_0b
  have l4_0d : w.heap.size < w4.heap.size + 1 + 1 + 1 := Nat.lt_succ_of_lt l4_0c
  clear c3_0 c3_1 l3_0a l3_0b l3_0c l3_0d hB3 hb4
  go_wp2_with fail
  go_ret2
  exact ⟨rfl, (by first | exact hB4 | ((repeat' (first | exact hB4 | refine Below.setCell ?_ ?_ _ | refine Below.alloc ?_ ?_ _ | refine Below.drew ?_)) <;> (first | omega | (simp <;> omega))))⟩
theorem firstOf_any (A : Option Addr) (l : List Pf) (c : Nat) (n : Int) (hm : l.length ≤ 60) (hv : ∀ q ∈ l, chkP q = 0) (hn : n ≤ 32) : ∀ (k : Nat) (p : Pf) (w : World), chkP p = 0 → p.2 + k = 32 → Rd w w.heap.size A (cellsP l) →
    Calls Tryd.prog 33 #[.agg #[.int .i64 p.1, .int .i64 p.2], .slice A l.length c, .int .i64 n] w fun e w' => e = .returned (optV (firstGo (stT l) n k p)) ∧ Below w.heap.size w w' := by
  intro k
  induction k with
  | zero =>
    intro p w hp hk hl
    unfold firstGo
    rcases stT_cases l p with ⟨h, _⟩ | ⟨h, _⟩ | ⟨h, _⟩
    · rw [if_pos h]; exact firstOf_0 p A l c n hm hv h hp w hl
    · rw [if_neg (by omega)]; exact firstOf_1 p A l c n hm hv h hp w hl
    · rw [if_neg (by omega)]; exact firstOf_2 p A l c n hm hv h (by omega) hp w hl
  | succ k ih =>
    intro p w hp hk hl
    unfold firstGo
    have hlt : p.2 < 32 := by omega
    obtain ⟨g1, g2, _⟩ := halves hp hlt
    rcases stT_cases l p with ⟨h, _⟩ | ⟨h, _⟩ | ⟨h, _⟩
    · rw [if_pos h]; exact firstOf_0 p A l c n hm hv h hp w hl
    · rw [if_neg (by omega), if_pos (.inl h)]; exact firstOf_1 p A l c n hm hv h hp w hl
    · by_cases hnp : n ≤ p.2
      · rw [if_neg (by omega), if_pos (.inr hnp)]; exact firstOf_2 p A l c n hm hv h hnp hp w hl
      · rw [if_neg (by omega), if_neg (by omega)]
        have i0 := fun w hw => ih (p.1, p.2 + 1) w g1 (by show p.2 + 1 + (k : Int) = 32; omega) hw
        have i1 := fun w hw => ih (p.1 + sz (p.2 + 1), p.2 + 1) w g2 (by show p.2 + 1 + (k : Int) = 32; omega) hw
        cases hf : firstGo (stT l) n k (p.1, p.2 + 1) with
        | some b =>
          rw [hf] at i0
          exact firstOf_3 p A l c n hm hv h (by omega) hlt b i0 hp w hl
        | none =>
          rw [hf] at i0
          cases hg : firstGo (stT l) n k (p.1 + sz (p.2 + 1), p.2 + 1) with
          | some b =>
            rw [hg] at i1
            exact firstOf_4 p A l c n hm hv h (by omega) hlt b true i0 i1 hp w hl
          | none =>
            rw [hg] at i1
            exact firstOf_4 p A l c n hm hv h (by omega) hlt 0 false i0 i1 hp w hl
theorem firstRef (p : Pf) (A : Option Addr) (l : List Pf) (c : Nat) (n : Int) (hf : greatFault p l n = 0) (w : World) (hl : Rd w w.heap.size A (cellsP l)) :
    Calls Tryd.prog 33 #[.agg #[.int .i64 p.1, .int .i64 p.2], .slice A l.length c, .int .i64 n] w fun e w' => e = .returned (optV (headF (greatL p l n))) ∧ Below w.heap.size w w' := by
  obtain ⟨h0, hpn, hn⟩ := greatFault_zero.1 hf
  obtain ⟨h1, h2, h3⟩ := freeFault_zero.1 h0
  have hc := chk_zero.1 (show chk p.1 p.2 = 0 from h1)
  have hk : p.2 + ((32 - p.2).toNat : Int) = 32 := by omega
  rw [← great_halv n h0 hk, ← firstGo_eq (stT l) n hn _ p hk hpn]
  exact firstOf_any A l c n h2 h3 hn _ p w h1 hk hl
set_option maxRecDepth 100000 in
set_option maxHeartbeats 4000000 in
theorem manyOf_0 (p : Pf) (A : Option Addr) (l : List Pf) (c : Nat) (n : Int) (hm : l.length ≤ 60) (hv : ∀ q ∈ l, chkP q = 0) (hs : stT l p = 0) (hn1 : p.2 ≤ n) (hn2 : n ≤ 32) (hc : chkP p = 0) (w : World) (hl : Rd w w.heap.size A (cellsP l)) :
    Calls Tryd.prog 34 #[.agg #[.int .i64 p.1, .int .i64 p.2], .slice A l.length c, .int .i64 n] w fun e w' => e = .returned (.int .i64 ((2 ^ (n - p.2).toNat : Nat) : Int)) ∧ Below w.heap.size w w' := by
  obtain ⟨hp0, hp1, hp2, hp3, _⟩ := chk_zero.1 (show chk p.1 p.2 = 0 from hc)
  have HV := Lib.hid hv
  have HC := Lib.hid hc
  clear hv hc
  have HS := Lib.hid (show (stT l p : Int) = 0 by rw [hs]; rfl)
  clear hs
  go_enter Tryd.func34, Tryd.ntmps34
  go_wp2_with fail
  refine (state_any p A l c HC.out hm HV.out _ ((hl.below (show Below w.heap.size w _ from (by first | exact Below.refl _ _ | ((repeat' (first | exact Below.refl _ _ | refine Below.setCell ?_ ?_ _ | refine Below.alloc ?_ ?_ _ | refine Below.drew ?_)) <;> (first | omega | (simp <;> omega)))))).more (show w.heap.size ≤ _ from by first | omega | (simp <;> omega)))).mono ?_
  rintro e w1 ⟨rfl, hb1⟩
  have hB1 : Below w.heap.size w w1 := Below.trans (by first | exact Below.refl _ _ | ((repeat' (first | exact Below.refl _ _ | refine Below.setCell ?_ ?_ _ | refine Below.alloc ?_ ?_ _ | refine Below.drew ?_)) <;> (first | omega | (simp <;> omega)))) (hb1.mono (by first | omega | (simp <;> omega)))
  have hs1 : w.heap.size ≤ w1.heap.size := hB1.size
  have ht1 := hb1.size
  try simp only [World.size_alloc, World.size_setCell] at ht1
  have c1_0 : w1.cell? ⟨w.heap.size, 0, none⟩ = some (.int .i64 p.1) := (hb1.cell (p := ⟨w.heap.size, 0, none⟩) (by first | omega | (simp <;> omega))).trans (by first | (simp; done) | simp [go_sem])
  have c1_1 : w1.cell? ⟨w.heap.size, 1, none⟩ = some (.int .i64 p.2) := (hb1.cell (p := ⟨w.heap.size, 1, none⟩) (by first | omega | (simp <;> omega))).trans (by first | (simp; done) | simp [go_sem])
  have l1_0a : w.heap.size < w1.heap.size := World.block_lt_of_cell? w1 _ c1_0
  have l1_0b : w.heap.size < w1.heap.size + 1 := Nat.lt_succ_of_lt l1_0a
  have l1_0c : w.heap.size < w1.heap.size + 1 + 1 := Nat.lt_succ_of_lt l1_0b
  have l1_0d : w.heap.size < w1.heap.size + 1 + 1 + 1 := Nat.lt_succ_of_lt l1_0c
  clear hb1
  rw [HS.out]
  go_wp2_with fail
  refine (size_any p.2 hp0 hp1 _).mono ?_
  rintro e w2 ⟨rfl, rfl⟩
  go_wp2_with fail
  refine (size_any n (by omega) hn2 _).mono ?_
  rintro e w2 ⟨rfl, rfl⟩
  have z1 := sz_pos n
  have z2 := sz_pos p.2
  have z3 := sz_le p.2 hp0
  have z4 := sz_le n (by omega)
  have z5 : (sz n == 0) = false := by simp; omega
  have z6 : ¬ (sz n = 0) := by omega
  have HQ := Lib.hid (size_quo hp0 hn1 hn2)
  skip
  go_wp2_with fail
  go_ret
  exact ⟨by rw [← HQ.out]; rfl, (by first | exact hB1 | ((repeat' (first | exact hB1 | refine Below.setCell ?_ ?_ _ | refine Below.alloc ?_ ?_ _ | refine Below.drew ?_)) <;> (first | omega | (simp <;> omega))))⟩
set_option maxRecDepth 100000 in
set_option maxHeartbeats 4000000 in
theorem manyOf_1 (p : Pf) (A : Option Addr) (l : List Pf) (c : Nat) (n : Int) (hm : l.length ≤ 60) (hv : ∀ q ∈ l, chkP q = 0) (hs : stT l p = 1) (hc : chkP p = 0) (w : World) (hl : Rd w w.heap.size A (cellsP l)) :
    Calls Tryd.prog 34 #[.agg #[.int .i64 p.1, .int .i64 p.2], .slice A l.length c, .int .i64 n] w fun e w' => e = .returned (.int .i64 0) ∧ Below w.heap.size w w' := by
  obtain ⟨hp0, hp1, hp2, hp3, _⟩ := chk_zero.1 (show chk p.1 p.2 = 0 from hc)
  have HV := Lib.hid hv
  have HC := Lib.hid hc
  clear hv hc
  have HS := Lib.hid (show (stT l p : Int) = 1 by rw [hs]; rfl)
  clear hs
  go_enter Tryd.func34, Tryd.ntmps34
  go_wp2_with fail
  refine (state_any p A l c HC.out hm HV.out _ ((hl.below (show Below w.heap.size w _ from (by first | exact Below.refl _ _ | ((repeat' (first | exact Below.refl _ _ | refine Below.setCell ?_ ?_ _ | refine Below.alloc ?_ ?_ _ | refine Below.drew ?_)) <;> (first | omega | (simp <;> omega)))))).more (show w.heap.size ≤ _ from by first | omega | (simp <;> omega)))).mono ?_
  rintro e w1 ⟨rfl, hb1⟩
  have hB1 : Below w.heap.size w w1 := Below.trans (by first | exact Below.refl _ _ | ((repeat' (first | exact Below.refl _ _ | refine Below.setCell ?_ ?_ _ | refine Below.alloc ?_ ?_ _ | refine Below.drew ?_)) <;> (first | omega | (simp <;> omega)))) (hb1.mono (by first | omega | (simp <;> omega)))
  have hs1 : w.heap.size ≤ w1.heap.size := hB1.size
  have ht1 := hb1.size
  try simp only [World.size_alloc, World.size_setCell] at ht1
  have c1_0 : w1.cell? ⟨w.heap.size, 0, none⟩ = some (.int .i64 p.1) := (hb1.cell (p := ⟨w.heap.size, 0, none⟩) (by first | omega | (simp <;> omega))).trans (by first | (simp; done) | simp [go_sem])
  have c1_1 : w1.cell? ⟨w.heap.size, 1, none⟩ = some (.int .i64 p.2) := (hb1.cell (p := ⟨w.heap.size, 1, none⟩) (by first | omega | (simp <;> omega))).trans (by first | (simp; done) | simp [go_sem])
  have l1_0a : w.heap.size < w1.heap.size := World.block_lt_of_cell? w1 _ c1_0
  have l1_0b : w.heap.size < w1.heap.size + 1 := Nat.lt_succ_of_lt l1_0a
  have l1_0c : w.heap.size < w1.heap.size + 1 + 1 := Nat.lt_succ_of_lt l1_0b
  have l1_0d : w.heap.size < w1.heap.size + 1 + 1 + 1 := Nat.lt_succ_of_lt l1_0c
  clear hb1
  rw [HS.out]
  go_wp2_with fail
  go_ret
  exact ⟨rfl, (by first | exact hB1 | ((repeat' (first | exact hB1 | refine Below.setCell ?_ ?_ _ | refine Below.alloc ?_ ?_ _ | refine Below.drew ?_)) <;> (first | omega | (simp <;> omega))))⟩
set_option maxRecDepth 100000 in
set_option maxHeartbeats 4000000 in
theorem manyOf_2 (p : Pf) (A : Option Addr) (l : List Pf) (c : Nat) (n : Int) (hm : l.length ≤ 60) (hv : ∀ q ∈ l, chkP q = 0) (hs : stT l p = 2) (hn : n ≤ p.2) (hc : chkP p = 0) (w : World) (hl : Rd w w.heap.size A (cellsP l)) :
    Calls Tryd.prog 34 #[.agg #[.int .i64 p.1, .int .i64 p.2], .slice A l.length c, .int .i64 n] w fun e w' => e = .returned (.int .i64 0) ∧ Below w.heap.size w w' := by
  obtain ⟨hp0, hp1, hp2, hp3, _⟩ := chk_zero.1 (show chk p.1 p.2 = 0 from hc)
  have HV := Lib.hid hv
  have HC := Lib.hid hc
  clear hv hc
  have HS := Lib.hid (show (stT l p : Int) = 2 by rw [hs]; rfl)
  clear hs
  go_enter Tryd.func34, Tryd.ntmps34
  go_wp2_with fail
  refine (state_any p A l c HC.out hm HV.out _ ((hl.below (show Below w.heap.size w _ from (by first | exact Below.refl _ _ | ((repeat' (first | exact Below.refl _ _ | refine Below.setCell ?_ ?_ _ | refine Below.alloc ?_ ?_ _ | refine Below.drew ?_)) <;> (first | omega | (simp <;> omega)))))).more (show w.heap.size ≤ _ from by first | omega | (simp <;> omega)))).mono ?_
  rintro e w1 ⟨rfl, hb1⟩
  have hB1 : Below w.heap.size w w1 := Below.trans (by first | exact Below.refl _ _ | ((repeat' (first | exact Below.refl _ _ | refine Below.setCell ?_ ?_ _ | refine Below.alloc ?_ ?_ _ | refine Below.drew ?_)) <;> (first | omega | (simp <;> omega)))) (hb1.mono (by first | omega | (simp <;> omega)))
  have hs1 : w.heap.size ≤ w1.heap.size := hB1.size
  have ht1 := hb1.size
  try simp only [World.size_alloc, World.size_setCell] at ht1
  have c1_0 : w1.cell? ⟨w.heap.size, 0, none⟩ = some (.int .i64 p.1) := (hb1.cell (p := ⟨w.heap.size, 0, none⟩) (by first | omega | (simp <;> omega))).trans (by first | (simp; done) | simp [go_sem])
  have c1_1 : w1.cell? ⟨w.heap.size, 1, none⟩ = some (.int .i64 p.2) := (hb1.cell (p := ⟨w.heap.size, 1, none⟩) (by first | omega | (simp <;> omega))).trans (by first | (simp; done) | simp [go_sem])
  have l1_0a : w.heap.size < w1.heap.size := World.block_lt_of_cell? w1 _ c1_0
  have l1_0b : w.heap.size < w1.heap.size + 1 := Nat.lt_succ_of_lt l1_0a
  have l1_0c : w.heap.size < w1.heap.size + 1 + 1 := Nat.lt_succ_of_lt l1_0b
  have l1_0d : w.heap.size < w1.heap.size + 1 + 1 + 1 := Nat.lt_succ_of_lt l1_0c
  clear hb1
  rw [HS.out]
  go_wp2_with fail
  go_ret
  exact ⟨rfl, (by first | exact hB1 | ((repeat' (first | exact hB1 | refine Below.setCell ?_ ?_ _ | refine Below.alloc ?_ ?_ _ | refine Below.drew ?_)) <;> (first | omega | (simp <;> omega))))⟩
set_option maxRecDepth 100000 in
set_option maxHeartbeats 4000000 in
theorem manyOf_3 (p : Pf) (A : Option Addr) (l : List Pf) (c : Nat) (n : Int) (hm : l.length ≤ 60) (hv : ∀ q ∈ l, chkP q = 0) (hs : stT l p = 2) (hn : p.2 < n) (h32 : p.2 < 32) (a b : Nat) (ha : a ≤ 4294967296) (hb : b ≤ 4294967296) (ih0 : ∀ w, Rd w w.heap.size A (cellsP l) → Calls Tryd.prog 34 #[.agg #[.int .i64 p.1, .int .i64 (p.2 + 1)], .slice A l.length c, .int .i64 n] w fun e w' => e = .returned (.int .i64 (a : Int)) ∧ Below w.heap.size w w') (ih1 : ∀ w, Rd w w.heap.size A (cellsP l) → Calls Tryd.prog 34 #[.agg #[.int .i64 (p.1 + sz (p.2 + 1)), .int .i64 (p.2 + 1)], .slice A l.length c, .int .i64 n] w fun e w' => e = .returned (.int .i64 (b : Int)) ∧ Below w.heap.size w w') (hc : chkP p = 0) (w : World) (hl : Rd w w.heap.size A (cellsP l)) :
    Calls Tryd.prog 34 #[.agg #[.int .i64 p.1, .int .i64 p.2], .slice A l.length c, .int .i64 n] w fun e w' => e = .returned (.int .i64 ((a + b : Nat) : Int)) ∧ Below w.heap.size w w' := by
  obtain ⟨hp0, hp1, hp2, hp3, _⟩ := chk_zero.1 (show chk p.1 p.2 = 0 from hc)
  have HV := Lib.hid hv
  have HC := Lib.hid hc
  clear hv hc
  have HS := Lib.hid (show (stT l p : Int) = 2 by rw [hs]; rfl)
  clear hs
  have hlt' : decide (n ≤ p.2) = false := by simpa using (show ¬ n ≤ p.2 by omega)
  have hz0 := sz_pos (p.2 + 1)
  have hz1 := sz_le (p.2 + 1) (by omega)
  have IH0 := Lib.hid ih0
  clear ih0
  have IH1 := Lib.hid ih1
  clear ih1
  go_enter Tryd.func34, Tryd.ntmps34
  go_wp2_with fail
  refine (state_any p A l c HC.out hm HV.out _ ((hl.below (show Below w.heap.size w _ from (by first | exact Below.refl _ _ | ((repeat' (first | exact Below.refl _ _ | refine Below.setCell ?_ ?_ _ | refine Below.alloc ?_ ?_ _ | refine Below.drew ?_)) <;> (first | omega | (simp <;> omega)))))).more (show w.heap.size ≤ _ from by first | omega | (simp <;> omega)))).mono ?_
  rintro e w1 ⟨rfl, hb1⟩
  have hB1 : Below w.heap.size w w1 := Below.trans (by first | exact Below.refl _ _ | ((repeat' (first | exact Below.refl _ _ | refine Below.setCell ?_ ?_ _ | refine Below.alloc ?_ ?_ _ | refine Below.drew ?_)) <;> (first | omega | (simp <;> omega)))) (hb1.mono (by first | omega | (simp <;> omega)))
  have hs1 : w.heap.size ≤ w1.heap.size := hB1.size
  have ht1 := hb1.size
  try simp only [World.size_alloc, World.size_setCell] at ht1
  have c1_0 : w1.cell? ⟨w.heap.size, 0, none⟩ = some (.int .i64 p.1) := (hb1.cell (p := ⟨w.heap.size, 0, none⟩) (by first | omega | (simp <;> omega))).trans (by first | (simp; done) | simp [go_sem])
  have c1_1 : w1.cell? ⟨w.heap.size, 1, none⟩ = some (.int .i64 p.2) := (hb1.cell (p := ⟨w.heap.size, 1, none⟩) (by first | omega | (simp <;> omega))).trans (by first | (simp; done) | simp [go_sem])
  have l1_0a : w.heap.size < w1.heap.size := World.block_lt_of_cell? w1 _ c1_0
  have l1_0b : w.heap.size < w1.heap.size + 1 := Nat.lt_succ_of_lt l1_0a
  have l1_0c : w.heap.size < w1.heap.size + 1 + 1 := Nat.lt_succ_of_lt l1_0b
  have l1_0d : w.heap.size < w1.heap.size + 1 + 1 + 1 := Nat.lt_succ_of_lt l1_0c
  clear hb1
  rw [HS.out]
  go_wp2_with fail
  refine (IH0.out _ ((hl.below (show Below w.heap.size w _ from (by first | exact hB1 | ((repeat' (first | exact hB1 | refine Below.setCell ?_ ?_ _ | refine Below.alloc ?_ ?_ _ | refine Below.drew ?_)) <;> (first | omega | (simp <;> omega)))))).more (show w.heap.size ≤ _ from by first | omega | (simp <;> omega)))).mono ?_
  rintro e w2 ⟨rfl, hb2⟩
  have hB2 : Below w.heap.size w w2 := Below.trans (by first | exact hB1 | ((repeat' (first | exact hB1 | refine Below.setCell ?_ ?_ _ | refine Below.alloc ?_ ?_ _ | refine Below.drew ?_)) <;> (first | omega | (simp <;> omega)))) (hb2.mono (by first | omega | (simp <;> omega)))
  have hs2 : w.heap.size ≤ w2.heap.size := hB2.size
  have ht2 := hb2.size
  try simp only [World.size_alloc, World.size_setCell] at ht2
  have c2_0 : w2.cell? ⟨w.heap.size, 0, none⟩ = some (.int .i64 p.1) := (hb2.cell (p := ⟨w.heap.size, 0, none⟩) (by first | omega | (simp <;> omega))).trans (by first | exact c1_0 | simp [go_sem, c1_0, l1_0a, l1_0b, l1_0c, l1_0d])
  have c2_1 : w2.cell? ⟨w.heap.size, 1, none⟩ = some (.int .i64 p.2) := (hb2.cell (p := ⟨w.heap.size, 1, none⟩) (by first | omega | (simp <;> omega))).trans (by first | exact c1_1 | simp [go_sem, c1_1, l1_0a, l1_0b, l1_0c, l1_0d])
  have l2_0a : w.heap.size < w2.heap.size := World.block_lt_of_cell? w2 _ c2_0
  have l2_0b : w.heap.size < w2.heap.size + 1 := Nat.lt_succ_of_lt l2_0a
  have l2_0c : w.heap.size < w2.heap.size + 1 + 1 := Nat.lt_succ_of_lt l2_0b
  have l2_0d : w.heap.size < w2.heap.size + 1 + 1 + 1 := Nat.lt_succ_of_lt l2_0c
  clear c1_0 c1_1 l1_0a l1_0b l1_0c l1_0d hB1 hb2
  have hws : IntKind.i64.wrap ((a : Int) + (b : Int)) = (a : Int) + (b : Int) := IntWalk.i64_in _ (by omega)
  go_wp2_with fail
  refine wp_name ?_
  intro w3 hW3
  have hB3 : Below w.heap.size w w3 := by rw [hW3.out]; exact (by first | exact hB2 | ((repeat' (first | exact hB2 | refine Below.setCell ?_ ?_ _ | refine Below.alloc ?_ ?_ _ | refine Below.drew ?_)) <;> (first | omega | (simp <;> omega))))
  have hs3 : w.heap.size ≤ w3.heap.size := hB3.size
  have ht3 := congrArg (fun x : World => x.heap.size) hW3.out
  try simp only [World.size_alloc, World.size_setCell] at ht3
  have c3_0 : w3.cell? ⟨w.heap.size, 0, none⟩ = some (.int .i64 p.1) := by rw [hW3.out]; first | exact c2_0 | simp [go_sem, c2_0, l2_0a, l2_0b, l2_0c, l2_0d]
  have c3_1 : w3.cell? ⟨w.heap.size, 1, none⟩ = some (.int .i64 p.2) := by rw [hW3.out]; first | exact c2_1 | simp [go_sem, c2_1, l2_0a, l2_0b, l2_0c, l2_0d]
  have l3_0a : w.heap.size < w3.heap.size := World.block_lt_of_cell? w3 _ c3_0
  have l3_0b : w.heap.size < w3.heap.size + 1 := Nat.lt_succ_of_lt l3_0a
  have l3_0c : w.heap.size < w3.heap.size + 1 + 1 := Nat.lt_succ_of_lt l3_0b
  have l3_0d : w.heap.size < w3.heap.size + 1 + 1 + 1 := Nat.lt_succ_of_lt l3_0c
  have hu3 := Nat.le_of_eq ht3
  have hv3 := Nat.le_of_eq ht3.symm
  clear ht3 c2_0 c2_1 l2_0a l2_0b l2_0c l2_0d hB2 hW3
  have hrd : Rd w3 w3.heap.size A (cellsP l) := ((hl.below (show Below w.heap.size w _ from (by first | exact hB3 | ((repeat' (first | exact hB3 | refine Below.setCell ?_ ?_ _ | refine Below.alloc ?_ ?_ _ | refine Below.drew ?_)) <;> (first | omega | (simp <;> omega)))))).more (show w.heap.size ≤ _ from by first | omega | (simp <;> omega)))
  have KC := Lib.hid (fun x : BelW w3.heap.size w3 => Calls.bel_of (Nat.le_refl _) (IH1.out x.1 ((hrd.below x.2).more x.2.size)))
  clear hrd
  have kc3_0 : ∀ x : BelW w3.heap.size w3, x.1.cell? ⟨w.heap.size, 0, none⟩ = some (.int .i64 p.1) := BelW.cell c3_0 (World.block_lt_of_cell? w3 _ c3_0)
  have kc3_1 : ∀ x : BelW w3.heap.size w3, x.1.cell? ⟨w.heap.size, 1, none⟩ = some (.int .i64 p.2) := BelW.cell c3_1 (World.block_lt_of_cell? w3 _ c3_1)
  refine wp_region_bel w3.heap.size w3 (by kernel_rfl) (by kernel_rfl) (Below.refl _ _) ?_
  repeat (go_big_quiet_step ((first | (go_at_call 59; exact Calls.bel_of (Nat.le_refl _) ((size_any _ (by omega) (by omega) _).mono fun e w' h => ⟨h.1, h.2 ▸ Below.refl _ _⟩)) | (go_at_call 34; exact KC.out _))))
  refine wpQuiet_nil ?_
  intro w4 hb4
  clear kc3_0 kc3_1
  have hB4 : Below w.heap.size w w4 := Below.trans (by first | exact hB3 | ((repeat' (first | exact hB3 | refine Below.setCell ?_ ?_ _ | refine Below.alloc ?_ ?_ _ | refine Below.drew ?_)) <;> (first | omega | (simp <;> omega)))) (hb4.mono (by first | omega | (simp <;> omega)))
  have hs4 : w.heap.size ≤ w4.heap.size := hB4.size
  have ht4 := hb4.size
  try simp only [World.size_alloc, World.size_setCell] at ht4
  have c4_0 : w4.cell? ⟨w.heap.size, 0, none⟩ = some (.int .i64 p.1) := (hb4.cell (p := ⟨w.heap.size, 0, none⟩) (by first | omega | (simp <;> omega))).trans (by first | exact c3_0 | simp [go_sem, c3_0, l3_0a, l3_0b, l3_0c, l3_0d])
  have c4_1 : w4.cell? ⟨w.heap.size, 1, none⟩ = some (.int .i64 p.2) := (hb4.cell (p := ⟨w.heap.size, 1, none⟩) (by first | omega | (simp <;> omega))).trans (by first | exact c3_1 | simp [go_sem, c3_1, l3_0a, l3_0b, l3_0c, l3_0d])
  have l4_0a : w.heap.size < w4.heap.size := World.block_lt_of_cell? w4 _ c4_0
  have l4_0b : w.heap.size < w4.heap.size + 1 := Nat.lt_succ_of_lt l4_0a
  have l4_0c : w.heap.size < w4.heap.size + 1 + 1 := Nat.lt_succ_of_lt l4_0b
  have l4_0d : w.heap.size < w4.heap.size + 1 + 1 + 1 := Nat.lt_succ_of_lt l4_0c
  clear c3_0 c3_1 l3_0a l3_0b l3_0c l3_0d hB3 hb4
  go_wp2_with fail
  go_ret
  exact ⟨by simp, (by first | exact hB4 | ((repeat' (first | exact hB4 | refine Below.setCell ?_ ?_ _ | refine Below.alloc ?_ ?_ _ | refine Below.drew ?_)) <;> (first | omega | (simp <;> omega))))⟩
theorem manyOf_any (A : Option Addr) (l : List Pf) (c : Nat) (n : Int) (hm : l.length ≤ 60) (hv : ∀ q ∈ l, chkP q = 0) (hn : n ≤ 32) : ∀ (k : Nat) (p : Pf) (w : World), chkP p = 0 → p.2 + k = 32 → p.2 ≤ n → Rd w w.heap.size A (cellsP l) →
    Calls Tryd.prog 34 #[.agg #[.int .i64 p.1, .int .i64 p.2], .slice A l.length c, .int .i64 n] w fun e w' => e = .returned (.int .i64 (manyGo (stT l) n k p : Int)) ∧ Below w.heap.size w w' := by
  intro k
  induction k with
  | zero =>
    intro p w hp hk hpn hl
    unfold manyGo
    rcases stT_cases l p with ⟨h, _⟩ | ⟨h, _⟩ | ⟨h, _⟩
    · rw [if_pos h]; exact manyOf_0 p A l c n hm hv h hpn hn hp w hl
    · rw [if_neg (by omega)]; exact manyOf_1 p A l c n hm hv h hp w hl
    · rw [if_neg (by omega)]; exact manyOf_2 p A l c n hm hv h (by omega) hp w hl
  | succ k ih =>
    intro p w hp hk hpn hl
    unfold manyGo
    have hlt : p.2 < 32 := by omega
    obtain ⟨g1, g2, _⟩ := halves hp hlt
    rcases stT_cases l p with ⟨h, _⟩ | ⟨h, _⟩ | ⟨h, _⟩
    · rw [if_pos h]; exact manyOf_0 p A l c n hm hv h hpn hn hp w hl
    · rw [if_neg (by omega), if_pos (.inl h)]; exact manyOf_1 p A l c n hm hv h hp w hl
    · by_cases hnp : n ≤ p.2
      · rw [if_neg (by omega), if_pos (.inr hnp)]; exact manyOf_2 p A l c n hm hv h hnp hp w hl
      · rw [if_neg (by omega), if_neg (by omega)]
        have hp0 := (chk_zero.1 (show chk p.1 p.2 = 0 from hp)).1
        have hle : ∀ q : Pf, 0 ≤ q.2 → manyGo (stT l) n k q ≤ 4294967296 := fun q hq => Nat.le_trans (manyGo_le _ _ _ _) (show 2 ^ (n - q.2).toNat ≤ 2 ^ 32 from Nat.pow_le_pow_right (by decide) (by omega))
        exact manyOf_3 p A l c n hm hv h (by omega) hlt _ _ (hle _ (by show 0 ≤ p.2 + 1; omega)) (hle _ (by show 0 ≤ p.2 + 1; omega)) (fun w hw => ih (p.1, p.2 + 1) w g1 (by show p.2 + 1 + (k : Int) = 32; omega) (by show p.2 + 1 ≤ n; omega) hw) (fun w hw => ih (p.1 + sz (p.2 + 1), p.2 + 1) w g2 (by show p.2 + 1 + (k : Int) = 32; omega) (by show p.2 + 1 ≤ n; omega) hw) hp w hl
theorem manyRef (p : Pf) (A : Option Addr) (l : List Pf) (c : Nat) (n : Int) (hf : greatFault p l n = 0) (w : World) (hl : Rd w w.heap.size A (cellsP l)) :
    Calls Tryd.prog 34 #[.agg #[.int .i64 p.1, .int .i64 p.2], .slice A l.length c, .int .i64 n] w fun e w' => e = .returned (.int .i64 (manyL (greatL p l n) n : Int)) ∧ Below w.heap.size w w' := by
  obtain ⟨h0, hpn, hn⟩ := greatFault_zero.1 hf
  obtain ⟨h1, h2, h3⟩ := freeFault_zero.1 h0
  have hc := chk_zero.1 (show chk p.1 p.2 = 0 from h1)
  have hk : p.2 + ((32 - p.2).toNat : Int) = 32 := by omega
  rw [← great_halv n h0 hk, ← manyGo_eq (stT l) n hn _ p hk hpn]
  exact manyOf_any A l c n h2 h3 hn _ p w h1 hk hpn hl
end Go.Proofs.YtmfaknngophmhaaDoor
