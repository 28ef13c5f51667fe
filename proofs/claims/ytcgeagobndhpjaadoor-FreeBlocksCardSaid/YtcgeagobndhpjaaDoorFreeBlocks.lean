/- The law FreeBlocks: the walk of its own text, by the contracts of package free. Any prefix, any list. -/
import Derived.Test.YtcgeagobndhpjaaDoorFree
import Derived.Test.YtcgeagobndhpjaaDoorCoverFew
namespace Go.Proofs.YtcgeagobndhpjaaDoor
set_option linter.unusedVariables false
set_option linter.unusedSimpArgs false
open Go.RowKit

def FBmid (p : Pf) (A : Option Addr) (l : List Pf) (c : Nat) (w : World) (a' : Act) (w' : World) : Prop :=
  ∃ (U : Nat → Value) , a' = { tmps := #[.agg #[.int .i64 p.1, .int .i64 p.2], .slice A l.length c, .pointer (some ⟨w.heap.size, 0, none⟩), U 3, U 4, U 5, U 6, U 7, U 8, U 9, U 10, U 11, U 12, U 13, U 14, U 15, U 16, U 17, U 18, U 19, U 20, U 21, U 22, U 23, U 24, U 25, U 26, U 27, U 28, U 29, U 30, U 31, U 32, U 33, U 34, U 35, U 36, U 37, U 38, U 39, U 40, U 41, U 42, U 43, U 44, U 45, U 46, U 47, U 48, U 49, U 50, U 51, U 52, U 53, U 54, U 55, U 56, U 57, U 58, U 59, U 60, U 61, U 62, U 63, U 64, U 65, U 66, U 67, U 68, U 69, U 70, U 71, U 72, U 73, U 74, U 75, U 76, U 77, U 78, U 79, U 80, U 81, U 82, U 83, U 84, U 85, U 86, U 87, U 88, U 89, U 90, U 91, U 92, U 93, U 94, U 95, U 96, U 97, U 98, U 99, U 100, U 101, U 102, U 103, U 104, U 105, U 106, U 107, U 108, U 109, U 110, U 111, U 112, U 113, U 114, U 115, U 116, U 117, U 118, U 119, U 120, U 121, U 122, U 123, U 124, U 125, U 126, U 127, U 128, U 129, U 130, U 131, U 132, U 133, U 134, U 135, U 136, U 137, U 138, U 139, U 140, U 141, U 142, U 143, U 144, U 145, U 146, U 147, U 148, U 149, U 150, U 151, U 152, U 153, U 154, U 155, U 156, U 157, U 158, U 159, U 160, U 161, U 162, U 163, U 164, U 165, U 166], defers := [] } ∧ Below w.heap.size w w' ∧ w'.cell? ⟨w.heap.size, 0, none⟩ = some (.int .i64 p.1) ∧ w'.cell? ⟨w.heap.size, 1, none⟩ = some (.int .i64 p.2)
theorem FBmid.mk {p : Pf} {A : Option Addr} {l : List Pf} {c : Nat} {w : World} {T : Array Value} {w' : World}  (hT : T = #[.agg #[.int .i64 p.1, .int .i64 p.2], .slice A l.length c, .pointer (some ⟨w.heap.size, 0, none⟩), T.getD 3 undef, T.getD 4 undef, T.getD 5 undef, T.getD 6 undef, T.getD 7 undef, T.getD 8 undef, T.getD 9 undef, T.getD 10 undef, T.getD 11 undef, T.getD 12 undef, T.getD 13 undef, T.getD 14 undef, T.getD 15 undef, T.getD 16 undef, T.getD 17 undef, T.getD 18 undef, T.getD 19 undef, T.getD 20 undef, T.getD 21 undef, T.getD 22 undef, T.getD 23 undef, T.getD 24 undef, T.getD 25 undef, T.getD 26 undef, T.getD 27 undef, T.getD 28 undef, T.getD 29 undef, T.getD 30 undef, T.getD 31 undef, T.getD 32 undef, T.getD 33 undef, T.getD 34 undef, T.getD 35 undef, T.getD 36 undef, T.getD 37 undef, T.getD 38 undef, T.getD 39 undef, T.getD 40 undef, T.getD 41 undef, T.getD 42 undef, T.getD 43 undef, T.getD 44 undef, T.getD 45 undef, T.getD 46 undef, T.getD 47 undef, T.getD 48 undef, T.getD 49 undef, T.getD 50 undef, T.getD 51 undef, T.getD 52 undef, T.getD 53 undef, T.getD 54 undef, T.getD 55 undef, T.getD 56 undef, T.getD 57 undef, T.getD 58 undef, T.getD 59 undef, T.getD 60 undef, T.getD 61 undef, T.getD 62 undef, T.getD 63 undef, T.getD 64 undef, T.getD 65 undef, T.getD 66 undef, T.getD 67 undef, T.getD 68 undef, T.getD 69 undef, T.getD 70 undef, T.getD 71 undef, T.getD 72 undef, T.getD 73 undef, T.getD 74 undef, T.getD 75 undef, T.getD 76 undef, T.getD 77 undef, T.getD 78 undef, T.getD 79 undef, T.getD 80 undef, T.getD 81 undef, T.getD 82 undef, T.getD 83 undef, T.getD 84 undef, T.getD 85 undef, T.getD 86 undef, T.getD 87 undef, T.getD 88 undef, T.getD 89 undef, T.getD 90 undef, T.getD 91 undef, T.getD 92 undef, T.getD 93 undef, T.getD 94 undef, T.getD 95 undef, T.getD 96 undef, T.getD 97 undef, T.getD 98 undef, T.getD 99 undef, T.getD 100 undef, T.getD 101 undef, T.getD 102 undef, T.getD 103 undef, T.getD 104 undef, T.getD 105 undef, T.getD 106 undef, T.getD 107 undef, T.getD 108 undef, T.getD 109 undef, T.getD 110 undef, T.getD 111 undef, T.getD 112 undef, T.getD 113 undef, T.getD 114 undef, T.getD 115 undef, T.getD 116 undef, T.getD 117 undef, T.getD 118 undef, T.getD 119 undef, T.getD 120 undef, T.getD 121 undef, T.getD 122 undef, T.getD 123 undef, T.getD 124 undef, T.getD 125 undef, T.getD 126 undef, T.getD 127 undef, T.getD 128 undef, T.getD 129 undef, T.getD 130 undef, T.getD 131 undef, T.getD 132 undef, T.getD 133 undef, T.getD 134 undef, T.getD 135 undef, T.getD 136 undef, T.getD 137 undef, T.getD 138 undef, T.getD 139 undef, T.getD 140 undef, T.getD 141 undef, T.getD 142 undef, T.getD 143 undef, T.getD 144 undef, T.getD 145 undef, T.getD 146 undef, T.getD 147 undef, T.getD 148 undef, T.getD 149 undef, T.getD 150 undef, T.getD 151 undef, T.getD 152 undef, T.getD 153 undef, T.getD 154 undef, T.getD 155 undef, T.getD 156 undef, T.getD 157 undef, T.getD 158 undef, T.getD 159 undef, T.getD 160 undef, T.getD 161 undef, T.getD 162 undef, T.getD 163 undef, T.getD 164 undef, T.getD 165 undef, T.getD 166 undef]) (h : Below w.heap.size w w' ∧ w'.cell? ⟨w.heap.size, 0, none⟩ = some (.int .i64 p.1) ∧ w'.cell? ⟨w.heap.size, 1, none⟩ = some (.int .i64 p.2)) : FBmid p A l c w { tmps := T, defers := [] } w' :=
  ⟨fun i => T.getD i undef,  congrArg (fun t => ({ tmps := t, defers := [] } : Act)) hT, h⟩
def FBmid2 (p : Pf) (A : Option Addr) (l : List Pf) (c : Nat) (w : World) (a' : Act) (w' : World) : Prop :=
  ∃ (U : Nat → Value) (A1 : Option Addr) (c1 : Nat), a' = { tmps := #[.agg #[.int .i64 p.1, .int .i64 p.2], .slice A l.length c, .pointer (some ⟨w.heap.size, 0, none⟩), U 3, U 4, U 5, U 6, .slice A1 (blocksL p l).length c1, U 8, U 9, U 10, U 11, U 12, U 13, U 14, U 15, U 16, U 17, U 18, U 19, U 20, U 21, U 22, U 23, U 24, U 25, U 26, U 27, U 28, U 29, U 30, U 31, U 32, U 33, U 34, U 35, U 36, U 37, U 38, U 39, U 40, U 41, U 42, U 43, U 44, U 45, U 46, U 47, U 48, U 49, U 50, U 51, U 52, U 53, U 54, U 55, U 56, U 57, U 58, U 59, U 60, U 61, U 62, U 63, U 64, U 65, U 66, U 67, U 68, U 69, U 70, U 71, U 72, U 73, U 74, U 75, U 76, U 77, U 78, U 79, U 80, U 81, U 82, U 83, U 84, U 85, U 86, U 87, U 88, U 89, U 90, U 91, U 92, U 93, U 94, U 95, U 96, U 97, U 98, U 99, U 100, U 101, U 102, U 103, U 104, U 105, U 106, U 107, U 108, U 109, U 110, U 111, U 112, U 113, U 114, U 115, U 116, U 117, U 118, U 119, U 120, U 121, U 122, U 123, U 124, U 125, U 126, U 127, U 128, U 129, U 130, U 131, U 132, U 133, U 134, U 135, U 136, U 137, U 138, U 139, U 140, U 141, U 142, U 143, U 144, U 145, U 146, U 147, U 148, U 149, U 150, U 151, U 152, U 153, U 154, U 155, U 156, U 157, U 158, U 159, U 160, U 161, U 162, U 163, U 164, U 165, U 166], defers := [] } ∧ Below w.heap.size w w' ∧ w'.cell? ⟨w.heap.size, 0, none⟩ = some (.int .i64 p.1) ∧ w'.cell? ⟨w.heap.size, 1, none⟩ = some (.int .i64 p.2) ∧ Rd w' w'.heap.size A1 (cellsP (blocksL p l))
theorem FBmid2.mk {p : Pf} {A : Option Addr} {l : List Pf} {c : Nat} {w : World} {T : Array Value} {w' : World} (A1 : Option Addr) (c1 : Nat) (hT : T = #[.agg #[.int .i64 p.1, .int .i64 p.2], .slice A l.length c, .pointer (some ⟨w.heap.size, 0, none⟩), T.getD 3 undef, T.getD 4 undef, T.getD 5 undef, T.getD 6 undef, .slice A1 (blocksL p l).length c1, T.getD 8 undef, T.getD 9 undef, T.getD 10 undef, T.getD 11 undef, T.getD 12 undef, T.getD 13 undef, T.getD 14 undef, T.getD 15 undef, T.getD 16 undef, T.getD 17 undef, T.getD 18 undef, T.getD 19 undef, T.getD 20 undef, T.getD 21 undef, T.getD 22 undef, T.getD 23 undef, T.getD 24 undef, T.getD 25 undef, T.getD 26 undef, T.getD 27 undef, T.getD 28 undef, T.getD 29 undef, T.getD 30 undef, T.getD 31 undef, T.getD 32 undef, T.getD 33 undef, T.getD 34 undef, T.getD 35 undef, T.getD 36 undef, T.getD 37 undef, T.getD 38 undef, T.getD 39 undef, T.getD 40 undef, T.getD 41 undef, T.getD 42 undef, T.getD 43 undef, T.getD 44 undef, T.getD 45 undef, T.getD 46 undef, T.getD 47 undef, T.getD 48 undef, T.getD 49 undef, T.getD 50 undef, T.getD 51 undef, T.getD 52 undef, T.getD 53 undef, T.getD 54 undef, T.getD 55 undef, T.getD 56 undef, T.getD 57 undef, T.getD 58 undef, T.getD 59 undef, T.getD 60 undef, T.getD 61 undef, T.getD 62 undef, T.getD 63 undef, T.getD 64 undef, T.getD 65 undef, T.getD 66 undef, T.getD 67 undef, T.getD 68 undef, T.getD 69 undef, T.getD 70 undef, T.getD 71 undef, T.getD 72 undef, T.getD 73 undef, T.getD 74 undef, T.getD 75 undef, T.getD 76 undef, T.getD 77 undef, T.getD 78 undef, T.getD 79 undef, T.getD 80 undef, T.getD 81 undef, T.getD 82 undef, T.getD 83 undef, T.getD 84 undef, T.getD 85 undef, T.getD 86 undef, T.getD 87 undef, T.getD 88 undef, T.getD 89 undef, T.getD 90 undef, T.getD 91 undef, T.getD 92 undef, T.getD 93 undef, T.getD 94 undef, T.getD 95 undef, T.getD 96 undef, T.getD 97 undef, T.getD 98 undef, T.getD 99 undef, T.getD 100 undef, T.getD 101 undef, T.getD 102 undef, T.getD 103 undef, T.getD 104 undef, T.getD 105 undef, T.getD 106 undef, T.getD 107 undef, T.getD 108 undef, T.getD 109 undef, T.getD 110 undef, T.getD 111 undef, T.getD 112 undef, T.getD 113 undef, T.getD 114 undef, T.getD 115 undef, T.getD 116 undef, T.getD 117 undef, T.getD 118 undef, T.getD 119 undef, T.getD 120 undef, T.getD 121 undef, T.getD 122 undef, T.getD 123 undef, T.getD 124 undef, T.getD 125 undef, T.getD 126 undef, T.getD 127 undef, T.getD 128 undef, T.getD 129 undef, T.getD 130 undef, T.getD 131 undef, T.getD 132 undef, T.getD 133 undef, T.getD 134 undef, T.getD 135 undef, T.getD 136 undef, T.getD 137 undef, T.getD 138 undef, T.getD 139 undef, T.getD 140 undef, T.getD 141 undef, T.getD 142 undef, T.getD 143 undef, T.getD 144 undef, T.getD 145 undef, T.getD 146 undef, T.getD 147 undef, T.getD 148 undef, T.getD 149 undef, T.getD 150 undef, T.getD 151 undef, T.getD 152 undef, T.getD 153 undef, T.getD 154 undef, T.getD 155 undef, T.getD 156 undef, T.getD 157 undef, T.getD 158 undef, T.getD 159 undef, T.getD 160 undef, T.getD 161 undef, T.getD 162 undef, T.getD 163 undef, T.getD 164 undef, T.getD 165 undef, T.getD 166 undef]) (h : Below w.heap.size w w' ∧ w'.cell? ⟨w.heap.size, 0, none⟩ = some (.int .i64 p.1) ∧ w'.cell? ⟨w.heap.size, 1, none⟩ = some (.int .i64 p.2) ∧ Rd w' w'.heap.size A1 (cellsP (blocksL p l))) : FBmid2 p A l c w { tmps := T, defers := [] } w' :=
  ⟨fun i => T.getD i undef, A1, c1,  congrArg (fun t => ({ tmps := t, defers := [] } : Act)) hT, h⟩

theorem blocks3_ok : blocksFault (0, 30) [(0, 32)] = 0 := blocksFault_zero.2 ⟨freeFault_zero.2 ⟨by decide, by decide, by decide⟩, by rw [blocks3]; decide⟩
theorem within_yes (p q : Pf) (hp : chkP p = 0) (hq : chkP q = 0) (h : inQ p q = true) (w : World) :
    Calls Tryd.prog 28 #[.agg #[.int .i64 p.1, .int .i64 p.2], .agg #[.int .i64 q.1, .int .i64 q.2]] w fun e w' => e = .returned (.tuple #[.bool true, .nilIface]) ∧ Below w.heap.size w w' := (within_ok p q hp hq w).mono fun e w' x => by rw [h] at x; exact x
theorem within_no (p q : Pf) (hp : chkP p = 0) (hq : chkP q = 0) (h : inQ p q = false) (w : World) :
    Calls Tryd.prog 28 #[.agg #[.int .i64 p.1, .int .i64 p.2], .agg #[.int .i64 q.1, .int .i64 q.2]] w fun e w' => e = .returned (.tuple #[.bool false, .nilIface]) ∧ Below w.heap.size w w' := (within_ok p q hp hq w).mono fun e w' x => by rw [h] at x; exact x
set_option maxRecDepth 100000 in
set_option maxHeartbeats 8000000 in
theorem freeBlocks_1 (p : Pf) (A : Option Addr) (l : List Pf) (c : Nat) (hm : l.length ≤ maxLen) (w : World) (ht : TabVar w) (hl : Rd w w.heap.size A (cellsP l)) (R : Ending → World → Prop)
    (h : ∀ a' w', FBmid p A l c w a' w' → (tailN 3 (Tryd.f8.body.getD .skip)).wp Tryd.prog (bodyPost Tryd.prog Tryd.f8 R) a' w') :
    Calls Tryd.prog 8 #[.agg #[.int .i64 p.1, .int .i64 p.2], .slice A l.length c] w R := by
  have HT := Lib.hid ht
  clear ht
  go_enter Tryd.func8, Tryd.ntmps8
  refine wp_cut 3 (FBmid p A l c w) (by rfl) ?_ h
  clear h
  intro r HR
  dsimp only [putN]
  go_wp2_with fail
  have hone := rd_new (w.alloc (.cells #[.int .i64 p.1, .int .i64 p.2] 23)) [(0, 32)] #[.int .i64 0, .int .i64 32] 23 (w.heap.size + 1) (by simp) rfl
  refine (blocks_ok (0, 30) _ [(0, 32)] 1 (by decide) blocks3_ok _ (HT.out.belowB (show Below w.heap.size w _ from (by first | exact Below.refl _ _ | ((repeat' (first | exact Below.refl _ _ | refine Below.setCell ?_ ?_ _ | refine Below.alloc ?_ ?_ _ | refine Below.drew ?_)) <;> (first | omega | (simp <;> omega))))) HT.out.lt) hone).mono ?_
  rintro e w1 ⟨v1, rfl, hown1, hb1⟩
  have hB1 : Below w.heap.size w w1 := Below.trans (by first | exact Below.refl _ _ | ((repeat' (first | exact Below.refl _ _ | refine Below.setCell ?_ ?_ _ | refine Below.alloc ?_ ?_ _ | refine Below.drew ?_)) <;> (first | omega | (simp <;> omega)))) (hb1.mono (by first | omega | (simp <;> omega)))
  have hs1 : w.heap.size ≤ w1.heap.size := hB1.size
  have ht1 := hb1.size
  try simp only [World.size_alloc, World.size_setCell] at ht1
  have c1_0 : w1.cell? ⟨w.heap.size, 0, none⟩ = some (.int .i64 p.1) := (hb1.cell (p := ⟨w.heap.size, 0, none⟩) (by first | omega | (simp <;> omega))).trans (by first | (simp; done) | simp [go_sem])
  have c1_1 : w1.cell? ⟨w.heap.size, 1, none⟩ = some (.int .i64 p.2) := (hb1.cell (p := ⟨w.heap.size, 1, none⟩) (by first | omega | (simp <;> omega))).trans (by first | (simp; done) | simp [go_sem])
  have c1_2 : w1.cell? ⟨w.heap.size + 1, 0, none⟩ = some (.int .i64 0) := (hb1.cell (p := ⟨w.heap.size + 1, 0, none⟩) (by first | omega | (simp <;> omega))).trans (by first | (simp; done) | simp [go_sem])
  have c1_3 : w1.cell? ⟨w.heap.size + 1, 1, none⟩ = some (.int .i64 32) := (hb1.cell (p := ⟨w.heap.size + 1, 1, none⟩) (by first | omega | (simp <;> omega))).trans (by first | (simp; done) | simp [go_sem])
  have l1_0a : w.heap.size < w1.heap.size := World.block_lt_of_cell? w1 _ c1_0
  have l1_0b : w.heap.size < w1.heap.size + 1 := Nat.lt_succ_of_lt l1_0a
  have l1_0c : w.heap.size < w1.heap.size + 1 + 1 := Nat.lt_succ_of_lt l1_0b
  have l1_0d : w.heap.size < w1.heap.size + 1 + 1 + 1 := Nat.lt_succ_of_lt l1_0c
  have l1_1a : w.heap.size + 1 < w1.heap.size := World.block_lt_of_cell? w1 _ c1_2
  have l1_1b : w.heap.size + 1 < w1.heap.size + 1 := Nat.lt_succ_of_lt l1_1a
  have l1_1c : w.heap.size + 1 < w1.heap.size + 1 + 1 := Nat.lt_succ_of_lt l1_1b
  have l1_1d : w.heap.size + 1 < w1.heap.size + 1 + 1 + 1 := Nat.lt_succ_of_lt l1_1c
  clear hb1
  rw [blocks3] at hown1
  obtain ⟨A1, c1, rfl, hr1⟩ := hown1.form
  clear hown1
  obtain ⟨b1, off1, rfl, hbb1, d0, _⟩ := hr1.pair (k := 0) (by simp)
  obtain ⟨b1', off1', he1, _, d1, _⟩ := hr1.pair (k := 1) (by simp)
  obtain ⟨rfl, rfl⟩ : b1 = b1' ∧ off1 = off1' := by simpa using he1
  simp only [List.length_cons, List.length_nil, Nat.zero_add, Nat.reduceAdd, Nat.one_mul, Nat.zero_mul, Nat.add_zero, List.getElem_cons_succ, List.getElem_cons_zero] at d0 d1 ⊢
  clear hone hr1 he1
  clear c1_2 c1_3
  go_wp2_with fail
  refine wp_name ?_
  intro w2 hW2
  have hB2 : Below w.heap.size w w2 := by rw [hW2.out]; exact (by first | exact hB1 | ((repeat' (first | exact hB1 | refine Below.setCell ?_ ?_ _ | refine Below.alloc ?_ ?_ _ | refine Below.drew ?_)) <;> (first | omega | (simp <;> omega))))
  have hs2 : w.heap.size ≤ w2.heap.size := hB2.size
  have ht2 := congrArg (fun x : World => x.heap.size) hW2.out
  try simp only [World.size_alloc, World.size_setCell] at ht2
  have c2_0 : w2.cell? ⟨w.heap.size, 0, none⟩ = some (.int .i64 p.1) := by rw [hW2.out]; first | exact c1_0 | simp [go_sem, c1_0, l1_0a, l1_0b, l1_0c, l1_0d, l1_1a, l1_1b, l1_1c, l1_1d]
  have c2_1 : w2.cell? ⟨w.heap.size, 1, none⟩ = some (.int .i64 p.2) := by rw [hW2.out]; first | exact c1_1 | simp [go_sem, c1_1, l1_0a, l1_0b, l1_0c, l1_0d, l1_1a, l1_1b, l1_1c, l1_1d]
  have l2_0a : w.heap.size < w2.heap.size := World.block_lt_of_cell? w2 _ c2_0
  have l2_0b : w.heap.size < w2.heap.size + 1 := Nat.lt_succ_of_lt l2_0a
  have l2_0c : w.heap.size < w2.heap.size + 1 + 1 := Nat.lt_succ_of_lt l2_0b
  have l2_0d : w.heap.size < w2.heap.size + 1 + 1 + 1 := Nat.lt_succ_of_lt l2_0c
  have hu2 := Nat.le_of_eq ht2
  have hv2 := Nat.le_of_eq ht2.symm
  clear ht2 c1_0 c1_1 l1_0a l1_0b l1_0c l1_0d l1_1a l1_1b l1_1c l1_1d hB1 hW2
  exact HR.out _ _ (FBmid.mk (by kernel_rfl) ⟨hB2, c2_0, c2_1⟩)
set_option maxRecDepth 100000 in
set_option maxHeartbeats 8000000 in
theorem freeBlocks_2a (p : Pf) (A : Option Addr) (l : List Pf) (c : Nat) (hm : l.length ≤ maxLen) (w : World) (ht : TabVar w) (hl : Rd w w.heap.size A (cellsP l)) (hp : blocksFault p l ≠ 0) (s0 : Act) (w0 : World) (h0 : FBmid p A l c w s0 w0) :
    (tailN 3 (Tryd.f8.body.getD .skip)).wp Tryd.prog (bodyPost Tryd.prog Tryd.f8 fun e w' => e = .returned (.bool true) ∧ Below w.heap.size w w') s0 w0 := by
  have HT := Lib.hid ht
  clear ht
  have HP := Lib.hid hp
  clear hp
  obtain ⟨U, rfl, hB0, c0_0, c0_1⟩ := h0
  dsimp only [Tryd.f8, Option.getD, tailN, putN]
  have hs0 := hB0.size
  have l0_0a : w.heap.size < w0.heap.size := World.block_lt_of_cell? w0 _ c0_0
  have l0_0b : w.heap.size < w0.heap.size + 1 := Nat.lt_succ_of_lt l0_0a
  have l0_0c : w.heap.size < w0.heap.size + 1 + 1 := Nat.lt_succ_of_lt l0_0b
  have l0_0d : w.heap.size < w0.heap.size + 1 + 1 + 1 := Nat.lt_succ_of_lt l0_0c
  go_wp2_with fail
  refine (blocks_bad p A l c hm HP.out _ (HT.out.belowB (show Below w.heap.size w _ from (by first | exact hB0 | ((repeat' (first | exact hB0 | refine Below.setCell ?_ ?_ _ | refine Below.alloc ?_ ?_ _ | refine Below.drew ?_)) <;> (first | omega | (simp <;> omega))))) HT.out.lt) ((hl.below (show Below w.heap.size w _ from (by first | exact hB0 | ((repeat' (first | exact hB0 | refine Below.setCell ?_ ?_ _ | refine Below.alloc ?_ ?_ _ | refine Below.drew ?_)) <;> (first | omega | (simp <;> omega)))))).more (show w.heap.size ≤ _ from by first | omega | (simp <;> omega)))).mono ?_
  rintro e w1 ⟨rfl, hb1⟩
  have hB1 : Below w.heap.size w w1 := Below.trans (by first | exact hB0 | ((repeat' (first | exact hB0 | refine Below.setCell ?_ ?_ _ | refine Below.alloc ?_ ?_ _ | refine Below.drew ?_)) <;> (first | omega | (simp <;> omega)))) (hb1.mono (by first | omega | (simp <;> omega)))
  have hs1 : w.heap.size ≤ w1.heap.size := hB1.size
  have ht1 := hb1.size
  try simp only [World.size_alloc, World.size_setCell] at ht1
  have c1_0 : w1.cell? ⟨w.heap.size, 0, none⟩ = some (.int .i64 p.1) := (hb1.cell (p := ⟨w.heap.size, 0, none⟩) (by first | omega | (simp <;> omega))).trans (by first | exact c0_0 | simp [go_sem, c0_0, l0_0a, l0_0b, l0_0c, l0_0d])
  have c1_1 : w1.cell? ⟨w.heap.size, 1, none⟩ = some (.int .i64 p.2) := (hb1.cell (p := ⟨w.heap.size, 1, none⟩) (by first | omega | (simp <;> omega))).trans (by first | exact c0_1 | simp [go_sem, c0_1, l0_0a, l0_0b, l0_0c, l0_0d])
  have l1_0a : w.heap.size < w1.heap.size := World.block_lt_of_cell? w1 _ c1_0
  have l1_0b : w.heap.size < w1.heap.size + 1 := Nat.lt_succ_of_lt l1_0a
  have l1_0c : w.heap.size < w1.heap.size + 1 + 1 := Nat.lt_succ_of_lt l1_0b
  have l1_0d : w.heap.size < w1.heap.size + 1 + 1 + 1 := Nat.lt_succ_of_lt l1_0c
  clear c0_0 c0_1 l0_0a l0_0b l0_0c l0_0d hB0 hb1
  go_wp2
  go_ret
  exact ⟨rfl, (by first | exact hB1 | ((repeat' (first | exact hB1 | refine Below.setCell ?_ ?_ _ | refine Below.alloc ?_ ?_ _ | refine Below.drew ?_)) <;> (first | omega | (simp <;> omega))))⟩
set_option maxRecDepth 100000 in
set_option maxHeartbeats 8000000 in
theorem freeBlocks_2b (p : Pf) (A : Option Addr) (l : List Pf) (c : Nat) (hm : l.length ≤ maxLen) (w : World) (ht : TabVar w) (hl : Rd w w.heap.size A (cellsP l)) (hp : blocksFault p l = 0) (Q : Exit → Act → World → Prop) (s0 : Act) (w0 : World) (h0 : FBmid p A l c w s0 w0)
    (h : ∀ a' w', FBmid2 p A l c w a' w' → (tailN 4 (tailN 3 (Tryd.f8.body.getD .skip))).wp Tryd.prog Q a' w') :
    (tailN 3 (Tryd.f8.body.getD .skip)).wp Tryd.prog Q s0 w0 := by
  have HT := Lib.hid ht
  clear ht
  obtain ⟨f1, f2⟩ := blocksFault_zero.1 hp
  obtain ⟨q1, q2, q3⟩ := freeFault_zero.1 f1
  have HCP := Lib.hid q1
  have HCL := Lib.hid q3
  have HV0 := fun (x : Pf) (hx : x ∈ blocksL p l) => block_facts f1 hx
  have HR0 := blocks_rise f1
  obtain ⟨L, hL⟩ : ∃ L, L = blocksL p l := ⟨_, rfl⟩
  rw [← hL] at f2 HV0
  have HV : Hid (∀ q ∈ L, chkP q = 0 ∧ inQ q p = true ∧ ∀ x ∈ l, inQ q x = false ∧ inQ x q = false) := HV0
  have HRI : Hid (∀ k (h : k < L.length), lastL L k < L[k].1) := by subst hL; exact HR0
  clear HR0
  have HL := Lib.hid hL
  have HP := Lib.hid hp
  clear hp hL HV0 q1 q3 f1
  obtain ⟨U, rfl, hB0, c0_0, c0_1⟩ := h0
  refine wp_cut 4 (FBmid2 p A l c w) (by rfl) ?_ h
  clear h
  intro r HR
  dsimp only [Tryd.f8, Option.getD, tailN, putN]
  have hs0 := hB0.size
  have l0_0a : w.heap.size < w0.heap.size := World.block_lt_of_cell? w0 _ c0_0
  have l0_0b : w.heap.size < w0.heap.size + 1 := Nat.lt_succ_of_lt l0_0a
  have l0_0c : w.heap.size < w0.heap.size + 1 + 1 := Nat.lt_succ_of_lt l0_0b
  have l0_0d : w.heap.size < w0.heap.size + 1 + 1 + 1 := Nat.lt_succ_of_lt l0_0c
  go_wp2_with fail
  refine (blocks_ok p A l c hm HP.out _ (HT.out.belowB (show Below w.heap.size w _ from (by first | exact hB0 | ((repeat' (first | exact hB0 | refine Below.setCell ?_ ?_ _ | refine Below.alloc ?_ ?_ _ | refine Below.drew ?_)) <;> (first | omega | (simp <;> omega))))) HT.out.lt) ((hl.below (show Below w.heap.size w _ from (by first | exact hB0 | ((repeat' (first | exact hB0 | refine Below.setCell ?_ ?_ _ | refine Below.alloc ?_ ?_ _ | refine Below.drew ?_)) <;> (first | omega | (simp <;> omega)))))).more (show w.heap.size ≤ _ from by first | omega | (simp <;> omega)))).mono ?_
  rintro e w1 ⟨v1, rfl, hown1, hb1⟩
  have hB1 : Below w.heap.size w w1 := Below.trans (by first | exact hB0 | ((repeat' (first | exact hB0 | refine Below.setCell ?_ ?_ _ | refine Below.alloc ?_ ?_ _ | refine Below.drew ?_)) <;> (first | omega | (simp <;> omega)))) (hb1.mono (by first | omega | (simp <;> omega)))
  have hs1 : w.heap.size ≤ w1.heap.size := hB1.size
  have ht1 := hb1.size
  try simp only [World.size_alloc, World.size_setCell] at ht1
  have c1_0 : w1.cell? ⟨w.heap.size, 0, none⟩ = some (.int .i64 p.1) := (hb1.cell (p := ⟨w.heap.size, 0, none⟩) (by first | omega | (simp <;> omega))).trans (by first | exact c0_0 | simp [go_sem, c0_0, l0_0a, l0_0b, l0_0c, l0_0d])
  have c1_1 : w1.cell? ⟨w.heap.size, 1, none⟩ = some (.int .i64 p.2) := (hb1.cell (p := ⟨w.heap.size, 1, none⟩) (by first | omega | (simp <;> omega))).trans (by first | exact c0_1 | simp [go_sem, c0_1, l0_0a, l0_0b, l0_0c, l0_0d])
  have l1_0a : w.heap.size < w1.heap.size := World.block_lt_of_cell? w1 _ c1_0
  have l1_0b : w.heap.size < w1.heap.size + 1 := Nat.lt_succ_of_lt l1_0a
  have l1_0c : w.heap.size < w1.heap.size + 1 + 1 := Nat.lt_succ_of_lt l1_0b
  have l1_0d : w.heap.size < w1.heap.size + 1 + 1 + 1 := Nat.lt_succ_of_lt l1_0c
  clear c0_0 c0_1 l0_0a l0_0b l0_0c l0_0d hB0 hb1
  rw [← HL.out] at hown1
  obtain ⟨A1, c1, rfl, hr1⟩ := hown1.form
  clear hown1
  go_wp2
  go_loopw [9, 10, 11, 12, 13, 14, 15, 16, 17, 18, 19, 20] (fun t i _ _ _ _ _ _ _ _ _ _ wr => ∃ k : Nat, k ≤ L.length ∧ i = .int .i64 k ∧ t = .int .i64 (lastL L k) ∧ Below w1.heap.size w1 wr) (fun _ i _ _ _ _ _ _ _ _ _ _ _ => L.length - (intOf i).toNat)
  case atStart => exact ⟨0, Nat.zero_le _, rfl, rfl, Below.refl _ _⟩
  case round =>
    obtain ⟨k, hk, rfl, rfl, hb⟩ := hrel
    have hsr := hb.size
    by_cases hlt : k < L.length
    · obtain ⟨b, off, rfl, hbb, d0, d1⟩ := (hr1.below hb).pair hlt
      have HC := Lib.hid (HV.out L[k] (List.getElem_mem _)).1
      have HI := Lib.hid (HV.out L[k] (List.getElem_mem _)).2.1
      have HO := Lib.hid (HV.out L[k] (List.getElem_mem _)).2.2
      have hri := HRI.out k hlt
      have hdi : decide (L[k].1 ≤ lastL L k) = false := by simp; omega
      have HLS := Lib.hid (lastL_succ L k hlt)
      have x0 := (hb.cell (p := ⟨w.heap.size, 0, none⟩) (by simp; omega)).trans c1_0
      have x1 := (hb.cell (p := ⟨w.heap.size, 1, none⟩) (by simp; omega)).trans c1_1
      go_wp2_with fail
      refine (ends_ok L[k].1 L[k].2 HC.out _).mono ?_
      rintro e w3 ⟨rfl, hb3⟩
      have hs3 := hb3.size
      have hb4 := hb.trans (hb3.mono hsr)
      have y0 := (hb3.cell (p := ⟨w.heap.size, 0, none⟩) (by simp; omega)).trans x0
      have y1 := (hb3.cell (p := ⟨w.heap.size, 1, none⟩) (by simp; omega)).trans x1
      have e0 := (hb3.cell (p := ⟨b, off + k * 2, none⟩) (by simp; omega)).trans d0
      have e1 := (hb3.cell (p := ⟨b, off + k * 2 + 1, none⟩) (by simp; omega)).trans d1
      clear hb3 d0 d1 x0 x1
      have k0 : ∀ x : BelW w3.heap.size w3, x.1.cell? ⟨w.heap.size, 0, none⟩ = some (.int .i64 p.1) := BelW.cell y0 (World.block_lt_of_cell? w3 _ y0)
      have k1 : ∀ x : BelW w3.heap.size w3, x.1.cell? ⟨w.heap.size, 1, none⟩ = some (.int .i64 p.2) := BelW.cell y1 (World.block_lt_of_cell? w3 _ y1)
      have k2 : ∀ x : BelW w3.heap.size w3, x.1.cell? ⟨b, off + k * 2, none⟩ = some (.int .i64 L[k].1) := BelW.cell e0 (World.block_lt_of_cell? w3 _ e0)
      have k3 : ∀ x : BelW w3.heap.size w3, x.1.cell? ⟨b, off + k * 2 + 1, none⟩ = some (.int .i64 L[k].2) := BelW.cell e1 (World.block_lt_of_cell? w3 _ e1)
      go_wp2_with fail
      refine wp_region_bel w3.heap.size w3 (by kernel_rfl) (by kernel_rfl) (Below.refl _ _) ?_
      repeat (go_big_quiet_step ((go_at_call 28; exact Calls.bel_of (Nat.le_refl _) (within_yes L[k] p HC.out HCP.out HI.out _))))
      refine wpQuiet_nil ?_
      intro w5 hw5
      clear k0 k1 k2 k3
      clear y0 y1 e0 e1
      have hb6 := hb4.trans (hw5.mono (by omega))
      have hs6 := hb6.size
      have hbw6 := Below.trans hB1 (hb6.mono (by omega))
      clear hw5 hb4
      go_wp2
      go_loopw [16, 17, 18, 19, 20] (fun i _ _ _ _ wq => ∃ m : Nat, m ≤ l.length ∧ i = .int .i64 m ∧ Below w1.heap.size w1 wq) (fun i _ _ _ _ _ => l.length - (intOf i).toNat)
      case atStart => exact ⟨0, Nat.zero_le _, rfl, hb6⟩
      case round =>
        obtain ⟨m, hmm, rfl, hbq⟩ := hrel
        have hsq := hbq.size
        have hbwq := Below.trans hB1 (hbq.mono (by omega))
        by_cases hlm : m < l.length
        · obtain ⟨b2, off2, rfl, _, g0, g1⟩ := (hl.below hbwq).pair hlm
          obtain ⟨b3, off3, he3, _, f0, f1⟩ := (hr1.below hbq).pair hlt
          obtain ⟨rfl, rfl⟩ : b = b3 ∧ off = off3 := by simpa using he3
          clear he3
          have HCQ := Lib.hid (HCL.out l[m] (List.getElem_mem _))
          have HOQ := Lib.hid (HO.out l[m] (List.getElem_mem _))
          have k0 : ∀ x : BelW wr.heap.size wr, x.1.cell? ⟨b, off + k * 2, none⟩ = some (.int .i64 L[k].1) := BelW.cell f0 (World.block_lt_of_cell? wr _ f0)
          have k1 : ∀ x : BelW wr.heap.size wr, x.1.cell? ⟨b, off + k * 2 + 1, none⟩ = some (.int .i64 L[k].2) := BelW.cell f1 (World.block_lt_of_cell? wr _ f1)
          have k2 : ∀ x : BelW wr.heap.size wr, x.1.cell? ⟨b2, off2 + m * 2, none⟩ = some (.int .i64 l[m].1) := BelW.cell g0 (World.block_lt_of_cell? wr _ g0)
          have k3 : ∀ x : BelW wr.heap.size wr, x.1.cell? ⟨b2, off2 + m * 2 + 1, none⟩ = some (.int .i64 l[m].2) := BelW.cell g1 (World.block_lt_of_cell? wr _ g1)
          go_wp2_with fail
          refine wp_region_bel wr.heap.size wr (by kernel_rfl) (by kernel_rfl) (Below.refl _ _) ?_
          repeat (go_big_quiet_step ((go_at_call 28; exact Calls.bel_of (Nat.le_refl _) (within_no L[k] l[m] HC.out HCQ.out HOQ.out.1 _))))
          refine wpQuiet_nil ?_
          intro w7 hw7
          clear k0 k1 k2 k3
          have hs7 := hw7.size
          have F0 := (hw7.cell (p := ⟨b, off + k * 2, none⟩) (by simp; omega)).trans f0
          have F1 := (hw7.cell (p := ⟨b, off + k * 2 + 1, none⟩) (by simp; omega)).trans f1
          have G0 := (hw7.cell (p := ⟨b2, off2 + m * 2, none⟩) (World.block_lt_of_cell? _ _ g0)).trans g0
          have G1 := (hw7.cell (p := ⟨b2, off2 + m * 2 + 1, none⟩) (World.block_lt_of_cell? _ _ g1)).trans g1
          have hb8 := hbq.trans (hw7.mono hsq)
          clear hw7 f0 f1 g0 g1 hbq
          have k0 : ∀ x : BelW w7.heap.size w7, x.1.cell? ⟨b, off + k * 2, none⟩ = some (.int .i64 L[k].1) := BelW.cell F0 (World.block_lt_of_cell? w7 _ F0)
          have k1 : ∀ x : BelW w7.heap.size w7, x.1.cell? ⟨b, off + k * 2 + 1, none⟩ = some (.int .i64 L[k].2) := BelW.cell F1 (World.block_lt_of_cell? w7 _ F1)
          have k2 : ∀ x : BelW w7.heap.size w7, x.1.cell? ⟨b2, off2 + m * 2, none⟩ = some (.int .i64 l[m].1) := BelW.cell G0 (World.block_lt_of_cell? w7 _ G0)
          have k3 : ∀ x : BelW w7.heap.size w7, x.1.cell? ⟨b2, off2 + m * 2 + 1, none⟩ = some (.int .i64 l[m].2) := BelW.cell G1 (World.block_lt_of_cell? w7 _ G1)
          go_wp2_with fail
          refine wp_region_bel w7.heap.size w7 (by kernel_rfl) (by kernel_rfl) (Below.refl _ _) ?_
          repeat (go_big_quiet_step ((go_at_call 28; exact Calls.bel_of (Nat.le_refl _) (within_no l[m] L[k] HCQ.out HC.out HOQ.out.2 _))))
          refine wpQuiet_nil ?_
          intro w9 hw9
          clear k0 k1 k2 k3
          have hb10 := hb8.trans (hw9.mono (by omega))
          clear hw9 F0 F1 G0 G1 hb8
          go_wp2
          go_roundw
          case rel => exact ⟨m + 1, by omega, by go_num, hb10⟩
          case measure => simp [intOf]; omega
        · obtain rfl : m = l.length := by omega
          go_wp2
          go_roundw
          case rel => exact ⟨k + 1, by omega, by go_num, by rw [HLS.out]; rfl, hbq⟩
          case measure => simp [intOf]; omega
    · obtain rfl : k = L.length := by omega
      have x0 := (hb.cell (p := ⟨w.heap.size, 0, none⟩) (by simp; omega)).trans c1_0
      have x1 := (hb.cell (p := ⟨w.heap.size, 1, none⟩) (by simp; omega)).trans c1_1
      have hbf := Below.trans hB1 (hb.mono (by omega))
      have hrf := (hr1.below hb).more hsr
      rw [HL.out] at hrf
      clear hr1 HRI
      rw [HL.out]
      go_wp2_with fail
      exact HR.out _ _ (FBmid2.mk A1 c1 (by kernel_rfl) ⟨hbf, x0, x1, hrf⟩)
set_option maxRecDepth 100000 in
set_option maxHeartbeats 8000000 in
theorem freeBlocks_3 (p : Pf) (A : Option Addr) (l : List Pf) (c : Nat) (hm : l.length ≤ maxLen) (w : World) (ht : TabVar w) (hl : Rd w w.heap.size A (cellsP l)) (hp : blocksFault p l = 0) (s0 : Act) (w0 : World) (h0 : FBmid2 p A l c w s0 w0) :
    (tailN 4 (tailN 3 (Tryd.f8.body.getD .skip))).wp Tryd.prog (bodyPost Tryd.prog Tryd.f8 fun e w' => e = .returned (.bool true) ∧ Below w.heap.size w w') s0 w0 := by
  have HT := Lib.hid ht
  clear ht
  obtain ⟨f1, f2⟩ := blocksFault_zero.1 hp
  have hle := gaps_len f1
  have hLm : (blocksL p l).length ≤ maxLen := by unfold maxLen; omega
  have hGm : (gapsL p l).length ≤ maxLen := by unfold maxLen; omega
  have HE := Lib.hid (spans_blocks f1)
  have HS := Lib.hid (show spansPFault (blocksL p l) = 0 from spansPFault_zero.2 ⟨f2, fun q hq => (block_facts f1 hq).1, by rw [spans_blocks f1]; exact hle⟩)
  have HF := Lib.hid f1
  clear f1 hp
  obtain ⟨U, A1, c1, rfl, hB0, c0_0, c0_1, hr0⟩ := h0
  dsimp only [Tryd.f8, Option.getD, tailN, putN]
  have hs0 := hB0.size
  have l0_0a : w.heap.size < w0.heap.size := World.block_lt_of_cell? w0 _ c0_0
  have l0_0b : w.heap.size < w0.heap.size + 1 := Nat.lt_succ_of_lt l0_0a
  have l0_0c : w.heap.size < w0.heap.size + 1 + 1 := Nat.lt_succ_of_lt l0_0b
  have l0_0d : w.heap.size < w0.heap.size + 1 + 1 + 1 := Nat.lt_succ_of_lt l0_0c
  go_wp2_with fail
  refine (spansP_ok A1 (blocksL p l) c1 hLm HS.out _ ((hr0.below (show Below w0.heap.size w0 _ from (by first | exact Below.refl _ _ | ((repeat' (first | exact Below.refl _ _ | refine Below.setCell ?_ ?_ _ | refine Below.alloc ?_ ?_ _ | refine Below.drew ?_)) <;> (first | omega | (simp <;> omega)))))).more (show w0.heap.size ≤ _ from by first | omega | (simp <;> omega)))).mono ?_
  rintro e w1 ⟨v1, rfl, hown1, hb1⟩
  have hB1 : Below w.heap.size w w1 := Below.trans (by first | exact hB0 | ((repeat' (first | exact hB0 | refine Below.setCell ?_ ?_ _ | refine Below.alloc ?_ ?_ _ | refine Below.drew ?_)) <;> (first | omega | (simp <;> omega)))) (hb1.mono (by first | omega | (simp <;> omega)))
  have hs1 : w.heap.size ≤ w1.heap.size := hB1.size
  have ht1 := hb1.size
  try simp only [World.size_alloc, World.size_setCell] at ht1
  have c1_0 : w1.cell? ⟨w.heap.size, 0, none⟩ = some (.int .i64 p.1) := (hb1.cell (p := ⟨w.heap.size, 0, none⟩) (by first | omega | (simp <;> omega))).trans (by first | exact c0_0 | simp [go_sem, c0_0, l0_0a, l0_0b, l0_0c, l0_0d])
  have c1_1 : w1.cell? ⟨w.heap.size, 1, none⟩ = some (.int .i64 p.2) := (hb1.cell (p := ⟨w.heap.size, 1, none⟩) (by first | omega | (simp <;> omega))).trans (by first | exact c0_1 | simp [go_sem, c0_1, l0_0a, l0_0b, l0_0c, l0_0d])
  have l1_0a : w.heap.size < w1.heap.size := World.block_lt_of_cell? w1 _ c1_0
  have l1_0b : w.heap.size < w1.heap.size + 1 := Nat.lt_succ_of_lt l1_0a
  have l1_0c : w.heap.size < w1.heap.size + 1 + 1 := Nat.lt_succ_of_lt l1_0b
  have l1_0d : w.heap.size < w1.heap.size + 1 + 1 + 1 := Nat.lt_succ_of_lt l1_0c
  have hkw0_1 : Below w0.heap.size w0 w1 := Below.trans (by first | exact Below.refl _ _ | ((repeat' (first | exact Below.refl _ _ | refine Below.setCell ?_ ?_ _ | refine Below.alloc ?_ ?_ _ | refine Below.drew ?_)) <;> (first | omega | (simp <;> omega)))) (hb1.mono (by first | omega | (simp <;> omega)))
  clear c0_0 c0_1 l0_0a l0_0b l0_0c l0_0d hB0 hb1
  rw [HE.out] at hown1
  obtain ⟨B1, e1, rfl, hr1⟩ := hown1.form
  clear hown1
  go_wp2_with fail
  refine (gapsP_ok p A l c hm HF.out _ ((hl.below (show Below w.heap.size w _ from (by first | exact hB1 | ((repeat' (first | exact hB1 | refine Below.setCell ?_ ?_ _ | refine Below.alloc ?_ ?_ _ | refine Below.drew ?_)) <;> (first | omega | (simp <;> omega)))))).more (show w.heap.size ≤ _ from by first | omega | (simp <;> omega)))).mono ?_
  rintro e w2 ⟨v2, rfl, hown2, hb2⟩
  have hB2 : Below w.heap.size w w2 := Below.trans (by first | exact hB1 | ((repeat' (first | exact hB1 | refine Below.setCell ?_ ?_ _ | refine Below.alloc ?_ ?_ _ | refine Below.drew ?_)) <;> (first | omega | (simp <;> omega)))) (hb2.mono (by first | omega | (simp <;> omega)))
  have hs2 : w.heap.size ≤ w2.heap.size := hB2.size
  have ht2 := hb2.size
  try simp only [World.size_alloc, World.size_setCell] at ht2
  have c2_0 : w2.cell? ⟨w.heap.size, 0, none⟩ = some (.int .i64 p.1) := (hb2.cell (p := ⟨w.heap.size, 0, none⟩) (by first | omega | (simp <;> omega))).trans (by first | exact c1_0 | simp [go_sem, c1_0, l1_0a, l1_0b, l1_0c, l1_0d])
  have c2_1 : w2.cell? ⟨w.heap.size, 1, none⟩ = some (.int .i64 p.2) := (hb2.cell (p := ⟨w.heap.size, 1, none⟩) (by first | omega | (simp <;> omega))).trans (by first | exact c1_1 | simp [go_sem, c1_1, l1_0a, l1_0b, l1_0c, l1_0d])
  have l2_0a : w.heap.size < w2.heap.size := World.block_lt_of_cell? w2 _ c2_0
  have l2_0b : w.heap.size < w2.heap.size + 1 := Nat.lt_succ_of_lt l2_0a
  have l2_0c : w.heap.size < w2.heap.size + 1 + 1 := Nat.lt_succ_of_lt l2_0b
  have l2_0d : w.heap.size < w2.heap.size + 1 + 1 + 1 := Nat.lt_succ_of_lt l2_0c
  have hkw0_2 : Below w0.heap.size w0 w2 := Below.trans (by first | exact hkw0_1 | ((repeat' (first | exact hkw0_1 | refine Below.setCell ?_ ?_ _ | refine Below.alloc ?_ ?_ _ | refine Below.drew ?_)) <;> (first | omega | (simp <;> omega)))) (hb2.mono (by first | omega | (simp <;> omega)))
  have hkw1_2 : Below w1.heap.size w1 w2 := Below.trans (by first | exact Below.refl _ _ | ((repeat' (first | exact Below.refl _ _ | refine Below.setCell ?_ ?_ _ | refine Below.alloc ?_ ?_ _ | refine Below.drew ?_)) <;> (first | omega | (simp <;> omega)))) (hb2.mono (by first | omega | (simp <;> omega)))
  clear c1_0 c1_1 l1_0a l1_0b l1_0c l1_0d hkw0_1 hB1 hb2
  obtain ⟨B2, e2, rfl, hr2⟩ := hown2.form
  clear hown2
  go_wp2_with fail
  refine (spans_same B1 B2 (gapsL p l) (gapsL p l) (gapsL p l).length (gapsL p l).length e1 e2 rfl rfl hGm rfl _ ((hr1.below (show Below w1.heap.size w1 _ from (by first | exact hkw1_2 | ((repeat' (first | exact hkw1_2 | refine Below.setCell ?_ ?_ _ | refine Below.alloc ?_ ?_ _ | refine Below.drew ?_)) <;> (first | omega | (simp <;> omega)))))).more (show w1.heap.size ≤ _ from by first | omega | (simp <;> omega))) ((hr2.below (show Below w2.heap.size w2 _ from (by first | exact Below.refl _ _ | ((repeat' (first | exact Below.refl _ _ | refine Below.setCell ?_ ?_ _ | refine Below.alloc ?_ ?_ _ | refine Below.drew ?_)) <;> (first | omega | (simp <;> omega)))))).more (show w2.heap.size ≤ _ from by first | omega | (simp <;> omega)))).mono ?_
  rintro e w3 ⟨rfl, hb3⟩
  have hB3 : Below w.heap.size w w3 := Below.trans (by first | exact hB2 | ((repeat' (first | exact hB2 | refine Below.setCell ?_ ?_ _ | refine Below.alloc ?_ ?_ _ | refine Below.drew ?_)) <;> (first | omega | (simp <;> omega)))) (hb3.mono (by first | omega | (simp <;> omega)))
  have hs3 : w.heap.size ≤ w3.heap.size := hB3.size
  have ht3 := hb3.size
  try simp only [World.size_alloc, World.size_setCell] at ht3
  have c3_0 : w3.cell? ⟨w.heap.size, 0, none⟩ = some (.int .i64 p.1) := (hb3.cell (p := ⟨w.heap.size, 0, none⟩) (by first | omega | (simp <;> omega))).trans (by first | exact c2_0 | simp [go_sem, c2_0, l2_0a, l2_0b, l2_0c, l2_0d])
  have c3_1 : w3.cell? ⟨w.heap.size, 1, none⟩ = some (.int .i64 p.2) := (hb3.cell (p := ⟨w.heap.size, 1, none⟩) (by first | omega | (simp <;> omega))).trans (by first | exact c2_1 | simp [go_sem, c2_1, l2_0a, l2_0b, l2_0c, l2_0d])
  have l3_0a : w.heap.size < w3.heap.size := World.block_lt_of_cell? w3 _ c3_0
  have l3_0b : w.heap.size < w3.heap.size + 1 := Nat.lt_succ_of_lt l3_0a
  have l3_0c : w.heap.size < w3.heap.size + 1 + 1 := Nat.lt_succ_of_lt l3_0b
  have l3_0d : w.heap.size < w3.heap.size + 1 + 1 + 1 := Nat.lt_succ_of_lt l3_0c
  have hkw0_3 : Below w0.heap.size w0 w3 := Below.trans (by first | exact hkw0_2 | ((repeat' (first | exact hkw0_2 | refine Below.setCell ?_ ?_ _ | refine Below.alloc ?_ ?_ _ | refine Below.drew ?_)) <;> (first | omega | (simp <;> omega)))) (hb3.mono (by first | omega | (simp <;> omega)))
  have hkw1_3 : Below w1.heap.size w1 w3 := Below.trans (by first | exact hkw1_2 | ((repeat' (first | exact hkw1_2 | refine Below.setCell ?_ ?_ _ | refine Below.alloc ?_ ?_ _ | refine Below.drew ?_)) <;> (first | omega | (simp <;> omega)))) (hb3.mono (by first | omega | (simp <;> omega)))
  have hkw2_3 : Below w2.heap.size w2 w3 := Below.trans (by first | exact Below.refl _ _ | ((repeat' (first | exact Below.refl _ _ | refine Below.setCell ?_ ?_ _ | refine Below.alloc ?_ ?_ _ | refine Below.drew ?_)) <;> (first | omega | (simp <;> omega)))) (hb3.mono (by first | omega | (simp <;> omega)))
  clear c2_0 c2_1 l2_0a l2_0b l2_0c l2_0d hkw0_2 hkw1_2 hB2 hb3
  go_wp2
  go_ret
  exact ⟨rfl, (by first | exact hB3 | ((repeat' (first | exact hB3 | refine Below.setCell ?_ ?_ _ | refine Below.alloc ?_ ?_ _ | refine Below.drew ?_)) <;> (first | omega | (simp <;> omega))))⟩

theorem freeBlocks_walk (x y : Int) (A : Option Addr) (l : List Pf) (c : Nat) (hm : l.length ≤ maxLen) (w : World) (ht : TabVar w) (hl : Rd w w.heap.size A (cellsP l)) :
    Calls Tryd.prog 8 #[.agg #[.int .i64 x, .int .i64 y], .slice A l.length c] w fun e w' => e = .returned (.bool true) ∧ Below w.heap.size w w' := by
  refine freeBlocks_1 (x, y) A l c hm w ht hl _ fun s1 w1 h1 => ?_
  by_cases hs : blocksFault (x, y) l = 0
  · exact freeBlocks_2b (x, y) A l c hm w ht hl hs _ s1 w1 h1 fun s2 w2 h2 => freeBlocks_3 (x, y) A l c hm w ht hl hs s2 w2 h2
  · exact freeBlocks_2a (x, y) A l c hm w ht hl hs s1 w1 h1
end Go.Proofs.YtcgeagobndhpjaaDoor
