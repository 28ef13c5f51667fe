/- The law TreeBack: the walk of its own text, by the contracts of package tree. Any list, any prefix, any number. -/
import Derived.Test.YtcgeagobndhpjaaDoorTreeFind
import Derived.Test.YtcgeagobndhpjaaDoorLaw
namespace Go.Proofs.YtcgeagobndhpjaaDoor
set_option linter.unusedVariables false
set_option linter.unusedSimpArgs false
open Go.RowKit

def TBmid (A : Option Addr) (l : List Pf) (c : Nat) (p : Pf) (a : Int) (w : World) (a' : Act) (w' : World) : Prop :=
  ∃ (U : Nat → Value) , a' = { tmps := #[.slice A l.length c, .agg #[.int .i64 p.1, .int .i64 p.2], .int .i64 a, U 3, .pointer (some ⟨w.heap.size, 0, none⟩), U 5, .bool false, U 7, U 8, U 9, U 10, U 11, U 12, U 13, U 14, U 15, U 16, U 17, U 18, U 19, U 20, U 21, U 22, U 23, U 24, U 25, U 26, U 27, U 28, U 29, U 30, U 31, U 32, U 33, U 34, U 35, U 36, U 37, U 38, U 39, U 40, U 41, U 42, U 43, U 44, U 45, U 46, U 47, U 48, U 49, U 50, U 51, U 52, U 53, U 54, U 55, U 56, U 57, U 58, U 59, U 60, U 61, U 62, U 63, U 64, U 65, U 66, U 67, U 68, U 69, U 70, U 71, U 72, U 73, U 74, U 75, U 76, U 77, U 78, U 79, U 80, U 81, U 82, U 83, U 84, U 85, U 86, U 87, U 88, U 89, U 90, U 91, U 92, U 93, U 94, U 95, U 96, U 97, U 98, U 99, U 100, U 101, U 102, U 103, U 104, U 105, U 106, U 107, U 108, U 109, U 110, U 111, U 112, U 113, U 114, U 115, U 116, U 117, U 118, U 119, U 120, U 121, U 122, U 123, U 124, U 125, U 126, U 127, U 128, U 129, U 130, U 131, U 132, U 133, U 134, U 135, U 136, U 137, U 138, U 139, U 140, U 141, U 142, U 143, U 144, U 145, U 146, U 147, U 148, U 149, U 150, U 151, U 152, U 153, U 154, U 155, U 156, U 157, U 158, U 159, U 160, U 161, U 162, U 163, U 164, U 165, U 166, U 167, U 168, U 169, U 170, U 171, U 172, U 173, U 174, U 175, U 176, U 177, U 178, U 179, U 180, U 181, U 182, U 183], defers := [] } ∧ Below w.heap.size w w' ∧ w'.cell? ⟨w.heap.size, 0, none⟩ = some (.int .i64 p.1) ∧ w'.cell? ⟨w.heap.size, 1, none⟩ = some (.int .i64 p.2)
theorem TBmid.mk {A : Option Addr} {l : List Pf} {c : Nat} {p : Pf} {a : Int} {w : World} {T : Array Value} {w' : World}  (hT : T = #[.slice A l.length c, .agg #[.int .i64 p.1, .int .i64 p.2], .int .i64 a, T.getD 3 undef, .pointer (some ⟨w.heap.size, 0, none⟩), T.getD 5 undef, .bool false, T.getD 7 undef, T.getD 8 undef, T.getD 9 undef, T.getD 10 undef, T.getD 11 undef, T.getD 12 undef, T.getD 13 undef, T.getD 14 undef, T.getD 15 undef, T.getD 16 undef, T.getD 17 undef, T.getD 18 undef, T.getD 19 undef, T.getD 20 undef, T.getD 21 undef, T.getD 22 undef, T.getD 23 undef, T.getD 24 undef, T.getD 25 undef, T.getD 26 undef, T.getD 27 undef, T.getD 28 undef, T.getD 29 undef, T.getD 30 undef, T.getD 31 undef, T.getD 32 undef, T.getD 33 undef, T.getD 34 undef, T.getD 35 undef, T.getD 36 undef, T.getD 37 undef, T.getD 38 undef, T.getD 39 undef, T.getD 40 undef, T.getD 41 undef, T.getD 42 undef, T.getD 43 undef, T.getD 44 undef, T.getD 45 undef, T.getD 46 undef, T.getD 47 undef, T.getD 48 undef, T.getD 49 undef, T.getD 50 undef, T.getD 51 undef, T.getD 52 undef, T.getD 53 undef, T.getD 54 undef, T.getD 55 undef, T.getD 56 undef, T.getD 57 undef, T.getD 58 undef, T.getD 59 undef, T.getD 60 undef, T.getD 61 undef, T.getD 62 undef, T.getD 63 undef, T.getD 64 undef, T.getD 65 undef, T.getD 66 undef, T.getD 67 undef, T.getD 68 undef, T.getD 69 undef, T.getD 70 undef, T.getD 71 undef, T.getD 72 undef, T.getD 73 undef, T.getD 74 undef, T.getD 75 undef, T.getD 76 undef, T.getD 77 undef, T.getD 78 undef, T.getD 79 undef, T.getD 80 undef, T.getD 81 undef, T.getD 82 undef, T.getD 83 undef, T.getD 84 undef, T.getD 85 undef, T.getD 86 undef, T.getD 87 undef, T.getD 88 undef, T.getD 89 undef, T.getD 90 undef, T.getD 91 undef, T.getD 92 undef, T.getD 93 undef, T.getD 94 undef, T.getD 95 undef, T.getD 96 undef, T.getD 97 undef, T.getD 98 undef, T.getD 99 undef, T.getD 100 undef, T.getD 101 undef, T.getD 102 undef, T.getD 103 undef, T.getD 104 undef, T.getD 105 undef, T.getD 106 undef, T.getD 107 undef, T.getD 108 undef, T.getD 109 undef, T.getD 110 undef, T.getD 111 undef, T.getD 112 undef, T.getD 113 undef, T.getD 114 undef, T.getD 115 undef, T.getD 116 undef, T.getD 117 undef, T.getD 118 undef, T.getD 119 undef, T.getD 120 undef, T.getD 121 undef, T.getD 122 undef, T.getD 123 undef, T.getD 124 undef, T.getD 125 undef, T.getD 126 undef, T.getD 127 undef, T.getD 128 undef, T.getD 129 undef, T.getD 130 undef, T.getD 131 undef, T.getD 132 undef, T.getD 133 undef, T.getD 134 undef, T.getD 135 undef, T.getD 136 undef, T.getD 137 undef, T.getD 138 undef, T.getD 139 undef, T.getD 140 undef, T.getD 141 undef, T.getD 142 undef, T.getD 143 undef, T.getD 144 undef, T.getD 145 undef, T.getD 146 undef, T.getD 147 undef, T.getD 148 undef, T.getD 149 undef, T.getD 150 undef, T.getD 151 undef, T.getD 152 undef, T.getD 153 undef, T.getD 154 undef, T.getD 155 undef, T.getD 156 undef, T.getD 157 undef, T.getD 158 undef, T.getD 159 undef, T.getD 160 undef, T.getD 161 undef, T.getD 162 undef, T.getD 163 undef, T.getD 164 undef, T.getD 165 undef, T.getD 166 undef, T.getD 167 undef, T.getD 168 undef, T.getD 169 undef, T.getD 170 undef, T.getD 171 undef, T.getD 172 undef, T.getD 173 undef, T.getD 174 undef, T.getD 175 undef, T.getD 176 undef, T.getD 177 undef, T.getD 178 undef, T.getD 179 undef, T.getD 180 undef, T.getD 181 undef, T.getD 182 undef, T.getD 183 undef]) (h : Below w.heap.size w w' ∧ w'.cell? ⟨w.heap.size, 0, none⟩ = some (.int .i64 p.1) ∧ w'.cell? ⟨w.heap.size, 1, none⟩ = some (.int .i64 p.2)) : TBmid A l c p a w { tmps := T, defers := [] } w' :=
  ⟨fun i => T.getD i undef,  congrArg (fun t => ({ tmps := t, defers := [] } : Act)) hT, h⟩
set_option maxRecDepth 100000 in
set_option maxHeartbeats 8000000 in
theorem treeBack_1 (A : Option Addr) (l : List Pf) (c : Nat) (p : Pf) (a : Int) (hm : l.length ≤ maxLen) (w : World) (hg : ErrVar w) (hl : Rd w w.heap.size A (cellsP l)) (R : Ending → World → Prop)
    (h : ∀ a' w', TBmid A l c p a w a' w' → (tailN 3 (Tryd.f6.body.getD .skip)).wp Tryd.prog (bodyPost Tryd.prog Tryd.f6 R) a' w') :
    Calls Tryd.prog 6 #[.slice A l.length c, .agg #[.int .i64 p.1, .int .i64 p.2], .int .i64 a] w R := by
  have HG := Lib.hid hg
  clear hg
  go_enter Tryd.func6, Tryd.ntmps6
  refine wp_cut 3 (TBmid A l c p a w) (by rfl) ?_ h
  clear h
  intro r HR
  dsimp only [putN]
  go_wp2_with fail
  have hone := rd_new (w.alloc (.cells #[.int .i64 p.1, .int .i64 p.2] 23)) [(0, 8)] #[.int .i64 0, .int .i64 8] 23 (w.heap.size + 1) (by simp) rfl
  refine (put_ok _ [(0, 8)] 1 (0, 16) (by decide) _ hone).mono ?_
  rintro e w1 ⟨v1, rfl, hown1, hb1⟩
  have hB1 : Below w.heap.size w w1 := Below.trans (by first | exact Below.refl _ _ | ((repeat' (first | exact Below.refl _ _ | refine Below.setCell ?_ ?_ _ | refine Below.alloc ?_ ?_ _ | refine Below.drew ?_)) <;> (first | omega | (simp <;> omega)))) (hb1.mono (by first | omega | (simp <;> omega)))
  have hs1 : w.heap.size ≤ w1.heap.size := hB1.size
  have ht1 := hb1.size
  try simp only [World.size_alloc, World.size_setCell] at ht1
  have c1_0 : w1.cell? ⟨w.heap.size, 0, none⟩ = some (.int .i64 p.1) := (hb1.cell (p := ⟨w.heap.size, 0, none⟩) (by first | omega | (simp <;> omega))).trans (by first | (simp; done) | simp [go_sem])
  have c1_1 : w1.cell? ⟨w.heap.size, 1, none⟩ = some (.int .i64 p.2) := (hb1.cell (p := ⟨w.heap.size, 1, none⟩) (by first | omega | (simp <;> omega))).trans (by first | (simp; done) | simp [go_sem])
  have c1_2 : w1.cell? ⟨w.heap.size + 1, 0, none⟩ = some (.int .i64 0) := (hb1.cell (p := ⟨w.heap.size + 1, 0, none⟩) (by first | omega | (simp <;> omega))).trans (by first | (simp; done) | simp [go_sem])
  have c1_3 : w1.cell? ⟨w.heap.size + 1, 1, none⟩ = some (.int .i64 8) := (hb1.cell (p := ⟨w.heap.size + 1, 1, none⟩) (by first | omega | (simp <;> omega))).trans (by first | (simp; done) | simp [go_sem])
  have l1_0a : w.heap.size < w1.heap.size := World.block_lt_of_cell? w1 _ c1_0
  have l1_0b : w.heap.size < w1.heap.size + 1 := Nat.lt_succ_of_lt l1_0a
  have l1_0c : w.heap.size < w1.heap.size + 1 + 1 := Nat.lt_succ_of_lt l1_0b
  have l1_0d : w.heap.size < w1.heap.size + 1 + 1 + 1 := Nat.lt_succ_of_lt l1_0c
  have l1_1a : w.heap.size + 1 < w1.heap.size := World.block_lt_of_cell? w1 _ c1_2
  have l1_1b : w.heap.size + 1 < w1.heap.size + 1 := Nat.lt_succ_of_lt l1_1a
  have l1_1c : w.heap.size + 1 < w1.heap.size + 1 + 1 := Nat.lt_succ_of_lt l1_1b
  have l1_1d : w.heap.size + 1 < w1.heap.size + 1 + 1 + 1 := Nat.lt_succ_of_lt l1_1c
  clear hb1
  rw [show putL [(0, 8)] (0, 16) = [(0, 8), (0, 16)] from by decide] at hown1
  obtain ⟨A1, c1, rfl, hr1⟩ := hown1.form
  obtain ⟨b1, off1, rfl, hbb1, d0, d1⟩ := hr1.pair (k := 1) (by simp)
  simp only [List.length_cons, List.length_nil, Nat.zero_add, Nat.reduceAdd, Nat.one_mul, List.getElem_cons_succ, List.getElem_cons_zero] at d0 d1 ⊢
  clear hone hown1 hr1
  clear c1_2 c1_3
  go_wp2_with fail
  refine wp_name ?_
  intro w2 hW2
  have hB2 : Below w.heap.size w w2 := by rw [hW2.out]; exact (by first | exact hB1 | ((repeat' (first | exact hB1 | refine Below.setCell ?_ ?_ _ | refine Below.alloc ?_ ?_ _ | refine Below.drew ?_)) <;> (first | omega | (simp <;> omega))))
  have hs2 : w.heap.size ≤ w2.heap.size := hB2.size
  have ht2 := congrArg (fun x : World => x.heap.size) hW2.out
  try simp only [World.size_alloc, World.size_setCell] at ht2
  have c2_0 : w2.cell? ⟨w.heap.size, 0, none⟩ = some (.int .i64 p.1) := by rw [hW2.out]; first | exact c1_0 | simp [go_sem, c1_0, l1_0a, l1_0b, l1_0c, l1_0d, l1_1a, l1_1b, l1_1c, l1_1d]
  have c2_1 : w2.cell? ⟨w.heap.size, 1, none⟩ = some (.int .i64 p.2) := by rw [hW2.out]; first | exact c1_1 | simp [go_sem, c1_1, l1_0a, l1_0b, l1_0c, l1_0d, l1_1a, l1_1b, l1_1c, l1_1d]
  have l2_0a : w.heap.size < w2.heap.size := World.block_lt_of_cell? w2 _ c2_0
  have l2_0b : w.heap.size < w2.heap.size + 1 := Nat.lt_succ_of_lt l2_0a
  have l2_0c : w.heap.size < w2.heap.size + 1 + 1 := Nat.lt_succ_of_lt l2_0b
  have l2_0d : w.heap.size < w2.heap.size + 1 + 1 + 1 := Nat.lt_succ_of_lt l2_0c
  have hu2 := Nat.le_of_eq ht2
  have hv2 := Nat.le_of_eq ht2.symm
  clear ht2 c1_0 c1_1 l1_0a l1_0b l1_0c l1_0d l1_1a l1_1b l1_1c l1_1d hB1 hW2
  exact HR.out _ _ (TBmid.mk (by kernel_rfl) ⟨hB2, c2_0, c2_1⟩)
set_option maxRecDepth 100000 in
set_option maxHeartbeats 8000000 in
theorem treeBack_2a (A : Option Addr) (l : List Pf) (c : Nat) (p : Pf) (a : Int) (hm : l.length ≤ maxLen) (w : World) (hg : ErrVar w) (hl : Rd w w.heap.size A (cellsP l)) (hp : putFault l p ≠ 0) (Q : Exit → Act → World → Prop) (s0 : Act) (w0 : World) (h0 : TBmid A l c p a w s0 w0)
    (h : ∀ a' w', TBmid A l c p a w a' w' → (tailN 2 (tailN 3 (Tryd.f6.body.getD .skip))).wp Tryd.prog Q a' w') :
    (tailN 3 (Tryd.f6.body.getD .skip)).wp Tryd.prog Q s0 w0 := by
  have HG := Lib.hid hg
  clear hg
  have HP := Lib.hid hp
  clear hp
  obtain ⟨U, rfl, hB0, c0_0, c0_1⟩ := h0
  refine wp_cut 2 (TBmid A l c p a w) (by rfl) ?_ h
  clear h
  intro r HR
  dsimp only [Tryd.f6, Option.getD, tailN, putN]
  have hs0 := hB0.size
  have l0_0a : w.heap.size < w0.heap.size := World.block_lt_of_cell? w0 _ c0_0
  have l0_0b : w.heap.size < w0.heap.size + 1 := Nat.lt_succ_of_lt l0_0a
  have l0_0c : w.heap.size < w0.heap.size + 1 + 1 := Nat.lt_succ_of_lt l0_0b
  have l0_0d : w.heap.size < w0.heap.size + 1 + 1 + 1 := Nat.lt_succ_of_lt l0_0c
  go_wp2_with fail
  refine (put_bad A l c p hm HP.out _ ((hl.below (show Below w.heap.size w _ from (by first | exact hB0 | ((repeat' (first | exact hB0 | refine Below.setCell ?_ ?_ _ | refine Below.alloc ?_ ?_ _ | refine Below.drew ?_)) <;> (first | omega | (simp <;> omega)))))).more (show w.heap.size ≤ _ from by first | omega | (simp <;> omega)))).mono ?_
  rintro e w1 ⟨rfl, hb1⟩
  have hB1 : Below w.heap.size w w1 := Below.trans (by first | exact hB0 | ((repeat' (first | exact hB0 | refine Below.setCell ?_ ?_ _ | refine Below.alloc ?_ ?_ _ | refine Below.drew ?_)) <;> (first | omega | (simp <;> omega)))) (hb1.mono (by first | omega | (simp <;> omega)))
  have hs1 : w.heap.size ≤ w1.heap.size := hB1.size
  have ht1 := hb1.size
  try simp only [World.size_alloc, World.size_setCell] at ht1
  have c1_0 : w1.cell? ⟨w.heap.size, 0, none⟩ = some (.int .i64 p.1) := (hb1.cell (p := ⟨w.heap.size, 0, none⟩) (by first | omega | (simp <;> omega))).trans (by first | exact c0_0 | simp [go_sem, c0_0, l0_0a, l0_0b, l0_0c, l0_0d])
  have c1_1 : w1.cell? ⟨w.heap.size, 1, none⟩ = some (.int .i64 p.2) := (hb1.cell (p := ⟨w.heap.size, 1, none⟩) (by first | omega | (simp <;> omega))).trans (by first | exact c0_1 | simp [go_sem, c0_1, l0_0a, l0_0b, l0_0c, l0_0d])
  have l1_0a : w.heap.size < w1.heap.size := World.block_lt_of_cell? w1 _ c1_0
  have l1_0b : w.heap.size < w1.heap.size + 1 := Nat.lt_succ_of_lt l1_0a
  have l1_0c : w.heap.size < w1.heap.size + 1 + 1 := Nat.lt_succ_of_lt l1_0b
  have l1_0d : w.heap.size < w1.heap.size + 1 + 1 + 1 := Nat.lt_succ_of_lt l1_0c
  clear c0_0 c0_1 l0_0a l0_0b l0_0c l0_0d hB0 hb1
  go_wp2_with fail
  refine wp_name ?_
  intro w2 hW2
  have hB2 : Below w.heap.size w w2 := by rw [hW2.out]; exact (by first | exact hB1 | ((repeat' (first | exact hB1 | refine Below.setCell ?_ ?_ _ | refine Below.alloc ?_ ?_ _ | refine Below.drew ?_)) <;> (first | omega | (simp <;> omega))))
  have hs2 : w.heap.size ≤ w2.heap.size := hB2.size
  have ht2 := congrArg (fun x : World => x.heap.size) hW2.out
  try simp only [World.size_alloc, World.size_setCell] at ht2
  have c2_0 : w2.cell? ⟨w.heap.size, 0, none⟩ = some (.int .i64 p.1) := by rw [hW2.out]; first | exact c1_0 | simp [go_sem, c1_0, l1_0a, l1_0b, l1_0c, l1_0d]
  have c2_1 : w2.cell? ⟨w.heap.size, 1, none⟩ = some (.int .i64 p.2) := by rw [hW2.out]; first | exact c1_1 | simp [go_sem, c1_1, l1_0a, l1_0b, l1_0c, l1_0d]
  have l2_0a : w.heap.size < w2.heap.size := World.block_lt_of_cell? w2 _ c2_0
  have l2_0b : w.heap.size < w2.heap.size + 1 := Nat.lt_succ_of_lt l2_0a
  have l2_0c : w.heap.size < w2.heap.size + 1 + 1 := Nat.lt_succ_of_lt l2_0b
  have l2_0d : w.heap.size < w2.heap.size + 1 + 1 + 1 := Nat.lt_succ_of_lt l2_0c
  have hu2 := Nat.le_of_eq ht2
  have hv2 := Nat.le_of_eq ht2.symm
  clear ht2 c1_0 c1_1 l1_0a l1_0b l1_0c l1_0d hB1 hW2
  exact HR.out _ _ (TBmid.mk (by kernel_rfl) ⟨hB2, c2_0, c2_1⟩)
set_option maxRecDepth 100000 in
set_option maxHeartbeats 8000000 in
theorem treeBack_2b (A : Option Addr) (l : List Pf) (c : Nat) (p : Pf) (a : Int) (hm : l.length ≤ maxLen) (w : World) (hg : ErrVar w) (hl : Rd w w.heap.size A (cellsP l)) (hp : putFault l p = 0) (Q : Exit → Act → World → Prop) (s0 : Act) (w0 : World) (h0 : TBmid A l c p a w s0 w0)
    (h : ∀ a' w', TBmid A l c p a w a' w' → (tailN 2 (tailN 3 (Tryd.f6.body.getD .skip))).wp Tryd.prog Q a' w') :
    (tailN 3 (Tryd.f6.body.getD .skip)).wp Tryd.prog Q s0 w0 := by
  have HG := Lib.hid hg
  clear hg
  obtain ⟨M, hM⟩ : ∃ M, M = putL l p := ⟨_, rfl⟩
  have HM := Lib.hid hM
  have HD : Hid (dropFault M p = 0) := by subst hM; exact (put_drop hp).1
  have HE : Hid (dropL M p = l) := by subst hM; exact (put_drop hp).2
  have HF : Hid (findFault M p.1 = 0) := by subst hM; exact (put_found hp).1
  have HQ6 : Hid (putFault M p = 6) := by subst hM; exact put_twice hp
  have HQ := Lib.hid (show putFault M p ≠ 0 by rw [HQ6.out]; decide)
  have hge : p.2 ≤ (findRes M p.1).2 := by subst hM; exact (put_found hp).2
  have hMm : M.length ≤ maxLen := by subst hM; rw [putL_length]; have := (putFault_zero hp).2.2.2; unfold maxLen; omega
  have HP := Lib.hid hp
  clear hp hM
  obtain ⟨U, rfl, hB0, c0_0, c0_1⟩ := h0
  refine wp_cut 2 (TBmid A l c p a w) (by rfl) ?_ h
  clear h
  intro r HR
  dsimp only [Tryd.f6, Option.getD, tailN, putN]
  have hs0 := hB0.size
  have l0_0a : w.heap.size < w0.heap.size := World.block_lt_of_cell? w0 _ c0_0
  have l0_0b : w.heap.size < w0.heap.size + 1 := Nat.lt_succ_of_lt l0_0a
  have l0_0c : w.heap.size < w0.heap.size + 1 + 1 := Nat.lt_succ_of_lt l0_0b
  have l0_0d : w.heap.size < w0.heap.size + 1 + 1 + 1 := Nat.lt_succ_of_lt l0_0c
  go_wp2_with fail
  refine (put_ok A l c p HP.out _ ((hl.below (show Below w.heap.size w _ from (by first | exact hB0 | ((repeat' (first | exact hB0 | refine Below.setCell ?_ ?_ _ | refine Below.alloc ?_ ?_ _ | refine Below.drew ?_)) <;> (first | omega | (simp <;> omega)))))).more (show w.heap.size ≤ _ from by first | omega | (simp <;> omega)))).mono ?_
  rintro e w1 ⟨v1, rfl, hown1, hb1⟩
  have hB1 : Below w.heap.size w w1 := Below.trans (by first | exact hB0 | ((repeat' (first | exact hB0 | refine Below.setCell ?_ ?_ _ | refine Below.alloc ?_ ?_ _ | refine Below.drew ?_)) <;> (first | omega | (simp <;> omega)))) (hb1.mono (by first | omega | (simp <;> omega)))
  have hs1 : w.heap.size ≤ w1.heap.size := hB1.size
  have ht1 := hb1.size
  try simp only [World.size_alloc, World.size_setCell] at ht1
  have c1_0 : w1.cell? ⟨w.heap.size, 0, none⟩ = some (.int .i64 p.1) := (hb1.cell (p := ⟨w.heap.size, 0, none⟩) (by first | omega | (simp <;> omega))).trans (by first | exact c0_0 | simp [go_sem, c0_0, l0_0a, l0_0b, l0_0c, l0_0d])
  have c1_1 : w1.cell? ⟨w.heap.size, 1, none⟩ = some (.int .i64 p.2) := (hb1.cell (p := ⟨w.heap.size, 1, none⟩) (by first | omega | (simp <;> omega))).trans (by first | exact c0_1 | simp [go_sem, c0_1, l0_0a, l0_0b, l0_0c, l0_0d])
  have l1_0a : w.heap.size < w1.heap.size := World.block_lt_of_cell? w1 _ c1_0
  have l1_0b : w.heap.size < w1.heap.size + 1 := Nat.lt_succ_of_lt l1_0a
  have l1_0c : w.heap.size < w1.heap.size + 1 + 1 := Nat.lt_succ_of_lt l1_0b
  have l1_0d : w.heap.size < w1.heap.size + 1 + 1 + 1 := Nat.lt_succ_of_lt l1_0c
  clear c0_0 c0_1 l0_0a l0_0b l0_0c l0_0d hB0 hb1
  rw [← HM.out] at hown1
  obtain ⟨A1, c1, rfl, hr1⟩ := hown1.form
  clear hown1
  go_wp2_with fail
  refine (drop_ok A1 M c1 p HD.out _ ((hr1.below (show Below w1.heap.size w1 _ from (by first | exact Below.refl _ _ | ((repeat' (first | exact Below.refl _ _ | refine Below.setCell ?_ ?_ _ | refine Below.alloc ?_ ?_ _ | refine Below.drew ?_)) <;> (first | omega | (simp <;> omega)))))).more (show w1.heap.size ≤ _ from by first | omega | (simp <;> omega)))).mono ?_
  rintro e w2 ⟨v2, rfl, hown2, hb2⟩
  have hB2 : Below w.heap.size w w2 := Below.trans (by first | exact hB1 | ((repeat' (first | exact hB1 | refine Below.setCell ?_ ?_ _ | refine Below.alloc ?_ ?_ _ | refine Below.drew ?_)) <;> (first | omega | (simp <;> omega)))) (hb2.mono (by first | omega | (simp <;> omega)))
  have hs2 : w.heap.size ≤ w2.heap.size := hB2.size
  have ht2 := hb2.size
  try simp only [World.size_alloc, World.size_setCell] at ht2
  have c2_0 : w2.cell? ⟨w.heap.size, 0, none⟩ = some (.int .i64 p.1) := (hb2.cell (p := ⟨w.heap.size, 0, none⟩) (by first | omega | (simp <;> omega))).trans (by first | exact c1_0 | simp [go_sem, c1_0, l1_0a, l1_0b, l1_0c, l1_0d])
  have c2_1 : w2.cell? ⟨w.heap.size, 1, none⟩ = some (.int .i64 p.2) := (hb2.cell (p := ⟨w.heap.size, 1, none⟩) (by first | omega | (simp <;> omega))).trans (by first | exact c1_1 | simp [go_sem, c1_1, l1_0a, l1_0b, l1_0c, l1_0d])
  have l2_0a : w.heap.size < w2.heap.size := World.block_lt_of_cell? w2 _ c2_0
  have l2_0b : w.heap.size < w2.heap.size + 1 := Nat.lt_succ_of_lt l2_0a
  have l2_0c : w.heap.size < w2.heap.size + 1 + 1 := Nat.lt_succ_of_lt l2_0b
  have l2_0d : w.heap.size < w2.heap.size + 1 + 1 + 1 := Nat.lt_succ_of_lt l2_0c
  have hkw1_2 : Below w1.heap.size w1 w2 := Below.trans (by first | exact Below.refl _ _ | ((repeat' (first | exact Below.refl _ _ | refine Below.setCell ?_ ?_ _ | refine Below.alloc ?_ ?_ _ | refine Below.drew ?_)) <;> (first | omega | (simp <;> omega)))) (hb2.mono (by first | omega | (simp <;> omega)))
  clear c1_0 c1_1 l1_0a l1_0b l1_0c l1_0d hB1 hb2
  rw [HE.out] at hown2
  obtain ⟨A2, c2, rfl, hr2⟩ := hown2.form
  clear hown2
  go_wp2_with fail
  refine (prefixes_same A2 A l l l.length l.length c2 c rfl rfl hm rfl _ ((hr2.below (show Below w2.heap.size w2 _ from (by first | exact Below.refl _ _ | ((repeat' (first | exact Below.refl _ _ | refine Below.setCell ?_ ?_ _ | refine Below.alloc ?_ ?_ _ | refine Below.drew ?_)) <;> (first | omega | (simp <;> omega)))))).more (show w2.heap.size ≤ _ from by first | omega | (simp <;> omega))) ((hl.below (show Below w.heap.size w _ from (by first | exact hB2 | ((repeat' (first | exact hB2 | refine Below.setCell ?_ ?_ _ | refine Below.alloc ?_ ?_ _ | refine Below.drew ?_)) <;> (first | omega | (simp <;> omega)))))).more (show w.heap.size ≤ _ from by first | omega | (simp <;> omega)))).mono ?_
  rintro e w3 ⟨rfl, hb3⟩
  have hB3 : Below w.heap.size w w3 := Below.trans (by first | exact hB2 | ((repeat' (first | exact hB2 | refine Below.setCell ?_ ?_ _ | refine Below.alloc ?_ ?_ _ | refine Below.drew ?_)) <;> (first | omega | (simp <;> omega)))) (hb3.mono (by first | omega | (simp <;> omega)))
  have hs3 : w.heap.size ≤ w3.heap.size := hB3.size
  have ht3 := hb3.size
  try simp only [World.size_alloc, World.size_setCell] at ht3
  have c3_0 : w3.cell? ⟨w.heap.size, 0, none⟩ = some (.int .i64 p.1) := (hb3.cell (p := ⟨w.heap.size, 0, none⟩) (by first | omega | (simp <;> omega))).trans (by first | exact c2_0 | simp [go_sem, c2_0, l2_0a, l2_0b, l2_0c, l2_0d])
  have c3_1 : w3.cell? ⟨w.heap.size, 1, none⟩ = some (.int .i64 p.2) := (hb3.cell (p := ⟨w.heap.size, 1, none⟩) (by first | omega | (simp <;> omega))).trans (by first | exact c2_1 | simp [go_sem, c2_1, l2_0a, l2_0b, l2_0c, l2_0d])
  have l3_0a : w.heap.size < w3.heap.size := World.block_lt_of_cell? w3 _ c3_0
  have l3_0b : w.heap.size < w3.heap.size + 1 := Nat.lt_succ_of_lt l3_0a
  have l3_0c : w.heap.size < w3.heap.size + 1 + 1 := Nat.lt_succ_of_lt l3_0b
  have l3_0d : w.heap.size < w3.heap.size + 1 + 1 + 1 := Nat.lt_succ_of_lt l3_0c
  have hkw1_3 : Below w1.heap.size w1 w3 := Below.trans (by first | exact hkw1_2 | ((repeat' (first | exact hkw1_2 | refine Below.setCell ?_ ?_ _ | refine Below.alloc ?_ ?_ _ | refine Below.drew ?_)) <;> (first | omega | (simp <;> omega)))) (hb3.mono (by first | omega | (simp <;> omega)))
  have hkw2_3 : Below w2.heap.size w2 w3 := Below.trans (by first | exact Below.refl _ _ | ((repeat' (first | exact Below.refl _ _ | refine Below.setCell ?_ ?_ _ | refine Below.alloc ?_ ?_ _ | refine Below.drew ?_)) <;> (first | omega | (simp <;> omega)))) (hb3.mono (by first | omega | (simp <;> omega)))
  clear c2_0 c2_1 l2_0a l2_0b l2_0c l2_0d hkw1_2 hB2 hb3
  go_wp2_with fail
  refine (find_ok A1 M c1 p.1 HF.out _ ((hr1.below (show Below w1.heap.size w1 _ from (by first | exact hkw1_3 | ((repeat' (first | exact hkw1_3 | refine Below.setCell ?_ ?_ _ | refine Below.alloc ?_ ?_ _ | refine Below.drew ?_)) <;> (first | omega | (simp <;> omega)))))).more (show w1.heap.size ≤ _ from by first | omega | (simp <;> omega)))).mono ?_
  rintro e w4 ⟨rfl, hb4⟩
  have hB4 : Below w.heap.size w w4 := Below.trans (by first | exact hB3 | ((repeat' (first | exact hB3 | refine Below.setCell ?_ ?_ _ | refine Below.alloc ?_ ?_ _ | refine Below.drew ?_)) <;> (first | omega | (simp <;> omega)))) (hb4.mono (by first | omega | (simp <;> omega)))
  have hs4 : w.heap.size ≤ w4.heap.size := hB4.size
  have ht4 := hb4.size
  try simp only [World.size_alloc, World.size_setCell] at ht4
  have c4_0 : w4.cell? ⟨w.heap.size, 0, none⟩ = some (.int .i64 p.1) := (hb4.cell (p := ⟨w.heap.size, 0, none⟩) (by first | omega | (simp <;> omega))).trans (by first | exact c3_0 | simp [go_sem, c3_0, l3_0a, l3_0b, l3_0c, l3_0d])
  have c4_1 : w4.cell? ⟨w.heap.size, 1, none⟩ = some (.int .i64 p.2) := (hb4.cell (p := ⟨w.heap.size, 1, none⟩) (by first | omega | (simp <;> omega))).trans (by first | exact c3_1 | simp [go_sem, c3_1, l3_0a, l3_0b, l3_0c, l3_0d])
  have l4_0a : w.heap.size < w4.heap.size := World.block_lt_of_cell? w4 _ c4_0
  have l4_0b : w.heap.size < w4.heap.size + 1 := Nat.lt_succ_of_lt l4_0a
  have l4_0c : w.heap.size < w4.heap.size + 1 + 1 := Nat.lt_succ_of_lt l4_0b
  have l4_0d : w.heap.size < w4.heap.size + 1 + 1 + 1 := Nat.lt_succ_of_lt l4_0c
  have hkw1_4 : Below w1.heap.size w1 w4 := Below.trans (by first | exact hkw1_3 | ((repeat' (first | exact hkw1_3 | refine Below.setCell ?_ ?_ _ | refine Below.alloc ?_ ?_ _ | refine Below.drew ?_)) <;> (first | omega | (simp <;> omega)))) (hb4.mono (by first | omega | (simp <;> omega)))
  have hkw2_4 : Below w2.heap.size w2 w4 := Below.trans (by first | exact hkw2_3 | ((repeat' (first | exact hkw2_3 | refine Below.setCell ?_ ?_ _ | refine Below.alloc ?_ ?_ _ | refine Below.drew ?_)) <;> (first | omega | (simp <;> omega)))) (hb4.mono (by first | omega | (simp <;> omega)))
  clear c3_0 c3_1 l3_0a l3_0b l3_0c l3_0d hkw1_3 hkw2_3 hB3 hb4
  go_wp2_with fail
  refine (put_bad A1 M c1 p hMm HQ.out _ ((hr1.below (show Below w1.heap.size w1 _ from (by first | exact hkw1_4 | ((repeat' (first | exact hkw1_4 | refine Below.setCell ?_ ?_ _ | refine Below.alloc ?_ ?_ _ | refine Below.drew ?_)) <;> (first | omega | (simp <;> omega)))))).more (show w1.heap.size ≤ _ from by first | omega | (simp <;> omega)))).mono ?_
  rintro e w5 ⟨rfl, hb5⟩
  have hB5 : Below w.heap.size w w5 := Below.trans (by first | exact hB4 | ((repeat' (first | exact hB4 | refine Below.setCell ?_ ?_ _ | refine Below.alloc ?_ ?_ _ | refine Below.drew ?_)) <;> (first | omega | (simp <;> omega)))) (hb5.mono (by first | omega | (simp <;> omega)))
  have hs5 : w.heap.size ≤ w5.heap.size := hB5.size
  have ht5 := hb5.size
  try simp only [World.size_alloc, World.size_setCell] at ht5
  have c5_0 : w5.cell? ⟨w.heap.size, 0, none⟩ = some (.int .i64 p.1) := (hb5.cell (p := ⟨w.heap.size, 0, none⟩) (by first | omega | (simp <;> omega))).trans (by first | exact c4_0 | simp [go_sem, c4_0, l4_0a, l4_0b, l4_0c, l4_0d])
  have c5_1 : w5.cell? ⟨w.heap.size, 1, none⟩ = some (.int .i64 p.2) := (hb5.cell (p := ⟨w.heap.size, 1, none⟩) (by first | omega | (simp <;> omega))).trans (by first | exact c4_1 | simp [go_sem, c4_1, l4_0a, l4_0b, l4_0c, l4_0d])
  have c5_2 : w5.cell? ⟨w4.heap.size, 0, none⟩ = some (.int .i64 (findRes M p.1).1) := (hb5.cell (p := ⟨w4.heap.size, 0, none⟩) (by first | omega | (simp <;> omega))).trans (by first | (simp; done) | simp [go_sem, l4_0a, l4_0b, l4_0c, l4_0d, c4_0, c4_1])
  have c5_3 : w5.cell? ⟨w4.heap.size, 1, none⟩ = some (.int .i64 (findRes M p.1).2) := (hb5.cell (p := ⟨w4.heap.size, 1, none⟩) (by first | omega | (simp <;> omega))).trans (by first | (simp; done) | simp [go_sem, l4_0a, l4_0b, l4_0c, l4_0d, c4_0, c4_1])
  have l5_0a : w.heap.size < w5.heap.size := World.block_lt_of_cell? w5 _ c5_0
  have l5_0b : w.heap.size < w5.heap.size + 1 := Nat.lt_succ_of_lt l5_0a
  have l5_0c : w.heap.size < w5.heap.size + 1 + 1 := Nat.lt_succ_of_lt l5_0b
  have l5_0d : w.heap.size < w5.heap.size + 1 + 1 + 1 := Nat.lt_succ_of_lt l5_0c
  have l5_1a : w4.heap.size < w5.heap.size := World.block_lt_of_cell? w5 _ c5_2
  have l5_1b : w4.heap.size < w5.heap.size + 1 := Nat.lt_succ_of_lt l5_1a
  have l5_1c : w4.heap.size < w5.heap.size + 1 + 1 := Nat.lt_succ_of_lt l5_1b
  have l5_1d : w4.heap.size < w5.heap.size + 1 + 1 + 1 := Nat.lt_succ_of_lt l5_1c
  have hkw1_5 : Below w1.heap.size w1 w5 := Below.trans (by first | exact hkw1_4 | ((repeat' (first | exact hkw1_4 | refine Below.setCell ?_ ?_ _ | refine Below.alloc ?_ ?_ _ | refine Below.drew ?_)) <;> (first | omega | (simp <;> omega)))) (hb5.mono (by first | omega | (simp <;> omega)))
  have hkw2_5 : Below w2.heap.size w2 w5 := Below.trans (by first | exact hkw2_4 | ((repeat' (first | exact hkw2_4 | refine Below.setCell ?_ ?_ _ | refine Below.alloc ?_ ?_ _ | refine Below.drew ?_)) <;> (first | omega | (simp <;> omega)))) (hb5.mono (by first | omega | (simp <;> omega)))
  clear c4_0 c4_1 l4_0a l4_0b l4_0c l4_0d hkw1_4 hkw2_4 hB4 hb5
  rw [HQ6.out]
  go_wp2_with fail
  refine (error_same 6 (by decide) _ (by exact HG.out.belowB (show Below w.heap.size w _ from (by first | exact hB5 | ((repeat' (first | exact hB5 | refine Below.setCell ?_ ?_ _ | refine Below.alloc ?_ ?_ _ | refine Below.drew ?_)) <;> (first | omega | (simp <;> omega))))) HG.out.lt)).mono ?_
  rintro e w6 ⟨rfl, hb6⟩
  have hB6 : Below w.heap.size w w6 := Below.trans (by first | exact hB5 | ((repeat' (first | exact hB5 | refine Below.setCell ?_ ?_ _ | refine Below.alloc ?_ ?_ _ | refine Below.drew ?_)) <;> (first | omega | (simp <;> omega)))) (hb6.mono (by first | omega | (simp <;> omega)))
  have hs6 : w.heap.size ≤ w6.heap.size := hB6.size
  have ht6 := hb6.size
  try simp only [World.size_alloc, World.size_setCell] at ht6
  have c6_0 : w6.cell? ⟨w.heap.size, 0, none⟩ = some (.int .i64 p.1) := (hb6.cell (p := ⟨w.heap.size, 0, none⟩) (by first | omega | (simp <;> omega))).trans (by first | exact c5_0 | simp [go_sem, c5_0, l5_0a, l5_0b, l5_0c, l5_0d, l5_1a, l5_1b, l5_1c, l5_1d])
  have c6_1 : w6.cell? ⟨w.heap.size, 1, none⟩ = some (.int .i64 p.2) := (hb6.cell (p := ⟨w.heap.size, 1, none⟩) (by first | omega | (simp <;> omega))).trans (by first | exact c5_1 | simp [go_sem, c5_1, l5_0a, l5_0b, l5_0c, l5_0d, l5_1a, l5_1b, l5_1c, l5_1d])
  have c6_2 : w6.cell? ⟨w4.heap.size, 0, none⟩ = some (.int .i64 (findRes M p.1).1) := (hb6.cell (p := ⟨w4.heap.size, 0, none⟩) (by first | omega | (simp <;> omega))).trans (by first | exact c5_2 | simp [go_sem, c5_2, l5_0a, l5_0b, l5_0c, l5_0d, l5_1a, l5_1b, l5_1c, l5_1d])
  have c6_3 : w6.cell? ⟨w4.heap.size, 1, none⟩ = some (.int .i64 (findRes M p.1).2) := (hb6.cell (p := ⟨w4.heap.size, 1, none⟩) (by first | omega | (simp <;> omega))).trans (by first | exact c5_3 | simp [go_sem, c5_3, l5_0a, l5_0b, l5_0c, l5_0d, l5_1a, l5_1b, l5_1c, l5_1d])
  have l6_0a : w.heap.size < w6.heap.size := World.block_lt_of_cell? w6 _ c6_0
  have l6_0b : w.heap.size < w6.heap.size + 1 := Nat.lt_succ_of_lt l6_0a
  have l6_0c : w.heap.size < w6.heap.size + 1 + 1 := Nat.lt_succ_of_lt l6_0b
  have l6_0d : w.heap.size < w6.heap.size + 1 + 1 + 1 := Nat.lt_succ_of_lt l6_0c
  have l6_1a : w4.heap.size < w6.heap.size := World.block_lt_of_cell? w6 _ c6_2
  have l6_1b : w4.heap.size < w6.heap.size + 1 := Nat.lt_succ_of_lt l6_1a
  have l6_1c : w4.heap.size < w6.heap.size + 1 + 1 := Nat.lt_succ_of_lt l6_1b
  have l6_1d : w4.heap.size < w6.heap.size + 1 + 1 + 1 := Nat.lt_succ_of_lt l6_1c
  have hkw1_6 : Below w1.heap.size w1 w6 := Below.trans (by first | exact hkw1_5 | ((repeat' (first | exact hkw1_5 | refine Below.setCell ?_ ?_ _ | refine Below.alloc ?_ ?_ _ | refine Below.drew ?_)) <;> (first | omega | (simp <;> omega)))) (hb6.mono (by first | omega | (simp <;> omega)))
  have hkw2_6 : Below w2.heap.size w2 w6 := Below.trans (by first | exact hkw2_5 | ((repeat' (first | exact hkw2_5 | refine Below.setCell ?_ ?_ _ | refine Below.alloc ?_ ?_ _ | refine Below.drew ?_)) <;> (first | omega | (simp <;> omega)))) (hb6.mono (by first | omega | (simp <;> omega)))
  clear c5_0 c5_1 c5_2 c5_3 l5_0a l5_0b l5_0c l5_0d l5_1a l5_1b l5_1c l5_1d hkw1_5 hkw2_5 hB5 hb6
  go_wp2_with fail
  refine wp_name ?_
  intro w7 hW7
  have hB7 : Below w.heap.size w w7 := by rw [hW7.out]; exact (by first | exact hB6 | ((repeat' (first | exact hB6 | refine Below.setCell ?_ ?_ _ | refine Below.alloc ?_ ?_ _ | refine Below.drew ?_)) <;> (first | omega | (simp <;> omega))))
  have hs7 : w.heap.size ≤ w7.heap.size := hB7.size
  have ht7 := congrArg (fun x : World => x.heap.size) hW7.out
  try simp only [World.size_alloc, World.size_setCell] at ht7
  have c7_0 : w7.cell? ⟨w.heap.size, 0, none⟩ = some (.int .i64 p.1) := by rw [hW7.out]; first | exact c6_0 | simp [go_sem, c6_0, l6_0a, l6_0b, l6_0c, l6_0d, l6_1a, l6_1b, l6_1c, l6_1d]
  have c7_1 : w7.cell? ⟨w.heap.size, 1, none⟩ = some (.int .i64 p.2) := by rw [hW7.out]; first | exact c6_1 | simp [go_sem, c6_1, l6_0a, l6_0b, l6_0c, l6_0d, l6_1a, l6_1b, l6_1c, l6_1d]
  have c7_2 : w7.cell? ⟨w4.heap.size, 0, none⟩ = some (.int .i64 (findRes M p.1).1) := by rw [hW7.out]; first | exact c6_2 | simp [go_sem, c6_2, l6_0a, l6_0b, l6_0c, l6_0d, l6_1a, l6_1b, l6_1c, l6_1d]
  have c7_3 : w7.cell? ⟨w4.heap.size, 1, none⟩ = some (.int .i64 (findRes M p.1).2) := by rw [hW7.out]; first | exact c6_3 | simp [go_sem, c6_3, l6_0a, l6_0b, l6_0c, l6_0d, l6_1a, l6_1b, l6_1c, l6_1d]
  have l7_0a : w.heap.size < w7.heap.size := World.block_lt_of_cell? w7 _ c7_0
  have l7_0b : w.heap.size < w7.heap.size + 1 := Nat.lt_succ_of_lt l7_0a
  have l7_0c : w.heap.size < w7.heap.size + 1 + 1 := Nat.lt_succ_of_lt l7_0b
  have l7_0d : w.heap.size < w7.heap.size + 1 + 1 + 1 := Nat.lt_succ_of_lt l7_0c
  have l7_1a : w4.heap.size < w7.heap.size := World.block_lt_of_cell? w7 _ c7_2
  have l7_1b : w4.heap.size < w7.heap.size + 1 := Nat.lt_succ_of_lt l7_1a
  have l7_1c : w4.heap.size < w7.heap.size + 1 + 1 := Nat.lt_succ_of_lt l7_1b
  have l7_1d : w4.heap.size < w7.heap.size + 1 + 1 + 1 := Nat.lt_succ_of_lt l7_1c
  have hkw1_7 : Below w1.heap.size w1 w7 := by rw [hW7.out]; exact (by first | exact hkw1_6 | ((repeat' (first | exact hkw1_6 | refine Below.setCell ?_ ?_ _ | refine Below.alloc ?_ ?_ _ | refine Below.drew ?_)) <;> (first | omega | (simp <;> omega))))
  have hkw2_7 : Below w2.heap.size w2 w7 := by rw [hW7.out]; exact (by first | exact hkw2_6 | ((repeat' (first | exact hkw2_6 | refine Below.setCell ?_ ?_ _ | refine Below.alloc ?_ ?_ _ | refine Below.drew ?_)) <;> (first | omega | (simp <;> omega))))
  have hu7 := Nat.le_of_eq ht7
  have hv7 := Nat.le_of_eq ht7.symm
  clear ht7 c6_0 c6_1 c6_2 c6_3 l6_0a l6_0b l6_0c l6_0d l6_1a l6_1b l6_1c l6_1d hkw1_6 hkw2_6 hB6 hW7
  exact HR.out _ _ (TBmid.mk (by kernel_rfl) ⟨hB7, c7_0, c7_1⟩)
set_option maxRecDepth 100000 in
set_option maxHeartbeats 8000000 in
theorem treeBack_3a (A : Option Addr) (l : List Pf) (c : Nat) (p : Pf) (a : Int) (hm : l.length ≤ maxLen) (w : World) (hg : ErrVar w) (hl : Rd w w.heap.size A (cellsP l)) (hp : findFault l a ≠ 0) (Q : Exit → Act → World → Prop) (s0 : Act) (w0 : World) (h0 : TBmid A l c p a w s0 w0)
    (h : ∀ a' w', TBmid A l c p a w a' w' → (tailN 2 (tailN 2 (tailN 3 (Tryd.f6.body.getD .skip)))).wp Tryd.prog Q a' w') :
    (tailN 2 (tailN 3 (Tryd.f6.body.getD .skip))).wp Tryd.prog Q s0 w0 := by
  have HG := Lib.hid hg
  clear hg
  have HP := Lib.hid hp
  clear hp
  obtain ⟨U, rfl, hB0, c0_0, c0_1⟩ := h0
  refine wp_cut 2 (TBmid A l c p a w) (by rfl) ?_ h
  clear h
  intro r HR
  dsimp only [Tryd.f6, Option.getD, tailN, putN]
  have hs0 := hB0.size
  have l0_0a : w.heap.size < w0.heap.size := World.block_lt_of_cell? w0 _ c0_0
  have l0_0b : w.heap.size < w0.heap.size + 1 := Nat.lt_succ_of_lt l0_0a
  have l0_0c : w.heap.size < w0.heap.size + 1 + 1 := Nat.lt_succ_of_lt l0_0b
  have l0_0d : w.heap.size < w0.heap.size + 1 + 1 + 1 := Nat.lt_succ_of_lt l0_0c
  go_wp2_with fail
  refine (find_bad A l c a hm HP.out _ ((hl.below (show Below w.heap.size w _ from (by first | exact hB0 | ((repeat' (first | exact hB0 | refine Below.setCell ?_ ?_ _ | refine Below.alloc ?_ ?_ _ | refine Below.drew ?_)) <;> (first | omega | (simp <;> omega)))))).more (show w.heap.size ≤ _ from by first | omega | (simp <;> omega)))).mono ?_
  rintro e w1 ⟨rfl, hb1⟩
  have hB1 : Below w.heap.size w w1 := Below.trans (by first | exact hB0 | ((repeat' (first | exact hB0 | refine Below.setCell ?_ ?_ _ | refine Below.alloc ?_ ?_ _ | refine Below.drew ?_)) <;> (first | omega | (simp <;> omega)))) (hb1.mono (by first | omega | (simp <;> omega)))
  have hs1 : w.heap.size ≤ w1.heap.size := hB1.size
  have ht1 := hb1.size
  try simp only [World.size_alloc, World.size_setCell] at ht1
  have c1_0 : w1.cell? ⟨w.heap.size, 0, none⟩ = some (.int .i64 p.1) := (hb1.cell (p := ⟨w.heap.size, 0, none⟩) (by first | omega | (simp <;> omega))).trans (by first | exact c0_0 | simp [go_sem, c0_0, l0_0a, l0_0b, l0_0c, l0_0d])
  have c1_1 : w1.cell? ⟨w.heap.size, 1, none⟩ = some (.int .i64 p.2) := (hb1.cell (p := ⟨w.heap.size, 1, none⟩) (by first | omega | (simp <;> omega))).trans (by first | exact c0_1 | simp [go_sem, c0_1, l0_0a, l0_0b, l0_0c, l0_0d])
  have l1_0a : w.heap.size < w1.heap.size := World.block_lt_of_cell? w1 _ c1_0
  have l1_0b : w.heap.size < w1.heap.size + 1 := Nat.lt_succ_of_lt l1_0a
  have l1_0c : w.heap.size < w1.heap.size + 1 + 1 := Nat.lt_succ_of_lt l1_0b
  have l1_0d : w.heap.size < w1.heap.size + 1 + 1 + 1 := Nat.lt_succ_of_lt l1_0c
  clear c0_0 c0_1 l0_0a l0_0b l0_0c l0_0d hB0 hb1
  go_wp2_with fail
  refine wp_name ?_
  intro w2 hW2
  have hB2 : Below w.heap.size w w2 := by rw [hW2.out]; exact (by first | exact hB1 | ((repeat' (first | exact hB1 | refine Below.setCell ?_ ?_ _ | refine Below.alloc ?_ ?_ _ | refine Below.drew ?_)) <;> (first | omega | (simp <;> omega))))
  have hs2 : w.heap.size ≤ w2.heap.size := hB2.size
  have ht2 := congrArg (fun x : World => x.heap.size) hW2.out
  try simp only [World.size_alloc, World.size_setCell] at ht2
  have c2_0 : w2.cell? ⟨w.heap.size, 0, none⟩ = some (.int .i64 p.1) := by rw [hW2.out]; first | exact c1_0 | simp [go_sem, c1_0, l1_0a, l1_0b, l1_0c, l1_0d]
  have c2_1 : w2.cell? ⟨w.heap.size, 1, none⟩ = some (.int .i64 p.2) := by rw [hW2.out]; first | exact c1_1 | simp [go_sem, c1_1, l1_0a, l1_0b, l1_0c, l1_0d]
  have l2_0a : w.heap.size < w2.heap.size := World.block_lt_of_cell? w2 _ c2_0
  have l2_0b : w.heap.size < w2.heap.size + 1 := Nat.lt_succ_of_lt l2_0a
  have l2_0c : w.heap.size < w2.heap.size + 1 + 1 := Nat.lt_succ_of_lt l2_0b
  have l2_0d : w.heap.size < w2.heap.size + 1 + 1 + 1 := Nat.lt_succ_of_lt l2_0c
  have hu2 := Nat.le_of_eq ht2
  have hv2 := Nat.le_of_eq ht2.symm
  clear ht2 c1_0 c1_1 l1_0a l1_0b l1_0c l1_0d hB1 hW2
  exact HR.out _ _ (TBmid.mk (by kernel_rfl) ⟨hB2, c2_0, c2_1⟩)
set_option maxRecDepth 100000 in
set_option maxHeartbeats 8000000 in
theorem treeBack_3b (A : Option Addr) (l : List Pf) (c : Nat) (p : Pf) (a : Int) (hm : l.length ≤ maxLen) (w : World) (hg : ErrVar w) (hl : Rd w w.heap.size A (cellsP l)) (hp : findFault l a = 0) (hlt : ¬ (findRes l a).2 < 32) (Q : Exit → Act → World → Prop) (s0 : Act) (w0 : World) (h0 : TBmid A l c p a w s0 w0)
    (h : ∀ a' w', TBmid A l c p a w a' w' → (tailN 2 (tailN 2 (tailN 3 (Tryd.f6.body.getD .skip)))).wp Tryd.prog Q a' w') :
    (tailN 2 (tailN 3 (Tryd.f6.body.getD .skip))).wp Tryd.prog Q s0 w0 := by
  have HG := Lib.hid hg
  clear hg
  obtain ⟨ht, ha, _⟩ := findFault_zero hp
  obtain ⟨r1, hr⟩ : ∃ r, r = findRes l a := ⟨_, rfl⟩
  have HRr := Lib.hid hr
  obtain ⟨U1, hU⟩ : ∃ U, U = l.filter (aboveOf (a, 32)) := ⟨_, rfl⟩
  have HU := Lib.hid hU
  have HT := Lib.hid (treeFault2_zero.2 ⟨ht, chk32 ha⟩)
  have hUl : U1.length ≤ 60 := by subst hU; exact Nat.le_trans (List.length_filter_le _ _) (tree_good ht).1
  have hge : ¬ r1.2 < 32 := by subst hr; exact hlt
  have hgd : decide (r1.2 < 32) = false := by simpa using hge
  have HP := Lib.hid hp
  clear hp hlt hr hU ht ha
  obtain ⟨U, rfl, hB0, c0_0, c0_1⟩ := h0
  refine wp_cut 2 (TBmid A l c p a w) (by rfl) ?_ h
  clear h
  intro r HR
  dsimp only [Tryd.f6, Option.getD, tailN, putN]
  have hs0 := hB0.size
  have l0_0a : w.heap.size < w0.heap.size := World.block_lt_of_cell? w0 _ c0_0
  have l0_0b : w.heap.size < w0.heap.size + 1 := Nat.lt_succ_of_lt l0_0a
  have l0_0c : w.heap.size < w0.heap.size + 1 + 1 := Nat.lt_succ_of_lt l0_0b
  have l0_0d : w.heap.size < w0.heap.size + 1 + 1 + 1 := Nat.lt_succ_of_lt l0_0c
  go_wp2_with fail
  refine (find_ok A l c a HP.out _ ((hl.below (show Below w.heap.size w _ from (by first | exact hB0 | ((repeat' (first | exact hB0 | refine Below.setCell ?_ ?_ _ | refine Below.alloc ?_ ?_ _ | refine Below.drew ?_)) <;> (first | omega | (simp <;> omega)))))).more (show w.heap.size ≤ _ from by first | omega | (simp <;> omega)))).mono ?_
  rintro e w1 ⟨rfl, hb1⟩
  have hB1 : Below w.heap.size w w1 := Below.trans (by first | exact hB0 | ((repeat' (first | exact hB0 | refine Below.setCell ?_ ?_ _ | refine Below.alloc ?_ ?_ _ | refine Below.drew ?_)) <;> (first | omega | (simp <;> omega)))) (hb1.mono (by first | omega | (simp <;> omega)))
  have hs1 : w.heap.size ≤ w1.heap.size := hB1.size
  have ht1 := hb1.size
  try simp only [World.size_alloc, World.size_setCell] at ht1
  have c1_0 : w1.cell? ⟨w.heap.size, 0, none⟩ = some (.int .i64 p.1) := (hb1.cell (p := ⟨w.heap.size, 0, none⟩) (by first | omega | (simp <;> omega))).trans (by first | exact c0_0 | simp [go_sem, c0_0, l0_0a, l0_0b, l0_0c, l0_0d])
  have c1_1 : w1.cell? ⟨w.heap.size, 1, none⟩ = some (.int .i64 p.2) := (hb1.cell (p := ⟨w.heap.size, 1, none⟩) (by first | omega | (simp <;> omega))).trans (by first | exact c0_1 | simp [go_sem, c0_1, l0_0a, l0_0b, l0_0c, l0_0d])
  have l1_0a : w.heap.size < w1.heap.size := World.block_lt_of_cell? w1 _ c1_0
  have l1_0b : w.heap.size < w1.heap.size + 1 := Nat.lt_succ_of_lt l1_0a
  have l1_0c : w.heap.size < w1.heap.size + 1 + 1 := Nat.lt_succ_of_lt l1_0b
  have l1_0d : w.heap.size < w1.heap.size + 1 + 1 + 1 := Nat.lt_succ_of_lt l1_0c
  clear c0_0 c0_1 l0_0a l0_0b l0_0c l0_0d hB0 hb1
  rw [← HRr.out]
  go_wp2_with fail
  refine (above_ok A l c (a, 32) HT.out _ ((hl.below (show Below w.heap.size w _ from (by first | exact hB1 | ((repeat' (first | exact hB1 | refine Below.setCell ?_ ?_ _ | refine Below.alloc ?_ ?_ _ | refine Below.drew ?_)) <;> (first | omega | (simp <;> omega)))))).more (show w.heap.size ≤ _ from by first | omega | (simp <;> omega)))).mono ?_
  rintro e w2 ⟨v2, rfl, hown2, hb2⟩
  have hB2 : Below w.heap.size w w2 := Below.trans (by first | exact hB1 | ((repeat' (first | exact hB1 | refine Below.setCell ?_ ?_ _ | refine Below.alloc ?_ ?_ _ | refine Below.drew ?_)) <;> (first | omega | (simp <;> omega)))) (hb2.mono (by first | omega | (simp <;> omega)))
  have hs2 : w.heap.size ≤ w2.heap.size := hB2.size
  have ht2 := hb2.size
  try simp only [World.size_alloc, World.size_setCell] at ht2
  have c2_0 : w2.cell? ⟨w.heap.size, 0, none⟩ = some (.int .i64 p.1) := (hb2.cell (p := ⟨w.heap.size, 0, none⟩) (by first | omega | (simp <;> omega))).trans (by first | exact c1_0 | simp [go_sem, c1_0, l1_0a, l1_0b, l1_0c, l1_0d])
  have c2_1 : w2.cell? ⟨w.heap.size, 1, none⟩ = some (.int .i64 p.2) := (hb2.cell (p := ⟨w.heap.size, 1, none⟩) (by first | omega | (simp <;> omega))).trans (by first | exact c1_1 | simp [go_sem, c1_1, l1_0a, l1_0b, l1_0c, l1_0d])
  have c2_2 : w2.cell? ⟨w1.heap.size, 0, none⟩ = some (.int .i64 r1.1) := (hb2.cell (p := ⟨w1.heap.size, 0, none⟩) (by first | omega | (simp <;> omega))).trans (by first | (simp; done) | simp [go_sem, l1_0a, l1_0b, l1_0c, l1_0d, c1_0, c1_1])
  have c2_3 : w2.cell? ⟨w1.heap.size, 1, none⟩ = some (.int .i64 r1.2) := (hb2.cell (p := ⟨w1.heap.size, 1, none⟩) (by first | omega | (simp <;> omega))).trans (by first | (simp; done) | simp [go_sem, l1_0a, l1_0b, l1_0c, l1_0d, c1_0, c1_1])
  have l2_0a : w.heap.size < w2.heap.size := World.block_lt_of_cell? w2 _ c2_0
  have l2_0b : w.heap.size < w2.heap.size + 1 := Nat.lt_succ_of_lt l2_0a
  have l2_0c : w.heap.size < w2.heap.size + 1 + 1 := Nat.lt_succ_of_lt l2_0b
  have l2_0d : w.heap.size < w2.heap.size + 1 + 1 + 1 := Nat.lt_succ_of_lt l2_0c
  have l2_1a : w1.heap.size < w2.heap.size := World.block_lt_of_cell? w2 _ c2_2
  have l2_1b : w1.heap.size < w2.heap.size + 1 := Nat.lt_succ_of_lt l2_1a
  have l2_1c : w1.heap.size < w2.heap.size + 1 + 1 := Nat.lt_succ_of_lt l2_1b
  have l2_1d : w1.heap.size < w2.heap.size + 1 + 1 + 1 := Nat.lt_succ_of_lt l2_1c
  clear c1_0 c1_1 l1_0a l1_0b l1_0c l1_0d hB1 hb2
  rw [← HU.out] at hown2
  obtain ⟨A2, c2, rfl, hr2⟩ := hown2.form
  clear hown2
  go_wp2_with fail
  refine wp_name ?_
  intro w3 hW3
  have hB3 : Below w.heap.size w w3 := by rw [hW3.out]; exact (by first | exact hB2 | ((repeat' (first | exact hB2 | refine Below.setCell ?_ ?_ _ | refine Below.alloc ?_ ?_ _ | refine Below.drew ?_)) <;> (first | omega | (simp <;> omega))))
  have hs3 : w.heap.size ≤ w3.heap.size := hB3.size
  have ht3 := congrArg (fun x : World => x.heap.size) hW3.out
  try simp only [World.size_alloc, World.size_setCell] at ht3
  have c3_0 : w3.cell? ⟨w.heap.size, 0, none⟩ = some (.int .i64 p.1) := by rw [hW3.out]; first | exact c2_0 | simp [go_sem, c2_0, l2_0a, l2_0b, l2_0c, l2_0d, l2_1a, l2_1b, l2_1c, l2_1d]
  have c3_1 : w3.cell? ⟨w.heap.size, 1, none⟩ = some (.int .i64 p.2) := by rw [hW3.out]; first | exact c2_1 | simp [go_sem, c2_1, l2_0a, l2_0b, l2_0c, l2_0d, l2_1a, l2_1b, l2_1c, l2_1d]
  have c3_2 : w3.cell? ⟨w1.heap.size, 0, none⟩ = some (.int .i64 r1.1) := by rw [hW3.out]; first | exact c2_2 | simp [go_sem, c2_2, l2_0a, l2_0b, l2_0c, l2_0d, l2_1a, l2_1b, l2_1c, l2_1d]
  have c3_3 : w3.cell? ⟨w1.heap.size, 1, none⟩ = some (.int .i64 r1.2) := by rw [hW3.out]; first | exact c2_3 | simp [go_sem, c2_3, l2_0a, l2_0b, l2_0c, l2_0d, l2_1a, l2_1b, l2_1c, l2_1d]
  have l3_0a : w.heap.size < w3.heap.size := World.block_lt_of_cell? w3 _ c3_0
  have l3_0b : w.heap.size < w3.heap.size + 1 := Nat.lt_succ_of_lt l3_0a
  have l3_0c : w.heap.size < w3.heap.size + 1 + 1 := Nat.lt_succ_of_lt l3_0b
  have l3_0d : w.heap.size < w3.heap.size + 1 + 1 + 1 := Nat.lt_succ_of_lt l3_0c
  have l3_1a : w1.heap.size < w3.heap.size := World.block_lt_of_cell? w3 _ c3_2
  have l3_1b : w1.heap.size < w3.heap.size + 1 := Nat.lt_succ_of_lt l3_1a
  have l3_1c : w1.heap.size < w3.heap.size + 1 + 1 := Nat.lt_succ_of_lt l3_1b
  have l3_1d : w1.heap.size < w3.heap.size + 1 + 1 + 1 := Nat.lt_succ_of_lt l3_1c
  have hkw2_3 : Below w2.heap.size w2 w3 := by rw [hW3.out]; exact (by first | exact Below.refl _ _ | ((repeat' (first | exact Below.refl _ _ | refine Below.setCell ?_ ?_ _ | refine Below.alloc ?_ ?_ _ | refine Below.drew ?_)) <;> (first | omega | (simp <;> omega))))
  have hu3 := Nat.le_of_eq ht3
  have hv3 := Nat.le_of_eq ht3.symm
  clear ht3 c2_0 c2_1 c2_2 c2_3 l2_0a l2_0b l2_0c l2_0d l2_1a l2_1b l2_1c l2_1d hB2 hW3
  have kc3_0 : ∀ x : BelW w3.heap.size w3, x.1.cell? ⟨w.heap.size, 0, none⟩ = some (.int .i64 p.1) := BelW.cell c3_0 (World.block_lt_of_cell? w3 _ c3_0)
  have kc3_1 : ∀ x : BelW w3.heap.size w3, x.1.cell? ⟨w.heap.size, 1, none⟩ = some (.int .i64 p.2) := BelW.cell c3_1 (World.block_lt_of_cell? w3 _ c3_1)
  have kc3_2 : ∀ x : BelW w3.heap.size w3, x.1.cell? ⟨w1.heap.size, 0, none⟩ = some (.int .i64 r1.1) := BelW.cell c3_2 (World.block_lt_of_cell? w3 _ c3_2)
  have kc3_3 : ∀ x : BelW w3.heap.size w3, x.1.cell? ⟨w1.heap.size, 1, none⟩ = some (.int .i64 r1.2) := BelW.cell c3_3 (World.block_lt_of_cell? w3 _ c3_3)
  refine wp_region_bel w3.heap.size w3 (by kernel_rfl) (by kernel_rfl) (Below.refl _ _) ?_
  repeat (go_big_quiet_step (fail))
  refine wpQuiet_nil ?_
  intro w4 hb4
  clear kc3_0 kc3_1 kc3_2 kc3_3
  have hB4 : Below w.heap.size w w4 := Below.trans (by first | exact hB3 | ((repeat' (first | exact hB3 | refine Below.setCell ?_ ?_ _ | refine Below.alloc ?_ ?_ _ | refine Below.drew ?_)) <;> (first | omega | (simp <;> omega)))) (hb4.mono (by first | omega | (simp <;> omega)))
  have hs4 : w.heap.size ≤ w4.heap.size := hB4.size
  have ht4 := hb4.size
  try simp only [World.size_alloc, World.size_setCell] at ht4
  have c4_0 : w4.cell? ⟨w.heap.size, 0, none⟩ = some (.int .i64 p.1) := (hb4.cell (p := ⟨w.heap.size, 0, none⟩) (by first | omega | (simp <;> omega))).trans (by first | exact c3_0 | simp [go_sem, c3_0, l3_0a, l3_0b, l3_0c, l3_0d, l3_1a, l3_1b, l3_1c, l3_1d])
  have c4_1 : w4.cell? ⟨w.heap.size, 1, none⟩ = some (.int .i64 p.2) := (hb4.cell (p := ⟨w.heap.size, 1, none⟩) (by first | omega | (simp <;> omega))).trans (by first | exact c3_1 | simp [go_sem, c3_1, l3_0a, l3_0b, l3_0c, l3_0d, l3_1a, l3_1b, l3_1c, l3_1d])
  have c4_2 : w4.cell? ⟨w1.heap.size, 0, none⟩ = some (.int .i64 r1.1) := (hb4.cell (p := ⟨w1.heap.size, 0, none⟩) (by first | omega | (simp <;> omega))).trans (by first | exact c3_2 | simp [go_sem, c3_2, l3_0a, l3_0b, l3_0c, l3_0d, l3_1a, l3_1b, l3_1c, l3_1d])
  have c4_3 : w4.cell? ⟨w1.heap.size, 1, none⟩ = some (.int .i64 r1.2) := (hb4.cell (p := ⟨w1.heap.size, 1, none⟩) (by first | omega | (simp <;> omega))).trans (by first | exact c3_3 | simp [go_sem, c3_3, l3_0a, l3_0b, l3_0c, l3_0d, l3_1a, l3_1b, l3_1c, l3_1d])
  have l4_0a : w.heap.size < w4.heap.size := World.block_lt_of_cell? w4 _ c4_0
  have l4_0b : w.heap.size < w4.heap.size + 1 := Nat.lt_succ_of_lt l4_0a
  have l4_0c : w.heap.size < w4.heap.size + 1 + 1 := Nat.lt_succ_of_lt l4_0b
  have l4_0d : w.heap.size < w4.heap.size + 1 + 1 + 1 := Nat.lt_succ_of_lt l4_0c
  have l4_1a : w1.heap.size < w4.heap.size := World.block_lt_of_cell? w4 _ c4_2
  have l4_1b : w1.heap.size < w4.heap.size + 1 := Nat.lt_succ_of_lt l4_1a
  have l4_1c : w1.heap.size < w4.heap.size + 1 + 1 := Nat.lt_succ_of_lt l4_1b
  have l4_1d : w1.heap.size < w4.heap.size + 1 + 1 + 1 := Nat.lt_succ_of_lt l4_1c
  have hkw2_4 : Below w2.heap.size w2 w4 := Below.trans (by first | exact hkw2_3 | ((repeat' (first | exact hkw2_3 | refine Below.setCell ?_ ?_ _ | refine Below.alloc ?_ ?_ _ | refine Below.drew ?_)) <;> (first | omega | (simp <;> omega)))) (hb4.mono (by first | omega | (simp <;> omega)))
  clear c3_0 c3_1 c3_2 c3_3 l3_0a l3_0b l3_0c l3_0d l3_1a l3_1b l3_1c l3_1d hkw2_3 hB3 hb4
  go_wp2_with fail
  refine wp_name ?_
  intro w5 hW5
  have hB5 : Below w.heap.size w w5 := by rw [hW5.out]; exact (by first | exact hB4 | ((repeat' (first | exact hB4 | refine Below.setCell ?_ ?_ _ | refine Below.alloc ?_ ?_ _ | refine Below.drew ?_)) <;> (first | omega | (simp <;> omega))))
  have hs5 : w.heap.size ≤ w5.heap.size := hB5.size
  have ht5 := congrArg (fun x : World => x.heap.size) hW5.out
  try simp only [World.size_alloc, World.size_setCell] at ht5
  have c5_0 : w5.cell? ⟨w.heap.size, 0, none⟩ = some (.int .i64 p.1) := by rw [hW5.out]; first | exact c4_0 | simp [go_sem, c4_0, l4_0a, l4_0b, l4_0c, l4_0d, l4_1a, l4_1b, l4_1c, l4_1d]
  have c5_1 : w5.cell? ⟨w.heap.size, 1, none⟩ = some (.int .i64 p.2) := by rw [hW5.out]; first | exact c4_1 | simp [go_sem, c4_1, l4_0a, l4_0b, l4_0c, l4_0d, l4_1a, l4_1b, l4_1c, l4_1d]
  have c5_2 : w5.cell? ⟨w1.heap.size, 0, none⟩ = some (.int .i64 r1.1) := by rw [hW5.out]; first | exact c4_2 | simp [go_sem, c4_2, l4_0a, l4_0b, l4_0c, l4_0d, l4_1a, l4_1b, l4_1c, l4_1d]
  have c5_3 : w5.cell? ⟨w1.heap.size, 1, none⟩ = some (.int .i64 r1.2) := by rw [hW5.out]; first | exact c4_3 | simp [go_sem, c4_3, l4_0a, l4_0b, l4_0c, l4_0d, l4_1a, l4_1b, l4_1c, l4_1d]
  have l5_0a : w.heap.size < w5.heap.size := World.block_lt_of_cell? w5 _ c5_0
  have l5_0b : w.heap.size < w5.heap.size + 1 := Nat.lt_succ_of_lt l5_0a
  have l5_0c : w.heap.size < w5.heap.size + 1 + 1 := Nat.lt_succ_of_lt l5_0b
  have l5_0d : w.heap.size < w5.heap.size + 1 + 1 + 1 := Nat.lt_succ_of_lt l5_0c
  have l5_1a : w1.heap.size < w5.heap.size := World.block_lt_of_cell? w5 _ c5_2
  have l5_1b : w1.heap.size < w5.heap.size + 1 := Nat.lt_succ_of_lt l5_1a
  have l5_1c : w1.heap.size < w5.heap.size + 1 + 1 := Nat.lt_succ_of_lt l5_1b
  have l5_1d : w1.heap.size < w5.heap.size + 1 + 1 + 1 := Nat.lt_succ_of_lt l5_1c
  have hkw2_5 : Below w2.heap.size w2 w5 := by rw [hW5.out]; exact (by first | exact hkw2_4 | ((repeat' (first | exact hkw2_4 | refine Below.setCell ?_ ?_ _ | refine Below.alloc ?_ ?_ _ | refine Below.drew ?_)) <;> (first | omega | (simp <;> omega))))
  have hu5 := Nat.le_of_eq ht5
  have hv5 := Nat.le_of_eq ht5.symm
  clear ht5 c4_0 c4_1 c4_2 c4_3 l4_0a l4_0b l4_0c l4_0d l4_1a l4_1b l4_1c l4_1d hkw2_4 hB4 hW5
  exact HR.out _ _ (TBmid.mk (by kernel_rfl) ⟨hB5, c5_0, c5_1⟩)
set_option maxRecDepth 100000 in
set_option maxHeartbeats 8000000 in
theorem treeBack_3c (A : Option Addr) (l : List Pf) (c : Nat) (p : Pf) (a : Int) (hm : l.length ≤ maxLen) (w : World) (hg : ErrVar w) (hl : Rd w w.heap.size A (cellsP l)) (hp : findFault l a = 0) (hlt : (findRes l a).2 < 32) (Q : Exit → Act → World → Prop) (s0 : Act) (w0 : World) (h0 : TBmid A l c p a w s0 w0)
    (h : ∀ a' w', TBmid A l c p a w a' w' → (tailN 2 (tailN 2 (tailN 3 (Tryd.f6.body.getD .skip)))).wp Tryd.prog Q a' w') :
    (tailN 2 (tailN 3 (Tryd.f6.body.getD .skip))).wp Tryd.prog Q s0 w0 := by
  have HG := Lib.hid hg
  clear hg
  obtain ⟨ht, ha, _⟩ := findFault_zero hp
  obtain ⟨r1, hr⟩ : ∃ r, r = findRes l a := ⟨_, rfl⟩
  have HRr := Lib.hid hr
  obtain ⟨U1, hU⟩ : ∃ U, U = l.filter (aboveOf (a, 32)) := ⟨_, rfl⟩
  have HU := Lib.hid hU
  have HT := Lib.hid (treeFault2_zero.2 ⟨ht, chk32 ha⟩)
  have hUl : U1.length ≤ 60 := by subst hU; exact Nat.le_trans (List.length_filter_le _ _) (tree_good ht).1
  have hlt1 : r1.2 < 32 := by subst hr; exact hlt
  have hfu := found_up2 hp hlt
  rw [← hU, ← hr] at hfu
  obtain ⟨hn, hlast⟩ := hfu
  obtain ⟨j, hj⟩ : ∃ j, U1.length = j + 1 := ⟨U1.length - 1, by omega⟩
  have hjl : j < U1.length := by omega
  have hltd : decide (r1.2 < 32) = true := by simpa using hlt1
  have hjz : ((j : Int) + 1 == 0) = false := by simp; omega
  have hjz' : ¬ ((j : Int) + 1 = 0) := by omega
  have HLast : Hid (U1[j] = r1) := by rw [← hlast]; congr 1; omega
  have HP := Lib.hid hp
  clear hp hlt hr hU ht ha hn hlast
  obtain ⟨U, rfl, hB0, c0_0, c0_1⟩ := h0
  refine wp_cut 2 (TBmid A l c p a w) (by rfl) ?_ h
  clear h
  intro r HR
  dsimp only [Tryd.f6, Option.getD, tailN, putN]
  have hs0 := hB0.size
  have l0_0a : w.heap.size < w0.heap.size := World.block_lt_of_cell? w0 _ c0_0
  have l0_0b : w.heap.size < w0.heap.size + 1 := Nat.lt_succ_of_lt l0_0a
  have l0_0c : w.heap.size < w0.heap.size + 1 + 1 := Nat.lt_succ_of_lt l0_0b
  have l0_0d : w.heap.size < w0.heap.size + 1 + 1 + 1 := Nat.lt_succ_of_lt l0_0c
  go_wp2_with fail
  refine (find_ok A l c a HP.out _ ((hl.below (show Below w.heap.size w _ from (by first | exact hB0 | ((repeat' (first | exact hB0 | refine Below.setCell ?_ ?_ _ | refine Below.alloc ?_ ?_ _ | refine Below.drew ?_)) <;> (first | omega | (simp <;> omega)))))).more (show w.heap.size ≤ _ from by first | omega | (simp <;> omega)))).mono ?_
  rintro e w1 ⟨rfl, hb1⟩
  have hB1 : Below w.heap.size w w1 := Below.trans (by first | exact hB0 | ((repeat' (first | exact hB0 | refine Below.setCell ?_ ?_ _ | refine Below.alloc ?_ ?_ _ | refine Below.drew ?_)) <;> (first | omega | (simp <;> omega)))) (hb1.mono (by first | omega | (simp <;> omega)))
  have hs1 : w.heap.size ≤ w1.heap.size := hB1.size
  have ht1 := hb1.size
  try simp only [World.size_alloc, World.size_setCell] at ht1
  have c1_0 : w1.cell? ⟨w.heap.size, 0, none⟩ = some (.int .i64 p.1) := (hb1.cell (p := ⟨w.heap.size, 0, none⟩) (by first | omega | (simp <;> omega))).trans (by first | exact c0_0 | simp [go_sem, c0_0, l0_0a, l0_0b, l0_0c, l0_0d])
  have c1_1 : w1.cell? ⟨w.heap.size, 1, none⟩ = some (.int .i64 p.2) := (hb1.cell (p := ⟨w.heap.size, 1, none⟩) (by first | omega | (simp <;> omega))).trans (by first | exact c0_1 | simp [go_sem, c0_1, l0_0a, l0_0b, l0_0c, l0_0d])
  have l1_0a : w.heap.size < w1.heap.size := World.block_lt_of_cell? w1 _ c1_0
  have l1_0b : w.heap.size < w1.heap.size + 1 := Nat.lt_succ_of_lt l1_0a
  have l1_0c : w.heap.size < w1.heap.size + 1 + 1 := Nat.lt_succ_of_lt l1_0b
  have l1_0d : w.heap.size < w1.heap.size + 1 + 1 + 1 := Nat.lt_succ_of_lt l1_0c
  clear c0_0 c0_1 l0_0a l0_0b l0_0c l0_0d hB0 hb1
  rw [← HRr.out]
  go_wp2_with fail
  refine (above_ok A l c (a, 32) HT.out _ ((hl.below (show Below w.heap.size w _ from (by first | exact hB1 | ((repeat' (first | exact hB1 | refine Below.setCell ?_ ?_ _ | refine Below.alloc ?_ ?_ _ | refine Below.drew ?_)) <;> (first | omega | (simp <;> omega)))))).more (show w.heap.size ≤ _ from by first | omega | (simp <;> omega)))).mono ?_
  rintro e w2 ⟨v2, rfl, hown2, hb2⟩
  have hB2 : Below w.heap.size w w2 := Below.trans (by first | exact hB1 | ((repeat' (first | exact hB1 | refine Below.setCell ?_ ?_ _ | refine Below.alloc ?_ ?_ _ | refine Below.drew ?_)) <;> (first | omega | (simp <;> omega)))) (hb2.mono (by first | omega | (simp <;> omega)))
  have hs2 : w.heap.size ≤ w2.heap.size := hB2.size
  have ht2 := hb2.size
  try simp only [World.size_alloc, World.size_setCell] at ht2
  have c2_0 : w2.cell? ⟨w.heap.size, 0, none⟩ = some (.int .i64 p.1) := (hb2.cell (p := ⟨w.heap.size, 0, none⟩) (by first | omega | (simp <;> omega))).trans (by first | exact c1_0 | simp [go_sem, c1_0, l1_0a, l1_0b, l1_0c, l1_0d])
  have c2_1 : w2.cell? ⟨w.heap.size, 1, none⟩ = some (.int .i64 p.2) := (hb2.cell (p := ⟨w.heap.size, 1, none⟩) (by first | omega | (simp <;> omega))).trans (by first | exact c1_1 | simp [go_sem, c1_1, l1_0a, l1_0b, l1_0c, l1_0d])
  have c2_2 : w2.cell? ⟨w1.heap.size, 0, none⟩ = some (.int .i64 r1.1) := (hb2.cell (p := ⟨w1.heap.size, 0, none⟩) (by first | omega | (simp <;> omega))).trans (by first | (simp; done) | simp [go_sem, l1_0a, l1_0b, l1_0c, l1_0d, c1_0, c1_1])
  have c2_3 : w2.cell? ⟨w1.heap.size, 1, none⟩ = some (.int .i64 r1.2) := (hb2.cell (p := ⟨w1.heap.size, 1, none⟩) (by first | omega | (simp <;> omega))).trans (by first | (simp; done) | simp [go_sem, l1_0a, l1_0b, l1_0c, l1_0d, c1_0, c1_1])
  have l2_0a : w.heap.size < w2.heap.size := World.block_lt_of_cell? w2 _ c2_0
  have l2_0b : w.heap.size < w2.heap.size + 1 := Nat.lt_succ_of_lt l2_0a
  have l2_0c : w.heap.size < w2.heap.size + 1 + 1 := Nat.lt_succ_of_lt l2_0b
  have l2_0d : w.heap.size < w2.heap.size + 1 + 1 + 1 := Nat.lt_succ_of_lt l2_0c
  have l2_1a : w1.heap.size < w2.heap.size := World.block_lt_of_cell? w2 _ c2_2
  have l2_1b : w1.heap.size < w2.heap.size + 1 := Nat.lt_succ_of_lt l2_1a
  have l2_1c : w1.heap.size < w2.heap.size + 1 + 1 := Nat.lt_succ_of_lt l2_1b
  have l2_1d : w1.heap.size < w2.heap.size + 1 + 1 + 1 := Nat.lt_succ_of_lt l2_1c
  clear c1_0 c1_1 l1_0a l1_0b l1_0c l1_0d hB1 hb2
  rw [← HU.out] at hown2
  obtain ⟨A2, c2, rfl, hr2⟩ := hown2.form
  clear hown2
  rw [hj]
  go_wp2_with fail
  refine wp_name ?_
  intro w3 hW3
  have hB3 : Below w.heap.size w w3 := by rw [hW3.out]; exact (by first | exact hB2 | ((repeat' (first | exact hB2 | refine Below.setCell ?_ ?_ _ | refine Below.alloc ?_ ?_ _ | refine Below.drew ?_)) <;> (first | omega | (simp <;> omega))))
  have hs3 : w.heap.size ≤ w3.heap.size := hB3.size
  have ht3 := congrArg (fun x : World => x.heap.size) hW3.out
  try simp only [World.size_alloc, World.size_setCell] at ht3
  have c3_0 : w3.cell? ⟨w.heap.size, 0, none⟩ = some (.int .i64 p.1) := by rw [hW3.out]; first | exact c2_0 | simp [go_sem, c2_0, l2_0a, l2_0b, l2_0c, l2_0d, l2_1a, l2_1b, l2_1c, l2_1d]
  have c3_1 : w3.cell? ⟨w.heap.size, 1, none⟩ = some (.int .i64 p.2) := by rw [hW3.out]; first | exact c2_1 | simp [go_sem, c2_1, l2_0a, l2_0b, l2_0c, l2_0d, l2_1a, l2_1b, l2_1c, l2_1d]
  have c3_2 : w3.cell? ⟨w1.heap.size, 0, none⟩ = some (.int .i64 r1.1) := by rw [hW3.out]; first | exact c2_2 | simp [go_sem, c2_2, l2_0a, l2_0b, l2_0c, l2_0d, l2_1a, l2_1b, l2_1c, l2_1d]
  have c3_3 : w3.cell? ⟨w1.heap.size, 1, none⟩ = some (.int .i64 r1.2) := by rw [hW3.out]; first | exact c2_3 | simp [go_sem, c2_3, l2_0a, l2_0b, l2_0c, l2_0d, l2_1a, l2_1b, l2_1c, l2_1d]
  have l3_0a : w.heap.size < w3.heap.size := World.block_lt_of_cell? w3 _ c3_0
  have l3_0b : w.heap.size < w3.heap.size + 1 := Nat.lt_succ_of_lt l3_0a
  have l3_0c : w.heap.size < w3.heap.size + 1 + 1 := Nat.lt_succ_of_lt l3_0b
  have l3_0d : w.heap.size < w3.heap.size + 1 + 1 + 1 := Nat.lt_succ_of_lt l3_0c
  have l3_1a : w1.heap.size < w3.heap.size := World.block_lt_of_cell? w3 _ c3_2
  have l3_1b : w1.heap.size < w3.heap.size + 1 := Nat.lt_succ_of_lt l3_1a
  have l3_1c : w1.heap.size < w3.heap.size + 1 + 1 := Nat.lt_succ_of_lt l3_1b
  have l3_1d : w1.heap.size < w3.heap.size + 1 + 1 + 1 := Nat.lt_succ_of_lt l3_1c
  have hkw2_3 : Below w2.heap.size w2 w3 := by rw [hW3.out]; exact (by first | exact Below.refl _ _ | ((repeat' (first | exact Below.refl _ _ | refine Below.setCell ?_ ?_ _ | refine Below.alloc ?_ ?_ _ | refine Below.drew ?_)) <;> (first | omega | (simp <;> omega))))
  have hu3 := Nat.le_of_eq ht3
  have hv3 := Nat.le_of_eq ht3.symm
  clear ht3 c2_0 c2_1 c2_2 c2_3 l2_0a l2_0b l2_0c l2_0d l2_1a l2_1b l2_1c l2_1d hB2 hW3
  obtain ⟨b2, off2, rfl, hbb2, d0, d1⟩ := (hr2.below hkw2_3).pair (k := j) (by omega)
  rw [HLast.out] at d0 d1
  have kd0 : ∀ x : BelW w3.heap.size w3, x.1.cell? ⟨b2, off2 + j * 2, none⟩ = some (.int .i64 r1.1) := BelW.cell d0 (by simp; omega)
  have kd1 : ∀ x : BelW w3.heap.size w3, x.1.cell? ⟨b2, off2 + j * 2 + 1, none⟩ = some (.int .i64 r1.2) := BelW.cell d1 (by simp; omega)
  have kc3_0 : ∀ x : BelW w3.heap.size w3, x.1.cell? ⟨w.heap.size, 0, none⟩ = some (.int .i64 p.1) := BelW.cell c3_0 (World.block_lt_of_cell? w3 _ c3_0)
  have kc3_1 : ∀ x : BelW w3.heap.size w3, x.1.cell? ⟨w.heap.size, 1, none⟩ = some (.int .i64 p.2) := BelW.cell c3_1 (World.block_lt_of_cell? w3 _ c3_1)
  have kc3_2 : ∀ x : BelW w3.heap.size w3, x.1.cell? ⟨w1.heap.size, 0, none⟩ = some (.int .i64 r1.1) := BelW.cell c3_2 (World.block_lt_of_cell? w3 _ c3_2)
  have kc3_3 : ∀ x : BelW w3.heap.size w3, x.1.cell? ⟨w1.heap.size, 1, none⟩ = some (.int .i64 r1.2) := BelW.cell c3_3 (World.block_lt_of_cell? w3 _ c3_3)
  refine wp_region_bel w3.heap.size w3 (by kernel_rfl) (by kernel_rfl) (Below.refl _ _) ?_
  repeat (go_big_quiet_step (fail))
  refine wpQuiet_nil ?_
  intro w4 hb4
  clear kc3_0 kc3_1 kc3_2 kc3_3 kd0 kd1
  have hB4 : Below w.heap.size w w4 := Below.trans (by first | exact hB3 | ((repeat' (first | exact hB3 | refine Below.setCell ?_ ?_ _ | refine Below.alloc ?_ ?_ _ | refine Below.drew ?_)) <;> (first | omega | (simp <;> omega)))) (hb4.mono (by first | omega | (simp <;> omega)))
  have hs4 : w.heap.size ≤ w4.heap.size := hB4.size
  have ht4 := hb4.size
  try simp only [World.size_alloc, World.size_setCell] at ht4
  have c4_0 : w4.cell? ⟨w.heap.size, 0, none⟩ = some (.int .i64 p.1) := (hb4.cell (p := ⟨w.heap.size, 0, none⟩) (by first | omega | (simp <;> omega))).trans (by first | exact c3_0 | simp [go_sem, c3_0, l3_0a, l3_0b, l3_0c, l3_0d, l3_1a, l3_1b, l3_1c, l3_1d])
  have c4_1 : w4.cell? ⟨w.heap.size, 1, none⟩ = some (.int .i64 p.2) := (hb4.cell (p := ⟨w.heap.size, 1, none⟩) (by first | omega | (simp <;> omega))).trans (by first | exact c3_1 | simp [go_sem, c3_1, l3_0a, l3_0b, l3_0c, l3_0d, l3_1a, l3_1b, l3_1c, l3_1d])
  have c4_2 : w4.cell? ⟨w1.heap.size, 0, none⟩ = some (.int .i64 r1.1) := (hb4.cell (p := ⟨w1.heap.size, 0, none⟩) (by first | omega | (simp <;> omega))).trans (by first | exact c3_2 | simp [go_sem, c3_2, l3_0a, l3_0b, l3_0c, l3_0d, l3_1a, l3_1b, l3_1c, l3_1d])
  have c4_3 : w4.cell? ⟨w1.heap.size, 1, none⟩ = some (.int .i64 r1.2) := (hb4.cell (p := ⟨w1.heap.size, 1, none⟩) (by first | omega | (simp <;> omega))).trans (by first | exact c3_3 | simp [go_sem, c3_3, l3_0a, l3_0b, l3_0c, l3_0d, l3_1a, l3_1b, l3_1c, l3_1d])
  have l4_0a : w.heap.size < w4.heap.size := World.block_lt_of_cell? w4 _ c4_0
  have l4_0b : w.heap.size < w4.heap.size + 1 := Nat.lt_succ_of_lt l4_0a
  have l4_0c : w.heap.size < w4.heap.size + 1 + 1 := Nat.lt_succ_of_lt l4_0b
  have l4_0d : w.heap.size < w4.heap.size + 1 + 1 + 1 := Nat.lt_succ_of_lt l4_0c
  have l4_1a : w1.heap.size < w4.heap.size := World.block_lt_of_cell? w4 _ c4_2
  have l4_1b : w1.heap.size < w4.heap.size + 1 := Nat.lt_succ_of_lt l4_1a
  have l4_1c : w1.heap.size < w4.heap.size + 1 + 1 := Nat.lt_succ_of_lt l4_1b
  have l4_1d : w1.heap.size < w4.heap.size + 1 + 1 + 1 := Nat.lt_succ_of_lt l4_1c
  have hkw2_4 : Below w2.heap.size w2 w4 := Below.trans (by first | exact hkw2_3 | ((repeat' (first | exact hkw2_3 | refine Below.setCell ?_ ?_ _ | refine Below.alloc ?_ ?_ _ | refine Below.drew ?_)) <;> (first | omega | (simp <;> omega)))) (hb4.mono (by first | omega | (simp <;> omega)))
  clear c3_0 c3_1 c3_2 c3_3 l3_0a l3_0b l3_0c l3_0d l3_1a l3_1b l3_1c l3_1d hkw2_3 hB3 hb4
  go_wp2_with fail
  refine wp_name ?_
  intro w5 hW5
  have hB5 : Below w.heap.size w w5 := by rw [hW5.out]; exact (by first | exact hB4 | ((repeat' (first | exact hB4 | refine Below.setCell ?_ ?_ _ | refine Below.alloc ?_ ?_ _ | refine Below.drew ?_)) <;> (first | omega | (simp <;> omega))))
  have hs5 : w.heap.size ≤ w5.heap.size := hB5.size
  have ht5 := congrArg (fun x : World => x.heap.size) hW5.out
  try simp only [World.size_alloc, World.size_setCell] at ht5
  have c5_0 : w5.cell? ⟨w.heap.size, 0, none⟩ = some (.int .i64 p.1) := by rw [hW5.out]; first | exact c4_0 | simp [go_sem, c4_0, l4_0a, l4_0b, l4_0c, l4_0d, l4_1a, l4_1b, l4_1c, l4_1d]
  have c5_1 : w5.cell? ⟨w.heap.size, 1, none⟩ = some (.int .i64 p.2) := by rw [hW5.out]; first | exact c4_1 | simp [go_sem, c4_1, l4_0a, l4_0b, l4_0c, l4_0d, l4_1a, l4_1b, l4_1c, l4_1d]
  have c5_2 : w5.cell? ⟨w1.heap.size, 0, none⟩ = some (.int .i64 r1.1) := by rw [hW5.out]; first | exact c4_2 | simp [go_sem, c4_2, l4_0a, l4_0b, l4_0c, l4_0d, l4_1a, l4_1b, l4_1c, l4_1d]
  have c5_3 : w5.cell? ⟨w1.heap.size, 1, none⟩ = some (.int .i64 r1.2) := by rw [hW5.out]; first | exact c4_3 | simp [go_sem, c4_3, l4_0a, l4_0b, l4_0c, l4_0d, l4_1a, l4_1b, l4_1c, l4_1d]
  have l5_0a : w.heap.size < w5.heap.size := World.block_lt_of_cell? w5 _ c5_0
  have l5_0b : w.heap.size < w5.heap.size + 1 := Nat.lt_succ_of_lt l5_0a
  have l5_0c : w.heap.size < w5.heap.size + 1 + 1 := Nat.lt_succ_of_lt l5_0b
  have l5_0d : w.heap.size < w5.heap.size + 1 + 1 + 1 := Nat.lt_succ_of_lt l5_0c
  have l5_1a : w1.heap.size < w5.heap.size := World.block_lt_of_cell? w5 _ c5_2
  have l5_1b : w1.heap.size < w5.heap.size + 1 := Nat.lt_succ_of_lt l5_1a
  have l5_1c : w1.heap.size < w5.heap.size + 1 + 1 := Nat.lt_succ_of_lt l5_1b
  have l5_1d : w1.heap.size < w5.heap.size + 1 + 1 + 1 := Nat.lt_succ_of_lt l5_1c
  have hkw2_5 : Below w2.heap.size w2 w5 := by rw [hW5.out]; exact (by first | exact hkw2_4 | ((repeat' (first | exact hkw2_4 | refine Below.setCell ?_ ?_ _ | refine Below.alloc ?_ ?_ _ | refine Below.drew ?_)) <;> (first | omega | (simp <;> omega))))
  have hu5 := Nat.le_of_eq ht5
  have hv5 := Nat.le_of_eq ht5.symm
  clear ht5 c4_0 c4_1 c4_2 c4_3 l4_0a l4_0b l4_0c l4_0d l4_1a l4_1b l4_1c l4_1d hkw2_4 hB4 hW5
  exact HR.out _ _ (TBmid.mk (by kernel_rfl) ⟨hB5, c5_0, c5_1⟩)
set_option maxRecDepth 100000 in
set_option maxHeartbeats 8000000 in
theorem treeBack_4a (A : Option Addr) (l : List Pf) (c : Nat) (p : Pf) (a : Int) (hm : l.length ≤ maxLen) (w : World) (hg : ErrVar w) (hl : Rd w w.heap.size A (cellsP l)) (hp : treeFault l ≠ 0) (s0 : Act) (w0 : World) (h0 : TBmid A l c p a w s0 w0) :
    (tailN 2 (tailN 2 (tailN 3 (Tryd.f6.body.getD .skip)))).wp Tryd.prog (bodyPost Tryd.prog Tryd.f6 fun e w' => e = .returned (.bool true) ∧ Below w.heap.size w w') s0 w0 := by
  have HP := Lib.hid hp
  clear hp
  obtain ⟨U, rfl, hB0, c0_0, c0_1⟩ := h0
  dsimp only [Tryd.f6, Option.getD, tailN, putN]
  have hs0 := hB0.size
  have l0_0a : w.heap.size < w0.heap.size := World.block_lt_of_cell? w0 _ c0_0
  have l0_0b : w.heap.size < w0.heap.size + 1 := Nat.lt_succ_of_lt l0_0a
  have l0_0c : w.heap.size < w0.heap.size + 1 + 1 := Nat.lt_succ_of_lt l0_0b
  have l0_0d : w.heap.size < w0.heap.size + 1 + 1 + 1 := Nat.lt_succ_of_lt l0_0c
  go_wp2_with fail
  refine (roots_bad A l c hm HP.out _ ((hl.below (show Below w.heap.size w _ from (by first | exact hB0 | ((repeat' (first | exact hB0 | refine Below.setCell ?_ ?_ _ | refine Below.alloc ?_ ?_ _ | refine Below.drew ?_)) <;> (first | omega | (simp <;> omega)))))).more (show w.heap.size ≤ _ from by first | omega | (simp <;> omega)))).mono ?_
  rintro e w1 ⟨rfl, hb1⟩
  have hB1 : Below w.heap.size w w1 := Below.trans (by first | exact hB0 | ((repeat' (first | exact hB0 | refine Below.setCell ?_ ?_ _ | refine Below.alloc ?_ ?_ _ | refine Below.drew ?_)) <;> (first | omega | (simp <;> omega)))) (hb1.mono (by first | omega | (simp <;> omega)))
  have hs1 : w.heap.size ≤ w1.heap.size := hB1.size
  have ht1 := hb1.size
  try simp only [World.size_alloc, World.size_setCell] at ht1
  have c1_0 : w1.cell? ⟨w.heap.size, 0, none⟩ = some (.int .i64 p.1) := (hb1.cell (p := ⟨w.heap.size, 0, none⟩) (by first | omega | (simp <;> omega))).trans (by first | exact c0_0 | simp [go_sem, c0_0, l0_0a, l0_0b, l0_0c, l0_0d])
  have c1_1 : w1.cell? ⟨w.heap.size, 1, none⟩ = some (.int .i64 p.2) := (hb1.cell (p := ⟨w.heap.size, 1, none⟩) (by first | omega | (simp <;> omega))).trans (by first | exact c0_1 | simp [go_sem, c0_1, l0_0a, l0_0b, l0_0c, l0_0d])
  have l1_0a : w.heap.size < w1.heap.size := World.block_lt_of_cell? w1 _ c1_0
  have l1_0b : w.heap.size < w1.heap.size + 1 := Nat.lt_succ_of_lt l1_0a
  have l1_0c : w.heap.size < w1.heap.size + 1 + 1 := Nat.lt_succ_of_lt l1_0b
  have l1_0d : w.heap.size < w1.heap.size + 1 + 1 + 1 := Nat.lt_succ_of_lt l1_0c
  clear c0_0 c0_1 l0_0a l0_0b l0_0c l0_0d hB0 hb1
  go_wp2
  go_ret
  exact ⟨rfl, (by first | exact hB1 | ((repeat' (first | exact hB1 | refine Below.setCell ?_ ?_ _ | refine Below.alloc ?_ ?_ _ | refine Below.drew ?_)) <;> (first | omega | (simp <;> omega))))⟩
set_option maxRecDepth 100000 in
set_option maxHeartbeats 8000000 in
theorem treeBack_4b (A : Option Addr) (l : List Pf) (c : Nat) (p : Pf) (a : Int) (hm : l.length ≤ maxLen) (w : World) (hg : ErrVar w) (hl : Rd w w.heap.size A (cellsP l)) (hp : treeFault l = 0) (s0 : Act) (w0 : World) (h0 : TBmid A l c p a w s0 w0) :
    (tailN 2 (tailN 2 (tailN 3 (Tryd.f6.body.getD .skip)))).wp Tryd.prog (bodyPost Tryd.prog Tryd.f6 fun e w' => e = .returned (.bool true) ∧ Below w.heap.size w w') s0 w0 := by
  obtain ⟨g1, g2, g3⟩ := tree_good hp
  have HC0 := Lib.hid (cnt_zero g2 g3)
  have HCS : Hid (∀ k (h : k < l.length), cntK l (k + 1) = cntK l k + (tops (l.filter (belowOf l[k]))).length) := fun k h => cnt_succ g2 g3 h
  have HCA := Lib.hid (cnt_all (l := l))
  have HLE : Hid (∀ k, cntK l k ≤ l.length) := cnt_le l
  have HV := Lib.hid g2
  have HP := Lib.hid hp
  clear hp g2 g3
  obtain ⟨U, rfl, hB0, c0_0, c0_1⟩ := h0
  dsimp only [Tryd.f6, Option.getD, tailN, putN]
  have hs0 := hB0.size
  have l0_0a : w.heap.size < w0.heap.size := World.block_lt_of_cell? w0 _ c0_0
  have l0_0b : w.heap.size < w0.heap.size + 1 := Nat.lt_succ_of_lt l0_0a
  have l0_0c : w.heap.size < w0.heap.size + 1 + 1 := Nat.lt_succ_of_lt l0_0b
  have l0_0d : w.heap.size < w0.heap.size + 1 + 1 + 1 := Nat.lt_succ_of_lt l0_0c
  go_wp2_with fail
  refine (roots_ok A l c HP.out _ ((hl.below (show Below w.heap.size w _ from (by first | exact hB0 | ((repeat' (first | exact hB0 | refine Below.setCell ?_ ?_ _ | refine Below.alloc ?_ ?_ _ | refine Below.drew ?_)) <;> (first | omega | (simp <;> omega)))))).more (show w.heap.size ≤ _ from by first | omega | (simp <;> omega)))).mono ?_
  rintro e w1 ⟨v1, rfl, hown1, hb1⟩
  have hB1 : Below w.heap.size w w1 := Below.trans (by first | exact hB0 | ((repeat' (first | exact hB0 | refine Below.setCell ?_ ?_ _ | refine Below.alloc ?_ ?_ _ | refine Below.drew ?_)) <;> (first | omega | (simp <;> omega)))) (hb1.mono (by first | omega | (simp <;> omega)))
  have hs1 : w.heap.size ≤ w1.heap.size := hB1.size
  have ht1 := hb1.size
  try simp only [World.size_alloc, World.size_setCell] at ht1
  have c1_0 : w1.cell? ⟨w.heap.size, 0, none⟩ = some (.int .i64 p.1) := (hb1.cell (p := ⟨w.heap.size, 0, none⟩) (by first | omega | (simp <;> omega))).trans (by first | exact c0_0 | simp [go_sem, c0_0, l0_0a, l0_0b, l0_0c, l0_0d])
  have c1_1 : w1.cell? ⟨w.heap.size, 1, none⟩ = some (.int .i64 p.2) := (hb1.cell (p := ⟨w.heap.size, 1, none⟩) (by first | omega | (simp <;> omega))).trans (by first | exact c0_1 | simp [go_sem, c0_1, l0_0a, l0_0b, l0_0c, l0_0d])
  have l1_0a : w.heap.size < w1.heap.size := World.block_lt_of_cell? w1 _ c1_0
  have l1_0b : w.heap.size < w1.heap.size + 1 := Nat.lt_succ_of_lt l1_0a
  have l1_0c : w.heap.size < w1.heap.size + 1 + 1 := Nat.lt_succ_of_lt l1_0b
  have l1_0d : w.heap.size < w1.heap.size + 1 + 1 + 1 := Nat.lt_succ_of_lt l1_0c
  clear c0_0 c0_1 l0_0a l0_0b l0_0c l0_0d hB0 hb1
  obtain ⟨A1, c1, rfl, hr1⟩ := hown1.form
  rw [← HC0.out]
  clear hown1 hr1
  go_wp2_with fail
  go_loopw [23, 24, 25, 26] (fun s i _ _ wr => ∃ k : Nat, k ≤ l.length ∧ i = .int .i64 k ∧ s = .int .i64 (cntK l k : Nat) ∧ Below w.heap.size w wr) (fun _ i _ _ _ => l.length - (intOf i).toNat)
  case atStart => exact ⟨0, Nat.zero_le _, rfl, rfl, (by first | exact hB1 | ((repeat' (first | exact hB1 | refine Below.setCell ?_ ?_ _ | refine Below.alloc ?_ ?_ _ | refine Below.drew ?_)) <;> (first | omega | (simp <;> omega))))⟩
  case round =>
    obtain ⟨k, hk, rfl, rfl, hb⟩ := hrel
    by_cases hlt : k < l.length
    · have hs := hb.size
      obtain ⟨b, off, e0, hbb, d0, d1⟩ := (hl.below hb).pair hlt
      obtain ⟨t, ht⟩ : ∃ t, t = (tops (l.filter (belowOf l[k]))).length := ⟨_, rfl⟩
      have hsum : cntK l (k + 1) = cntK l k + t := by rw [ht]; exact HCS.out k hlt
      have hle := HLE.out (k + 1)
      obtain ⟨u, hu⟩ : ∃ u, u = cntK l k := ⟨_, rfl⟩
      have HB := Lib.hid (HV.out l[k] (List.getElem_mem _))
      have HTt := Lib.hid ht
      have hlr := (hl.below hb).more hs
      have HS := Lib.hid hsum
      rw [← hu]
      have hu60 : u + t ≤ 60 := by omega
      clear ht hsum
      subst e0
      go_wp2_with fail
      refine (below_ok _ l c l[k] (treeFault2_zero.2 ⟨HP.out, HB.out⟩) wr hlr).mono ?_
      rintro e w3 ⟨v, rfl, hown, hb3⟩
      obtain ⟨A3, c3, rfl, _⟩ := hown.form
      rw [← HTt.out]
      clear hown d0 d1 hlr
      go_wp2
      go_roundw
      case rel => exact ⟨k + 1, by omega, by go_num, by rw [HS.out, ← hu]; go_num, hb.trans (hb3.mono hs)⟩
      case measure => simp [intOf]; omega
    · obtain rfl : k = l.length := by omega
      rw [HCA.out]
      go_wp2
      go_ret
      exact ⟨rfl, hb⟩

theorem treeBack_walk (A : Option Addr) (l : List Pf) (c : Nat) (hm : l.length ≤ maxLen) (a0 n0 : Int) (a : Int) (wa : (Lit.int .i64 a).wf = true) (w : World) (hg : ErrVar w) (hl : Rd w w.heap.size A (cellsP l)) :
    Calls Tryd.prog 6 #[.slice A l.length c, .agg #[.int .i64 a0, .int .i64 n0], .int .i64 a] w fun e w' => e = .returned (.bool true) ∧ Below w.heap.size w w' := by
  refine treeBack_1 A l c (a0, n0) a hm w hg hl _ fun s1 w1 h1 => ?_
  have h4 : ∀ s0 w0, TBmid A l c (a0, n0) a w s0 w0 → (tailN 2 (tailN 2 (tailN 3 (Tryd.f6.body.getD .skip)))).wp Tryd.prog (bodyPost Tryd.prog Tryd.f6 fun e w' => e = .returned (.bool true) ∧ Below w.heap.size w w') s0 w0 := fun s0 w0 h0 => by
    by_cases ht : treeFault l = 0
    · exact treeBack_4b A l c (a0, n0) a hm w hg hl ht s0 w0 h0
    · exact treeBack_4a A l c (a0, n0) a hm w hg hl ht s0 w0 h0
  have h3 : ∀ s0 w0, TBmid A l c (a0, n0) a w s0 w0 → (tailN 2 (tailN 3 (Tryd.f6.body.getD .skip))).wp Tryd.prog (bodyPost Tryd.prog Tryd.f6 fun e w' => e = .returned (.bool true) ∧ Below w.heap.size w w') s0 w0 := fun s0 w0 h0 => by
    by_cases hf : findFault l a = 0
    · by_cases hlt : (findRes l a).2 < 32
      · exact treeBack_3c A l c (a0, n0) a hm w hg hl hf hlt _ s0 w0 h0 h4
      · exact treeBack_3b A l c (a0, n0) a hm w hg hl hf hlt _ s0 w0 h0 h4
    · exact treeBack_3a A l c (a0, n0) a hm w hg hl hf _ s0 w0 h0 h4
  by_cases hp : putFault l (a0, n0) = 0
  · exact treeBack_2b A l c (a0, n0) a hm w hg hl hp _ s1 w1 h1 h3
  · exact treeBack_2a A l c (a0, n0) a hm w hg hl hp _ s1 w1 h1 h3
end Go.Proofs.YtcgeagobndhpjaaDoor
