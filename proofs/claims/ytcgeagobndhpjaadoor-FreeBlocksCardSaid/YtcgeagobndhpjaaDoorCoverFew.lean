/- The law CoverFew: the walk of its own text, by the contracts of package cover. Any span, any prefixes. -/
import Derived.Test.YtcgeagobndhpjaaDoorCover
import Derived.Test.YtcgeagobndhpjaaDoorMake
import Derived.Test.YtcgeagobndhpjaaDoorSame
import Derived.Test.YtcgeagobndhpjaaDoorAddr2
import Derived.Test.YtcgeagobndhpjaaDoorCut
namespace Go.Proofs.YtcgeagobndhpjaaDoor
set_option linter.unusedVariables false
set_option linter.unusedSimpArgs false
open Go.RowKit

def CFmid (s : Sp) (A : Option Addr) (l : List Pf) (c : Nat) (w : World) (a' : Act) (w' : World) : Prop :=
  ∃ (U : Nat → Value) , a' = { tmps := #[.agg #[.int .i64 s.1, .int .i64 s.2], .slice A l.length c, .pointer (some ⟨w.heap.size, 0, none⟩), U 3, U 4, U 5, U 6, U 7, U 8, U 9, U 10, U 11, U 12, U 13, U 14, U 15, U 16, U 17, U 18, U 19, U 20, U 21, U 22, U 23, U 24, U 25, U 26, U 27, U 28, U 29, U 30, U 31, U 32, U 33, U 34, U 35, U 36, U 37, U 38, U 39, U 40, U 41, U 42, U 43, U 44, U 45, U 46, U 47, U 48, U 49, U 50, U 51, U 52, U 53, U 54, U 55, U 56, U 57, U 58, U 59, U 60, U 61, U 62, U 63, U 64, U 65, U 66, U 67, U 68, U 69, U 70, U 71, U 72, U 73, U 74, U 75, U 76, U 77, U 78, U 79, U 80, U 81, U 82, U 83, U 84, U 85, U 86, U 87, U 88, U 89, U 90, U 91, U 92, U 93, U 94, U 95, U 96, U 97, U 98, U 99, U 100, U 101, U 102, U 103, U 104, U 105, U 106, U 107, U 108, U 109, U 110, U 111, U 112, U 113, U 114, U 115, U 116, U 117, U 118, U 119, U 120, U 121, U 122, U 123, U 124, U 125, U 126, U 127, U 128, U 129, U 130, U 131, U 132, U 133, U 134, U 135, U 136, U 137, U 138, U 139, U 140, U 141, U 142, U 143, U 144, U 145, U 146, U 147, U 148, U 149, U 150, U 151, U 152, U 153, U 154, U 155, U 156, U 157, U 158, U 159, U 160, U 161, U 162, U 163, U 164, U 165, U 166, U 167, U 168, U 169, U 170, U 171, U 172, U 173], defers := [] } ∧ Below w.heap.size w w' ∧ w'.cell? ⟨w.heap.size, 0, none⟩ = some (.int .i64 s.1) ∧ w'.cell? ⟨w.heap.size, 1, none⟩ = some (.int .i64 s.2)
theorem CFmid.mk {s : Sp} {A : Option Addr} {l : List Pf} {c : Nat} {w : World} {T : Array Value} {w' : World}  (hT : T = #[.agg #[.int .i64 s.1, .int .i64 s.2], .slice A l.length c, .pointer (some ⟨w.heap.size, 0, none⟩), T.getD 3 undef, T.getD 4 undef, T.getD 5 undef, T.getD 6 undef, T.getD 7 undef, T.getD 8 undef, T.getD 9 undef, T.getD 10 undef, T.getD 11 undef, T.getD 12 undef, T.getD 13 undef, T.getD 14 undef, T.getD 15 undef, T.getD 16 undef, T.getD 17 undef, T.getD 18 undef, T.getD 19 undef, T.getD 20 undef, T.getD 21 undef, T.getD 22 undef, T.getD 23 undef, T.getD 24 undef, T.getD 25 undef, T.getD 26 undef, T.getD 27 undef, T.getD 28 undef, T.getD 29 undef, T.getD 30 undef, T.getD 31 undef, T.getD 32 undef, T.getD 33 undef, T.getD 34 undef, T.getD 35 undef, T.getD 36 undef, T.getD 37 undef, T.getD 38 undef, T.getD 39 undef, T.getD 40 undef, T.getD 41 undef, T.getD 42 undef, T.getD 43 undef, T.getD 44 undef, T.getD 45 undef, T.getD 46 undef, T.getD 47 undef, T.getD 48 undef, T.getD 49 undef, T.getD 50 undef, T.getD 51 undef, T.getD 52 undef, T.getD 53 undef, T.getD 54 undef, T.getD 55 undef, T.getD 56 undef, T.getD 57 undef, T.getD 58 undef, T.getD 59 undef, T.getD 60 undef, T.getD 61 undef, T.getD 62 undef, T.getD 63 undef, T.getD 64 undef, T.getD 65 undef, T.getD 66 undef, T.getD 67 undef, T.getD 68 undef, T.getD 69 undef, T.getD 70 undef, T.getD 71 undef, T.getD 72 undef, T.getD 73 undef, T.getD 74 undef, T.getD 75 undef, T.getD 76 undef, T.getD 77 undef, T.getD 78 undef, T.getD 79 undef, T.getD 80 undef, T.getD 81 undef, T.getD 82 undef, T.getD 83 undef, T.getD 84 undef, T.getD 85 undef, T.getD 86 undef, T.getD 87 undef, T.getD 88 undef, T.getD 89 undef, T.getD 90 undef, T.getD 91 undef, T.getD 92 undef, T.getD 93 undef, T.getD 94 undef, T.getD 95 undef, T.getD 96 undef, T.getD 97 undef, T.getD 98 undef, T.getD 99 undef, T.getD 100 undef, T.getD 101 undef, T.getD 102 undef, T.getD 103 undef, T.getD 104 undef, T.getD 105 undef, T.getD 106 undef, T.getD 107 undef, T.getD 108 undef, T.getD 109 undef, T.getD 110 undef, T.getD 111 undef, T.getD 112 undef, T.getD 113 undef, T.getD 114 undef, T.getD 115 undef, T.getD 116 undef, T.getD 117 undef, T.getD 118 undef, T.getD 119 undef, T.getD 120 undef, T.getD 121 undef, T.getD 122 undef, T.getD 123 undef, T.getD 124 undef, T.getD 125 undef, T.getD 126 undef, T.getD 127 undef, T.getD 128 undef, T.getD 129 undef, T.getD 130 undef, T.getD 131 undef, T.getD 132 undef, T.getD 133 undef, T.getD 134 undef, T.getD 135 undef, T.getD 136 undef, T.getD 137 undef, T.getD 138 undef, T.getD 139 undef, T.getD 140 undef, T.getD 141 undef, T.getD 142 undef, T.getD 143 undef, T.getD 144 undef, T.getD 145 undef, T.getD 146 undef, T.getD 147 undef, T.getD 148 undef, T.getD 149 undef, T.getD 150 undef, T.getD 151 undef, T.getD 152 undef, T.getD 153 undef, T.getD 154 undef, T.getD 155 undef, T.getD 156 undef, T.getD 157 undef, T.getD 158 undef, T.getD 159 undef, T.getD 160 undef, T.getD 161 undef, T.getD 162 undef, T.getD 163 undef, T.getD 164 undef, T.getD 165 undef, T.getD 166 undef, T.getD 167 undef, T.getD 168 undef, T.getD 169 undef, T.getD 170 undef, T.getD 171 undef, T.getD 172 undef, T.getD 173 undef]) (h : Below w.heap.size w w' ∧ w'.cell? ⟨w.heap.size, 0, none⟩ = some (.int .i64 s.1) ∧ w'.cell? ⟨w.heap.size, 1, none⟩ = some (.int .i64 s.2)) : CFmid s A l c w { tmps := T, defers := [] } w' :=
  ⟨fun i => T.getD i undef,  congrArg (fun t => ({ tmps := t, defers := [] } : Act)) hT, h⟩

def atL : Int → List Pf → Nat → Int
  | x, [], _ => x
  | x, _ :: _, 0 => x
  | _, q :: r, k + 1 => atL (lastP q + 1) r k
theorem atL_zero (x : Int) (l : List Pf) : atL x l 0 = x := by cases l <;> rfl
theorem atL_at : ∀ {l : List Pf} {x hi : Int}, Tiles x hi l → ∀ k (h : k < l.length), l[k].1 = atL x l k
  | [], _, _, _, k, h => by simp at h
  | q :: r, x, hi, ht, 0, h => by simp [Tiles] at ht; simp [atL, ht]
  | q :: r, x, hi, ht, k + 1, h => by
    simp [Tiles] at ht
    simpa [atL] using atL_at (l := r) (by first | exact ht.2.2.2 | exact ht.2.2 | exact ht.2) k (by simpa using h)
theorem atL_succ : ∀ {l : List Pf} (x : Int) (k : Nat) (h : k < l.length), atL x l (k + 1) = lastP l[k] + 1
  | q :: r, x, 0, h => by simp [atL, atL_zero]
  | q :: r, x, k + 1, h => by simpa [atL] using atL_succ (l := r) (lastP q + 1) k (by simpa using h)
theorem atL_end : ∀ {l : List Pf} {x hi : Int}, Tiles x hi l → atL x l l.length = hi + 1
  | [], x, hi, ht => by simp [Tiles] at ht; simp [atL, ht]
  | q :: r, x, hi, ht => by
    simp [Tiles] at ht
    simpa [atL] using atL_end (l := r) (by first | exact ht.2.2.2 | exact ht.2.2 | exact ht.2)
theorem cover16 : cover 1 6 = [(1, 32), (2, 31), (4, 31), (6, 32)] := by
  rw [cover_step (by decide), show blkN 1 6 = 32 by decide, show lastA 1 32 + 1 = 2 by decide, cover_step (by decide), show blkN 2 6 = 31 by decide, show lastA 2 31 + 1 = 4 by decide,
    cover_step (by decide), show blkN 4 6 = 31 by decide, show lastA 4 31 + 1 = 6 by decide, cover_step (by decide), show blkN 6 6 = 32 by decide, show lastA 6 32 + 1 = 7 by decide, cover_end (by decide)]
theorem fewest_again {p : List Pf} (h : fewestFault p = 0) : norm (spansP (fewest p)) = norm (spansP p) ∧ fewest (fewest p) = fewest p ∧ spansPFault (fewest p) = 0 ∧ fewestFault (fewest p) = 0 ∧ (fewest p).length ≤ p.length := by
  obtain ⟨h1, h2⟩ := fewestFault_zero h
  obtain ⟨_, hv, h64⟩ := spansPFault_zero.1 h1
  have hval := norm_valid (spansP_valid hv)
  have hcan := (norm_good (spansP_valid hv)).1
  have e : norm (spansP (fewest p)) = norm (spansP p) := spans_cover hcan hval
  have e2 : fewest (fewest p) = fewest p := by unfold fewest at e ⊢; rw [e]
  have e3 : spansPFault (fewest p) = 0 := spansPFault_zero.2 ⟨h2, coverSet_valid hval, by rw [e]; exact h64⟩
  exact ⟨e, e2, e3, by unfold fewestFault; rw [if_neg (by simp [e3]), e2, if_neg (by omega)], fewest_le hv⟩
theorem spans_same (A B : Option Addr) (a b : List Sp) (n m c d : Nat) (hn : n = a.length) (hm : m = b.length) (hx : a.length ≤ maxLen) (hab : a = b) (w : World) (hl : Rd w w.heap.size A (cellsP a)) (hr : Rd w w.heap.size B (cellsP b)) :
    Calls Tryd.prog 49 #[.slice A n c, .slice B m d] w fun e w' => e = .returned (.bool true) ∧ Below w.heap.size w w' := by
  subst hn hm
  exact (spans_any A B a b c d hx w hl hr).mono fun e w' h => ⟨by rw [h.1, decide_eq_true hab], h.2⟩
theorem prefixes_same2 (A B : Option Addr) (a b : List (Int × Int)) (n m c d : Nat) (hn : n = a.length) (hm : m = b.length) (hx : a.length ≤ maxLen) (hab : a = b) (w : World) (hl : Rd w w.heap.size A (cellsP a)) (hr : Rd w w.heap.size B (cellsP b)) :
    Calls Tryd.prog 26 #[.slice A n c, .slice B m d] w fun e w' => e = .returned (.bool true) ∧ Below w.heap.size w w' := by
  subst hn hm
  exact (prefixes_any A B a b c d hx w hl hr).mono fun e w' h => ⟨by rw [h.1, decide_eq_true hab], h.2⟩
theorem up_c (a n : Int) (hc : chk a n = 0) (hn : n ≠ 0) (w : World) : Calls Tryd.prog 27 #[.agg #[.int .i64 a, .int .i64 n]] w fun e w' => e = .returned (.tuple #[.agg #[.int .i64 (clr a (n - 1)), .int .i64 (n - 1)], .nilIface]) ∧ Below w.heap.size w w' := up_ok a n hc hn w
set_option maxRecDepth 100000 in
set_option maxHeartbeats 8000000 in
theorem coverFew_1 (s : Sp) (A : Option Addr) (l : List Pf) (c : Nat) (hm : l.length ≤ maxLen) (w : World) (ht : TabVar w) (hl : Rd w w.heap.size A (cellsP l)) (R : Ending → World → Prop)
    (h : ∀ a' w', CFmid s A l c w a' w' → (tailN 3 (Tryd.f7.body.getD .skip)).wp Tryd.prog (bodyPost Tryd.prog Tryd.f7 R) a' w') :
    Calls Tryd.prog 7 #[.agg #[.int .i64 s.1, .int .i64 s.2], .slice A l.length c] w R := by
  have HT := Lib.hid ht
  clear ht
  go_enter Tryd.func7, Tryd.ntmps7
  refine wp_cut 3 (CFmid s A l c w) (by rfl) ?_ h
  clear h
  intro r HR
  dsimp only [putN]
  go_wp2_with fail
  refine (of_ok (1, 6) (by decide) _ (HT.out.belowB (show Below w.heap.size w _ from (by first | exact Below.refl _ _ | ((repeat' (first | exact Below.refl _ _ | refine Below.setCell ?_ ?_ _ | refine Below.alloc ?_ ?_ _ | refine Below.drew ?_)) <;> (first | omega | (simp <;> omega))))) HT.out.lt)).mono ?_
  rintro e w1 ⟨v1, rfl, hown1, hb1⟩
  have hB1 : Below w.heap.size w w1 := Below.trans (by first | exact Below.refl _ _ | ((repeat' (first | exact Below.refl _ _ | refine Below.setCell ?_ ?_ _ | refine Below.alloc ?_ ?_ _ | refine Below.drew ?_)) <;> (first | omega | (simp <;> omega)))) (hb1.mono (by first | omega | (simp <;> omega)))
  have hs1 : w.heap.size ≤ w1.heap.size := hB1.size
  have ht1 := hb1.size
  try simp only [World.size_alloc, World.size_setCell] at ht1
  have c1_0 : w1.cell? ⟨w.heap.size, 0, none⟩ = some (.int .i64 s.1) := (hb1.cell (p := ⟨w.heap.size, 0, none⟩) (by first | omega | (simp <;> omega))).trans (by first | (simp; done) | simp [go_sem])
  have c1_1 : w1.cell? ⟨w.heap.size, 1, none⟩ = some (.int .i64 s.2) := (hb1.cell (p := ⟨w.heap.size, 1, none⟩) (by first | omega | (simp <;> omega))).trans (by first | (simp; done) | simp [go_sem])
  have l1_0a : w.heap.size < w1.heap.size := World.block_lt_of_cell? w1 _ c1_0
  have l1_0b : w.heap.size < w1.heap.size + 1 := Nat.lt_succ_of_lt l1_0a
  have l1_0c : w.heap.size < w1.heap.size + 1 + 1 := Nat.lt_succ_of_lt l1_0b
  have l1_0d : w.heap.size < w1.heap.size + 1 + 1 + 1 := Nat.lt_succ_of_lt l1_0c
  clear hb1
  rw [show cover ((1 : Int), (6 : Int)).1 ((1 : Int), (6 : Int)).2 = [(1, 32), (2, 31), (4, 31), (6, 32)] from cover16] at hown1
  obtain ⟨A1, c1, rfl, hr1⟩ := hown1.form
  clear hown1
  go_wp2_with fail
  refine wp_name ?_
  intro w2 hW2
  have hB2 : Below w.heap.size w w2 := by rw [hW2.out]; exact (by first | exact hB1 | ((repeat' (first | exact hB1 | refine Below.setCell ?_ ?_ _ | refine Below.alloc ?_ ?_ _ | refine Below.drew ?_)) <;> (first | omega | (simp <;> omega))))
  have hs2 : w.heap.size ≤ w2.heap.size := hB2.size
  have ht2 := congrArg (fun x : World => x.heap.size) hW2.out
  try simp only [World.size_alloc, World.size_setCell] at ht2
  have c2_0 : w2.cell? ⟨w.heap.size, 0, none⟩ = some (.int .i64 s.1) := by rw [hW2.out]; first | exact c1_0 | simp [go_sem, c1_0, l1_0a, l1_0b, l1_0c, l1_0d]
  have c2_1 : w2.cell? ⟨w.heap.size, 1, none⟩ = some (.int .i64 s.2) := by rw [hW2.out]; first | exact c1_1 | simp [go_sem, c1_1, l1_0a, l1_0b, l1_0c, l1_0d]
  have l2_0a : w.heap.size < w2.heap.size := World.block_lt_of_cell? w2 _ c2_0
  have l2_0b : w.heap.size < w2.heap.size + 1 := Nat.lt_succ_of_lt l2_0a
  have l2_0c : w.heap.size < w2.heap.size + 1 + 1 := Nat.lt_succ_of_lt l2_0b
  have l2_0d : w.heap.size < w2.heap.size + 1 + 1 + 1 := Nat.lt_succ_of_lt l2_0c
  have hu2 := Nat.le_of_eq ht2
  have hv2 := Nat.le_of_eq ht2.symm
  clear ht2 c1_0 c1_1 l1_0a l1_0b l1_0c l1_0d hB1 hW2
  exact HR.out _ _ (CFmid.mk (by kernel_rfl) ⟨hB2, c2_0, c2_1⟩)
set_option maxRecDepth 100000 in
set_option maxHeartbeats 8000000 in
theorem coverFew_2a (s : Sp) (A : Option Addr) (l : List Pf) (c : Nat) (hm : l.length ≤ maxLen) (w : World) (ht : TabVar w) (hl : Rd w w.heap.size A (cellsP l)) (hp : spanFault s ≠ 0) (Q : Exit → Act → World → Prop) (s0 : Act) (w0 : World) (h0 : CFmid s A l c w s0 w0)
    (h : ∀ a' w', CFmid s A l c w a' w' → (tailN 2 (tailN 3 (Tryd.f7.body.getD .skip))).wp Tryd.prog Q a' w') :
    (tailN 3 (Tryd.f7.body.getD .skip)).wp Tryd.prog Q s0 w0 := by
  have HT := Lib.hid ht
  clear ht
  have HP := Lib.hid hp
  clear hp
  obtain ⟨U, rfl, hB0, c0_0, c0_1⟩ := h0
  refine wp_cut 2 (CFmid s A l c w) (by rfl) ?_ h
  clear h
  intro r HR
  dsimp only [Tryd.f7, Option.getD, tailN, putN]
  have hs0 := hB0.size
  have l0_0a : w.heap.size < w0.heap.size := World.block_lt_of_cell? w0 _ c0_0
  have l0_0b : w.heap.size < w0.heap.size + 1 := Nat.lt_succ_of_lt l0_0a
  have l0_0c : w.heap.size < w0.heap.size + 1 + 1 := Nat.lt_succ_of_lt l0_0b
  have l0_0d : w.heap.size < w0.heap.size + 1 + 1 + 1 := Nat.lt_succ_of_lt l0_0c
  go_wp2_with fail
  refine (of_bad s HP.out _).mono ?_
  rintro e w1 ⟨rfl, hb1⟩
  have hB1 : Below w.heap.size w w1 := Below.trans (by first | exact hB0 | ((repeat' (first | exact hB0 | refine Below.setCell ?_ ?_ _ | refine Below.alloc ?_ ?_ _ | refine Below.drew ?_)) <;> (first | omega | (simp <;> omega)))) (hb1.mono (by first | omega | (simp <;> omega)))
  have hs1 : w.heap.size ≤ w1.heap.size := hB1.size
  have ht1 := hb1.size
  try simp only [World.size_alloc, World.size_setCell] at ht1
  have c1_0 : w1.cell? ⟨w.heap.size, 0, none⟩ = some (.int .i64 s.1) := (hb1.cell (p := ⟨w.heap.size, 0, none⟩) (by first | omega | (simp <;> omega))).trans (by first | exact c0_0 | simp [go_sem, c0_0, l0_0a, l0_0b, l0_0c, l0_0d])
  have c1_1 : w1.cell? ⟨w.heap.size, 1, none⟩ = some (.int .i64 s.2) := (hb1.cell (p := ⟨w.heap.size, 1, none⟩) (by first | omega | (simp <;> omega))).trans (by first | exact c0_1 | simp [go_sem, c0_1, l0_0a, l0_0b, l0_0c, l0_0d])
  have l1_0a : w.heap.size < w1.heap.size := World.block_lt_of_cell? w1 _ c1_0
  have l1_0b : w.heap.size < w1.heap.size + 1 := Nat.lt_succ_of_lt l1_0a
  have l1_0c : w.heap.size < w1.heap.size + 1 + 1 := Nat.lt_succ_of_lt l1_0b
  have l1_0d : w.heap.size < w1.heap.size + 1 + 1 + 1 := Nat.lt_succ_of_lt l1_0c
  clear c0_0 c0_1 l0_0a l0_0b l0_0c l0_0d hB0 hb1
  go_wp2_with fail
  refine wp_name ?_
  intro w2 hW2
  have hB2 : Below w.heap.size w w2 := by rw [hW2.out]; exact (by first | exact hB1 | ((repeat' (first | exact hB1 | refine Below.setCell ?_ ?_ _ | refine Below.alloc ?_ ?_ _ | refine Below.drew ?_)) <;> (first | omega | (simp <;> omega))))
  have hs2 : w.heap.size ≤ w2.heap.size := hB2.size
  have ht2 := congrArg (fun x : World => x.heap.size) hW2.out
  try simp only [World.size_alloc, World.size_setCell] at ht2
  have c2_0 : w2.cell? ⟨w.heap.size, 0, none⟩ = some (.int .i64 s.1) := by rw [hW2.out]; first | exact c1_0 | simp [go_sem, c1_0, l1_0a, l1_0b, l1_0c, l1_0d]
  have c2_1 : w2.cell? ⟨w.heap.size, 1, none⟩ = some (.int .i64 s.2) := by rw [hW2.out]; first | exact c1_1 | simp [go_sem, c1_1, l1_0a, l1_0b, l1_0c, l1_0d]
  have l2_0a : w.heap.size < w2.heap.size := World.block_lt_of_cell? w2 _ c2_0
  have l2_0b : w.heap.size < w2.heap.size + 1 := Nat.lt_succ_of_lt l2_0a
  have l2_0c : w.heap.size < w2.heap.size + 1 + 1 := Nat.lt_succ_of_lt l2_0b
  have l2_0d : w.heap.size < w2.heap.size + 1 + 1 + 1 := Nat.lt_succ_of_lt l2_0c
  have hu2 := Nat.le_of_eq ht2
  have hv2 := Nat.le_of_eq ht2.symm
  clear ht2 c1_0 c1_1 l1_0a l1_0b l1_0c l1_0d hB1 hW2
  exact HR.out _ _ (CFmid.mk (by kernel_rfl) ⟨hB2, c2_0, c2_1⟩)
set_option maxRecDepth 100000 in
set_option maxHeartbeats 8000000 in
theorem coverFew_2b (s : Sp) (A : Option Addr) (l : List Pf) (c : Nat) (hm : l.length ≤ maxLen) (w : World) (ht : TabVar w) (hl : Rd w w.heap.size A (cellsP l)) (hp : spanFault s = 0) (Q : Exit → Act → World → Prop) (s0 : Act) (w0 : World) (h0 : CFmid s A l c w s0 w0)
    (h : ∀ a' w', CFmid s A l c w a' w' → (tailN 2 (tailN 3 (Tryd.f7.body.getD .skip))).wp Tryd.prog Q a' w') :
    (tailN 3 (Tryd.f7.body.getD .skip)).wp Tryd.prog Q s0 w0 := by
  have HT := Lib.hid ht
  clear ht
  obtain ⟨h0', h1, h2⟩ := spanFault_zero.1 hp
  have h1' : s.1 ≤ s.2 + 1 := by omega
  have h2' := h2
  unfold maxA at h2'
  have hs2n : 0 ≤ s.2 := by omega
  obtain ⟨L, hL⟩ : ∃ L, L = cover s.1 s.2 := ⟨_, rfl⟩
  have hti := cover_tiles s.1 s.2 h0' h1' h2
  rw [← hL] at hti
  have HL := Lib.hid hL
  have HLL := Lib.hid (show L.length ≤ 4294967296 by rw [hL]; have := cover_len s.1 s.2; omega)
  have HV : Hid (∀ q ∈ L, chkP q = 0) := fun q hq => (hti.mem q hq).1
  have HLA : Hid (∀ q ∈ L, 0 ≤ lastA q.1 q.2 ∧ lastA q.1 q.2 ≤ 4294967295) := fun q hq => by
    obtain ⟨m1, m2, m3⟩ := hti.mem q hq
    have := last_geP q
    have m3' : lastA q.1 q.2 ≤ s.2 := m3
    have m4 : q.1 ≤ lastA q.1 q.2 := this
    omega
  have HAT : Hid (∀ k (h : k < L.length), L[k].1 = atL s.1 L k) := fun k h => atL_at hti k h
  have HEN := Lib.hid (atL_end hti)
  have HHV : Hid (∀ k (hk : k + 1 < L.length), L[k].2 = L[k + 1].2 → L[k].2 ≠ 0 ∧ clr L[k].1 (L[k].2 - 1) ≠ clr L[k + 1].1 (L[k + 1].2 - 1)) := by subst hL; exact fun k hk he => cover_halves h0' h1' h2 hk he
  have HP := Lib.hid hp
  clear hp hti hL h0' h1 h1' h2
  obtain ⟨U, rfl, hB0, c0_0, c0_1⟩ := h0
  refine wp_cut 2 (CFmid s A l c w) (by rfl) ?_ h
  clear h
  intro r HR
  dsimp only [Tryd.f7, Option.getD, tailN, putN]
  have hs0 := hB0.size
  have l0_0a : w.heap.size < w0.heap.size := World.block_lt_of_cell? w0 _ c0_0
  have l0_0b : w.heap.size < w0.heap.size + 1 := Nat.lt_succ_of_lt l0_0a
  have l0_0c : w.heap.size < w0.heap.size + 1 + 1 := Nat.lt_succ_of_lt l0_0b
  have l0_0d : w.heap.size < w0.heap.size + 1 + 1 + 1 := Nat.lt_succ_of_lt l0_0c
  go_wp2_with fail
  refine (of_ok s HP.out _ (HT.out.belowB (show Below w.heap.size w _ from (by first | exact hB0 | ((repeat' (first | exact hB0 | refine Below.setCell ?_ ?_ _ | refine Below.alloc ?_ ?_ _ | refine Below.drew ?_)) <;> (first | omega | (simp <;> omega))))) HT.out.lt)).mono ?_
  rintro e w1 ⟨v1, rfl, hown1, hb1⟩
  have hB1 : Below w.heap.size w w1 := Below.trans (by first | exact hB0 | ((repeat' (first | exact hB0 | refine Below.setCell ?_ ?_ _ | refine Below.alloc ?_ ?_ _ | refine Below.drew ?_)) <;> (first | omega | (simp <;> omega)))) (hb1.mono (by first | omega | (simp <;> omega)))
  have hs1 : w.heap.size ≤ w1.heap.size := hB1.size
  have ht1 := hb1.size
  try simp only [World.size_alloc, World.size_setCell] at ht1
  have c1_0 : w1.cell? ⟨w.heap.size, 0, none⟩ = some (.int .i64 s.1) := (hb1.cell (p := ⟨w.heap.size, 0, none⟩) (by first | omega | (simp <;> omega))).trans (by first | exact c0_0 | simp [go_sem, c0_0, l0_0a, l0_0b, l0_0c, l0_0d])
  have c1_1 : w1.cell? ⟨w.heap.size, 1, none⟩ = some (.int .i64 s.2) := (hb1.cell (p := ⟨w.heap.size, 1, none⟩) (by first | omega | (simp <;> omega))).trans (by first | exact c0_1 | simp [go_sem, c0_1, l0_0a, l0_0b, l0_0c, l0_0d])
  have l1_0a : w.heap.size < w1.heap.size := World.block_lt_of_cell? w1 _ c1_0
  have l1_0b : w.heap.size < w1.heap.size + 1 := Nat.lt_succ_of_lt l1_0a
  have l1_0c : w.heap.size < w1.heap.size + 1 + 1 := Nat.lt_succ_of_lt l1_0b
  have l1_0d : w.heap.size < w1.heap.size + 1 + 1 + 1 := Nat.lt_succ_of_lt l1_0c
  clear c0_0 c0_1 l0_0a l0_0b l0_0c l0_0d hB0 hb1
  rw [← HL.out] at hown1
  obtain ⟨A1, c1, rfl, hr1⟩ := hown1.form
  clear hown1
  go_wp2
  go_loopw [9, 10, 11, 12, 13, 14, 15, 16, 17] (fun t i _ _ _ _ _ _ _ wr => ∃ k : Nat, k ≤ L.length ∧ i = .int .i64 k ∧ t = .int .i64 (atL s.1 L k) ∧ Below w1.heap.size w1 wr) (fun _ i _ _ _ _ _ _ _ _ => L.length - (intOf i).toNat)
  case atStart => exact ⟨0, Nat.zero_le _, rfl, by rw [atL_zero], Below.refl _ _⟩
  case round =>
    obtain ⟨k, hk, rfl, rfl, hb⟩ := hrel
    have hsr := hb.size
    by_cases hlt : k < L.length
    · obtain ⟨b, off, rfl, hbb, d0, d1⟩ := (hr1.below hb).pair hlt
      have HC := Lib.hid (HV.out L[k] (List.getElem_mem _))
      have hla := HLA.out L[k] (List.getElem_mem _)
      obtain ⟨hla0, hla1⟩ := hla
      have HA := Lib.hid (HAT.out k hlt)
      have HAS := Lib.hid (atL_succ s.1 k hlt)
      rw [← HA.out]
      go_wp2_with fail
      refine (ends_ok L[k].1 L[k].2 HC.out _).mono ?_
      rintro e w3 ⟨rfl, hb3⟩
      have hs3 := hb3.size
      have hb4 := hb.trans (hb3.mono hsr)
      have e0 := (hb3.cell (p := ⟨b, off + k * 2, none⟩) (by simp; omega)).trans d0
      have e1 := (hb3.cell (p := ⟨b, off + k * 2 + 1, none⟩) (by simp; omega)).trans d1
      clear hb3 d0 d1
      have k2 : ∀ x : BelW w3.heap.size w3, x.1.cell? ⟨b, off + k * 2, none⟩ = some (.int .i64 L[k].1) := BelW.cell e0 (by simp; omega)
      have k3 : ∀ x : BelW w3.heap.size w3, x.1.cell? ⟨b, off + k * 2 + 1, none⟩ = some (.int .i64 L[k].2) := BelW.cell e1 (by simp; omega)
      rcases Nat.eq_zero_or_pos k with hk0 | hk0
      · subst hk0
        simp only [Nat.zero_mul, Nat.add_zero] at k2 k3
        go_wp2_with fail
        refine wp_region_bel w3.heap.size w3 (by kernel_rfl) (by kernel_rfl) (Below.refl _ _) ?_
        repeat (go_big_quiet_step (fail))
        refine wpQuiet_nil ?_
        intro w5 hb5
        clear k2 k3 e0 e1
        go_wp2
        go_roundw
        case rel => exact ⟨1, by omega, by go_num, by rw [HAS.out]; rfl, hb4.trans (hb5.mono (by omega))⟩
        case measure => simp [intOf]; omega
      · obtain ⟨j, rfl⟩ : ∃ j, k = j + 1 := ⟨k - 1, by omega⟩
        have hjz : ((j : Int) + 1 == 0) = false := by simp; omega
        have hjz' : ¬ ((j : Int) + 1 = 0) := by omega
        have hjl : j < L.length := by omega
        have hL32 := HLL.out
        obtain ⟨b', off', he, _, f0, f1⟩ := (hr1.below hb4).pair (k := j) (by omega)
        obtain ⟨rfl, rfl⟩ : b = b' ∧ off = off' := by simpa using he
        clear he
        have k4 : ∀ x : BelW w3.heap.size w3, x.1.cell? ⟨b, off + j * 2, none⟩ = some (.int .i64 L[j].1) := BelW.cell f0 (by simp; omega)
        have k5 : ∀ x : BelW w3.heap.size w3, x.1.cell? ⟨b, off + j * 2 + 1, none⟩ = some (.int .i64 L[j].2) := BelW.cell f1 (by simp; omega)
        by_cases hlen : L[j].2 = L[j + 1].2
        · have HH := Lib.hid (HHV.out j hlt hlen)
          have hq : (L[j].2 != L[j + 1].2) = false := by simpa using hlen
          have HCj := Lib.hid (HV.out L[j] (List.getElem_mem _))
          have HN2 := Lib.hid (show L[j + 1].2 ≠ 0 by rw [← hlen]; exact HH.out.1)
          have hz : (clr L[j].1 (L[j].2 - 1) == clr L[j + 1].1 (L[j + 1].2 - 1)) = false := by simpa using HH.out.2
          clear hlen
          go_wp2_with fail
          refine wp_region_bel w3.heap.size w3 (by kernel_rfl) (by kernel_rfl) (Below.refl _ _) ?_
          repeat (go_big_quiet_step (fail))
          refine wpQuiet_nil ?_
          intro w5 hb5
          have hs5 := hb5.size
          have g0 := (hb5.cell (p := ⟨b, off + (j + 1) * 2, none⟩) (by simp; omega)).trans e0
          have g1 := (hb5.cell (p := ⟨b, off + (j + 1) * 2 + 1, none⟩) (by simp; omega)).trans e1
          have m0 := (hb5.cell (p := ⟨b, off + j * 2, none⟩) (by simp; omega)).trans f0
          have m1 := (hb5.cell (p := ⟨b, off + j * 2 + 1, none⟩) (by simp; omega)).trans f1
          have hb6 := hb4.trans (hb5.mono (by omega))
          clear k2 k3 k4 k5 hb5 e0 e1 f0 f1 hb4
          go_wp2_with fail
          refine (up_c L[j].1 L[j].2 HCj.out HH.out.1 _).mono ?_
          rintro e w7 ⟨rfl, hb7⟩
          have hs7 := hb7.size
          have g0' := (hb7.cell (p := ⟨b, off + (j + 1) * 2, none⟩) (by simp; omega)).trans g0
          have g1' := (hb7.cell (p := ⟨b, off + (j + 1) * 2 + 1, none⟩) (by simp; omega)).trans g1
          have hb8 := hb6.trans (hb7.mono (by omega))
          have hlb : b < w7.heap.size := World.block_lt_of_cell? w7 _ g0'
          have hlb1 : b < w7.heap.size + 1 := Nat.lt_succ_of_lt hlb
          clear hb7 hb6 g0 g1 m0 m1
          go_wp2_with fail
          refine (up_c L[j + 1].1 L[j + 1].2 HC.out HN2.out _).mono ?_
          rintro e w9 ⟨rfl, hb9⟩
          have hB9 := (Blk.new w7 23 #[.int .i64 (clr L[j].1 (L[j].2 - 1)), .int .i64 (L[j].2 - 1)]).below hb9 (by simp)
          obtain ⟨q0, q1, _⟩ := hB9.two
          have hs9 := hb9.size
          simp only [World.size_alloc] at hs9
          have hb10 := (hb8.alloc (by omega) (.cells #[.int .i64 (clr L[j].1 (L[j].2 - 1)), .int .i64 (L[j].2 - 1)] 23)).trans (hb9.mono (by simp; omega))
          have hlq : w7.heap.size < w9.heap.size := World.block_lt_of_cell? w9 _ q0
          clear hb9 hB9 hb8 g0' g1'
          go_wp2
          go_roundw
          case rel => exact ⟨j + 1 + 1, by omega, by go_num, by rw [HAS.out]; rfl, hb10.alloc (by omega) _⟩
          case measure => simp [intOf]; omega
        · have hq : (L[j].2 != L[j + 1].2) = true := by simpa using hlen
          clear hlen
          go_wp2_with fail
          refine wp_region_bel w3.heap.size w3 (by kernel_rfl) (by kernel_rfl) (Below.refl _ _) ?_
          repeat (go_big_quiet_step (fail))
          refine wpQuiet_nil ?_
          intro w5 hb5
          clear k2 k3 k4 k5 e0 e1 f0 f1
          go_wp2
          go_roundw
          case rel => exact ⟨j + 1 + 1, by omega, by go_num, by rw [HAS.out]; rfl, hb4.trans (hb5.mono (by omega))⟩
          case measure => simp [intOf]; omega
    · obtain rfl : k = L.length := by omega
      have x0 := (hb.cell (p := ⟨w.heap.size, 0, none⟩) (by simp; omega)).trans c1_0
      have x1 := (hb.cell (p := ⟨w.heap.size, 1, none⟩) (by simp; omega)).trans c1_1
      have hbf := Below.trans hB1 (hb.mono (by omega))
      rw [HEN.out]
      go_wp2_with fail
      exact HR.out _ _ (CFmid.mk (by kernel_rfl) ⟨hbf, x0, x1⟩)
set_option maxRecDepth 100000 in
set_option maxHeartbeats 8000000 in
theorem coverFew_3a (s : Sp) (A : Option Addr) (l : List Pf) (c : Nat) (hm : l.length ≤ maxLen) (w : World) (ht : TabVar w) (hl : Rd w w.heap.size A (cellsP l)) (hp : fewestFault l ≠ 0) (s0 : Act) (w0 : World) (h0 : CFmid s A l c w s0 w0) :
    (tailN 2 (tailN 3 (Tryd.f7.body.getD .skip))).wp Tryd.prog (bodyPost Tryd.prog Tryd.f7 fun e w' => e = .returned (.bool true) ∧ Below w.heap.size w w') s0 w0 := by
  have HT := Lib.hid ht
  clear ht
  have HP := Lib.hid hp
  clear hp
  obtain ⟨U, rfl, hB0, c0_0, c0_1⟩ := h0
  dsimp only [Tryd.f7, Option.getD, tailN, putN]
  have hs0 := hB0.size
  have l0_0a : w.heap.size < w0.heap.size := World.block_lt_of_cell? w0 _ c0_0
  have l0_0b : w.heap.size < w0.heap.size + 1 := Nat.lt_succ_of_lt l0_0a
  have l0_0c : w.heap.size < w0.heap.size + 1 + 1 := Nat.lt_succ_of_lt l0_0b
  have l0_0d : w.heap.size < w0.heap.size + 1 + 1 + 1 := Nat.lt_succ_of_lt l0_0c
  go_wp2_with fail
  refine (fewest_bad A l c hm HP.out _ (HT.out.belowB (show Below w.heap.size w _ from (by first | exact hB0 | ((repeat' (first | exact hB0 | refine Below.setCell ?_ ?_ _ | refine Below.alloc ?_ ?_ _ | refine Below.drew ?_)) <;> (first | omega | (simp <;> omega))))) HT.out.lt) ((hl.below (show Below w.heap.size w _ from (by first | exact hB0 | ((repeat' (first | exact hB0 | refine Below.setCell ?_ ?_ _ | refine Below.alloc ?_ ?_ _ | refine Below.drew ?_)) <;> (first | omega | (simp <;> omega)))))).more (show w.heap.size ≤ _ from by first | omega | (simp <;> omega)))).mono ?_
  rintro e w1 ⟨rfl, hb1⟩
  have hB1 : Below w.heap.size w w1 := Below.trans (by first | exact hB0 | ((repeat' (first | exact hB0 | refine Below.setCell ?_ ?_ _ | refine Below.alloc ?_ ?_ _ | refine Below.drew ?_)) <;> (first | omega | (simp <;> omega)))) (hb1.mono (by first | omega | (simp <;> omega)))
  have hs1 : w.heap.size ≤ w1.heap.size := hB1.size
  have ht1 := hb1.size
  try simp only [World.size_alloc, World.size_setCell] at ht1
  have c1_0 : w1.cell? ⟨w.heap.size, 0, none⟩ = some (.int .i64 s.1) := (hb1.cell (p := ⟨w.heap.size, 0, none⟩) (by first | omega | (simp <;> omega))).trans (by first | exact c0_0 | simp [go_sem, c0_0, l0_0a, l0_0b, l0_0c, l0_0d])
  have c1_1 : w1.cell? ⟨w.heap.size, 1, none⟩ = some (.int .i64 s.2) := (hb1.cell (p := ⟨w.heap.size, 1, none⟩) (by first | omega | (simp <;> omega))).trans (by first | exact c0_1 | simp [go_sem, c0_1, l0_0a, l0_0b, l0_0c, l0_0d])
  have l1_0a : w.heap.size < w1.heap.size := World.block_lt_of_cell? w1 _ c1_0
  have l1_0b : w.heap.size < w1.heap.size + 1 := Nat.lt_succ_of_lt l1_0a
  have l1_0c : w.heap.size < w1.heap.size + 1 + 1 := Nat.lt_succ_of_lt l1_0b
  have l1_0d : w.heap.size < w1.heap.size + 1 + 1 + 1 := Nat.lt_succ_of_lt l1_0c
  clear c0_0 c0_1 l0_0a l0_0b l0_0c l0_0d hB0 hb1
  go_wp2
  go_ret
  exact ⟨rfl, (by first | exact hB1 | ((repeat' (first | exact hB1 | refine Below.setCell ?_ ?_ _ | refine Below.alloc ?_ ?_ _ | refine Below.drew ?_)) <;> (first | omega | (simp <;> omega))))⟩
set_option maxRecDepth 100000 in
set_option maxHeartbeats 8000000 in
theorem coverFew_3b (s : Sp) (A : Option Addr) (l : List Pf) (c : Nat) (hm : l.length ≤ maxLen) (w : World) (ht : TabVar w) (hl : Rd w w.heap.size A (cellsP l)) (hp : fewestFault l = 0) (s0 : Act) (w0 : World) (h0 : CFmid s A l c w s0 w0) :
    (tailN 2 (tailN 3 (Tryd.f7.body.getD .skip))).wp Tryd.prog (bodyPost Tryd.prog Tryd.f7 fun e w' => e = .returned (.bool true) ∧ Below w.heap.size w w') s0 w0 := by
  have HT := Lib.hid ht
  clear ht
  obtain ⟨a1, a2, a3, a4, a5⟩ := fewest_again hp
  obtain ⟨M, hM⟩ : ∃ M, M = fewest l := ⟨_, rfl⟩
  obtain ⟨S, hS⟩ : ∃ S, S = norm (spansP l) := ⟨_, rfl⟩
  rw [← hM] at a1 a2 a3 a4 a5
  rw [← hS] at a1
  have hle : decide ((M.length : Int) ≤ (l.length : Int)) = true := by simp; omega
  have hMm : M.length ≤ maxLen := by omega
  have hs0 := fewestFault_zero hp
  have hSm : S.length ≤ maxLen := by rw [hS]; have := (spansPFault_zero.1 hs0.1).2.2; unfold maxLen; omega
  have HM := Lib.hid hM
  have HSS := Lib.hid hS
  have HE := Lib.hid a1
  have HE2 := Lib.hid a2
  have HMS := Lib.hid a3
  have HMF := Lib.hid a4
  have HS := Lib.hid hs0.1
  have HP := Lib.hid hp
  clear hp hM hS a1 a2 a3 a4 hs0
  obtain ⟨U, rfl, hB0, c0_0, c0_1⟩ := h0
  dsimp only [Tryd.f7, Option.getD, tailN, putN]
  have hs0 := hB0.size
  have l0_0a : w.heap.size < w0.heap.size := World.block_lt_of_cell? w0 _ c0_0
  have l0_0b : w.heap.size < w0.heap.size + 1 := Nat.lt_succ_of_lt l0_0a
  have l0_0c : w.heap.size < w0.heap.size + 1 + 1 := Nat.lt_succ_of_lt l0_0b
  have l0_0d : w.heap.size < w0.heap.size + 1 + 1 + 1 := Nat.lt_succ_of_lt l0_0c
  go_wp2_with fail
  refine (fewest_ok A l c hm HP.out _ (HT.out.belowB (show Below w.heap.size w _ from (by first | exact hB0 | ((repeat' (first | exact hB0 | refine Below.setCell ?_ ?_ _ | refine Below.alloc ?_ ?_ _ | refine Below.drew ?_)) <;> (first | omega | (simp <;> omega))))) HT.out.lt) ((hl.below (show Below w.heap.size w _ from (by first | exact hB0 | ((repeat' (first | exact hB0 | refine Below.setCell ?_ ?_ _ | refine Below.alloc ?_ ?_ _ | refine Below.drew ?_)) <;> (first | omega | (simp <;> omega)))))).more (show w.heap.size ≤ _ from by first | omega | (simp <;> omega)))).mono ?_
  rintro e w1 ⟨v1, rfl, hown1, hb1⟩
  have hB1 : Below w.heap.size w w1 := Below.trans (by first | exact hB0 | ((repeat' (first | exact hB0 | refine Below.setCell ?_ ?_ _ | refine Below.alloc ?_ ?_ _ | refine Below.drew ?_)) <;> (first | omega | (simp <;> omega)))) (hb1.mono (by first | omega | (simp <;> omega)))
  have hs1 : w.heap.size ≤ w1.heap.size := hB1.size
  have ht1 := hb1.size
  try simp only [World.size_alloc, World.size_setCell] at ht1
  have c1_0 : w1.cell? ⟨w.heap.size, 0, none⟩ = some (.int .i64 s.1) := (hb1.cell (p := ⟨w.heap.size, 0, none⟩) (by first | omega | (simp <;> omega))).trans (by first | exact c0_0 | simp [go_sem, c0_0, l0_0a, l0_0b, l0_0c, l0_0d])
  have c1_1 : w1.cell? ⟨w.heap.size, 1, none⟩ = some (.int .i64 s.2) := (hb1.cell (p := ⟨w.heap.size, 1, none⟩) (by first | omega | (simp <;> omega))).trans (by first | exact c0_1 | simp [go_sem, c0_1, l0_0a, l0_0b, l0_0c, l0_0d])
  have l1_0a : w.heap.size < w1.heap.size := World.block_lt_of_cell? w1 _ c1_0
  have l1_0b : w.heap.size < w1.heap.size + 1 := Nat.lt_succ_of_lt l1_0a
  have l1_0c : w.heap.size < w1.heap.size + 1 + 1 := Nat.lt_succ_of_lt l1_0b
  have l1_0d : w.heap.size < w1.heap.size + 1 + 1 + 1 := Nat.lt_succ_of_lt l1_0c
  clear c0_0 c0_1 l0_0a l0_0b l0_0c l0_0d hB0 hb1
  rw [← HM.out] at hown1
  obtain ⟨A1, c1, rfl, hr1⟩ := hown1.form
  clear hown1
  go_wp2_with fail
  refine (spansP_ok A l c hm HS.out _ ((hl.below (show Below w.heap.size w _ from (by first | exact hB1 | ((repeat' (first | exact hB1 | refine Below.setCell ?_ ?_ _ | refine Below.alloc ?_ ?_ _ | refine Below.drew ?_)) <;> (first | omega | (simp <;> omega)))))).more (show w.heap.size ≤ _ from by first | omega | (simp <;> omega)))).mono ?_
  rintro e w2 ⟨v2, rfl, hown2, hb2⟩
  have hB2 : Below w.heap.size w w2 := Below.trans (by first | exact hB1 | ((repeat' (first | exact hB1 | refine Below.setCell ?_ ?_ _ | refine Below.alloc ?_ ?_ _ | refine Below.drew ?_)) <;> (first | omega | (simp <;> omega)))) (hb2.mono (by first | omega | (simp <;> omega)))
  have hs2 : w.heap.size ≤ w2.heap.size := hB2.size
  have ht2 := hb2.size
  try simp only [World.size_alloc, World.size_setCell] at ht2
  have c2_0 : w2.cell? ⟨w.heap.size, 0, none⟩ = some (.int .i64 s.1) := (hb2.cell (p := ⟨w.heap.size, 0, none⟩) (by first | omega | (simp <;> omega))).trans (by first | exact c1_0 | simp [go_sem, c1_0, l1_0a, l1_0b, l1_0c, l1_0d])
  have c2_1 : w2.cell? ⟨w.heap.size, 1, none⟩ = some (.int .i64 s.2) := (hb2.cell (p := ⟨w.heap.size, 1, none⟩) (by first | omega | (simp <;> omega))).trans (by first | exact c1_1 | simp [go_sem, c1_1, l1_0a, l1_0b, l1_0c, l1_0d])
  have l2_0a : w.heap.size < w2.heap.size := World.block_lt_of_cell? w2 _ c2_0
  have l2_0b : w.heap.size < w2.heap.size + 1 := Nat.lt_succ_of_lt l2_0a
  have l2_0c : w.heap.size < w2.heap.size + 1 + 1 := Nat.lt_succ_of_lt l2_0b
  have l2_0d : w.heap.size < w2.heap.size + 1 + 1 + 1 := Nat.lt_succ_of_lt l2_0c
  have hkw1_2 : Below w1.heap.size w1 w2 := Below.trans (by first | exact Below.refl _ _ | ((repeat' (first | exact Below.refl _ _ | refine Below.setCell ?_ ?_ _ | refine Below.alloc ?_ ?_ _ | refine Below.drew ?_)) <;> (first | omega | (simp <;> omega)))) (hb2.mono (by first | omega | (simp <;> omega)))
  clear c1_0 c1_1 l1_0a l1_0b l1_0c l1_0d hB1 hb2
  rw [← HSS.out] at hown2
  obtain ⟨A2, c2, rfl, hr2⟩ := hown2.form
  clear hown2
  go_wp2_with fail
  refine (spansP_ok A1 M c1 hMm HMS.out _ ((hr1.below (show Below w1.heap.size w1 _ from (by first | exact hkw1_2 | ((repeat' (first | exact hkw1_2 | refine Below.setCell ?_ ?_ _ | refine Below.alloc ?_ ?_ _ | refine Below.drew ?_)) <;> (first | omega | (simp <;> omega)))))).more (show w1.heap.size ≤ _ from by first | omega | (simp <;> omega)))).mono ?_
  rintro e w3 ⟨v3, rfl, hown3, hb3⟩
  have hB3 : Below w.heap.size w w3 := Below.trans (by first | exact hB2 | ((repeat' (first | exact hB2 | refine Below.setCell ?_ ?_ _ | refine Below.alloc ?_ ?_ _ | refine Below.drew ?_)) <;> (first | omega | (simp <;> omega)))) (hb3.mono (by first | omega | (simp <;> omega)))
  have hs3 : w.heap.size ≤ w3.heap.size := hB3.size
  have ht3 := hb3.size
  try simp only [World.size_alloc, World.size_setCell] at ht3
  have c3_0 : w3.cell? ⟨w.heap.size, 0, none⟩ = some (.int .i64 s.1) := (hb3.cell (p := ⟨w.heap.size, 0, none⟩) (by first | omega | (simp <;> omega))).trans (by first | exact c2_0 | simp [go_sem, c2_0, l2_0a, l2_0b, l2_0c, l2_0d])
  have c3_1 : w3.cell? ⟨w.heap.size, 1, none⟩ = some (.int .i64 s.2) := (hb3.cell (p := ⟨w.heap.size, 1, none⟩) (by first | omega | (simp <;> omega))).trans (by first | exact c2_1 | simp [go_sem, c2_1, l2_0a, l2_0b, l2_0c, l2_0d])
  have l3_0a : w.heap.size < w3.heap.size := World.block_lt_of_cell? w3 _ c3_0
  have l3_0b : w.heap.size < w3.heap.size + 1 := Nat.lt_succ_of_lt l3_0a
  have l3_0c : w.heap.size < w3.heap.size + 1 + 1 := Nat.lt_succ_of_lt l3_0b
  have l3_0d : w.heap.size < w3.heap.size + 1 + 1 + 1 := Nat.lt_succ_of_lt l3_0c
  have hkw1_3 : Below w1.heap.size w1 w3 := Below.trans (by first | exact hkw1_2 | ((repeat' (first | exact hkw1_2 | refine Below.setCell ?_ ?_ _ | refine Below.alloc ?_ ?_ _ | refine Below.drew ?_)) <;> (first | omega | (simp <;> omega)))) (hb3.mono (by first | omega | (simp <;> omega)))
  have hkw2_3 : Below w2.heap.size w2 w3 := Below.trans (by first | exact Below.refl _ _ | ((repeat' (first | exact Below.refl _ _ | refine Below.setCell ?_ ?_ _ | refine Below.alloc ?_ ?_ _ | refine Below.drew ?_)) <;> (first | omega | (simp <;> omega)))) (hb3.mono (by first | omega | (simp <;> omega)))
  clear c2_0 c2_1 l2_0a l2_0b l2_0c l2_0d hkw1_2 hB2 hb3
  rw [HE.out] at hown3
  obtain ⟨A3, c3, rfl, hr3⟩ := hown3.form
  clear hown3
  go_wp2_with fail
  refine (spans_same A2 A3 S S S.length S.length c2 c3 rfl rfl hSm rfl _ ((hr2.below (show Below w2.heap.size w2 _ from (by first | exact hkw2_3 | ((repeat' (first | exact hkw2_3 | refine Below.setCell ?_ ?_ _ | refine Below.alloc ?_ ?_ _ | refine Below.drew ?_)) <;> (first | omega | (simp <;> omega)))))).more (show w2.heap.size ≤ _ from by first | omega | (simp <;> omega))) ((hr3.below (show Below w3.heap.size w3 _ from (by first | exact Below.refl _ _ | ((repeat' (first | exact Below.refl _ _ | refine Below.setCell ?_ ?_ _ | refine Below.alloc ?_ ?_ _ | refine Below.drew ?_)) <;> (first | omega | (simp <;> omega)))))).more (show w3.heap.size ≤ _ from by first | omega | (simp <;> omega)))).mono ?_
  rintro e w4 ⟨rfl, hb4⟩
  have hB4 : Below w.heap.size w w4 := Below.trans (by first | exact hB3 | ((repeat' (first | exact hB3 | refine Below.setCell ?_ ?_ _ | refine Below.alloc ?_ ?_ _ | refine Below.drew ?_)) <;> (first | omega | (simp <;> omega)))) (hb4.mono (by first | omega | (simp <;> omega)))
  have hs4 : w.heap.size ≤ w4.heap.size := hB4.size
  have ht4 := hb4.size
  try simp only [World.size_alloc, World.size_setCell] at ht4
  have c4_0 : w4.cell? ⟨w.heap.size, 0, none⟩ = some (.int .i64 s.1) := (hb4.cell (p := ⟨w.heap.size, 0, none⟩) (by first | omega | (simp <;> omega))).trans (by first | exact c3_0 | simp [go_sem, c3_0, l3_0a, l3_0b, l3_0c, l3_0d])
  have c4_1 : w4.cell? ⟨w.heap.size, 1, none⟩ = some (.int .i64 s.2) := (hb4.cell (p := ⟨w.heap.size, 1, none⟩) (by first | omega | (simp <;> omega))).trans (by first | exact c3_1 | simp [go_sem, c3_1, l3_0a, l3_0b, l3_0c, l3_0d])
  have l4_0a : w.heap.size < w4.heap.size := World.block_lt_of_cell? w4 _ c4_0
  have l4_0b : w.heap.size < w4.heap.size + 1 := Nat.lt_succ_of_lt l4_0a
  have l4_0c : w.heap.size < w4.heap.size + 1 + 1 := Nat.lt_succ_of_lt l4_0b
  have l4_0d : w.heap.size < w4.heap.size + 1 + 1 + 1 := Nat.lt_succ_of_lt l4_0c
  have hkw1_4 : Below w1.heap.size w1 w4 := Below.trans (by first | exact hkw1_3 | ((repeat' (first | exact hkw1_3 | refine Below.setCell ?_ ?_ _ | refine Below.alloc ?_ ?_ _ | refine Below.drew ?_)) <;> (first | omega | (simp <;> omega)))) (hb4.mono (by first | omega | (simp <;> omega)))
  have hkw2_4 : Below w2.heap.size w2 w4 := Below.trans (by first | exact hkw2_3 | ((repeat' (first | exact hkw2_3 | refine Below.setCell ?_ ?_ _ | refine Below.alloc ?_ ?_ _ | refine Below.drew ?_)) <;> (first | omega | (simp <;> omega)))) (hb4.mono (by first | omega | (simp <;> omega)))
  have hkw3_4 : Below w3.heap.size w3 w4 := Below.trans (by first | exact Below.refl _ _ | ((repeat' (first | exact Below.refl _ _ | refine Below.setCell ?_ ?_ _ | refine Below.alloc ?_ ?_ _ | refine Below.drew ?_)) <;> (first | omega | (simp <;> omega)))) (hb4.mono (by first | omega | (simp <;> omega)))
  clear c3_0 c3_1 l3_0a l3_0b l3_0c l3_0d hkw1_3 hkw2_3 hB3 hb4
  go_wp2_with fail
  refine (fewest_ok A1 M c1 hMm HMF.out _ (HT.out.belowB (show Below w.heap.size w _ from (by first | exact hB4 | ((repeat' (first | exact hB4 | refine Below.setCell ?_ ?_ _ | refine Below.alloc ?_ ?_ _ | refine Below.drew ?_)) <;> (first | omega | (simp <;> omega))))) HT.out.lt) ((hr1.below (show Below w1.heap.size w1 _ from (by first | exact hkw1_4 | ((repeat' (first | exact hkw1_4 | refine Below.setCell ?_ ?_ _ | refine Below.alloc ?_ ?_ _ | refine Below.drew ?_)) <;> (first | omega | (simp <;> omega)))))).more (show w1.heap.size ≤ _ from by first | omega | (simp <;> omega)))).mono ?_
  rintro e w5 ⟨v5, rfl, hown5, hb5⟩
  have hB5 : Below w.heap.size w w5 := Below.trans (by first | exact hB4 | ((repeat' (first | exact hB4 | refine Below.setCell ?_ ?_ _ | refine Below.alloc ?_ ?_ _ | refine Below.drew ?_)) <;> (first | omega | (simp <;> omega)))) (hb5.mono (by first | omega | (simp <;> omega)))
  have hs5 : w.heap.size ≤ w5.heap.size := hB5.size
  have ht5 := hb5.size
  try simp only [World.size_alloc, World.size_setCell] at ht5
  have c5_0 : w5.cell? ⟨w.heap.size, 0, none⟩ = some (.int .i64 s.1) := (hb5.cell (p := ⟨w.heap.size, 0, none⟩) (by first | omega | (simp <;> omega))).trans (by first | exact c4_0 | simp [go_sem, c4_0, l4_0a, l4_0b, l4_0c, l4_0d])
  have c5_1 : w5.cell? ⟨w.heap.size, 1, none⟩ = some (.int .i64 s.2) := (hb5.cell (p := ⟨w.heap.size, 1, none⟩) (by first | omega | (simp <;> omega))).trans (by first | exact c4_1 | simp [go_sem, c4_1, l4_0a, l4_0b, l4_0c, l4_0d])
  have l5_0a : w.heap.size < w5.heap.size := World.block_lt_of_cell? w5 _ c5_0
  have l5_0b : w.heap.size < w5.heap.size + 1 := Nat.lt_succ_of_lt l5_0a
  have l5_0c : w.heap.size < w5.heap.size + 1 + 1 := Nat.lt_succ_of_lt l5_0b
  have l5_0d : w.heap.size < w5.heap.size + 1 + 1 + 1 := Nat.lt_succ_of_lt l5_0c
  have hkw1_5 : Below w1.heap.size w1 w5 := Below.trans (by first | exact hkw1_4 | ((repeat' (first | exact hkw1_4 | refine Below.setCell ?_ ?_ _ | refine Below.alloc ?_ ?_ _ | refine Below.drew ?_)) <;> (first | omega | (simp <;> omega)))) (hb5.mono (by first | omega | (simp <;> omega)))
  have hkw2_5 : Below w2.heap.size w2 w5 := Below.trans (by first | exact hkw2_4 | ((repeat' (first | exact hkw2_4 | refine Below.setCell ?_ ?_ _ | refine Below.alloc ?_ ?_ _ | refine Below.drew ?_)) <;> (first | omega | (simp <;> omega)))) (hb5.mono (by first | omega | (simp <;> omega)))
  have hkw3_5 : Below w3.heap.size w3 w5 := Below.trans (by first | exact hkw3_4 | ((repeat' (first | exact hkw3_4 | refine Below.setCell ?_ ?_ _ | refine Below.alloc ?_ ?_ _ | refine Below.drew ?_)) <;> (first | omega | (simp <;> omega)))) (hb5.mono (by first | omega | (simp <;> omega)))
  clear c4_0 c4_1 l4_0a l4_0b l4_0c l4_0d hkw1_4 hkw2_4 hkw3_4 hB4 hb5
  rw [HE2.out] at hown5
  obtain ⟨A5, c5, rfl, hr5⟩ := hown5.form
  clear hown5
  go_wp2_with fail
  refine (prefixes_same2 A5 A1 M M M.length M.length c5 c1 rfl rfl hMm rfl _ ((hr5.below (show Below w5.heap.size w5 _ from (by first | exact Below.refl _ _ | ((repeat' (first | exact Below.refl _ _ | refine Below.setCell ?_ ?_ _ | refine Below.alloc ?_ ?_ _ | refine Below.drew ?_)) <;> (first | omega | (simp <;> omega)))))).more (show w5.heap.size ≤ _ from by first | omega | (simp <;> omega))) ((hr1.below (show Below w1.heap.size w1 _ from (by first | exact hkw1_5 | ((repeat' (first | exact hkw1_5 | refine Below.setCell ?_ ?_ _ | refine Below.alloc ?_ ?_ _ | refine Below.drew ?_)) <;> (first | omega | (simp <;> omega)))))).more (show w1.heap.size ≤ _ from by first | omega | (simp <;> omega)))).mono ?_
  rintro e w6 ⟨rfl, hb6⟩
  have hB6 : Below w.heap.size w w6 := Below.trans (by first | exact hB5 | ((repeat' (first | exact hB5 | refine Below.setCell ?_ ?_ _ | refine Below.alloc ?_ ?_ _ | refine Below.drew ?_)) <;> (first | omega | (simp <;> omega)))) (hb6.mono (by first | omega | (simp <;> omega)))
  have hs6 : w.heap.size ≤ w6.heap.size := hB6.size
  have ht6 := hb6.size
  try simp only [World.size_alloc, World.size_setCell] at ht6
  have c6_0 : w6.cell? ⟨w.heap.size, 0, none⟩ = some (.int .i64 s.1) := (hb6.cell (p := ⟨w.heap.size, 0, none⟩) (by first | omega | (simp <;> omega))).trans (by first | exact c5_0 | simp [go_sem, c5_0, l5_0a, l5_0b, l5_0c, l5_0d])
  have c6_1 : w6.cell? ⟨w.heap.size, 1, none⟩ = some (.int .i64 s.2) := (hb6.cell (p := ⟨w.heap.size, 1, none⟩) (by first | omega | (simp <;> omega))).trans (by first | exact c5_1 | simp [go_sem, c5_1, l5_0a, l5_0b, l5_0c, l5_0d])
  have l6_0a : w.heap.size < w6.heap.size := World.block_lt_of_cell? w6 _ c6_0
  have l6_0b : w.heap.size < w6.heap.size + 1 := Nat.lt_succ_of_lt l6_0a
  have l6_0c : w.heap.size < w6.heap.size + 1 + 1 := Nat.lt_succ_of_lt l6_0b
  have l6_0d : w.heap.size < w6.heap.size + 1 + 1 + 1 := Nat.lt_succ_of_lt l6_0c
  have hkw1_6 : Below w1.heap.size w1 w6 := Below.trans (by first | exact hkw1_5 | ((repeat' (first | exact hkw1_5 | refine Below.setCell ?_ ?_ _ | refine Below.alloc ?_ ?_ _ | refine Below.drew ?_)) <;> (first | omega | (simp <;> omega)))) (hb6.mono (by first | omega | (simp <;> omega)))
  have hkw2_6 : Below w2.heap.size w2 w6 := Below.trans (by first | exact hkw2_5 | ((repeat' (first | exact hkw2_5 | refine Below.setCell ?_ ?_ _ | refine Below.alloc ?_ ?_ _ | refine Below.drew ?_)) <;> (first | omega | (simp <;> omega)))) (hb6.mono (by first | omega | (simp <;> omega)))
  have hkw3_6 : Below w3.heap.size w3 w6 := Below.trans (by first | exact hkw3_5 | ((repeat' (first | exact hkw3_5 | refine Below.setCell ?_ ?_ _ | refine Below.alloc ?_ ?_ _ | refine Below.drew ?_)) <;> (first | omega | (simp <;> omega)))) (hb6.mono (by first | omega | (simp <;> omega)))
  have hkw5_6 : Below w5.heap.size w5 w6 := Below.trans (by first | exact Below.refl _ _ | ((repeat' (first | exact Below.refl _ _ | refine Below.setCell ?_ ?_ _ | refine Below.alloc ?_ ?_ _ | refine Below.drew ?_)) <;> (first | omega | (simp <;> omega)))) (hb6.mono (by first | omega | (simp <;> omega)))
  clear c5_0 c5_1 l5_0a l5_0b l5_0c l5_0d hkw1_5 hkw2_5 hkw3_5 hB5 hb6
  go_wp2
  go_ret
  exact ⟨by first | rfl | exact congrArg (fun b => Ending.returned (.bool b)) hle, (by first | exact hB6 | ((repeat' (first | exact hB6 | refine Below.setCell ?_ ?_ _ | refine Below.alloc ?_ ?_ _ | refine Below.drew ?_)) <;> (first | omega | (simp <;> omega))))⟩

theorem coverFew_walk (x y : Int) (A : Option Addr) (l : List Pf) (c : Nat) (hm : l.length ≤ maxLen) (w : World) (ht : TabVar w) (hl : Rd w w.heap.size A (cellsP l)) :
    Calls Tryd.prog 7 #[.agg #[.int .i64 x, .int .i64 y], .slice A l.length c] w fun e w' => e = .returned (.bool true) ∧ Below w.heap.size w w' := by
  refine coverFew_1 (x, y) A l c hm w ht hl _ fun s1 w1 h1 => ?_
  have h3 : ∀ s0 w0, CFmid (x, y) A l c w s0 w0 → (tailN 2 (tailN 3 (Tryd.f7.body.getD .skip))).wp Tryd.prog (bodyPost Tryd.prog Tryd.f7 fun e w' => e = .returned (.bool true) ∧ Below w.heap.size w w') s0 w0 := fun s0 w0 h0 => by
    by_cases hf : fewestFault l = 0
    · exact coverFew_3b (x, y) A l c hm w ht hl hf s0 w0 h0
    · exact coverFew_3a (x, y) A l c hm w ht hl hf s0 w0 h0
  by_cases hs : spanFault (x, y) = 0
  · exact coverFew_2b (x, y) A l c hm w ht hl hs _ s1 w1 h1 h3
  · exact coverFew_2a (x, y) A l c hm w ht hl hs _ s1 w1 h1 h3
end Go.Proofs.YtcgeagobndhpjaaDoor
