/- The law TreeIs: what lies between its parts; small contracts. Any list, any prefix, any number. -/
import Derived.Test.YtcgeagobndhpjaaDoorRefTree2
import Derived.Test.YtcgeagobndhpjaaDoorRefTree4
import Derived.Test.YtcgeagobndhpjaaDoorTreeFind
import Derived.Test.YtcgeagobndhpjaaDoorLaw
namespace Go.Proofs.YtcgeagobndhpjaaDoor
set_option linter.unusedVariables false
set_option linter.unusedSimpArgs false
open Go.RowKit

def TImid (A : Option Addr) (l : List Pf) (c : Nat) (p : Pf) (a : Int) (w : World) (a' : Act) (w' : World) : Prop :=
  ∃ (U : Nat → Value) (k : Int), a' = { tmps := #[.slice A l.length c, .agg #[.int .i64 p.1, .int .i64 p.2], .int .i64 a, U 3, .pointer (some ⟨w.heap.size, 0, none⟩), U 5, .bool false, .int .i64 k, U 8, U 9, U 10, U 11, U 12, U 13, U 14, U 15, U 16, U 17, U 18, U 19, U 20, U 21, U 22, U 23, U 24, U 25, U 26, U 27, U 28, U 29, U 30, U 31, U 32, U 33, U 34, U 35, U 36, U 37, U 38, U 39, U 40, U 41, U 42, U 43, U 44, U 45, U 46, U 47, U 48, U 49, U 50, U 51, U 52, U 53, U 54, U 55, U 56, U 57, U 58, U 59, U 60, U 61, U 62, U 63, U 64, U 65, U 66, U 67, U 68, U 69, U 70, U 71, U 72, U 73, U 74, U 75, U 76, U 77, U 78, U 79, U 80, U 81, U 82, U 83, U 84, U 85, U 86, U 87, U 88, U 89, U 90, U 91, U 92, U 93, U 94, U 95, U 96, U 97, U 98, U 99, U 100, U 101, U 102, U 103, U 104, U 105, U 106, U 107, U 108, U 109, U 110, U 111, U 112, U 113, U 114, U 115, U 116, U 117, U 118, U 119, U 120, U 121, U 122, U 123, U 124, U 125, U 126, U 127, U 128, U 129, U 130, U 131, U 132, U 133, U 134, U 135, U 136, U 137, U 138, U 139, U 140, U 141, U 142, U 143, U 144, U 145, U 146, U 147, U 148, U 149, U 150, U 151, U 152, U 153, U 154, U 155, U 156, U 157, U 158, U 159, U 160, U 161, U 162, U 163, U 164, U 165, U 166, U 167, U 168, U 169, U 170, U 171, U 172, U 173, U 174, U 175, U 176, U 177, U 178, U 179, U 180, U 181, U 182, U 183, U 184, U 185, U 186, U 187, U 188, U 189, U 190], defers := [] } ∧ k = treeFault l ∧ Below w.heap.size w w' ∧ w'.cell? ⟨w.heap.size, 0, none⟩ = some (.int .i64 p.1) ∧ w'.cell? ⟨w.heap.size, 1, none⟩ = some (.int .i64 p.2)
theorem TImid.mk {A : Option Addr} {l : List Pf} {c : Nat} {p : Pf} {a : Int} {w : World} {T : Array Value} {w' : World} (k : Int) (hT : T = #[.slice A l.length c, .agg #[.int .i64 p.1, .int .i64 p.2], .int .i64 a, T.getD 3 undef, .pointer (some ⟨w.heap.size, 0, none⟩), T.getD 5 undef, .bool false, .int .i64 k, T.getD 8 undef, T.getD 9 undef, T.getD 10 undef, T.getD 11 undef, T.getD 12 undef, T.getD 13 undef, T.getD 14 undef, T.getD 15 undef, T.getD 16 undef, T.getD 17 undef, T.getD 18 undef, T.getD 19 undef, T.getD 20 undef, T.getD 21 undef, T.getD 22 undef, T.getD 23 undef, T.getD 24 undef, T.getD 25 undef, T.getD 26 undef, T.getD 27 undef, T.getD 28 undef, T.getD 29 undef, T.getD 30 undef, T.getD 31 undef, T.getD 32 undef, T.getD 33 undef, T.getD 34 undef, T.getD 35 undef, T.getD 36 undef, T.getD 37 undef, T.getD 38 undef, T.getD 39 undef, T.getD 40 undef, T.getD 41 undef, T.getD 42 undef, T.getD 43 undef, T.getD 44 undef, T.getD 45 undef, T.getD 46 undef, T.getD 47 undef, T.getD 48 undef, T.getD 49 undef, T.getD 50 undef, T.getD 51 undef, T.getD 52 undef, T.getD 53 undef, T.getD 54 undef, T.getD 55 undef, T.getD 56 undef, T.getD 57 undef, T.getD 58 undef, T.getD 59 undef, T.getD 60 undef, T.getD 61 undef, T.getD 62 undef, T.getD 63 undef, T.getD 64 undef, T.getD 65 undef, T.getD 66 undef, T.getD 67 undef, T.getD 68 undef, T.getD 69 undef, T.getD 70 undef, T.getD 71 undef, T.getD 72 undef, T.getD 73 undef, T.getD 74 undef, T.getD 75 undef, T.getD 76 undef, T.getD 77 undef, T.getD 78 undef, T.getD 79 undef, T.getD 80 undef, T.getD 81 undef, T.getD 82 undef, T.getD 83 undef, T.getD 84 undef, T.getD 85 undef, T.getD 86 undef, T.getD 87 undef, T.getD 88 undef, T.getD 89 undef, T.getD 90 undef, T.getD 91 undef, T.getD 92 undef, T.getD 93 undef, T.getD 94 undef, T.getD 95 undef, T.getD 96 undef, T.getD 97 undef, T.getD 98 undef, T.getD 99 undef, T.getD 100 undef, T.getD 101 undef, T.getD 102 undef, T.getD 103 undef, T.getD 104 undef, T.getD 105 undef, T.getD 106 undef, T.getD 107 undef, T.getD 108 undef, T.getD 109 undef, T.getD 110 undef, T.getD 111 undef, T.getD 112 undef, T.getD 113 undef, T.getD 114 undef, T.getD 115 undef, T.getD 116 undef, T.getD 117 undef, T.getD 118 undef, T.getD 119 undef, T.getD 120 undef, T.getD 121 undef, T.getD 122 undef, T.getD 123 undef, T.getD 124 undef, T.getD 125 undef, T.getD 126 undef, T.getD 127 undef, T.getD 128 undef, T.getD 129 undef, T.getD 130 undef, T.getD 131 undef, T.getD 132 undef, T.getD 133 undef, T.getD 134 undef, T.getD 135 undef, T.getD 136 undef, T.getD 137 undef, T.getD 138 undef, T.getD 139 undef, T.getD 140 undef, T.getD 141 undef, T.getD 142 undef, T.getD 143 undef, T.getD 144 undef, T.getD 145 undef, T.getD 146 undef, T.getD 147 undef, T.getD 148 undef, T.getD 149 undef, T.getD 150 undef, T.getD 151 undef, T.getD 152 undef, T.getD 153 undef, T.getD 154 undef, T.getD 155 undef, T.getD 156 undef, T.getD 157 undef, T.getD 158 undef, T.getD 159 undef, T.getD 160 undef, T.getD 161 undef, T.getD 162 undef, T.getD 163 undef, T.getD 164 undef, T.getD 165 undef, T.getD 166 undef, T.getD 167 undef, T.getD 168 undef, T.getD 169 undef, T.getD 170 undef, T.getD 171 undef, T.getD 172 undef, T.getD 173 undef, T.getD 174 undef, T.getD 175 undef, T.getD 176 undef, T.getD 177 undef, T.getD 178 undef, T.getD 179 undef, T.getD 180 undef, T.getD 181 undef, T.getD 182 undef, T.getD 183 undef, T.getD 184 undef, T.getD 185 undef, T.getD 186 undef, T.getD 187 undef, T.getD 188 undef, T.getD 189 undef, T.getD 190 undef]) (h : k = treeFault l ∧ Below w.heap.size w w' ∧ w'.cell? ⟨w.heap.size, 0, none⟩ = some (.int .i64 p.1) ∧ w'.cell? ⟨w.heap.size, 1, none⟩ = some (.int .i64 p.2)) : TImid A l c p a w { tmps := T, defers := [] } w' :=
  ⟨fun i => T.getD i undef, k,  congrArg (fun t => ({ tmps := t, defers := [] } : Act)) hT, h⟩
theorem putRef_clash (A : Option Addr) (l : List Pf) (c : Nat) (p : Pf) (h2 : treeFault2 l p = 0) (hm : p ∈ l) (w : World) (hl : Rd w w.heap.size A (cellsP l)) :
    Calls Tryd.prog 35 #[.slice A l.length c, .agg #[.int .i64 p.1, .int .i64 p.2]] w fun e w' => e = .returned (.tuple #[.slice none 0 0, .int .i64 6]) ∧ Below w.heap.size w w' :=
  (putRef_any A l c p h2 w hl).mono fun e w' h => ⟨h.2.1 hm, h.1⟩
theorem putRef_full (A : Option Addr) (l : List Pf) (c : Nat) (p : Pf) (h2 : treeFault2 l p = 0) (hm : p ∉ l) (h60 : l.length = 60) (w : World) (hl : Rd w w.heap.size A (cellsP l)) :
    Calls Tryd.prog 35 #[.slice A l.length c, .agg #[.int .i64 p.1, .int .i64 p.2]] w fun e w' => e = .returned (.tuple #[.slice none 0 0, .int .i64 3]) ∧ Below w.heap.size w w' :=
  (putRef_any A l c p h2 w hl).mono fun e w' h => ⟨h.2.2.1 hm h60, h.1⟩
theorem putRef_ok (A : Option Addr) (l : List Pf) (c : Nat) (p : Pf) (hf : putFault l p = 0) (w : World) (hl : Rd w w.heap.size A (cellsP l)) :
    Calls Tryd.prog 35 #[.slice A l.length c, .agg #[.int .i64 p.1, .int .i64 p.2]] w fun e w' => ∃ v, e = .returned (.tuple #[v, .int .i64 0]) ∧ OwnP w' w.heap.size 23 v (putL l p) ∧ Below w.heap.size w w' :=
  by
  obtain ⟨h1, h2, h3, h4⟩ := putFault_zero hf
  refine (putRef_any A l c p (treeFault2_zero.2 ⟨h1, h2⟩) w hl).mono fun e w' h => ?_
  obtain ⟨v, q1, q2⟩ := h.2.2.2 h3 (by omega)
  exact ⟨v, q1, q2, h.1⟩
theorem dropRef_none (A : Option Addr) (l : List Pf) (c : Nat) (p : Pf) (h2 : treeFault2 l p = 0) (hm : p ∉ l) (w : World) (hl : Rd w w.heap.size A (cellsP l)) :
    Calls Tryd.prog 37 #[.slice A l.length c, .agg #[.int .i64 p.1, .int .i64 p.2]] w fun e w' => e = .returned (.tuple #[.slice none 0 0, .int .i64 4]) ∧ Below w.heap.size w w' :=
  (dropRef_any A l c p h2 w hl).mono fun e w' h => ⟨h.2.1 hm, h.1⟩
theorem dropRef_ok (A : Option Addr) (l : List Pf) (c : Nat) (p : Pf) (h2 : treeFault2 l p = 0) (hm : p ∈ l) (w : World) (hl : Rd w w.heap.size A (cellsP l)) :
    Calls Tryd.prog 37 #[.slice A l.length c, .agg #[.int .i64 p.1, .int .i64 p.2]] w fun e w' => ∃ v, e = .returned (.tuple #[v, .int .i64 0]) ∧ OwnP w' w.heap.size 23 v (dropL l p) ∧ Below w.heap.size w w' :=
  by
  refine (dropRef_any A l c p h2 w hl).mono fun e w' h => ?_
  obtain ⟨v, q1, q2⟩ := h.2.2 hm
  exact ⟨v, q1, q2, h.1⟩
theorem findRef_none (A : Option Addr) (l : List Pf) (c : Nat) (a : Int) (ht : treeFault l = 0) (ha : isA a = true) (hn : l.filter (inQ (a, 32)) = []) (w : World) (hl : Rd w w.heap.size A (cellsP l)) :
    Calls Tryd.prog 39 #[.slice A l.length c, .int .i64 a] w fun e w' => e = .returned (.int .i64 (-1)) ∧ Below w.heap.size w w' := by
  refine (findRef_any A l c a ht ha w hl).mono fun e w' h => ?_
  obtain ⟨best, rfl, hr, hb⟩ := h
  rcases hr with ⟨rfl, _⟩ | ⟨j, hj, _, rfl, h1, _⟩
  · exact ⟨rfl, hb⟩
  · have : l[j] ∈ l.filter (inQ (a, 32)) := List.mem_filter.2 ⟨List.getElem_mem _, h1⟩
    rw [hn] at this
    simp at this
theorem findRef_some (A : Option Addr) (l : List Pf) (c : Nat) (a : Int) (hf : findFault l a = 0) (w : World) (hl : Rd w w.heap.size A (cellsP l)) :
    Calls Tryd.prog 39 #[.slice A l.length c, .int .i64 a] w fun e w' => ∃ (j : Nat) (h : j < l.length), e = .returned (.int .i64 j) ∧ l[j] = findRes l a ∧ Below w.heap.size w w' := by
  obtain ⟨ht, ha, hn⟩ := findFault_zero hf
  refine (findRef_any A l c a ht ha w hl).mono fun e w' h => ?_
  obtain ⟨best, rfl, hr, hb⟩ := h
  rcases hr with ⟨rfl, hr⟩ | ⟨j, hj, hjk, rfl, h1, h2⟩
  · exact absurd (find_none (.inl ⟨rfl, hr⟩)) hn
  · have := find_last hj (.inr ⟨j, hj, hjk, rfl, h1, h2⟩)
    rw [found_last hf] at this
    exact ⟨j, hj, rfl, (Option.some.inj this).symm, hb⟩
theorem refIs_b (a : Int) (w : World) : Calls Tryd.prog 30 #[.int .i64 a] w fun e w' => e = .returned (.bool (isA a)) ∧ Below w.heap.size w w' :=
  (refIs_any a w).mono fun e w' h => ⟨h.1, h.2 ▸ Below.refl _ _⟩
theorem prefixes_nil (w : World) : Calls Tryd.prog 26 #[.slice none 0 0, .slice none 0 0] w fun e w' => e = .returned (.bool true) ∧ Below w.heap.size w w' :=
  prefixes_same none none [] [] 0 0 0 0 rfl rfl (Nat.zero_le _) rfl w (fun h => absurd rfl h) (fun h => absurd rfl h)
end Go.Proofs.YtcgeagobndhpjaaDoor
