/- The law SpanSets: what lies between its parts; small contracts. Any lists, any number. -/
import Derived.Test.YtmfaknngophmhaaDoorTog
import Derived.Test.YtmfaknngophmhaaDoorSets
import Derived.Test.YtmfaknngophmhaaDoorMake
import Derived.Test.YtmfaknngophmhaaDoorErrLaw
import Derived.Test.YtmfaknngophmhaaDoorCut
namespace Go.Proofs.YtmfaknngophmhaaDoor
set_option linter.unusedVariables false
set_option linter.unusedSimpArgs false
open Go.RowKit

def SSmid (A : Option Addr) (l : List Sp) (c : Nat) (B : Option Addr) (a : List Sp) (d : Nat) (C : Option Addr) (b : List Sp) (g : Nat) (x : Int) (w : World) (kk : Int) (a' : Act) (w' : World) : Prop :=
  ∃ (U : Nat → Value) , a' = { tmps := #[.slice A l.length c, .slice B a.length d, .slice C b.length g, .int .i64 x, U 4, U 5, U 6, U 7, .bool false, .int .i64 kk, U 10, U 11, U 12, U 13, U 14, U 15, U 16, U 17, U 18, U 19, U 20, U 21, U 22, U 23, U 24, U 25, U 26, U 27, U 28, U 29, U 30, U 31, U 32, U 33, U 34, U 35, U 36, U 37, U 38, U 39, U 40, U 41, U 42, U 43, U 44, U 45, U 46, U 47, U 48, U 49, U 50, U 51, U 52, U 53, U 54, U 55, U 56, U 57, U 58, U 59, U 60, U 61, U 62, U 63, U 64, U 65, U 66, U 67, U 68, U 69, U 70, U 71, U 72, U 73, U 74, U 75, U 76, U 77, U 78, U 79, U 80, U 81, U 82, U 83, U 84, U 85, U 86, U 87, U 88, U 89, U 90, U 91, U 92, U 93, U 94, U 95, U 96, U 97, U 98, U 99, U 100, U 101, U 102, U 103, U 104, U 105, U 106, U 107, U 108, U 109, U 110, U 111, U 112, U 113, U 114, U 115, U 116, U 117, U 118, U 119, U 120, U 121, U 122, U 123, U 124, U 125, U 126, U 127, U 128, U 129, U 130, U 131, U 132, U 133, U 134, U 135, U 136, U 137, U 138, U 139, U 140, U 141, U 142, U 143, U 144, U 145, U 146, U 147, U 148, U 149, U 150, U 151, U 152, U 153, U 154, U 155, U 156, U 157, U 158, U 159, U 160, U 161, U 162, U 163, U 164, U 165, U 166, U 167, U 168, U 169, U 170, U 171, U 172, U 173, U 174, U 175, U 176, U 177, U 178, U 179, U 180, U 181, U 182, U 183, U 184, U 185, U 186, U 187, U 188, U 189, U 190, U 191, U 192, U 193, U 194, U 195, U 196, U 197, U 198, U 199, U 200, U 201, U 202, U 203, U 204, U 205, U 206, U 207, U 208, U 209, U 210, U 211, U 212, U 213, U 214, U 215, U 216], defers := [] } ∧ Below w.heap.size w w'
theorem SSmid.mk {A : Option Addr} {l : List Sp} {c : Nat} {B : Option Addr} {a : List Sp} {d : Nat} {C : Option Addr} {b : List Sp} {g : Nat} {x : Int} {w : World} {kk : Int} {T : Array Value} {w' : World}  (hT : T = #[.slice A l.length c, .slice B a.length d, .slice C b.length g, .int .i64 x, T.getD 4 undef, T.getD 5 undef, T.getD 6 undef, T.getD 7 undef, .bool false, .int .i64 kk, T.getD 10 undef, T.getD 11 undef, T.getD 12 undef, T.getD 13 undef, T.getD 14 undef, T.getD 15 undef, T.getD 16 undef, T.getD 17 undef, T.getD 18 undef, T.getD 19 undef, T.getD 20 undef, T.getD 21 undef, T.getD 22 undef, T.getD 23 undef, T.getD 24 undef, T.getD 25 undef, T.getD 26 undef, T.getD 27 undef, T.getD 28 undef, T.getD 29 undef, T.getD 30 undef, T.getD 31 undef, T.getD 32 undef, T.getD 33 undef, T.getD 34 undef, T.getD 35 undef, T.getD 36 undef, T.getD 37 undef, T.getD 38 undef, T.getD 39 undef, T.getD 40 undef, T.getD 41 undef, T.getD 42 undef, T.getD 43 undef, T.getD 44 undef, T.getD 45 undef, T.getD 46 undef, T.getD 47 undef, T.getD 48 undef, T.getD 49 undef, T.getD 50 undef, T.getD 51 undef, T.getD 52 undef, T.getD 53 undef, T.getD 54 undef, T.getD 55 undef, T.getD 56 undef, T.getD 57 undef, T.getD 58 undef, T.getD 59 undef, T.getD 60 undef, T.getD 61 undef, T.getD 62 undef, T.getD 63 undef, T.getD 64 undef, T.getD 65 undef, T.getD 66 undef, T.getD 67 undef, T.getD 68 undef, T.getD 69 undef, T.getD 70 undef, T.getD 71 undef, T.getD 72 undef, T.getD 73 undef, T.getD 74 undef, T.getD 75 undef, T.getD 76 undef, T.getD 77 undef, T.getD 78 undef, T.getD 79 undef, T.getD 80 undef, T.getD 81 undef, T.getD 82 undef, T.getD 83 undef, T.getD 84 undef, T.getD 85 undef, T.getD 86 undef, T.getD 87 undef, T.getD 88 undef, T.getD 89 undef, T.getD 90 undef, T.getD 91 undef, T.getD 92 undef, T.getD 93 undef, T.getD 94 undef, T.getD 95 undef, T.getD 96 undef, T.getD 97 undef, T.getD 98 undef, T.getD 99 undef, T.getD 100 undef, T.getD 101 undef, T.getD 102 undef, T.getD 103 undef, T.getD 104 undef, T.getD 105 undef, T.getD 106 undef, T.getD 107 undef, T.getD 108 undef, T.getD 109 undef, T.getD 110 undef, T.getD 111 undef, T.getD 112 undef, T.getD 113 undef, T.getD 114 undef, T.getD 115 undef, T.getD 116 undef, T.getD 117 undef, T.getD 118 undef, T.getD 119 undef, T.getD 120 undef, T.getD 121 undef, T.getD 122 undef, T.getD 123 undef, T.getD 124 undef, T.getD 125 undef, T.getD 126 undef, T.getD 127 undef, T.getD 128 undef, T.getD 129 undef, T.getD 130 undef, T.getD 131 undef, T.getD 132 undef, T.getD 133 undef, T.getD 134 undef, T.getD 135 undef, T.getD 136 undef, T.getD 137 undef, T.getD 138 undef, T.getD 139 undef, T.getD 140 undef, T.getD 141 undef, T.getD 142 undef, T.getD 143 undef, T.getD 144 undef, T.getD 145 undef, T.getD 146 undef, T.getD 147 undef, T.getD 148 undef, T.getD 149 undef, T.getD 150 undef, T.getD 151 undef, T.getD 152 undef, T.getD 153 undef, T.getD 154 undef, T.getD 155 undef, T.getD 156 undef, T.getD 157 undef, T.getD 158 undef, T.getD 159 undef, T.getD 160 undef, T.getD 161 undef, T.getD 162 undef, T.getD 163 undef, T.getD 164 undef, T.getD 165 undef, T.getD 166 undef, T.getD 167 undef, T.getD 168 undef, T.getD 169 undef, T.getD 170 undef, T.getD 171 undef, T.getD 172 undef, T.getD 173 undef, T.getD 174 undef, T.getD 175 undef, T.getD 176 undef, T.getD 177 undef, T.getD 178 undef, T.getD 179 undef, T.getD 180 undef, T.getD 181 undef, T.getD 182 undef, T.getD 183 undef, T.getD 184 undef, T.getD 185 undef, T.getD 186 undef, T.getD 187 undef, T.getD 188 undef, T.getD 189 undef, T.getD 190 undef, T.getD 191 undef, T.getD 192 undef, T.getD 193 undef, T.getD 194 undef, T.getD 195 undef, T.getD 196 undef, T.getD 197 undef, T.getD 198 undef, T.getD 199 undef, T.getD 200 undef, T.getD 201 undef, T.getD 202 undef, T.getD 203 undef, T.getD 204 undef, T.getD 205 undef, T.getD 206 undef, T.getD 207 undef, T.getD 208 undef, T.getD 209 undef, T.getD 210 undef, T.getD 211 undef, T.getD 212 undef, T.getD 213 undef, T.getD 214 undef, T.getD 215 undef, T.getD 216 undef]) (h : Below w.heap.size w w') : SSmid A l c B a d C b g x w kk { tmps := T, defers := [] } w' :=
  ⟨fun i => T.getD i undef,  congrArg (fun t => ({ tmps := t, defers := [] } : Act)) hT, h⟩
def ifz (f : Int) (R : List Sp) : List Sp := if f = 0 then R else []
theorem ifz_zero (R : List Sp) : ifz 0 R = R := if_pos rfl
theorem ifz_no {f : Int} (h : f ≠ 0) (R : List Sp) : ifz f R = [] := if_neg h
theorem setU {w w' : World} {f : Int} {R : List Sp} {e : Ending} (h : SetRes w f R e w') : ∃ v, e = .returned (.tuple #[v, errOf f]) ∧ OwnP w' w.heap.size 26 v (ifz f R) ∧ Below w.heap.size w w' := by
  obtain ⟨h1, h2, h3⟩ := h
  by_cases hf : f = 0
  · obtain ⟨v, q1, q2⟩ := h2 hf
    exact ⟨v, by rw [q1, hf]; rfl, by rw [hf, ifz_zero]; exact q2, h1⟩
  · exact ⟨_, by rw [h3 hf]; unfold errOf; rw [if_neg hf], by rw [ifz_no hf]; exact OwnP.nil _ _ _, h1⟩
theorem errU_same (k n : Int) (h : k = n) (w : World) (hg : ErrVar w) :
    Calls Tryd.prog 10 #[errOf k, .int .i64 n] w fun e w' => e = .returned (.bool true) ∧ Below w.heap.size w w' :=
  (error_any k n w hg).mono fun e w' q => ⟨by rw [q.1, h]; simp, q.2⟩
theorem spans_same (A B : Option Addr) (a b : List Sp) (n m c d : Nat) (hn : n = a.length) (hm : m = b.length) (hx : a.length ≤ maxLen) (hab : a = b) (w : World) (hl : Rd w w.heap.size A (cellsP a)) (hr : Rd w w.heap.size B (cellsP b)) :
    Calls Tryd.prog 11 #[.slice A n c, .slice B m d] w fun e w' => e = .returned (.bool true) ∧ Below w.heap.size w w' := by
  subst hn hm
  exact (spans_any A B a b c d hx w hl hr).mono fun e w' h => ⟨by rw [h.1, decide_eq_true hab], h.2⟩
theorem spans_nil (w : World) : Calls Tryd.prog 11 #[.slice none 0 0, .slice none 0 0] w fun e w' => e = .returned (.bool true) ∧ Below w.heap.size w w' :=
  spans_same none none [] [] 0 0 0 0 rfl rfl (Nat.zero_le _) rfl w (fun h => absurd rfl h) (fun h => absurd rfl h)
theorem valid_nil : Valid [] := fun s hs => by cases hs
theorem make_good {l : List Sp} (h : makeFault l = 0) : l.length ≤ 64 ∧ Valid l := by
  unfold makeFault at h
  split at h
  · cases h
  · exact ⟨by omega, firstFault_zero.1 h⟩
theorem tog_norm {l : List Sp} (h : makeFault l = 0) : norm l = together l [] 1 := (together_norm (make_good h).2).symm
/-- What two sets are, by a number. -/
def opL (h : Int) (a b : List Sp) : List Sp := if h = 1 then norm (a ++ b) else if h = 2 then common a b else common a (others b)
theorem tog_op {a b : List Sp} {h : Int} (hh : h = 1 ∨ h = 2 ∨ h = 3) (ha : setFault a = 0) (hb : setFault b = 0) : together a b h = opL h a b := by
  obtain ⟨_, va, ca⟩ := set_good ha
  obtain ⟨_, vb, cb⟩ := set_good hb
  refine canon_unique (b := -1) (together_can a b h va vb) (c := ?_) ?_ fun t => ?_
  · exact if h = 1 then -1 else max (-1) (-1)
  · rcases hh with rfl | rfl | rfl
    · exact (norm_good (valid_append va vb)).1
    · exact common_can a b _ _ ca cb
    · exact common_can a (others b) _ _ ca (othersGo_can b 0 cb)
  · rw [together_mem]
    rcases hh with rfl | rfl | rfl
    · have := (norm_good (valid_append va vb)).2 t
      rw [show opL 1 a b = norm (a ++ b) from rfl, this, memS_append]; simp [rule]
    · rw [show opL 2 a b = common a b from rfl, common_mem a b _ _ ca cb]; simp [rule]
    · rw [show opL 3 a b = common a (others b) from rfl, common_mem a (others b) _ _ ca (othersGo_can b 0 cb)]
      unfold others
      rw [othersGo_mem b 0 cb (fun s hs => (vb s hs).2.2)]
      by_cases hm : memS a t = true
      · have hv := valid_mem va hm
        simp [rule, hm, hv.1, hv.2]
      · simp at hm
        simp [rule, hm]
theorem opFault_op {a b : List Sp} {h : Int} (hh : h = 1 ∨ h = 2 ∨ h = 3) (ht : twoFault a b = 0) : opFault a b (opL h a b) = if 64 < (together a b h).length then 3 else 0 := by
  obtain ⟨ga, gb⟩ := twoFault_zero.1 ht
  rw [tog_op hh ga gb]
  unfold opFault
  rw [if_neg (by simp [ht])]
theorem unionU (A B : Option Addr) (a b : List Sp) (c d : Nat) (ha : a.length ≤ maxLen) (hb : b.length ≤ maxLen) (w : World) (hl : Rd w w.heap.size A (cellsP a)) (hr : Rd w w.heap.size B (cellsP b)) :
    Calls Tryd.prog 17 #[.slice A a.length c, .slice B b.length d] w fun e w' => ∃ v, e = .returned (.tuple #[v, errOf (opFault a b (opL 1 a b))]) ∧ OwnP w' w.heap.size 26 v (ifz (opFault a b (opL 1 a b)) (opL 1 a b)) ∧ Below w.heap.size w w' :=
  (union_all A B a b c d ha hb w hl hr).mono fun _ _ h => setU h
theorem meetU (A B : Option Addr) (a b : List Sp) (c d : Nat) (ha : a.length ≤ maxLen) (hb : b.length ≤ maxLen) (w : World) (hl : Rd w w.heap.size A (cellsP a)) (hr : Rd w w.heap.size B (cellsP b)) :
    Calls Tryd.prog 18 #[.slice A a.length c, .slice B b.length d] w fun e w' => ∃ v, e = .returned (.tuple #[v, errOf (opFault a b (opL 2 a b))]) ∧ OwnP w' w.heap.size 26 v (ifz (opFault a b (opL 2 a b)) (opL 2 a b)) ∧ Below w.heap.size w w' :=
  (meet_all A B a b c d ha hb w hl hr).mono fun _ _ h => setU h
theorem minusU (A B : Option Addr) (a b : List Sp) (c d : Nat) (ha : a.length ≤ maxLen) (hb : b.length ≤ maxLen) (w : World) (hl : Rd w w.heap.size A (cellsP a)) (hr : Rd w w.heap.size B (cellsP b)) :
    Calls Tryd.prog 19 #[.slice A a.length c, .slice B b.length d] w fun e w' => ∃ v, e = .returned (.tuple #[v, errOf (opFault a b (opL 3 a b))]) ∧ OwnP w' w.heap.size 26 v (ifz (opFault a b (opL 3 a b)) (opL 3 a b)) ∧ Below w.heap.size w w' :=
  (minus_all A B a b c d ha hb w hl hr).mono fun _ _ h => setU h
end Go.Proofs.YtmfaknngophmhaaDoor
