/- Steps of a script in memory; a row of lists that came in. No conditions. -/
import Derived.Test.YtdcjogofjniogaaDoorSameL
import Derived.Test.YtdcjogofjniogaaDoorLog6
namespace Go.Proofs.YtdcjogofjniogaaDoor
set_option linter.unusedVariables false
set_option linter.unusedSimpArgs false
open Go.RowKit

theorem lists_same2 (A B : Option Addr) (a : List (List Chg)) (na nb c d : Nat) (hna : na = a.length) (hnb : nb = a.length) (hm : a.length ≤ 1000000000) (hml : ∀ l ∈ a, l.length ≤ maxLen) (w : World) (hl : RdLL w w.heap.size A a) (hr : RdLL w w.heap.size B a) :
    Calls Tryd.prog 19 #[.slice A na c, .slice B nb d] w fun e w' => e = .returned (.bool true) ∧ Below w.heap.size w w' := by
  subst hna
  rw [hnb]
  exact lists_same A B a c d hm hml w hl hr
/-- A step of a script. -/
structure Stp where
  what : Int
  who : Int
  key : List UInt8
  to : List UInt8
  val : List UInt8
  n : Int
instance : Inhabited Stp := ⟨⟨0, 0, [], [], [], 0⟩⟩
def cellsS : List Stp → List Value
  | [] => []
  | s :: l => .int .i64 s.what :: .int .i64 s.who :: strV s.key :: strV s.to :: strV s.val :: .int .i64 s.n :: cellsS l
theorem cellsS_length : ∀ l, (cellsS l).length = l.length * 6
  | [] => rfl
  | s :: l => by simp [cellsS, cellsS_length l]; omega
theorem cellsS_at : ∀ (l : List Stp) (k : Nat) (h : k < l.length), (cellsS l)[6 * k]? = some (.int .i64 l[k].what) ∧ (cellsS l)[6 * k + 1]? = some (.int .i64 l[k].who) ∧ (cellsS l)[6 * k + 2]? = some (strV l[k].key) ∧ (cellsS l)[6 * k + 3]? = some (strV l[k].to) ∧ (cellsS l)[6 * k + 4]? = some (strV l[k].val) ∧ (cellsS l)[6 * k + 5]? = some (.int .i64 l[k].n)
  | s :: l, 0, _ => by simp [cellsS]
  | s :: l, k + 1, h => by
    have ih := cellsS_at l k (by simpa using h)
    have e1 : 6 * (k + 1) = 6 * k + 1 + 1 + 1 + 1 + 1 + 1 := by omega
    rw [e1]
    simpa [cellsS] using ih
/-- Step number k of a slice. -/
theorem Rd.stp {w : World} {B : Nat} {A : Option Addr} {l : List Stp} (h : Rd w B A (cellsS l)) {k : Nat} (hk : k < l.length) :
    ∃ b off, A = some ⟨b, off, none⟩ ∧ b < B ∧ w.cell? ⟨b, off + k * 6, none⟩ = some (.int .i64 l[k].what) ∧ w.cell? ⟨b, off + k * 6 + 1, none⟩ = some (.int .i64 l[k].who) ∧ w.cell? ⟨b, off + k * 6 + 2, none⟩ = some (strV l[k].key) ∧
      w.cell? ⟨b, off + k * 6 + 3, none⟩ = some (strV l[k].to) ∧ w.cell? ⟨b, off + k * 6 + 4, none⟩ = some (strV l[k].val) ∧ w.cell? ⟨b, off + k * 6 + 5, none⟩ = some (.int .i64 l[k].n) := by
  obtain ⟨b, off, e, hb, hc⟩ := h (fun h => by have := cellsS_length l; rw [h] at this; simp at this; omega)
  rw [Nat.mul_comm k 6]
  obtain ⟨h1, h2, h3, h4, h5, h6⟩ := cellsS_at l k hk
  exact ⟨b, off, e, hb, hc _ _ h1, hc _ _ h2, hc _ _ h3, hc _ _ h4, hc _ _ h5, hc _ _ h6⟩

/-- A row of lists: the row is the call's own, the lists came in. -/
def AllAt (w : World) (b0 : Nat) (v : Value) (all : List (List Chg)) : Prop :=
  ∃ xs : List Value, w.ownsRow b0 36 1 v all.length xs ∧ ∀ i (h : i < all.length), ∃ C c, xs[i]? = some (.slice C all[i].length c) ∧ Rd w b0 C (cellsC all[i])
theorem AllAt.nil (w : World) (b0 : Nat) : AllAt w b0 (.slice none 0 0) [] := ⟨[], World.ownsRow_nil _ _ _ _, fun i h => by simp at h⟩
theorem AllAt.keep {w w' : World} {b0 : Nat} {v : Value} {all : List (List Chg)} (h : AllAt w b0 v all) (hk : Keep b0 w w') : AllAt w' b0 v all := by
  obtain ⟨xs, h1, h2⟩ := h
  exact ⟨xs, hk.2.2.1 _ _ _ h1, fun i hi => by obtain ⟨C, c, h3, h4⟩ := h2 i hi; exact ⟨C, c, h3, h4.below hk.1⟩⟩
theorem AllAt.rd {w : World} {b0 : Nat} {v : Value} {all : List (List Chg)} (h : AllAt w b0 v all) (hb : b0 ≤ w.heap.size) : ∃ A c, v = .slice A all.length c ∧ all.length ≤ c ∧ RdLL w w.heap.size A all := by
  obtain ⟨xs, h1, h2⟩ := h
  obtain ⟨A, c, rfl, hc, hr⟩ := own_form2 h1
  exact ⟨A, c, rfl, hc, xs, by simpa using h1.1, hr, fun i hi => by obtain ⟨C, d, h3, h4⟩ := h2 i hi; exact ⟨C, d, h3, h4.more hb⟩⟩
theorem AllAt.shrink {w : World} {b0 n c : Nat} {A : Option Addr} {all : List (List Chg)} (h : AllAt w b0 (.slice A n c) all) {k : Nat} (hk : k ≤ all.length) : AllAt w b0 (.slice A k c) (all.take k) := by
  obtain ⟨xs, h1, h2⟩ := h
  obtain ⟨A', c', e, hc, hr⟩ := own_form2 h1
  injection e with e1 e2 e3
  subst e2
  have hl : (all.take k).length = k := by simp; omega
  refine ⟨xs.take k, by rw [hl]; exact own_shrink h1 hk, fun i hi => ?_⟩
  rw [hl] at hi
  obtain ⟨C, d, h3, h4⟩ := h2 i (by omega)
  refine ⟨C, d, ?_, ?_⟩
  · rw [List.getElem?_take, if_pos hi, List.getElem_take]
    exact h3
  · rw [List.getElem_take]
    exact h4
theorem AllAt.snoc {w w' : World} {b0 : Nat} {v v' : Value} {all : List (List Chg)} {m : List Chg} {xs : List Value} {C : Option Addr} {c : Nat}
    (h2 : ∀ i (h : i < all.length), ∃ C c, xs[i]? = some (.slice C all[i].length c) ∧ Rd w b0 C (cellsC all[i])) (hxl : xs.length = all.length) (hr : Rd w b0 C (cellsC m))
    (ho : w'.ownsRow b0 36 1 v' (all.length + 1) (xs ++ [.slice C m.length c])) (hb : Below b0 w w') : AllAt w' b0 v' (all ++ [m]) := by
  refine ⟨xs ++ [.slice C m.length c], by simpa using ho, fun i hi => ?_⟩
  rcases Nat.lt_or_ge i all.length with h | h
  · obtain ⟨D, d, h3, h4⟩ := h2 i h
    refine ⟨D, d, by rw [List.getElem?_append_left (by omega), List.getElem_append_left h]; exact h3, ?_⟩
    rw [List.getElem_append_left h]
    exact h4.below hb
  · have : i = all.length := by simp at hi; omega
    subst this
    refine ⟨C, c, ?_, ?_⟩
    · simp only [List.getElem_concat_length]
      rw [← hxl]
      simp
    · simp only [List.getElem_concat_length]
      exact hr.below hb
theorem AllAt.one {w : World} {b0 : Nat} {all : List (List Chg)} {xs : List Value} (hxl : xs.length = all.length) (h2 : ∀ i (h : i < all.length), ∃ C c, xs[i]? = some (.slice C all[i].length c) ∧ Rd w b0 C (cellsC all[i])) : ∀ u ∈ xs, u.oneCell' = true := by
  intro u hu
  obtain ⟨i, hi, rfl⟩ := List.mem_iff_getElem.1 hu
  obtain ⟨C, c, h3, _⟩ := h2 i (by omega)
  rw [List.getElem?_eq_getElem hi] at h3
  injection h3 with h3
  rw [h3]
  rfl
end Go.Proofs.YtdcjogofjniogaaDoor
