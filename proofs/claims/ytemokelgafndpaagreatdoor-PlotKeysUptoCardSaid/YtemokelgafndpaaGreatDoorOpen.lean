/- Opening the arguments of a law: a prefix by value, slices of ints, slices of prefixes and spans. No conditions. -/
import Derived.Test.YtemokelgafndpaaGreatDoorKit
import Derived.ProofKit
import Derived.OpenShut
import Derived.ShutString
import Derived.ChangeOld
import Derived.Below
import Derived.Lib.SmallJoins
import Derived.Deep.SlicePairs
namespace Go.Proofs.YtemokelgafndpaaGreatDoor
set_option linter.unusedVariables false
set_option linter.unusedSimpArgs false
open Go.ChangeShapes Go.WideShapes Go.ChangeAt Go.RowKit Go.Joins Go.Deep

section
variable {H : Type} {enc : TypeId × Value → H} {P : Program} {W : World} {base : Nat} {spare : Nat → Bool} {held : Bool} {r : Reach} {b0 : Nat}

/-- A struct of two ints by value. -/
theorem open_two {t q : TypeId} {f0 f1 : Field} {v : Value} {d : DataW H} {p : List MemPlace} (hs : P.underlying t = some (.struct #[f0, f1])) (hone : oneCellFields P #[f0, f1] = true) (hC : P.cellsOf t = 2)
    (hq : P.underlying q = some (.int .i64)) (h0 : f0.type = q) (h1 : f1.type = q) (hv : Value.okWide P W r b0 t v) (h : DataW.Trod enc P W base spare held t v d p) :
    ∃ a n, v = .agg #[.int .i64 a, .int .i64 n] := by
  obtain ⟨v0, v1, y0, y1, m, rfl, _, _, g0, g1⟩ := open_agg2 hs hone hC hv h
  rw [h0] at g0
  rw [h1] at g1
  obtain ⟨a, e0, _, _⟩ := DataW.trod_int hq g0
  obtain ⟨n, e1, _, _⟩ := DataW.trod_int hq g1
  simp at e0 e1
  subst e0 e1
  exact ⟨a, n, rfl⟩

theorem add_none (a : Addr) (i : Nat) (h : a.spot = none) : a.add i = ⟨a.block, a.off + i, none⟩ := by
  obtain ⟨b, off, s⟩ := a
  simp at h
  subst h
  unfold Addr.add
  split <;> simp_all

/-- A slice of ints. -/
theorem open_is2 {t q : TypeId} {v : Value} {d : DataW H} {p : List MemPlace} (ht : P.underlying t = some (.slice q)) (hq : P.underlying q = some (.int .i64)) (hC : P.cellsOf q = 1)
    (hv : Value.okWide P W r b0 t v) (h : DataW.Trod enc P W base spare held t v d p) :
    ∃ (A : Option Addr) (l : List Int) (c : Nat), v = .slice A l.length c ∧ l.length ≤ maxLen ∧ l.length ≤ c ∧ Rd W W.heap.size A (l.map (Value.int .i64)) := by
  obtain ⟨A, len, cap, rfl⟩ := okWide_slice ht hv
  obtain ⟨fuel, hf⟩ := h
  rcases open_slice ht hf with ⟨hcs, _⟩ | ⟨a, len', cap', m, n, D, Pl, hcs, _, hl, hm, hmm, _, hx⟩
  · simp [Value.cells] at hcs
    obtain ⟨rfl, rfl, rfl⟩ := hcs
    exact ⟨none, [], 0, rfl, by simp, by simp, Rd.nil⟩
  · simp [Value.cells] at hcs
    obtain ⟨rfl, rfl, rfl⟩ := hcs
    have hlm : len ≤ m := by rw [hmm]; split <;> omega
    have each : ∀ i, i < len → ∃ z : Int, W.cell? (a.add i) = some (.int .i64 z) := fun i hi => by
      obtain ⟨cs, h1, h2⟩ := hx i (by omega)
      rw [hC] at h1
      obtain ⟨z, rfl, _, _⟩ := DataW.trod_int hq h2
      obtain ⟨_, _, hcell⟩ := World.cells?_some h1
      have := hcell 0 (by omega)
      rw [add_add] at this
      exact ⟨z, by simpa using this⟩
    obtain ⟨Z, hZ⟩ := choose_lt each
    refine ⟨some a, (List.range len).map Z, cap, by simp, by simp; omega, by simp; omega, fun hne => ?_⟩
    have h0 : 0 < len := by
      rcases Nat.eq_zero_or_pos len with h0 | h0
      · subst h0; exact absurd rfl hne
      · exact h0
    have hs : a.spot = none := by
      have := World.cell?_spot (hZ 0 h0)
      simpa [Addr.add] using this
    refine ⟨a.block, a.off, by obtain ⟨b, off, s⟩ := a; simp at hs; subst hs; rfl, ?_, fun j u hu => ?_⟩
    · have := World.block_lt_of_cell? W _ (hZ 0 h0)
      rw [add_none _ _ hs] at this
      exact this
    · rw [← add_none _ _ hs]
      simp only [List.map_map, List.getElem?_map] at hu
      rcases Nat.lt_or_ge j len with hj | hj
      · rw [List.getElem?_range hj] at hu
        simp at hu
        rw [hZ j hj, hu]
      · rw [List.getElem?_eq_none (by simpa using hj)] at hu
        simp at hu

/-- A slice of ints. -/
theorem open_is {t q : TypeId} {v : Value} {d : DataW H} {p : List MemPlace} (ht : P.underlying t = some (.slice q)) (hq : P.underlying q = some (.int .i64)) (hC : P.cellsOf q = 1)
    (hv : Value.okWide P W r b0 t v) (h : DataW.Trod enc P W base spare held t v d p) :
    ∃ (A : Option Addr) (l : List Int) (c : Nat), v = .slice A l.length c ∧ l.length ≤ maxLen ∧ Rd W W.heap.size A (l.map (Value.int .i64)) := by
  obtain ⟨A, l, c, h1, h2, _, h3⟩ := open_is2 ht hq hC hv h
  exact ⟨A, l, c, h1, h2, h3⟩

/-- A slice of structs of two ints. -/
theorem open_ps {t e q : TypeId} {f0 f1 : Field} {v : Value} {d : DataW H} {p : List MemPlace} (ht : P.underlying t = some (.slice e)) (he : P.underlying e = some (.struct #[f0, f1]))
    (ce : P.cellsOf e = 2) (o0 : f0.offset = 0) (o1 : f1.offset = 1) (hq : P.underlying q = some (.int .i64)) (hC : P.cellsOf q = 1) (h0 : f0.type = q) (h1 : f1.type = q)
    (hv : Value.okWide P W r b0 t v) (h : DataW.Trod enc P W base spare held t v d p) :
    ∃ (A : Option Addr) (l : List (Int × Int)) (c : Nat), v = .slice A l.length c ∧ l.length ≤ maxLen ∧ Rd W W.heap.size A (cellsP l) := by
  obtain ⟨A, len, cap, rfl⟩ := okWide_slice ht hv
  obtain ⟨fuel, hf⟩ := h
  rcases open_slice_pairs ht he ce o0 o1 (by rw [h0]; exact hC) (by rw [h1]; exact hC) hf with ⟨hcs, _⟩ | ⟨a, len', cap', m, n, V0, V1, D0, D1, P0, P1, hcs, _, hl, hm, hmm, _, hx⟩
  · simp [Value.cells] at hcs
    obtain ⟨rfl, rfl, rfl⟩ := hcs
    exact ⟨none, [], 0, rfl, by simp, Rd.nil⟩
  · simp [Value.cells] at hcs
    obtain ⟨rfl, rfl, rfl⟩ := hcs
    have hlm : len ≤ m := by rw [hmm]; split <;> omega
    have each : ∀ i, i < len → ∃ z : Int × Int, W.cell? (a.add (i * 2)) = some (.int .i64 z.1) ∧ W.cell? (a.add (i * 2 + 1)) = some (.int .i64 z.2) := fun i hi => by
      obtain ⟨c0, c1, g0, g1⟩ := hx i (by omega)
      rw [h0] at g0
      rw [h1] at g1
      obtain ⟨z0, e0, _, _⟩ := DataW.trod_int hq g0
      obtain ⟨z1, e1, _, _⟩ := DataW.trod_int hq g1
      simp at e0 e1
      exact ⟨(z0, z1), by rw [c0, e0], by rw [c1, e1]⟩
    obtain ⟨Z, hZ⟩ := choose_lt each
    refine ⟨some a, (List.range len).map Z, cap, by simp, by simp; omega, fun hne => ?_⟩
    have h0 : 0 < len := by
      rcases Nat.eq_zero_or_pos len with h0 | h0
      · subst h0; exact absurd rfl hne
      · exact h0
    have hs : a.spot = none := by
      have := World.cell?_spot (hZ 0 h0).1
      simpa [Addr.add] using this
    refine ⟨a.block, a.off, by obtain ⟨b, off, s⟩ := a; simp at hs; subst hs; rfl, ?_, fun j u hu => ?_⟩
    · have := World.block_lt_of_cell? W _ (hZ 0 h0).1
      rw [add_none _ _ hs] at this
      exact this
    · rw [← add_none _ _ hs]
      have hlen : ((List.range len).map Z).length = len := by simp
      have hj : j < len * 2 := by
        have := cellsP_length ((List.range len).map Z)
        rw [hlen] at this
        rw [← this]
        exact (List.getElem?_eq_some_iff.1 hu).1
      have hc := cellsP_at ((List.range len).map Z) (j / 2) (by omega)
      have hz := hZ (j / 2) (by omega)
      simp only [List.getElem_map, List.getElem_range] at hc
      rcases Nat.mod_two_eq_zero_or_one j with h | h
      · have e : 2 * (j / 2) = j := by omega
        have e2 : j / 2 * 2 = j := by omega
        rw [e, hu] at hc
        rw [e2] at hz
        rw [hz.1, Option.some.inj hc.1]
      · have e : 2 * (j / 2) + 1 = j := by omega
        have e2 : j / 2 * 2 + 1 = j := by omega
        rw [e, hu] at hc
        rw [e2] at hz
        rw [hz.2, Option.some.inj hc.2]
end
end Go.Proofs.YtemokelgafndpaaGreatDoor
