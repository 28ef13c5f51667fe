/- Texts joined: XOpenC. Each says at its head what it proves; conditions: as said there. -/
import Derived.Test.YtfklhjkgogncdaaD14
import Derived.Test.YtfklhjkgogncdaaD10
import Derived.Deep.Strs
import Derived.ChangeMaps5
/- Opening the arguments of a law: slices of bytes, slices of changes, slices of slices of changes. No conditions. -/
namespace Go.Proofs.Ytfklhjkgogncdaa
set_option linter.unusedVariables false
set_option linter.unusedSimpArgs false
open Go.ChangeShapes Go.WideShapes Go.ChangeAt Go.RowKit Go.Joins Go.Deep


theorem str_data (s : ByteArray) : (⟨s.data.toList.toArray⟩ : ByteArray) = s := by
  obtain ⟨a⟩ := s
  simp

section
variable {H : Type} {enc : TypeId × Value → H} {P : Program} {W : World} {base : Nat} {spare : Nat → Bool} {held : Bool} {r : Reach} {b0 : Nat}

theorem byte_of {n : Int} (h : (Lit.int .u8 n).wf = true) : n = ((UInt8.ofNat n.toNat).toNat : Int) := by
  have hn := bounds_u8 h
  have := toNat_of (n := n.toNat) (by omega)
  omega

theorem i64_of {n : Int} (h : (Lit.int .i64 n).wf = true) : -9223372036854775808 ≤ n ∧ n ≤ 9223372036854775807 := bounds_i64 h
/-- A slice of bytes. -/
theorem open_bytes {t q : TypeId} {v : Value} {d : DataW H} {p : List MemPlace} (ht : P.underlying t = some (.slice q)) (hq : P.underlying q = some (.int .u8)) (hC : P.cellsOf q = 1)
    (hv : Value.okWide P W r b0 t v) (h : DataW.Trod enc P W base spare held t v d p) :
    ∃ (A : Option Addr) (l : List UInt8) (c : Nat), v = .slice A l.length c ∧ l.length ≤ maxLen ∧ l.length ≤ c ∧ Rd W W.heap.size A (bytesV l) := by
  obtain ⟨A, len, cap, rfl⟩ := okWide_slice ht hv
  obtain ⟨fuel, hf⟩ := h
  rcases open_slice ht hf with ⟨hcs, _⟩ | ⟨a, len', cap', m, n, D, Pl, hcs, _, hl, hm, hmm, _, hx⟩
  · simp [Value.cells] at hcs
    obtain ⟨rfl, rfl, rfl⟩ := hcs
    exact ⟨none, [], 0, rfl, by simp, by simp, Rd.nil⟩
  · simp [Value.cells] at hcs
    obtain ⟨rfl, rfl, rfl⟩ := hcs
    have hlm : len ≤ m := by rw [hmm]; split <;> omega
    have each : ∀ i, i < len → ∃ z : UInt8, W.cell? (a.add i) = some (.int .u8 (z.toNat : Int)) := fun i hi => by
      obtain ⟨cs, h1, h2⟩ := hx i (by omega)
      rw [hC] at h1
      obtain ⟨z, rfl, _, hz⟩ := DataW.trod_int hq h2
      obtain ⟨_, _, hcell⟩ := World.cells?_some h1
      have := hcell 0 (by omega)
      rw [add_add] at this
      refine ⟨UInt8.ofNat z.toNat, ?_⟩
      rw [← byte_of hz]
      simpa using this
    obtain ⟨Z, hZ⟩ := choose_lt each
    refine ⟨some a, (List.range len).map Z, cap, by simp, by simp; omega, by simp; omega, fun hne => ?_⟩
    have h0 : 0 < len := by
      rcases Nat.eq_zero_or_pos len with h0 | h0
      · subst h0; exact absurd rfl hne
      · exact h0
    have hs : a.spot = none := by
      have := World.cell?_spot (hZ 0 h0)
      simpa [Addr.add] using this
    refine ⟨a.block, a.off, by obtain ⟨b, off, s⟩ := a; simp at hs; subst hs; rfl, ?_, fun j u hu => ?_⟩
    · have := World.block_lt_of_cell? W _ (hZ 0 h0)
      rw [add_none _ _ hs] at this
      exact this
    · rw [← add_none _ _ hs]
      simp only [bytesV, List.map_map, List.getElem?_map] at hu
      rcases Nat.lt_or_ge j len with hj | hj
      · rw [List.getElem?_range hj] at hu
        simp at hu
        rw [hZ j hj, hu]
      · rw [List.getElem?_eq_none (by simpa using hj)] at hu
        simp at hu

/-- A slice of changes, as a cell. -/
theorem open_chgs' {t e ts tb : TypeId} {f0 f1 f2 : Field} {fuel : Nat} {A : Option Addr} {len cap : Nat} {x : DataW H × List MemPlace} (ht : P.underlying t = some (.slice e)) (he : P.underlying e = some (.struct #[f0, f1, f2]))
    (ce : P.cellsOf e = 3) (o0 : f0.offset = 0) (o1 : f1.offset = 1) (o2 : f2.offset = 2) (hts : P.underlying ts = some .string) (htb : P.underlying tb = some .bool) (cts : P.cellsOf ts = 1) (ctb : P.cellsOf tb = 1)
    (h0 : f0.type = ts) (h1 : f1.type = ts) (h2 : f2.type = tb) (hf : DataW.trod enc P W base spare held fuel t [.slice A len cap] = some x) :
    ∃ l : List Chg, len = l.length ∧ l.length ≤ maxLen ∧ l.length ≤ cap ∧ Small l ∧ Rd W W.heap.size A (cellsC l) := by
  rcases open_slice ht hf with ⟨hcs, _⟩ | ⟨a, len', cap', m, n, D, Pl, hcs, _, hl, hm, hmm, _, hx⟩
  · simp at hcs
    obtain ⟨rfl, rfl, rfl⟩ := hcs
    exact ⟨[], rfl, by simp, by simp, (fun c hc => by simp at hc), Rd.nil⟩
  · simp at hcs
    obtain ⟨rfl, rfl, rfl⟩ := hcs
    have hlm : len ≤ m := by rw [hmm]; split <;> omega
    have each : ∀ i, i < len → ∃ z : Chg, (z.key.length ≤ maxLen ∧ z.val.length ≤ maxLen) ∧ W.cell? (a.add (i * 3)) = some (strV z.key) ∧ W.cell? (a.add (i * 3 + 1)) = some (strV z.val) ∧ W.cell? (a.add (i * 3 + 2)) = some (.bool z.gone) := fun i hi => by
      obtain ⟨cs, g1, g2⟩ := hx i (by omega)
      rw [ce] at g1
      obtain ⟨y0, y1, y2, n', _, _, q0, q1, q2⟩ := trod_struct3 he g2
      rw [h0, o0, cts] at q0
      rw [h1, o1, cts] at q1
      rw [h2, o2, ctb] at q2
      obtain ⟨hlen, _, hcell⟩ := World.cells?_some g1
      obtain ⟨s0, e0, _, b0⟩ := DataW.trod_string hts q0
      obtain ⟨s1, e1, _, b1⟩ := DataW.trod_string hts q1
      obtain ⟨g, e2, _⟩ := DataW.trod_bool htb q2
      have c0 := hcell 0 (by omega)
      have c1 := hcell 1 (by omega)
      have c2 := hcell 2 (by omega)
      rw [add_add] at c0 c1 c2
      match cs, hlen with
      | [u0, u1, u2], _ =>
        simp at e0 e1 e2 c0 c1 c2
        subst e0 e1 e2
        refine ⟨⟨s0.data.toList, s1.data.toList, g⟩, ⟨?_, ?_⟩, ?_, ?_, ?_⟩
        · show s0.data.toList.length ≤ maxLen
          rw [Array.length_toList]; exact b0
        · show s1.data.toList.length ≤ maxLen
          rw [Array.length_toList]; exact b1
        · show W.cell? _ = some (.string ⟨s0.data.toList.toArray⟩)
          rw [str_data]; exact c0
        · show W.cell? _ = some (.string ⟨s1.data.toList.toArray⟩)
          rw [str_data]; exact c1
        · exact c2
    obtain ⟨Z, hZ⟩ := choose_lt each
    refine ⟨(List.range len).map Z, by simp, by simp; omega, by simp; omega, fun c hc => ?_, fun hne => ?_⟩
    · obtain ⟨i, hi, rfl⟩ := List.mem_map.1 hc
      exact (hZ i (List.mem_range.1 hi)).1
    have h0 : 0 < len := by
      rcases Nat.eq_zero_or_pos len with h0 | h0
      · subst h0; exact absurd rfl hne
      · exact h0
    have hs : a.spot = none := by
      have := World.cell?_spot (hZ 0 h0).2.1
      simpa [Addr.add] using this
    refine ⟨a.block, a.off, by obtain ⟨b, off, s⟩ := a; simp at hs; subst hs; rfl, ?_, fun j u hu => ?_⟩
    · have := World.block_lt_of_cell? W _ (hZ 0 h0).2.1
      rw [add_none _ _ hs] at this
      exact this
    · rw [← add_none _ _ hs]
      have hlen : ((List.range len).map Z).length = len := by simp
      have hj : j < len * 3 := by
        have := cellsC_length ((List.range len).map Z)
        rw [hlen] at this
        rw [← this]
        exact (List.getElem?_eq_some_iff.1 hu).1
      have hc := cellsC_at ((List.range len).map Z) (j / 3) (by omega)
      have hz := (hZ (j / 3) (by omega)).2
      simp only [List.getElem_map, List.getElem_range] at hc
      rcases (show j % 3 = 0 ∨ j % 3 = 1 ∨ j % 3 = 2 by omega) with h | h | h
      · have e : 3 * (j / 3) = j := by omega
        have e2 : j / 3 * 3 = j := by omega
        rw [e, hu] at hc
        rw [e2] at hz
        rw [hz.1, Option.some.inj hc.1]
      · have e : 3 * (j / 3) + 1 = j := by omega
        have e2 : j / 3 * 3 + 1 = j := by omega
        rw [e, hu] at hc
        rw [e2] at hz
        rw [hz.2.1, Option.some.inj hc.2.1]
      · have e : 3 * (j / 3) + 2 = j := by omega
        have e2 : j / 3 * 3 + 2 = j := by omega
        rw [e, hu] at hc
        rw [e2] at hz
        rw [hz.2.2, Option.some.inj hc.2.2]
/-- A slice of changes. -/
theorem open_chgs {t e ts tb : TypeId} {f0 f1 f2 : Field} {v : Value} {d : DataW H} {p : List MemPlace} (ht : P.underlying t = some (.slice e)) (he : P.underlying e = some (.struct #[f0, f1, f2]))
    (ce : P.cellsOf e = 3) (o0 : f0.offset = 0) (o1 : f1.offset = 1) (o2 : f2.offset = 2) (hts : P.underlying ts = some .string) (htb : P.underlying tb = some .bool) (cts : P.cellsOf ts = 1) (ctb : P.cellsOf tb = 1)
    (h0 : f0.type = ts) (h1 : f1.type = ts) (h2 : f2.type = tb) (hv : Value.okWide P W r b0 t v) (h : DataW.Trod enc P W base spare held t v d p) :
    ∃ (A : Option Addr) (l : List Chg) (c : Nat), v = .slice A l.length c ∧ l.length ≤ maxLen ∧ l.length ≤ c ∧ Small l ∧ Rd W W.heap.size A (cellsC l) := by
  obtain ⟨A, len, cap, rfl⟩ := okWide_slice ht hv
  obtain ⟨fuel, hf⟩ := h
  obtain ⟨l, rfl, g1, g2, g3, g4⟩ := open_chgs' ht he ce o0 o1 o2 hts htb cts ctb h0 h1 h2 (by simpa [Value.cells] using hf)
  exact ⟨A, l, cap, rfl, g1, g2, g3, g4⟩
end
end Go.Proofs.Ytfklhjkgogncdaa
