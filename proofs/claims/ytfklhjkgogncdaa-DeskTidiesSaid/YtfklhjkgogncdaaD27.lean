/- Texts joined: XOpenStp. Each says at its head what it proves; conditions: as said there. -/
import Derived.Test.YtfklhjkgogncdaaD14
import Derived.Test.YtfklhjkgogncdaaD3
import Derived.Deep.Strs
import Derived.ChangeMaps5
/- Opening the arguments of a law: slices of steps. No conditions. -/
namespace Go.Proofs.Ytfklhjkgogncdaa
set_option linter.unusedVariables false
set_option linter.unusedSimpArgs false
open Go.ChangeShapes Go.WideShapes Go.ChangeAt Go.RowKit Go.Joins Go.Deep

theorem str_data2 (s : ByteArray) : (⟨s.data.toList.toArray⟩ : ByteArray) = s := by
  obtain ⟨a⟩ := s
  simp

section
variable {H : Type} {enc : TypeId × Value → H} {P : Program} {W : World} {base : Nat} {spare : Nat → Bool} {held : Bool} {r : Reach} {b0 : Nat}

/-- A text. -/
theorem open_txt {t : TypeId} {v : Value} {d : DataW H} {p : List MemPlace} (ht : P.underlying t = some .string) (hv : Value.okWide P W r b0 t v) (h : DataW.Trod enc P W base spare held t v d p) : ∃ l : List UInt8, v = txt l ∧ l.length ≤ maxLen := by
  obtain ⟨s, rfl, _, _, hs⟩ := Go.ChangeMaps.open_string ht hv h
  exact ⟨s.data.toList, by unfold txt; rw [str_data2], by simpa using hs⟩
/-- A slice of steps. -/
theorem open_stps {t e ti ts : TypeId} {f0 f1 f2 f3 f4 f5 : Field} {v : Value} {d : DataW H} {p : List MemPlace} (ht : P.underlying t = some (.slice e)) (he : P.underlying e = some (.struct #[f0, f1, f2, f3, f4, f5]))
    (ce : P.cellsOf e = 6) (o0 : f0.offset = 0) (o1 : f1.offset = 1) (o2 : f2.offset = 2) (o3 : f3.offset = 3) (o4 : f4.offset = 4) (o5 : f5.offset = 5) (hti : P.underlying ti = some (.int .i64)) (hts : P.underlying ts = some .string) (cti : P.cellsOf ti = 1) (cts : P.cellsOf ts = 1)
    (h0 : f0.type = ti) (h1 : f1.type = ti) (h2 : f2.type = ts) (h3 : f3.type = ts) (h4 : f4.type = ts) (h5 : f5.type = ti) (hv : Value.okWide P W r b0 t v) (h : DataW.Trod enc P W base spare held t v d p) :
    ∃ (A : Option Addr) (l : List Stp) (c : Nat), v = .slice A l.length c ∧ l.length ≤ maxLen ∧ (∀ s ∈ l, StpOk s) ∧ Rd W W.heap.size A (cellsS l) := by
  obtain ⟨A, len, cap, rfl⟩ := okWide_slice ht hv
  obtain ⟨fuel, hf⟩ := h
  rcases open_slice ht hf with ⟨hcs, _⟩ | ⟨a, len', cap', m, n, D, Pl, hcs, _, hl, hm, hmm, _, hx⟩
  · simp [Value.cells] at hcs
    obtain ⟨rfl, rfl, rfl⟩ := hcs
    exact ⟨none, [], 0, rfl, by simp, (fun x hx => by simp at hx), Rd.nil⟩
  · simp [Value.cells] at hcs
    obtain ⟨rfl, rfl, rfl⟩ := hcs
    have hlm : len ≤ m := by rw [hmm]; split <;> omega
    have each : ∀ i, i < len → ∃ z : Stp, StpOk z ∧ W.cell? (a.add (i * 6)) = some (.int .i64 z.what) ∧ W.cell? (a.add (i * 6 + 1)) = some (.int .i64 z.who) ∧ W.cell? (a.add (i * 6 + 2)) = some (txt z.key) ∧ W.cell? (a.add (i * 6 + 3)) = some (txt z.to) ∧ W.cell? (a.add (i * 6 + 4)) = some (txt z.val) ∧ W.cell? (a.add (i * 6 + 5)) = some (.int .i64 z.n) := fun i hi => by
      obtain ⟨cs, g1, g2⟩ := hx i (by omega)
      rw [ce] at g1
      obtain ⟨xs, n', _, _, _, hlen, hff⟩ := DataW.trod_struct he g2
      have q0 := hff 0 f0 rfl
      have q1 := hff 1 f1 rfl
      have q2 := hff 2 f2 rfl
      have q3 := hff 3 f3 rfl
      have q4 := hff 4 f4 rfl
      have q5 := hff 5 f5 rfl
      match xs, hlen with
      | [y0, y1, y2, y3, y4, y5], _ =>
        rw [h0, o0, cti] at q0
        rw [h1, o1, cti] at q1
        rw [h2, o2, cts] at q2
        rw [h3, o3, cts] at q3
        rw [h4, o4, cts] at q4
        rw [h5, o5, cti] at q5
        simp only [List.getElem?_cons_zero, List.getElem?_cons_succ] at q0 q1 q2 q3 q4 q5
        obtain ⟨hlc, _, hcell⟩ := World.cells?_some g1
        obtain ⟨z0, e0, _, _⟩ := DataW.trod_int hti q0
        obtain ⟨z1, e1, _, w1⟩ := DataW.trod_int hti q1
        obtain ⟨s2, e2, _, m2⟩ := DataW.trod_string hts q2
        obtain ⟨s3, e3, _, m3⟩ := DataW.trod_string hts q3
        obtain ⟨s4, e4, _, m4⟩ := DataW.trod_string hts q4
        obtain ⟨z5, e5, _, w5⟩ := DataW.trod_int hti q5
        have c0 := hcell 0 (by omega)
        have c1 := hcell 1 (by omega)
        have c2 := hcell 2 (by omega)
        have c3 := hcell 3 (by omega)
        have c4 := hcell 4 (by omega)
        have c5 := hcell 5 (by omega)
        rw [add_add] at c0 c1 c2 c3 c4 c5
        match cs, hlc with
        | [u0, u1, u2, u3, u4, u5], _ =>
          simp at e0 e1 e2 e3 e4 e5 c0 c1 c2 c3 c4 c5
          subst e0 e1 e2 e3 e4 e5
          refine ⟨⟨z0, z1, s2.data.toList, s3.data.toList, s4.data.toList, z5⟩, ⟨w5, w1, by simpa using m2, by simpa using m3, by simpa using m4⟩, c0, c1, ?_, ?_, ?_, c5⟩
          · show W.cell? _ = some (.string ⟨s2.data.toList.toArray⟩)
            rw [str_data2]; exact c2
          · show W.cell? _ = some (.string ⟨s3.data.toList.toArray⟩)
            rw [str_data2]; exact c3
          · show W.cell? _ = some (.string ⟨s4.data.toList.toArray⟩)
            rw [str_data2]; exact c4
    obtain ⟨Z, hZ⟩ := choose_lt each
    refine ⟨some a, (List.range len).map Z, cap, by simp, by simp; omega, fun c hc => ?_, fun hne => ?_⟩
    · obtain ⟨i, hi, rfl⟩ := List.mem_map.1 hc
      exact (hZ i (List.mem_range.1 hi)).1
    have h0 : 0 < len := by
      rcases Nat.eq_zero_or_pos len with h0 | h0
      · subst h0; exact absurd rfl hne
      · exact h0
    have hs : a.spot = none := by
      have := World.cell?_spot (hZ 0 h0).2.1
      simpa [Addr.add] using this
    refine ⟨a.block, a.off, by obtain ⟨b, off, s⟩ := a; simp at hs; subst hs; rfl, ?_, fun j u hu => ?_⟩
    · have := World.block_lt_of_cell? W _ (hZ 0 h0).2.1
      rw [add_none _ _ hs] at this
      exact this
    · rw [← add_none _ _ hs]
      have hlen : ((List.range len).map Z).length = len := by simp
      have hj : j < len * 6 := by
        have := cellsS_length ((List.range len).map Z)
        rw [hlen] at this
        rw [← this]
        exact (List.getElem?_eq_some_iff.1 hu).1
      obtain ⟨hc0, hc1, hc2, hc3, hc4, hc5⟩ := cellsS_at ((List.range len).map Z) (j / 6) (by omega)
      obtain ⟨_, z0, z1, z2, z3, z4, z5⟩ := hZ (j / 6) (by omega)
      simp only [List.getElem_map, List.getElem_range] at hc0 hc1 hc2 hc3 hc4 hc5
      rcases (show j % 6 = 0 ∨ j % 6 = 1 ∨ j % 6 = 2 ∨ j % 6 = 3 ∨ j % 6 = 4 ∨ j % 6 = 5 by omega) with h | h | h | h | h | h
      · have e : 6 * (j / 6) = j := by omega
        have e2 : j / 6 * 6 = j := by omega
        rw [e, hu] at hc0
        rw [e2] at z0
        rw [z0, Option.some.inj hc0]
      · have e : 6 * (j / 6) + 1 = j := by omega
        have e2 : j / 6 * 6 + 1 = j := by omega
        rw [e, hu] at hc1
        rw [e2] at z1
        rw [z1, Option.some.inj hc1]
      · have e : 6 * (j / 6) + 2 = j := by omega
        have e2 : j / 6 * 6 + 2 = j := by omega
        rw [e, hu] at hc2
        rw [e2] at z2
        rw [z2, Option.some.inj hc2]
      · have e : 6 * (j / 6) + 3 = j := by omega
        have e2 : j / 6 * 6 + 3 = j := by omega
        rw [e, hu] at hc3
        rw [e2] at z3
        rw [z3, Option.some.inj hc3]
      · have e : 6 * (j / 6) + 4 = j := by omega
        have e2 : j / 6 * 6 + 4 = j := by omega
        rw [e, hu] at hc4
        rw [e2] at z4
        rw [z4, Option.some.inj hc4]
      · have e : 6 * (j / 6) + 5 = j := by omega
        have e2 : j / 6 * 6 + 5 = j := by omega
        rw [e, hu] at hc5
        rw [e2] at z5
        rw [z5, Option.some.inj hc5]
end
end Go.Proofs.Ytfklhjkgogncdaa
