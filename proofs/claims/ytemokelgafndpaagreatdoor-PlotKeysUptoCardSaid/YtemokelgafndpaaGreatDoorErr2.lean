/- plain.Told and S.Error of nil or a number of package api. Condition: errors.errorType is laid. -/
import Derived.Test.YtemokelgafndpaaGreatDoorErr
namespace Go.Proofs.YtemokelgafndpaaGreatDoor
set_option linter.unusedVariables false
set_option linter.unusedSimpArgs false
open Go.RowKit Go.Extern

/-- The same at a number's own new box. -/
theorem as_box (k : Int) (w : World) (hg : ErrVar w) :
    Calls Tryz.prog 42 #[.iface 24 (.int .i64 k), .iface 89 (.pointer (some ⟨w.heap.size, 0, none⟩))] (w.alloc (.cells #[.int .i64 0] 24)) fun ev w' => ev = .returned (.bool true) ∧ w'.cell? ⟨w.heap.size, 0, none⟩ = some (.int .i64 k) ∧ Below w.heap.size w w' := by
  refine (as_hit k ⟨w.heap.size, 0, none⟩ (.int .i64 0) _ (hg.alloc _) (by simp) (by simp)).mono ?_
  rintro e w' ⟨rfl, rfl⟩
  refine ⟨rfl, ?_, ?_⟩
  · obtain ⟨v, hv⟩ : ∃ v, ((((((w.alloc (.cells #[.int .i64 0] 24)).alloc (.cells #[.pointer (some ⟨w.heap.size, 0, none⟩)] 89)).alloc (.cells #[.pointer (some ⟨HB, 89, none⟩), .pointer (some ⟨(w.alloc (.cells #[.int .i64 0] 24)).heap.size, 0, none⟩), .int .u64 150] 106)).alloc (.cells #[.pointer (some ⟨HB, 89, none⟩), .pointer (some ⟨(w.alloc (.cells #[.int .i64 0] 24)).heap.size, 0, none⟩), .int .u64 150] 106)).alloc (.cells #[.int .i64 k] 24))).cell? ⟨w.heap.size, 0, none⟩ = some v := by
      refine ⟨.int .i64 0, ?_⟩
      rw [World.cell?_alloc_lt _ _ ⟨w.heap.size, 0, none⟩ (by simp <;> omega), World.cell?_alloc_lt _ _ ⟨w.heap.size, 0, none⟩ (by simp <;> omega), World.cell?_alloc_lt _ _ ⟨w.heap.size, 0, none⟩ (by simp <;> omega), World.cell?_alloc_lt _ _ ⟨w.heap.size, 0, none⟩ (by simp <;> omega)]
      simp
    exact World.cell?_setCell_same' _ _ _ (by rw [hv]; rfl)
  · have h1 := (Below.refl w.heap.size w).alloc (Nat.le_refl _) (.cells #[.int .i64 0] 24)
    have h2 := h1.alloc h1.size (.cells #[.pointer (some ⟨w.heap.size, 0, none⟩)] 89)
    have h3 := h2.alloc h2.size (.cells #[.pointer (some ⟨HB, 89, none⟩), .pointer (some ⟨(w.alloc (.cells #[.int .i64 0] 24)).heap.size, 0, none⟩), .int .u64 150] 106)
    have h4 := h3.alloc h3.size (.cells #[.pointer (some ⟨HB, 89, none⟩), .pointer (some ⟨(w.alloc (.cells #[.int .i64 0] 24)).heap.size, 0, none⟩), .int .u64 150] 106)
    have h5 := h4.alloc h4.size (.cells #[.int .i64 k] 24)
    exact h5.setCell (p := ⟨w.heap.size, 0, none⟩) (Nat.le_refl _) _
/-- What is told of an error: nil or a number. -/
def errOf (k : Int) : Value := if k = 0 then .nilIface else .iface 24 (.int .i64 k)
theorem told_any (k : Int) (w : World) (hg : ErrVar w) :
    Calls Tryz.prog 25 #[errOf k] w fun e w' => e = .returned (.int .i64 k) ∧ Below w.heap.size w w' := by
  unfold errOf
  by_cases h : k = 0
  · rw [if_pos h]
    subst h
    go_enter Tryz.func25, Tryz.ntmps25
    go_wp2
    go_ret
    exact ⟨rfl, Below.refl _ _⟩
  · rw [if_neg h]
    clear h
    have HG := Lib.hid hg
    clear hg
    go_enter Tryz.func25, Tryz.ntmps25
    go_wp2_with fail
    refine (as_box k w HG.out).mono ?_
    rintro e w' ⟨rfl, hc, hb⟩
    go_wp2
    go_ret
    exact ⟨rfl, hb⟩
theorem error_any (k n : Int) (w : World) (hg : ErrVar w) :
    Calls Tryz.prog 6 #[errOf k, .int .i64 n] w fun e w' => e = .returned (.bool (k == n)) ∧ Below w.heap.size w w' := by
  go_enter Tryz.func6, Tryz.ntmps6
  go_wp2_with fail
  refine (told_any k _ hg).mono ?_
  rintro e w' ⟨rfl, hb⟩
  go_wp2
  go_ret
  exact ⟨rfl, hb⟩
end Go.Proofs.YtemokelgafndpaaGreatDoor
