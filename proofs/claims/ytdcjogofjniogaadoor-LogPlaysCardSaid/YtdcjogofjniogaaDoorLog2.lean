/- Contracts of a log's small methods: New, Fail, Sync, bytes.Clone, Bytes, Safe. No conditions. -/
import Derived.Test.YtdcjogofjniogaaDoorLog1
import Derived.Test.YtdcjogofjniogaaDoorOpenC
import Derived.Lib.SliceRun
namespace Go.Proofs.YtdcjogofjniogaaDoor
set_option linter.unusedVariables false
set_option linter.unusedSimpArgs false
open Go.RowKit

theorem new_ok (room : Int) (hr : 0 ≤ room ∧ room ≤ 100000) (w : World) (b0 : Nat) (hb : b0 ≤ w.heap.size) :
    Calls Tryd.prog 7 #[.int .i64 room] w fun e w' => e = .returned (.tuple #[.pointer (some ⟨w.heap.size, 0, none⟩), .nilIface]) ∧ LogAt w' b0 w.heap.size (.slice none 0 0) (-1) false room [] 0 ∧ Below w.heap.size w w' := by
  obtain ⟨h1, h2⟩ := hr
  have d1 : decide (room < 0) = false := decide_eq_false (by omega)
  have d2 : decide ((100000 : Int) < room) = false := decide_eq_false (by omega)
  go_enter Tryd.func7, Tryd.ntmps7
  go_wp2
  go_ret2
  refine ⟨rfl, ⟨Blk.new _ _ _, hb, World.ownsRow_nil _ _ _ _, by omega, ⟨h1, h2, by simp; omega⟩, by simp, by simp; omega⟩, (Below.refl _ _).alloc (Nat.le_refl _) _⟩
theorem new_bad (room : Int) (hr : room < 0 ∨ 100000 < room) (w : World) :
    Calls Tryd.prog 7 #[.int .i64 room] w fun e w' => e = .returned (.tuple #[.pointer none, .iface 31 (.int .i64 1)]) ∧ w' = w := by
  by_cases h1 : room < 0
  · have d1 : decide (room < 0) = true := decide_eq_true h1
    go_enter Tryd.func7, Tryd.ntmps7
    go_wp2
    go_ret2
    exact ⟨rfl, rfl⟩
  · have d1 : decide (room < 0) = false := decide_eq_false h1
    have d2 : decide ((100000 : Int) < room) = true := decide_eq_true (by omega)
    go_enter Tryd.func7, Tryd.ntmps7
    go_wp2
    go_ret2
    exact ⟨rfl, rfl⟩

section
variable {w : World} {b0 g : Nat} {v : Value} {left room : Int} {down : Bool} {B : List UInt8} {safe : Nat}
theorem LogAt.fail (h : LogAt w b0 g v left down room B safe) (n : Int) (hn : (Lit.int .i64 n).wf = true) :
    Calls Tryd.prog 12 #[.pointer (some ⟨g, 0, none⟩), .int .i64 n] w fun e w' => e = .returned (.tuple #[]) ∧ LogAt w' b0 g v (if n < -1 then -1 else n) down room B safe ∧ LK w w' g v := by
  obtain ⟨⟨x0, x1, x2, x3, x4⟩, z0, z1, z3, z4⟩ := h.cells
  have hi := i64_of hn
  have H := Lib.hid h
  clear h hn
  by_cases h1 : n < -1
  · rw [if_pos h1]
    go_enter Tryd.func12, Tryd.ntmps12
    go_wp2
    all_goals first
      | omega
      | (go_end0; exact ⟨rfl, H.out.write ((LK.refl w g .nilIface).setCell 0 _) (H.out.hB.setCell 0 _) (by omega) H.out.hs, (LK.refl w g v).setCell 0 _⟩)
  · rw [if_neg h1]
    go_enter Tryd.func12, Tryd.ntmps12
    go_wp2
    all_goals first
      | omega
      | (go_end0; exact ⟨rfl, H.out.write ((LK.refl w g .nilIface).setCell 0 _) (H.out.hB.setCell 0 _) (by omega) H.out.hs, (LK.refl w g v).setCell 0 _⟩)
theorem LogAt.sync_down (h : LogAt w b0 g v left true room B safe) :
    Calls Tryd.prog 11 #[.pointer (some ⟨g, 0, none⟩)] w fun e w' => e = .returned (.iface 31 (.int .i64 8)) ∧ w' = w := by
  obtain ⟨⟨x0, x1, x2, x3, x4⟩, z0, z1, z3, z4⟩ := h.cells
  go_enter Tryd.func11, Tryd.ntmps11
  go_wp2
  go_ret
  exact ⟨rfl, rfl⟩
theorem LK.of_nil {w w' : World} {g : Nat} {v : Value} (h : LK w w' g .nilIface) : LK w w' g v := ⟨h.os, h.tape, h.output, h.size, fun k hk h1 _ => h.block k hk h1 (by simp [Value.ownBlock])⟩
theorem LogAt.sync_off (h : LogAt w b0 g v 0 false room B safe) :
    Calls Tryd.prog 11 #[.pointer (some ⟨g, 0, none⟩)] w fun e w' => e = .returned (.iface 31 (.int .i64 8)) ∧ LogAt w' b0 g v (-1) true room B safe ∧ LK w w' g v := by
  obtain ⟨⟨x0, x1, x2, x3, x4⟩, z0, z1, z3, z4⟩ := h.cells
  have H := Lib.hid h
  clear h
  go_enter Tryd.func11, Tryd.ntmps11
  go_wp2_with fail
  refine (step_any g 0 false _ _ _ H.out.hl w H.out.hB).mono ?_
  rintro e w1 ⟨rfl, hB1, hk1⟩
  have hB1' : Blk w1 g 81 #[.int .i64 (-1), .bool true, .int .i64 room, v, .int .i64 safe] := hB1
  clear hB1
  go_wp2
  go_ret
  exact ⟨rfl, H.out.write hk1 hB1' (by omega) H.out.hs, hk1.of_nil⟩
theorem leftS_range {left : Int} (h : -1 ≤ left ∧ left ≤ 9223372036854775807) (h0 : left ≠ 0) : -1 ≤ leftS left ∧ leftS left ≤ 9223372036854775807 := by
  unfold leftS
  split <;> omega
theorem LogAt.sync_on (h : LogAt w b0 g v left false room B safe) (h0 : left ≠ 0) :
    Calls Tryd.prog 11 #[.pointer (some ⟨g, 0, none⟩)] w fun e w' => e = .returned .nilIface ∧ LogAt w' b0 g v (leftS left) false room B B.length ∧ LK w w' g v := by
  obtain ⟨⟨x0, x1, x2, x3, x4⟩, z0, z1, z3, z4⟩ := h.cells
  have hrg := Lib.hid (leftS_range h.hl h0)
  have h1 : (left != 0) = true := by simpa using h0
  have h2 : (left == 0) = false := by simpa using h0
  have hBl : (B.length : Int) ≤ 100000 := by have := h.hr; omega
  obtain ⟨A, c, rfl, _⟩ := own_form h.ho
  have H := Lib.hid h
  clear h h0
  go_enter Tryd.func11, Tryd.ntmps11
  go_wp2_with fail
  refine (step_any g left false _ _ _ H.out.hl w H.out.hB).mono ?_
  rintro e w1 ⟨rfl, hB1, hk1⟩
  rw [h2] at hB1
  have y3 : w1.cell? ⟨g, 3, none⟩ = some (.slice A B.length c) := hB1.cell 3
  have y4 : w1.cell? ⟨g, 4, none⟩ = some (.int .i64 safe) := hB1.cell 4
  have u4 := hB1.frozen 4
  go_wp2_with fail
  go_ret
  exact ⟨rfl, H.out.write (hk1.setCell 4 _) (hB1.setCell 4 _) hrg.out (Nat.le_refl _), (hk1.setCell 4 _).of_nil⟩
end

/-- An empty row that was just laid. -/
theorem own_empty (w : World) (e : TypeId) {base : Nat} (hb : base ≤ w.heap.size) : (w.alloc (.cells #[] e)).ownsRow base e 1 (.slice (some ⟨w.heap.size, 0, none⟩) 0 0) 0 [] :=
  ⟨rfl, .inr ⟨w.heap.size, 0, #[], rfl, hb, heap_alloc_new w _, Nat.le_refl _, by simp, rfl, rfl⟩⟩
theorem clone_nil (w : World) :
    Calls Tryd.prog 39 #[.slice none 0 0] w fun e w' => e = .returned (.slice none 0 0) ∧ w' = w := by
  have k1 : ∀ w : World, (binOp .eql 32 (.slice none 0 0) (.slice none 0 0)).run Tryd.prog w = .ok (.bool true) w := fun w => Lib.run_eql_slice_nil (P := Tryd.prog) w 32 5 none 0 0 0 0 Tryd.underlying32
  go_enter Tryd.func39, Tryd.ntmps39
  go_wp2
  go_ret
  exact ⟨rfl, rfl⟩
set_option maxRecDepth 20000 in
theorem clone_some (a : Addr) (l : List UInt8) (m c : Nat) (hm : m = l.length) (hl : l.length ≤ 1000000000) (w : World) (hr : Rd w w.heap.size (some a) (bytesV l)) :
    Calls Tryd.prog 39 #[.slice (some a) m c] w fun e w' => ∃ v, e = .returned v ∧ w'.ownsRow w.heap.size 5 1 v l.length (bytesV l) ∧ Below w.heap.size w w' := by
  subst hm
  have k1 : ∀ w : World, (binOp .eql 32 (.slice (some a) l.length c) (.slice none 0 0)).run Tryd.prog w = .ok (.bool false) w := fun w => Lib.run_eql_slice_nil (P := Tryd.prog) w 32 5 (some a) l.length c 0 0 Tryd.underlying32
  go_enter Tryd.func39, Tryd.ntmps39
  go_wp2_with (at_builtin; refine wpList_append_rd rfl _ _ 32 rfl 5 Tryd.underlying32 _ 1 1 infoU8 rfl (by decide) w.heap.size _ 0 [] rfl (own_empty w 5 (Nat.le_refl _)) w.heap.size (some a) l.length c (bytesV l) rfl (by rw [bytesV_length]; omega) (hr.alloc (Nat.le_refl _) _) (bytesV_one _) (by unfold maxLen; omega) (by omega) (by simp) ?_; intro v1 w1 hown1 hb1)
  go_ret
  refine ⟨v1, rfl, ?_, ((Below.refl _ _).alloc (Nat.le_refl _) _).trans hb1⟩
  simpa using hown1
theorem clone_any (A : Option Addr) (l : List UInt8) (m c : Nat) (hA : A = none → m = 0 ∧ c = 0) (hm : m = l.length) (hl : l.length ≤ 1000000000) (w : World) (hr : Rd w w.heap.size A (bytesV l)) :
    Calls Tryd.prog 39 #[.slice A m c] w fun e w' => ∃ v, e = .returned v ∧ w'.ownsRow w.heap.size 5 1 v l.length (bytesV l) ∧ Below w.heap.size w w' := by
  rcases A with _ | a
  · obtain ⟨rfl, rfl⟩ := hA rfl
    have : l = [] := List.eq_nil_of_length_eq_zero hm.symm
    subst this
    refine (clone_nil w).mono ?_
    rintro e w' ⟨rfl, rfl⟩
    exact ⟨_, rfl, World.ownsRow_nil _ _ _ _, Below.refl _ _⟩
  · exact clone_some a l m c hm hl w hr
/-- What an owned value looks like: nil, or something. -/
theorem own_form3 {w : World} {base size n : Nat} {e : TypeId} {v : Value} {xs : List Value} (h : w.ownsRow base e size v n xs) : ∃ A c, v = .slice A n c ∧ n ≤ c ∧ (A = none → n = 0 ∧ c = 0) ∧ Rd w w.heap.size A xs := by
  obtain ⟨A, c, rfl, hc, hr⟩ := own_form2 h
  refine ⟨A, c, rfl, hc, fun e => ?_, hr⟩
  subst e
  rcases h.2 with ⟨h1, h2⟩ | ⟨g, cap, cur, hv, _⟩
  · injection h1 with _ _ h3
    exact ⟨h2, h3⟩
  · cases hv
theorem LogAt.bytes_ok {w : World} {b0 g : Nat} {v : Value} {left room : Int} {down : Bool} {B : List UInt8} {safe : Nat} (h : LogAt w b0 g v left down room B safe) :
    Calls Tryd.prog 10 #[.pointer (some ⟨g, 0, none⟩)] w fun e w' => ∃ v, e = .returned v ∧ w'.ownsRow w.heap.size 5 1 v B.length (bytesV B) ∧ Below w.heap.size w w' := by
  obtain ⟨⟨x0, x1, x2, x3, x4⟩, z0, z1, z3, z4⟩ := h.cells
  obtain ⟨A, c, rfl, _, hA, hr⟩ := own_form3 h.ho
  have hBl : B.length ≤ 1000000000 := by have := h.hr; omega
  have H := Lib.hid h
  clear h
  go_enter Tryd.func10, Tryd.ntmps10
  go_wp2_with fail
  refine (clone_any A B B.length c hA rfl hBl w hr).mono ?_
  rintro e w1 ⟨v1, rfl, ho, hb⟩
  go_wp2
  go_ret
  exact ⟨v1, rfl, ho, hb⟩
end Go.Proofs.YtdcjogofjniogaaDoor
