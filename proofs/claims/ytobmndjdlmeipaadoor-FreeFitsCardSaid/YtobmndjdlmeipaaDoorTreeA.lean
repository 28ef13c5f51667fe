/- Small facts on prefixes and the contract of addr.Within. No conditions. -/
import Derived.Test.YtobmndjdlmeipaaDoorAddr
import Derived.Test.YtobmndjdlmeipaaDoorTreeMath
namespace Go.Proofs.YtobmndjdlmeipaaDoor
set_option linter.unusedVariables false
set_option linter.unusedSimpArgs false
open Go.RowKit

theorem infoPfx : (Tryd.prog.info? 23).map (fun i => (i.zero, i.size, i.bytes)) = some (some (.agg #[.int .i64 0, .int .i64 0]), 2, 16) := by kernel_rfl

theorem takeFilter_snoc {α : Type} (f : α → Bool) (l : List α) (k : Nat) (h : k < l.length) : (l.take (k + 1)).filter f = (l.take k).filter f ++ (if f l[k] then [l[k]] else []) := by
  rw [List.take_succ_eq_append_getElem h, List.filter_append]
  congr 1
  by_cases hf : f l[k] <;> simp [List.filter, hf]


def FaultV (k : Int) : Value := if k = 0 then .nilIface else .iface 32 (.int .i64 k)
theorem take_all {l : List Pf} {k : Nat} (h : k < l.length) (hv : ∀ p ∈ l.take k, chkP p = 0) (hc : chkP l[k] = 0) : ∀ p ∈ l.take (k + 1), chkP p = 0 := by
  intro p hp
  rw [List.take_succ_eq_append_getElem h, List.mem_append] at hp
  rcases hp with hp | hp
  · exact hv p hp
  · simp at hp; subst hp; exact hc

theorem index64 (a n b m : Int) (w : World) : (Instr.index 72 (.agg #[.int .i64 a, .int .i64 n, .int .i64 b, .int .i64 m]) (.int .i64 0)).run Tryd.prog w = .ok (.agg #[.int .i64 a, .int .i64 n]) w ∧
    (Instr.index 72 (.agg #[.int .i64 a, .int .i64 n, .int .i64 b, .int .i64 m]) (.int .i64 1)).run Tryd.prog w = .ok (.agg #[.int .i64 b, .int .i64 m]) w := ⟨by kernel_rfl, by kernel_rfl⟩

def withinFault (p q : Pf) : Int := if chkP p ≠ 0 then chkP p else chkP q
def WithinV (p q : Pf) : Value := if withinFault p q = 0 then .tuple #[.bool (inQ p q), .nilIface] else .tuple #[.bool false, .iface 32 (.int .i64 (withinFault p q))]

set_option maxHeartbeats 400000 in
theorem within_any (p q : Pf) (w : World) :
    Calls Tryd.prog 11 #[.agg #[.int .i64 p.1, .int .i64 p.2], .agg #[.int .i64 q.1, .int .i64 q.2]] w fun e w' => e = .returned (WithinV p q) ∧ Below w.heap.size w w' := by
  have i0 := fun w => (index64 p.1 p.2 q.1 q.2 w).1
  have i1 := fun w => (index64 p.1 p.2 q.1 q.2 w).2
  go_enter Tryd.func11, Tryd.ntmps11
  go_wp2
  have hB1 := (Blk.new w 23 #[.int .i64 p.1, .int .i64 p.2]).alloc (.cells #[.int .i64 q.1, .int .i64 q.2] 23)
  have hB2 := Blk.new (w.alloc (.cells #[.int .i64 p.1, .int .i64 p.2] 23)) 23 #[.int .i64 q.1, .int .i64 q.2]
  have hb0 := ((Below.refl w.heap.size w).alloc (Nat.le_refl _) (.cells #[.int .i64 p.1, .int .i64 p.2] 23)).alloc (by simp) (.cells #[.int .i64 q.1, .int .i64 q.2] 23)
  simp only [World.size_alloc] at hB2
  go_loopw [7, 8, 12] (fun _ _ i wr => ∃ k : Nat, k ≤ 2 ∧ i = .int .i64 k ∧ Below (w.heap.size + 2) ((w.alloc (.cells #[.int .i64 p.1, .int .i64 p.2] 23)).alloc (.cells #[.int .i64 q.1, .int .i64 q.2] 23)) wr ∧ (0 < k → chkP p = 0) ∧ (1 < k → chkP q = 0)) (fun _ _ i _ => 2 - (intOf i).toNat)
  case atStart => exact ⟨0, by omega, rfl, Below.refl _ _, by omega, by omega⟩
  case round =>
    obtain ⟨k, hk, rfl, hb, v1, v2⟩ := hrel
    have hs := hb.size
    simp only [World.size_alloc] at hs
    obtain ⟨c0, c1, _⟩ := (hB1.below hb (by omega)).two
    obtain ⟨d0, d1, _⟩ := (hB2.below hb (by omega)).two
    rcases show k = 0 ∨ k = 1 ∨ k = 2 by omega with rfl | rfl | rfl
    · by_cases hc : chkP p = 0
      · go_wp2_with (go_at_call 41; refine (check_ok _ _ hc _).mono ?_; rintro e w1 ⟨rfl, hb1⟩)
        go_roundw
        case rel => exact ⟨1, by omega, by go_num, (hb.alloc (by omega) _).trans (hb1.mono (by simp; omega)), fun _ => hc, by omega⟩
        case measure => simp [intOf]
      · have HW := Lib.hid (show WithinV p q = .tuple #[.bool false, .iface 32 (.int .i64 (chkP p))] by simp [WithinV, withinFault, hc])
        go_wp2_with (go_at_call 41; refine (check_bad _ _ hc _).mono ?_; rintro e w1 ⟨rfl, hb1⟩)
        go_ret2
        exact ⟨by rw [HW.out]; rfl, hb0.trans (((hb.alloc (by omega) _).trans (hb1.mono (by simp; omega))).mono (by omega))⟩
    · have hp := v1 (by omega)
      by_cases hc : chkP q = 0
      · go_wp2_with (go_at_call 41; refine (check_ok _ _ hc _).mono ?_; rintro e w1 ⟨rfl, hb1⟩)
        go_roundw
        case rel => exact ⟨2, by omega, by go_num, (hb.alloc (by omega) _).trans (hb1.mono (by simp; omega)), fun _ => hp, fun _ => hc⟩
        case measure => simp [intOf]
      · have HW := Lib.hid (show WithinV p q = .tuple #[.bool false, .iface 32 (.int .i64 (chkP q))] by simp [WithinV, withinFault, hp, hc])
        go_wp2_with (go_at_call 41; refine (check_bad _ _ hc _).mono ?_; rintro e w1 ⟨rfl, hb1⟩)
        go_ret2
        exact ⟨by rw [HW.out]; rfl, hb0.trans (((hb.alloc (by omega) _).trans (hb1.mono (by simp; omega))).mono (by omega))⟩
    · have hp := v1 (by omega)
      have hq := v2 (by omega)
      have HW := Lib.hid (show WithinV p q = .tuple #[.bool (inP p.1 p.2 q.1 q.2), .nilIface] by simp [WithinV, withinFault, hp, hq, inQ])
      go_wp2_with (go_at_call 42; refine (in_any _ _ _ _ hp hq _).mono ?_; rintro e w1 ⟨rfl, hb1⟩)
      go_ret2
      exact ⟨by rw [HW.out]; rfl, hb0.trans ((hb.mono (by omega)).trans (hb1.mono (by omega)))⟩

def OwnRes2 (e : TypeId) (w : World) (l : List (Int × Int)) (en : Ending) (w' : World) : Prop := ∃ v, en = .returned (.tuple #[v, .nilIface]) ∧ OwnP w' w.heap.size e v l ∧ Below w.heap.size w w'
theorem within_ok (p q : Pf) (hp : chkP p = 0) (hq : chkP q = 0) (w : World) :
    Calls Tryd.prog 11 #[.agg #[.int .i64 p.1, .int .i64 p.2], .agg #[.int .i64 q.1, .int .i64 q.2]] w fun e w' => e = .returned (.tuple #[.bool (inQ p q), .nilIface]) ∧ Below w.heap.size w w' :=
  (within_any p q w).mono fun e w' h => ⟨by rw [h.1]; simp [WithinV, withinFault, hp, hq], h.2⟩
end Go.Proofs.YtobmndjdlmeipaaDoor
