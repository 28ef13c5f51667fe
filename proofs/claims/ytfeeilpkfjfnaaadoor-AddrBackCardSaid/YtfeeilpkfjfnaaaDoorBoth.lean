/- Two addresses in one prefix: the program's Both. Any two numbers. -/
import Derived.Test.YtfeeilpkfjfnaaaDoorAddr2
import Derived.Test.YtfeeilpkfjfnaaaDoorLayLen
namespace Go.Proofs.YtfeeilpkfjfnaaaDoor
set_option linter.unusedVariables false
set_option linter.unusedSimpArgs false
open Go.RowKit

theorem len_any (x : Nat) (h : x < 4294967296) (w : World) : Calls Tryd.prog 22 #[.int .u64 (x : Int)] w fun e w' => e = .returned (.int .i64 (Lib.bitLen x : Int)) ∧ w = w' :=
  (Any.bits_Len layLen (x : Int) w (by omega) (by omega)).mono fun e w' ⟨h1, h2⟩ => ⟨by rw [h1, Int.toNat_natCast], h2.symm⟩
def BothV (a b : Int) : Value := if isA a = true ∧ isA b = true then .tuple #[.agg #[.int .i64 (clr a (bothN a b)), .int .i64 (bothN a b)], .nilIface] else .tuple #[.agg #[.int .i64 0, .int .i64 0], .iface 44 (.int .i64 1)]
set_option maxHeartbeats 800000 in
theorem both_bad (a b : Int) (h : ¬ (isA a = true ∧ isA b = true)) (w : World) :
    Calls Tryd.prog 12 #[.int .i64 a, .int .i64 b] w fun e w' => e = .returned (.tuple #[.agg #[.int .i64 0, .int .i64 0], .iface 44 (.int .i64 1)]) ∧ Below w.heap.size w w' := by
  have hab : isA a = false ∨ (isA a = true ∧ isA b = false) := by
    cases ha : isA a
    · exact .inl rfl
    · cases hb : isA b
      · exact .inr ⟨rfl, rfl⟩
      · exact absurd ⟨ha, hb⟩ h
  clear h
  rcases hab with ha | ⟨ha, hb⟩
  · have HA := Lib.hid ha
    clear ha
    go_enter Tryd.func12, Tryd.ntmps12
    go_wp2_with fail
    refine (is_any a _).mono ?_
    rintro e w1 ⟨rfl, rfl⟩
    rw [HA.out]
    go_wp2
    refine bodyPost_ret (v := .tuple #[.agg #[.int .i64 0, .int .i64 0], .iface 44 (.int .i64 1)]) (by simp [results, Tryd.results12, go_sem]) rfl ⟨rfl, ?_⟩
    exact (Below.refl _ _).alloc (Nat.le_refl _) _
  · have HA := Lib.hid ha
    have HB := Lib.hid hb
    clear ha hb
    go_enter Tryd.func12, Tryd.ntmps12
    go_wp2_with fail
    refine (is_any a _).mono ?_
    rintro e w1 ⟨rfl, rfl⟩
    rw [HA.out]
    go_wp2_with fail
    refine (is_any b _).mono ?_
    rintro e w1 ⟨rfl, rfl⟩
    rw [HB.out]
    go_wp2
    refine bodyPost_ret (v := .tuple #[.agg #[.int .i64 0, .int .i64 0], .iface 44 (.int .i64 1)]) (by simp [results, Tryd.results12, go_sem]) rfl ⟨rfl, ?_⟩
    exact (Below.refl _ _).alloc (Nat.le_refl _) _
set_option maxHeartbeats 1600000 in
theorem both_ok (a b : Int) (ha : isA a = true) (hb : isA b = true) (w : World) :
    Calls Tryd.prog 12 #[.int .i64 a, .int .i64 b] w fun e w' => e = .returned (.tuple #[.agg #[.int .i64 (clr a (bothN a b)), .int .i64 (bothN a b)], .nilIface]) ∧ Below w.heap.size w w' := by
  obtain ⟨r0, r1⟩ := bothN_range ha hb
  obtain ⟨a0, a1⟩ := isA_true.1 ha
  obtain ⟨b0, b1⟩ := isA_true.1 hb
  obtain ⟨hx, hx2⟩ := xor_any ha hb
  have hbit := andNot_rest (a := a) (n := bothN a b) r0 a0 a1
  obtain ⟨x, hxe⟩ : ∃ x, x = a.toNat ^^^ b.toNat := ⟨_, rfl⟩
  obtain ⟨m, hm⟩ : ∃ m, m = bothN a b := ⟨_, rfl⟩
  have hmx : 32 - (Lib.bitLen x : Int) = m := by rw [hm, hxe]; rfl
  rw [← hm] at r0 r1 hbit ⊢
  rw [← hxe] at hx hx2
  have HA := Lib.hid ha
  have HB := Lib.hid hb
  have HX := Lib.hid hx
  have HM := Lib.hid hmx
  have HBIT := Lib.hid (show bits .andNot .i64 a (sz m - 1) = clr a m from hbit)
  have hle : Lib.bitLen x ≤ 32 := by omega
  clear ha hb hx hm hmx hxe hbit
  go_enter Tryd.func12, Tryd.ntmps12
  go_wp2_with fail
  refine (is_any a _).mono ?_
  rintro e w1 ⟨rfl, rfl⟩
  rw [HA.out]
  go_wp2_with fail
  refine (is_any b _).mono ?_
  rintro e w1 ⟨rfl, rfl⟩
  rw [HB.out]
  go_wp2_with fail
  rw [HX.out, show IntKind.u64.wrap (x : Int) = x by rw [IntKind.wrap_u64]; omega]
  refine (len_any x hx2 _).mono ?_
  rintro e w1 ⟨rfl, rfl⟩
  go_wp2_with fail
  rw [HM.out]
  refine (rest_any m r0 r1 _).mono ?_
  rintro e w1 ⟨rfl, rfl⟩
  go_wp2
  refine bodyPost_ret (v := .tuple #[.agg #[.int .i64 (clr a m), .int .i64 m], .nilIface]) (by simp [results, Tryd.results12, go_sem, HBIT.out]) rfl ⟨rfl, ?_⟩
  exact (Below.refl _ _).alloc (Nat.le_refl _) _
end Go.Proofs.YtfeeilpkfjfnaaaDoor
