/- Two addresses in one prefix: the reference's BothOf and the program's Both. Any two numbers. -/
import Derived.Test.YtcgeagobndhpjaaDoorRefAddr
import Derived.Test.YtcgeagobndhpjaaDoorAddr2
import Derived.Test.YtcgeagobndhpjaaDoorLayLen
namespace Go.Proofs.YtcgeagobndhpjaaDoor
set_option linter.unusedVariables false
set_option linter.unusedSimpArgs false
open Go.RowKit

set_option maxHeartbeats 1600000 in
theorem bothOf_any (a b : Int) (ha : isA a = true) (hb : isA b = true) (w : World) :
    Calls Tryd.prog 31 #[.int .i64 a, .int .i64 b] w fun e w' => e = .returned (.agg #[.int .i64 (clr a (bothN a b)), .int .i64 (bothN a b)]) ∧ Below w.heap.size w w' := by
  have HS := Lib.hid (fun n => both_same ha hb n)
  obtain ⟨r0, r1⟩ := bothN_range ha hb
  obtain ⟨a0, a1⟩ := isA_true.1 ha
  obtain ⟨b0, b1⟩ := isA_true.1 hb
  obtain ⟨m, hm⟩ : ∃ m, m = bothN a b := ⟨_, rfl⟩
  rw [← hm] at r0 r1 HS ⊢
  clear ha hb hm
  go_enter Tryd.func31, Tryd.ntmps31
  go_wp2
  go_loopw [5] (fun n wr => ∃ k : Int, m ≤ k ∧ k ≤ 32 ∧ n = .int .i64 k ∧ Below w.heap.size w wr ∧ Blk wr w.heap.size 23 #[.int .i64 0, .int .i64 0]) (fun n _ => (intOf n).toNat)
  case atStart => exact ⟨32, by omega, by omega, rfl, (Below.refl _ _).alloc (Nat.le_refl _) _, Blk.new _ _ _⟩
  case round =>
    obtain ⟨k, hk, hk2, rfl, hbr, hB⟩ := hrel
    have hs := sz_le k (by omega)
    have hp := sz_pos k
    have hne : (sz k == 0) = false := by simp; omega
    have hne' : ¬ sz k = 0 := by omega
    have q0 := Int.ediv_nonneg a0 (Int.le_of_lt hp)
    have q1 := Int.ediv_nonneg b0 (Int.le_of_lt hp)
    by_cases he : a / sz k = b / sz k
    · have hkm : k ≤ m := (HS.out k (by omega) hk2).1 he
      obtain rfl : m = k := by omega
      have he' : (a / sz m != b / sz m) = false := by simpa using he
      have hcl := clr_le (n := m) a0
      have HC := Lib.hid (show a / sz m * sz m = clr a m from rfl)
      have hcl1 : 0 ≤ a / sz m * sz m := hcl.1
      have hcl2 : a / sz m * sz m ≤ a := hcl.2
      clear he hcl
      go_wp2_with fail
      go_quiet ((go_at_call 24; exact Calls.quiet_of_same ((size_any _ (by omega) (by omega) _).mono fun e w' h => ⟨h.1, h.2.symm⟩)))
      go_wp2_with fail
      have hb1 : Below w.heap.size w (wr.drewN nq) := below_drewN hbr _
      have hB1 : Blk (wr.drewN nq) w.heap.size 23 #[.int .i64 0, .int .i64 0] := Blk.below (B := w.heap.size + 1) hB (below_drewN (Below.refl _ _) _) (by omega)
      obtain ⟨W, hW⟩ : ∃ W, W = wr.drewN nq := ⟨_, rfl⟩
      rw [← hW] at hb1 hB1 ⊢
      have hlt := hB1.lt
      clear hW hB hbr
      refine wp_region_bel_tail 9 W.heap.size W (by kernel_rfl) (by kernel_rfl) (Below.refl _ _) ?_
      simp only [List.take_succ_cons, List.take_zero, List.drop_succ_cons, List.drop_zero]
      repeat (go_big_quiet_step ((go_at_call 24; refine Calls.bel_same (size_any _ ?_ ?_ _) <;> omega)))
      refine wpQuiet_nil ?_
      intro w2 hb2
      obtain ⟨c0, c1, f0, f1⟩ := (hB1.below hb2 hlt).two
      go_wp2
      refine bodyPost_ret (v := .agg #[.int .i64 (a / sz m * sz m), .int .i64 m]) (by simp [results, Tryd.results31, go_sem, c0, c1]) rfl ⟨by rw [HC.out], ?_⟩
      exact ((hb1.trans (hb2.mono (by omega))).setCell (by simp) _).setCell (by simp) _
    · have hkm : m < k := Int.not_le.1 fun h => he ((HS.out k (by omega) hk2).2 h)
      have he' : (a / sz k != b / sz k) = true := by simpa using he
      clear he
      go_wp2_with fail
      go_quiet ((go_at_call 24; exact Calls.quiet_of_same ((size_any _ (by omega) (by omega) _).mono fun e w' h => ⟨h.1, h.2.symm⟩)))
      go_wp2
      go_roundw
      case rel => exact ⟨k - 1, by omega, by omega, by go_num, below_drewN hbr _, hB⟩
      case measure => simp [intOf]; omega

theorem len_any (x : Nat) (h : x < 4294967296) (w : World) : Calls Tryd.prog 82 #[.int .u64 (x : Int)] w fun e w' => e = .returned (.int .i64 (Lib.bitLen x : Int)) ∧ w = w' :=
  (Any.bits_Len layLen (x : Int) w (by omega) (by omega)).mono fun e w' ⟨h1, h2⟩ => ⟨by rw [h1, Int.toNat_natCast], h2.symm⟩
def BothV (a b : Int) : Value := if isA a = true ∧ isA b = true then .tuple #[.agg #[.int .i64 (clr a (bothN a b)), .int .i64 (bothN a b)], .nilIface] else .tuple #[.agg #[.int .i64 0, .int .i64 0], .iface 25 (.int .i64 1)]
set_option maxHeartbeats 800000 in
theorem both_bad (a b : Int) (h : ¬ (isA a = true ∧ isA b = true)) (w : World) :
    Calls Tryd.prog 32 #[.int .i64 a, .int .i64 b] w fun e w' => e = .returned (.tuple #[.agg #[.int .i64 0, .int .i64 0], .iface 25 (.int .i64 1)]) ∧ Below w.heap.size w w' := by
  have hab : isA a = false ∨ (isA a = true ∧ isA b = false) := by
    cases ha : isA a
    · exact .inl rfl
    · cases hb : isA b
      · exact .inr ⟨rfl, rfl⟩
      · exact absurd ⟨ha, hb⟩ h
  clear h
  rcases hab with ha | ⟨ha, hb⟩
  · have HA := Lib.hid ha
    clear ha
    go_enter Tryd.func32, Tryd.ntmps32
    go_wp2_with fail
    refine (is_any a _).mono ?_
    rintro e w1 ⟨rfl, rfl⟩
    rw [HA.out]
    go_wp2
    refine bodyPost_ret (v := .tuple #[.agg #[.int .i64 0, .int .i64 0], .iface 25 (.int .i64 1)]) (by simp [results, Tryd.results32, go_sem]) rfl ⟨rfl, ?_⟩
    exact (Below.refl _ _).alloc (Nat.le_refl _) _
  · have HA := Lib.hid ha
    have HB := Lib.hid hb
    clear ha hb
    go_enter Tryd.func32, Tryd.ntmps32
    go_wp2_with fail
    refine (is_any a _).mono ?_
    rintro e w1 ⟨rfl, rfl⟩
    rw [HA.out]
    go_wp2_with fail
    refine (is_any b _).mono ?_
    rintro e w1 ⟨rfl, rfl⟩
    rw [HB.out]
    go_wp2
    refine bodyPost_ret (v := .tuple #[.agg #[.int .i64 0, .int .i64 0], .iface 25 (.int .i64 1)]) (by simp [results, Tryd.results32, go_sem]) rfl ⟨rfl, ?_⟩
    exact (Below.refl _ _).alloc (Nat.le_refl _) _
set_option maxHeartbeats 1600000 in
theorem both_ok (a b : Int) (ha : isA a = true) (hb : isA b = true) (w : World) :
    Calls Tryd.prog 32 #[.int .i64 a, .int .i64 b] w fun e w' => e = .returned (.tuple #[.agg #[.int .i64 (clr a (bothN a b)), .int .i64 (bothN a b)], .nilIface]) ∧ Below w.heap.size w w' := by
  obtain ⟨r0, r1⟩ := bothN_range ha hb
  obtain ⟨a0, a1⟩ := isA_true.1 ha
  obtain ⟨b0, b1⟩ := isA_true.1 hb
  obtain ⟨hx, hx2⟩ := xor_any ha hb
  have hbit := andNot_rest (a := a) (n := bothN a b) r0 a0 a1
  obtain ⟨x, hxe⟩ : ∃ x, x = a.toNat ^^^ b.toNat := ⟨_, rfl⟩
  obtain ⟨m, hm⟩ : ∃ m, m = bothN a b := ⟨_, rfl⟩
  have hmx : 32 - (Lib.bitLen x : Int) = m := by rw [hm, hxe]; rfl
  rw [← hm] at r0 r1 hbit ⊢
  rw [← hxe] at hx hx2
  have HA := Lib.hid ha
  have HB := Lib.hid hb
  have HX := Lib.hid hx
  have HM := Lib.hid hmx
  have HBIT := Lib.hid (show bits .andNot .i64 a (sz m - 1) = clr a m from hbit)
  have hle : Lib.bitLen x ≤ 32 := by omega
  clear ha hb hx hm hmx hxe hbit
  go_enter Tryd.func32, Tryd.ntmps32
  go_wp2_with fail
  refine (is_any a _).mono ?_
  rintro e w1 ⟨rfl, rfl⟩
  rw [HA.out]
  go_wp2_with fail
  refine (is_any b _).mono ?_
  rintro e w1 ⟨rfl, rfl⟩
  rw [HB.out]
  go_wp2_with fail
  rw [HX.out, show IntKind.u64.wrap (x : Int) = x by rw [IntKind.wrap_u64]; omega]
  refine (len_any x hx2 _).mono ?_
  rintro e w1 ⟨rfl, rfl⟩
  go_wp2_with fail
  rw [HM.out]
  refine (rest_any m r0 r1 _).mono ?_
  rintro e w1 ⟨rfl, rfl⟩
  go_wp2
  refine bodyPost_ret (v := .tuple #[.agg #[.int .i64 (clr a m), .int .i64 m], .nilIface]) (by simp [results, Tryd.results32, go_sem, HBIT.out]) rfl ⟨rfl, ?_⟩
  exact (Below.refl _ _).alloc (Nat.le_refl _) _
end Go.Proofs.YtcgeagobndhpjaaDoor
