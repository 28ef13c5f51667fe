/- The reference's AddrKey, PrefixKey. Conditions: an address, a prefix; a name of at most 100 bytes. -/
import Derived.Test.YtemokelgafndpaaGreatDoorRefKey3
namespace Go.Proofs.YtemokelgafndpaaGreatDoor
set_option linter.unusedVariables false
set_option linter.unusedSimpArgs false
open Go.RowKit

set_option maxRecDepth 100000 in
theorem refAddrKey_any (net : List UInt8) (hn : net.length ≤ 100) (a : Nat) (ha : a < 4294967296) (w : World) :
    Calls Tryz.prog 16 #[txt net, .int .i64 (a : Int)] w fun e w' => e = .returned (txt (aKey net a)) ∧ Below w.heap.size w w' := by
  have hl := hexL_length 8 a
  have q1 : ¬ (9223372036854775807 < 2 + net.length) := by omega
  have q2 : ¬ (9223372036854775807 < 2 + net.length + 1) := by omega
  have q3 : ¬ (9223372036854775807 < 2 + net.length + 1 + (hexL 8 a).length) := by omega
  have HK := Lib.hid (show aKey net a = [97, 47] ++ net ++ [47] ++ hexL 8 a from rfl)
  have HX := Lib.hid (refHex_any a ha)
  clear hl
  generalize hexL 8 a = x at *
  go_enter Tryz.func16, Tryz.ntmps16
  go_wp2_with fail
  refine (HX.out _).mono ?_
  rintro e w1 ⟨rfl, rfl⟩
  go_wp2
  go_ret
  refine ⟨?_, Below.refl _ _⟩
  show Ending.returned (.string ((⟨[97, 47].toArray⟩ : ByteArray) ++ ⟨net.toArray⟩ ++ ⟨[47].toArray⟩ ++ ⟨x.toArray⟩)) = _
  rw [ByteArray.mk_append_mk, ByteArray.mk_append_mk, ByteArray.mk_append_mk, HK.out]
set_option maxRecDepth 100000 in
set_option maxHeartbeats 8000000 in
theorem refPrefixKey_any (net : List UInt8) (hn : net.length ≤ 100) (a n : Nat) (hc : chk (a : Int) (n : Int) = 0) (w : World) :
    Calls Tryz.prog 14 #[txt net, .agg #[.int .i64 (a : Int), .int .i64 (n : Int)]] w fun e w' => e = .returned (txt (pKey net a n)) ∧ Below w.heap.size w w' := by
  obtain ⟨g1, g2, g3, g4, _⟩ := chk_zero.1 hc
  have ha : a < 4294967296 := by omega
  have hl := hexL_length 8 a
  have l1 := decDigits_len2 (u := n / 10) (by omega)
  have l2 := decDigits_len2 (u := n % 10) (by omega)
  have q1 : ¬ (9223372036854775807 < 2 + net.length) := by omega
  have q2 : ¬ (9223372036854775807 < 2 + net.length + 1) := by omega
  have q3 : ¬ (9223372036854775807 < 2 + net.length + 1 + (hexL 8 a).length) := by omega
  have q4 : ¬ (9223372036854775807 < 2 + net.length + 1 + (hexL 8 a).length + (Lib.decDigits (n / 10)).length) := by omega
  have q5 : ¬ (9223372036854775807 < 2 + net.length + 1 + (hexL 8 a).length + (Lib.decDigits (n / 10)).length + (Lib.decDigits (n % 10)).length) := by omega
  have HKey := Lib.hid (show pKey net a n = [112, 47] ++ net ++ [47] ++ hexL 8 a ++ Lib.decDigits (n / 10) ++ Lib.decDigits (n % 10) from rfl)
  have hS : Below w.heap.size w (w.alloc (.cells #[.int .i64 (a : Int), .int .i64 (n : Int)] 23)) := (Below.refl _ _).alloc (Nat.le_refl _) _
  have d := Blk.new w 23 #[.int .i64 (a : Int), .int .i64 (n : Int)]
  obtain ⟨k0, k1⟩ := bel2 (B := w.heap.size + 1) ⟨d.two.1, d.two.2.1⟩ (by simp)
  have HX := Lib.hid (fun (w' : World) => refHex_any a ha w')
  have hd1 : ∀ w' : World, Calls Tryz.prog 35 #[.int .i64 ((n : Int) / 10)] w' fun e w2 => e = .returned (txt (Lib.decDigits (n / 10))) ∧ w' = w2 := fun w' => by
    have := dec_any (n / 10) (by omega) w'
    rwa [show ((n / 10 : Nat) : Int) = (n : Int) / 10 by omega] at this
  have hd2 : ∀ w' : World, Calls Tryz.prog 35 #[.int .i64 ((n : Int) % 10)] w' fun e w2 => e = .returned (txt (Lib.decDigits (n % 10))) ∧ w' = w2 := fun w' => by
    have := dec_any (n % 10) (by omega) w'
    rwa [show ((n % 10 : Nat) : Int) = (n : Int) % 10 by omega] at this
  have HI := Lib.hid hd1
  have HJ := Lib.hid hd2
  clear hd1 hd2 hc
  clear hl l1 l2 d
  generalize hexL 8 a = x at *
  generalize Lib.decDigits (n / 10) = y at *
  generalize Lib.decDigits (n % 10) = z at *
  go_enter Tryz.func14, Tryz.ntmps14
  go_wp2_with fail
  refine wp_region_bel (w.heap.size + 1) _ (by kernel_rfl) (by kernel_rfl) (Below.refl _ _) ?_
  repeat (go_big_quiet_step ((go_at_call 34; exact Calls.bel_same (v := .string ⟨x.toArray⟩) (HX.out _))))
  go_big_quiet_step ((go_at_call 35; exact Calls.bel_same (v := .string ⟨y.toArray⟩) (HI.out _)))
  repeat (go_big_quiet_step ((go_at_call 34; exact Calls.bel_same (v := .string ⟨x.toArray⟩) (HX.out _))))
  go_big_quiet_step ((go_at_call 35; exact Calls.bel_same (v := .string ⟨z.toArray⟩) (HJ.out _)))
  repeat (go_big_quiet_step ((go_at_call 34; exact Calls.bel_same (v := .string ⟨x.toArray⟩) (HX.out _))))
  refine wpQuiet_nil ?_
  intro w2 hb2
  clear k0 k1
  go_wp2
  go_ret
  refine ⟨?_, hS.trans (hb2.mono (by omega))⟩
  show Ending.returned (.string ((⟨[112, 47].toArray⟩ : ByteArray) ++ ⟨net.toArray⟩ ++ ⟨[47].toArray⟩ ++ ⟨x.toArray⟩ ++ ⟨y.toArray⟩ ++ ⟨z.toArray⟩)) = _
  rw [ByteArray.mk_append_mk, ByteArray.mk_append_mk, ByteArray.mk_append_mk, ByteArray.mk_append_mk, ByteArray.mk_append_mk, HKey.out]
end Go.Proofs.YtemokelgafndpaaGreatDoor
