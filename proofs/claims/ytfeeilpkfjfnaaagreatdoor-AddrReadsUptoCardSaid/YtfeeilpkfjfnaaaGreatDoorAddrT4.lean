/- addr.Print, PrintPrefix, ParsePrefix. Conditions: the library's bound on a text's length; its variables as TxtV says. -/
import Derived.Test.YtfeeilpkfjfnaaaGreatDoorAddrT3
namespace Go.Proofs.YtfeeilpkfjfnaaaGreatDoor
set_option linter.unusedVariables false
set_option linter.unusedSimpArgs false
open Go.RowKit

theorem print_ok (a : Nat) (ha : a < 4294967296) {B : Nat} (w : World) (hB : B ≤ w.heap.size) (hV : TxtV B w) :
    Calls Tryz.prog 9 #[.int .i64 (a : Int)] w fun e w' => e = .returned (.tuple #[txt (textT a), .nilIface]) ∧ Below w.heap.size w w' := by
  have hi : isA (a : Int) = true := isA_true.2 ⟨by omega, by omega⟩
  have HI := Lib.hid hi
  clear hi
  go_enter Tryz.func9, Tryz.ntmps9
  go_wp2_with fail
  refine (is_any _ _).mono ?_
  rintro e w1 ⟨rfl, rfl⟩
  rw [HI.out]
  go_wp2_with fail
  refine (written_any a ha _ hB hV).mono ?_
  rintro e w2 ⟨rfl, hb2⟩
  go_wp2
  go_ret2
  exact ⟨rfl, hb2⟩
theorem print_bad (a : Int) (ha : isA a = false) (w : World) :
    Calls Tryz.prog 9 #[.int .i64 a] w fun e w' => e = .returned (.tuple #[txt [], .iface 24 (.int .i64 1)]) ∧ Below w.heap.size w w' := by
  have HI := Lib.hid ha
  clear ha
  go_enter Tryz.func9, Tryz.ntmps9
  go_wp2_with fail
  refine (is_any _ _).mono ?_
  rintro e w1 ⟨rfl, rfl⟩
  rw [HI.out]
  go_wp2
  go_ret2
  exact ⟨rfl, Below.refl _ _⟩

/-- A prefix as a text. -/
def pfxT (a n : Nat) : List UInt8 := textT a ++ 47 :: Lib.decDigits n
theorem printP_bad (a n : Int) (hc : chk a n ≠ 0) (w : World) :
    Calls Tryz.prog 15 #[.agg #[.int .i64 a, .int .i64 n]] w fun e w' => e = .returned (.tuple #[txt [], .iface 24 (.int .i64 (chk a n))]) ∧ Below w.heap.size w w' := by
  go_enter Tryz.func15, Tryz.ntmps15
  go_wp2_with fail
  refine (check_bad _ _ hc _).mono ?_
  rintro e w1 ⟨rfl, hb1⟩
  go_wp2
  go_ret2
  exact ⟨rfl, ((Below.refl _ _).alloc (Nat.le_refl _) _).trans (hb1.mono (by simp))⟩
set_option maxHeartbeats 1000000 in
theorem printP_ok (a n : Nat) (hc : chk a n = 0) {B : Nat} (w : World) (hB : B ≤ w.heap.size) (hV : TxtV B w) :
    Calls Tryz.prog 15 #[.agg #[.int .i64 (a : Int), .int .i64 (n : Int)]] w fun e w' => e = .returned (.tuple #[txt (pfxT a n), .nilIface]) ∧ Below w.heap.size w w' := by
  obtain ⟨g1, g2, g3, g4, _⟩ := chk_zero.1 hc
  have hl1 := textT_len a
  have hl2 := decDigits_len (u := n) (by omega)
  have hq1 : ¬ (9223372036854775807 < (textT a).length + 1) := by omega
  have hq2 : ¬ (9223372036854775807 < (textT a).length + 1 + (Lib.decDigits n).length) := by omega
  have ha : a < 4294967296 := by omega
  clear hl1 hl2
  go_enter Tryz.func15, Tryz.ntmps15
  go_wp2_with fail
  refine (check_ok _ _ hc _).mono ?_
  rintro e w1 ⟨rfl, hb1⟩
  have hb : Below w.heap.size w w1 := ((Below.refl _ _).alloc (Nat.le_refl _) _).trans (hb1.mono (by simp))
  have d := ((Blk.new w 23 #[.int .i64 (a : Int), .int .i64 (n : Int)]).below hb1 (by simp))
  have hV1 := hV.on (hb.mono hB)
  have hs1 : w.heap.size + 1 ≤ w1.heap.size := by have := hb1.size; simpa using this
  have hB1 : B ≤ w1.heap.size := by omega
  obtain ⟨k0, k1⟩ := bel2 (B := w1.heap.size) ⟨d.two.1, d.two.2.1⟩ (by omega)
  have hVx : ∀ x : BelW w1.heap.size w1, TxtV B x.1 := fun x => hV1.on (x.2.mono hB1)
  have hBx : ∀ x : BelW w1.heap.size w1, B ≤ x.1.heap.size := fun x => Nat.le_trans hB1 x.2.size
  clear hb1 d
  go_wp2_with fail
  refine wp_region_bel w1.heap.size w1 (by kernel_rfl) (by kernel_rfl) (Below.refl _ _) ?_
  repeat (go_big_quiet_step (first | (go_at_call 22; exact Calls.bel_of (v := .string ⟨(textT a).toArray⟩) (Nat.le_refl _) (written_any a ha _ (hBx _) (hVx _))) | (go_at_call 26; exact Calls.bel_of (v := .string ⟨(Lib.decDigits n).toArray⟩) (Nat.le_refl _) (itoaN_any n (by omega) _ (hBx _) (hVx _)))))
  refine wpQuiet_nil ?_
  intro w2 hb2
  clear k0 k1 hVx hBx
  go_wp2
  go_ret2
  refine ⟨?_, hb.trans (hb2.mono (by omega))⟩
  have e : (⟨(textT a).toArray⟩ : ByteArray) ++ ⟨#[47]⟩ ++ ⟨(Lib.decDigits n).toArray⟩ = ⟨(pfxT a n).toArray⟩ := by
    rw [show (⟨#[47]⟩ : ByteArray) = ⟨[47].toArray⟩ from rfl, ByteArray.mk_append_mk, ByteArray.mk_append_mk]
    unfold pfxT
    simp
  show Ending.returned (.tuple #[.string ((⟨(textT a).toArray⟩ : ByteArray) ++ ⟨#[47]⟩ ++ ⟨(Lib.decDigits n).toArray⟩), .nilIface]) = _
  rw [e]

/-- What a text says of a prefix. -/
def ppW (x y : List UInt8) : Value := match addrT x, smallM 32 y with
  | some a, some n => if chk (a : Int) (n : Int) = 0 then .tuple #[.agg #[.int .i64 (a : Int), .int .i64 (n : Int)], .nilIface] else .tuple #[.agg #[.int .i64 0, .int .i64 0], .iface 24 (.int .i64 (chk a n))]
  | _, _ => .tuple #[.agg #[.int .i64 0, .int .i64 0], .iface 24 (.int .i64 5)]
theorem ppW_none1 {x y : List UInt8} (h : addrT x = none) : ppW x y = .tuple #[.agg #[.int .i64 0, .int .i64 0], .iface 24 (.int .i64 5)] := by unfold ppW; rw [h]
theorem ppW_none2 {x y : List UInt8} (h : smallM 32 y = none) : ppW x y = .tuple #[.agg #[.int .i64 0, .int .i64 0], .iface 24 (.int .i64 5)] := by
  unfold ppW; rw [h]
  cases addrT x <;> rfl
theorem ppW_ok {x y : List UInt8} {a n : Nat} (h1 : addrT x = some a) (h2 : smallM 32 y = some n) (h : chk (a : Int) (n : Int) = 0) : ppW x y = .tuple #[.agg #[.int .i64 (a : Int), .int .i64 (n : Int)], .nilIface] := by
  unfold ppW; rw [h1, h2]
  simp only
  rw [if_pos h]
theorem ppW_bad {x y : List UInt8} {a n : Nat} (h1 : addrT x = some a) (h2 : smallM 32 y = some n) (h : chk (a : Int) (n : Int) ≠ 0) : ppW x y = .tuple #[.agg #[.int .i64 0, .int .i64 0], .iface 24 (.int .i64 (chk a n))] := by
  unfold ppW; rw [h1, h2]
  simp only
  rw [if_neg h]
def ppV (s : List UInt8) : Value := ppW (Lib.cut s [47]).1 (Lib.cut s [47]).2.1
theorem cut_len (s : List UInt8) (c : UInt8) : (Lib.cut s [c]).1.length ≤ s.length ∧ (Lib.cut s [c]).2.1.length ≤ s.length := by
  unfold Lib.cut
  split <;> simp <;> omega
set_option maxHeartbeats 2000000 in
theorem parseP_any (s : List UInt8) (hlen : s.length < 4294967281) {B : Nat} (w : World) (hB : B ≤ w.heap.size) (hV : TxtV B w) :
    Calls Tryz.prog 11 #[txt s] w fun e w' => e = .returned (ppV s) ∧ Below w.heap.size w w' := by
  have hc : ∀ w : World, TxtV B w → _ := fun w hV => cut_any s 47 hlen w hV
  obtain ⟨l1, l2⟩ := cut_len s 47
  have hp : ppV s = ppW (Lib.cut s [47]).1 (Lib.cut s [47]).2.1 := rfl
  generalize (Lib.cut s [47]).1 = x at *
  generalize (Lib.cut s [47]).2.1 = y at *
  generalize (Lib.cut s [47]).2.2 = b at *
  have HP := Lib.hid hp
  clear hp
  have HC := Lib.hid hc
  clear hc
  go_enter Tryz.func11, Tryz.ntmps11
  go_wp2_with fail
  refine (HC.out _ (hV.on ((Below.refl _ _).alloc hB _))).mono ?_
  rintro e w1 ⟨rfl, n1, hw1⟩
  have hb1 : Below w.heap.size w w1 := by rw [hw1]; exact below_drewN ((Below.refl _ _).alloc (Nat.le_refl _) _) _
  have hk1 : Blk w1 w.heap.size 23 #[.int .i64 0, .int .i64 0] := by rw [hw1]; exact (Blk.new w _ _).below (B := w.heap.size + 1) (below_drewN (Below.refl _ _) _) (Nat.lt_succ_self _)
  have hz1 : w1.heap.size = w.heap.size + 1 := by rw [hw1]; simp
  clear hw1
  have HZ1 := Lib.hid hz1
  clear hz1
  go_wp2_with fail
  refine (parse_any x (by omega) _ (by have := HZ1.out; omega) (hV.on (hb1.mono hB))).mono ?_
  rintro e w2 ⟨rfl, hb2⟩
  have hb12 : Below w.heap.size w w2 := hb1.trans (hb2.mono hb1.size)
  have hk2 := hk1.below hb2 (by have := HZ1.out; omega)
  have hs2 : w.heap.size + 1 ≤ w2.heap.size := by have := HZ1.out; have := hb2.size; omega
  clear hb1 hb2 hk1
  have hB2 : B ≤ w2.heap.size := by omega
  have hV2 := hV.on (hb12.mono hB)
  cases hx : addrT x with
  | none =>
    have hpv : ParseV x = .tuple #[.int .i64 0, .iface 24 (.int .i64 5)] := by unfold ParseV; rw [hx]
    rw [hpv]
    cases hy : smallM 32 y with
    | none =>
      go_wp2_with fail
      refine (small_none (most := 32) (by omega) (by omega) hy _ hB2 hV2).mono ?_
      rintro e w3 ⟨j, rfl, hb3⟩
      obtain ⟨c0, c1, f0, f1⟩ := (hk2.below hb3 (by omega)).two
      go_wp2
      refine bodyPost_ret (v := .tuple #[.agg #[.int .i64 0, .int .i64 0], .iface 24 (.int .i64 5)]) (by simp [results, Tryz.results11, go_sem, c0, c1]) rfl ⟨by rw [HP.out, ppW_none1 hx], ?_⟩
      exact ((hb12.trans (hb3.mono (by omega))).setCell (by simp) _).setCell (by simp) _
    | some m =>
      go_wp2_with fail
      refine (small_some (most := 32) (by omega) hy _ hB2 hV2).mono ?_
      rintro e w3 ⟨rfl, hb3⟩
      obtain ⟨c0, c1, f0, f1⟩ := (hk2.below hb3 (by omega)).two
      go_wp2
      refine bodyPost_ret (v := .tuple #[.agg #[.int .i64 0, .int .i64 0], .iface 24 (.int .i64 5)]) (by simp [results, Tryz.results11, go_sem, c0, c1]) rfl ⟨by rw [HP.out, ppW_none1 hx], ?_⟩
      exact ((hb12.trans (hb3.mono (by omega))).setCell (by simp) _).setCell (by simp) _
  | some a =>
    have hpv : ParseV x = .tuple #[.int .i64 (a : Int), .nilIface] := by unfold ParseV; rw [hx]
    rw [hpv]
    cases hy : smallM 32 y with
    | none =>
      go_wp2_with fail
      refine (small_none (most := 32) (by omega) (by omega) hy _ hB2 hV2).mono ?_
      rintro e w3 ⟨j, rfl, hb3⟩
      obtain ⟨c0, c1, f0, f1⟩ := (hk2.below hb3 (by omega)).two
      go_wp2
      refine bodyPost_ret (v := .tuple #[.agg #[.int .i64 0, .int .i64 0], .iface 24 (.int .i64 5)]) (by simp [results, Tryz.results11, go_sem, c0, c1]) rfl ⟨by rw [HP.out, ppW_none2 hy], ?_⟩
      exact ((hb12.trans (hb3.mono (by omega))).setCell (by simp) _).setCell (by simp) _
    | some m =>
      go_wp2_with fail
      refine (small_some (most := 32) (by omega) hy _ hB2 hV2).mono ?_
      rintro e w3 ⟨rfl, hb3⟩
      have hk3 := hk2.below hb3 (by omega)
      have hs3 := hb3.size
      by_cases hk : chk (a : Int) (m : Int) = 0
      · go_wp2_with fail
        refine (check_ok _ _ hk _).mono ?_
        rintro e w4 ⟨rfl, hb4⟩
        obtain ⟨c0, c1, f0, f1⟩ := ((hk3.alloc (.cells #[.int .i64 (a : Int), .int .i64 (m : Int)] 23)).below hb4 (by simp; omega)).two
        obtain ⟨d0, d1, _, _⟩ := ((Blk.new w3 23 #[.int .i64 (a : Int), .int .i64 (m : Int)]).below hb4 (by simp)).two
        go_wp2
        refine bodyPost_ret (v := .tuple #[.agg #[.int .i64 (a : Int), .int .i64 (m : Int)], .nilIface]) (by simp [results, Tryz.results11, go_sem, c0, c1]) rfl ⟨by rw [HP.out, ppW_ok hx hy hk], ?_⟩
        exact (((((hb12.trans (hb3.mono (by omega))).alloc (by omega) _).trans (hb4.mono (by simp; omega)))).setCell (by simp) _).setCell (by simp) _
      · go_wp2_with fail
        refine (check_bad _ _ hk _).mono ?_
        rintro e w4 ⟨rfl, hb4⟩
        obtain ⟨c0, c1, f0, f1⟩ := ((hk3.alloc (.cells #[.int .i64 (a : Int), .int .i64 (m : Int)] 23)).below hb4 (by simp; omega)).two
        go_wp2
        refine bodyPost_ret (v := .tuple #[.agg #[.int .i64 0, .int .i64 0], .iface 24 (.int .i64 (chk a m))]) (by simp [results, Tryz.results11, go_sem, c0, c1]) rfl ⟨by rw [HP.out, ppW_bad hx hy hk], ?_⟩
        exact (((((hb12.trans (hb3.mono (by omega))).alloc (by omega) _).trans (hb4.mono (by simp; omega)))).setCell (by simp) _).setCell (by simp) _
end Go.Proofs.YtfeeilpkfjfnaaaGreatDoor
