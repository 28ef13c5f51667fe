/- The law AddrBack's walk: two numbers and a prefix, whatever they are. Conditions: the library's variables as TxtV says. -/
import Derived.Test.YtfeeilpkfjfnaaaDoorAddrBack0
namespace Go.Proofs.YtfeeilpkfjfnaaaDoor
set_option linter.unusedVariables false
set_option linter.unusedSimpArgs false
open Go.RowKit

set_option maxRecDepth 100000 in
set_option maxHeartbeats 4000000 in
theorem back_10_bad (a b p n : Int) (ha : isA a = true) (hc : chk p n ≠ 0) (hab : ¬ (isA a = true ∧ isA b = true)) {B : Nat} (w : World) (hB : B ≤ w.heap.size) (hV : TxtV B w) :
    Calls Tryd.prog 3 #[.int .i64 a, .int .i64 b, .agg #[.int .i64 p, .int .i64 n]] w fun e w' => e = .returned (.bool true) ∧ Below w.heap.size w w' := by
  have hS0 := Bk.first w p n hB hV
  clear hV hB
  have HA := Lib.hid ha
  obtain ⟨a0, rfl⟩ : ∃ k : Nat, a = k := ⟨a.toNat, by have := isA_true.1 ha; omega⟩
  have hal : a0 < 4294967296 := by have := isA_true.1 ha; omega
  have HC := Lib.hid hc
  have HAB := Lib.hid hab
  clear ha hc hab
  go_enter Tryd.func3, Tryd.ntmps3
  go_wp2_with fail
  refine (parse_any [49, 48, 46, 48, 46, 48, 46, 49] (by decide) _ hS0.leI hS0.txt).mono ?_
  rintro e w1 ⟨rfl, hb1⟩
  rw [parse_ten]
  have hS1 := hS0.step hb1
  clear hb1 hS0  
  go_wp2_with fail
  refine (print_ok a0 hal _ hS1.leI hS1.txt).mono ?_
  rintro e w2 ⟨rfl, hb2⟩
  have hS2 := hS1.step hb2
  clear hb2 hS1  
  go_wp2_with fail
  refine (parse_any (textT a0) (by have := textT_len a0; omega) _ hS2.leI hS2.txt).mono ?_
  rintro e w3 ⟨rfl, hb3⟩
  rw [parse_text hal]
  have hS3 := hS2.step hb3
  clear hb3 hS2  
  obtain ⟨d0_0, d0_1, g0_0, g0_1⟩ := hS3.blk.two
  go_wp2_with fail
  refine (printP_bad p n HC.out _).mono ?_
  rintro e w4 ⟨rfl, hb4⟩
  have hS4 := hS3.step hb4
  clear hb4 hS3  d0_0 d0_1 g0_0 g0_1
  obtain ⟨d0_0, d0_1, g0_0, g0_1⟩ := hS4.blk.two
  go_wp2_with fail
  refine (halves_bad1 p n HC.out _).mono ?_
  rintro e w5 ⟨rfl, hb5⟩
  have hS5 := hS4.step hb5
  clear hb5 hS4  d0_0 d0_1 g0_0 g0_1
  have hz : w.heap.size < w5.heap.size := hS5.sz
  go_upto_region 15 with fail
  refine wp_name (fun w6 HW => ?_)
  have hS6 : Bk w B p n w6 := by rw [HW.out]; exact (hS5.alloc _).alloc _
  have hl6 : Blk w6 w5.heap.size 23 #[.int .i64 0, .int .i64 0] := by rw [HW.out]; exact (Blk.new _ _ _).alloc _
  have hh6 : Blk w6 (w5.heap.size + 1) 23 #[.int .i64 0, .int .i64 0] := by rw [HW.out]; exact World.size_alloc w5 _ ▸ Blk.new _ _ _
  clear HW hS5 
  clear hh6
  go_upto_region 24 with fail
  clear hl6
  go_wp2_with fail
  refine (both_bad (a0 : Int) b HAB.out _).mono ?_
  rintro e w7 ⟨rfl, hb7⟩
  have hS7 := hS6.step hb7
  clear hb7 hS6  
  go_wp2
  go_ret
  exact ⟨rfl, by first | exact hS7.bel | exact (hS7.alloc _).bel⟩

set_option maxRecDepth 100000 in
set_option maxHeartbeats 4000000 in
theorem back_10_all (a b p n : Int) (ha : isA a = true) (hc : chk p n ≠ 0) (hb : isA b = true) (hq : bothN a b = 32) {B : Nat} (w : World) (hB : B ≤ w.heap.size) (hV : TxtV B w) :
    Calls Tryd.prog 3 #[.int .i64 a, .int .i64 b, .agg #[.int .i64 p, .int .i64 n]] w fun e w' => e = .returned (.bool true) ∧ Below w.heap.size w w' := by
  have hS0 := Bk.first w p n hB hV
  clear hV hB
  have HA := Lib.hid ha
  obtain ⟨a0, rfl⟩ : ∃ k : Nat, a = k := ⟨a.toNat, by have := isA_true.1 ha; omega⟩
  have hal : a0 < 4294967296 := by have := isA_true.1 ha; omega
  have HC := Lib.hid hc
  have HQ := Lib.hid hq
  have HB := Lib.hid hb
  clear ha hc hq hb
  go_enter Tryd.func3, Tryd.ntmps3
  go_wp2_with fail
  refine (parse_any [49, 48, 46, 48, 46, 48, 46, 49] (by decide) _ hS0.leI hS0.txt).mono ?_
  rintro e w1 ⟨rfl, hb1⟩
  rw [parse_ten]
  have hS1 := hS0.step hb1
  clear hb1 hS0  
  go_wp2_with fail
  refine (print_ok a0 hal _ hS1.leI hS1.txt).mono ?_
  rintro e w2 ⟨rfl, hb2⟩
  have hS2 := hS1.step hb2
  clear hb2 hS1  
  go_wp2_with fail
  refine (parse_any (textT a0) (by have := textT_len a0; omega) _ hS2.leI hS2.txt).mono ?_
  rintro e w3 ⟨rfl, hb3⟩
  rw [parse_text hal]
  have hS3 := hS2.step hb3
  clear hb3 hS2  
  obtain ⟨d0_0, d0_1, g0_0, g0_1⟩ := hS3.blk.two
  go_wp2_with fail
  refine (printP_bad p n HC.out _).mono ?_
  rintro e w4 ⟨rfl, hb4⟩
  have hS4 := hS3.step hb4
  clear hb4 hS3  d0_0 d0_1 g0_0 g0_1
  obtain ⟨d0_0, d0_1, g0_0, g0_1⟩ := hS4.blk.two
  go_wp2_with fail
  refine (halves_bad1 p n HC.out _).mono ?_
  rintro e w5 ⟨rfl, hb5⟩
  have hS5 := hS4.step hb5
  clear hb5 hS4  d0_0 d0_1 g0_0 g0_1
  have hz : w.heap.size < w5.heap.size := hS5.sz
  go_upto_region 15 with fail
  refine wp_name (fun w6 HW => ?_)
  have hS6 : Bk w B p n w6 := by rw [HW.out]; exact (hS5.alloc _).alloc _
  have hl6 : Blk w6 w5.heap.size 23 #[.int .i64 0, .int .i64 0] := by rw [HW.out]; exact (Blk.new _ _ _).alloc _
  have hh6 : Blk w6 (w5.heap.size + 1) 23 #[.int .i64 0, .int .i64 0] := by rw [HW.out]; exact World.size_alloc w5 _ ▸ Blk.new _ _ _
  clear HW hS5 
  clear hh6
  go_upto_region 24 with fail
  have hqc := clr_chk (n := bothN (a0 : Int) b) HA.out (bothN_range HA.out HB.out).1 (bothN_range HA.out HB.out).2
  obtain ⟨i1, i2, i3, i4⟩ := both_in HA.out HB.out
  have HBO := Lib.hid (fun w => both_ok (a0 : Int) b HA.out HB.out w)
  have hall := both_all HA.out HB.out HQ.out
  have HALL := Lib.hid hall
  clear hall
  generalize clr (a0 : Int) (bothN (a0 : Int) b) = c at *
  generalize bothN (a0 : Int) b = m at *
  go_wp2_with fail
  refine (HBO.out _).mono ?_
  rintro e w7 ⟨rfl, hb7⟩
  have hS7 := hS6.step hb7
  have hl7 := hl6.below hb7 hl6.lt
  clear hb7 hS6 hl6 
  go_upto_region 25 with fail
  refine wp_name (fun w8 HW => ?_)
  have hS8 : Bk w B p n w8 := by rw [HW.out]; exact (hS7.alloc _)
  have hl8 := hl7.to HW.out
  have hq8 : Blk w8 w7.heap.size 23 #[.int .i64 c, .int .i64 m] := by rw [HW.out]; exact Blk.new _ _ _
  clear HW hS7 hl7
  obtain ⟨d0_0, d0_1, g0_0, g0_1⟩ := hq8.two
  go_wp2_with fail
  refine (ends_ok _ _ hqc _).mono ?_
  rintro e w9 ⟨rfl, hb9⟩
  have hS9 := hS8.step hb9
  have hl9 := hl8.below hb9 hl8.lt
  have hq9 := hq8.below hb9 hq8.lt
  clear hb9 hS8 hl8 hq8 d0_0 d0_1 g0_0 g0_1
  obtain ⟨l0, l1, l2, l3⟩ := hl9.two
  obtain ⟨d0_0, d0_1, g0_0, g0_1⟩ := hq9.two
  go_wp2_with fail
  refine (halves_at32 hqc HQ.out _).mono ?_
  rintro e w10 ⟨rfl, hb10⟩
  have hS10 := hS9.step hb10
  have hl10 := hl9.below hb10 hl9.lt
  have hq10 := hq9.below hb10 hq9.lt
  clear hb10 hS9 hl9 hq9 d0_0 d0_1 g0_0 g0_1
  clear l0 l1 l2 l3
  obtain ⟨l0, l1, l2, l3⟩ := hl10.two
  have hab : ((a0 : Int) == b) = true := by rw [HALL.out]; simp
  go_wp2
  go_ret
  exact ⟨rfl, ((hS10.set (by show w.heap.size < w5.heap.size; exact hz) _).set (by show w.heap.size < w5.heap.size; exact hz) _).bel⟩

set_option maxRecDepth 100000 in
set_option maxHeartbeats 4000000 in
theorem back_10_part (a b p n : Int) (ha : isA a = true) (hc : chk p n ≠ 0) (hb : isA b = true) (hq : bothN a b ≠ 32) {B : Nat} (w : World) (hB : B ≤ w.heap.size) (hV : TxtV B w) :
    Calls Tryd.prog 3 #[.int .i64 a, .int .i64 b, .agg #[.int .i64 p, .int .i64 n]] w fun e w' => e = .returned (.bool true) ∧ Below w.heap.size w w' := by
  have hS0 := Bk.first w p n hB hV
  clear hV hB
  have HA := Lib.hid ha
  obtain ⟨a0, rfl⟩ : ∃ k : Nat, a = k := ⟨a.toNat, by have := isA_true.1 ha; omega⟩
  have hal : a0 < 4294967296 := by have := isA_true.1 ha; omega
  have HC := Lib.hid hc
  have HQ := Lib.hid hq
  have HB := Lib.hid hb
  clear ha hc hq hb
  go_enter Tryd.func3, Tryd.ntmps3
  go_wp2_with fail
  refine (parse_any [49, 48, 46, 48, 46, 48, 46, 49] (by decide) _ hS0.leI hS0.txt).mono ?_
  rintro e w1 ⟨rfl, hb1⟩
  rw [parse_ten]
  have hS1 := hS0.step hb1
  clear hb1 hS0  
  go_wp2_with fail
  refine (print_ok a0 hal _ hS1.leI hS1.txt).mono ?_
  rintro e w2 ⟨rfl, hb2⟩
  have hS2 := hS1.step hb2
  clear hb2 hS1  
  go_wp2_with fail
  refine (parse_any (textT a0) (by have := textT_len a0; omega) _ hS2.leI hS2.txt).mono ?_
  rintro e w3 ⟨rfl, hb3⟩
  rw [parse_text hal]
  have hS3 := hS2.step hb3
  clear hb3 hS2  
  obtain ⟨d0_0, d0_1, g0_0, g0_1⟩ := hS3.blk.two
  go_wp2_with fail
  refine (printP_bad p n HC.out _).mono ?_
  rintro e w4 ⟨rfl, hb4⟩
  have hS4 := hS3.step hb4
  clear hb4 hS3  d0_0 d0_1 g0_0 g0_1
  obtain ⟨d0_0, d0_1, g0_0, g0_1⟩ := hS4.blk.two
  go_wp2_with fail
  refine (halves_bad1 p n HC.out _).mono ?_
  rintro e w5 ⟨rfl, hb5⟩
  have hS5 := hS4.step hb5
  clear hb5 hS4  d0_0 d0_1 g0_0 g0_1
  have hz : w.heap.size < w5.heap.size := hS5.sz
  go_upto_region 15 with fail
  refine wp_name (fun w6 HW => ?_)
  have hS6 : Bk w B p n w6 := by rw [HW.out]; exact (hS5.alloc _).alloc _
  have hl6 : Blk w6 w5.heap.size 23 #[.int .i64 0, .int .i64 0] := by rw [HW.out]; exact (Blk.new _ _ _).alloc _
  have hh6 : Blk w6 (w5.heap.size + 1) 23 #[.int .i64 0, .int .i64 0] := by rw [HW.out]; exact World.size_alloc w5 _ ▸ Blk.new _ _ _
  clear HW hS5 
  clear hh6
  go_upto_region 24 with fail
  have hqc := clr_chk (n := bothN (a0 : Int) b) HA.out (bothN_range HA.out HB.out).1 (bothN_range HA.out HB.out).2
  obtain ⟨i1, i2, i3, i4⟩ := both_in HA.out HB.out
  have HBO := Lib.hid (fun w => both_ok (a0 : Int) b HA.out HB.out w)
  have HQP := Lib.hid (both_part HA.out HB.out HQ.out)
  obtain ⟨kq, _, _, _⟩ := half_chk hqc HQ.out
  generalize clr (a0 : Int) (bothN (a0 : Int) b) = c at *
  generalize bothN (a0 : Int) b = m at *
  go_wp2_with fail
  refine (HBO.out _).mono ?_
  rintro e w7 ⟨rfl, hb7⟩
  have hS7 := hS6.step hb7
  have hl7 := hl6.below hb7 hl6.lt
  clear hb7 hS6 hl6 
  go_upto_region 25 with fail
  refine wp_name (fun w8 HW => ?_)
  have hS8 : Bk w B p n w8 := by rw [HW.out]; exact (hS7.alloc _)
  have hl8 := hl7.to HW.out
  have hq8 : Blk w8 w7.heap.size 23 #[.int .i64 c, .int .i64 m] := by rw [HW.out]; exact Blk.new _ _ _
  clear HW hS7 hl7
  obtain ⟨d0_0, d0_1, g0_0, g0_1⟩ := hq8.two
  go_wp2_with fail
  refine (ends_ok _ _ hqc _).mono ?_
  rintro e w9 ⟨rfl, hb9⟩
  have hS9 := hS8.step hb9
  have hl9 := hl8.below hb9 hl8.lt
  have hq9 := hq8.below hb9 hq8.lt
  clear hb9 hS8 hl8 hq8 d0_0 d0_1 g0_0 g0_1
  obtain ⟨l0, l1, l2, l3⟩ := hl9.two
  obtain ⟨d0_0, d0_1, g0_0, g0_1⟩ := hq9.two
  go_wp2_with fail
  refine (halves_ok _ _ hqc HQ.out _).mono ?_
  rintro e w10 ⟨rfl, hb10⟩
  have hS10 := hS9.step hb10
  have hl10 := hl9.below hb10 hl9.lt
  have hq10 := hq9.below hb10 hq9.lt
  clear hb10 hS9 hl9 hq9 d0_0 d0_1 g0_0 g0_1
  clear l0 l1 l2 l3
  obtain ⟨l0, l1, l2, l3⟩ := hl10.two
  go_upto_region 31 with fail
  refine wp_name (fun w11 HW => ?_)
  have hS11 : Bk w B p n w11 := by rw [HW.out]; exact (hS10.set (by show w.heap.size < w5.heap.size; exact hz) _).set (by show w.heap.size < w5.heap.size; exact hz) _
  have hl11 : Blk w11 w5.heap.size 23 #[.int .i64 c, .int .i64 (m + 1)] := by rw [HW.out]; exact (hl10.setCell 0 _).setCell 1 _
  clear HW hS10 hl10 l0 l1 l2 l3
  obtain ⟨d0_0, d0_1, g0_0, g0_1⟩ := hl11.two
  go_wp2_with fail
  refine (ends_ok _ _ kq _).mono ?_
  rintro e w12 ⟨rfl, hb12⟩
  have hS12 := hS11.step hb12
  have hl12 := hl11.below hb12 hl11.lt
  clear hb12 hS11 hl11 d0_0 d0_1 g0_0 g0_1
  have hqp := HQP.out
  go_wp2
  go_ret
  clear hqp
  exact ⟨by simpa using HQP.out, hS12.bel⟩

set_option maxRecDepth 100000 in
set_option maxHeartbeats 4000000 in
theorem back_11_bad (a b p n : Int) (ha : isA a = true) (hc : chk p n = 0) (hn : n = 32) (hab : ¬ (isA a = true ∧ isA b = true)) {B : Nat} (w : World) (hB : B ≤ w.heap.size) (hV : TxtV B w) :
    Calls Tryd.prog 3 #[.int .i64 a, .int .i64 b, .agg #[.int .i64 p, .int .i64 n]] w fun e w' => e = .returned (.bool true) ∧ Below w.heap.size w w' := by
  have hS0 := Bk.first w p n hB hV
  clear hV hB
  have HA := Lib.hid ha
  obtain ⟨a0, rfl⟩ : ∃ k : Nat, a = k := ⟨a.toNat, by have := isA_true.1 ha; omega⟩
  have hal : a0 < 4294967296 := by have := isA_true.1 ha; omega
  obtain ⟨p0, rfl⟩ : ∃ k : Nat, p = k := ⟨p.toNat, by have := chk_zero.1 hc; omega⟩
  obtain ⟨n0, rfl⟩ : ∃ k : Nat, n = k := ⟨n.toNat, by have := chk_zero.1 hc; omega⟩
  have HN := Lib.hid hn
  have HC := Lib.hid hc
  have HAB := Lib.hid hab
  clear ha hn hc hab
  go_enter Tryd.func3, Tryd.ntmps3
  go_wp2_with fail
  refine (parse_any [49, 48, 46, 48, 46, 48, 46, 49] (by decide) _ hS0.leI hS0.txt).mono ?_
  rintro e w1 ⟨rfl, hb1⟩
  rw [parse_ten]
  have hS1 := hS0.step hb1
  clear hb1 hS0  
  go_wp2_with fail
  refine (print_ok a0 hal _ hS1.leI hS1.txt).mono ?_
  rintro e w2 ⟨rfl, hb2⟩
  have hS2 := hS1.step hb2
  clear hb2 hS1  
  go_wp2_with fail
  refine (parse_any (textT a0) (by have := textT_len a0; omega) _ hS2.leI hS2.txt).mono ?_
  rintro e w3 ⟨rfl, hb3⟩
  rw [parse_text hal]
  have hS3 := hS2.step hb3
  clear hb3 hS2  
  obtain ⟨d0_0, d0_1, g0_0, g0_1⟩ := hS3.blk.two
  go_wp2_with fail
  refine (printP_ok p0 n0 HC.out _ hS3.leI hS3.txt).mono ?_
  rintro e w4 ⟨rfl, hb4⟩
  have hS4 := hS3.step hb4
  clear hb4 hS3  d0_0 d0_1 g0_0 g0_1
  go_wp2_with fail
  refine (parseP_any (pfxT p0 n0) (pfxT_len HC.out) _ hS4.leI hS4.txt).mono ?_
  rintro e w5 ⟨rfl, hb5⟩
  rw [parse_pfx HC.out]
  have hS5 := hS4.step hb5
  clear hb5 hS4  
  go_upto_region 12 with fail
  refine wp_name (fun w6 HW => ?_)
  have hS6 : Bk w B (p0 : Int) (n0 : Int) w6 := by rw [HW.out]; exact (hS5.alloc _)
  have hx6 : Blk w6 w5.heap.size 23 #[.int .i64 (p0 : Int), .int .i64 (n0 : Int)] := by rw [HW.out]; exact Blk.new _ _ _
  clear HW hS5 
  obtain ⟨x0, x1, x2, x3⟩ := hx6.two
  obtain ⟨d0_0, d0_1, g0_0, g0_1⟩ := hS6.blk.two
  go_wp2_with fail
  refine (halves_at32 HC.out HN.out _).mono ?_
  rintro e w7 ⟨rfl, hb7⟩
  have hS7 := hS6.step hb7
  have hx7 := hx6.below hb7 hx6.lt
  clear hb7 hS6 hx6 d0_0 d0_1 g0_0 g0_1
  clear x0 x1 x2 x3
  clear hx7
  have hz : w.heap.size < w7.heap.size := hS7.sz
  go_upto_region 15 with fail
  refine wp_name (fun w8 HW => ?_)
  have hS8 : Bk w B (p0 : Int) (n0 : Int) w8 := by rw [HW.out]; exact (hS7.alloc _).alloc _
  have hl8 : Blk w8 w7.heap.size 23 #[.int .i64 0, .int .i64 0] := by rw [HW.out]; exact (Blk.new _ _ _).alloc _
  have hh8 : Blk w8 (w7.heap.size + 1) 23 #[.int .i64 0, .int .i64 0] := by rw [HW.out]; exact World.size_alloc w7 _ ▸ Blk.new _ _ _
  clear HW hS7 
  clear hh8
  go_upto_region 24 with fail
  clear hl8
  go_wp2_with fail
  refine (both_bad (a0 : Int) b HAB.out _).mono ?_
  rintro e w9 ⟨rfl, hb9⟩
  have hS9 := hS8.step hb9
  clear hb9 hS8  
  go_wp2
  go_ret
  exact ⟨rfl, by first | exact hS9.bel | exact (hS9.alloc _).bel⟩

set_option maxRecDepth 100000 in
set_option maxHeartbeats 4000000 in
theorem back_11_all (a b p n : Int) (ha : isA a = true) (hc : chk p n = 0) (hn : n = 32) (hb : isA b = true) (hq : bothN a b = 32) {B : Nat} (w : World) (hB : B ≤ w.heap.size) (hV : TxtV B w) :
    Calls Tryd.prog 3 #[.int .i64 a, .int .i64 b, .agg #[.int .i64 p, .int .i64 n]] w fun e w' => e = .returned (.bool true) ∧ Below w.heap.size w w' := by
  have hS0 := Bk.first w p n hB hV
  clear hV hB
  have HA := Lib.hid ha
  obtain ⟨a0, rfl⟩ : ∃ k : Nat, a = k := ⟨a.toNat, by have := isA_true.1 ha; omega⟩
  have hal : a0 < 4294967296 := by have := isA_true.1 ha; omega
  obtain ⟨p0, rfl⟩ : ∃ k : Nat, p = k := ⟨p.toNat, by have := chk_zero.1 hc; omega⟩
  obtain ⟨n0, rfl⟩ : ∃ k : Nat, n = k := ⟨n.toNat, by have := chk_zero.1 hc; omega⟩
  have HN := Lib.hid hn
  have HC := Lib.hid hc
  have HQ := Lib.hid hq
  have HB := Lib.hid hb
  clear ha hn hc hq hb
  go_enter Tryd.func3, Tryd.ntmps3
  go_wp2_with fail
  refine (parse_any [49, 48, 46, 48, 46, 48, 46, 49] (by decide) _ hS0.leI hS0.txt).mono ?_
  rintro e w1 ⟨rfl, hb1⟩
  rw [parse_ten]
  have hS1 := hS0.step hb1
  clear hb1 hS0  
  go_wp2_with fail
  refine (print_ok a0 hal _ hS1.leI hS1.txt).mono ?_
  rintro e w2 ⟨rfl, hb2⟩
  have hS2 := hS1.step hb2
  clear hb2 hS1  
  go_wp2_with fail
  refine (parse_any (textT a0) (by have := textT_len a0; omega) _ hS2.leI hS2.txt).mono ?_
  rintro e w3 ⟨rfl, hb3⟩
  rw [parse_text hal]
  have hS3 := hS2.step hb3
  clear hb3 hS2  
  obtain ⟨d0_0, d0_1, g0_0, g0_1⟩ := hS3.blk.two
  go_wp2_with fail
  refine (printP_ok p0 n0 HC.out _ hS3.leI hS3.txt).mono ?_
  rintro e w4 ⟨rfl, hb4⟩
  have hS4 := hS3.step hb4
  clear hb4 hS3  d0_0 d0_1 g0_0 g0_1
  go_wp2_with fail
  refine (parseP_any (pfxT p0 n0) (pfxT_len HC.out) _ hS4.leI hS4.txt).mono ?_
  rintro e w5 ⟨rfl, hb5⟩
  rw [parse_pfx HC.out]
  have hS5 := hS4.step hb5
  clear hb5 hS4  
  go_upto_region 12 with fail
  refine wp_name (fun w6 HW => ?_)
  have hS6 : Bk w B (p0 : Int) (n0 : Int) w6 := by rw [HW.out]; exact (hS5.alloc _)
  have hx6 : Blk w6 w5.heap.size 23 #[.int .i64 (p0 : Int), .int .i64 (n0 : Int)] := by rw [HW.out]; exact Blk.new _ _ _
  clear HW hS5 
  obtain ⟨x0, x1, x2, x3⟩ := hx6.two
  obtain ⟨d0_0, d0_1, g0_0, g0_1⟩ := hS6.blk.two
  go_wp2_with fail
  refine (halves_at32 HC.out HN.out _).mono ?_
  rintro e w7 ⟨rfl, hb7⟩
  have hS7 := hS6.step hb7
  have hx7 := hx6.below hb7 hx6.lt
  clear hb7 hS6 hx6 d0_0 d0_1 g0_0 g0_1
  clear x0 x1 x2 x3
  clear hx7
  have hz : w.heap.size < w7.heap.size := hS7.sz
  go_upto_region 15 with fail
  refine wp_name (fun w8 HW => ?_)
  have hS8 : Bk w B (p0 : Int) (n0 : Int) w8 := by rw [HW.out]; exact (hS7.alloc _).alloc _
  have hl8 : Blk w8 w7.heap.size 23 #[.int .i64 0, .int .i64 0] := by rw [HW.out]; exact (Blk.new _ _ _).alloc _
  have hh8 : Blk w8 (w7.heap.size + 1) 23 #[.int .i64 0, .int .i64 0] := by rw [HW.out]; exact World.size_alloc w7 _ ▸ Blk.new _ _ _
  clear HW hS7 
  clear hh8
  go_upto_region 24 with fail
  have hqc := clr_chk (n := bothN (a0 : Int) b) HA.out (bothN_range HA.out HB.out).1 (bothN_range HA.out HB.out).2
  obtain ⟨i1, i2, i3, i4⟩ := both_in HA.out HB.out
  have HBO := Lib.hid (fun w => both_ok (a0 : Int) b HA.out HB.out w)
  have hall := both_all HA.out HB.out HQ.out
  have HALL := Lib.hid hall
  clear hall
  generalize clr (a0 : Int) (bothN (a0 : Int) b) = c at *
  generalize bothN (a0 : Int) b = m at *
  go_wp2_with fail
  refine (HBO.out _).mono ?_
  rintro e w9 ⟨rfl, hb9⟩
  have hS9 := hS8.step hb9
  have hl9 := hl8.below hb9 hl8.lt
  clear hb9 hS8 hl8 
  go_upto_region 25 with fail
  refine wp_name (fun w10 HW => ?_)
  have hS10 : Bk w B (p0 : Int) (n0 : Int) w10 := by rw [HW.out]; exact (hS9.alloc _)
  have hl10 := hl9.to HW.out
  have hq10 : Blk w10 w9.heap.size 23 #[.int .i64 c, .int .i64 m] := by rw [HW.out]; exact Blk.new _ _ _
  clear HW hS9 hl9
  obtain ⟨d0_0, d0_1, g0_0, g0_1⟩ := hq10.two
  go_wp2_with fail
  refine (ends_ok _ _ hqc _).mono ?_
  rintro e w11 ⟨rfl, hb11⟩
  have hS11 := hS10.step hb11
  have hl11 := hl10.below hb11 hl10.lt
  have hq11 := hq10.below hb11 hq10.lt
  clear hb11 hS10 hl10 hq10 d0_0 d0_1 g0_0 g0_1
  obtain ⟨l0, l1, l2, l3⟩ := hl11.two
  obtain ⟨d0_0, d0_1, g0_0, g0_1⟩ := hq11.two
  go_wp2_with fail
  refine (halves_at32 hqc HQ.out _).mono ?_
  rintro e w12 ⟨rfl, hb12⟩
  have hS12 := hS11.step hb12
  have hl12 := hl11.below hb12 hl11.lt
  have hq12 := hq11.below hb12 hq11.lt
  clear hb12 hS11 hl11 hq11 d0_0 d0_1 g0_0 g0_1
  clear l0 l1 l2 l3
  obtain ⟨l0, l1, l2, l3⟩ := hl12.two
  have hab : ((a0 : Int) == b) = true := by rw [HALL.out]; simp
  go_wp2
  go_ret
  exact ⟨rfl, ((hS12.set (by show w.heap.size < w7.heap.size; exact hz) _).set (by show w.heap.size < w7.heap.size; exact hz) _).bel⟩

set_option maxRecDepth 100000 in
set_option maxHeartbeats 4000000 in
theorem back_11_part (a b p n : Int) (ha : isA a = true) (hc : chk p n = 0) (hn : n = 32) (hb : isA b = true) (hq : bothN a b ≠ 32) {B : Nat} (w : World) (hB : B ≤ w.heap.size) (hV : TxtV B w) :
    Calls Tryd.prog 3 #[.int .i64 a, .int .i64 b, .agg #[.int .i64 p, .int .i64 n]] w fun e w' => e = .returned (.bool true) ∧ Below w.heap.size w w' := by
  have hS0 := Bk.first w p n hB hV
  clear hV hB
  have HA := Lib.hid ha
  obtain ⟨a0, rfl⟩ : ∃ k : Nat, a = k := ⟨a.toNat, by have := isA_true.1 ha; omega⟩
  have hal : a0 < 4294967296 := by have := isA_true.1 ha; omega
  obtain ⟨p0, rfl⟩ : ∃ k : Nat, p = k := ⟨p.toNat, by have := chk_zero.1 hc; omega⟩
  obtain ⟨n0, rfl⟩ : ∃ k : Nat, n = k := ⟨n.toNat, by have := chk_zero.1 hc; omega⟩
  have HN := Lib.hid hn
  have HC := Lib.hid hc
  have HQ := Lib.hid hq
  have HB := Lib.hid hb
  clear ha hn hc hq hb
  go_enter Tryd.func3, Tryd.ntmps3
  go_wp2_with fail
  refine (parse_any [49, 48, 46, 48, 46, 48, 46, 49] (by decide) _ hS0.leI hS0.txt).mono ?_
  rintro e w1 ⟨rfl, hb1⟩
  rw [parse_ten]
  have hS1 := hS0.step hb1
  clear hb1 hS0  
  go_wp2_with fail
  refine (print_ok a0 hal _ hS1.leI hS1.txt).mono ?_
  rintro e w2 ⟨rfl, hb2⟩
  have hS2 := hS1.step hb2
  clear hb2 hS1  
  go_wp2_with fail
  refine (parse_any (textT a0) (by have := textT_len a0; omega) _ hS2.leI hS2.txt).mono ?_
  rintro e w3 ⟨rfl, hb3⟩
  rw [parse_text hal]
  have hS3 := hS2.step hb3
  clear hb3 hS2  
  obtain ⟨d0_0, d0_1, g0_0, g0_1⟩ := hS3.blk.two
  go_wp2_with fail
  refine (printP_ok p0 n0 HC.out _ hS3.leI hS3.txt).mono ?_
  rintro e w4 ⟨rfl, hb4⟩
  have hS4 := hS3.step hb4
  clear hb4 hS3  d0_0 d0_1 g0_0 g0_1
  go_wp2_with fail
  refine (parseP_any (pfxT p0 n0) (pfxT_len HC.out) _ hS4.leI hS4.txt).mono ?_
  rintro e w5 ⟨rfl, hb5⟩
  rw [parse_pfx HC.out]
  have hS5 := hS4.step hb5
  clear hb5 hS4  
  go_upto_region 12 with fail
  refine wp_name (fun w6 HW => ?_)
  have hS6 : Bk w B (p0 : Int) (n0 : Int) w6 := by rw [HW.out]; exact (hS5.alloc _)
  have hx6 : Blk w6 w5.heap.size 23 #[.int .i64 (p0 : Int), .int .i64 (n0 : Int)] := by rw [HW.out]; exact Blk.new _ _ _
  clear HW hS5 
  obtain ⟨x0, x1, x2, x3⟩ := hx6.two
  obtain ⟨d0_0, d0_1, g0_0, g0_1⟩ := hS6.blk.two
  go_wp2_with fail
  refine (halves_at32 HC.out HN.out _).mono ?_
  rintro e w7 ⟨rfl, hb7⟩
  have hS7 := hS6.step hb7
  have hx7 := hx6.below hb7 hx6.lt
  clear hb7 hS6 hx6 d0_0 d0_1 g0_0 g0_1
  clear x0 x1 x2 x3
  clear hx7
  have hz : w.heap.size < w7.heap.size := hS7.sz
  go_upto_region 15 with fail
  refine wp_name (fun w8 HW => ?_)
  have hS8 : Bk w B (p0 : Int) (n0 : Int) w8 := by rw [HW.out]; exact (hS7.alloc _).alloc _
  have hl8 : Blk w8 w7.heap.size 23 #[.int .i64 0, .int .i64 0] := by rw [HW.out]; exact (Blk.new _ _ _).alloc _
  have hh8 : Blk w8 (w7.heap.size + 1) 23 #[.int .i64 0, .int .i64 0] := by rw [HW.out]; exact World.size_alloc w7 _ ▸ Blk.new _ _ _
  clear HW hS7 
  clear hh8
  go_upto_region 24 with fail
  have hqc := clr_chk (n := bothN (a0 : Int) b) HA.out (bothN_range HA.out HB.out).1 (bothN_range HA.out HB.out).2
  obtain ⟨i1, i2, i3, i4⟩ := both_in HA.out HB.out
  have HBO := Lib.hid (fun w => both_ok (a0 : Int) b HA.out HB.out w)
  have HQP := Lib.hid (both_part HA.out HB.out HQ.out)
  obtain ⟨kq, _, _, _⟩ := half_chk hqc HQ.out
  generalize clr (a0 : Int) (bothN (a0 : Int) b) = c at *
  generalize bothN (a0 : Int) b = m at *
  go_wp2_with fail
  refine (HBO.out _).mono ?_
  rintro e w9 ⟨rfl, hb9⟩
  have hS9 := hS8.step hb9
  have hl9 := hl8.below hb9 hl8.lt
  clear hb9 hS8 hl8 
  go_upto_region 25 with fail
  refine wp_name (fun w10 HW => ?_)
  have hS10 : Bk w B (p0 : Int) (n0 : Int) w10 := by rw [HW.out]; exact (hS9.alloc _)
  have hl10 := hl9.to HW.out
  have hq10 : Blk w10 w9.heap.size 23 #[.int .i64 c, .int .i64 m] := by rw [HW.out]; exact Blk.new _ _ _
  clear HW hS9 hl9
  obtain ⟨d0_0, d0_1, g0_0, g0_1⟩ := hq10.two
  go_wp2_with fail
  refine (ends_ok _ _ hqc _).mono ?_
  rintro e w11 ⟨rfl, hb11⟩
  have hS11 := hS10.step hb11
  have hl11 := hl10.below hb11 hl10.lt
  have hq11 := hq10.below hb11 hq10.lt
  clear hb11 hS10 hl10 hq10 d0_0 d0_1 g0_0 g0_1
  obtain ⟨l0, l1, l2, l3⟩ := hl11.two
  obtain ⟨d0_0, d0_1, g0_0, g0_1⟩ := hq11.two
  go_wp2_with fail
  refine (halves_ok _ _ hqc HQ.out _).mono ?_
  rintro e w12 ⟨rfl, hb12⟩
  have hS12 := hS11.step hb12
  have hl12 := hl11.below hb12 hl11.lt
  have hq12 := hq11.below hb12 hq11.lt
  clear hb12 hS11 hl11 hq11 d0_0 d0_1 g0_0 g0_1
  clear l0 l1 l2 l3
  obtain ⟨l0, l1, l2, l3⟩ := hl12.two
  go_upto_region 31 with fail
  refine wp_name (fun w13 HW => ?_)
  have hS13 : Bk w B (p0 : Int) (n0 : Int) w13 := by rw [HW.out]; exact (hS12.set (by show w.heap.size < w7.heap.size; exact hz) _).set (by show w.heap.size < w7.heap.size; exact hz) _
  have hl13 : Blk w13 w7.heap.size 23 #[.int .i64 c, .int .i64 (m + 1)] := by rw [HW.out]; exact (hl12.setCell 0 _).setCell 1 _
  clear HW hS12 hl12 l0 l1 l2 l3
  obtain ⟨d0_0, d0_1, g0_0, g0_1⟩ := hl13.two
  go_wp2_with fail
  refine (ends_ok _ _ kq _).mono ?_
  rintro e w14 ⟨rfl, hb14⟩
  have hS14 := hS13.step hb14
  have hl14 := hl13.below hb14 hl13.lt
  clear hb14 hS13 hl13 d0_0 d0_1 g0_0 g0_1
  have hqp := HQP.out
  go_wp2
  go_ret
  clear hqp
  exact ⟨by simpa using HQP.out, hS14.bel⟩

set_option maxRecDepth 100000 in
set_option maxHeartbeats 4000000 in
theorem back_12_bad (a b p n : Int) (ha : isA a = true) (hc : chk p n = 0) (hn : n ≠ 32) (hab : ¬ (isA a = true ∧ isA b = true)) {B : Nat} (w : World) (hB : B ≤ w.heap.size) (hV : TxtV B w) :
    Calls Tryd.prog 3 #[.int .i64 a, .int .i64 b, .agg #[.int .i64 p, .int .i64 n]] w fun e w' => e = .returned (.bool true) ∧ Below w.heap.size w w' := by
  have hS0 := Bk.first w p n hB hV
  clear hV hB
  have HA := Lib.hid ha
  obtain ⟨a0, rfl⟩ : ∃ k : Nat, a = k := ⟨a.toNat, by have := isA_true.1 ha; omega⟩
  have hal : a0 < 4294967296 := by have := isA_true.1 ha; omega
  obtain ⟨p0, rfl⟩ : ∃ k : Nat, p = k := ⟨p.toNat, by have := chk_zero.1 hc; omega⟩
  obtain ⟨n0, rfl⟩ : ∃ k : Nat, n = k := ⟨n.toNat, by have := chk_zero.1 hc; omega⟩
  have HN := Lib.hid hn
  have HC := Lib.hid hc
  have HAB := Lib.hid hab
  clear ha hn hc hab
  go_enter Tryd.func3, Tryd.ntmps3
  go_wp2_with fail
  refine (parse_any [49, 48, 46, 48, 46, 48, 46, 49] (by decide) _ hS0.leI hS0.txt).mono ?_
  rintro e w1 ⟨rfl, hb1⟩
  rw [parse_ten]
  have hS1 := hS0.step hb1
  clear hb1 hS0  
  go_wp2_with fail
  refine (print_ok a0 hal _ hS1.leI hS1.txt).mono ?_
  rintro e w2 ⟨rfl, hb2⟩
  have hS2 := hS1.step hb2
  clear hb2 hS1  
  go_wp2_with fail
  refine (parse_any (textT a0) (by have := textT_len a0; omega) _ hS2.leI hS2.txt).mono ?_
  rintro e w3 ⟨rfl, hb3⟩
  rw [parse_text hal]
  have hS3 := hS2.step hb3
  clear hb3 hS2  
  obtain ⟨d0_0, d0_1, g0_0, g0_1⟩ := hS3.blk.two
  go_wp2_with fail
  refine (printP_ok p0 n0 HC.out _ hS3.leI hS3.txt).mono ?_
  rintro e w4 ⟨rfl, hb4⟩
  have hS4 := hS3.step hb4
  clear hb4 hS3  d0_0 d0_1 g0_0 g0_1
  go_wp2_with fail
  refine (parseP_any (pfxT p0 n0) (pfxT_len HC.out) _ hS4.leI hS4.txt).mono ?_
  rintro e w5 ⟨rfl, hb5⟩
  rw [parse_pfx HC.out]
  have hS5 := hS4.step hb5
  clear hb5 hS4  
  go_upto_region 12 with fail
  refine wp_name (fun w6 HW => ?_)
  have hS6 : Bk w B (p0 : Int) (n0 : Int) w6 := by rw [HW.out]; exact (hS5.alloc _)
  have hx6 : Blk w6 w5.heap.size 23 #[.int .i64 (p0 : Int), .int .i64 (n0 : Int)] := by rw [HW.out]; exact Blk.new _ _ _
  clear HW hS5 
  obtain ⟨x0, x1, x2, x3⟩ := hx6.two
  obtain ⟨d0_0, d0_1, g0_0, g0_1⟩ := hS6.blk.two
  go_wp2_with fail
  refine (halves_ok _ _ HC.out HN.out _).mono ?_
  rintro e w7 ⟨rfl, hb7⟩
  have hS7 := hS6.step hb7
  have hx7 := hx6.below hb7 hx6.lt
  clear hb7 hS6 hx6 d0_0 d0_1 g0_0 g0_1
  clear x0 x1 x2 x3
  clear hx7
  have hz : w.heap.size < w7.heap.size := hS7.sz
  go_upto_region 15 with fail
  refine wp_name (fun w8 HW => ?_)
  have hS8 : Bk w B (p0 : Int) (n0 : Int) w8 := by rw [HW.out]; exact (hS7.alloc _).alloc _
  have hl8 : Blk w8 w7.heap.size 23 #[.int .i64 (p0 : Int), .int .i64 ((n0 : Int) + 1)] := by rw [HW.out]; exact (Blk.new _ _ _).alloc _
  have hh8 : Blk w8 (w7.heap.size + 1) 23 #[.int .i64 ((p0 : Int) + sz ((n0 : Int) + 1)), .int .i64 ((n0 : Int) + 1)] := by rw [HW.out]; exact World.size_alloc w7 _ ▸ Blk.new _ _ _
  clear HW hS7 
  obtain ⟨k1, k2, k3, k4⟩ := half_chk HC.out HN.out
  have k5 := (chk_zero.1 HC.out).1
  obtain ⟨d0_0, d0_1, g0_0, g0_1⟩ := hl8.two
  go_wp2_with fail
  refine (up_ok _ _ k1 (by omega) _).mono ?_
  rintro e w9 ⟨rfl, hb9⟩
  have hS9 := hS8.step hb9
  have hl9 := hl8.below hb9 hl8.lt
  have hh9 := hh8.below hb9 hh8.lt
  clear hb9 hS8 hl8 hh8 d0_0 d0_1 g0_0 g0_1
  go_upto_region 17 with fail
  refine wp_name (fun w10 HW => ?_)
  have hS10 : Bk w B (p0 : Int) (n0 : Int) w10 := by rw [HW.out]; exact (hS9.alloc _)
  have hl10 := hl9.to HW.out
  have hh10 := hh9.to HW.out
  have hx10 : Blk w10 w9.heap.size 23 #[.int .i64 (p0 : Int), .int .i64 (n0 : Int)] := by rw [HW.out]; exact Blk.new _ _ _
  clear HW hS9 hl9 hh9
  obtain ⟨d0_0, d0_1, g0_0, g0_1⟩ := hh10.two
  go_wp2_with fail
  refine (up_ok _ _ k2 (by omega) _).mono ?_
  rintro e w11 ⟨rfl, hb11⟩
  have hS11 := hS10.step hb11
  have hl11 := hl10.below hb11 hl10.lt
  have hh11 := hh10.below hb11 hh10.lt
  have hx11 := hx10.below hb11 hx10.lt
  clear hb11 hS10 hl10 hh10 hx10 d0_0 d0_1 g0_0 g0_1
  go_upto_region 18 with fail
  refine wp_name (fun w12 HW => ?_)
  have hS12 : Bk w B (p0 : Int) (n0 : Int) w12 := by rw [HW.out]; exact (hS11.alloc _)
  have hl12 := hl11.to HW.out
  have hh12 := hh11.to HW.out
  have hx12 := hx11.to HW.out
  have hy12 : Blk w12 w11.heap.size 23 #[.int .i64 (p0 : Int), .int .i64 (n0 : Int)] := by rw [HW.out]; exact Blk.new _ _ _
  clear HW hS11 hl11 hh11 hx11
  obtain ⟨d0_0, d0_1, g0_0, g0_1⟩ := hS12.blk.two
  go_wp2_with fail
  refine (ends_ok _ _ HC.out _).mono ?_
  rintro e w13 ⟨rfl, hb13⟩
  have hS13 := hS12.step hb13
  have hl13 := hl12.below hb13 hl12.lt
  have hh13 := hh12.below hb13 hh12.lt
  have hx13 := hx12.below hb13 hx12.lt
  have hy13 := hy12.below hb13 hy12.lt
  clear hb13 hS12 hl12 hh12 hx12 hy12 d0_0 d0_1 g0_0 g0_1
  obtain ⟨d0_0, d0_1, g0_0, g0_1⟩ := hl13.two
  go_wp2_with fail
  refine (ends_ok _ _ k1 _).mono ?_
  rintro e w14 ⟨rfl, hb14⟩
  have hS14 := hS13.step hb14
  have hl14 := hl13.below hb14 hl13.lt
  have hh14 := hh13.below hb14 hh13.lt
  have hx14 := hx13.below hb14 hx13.lt
  have hy14 := hy13.below hb14 hy13.lt
  clear hb14 hS13 hl13 hh13 hx13 hy13 d0_0 d0_1 g0_0 g0_1
  obtain ⟨d0_0, d0_1, g0_0, g0_1⟩ := hh14.two
  go_wp2_with fail
  refine (ends_ok _ _ k2 _).mono ?_
  rintro e w15 ⟨rfl, hb15⟩
  have hS15 := hS14.step hb15
  have hl15 := hl14.below hb15 hl14.lt
  have hh15 := hh14.below hb15 hh14.lt
  have hx15 := hx14.below hb15 hx14.lt
  have hy15 := hy14.below hb15 hy14.lt
  clear hb15 hS14 hl14 hh14 hx14 hy14 d0_0 d0_1 g0_0 g0_1
  clear hh15
  obtain ⟨x0, x1, x2, x3⟩ := hx15.two
  obtain ⟨y0, y1, y2, y3⟩ := hy15.two
  obtain ⟨c0, c1, f0, f1⟩ := hS15.blk.two
  have hz5 : w.heap.size < w15.heap.size := hS15.blk.lt
  go_wp2_with fail
  have hr1 := rd_new w15 [((p0 : Int), (n0 : Int)), ((p0 : Int), (n0 : Int))] #[.int .i64 (p0 : Int), .int .i64 (n0 : Int), .int .i64 (p0 : Int), .int .i64 (n0 : Int)] 23 w15.heap.size rfl rfl
  refine (prefixes_same _ _ [((p0 : Int), (n0 : Int)), ((p0 : Int), (n0 : Int))] [((p0 : Int), (n0 : Int)), ((p0 : Int), (n0 : Int))] 2 2 2 2 rfl rfl (by show 2 ≤ maxLen; decide) rfl _ ((hr1.below ((Below.refl _ _).alloc (Nat.le_refl _) _)).more (by simp)) (rd_new _ _ _ _ _ (by simp) rfl)).mono ?_
  rintro e w16 ⟨rfl, hb⟩
  have hS16 := ((hS15.alloc _).alloc _).step hb
  have hl16 := ((hl15.alloc _).alloc _).below hb (by simp; have := hl15.lt; omega)
  clear hb hS15 hl15 hx15 hy15 x0 x1 x2 x3 y0 y1 y2 y3 c0 c1 f0 f1 hr1 hz5
  have j1 := (half_last HC.out HN.out).1
  have j2 := (half_last HC.out HN.out).2
  go_upto_region 24 with fail
  clear j1 j2 k1 k2 k3 k4 k5
  clear hl16
  go_wp2_with fail
  refine (both_bad (a0 : Int) b HAB.out _).mono ?_
  rintro e w17 ⟨rfl, hb17⟩
  have hS17 := hS16.step hb17
  clear hb17 hS16  
  go_wp2
  go_ret
  exact ⟨rfl, by first | exact hS17.bel | exact (hS17.alloc _).bel⟩

set_option maxRecDepth 100000 in
set_option maxHeartbeats 4000000 in
theorem back_12_all (a b p n : Int) (ha : isA a = true) (hc : chk p n = 0) (hn : n ≠ 32) (hb : isA b = true) (hq : bothN a b = 32) {B : Nat} (w : World) (hB : B ≤ w.heap.size) (hV : TxtV B w) :
    Calls Tryd.prog 3 #[.int .i64 a, .int .i64 b, .agg #[.int .i64 p, .int .i64 n]] w fun e w' => e = .returned (.bool true) ∧ Below w.heap.size w w' := by
  have hS0 := Bk.first w p n hB hV
  clear hV hB
  have HA := Lib.hid ha
  obtain ⟨a0, rfl⟩ : ∃ k : Nat, a = k := ⟨a.toNat, by have := isA_true.1 ha; omega⟩
  have hal : a0 < 4294967296 := by have := isA_true.1 ha; omega
  obtain ⟨p0, rfl⟩ : ∃ k : Nat, p = k := ⟨p.toNat, by have := chk_zero.1 hc; omega⟩
  obtain ⟨n0, rfl⟩ : ∃ k : Nat, n = k := ⟨n.toNat, by have := chk_zero.1 hc; omega⟩
  have HN := Lib.hid hn
  have HC := Lib.hid hc
  have HQ := Lib.hid hq
  have HB := Lib.hid hb
  clear ha hn hc hq hb
  go_enter Tryd.func3, Tryd.ntmps3
  go_wp2_with fail
  refine (parse_any [49, 48, 46, 48, 46, 48, 46, 49] (by decide) _ hS0.leI hS0.txt).mono ?_
  rintro e w1 ⟨rfl, hb1⟩
  rw [parse_ten]
  have hS1 := hS0.step hb1
  clear hb1 hS0  
  go_wp2_with fail
  refine (print_ok a0 hal _ hS1.leI hS1.txt).mono ?_
  rintro e w2 ⟨rfl, hb2⟩
  have hS2 := hS1.step hb2
  clear hb2 hS1  
  go_wp2_with fail
  refine (parse_any (textT a0) (by have := textT_len a0; omega) _ hS2.leI hS2.txt).mono ?_
  rintro e w3 ⟨rfl, hb3⟩
  rw [parse_text hal]
  have hS3 := hS2.step hb3
  clear hb3 hS2  
  obtain ⟨d0_0, d0_1, g0_0, g0_1⟩ := hS3.blk.two
  go_wp2_with fail
  refine (printP_ok p0 n0 HC.out _ hS3.leI hS3.txt).mono ?_
  rintro e w4 ⟨rfl, hb4⟩
  have hS4 := hS3.step hb4
  clear hb4 hS3  d0_0 d0_1 g0_0 g0_1
  go_wp2_with fail
  refine (parseP_any (pfxT p0 n0) (pfxT_len HC.out) _ hS4.leI hS4.txt).mono ?_
  rintro e w5 ⟨rfl, hb5⟩
  rw [parse_pfx HC.out]
  have hS5 := hS4.step hb5
  clear hb5 hS4  
  go_upto_region 12 with fail
  refine wp_name (fun w6 HW => ?_)
  have hS6 : Bk w B (p0 : Int) (n0 : Int) w6 := by rw [HW.out]; exact (hS5.alloc _)
  have hx6 : Blk w6 w5.heap.size 23 #[.int .i64 (p0 : Int), .int .i64 (n0 : Int)] := by rw [HW.out]; exact Blk.new _ _ _
  clear HW hS5 
  obtain ⟨x0, x1, x2, x3⟩ := hx6.two
  obtain ⟨d0_0, d0_1, g0_0, g0_1⟩ := hS6.blk.two
  go_wp2_with fail
  refine (halves_ok _ _ HC.out HN.out _).mono ?_
  rintro e w7 ⟨rfl, hb7⟩
  have hS7 := hS6.step hb7
  have hx7 := hx6.below hb7 hx6.lt
  clear hb7 hS6 hx6 d0_0 d0_1 g0_0 g0_1
  clear x0 x1 x2 x3
  clear hx7
  have hz : w.heap.size < w7.heap.size := hS7.sz
  go_upto_region 15 with fail
  refine wp_name (fun w8 HW => ?_)
  have hS8 : Bk w B (p0 : Int) (n0 : Int) w8 := by rw [HW.out]; exact (hS7.alloc _).alloc _
  have hl8 : Blk w8 w7.heap.size 23 #[.int .i64 (p0 : Int), .int .i64 ((n0 : Int) + 1)] := by rw [HW.out]; exact (Blk.new _ _ _).alloc _
  have hh8 : Blk w8 (w7.heap.size + 1) 23 #[.int .i64 ((p0 : Int) + sz ((n0 : Int) + 1)), .int .i64 ((n0 : Int) + 1)] := by rw [HW.out]; exact World.size_alloc w7 _ ▸ Blk.new _ _ _
  clear HW hS7 
  obtain ⟨k1, k2, k3, k4⟩ := half_chk HC.out HN.out
  have k5 := (chk_zero.1 HC.out).1
  obtain ⟨d0_0, d0_1, g0_0, g0_1⟩ := hl8.two
  go_wp2_with fail
  refine (up_ok _ _ k1 (by omega) _).mono ?_
  rintro e w9 ⟨rfl, hb9⟩
  have hS9 := hS8.step hb9
  have hl9 := hl8.below hb9 hl8.lt
  have hh9 := hh8.below hb9 hh8.lt
  clear hb9 hS8 hl8 hh8 d0_0 d0_1 g0_0 g0_1
  go_upto_region 17 with fail
  refine wp_name (fun w10 HW => ?_)
  have hS10 : Bk w B (p0 : Int) (n0 : Int) w10 := by rw [HW.out]; exact (hS9.alloc _)
  have hl10 := hl9.to HW.out
  have hh10 := hh9.to HW.out
  have hx10 : Blk w10 w9.heap.size 23 #[.int .i64 (p0 : Int), .int .i64 (n0 : Int)] := by rw [HW.out]; exact Blk.new _ _ _
  clear HW hS9 hl9 hh9
  obtain ⟨d0_0, d0_1, g0_0, g0_1⟩ := hh10.two
  go_wp2_with fail
  refine (up_ok _ _ k2 (by omega) _).mono ?_
  rintro e w11 ⟨rfl, hb11⟩
  have hS11 := hS10.step hb11
  have hl11 := hl10.below hb11 hl10.lt
  have hh11 := hh10.below hb11 hh10.lt
  have hx11 := hx10.below hb11 hx10.lt
  clear hb11 hS10 hl10 hh10 hx10 d0_0 d0_1 g0_0 g0_1
  go_upto_region 18 with fail
  refine wp_name (fun w12 HW => ?_)
  have hS12 : Bk w B (p0 : Int) (n0 : Int) w12 := by rw [HW.out]; exact (hS11.alloc _)
  have hl12 := hl11.to HW.out
  have hh12 := hh11.to HW.out
  have hx12 := hx11.to HW.out
  have hy12 : Blk w12 w11.heap.size 23 #[.int .i64 (p0 : Int), .int .i64 (n0 : Int)] := by rw [HW.out]; exact Blk.new _ _ _
  clear HW hS11 hl11 hh11 hx11
  obtain ⟨d0_0, d0_1, g0_0, g0_1⟩ := hS12.blk.two
  go_wp2_with fail
  refine (ends_ok _ _ HC.out _).mono ?_
  rintro e w13 ⟨rfl, hb13⟩
  have hS13 := hS12.step hb13
  have hl13 := hl12.below hb13 hl12.lt
  have hh13 := hh12.below hb13 hh12.lt
  have hx13 := hx12.below hb13 hx12.lt
  have hy13 := hy12.below hb13 hy12.lt
  clear hb13 hS12 hl12 hh12 hx12 hy12 d0_0 d0_1 g0_0 g0_1
  obtain ⟨d0_0, d0_1, g0_0, g0_1⟩ := hl13.two
  go_wp2_with fail
  refine (ends_ok _ _ k1 _).mono ?_
  rintro e w14 ⟨rfl, hb14⟩
  have hS14 := hS13.step hb14
  have hl14 := hl13.below hb14 hl13.lt
  have hh14 := hh13.below hb14 hh13.lt
  have hx14 := hx13.below hb14 hx13.lt
  have hy14 := hy13.below hb14 hy13.lt
  clear hb14 hS13 hl13 hh13 hx13 hy13 d0_0 d0_1 g0_0 g0_1
  obtain ⟨d0_0, d0_1, g0_0, g0_1⟩ := hh14.two
  go_wp2_with fail
  refine (ends_ok _ _ k2 _).mono ?_
  rintro e w15 ⟨rfl, hb15⟩
  have hS15 := hS14.step hb15
  have hl15 := hl14.below hb15 hl14.lt
  have hh15 := hh14.below hb15 hh14.lt
  have hx15 := hx14.below hb15 hx14.lt
  have hy15 := hy14.below hb15 hy14.lt
  clear hb15 hS14 hl14 hh14 hx14 hy14 d0_0 d0_1 g0_0 g0_1
  clear hh15
  obtain ⟨x0, x1, x2, x3⟩ := hx15.two
  obtain ⟨y0, y1, y2, y3⟩ := hy15.two
  obtain ⟨c0, c1, f0, f1⟩ := hS15.blk.two
  have hz5 : w.heap.size < w15.heap.size := hS15.blk.lt
  go_wp2_with fail
  have hr1 := rd_new w15 [((p0 : Int), (n0 : Int)), ((p0 : Int), (n0 : Int))] #[.int .i64 (p0 : Int), .int .i64 (n0 : Int), .int .i64 (p0 : Int), .int .i64 (n0 : Int)] 23 w15.heap.size rfl rfl
  refine (prefixes_same _ _ [((p0 : Int), (n0 : Int)), ((p0 : Int), (n0 : Int))] [((p0 : Int), (n0 : Int)), ((p0 : Int), (n0 : Int))] 2 2 2 2 rfl rfl (by show 2 ≤ maxLen; decide) rfl _ ((hr1.below ((Below.refl _ _).alloc (Nat.le_refl _) _)).more (by simp)) (rd_new _ _ _ _ _ (by simp) rfl)).mono ?_
  rintro e w16 ⟨rfl, hb⟩
  have hS16 := ((hS15.alloc _).alloc _).step hb
  have hl16 := ((hl15.alloc _).alloc _).below hb (by simp; have := hl15.lt; omega)
  clear hb hS15 hl15 hx15 hy15 x0 x1 x2 x3 y0 y1 y2 y3 c0 c1 f0 f1 hr1 hz5
  have j1 := (half_last HC.out HN.out).1
  have j2 := (half_last HC.out HN.out).2
  go_upto_region 24 with fail
  clear j1 j2 k1 k2 k3 k4 k5
  have hqc := clr_chk (n := bothN (a0 : Int) b) HA.out (bothN_range HA.out HB.out).1 (bothN_range HA.out HB.out).2
  obtain ⟨i1, i2, i3, i4⟩ := both_in HA.out HB.out
  have HBO := Lib.hid (fun w => both_ok (a0 : Int) b HA.out HB.out w)
  have hall := both_all HA.out HB.out HQ.out
  have HALL := Lib.hid hall
  clear hall
  generalize clr (a0 : Int) (bothN (a0 : Int) b) = c at *
  generalize bothN (a0 : Int) b = m at *
  go_wp2_with fail
  refine (HBO.out _).mono ?_
  rintro e w17 ⟨rfl, hb17⟩
  have hS17 := hS16.step hb17
  have hl17 := hl16.below hb17 hl16.lt
  clear hb17 hS16 hl16 
  go_upto_region 25 with fail
  refine wp_name (fun w18 HW => ?_)
  have hS18 : Bk w B (p0 : Int) (n0 : Int) w18 := by rw [HW.out]; exact (hS17.alloc _)
  have hl18 := hl17.to HW.out
  have hq18 : Blk w18 w17.heap.size 23 #[.int .i64 c, .int .i64 m] := by rw [HW.out]; exact Blk.new _ _ _
  clear HW hS17 hl17
  obtain ⟨d0_0, d0_1, g0_0, g0_1⟩ := hq18.two
  go_wp2_with fail
  refine (ends_ok _ _ hqc _).mono ?_
  rintro e w19 ⟨rfl, hb19⟩
  have hS19 := hS18.step hb19
  have hl19 := hl18.below hb19 hl18.lt
  have hq19 := hq18.below hb19 hq18.lt
  clear hb19 hS18 hl18 hq18 d0_0 d0_1 g0_0 g0_1
  obtain ⟨l0, l1, l2, l3⟩ := hl19.two
  obtain ⟨d0_0, d0_1, g0_0, g0_1⟩ := hq19.two
  go_wp2_with fail
  refine (halves_at32 hqc HQ.out _).mono ?_
  rintro e w20 ⟨rfl, hb20⟩
  have hS20 := hS19.step hb20
  have hl20 := hl19.below hb20 hl19.lt
  have hq20 := hq19.below hb20 hq19.lt
  clear hb20 hS19 hl19 hq19 d0_0 d0_1 g0_0 g0_1
  clear l0 l1 l2 l3
  obtain ⟨l0, l1, l2, l3⟩ := hl20.two
  have hab : ((a0 : Int) == b) = true := by rw [HALL.out]; simp
  go_wp2
  go_ret
  exact ⟨rfl, ((hS20.set (by show w.heap.size < w7.heap.size; exact hz) _).set (by show w.heap.size < w7.heap.size; exact hz) _).bel⟩

set_option maxRecDepth 100000 in
set_option maxHeartbeats 4000000 in
theorem back_12_part (a b p n : Int) (ha : isA a = true) (hc : chk p n = 0) (hn : n ≠ 32) (hb : isA b = true) (hq : bothN a b ≠ 32) {B : Nat} (w : World) (hB : B ≤ w.heap.size) (hV : TxtV B w) :
    Calls Tryd.prog 3 #[.int .i64 a, .int .i64 b, .agg #[.int .i64 p, .int .i64 n]] w fun e w' => e = .returned (.bool true) ∧ Below w.heap.size w w' := by
  have hS0 := Bk.first w p n hB hV
  clear hV hB
  have HA := Lib.hid ha
  obtain ⟨a0, rfl⟩ : ∃ k : Nat, a = k := ⟨a.toNat, by have := isA_true.1 ha; omega⟩
  have hal : a0 < 4294967296 := by have := isA_true.1 ha; omega
  obtain ⟨p0, rfl⟩ : ∃ k : Nat, p = k := ⟨p.toNat, by have := chk_zero.1 hc; omega⟩
  obtain ⟨n0, rfl⟩ : ∃ k : Nat, n = k := ⟨n.toNat, by have := chk_zero.1 hc; omega⟩
  have HN := Lib.hid hn
  have HC := Lib.hid hc
  have HQ := Lib.hid hq
  have HB := Lib.hid hb
  clear ha hn hc hq hb
  go_enter Tryd.func3, Tryd.ntmps3
  go_wp2_with fail
  refine (parse_any [49, 48, 46, 48, 46, 48, 46, 49] (by decide) _ hS0.leI hS0.txt).mono ?_
  rintro e w1 ⟨rfl, hb1⟩
  rw [parse_ten]
  have hS1 := hS0.step hb1
  clear hb1 hS0  
  go_wp2_with fail
  refine (print_ok a0 hal _ hS1.leI hS1.txt).mono ?_
  rintro e w2 ⟨rfl, hb2⟩
  have hS2 := hS1.step hb2
  clear hb2 hS1  
  go_wp2_with fail
  refine (parse_any (textT a0) (by have := textT_len a0; omega) _ hS2.leI hS2.txt).mono ?_
  rintro e w3 ⟨rfl, hb3⟩
  rw [parse_text hal]
  have hS3 := hS2.step hb3
  clear hb3 hS2  
  obtain ⟨d0_0, d0_1, g0_0, g0_1⟩ := hS3.blk.two
  go_wp2_with fail
  refine (printP_ok p0 n0 HC.out _ hS3.leI hS3.txt).mono ?_
  rintro e w4 ⟨rfl, hb4⟩
  have hS4 := hS3.step hb4
  clear hb4 hS3  d0_0 d0_1 g0_0 g0_1
  go_wp2_with fail
  refine (parseP_any (pfxT p0 n0) (pfxT_len HC.out) _ hS4.leI hS4.txt).mono ?_
  rintro e w5 ⟨rfl, hb5⟩
  rw [parse_pfx HC.out]
  have hS5 := hS4.step hb5
  clear hb5 hS4  
  go_upto_region 12 with fail
  refine wp_name (fun w6 HW => ?_)
  have hS6 : Bk w B (p0 : Int) (n0 : Int) w6 := by rw [HW.out]; exact (hS5.alloc _)
  have hx6 : Blk w6 w5.heap.size 23 #[.int .i64 (p0 : Int), .int .i64 (n0 : Int)] := by rw [HW.out]; exact Blk.new _ _ _
  clear HW hS5 
  obtain ⟨x0, x1, x2, x3⟩ := hx6.two
  obtain ⟨d0_0, d0_1, g0_0, g0_1⟩ := hS6.blk.two
  go_wp2_with fail
  refine (halves_ok _ _ HC.out HN.out _).mono ?_
  rintro e w7 ⟨rfl, hb7⟩
  have hS7 := hS6.step hb7
  have hx7 := hx6.below hb7 hx6.lt
  clear hb7 hS6 hx6 d0_0 d0_1 g0_0 g0_1
  clear x0 x1 x2 x3
  clear hx7
  have hz : w.heap.size < w7.heap.size := hS7.sz
  go_upto_region 15 with fail
  refine wp_name (fun w8 HW => ?_)
  have hS8 : Bk w B (p0 : Int) (n0 : Int) w8 := by rw [HW.out]; exact (hS7.alloc _).alloc _
  have hl8 : Blk w8 w7.heap.size 23 #[.int .i64 (p0 : Int), .int .i64 ((n0 : Int) + 1)] := by rw [HW.out]; exact (Blk.new _ _ _).alloc _
  have hh8 : Blk w8 (w7.heap.size + 1) 23 #[.int .i64 ((p0 : Int) + sz ((n0 : Int) + 1)), .int .i64 ((n0 : Int) + 1)] := by rw [HW.out]; exact World.size_alloc w7 _ ▸ Blk.new _ _ _
  clear HW hS7 
  obtain ⟨k1, k2, k3, k4⟩ := half_chk HC.out HN.out
  have k5 := (chk_zero.1 HC.out).1
  obtain ⟨d0_0, d0_1, g0_0, g0_1⟩ := hl8.two
  go_wp2_with fail
  refine (up_ok _ _ k1 (by omega) _).mono ?_
  rintro e w9 ⟨rfl, hb9⟩
  have hS9 := hS8.step hb9
  have hl9 := hl8.below hb9 hl8.lt
  have hh9 := hh8.below hb9 hh8.lt
  clear hb9 hS8 hl8 hh8 d0_0 d0_1 g0_0 g0_1
  go_upto_region 17 with fail
  refine wp_name (fun w10 HW => ?_)
  have hS10 : Bk w B (p0 : Int) (n0 : Int) w10 := by rw [HW.out]; exact (hS9.alloc _)
  have hl10 := hl9.to HW.out
  have hh10 := hh9.to HW.out
  have hx10 : Blk w10 w9.heap.size 23 #[.int .i64 (p0 : Int), .int .i64 (n0 : Int)] := by rw [HW.out]; exact Blk.new _ _ _
  clear HW hS9 hl9 hh9
  obtain ⟨d0_0, d0_1, g0_0, g0_1⟩ := hh10.two
  go_wp2_with fail
  refine (up_ok _ _ k2 (by omega) _).mono ?_
  rintro e w11 ⟨rfl, hb11⟩
  have hS11 := hS10.step hb11
  have hl11 := hl10.below hb11 hl10.lt
  have hh11 := hh10.below hb11 hh10.lt
  have hx11 := hx10.below hb11 hx10.lt
  clear hb11 hS10 hl10 hh10 hx10 d0_0 d0_1 g0_0 g0_1
  go_upto_region 18 with fail
  refine wp_name (fun w12 HW => ?_)
  have hS12 : Bk w B (p0 : Int) (n0 : Int) w12 := by rw [HW.out]; exact (hS11.alloc _)
  have hl12 := hl11.to HW.out
  have hh12 := hh11.to HW.out
  have hx12 := hx11.to HW.out
  have hy12 : Blk w12 w11.heap.size 23 #[.int .i64 (p0 : Int), .int .i64 (n0 : Int)] := by rw [HW.out]; exact Blk.new _ _ _
  clear HW hS11 hl11 hh11 hx11
  obtain ⟨d0_0, d0_1, g0_0, g0_1⟩ := hS12.blk.two
  go_wp2_with fail
  refine (ends_ok _ _ HC.out _).mono ?_
  rintro e w13 ⟨rfl, hb13⟩
  have hS13 := hS12.step hb13
  have hl13 := hl12.below hb13 hl12.lt
  have hh13 := hh12.below hb13 hh12.lt
  have hx13 := hx12.below hb13 hx12.lt
  have hy13 := hy12.below hb13 hy12.lt
  clear hb13 hS12 hl12 hh12 hx12 hy12 d0_0 d0_1 g0_0 g0_1
  obtain ⟨d0_0, d0_1, g0_0, g0_1⟩ := hl13.two
  go_wp2_with fail
  refine (ends_ok _ _ k1 _).mono ?_
  rintro e w14 ⟨rfl, hb14⟩
  have hS14 := hS13.step hb14
  have hl14 := hl13.below hb14 hl13.lt
  have hh14 := hh13.below hb14 hh13.lt
  have hx14 := hx13.below hb14 hx13.lt
  have hy14 := hy13.below hb14 hy13.lt
  clear hb14 hS13 hl13 hh13 hx13 hy13 d0_0 d0_1 g0_0 g0_1
  obtain ⟨d0_0, d0_1, g0_0, g0_1⟩ := hh14.two
  go_wp2_with fail
  refine (ends_ok _ _ k2 _).mono ?_
  rintro e w15 ⟨rfl, hb15⟩
  have hS15 := hS14.step hb15
  have hl15 := hl14.below hb15 hl14.lt
  have hh15 := hh14.below hb15 hh14.lt
  have hx15 := hx14.below hb15 hx14.lt
  have hy15 := hy14.below hb15 hy14.lt
  clear hb15 hS14 hl14 hh14 hx14 hy14 d0_0 d0_1 g0_0 g0_1
  clear hh15
  obtain ⟨x0, x1, x2, x3⟩ := hx15.two
  obtain ⟨y0, y1, y2, y3⟩ := hy15.two
  obtain ⟨c0, c1, f0, f1⟩ := hS15.blk.two
  have hz5 : w.heap.size < w15.heap.size := hS15.blk.lt
  go_wp2_with fail
  have hr1 := rd_new w15 [((p0 : Int), (n0 : Int)), ((p0 : Int), (n0 : Int))] #[.int .i64 (p0 : Int), .int .i64 (n0 : Int), .int .i64 (p0 : Int), .int .i64 (n0 : Int)] 23 w15.heap.size rfl rfl
  refine (prefixes_same _ _ [((p0 : Int), (n0 : Int)), ((p0 : Int), (n0 : Int))] [((p0 : Int), (n0 : Int)), ((p0 : Int), (n0 : Int))] 2 2 2 2 rfl rfl (by show 2 ≤ maxLen; decide) rfl _ ((hr1.below ((Below.refl _ _).alloc (Nat.le_refl _) _)).more (by simp)) (rd_new _ _ _ _ _ (by simp) rfl)).mono ?_
  rintro e w16 ⟨rfl, hb⟩
  have hS16 := ((hS15.alloc _).alloc _).step hb
  have hl16 := ((hl15.alloc _).alloc _).below hb (by simp; have := hl15.lt; omega)
  clear hb hS15 hl15 hx15 hy15 x0 x1 x2 x3 y0 y1 y2 y3 c0 c1 f0 f1 hr1 hz5
  have j1 := (half_last HC.out HN.out).1
  have j2 := (half_last HC.out HN.out).2
  go_upto_region 24 with fail
  clear j1 j2 k1 k2 k3 k4 k5
  have hqc := clr_chk (n := bothN (a0 : Int) b) HA.out (bothN_range HA.out HB.out).1 (bothN_range HA.out HB.out).2
  obtain ⟨i1, i2, i3, i4⟩ := both_in HA.out HB.out
  have HBO := Lib.hid (fun w => both_ok (a0 : Int) b HA.out HB.out w)
  have HQP := Lib.hid (both_part HA.out HB.out HQ.out)
  obtain ⟨kq, _, _, _⟩ := half_chk hqc HQ.out
  generalize clr (a0 : Int) (bothN (a0 : Int) b) = c at *
  generalize bothN (a0 : Int) b = m at *
  go_wp2_with fail
  refine (HBO.out _).mono ?_
  rintro e w17 ⟨rfl, hb17⟩
  have hS17 := hS16.step hb17
  have hl17 := hl16.below hb17 hl16.lt
  clear hb17 hS16 hl16 
  go_upto_region 25 with fail
  refine wp_name (fun w18 HW => ?_)
  have hS18 : Bk w B (p0 : Int) (n0 : Int) w18 := by rw [HW.out]; exact (hS17.alloc _)
  have hl18 := hl17.to HW.out
  have hq18 : Blk w18 w17.heap.size 23 #[.int .i64 c, .int .i64 m] := by rw [HW.out]; exact Blk.new _ _ _
  clear HW hS17 hl17
  obtain ⟨d0_0, d0_1, g0_0, g0_1⟩ := hq18.two
  go_wp2_with fail
  refine (ends_ok _ _ hqc _).mono ?_
  rintro e w19 ⟨rfl, hb19⟩
  have hS19 := hS18.step hb19
  have hl19 := hl18.below hb19 hl18.lt
  have hq19 := hq18.below hb19 hq18.lt
  clear hb19 hS18 hl18 hq18 d0_0 d0_1 g0_0 g0_1
  obtain ⟨l0, l1, l2, l3⟩ := hl19.two
  obtain ⟨d0_0, d0_1, g0_0, g0_1⟩ := hq19.two
  go_wp2_with fail
  refine (halves_ok _ _ hqc HQ.out _).mono ?_
  rintro e w20 ⟨rfl, hb20⟩
  have hS20 := hS19.step hb20
  have hl20 := hl19.below hb20 hl19.lt
  have hq20 := hq19.below hb20 hq19.lt
  clear hb20 hS19 hl19 hq19 d0_0 d0_1 g0_0 g0_1
  clear l0 l1 l2 l3
  obtain ⟨l0, l1, l2, l3⟩ := hl20.two
  go_upto_region 31 with fail
  refine wp_name (fun w21 HW => ?_)
  have hS21 : Bk w B (p0 : Int) (n0 : Int) w21 := by rw [HW.out]; exact (hS20.set (by show w.heap.size < w7.heap.size; exact hz) _).set (by show w.heap.size < w7.heap.size; exact hz) _
  have hl21 : Blk w21 w7.heap.size 23 #[.int .i64 c, .int .i64 (m + 1)] := by rw [HW.out]; exact (hl20.setCell 0 _).setCell 1 _
  clear HW hS20 hl20 l0 l1 l2 l3
  obtain ⟨d0_0, d0_1, g0_0, g0_1⟩ := hl21.two
  go_wp2_with fail
  refine (ends_ok _ _ kq _).mono ?_
  rintro e w22 ⟨rfl, hb22⟩
  have hS22 := hS21.step hb22
  have hl22 := hl21.below hb22 hl21.lt
  clear hb22 hS21 hl21 d0_0 d0_1 g0_0 g0_1
  have hqp := HQP.out
  go_wp2
  go_ret
  clear hqp
  exact ⟨by simpa using HQP.out, hS22.bel⟩

set_option maxRecDepth 100000 in
set_option maxHeartbeats 4000000 in
theorem back_00_bad (a b p n : Int) (ha : isA a = false) (hc : chk p n ≠ 0) (hab : ¬ (isA a = true ∧ isA b = true)) {B : Nat} (w : World) (hB : B ≤ w.heap.size) (hV : TxtV B w) :
    Calls Tryd.prog 3 #[.int .i64 a, .int .i64 b, .agg #[.int .i64 p, .int .i64 n]] w fun e w' => e = .returned (.bool true) ∧ Below w.heap.size w w' := by
  have hS0 := Bk.first w p n hB hV
  clear hV hB
  have HA := Lib.hid ha
  have HC := Lib.hid hc
  have HAB := Lib.hid hab
  clear ha hc hab
  go_enter Tryd.func3, Tryd.ntmps3
  go_wp2_with fail
  refine (parse_any [49, 48, 46, 48, 46, 48, 46, 49] (by decide) _ hS0.leI hS0.txt).mono ?_
  rintro e w1 ⟨rfl, hb1⟩
  rw [parse_ten]
  have hS1 := hS0.step hb1
  clear hb1 hS0  
  go_wp2_with fail
  refine (print_bad a HA.out _).mono ?_
  rintro e w2 ⟨rfl, hb2⟩
  have hS2 := hS1.step hb2
  clear hb2 hS1  
  obtain ⟨d0_0, d0_1, g0_0, g0_1⟩ := hS2.blk.two
  go_wp2_with fail
  refine (printP_bad p n HC.out _).mono ?_
  rintro e w3 ⟨rfl, hb3⟩
  have hS3 := hS2.step hb3
  clear hb3 hS2  d0_0 d0_1 g0_0 g0_1
  obtain ⟨d0_0, d0_1, g0_0, g0_1⟩ := hS3.blk.two
  go_wp2_with fail
  refine (halves_bad1 p n HC.out _).mono ?_
  rintro e w4 ⟨rfl, hb4⟩
  have hS4 := hS3.step hb4
  clear hb4 hS3  d0_0 d0_1 g0_0 g0_1
  have hz : w.heap.size < w4.heap.size := hS4.sz
  go_upto_region 15 with fail
  refine wp_name (fun w5 HW => ?_)
  have hS5 : Bk w B p n w5 := by rw [HW.out]; exact (hS4.alloc _).alloc _
  have hl5 : Blk w5 w4.heap.size 23 #[.int .i64 0, .int .i64 0] := by rw [HW.out]; exact (Blk.new _ _ _).alloc _
  have hh5 : Blk w5 (w4.heap.size + 1) 23 #[.int .i64 0, .int .i64 0] := by rw [HW.out]; exact World.size_alloc w4 _ ▸ Blk.new _ _ _
  clear HW hS4 
  clear hh5
  go_upto_region 24 with fail
  clear hl5
  go_wp2_with fail
  refine (both_bad a b HAB.out _).mono ?_
  rintro e w6 ⟨rfl, hb6⟩
  have hS6 := hS5.step hb6
  clear hb6 hS5  
  go_wp2
  go_ret
  exact ⟨rfl, by first | exact hS6.bel | exact (hS6.alloc _).bel⟩

set_option maxRecDepth 100000 in
set_option maxHeartbeats 4000000 in
theorem back_01_bad (a b p n : Int) (ha : isA a = false) (hc : chk p n = 0) (hn : n = 32) (hab : ¬ (isA a = true ∧ isA b = true)) {B : Nat} (w : World) (hB : B ≤ w.heap.size) (hV : TxtV B w) :
    Calls Tryd.prog 3 #[.int .i64 a, .int .i64 b, .agg #[.int .i64 p, .int .i64 n]] w fun e w' => e = .returned (.bool true) ∧ Below w.heap.size w w' := by
  have hS0 := Bk.first w p n hB hV
  clear hV hB
  have HA := Lib.hid ha
  obtain ⟨p0, rfl⟩ : ∃ k : Nat, p = k := ⟨p.toNat, by have := chk_zero.1 hc; omega⟩
  obtain ⟨n0, rfl⟩ : ∃ k : Nat, n = k := ⟨n.toNat, by have := chk_zero.1 hc; omega⟩
  have HN := Lib.hid hn
  have HC := Lib.hid hc
  have HAB := Lib.hid hab
  clear ha hn hc hab
  go_enter Tryd.func3, Tryd.ntmps3
  go_wp2_with fail
  refine (parse_any [49, 48, 46, 48, 46, 48, 46, 49] (by decide) _ hS0.leI hS0.txt).mono ?_
  rintro e w1 ⟨rfl, hb1⟩
  rw [parse_ten]
  have hS1 := hS0.step hb1
  clear hb1 hS0  
  go_wp2_with fail
  refine (print_bad a HA.out _).mono ?_
  rintro e w2 ⟨rfl, hb2⟩
  have hS2 := hS1.step hb2
  clear hb2 hS1  
  obtain ⟨d0_0, d0_1, g0_0, g0_1⟩ := hS2.blk.two
  go_wp2_with fail
  refine (printP_ok p0 n0 HC.out _ hS2.leI hS2.txt).mono ?_
  rintro e w3 ⟨rfl, hb3⟩
  have hS3 := hS2.step hb3
  clear hb3 hS2  d0_0 d0_1 g0_0 g0_1
  go_wp2_with fail
  refine (parseP_any (pfxT p0 n0) (pfxT_len HC.out) _ hS3.leI hS3.txt).mono ?_
  rintro e w4 ⟨rfl, hb4⟩
  rw [parse_pfx HC.out]
  have hS4 := hS3.step hb4
  clear hb4 hS3  
  go_upto_region 12 with fail
  refine wp_name (fun w5 HW => ?_)
  have hS5 : Bk w B (p0 : Int) (n0 : Int) w5 := by rw [HW.out]; exact (hS4.alloc _)
  have hx5 : Blk w5 w4.heap.size 23 #[.int .i64 (p0 : Int), .int .i64 (n0 : Int)] := by rw [HW.out]; exact Blk.new _ _ _
  clear HW hS4 
  obtain ⟨x0, x1, x2, x3⟩ := hx5.two
  obtain ⟨d0_0, d0_1, g0_0, g0_1⟩ := hS5.blk.two
  go_wp2_with fail
  refine (halves_at32 HC.out HN.out _).mono ?_
  rintro e w6 ⟨rfl, hb6⟩
  have hS6 := hS5.step hb6
  have hx6 := hx5.below hb6 hx5.lt
  clear hb6 hS5 hx5 d0_0 d0_1 g0_0 g0_1
  clear x0 x1 x2 x3
  clear hx6
  have hz : w.heap.size < w6.heap.size := hS6.sz
  go_upto_region 15 with fail
  refine wp_name (fun w7 HW => ?_)
  have hS7 : Bk w B (p0 : Int) (n0 : Int) w7 := by rw [HW.out]; exact (hS6.alloc _).alloc _
  have hl7 : Blk w7 w6.heap.size 23 #[.int .i64 0, .int .i64 0] := by rw [HW.out]; exact (Blk.new _ _ _).alloc _
  have hh7 : Blk w7 (w6.heap.size + 1) 23 #[.int .i64 0, .int .i64 0] := by rw [HW.out]; exact World.size_alloc w6 _ ▸ Blk.new _ _ _
  clear HW hS6 
  clear hh7
  go_upto_region 24 with fail
  clear hl7
  go_wp2_with fail
  refine (both_bad a b HAB.out _).mono ?_
  rintro e w8 ⟨rfl, hb8⟩
  have hS8 := hS7.step hb8
  clear hb8 hS7  
  go_wp2
  go_ret
  exact ⟨rfl, by first | exact hS8.bel | exact (hS8.alloc _).bel⟩

set_option maxRecDepth 100000 in
set_option maxHeartbeats 4000000 in
theorem back_02_bad (a b p n : Int) (ha : isA a = false) (hc : chk p n = 0) (hn : n ≠ 32) (hab : ¬ (isA a = true ∧ isA b = true)) {B : Nat} (w : World) (hB : B ≤ w.heap.size) (hV : TxtV B w) :
    Calls Tryd.prog 3 #[.int .i64 a, .int .i64 b, .agg #[.int .i64 p, .int .i64 n]] w fun e w' => e = .returned (.bool true) ∧ Below w.heap.size w w' := by
  have hS0 := Bk.first w p n hB hV
  clear hV hB
  have HA := Lib.hid ha
  obtain ⟨p0, rfl⟩ : ∃ k : Nat, p = k := ⟨p.toNat, by have := chk_zero.1 hc; omega⟩
  obtain ⟨n0, rfl⟩ : ∃ k : Nat, n = k := ⟨n.toNat, by have := chk_zero.1 hc; omega⟩
  have HN := Lib.hid hn
  have HC := Lib.hid hc
  have HAB := Lib.hid hab
  clear ha hn hc hab
  go_enter Tryd.func3, Tryd.ntmps3
  go_wp2_with fail
  refine (parse_any [49, 48, 46, 48, 46, 48, 46, 49] (by decide) _ hS0.leI hS0.txt).mono ?_
  rintro e w1 ⟨rfl, hb1⟩
  rw [parse_ten]
  have hS1 := hS0.step hb1
  clear hb1 hS0  
  go_wp2_with fail
  refine (print_bad a HA.out _).mono ?_
  rintro e w2 ⟨rfl, hb2⟩
  have hS2 := hS1.step hb2
  clear hb2 hS1  
  obtain ⟨d0_0, d0_1, g0_0, g0_1⟩ := hS2.blk.two
  go_wp2_with fail
  refine (printP_ok p0 n0 HC.out _ hS2.leI hS2.txt).mono ?_
  rintro e w3 ⟨rfl, hb3⟩
  have hS3 := hS2.step hb3
  clear hb3 hS2  d0_0 d0_1 g0_0 g0_1
  go_wp2_with fail
  refine (parseP_any (pfxT p0 n0) (pfxT_len HC.out) _ hS3.leI hS3.txt).mono ?_
  rintro e w4 ⟨rfl, hb4⟩
  rw [parse_pfx HC.out]
  have hS4 := hS3.step hb4
  clear hb4 hS3  
  go_upto_region 12 with fail
  refine wp_name (fun w5 HW => ?_)
  have hS5 : Bk w B (p0 : Int) (n0 : Int) w5 := by rw [HW.out]; exact (hS4.alloc _)
  have hx5 : Blk w5 w4.heap.size 23 #[.int .i64 (p0 : Int), .int .i64 (n0 : Int)] := by rw [HW.out]; exact Blk.new _ _ _
  clear HW hS4 
  obtain ⟨x0, x1, x2, x3⟩ := hx5.two
  obtain ⟨d0_0, d0_1, g0_0, g0_1⟩ := hS5.blk.two
  go_wp2_with fail
  refine (halves_ok _ _ HC.out HN.out _).mono ?_
  rintro e w6 ⟨rfl, hb6⟩
  have hS6 := hS5.step hb6
  have hx6 := hx5.below hb6 hx5.lt
  clear hb6 hS5 hx5 d0_0 d0_1 g0_0 g0_1
  clear x0 x1 x2 x3
  clear hx6
  have hz : w.heap.size < w6.heap.size := hS6.sz
  go_upto_region 15 with fail
  refine wp_name (fun w7 HW => ?_)
  have hS7 : Bk w B (p0 : Int) (n0 : Int) w7 := by rw [HW.out]; exact (hS6.alloc _).alloc _
  have hl7 : Blk w7 w6.heap.size 23 #[.int .i64 (p0 : Int), .int .i64 ((n0 : Int) + 1)] := by rw [HW.out]; exact (Blk.new _ _ _).alloc _
  have hh7 : Blk w7 (w6.heap.size + 1) 23 #[.int .i64 ((p0 : Int) + sz ((n0 : Int) + 1)), .int .i64 ((n0 : Int) + 1)] := by rw [HW.out]; exact World.size_alloc w6 _ ▸ Blk.new _ _ _
  clear HW hS6 
  obtain ⟨k1, k2, k3, k4⟩ := half_chk HC.out HN.out
  have k5 := (chk_zero.1 HC.out).1
  obtain ⟨d0_0, d0_1, g0_0, g0_1⟩ := hl7.two
  go_wp2_with fail
  refine (up_ok _ _ k1 (by omega) _).mono ?_
  rintro e w8 ⟨rfl, hb8⟩
  have hS8 := hS7.step hb8
  have hl8 := hl7.below hb8 hl7.lt
  have hh8 := hh7.below hb8 hh7.lt
  clear hb8 hS7 hl7 hh7 d0_0 d0_1 g0_0 g0_1
  go_upto_region 17 with fail
  refine wp_name (fun w9 HW => ?_)
  have hS9 : Bk w B (p0 : Int) (n0 : Int) w9 := by rw [HW.out]; exact (hS8.alloc _)
  have hl9 := hl8.to HW.out
  have hh9 := hh8.to HW.out
  have hx9 : Blk w9 w8.heap.size 23 #[.int .i64 (p0 : Int), .int .i64 (n0 : Int)] := by rw [HW.out]; exact Blk.new _ _ _
  clear HW hS8 hl8 hh8
  obtain ⟨d0_0, d0_1, g0_0, g0_1⟩ := hh9.two
  go_wp2_with fail
  refine (up_ok _ _ k2 (by omega) _).mono ?_
  rintro e w10 ⟨rfl, hb10⟩
  have hS10 := hS9.step hb10
  have hl10 := hl9.below hb10 hl9.lt
  have hh10 := hh9.below hb10 hh9.lt
  have hx10 := hx9.below hb10 hx9.lt
  clear hb10 hS9 hl9 hh9 hx9 d0_0 d0_1 g0_0 g0_1
  go_upto_region 18 with fail
  refine wp_name (fun w11 HW => ?_)
  have hS11 : Bk w B (p0 : Int) (n0 : Int) w11 := by rw [HW.out]; exact (hS10.alloc _)
  have hl11 := hl10.to HW.out
  have hh11 := hh10.to HW.out
  have hx11 := hx10.to HW.out
  have hy11 : Blk w11 w10.heap.size 23 #[.int .i64 (p0 : Int), .int .i64 (n0 : Int)] := by rw [HW.out]; exact Blk.new _ _ _
  clear HW hS10 hl10 hh10 hx10
  obtain ⟨d0_0, d0_1, g0_0, g0_1⟩ := hS11.blk.two
  go_wp2_with fail
  refine (ends_ok _ _ HC.out _).mono ?_
  rintro e w12 ⟨rfl, hb12⟩
  have hS12 := hS11.step hb12
  have hl12 := hl11.below hb12 hl11.lt
  have hh12 := hh11.below hb12 hh11.lt
  have hx12 := hx11.below hb12 hx11.lt
  have hy12 := hy11.below hb12 hy11.lt
  clear hb12 hS11 hl11 hh11 hx11 hy11 d0_0 d0_1 g0_0 g0_1
  obtain ⟨d0_0, d0_1, g0_0, g0_1⟩ := hl12.two
  go_wp2_with fail
  refine (ends_ok _ _ k1 _).mono ?_
  rintro e w13 ⟨rfl, hb13⟩
  have hS13 := hS12.step hb13
  have hl13 := hl12.below hb13 hl12.lt
  have hh13 := hh12.below hb13 hh12.lt
  have hx13 := hx12.below hb13 hx12.lt
  have hy13 := hy12.below hb13 hy12.lt
  clear hb13 hS12 hl12 hh12 hx12 hy12 d0_0 d0_1 g0_0 g0_1
  obtain ⟨d0_0, d0_1, g0_0, g0_1⟩ := hh13.two
  go_wp2_with fail
  refine (ends_ok _ _ k2 _).mono ?_
  rintro e w14 ⟨rfl, hb14⟩
  have hS14 := hS13.step hb14
  have hl14 := hl13.below hb14 hl13.lt
  have hh14 := hh13.below hb14 hh13.lt
  have hx14 := hx13.below hb14 hx13.lt
  have hy14 := hy13.below hb14 hy13.lt
  clear hb14 hS13 hl13 hh13 hx13 hy13 d0_0 d0_1 g0_0 g0_1
  clear hh14
  obtain ⟨x0, x1, x2, x3⟩ := hx14.two
  obtain ⟨y0, y1, y2, y3⟩ := hy14.two
  obtain ⟨c0, c1, f0, f1⟩ := hS14.blk.two
  have hz5 : w.heap.size < w14.heap.size := hS14.blk.lt
  go_wp2_with fail
  have hr1 := rd_new w14 [((p0 : Int), (n0 : Int)), ((p0 : Int), (n0 : Int))] #[.int .i64 (p0 : Int), .int .i64 (n0 : Int), .int .i64 (p0 : Int), .int .i64 (n0 : Int)] 23 w14.heap.size rfl rfl
  refine (prefixes_same _ _ [((p0 : Int), (n0 : Int)), ((p0 : Int), (n0 : Int))] [((p0 : Int), (n0 : Int)), ((p0 : Int), (n0 : Int))] 2 2 2 2 rfl rfl (by show 2 ≤ maxLen; decide) rfl _ ((hr1.below ((Below.refl _ _).alloc (Nat.le_refl _) _)).more (by simp)) (rd_new _ _ _ _ _ (by simp) rfl)).mono ?_
  rintro e w15 ⟨rfl, hb⟩
  have hS15 := ((hS14.alloc _).alloc _).step hb
  have hl15 := ((hl14.alloc _).alloc _).below hb (by simp; have := hl14.lt; omega)
  clear hb hS14 hl14 hx14 hy14 x0 x1 x2 x3 y0 y1 y2 y3 c0 c1 f0 f1 hr1 hz5
  have j1 := (half_last HC.out HN.out).1
  have j2 := (half_last HC.out HN.out).2
  go_upto_region 24 with fail
  clear j1 j2 k1 k2 k3 k4 k5
  clear hl15
  go_wp2_with fail
  refine (both_bad a b HAB.out _).mono ?_
  rintro e w16 ⟨rfl, hb16⟩
  have hS16 := hS15.step hb16
  clear hb16 hS15  
  go_wp2
  go_ret
  exact ⟨rfl, by first | exact hS16.bel | exact (hS16.alloc _).bel⟩

theorem addrBack_walk (a b p n : Int) {B : Nat} (w : World) (hB : B ≤ w.heap.size) (hV : TxtV B w) :
    Calls Tryd.prog 3 #[.int .i64 a, .int .i64 b, .agg #[.int .i64 p, .int .i64 n]] w fun e w' => e = .returned (.bool true) ∧ Below w.heap.size w w' := by
  by_cases ha : isA a = true
  · by_cases hc : chk p n = 0
    · by_cases hn : n = 32
      · by_cases hb : isA b = true
        · by_cases hq : bothN a b = 32
          · exact back_11_all a b p n ha hc hn hb hq w hB hV
          · exact back_11_part a b p n ha hc hn hb hq w hB hV
        · exact back_11_bad a b p n ha hc hn (fun h => hb h.2) w hB hV
      · by_cases hb : isA b = true
        · by_cases hq : bothN a b = 32
          · exact back_12_all a b p n ha hc hn hb hq w hB hV
          · exact back_12_part a b p n ha hc hn hb hq w hB hV
        · exact back_12_bad a b p n ha hc hn (fun h => hb h.2) w hB hV
    · by_cases hb : isA b = true
      · by_cases hq : bothN a b = 32
        · exact back_10_all a b p n ha hc hb hq w hB hV
        · exact back_10_part a b p n ha hc hb hq w hB hV
      · exact back_10_bad a b p n ha hc (fun h => hb h.2) w hB hV
  · have ha' : isA a = false := by simpa using ha
    by_cases hc : chk p n = 0
    · by_cases hn : n = 32
      · exact back_01_bad a b p n ha' hc hn (fun h => ha h.1) w hB hV
      · exact back_02_bad a b p n ha' hc hn (fun h => ha h.1) w hB hV
    · exact back_00_bad a b p n ha' hc (fun h => ha h.1) w hB hV
end Go.Proofs.YtfeeilpkfjfnaaaDoor
