/- The law AddrReads' walk: a text as an address, a number as a text, likewise prefixes. Conditions: the library's bound on a text's length, its variables as TxtV says, errors.errorType laid. -/
import Derived.Test.YtfeeilpkfjfnaaaGreatDoorRefText5
import Derived.Test.YtfeeilpkfjfnaaaGreatDoorErrLaw
import Derived.Test.YtfeeilpkfjfnaaaGreatDoorBk
import Derived.Test.YtfeeilpkfjfnaaaGreatDoorCut
namespace Go.Proofs.YtfeeilpkfjfnaaaGreatDoor
set_option linter.unusedVariables false
set_option linter.unusedSimpArgs false
open Go.RowKit

/-- A text's address: the fault, the address. -/
def addrK (s : List UInt8) : Int × Int := match addrT s with
  | some a => (0, (a : Int))
  | none => (5, 0)
theorem parseV_K (s : List UInt8) : ParseV s = .tuple #[.int .i64 (addrK s).2, errOf (addrK s).1] := by
  unfold ParseV addrK
  cases addrT s <;> rfl
theorem addrOfV_K (s : List UInt8) : AddrOfV s = .tuple #[.int .i64 (addrK s).2, .int .i64 (addrK s).1] := by
  unfold AddrOfV addrK
  cases addrT s <;> rfl
theorem ppV_K (t : List UInt8) : ppV t = .tuple #[.agg #[.int .i64 (pfxS t).2.1, .int .i64 (pfxS t).2.2], errOf (pfxS t).1] := ppW_K _ _
theorem prefixOfV_K (k : Int × Int × Int) : PrefixOfV k = .tuple #[.agg #[.int .i64 k.2.1, .int .i64 k.2.2], .int .i64 k.1] := rfl
theorem error_same_of (k : Int) (w : World) (hg : ErrVar w) :
    Calls Tryz.prog 6 #[errOf k, .int .i64 k] w fun e w' => e = .returned (.bool true) ∧ Below w.heap.size w w' :=
  (error_any k k w hg).mono fun e w' h => ⟨by rw [h.1]; simp, h.2⟩
theorem pfxT_mk (a n : Nat) : (⟨(pfxT a n).toArray⟩ : ByteArray) = (⟨(textT a).toArray⟩ : ByteArray) ++ ⟨#[47]⟩ ++ ⟨(Lib.decDigits n).toArray⟩ := by
  rw [show (⟨#[47]⟩ : ByteArray) = ⟨[47].toArray⟩ from rfl, ByteArray.mk_append_mk, ByteArray.mk_append_mk]
  unfold pfxT
  simp

set_option maxRecDepth 100000 in
set_option maxHeartbeats 4000000 in
theorem reads_11 (s t : List UInt8) (hs : s.length < 4294967281) (ht : t.length < 4294967281) (a p n : Int) (ha : isA a = true) (hc : chk p n = 0) {B : Nat} (w : World) (hB : B ≤ w.heap.size) (hV : TxtV B w) (hg : ErrVar w) :
    Calls Tryz.prog 3 #[txt s, .int .i64 a, txt t, .agg #[.int .i64 p, .int .i64 n]] w fun e w' => e = .returned (.bool true) ∧ Below w.heap.size w w' := by
  have hS0 := Bk.first w p n hB hV
  have hE : ∀ wi, Bk w B p n wi → ErrVar wi := fun wi h => hg.belowB h.bel hg.lt
  have HE := Lib.hid hE
  have HA := Lib.hid ha
  have HC := Lib.hid hc
  obtain ⟨a0, rfl⟩ : ∃ k : Nat, a = k := ⟨a.toNat, by have := isA_true.1 ha; omega⟩
  have hal : a0 < 4294967296 := by have := isA_true.1 ha; omega
  obtain ⟨p0, rfl⟩ : ∃ k : Nat, p = k := ⟨p.toNat, by have := chk_zero.1 hc; omega⟩
  obtain ⟨n0, rfl⟩ : ∃ k : Nat, n = k := ⟨n.toNat, by have := chk_zero.1 hc; omega⟩
  have hpl : p0 < 4294967296 := by have := chk_zero.1 hc; omega
  have hnl : n0 ≤ 32 := by have := chk_zero.1 hc; omega
  clear hV hB hE hg ha hc
  go_enter Tryz.func3, Tryz.ntmps3
  go_wp2_with fail
  refine (addrOf_any s (by omega) _).mono ?_
  rintro e w1 ⟨rfl, hb1⟩
  rw [addrOfV_K]
  have hS1 := hS0.step hb1
  clear hb1 hS0 
  go_wp2_with fail
  refine (parse_any s hs _ hS1.leI hS1.txt).mono ?_
  rintro e w2 ⟨rfl, hb2⟩
  rw [parseV_K]
  have hS2 := hS1.step hb2
  clear hb2 hS1 
  generalize (addrK s).2 = x1
  generalize (addrK s).1 = x2
  go_wp2_with fail
  refine (error_same_of x2 _ (HE.out _ hS2)).mono ?_
  rintro e w3 ⟨rfl, hb3⟩
  have hS3 := hS2.step hb3
  clear hb3 hS2 
  go_wp2_with fail
  refine (refIs_any (a0 : Int) _).mono ?_
  rintro e w_ ⟨rfl, rfl⟩
  rw [HA.out]
  go_wp2_with fail
  refine (textOf_any a0 hal _).mono ?_
  rintro e w_ ⟨rfl, rfl⟩
  go_wp2_with fail
  refine (print_ok a0 hal _ hS3.leI hS3.txt).mono ?_
  rintro e w4 ⟨rfl, hb4⟩
  have hS4 := hS3.step hb4
  clear hb4 hS3 
  go_wp2_with fail
  refine (error_nil0 _ (HE.out _ hS4)).mono ?_
  rintro e w5 ⟨rfl, hb5⟩
  have hS5 := hS4.step hb5
  clear hb5 hS4 
  go_wp2_with fail
  refine (prefixOf_any t (by omega) _).mono ?_
  rintro e w6 ⟨rfl, hb6⟩
  rw [prefixOfV_K]
  have hS6 := hS5.step hb6
  clear hb6 hS5 
  have HPV := Lib.hid (ppV_K t)
  generalize (pfxS t).2.1 = y1 at *
  generalize (pfxS t).2.2 = y2 at *
  generalize (pfxS t).1 = y3 at *
  go_upto_region 17 with fail
  refine wp_name (fun w7 HW => ?_)
  have hS7 : Bk w B (p0 : Int) (n0 : Int) w7 := by rw [HW.out]; exact hS6.alloc _
  have hq7 : Blk w7 w6.heap.size 23 #[.int .i64 y1, .int .i64 y2] := by rw [HW.out]; exact Blk.new _ _ _
  clear HW hS6 
  go_wp2_with fail
  refine (parseP_any t ht _ hS7.leI hS7.txt).mono ?_
  rintro e w8 ⟨rfl, hb8⟩
  rw [HPV.out]
  have hS8 := hS7.step hb8
  have hq8 := hq7.below hb8 hq7.lt
  clear hb8 hS7 hq7
  go_upto_region 18 with fail
  refine wp_name (fun w9 HW => ?_)
  have hS9 : Bk w B (p0 : Int) (n0 : Int) w9 := by rw [HW.out]; exact hS8.alloc _
  have hq9 := hq8.to HW.out
  have hr9 : Blk w9 w8.heap.size 23 #[.int .i64 y1, .int .i64 y2] := by rw [HW.out]; exact Blk.new _ _ _
  clear HW hS8 hq8
  go_wp2_with fail
  refine (error_same_of y3 _ (HE.out _ hS9)).mono ?_
  rintro e w10 ⟨rfl, hb10⟩
  have hS10 := hS9.step hb10
  have hq10 := hq9.below hb10 hq9.lt
  have hr10 := hr9.below hb10 hr9.lt
  clear hb10 hS9 hq9 hr9
  obtain ⟨q0, q1, q2, q3⟩ := hq10.two
  obtain ⟨r0, r1, r2, r3⟩ := hr10.two
  obtain ⟨d0_0, d0_1, g0_0, g0_1⟩ := hS10.blk.two
  go_wp2_with fail
  refine (fault_any (p0 : Int) (n0 : Int) _).mono ?_
  rintro e w11 ⟨rfl, hb11⟩
  have hS11 := hS10.step hb11
  have hq11 := hq10.below hb11 hq10.lt
  have hr11 := hr10.below hb11 hr10.lt
  clear hb11 hS10 hq10 hr10
  clear d0_0 d0_1 g0_0 g0_1
  clear q0 q1 q2 q3 r0 r1 r2 r3 hq11 hr11
  rw [HC.out]
  obtain ⟨d0_0, d0_1, g0_0, g0_1⟩ := hS11.blk.two
  have hl1 := textT_len p0
  have hl2 := decDigits_len (u := n0) (by omega)
  have hq1 : ¬ (9223372036854775807 < (textT p0).length + 1) := by omega
  have hq2 : ¬ (9223372036854775807 < (textT p0).length + 1 + (Lib.decDigits n0).length) := by omega
  clear hl1 hl2
  go_wp2_with fail
  go_quiet ((first | (go_at_call 8; exact Calls.quiet_of_same ((textOf_any p0 hpl _).mono fun e w' h => ⟨h.1, h.2.symm⟩)) | (go_at_call 13; exact Calls.quiet_of_same ((dec_any n0 (by omega) _).mono fun e w' h => ⟨h.1, h.2.symm⟩))))
  clear hq1 hq2 d0_0 d0_1 g0_0 g0_1
  have hS12 : Bk w B (p0 : Int) (n0 : Int) (w11.drewN nq) := hS11.step (below_drewN (Below.refl _ _) _)
  clear hS11
  generalize w11.drewN nq = wq at *
  obtain ⟨d0_0, d0_1, g0_0, g0_1⟩ := hS12.blk.two
  go_wp2_with fail
  refine (check_ok _ _ HC.out _).mono ?_
  rintro e w13 ⟨rfl, hb13⟩
  have hS13 := hS12.step hb13
  clear hb13 hS12 
  clear d0_0 d0_1 g0_0 g0_1
  go_wp2_with fail
  refine (error_nil0 _ (HE.out _ hS13)).mono ?_
  rintro e w14 ⟨rfl, hb14⟩
  have hS14 := hS13.step hb14
  clear hb14 hS13 
  obtain ⟨d0_0, d0_1, g0_0, g0_1⟩ := hS14.blk.two
  go_wp2_with fail
  refine (printP_ok p0 n0 HC.out _ hS14.leI hS14.txt).mono ?_
  rintro e w15 ⟨rfl, hb15⟩
  have hS15 := hS14.step hb15
  clear hb15 hS14 
  clear d0_0 d0_1 g0_0 g0_1
  go_wp2_with fail
  refine (error_nil0 _ (HE.out _ hS15)).mono ?_
  rintro e w16 ⟨rfl, hb16⟩
  have hS16 := hS15.step hb16
  clear hb16 hS15 
  have hfin := pfxT_mk p0 n0
  go_wp2
  go_ret
  exact ⟨by first | rfl | (simp [hfin]), hS16.bel⟩

set_option maxRecDepth 100000 in
set_option maxHeartbeats 4000000 in
theorem reads_10 (s t : List UInt8) (hs : s.length < 4294967281) (ht : t.length < 4294967281) (a p n : Int) (ha : isA a = true) (hc : chk p n ≠ 0) {B : Nat} (w : World) (hB : B ≤ w.heap.size) (hV : TxtV B w) (hg : ErrVar w) :
    Calls Tryz.prog 3 #[txt s, .int .i64 a, txt t, .agg #[.int .i64 p, .int .i64 n]] w fun e w' => e = .returned (.bool true) ∧ Below w.heap.size w w' := by
  have hS0 := Bk.first w p n hB hV
  have hE : ∀ wi, Bk w B p n wi → ErrVar wi := fun wi h => hg.belowB h.bel hg.lt
  have HE := Lib.hid hE
  have HA := Lib.hid ha
  have HC := Lib.hid hc
  obtain ⟨a0, rfl⟩ : ∃ k : Nat, a = k := ⟨a.toNat, by have := isA_true.1 ha; omega⟩
  have hal : a0 < 4294967296 := by have := isA_true.1 ha; omega
  clear hV hB hE hg ha hc
  go_enter Tryz.func3, Tryz.ntmps3
  go_wp2_with fail
  refine (addrOf_any s (by omega) _).mono ?_
  rintro e w1 ⟨rfl, hb1⟩
  rw [addrOfV_K]
  have hS1 := hS0.step hb1
  clear hb1 hS0 
  go_wp2_with fail
  refine (parse_any s hs _ hS1.leI hS1.txt).mono ?_
  rintro e w2 ⟨rfl, hb2⟩
  rw [parseV_K]
  have hS2 := hS1.step hb2
  clear hb2 hS1 
  generalize (addrK s).2 = x1
  generalize (addrK s).1 = x2
  go_wp2_with fail
  refine (error_same_of x2 _ (HE.out _ hS2)).mono ?_
  rintro e w3 ⟨rfl, hb3⟩
  have hS3 := hS2.step hb3
  clear hb3 hS2 
  go_wp2_with fail
  refine (refIs_any (a0 : Int) _).mono ?_
  rintro e w_ ⟨rfl, rfl⟩
  rw [HA.out]
  go_wp2_with fail
  refine (textOf_any a0 hal _).mono ?_
  rintro e w_ ⟨rfl, rfl⟩
  go_wp2_with fail
  refine (print_ok a0 hal _ hS3.leI hS3.txt).mono ?_
  rintro e w4 ⟨rfl, hb4⟩
  have hS4 := hS3.step hb4
  clear hb4 hS3 
  go_wp2_with fail
  refine (error_nil0 _ (HE.out _ hS4)).mono ?_
  rintro e w5 ⟨rfl, hb5⟩
  have hS5 := hS4.step hb5
  clear hb5 hS4 
  go_wp2_with fail
  refine (prefixOf_any t (by omega) _).mono ?_
  rintro e w6 ⟨rfl, hb6⟩
  rw [prefixOfV_K]
  have hS6 := hS5.step hb6
  clear hb6 hS5 
  have HPV := Lib.hid (ppV_K t)
  generalize (pfxS t).2.1 = y1 at *
  generalize (pfxS t).2.2 = y2 at *
  generalize (pfxS t).1 = y3 at *
  go_upto_region 17 with fail
  refine wp_name (fun w7 HW => ?_)
  have hS7 : Bk w B p n w7 := by rw [HW.out]; exact hS6.alloc _
  have hq7 : Blk w7 w6.heap.size 23 #[.int .i64 y1, .int .i64 y2] := by rw [HW.out]; exact Blk.new _ _ _
  clear HW hS6 
  go_wp2_with fail
  refine (parseP_any t ht _ hS7.leI hS7.txt).mono ?_
  rintro e w8 ⟨rfl, hb8⟩
  rw [HPV.out]
  have hS8 := hS7.step hb8
  have hq8 := hq7.below hb8 hq7.lt
  clear hb8 hS7 hq7
  go_upto_region 18 with fail
  refine wp_name (fun w9 HW => ?_)
  have hS9 : Bk w B p n w9 := by rw [HW.out]; exact hS8.alloc _
  have hq9 := hq8.to HW.out
  have hr9 : Blk w9 w8.heap.size 23 #[.int .i64 y1, .int .i64 y2] := by rw [HW.out]; exact Blk.new _ _ _
  clear HW hS8 hq8
  go_wp2_with fail
  refine (error_same_of y3 _ (HE.out _ hS9)).mono ?_
  rintro e w10 ⟨rfl, hb10⟩
  have hS10 := hS9.step hb10
  have hq10 := hq9.below hb10 hq9.lt
  have hr10 := hr9.below hb10 hr9.lt
  clear hb10 hS9 hq9 hr9
  obtain ⟨q0, q1, q2, q3⟩ := hq10.two
  obtain ⟨r0, r1, r2, r3⟩ := hr10.two
  obtain ⟨d0_0, d0_1, g0_0, g0_1⟩ := hS10.blk.two
  go_wp2_with fail
  refine (fault_any p n _).mono ?_
  rintro e w11 ⟨rfl, hb11⟩
  have hS11 := hS10.step hb11
  have hq11 := hq10.below hb11 hq10.lt
  have hr11 := hr10.below hb11 hr10.lt
  clear hb11 hS10 hq10 hr10
  clear d0_0 d0_1 g0_0 g0_1
  clear q0 q1 q2 q3 r0 r1 r2 r3 hq11 hr11
  have hcz : (chk p n == 0) = false := by simpa using HC.out
  obtain ⟨d0_0, d0_1, g0_0, g0_1⟩ := hS11.blk.two
  go_wp2_with fail
  refine (check_bad _ _ HC.out _).mono ?_
  rintro e w12 ⟨rfl, hb12⟩
  have hS12 := hS11.step hb12
  clear hb12 hS11 
  clear d0_0 d0_1 g0_0 g0_1
  go_wp2_with fail
  refine (error_same (chk p n) HC.out _ (HE.out _ hS12)).mono ?_
  rintro e w13 ⟨rfl, hb13⟩
  have hS13 := hS12.step hb13
  clear hb13 hS12 
  obtain ⟨d0_0, d0_1, g0_0, g0_1⟩ := hS13.blk.two
  go_wp2_with fail
  refine (printP_bad p n HC.out _).mono ?_
  rintro e w14 ⟨rfl, hb14⟩
  have hS14 := hS13.step hb14
  clear hb14 hS13 
  clear d0_0 d0_1 g0_0 g0_1
  go_wp2_with fail
  refine (error_same (chk p n) HC.out _ (HE.out _ hS14)).mono ?_
  rintro e w15 ⟨rfl, hb15⟩
  have hS15 := hS14.step hb15
  clear hb15 hS14 
  go_wp2
  go_ret
  exact ⟨rfl, hS15.bel⟩

set_option maxRecDepth 100000 in
set_option maxHeartbeats 4000000 in
theorem reads_01 (s t : List UInt8) (hs : s.length < 4294967281) (ht : t.length < 4294967281) (a p n : Int) (ha : isA a = false) (hc : chk p n = 0) {B : Nat} (w : World) (hB : B ≤ w.heap.size) (hV : TxtV B w) (hg : ErrVar w) :
    Calls Tryz.prog 3 #[txt s, .int .i64 a, txt t, .agg #[.int .i64 p, .int .i64 n]] w fun e w' => e = .returned (.bool true) ∧ Below w.heap.size w w' := by
  have hS0 := Bk.first w p n hB hV
  have hE : ∀ wi, Bk w B p n wi → ErrVar wi := fun wi h => hg.belowB h.bel hg.lt
  have HE := Lib.hid hE
  have HA := Lib.hid ha
  have HC := Lib.hid hc
  obtain ⟨p0, rfl⟩ : ∃ k : Nat, p = k := ⟨p.toNat, by have := chk_zero.1 hc; omega⟩
  obtain ⟨n0, rfl⟩ : ∃ k : Nat, n = k := ⟨n.toNat, by have := chk_zero.1 hc; omega⟩
  have hpl : p0 < 4294967296 := by have := chk_zero.1 hc; omega
  have hnl : n0 ≤ 32 := by have := chk_zero.1 hc; omega
  clear hV hB hE hg ha hc
  go_enter Tryz.func3, Tryz.ntmps3
  go_wp2_with fail
  refine (addrOf_any s (by omega) _).mono ?_
  rintro e w1 ⟨rfl, hb1⟩
  rw [addrOfV_K]
  have hS1 := hS0.step hb1
  clear hb1 hS0 
  go_wp2_with fail
  refine (parse_any s hs _ hS1.leI hS1.txt).mono ?_
  rintro e w2 ⟨rfl, hb2⟩
  rw [parseV_K]
  have hS2 := hS1.step hb2
  clear hb2 hS1 
  generalize (addrK s).2 = x1
  generalize (addrK s).1 = x2
  go_wp2_with fail
  refine (error_same_of x2 _ (HE.out _ hS2)).mono ?_
  rintro e w3 ⟨rfl, hb3⟩
  have hS3 := hS2.step hb3
  clear hb3 hS2 
  go_wp2_with fail
  refine (refIs_any a _).mono ?_
  rintro e w_ ⟨rfl, rfl⟩
  rw [HA.out]
  go_wp2_with fail
  refine (print_bad a HA.out _).mono ?_
  rintro e w4 ⟨rfl, hb4⟩
  have hS4 := hS3.step hb4
  clear hb4 hS3 
  go_wp2_with fail
  refine (error_same 1 (by decide) _ (HE.out _ hS4)).mono ?_
  rintro e w5 ⟨rfl, hb5⟩
  have hS5 := hS4.step hb5
  clear hb5 hS4 
  go_wp2_with fail
  refine (prefixOf_any t (by omega) _).mono ?_
  rintro e w6 ⟨rfl, hb6⟩
  rw [prefixOfV_K]
  have hS6 := hS5.step hb6
  clear hb6 hS5 
  have HPV := Lib.hid (ppV_K t)
  generalize (pfxS t).2.1 = y1 at *
  generalize (pfxS t).2.2 = y2 at *
  generalize (pfxS t).1 = y3 at *
  go_upto_region 17 with fail
  refine wp_name (fun w7 HW => ?_)
  have hS7 : Bk w B (p0 : Int) (n0 : Int) w7 := by rw [HW.out]; exact hS6.alloc _
  have hq7 : Blk w7 w6.heap.size 23 #[.int .i64 y1, .int .i64 y2] := by rw [HW.out]; exact Blk.new _ _ _
  clear HW hS6 
  go_wp2_with fail
  refine (parseP_any t ht _ hS7.leI hS7.txt).mono ?_
  rintro e w8 ⟨rfl, hb8⟩
  rw [HPV.out]
  have hS8 := hS7.step hb8
  have hq8 := hq7.below hb8 hq7.lt
  clear hb8 hS7 hq7
  go_upto_region 18 with fail
  refine wp_name (fun w9 HW => ?_)
  have hS9 : Bk w B (p0 : Int) (n0 : Int) w9 := by rw [HW.out]; exact hS8.alloc _
  have hq9 := hq8.to HW.out
  have hr9 : Blk w9 w8.heap.size 23 #[.int .i64 y1, .int .i64 y2] := by rw [HW.out]; exact Blk.new _ _ _
  clear HW hS8 hq8
  go_wp2_with fail
  refine (error_same_of y3 _ (HE.out _ hS9)).mono ?_
  rintro e w10 ⟨rfl, hb10⟩
  have hS10 := hS9.step hb10
  have hq10 := hq9.below hb10 hq9.lt
  have hr10 := hr9.below hb10 hr9.lt
  clear hb10 hS9 hq9 hr9
  obtain ⟨q0, q1, q2, q3⟩ := hq10.two
  obtain ⟨r0, r1, r2, r3⟩ := hr10.two
  obtain ⟨d0_0, d0_1, g0_0, g0_1⟩ := hS10.blk.two
  go_wp2_with fail
  refine (fault_any (p0 : Int) (n0 : Int) _).mono ?_
  rintro e w11 ⟨rfl, hb11⟩
  have hS11 := hS10.step hb11
  have hq11 := hq10.below hb11 hq10.lt
  have hr11 := hr10.below hb11 hr10.lt
  clear hb11 hS10 hq10 hr10
  clear d0_0 d0_1 g0_0 g0_1
  clear q0 q1 q2 q3 r0 r1 r2 r3 hq11 hr11
  rw [HC.out]
  obtain ⟨d0_0, d0_1, g0_0, g0_1⟩ := hS11.blk.two
  have hl1 := textT_len p0
  have hl2 := decDigits_len (u := n0) (by omega)
  have hq1 : ¬ (9223372036854775807 < (textT p0).length + 1) := by omega
  have hq2 : ¬ (9223372036854775807 < (textT p0).length + 1 + (Lib.decDigits n0).length) := by omega
  clear hl1 hl2
  go_wp2_with fail
  go_quiet ((first | (go_at_call 8; exact Calls.quiet_of_same ((textOf_any p0 hpl _).mono fun e w' h => ⟨h.1, h.2.symm⟩)) | (go_at_call 13; exact Calls.quiet_of_same ((dec_any n0 (by omega) _).mono fun e w' h => ⟨h.1, h.2.symm⟩))))
  clear hq1 hq2 d0_0 d0_1 g0_0 g0_1
  have hS12 : Bk w B (p0 : Int) (n0 : Int) (w11.drewN nq) := hS11.step (below_drewN (Below.refl _ _) _)
  clear hS11
  generalize w11.drewN nq = wq at *
  obtain ⟨d0_0, d0_1, g0_0, g0_1⟩ := hS12.blk.two
  go_wp2_with fail
  refine (check_ok _ _ HC.out _).mono ?_
  rintro e w13 ⟨rfl, hb13⟩
  have hS13 := hS12.step hb13
  clear hb13 hS12 
  clear d0_0 d0_1 g0_0 g0_1
  go_wp2_with fail
  refine (error_nil0 _ (HE.out _ hS13)).mono ?_
  rintro e w14 ⟨rfl, hb14⟩
  have hS14 := hS13.step hb14
  clear hb14 hS13 
  obtain ⟨d0_0, d0_1, g0_0, g0_1⟩ := hS14.blk.two
  go_wp2_with fail
  refine (printP_ok p0 n0 HC.out _ hS14.leI hS14.txt).mono ?_
  rintro e w15 ⟨rfl, hb15⟩
  have hS15 := hS14.step hb15
  clear hb15 hS14 
  clear d0_0 d0_1 g0_0 g0_1
  go_wp2_with fail
  refine (error_nil0 _ (HE.out _ hS15)).mono ?_
  rintro e w16 ⟨rfl, hb16⟩
  have hS16 := hS15.step hb16
  clear hb16 hS15 
  have hfin := pfxT_mk p0 n0
  go_wp2
  go_ret
  exact ⟨by first | rfl | (simp [hfin]), hS16.bel⟩

set_option maxRecDepth 100000 in
set_option maxHeartbeats 4000000 in
theorem reads_00 (s t : List UInt8) (hs : s.length < 4294967281) (ht : t.length < 4294967281) (a p n : Int) (ha : isA a = false) (hc : chk p n ≠ 0) {B : Nat} (w : World) (hB : B ≤ w.heap.size) (hV : TxtV B w) (hg : ErrVar w) :
    Calls Tryz.prog 3 #[txt s, .int .i64 a, txt t, .agg #[.int .i64 p, .int .i64 n]] w fun e w' => e = .returned (.bool true) ∧ Below w.heap.size w w' := by
  have hS0 := Bk.first w p n hB hV
  have hE : ∀ wi, Bk w B p n wi → ErrVar wi := fun wi h => hg.belowB h.bel hg.lt
  have HE := Lib.hid hE
  have HA := Lib.hid ha
  have HC := Lib.hid hc
  clear hV hB hE hg ha hc
  go_enter Tryz.func3, Tryz.ntmps3
  go_wp2_with fail
  refine (addrOf_any s (by omega) _).mono ?_
  rintro e w1 ⟨rfl, hb1⟩
  rw [addrOfV_K]
  have hS1 := hS0.step hb1
  clear hb1 hS0 
  go_wp2_with fail
  refine (parse_any s hs _ hS1.leI hS1.txt).mono ?_
  rintro e w2 ⟨rfl, hb2⟩
  rw [parseV_K]
  have hS2 := hS1.step hb2
  clear hb2 hS1 
  generalize (addrK s).2 = x1
  generalize (addrK s).1 = x2
  go_wp2_with fail
  refine (error_same_of x2 _ (HE.out _ hS2)).mono ?_
  rintro e w3 ⟨rfl, hb3⟩
  have hS3 := hS2.step hb3
  clear hb3 hS2 
  go_wp2_with fail
  refine (refIs_any a _).mono ?_
  rintro e w_ ⟨rfl, rfl⟩
  rw [HA.out]
  go_wp2_with fail
  refine (print_bad a HA.out _).mono ?_
  rintro e w4 ⟨rfl, hb4⟩
  have hS4 := hS3.step hb4
  clear hb4 hS3 
  go_wp2_with fail
  refine (error_same 1 (by decide) _ (HE.out _ hS4)).mono ?_
  rintro e w5 ⟨rfl, hb5⟩
  have hS5 := hS4.step hb5
  clear hb5 hS4 
  go_wp2_with fail
  refine (prefixOf_any t (by omega) _).mono ?_
  rintro e w6 ⟨rfl, hb6⟩
  rw [prefixOfV_K]
  have hS6 := hS5.step hb6
  clear hb6 hS5 
  have HPV := Lib.hid (ppV_K t)
  generalize (pfxS t).2.1 = y1 at *
  generalize (pfxS t).2.2 = y2 at *
  generalize (pfxS t).1 = y3 at *
  go_upto_region 17 with fail
  refine wp_name (fun w7 HW => ?_)
  have hS7 : Bk w B p n w7 := by rw [HW.out]; exact hS6.alloc _
  have hq7 : Blk w7 w6.heap.size 23 #[.int .i64 y1, .int .i64 y2] := by rw [HW.out]; exact Blk.new _ _ _
  clear HW hS6 
  go_wp2_with fail
  refine (parseP_any t ht _ hS7.leI hS7.txt).mono ?_
  rintro e w8 ⟨rfl, hb8⟩
  rw [HPV.out]
  have hS8 := hS7.step hb8
  have hq8 := hq7.below hb8 hq7.lt
  clear hb8 hS7 hq7
  go_upto_region 18 with fail
  refine wp_name (fun w9 HW => ?_)
  have hS9 : Bk w B p n w9 := by rw [HW.out]; exact hS8.alloc _
  have hq9 := hq8.to HW.out
  have hr9 : Blk w9 w8.heap.size 23 #[.int .i64 y1, .int .i64 y2] := by rw [HW.out]; exact Blk.new _ _ _
  clear HW hS8 hq8
  go_wp2_with fail
  refine (error_same_of y3 _ (HE.out _ hS9)).mono ?_
  rintro e w10 ⟨rfl, hb10⟩
  have hS10 := hS9.step hb10
  have hq10 := hq9.below hb10 hq9.lt
  have hr10 := hr9.below hb10 hr9.lt
  clear hb10 hS9 hq9 hr9
  obtain ⟨q0, q1, q2, q3⟩ := hq10.two
  obtain ⟨r0, r1, r2, r3⟩ := hr10.two
  obtain ⟨d0_0, d0_1, g0_0, g0_1⟩ := hS10.blk.two
  go_wp2_with fail
  refine (fault_any p n _).mono ?_
  rintro e w11 ⟨rfl, hb11⟩
  have hS11 := hS10.step hb11
  have hq11 := hq10.below hb11 hq10.lt
  have hr11 := hr10.below hb11 hr10.lt
  clear hb11 hS10 hq10 hr10
  clear d0_0 d0_1 g0_0 g0_1
  clear q0 q1 q2 q3 r0 r1 r2 r3 hq11 hr11
  have hcz : (chk p n == 0) = false := by simpa using HC.out
  obtain ⟨d0_0, d0_1, g0_0, g0_1⟩ := hS11.blk.two
  go_wp2_with fail
  refine (check_bad _ _ HC.out _).mono ?_
  rintro e w12 ⟨rfl, hb12⟩
  have hS12 := hS11.step hb12
  clear hb12 hS11 
  clear d0_0 d0_1 g0_0 g0_1
  go_wp2_with fail
  refine (error_same (chk p n) HC.out _ (HE.out _ hS12)).mono ?_
  rintro e w13 ⟨rfl, hb13⟩
  have hS13 := hS12.step hb13
  clear hb13 hS12 
  obtain ⟨d0_0, d0_1, g0_0, g0_1⟩ := hS13.blk.two
  go_wp2_with fail
  refine (printP_bad p n HC.out _).mono ?_
  rintro e w14 ⟨rfl, hb14⟩
  have hS14 := hS13.step hb14
  clear hb14 hS13 
  clear d0_0 d0_1 g0_0 g0_1
  go_wp2_with fail
  refine (error_same (chk p n) HC.out _ (HE.out _ hS14)).mono ?_
  rintro e w15 ⟨rfl, hb15⟩
  have hS15 := hS14.step hb15
  clear hb15 hS14 
  go_wp2
  go_ret
  exact ⟨rfl, hS15.bel⟩

theorem addrReads_walk (s t : List UInt8) (hs : s.length < 4294967281) (ht : t.length < 4294967281) (a p n : Int) {B : Nat} (w : World) (hB : B ≤ w.heap.size) (hV : TxtV B w) (hg : ErrVar w) :
    Calls Tryz.prog 3 #[txt s, .int .i64 a, txt t, .agg #[.int .i64 p, .int .i64 n]] w fun e w' => e = .returned (.bool true) ∧ Below w.heap.size w w' := by
  by_cases hc : chk p n = 0
  · cases ha : isA a with
    | true => exact reads_11 s t hs ht a p n ha hc w hB hV hg
    | false => exact reads_01 s t hs ht a p n ha hc w hB hV hg
  · cases ha : isA a with
    | true => exact reads_10 s t hs ht a p n ha hc w hB hV hg
    | false => exact reads_00 s t hs ht a p n ha hc w hB hV hg
theorem addrReads_str (s t : ByteArray) (hs : s.data.toList.length < 4294967281) (ht : t.data.toList.length < 4294967281) (a p n : Int) {B : Nat} (w : World) (hB : B ≤ w.heap.size) (hV : TxtV B w) (hg : ErrVar w) :
    Calls Tryz.prog 3 #[.string s, .int .i64 a, .string t, .agg #[.int .i64 p, .int .i64 n]] w fun e w' => e = .returned (.bool true) ∧ Below w.heap.size w w' := by
  rw [txt_of s, txt_of t]
  exact addrReads_walk s.data.toList t.data.toList hs ht a p n w hB hV hg
end Go.Proofs.YtfeeilpkfjfnaaaGreatDoor
