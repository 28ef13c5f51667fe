/- The law PlotKeys' walk. Conditions: texts of at most 2000000 bytes, the library's variables as TxtV, KeyV say, errors.errorType laid. -/
import Derived.Test.YtemokelgafndpaaGreatDoorRefKey4
import Derived.Test.YtemokelgafndpaaGreatDoorPlot4
import Derived.Test.YtemokelgafndpaaGreatDoorBk
import Derived.Test.YtemokelgafndpaaGreatDoorErrLaw
namespace Go.Proofs.YtemokelgafndpaaGreatDoor
set_option linter.unusedVariables false
set_option linter.unusedSimpArgs false
open Go.RowKit

theorem Bk.stepB {w wi wj : World} {B : Nat} {a n : Int} (h : Bk w B a n wi) (hb : Below (w.heap.size + 1) wi wj) : Bk w B a n wj :=
  ⟨h.bel.trans (hb.mono (by omega)), h.blk.below hb (by omega), h.txt.on (hb.mono (by have := h.le; omega)), h.le, Nat.le_trans h.sz hb.size⟩
theorem netKey_raw (net : List UInt8) (hn : net.length ≤ 100) (w : World) :
    Calls Tryz.prog 13 #[txt net] w fun e w' => e = .returned (.string (({ data := #[110, 47] } : ByteArray) ++ { data := net.toArray })) ∧ w = w' :=
  (netKey_any net hn w).mono fun e w' h => ⟨by rw [h.1]; show Ending.returned (.string ⟨([110, 47] ++ net).toArray⟩) = Ending.returned (.string ((⟨[110, 47].toArray⟩ : ByteArray) ++ ⟨net.toArray⟩)); rw [ByteArray.mk_append_mk], h.2⟩
theorem pKey_len (net : List UInt8) (a n : Nat) (hn : net.length ≤ 100) (hc : chk (a : Int) (n : Int) = 0) : (pKey net a n).length ≤ 2000 := by
  obtain ⟨g1, g2, g3, g4, _⟩ := chk_zero.1 hc
  have l1 := decDigits_len (u := n / 10) (by omega)
  have l2 := decDigits_len (u := n % 10) (by omega)
  unfold pKey
  simp only [List.length_append, List.length_cons, List.length_nil, hexL_length]
  omega

set_option maxRecDepth 100000 in
set_option maxHeartbeats 4000000 in
theorem pk_y0 (net key : List UInt8) (hs : net.length ≤ 2000000) (ht : key.length ≤ 2000000) (p n a : Int) (hk2 : (keyI key).kind = 2) (hn : nameB net = false) {B : Nat} (w : World) (hB : B ≤ w.heap.size) (hV : TxtV B w) (hK : KeyV B w) (hg : ErrVar w) :
    Calls Tryz.prog 3 #[txt net, .agg #[.int .i64 p, .int .i64 n], .int .i64 a, txt key] w fun e w' => e = .returned (.bool true) ∧ Below w.heap.size w w' := by
  have hS0 := Bk.first w p n hB hV
  have HE := Lib.hid (fun wi (h : Bk w B p n wi) => hg.belowB h.bel hg.lt)
  have HK := Lib.hid (fun wi (h : Bk w B p n wi) => hK.on (h.bel.mono h.le))
  have HN := Lib.hid hn
  have HKA := Lib.hid (kind_any key (by omega))
  have HRP := Lib.hid (fun (w_ : World) (h1 : B ≤ w_.heap.size) h2 => readPrefix_any key (by omega) w_ h1 h2)
  have hkv : KindV (keyI key) = .tuple #[.int .i64 2, txt (keyI key).net, .agg #[.int .i64 ((keyI key).pa : Int), .int .i64 ((keyI key).pn : Int)], .int .i64 ((keyI key).ad : Int)] := by unfold KindV; rw [hk2]; rfl
  have hrv : ReadPV (keyI key) = .tuple #[txt (keyI key).net, .agg #[.int .i64 ((keyI key).pa : Int), .int .i64 ((keyI key).pn : Int)], .nilIface] := by unfold ReadPV; rw [if_pos hk2]
  rw [hkv] at HKA
  rw [hrv] at HRP
  clear hkv hrv hk2
  generalize (keyI key).net = kn at *
  generalize (keyI key).pa = ka at *
  generalize (keyI key).pn = kl at *
  generalize (keyI key).ad = kd at *
  clear hV hB hg hK hn
  go_enter Tryz.func3, Tryz.ntmps3
  go_wp2_with fail
  refine (isName_txt net (by omega) _).mono ?_
  rintro e w_ ⟨rfl, rfl⟩
  rw [HN.out]
  go_wp2_with fail
  refine (name_txt net (by omega) _).mono ?_
  rintro e w1 ⟨rfl, hb1⟩
  rw [HN.out]
  have hS1 := hS0.step hb1
  clear hb1 hS0 
  rw [show NameV false = .iface 24 (.int .i64 5) from rfl]
  go_wp2_with fail
  refine (error_same 5 (by decide) _ (HE.out _ hS1)).mono ?_
  rintro e w2 ⟨rfl, hb2⟩
  have hS2 := hS1.step hb2
  clear hb2 hS1 
  go_wp2_with fail
  refine (HKA.out _).mono ?_
  rintro e w3 ⟨rfl, hb3⟩
  have hS3 := hS2.step hb3
  clear hb3 hS2 
  go_upto_region 9 with fail
  refine wp_name (fun w4 HW => ?_)
  have hS4 : Bk w B p n w4 := by rw [HW.out]; exact hS3.alloc _
  have hq4 : Blk w4 w3.heap.size 23 #[.int .i64 (ka : Int), .int .i64 (kl : Int)] := by rw [HW.out]; exact Blk.new _ _ _
  have hqg : w.heap.size < w3.heap.size := by have := hS3.sz; omega
  generalize w3.heap.size = gq at *
  clear HW hS3 
  go_wp2_with fail
  refine (HRP.out _ hS4.leI hS4.txt).mono ?_
  rintro e w5 ⟨rfl, hb5⟩
  have hS5 := hS4.step hb5
  have hq5 := hq4.below hb5 hq4.lt
  clear hb5 hS4 hq4
  go_upto_region 15 with fail
  refine wp_name (fun w6 HW => ?_)
  have hS6 : Bk w B p n w6 := by rw [HW.out]; exact hS5.alloc _
  have hq6 := hq5.to HW.out
  have hr6 : Blk w6 w5.heap.size 23 #[.int .i64 (ka : Int), .int .i64 (kl : Int)] := by rw [HW.out]; exact Blk.new _ _ _
  have hrg : w.heap.size < w5.heap.size := by have := hS5.sz; omega
  generalize w5.heap.size = gr at *
  clear HW hS5 hq5
  go_wp2_with fail
  refine (error_nil0 _ (HE.out _ hS6)).mono ?_
  rintro e w7 ⟨rfl, hb7⟩
  have hS7 := hS6.step hb7
  have hq7 := hq6.below hb7 hq6.lt
  have hr7 := hr6.below hb7 hr6.lt
  clear hb7 hS6 hq6 hr6
  obtain ⟨q0, q1, q2, q3⟩ := hq7.two
  obtain ⟨r0, r1, r2, r3⟩ := hr7.two
  have hbn : (kn == kn) = true := by simp
  go_wp2_with fail
  refine (refIs_any _ _).mono ?_
  rintro e w_ ⟨rfl, rfl⟩
  clear q0 q1 q2 q3 r0 r1 r2 r3
  generalize isA a = ia at *
  go_wp2
  go_ret
  exact ⟨rfl, hS7.bel⟩
set_option maxRecDepth 100000 in
set_option maxHeartbeats 4000000 in
theorem pk_y1 (net key : List UInt8) (hs : net.length ≤ 2000000) (ht : key.length ≤ 2000000) (p n a : Int) (hk2 : (keyI key).kind = 2) (hn : nameB net = true) (hc : chk p n ≠ 0) {B : Nat} (w : World) (hB : B ≤ w.heap.size) (hV : TxtV B w) (hK : KeyV B w) (hg : ErrVar w) :
    Calls Tryz.prog 3 #[txt net, .agg #[.int .i64 p, .int .i64 n], .int .i64 a, txt key] w fun e w' => e = .returned (.bool true) ∧ Below w.heap.size w w' := by
  have hS0 := Bk.first w p n hB hV
  have HE := Lib.hid (fun wi (h : Bk w B p n wi) => hg.belowB h.bel hg.lt)
  have HK := Lib.hid (fun wi (h : Bk w B p n wi) => hK.on (h.bel.mono h.le))
  have HN := Lib.hid hn
  have HC := Lib.hid hc
  have HKA := Lib.hid (kind_any key (by omega))
  have HRP := Lib.hid (fun (w_ : World) (h1 : B ≤ w_.heap.size) h2 => readPrefix_any key (by omega) w_ h1 h2)
  have hkv : KindV (keyI key) = .tuple #[.int .i64 2, txt (keyI key).net, .agg #[.int .i64 ((keyI key).pa : Int), .int .i64 ((keyI key).pn : Int)], .int .i64 ((keyI key).ad : Int)] := by unfold KindV; rw [hk2]; rfl
  have hrv : ReadPV (keyI key) = .tuple #[txt (keyI key).net, .agg #[.int .i64 ((keyI key).pa : Int), .int .i64 ((keyI key).pn : Int)], .nilIface] := by unfold ReadPV; rw [if_pos hk2]
  rw [hkv] at HKA
  rw [hrv] at HRP
  clear hkv hrv hk2
  generalize (keyI key).net = kn at *
  generalize (keyI key).pa = ka at *
  generalize (keyI key).pn = kl at *
  generalize (keyI key).ad = kd at *
  clear hV hB hg hK hn hc
  go_enter Tryz.func3, Tryz.ntmps3
  go_wp2_with fail
  refine (isName_txt net (by omega) _).mono ?_
  rintro e w_ ⟨rfl, rfl⟩
  rw [HN.out]
  go_wp2_with fail
  refine (name_txt net (by omega) _).mono ?_
  rintro e w1 ⟨rfl, hb1⟩
  rw [HN.out]
  have hS1 := hS0.step hb1
  clear hb1 hS0 
  rw [show NameV true = .nilIface from rfl]
  go_wp2_with fail
  refine (error_nil0 _ (HE.out _ hS1)).mono ?_
  rintro e w2 ⟨rfl, hb2⟩
  have hS2 := hS1.step hb2
  clear hb2 hS1 
  go_wp2_with fail
  refine (HKA.out _).mono ?_
  rintro e w3 ⟨rfl, hb3⟩
  have hS3 := hS2.step hb3
  clear hb3 hS2 
  go_upto_region 9 with fail
  refine wp_name (fun w4 HW => ?_)
  have hS4 : Bk w B p n w4 := by rw [HW.out]; exact hS3.alloc _
  have hq4 : Blk w4 w3.heap.size 23 #[.int .i64 (ka : Int), .int .i64 (kl : Int)] := by rw [HW.out]; exact Blk.new _ _ _
  have hqg : w.heap.size < w3.heap.size := by have := hS3.sz; omega
  generalize w3.heap.size = gq at *
  clear HW hS3 
  go_wp2_with fail
  refine (HRP.out _ hS4.leI hS4.txt).mono ?_
  rintro e w5 ⟨rfl, hb5⟩
  have hS5 := hS4.step hb5
  have hq5 := hq4.below hb5 hq4.lt
  clear hb5 hS4 hq4
  go_upto_region 15 with fail
  refine wp_name (fun w6 HW => ?_)
  have hS6 : Bk w B p n w6 := by rw [HW.out]; exact hS5.alloc _
  have hq6 := hq5.to HW.out
  have hr6 : Blk w6 w5.heap.size 23 #[.int .i64 (ka : Int), .int .i64 (kl : Int)] := by rw [HW.out]; exact Blk.new _ _ _
  have hrg : w.heap.size < w5.heap.size := by have := hS5.sz; omega
  generalize w5.heap.size = gr at *
  clear HW hS5 hq5
  go_wp2_with fail
  refine (error_nil0 _ (HE.out _ hS6)).mono ?_
  rintro e w7 ⟨rfl, hb7⟩
  have hS7 := hS6.step hb7
  have hq7 := hq6.below hb7 hq6.lt
  have hr7 := hr6.below hb7 hr6.lt
  clear hb7 hS6 hq6 hr6
  obtain ⟨q0, q1, q2, q3⟩ := hq7.two
  obtain ⟨r0, r1, r2, r3⟩ := hr7.two
  have hbn : (kn == kn) = true := by simp
  go_wp2_with fail
  refine (refIs_any _ _).mono ?_
  rintro e w_ ⟨rfl, rfl⟩
  clear q0 q1 q2 q3 r0 r1 r2 r3
  generalize isA a = ia at *
  obtain ⟨d0_0, d0_1, g0_0, g0_1⟩ := hS7.blk.two
  go_wp2_with fail
  refine (fault_any p n _).mono ?_
  rintro e w8 ⟨rfl, hb8⟩
  have hS8 := hS7.step hb8
  have hq8 := hq7.below hb8 hq7.lt
  have hr8 := hr7.below hb8 hr7.lt
  clear hb8 hS7 hq7 hr7
  clear d0_0 d0_1 g0_0 g0_1
  have hcb : (chk p n != 0) = true := by rw [bne_iff_ne]; exact HC.out
  go_wp2
  go_ret
  exact ⟨rfl, hS8.bel⟩
set_option maxRecDepth 100000 in
set_option maxHeartbeats 4000000 in
theorem pk_y2 (net key : List UInt8) (hs : net.length ≤ 2000000) (ht : key.length ≤ 2000000) (p n a : Int) (hk2 : (keyI key).kind = 2) (hn : nameB net = true) (hc : chk p n = 0) (ha : isA a = false) {B : Nat} (w : World) (hB : B ≤ w.heap.size) (hV : TxtV B w) (hK : KeyV B w) (hg : ErrVar w) :
    Calls Tryz.prog 3 #[txt net, .agg #[.int .i64 p, .int .i64 n], .int .i64 a, txt key] w fun e w' => e = .returned (.bool true) ∧ Below w.heap.size w w' := by
  have hS0 := Bk.first w p n hB hV
  have HE := Lib.hid (fun wi (h : Bk w B p n wi) => hg.belowB h.bel hg.lt)
  have HK := Lib.hid (fun wi (h : Bk w B p n wi) => hK.on (h.bel.mono h.le))
  have HN := Lib.hid hn
  have HC := Lib.hid hc
  have HA := Lib.hid ha
  obtain ⟨p0, rfl⟩ : ∃ k : Nat, p = k := ⟨p.toNat, by have := chk_zero.1 hc; omega⟩
  obtain ⟨n0, rfl⟩ : ∃ k : Nat, n = k := ⟨n.toNat, by have := chk_zero.1 hc; omega⟩
  have HKA := Lib.hid (kind_any key (by omega))
  have HRP := Lib.hid (fun (w_ : World) (h1 : B ≤ w_.heap.size) h2 => readPrefix_any key (by omega) w_ h1 h2)
  have hkv : KindV (keyI key) = .tuple #[.int .i64 2, txt (keyI key).net, .agg #[.int .i64 ((keyI key).pa : Int), .int .i64 ((keyI key).pn : Int)], .int .i64 ((keyI key).ad : Int)] := by unfold KindV; rw [hk2]; rfl
  have hrv : ReadPV (keyI key) = .tuple #[txt (keyI key).net, .agg #[.int .i64 ((keyI key).pa : Int), .int .i64 ((keyI key).pn : Int)], .nilIface] := by unfold ReadPV; rw [if_pos hk2]
  rw [hkv] at HKA
  rw [hrv] at HRP
  clear hkv hrv hk2
  generalize (keyI key).net = kn at *
  generalize (keyI key).pa = ka at *
  generalize (keyI key).pn = kl at *
  generalize (keyI key).ad = kd at *
  clear hV hB hg hK hn hc ha
  go_enter Tryz.func3, Tryz.ntmps3
  go_wp2_with fail
  refine (isName_txt net (by omega) _).mono ?_
  rintro e w_ ⟨rfl, rfl⟩
  rw [HN.out]
  go_wp2_with fail
  refine (name_txt net (by omega) _).mono ?_
  rintro e w1 ⟨rfl, hb1⟩
  rw [HN.out]
  have hS1 := hS0.step hb1
  clear hb1 hS0 
  rw [show NameV true = .nilIface from rfl]
  go_wp2_with fail
  refine (error_nil0 _ (HE.out _ hS1)).mono ?_
  rintro e w2 ⟨rfl, hb2⟩
  have hS2 := hS1.step hb2
  clear hb2 hS1 
  go_wp2_with fail
  refine (HKA.out _).mono ?_
  rintro e w3 ⟨rfl, hb3⟩
  have hS3 := hS2.step hb3
  clear hb3 hS2 
  go_upto_region 9 with fail
  refine wp_name (fun w4 HW => ?_)
  have hS4 : Bk w B (p0 : Int) (n0 : Int) w4 := by rw [HW.out]; exact hS3.alloc _
  have hq4 : Blk w4 w3.heap.size 23 #[.int .i64 (ka : Int), .int .i64 (kl : Int)] := by rw [HW.out]; exact Blk.new _ _ _
  have hqg : w.heap.size < w3.heap.size := by have := hS3.sz; omega
  generalize w3.heap.size = gq at *
  clear HW hS3 
  go_wp2_with fail
  refine (HRP.out _ hS4.leI hS4.txt).mono ?_
  rintro e w5 ⟨rfl, hb5⟩
  have hS5 := hS4.step hb5
  have hq5 := hq4.below hb5 hq4.lt
  clear hb5 hS4 hq4
  go_upto_region 15 with fail
  refine wp_name (fun w6 HW => ?_)
  have hS6 : Bk w B (p0 : Int) (n0 : Int) w6 := by rw [HW.out]; exact hS5.alloc _
  have hq6 := hq5.to HW.out
  have hr6 : Blk w6 w5.heap.size 23 #[.int .i64 (ka : Int), .int .i64 (kl : Int)] := by rw [HW.out]; exact Blk.new _ _ _
  have hrg : w.heap.size < w5.heap.size := by have := hS5.sz; omega
  generalize w5.heap.size = gr at *
  clear HW hS5 hq5
  go_wp2_with fail
  refine (error_nil0 _ (HE.out _ hS6)).mono ?_
  rintro e w7 ⟨rfl, hb7⟩
  have hS7 := hS6.step hb7
  have hq7 := hq6.below hb7 hq6.lt
  have hr7 := hr6.below hb7 hr6.lt
  clear hb7 hS6 hq6 hr6
  obtain ⟨q0, q1, q2, q3⟩ := hq7.two
  obtain ⟨r0, r1, r2, r3⟩ := hr7.two
  have hbn : (kn == kn) = true := by simp
  go_wp2_with fail
  refine (refIs_any _ _).mono ?_
  rintro e w_ ⟨rfl, rfl⟩
  rw [HA.out]
  clear q0 q1 q2 q3 r0 r1 r2 r3
  obtain ⟨d0_0, d0_1, g0_0, g0_1⟩ := hS7.blk.two
  go_wp2_with fail
  refine (fault_any (p0 : Int) (n0 : Int) _).mono ?_
  rintro e w8 ⟨rfl, hb8⟩
  have hS8 := hS7.step hb8
  have hq8 := hq7.below hb8 hq7.lt
  have hr8 := hr7.below hb8 hr7.lt
  clear hb8 hS7 hq7 hr7
  clear d0_0 d0_1 g0_0 g0_1
  rw [HC.out]
  go_wp2
  go_ret
  exact ⟨rfl, hS8.bel⟩
set_option maxRecDepth 100000 in
set_option maxHeartbeats 4000000 in
theorem pk_y3 (net key : List UInt8) (hs : net.length ≤ 2000000) (ht : key.length ≤ 2000000) (p n a : Int) (hk2 : (keyI key).kind = 2) (hn : nameB net = true) (hc : chk p n = 0) (ha : isA a = true) {B : Nat} (w : World) (hB : B ≤ w.heap.size) (hV : TxtV B w) (hK : KeyV B w) (hg : ErrVar w) :
    Calls Tryz.prog 3 #[txt net, .agg #[.int .i64 p, .int .i64 n], .int .i64 a, txt key] w fun e w' => e = .returned (.bool true) ∧ Below w.heap.size w w' := by
  have hS0 := Bk.first w p n hB hV
  have HE := Lib.hid (fun wi (h : Bk w B p n wi) => hg.belowB h.bel hg.lt)
  have HK := Lib.hid (fun wi (h : Bk w B p n wi) => hK.on (h.bel.mono h.le))
  have HN := Lib.hid hn
  have HC := Lib.hid hc
  have HA := Lib.hid ha
  obtain ⟨p0, rfl⟩ : ∃ k : Nat, p = k := ⟨p.toNat, by have := chk_zero.1 hc; omega⟩
  obtain ⟨n0, rfl⟩ : ∃ k : Nat, n = k := ⟨n.toNat, by have := chk_zero.1 hc; omega⟩
  obtain ⟨a0, rfl⟩ : ∃ k : Nat, a = k := ⟨a.toNat, by have := isA_true.1 ha; omega⟩
  have hal : a0 < 4294967296 := by have := isA_true.1 ha; omega
  have HKA := Lib.hid (kind_any key (by omega))
  have HRP := Lib.hid (fun (w_ : World) (h1 : B ≤ w_.heap.size) h2 => readPrefix_any key (by omega) w_ h1 h2)
  have hkv : KindV (keyI key) = .tuple #[.int .i64 2, txt (keyI key).net, .agg #[.int .i64 ((keyI key).pa : Int), .int .i64 ((keyI key).pn : Int)], .int .i64 ((keyI key).ad : Int)] := by unfold KindV; rw [hk2]; rfl
  have hrv : ReadPV (keyI key) = .tuple #[txt (keyI key).net, .agg #[.int .i64 ((keyI key).pa : Int), .int .i64 ((keyI key).pn : Int)], .nilIface] := by unfold ReadPV; rw [if_pos hk2]
  rw [hkv] at HKA
  rw [hrv] at HRP
  clear hkv hrv hk2
  generalize (keyI key).net = kn at *
  generalize (keyI key).pa = ka at *
  generalize (keyI key).pn = kl at *
  generalize (keyI key).ad = kd at *
  clear hV hB hg hK hn hc ha
  go_enter Tryz.func3, Tryz.ntmps3
  go_wp2_with fail
  refine (isName_txt net (by omega) _).mono ?_
  rintro e w_ ⟨rfl, rfl⟩
  rw [HN.out]
  go_wp2_with fail
  refine (name_txt net (by omega) _).mono ?_
  rintro e w1 ⟨rfl, hb1⟩
  rw [HN.out]
  have hS1 := hS0.step hb1
  clear hb1 hS0 
  rw [show NameV true = .nilIface from rfl]
  go_wp2_with fail
  refine (error_nil0 _ (HE.out _ hS1)).mono ?_
  rintro e w2 ⟨rfl, hb2⟩
  have hS2 := hS1.step hb2
  clear hb2 hS1 
  go_wp2_with fail
  refine (HKA.out _).mono ?_
  rintro e w3 ⟨rfl, hb3⟩
  have hS3 := hS2.step hb3
  clear hb3 hS2 
  go_upto_region 9 with fail
  refine wp_name (fun w4 HW => ?_)
  have hS4 : Bk w B (p0 : Int) (n0 : Int) w4 := by rw [HW.out]; exact hS3.alloc _
  have hq4 : Blk w4 w3.heap.size 23 #[.int .i64 (ka : Int), .int .i64 (kl : Int)] := by rw [HW.out]; exact Blk.new _ _ _
  have hqg : w.heap.size < w3.heap.size := by have := hS3.sz; omega
  generalize w3.heap.size = gq at *
  clear HW hS3 
  go_wp2_with fail
  refine (HRP.out _ hS4.leI hS4.txt).mono ?_
  rintro e w5 ⟨rfl, hb5⟩
  have hS5 := hS4.step hb5
  have hq5 := hq4.below hb5 hq4.lt
  clear hb5 hS4 hq4
  go_upto_region 15 with fail
  refine wp_name (fun w6 HW => ?_)
  have hS6 : Bk w B (p0 : Int) (n0 : Int) w6 := by rw [HW.out]; exact hS5.alloc _
  have hq6 := hq5.to HW.out
  have hr6 : Blk w6 w5.heap.size 23 #[.int .i64 (ka : Int), .int .i64 (kl : Int)] := by rw [HW.out]; exact Blk.new _ _ _
  have hrg : w.heap.size < w5.heap.size := by have := hS5.sz; omega
  generalize w5.heap.size = gr at *
  clear HW hS5 hq5
  go_wp2_with fail
  refine (error_nil0 _ (HE.out _ hS6)).mono ?_
  rintro e w7 ⟨rfl, hb7⟩
  have hS7 := hS6.step hb7
  have hq7 := hq6.below hb7 hq6.lt
  have hr7 := hr6.below hb7 hr6.lt
  clear hb7 hS6 hq6 hr6
  obtain ⟨q0, q1, q2, q3⟩ := hq7.two
  obtain ⟨r0, r1, r2, r3⟩ := hr7.two
  have hbn : (kn == kn) = true := by simp
  go_wp2_with fail
  refine (refIs_any _ _).mono ?_
  rintro e w_ ⟨rfl, rfl⟩
  rw [HA.out]
  clear q0 q1 q2 q3 r0 r1 r2 r3
  obtain ⟨d0_0, d0_1, g0_0, g0_1⟩ := hS7.blk.two
  go_wp2_with fail
  refine (fault_any (p0 : Int) (n0 : Int) _).mono ?_
  rintro e w8 ⟨rfl, hb8⟩
  have hS8 := hS7.step hb8
  have hq8 := hq7.below hb8 hq7.lt
  have hr8 := hr7.below hb8 hr7.lt
  clear hb8 hS7 hq7 hr7
  clear d0_0 d0_1 g0_0 g0_1
  rw [HC.out]
  have hnb := nameB_iff.1 HN.out
  have hn8 : net.length ≤ 100 := by omega
  clear hnb
  have HPK := Lib.hid (fun (w_ : World) (h1 : B ≤ w_.heap.size) h2 h3 => prefixKey_any net hn8 p0 n0 HC.out w_ h1 h2 h3)
  have HPR := Lib.hid (refPrefixKey_any net hn8 p0 n0 HC.out)
  have HAK := Lib.hid (fun (w_ : World) (h1 : B ≤ w_.heap.size) h2 => addrKey_any net hn8 a0 hal w_ h1 h2)
  have HAR := Lib.hid (refAddrKey_any net hn8 a0 hal)
  have HNK := Lib.hid (netKey_raw net hn8)
  have hpl := pKey_len net p0 n0 hn8 HC.out
  have HRQ := Lib.hid (fun (w_ : World) (h1 : B ≤ w_.heap.size) h2 => readPrefix_any (pKey net p0 n0) (by omega) w_ h1 h2)
  have hrq : ReadPV (keyI (pKey net p0 n0)) = .tuple #[txt net, .agg #[.int .i64 (p0 : Int), .int .i64 (n0 : Int)], .nilIface] := by rw [keyI_p HN.out HC.out]; rfl
  rw [hrq] at HRQ
  clear hrq
  clear hpl
  generalize pKey net p0 n0 = pk at *
  generalize aKey net a0 = ak at *
  obtain ⟨d0_0, d0_1, g0_0, g0_1⟩ := hS8.blk.two
  go_wp2_with fail
  refine (HPK.out _ hS8.leI (HK.out _ hS8) hS8.txt).mono ?_
  rintro e w9 ⟨rfl, hb9⟩
  have hS9 := hS8.step hb9
  have hq9 := hq8.below hb9 hq8.lt
  have hr9 := hr8.below hb9 hr8.lt
  clear hb9 hS8 hq8 hr8
  clear d0_0 d0_1 g0_0 g0_1
  go_wp2_with fail
  refine (HRQ.out _ hS9.leI hS9.txt).mono ?_
  rintro e w10 ⟨rfl, hb10⟩
  have hS10 := hS9.step hb10
  have hq10 := hq9.below hb10 hq9.lt
  have hr10 := hr9.below hb10 hr9.lt
  clear hb10 hS9 hq9 hr9
  obtain ⟨d0, d1, g0, g1⟩ := hr10.two
  go_upto_region 22 with fail
  refine wp_name (fun w11 HW => ?_)
  have hS11 : Bk w B (p0 : Int) (n0 : Int) w11 := by rw [HW.out]; exact (hS10.set (by exact hrg) _).set (by exact hrg) _
  have hr11 : Blk w11 gr 23 #[.int .i64 (p0 : Int), .int .i64 (n0 : Int)] := by rw [HW.out]; exact (hr10.setCell 0 _).setCell 1 _
  clear HW hS10 hr10 hq10 d0 d1 g0 g1
  obtain ⟨r0, r1, r2, r3⟩ := hr11.two
  obtain ⟨d0, d1, g0, g1⟩ := hS11.blk.two
  have hbn2 : (net == net) = true := by simp
  go_upto_region 24 with fail
  clear r0 r1 r2 r3 hbn2
  obtain ⟨k0, k1⟩ := bel2 (B := w.heap.size + 1) ⟨d0, d1⟩ (by simp)
  have hXx : ∀ x : BelW (w.heap.size + 1) w11, Bk w B (p0 : Int) (n0 : Int) x.1 := fun x => hS11.stepB x.2
  have hKx : ∀ x : BelW (w.heap.size + 1) w11, KeyV B x.1 := fun x => HK.out _ (hXx x)
  have hVx : ∀ x : BelW (w.heap.size + 1) w11, TxtV B x.1 := fun x => (hXx x).txt
  have hBx : ∀ x : BelW (w.heap.size + 1) w11, B ≤ x.1.heap.size := fun x => (hXx x).leI
  have hCx := hS11.sz
  clear d0 d1 g0 g1 hbn
  have hq1 : ¬ (9223372036854775807 < 2 + net.length) := by omega
  refine wp_region_bel (w.heap.size + 1) _ (by kernel_rfl) (by kernel_rfl) (Below.refl _ _) ?_
  repeat (go_big_quiet_step (first
      | (go_at_call 13; exact Calls.bel_same (HNK.out _))
      | (go_at_call 12; exact Calls.bel_of (v := .string ⟨pk.toArray⟩) hCx (HPK.out _ (hBx _) (hKx _) (hVx _)))
      | (go_at_call 14; exact Calls.bel_of (v := .string ⟨pk.toArray⟩) hCx (HPR.out _))
      | (go_at_call 15; exact Calls.bel_of (v := .string ⟨ak.toArray⟩) hCx (HAK.out _ (hBx _) (hKx _)))
      | (go_at_call 16; exact Calls.bel_of (v := .string ⟨ak.toArray⟩) hCx (HAR.out _))))
  refine wpQuiet_nil ?_
  intro w_ hb_
  go_wp2
  go_ret
  exact ⟨by first | rfl | simp, hS11.bel.trans (hb_.mono (by omega))⟩
set_option maxRecDepth 100000 in
set_option maxHeartbeats 4000000 in
theorem pk_n0 (net key : List UInt8) (hs : net.length ≤ 2000000) (ht : key.length ≤ 2000000) (p n a : Int) (hk2 : (keyI key).kind ≠ 2) (hn : nameB net = false) {B : Nat} (w : World) (hB : B ≤ w.heap.size) (hV : TxtV B w) (hK : KeyV B w) (hg : ErrVar w) :
    Calls Tryz.prog 3 #[txt net, .agg #[.int .i64 p, .int .i64 n], .int .i64 a, txt key] w fun e w' => e = .returned (.bool true) ∧ Below w.heap.size w w' := by
  have hS0 := Bk.first w p n hB hV
  have HE := Lib.hid (fun wi (h : Bk w B p n wi) => hg.belowB h.bel hg.lt)
  have HK := Lib.hid (fun wi (h : Bk w B p n wi) => hK.on (h.bel.mono h.le))
  have HN := Lib.hid hn
  have HKA := Lib.hid (kind_any key (by omega))
  have HRP := Lib.hid (fun (w_ : World) (h1 : B ≤ w_.heap.size) h2 => readPrefix_any key (by omega) w_ h1 h2)
  have hkv : KindV (keyI key) = .tuple #[.int .i64 ((keyI key).kind : Int), txt (keyI key).net, .agg #[.int .i64 ((keyI key).pa : Int), .int .i64 ((keyI key).pn : Int)], .int .i64 ((keyI key).ad : Int)] := rfl
  have hrv : ReadPV (keyI key) = NoPV := by unfold ReadPV; rw [if_neg hk2]; rfl
  have hkk : (((keyI key).kind : Int) != 2) = true := by rw [bne_iff_ne]; omega
  rw [hkv] at HKA
  rw [hrv] at HRP
  clear hkv hrv hk2
  generalize (keyI key).net = kn at *
  generalize (keyI key).pa = ka at *
  generalize (keyI key).pn = kl at *
  generalize (keyI key).ad = kd at *
  generalize (keyI key).kind = kk at *
  clear hV hB hg hK hn
  go_enter Tryz.func3, Tryz.ntmps3
  go_wp2_with fail
  refine (isName_txt net (by omega) _).mono ?_
  rintro e w_ ⟨rfl, rfl⟩
  rw [HN.out]
  go_wp2_with fail
  refine (name_txt net (by omega) _).mono ?_
  rintro e w1 ⟨rfl, hb1⟩
  rw [HN.out]
  have hS1 := hS0.step hb1
  clear hb1 hS0 
  rw [show NameV false = .iface 24 (.int .i64 5) from rfl]
  go_wp2_with fail
  refine (error_same 5 (by decide) _ (HE.out _ hS1)).mono ?_
  rintro e w2 ⟨rfl, hb2⟩
  have hS2 := hS1.step hb2
  clear hb2 hS1 
  go_wp2_with fail
  refine (HKA.out _).mono ?_
  rintro e w3 ⟨rfl, hb3⟩
  have hS3 := hS2.step hb3
  clear hb3 hS2 
  go_upto_region 9 with fail
  refine wp_name (fun w4 HW => ?_)
  have hS4 : Bk w B p n w4 := by rw [HW.out]; exact hS3.alloc _
  have hq4 : Blk w4 w3.heap.size 23 #[.int .i64 (ka : Int), .int .i64 (kl : Int)] := by rw [HW.out]; exact Blk.new _ _ _
  have hqg : w.heap.size < w3.heap.size := by have := hS3.sz; omega
  generalize w3.heap.size = gq at *
  clear HW hS3 
  obtain ⟨d0, d1, g0, g1⟩ := hq4.two
  go_upto_region 14 with fail
  refine wp_name (fun w5 HW => ?_)
  have hS5 : Bk w B p n w5 := by rw [HW.out]; exact (hS4.set (by exact hqg) _).set (by exact hqg) _
  have hq5 : Blk w5 gq 23 #[.int .i64 0, .int .i64 0] := by rw [HW.out]; exact (hq4.setCell 0 _).setCell 1 _
  clear HW hS4 hq4 d0 d1 g0 g1
  go_wp2_with fail
  refine (HRP.out _ hS5.leI hS5.txt).mono ?_
  rintro e w6 ⟨rfl, hb6⟩
  have hS6 := hS5.step hb6
  have hq6 := hq5.below hb6 hq5.lt
  clear hb6 hS5 hq5
  unfold NoPV
  go_upto_region 15 with fail
  refine wp_name (fun w7 HW => ?_)
  have hS7 : Bk w B p n w7 := by rw [HW.out]; exact hS6.alloc _
  have hq7 := hq6.to HW.out
  have hr7 : Blk w7 w6.heap.size 23 #[.int .i64 0, .int .i64 0] := by rw [HW.out]; exact Blk.new _ _ _
  have hrg : w.heap.size < w6.heap.size := by have := hS6.sz; omega
  generalize w6.heap.size = gr at *
  clear HW hS6 hq6
  go_wp2_with fail
  refine (error_same 5 (by decide) _ (HE.out _ hS7)).mono ?_
  rintro e w8 ⟨rfl, hb8⟩
  have hS8 := hS7.step hb8
  have hq8 := hq7.below hb8 hq7.lt
  have hr8 := hr7.below hb8 hr7.lt
  clear hb8 hS7 hq7 hr7
  obtain ⟨q0, q1, q2, q3⟩ := hq8.two
  obtain ⟨r0, r1, r2, r3⟩ := hr8.two
  skip
  go_wp2_with fail
  refine (refIs_any _ _).mono ?_
  rintro e w_ ⟨rfl, rfl⟩
  clear q0 q1 q2 q3 r0 r1 r2 r3
  generalize isA a = ia at *
  go_wp2
  go_ret
  exact ⟨rfl, hS8.bel⟩
set_option maxRecDepth 100000 in
set_option maxHeartbeats 4000000 in
theorem pk_n1 (net key : List UInt8) (hs : net.length ≤ 2000000) (ht : key.length ≤ 2000000) (p n a : Int) (hk2 : (keyI key).kind ≠ 2) (hn : nameB net = true) (hc : chk p n ≠ 0) {B : Nat} (w : World) (hB : B ≤ w.heap.size) (hV : TxtV B w) (hK : KeyV B w) (hg : ErrVar w) :
    Calls Tryz.prog 3 #[txt net, .agg #[.int .i64 p, .int .i64 n], .int .i64 a, txt key] w fun e w' => e = .returned (.bool true) ∧ Below w.heap.size w w' := by
  have hS0 := Bk.first w p n hB hV
  have HE := Lib.hid (fun wi (h : Bk w B p n wi) => hg.belowB h.bel hg.lt)
  have HK := Lib.hid (fun wi (h : Bk w B p n wi) => hK.on (h.bel.mono h.le))
  have HN := Lib.hid hn
  have HC := Lib.hid hc
  have HKA := Lib.hid (kind_any key (by omega))
  have HRP := Lib.hid (fun (w_ : World) (h1 : B ≤ w_.heap.size) h2 => readPrefix_any key (by omega) w_ h1 h2)
  have hkv : KindV (keyI key) = .tuple #[.int .i64 ((keyI key).kind : Int), txt (keyI key).net, .agg #[.int .i64 ((keyI key).pa : Int), .int .i64 ((keyI key).pn : Int)], .int .i64 ((keyI key).ad : Int)] := rfl
  have hrv : ReadPV (keyI key) = NoPV := by unfold ReadPV; rw [if_neg hk2]; rfl
  have hkk : (((keyI key).kind : Int) != 2) = true := by rw [bne_iff_ne]; omega
  rw [hkv] at HKA
  rw [hrv] at HRP
  clear hkv hrv hk2
  generalize (keyI key).net = kn at *
  generalize (keyI key).pa = ka at *
  generalize (keyI key).pn = kl at *
  generalize (keyI key).ad = kd at *
  generalize (keyI key).kind = kk at *
  clear hV hB hg hK hn hc
  go_enter Tryz.func3, Tryz.ntmps3
  go_wp2_with fail
  refine (isName_txt net (by omega) _).mono ?_
  rintro e w_ ⟨rfl, rfl⟩
  rw [HN.out]
  go_wp2_with fail
  refine (name_txt net (by omega) _).mono ?_
  rintro e w1 ⟨rfl, hb1⟩
  rw [HN.out]
  have hS1 := hS0.step hb1
  clear hb1 hS0 
  rw [show NameV true = .nilIface from rfl]
  go_wp2_with fail
  refine (error_nil0 _ (HE.out _ hS1)).mono ?_
  rintro e w2 ⟨rfl, hb2⟩
  have hS2 := hS1.step hb2
  clear hb2 hS1 
  go_wp2_with fail
  refine (HKA.out _).mono ?_
  rintro e w3 ⟨rfl, hb3⟩
  have hS3 := hS2.step hb3
  clear hb3 hS2 
  go_upto_region 9 with fail
  refine wp_name (fun w4 HW => ?_)
  have hS4 : Bk w B p n w4 := by rw [HW.out]; exact hS3.alloc _
  have hq4 : Blk w4 w3.heap.size 23 #[.int .i64 (ka : Int), .int .i64 (kl : Int)] := by rw [HW.out]; exact Blk.new _ _ _
  have hqg : w.heap.size < w3.heap.size := by have := hS3.sz; omega
  generalize w3.heap.size = gq at *
  clear HW hS3 
  obtain ⟨d0, d1, g0, g1⟩ := hq4.two
  go_upto_region 14 with fail
  refine wp_name (fun w5 HW => ?_)
  have hS5 : Bk w B p n w5 := by rw [HW.out]; exact (hS4.set (by exact hqg) _).set (by exact hqg) _
  have hq5 : Blk w5 gq 23 #[.int .i64 0, .int .i64 0] := by rw [HW.out]; exact (hq4.setCell 0 _).setCell 1 _
  clear HW hS4 hq4 d0 d1 g0 g1
  go_wp2_with fail
  refine (HRP.out _ hS5.leI hS5.txt).mono ?_
  rintro e w6 ⟨rfl, hb6⟩
  have hS6 := hS5.step hb6
  have hq6 := hq5.below hb6 hq5.lt
  clear hb6 hS5 hq5
  unfold NoPV
  go_upto_region 15 with fail
  refine wp_name (fun w7 HW => ?_)
  have hS7 : Bk w B p n w7 := by rw [HW.out]; exact hS6.alloc _
  have hq7 := hq6.to HW.out
  have hr7 : Blk w7 w6.heap.size 23 #[.int .i64 0, .int .i64 0] := by rw [HW.out]; exact Blk.new _ _ _
  have hrg : w.heap.size < w6.heap.size := by have := hS6.sz; omega
  generalize w6.heap.size = gr at *
  clear HW hS6 hq6
  go_wp2_with fail
  refine (error_same 5 (by decide) _ (HE.out _ hS7)).mono ?_
  rintro e w8 ⟨rfl, hb8⟩
  have hS8 := hS7.step hb8
  have hq8 := hq7.below hb8 hq7.lt
  have hr8 := hr7.below hb8 hr7.lt
  clear hb8 hS7 hq7 hr7
  obtain ⟨q0, q1, q2, q3⟩ := hq8.two
  obtain ⟨r0, r1, r2, r3⟩ := hr8.two
  skip
  go_wp2_with fail
  refine (refIs_any _ _).mono ?_
  rintro e w_ ⟨rfl, rfl⟩
  clear q0 q1 q2 q3 r0 r1 r2 r3
  generalize isA a = ia at *
  obtain ⟨d0_0, d0_1, g0_0, g0_1⟩ := hS8.blk.two
  go_wp2_with fail
  refine (fault_any p n _).mono ?_
  rintro e w9 ⟨rfl, hb9⟩
  have hS9 := hS8.step hb9
  have hq9 := hq8.below hb9 hq8.lt
  have hr9 := hr8.below hb9 hr8.lt
  clear hb9 hS8 hq8 hr8
  clear d0_0 d0_1 g0_0 g0_1
  have hcb : (chk p n != 0) = true := by rw [bne_iff_ne]; exact HC.out
  go_wp2
  go_ret
  exact ⟨rfl, hS9.bel⟩
set_option maxRecDepth 100000 in
set_option maxHeartbeats 4000000 in
theorem pk_n2 (net key : List UInt8) (hs : net.length ≤ 2000000) (ht : key.length ≤ 2000000) (p n a : Int) (hk2 : (keyI key).kind ≠ 2) (hn : nameB net = true) (hc : chk p n = 0) (ha : isA a = false) {B : Nat} (w : World) (hB : B ≤ w.heap.size) (hV : TxtV B w) (hK : KeyV B w) (hg : ErrVar w) :
    Calls Tryz.prog 3 #[txt net, .agg #[.int .i64 p, .int .i64 n], .int .i64 a, txt key] w fun e w' => e = .returned (.bool true) ∧ Below w.heap.size w w' := by
  have hS0 := Bk.first w p n hB hV
  have HE := Lib.hid (fun wi (h : Bk w B p n wi) => hg.belowB h.bel hg.lt)
  have HK := Lib.hid (fun wi (h : Bk w B p n wi) => hK.on (h.bel.mono h.le))
  have HN := Lib.hid hn
  have HC := Lib.hid hc
  have HA := Lib.hid ha
  obtain ⟨p0, rfl⟩ : ∃ k : Nat, p = k := ⟨p.toNat, by have := chk_zero.1 hc; omega⟩
  obtain ⟨n0, rfl⟩ : ∃ k : Nat, n = k := ⟨n.toNat, by have := chk_zero.1 hc; omega⟩
  have HKA := Lib.hid (kind_any key (by omega))
  have HRP := Lib.hid (fun (w_ : World) (h1 : B ≤ w_.heap.size) h2 => readPrefix_any key (by omega) w_ h1 h2)
  have hkv : KindV (keyI key) = .tuple #[.int .i64 ((keyI key).kind : Int), txt (keyI key).net, .agg #[.int .i64 ((keyI key).pa : Int), .int .i64 ((keyI key).pn : Int)], .int .i64 ((keyI key).ad : Int)] := rfl
  have hrv : ReadPV (keyI key) = NoPV := by unfold ReadPV; rw [if_neg hk2]; rfl
  have hkk : (((keyI key).kind : Int) != 2) = true := by rw [bne_iff_ne]; omega
  rw [hkv] at HKA
  rw [hrv] at HRP
  clear hkv hrv hk2
  generalize (keyI key).net = kn at *
  generalize (keyI key).pa = ka at *
  generalize (keyI key).pn = kl at *
  generalize (keyI key).ad = kd at *
  generalize (keyI key).kind = kk at *
  clear hV hB hg hK hn hc ha
  go_enter Tryz.func3, Tryz.ntmps3
  go_wp2_with fail
  refine (isName_txt net (by omega) _).mono ?_
  rintro e w_ ⟨rfl, rfl⟩
  rw [HN.out]
  go_wp2_with fail
  refine (name_txt net (by omega) _).mono ?_
  rintro e w1 ⟨rfl, hb1⟩
  rw [HN.out]
  have hS1 := hS0.step hb1
  clear hb1 hS0 
  rw [show NameV true = .nilIface from rfl]
  go_wp2_with fail
  refine (error_nil0 _ (HE.out _ hS1)).mono ?_
  rintro e w2 ⟨rfl, hb2⟩
  have hS2 := hS1.step hb2
  clear hb2 hS1 
  go_wp2_with fail
  refine (HKA.out _).mono ?_
  rintro e w3 ⟨rfl, hb3⟩
  have hS3 := hS2.step hb3
  clear hb3 hS2 
  go_upto_region 9 with fail
  refine wp_name (fun w4 HW => ?_)
  have hS4 : Bk w B (p0 : Int) (n0 : Int) w4 := by rw [HW.out]; exact hS3.alloc _
  have hq4 : Blk w4 w3.heap.size 23 #[.int .i64 (ka : Int), .int .i64 (kl : Int)] := by rw [HW.out]; exact Blk.new _ _ _
  have hqg : w.heap.size < w3.heap.size := by have := hS3.sz; omega
  generalize w3.heap.size = gq at *
  clear HW hS3 
  obtain ⟨d0, d1, g0, g1⟩ := hq4.two
  go_upto_region 14 with fail
  refine wp_name (fun w5 HW => ?_)
  have hS5 : Bk w B (p0 : Int) (n0 : Int) w5 := by rw [HW.out]; exact (hS4.set (by exact hqg) _).set (by exact hqg) _
  have hq5 : Blk w5 gq 23 #[.int .i64 0, .int .i64 0] := by rw [HW.out]; exact (hq4.setCell 0 _).setCell 1 _
  clear HW hS4 hq4 d0 d1 g0 g1
  go_wp2_with fail
  refine (HRP.out _ hS5.leI hS5.txt).mono ?_
  rintro e w6 ⟨rfl, hb6⟩
  have hS6 := hS5.step hb6
  have hq6 := hq5.below hb6 hq5.lt
  clear hb6 hS5 hq5
  unfold NoPV
  go_upto_region 15 with fail
  refine wp_name (fun w7 HW => ?_)
  have hS7 : Bk w B (p0 : Int) (n0 : Int) w7 := by rw [HW.out]; exact hS6.alloc _
  have hq7 := hq6.to HW.out
  have hr7 : Blk w7 w6.heap.size 23 #[.int .i64 0, .int .i64 0] := by rw [HW.out]; exact Blk.new _ _ _
  have hrg : w.heap.size < w6.heap.size := by have := hS6.sz; omega
  generalize w6.heap.size = gr at *
  clear HW hS6 hq6
  go_wp2_with fail
  refine (error_same 5 (by decide) _ (HE.out _ hS7)).mono ?_
  rintro e w8 ⟨rfl, hb8⟩
  have hS8 := hS7.step hb8
  have hq8 := hq7.below hb8 hq7.lt
  have hr8 := hr7.below hb8 hr7.lt
  clear hb8 hS7 hq7 hr7
  obtain ⟨q0, q1, q2, q3⟩ := hq8.two
  obtain ⟨r0, r1, r2, r3⟩ := hr8.two
  skip
  go_wp2_with fail
  refine (refIs_any _ _).mono ?_
  rintro e w_ ⟨rfl, rfl⟩
  rw [HA.out]
  clear q0 q1 q2 q3 r0 r1 r2 r3
  obtain ⟨d0_0, d0_1, g0_0, g0_1⟩ := hS8.blk.two
  go_wp2_with fail
  refine (fault_any (p0 : Int) (n0 : Int) _).mono ?_
  rintro e w9 ⟨rfl, hb9⟩
  have hS9 := hS8.step hb9
  have hq9 := hq8.below hb9 hq8.lt
  have hr9 := hr8.below hb9 hr8.lt
  clear hb9 hS8 hq8 hr8
  clear d0_0 d0_1 g0_0 g0_1
  rw [HC.out]
  go_wp2
  go_ret
  exact ⟨rfl, hS9.bel⟩
set_option maxRecDepth 100000 in
set_option maxHeartbeats 4000000 in
theorem pk_n3 (net key : List UInt8) (hs : net.length ≤ 2000000) (ht : key.length ≤ 2000000) (p n a : Int) (hk2 : (keyI key).kind ≠ 2) (hn : nameB net = true) (hc : chk p n = 0) (ha : isA a = true) {B : Nat} (w : World) (hB : B ≤ w.heap.size) (hV : TxtV B w) (hK : KeyV B w) (hg : ErrVar w) :
    Calls Tryz.prog 3 #[txt net, .agg #[.int .i64 p, .int .i64 n], .int .i64 a, txt key] w fun e w' => e = .returned (.bool true) ∧ Below w.heap.size w w' := by
  have hS0 := Bk.first w p n hB hV
  have HE := Lib.hid (fun wi (h : Bk w B p n wi) => hg.belowB h.bel hg.lt)
  have HK := Lib.hid (fun wi (h : Bk w B p n wi) => hK.on (h.bel.mono h.le))
  have HN := Lib.hid hn
  have HC := Lib.hid hc
  have HA := Lib.hid ha
  obtain ⟨p0, rfl⟩ : ∃ k : Nat, p = k := ⟨p.toNat, by have := chk_zero.1 hc; omega⟩
  obtain ⟨n0, rfl⟩ : ∃ k : Nat, n = k := ⟨n.toNat, by have := chk_zero.1 hc; omega⟩
  obtain ⟨a0, rfl⟩ : ∃ k : Nat, a = k := ⟨a.toNat, by have := isA_true.1 ha; omega⟩
  have hal : a0 < 4294967296 := by have := isA_true.1 ha; omega
  have HKA := Lib.hid (kind_any key (by omega))
  have HRP := Lib.hid (fun (w_ : World) (h1 : B ≤ w_.heap.size) h2 => readPrefix_any key (by omega) w_ h1 h2)
  have hkv : KindV (keyI key) = .tuple #[.int .i64 ((keyI key).kind : Int), txt (keyI key).net, .agg #[.int .i64 ((keyI key).pa : Int), .int .i64 ((keyI key).pn : Int)], .int .i64 ((keyI key).ad : Int)] := rfl
  have hrv : ReadPV (keyI key) = NoPV := by unfold ReadPV; rw [if_neg hk2]; rfl
  have hkk : (((keyI key).kind : Int) != 2) = true := by rw [bne_iff_ne]; omega
  rw [hkv] at HKA
  rw [hrv] at HRP
  clear hkv hrv hk2
  generalize (keyI key).net = kn at *
  generalize (keyI key).pa = ka at *
  generalize (keyI key).pn = kl at *
  generalize (keyI key).ad = kd at *
  generalize (keyI key).kind = kk at *
  clear hV hB hg hK hn hc ha
  go_enter Tryz.func3, Tryz.ntmps3
  go_wp2_with fail
  refine (isName_txt net (by omega) _).mono ?_
  rintro e w_ ⟨rfl, rfl⟩
  rw [HN.out]
  go_wp2_with fail
  refine (name_txt net (by omega) _).mono ?_
  rintro e w1 ⟨rfl, hb1⟩
  rw [HN.out]
  have hS1 := hS0.step hb1
  clear hb1 hS0 
  rw [show NameV true = .nilIface from rfl]
  go_wp2_with fail
  refine (error_nil0 _ (HE.out _ hS1)).mono ?_
  rintro e w2 ⟨rfl, hb2⟩
  have hS2 := hS1.step hb2
  clear hb2 hS1 
  go_wp2_with fail
  refine (HKA.out _).mono ?_
  rintro e w3 ⟨rfl, hb3⟩
  have hS3 := hS2.step hb3
  clear hb3 hS2 
  go_upto_region 9 with fail
  refine wp_name (fun w4 HW => ?_)
  have hS4 : Bk w B (p0 : Int) (n0 : Int) w4 := by rw [HW.out]; exact hS3.alloc _
  have hq4 : Blk w4 w3.heap.size 23 #[.int .i64 (ka : Int), .int .i64 (kl : Int)] := by rw [HW.out]; exact Blk.new _ _ _
  have hqg : w.heap.size < w3.heap.size := by have := hS3.sz; omega
  generalize w3.heap.size = gq at *
  clear HW hS3 
  obtain ⟨d0, d1, g0, g1⟩ := hq4.two
  go_upto_region 14 with fail
  refine wp_name (fun w5 HW => ?_)
  have hS5 : Bk w B (p0 : Int) (n0 : Int) w5 := by rw [HW.out]; exact (hS4.set (by exact hqg) _).set (by exact hqg) _
  have hq5 : Blk w5 gq 23 #[.int .i64 0, .int .i64 0] := by rw [HW.out]; exact (hq4.setCell 0 _).setCell 1 _
  clear HW hS4 hq4 d0 d1 g0 g1
  go_wp2_with fail
  refine (HRP.out _ hS5.leI hS5.txt).mono ?_
  rintro e w6 ⟨rfl, hb6⟩
  have hS6 := hS5.step hb6
  have hq6 := hq5.below hb6 hq5.lt
  clear hb6 hS5 hq5
  unfold NoPV
  go_upto_region 15 with fail
  refine wp_name (fun w7 HW => ?_)
  have hS7 : Bk w B (p0 : Int) (n0 : Int) w7 := by rw [HW.out]; exact hS6.alloc _
  have hq7 := hq6.to HW.out
  have hr7 : Blk w7 w6.heap.size 23 #[.int .i64 0, .int .i64 0] := by rw [HW.out]; exact Blk.new _ _ _
  have hrg : w.heap.size < w6.heap.size := by have := hS6.sz; omega
  generalize w6.heap.size = gr at *
  clear HW hS6 hq6
  go_wp2_with fail
  refine (error_same 5 (by decide) _ (HE.out _ hS7)).mono ?_
  rintro e w8 ⟨rfl, hb8⟩
  have hS8 := hS7.step hb8
  have hq8 := hq7.below hb8 hq7.lt
  have hr8 := hr7.below hb8 hr7.lt
  clear hb8 hS7 hq7 hr7
  obtain ⟨q0, q1, q2, q3⟩ := hq8.two
  obtain ⟨r0, r1, r2, r3⟩ := hr8.two
  skip
  go_wp2_with fail
  refine (refIs_any _ _).mono ?_
  rintro e w_ ⟨rfl, rfl⟩
  rw [HA.out]
  clear q0 q1 q2 q3 r0 r1 r2 r3
  obtain ⟨d0_0, d0_1, g0_0, g0_1⟩ := hS8.blk.two
  go_wp2_with fail
  refine (fault_any (p0 : Int) (n0 : Int) _).mono ?_
  rintro e w9 ⟨rfl, hb9⟩
  have hS9 := hS8.step hb9
  have hq9 := hq8.below hb9 hq8.lt
  have hr9 := hr8.below hb9 hr8.lt
  clear hb9 hS8 hq8 hr8
  clear d0_0 d0_1 g0_0 g0_1
  rw [HC.out]
  have hnb := nameB_iff.1 HN.out
  have hn8 : net.length ≤ 100 := by omega
  clear hnb
  have HPK := Lib.hid (fun (w_ : World) (h1 : B ≤ w_.heap.size) h2 h3 => prefixKey_any net hn8 p0 n0 HC.out w_ h1 h2 h3)
  have HPR := Lib.hid (refPrefixKey_any net hn8 p0 n0 HC.out)
  have HAK := Lib.hid (fun (w_ : World) (h1 : B ≤ w_.heap.size) h2 => addrKey_any net hn8 a0 hal w_ h1 h2)
  have HAR := Lib.hid (refAddrKey_any net hn8 a0 hal)
  have HNK := Lib.hid (netKey_raw net hn8)
  have hpl := pKey_len net p0 n0 hn8 HC.out
  have HRQ := Lib.hid (fun (w_ : World) (h1 : B ≤ w_.heap.size) h2 => readPrefix_any (pKey net p0 n0) (by omega) w_ h1 h2)
  have hrq : ReadPV (keyI (pKey net p0 n0)) = .tuple #[txt net, .agg #[.int .i64 (p0 : Int), .int .i64 (n0 : Int)], .nilIface] := by rw [keyI_p HN.out HC.out]; rfl
  rw [hrq] at HRQ
  clear hrq
  clear hpl
  generalize pKey net p0 n0 = pk at *
  generalize aKey net a0 = ak at *
  obtain ⟨d0_0, d0_1, g0_0, g0_1⟩ := hS9.blk.two
  go_wp2_with fail
  refine (HPK.out _ hS9.leI (HK.out _ hS9) hS9.txt).mono ?_
  rintro e w10 ⟨rfl, hb10⟩
  have hS10 := hS9.step hb10
  have hq10 := hq9.below hb10 hq9.lt
  have hr10 := hr9.below hb10 hr9.lt
  clear hb10 hS9 hq9 hr9
  clear d0_0 d0_1 g0_0 g0_1
  go_wp2_with fail
  refine (HRQ.out _ hS10.leI hS10.txt).mono ?_
  rintro e w11 ⟨rfl, hb11⟩
  have hS11 := hS10.step hb11
  have hq11 := hq10.below hb11 hq10.lt
  have hr11 := hr10.below hb11 hr10.lt
  clear hb11 hS10 hq10 hr10
  obtain ⟨d0, d1, g0, g1⟩ := hr11.two
  go_upto_region 22 with fail
  refine wp_name (fun w12 HW => ?_)
  have hS12 : Bk w B (p0 : Int) (n0 : Int) w12 := by rw [HW.out]; exact (hS11.set (by exact hrg) _).set (by exact hrg) _
  have hr12 : Blk w12 gr 23 #[.int .i64 (p0 : Int), .int .i64 (n0 : Int)] := by rw [HW.out]; exact (hr11.setCell 0 _).setCell 1 _
  clear HW hS11 hr11 hq11 d0 d1 g0 g1
  obtain ⟨r0, r1, r2, r3⟩ := hr12.two
  obtain ⟨d0, d1, g0, g1⟩ := hS12.blk.two
  have hbn2 : (net == net) = true := by simp
  go_upto_region 24 with fail
  clear r0 r1 r2 r3 hbn2
  obtain ⟨k0, k1⟩ := bel2 (B := w.heap.size + 1) ⟨d0, d1⟩ (by simp)
  have hXx : ∀ x : BelW (w.heap.size + 1) w12, Bk w B (p0 : Int) (n0 : Int) x.1 := fun x => hS12.stepB x.2
  have hKx : ∀ x : BelW (w.heap.size + 1) w12, KeyV B x.1 := fun x => HK.out _ (hXx x)
  have hVx : ∀ x : BelW (w.heap.size + 1) w12, TxtV B x.1 := fun x => (hXx x).txt
  have hBx : ∀ x : BelW (w.heap.size + 1) w12, B ≤ x.1.heap.size := fun x => (hXx x).leI
  have hCx := hS12.sz
  clear d0 d1 g0 g1
  have hq1 : ¬ (9223372036854775807 < 2 + net.length) := by omega
  refine wp_region_bel (w.heap.size + 1) _ (by kernel_rfl) (by kernel_rfl) (Below.refl _ _) ?_
  repeat (go_big_quiet_step (first
      | (go_at_call 13; exact Calls.bel_same (HNK.out _))
      | (go_at_call 12; exact Calls.bel_of (v := .string ⟨pk.toArray⟩) hCx (HPK.out _ (hBx _) (hKx _) (hVx _)))
      | (go_at_call 14; exact Calls.bel_of (v := .string ⟨pk.toArray⟩) hCx (HPR.out _))
      | (go_at_call 15; exact Calls.bel_of (v := .string ⟨ak.toArray⟩) hCx (HAK.out _ (hBx _) (hKx _)))
      | (go_at_call 16; exact Calls.bel_of (v := .string ⟨ak.toArray⟩) hCx (HAR.out _))))
  refine wpQuiet_nil ?_
  intro w_ hb_
  go_wp2
  go_ret
  exact ⟨by first | rfl | simp, hS12.bel.trans (hb_.mono (by omega))⟩
/-- The law's walk. -/
theorem plotKeys_any (net key : List UInt8) (hs : net.length ≤ 2000000) (ht : key.length ≤ 2000000) (p n a : Int) {B : Nat} (w : World) (hB : B ≤ w.heap.size) (hV : TxtV B w) (hK : KeyV B w) (hg : ErrVar w) :
    Calls Tryz.prog 3 #[txt net, .agg #[.int .i64 p, .int .i64 n], .int .i64 a, txt key] w fun e w' => e = .returned (.bool true) ∧ Below w.heap.size w w' := by
  by_cases hk2 : (keyI key).kind = 2
  · cases hn : nameB net with
    | false => exact pk_y0 net key hs ht p n a hk2 hn w hB hV hK hg
    | true =>
      by_cases hc : chk p n = 0
      · cases ha : isA a with
        | false => exact pk_y2 net key hs ht p n a hk2 hn hc ha w hB hV hK hg
        | true => exact pk_y3 net key hs ht p n a hk2 hn hc ha w hB hV hK hg
      · exact pk_y1 net key hs ht p n a hk2 hn hc w hB hV hK hg
  · cases hn : nameB net with
    | false => exact pk_n0 net key hs ht p n a hk2 hn w hB hV hK hg
    | true =>
      by_cases hc : chk p n = 0
      · cases ha : isA a with
        | false => exact pk_n2 net key hs ht p n a hk2 hn hc ha w hB hV hK hg
        | true => exact pk_n3 net key hs ht p n a hk2 hn hc ha w hB hV hK hg
      · exact pk_n1 net key hs ht p n a hk2 hn hc w hB hV hK hg
/-- At byte arrays. -/
theorem plotKeys_str (net key : ByteArray) (hs : net.data.toList.length ≤ 2000000) (ht : key.data.toList.length ≤ 2000000) (p n a : Int) {B : Nat} (w : World) (hB : B ≤ w.heap.size) (hV : TxtV B w) (hK : KeyV B w) (hg : ErrVar w) :
    Calls Tryz.prog 3 #[.string net, .agg #[.int .i64 p, .int .i64 n], .int .i64 a, .string key] w fun e w' => e = .returned (.bool true) ∧ Below w.heap.size w w' := by
  rw [txt_of net, txt_of key]
  exact plotKeys_any _ _ hs ht p n a w hB hV hK hg
end Go.Proofs.YtemokelgafndpaaGreatDoor
