/- The reference's Kind: any text as a key. Conditions: a bound on its length. -/
import Derived.Test.YtemokelgafndpaaGreatDoorRefKey2
import Derived.Test.YtemokelgafndpaaGreatDoorRefAddr
import Derived.Test.YtemokelgafndpaaGreatDoorPlot7
namespace Go.Proofs.YtemokelgafndpaaGreatDoor
set_option linter.unusedVariables false
set_option linter.unusedSimpArgs false
open Go.RowKit

/-- What Kind tells. -/
def KindV (k : KeyI) : Value := .tuple #[.int .i64 (k.kind : Int), txt k.net, .agg #[.int .i64 (k.pa : Int), .int .i64 (k.pn : Int)], .int .i64 (k.ad : Int)]
def NoKV : Value := .tuple #[.int .i64 0, txt [], .agg #[.int .i64 0, .int .i64 0], .int .i64 0]
theorem kindV_no : KindV keyNo = NoKV := rfl
theorem addrV_lt {x : List UInt8} {a : Nat} (h : addrV x = some a) : a < 4294967296 := by
  unfold addrV at h
  split at h
  · rename_i h8
    have := hexV_lt x 0 a h
    rw [h8] at this
    simpa using this
  · cases h
theorem hexV_lt8 {x : List UInt8} {a : Nat} (h : hexV 0 (x.take 8) = some a) : a < 4294967296 := by
  have h1 := hexV_lt _ 0 a h
  have h2 : (x.take 8).length ≤ 8 := by simp; omega
  have h3 : 16 ^ (x.take 8).length ≤ 16 ^ 8 := Nat.pow_le_pow_right (by decide) h2
  have h4 : (16 : Nat) ^ 8 = 4294967296 := by decide
  omega
/-- The parts of a key, as they lie, and the prefix that is told. -/
structure KPart (w : World) (l : List (List UInt8)) (b : Nat) (w1 : World) : Prop where
  rd : Rd w1 w1.heap.size (some ⟨b, 0, none⟩) (l.map txt)
  bp : Blk w1 w.heap.size 23 #[.int .i64 0, .int .i64 0]
  be : Below w.heap.size w w1
  hb : w.heap.size < b
  lt : b < w1.heap.size
theorem KPart.at {w w1 : World} {l : List (List UInt8)} {b : Nat} (h : KPart w l b w1) {k : Nat} {x : List UInt8} (hk : l[k]? = some x) : w1.cell? ⟨b, k, none⟩ = some (.string ⟨x.toArray⟩) := by
  obtain ⟨b', off, e, hb, hc⟩ := h.rd (fun q => by have := congrArg List.length q; simp at this; subst this; simp at hk)
  injection e with e; injection e with e1 e2
  subst e1; subst e2
  have := hc k (txt x) (by rw [List.getElem?_map, hk]; rfl)
  rwa [Nat.zero_add] at this
theorem KPart.step {w w1 w2 : World} {l : List (List UInt8)} {b : Nat} (h : KPart w l b w1) (hb : Below w1.heap.size w1 w2) : KPart w l b w2 :=
  ⟨(h.rd.below hb).more hb.size, h.bp.below hb h.bp.lt, h.be.trans (hb.mono h.be.size), h.hb, Nat.lt_of_lt_of_le h.lt hb.size⟩
theorem KPart.new {w w1 : World} {l : List (List UInt8)} {b : Nat} (h1 : w.heap.size + 1 ≤ b) (h2 : Below (w.heap.size + 1) (w.alloc (.cells #[.int .i64 0, .int .i64 0] 23)) w1) (h3 : Rd w1 w1.heap.size (some ⟨b, 0, none⟩) (l.map txt)) (hl : l ≠ []) : KPart w l b w1 := by
  refine ⟨h3, (Blk.new _ _ _).below h2 (by omega), ((Below.refl _ _).alloc (Nat.le_refl _) _).trans (h2.mono (by omega)), h1, ?_⟩
  obtain ⟨b', off, e, hb, hc⟩ := h3 (by simpa using hl)
  injection e with e; injection e with e1 e2
  omega
theorem keyW2 (k net : List UInt8) : keyW [k, net] = if nameB net = true ∧ k = [110] then ⟨1, net, 0, 0, 0⟩ else keyNo := rfl
theorem keyW_name {k net : List UInt8} {r : List (List UInt8)} (h : ¬ nameB net = true) : keyW (k :: net :: r) = keyNo := by
  match r with
  | [] => rw [keyW2, if_neg (fun q => h q.1)]
  | [x] => rw [keyW3, if_neg h]
  | _ :: _ :: _ => rfl
theorem keyW_long {k net : List UInt8} {r : List (List UInt8)} (h : 2 ≤ r.length) : keyW (k :: net :: r) = keyNo := by
  match r, h with
  | _ :: _ :: _, _ => rfl
theorem pfxV_hex {x : List UInt8} (h : hexV 0 (x.take 8) = none) : pfxV x = none := by
  unfold pfxV
  split
  · rw [h]
  · rfl
theorem pfxV_dec {x : List UInt8} {y z : UInt8} (hd : x.drop 8 = [y, z]) (h : dec2 y z = none) : pfxV x = none := by
  rw [pfxV_parts hd, h]
  cases hexV 0 (x.take 8) <;> rfl
theorem pfxV_chk {x : List UInt8} {y z : UInt8} {a n : Nat} (hd : x.drop 8 = [y, z]) (hv : hexV 0 (x.take 8) = some a) (h : dec2 y z = some n) (hc : chk (a : Int) (n : Int) ≠ 0) : pfxV x = none := by
  rw [pfxV_parts hd, h, hv]
  simp only
  rw [if_neg hc]
theorem pfxV_ok {x : List UInt8} {y z : UInt8} {a n : Nat} (hd : x.drop 8 = [y, z]) (hv : hexV 0 (x.take 8) = some a) (h : dec2 y z = some n) (hc : chk (a : Int) (n : Int) = 0) : pfxV x = some (a, n) := by
  rw [pfxV_parts hd, h, hv]
  simp only
  rw [if_pos hc]
theorem dec2_int {u v : UInt8} {n : Nat} (h : dec2 u v = some n) : (10 : Int) * ((u.toNat : Int) - 48) + ((v.toNat : Int) - 48) = (n : Int) := by
  unfold dec2 at h
  split at h
  · injection h with h; omega
  · cases h
theorem at89 {x : List UInt8} {y z : UInt8} (hx : x.length = 10) (hd : x.drop 8 = [y, z]) (h8 : 8 < (⟨x.toArray⟩ : ByteArray).size) (h9 : 9 < (⟨x.toArray⟩ : ByteArray).size) : (⟨x.toArray⟩ : ByteArray)[8] = y ∧ (⟨x.toArray⟩ : ByteArray)[9] = z := by
  have e8 : (⟨x.toArray⟩ : ByteArray)[8] = x[8]'(by omega) := rfl
  have e9 : (⟨x.toArray⟩ : ByteArray)[9] = x[9]'(by omega) := rfl
  have d8 : x[8]'(by omega) = y := by
    have : (x.drop 8)[0]? = some y := by rw [hd]; rfl
    rw [List.getElem?_drop, List.getElem?_eq_getElem (by omega)] at this
    exact Option.some.inj this
  have d9 : x[9]'(by omega) = z := by
    have : (x.drop 8)[1]? = some z := by rw [hd]; rfl
    rw [List.getElem?_drop, List.getElem?_eq_getElem (by omega)] at this
    exact Option.some.inj this
  exact ⟨e8.trans d8, e9.trans d9⟩
/-- The tenth byte of the third part, told with its neighbours. -/
theorem byte89 {x : List UInt8} {y z : UInt8} (hx : x.length = 10) (hd : x.drop 8 = [y, z]) : ∃ bx : ByteArray, (⟨x.toArray⟩ : ByteArray) = bx ∧ bx.size = 10 ∧ (bx.extract 0 8).data.toList = x.take 8 ∧ (∃ h : 8 < bx.size, bx[8]'h = y) ∧ ∃ h : 9 < bx.size, bx[9]'h = z := by
  have hs : (⟨x.toArray⟩ : ByteArray).size = 10 := by rw [data_size]; exact hx
  obtain ⟨h8, h9⟩ := at89 hx hd (by omega) (by omega)
  exact ⟨_, rfl, hs, ext_take x, ⟨by omega, h8⟩, ⟨by omega, h9⟩⟩

set_option maxRecDepth 100000 in
set_option maxHeartbeats 4000000 in
theorem kind_0 (key : List UInt8) (k : List UInt8) (hsp : splitL 47 key = [k]) (hlen : key.length ≤ 100000000000)  (w : World) :
    Calls Tryz.prog 8 #[txt key] w fun e w' => e = .returned (KindV (keyI key)) ∧ Below w.heap.size w w' := by
  have HC := Lib.hid (refSplit_otxt key 47 hlen (w.alloc (.cells #[.int .i64 0, .int .i64 0] 23)))
  have hk0 : keyI key = keyW ([k]) := by unfold keyI; rw [hsp]
  have hbnd : ∀ p ∈ [k], p.length ≤ 100000000000 := fun p hp => by have := split_len (c := 47) (s := key) (p := p) (by rw [hsp]; exact hp); omega
  rw [hk0]
  rw [hsp] at HC
  clear hk0 hsp
  have HR := Lib.hid (show KindV (keyW [k]) = NoKV from rfl)
  clear hbnd
  go_enter Tryz.func8, Tryz.ntmps8
  go_wp2_with fail
  refine HC.out.mono ?_
  rintro e w1 ⟨b, cap, rfl, hg, hbw, hrd⟩
  have hP := KPart.new (by simpa using hg) (by simpa using hbw) hrd (by simp)
  clear hg hbw hrd
  obtain ⟨e0, e1, f0, f1⟩ := hP.bp.two
  go_wp2
  refine bodyPost_ret (v := NoKV) (by simp [NoKV, results, Tryz.results8, go_sem, e0, e1]) rfl ⟨by rw [HR.out], ?_⟩
  (repeat' (first | exact hP.be | refine Below.setCell ?_ ?_ _ | refine Below.drew ?_)) <;> simp


set_option maxRecDepth 100000 in
set_option maxHeartbeats 4000000 in
theorem kind_1 (key : List UInt8) (k net : List UInt8) (r : List (List UInt8)) (hsp : splitL 47 key = k :: net :: r) (hlen : key.length ≤ 100000000000) (hn : ¬ nameB net = true) (hr : r.length ≤ 100000000000) (w : World) :
    Calls Tryz.prog 8 #[txt key] w fun e w' => e = .returned (KindV (keyI key)) ∧ Below w.heap.size w w' := by
  have HC := Lib.hid (refSplit_otxt key 47 hlen (w.alloc (.cells #[.int .i64 0, .int .i64 0] 23)))
  have hk0 : keyI key = keyW (k :: net :: r) := by unfold keyI; rw [hsp]
  have hbnd : ∀ p ∈ k :: net :: r, p.length ≤ 100000000000 := fun p hp => by have := split_len (c := 47) (s := key) (p := p) (by rw [hsp]; exact hp); omega
  rw [hk0]
  rw [hsp] at HC
  clear hk0 hsp
  have HR := Lib.hid (show KindV (keyW (k :: net :: r)) = NoKV by rw [keyW_name hn]; rfl)
  have hnl := hbnd net (by simp)
  have HNM := Lib.hid (show nameB net = false from by simpa using hn)
  have hrl : ((k :: net :: r).length : Int) = (r.length : Int) + 2 := by simp; omega
  have hg1 : decide (((k :: net :: r).length : Int) > 1) = true := by rw [hrl]; exact decide_eq_true (by omega)
  have hg2 : (1 : Int) < ((k :: net :: r).length : Int) := by rw [hrl]; omega
  clear hrl
  clear hbnd
  go_enter Tryz.func8, Tryz.ntmps8
  go_wp2_with fail
  refine HC.out.mono ?_
  rintro e w1 ⟨b, cap, rfl, hg, hbw, hrd⟩
  have hP := KPart.new (by simpa using hg) (by simpa using hbw) hrd (by simp)
  clear hg hbw hrd
  have c1 := hP.at (k := 1) (by rfl)
  go_wp2_with fail
  refine (isName_txt net hnl _).mono ?_
  rintro e w2 ⟨rfl, rfl⟩
  rw [HNM.out]
  obtain ⟨e0, e1, f0, f1⟩ := hP.bp.two
  go_wp2
  refine bodyPost_ret (v := NoKV) (by simp [NoKV, results, Tryz.results8, go_sem, e0, e1]) rfl ⟨by rw [HR.out], ?_⟩
  (repeat' (first | exact hP.be | refine Below.setCell ?_ ?_ _ | refine Below.drew ?_)) <;> simp


set_option maxRecDepth 100000 in
set_option maxHeartbeats 4000000 in
theorem kind_2 (key : List UInt8) (k net : List UInt8) (hsp : splitL 47 key = [k, net]) (hlen : key.length ≤ 100000000000) (hn : nameB net = true) (hk : k = [110]) (w : World) :
    Calls Tryz.prog 8 #[txt key] w fun e w' => e = .returned (KindV (keyI key)) ∧ Below w.heap.size w w' := by
  have HC := Lib.hid (refSplit_otxt key 47 hlen (w.alloc (.cells #[.int .i64 0, .int .i64 0] 23)))
  have hk0 : keyI key = keyW ([k, net]) := by unfold keyI; rw [hsp]
  have hbnd : ∀ p ∈ [k, net], p.length ≤ 100000000000 := fun p hp => by have := split_len (c := 47) (s := key) (p := p) (by rw [hsp]; exact hp); omega
  rw [hk0]
  rw [hsp] at HC
  clear hk0 hsp
  have HR := Lib.hid (show KindV (keyW [k, net]) = .tuple #[.int .i64 1, txt net, .agg #[.int .i64 0, .int .i64 0], .int .i64 0] by rw [keyW2, if_pos ⟨hn, hk⟩]; rfl)
  have hnl := hbnd net (by simp)
  have HNM := Lib.hid (show nameB net = true from hn)
  have b1 := bs_eq hk
  clear hk
  clear hbnd
  go_enter Tryz.func8, Tryz.ntmps8
  go_wp2_with fail
  refine HC.out.mono ?_
  rintro e w1 ⟨b, cap, rfl, hg, hbw, hrd⟩
  have hP := KPart.new (by simpa using hg) (by simpa using hbw) hrd (by simp)
  clear hg hbw hrd
  have c1 := hP.at (k := 1) (by rfl)
  go_wp2_with fail
  refine (isName_txt net hnl _).mono ?_
  rintro e w2 ⟨rfl, rfl⟩
  rw [HNM.out]
  have c0 := hP.at (k := 0) (by rfl)
  obtain ⟨e0, e1, f0, f1⟩ := hP.bp.two
  have hne : b ≠ w.heap.size := by have := hP.hb; omega
  have hne2 : w.heap.size ≠ b := by omega
  go_upto_region 6 with fail
  go_region
  go_wp2
  refine bodyPost_ret (v := .tuple #[.int .i64 1, txt net, .agg #[.int .i64 0, .int .i64 0], .int .i64 0]) (by simp [NoKV, results, Tryz.results8, go_sem, e0, e1]) rfl ⟨by rw [HR.out], ?_⟩
  (repeat' (first | exact hP.be | refine Below.setCell ?_ ?_ _ | refine Below.drew ?_)) <;> simp


set_option maxRecDepth 100000 in
set_option maxHeartbeats 4000000 in
theorem kind_3 (key : List UInt8) (k net : List UInt8) (hsp : splitL 47 key = [k, net]) (hlen : key.length ≤ 100000000000) (hn : nameB net = true) (hk : k ≠ [110]) (w : World) :
    Calls Tryz.prog 8 #[txt key] w fun e w' => e = .returned (KindV (keyI key)) ∧ Below w.heap.size w w' := by
  have HC := Lib.hid (refSplit_otxt key 47 hlen (w.alloc (.cells #[.int .i64 0, .int .i64 0] 23)))
  have hk0 : keyI key = keyW ([k, net]) := by unfold keyI; rw [hsp]
  have hbnd : ∀ p ∈ [k, net], p.length ≤ 100000000000 := fun p hp => by have := split_len (c := 47) (s := key) (p := p) (by rw [hsp]; exact hp); omega
  rw [hk0]
  rw [hsp] at HC
  clear hk0 hsp
  have HR := Lib.hid (show KindV (keyW [k, net]) = NoKV by rw [keyW2, if_neg (fun q => hk q.2)]; rfl)
  have hnl := hbnd net (by simp)
  have HNM := Lib.hid (show nameB net = true from hn)
  have b1 := bs_ne hk
  clear hk
  clear hbnd
  go_enter Tryz.func8, Tryz.ntmps8
  go_wp2_with fail
  refine HC.out.mono ?_
  rintro e w1 ⟨b, cap, rfl, hg, hbw, hrd⟩
  have hP := KPart.new (by simpa using hg) (by simpa using hbw) hrd (by simp)
  clear hg hbw hrd
  have c1 := hP.at (k := 1) (by rfl)
  go_wp2_with fail
  refine (isName_txt net hnl _).mono ?_
  rintro e w2 ⟨rfl, rfl⟩
  rw [HNM.out]
  have c0 := hP.at (k := 0) (by rfl)
  obtain ⟨e0, e1, f0, f1⟩ := hP.bp.two
  go_wp2
  refine bodyPost_ret (v := NoKV) (by simp [NoKV, results, Tryz.results8, go_sem, e0, e1]) rfl ⟨by rw [HR.out], ?_⟩
  (repeat' (first | exact hP.be | refine Below.setCell ?_ ?_ _ | refine Below.drew ?_)) <;> simp


set_option maxRecDepth 100000 in
set_option maxHeartbeats 4000000 in
theorem kind_4 (key : List UInt8) (k net : List UInt8) (r : List (List UInt8)) (hsp : splitL 47 key = k :: net :: r) (hlen : key.length ≤ 100000000000) (hn : nameB net = true) (h2 : 2 ≤ r.length) (hr : r.length ≤ 100000000000) (w : World) :
    Calls Tryz.prog 8 #[txt key] w fun e w' => e = .returned (KindV (keyI key)) ∧ Below w.heap.size w w' := by
  have HC := Lib.hid (refSplit_otxt key 47 hlen (w.alloc (.cells #[.int .i64 0, .int .i64 0] 23)))
  have hk0 : keyI key = keyW (k :: net :: r) := by unfold keyI; rw [hsp]
  have hbnd : ∀ p ∈ k :: net :: r, p.length ≤ 100000000000 := fun p hp => by have := split_len (c := 47) (s := key) (p := p) (by rw [hsp]; exact hp); omega
  rw [hk0]
  rw [hsp] at HC
  clear hk0 hsp
  have HR := Lib.hid (show KindV (keyW (k :: net :: r)) = NoKV by rw [keyW_long h2]; rfl)
  have hnl := hbnd net (by simp)
  have HNM := Lib.hid (show nameB net = true from hn)
  have hrl : ((k :: net :: r).length : Int) = (r.length : Int) + 2 := by simp; omega
  have hg1 : decide (((k :: net :: r).length : Int) > 1) = true := by rw [hrl]; exact decide_eq_true (by omega)
  have hg2 : (1 : Int) < ((k :: net :: r).length : Int) := by rw [hrl]; omega
  have hg3 : (((k :: net :: r).length : Int) == 2) = false := by rw [hrl, beq_eq_false_iff_ne]; omega
  have hg4 : (((k :: net :: r).length : Int) != 3) = true := by rw [hrl, bne_iff_ne]; omega
  clear hrl
  clear hbnd
  go_enter Tryz.func8, Tryz.ntmps8
  go_wp2_with fail
  refine HC.out.mono ?_
  rintro e w1 ⟨b, cap, rfl, hg, hbw, hrd⟩
  have hP := KPart.new (by simpa using hg) (by simpa using hbw) hrd (by simp)
  clear hg hbw hrd
  have c1 := hP.at (k := 1) (by rfl)
  go_wp2_with fail
  refine (isName_txt net hnl _).mono ?_
  rintro e w2 ⟨rfl, rfl⟩
  rw [HNM.out]
  obtain ⟨e0, e1, f0, f1⟩ := hP.bp.two
  go_wp2
  refine bodyPost_ret (v := NoKV) (by simp [NoKV, results, Tryz.results8, go_sem, e0, e1]) rfl ⟨by rw [HR.out], ?_⟩
  (repeat' (first | exact hP.be | refine Below.setCell ?_ ?_ _ | refine Below.drew ?_)) <;> simp


set_option maxRecDepth 100000 in
set_option maxHeartbeats 4000000 in
theorem kind_5 (key : List UInt8) (k net x : List UInt8) (hsp : splitL 47 key = [k, net, x]) (hlen : key.length ≤ 100000000000) (hn : nameB net = true) (hk : k = [97]) (hv : addrV x = none) (w : World) :
    Calls Tryz.prog 8 #[txt key] w fun e w' => e = .returned (KindV (keyI key)) ∧ Below w.heap.size w w' := by
  have HC := Lib.hid (refSplit_otxt key 47 hlen (w.alloc (.cells #[.int .i64 0, .int .i64 0] 23)))
  have hk0 : keyI key = keyW ([k, net, x]) := by unfold keyI; rw [hsp]
  have hbnd : ∀ p ∈ [k, net, x], p.length ≤ 100000000000 := fun p hp => by have := split_len (c := 47) (s := key) (p := p) (by rw [hsp]; exact hp); omega
  rw [hk0]
  rw [hsp] at HC
  clear hk0 hsp
  have HR := Lib.hid (show KindV (keyW [k, net, x]) = NoKV by rw [keyW3, if_pos hn, if_pos hk, hv]; rfl)
  have hnl := hbnd net (by simp)
  have HNM := Lib.hid (show nameB net = true from hn)
  have hxl := hbnd x (by simp)
  have b1 := bs_eq hk
  have HU := Lib.hid (show unhexI x = -1 by unfold unhexI; rw [hv])
  clear hk hv
  clear hbnd
  go_enter Tryz.func8, Tryz.ntmps8
  go_wp2_with fail
  refine HC.out.mono ?_
  rintro e w1 ⟨b, cap, rfl, hg, hbw, hrd⟩
  have hP := KPart.new (by simpa using hg) (by simpa using hbw) hrd (by simp)
  clear hg hbw hrd
  have c1 := hP.at (k := 1) (by rfl)
  go_wp2_with fail
  refine (isName_txt net hnl _).mono ?_
  rintro e w2 ⟨rfl, rfl⟩
  rw [HNM.out]
  have c0 := hP.at (k := 0) (by rfl)
  have c2 := hP.at (k := 2) (by rfl)
  go_wp2_with fail
  refine (unhex_txt x hxl _).mono ?_
  rintro e w3 ⟨rfl, hb3⟩
  have hP3 := hP.step hb3
  rw [HU.out]
  clear c0 c1 c2 hb3
  have c0 := hP3.at (k := 0) (by rfl)
  have c1 := hP3.at (k := 1) (by rfl)
  have c2 := hP3.at (k := 2) (by rfl)
  obtain ⟨e0, e1, f0, f1⟩ := hP3.bp.two
  go_wp2
  refine bodyPost_ret (v := NoKV) (by simp [NoKV, results, Tryz.results8, go_sem, e0, e1]) rfl ⟨by rw [HR.out], ?_⟩
  (repeat' (first | exact hP3.be | refine Below.setCell ?_ ?_ _ | refine Below.drew ?_)) <;> simp


set_option maxRecDepth 100000 in
set_option maxHeartbeats 4000000 in
theorem kind_6 (key : List UInt8) (k net x : List UInt8) (hsp : splitL 47 key = [k, net, x]) (hlen : key.length ≤ 100000000000) (hn : nameB net = true) (hk : k = [97]) (a : Nat) (hv : addrV x = some a) (w : World) :
    Calls Tryz.prog 8 #[txt key] w fun e w' => e = .returned (KindV (keyI key)) ∧ Below w.heap.size w w' := by
  have HC := Lib.hid (refSplit_otxt key 47 hlen (w.alloc (.cells #[.int .i64 0, .int .i64 0] 23)))
  have hk0 : keyI key = keyW ([k, net, x]) := by unfold keyI; rw [hsp]
  have hbnd : ∀ p ∈ [k, net, x], p.length ≤ 100000000000 := fun p hp => by have := split_len (c := 47) (s := key) (p := p) (by rw [hsp]; exact hp); omega
  rw [hk0]
  rw [hsp] at HC
  clear hk0 hsp
  have HR := Lib.hid (show KindV (keyW [k, net, x]) = .tuple #[.int .i64 3, txt net, .agg #[.int .i64 0, .int .i64 0], .int .i64 (a : Int)] by rw [keyW3, if_pos hn, if_pos hk, hv]; rfl)
  have hnl := hbnd net (by simp)
  have HNM := Lib.hid (show nameB net = true from hn)
  have hxl := hbnd x (by simp)
  have b1 := bs_eq hk
  have HU := Lib.hid (show unhexI x = (a : Int) by unfold unhexI; rw [hv])
  have ha := addrV_lt hv
  clear hk hv
  clear hbnd
  go_enter Tryz.func8, Tryz.ntmps8
  go_wp2_with fail
  refine HC.out.mono ?_
  rintro e w1 ⟨b, cap, rfl, hg, hbw, hrd⟩
  have hP := KPart.new (by simpa using hg) (by simpa using hbw) hrd (by simp)
  clear hg hbw hrd
  have c1 := hP.at (k := 1) (by rfl)
  go_wp2_with fail
  refine (isName_txt net hnl _).mono ?_
  rintro e w2 ⟨rfl, rfl⟩
  rw [HNM.out]
  have c0 := hP.at (k := 0) (by rfl)
  have c2 := hP.at (k := 2) (by rfl)
  go_wp2_with fail
  refine (unhex_txt x hxl _).mono ?_
  rintro e w3 ⟨rfl, hb3⟩
  have hP3 := hP.step hb3
  rw [HU.out]
  clear c0 c1 c2 hb3
  have c0 := hP3.at (k := 0) (by rfl)
  have c1 := hP3.at (k := 1) (by rfl)
  have c2 := hP3.at (k := 2) (by rfl)
  obtain ⟨e0, e1, f0, f1⟩ := hP3.bp.two
  have hne : b ≠ w.heap.size := by have := hP3.hb; omega
  have hne2 : w.heap.size ≠ b := by omega
  go_upto_region 13 with fail
  go_region
  go_wp2
  refine bodyPost_ret (v := .tuple #[.int .i64 3, txt net, .agg #[.int .i64 0, .int .i64 0], .int .i64 (a : Int)]) (by simp [NoKV, results, Tryz.results8, go_sem, e0, e1]) rfl ⟨by rw [HR.out], ?_⟩
  (repeat' (first | exact hP3.be | refine Below.setCell ?_ ?_ _ | refine Below.drew ?_)) <;> simp


set_option maxRecDepth 100000 in
set_option maxHeartbeats 4000000 in
theorem kind_7 (key : List UInt8) (k net x : List UInt8) (hsp : splitL 47 key = [k, net, x]) (hlen : key.length ≤ 100000000000) (hn : nameB net = true) (hk : k ≠ [97]) (hp : k ≠ [112]) (w : World) :
    Calls Tryz.prog 8 #[txt key] w fun e w' => e = .returned (KindV (keyI key)) ∧ Below w.heap.size w w' := by
  have HC := Lib.hid (refSplit_otxt key 47 hlen (w.alloc (.cells #[.int .i64 0, .int .i64 0] 23)))
  have hk0 : keyI key = keyW ([k, net, x]) := by unfold keyI; rw [hsp]
  have hbnd : ∀ p ∈ [k, net, x], p.length ≤ 100000000000 := fun p hp => by have := split_len (c := 47) (s := key) (p := p) (by rw [hsp]; exact hp); omega
  rw [hk0]
  rw [hsp] at HC
  clear hk0 hsp
  have HR := Lib.hid (show KindV (keyW [k, net, x]) = NoKV by rw [keyW3, if_pos hn, if_neg hk, if_neg hp]; rfl)
  have hnl := hbnd net (by simp)
  have HNM := Lib.hid (show nameB net = true from hn)
  have b1 := bs_ne hk
  have b2 := bs_ne hp
  have b3 : (k != [112]) = true := by rw [bne_iff_ne]; exact hp
  clear hk hp
  clear hbnd
  go_enter Tryz.func8, Tryz.ntmps8
  go_wp2_with fail
  refine HC.out.mono ?_
  rintro e w1 ⟨b, cap, rfl, hg, hbw, hrd⟩
  have hP := KPart.new (by simpa using hg) (by simpa using hbw) hrd (by simp)
  clear hg hbw hrd
  have c1 := hP.at (k := 1) (by rfl)
  go_wp2_with fail
  refine (isName_txt net hnl _).mono ?_
  rintro e w2 ⟨rfl, rfl⟩
  rw [HNM.out]
  have c0 := hP.at (k := 0) (by rfl)
  have c2 := hP.at (k := 2) (by rfl)
  obtain ⟨e0, e1, f0, f1⟩ := hP.bp.two
  go_wp2
  refine bodyPost_ret (v := NoKV) (by simp [NoKV, results, Tryz.results8, go_sem, e0, e1]) rfl ⟨by rw [HR.out], ?_⟩
  (repeat' (first | exact hP.be | refine Below.setCell ?_ ?_ _ | refine Below.drew ?_)) <;> simp


set_option maxRecDepth 100000 in
set_option maxHeartbeats 4000000 in
theorem kind_8 (key : List UInt8) (k net x : List UInt8) (hsp : splitL 47 key = [k, net, x]) (hlen : key.length ≤ 100000000000) (hn : nameB net = true) (hp : k = [112]) (hx : x.length ≠ 10) (w : World) :
    Calls Tryz.prog 8 #[txt key] w fun e w' => e = .returned (KindV (keyI key)) ∧ Below w.heap.size w w' := by
  have HC := Lib.hid (refSplit_otxt key 47 hlen (w.alloc (.cells #[.int .i64 0, .int .i64 0] 23)))
  have hk0 : keyI key = keyW ([k, net, x]) := by unfold keyI; rw [hsp]
  have hbnd : ∀ p ∈ [k, net, x], p.length ≤ 100000000000 := fun p hp => by have := split_len (c := 47) (s := key) (p := p) (by rw [hsp]; exact hp); omega
  rw [hk0]
  rw [hsp] at HC
  clear hk0 hsp
  have HR := Lib.hid (show KindV (keyW [k, net, x]) = NoKV by rw [keyW3, if_pos hn, if_neg (by rw [hp]; decide), if_pos hp, pfxV_ten hx]; rfl)
  have hnl := hbnd net (by simp)
  have HNM := Lib.hid (show nameB net = true from hn)
  have b1 := bs_ne (show k ≠ [97] by rw [hp]; decide)
  have b2 := bs_eq hp
  have b3 : (k != [112]) = false := by rw [hp]; rfl
  have hx8 : ((x.length : Int) != 10) = true := by rw [bne_iff_ne]; omega
  clear hp hx
  clear hbnd
  go_enter Tryz.func8, Tryz.ntmps8
  go_wp2_with fail
  refine HC.out.mono ?_
  rintro e w1 ⟨b, cap, rfl, hg, hbw, hrd⟩
  have hP := KPart.new (by simpa using hg) (by simpa using hbw) hrd (by simp)
  clear hg hbw hrd
  have c1 := hP.at (k := 1) (by rfl)
  go_wp2_with fail
  refine (isName_txt net hnl _).mono ?_
  rintro e w2 ⟨rfl, rfl⟩
  rw [HNM.out]
  have c0 := hP.at (k := 0) (by rfl)
  have c2 := hP.at (k := 2) (by rfl)
  obtain ⟨e0, e1, f0, f1⟩ := hP.bp.two
  go_wp2
  refine bodyPost_ret (v := NoKV) (by simp [NoKV, results, Tryz.results8, go_sem, e0, e1]) rfl ⟨by rw [HR.out], ?_⟩
  (repeat' (first | exact hP.be | refine Below.setCell ?_ ?_ _ | refine Below.drew ?_)) <;> simp


set_option maxRecDepth 100000 in
set_option maxHeartbeats 4000000 in
theorem kind_9 (key : List UInt8) (k net x : List UInt8) (hsp : splitL 47 key = [k, net, x]) (hlen : key.length ≤ 100000000000) (hn : nameB net = true) (hp : k = [112]) (hx : x.length = 10) (y z : UInt8) (hdr : x.drop 8 = [y, z]) (hv : hexV 0 (x.take 8) = none) (w : World) :
    Calls Tryz.prog 8 #[txt key] w fun e w' => e = .returned (KindV (keyI key)) ∧ Below w.heap.size w w' := by
  have HC := Lib.hid (refSplit_otxt key 47 hlen (w.alloc (.cells #[.int .i64 0, .int .i64 0] 23)))
  have hk0 : keyI key = keyW ([k, net, x]) := by unfold keyI; rw [hsp]
  have hbnd : ∀ p ∈ [k, net, x], p.length ≤ 100000000000 := fun p hp => by have := split_len (c := 47) (s := key) (p := p) (by rw [hsp]; exact hp); omega
  rw [hk0]
  rw [hsp] at HC
  clear hk0 hsp
  have HR := Lib.hid (show KindV (keyW [k, net, x]) = NoKV by rw [keyW3, if_pos hn, if_neg (by rw [hp]; decide), if_pos hp, pfxV_hex hv]; rfl)
  have hnl := hbnd net (by simp)
  have HNM := Lib.hid (show nameB net = true from hn)
  have b1 := bs_ne (show k ≠ [97] by rw [hp]; decide)
  have b2 := bs_eq hp
  have b3 : (k != [112]) = false := by rw [hp]; rfl
  have hx8 : ((x.length : Int) != 10) = false := by rw [hx]; rfl
  obtain ⟨bx, hbx, hbs, hbt, ⟨h8, hy⟩, h9, hz⟩ := byte89 hx hdr
  have HBX := Lib.hid hbx
  have HBS := Lib.hid hbs
  have hun := unhex_any (bx.extract 0 8) (by rw [ByteArray.size_extract, hbs]; decide)
  rw [hbt] at hun
  have HUN := Lib.hid hun
  have h8i : (8 : Int) ≤ (bx.size : Int) := by omega
  have HU := Lib.hid (show unhexI (x.take 8) = -1 from unhexI_none hv)
  clear hv hy hz
  clear hp hx hbx hbs hbt hun hdr
  clear hbnd
  go_enter Tryz.func8, Tryz.ntmps8
  go_wp2_with fail
  refine HC.out.mono ?_
  rintro e w1 ⟨b, cap, rfl, hg, hbw, hrd⟩
  have hP := KPart.new (by simpa using hg) (by simpa using hbw) hrd (by simp)
  clear hg hbw hrd
  have c1 := hP.at (k := 1) (by rfl)
  go_wp2_with fail
  refine (isName_txt net hnl _).mono ?_
  rintro e w2 ⟨rfl, rfl⟩
  rw [HNM.out]
  have c0 := hP.at (k := 0) (by rfl)
  have c2 := hP.at (k := 2) (by rfl)
  go_upto_region 16 with fail
  rw [HBX.out] at c2
  go_wp2_with fail
  refine (HUN.out _).mono ?_
  rintro e w3 ⟨rfl, hb3⟩
  have hP3 := hP.step hb3
  rw [HU.out]
  clear c0 c1 c2 hb3
  have c0 := hP3.at (k := 0) (by rfl)
  have c1 := hP3.at (k := 1) (by rfl)
  have c2 := hP3.at (k := 2) (by rfl)
  rw [HBX.out] at c2
  obtain ⟨e0, e1, f0, f1⟩ := hP3.bp.two
  go_wp2
  refine bodyPost_ret (v := NoKV) (by simp [NoKV, results, Tryz.results8, go_sem, e0, e1]) rfl ⟨by rw [HR.out], ?_⟩
  (repeat' (first | exact hP3.be | refine Below.setCell ?_ ?_ _ | refine Below.drew ?_)) <;> simp


set_option maxRecDepth 100000 in
set_option maxHeartbeats 4000000 in
theorem kind_10 (key : List UInt8) (k net x : List UInt8) (hsp : splitL 47 key = [k, net, x]) (hlen : key.length ≤ 100000000000) (hn : nameB net = true) (hp : k = [112]) (hx : x.length = 10) (y z : UInt8) (hdr : x.drop 8 = [y, z]) (a : Nat) (hv : hexV 0 (x.take 8) = some a) (hq : y.toNat < 48) (w : World) :
    Calls Tryz.prog 8 #[txt key] w fun e w' => e = .returned (KindV (keyI key)) ∧ Below w.heap.size w w' := by
  have HC := Lib.hid (refSplit_otxt key 47 hlen (w.alloc (.cells #[.int .i64 0, .int .i64 0] 23)))
  have hk0 : keyI key = keyW ([k, net, x]) := by unfold keyI; rw [hsp]
  have hbnd : ∀ p ∈ [k, net, x], p.length ≤ 100000000000 := fun p hp => by have := split_len (c := 47) (s := key) (p := p) (by rw [hsp]; exact hp); omega
  rw [hk0]
  rw [hsp] at HC
  clear hk0 hsp
  have HR := Lib.hid (show KindV (keyW [k, net, x]) = NoKV by rw [keyW3, if_pos hn, if_neg (by rw [hp]; decide), if_pos hp, pfxV_dec hdr (by unfold dec2; rw [if_neg (by omega)])]; rfl)
  have hnl := hbnd net (by simp)
  have HNM := Lib.hid (show nameB net = true from hn)
  have b1 := bs_ne (show k ≠ [97] by rw [hp]; decide)
  have b2 := bs_eq hp
  have b3 : (k != [112]) = false := by rw [hp]; rfl
  have hx8 : ((x.length : Int) != 10) = false := by rw [hx]; rfl
  obtain ⟨bx, hbx, hbs, hbt, ⟨h8, hy⟩, h9, hz⟩ := byte89 hx hdr
  have HBX := Lib.hid hbx
  have HBS := Lib.hid hbs
  have hun := unhex_any (bx.extract 0 8) (by rw [ByteArray.size_extract, hbs]; decide)
  rw [hbt] at hun
  have HUN := Lib.hid hun
  have h8i : (8 : Int) ≤ (bx.size : Int) := by omega
  have HU := Lib.hid (show unhexI (x.take 8) = (a : Int) from unhexI_some (by simp; omega) hv)
  have ha := hexV_lt8 hv
  have g1 : (bx[8].toNat : Int) < 48 := by rw [hy]; omega
  clear hv hy hz hq
  clear hp hx hbx hbs hbt hun hdr
  clear hbnd
  go_enter Tryz.func8, Tryz.ntmps8
  go_wp2_with fail
  refine HC.out.mono ?_
  rintro e w1 ⟨b, cap, rfl, hg, hbw, hrd⟩
  have hP := KPart.new (by simpa using hg) (by simpa using hbw) hrd (by simp)
  clear hg hbw hrd
  have c1 := hP.at (k := 1) (by rfl)
  go_wp2_with fail
  refine (isName_txt net hnl _).mono ?_
  rintro e w2 ⟨rfl, rfl⟩
  rw [HNM.out]
  have c0 := hP.at (k := 0) (by rfl)
  have c2 := hP.at (k := 2) (by rfl)
  go_upto_region 16 with fail
  rw [HBX.out] at c2
  go_wp2_with fail
  refine (HUN.out _).mono ?_
  rintro e w3 ⟨rfl, hb3⟩
  have hP3 := hP.step hb3
  rw [HU.out]
  clear c0 c1 c2 hb3
  have c0 := hP3.at (k := 0) (by rfl)
  have c1 := hP3.at (k := 1) (by rfl)
  have c2 := hP3.at (k := 2) (by rfl)
  rw [HBX.out] at c2
  obtain ⟨e0, e1, f0, f1⟩ := hP3.bp.two
  go_wp2
  refine bodyPost_ret (v := NoKV) (by simp [NoKV, results, Tryz.results8, go_sem, e0, e1]) rfl ⟨by rw [HR.out], ?_⟩
  (repeat' (first | exact hP3.be | refine Below.setCell ?_ ?_ _ | refine Below.drew ?_)) <;> simp


set_option maxRecDepth 100000 in
set_option maxHeartbeats 4000000 in
theorem kind_11 (key : List UInt8) (k net x : List UInt8) (hsp : splitL 47 key = [k, net, x]) (hlen : key.length ≤ 100000000000) (hn : nameB net = true) (hp : k = [112]) (hx : x.length = 10) (y z : UInt8) (hdr : x.drop 8 = [y, z]) (a : Nat) (hv : hexV 0 (x.take 8) = some a) (hq0 : 48 ≤ y.toNat) (hq : 57 < y.toNat) (w : World) :
    Calls Tryz.prog 8 #[txt key] w fun e w' => e = .returned (KindV (keyI key)) ∧ Below w.heap.size w w' := by
  have HC := Lib.hid (refSplit_otxt key 47 hlen (w.alloc (.cells #[.int .i64 0, .int .i64 0] 23)))
  have hk0 : keyI key = keyW ([k, net, x]) := by unfold keyI; rw [hsp]
  have hbnd : ∀ p ∈ [k, net, x], p.length ≤ 100000000000 := fun p hp => by have := split_len (c := 47) (s := key) (p := p) (by rw [hsp]; exact hp); omega
  rw [hk0]
  rw [hsp] at HC
  clear hk0 hsp
  have HR := Lib.hid (show KindV (keyW [k, net, x]) = NoKV by rw [keyW3, if_pos hn, if_neg (by rw [hp]; decide), if_pos hp, pfxV_dec hdr (by unfold dec2; rw [if_neg (by omega)])]; rfl)
  have hnl := hbnd net (by simp)
  have HNM := Lib.hid (show nameB net = true from hn)
  have b1 := bs_ne (show k ≠ [97] by rw [hp]; decide)
  have b2 := bs_eq hp
  have b3 : (k != [112]) = false := by rw [hp]; rfl
  have hx8 : ((x.length : Int) != 10) = false := by rw [hx]; rfl
  obtain ⟨bx, hbx, hbs, hbt, ⟨h8, hy⟩, h9, hz⟩ := byte89 hx hdr
  have HBX := Lib.hid hbx
  have HBS := Lib.hid hbs
  have hun := unhex_any (bx.extract 0 8) (by rw [ByteArray.size_extract, hbs]; decide)
  rw [hbt] at hun
  have HUN := Lib.hid hun
  have h8i : (8 : Int) ≤ (bx.size : Int) := by omega
  have HU := Lib.hid (show unhexI (x.take 8) = (a : Int) from unhexI_some (by simp; omega) hv)
  have ha := hexV_lt8 hv
  have g0 : ¬ (bx[8].toNat : Int) < 48 := by rw [hy]; omega
  have g1 : (bx[8].toNat : Int) > 57 := by rw [hy]; omega
  clear hv hy hz hq hq0
  clear hp hx hbx hbs hbt hun hdr
  clear hbnd
  go_enter Tryz.func8, Tryz.ntmps8
  go_wp2_with fail
  refine HC.out.mono ?_
  rintro e w1 ⟨b, cap, rfl, hg, hbw, hrd⟩
  have hP := KPart.new (by simpa using hg) (by simpa using hbw) hrd (by simp)
  clear hg hbw hrd
  have c1 := hP.at (k := 1) (by rfl)
  go_wp2_with fail
  refine (isName_txt net hnl _).mono ?_
  rintro e w2 ⟨rfl, rfl⟩
  rw [HNM.out]
  have c0 := hP.at (k := 0) (by rfl)
  have c2 := hP.at (k := 2) (by rfl)
  go_upto_region 16 with fail
  rw [HBX.out] at c2
  go_wp2_with fail
  refine (HUN.out _).mono ?_
  rintro e w3 ⟨rfl, hb3⟩
  have hP3 := hP.step hb3
  rw [HU.out]
  clear c0 c1 c2 hb3
  have c0 := hP3.at (k := 0) (by rfl)
  have c1 := hP3.at (k := 1) (by rfl)
  have c2 := hP3.at (k := 2) (by rfl)
  rw [HBX.out] at c2
  obtain ⟨e0, e1, f0, f1⟩ := hP3.bp.two
  go_wp2
  refine bodyPost_ret (v := NoKV) (by simp [NoKV, results, Tryz.results8, go_sem, e0, e1]) rfl ⟨by rw [HR.out], ?_⟩
  (repeat' (first | exact hP3.be | refine Below.setCell ?_ ?_ _ | refine Below.drew ?_)) <;> simp


set_option maxRecDepth 100000 in
set_option maxHeartbeats 4000000 in
theorem kind_12 (key : List UInt8) (k net x : List UInt8) (hsp : splitL 47 key = [k, net, x]) (hlen : key.length ≤ 100000000000) (hn : nameB net = true) (hp : k = [112]) (hx : x.length = 10) (y z : UInt8) (hdr : x.drop 8 = [y, z]) (a : Nat) (hv : hexV 0 (x.take 8) = some a) (hq0 : 48 ≤ y.toNat) (hq1 : y.toNat ≤ 57) (hq : z.toNat < 48) (w : World) :
    Calls Tryz.prog 8 #[txt key] w fun e w' => e = .returned (KindV (keyI key)) ∧ Below w.heap.size w w' := by
  have HC := Lib.hid (refSplit_otxt key 47 hlen (w.alloc (.cells #[.int .i64 0, .int .i64 0] 23)))
  have hk0 : keyI key = keyW ([k, net, x]) := by unfold keyI; rw [hsp]
  have hbnd : ∀ p ∈ [k, net, x], p.length ≤ 100000000000 := fun p hp => by have := split_len (c := 47) (s := key) (p := p) (by rw [hsp]; exact hp); omega
  rw [hk0]
  rw [hsp] at HC
  clear hk0 hsp
  have HR := Lib.hid (show KindV (keyW [k, net, x]) = NoKV by rw [keyW3, if_pos hn, if_neg (by rw [hp]; decide), if_pos hp, pfxV_dec hdr (by unfold dec2; rw [if_neg (by omega)])]; rfl)
  have hnl := hbnd net (by simp)
  have HNM := Lib.hid (show nameB net = true from hn)
  have b1 := bs_ne (show k ≠ [97] by rw [hp]; decide)
  have b2 := bs_eq hp
  have b3 : (k != [112]) = false := by rw [hp]; rfl
  have hx8 : ((x.length : Int) != 10) = false := by rw [hx]; rfl
  obtain ⟨bx, hbx, hbs, hbt, ⟨h8, hy⟩, h9, hz⟩ := byte89 hx hdr
  have HBX := Lib.hid hbx
  have HBS := Lib.hid hbs
  have hun := unhex_any (bx.extract 0 8) (by rw [ByteArray.size_extract, hbs]; decide)
  rw [hbt] at hun
  have HUN := Lib.hid hun
  have h8i : (8 : Int) ≤ (bx.size : Int) := by omega
  have HU := Lib.hid (show unhexI (x.take 8) = (a : Int) from unhexI_some (by simp; omega) hv)
  have ha := hexV_lt8 hv
  have g0 : ¬ (bx[8].toNat : Int) < 48 := by rw [hy]; omega
  have g1 : ¬ (bx[8].toNat : Int) > 57 := by rw [hy]; omega
  have g2 : (bx[9].toNat : Int) < 48 := by rw [hz]; omega
  clear hv hy hz hq hq0 hq1
  clear hp hx hbx hbs hbt hun hdr
  clear hbnd
  go_enter Tryz.func8, Tryz.ntmps8
  go_wp2_with fail
  refine HC.out.mono ?_
  rintro e w1 ⟨b, cap, rfl, hg, hbw, hrd⟩
  have hP := KPart.new (by simpa using hg) (by simpa using hbw) hrd (by simp)
  clear hg hbw hrd
  have c1 := hP.at (k := 1) (by rfl)
  go_wp2_with fail
  refine (isName_txt net hnl _).mono ?_
  rintro e w2 ⟨rfl, rfl⟩
  rw [HNM.out]
  have c0 := hP.at (k := 0) (by rfl)
  have c2 := hP.at (k := 2) (by rfl)
  go_upto_region 16 with fail
  rw [HBX.out] at c2
  go_wp2_with fail
  refine (HUN.out _).mono ?_
  rintro e w3 ⟨rfl, hb3⟩
  have hP3 := hP.step hb3
  rw [HU.out]
  clear c0 c1 c2 hb3
  have c0 := hP3.at (k := 0) (by rfl)
  have c1 := hP3.at (k := 1) (by rfl)
  have c2 := hP3.at (k := 2) (by rfl)
  rw [HBX.out] at c2
  obtain ⟨e0, e1, f0, f1⟩ := hP3.bp.two
  go_wp2
  refine bodyPost_ret (v := NoKV) (by simp [NoKV, results, Tryz.results8, go_sem, e0, e1]) rfl ⟨by rw [HR.out], ?_⟩
  (repeat' (first | exact hP3.be | refine Below.setCell ?_ ?_ _ | refine Below.drew ?_)) <;> simp


set_option maxRecDepth 100000 in
set_option maxHeartbeats 4000000 in
theorem kind_13 (key : List UInt8) (k net x : List UInt8) (hsp : splitL 47 key = [k, net, x]) (hlen : key.length ≤ 100000000000) (hn : nameB net = true) (hp : k = [112]) (hx : x.length = 10) (y z : UInt8) (hdr : x.drop 8 = [y, z]) (a : Nat) (hv : hexV 0 (x.take 8) = some a) (hq0 : 48 ≤ y.toNat) (hq1 : y.toNat ≤ 57) (hq2 : 48 ≤ z.toNat) (hq : 57 < z.toNat) (w : World) :
    Calls Tryz.prog 8 #[txt key] w fun e w' => e = .returned (KindV (keyI key)) ∧ Below w.heap.size w w' := by
  have HC := Lib.hid (refSplit_otxt key 47 hlen (w.alloc (.cells #[.int .i64 0, .int .i64 0] 23)))
  have hk0 : keyI key = keyW ([k, net, x]) := by unfold keyI; rw [hsp]
  have hbnd : ∀ p ∈ [k, net, x], p.length ≤ 100000000000 := fun p hp => by have := split_len (c := 47) (s := key) (p := p) (by rw [hsp]; exact hp); omega
  rw [hk0]
  rw [hsp] at HC
  clear hk0 hsp
  have HR := Lib.hid (show KindV (keyW [k, net, x]) = NoKV by rw [keyW3, if_pos hn, if_neg (by rw [hp]; decide), if_pos hp, pfxV_dec hdr (by unfold dec2; rw [if_neg (by omega)])]; rfl)
  have hnl := hbnd net (by simp)
  have HNM := Lib.hid (show nameB net = true from hn)
  have b1 := bs_ne (show k ≠ [97] by rw [hp]; decide)
  have b2 := bs_eq hp
  have b3 : (k != [112]) = false := by rw [hp]; rfl
  have hx8 : ((x.length : Int) != 10) = false := by rw [hx]; rfl
  obtain ⟨bx, hbx, hbs, hbt, ⟨h8, hy⟩, h9, hz⟩ := byte89 hx hdr
  have HBX := Lib.hid hbx
  have HBS := Lib.hid hbs
  have hun := unhex_any (bx.extract 0 8) (by rw [ByteArray.size_extract, hbs]; decide)
  rw [hbt] at hun
  have HUN := Lib.hid hun
  have h8i : (8 : Int) ≤ (bx.size : Int) := by omega
  have HU := Lib.hid (show unhexI (x.take 8) = (a : Int) from unhexI_some (by simp; omega) hv)
  have ha := hexV_lt8 hv
  have g0 : ¬ (bx[8].toNat : Int) < 48 := by rw [hy]; omega
  have g1 : ¬ (bx[8].toNat : Int) > 57 := by rw [hy]; omega
  have g2 : ¬ (bx[9].toNat : Int) < 48 := by rw [hz]; omega
  have g3 : (bx[9].toNat : Int) > 57 := by rw [hz]; omega
  clear hv hy hz hq hq0 hq1 hq2
  clear hp hx hbx hbs hbt hun hdr
  clear hbnd
  go_enter Tryz.func8, Tryz.ntmps8
  go_wp2_with fail
  refine HC.out.mono ?_
  rintro e w1 ⟨b, cap, rfl, hg, hbw, hrd⟩
  have hP := KPart.new (by simpa using hg) (by simpa using hbw) hrd (by simp)
  clear hg hbw hrd
  have c1 := hP.at (k := 1) (by rfl)
  go_wp2_with fail
  refine (isName_txt net hnl _).mono ?_
  rintro e w2 ⟨rfl, rfl⟩
  rw [HNM.out]
  have c0 := hP.at (k := 0) (by rfl)
  have c2 := hP.at (k := 2) (by rfl)
  go_upto_region 16 with fail
  rw [HBX.out] at c2
  go_wp2_with fail
  refine (HUN.out _).mono ?_
  rintro e w3 ⟨rfl, hb3⟩
  have hP3 := hP.step hb3
  rw [HU.out]
  clear c0 c1 c2 hb3
  have c0 := hP3.at (k := 0) (by rfl)
  have c1 := hP3.at (k := 1) (by rfl)
  have c2 := hP3.at (k := 2) (by rfl)
  rw [HBX.out] at c2
  obtain ⟨e0, e1, f0, f1⟩ := hP3.bp.two
  go_wp2
  refine bodyPost_ret (v := NoKV) (by simp [NoKV, results, Tryz.results8, go_sem, e0, e1]) rfl ⟨by rw [HR.out], ?_⟩
  (repeat' (first | exact hP3.be | refine Below.setCell ?_ ?_ _ | refine Below.drew ?_)) <;> simp


set_option maxRecDepth 100000 in
set_option maxHeartbeats 4000000 in
theorem kind_14 (key : List UInt8) (k net x : List UInt8) (hsp : splitL 47 key = [k, net, x]) (hlen : key.length ≤ 100000000000) (hn : nameB net = true) (hp : k = [112]) (hx : x.length = 10) (y z : UInt8) (hdr : x.drop 8 = [y, z]) (a : Nat) (hv : hexV 0 (x.take 8) = some a) (hq0 : 48 ≤ y.toNat) (hq1 : y.toNat ≤ 57) (hq2 : 48 ≤ z.toNat) (hq3 : z.toNat ≤ 57) (n : Nat) (hd : dec2 y z = some n) (hc : chk (a : Int) (n : Int) ≠ 0) (w : World) :
    Calls Tryz.prog 8 #[txt key] w fun e w' => e = .returned (KindV (keyI key)) ∧ Below w.heap.size w w' := by
  have HC := Lib.hid (refSplit_otxt key 47 hlen (w.alloc (.cells #[.int .i64 0, .int .i64 0] 23)))
  have hk0 : keyI key = keyW ([k, net, x]) := by unfold keyI; rw [hsp]
  have hbnd : ∀ p ∈ [k, net, x], p.length ≤ 100000000000 := fun p hp => by have := split_len (c := 47) (s := key) (p := p) (by rw [hsp]; exact hp); omega
  rw [hk0]
  rw [hsp] at HC
  clear hk0 hsp
  have HR := Lib.hid (show KindV (keyW [k, net, x]) = NoKV by rw [keyW3, if_pos hn, if_neg (by rw [hp]; decide), if_pos hp, pfxV_chk hdr hv hd hc]; rfl)
  have hnl := hbnd net (by simp)
  have HNM := Lib.hid (show nameB net = true from hn)
  have b1 := bs_ne (show k ≠ [97] by rw [hp]; decide)
  have b2 := bs_eq hp
  have b3 : (k != [112]) = false := by rw [hp]; rfl
  have hx8 : ((x.length : Int) != 10) = false := by rw [hx]; rfl
  obtain ⟨bx, hbx, hbs, hbt, ⟨h8, hy⟩, h9, hz⟩ := byte89 hx hdr
  have HBX := Lib.hid hbx
  have HBS := Lib.hid hbs
  have hun := unhex_any (bx.extract 0 8) (by rw [ByteArray.size_extract, hbs]; decide)
  rw [hbt] at hun
  have HUN := Lib.hid hun
  have h8i : (8 : Int) ≤ (bx.size : Int) := by omega
  have HU := Lib.hid (show unhexI (x.take 8) = (a : Int) from unhexI_some (by simp; omega) hv)
  have ha := hexV_lt8 hv
  have g0 : (48 : Int) ≤ (bx[8].toNat : Int) := by rw [hy]; omega
  have g1 : (bx[8].toNat : Int) ≤ 57 := by rw [hy]; omega
  have g2 : (48 : Int) ≤ (bx[9].toNat : Int) := by rw [hz]; omega
  have g3 : (bx[9].toNat : Int) ≤ 57 := by rw [hz]; omega
  have HNN := Lib.hid (dec2_int (u := bx[8]) (v := bx[9]) (by rw [hy, hz]; exact hd))
  have hcb : (chk (a : Int) (n : Int) != 0) = true := by rw [bne_iff_ne]; exact hc
  clear hv hy hz hq0 hq1 hq2 hq3 hd hc
  clear hp hx hbx hbs hbt hun hdr
  clear hbnd
  go_enter Tryz.func8, Tryz.ntmps8
  go_wp2_with fail
  refine HC.out.mono ?_
  rintro e w1 ⟨b, cap, rfl, hg, hbw, hrd⟩
  have hP := KPart.new (by simpa using hg) (by simpa using hbw) hrd (by simp)
  clear hg hbw hrd
  have c1 := hP.at (k := 1) (by rfl)
  go_wp2_with fail
  refine (isName_txt net hnl _).mono ?_
  rintro e w2 ⟨rfl, rfl⟩
  rw [HNM.out]
  have c0 := hP.at (k := 0) (by rfl)
  have c2 := hP.at (k := 2) (by rfl)
  go_upto_region 16 with fail
  rw [HBX.out] at c2
  go_wp2_with fail
  refine (HUN.out _).mono ?_
  rintro e w3 ⟨rfl, hb3⟩
  have hP3 := hP.step hb3
  rw [HU.out]
  clear c0 c1 c2 hb3
  have c0 := hP3.at (k := 0) (by rfl)
  have c1 := hP3.at (k := 1) (by rfl)
  have c2 := hP3.at (k := 2) (by rfl)
  rw [HBX.out] at c2
  go_upto_region 22 with fail
  rw [HNN.out]
  have hn4 := Blk.new w3 23 #[.int .i64 (a : Int), .int .i64 (n : Int)]
  have hP4 := hP3.step ((Below.refl _ _).alloc (Nat.le_refl _) (.cells #[.int .i64 (a : Int), .int .i64 (n : Int)] 23))
  have hz4 : w3.heap.size < (w3.alloc (.cells #[.int .i64 (a : Int), .int .i64 (n : Int)] 23)).heap.size := by simp
  refine wp_name (fun w4 HW => ?_)
  rw [← HW.out] at hn4 hP4 hz4
  clear c0 c1 c2 HW
  have hn3 : w3.heap.size ≠ w.heap.size := by have := hP3.lt; have := hP3.hb; omega
  have hn3' : w.heap.size ≠ w3.heap.size := fun q => hn3 q.symm
  generalize hg3 : w3.heap.size = g3 at *
  clear hg3
  obtain ⟨d0, d1, d2, d3⟩ := hn4.two
  clear d2 d3
  go_wp2_with fail
  refine (fault_any _ _ _).mono ?_
  rintro e w5 ⟨rfl, hb5⟩
  have hP5 := hP4.step hb5
  have c0 := hP5.at (k := 0) (by rfl)
  have c1 := hP5.at (k := 1) (by rfl)
  have c2 := hP5.at (k := 2) (by rfl)
  replace d0 := (hb5.cell (p := ⟨_, 0, none⟩) hz4).trans d0
  replace d1 := (hb5.cell (p := ⟨_, 1, none⟩) hz4).trans d1
  clear hz4 hb5
  obtain ⟨e0, e1, f0, f1⟩ := hP5.bp.two
  go_wp2
  refine bodyPost_ret (v := NoKV) (by simp [NoKV, results, Tryz.results8, go_sem, e0, e1]) rfl ⟨by rw [HR.out], ?_⟩
  (repeat' (first | exact hP5.be | refine Below.setCell ?_ ?_ _ | refine Below.drew ?_)) <;> simp


set_option maxRecDepth 100000 in
set_option maxHeartbeats 4000000 in
theorem kind_15 (key : List UInt8) (k net x : List UInt8) (hsp : splitL 47 key = [k, net, x]) (hlen : key.length ≤ 100000000000) (hn : nameB net = true) (hp : k = [112]) (hx : x.length = 10) (y z : UInt8) (hdr : x.drop 8 = [y, z]) (a : Nat) (hv : hexV 0 (x.take 8) = some a) (hq0 : 48 ≤ y.toNat) (hq1 : y.toNat ≤ 57) (hq2 : 48 ≤ z.toNat) (hq3 : z.toNat ≤ 57) (n : Nat) (hd : dec2 y z = some n) (hc : chk (a : Int) (n : Int) = 0) (w : World) :
    Calls Tryz.prog 8 #[txt key] w fun e w' => e = .returned (KindV (keyI key)) ∧ Below w.heap.size w w' := by
  have HC := Lib.hid (refSplit_otxt key 47 hlen (w.alloc (.cells #[.int .i64 0, .int .i64 0] 23)))
  have hk0 : keyI key = keyW ([k, net, x]) := by unfold keyI; rw [hsp]
  have hbnd : ∀ p ∈ [k, net, x], p.length ≤ 100000000000 := fun p hp => by have := split_len (c := 47) (s := key) (p := p) (by rw [hsp]; exact hp); omega
  rw [hk0]
  rw [hsp] at HC
  clear hk0 hsp
  have HR := Lib.hid (show KindV (keyW [k, net, x]) = .tuple #[.int .i64 2, txt net, .agg #[.int .i64 (a : Int), .int .i64 (n : Int)], .int .i64 0] by rw [keyW3, if_pos hn, if_neg (by rw [hp]; decide), if_pos hp, pfxV_ok hdr hv hd hc]; rfl)
  have hnl := hbnd net (by simp)
  have HNM := Lib.hid (show nameB net = true from hn)
  have b1 := bs_ne (show k ≠ [97] by rw [hp]; decide)
  have b2 := bs_eq hp
  have b3 : (k != [112]) = false := by rw [hp]; rfl
  have hx8 : ((x.length : Int) != 10) = false := by rw [hx]; rfl
  obtain ⟨bx, hbx, hbs, hbt, ⟨h8, hy⟩, h9, hz⟩ := byte89 hx hdr
  have HBX := Lib.hid hbx
  have HBS := Lib.hid hbs
  have hun := unhex_any (bx.extract 0 8) (by rw [ByteArray.size_extract, hbs]; decide)
  rw [hbt] at hun
  have HUN := Lib.hid hun
  have h8i : (8 : Int) ≤ (bx.size : Int) := by omega
  have HU := Lib.hid (show unhexI (x.take 8) = (a : Int) from unhexI_some (by simp; omega) hv)
  have ha := hexV_lt8 hv
  have g0 : (48 : Int) ≤ (bx[8].toNat : Int) := by rw [hy]; omega
  have g1 : (bx[8].toNat : Int) ≤ 57 := by rw [hy]; omega
  have g2 : (48 : Int) ≤ (bx[9].toNat : Int) := by rw [hz]; omega
  have g3 : (bx[9].toNat : Int) ≤ 57 := by rw [hz]; omega
  have HNN := Lib.hid (dec2_int (u := bx[8]) (v := bx[9]) (by rw [hy, hz]; exact hd))
  have HC0 := Lib.hid hc
  clear hv hy hz hq0 hq1 hq2 hq3 hd hc
  clear hp hx hbx hbs hbt hun hdr
  clear hbnd
  go_enter Tryz.func8, Tryz.ntmps8
  go_wp2_with fail
  refine HC.out.mono ?_
  rintro e w1 ⟨b, cap, rfl, hg, hbw, hrd⟩
  have hP := KPart.new (by simpa using hg) (by simpa using hbw) hrd (by simp)
  clear hg hbw hrd
  have c1 := hP.at (k := 1) (by rfl)
  go_wp2_with fail
  refine (isName_txt net hnl _).mono ?_
  rintro e w2 ⟨rfl, rfl⟩
  rw [HNM.out]
  have c0 := hP.at (k := 0) (by rfl)
  have c2 := hP.at (k := 2) (by rfl)
  go_upto_region 16 with fail
  rw [HBX.out] at c2
  go_wp2_with fail
  refine (HUN.out _).mono ?_
  rintro e w3 ⟨rfl, hb3⟩
  have hP3 := hP.step hb3
  rw [HU.out]
  clear c0 c1 c2 hb3
  have c0 := hP3.at (k := 0) (by rfl)
  have c1 := hP3.at (k := 1) (by rfl)
  have c2 := hP3.at (k := 2) (by rfl)
  rw [HBX.out] at c2
  go_upto_region 22 with fail
  rw [HNN.out]
  have hn4 := Blk.new w3 23 #[.int .i64 (a : Int), .int .i64 (n : Int)]
  have hP4 := hP3.step ((Below.refl _ _).alloc (Nat.le_refl _) (.cells #[.int .i64 (a : Int), .int .i64 (n : Int)] 23))
  have hz4 : w3.heap.size < (w3.alloc (.cells #[.int .i64 (a : Int), .int .i64 (n : Int)] 23)).heap.size := by simp
  refine wp_name (fun w4 HW => ?_)
  rw [← HW.out] at hn4 hP4 hz4
  clear c0 c1 c2 HW
  have hn3 : w3.heap.size ≠ w.heap.size := by have := hP3.lt; have := hP3.hb; omega
  have hn3' : w.heap.size ≠ w3.heap.size := fun q => hn3 q.symm
  generalize hg3 : w3.heap.size = g3 at *
  clear hg3
  obtain ⟨d0, d1, d2, d3⟩ := hn4.two
  clear d2 d3
  go_wp2_with fail
  refine (fault_any _ _ _).mono ?_
  rintro e w5 ⟨rfl, hb5⟩
  rw [HC0.out]
  have hP5 := hP4.step hb5
  have c0 := hP5.at (k := 0) (by rfl)
  have c1 := hP5.at (k := 1) (by rfl)
  have c2 := hP5.at (k := 2) (by rfl)
  replace d0 := (hb5.cell (p := ⟨_, 0, none⟩) hz4).trans d0
  replace d1 := (hb5.cell (p := ⟨_, 1, none⟩) hz4).trans d1
  clear hz4 hb5
  obtain ⟨e0, e1, f0, f1⟩ := hP5.bp.two
  have hne : b ≠ w.heap.size := by have := hP5.hb; omega
  have hne2 : w.heap.size ≠ b := by omega
  go_upto_region 24 with fail
  go_region
  go_wp2
  refine bodyPost_ret (v := .tuple #[.int .i64 2, txt net, .agg #[.int .i64 (a : Int), .int .i64 (n : Int)], .int .i64 0]) (by simp [NoKV, results, Tryz.results8, go_sem, e0, e1]) rfl ⟨by rw [HR.out], ?_⟩
  (repeat' (first | exact hP5.be | refine Below.setCell ?_ ?_ _ | refine Below.drew ?_)) <;> simp


/-- Kind. -/
theorem kind_any (key : List UInt8) (hlen : key.length ≤ 100000000000) (w : World) :
    Calls Tryz.prog 8 #[txt key] w fun e w' => e = .returned (KindV (keyI key)) ∧ Below w.heap.size w w' := by
  have hcnt := split_cnt 47 key
  have hne : splitL 47 key ≠ [] := fun q => by have := splitL_length 47 key; rw [q] at this; simp at this
  match hs : splitL 47 key with
  | [] => exact absurd hs hne
  | [k] => exact kind_0 key k hs hlen w
  | k :: net :: r =>
    have hr : r.length ≤ 100000000000 + 0 := by rw [hs] at hcnt; simp at hcnt; omega
    by_cases hn : nameB net = true
    · match r, hs, hr with
      | [], hs, _ =>
        by_cases hk : k = [110]
        · exact kind_2 key k net hs hlen hn hk w
        · exact kind_3 key k net hs hlen hn hk w
      | [x], hs, _ =>
        by_cases hk : k = [97]
        · cases hv : addrV x with
          | none => exact kind_5 key k net x hs hlen hn hk hv w
          | some a => exact kind_6 key k net x hs hlen hn hk a hv w
        · by_cases hp : k = [112]
          · by_cases hx : x.length = 10
            · obtain ⟨y, z, hdr⟩ := drop_two hx
              cases hv : hexV 0 (x.take 8) with
              | none => exact kind_9 key k net x hs hlen hn hp hx y z hdr hv w
              | some a =>
                by_cases h1 : y.toNat < 48
                · exact kind_10 key k net x hs hlen hn hp hx y z hdr a hv h1 w
                · by_cases h2 : 57 < y.toNat
                  · exact kind_11 key k net x hs hlen hn hp hx y z hdr a hv (by omega) h2 w
                  · by_cases h3 : z.toNat < 48
                    · exact kind_12 key k net x hs hlen hn hp hx y z hdr a hv (by omega) (by omega) h3 w
                    · by_cases h4 : 57 < z.toNat
                      · exact kind_13 key k net x hs hlen hn hp hx y z hdr a hv (by omega) (by omega) (by omega) h4 w
                      · have hd : dec2 y z = some (10 * (y.toNat - 48) + (z.toNat - 48)) := by unfold dec2; rw [if_pos (by omega)]
                        by_cases hc : chk (a : Int) ((10 * (y.toNat - 48) + (z.toNat - 48) : Nat) : Int) = 0
                        · exact kind_15 key k net x hs hlen hn hp hx y z hdr a hv (by omega) (by omega) (by omega) (by omega) _ hd hc w
                        · exact kind_14 key k net x hs hlen hn hp hx y z hdr a hv (by omega) (by omega) (by omega) (by omega) _ hd hc w
            · exact kind_8 key k net x hs hlen hn hp hx w
          · exact kind_7 key k net x hs hlen hn hk hp w
      | x :: x2 :: r2, hs, hr => exact kind_4 key k net _ hs hlen hn (by simp) hr w
    · exact kind_1 key k net r hs hlen hn hr w
end Go.Proofs.YtemokelgafndpaaGreatDoor