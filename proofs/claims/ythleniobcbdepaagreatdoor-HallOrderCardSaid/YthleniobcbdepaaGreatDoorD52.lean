/- Parts of the proof; conditions: as each theorem says. -/
import Derived.Test.YthleniobcbdepaaGreatDoorD42
import Derived.Test.YthleniobcbdepaaGreatDoorD51
import Derived.Test.YthleniobcbdepaaGreatDoorD50
set_option linter.unusedVariables false
set_option linter.unusedSimpArgs false
namespace Go.Proofs.YthleniobcbdepaaGreatDoor
set_option maxRecDepth 100000
open Go.RowKit
def nameAt (p : KV) : Option (List UInt8) := if ([110, 47] : List UInt8).isPrefixOf p.1 = true then some (Lib.trimPrefix p.1 [110, 47]) else none
def namesOf (L : List KV) : List (List UInt8) := L.filterMap nameAt
theorem names_snoc (L : List KV) {k : Nat} (h : k < L.length) : namesOf (L.take (k + 1)) = namesOf (L.take k) ++ (match nameAt L[k] with | some q => [q] | none => []) := by
 unfold namesOf
 rw [List.take_succ_eq_append_getElem h, List.filterMap_append]
 cases q : nameAt L[k] <;> simp [q]
theorem names_len (L : List KV) : (namesOf L).length ≤ L.length := List.length_filterMap_le _ _
section
variable {B : Nat} {w : World} {T : Nat → Prop} {a : Nat} {h : Hl} {k : Nat}
set_option maxHeartbeats 1000000 in
theorem HK.nets_h (o : HK B w T a h k) (hk : k ≤ 30000) :
  Calls Tryz.prog 16 #[ptrV a] w fun e w' => ∃ v L, e = .returned v ∧ w'.ownsRow w.heap.size 9 1 v (namesOf L).length ((namesOf L).map txt) ∧ RangeIs h.d.F [] topKey h.d.last L ∧ Below w.heap.size w w' := by
 obtain ⟨d, m, To, es, clock, q1, q2, _⟩ := o.ex
 have e0 := q2.cell 0
 simp at e0
 have HC := Lib.hid (q1.s.all_s (by omega))
 clear q1 q2 o
 go_enter Tryz.func16, Tryz.ntmps16
 go_wp2_with fail
 refine HC.out.mono ?_
 rintro e w2 ⟨v, L, rfl, h1, h2, h3, h4⟩
 obtain ⟨A, c, rfl, hrd⟩ := h1.rd
 have HR := Lib.hid h2
 have HB := Lib.hid h4
 clear h1 h2 h4 HC e0
 go_wp2
 go_loopw [3, 14] (fun o i wr => ∃ (j : Nat), j ≤ L.length ∧ i = .int .i64 (j : Int) ∧ wr.ownsRow w2.heap.size 9 1 o (namesOf (L.take j)).length ((namesOf (L.take j)).map txt) ∧ Below w2.heap.size w2 wr) (fun _ i _ => L.length - (intOf i).toNat)
 case atStart => exact ⟨0, Nat.zero_le _, rfl, World.ownsRow_nil _ _ _ _, Below.refl _ _⟩
 case round =>
  obtain ⟨j, hj, rfl, hown, hb⟩ := hrel
  by_cases hlt : j < L.length
  ·obtain ⟨b0, of0, rfl, hbb, c0, c1⟩ := (hrd.below hb).kv hlt
   have hbs := hb.size
   have hb5 := hb.alloc hbs (.cells #[txt L[j].1, txt L[j].2] 72)
   have hown5 := own_below hown ((Below.refl wr.heap.size wr).alloc (Nat.le_refl _) (.cells #[txt L[j].1, txt L[j].2] 72))
   have HCP := Lib.hid (fun W => cutPre L[j].1 [110, 47] W)
   have HNS := Lib.hid (names_snoc L hlt)
   have hnl : (namesOf (L.take j)).length < 1000000000 := by have := names_len (L.take j); rw [List.length_take] at this; omega
   cases hp : ([110, 47] : List UInt8).isPrefixOf L[j].1 with
   | true =>
    have HN := Lib.hid (show namesOf (L.take (j + 1)) = namesOf (L.take j) ++ [Lib.trimPrefix L[j].1 [110, 47]] by rw [HNS.out]; unfold nameAt; rw [if_pos hp])
    rw [hp] at HCP
    generalize Lib.trimPrefix L[j].1 [110, 47] = nm at *
    clear hp HNS
    go_wp2_with fail
    refine (HCP.out _).mono ?_
    rintro e w5 ⟨rfl, hw5⟩
    rw [← hw5] at hb5 hown5
    clear hw5 c0 c1 hb
    have hb5s := hb5.size
    have hone : ∀ u' ∈ (#[txt nm] : Array Value).toList, u'.oneCell' = true := by intro u' hu'; simp at hu'; subst hu'; rfl
    have hle : w2.heap.size ≤ w5.heap.size := hb5s
    go_wp2_with (at_builtin; go_loud (refine wpList_append_elt (w1 := w5) rfl _ _ 52 rfl 9 Tryz.underlying52 _ 1 16 infoStr rfl (by decide) (by decide) w2.heap.size u3 (namesOf (L.take j)).length _ rfl hown5 #[txt nm] rfl hone rfl hnl hle ?_); intro vA wA hownA hgrowA hatA)
    go_roundw
    case rel =>
     exact ⟨j + 1, by omega, by go_num, by rw [HN.out, List.map_append, List.length_append]; exact hownA, hb5.grown hgrowA hb5s (fun g e => (World.ownsRow.lt hown5 g e).1)⟩
    case measure => simp [intOf]; omega
   | false =>
    have HN := Lib.hid (show namesOf (L.take (j + 1)) = namesOf (L.take j) by rw [HNS.out]; unfold nameAt; rw [if_neg (by rw [hp]; decide)]; simp)
    rw [hp] at HCP
    generalize Lib.trimPrefix L[j].1 [110, 47] = nm at *
    clear hp HNS
    go_wp2_with fail
    refine (HCP.out _).mono ?_
    rintro e w5 ⟨rfl, hw5⟩
    rw [← hw5] at hb5 hown5
    clear hw5 c0 c1 hb
    go_wp2
    go_roundw
    case rel => exact ⟨j + 1, by omega, by go_num, by rw [HN.out]; exact hown5, hb5⟩
    case measure => simp [intOf]; omega
  ·obtain rfl : j = L.length := by omega
   rw [List.take_length] at hown
   go_wp2
   go_ret
   exact ⟨_, L, rfl, own_of_base hown HB.out.size, HR.out, HB.out.trans (hb.mono HB.out.size)⟩
end
end Go.Proofs.YthleniobcbdepaaGreatDoor

namespace Go.Proofs.YthleniobcbdepaaGreatDoor
set_option maxRecDepth 100000
open Go.RowKit
def xC : PCall := netC [120] [111]
theorem xC_w : CallW xC := ⟨by decide, by decide, by decide, by decide, by decide, by decide, by decide⟩
def hX : Hl := ⟨gNext (Dk.new 100000) ⟨nKey [120], [111], false⟩, []⟩
theorem hX_once : (Hl.new 100000).once xC = (noAns, 1, 0, hX) := once_net (by decide) (by decide)
theorem hX_ord : HOrd hX.d := by
 have h0 : HOrd (Hl.new 100000).d := HOrd.new 100000
 have := h0.honce xC
 rw [hX_once] at this
 exact this
theorem hX_tell (s : List UInt8) : tell hX.d.F s hX.d.last = if s = nKey [120] then some [111] else none := by
 have h := congrFun (tell_app (F := noF) (last := 0) (l := [⟨nKey [120], [111], false⟩]) (GoodR.nil 0) (List.pairwise_singleton _ _)) s
 have e : tell hX.d.F s hX.d.last = tell (appF noF [⟨nKey [120], [111], false⟩] (0 + 1)) s (0 + 1) := rfl
 rw [e]
 refine Eq.trans h ?_
 unfold seeB
 rw [findO_cons]
 by_cases q : s = nKey [120]
 ·rw [if_pos q.symm, if_pos q]
  rfl
 ·rw [if_neg (fun e => q e.symm), if_neg q]
  exact tell_nought'
theorem hX_all {L : List KV} (h : RangeIs hX.d.F [] topKey hX.d.last L) : L = [(nKey [120], [111])] := by
 refine rangeIs_uniq h ⟨List.pairwise_singleton _ _, fun s v => ?_⟩
 rw [hX_tell]
 constructor
 ·intro q
  rw [List.mem_singleton] at q
  injection q with q1 q2
  subst q1
  subst q2
  exact ⟨by decide, if_pos rfl⟩
 ·rintro ⟨_, q⟩
  by_cases e : s = nKey [120]
  ·rw [if_pos e] at q
   injection q with q
   rw [e, ← q]
   exact List.mem_singleton.2 rfl
  ·rw [if_neg e] at q
   cases q
theorem hX_names {L : List KV} (h : RangeIs hX.d.F [] topKey hX.d.last L) : namesOf L = [[120]] := by
 rw [hX_all h]
 decide
theorem key_len {s : List UInt8} (h : (keyI s).kind ≠ 0) : s.length ≤ 24 := by
 have hle := keyI_le s
 by_cases h1 : (keyI s).kind = 1
 ·obtain ⟨e, hn⟩ := keyI_1 h1
  have := (nameB_iff.1 hn).2.2
  rw [e]; simp; omega
 ·by_cases h2 : (keyI s).kind = 2
  ·obtain ⟨x, e, hn, _, hx⟩ := keyI_2 h2
   have := (nameB_iff.1 hn).2.2
   have hx10 : x.length = 10 := by
    by_cases q : x.length = 10
    ·exact q
    ·rw [pfxV_ten q] at hx; cases hx
   rw [e]; simp; omega
  ·obtain ⟨x, e, hn, _, hx⟩ := keyI_3 (show (keyI s).kind = 3 by omega)
   have := (nameB_iff.1 hn).2.2
   have hx8 : x.length = 8 := by
    unfold addrV at hx
    split at hx
    ·assumption
    ·cases hx
   rw [e]; simp; omega
theorem all_lens {F : List UInt8 → List Ver} {n : Int} {L : List KV} (hr : RangeIs F [] topKey n L) (ho : OrdV (fun s => tell F s n)) : ∀ p ∈ L, p.1.length < 4294967281 ∧ p.2.length ≤ 9223372036854775807 := by
 intro p hp
 have := ho.each p.1 p.2 ((hr.mem p.1 p.2).1 hp).2
 have h1 := key_len this.1
 have h2 := (nameB_iff.1 this.2).2.2
 omega
theorem check_hall {h : Hl} (ho : HOrd h.d) {L : List KV} (hr : RangeIs h.d.F [] topKey h.d.last L) (A : Option Addr) (c : Nat) (hm : L.length ≤ 800000) {B : Nat} (w : World) (hB : B ≤ w.heap.size) (hV : TxtV B w) (hrd : Rd w w.heap.size A (flatE encKV L)) :
  Calls Tryz.prog 20 #[.slice A L.length c] w fun e w' => e = .returned (.tuple #[.int .i64 0, .nilIface]) ∧ Below w.heap.size w w' :=
 (Check_any A L c hm (all_lens hr ho.now) w hB hV hrd).mono fun e w' ⟨at', f, he, ha, hb⟩ => by
  obtain ⟨rfl, rfl⟩ := ha.zero (aud_ok hr ho.now)
  exact ⟨he, hb⟩
set_option maxHeartbeats 40000000 in
theorem hallOrder_walk (A : Option Addr) (l : List HStp) (cc : Nat) (hm : l.length ≤ maxLen) (hS : ∀ s ∈ l, HStpOk s) (w : World) (hV : GV w.heap.size w) (hl : Rd w w.heap.size A (cellsH l)) :
  Calls Tryz.prog 5 #[.slice A l.length cc] w fun e w' => e = .returned (.bool true) ∧ Below w.heap.size w w' := by
 have HS := Lib.hid hS
 have HGV := Lib.hid hV
 clear hS hV
 go_enter Tryz.func5, Tryz.ntmps5
 go_wp2_with fail
 refine (hallNew_ok 100000 (by decide) w (Nat.le_refl _) HGV.out).mono ?_
 rintro e w2 ⟨ax, Tx, rfl, hx2, hTx, hb2⟩
 have HX2 := Lib.hid (show HK w.heap.size w2 Tx ax (Hl.new 100000) 0 from hx2)
 have HB2 := Lib.hid hb2
 have hoc := hx2.once_h (by omega) xC xC_w
 rw [hX_once] at hoc
 simp only [fault_zero0] at hoc
 unfold CallV xC netC at hoc
 unfold AnsV at hoc
 have HO := Lib.hid hoc
 clear hoc hx2 hTx hb2
 go_upto_region 4 with fail
 go_wp2_with fail
 refine HO.out.mono ?_
 rintro e w4 ⟨v4, rfl, how4, T4, hnt4, hs4⟩
 obtain ⟨A4, c4, rfl, _⟩ := how4.form
 have HX4 := Lib.hid (hs4.hk.bel ((Below.refl w4.heap.size w4).alloc (Nat.le_refl _) (.cells #[.int .i64 noAns.pa, .int .i64 noAns.pn, .int .i64 noAns.ad, txt noAns.owner, .slice A4 noAns.list.length c4] 34)))
 have HB4 := Lib.hid (HB2.out.trans ((hs4.belB HX2.out.lo).alloc (Nat.le_trans HB2.out.size hs4.size) (.cells #[.int .i64 noAns.pa, .int .i64 noAns.pn, .int .i64 noAns.ad, txt noAns.owner, .slice A4 noAns.list.length c4] 34)))
 clear HO hs4 how4 hnt4 HX2 HB2
 go_upto_region 5 with fail
 refine wp_name (fun w5 HW => ?_)
 have hX5 := HX4.out
 have hB5 := HB4.out
 rw [← HW.out] at hX5 hB5
 have HX5 := Lib.hid hX5
 have HB5 := Lib.hid hB5
 have HO := Lib.hid (hX5.nets_h (by omega))
 clear HW HX4 HB4 hX5 hB5
 go_wp2_with fail
 refine HO.out.mono ?_
 rintro e w6 ⟨v6, L6, rfl, hown6, hr6, hb6⟩
 rw [hX_names hr6, show ([[120]] : List (List UInt8)).length = 1 from rfl] at hown6
 obtain ⟨A6, c6, rfl, hrd6⟩ := own_form hown6
 obtain ⟨b6, of6, rfl, _, hc6⟩ := hrd6 (by simp)
 have y0 := hc6 0 (txt [120]) rfl
 simp only [Nat.add_zero] at y0
 have HX6 := Lib.hid (show HK w.heap.size w6 T4 ax hX 2 ∧ HOrd hX.d from ⟨HX5.out.bel hb6, hX_ord⟩)
 have HB6 := Lib.hid (HB5.out.trans (hb6.mono HB5.out.size))
 clear HO hown6 hr6 hb6 hrd6 hc6 HX5 HB5
 unfold txt at y0
 go_wp2
 go_loopw [9] (fun i wr => ∃ (k : Nat) (h : Hl) (T : Nat → Prop), i = .int .i64 k ∧ k ≤ l.length ∧ k ≤ 60 ∧ Hid (HK w.heap.size wr T ax h (2 * k + 2) ∧ HOrd h.d) ∧ Below w.heap.size w wr) (fun i _ => 60 - (intOf i).toNat)
 case atStart => exact ⟨0, hX, T4, by go_num, by omega, by omega, HX6, HB6.out⟩
 case round =>
  clear HX6 HB6 y0
  obtain ⟨k, h, T, rfl, hk1, hk2, HI, hb⟩ := hrel
  by_cases hgo : k < l.length ∧ k < 60
  ·obtain ⟨hlt1, hlt2⟩ := hgo
   have HKS := Lib.hid (HS.out l[k] (List.getElem_mem _))
   obtain ⟨b0, of0, rfl, hbb0, c0, c1, c2, c3, c4, c5, c6, c7, c8, c9⟩ := (hl.below hb).hstp hlt1
   have hI : (k : Int) < (l.length : Int) := by omega
   have hI3 : (k : Int) < 60 := by omega
   have hb5 := hb.alloc hb.size (.cells #[.int .i64 l[k].what, txt l[k].who, .int .i64 l[k].n, .int .i64 l[k].call.what, txt l[k].call.name, .int .i64 l[k].call.pa, .int .i64 l[k].call.pn, .int .i64 l[k].call.len, .int .i64 l[k].call.ad, txt l[k].call.owner] 38)
   have hi5 := HI.out.1.bel ((Below.refl wr.heap.size wr).alloc (Nat.le_refl _) (.cells #[.int .i64 l[k].what, txt l[k].who, .int .i64 l[k].n, .int .i64 l[k].call.what, txt l[k].call.name, .int .i64 l[k].call.pa, .int .i64 l[k].call.pn, .int .i64 l[k].call.len, .int .i64 l[k].call.ad, txt l[k].call.owner] 38))
   have hbk := Blk.new wr 38 #[.int .i64 l[k].what, txt l[k].who, .int .i64 l[k].n, .int .i64 l[k].call.what, txt l[k].call.name, .int .i64 l[k].call.pa, .int .i64 l[k].call.pn, .int .i64 l[k].call.len, .int .i64 l[k].call.ad, txt l[k].call.owner]
   go_upto_region 12 with fail
   refine wp_name (fun w5 HW => ?_)
   rw [← HW.out] at hb5 hi5 hbk
   have HI5 := Lib.hid (show HK w.heap.size w5 T ax h (2 * k + 2) ∧ HOrd h.d from ⟨hi5, HI.out.2⟩)
   have HB5 := Lib.hid hb5
   generalize wr.heap.size = g5 at *
   obtain ⟨x0, x1, x2, x3, x4, x5, x6, x7, x8, x9⟩ := hbk.cls10
   simp at x0 x1 x2 x3 x4 x5 x6 x7 x8 x9
   clear HW hb5 hi5 hbk hb HI c0 c1 c2 c3 c4 c5 c6 c7 c8 c9
   by_cases hw0 : l[k].what = 0
   ·have HC := Lib.hid (HI5.out.1.open_h (by omega) l[k].who HKS.out.who)
    skip
    go_wp2_with fail
    refine HC.out.mono ?_
    rintro e w6 ⟨rfl, T6, hs6⟩
    have HN := Lib.hid (show HK w.heap.size w6 T6 ax ((h.open l[k].who).2) (2 * (k + 1) + 2) ∧ HOrd ((h.open l[k].who).2).d from ⟨hs6.hk.more (by omega), HI5.out.2.hopen _⟩)
    have HB6 := Lib.hid (HB5.out.trans (hs6.belB HI5.out.1.lo))
    clear hs6 HI5 HB5 x0 x1 x2 x3 x4 x5 x6 x7 x8 x9
    have HA := Lib.hid (HN.out.1.all_h (by omega))
    clear HC
    go_wp2_with fail
    refine HA.out.mono ?_
    rintro e w7 ⟨v7, L7, rfl, ho7, hr7, hn7, hb7⟩
    obtain ⟨A7, c7, rfl, hrd7⟩ := ho7.rd
    have HN7 := Lib.hid (show HK w.heap.size w7 T6 ax ((h.open l[k].who).2) (2 * (k + 1) + 2) ∧ HOrd ((h.open l[k].who).2).d from ⟨HN.out.1.bel hb7, HN.out.2⟩)
    have HB7 := Lib.hid (HB6.out.trans (hb7.mono HB6.out.size))
    have HCK := Lib.hid (check_hall (h := (h.open l[k].who).2) HN.out.2 hr7 A7 c7 hn7 w7 HB7.out.size (HGV.out.on HB7.out).txt hrd7)
    clear HA ho7 hr7 hn7 hb7 hrd7 HN HB6
    go_wp2_with fail
    refine HCK.out.mono ?_
    rintro e w8 ⟨rfl, hb8⟩
    have HN8 := Lib.hid (show HK w.heap.size w8 T6 ax ((h.open l[k].who).2) (2 * (k + 1) + 2) ∧ HOrd ((h.open l[k].who).2).d from ⟨HN7.out.1.bel hb8, HN7.out.2⟩)
    have HB8 := Lib.hid (HB7.out.trans (hb8.mono HB7.out.size))
    clear HCK HN7 HB7 hb8
    go_wp2
    go_roundw
    case rel => exact ⟨k + 1, (h.open l[k].who).2, T6, by go_num, by omega, by omega, HN8, HB8.out⟩
    case measure => simp [intOf]; omega
   by_cases hw1 : l[k].what = 1
   ·have HC := Lib.hid (HI5.out.1.close_h (by omega) l[k].who HKS.out.who)
    skip
    go_wp2_with fail
    refine HC.out.mono ?_
    rintro e w6 ⟨rfl, T6, hs6⟩
    have HN := Lib.hid (show HK w.heap.size w6 T6 ax ((h.close l[k].who).2.2) (2 * (k + 1) + 2) ∧ HOrd ((h.close l[k].who).2.2).d from ⟨hs6.hk.more (by omega), HI5.out.2.hclose _⟩)
    have HB6 := Lib.hid (HB5.out.trans (hs6.belB HI5.out.1.lo))
    clear hs6 HI5 HB5 x0 x1 x2 x3 x4 x5 x6 x7 x8 x9
    have HA := Lib.hid (HN.out.1.all_h (by omega))
    clear HC
    go_wp2_with fail
    refine HA.out.mono ?_
    rintro e w7 ⟨v7, L7, rfl, ho7, hr7, hn7, hb7⟩
    obtain ⟨A7, c7, rfl, hrd7⟩ := ho7.rd
    have HN7 := Lib.hid (show HK w.heap.size w7 T6 ax ((h.close l[k].who).2.2) (2 * (k + 1) + 2) ∧ HOrd ((h.close l[k].who).2.2).d from ⟨HN.out.1.bel hb7, HN.out.2⟩)
    have HB7 := Lib.hid (HB6.out.trans (hb7.mono HB6.out.size))
    have HCK := Lib.hid (check_hall (h := (h.close l[k].who).2.2) HN.out.2 hr7 A7 c7 hn7 w7 HB7.out.size (HGV.out.on HB7.out).txt hrd7)
    clear HA ho7 hr7 hn7 hb7 hrd7 HN HB6
    go_wp2_with fail
    refine HCK.out.mono ?_
    rintro e w8 ⟨rfl, hb8⟩
    have HN8 := Lib.hid (show HK w.heap.size w8 T6 ax ((h.close l[k].who).2.2) (2 * (k + 1) + 2) ∧ HOrd ((h.close l[k].who).2.2).d from ⟨HN7.out.1.bel hb8, HN7.out.2⟩)
    have HB8 := Lib.hid (HB7.out.trans (hb8.mono HB7.out.size))
    clear HCK HN7 HB7 hb8
    go_wp2
    go_roundw
    case rel => exact ⟨k + 1, (h.close l[k].who).2.2, T6, by go_num, by omega, by omega, HN8, HB8.out⟩
    case measure => simp [intOf]; omega
   by_cases hw2 : l[k].what = 2
   ·have HC := Lib.hid (HI5.out.1.quit_h (by omega) l[k].who HKS.out.who)
    skip
    go_wp2_with fail
    refine HC.out.mono ?_
    rintro e w6 ⟨rfl, T6, hs6⟩
    have HN := Lib.hid (show HK w.heap.size w6 T6 ax ((h.quit l[k].who).2) (2 * (k + 1) + 2) ∧ HOrd ((h.quit l[k].who).2).d from ⟨hs6.hk.more (by omega), HI5.out.2.hquit _⟩)
    have HB6 := Lib.hid (HB5.out.trans (hs6.belB HI5.out.1.lo))
    clear hs6 HI5 HB5 x0 x1 x2 x3 x4 x5 x6 x7 x8 x9
    have HA := Lib.hid (HN.out.1.all_h (by omega))
    clear HC
    go_wp2_with fail
    refine HA.out.mono ?_
    rintro e w7 ⟨v7, L7, rfl, ho7, hr7, hn7, hb7⟩
    obtain ⟨A7, c7, rfl, hrd7⟩ := ho7.rd
    have HN7 := Lib.hid (show HK w.heap.size w7 T6 ax ((h.quit l[k].who).2) (2 * (k + 1) + 2) ∧ HOrd ((h.quit l[k].who).2).d from ⟨HN.out.1.bel hb7, HN.out.2⟩)
    have HB7 := Lib.hid (HB6.out.trans (hb7.mono HB6.out.size))
    have HCK := Lib.hid (check_hall (h := (h.quit l[k].who).2) HN.out.2 hr7 A7 c7 hn7 w7 HB7.out.size (HGV.out.on HB7.out).txt hrd7)
    clear HA ho7 hr7 hn7 hb7 hrd7 HN HB6
    go_wp2_with fail
    refine HCK.out.mono ?_
    rintro e w8 ⟨rfl, hb8⟩
    have HN8 := Lib.hid (show HK w.heap.size w8 T6 ax ((h.quit l[k].who).2) (2 * (k + 1) + 2) ∧ HOrd ((h.quit l[k].who).2).d from ⟨HN7.out.1.bel hb8, HN7.out.2⟩)
    have HB8 := Lib.hid (HB7.out.trans (hb8.mono HB7.out.size))
    clear HCK HN7 HB7 hb8
    go_wp2
    go_roundw
    case rel => exact ⟨k + 1, (h.quit l[k].who).2, T6, by go_num, by omega, by omega, HN8, HB8.out⟩
    case measure => simp [intOf]; omega
   by_cases hw3 : l[k].what = 3
   ·have HC := Lib.hid (HI5.out.1.flush_h)
    skip
    go_wp2_with fail
    refine HC.out.mono ?_
    rintro e w6 ⟨rfl, T6, hs6⟩
    have HN := Lib.hid (show HK w.heap.size w6 T6 ax ((⟨h.d.flush.2, h.op⟩ : Hl)) (2 * (k + 1) + 2) ∧ HOrd ((⟨h.d.flush.2, h.op⟩ : Hl)).d from ⟨hs6.hk.more (by omega), HI5.out.2.flush⟩)
    have HB6 := Lib.hid (HB5.out.trans (hs6.belB HI5.out.1.lo))
    clear hs6 HI5 HB5 x0 x1 x2 x3 x4 x5 x6 x7 x8 x9
    have HA := Lib.hid (HN.out.1.all_h (by omega))
    clear HC
    go_wp2_with fail
    refine HA.out.mono ?_
    rintro e w7 ⟨v7, L7, rfl, ho7, hr7, hn7, hb7⟩
    obtain ⟨A7, c7, rfl, hrd7⟩ := ho7.rd
    have HN7 := Lib.hid (show HK w.heap.size w7 T6 ax ((⟨h.d.flush.2, h.op⟩ : Hl)) (2 * (k + 1) + 2) ∧ HOrd ((⟨h.d.flush.2, h.op⟩ : Hl)).d from ⟨HN.out.1.bel hb7, HN.out.2⟩)
    have HB7 := Lib.hid (HB6.out.trans (hb7.mono HB6.out.size))
    have HCK := Lib.hid (check_hall (h := (⟨h.d.flush.2, h.op⟩ : Hl)) HN.out.2 hr7 A7 c7 hn7 w7 HB7.out.size (HGV.out.on HB7.out).txt hrd7)
    clear HA ho7 hr7 hn7 hb7 hrd7 HN HB6
    go_wp2_with fail
    refine HCK.out.mono ?_
    rintro e w8 ⟨rfl, hb8⟩
    have HN8 := Lib.hid (show HK w.heap.size w8 T6 ax ((⟨h.d.flush.2, h.op⟩ : Hl)) (2 * (k + 1) + 2) ∧ HOrd ((⟨h.d.flush.2, h.op⟩ : Hl)).d from ⟨HN7.out.1.bel hb8, HN7.out.2⟩)
    have HB8 := Lib.hid (HB7.out.trans (hb8.mono HB7.out.size))
    clear HCK HN7 HB7 hb8
    go_wp2
    go_roundw
    case rel => exact ⟨k + 1, (⟨h.d.flush.2, h.op⟩ : Hl), T6, by go_num, by omega, by omega, HN8, HB8.out⟩
    case measure => simp [intOf]; omega
   by_cases hw4 : l[k].what = 4
   ·have HC := Lib.hid (HI5.out.1.fail_h l[k].n HKS.out.n)
    skip
    go_wp2_with fail
    refine HC.out.mono ?_
    rintro e w6 ⟨rfl, T6, hs6⟩
    have HN := Lib.hid (show HK w.heap.size w6 T6 ax ((⟨h.d.fail l[k].n, h.op⟩ : Hl)) (2 * (k + 1) + 2) ∧ HOrd ((⟨h.d.fail l[k].n, h.op⟩ : Hl)).d from ⟨hs6.hk.more (by omega), HI5.out.2.fail _⟩)
    have HB6 := Lib.hid (HB5.out.trans (hs6.belB HI5.out.1.lo))
    clear hs6 HI5 HB5 x0 x1 x2 x3 x4 x5 x6 x7 x8 x9
    have HA := Lib.hid (HN.out.1.all_h (by omega))
    clear HC
    go_wp2_with fail
    refine HA.out.mono ?_
    rintro e w7 ⟨v7, L7, rfl, ho7, hr7, hn7, hb7⟩
    obtain ⟨A7, c7, rfl, hrd7⟩ := ho7.rd
    have HN7 := Lib.hid (show HK w.heap.size w7 T6 ax ((⟨h.d.fail l[k].n, h.op⟩ : Hl)) (2 * (k + 1) + 2) ∧ HOrd ((⟨h.d.fail l[k].n, h.op⟩ : Hl)).d from ⟨HN.out.1.bel hb7, HN.out.2⟩)
    have HB7 := Lib.hid (HB6.out.trans (hb7.mono HB6.out.size))
    have HCK := Lib.hid (check_hall (h := (⟨h.d.fail l[k].n, h.op⟩ : Hl)) HN.out.2 hr7 A7 c7 hn7 w7 HB7.out.size (HGV.out.on HB7.out).txt hrd7)
    clear HA ho7 hr7 hn7 hb7 hrd7 HN HB6
    go_wp2_with fail
    refine HCK.out.mono ?_
    rintro e w8 ⟨rfl, hb8⟩
    have HN8 := Lib.hid (show HK w.heap.size w8 T6 ax ((⟨h.d.fail l[k].n, h.op⟩ : Hl)) (2 * (k + 1) + 2) ∧ HOrd ((⟨h.d.fail l[k].n, h.op⟩ : Hl)).d from ⟨HN7.out.1.bel hb8, HN7.out.2⟩)
    have HB8 := Lib.hid (HB7.out.trans (hb8.mono HB7.out.size))
    clear HCK HN7 HB7 hb8
    go_wp2
    go_roundw
    case rel => exact ⟨k + 1, (⟨h.d.fail l[k].n, h.op⟩ : Hl), T6, by go_num, by omega, by omega, HN8, HB8.out⟩
    case measure => simp [intOf]; omega
   by_cases hw5 : l[k].what = 5
   ·have HC := Lib.hid (HI5.out.1.crash_h (by omega) l[k].n HKS.out.n)
    skip
    go_wp2_with fail
    refine HC.out.mono ?_
    rintro e w6 ⟨rfl, T6, hs6⟩
    have HN := Lib.hid (show HK w.heap.size w6 T6 ax (h.crash l[k].n) (2 * (k + 1) + 2) ∧ HOrd (h.crash l[k].n).d from ⟨hs6.hk.more (by omega), HI5.out.1.hcrash HI5.out.2 _⟩)
    have HB6 := Lib.hid (HB5.out.trans (hs6.belB HI5.out.1.lo))
    clear hs6 HI5 HB5 x0 x1 x2 x3 x4 x5 x6 x7 x8 x9
    have HA := Lib.hid (HN.out.1.all_h (by omega))
    clear HC
    go_wp2_with fail
    refine HA.out.mono ?_
    rintro e w7 ⟨v7, L7, rfl, ho7, hr7, hn7, hb7⟩
    obtain ⟨A7, c7, rfl, hrd7⟩ := ho7.rd
    have HN7 := Lib.hid (show HK w.heap.size w7 T6 ax (h.crash l[k].n) (2 * (k + 1) + 2) ∧ HOrd (h.crash l[k].n).d from ⟨HN.out.1.bel hb7, HN.out.2⟩)
    have HB7 := Lib.hid (HB6.out.trans (hb7.mono HB6.out.size))
    have HCK := Lib.hid (check_hall (h := h.crash l[k].n) HN.out.2 hr7 A7 c7 hn7 w7 HB7.out.size (HGV.out.on HB7.out).txt hrd7)
    clear HA ho7 hr7 hn7 hb7 hrd7 HN HB6
    go_wp2_with fail
    refine HCK.out.mono ?_
    rintro e w8 ⟨rfl, hb8⟩
    have HN8 := Lib.hid (show HK w.heap.size w8 T6 ax (h.crash l[k].n) (2 * (k + 1) + 2) ∧ HOrd (h.crash l[k].n).d from ⟨HN7.out.1.bel hb8, HN7.out.2⟩)
    have HB8 := Lib.hid (HB7.out.trans (hb8.mono HB7.out.size))
    clear HCK HN7 HB7 hb8
    go_wp2
    go_roundw
    case rel => exact ⟨k + 1, h.crash l[k].n, T6, by go_num, by omega, by omega, HN8, HB8.out⟩
    case measure => simp [intOf]; omega
   by_cases hw6 : l[k].what = 6
   ·have HC := Lib.hid (HI5.out.1.once_h (by omega) l[k].call HKS.out.call.w)
    unfold CallV at HC
    go_wp2_with fail
    refine HC.out.mono ?_
    rintro e w6 ⟨v6, rfl, _, T6, _, hs6⟩
    have HN := Lib.hid (show HK w.heap.size w6 T6 ax ((h.once l[k].call).2.2.2) (2 * (k + 1) + 2) ∧ HOrd ((h.once l[k].call).2.2.2).d from ⟨hs6.hk.more (by omega), HI5.out.2.honce _⟩)
    have HB6 := Lib.hid (HB5.out.trans (hs6.belB HI5.out.1.lo))
    clear hs6 HI5 HB5 x0 x1 x2 x3 x4 x5 x6 x7 x8 x9
    have HA := Lib.hid (HN.out.1.all_h (by omega))
    clear HC
    go_wp2_with fail
    refine HA.out.mono ?_
    rintro e w7 ⟨v7, L7, rfl, ho7, hr7, hn7, hb7⟩
    obtain ⟨A7, c7, rfl, hrd7⟩ := ho7.rd
    have HN7 := Lib.hid (show HK w.heap.size w7 T6 ax ((h.once l[k].call).2.2.2) (2 * (k + 1) + 2) ∧ HOrd ((h.once l[k].call).2.2.2).d from ⟨HN.out.1.bel hb7, HN.out.2⟩)
    have HB7 := Lib.hid (HB6.out.trans (hb7.mono HB6.out.size))
    have HCK := Lib.hid (check_hall (h := (h.once l[k].call).2.2.2) HN.out.2 hr7 A7 c7 hn7 w7 HB7.out.size (HGV.out.on HB7.out).txt hrd7)
    clear HA ho7 hr7 hn7 hb7 hrd7 HN HB6
    go_wp2_with fail
    refine HCK.out.mono ?_
    rintro e w8 ⟨rfl, hb8⟩
    have HN8 := Lib.hid (show HK w.heap.size w8 T6 ax ((h.once l[k].call).2.2.2) (2 * (k + 1) + 2) ∧ HOrd ((h.once l[k].call).2.2.2).d from ⟨HN7.out.1.bel hb8, HN7.out.2⟩)
    have HB8 := Lib.hid (HB7.out.trans (hb8.mono HB7.out.size))
    clear HCK HN7 HB7 hb8
    go_wp2
    go_roundw
    case rel => exact ⟨k + 1, (h.once l[k].call).2.2.2, T6, by go_num, by omega, by omega, HN8, HB8.out⟩
    case measure => simp [intOf]; omega
   have HC := Lib.hid (HI5.out.1.ask_h (by omega) l[k].who HKS.out.who l[k].call HKS.out.call.w)
   unfold CallV at HC
   go_wp2_with fail
   refine HC.out.mono ?_
   rintro e w6 ⟨v6, rfl, _, T6, _, hs6⟩
   have HN := Lib.hid (show HK w.heap.size w6 T6 ax ((h.ask l[k].who l[k].call).2.2) (2 * (k + 1) + 2) ∧ HOrd ((h.ask l[k].who l[k].call).2.2).d from ⟨hs6.hk.more (by omega), HI5.out.2.hask _ _⟩)
   have HB6 := Lib.hid (HB5.out.trans (hs6.belB HI5.out.1.lo))
   clear hs6 HI5 HB5 x0 x1 x2 x3 x4 x5 x6 x7 x8 x9
   have HA := Lib.hid (HN.out.1.all_h (by omega))
   clear HC
   go_wp2_with fail
   refine HA.out.mono ?_
   rintro e w7 ⟨v7, L7, rfl, ho7, hr7, hn7, hb7⟩
   obtain ⟨A7, c7, rfl, hrd7⟩ := ho7.rd
   have HN7 := Lib.hid (show HK w.heap.size w7 T6 ax ((h.ask l[k].who l[k].call).2.2) (2 * (k + 1) + 2) ∧ HOrd ((h.ask l[k].who l[k].call).2.2).d from ⟨HN.out.1.bel hb7, HN.out.2⟩)
   have HB7 := Lib.hid (HB6.out.trans (hb7.mono HB6.out.size))
   have HCK := Lib.hid (check_hall (h := (h.ask l[k].who l[k].call).2.2) HN.out.2 hr7 A7 c7 hn7 w7 HB7.out.size (HGV.out.on HB7.out).txt hrd7)
   clear HA ho7 hr7 hn7 hb7 hrd7 HN HB6
   go_wp2_with fail
   refine HCK.out.mono ?_
   rintro e w8 ⟨rfl, hb8⟩
   have HN8 := Lib.hid (show HK w.heap.size w8 T6 ax ((h.ask l[k].who l[k].call).2.2) (2 * (k + 1) + 2) ∧ HOrd ((h.ask l[k].who l[k].call).2.2).d from ⟨HN7.out.1.bel hb8, HN7.out.2⟩)
   have HB8 := Lib.hid (HB7.out.trans (hb8.mono HB7.out.size))
   clear HCK HN7 HB7 hb8
   go_wp2
   go_roundw
   case rel => exact ⟨k + 1, (h.ask l[k].who l[k].call).2.2, T6, by go_num, by omega, by omega, HN8, HB8.out⟩
   case measure => simp [intOf]; omega
  ·by_cases hlt1 : k < l.length
   ·have hI : (k : Int) < (l.length : Int) := by omega
    have hI3 : ¬ (k : Int) < 60 := by omega
    clear hgo
    go_wp2
    go_ret
    exact ⟨rfl, hb⟩
   ·have hI : ¬ (k : Int) < (l.length : Int) := by omega
    clear hgo
    go_wp2
    go_ret
    exact ⟨rfl, hb⟩
end Go.Proofs.YthleniobcbdepaaGreatDoor
