/- Parts of the proof; conditions: as each theorem says. -/
import Derived.Test.YtllimhgfbijbnaaGreatDoorK49
import Derived.Test.YtllimhgfbijbnaaGreatDoorK51
import Derived.Test.YtllimhgfbijbnaaGreatDoorK50
import Derived.Test.YtllimhgfbijbnaaGreatDoorK45
set_option linter.unusedVariables false
set_option linter.unusedSimpArgs false
set_option maxRecDepth 100000
set_option maxHeartbeats 40000000
namespace Go.Proofs.YtllimhgfbijbnaaGreatDoor
open Go.RowKit
def hX : Hl := ⟨gNext (Dk.new 100000) ⟨nKey [120], [111], false⟩, []⟩
theorem key_len {s : List UInt8} (h : (keyI s).kind ≠ 0) : s.length ≤ 24 := by
 have hle := keyI_le s
 by_cases h1 : (keyI s).kind = 1
 ·obtain ⟨e, hn⟩ := keyI_1 h1
  have := (nameB_iff.1 hn).2.2
  rw [e]; simp; omega
 ·by_cases h2 : (keyI s).kind = 2
  ·obtain ⟨x, e, hn, _, hx⟩ := keyI_2 h2
   have := (nameB_iff.1 hn).2.2
   have hx10 : x.length = 10 := by
    by_cases q : x.length = 10
    ·exact q
    ·rw [pfxV_ten q] at hx; cases hx
   rw [e]; simp; omega
  ·obtain ⟨x, e, hn, _, hx⟩ := keyI_3 (show (keyI s).kind = 3 by omega)
   have := (nameB_iff.1 hn).2.2
   have hx8 : x.length = 8 := by
    unfold addrV at hx
    split at hx
    ·assumption
    ·cases hx
   rw [e]; simp; omega
theorem all_lens {F : List UInt8 → List Ver} {n : Int} {L : List KV} (hr : RangeIs F [] topKey n L) (ho : OrdV (fun s => tell F s n)) : ∀ p ∈ L, p.1.length < 4294967281 ∧ p.2.length ≤ 9223372036854775807 := by
 intro p hp
 have := ho.each p.1 p.2 ((hr.mem p.1 p.2).1 hp).2
 have h1 := key_len this.1
 have h2 := (nameB_iff.1 this.2).2.2
 omega
theorem check_hall {h : Hl} (ho : HOrd h.d) {L : List KV} (hr : RangeIs h.d.F [] topKey h.d.last L) (A : Option Addr) (c : Nat) (hm : L.length ≤ 800000) {B : Nat} (w : World) (hB : B ≤ w.heap.size) (hV : TxtV B w) (hrd : Rd w w.heap.size A (flatE encKV L)) :
  Calls Tryz.prog 33 #[.slice A L.length c] w fun e w' => e = .returned (.tuple #[.int .i64 0, .nilIface]) ∧ Below w.heap.size w w' :=
 (Check_any A L c hm (all_lens hr ho.now) w hB hV hrd).mono fun e w' ⟨at', f, he, ha, hb⟩ => by
  obtain ⟨rfl, rfl⟩ := ha.zero (aud_ok hr ho.now)
  exact ⟨he, hb⟩
theorem one_calls : CallW oNet ∧ CallW oAdd ∧ CallW oNxt :=
 ⟨⟨by decide, by decide, by decide, by decide, by decide, by decide, by decide⟩, ⟨by decide, by decide, by decide, by decide, by decide, by decide, by decide⟩, ⟨by decide, by decide, by decide, by decide, by decide, by decide, by decide⟩⟩
theorem one_any (w : World) (hV : GV w.heap.size w) :
  Calls Tryz.prog 7 #[] w fun e w' => e = .returned (.bool true) ∧ Below w.heap.size w w' := by
 have HGV := Hd hV
 have HCW := Hd one_calls
 clear hV
 go_enter Tryz.func7, Tryz.ntmps7
 go_wp2_with fail
 refine (hallNew_ok 1000 (by decide) w (Nat.le_refl _) HGV.out).mono ?_
 rintro e w2 ⟨ax, Tx, rfl, hx2, hTx, hb2⟩
 have HS := Hd (show HK w.heap.size w2 Tx ax (Hl.new 1000) 0 from hx2)
 have HB := Hd hb2
 clear hx2 hTx hb2
 have hox := HS.out.once_h (by omega) oNet HCW.out.1
 rw [one1] at hox
 simp only [fault_zero0] at hox
 unfold CallV oNet netC at hox
 unfold AnsV at hox
 have HO := Hd hox
 clear hox
 go_wp2_with fail
 refine HO.out.mono ?_
 rintro e w3 ⟨v3, rfl, how3, T3, hnt3, hs3⟩
 obtain ⟨A3, c3, rfl, _⟩ := how3.form
 have HS3 := Hd (hs3.hk.bel ((Below.refl w3.heap.size w3).alloc (Nat.le_refl _) (.cells #[.int .i64 noAns.pa, .int .i64 noAns.pn, .int .i64 noAns.ad, txt noAns.owner, .slice A3 noAns.list.length c3] 46)))
 have HB3 := Hd (HB.out.trans ((hs3.belB HS.out.lo).alloc (Nat.le_trans HB.out.size hs3.size) (.cells #[.int .i64 noAns.pa, .int .i64 noAns.pn, .int .i64 noAns.ad, txt noAns.owner, .slice A3 noAns.list.length c3] 46)))
 clear HO hs3 how3 hnt3 HS HB
 go_upto_region 5 with fail
 refine wp_name (fun w4 HW => ?_)
 have hs0 := HS3.out
 have hb0 := HB3.out
 rw [← HW.out] at hs0 hb0
 have HS := Hd hs0
 have HB := Hd hb0
 clear HW HS3 HB3 hs0 hb0
 have hox := HS.out.once_h (by omega) oAdd HCW.out.2.1
 rw [one2] at hox
 simp only [fault_zero0] at hox
 unfold CallV oAdd at hox
 unfold AnsV at hox
 have HO := Hd hox
 clear hox
 go_wp2_with fail
 refine HO.out.mono ?_
 rintro e w5 ⟨v5, rfl, how5, T5, hnt5, hs5⟩
 obtain ⟨A5, c5, rfl, _⟩ := how5.form
 have HS5 := Hd (hs5.hk.bel ((Below.refl w5.heap.size w5).alloc (Nat.le_refl _) (.cells #[.int .i64 noAns.pa, .int .i64 noAns.pn, .int .i64 noAns.ad, txt noAns.owner, .slice A5 noAns.list.length c5] 46)))
 have HB5 := Hd (HB.out.trans ((hs5.belB HS.out.lo).alloc (Nat.le_trans HB.out.size hs5.size) (.cells #[.int .i64 noAns.pa, .int .i64 noAns.pn, .int .i64 noAns.ad, txt noAns.owner, .slice A5 noAns.list.length c5] 46)))
 clear HO hs5 how5 hnt5 HS HB
 go_upto_region 6 with fail
 refine wp_name (fun w6 HW => ?_)
 have hs0 := HS5.out
 have hb0 := HB5.out
 rw [← HW.out] at hs0 hb0
 have HS := Hd hs0
 have HB := Hd hb0
 clear HW HS5 HB5 hs0 hb0
 have hox := HS.out.once_h (by omega) oNxt HCW.out.2.2
 rw [one3] at hox
 simp only [fault_zero0] at hox
 unfold CallV oNxt at hox
 unfold AnsV at hox
 have HO := Hd hox
 clear hox
 go_wp2_with fail
 refine HO.out.mono ?_
 rintro e w7 ⟨v7, rfl, how7, T7, hnt7, hs7⟩
 obtain ⟨A7, c7, rfl, _⟩ := how7.form
 have HB7 := Hd (HB.out.trans (hs7.belB HS.out.lo))
 have hle := HB7.out.size
 clear HO hs7 how7 hnt7 HS HB
 go_wp2
 go_ret
 exact ⟨rfl, HB7.out.alloc hle _⟩
theorem topKept_walk (room : Int) (hroom : (Lit.int .i64 room).wf = true) (A : Option Addr) (l : List HStp) (cc : Nat) (hm : l.length ≤ maxLen) (hS : ∀ s ∈ l, HStpOk s) (w : World) (hV : GV w.heap.size w) (hl : Rd w w.heap.size A (cellsH l)) :
  Calls Tryz.prog 6 #[.int .i64 room, .slice A l.length cc] w fun e w' => e = .returned (.bool true) ∧ Below w.heap.size w w' := by
 have HS := Hd hS
 have HGV := Hd hV
 clear hS hV
 go_enter Tryz.func6, Tryz.ntmps6
 go_wp2_with fail
 refine (one_any w HGV.out).mono ?_
 rintro e w1 ⟨rfl, hb1⟩
 by_cases hr : room < 0 ∨ 5000 < room
 ·have HB1 := Hd hb1
  clear hb1
  rcases hr with hr | hr
  ·go_wp2
   go_ret
   exact ⟨rfl, HB1.out⟩
  ·have hr0 : ¬ room < 0 := by omega
   go_wp2
   go_ret
   exact ⟨rfl, HB1.out⟩
 have hr1 : ¬ room < 0 := fun q => hr (.inl q)
 have hr2 : ¬ 5000 < room := fun q => hr (.inr q)
 clear hr
 have HNW := Hd (hallNew_ok room (by omega) w1 hb1.size (HGV.out.on hb1))
 have HB1 := Hd hb1
 clear hb1
 go_wp2_with fail
 refine HNW.out.mono ?_
 rintro e w2 ⟨ax, Tx, rfl, hx2, hTx, hb2⟩
 have HB2 := Hd (HB1.out.trans (hb2.mono HB1.out.size))
 have HG2 := Hd (show HgS w.heap.size (w2.alloc (.cells #[.slice none 0 0] 52)) Tx ax (Hl.new room) 0 (fun q => q = w2.heap.size) (.slice (some ⟨w2.heap.size, 0, none⟩) 1 1) ([[]]) ∧ FgI topKey (Hl.new room).d ([[]]) ∧ HOrd (Hl.new room).d from ⟨HgS.new hx2 HB2.out.size, FgI.new room, HOrd.new room⟩)
 have HB3 := Hd (HB2.out.alloc HB2.out.size (.cells #[.slice none 0 0] 52))
 clear HNW hx2 hTx hb2 HB2 HB1
 go_upto_block 0 with fail
 generalize hWa : w2.alloc (.cells #[.slice none 0 0] 52) = wi at *
 clear hWa
 generalize w2.heap.size = bi at *
 go_wp2
 go_loopw [8, 9] (fun v i wr => ∃ (k : Nat) (h : Hl) (was : List (List KV)) (T R : Nat → Prop), v = v ∧ i = .int .i64 k ∧ k ≤ l.length ∧ k ≤ 60 ∧ Hid (HgS w.heap.size wr T ax (h) (2 * k) R (v) (was) ∧ FgI topKey (h).d (was) ∧ HOrd (h).d) ∧ Below w.heap.size w wr) (fun _ i _ => 60 - (intOf i).toNat)
 case atStart => exact ⟨0, _, _, _, _, rfl, by go_num, by omega, by omega, HG2, HB3.out⟩
 case round =>
  clear HG2 HB3
  obtain ⟨k, h, was, T, R, _, rfl, hk1, hk2, HI0, hb⟩ := hrel
  by_cases hgo : k < l.length ∧ k < 60
  ·obtain ⟨hlt1, hlt2⟩ := hgo
   have HKS := Hd (HS.out l[k] (List.getElem_mem _))
   obtain ⟨b0, of0, rfl, hbb0, c0, c1, c2, c3, c4, c5, c6, c7, c8, c9⟩ := (hl.below hb).hstp hlt1
   have hI : (k : Int) < (l.length : Int) := by omega
   have hI3 : (k : Int) < 60 := by omega
   have hb5 := hb.alloc hb.size (.cells #[.int .i64 l[k].what, txt l[k].who, .int .i64 l[k].n, .int .i64 l[k].call.what, txt l[k].call.name, .int .i64 l[k].call.pa, .int .i64 l[k].call.pn, .int .i64 l[k].call.len, .int .i64 l[k].call.ad, txt l[k].call.owner] 35)
   have hi5 := HI0.out.1.bel ((Below.refl wr.heap.size wr).alloc (Nat.le_refl _) (.cells #[.int .i64 l[k].what, txt l[k].who, .int .i64 l[k].n, .int .i64 l[k].call.what, txt l[k].call.name, .int .i64 l[k].call.pa, .int .i64 l[k].call.pn, .int .i64 l[k].call.len, .int .i64 l[k].call.ad, txt l[k].call.owner] 35))
   have hbk := Blk.new wr 35 #[.int .i64 l[k].what, txt l[k].who, .int .i64 l[k].n, .int .i64 l[k].call.what, txt l[k].call.name, .int .i64 l[k].call.pa, .int .i64 l[k].call.pn, .int .i64 l[k].call.len, .int .i64 l[k].call.ad, txt l[k].call.owner]
   go_upto_region 12 with fail
   refine wp_name (fun w5 HW => ?_)
   rw [← HW.out] at hb5 hi5 hbk
   have HSA := Hd (hi5.x.safe_h (by omega))
   have HI5 := Hd hi5
   have HB5 := Hd hb5
   have HBK := Hd hbk
   generalize wr.heap.size = g5 at *
   clear HW hb5 hi5 hbk hb c0 c1 c2 c3 c4 c5 c6 c7 c8 c9
   go_wp2_with fail
   refine HSA.out.mono ?_
   rintro e w6 ⟨rfl, hb6⟩
   have hi6 := HI5.out.bel hb6
   obtain ⟨xw, hw1, -⟩ := hi6.was
   obtain ⟨Aw, cw, rfl, _⟩ := own_form hw1
   have HI := Hd (show HgS w.heap.size w6 T ax (h) (2 * k) R (.slice Aw was.length cw) (was) ∧ FgI topKey (h).d (was) ∧ HOrd (h).d from ⟨hi6, HI0.out.2⟩)
   have HB := Hd (HB5.out.trans (hb6.mono HB5.out.size))
   have hbk := HBK.out.below hb6 HBK.out.lt
   have x0 := hbk.cell 0; have x1' := hbk.cell 1; have x2' := hbk.cell 2; have x3' := hbk.cell 3; have x4 := hbk.cell 4; have x5 := hbk.cell 5; have x6 := hbk.cell 6; have x7 := hbk.cell 7; have x8 := hbk.cell 8; have x9 := hbk.cell 9
   simp at x0 x1' x2' x3' x4 x5 x6 x7 x8 x9
   clear hbk HBK HSA hb6 hi6 hw1 HI5 HB5 HI0
   have HW0 := Hd trivial
   go_upto_block 2 with fail
   go_cut [8, 12, 13, 14, 15, 16, 17, 19, 20, 66, 72, 94, 100, 104, 110, 154] (fun v _ _ _ _ _ _ _ _ _ _ _ _ _ _ _ wx => ∃ (h' : Hl) (was' : List (List KV)) (T' R' : Nat → Prop), Hid ((HgS w.heap.size wx T' ax (h') (2 * (k + 1)) R' (v) (was') ∧ FgI topKey (h').d (was') ∧ HOrd (h').d) ∧ h.d.ns ≤ h'.d.ns) ∧ Below w.heap.size w wx)
   case first =>
    by_cases hw0 : l[k].what = 0
    ·as_aux_lemma =>
      skip
      have fw : (l[k].what == 0) = true := by simpa using hw0
      clear hw0
      have HC := Hd (HI.out.1.x.open_h (by omega) l[k].who HKS.out.who)
      go_wp2_with fail
      refine HC.out.mono ?_
      rintro e wz ⟨rfl, T6, hs6⟩
      have HZ := Hd (show HgS w.heap.size wz T6 ax ((h.open l[k].who).2) (2 * (k + 1)) R (.slice Aw was.length cw) (was) ∧ FgI topKey ((h.open l[k].who).2).d (was) ∧ HOrd ((h.open l[k].who).2).d from ⟨(HI.out.1.step hs6).more (by omega), HI.out.2.1.same (open_keeps h _).1 (open_keeps h _).2.1, HI.out.2.2.hopen _⟩)
      have HNS := Hd (show h.d.ns ≤ ((h.open l[k].who).2).d.ns from Nat.le_of_eq (open_keeps h _).2.2.symm)
      have HBz := Hd (HB.out.trans (hs6.belB HI.out.1.x.lo))
      clear hs6 HC
      go_wp2
      go_meet
      exact ⟨(h.open l[k].who).2, was, T6, R, Hd ⟨HZ.out, HNS.out⟩, HBz.out⟩
    by_cases hw1 : l[k].what = 1
    ·as_aux_lemma =>
      skip
      have fw : (l[k].what == 1) = true := by simpa using hw1
      clear hw1
      have HC := Hd (HI.out.1.x.close_h (by omega) l[k].who HKS.out.who)
      have HNX := Hd (close_nx HI.out.2.2 l[k].who)
      go_wp2_with fail
      refine HC.out.mono ?_
      rintro e wz ⟨rfl, T6, hs6⟩
      have HBz := Hd (HB.out.trans (hs6.belB HI.out.1.x.lo))
      have HX6 := Hd ((HI.out.1.step hs6).more (show _ ≤ (2 * (k + 1)) by omega))
      have HOR := Hd (HI.out.2.2.hclose l[k].who)
      have hlw := HI.out.2.1.len
      have hlast : h.d.last = (was.length : Int) - 1 := by unfold Dk.last; omega
      clear hs6 HC
      rcases HNX.out with ⟨q1, q2⟩ | ⟨q1, q2, q3⟩ | ⟨q1, q2, q3, lc, q4, q5⟩
      ·as_aux_lemma =>
        have HF := Hd (faultV_no q1)
        rw [HF.out]
        have HZ := Hd (show HgS w.heap.size wz T6 ax ((h.close l[k].who).2.2) (2 * (k + 1)) R (.slice Aw was.length cw) (was) ∧ FgI topKey ((h.close l[k].who).2.2).d (was) ∧ HOrd ((h.close l[k].who).2.2).d from ⟨HX6.out, HI.out.2.1.same q2.1 q2.2.1, HOR.out⟩)
        have HNS := Hd (show h.d.ns ≤ ((h.close l[k].who).2.2).d.ns from Nat.le_of_eq q2.2.2.symm)
        clear q1 q2 HNX HX6 HOR hlw hlast
        go_wp2
        go_meet
        exact ⟨(h.close l[k].who).2.2, was, T6, R, Hd ⟨HZ.out, HNS.out⟩, HBz.out⟩
      ·as_aux_lemma =>
        rw [show faultV ((h.close l[k].who).2.1) = .nilIface by rw [q1]; rfl]
        have HZ := Hd (show HgS w.heap.size wz T6 ax ((h.close l[k].who).2.2) (2 * (k + 1)) R (.slice Aw was.length cw) (was) ∧ FgI topKey ((h.close l[k].who).2.2).d (was) ∧ HOrd ((h.close l[k].who).2.2).d from ⟨HX6.out, HI.out.2.1.same q3.1 q3.2.1, HOR.out⟩)
        have HNS := Hd (show h.d.ns ≤ ((h.close l[k].who).2.2).d.ns from Nat.le_of_eq q3.2.2.symm)
        have hne : (((h.close l[k].who).1) == (was.length : Int)) = false := by simp; omega
        have hne2 : ((h.close l[k].who).1) ≠ (was.length : Int) := by omega
        clear q1 q2 q3 HNX HX6 HOR hlw hlast
        go_wp2
        go_meet
        exact ⟨(h.close l[k].who).2.2, was, T6, R, Hd ⟨HZ.out, HNS.out⟩, HBz.out⟩
      ·as_aux_lemma =>
        rw [show faultV ((h.close l[k].who).2.1) = .nilIface by rw [q1]; rfl, show ((h.close l[k].who).1) = (was.length : Int) by omega]
        have HNS := Hd (show h.d.ns ≤ ((h.close l[k].who).2.2).d.ns from Nat.le_of_eq q3.symm)
        have HFG := Hd (fun L (hL : RangeIs ((h.close l[k].who).2.2).d.F [] topKey ((h.close l[k].who).2.2).d.last L) => HI.out.2.1.more (g' := ((h.close l[k].who).2.2).d) q4 q5 hL)
        have HA := Hd (HX6.out.x.all_h (by omega))
        have hwl : was.length < 1000000000 := by have := hlw; have := HI.out.1.x.all_le; omega
        clear q1 q2 q3 q4 q5 HNX hlw hlast
        go_wp2_with fail
        refine HA.out.mono ?_
        rintro e w7 ⟨v7, L7, rfl, ho7, hr7, hn7, hb7⟩
        obtain ⟨A7, c7, rfl, _⟩ := ho7.rd
        have HX7 := Hd (HX6.out.bel hb7)
        have HFG7 := Hd (HFG.out L7 hr7)
        have HB7 := Hd (HBz.out.trans (hb7.mono HBz.out.size))
        obtain ⟨xs7, y1, y2, y3⟩ := HX7.out.was
        have HO7 := Hd (own_of_base ho7 (Nat.zero_le _) : OwnKV w7 0 (.slice A7 L7.length c7) L7)
        have HU7 := Hd (show ∀ q, (Value.slice A7 L7.length c7).ownBlock = some q → ¬ T6 q ∧ q < w7.heap.size ∧ w.heap.size ≤ q from fun q e => by
         have h1 := World.ownsRow.lt ho7 q e
         have h2 := HBz.out.size
         exact ⟨fun e2 => by have := HX6.out.x.lt q e2; omega, h1.2, by omega⟩)
        have hone : ∀ u ∈ (#[Value.slice A7 L7.length c7] : Array Value).toList, u.oneCell' = true := by intro u hu; simp at hu; subst hu; rfl
        have HY3 := Hd y3
        have HY2 := Hd y2
        clear HA HFG hr7 hn7 hb7 ho7 HX6 HBz y3 y2
        go_upto_region 41 with (at_builtin; go_loud (refine wpList_append_elt (w1 := w7) rfl _ _ 76 rfl 52 Tryz.underlying76 _ 1 24 infoPP rfl (by decide) (by decide) 0 (.slice Aw was.length cw) was.length xs7 rfl y1 #[.slice A7 L7.length c7] rfl hone rfl hwl (Nat.zero_le _) ?_); intro v8 wz hown8 hg8 hat8)
        obtain ⟨R8, HX8⟩ := HX7.out.app y1 HY2.out HY3.out HO7.out HU7.out hown8 hg8 hat8 HB7.out.size
        obtain ⟨A8, c8, rfl, _⟩ := own_form hown8
        have HZ := Hd (show HgS w.heap.size wz T6 ax ((h.close l[k].who).2.2) (2 * (k + 1)) R8 (.slice A8 (was.length + 1) c8) (was ++ [L7]) ∧ FgI topKey ((h.close l[k].who).2.2).d (was ++ [L7]) ∧ HOrd ((h.close l[k].who).2.2).d from ⟨HX8, HFG7.out, HOR.out⟩)
        have HBz := Hd (HB7.out.grown hg8 HB7.out.size (fun q e => HX7.out.lo q (HY2.out q e)))
        clear HX8 hown8 hg8 hat8 HX7 HFG7 HB7 HO7 HU7 HY2 HY3 hone y1 HOR
        go_wp2
        go_meet
        exact ⟨(h.close l[k].who).2.2, was ++ [L7], T6, R8, Hd ⟨HZ.out, HNS.out⟩, HBz.out⟩
    by_cases hw2 : l[k].what = 2
    ·as_aux_lemma =>
      skip
      have fw : (l[k].what == 2) = true := by simpa using hw2
      clear hw2
      have HC := Hd (HI.out.1.x.quit_h (by omega) l[k].who HKS.out.who)
      go_wp2_with fail
      refine HC.out.mono ?_
      rintro e wz ⟨rfl, T6, hs6⟩
      have HZ := Hd (show HgS w.heap.size wz T6 ax ((h.quit l[k].who).2) (2 * (k + 1)) R (.slice Aw was.length cw) (was) ∧ FgI topKey ((h.quit l[k].who).2).d (was) ∧ HOrd ((h.quit l[k].who).2).d from ⟨(HI.out.1.step hs6).more (by omega), HI.out.2.1.same (quit_keeps h _).1 (quit_keeps h _).2.1, HI.out.2.2.hquit _⟩)
      have HNS := Hd (show h.d.ns ≤ ((h.quit l[k].who).2).d.ns from Nat.le_of_eq (quit_keeps h _).2.2.symm)
      have HBz := Hd (HB.out.trans (hs6.belB HI.out.1.x.lo))
      clear hs6 HC
      go_wp2
      go_meet
      exact ⟨(h.quit l[k].who).2, was, T6, R, Hd ⟨HZ.out, HNS.out⟩, HBz.out⟩
    by_cases hw3 : l[k].what = 3
    ·as_aux_lemma =>
      skip
      have fw : (l[k].what == 3) = true := by simpa using hw3
      clear hw3
      have HC := Hd (HI.out.1.x.flush_h)
      go_wp2_with fail
      refine HC.out.mono ?_
      rintro e wz ⟨rfl, T6, hs6⟩
      have HZ := Hd (show HgS w.heap.size wz T6 ax ((⟨h.d.flush.2, h.op⟩ : Hl)) (2 * (k + 1)) R (.slice Aw was.length cw) (was) ∧ FgI topKey ((⟨h.d.flush.2, h.op⟩ : Hl)).d (was) ∧ HOrd ((⟨h.d.flush.2, h.op⟩ : Hl)).d from ⟨(HI.out.1.step hs6).more (by omega), HI.out.2.1.same rfl rfl, HI.out.2.2.flush⟩)
      have HNS := Hd (show h.d.ns ≤ ((⟨h.d.flush.2, h.op⟩ : Hl)).d.ns from HI.out.1.x.flush_ns)
      have HBz := Hd (HB.out.trans (hs6.belB HI.out.1.x.lo))
      clear hs6 HC
      go_wp2
      go_meet
      exact ⟨(⟨h.d.flush.2, h.op⟩ : Hl), was, T6, R, Hd ⟨HZ.out, HNS.out⟩, HBz.out⟩
    by_cases hw4 : l[k].what = 4
    ·as_aux_lemma =>
      skip
      have fw : (l[k].what == 4) = true := by simpa using hw4
      clear hw4
      have HC := Hd (HI.out.1.x.fail_h l[k].n HKS.out.n)
      go_wp2_with fail
      refine HC.out.mono ?_
      rintro e wz ⟨rfl, T6, hs6⟩
      have HZ := Hd (show HgS w.heap.size wz T6 ax ((⟨h.d.fail l[k].n, h.op⟩ : Hl)) (2 * (k + 1)) R (.slice Aw was.length cw) (was) ∧ FgI topKey ((⟨h.d.fail l[k].n, h.op⟩ : Hl)).d (was) ∧ HOrd ((⟨h.d.fail l[k].n, h.op⟩ : Hl)).d from ⟨(HI.out.1.step hs6).more (by omega), HI.out.2.1.same rfl rfl, HI.out.2.2.fail _⟩)
      have HNS := Hd (show h.d.ns ≤ ((⟨h.d.fail l[k].n, h.op⟩ : Hl)).d.ns from Nat.le_refl _)
      have HBz := Hd (HB.out.trans (hs6.belB HI.out.1.x.lo))
      clear hs6 HC
      go_wp2
      go_meet
      exact ⟨(⟨h.d.fail l[k].n, h.op⟩ : Hl), was, T6, R, Hd ⟨HZ.out, HNS.out⟩, HBz.out⟩
    by_cases hw5 : l[k].what = 5
    ·as_aux_lemma =>
      skip
      have fw : (l[k].what == 5) = true := by simpa using hw5
      clear hw5
      have HC := Hd (HI.out.1.x.crash_h (by omega) l[k].n HKS.out.n)
      obtain ⟨j, j1, j2, j3, j4, j5⟩ := HI.out.1.x.crash_fg HI.out.2.1 l[k].n
      have HJ := Hd (show h.d.ns ≤ j ∧ j < was.length ∧ (h.crash l[k].n).d.ns = j ∧ (h.crash l[k].n).d.all.length = j ∧ FgI topKey (h.crash l[k].n).d (was.take (j + 1)) ∧ HOrd (h.crash l[k].n).d from ⟨j1, j2, j3, j4, j5, HI.out.1.x.hcrash HI.out.2.2 _⟩)
      clear j1 j2 j3 j4 j5
      go_wp2_with fail
      refine HC.out.mono ?_
      rintro e w7 ⟨rfl, T6, hs6⟩
      have HX7 := Hd (HI.out.1.step hs6)
      have HB7 := Hd (HB.out.trans (hs6.belB HI.out.1.x.lo))
      have hsf := HX7.out.x.safe_h (by omega)
      rw [HJ.out.2.2.1] at hsf
      have HSF := Hd hsf
      clear hsf hs6 HC
      go_wp2_with fail
      refine HSF.out.mono ?_
      rintro e w8 ⟨rfl, hb8⟩
      have HX8 := Hd (HX7.out.bel hb8)
      have HB8 := Hd (HB7.out.trans (hb8.mono HB7.out.size))
      have hj1 : ¬ ((j : Int) < (h.d.ns : Int)) := by have := HJ.out.1; omega
      have hj2 : ¬ ((was.length : Int) ≤ (j : Int)) := by have := HJ.out.2.1; omega
      have hj3 : j < was.length := HJ.out.2.1
      have hj4 : (j : Int) < (was.length : Int) := by omega
      have hj5 : (0 : Int) ≤ (j : Int) := by omega
      obtain ⟨xs8, x1, x2, x3⟩ := HX8.out.was
      obtain ⟨uj, u1, u2, u3⟩ := x3 j hj3
      obtain ⟨Aj, cj, huj, hrdj⟩ := u2.rd
      subst huj
      obtain ⟨Aw2, cw2, hvw2, hcapw, _, hrdw2⟩ := own_form3 x1
      injection hvw2 with hv1 hv2 hv3
      subst hv1
      subst hv3
      obtain ⟨bw, ow, rfl, hbw, hcw⟩ := hrdw2 (fun e => by rw [e] at u1; cases u1)
      have cw0 := hcw _ _ u1
      have HU2 := Hd u2
      have HTOLD := Hd (show ∀ L, RangeIs (h.crash l[k].n).d.F [] topKey (h.crash l[k].n).d.last L → was[j] = L from fun L hL => by
       have hal := HJ.out.2.2.2.1
       have h1 := HJ.out.2.2.2.2.1.told hL (by rw [hal]; simp; omega)
       rw [← h1, List.getElem_take]
       simp [hal])
      generalize hLj : was[j] = Lj at *
      have HAz := Hd (show Calls Tryz.prog 16 #[ptrV ax] w8.drew (fun e w' => ∃ A c, e = .returned (.slice A Lj.length c) ∧ OwnKV w' w8.heap.size (.slice A Lj.length c) Lj ∧ Lj.length ≤ 800000 ∧ Below w8.heap.size w8 w') from
       ((HX8.out.x.bel ((Below.refl w8.heap.size w8).drew)).all_h (by omega)).mono (fun e w' q => by
        obtain ⟨v, L, q1, q2, q3, q4, q5⟩ := q
        obtain rfl := HTOLD.out L q3
        obtain ⟨A, c, hv, _⟩ := q2.rd
        subst hv
        exact ⟨A, c, q1, q2, q4, ((Below.refl w8.heap.size w8).drew).trans q5⟩))
      clear x1 x2 x3 u1 u2 u3 hrdw2 hcw hrdj HSF hb8 HX7 HB7 HI HB
      go_upto_region 32 with fail
      go_region_held3 (fun W => W.cell? ⟨bw, ow + j, none⟩ = some (.slice Aj Lj.length cj))
       (first
        | exact cw0
        | (rw [hba.cell hbw]; exact cw0)
        | (rw [hbc.cell (Nat.lt_of_lt_of_le hbw hba.size), hba.cell hbw]; exact cw0))
       ((first
        | (go_at_call 16; refine HAz.out.mono ?_; rintro e wa ⟨A6, c6, rfl, hO6, hl6, hba⟩)
        | (go_at_call 15; refine (pairs_same A6 Aj Lj c6 cj (by unfold maxLen; omega) wa (rd_of' hO6) (rd_of' (own_below HU2.out hba))).mono ?_; rintro e wb ⟨rfl, hbc⟩)))
      have hbz : Below w8.heap.size w8 wb := hba.trans (hbc.mono hba.size)
      have HB9 := Hd (HB8.out.trans (hbz.mono HB8.out.size))
      have HX9 := Hd (HX8.out.bel hbz)
      have HA9 := Hd (HX9.out.x.all_h (by omega))
      clear hl6 hba hbc hbz hO6 cw0 HAz HU2 HB8 HX8
      go_wp2_with fail
      refine HA9.out.mono ?_
      rintro e wc' ⟨v9, L9, rfl, ho9, hr9, hn9, hb9⟩
      obtain ⟨A9, c9, rfl, hrd9⟩ := ho9.rd
      have HX10 := Hd (HX9.out.bel hb9)
      have HB10 := Hd (HB9.out.trans (hb9.mono HB9.out.size))
      have HCK := Hd (check_hall (h := h.crash l[k].n) HJ.out.2.2.2.2.2 hr9 A9 c9 hn9 wc' HB10.out.size (HGV.out.on HB10.out).txt hrd9)
      clear HA9 ho9 hr9 hn9 hb9 hrd9 HX9 HB9
      go_wp2_with fail
      refine HCK.out.mono ?_
      rintro e wz ⟨rfl, hbd⟩
      have HBz := Hd (HB10.out.trans (hbd.mono HB10.out.size))
      have HZ := Hd (show HgS w.heap.size wz T6 ax (h.crash l[k].n) (2 * (k + 1)) R (.slice (some ⟨bw, ow, none⟩) (j + 1) cw) (was.take (j + 1)) ∧ FgI topKey (h.crash l[k].n).d (was.take (j + 1)) ∧ HOrd (h.crash l[k].n).d from ⟨((HX10.out.bel hbd).cut (m := j + 1) (by omega)).more (by omega), HJ.out.2.2.2.2.1, HJ.out.2.2.2.2.2⟩)
      have HNS := Hd (show h.d.ns ≤ (h.crash l[k].n).d.ns by rw [HJ.out.2.2.1]; exact HJ.out.1)
      have hjc : (j : Int) + 1 ≤ (cw : Int) := by omega
      have hj60 : (j : Int) ≤ 1000000000 := by have := HX10.out.x.all_le; have := HJ.out.2.2.2.1; omega
      clear HCK hbd HX10 HB10
      go_upto_region 36 with fail
      go_wp2
      go_meet
      exact ⟨h.crash l[k].n, was.take (j + 1), T6, R, Hd ⟨HZ.out, HNS.out⟩, HBz.out⟩
    by_cases hw6 : l[k].what = 6
    ·as_aux_lemma =>
      skip
      have fw : (l[k].what == 6) = true := by simpa using hw6
      clear hw6
      have HC := Hd (HI.out.1.x.once_h (by omega) l[k].call HKS.out.call.w)
      have HNX := Hd (once_nx HI.out.2.2 l[k].call)
      unfold CallV at HC
      unfold AnsV at HC
      go_wp2_with fail
      refine HC.out.mono ?_
      rintro e w6 ⟨v6, rfl, how6, T6, hnt6, hs6⟩
      obtain ⟨A6, c6, rfl, _⟩ := how6.form
      clear how6 hnt6
      have HS6 := Hd (hs6.alloc (.cells #[.int .i64 (h.once l[k].call).1.pa, .int .i64 (h.once l[k].call).1.pn, .int .i64 (h.once l[k].call).1.ad, txt (h.once l[k].call).1.owner, .slice A6 (h.once l[k].call).1.list.length c6] 46))
      clear hs6
      go_upto_region 39 with fail
      refine wp_name (fun wz HW => ?_)
      have hs6 := HS6.out
      rw [← HW.out] at hs6
      clear HW HS6
      have HBz := Hd (HB.out.trans (hs6.belB HI.out.1.x.lo))
      have HX6 := Hd ((HI.out.1.step hs6).more (show _ ≤ (2 * (k + 1)) by omega))
      have HOR := Hd (HI.out.2.2.honce l[k].call)
      have hlw := HI.out.2.1.len
      have hlast : h.d.last = (was.length : Int) - 1 := by unfold Dk.last; omega
      clear hs6 HC
      rcases HNX.out with ⟨q1, q2⟩ | ⟨q1, q2, q3⟩ | ⟨q1, q2, q3, lc, q4, q5⟩
      ·as_aux_lemma =>
        have HF := Hd (faultV_no q1)
        rw [HF.out]
        have HZ := Hd (show HgS w.heap.size wz T6 ax ((h.once l[k].call).2.2.2) (2 * (k + 1)) R (.slice Aw was.length cw) (was) ∧ FgI topKey ((h.once l[k].call).2.2.2).d (was) ∧ HOrd ((h.once l[k].call).2.2.2).d from ⟨HX6.out, HI.out.2.1.same q2.1 q2.2.1, HOR.out⟩)
        have HNS := Hd (show h.d.ns ≤ ((h.once l[k].call).2.2.2).d.ns from Nat.le_of_eq q2.2.2.symm)
        clear q1 q2 HNX HX6 HOR hlw hlast
        go_wp2
        go_meet
        exact ⟨(h.once l[k].call).2.2.2, was, T6, R, Hd ⟨HZ.out, HNS.out⟩, HBz.out⟩
      ·as_aux_lemma =>
        rw [show faultV ((h.once l[k].call).2.2.1) = .nilIface by rw [q1]; rfl]
        have HZ := Hd (show HgS w.heap.size wz T6 ax ((h.once l[k].call).2.2.2) (2 * (k + 1)) R (.slice Aw was.length cw) (was) ∧ FgI topKey ((h.once l[k].call).2.2.2).d (was) ∧ HOrd ((h.once l[k].call).2.2.2).d from ⟨HX6.out, HI.out.2.1.same q3.1 q3.2.1, HOR.out⟩)
        have HNS := Hd (show h.d.ns ≤ ((h.once l[k].call).2.2.2).d.ns from Nat.le_of_eq q3.2.2.symm)
        have hne : (((h.once l[k].call).2.1) == (was.length : Int)) = false := by simp; omega
        have hne2 : ((h.once l[k].call).2.1) ≠ (was.length : Int) := by omega
        clear q1 q2 q3 HNX HX6 HOR hlw hlast
        go_wp2
        go_meet
        exact ⟨(h.once l[k].call).2.2.2, was, T6, R, Hd ⟨HZ.out, HNS.out⟩, HBz.out⟩
      ·as_aux_lemma =>
        rw [show faultV ((h.once l[k].call).2.2.1) = .nilIface by rw [q1]; rfl, show ((h.once l[k].call).2.1) = (was.length : Int) by omega]
        have HNS := Hd (show h.d.ns ≤ ((h.once l[k].call).2.2.2).d.ns from Nat.le_of_eq q3.symm)
        have HFG := Hd (fun L (hL : RangeIs ((h.once l[k].call).2.2.2).d.F [] topKey ((h.once l[k].call).2.2.2).d.last L) => HI.out.2.1.more (g' := ((h.once l[k].call).2.2.2).d) q4 q5 hL)
        have HA := Hd (HX6.out.x.all_h (by omega))
        have hwl : was.length < 1000000000 := by have := hlw; have := HI.out.1.x.all_le; omega
        clear q1 q2 q3 q4 q5 HNX hlw hlast
        go_wp2_with fail
        refine HA.out.mono ?_
        rintro e w7 ⟨v7, L7, rfl, ho7, hr7, hn7, hb7⟩
        obtain ⟨A7, c7, rfl, _⟩ := ho7.rd
        have HX7 := Hd (HX6.out.bel hb7)
        have HFG7 := Hd (HFG.out L7 hr7)
        have HB7 := Hd (HBz.out.trans (hb7.mono HBz.out.size))
        obtain ⟨xs7, y1, y2, y3⟩ := HX7.out.was
        have HO7 := Hd (own_of_base ho7 (Nat.zero_le _) : OwnKV w7 0 (.slice A7 L7.length c7) L7)
        have HU7 := Hd (show ∀ q, (Value.slice A7 L7.length c7).ownBlock = some q → ¬ T6 q ∧ q < w7.heap.size ∧ w.heap.size ≤ q from fun q e => by
         have h1 := World.ownsRow.lt ho7 q e
         have h2 := HBz.out.size
         exact ⟨fun e2 => by have := HX6.out.x.lt q e2; omega, h1.2, by omega⟩)
        have hone : ∀ u ∈ (#[Value.slice A7 L7.length c7] : Array Value).toList, u.oneCell' = true := by intro u hu; simp at hu; subst hu; rfl
        have HY3 := Hd y3
        have HY2 := Hd y2
        clear HA HFG hr7 hn7 hb7 ho7 HX6 HBz y3 y2
        go_upto_region 41 with (at_builtin; go_loud (refine wpList_append_elt (w1 := w7) rfl _ _ 76 rfl 52 Tryz.underlying76 _ 1 24 infoPP rfl (by decide) (by decide) 0 (.slice Aw was.length cw) was.length xs7 rfl y1 #[.slice A7 L7.length c7] rfl hone rfl hwl (Nat.zero_le _) ?_); intro v8 wz hown8 hg8 hat8)
        obtain ⟨R8, HX8⟩ := HX7.out.app y1 HY2.out HY3.out HO7.out HU7.out hown8 hg8 hat8 HB7.out.size
        obtain ⟨A8, c8, rfl, _⟩ := own_form hown8
        have HZ := Hd (show HgS w.heap.size wz T6 ax ((h.once l[k].call).2.2.2) (2 * (k + 1)) R8 (.slice A8 (was.length + 1) c8) (was ++ [L7]) ∧ FgI topKey ((h.once l[k].call).2.2.2).d (was ++ [L7]) ∧ HOrd ((h.once l[k].call).2.2.2).d from ⟨HX8, HFG7.out, HOR.out⟩)
        have HBz := Hd (HB7.out.grown hg8 HB7.out.size (fun q e => HX7.out.lo q (HY2.out q e)))
        clear HX8 hown8 hg8 hat8 HX7 HFG7 HB7 HO7 HU7 HY2 HY3 hone y1 HOR
        go_wp2
        go_meet
        exact ⟨(h.once l[k].call).2.2.2, was ++ [L7], T6, R8, Hd ⟨HZ.out, HNS.out⟩, HBz.out⟩
    skip
    have HC := Hd (HI.out.1.x.ask_h (by omega) l[k].who HKS.out.who l[k].call HKS.out.call.w)
    unfold CallV at HC
    go_wp2_with fail
    refine HC.out.mono ?_
    rintro e wz ⟨v6, rfl, _, T6, _, hs6⟩
    have HZ := Hd (show HgS w.heap.size wz T6 ax ((h.ask l[k].who l[k].call).2.2) (2 * (k + 1)) R (.slice Aw was.length cw) (was) ∧ FgI topKey ((h.ask l[k].who l[k].call).2.2).d (was) ∧ HOrd ((h.ask l[k].who l[k].call).2.2).d from ⟨(HI.out.1.step hs6).more (by omega), HI.out.2.1.same (ask_keeps h _ _).1 (ask_keeps h _ _).2.1, HI.out.2.2.hask _ _⟩)
    have HNS := Hd (show h.d.ns ≤ ((h.ask l[k].who l[k].call).2.2).d.ns from Nat.le_of_eq (ask_keeps h _ _).2.2.symm)
    have HBz := Hd (HB.out.trans (hs6.belB HI.out.1.x.lo))
    clear hs6 HC
    go_wp2
    go_meet
    exact ⟨(h.ask l[k].who l[k].call).2.2, was, T6, R, Hd ⟨HZ.out, HNS.out⟩, HBz.out⟩
   case rest =>
    clear x0 x1' x2' x3' x4 x5 x6 x7 x8 x9 HI HB
    obtain ⟨h', was', T', R', HZ0, hbz⟩ := hcut
    obtain ⟨xw', hw1', -⟩ := HZ0.out.1.1.was
    obtain ⟨Aw', cw', rfl, _⟩ := own_form hw1'
    have HZ := Hd HZ0.out.1
    have HNS := Hd HZ0.out.2
    have HBz := Hd hbz
    clear HZ0 hbz hw1'
    generalize wc = wz at *
    have hlz := HZ.out.2.1.len
    have hbz60 := HZ.out.1.x.all_le
    obtain ⟨xsz, x1, x2, x3⟩ := HZ.out.1.was
    have hlen1 : (h').d.all.length < (was').length := by omega
    obtain ⟨uj, u1, u2, u3⟩ := x3 (h').d.all.length hlen1
    obtain ⟨Aj, cj, huj, hrdj⟩ := u2.rd
    subst huj
    obtain ⟨Aw2, cw2, hvw2, hrdw2⟩ := own_form x1
    injection hvw2 with hv1 hv2 hv3
    obtain ⟨bw, ow, eaw, hbw, hcw⟩ := hrdw2 (fun e => by rw [e] at u1; cases u1)
    subst hv1
    subst hv3
    cases eaw
    have cw0 := hcw _ _ u1
    have HU2 := Hd u2
    have HTOLD := Hd (fun L (hL : RangeIs (h').d.F [] topKey (h').d.last L) => HZ.out.2.1.told hL hlen1)
    generalize hLj : (was')[(h').d.all.length] = Lj at *
    have HAz := Hd (show Calls Tryz.prog 16 #[ptrV ax] wz.drew (fun e w' => ∃ A c, e = .returned (.slice A Lj.length c) ∧ OwnKV w' wz.heap.size (.slice A Lj.length c) Lj ∧ Lj.length ≤ 800000 ∧ Below wz.heap.size wz w') from
     ((HZ.out.1.x.bel ((Below.refl wz.heap.size wz).drew)).all_h (by omega)).mono (fun e w' q => by
      obtain ⟨v, L, q1, q2, q3, q4, q5⟩ := q
      obtain rfl := HTOLD.out L q3
      obtain ⟨A, c, hv, _⟩ := q2.rd
      subst hv
      exact ⟨A, c, q1, q2, q4, ((Below.refl wz.heap.size wz).drew).trans q5⟩))
    clear x2 x3 u2
    obtain ⟨nl, hnl⟩ : ∃ nl : Nat, nl = (was').length := ⟨_, rfl⟩
    rw [← hnl]
    try rw [← hnl] at hne
    try rw [← hnl] at hne2
    have hnl2 : nl = (was').length := hnl
    rw [← hnl2] at hlz
    generalize hja : (h').d.all.length = ja at *
    have hn1 : (nl : Int) - 1 = (ja : Int) := by omega
    have hn2 : (0 : Int) ≤ (ja : Int) := by omega
    have hn3 : (ja : Int) < (nl : Int) := by omega
    have hn4 : ja < nl := by omega
    have hwr : IntKind.i64.wrap ((nl : Int) - 1) = (ja : Int) := by rw [hn1]; exact IntWalk.i64_in _ (by omega)
    have HSF := Hd (fun W (hb : Below wz.heap.size wz W) => (HZ.out.1.x.bel hb).safe_h (by omega))
    have HLE := Hd (show ¬ (((h').d.ns : Int) < (h.d.ns : Int)) by have := HNS.out; omega)
    have HNL := Hd hnl
    clear hn1 x1 u1 u3 hrdw2 hcw hlz hbz60 HTOLD hLj hlen1 hrdj hnl hnl2
    go_upto_region 41 with fail
    go_region_held3 (fun W => W.cell? ⟨bw, ow + ja, none⟩ = some (.slice Aj Lj.length cj))
     (first
      | exact cw0
      | (rw [hba.cell hbw]; exact cw0)
      | (rw [hbc.cell (Nat.lt_of_lt_of_le hbw hba.size), hba.cell hbw]; exact cw0))
     ((first
      | (go_at_call 16; refine HAz.out.mono ?_; rintro e wa ⟨A6, c6, rfl, hO6, hl6, hba⟩)
      | (go_at_call 15; refine (pairs_same A6 Aj Lj c6 cj (by unfold maxLen; omega) wa (rd_of' hO6) (rd_of' (own_below HU2.out hba))).mono ?_; rintro e wb ⟨rfl, hbc⟩)))
    have hbz : Below wz.heap.size wz wb := hba.trans (hbc.mono hba.size)
    have HB6 := Hd (HBz.out.trans (hbz.mono HBz.out.size))
    have HZ6 := Hd (show HgS w.heap.size wb T' ax (h') (2 * (k + 1)) R' (_) (was') ∧ FgI topKey (h').d (was') ∧ HOrd (h').d from ⟨HZ.out.1.bel hbz, HZ.out.2⟩)
    have HSC := Hd (HSF.out wb hbz)
    clear hl6 hba hbc hbz hO6 cw0 HAz HU2 HBz HZ HSF
    have hle := HLE.out
    go_wp2_with fail
    refine HSC.out.mono ?_
    rintro e wd ⟨rfl, hbd⟩
    have HB7 := Hd (HB6.out.trans (hbd.mono HB6.out.size))
    have HZ7 := Hd (show HgS w.heap.size wd T' ax (h') (2 * (k + 1)) R' (_) (was') ∧ FgI topKey (h').d (was') ∧ HOrd (h').d from ⟨HZ6.out.1.bel hbd, HZ6.out.2⟩)
    clear HSC hbd HB6 HZ6 HLE HNS
    go_wp2
    go_roundw
    case rel => 
     have hnl := HNL.out
     subst hnl
     exact ⟨k + 1, h', was', T', R', trivial, by go_num, by omega, by omega, HZ7, HB7.out⟩
    case measure => simp [intOf]; omega
  ·by_cases hlt1 : k < l.length
   ·have hI : (k : Int) < (l.length : Int) := by omega
    have hI3 : ¬ (k : Int) < 60 := by omega
    clear hgo
    go_wp2
    go_ret
    exact ⟨rfl, hb⟩
   ·have hI : ¬ (k : Int) < (l.length : Int) := by omega
    clear hgo
    go_wp2
    go_ret
    exact ⟨rfl, hb⟩
end Go.Proofs.YtllimhgfbijbnaaGreatDoor
