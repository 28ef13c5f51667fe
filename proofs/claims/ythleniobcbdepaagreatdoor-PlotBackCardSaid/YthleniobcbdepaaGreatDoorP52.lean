/- Parts of the proof; conditions: as each theorem says. -/
import Derived.Test.YthleniobcbdepaaGreatDoorP49
import Derived.Test.YthleniobcbdepaaGreatDoorP51
import Derived.Test.YthleniobcbdepaaGreatDoorP50
import Derived.Test.YthleniobcbdepaaGreatDoorP46
set_option linter.unusedVariables false
set_option linter.unusedSimpArgs false
namespace Go.Proofs.YthleniobcbdepaaGreatDoor
set_option maxRecDepth 100000
open Go.RowKit
def xC : PCall := netC [120] [111]
theorem xC_w : CallW xC := ⟨by decide, by decide, by decide, by decide, by decide, by decide, by decide⟩
def hX : Hl := ⟨gNext (Dk.new 100000) ⟨nKey [120], [111], false⟩, []⟩
theorem hX_once : (Hl.new 100000).once xC = (noAns, 1, 0, hX) := once_net (by decide) (by decide)
theorem hX_ord : HOrd hX.d := by
 have h0 : HOrd (Hl.new 100000).d := HOrd.new 100000
 have := h0.honce xC
 rw [hX_once] at this
 exact this
theorem hX_tell (s : List UInt8) : tell hX.d.F s hX.d.last = if s = nKey [120] then some [111] else none := by
 have h := congrFun (tell_app (F := noF) (last := 0) (l := [⟨nKey [120], [111], false⟩]) (GoodR.nil 0) (List.pairwise_singleton _ _)) s
 have e : tell hX.d.F s hX.d.last = tell (appF noF [⟨nKey [120], [111], false⟩] (0 + 1)) s (0 + 1) := rfl
 rw [e]
 refine Eq.trans h ?_
 unfold seeB
 rw [findO_cons]
 by_cases q : s = nKey [120]
 ·rw [if_pos q.symm, if_pos q]
  rfl
 ·rw [if_neg (fun e => q e.symm), if_neg q]
  exact tell_nought'
end Go.Proofs.YthleniobcbdepaaGreatDoor

namespace Go.Proofs.YthleniobcbdepaaGreatDoor
set_option maxRecDepth 100000
open Go.RowKit
theorem hX_own : OwnI hX.d 1 := gNext_own ownI_new (by decide) (by decide)
def hX2 : Hl := ⟨gIds hX.d, []⟩
theorem hX_twice : hX.once xC = (noAns, 0, 6, hX2) := by
 have hr : aloneRun hX.d xC = ((noAns, 6), tk st0 (nKey [120])) :=
  netS_clash (β := fun s => tell hX.d.F s hX.d.last) (t := st0) (by decide) (by decide) (by decide) (v := [111]) (by show seeB _ [] _ = _; rw [seeB_nil]; exact (hX_tell _).trans (if_pos rfl))
 have := (once_full (h := hX) rfl hX_own (by decide) hX_ord.good.noLater xC).1 (by rw [hr]; decide)
 rw [this, hr]
 rfl
theorem hX2_ord : HOrd hX2.d := by
 have := hX_ord.honce xC
 rw [hX_twice] at this
 exact this
theorem hX2_own : OwnI hX2.d 1 := ⟨rfl, hX_own.down, hX_own.left, hX_own.room, hX_own.len⟩
theorem dk_op {g : Dk} (h : g.op = []) : ({ g with op := [] } : Dk) = g := by
 cases g
 simp only at h
 subst h
 rfl
theorem Qt.of {g : Dk} {i : Nat} (h : OwnI g i) (o : HOrd g) : Qt g i := ⟨by rw [dk_op h.op]; exact h, o.good⟩
structure One (B : Nat) (w : World) (T : Nat → Prop) (a b : Nat) (cs : Array Value) (h : Hl) (k : Nat) : Prop where
 x : HK B w T a h k
 blk : Blk w b 24 cs
 nx : ¬ T b
section
variable {B : Nat} {w w' : World} {T T' : Nat → Prop} {a b : Nat} {cs : Array Value} {h h' : Hl} {k k' : Nat}
theorem One.step (o : One B w T a b cs h k) (s : HKto B w T a w' T' h' k') : One B w' T' a b cs h' k' := ⟨s.hk, o.blk.fr s.fr o.nx, s.outs o.blk.lt o.nx⟩
theorem One.bel (o : One B w T a b cs h k) (hb : Below w.heap.size w w') : One B w' T a b cs h k := ⟨o.x.bel hb, o.blk.below hb o.blk.lt, o.nx⟩
theorem One.alloc (o : One B w T a b cs h k) (x : Obj) : One B (w.alloc x) T a b cs h k := o.bel ((Below.refl _ _).alloc (Nat.le_refl _) x)
theorem One.more (o : One B w T a b cs h k) {k2 : Nat} (h1 : k ≤ k2) : One B w T a b cs h k2 := ⟨o.x.more h1, o.blk, o.nx⟩
structure RowK (w : World) (base : Nat) (T : Nat → Prop) (v : Value) (L : List KV) : Prop where
 own : OwnKV w base v L
 nx : ∀ q, v.ownBlock = some q → ¬ T q
variable {base : Nat} {v : Value} {L : List KV}
theorem RowK.step (o : RowK w base T v L) (s : HKto B w T a w' T' h' k') : RowK w' base T' v L :=
 ⟨row_keep o.own (fun g e => s.fr.block g (World.ownsRow.lt o.own g e).2 (o.nx g e)), fun q e => s.outs (World.ownsRow.lt o.own q e).2 (o.nx q e)⟩
theorem RowK.bel (o : RowK w base T v L) (hb : Below w.heap.size w w') : RowK w' base T v L := ⟨own_below o.own hb, o.nx⟩
theorem RowK.alloc (o : RowK w base T v L) (x : Obj) : RowK (w.alloc x) base T v L := o.bel ((Below.refl _ _).alloc (Nat.le_refl _) x)
end
theorem xx_call {k pa pn ad : Int} {ow : List UInt8} (h0 : (Lit.int .i64 k).wf = true) (h1 : (Lit.int .i64 pa).wf = true) (h2 : (Lit.int .i64 pn).wf = true) (h3 : (Lit.int .i64 ad).wf = true) (h4 : ow.length ≤ 9223372036854775807) : CallW ⟨k, xx, pa, pn, 0, ad, ow⟩ :=
 ⟨h0, (by decide : xx.length ≤ 9223372036854775807), h1, h2, (by decide : (Lit.int .i64 0).wf = true), h3, h4⟩
theorem pb_calls (p : Pf) (a : Int) (h1 : (Lit.int .i64 p.1).wf = true) (h2 : (Lit.int .i64 p.2).wf = true) (h3 : (Lit.int .i64 a).wf = true) : CallW (addC p) ∧ CallW (takeC p) ∧ CallW (placeC a) ∧ CallW (whoC a) ∧ CallW (leaveC a) :=
 ⟨xx_call (by decide) h1 h2 (by decide) (by decide), xx_call (by decide) h1 h2 (by decide) (by decide), xx_call (by decide) (by decide) (by decide) h3 (by decide), xx_call (by decide) (by decide) (by decide) h3 (by decide), xx_call (by decide) (by decide) (by decide) h3 (by decide)⟩
set_option maxHeartbeats 40000000 in
theorem plotBack_walk (A : Option Addr) (l : List HStp) (cc : Nat) (hm : l.length ≤ maxLen) (hS : ∀ s ∈ l, HStpOk s) (p : Pf) (a : Int) (ap : Bool) (hp1 : (Lit.int .i64 p.1).wf = true) (hp2 : (Lit.int .i64 p.2).wf = true) (ha : (Lit.int .i64 a).wf = true) (w : World) (hV : GV w.heap.size w) (hE : ErrVar w) (hl : Rd w w.heap.size A (cellsH l)) :
  Calls Tryz.prog 4 #[.slice A l.length cc, .agg #[.int .i64 p.1, .int .i64 p.2], .int .i64 a, .bool ap] w fun e w' => e = .returned (.bool true) ∧ Below w.heap.size w w' := by
 have HSS := Lib.hid hS
 have HGV := Lib.hid hV
 have HEV := Lib.hid hE
 have HCW := Lib.hid (pb_calls p a hp1 hp2 ha)
 have hb1 := (Below.refl w.heap.size w).alloc (Nat.le_refl _) (.cells #[.int .i64 p.1, .int .i64 p.2] 24)
 have hBc := Blk.new w 24 #[.int .i64 p.1, .int .i64 p.2]
 clear hS hV hE
 go_enter Tryz.func4, Tryz.ntmps4
 go_upto_region 1 with fail
 refine wp_name (fun w1 HW => ?_)
 rw [← HW.out] at hb1 hBc
 clear HW
 have HGV1 := Lib.hid (HGV.out.on hb1)
 go_wp2_with fail
 refine (hallNew_ok 100000 (by decide) w1 hb1.size HGV1.out).mono ?_
 rintro e w2 ⟨ax, Tx, rfl, hx2, hTx, hb2⟩
 have HS := Lib.hid (show One w.heap.size w2 Tx ax w.heap.size #[.int .i64 p.1, .int .i64 p.2] (Hl.new 100000) (0) from ⟨hx2, hBc.below hb2 hBc.lt, fun q => by have h1 := hTx _ q; have h2 := hBc.lt; omega⟩)
 have HB := Lib.hid (hb1.trans (hb2.mono hb1.size))
 clear hx2 hTx hb2 hb1 hBc HGV1
 have hox := HS.out.x.once_h (by omega) xC xC_w
 rw [hX_once] at hox
 simp only [fault_zero0] at hox
 unfold CallV xC netC at hox
 unfold AnsV at hox
 have HO := Lib.hid hox
 clear hox
 go_upto_region 4 with fail
 go_wp2_with fail
 refine HO.out.mono ?_
 rintro e w4 ⟨v4, rfl, how4, T4, hnt4, hs4⟩
 obtain ⟨A4, c4, rfl, _⟩ := how4.form
 clear how4 hnt4
 have HSn := Lib.hid ((HS.out.step hs4).alloc (.cells #[.int .i64 noAns.pa, .int .i64 noAns.pn, .int .i64 noAns.ad, txt noAns.owner, .slice A4 noAns.list.length c4] 34))
 have HBn := Lib.hid (HB.out.trans ((hs4.belB HS.out.x.lo).alloc (Nat.le_trans HS.out.x.le hs4.size) (.cells #[.int .i64 noAns.pa, .int .i64 noAns.pn, .int .i64 noAns.ad, txt noAns.owner, .slice A4 noAns.list.length c4] 34)))
 clear HO hs4 HS HB
 have HS := HSn; have HB := HBn
 clear HSn HBn
 go_upto_region 5 with fail
 refine wp_name (fun w11 HW => ?_)
 have hs0 := HS.out; have hb0 := HB.out
 rw [← HW.out] at hs0 hb0
 clear HW HS HB
 have HS := Lib.hid hs0; have HB := Lib.hid hb0
 clear hs0 hb0
 have hox := HS.out.x.once_h (by omega) xC xC_w
 rw [hX_twice] at hox
 simp only [faultV_no (show (6 : Int) ≠ 0 by decide)] at hox
 unfold CallV xC netC at hox
 unfold AnsV at hox
 have HO := Lib.hid hox
 clear hox
 go_wp2_with fail
 refine HO.out.mono ?_
 rintro e w5 ⟨v5, rfl, how5, T5, hnt5, hs5⟩
 obtain ⟨A5, c5, rfl, _⟩ := how5.form
 clear how5 hnt5
 have HSn := Lib.hid ((HS.out.step hs5).alloc (.cells #[.int .i64 noAns.pa, .int .i64 noAns.pn, .int .i64 noAns.ad, txt noAns.owner, .slice A5 noAns.list.length c5] 34))
 have HBn := Lib.hid (HB.out.trans ((hs5.belB HS.out.x.lo).alloc (Nat.le_trans HS.out.x.le hs5.size) (.cells #[.int .i64 noAns.pa, .int .i64 noAns.pn, .int .i64 noAns.ad, txt noAns.owner, .slice A5 noAns.list.length c5] 34)))
 clear HO hs5 HS HB
 have HS := HSn; have HB := HBn
 clear HSn HBn
 go_upto_region 6 with fail
 refine wp_name (fun w12 HW => ?_)
 have hs0 := HS.out; have hb0 := HB.out
 rw [← HW.out] at hs0 hb0
 clear HW HS HB
 have HS := Lib.hid hs0; have HB := Lib.hid hb0
 clear hs0 hb0
 have HER := Lib.hid (error_same 6 (by decide) _ (HEV.out.below HB.out))
 go_wp2_with fail
 refine HER.out.mono ?_
 rintro e w6 ⟨rfl, hb6⟩
 have HSn := Lib.hid (HS.out.bel hb6)
 have HBn := Lib.hid (HB.out.trans (hb6.mono HB.out.size))
 clear HS HB HER hb6
 have HS := HSn; have HB := HBn
 clear HSn HBn
 go_wp2
 go_loopw [18] (fun i wr => ∃ (k : Nat) (h : Hl) (T : Nat → Prop), i = .int .i64 k ∧ k ≤ l.length ∧ k ≤ 40 ∧ Hid (One w.heap.size wr T ax w.heap.size #[.int .i64 p.1, .int .i64 p.2] (h) (2 * k + 4) ∧ h.op = [] ∧ OwnI h.d (k + 1) ∧ HOrd h.d) ∧ Below w.heap.size w wr) (fun i _ => 40 - (intOf i).toNat)
 case atStart => exact ⟨0, hX2, _, by go_num, by omega, by omega, Lib.hid ⟨HS.out, rfl, hX2_own, hX2_ord⟩, HB.out⟩
 case round =>
  clear HS HB
  obtain ⟨k, h, T, rfl, hk1, hk2, HI, hb⟩ := hrel
  by_cases hgo : k < l.length ∧ k < 40
  ·obtain ⟨hlt1, hlt2⟩ := hgo
   have hcl := (HSS.out l[k] (List.getElem_mem _)).call.w
   obtain ⟨b0, of0, rfl, hbb0, c0, c1, c2, c3, c4, c5, c6, c7, c8, c9⟩ := (hl.below hb).hstp hlt1
   have hI : (k : Int) < (l.length : Int) := by omega
   have hI3 : (k : Int) < 40 := by omega
   obtain ⟨_, f, _, _, _, _, g1, g2, R⟩ := alone_r HI.out.2.1 HI.out.2.2.1 (by omega) HI.out.1.x.noLater l[k].call
   have HN := Lib.hid (show (h.once l[k].call).2.2.2.op = [] ∧ OwnI (h.once l[k].call).2.2.2.d (k + 1 + 1) ∧ HOrd (h.once l[k].call).2.2.2.d by
    refine ⟨?_, ?_, HI.out.2.2.2.honce _⟩
    ·by_cases hf : f = 0
     ·rw [R.once0 hf]
     ·rw [R.once1 hf]
    ·by_cases hf : f = 0
     ·rw [R.once0 hf]; exact R.o2
     ·rw [R.once1 hf]; exact R.o1)
   have HX := Lib.hid (HI.out.1.x.once_h (by omega) l[k].call hcl)
   unfold CallV at HX
   have HB := Lib.hid hb
   clear R hb hcl
   go_upto_region 12 with fail
   go_wp2_with fail
   refine HX.out.mono ?_
   rintro e w7 ⟨v7, rfl, _, T7, _, hs7⟩
   have HS7 := Lib.hid ((HI.out.1.step hs7).more (show 2 * k + 4 + 2 ≤ 2 * (k + 1) + 4 by omega))
   have HB7 := Lib.hid (HB.out.trans (hs7.belB HI.out.1.x.lo))
   clear hs7 HX HI HB c0 c1 c2 c3 c4 c5 c6 c7 c8 c9
   go_wp2
   go_roundw
   case rel => exact ⟨k + 1, _, T7, by go_num, by omega, by omega, Lib.hid ⟨HS7.out, HN.out⟩, HB7.out⟩
   case measure => simp [intOf]; omega
  ·have HB := Lib.hid hb
   have HSo := Lib.hid HI.out.1
   have HQ := Lib.hid (show Qt h.d (k + 1) ∧ OrdV (baD h.d) ∧ h.d.op = [] ∧ h = ⟨h.d, []⟩ from ⟨Qt.of HI.out.2.2.1 HI.out.2.2.2, HI.out.2.2.2.now, HI.out.2.2.1.op, by have := HI.out.2.1; cases h; simp only at this; subst this; rfl⟩)
   clear hb HI
   have hkk : k ≤ 40 := hk2
   by_cases hlt1 : k < l.length
   ·have hI : (k : Int) < (l.length : Int) := by omega
    have hI3 : ¬ (k : Int) < 40 := by omega
    clear hgo
    have HA := Lib.hid (HSo.out.x.all_h (by omega))
    have HS := HSo
    clear HSo
    go_wp2_with fail
    refine HA.out.mono ?_
    rintro e w8 ⟨v8, L8, rfl, ho8, hr8, hn8, hb8⟩
    obtain ⟨A8, c8, rfl, _⟩ := ho8.rd
    have HR := Lib.hid (show RowK w8 _ T (.slice A8 L8.length c8) L8 from ⟨ho8, fun q e e2 => by have h1 := (World.ownsRow.lt ho8 q e).1; have h2 := HS.out.x.lt q e2; omega⟩)
    have HL8 := Lib.hid hr8
    have HSn := Lib.hid (HS.out.bel hb8)
    have HBn := Lib.hid (HB.out.trans (hb8.mono HB.out.size))
    clear HS HB HA ho8 hr8 hb8
    have HS := HSn; have HB := HBn
    clear HSn HBn
    have HOP := Lib.hid (hs_open HQ.out.1 HQ.out.2.2.1)
    have HP0 := Lib.hid (PbS.new HQ.out.1 HQ.out.2.1)
    have hox := HS.out.x.open_h (by omega) zz (by decide)
    rw [HQ.out.2.2.2, HOP.out] at hox
    simp only [fault_zero0] at hox
    have HO := Lib.hid hox
    clear hox
    go_wp2_with fail
    refine HO.out.mono ?_
    rintro e w9 ⟨rfl, T9, hs9⟩
    have HSn := Lib.hid (HS.out.step hs9)
    have HBn := Lib.hid (HB.out.trans (hs9.belB HS.out.x.lo))
    have HRn := Lib.hid (HR.out.step hs9)
    clear HO hs9 HS HB HR HOP
    have HS := HSn; have HB := HBn; have HR := HRn
    clear HSn HBn HRn
    generalize ({ h.d with ids := h.d.ids + 1 } : Dk) = g0 at *
    generalize tr0 (h.d.ids + 1) h.d.last = t0 at *
    have x0 := HS.out.blk.cell 0
    have x1 := HS.out.blk.cell 1
    simp at x0 x1
    have hox := HS.out.x.ask_h (by omega) zz (by decide) (addC p) HCW.out.1
    by_cases hf : ((hs g0 t0).ask zz (addC p)).2.1 = 0
    ·obtain ⟨t1, ea, hJ, hne⟩ := HP0.out.add (by decide) (by decide) hf
     rw [ea] at hox
     simp only [fault_zero0] at hox
     unfold CallV addC at hox
     unfold AnsV at hox
     have HO := Lib.hid hox
     have HJ := Lib.hid (show PbJ (baD h.d) p g0 t1 (k + 1) 2 1 ∧ t1.own ≠ [] from ⟨hJ, hne⟩)
     clear hox hf ea hJ hne HP0
     go_wp2_with fail
     refine HO.out.mono ?_
     rintro e w10 ⟨v10, rfl, how10, T10, hnt10, hs10⟩
     obtain ⟨A10, c10, rfl, _⟩ := how10.form
     clear how10 hnt10 x0 x1
     have HSn := Lib.hid (HS.out.step hs10)
     have HBn := Lib.hid (HB.out.trans (hs10.belB HS.out.x.lo))
     have HRn := Lib.hid (HR.out.step hs10)
     clear HO hs10 HS HB HR
     have HS := HSn; have HB := HBn; have HR := HRn
     clear HSn HBn HRn
     cases ap with
     | true =>
      obtain ⟨ga, ec, gb, tb, eo, hJ2⟩ := HJ.out.1.again (by decide) (by omega) HJ.out.2
      have HJ := Lib.hid hJ2
      have hox := HS.out.x.close_h (by omega) zz (by decide)
      rw [ec] at hox
      simp only [fault_zero0] at hox
      have HO := Lib.hid hox
      have HOP := Lib.hid eo
      clear hox ec eo hJ2
      go_wp2_with fail
      refine HO.out.mono ?_
      rintro e w11 ⟨rfl, T11, hs11⟩
      have HSn := Lib.hid (HS.out.step hs11)
      have HBn := Lib.hid (HB.out.trans (hs11.belB HS.out.x.lo))
      have HRn := Lib.hid (HR.out.step hs11)
      clear HO hs11 HS HB HR
      have HS := HSn; have HB := HBn; have HR := HRn
      clear HSn HBn HRn
      have hox := HS.out.x.open_h (by omega) zz (by decide)
      rw [HOP.out] at hox
      simp only [fault_zero0] at hox
      have HO := Lib.hid hox
      clear hox
      go_wp2_with fail
      refine HO.out.mono ?_
      rintro e w12 ⟨rfl, T12, hs12⟩
      have HSn := Lib.hid (HS.out.step hs12)
      have HBn := Lib.hid (HB.out.trans (hs12.belB HS.out.x.lo))
      have HRn := Lib.hid (HR.out.step hs12)
      clear HO hs12 HS HB HR HOP
      have HS := HSn; have HB := HBn; have HR := HRn
      clear HSn HBn HRn
      rcases HJ.out.place (by decide) (by decide) a with ⟨f, t2, hf, ea, hJ⟩ | ⟨t2, t3, t4, ea, eb, ec, hJ⟩
      ·have HJn := Lib.hid hJ
       have HF := Lib.hid (faultV_no hf)
       have hox := HS.out.x.ask_h (by omega) zz (by decide) (placeC a) HCW.out.2.2.1
       rw [ea] at hox
       simp only [HF.out] at hox
       unfold CallV placeC at hox
       unfold AnsV at hox
       have HO := Lib.hid hox
       clear hox
       go_wp2_with fail
       refine HO.out.mono ?_
       rintro e w20 ⟨v20, rfl, how20, T20, hnt20, hs20⟩
       obtain ⟨A20, c20, rfl, _⟩ := how20.form
       clear how20 hnt20
       clear ea HJ hJ hf
       have HJ := HJn
       clear HJn
       have HSn := Lib.hid (HS.out.step hs20)
       have HBn := Lib.hid (HB.out.trans (hs20.belB HS.out.x.lo))
       have HRn := Lib.hid (HR.out.step hs20)
       clear HO hs20 HS HB HR
       have HS := HSn; have HB := HBn; have HR := HRn
       clear HSn HBn HRn
       have x0 := HS.out.blk.cell 0
       have x1 := HS.out.blk.cell 1
       simp at x0 x1
       rcases HJ.out.take (by decide) (by decide) (by omega) with ⟨t5, ea⟩ | ⟨t5, gE, ea, eb, hV⟩
       ·skip
        have hox := HS.out.x.ask_h (by omega) zz (by decide) (takeC p) HCW.out.2.1
        rw [ea] at hox
        simp only [faultV_no (show (7 : Int) ≠ 0 by decide)] at hox
        unfold CallV takeC at hox
        unfold AnsV at hox
        have HO := Lib.hid hox
        clear hox
        go_wp2_with fail
        refine HO.out.mono ?_
        rintro e w23 ⟨v23, rfl, how23, T23, hnt23, hs23⟩
        obtain ⟨A23, c23, rfl, _⟩ := how23.form
        clear how23 hnt23
        clear ea x0 x1
        have HSn := Lib.hid (HS.out.step hs23)
        have HBn := Lib.hid (HB.out.trans (hs23.belB HS.out.x.lo))
        have HRn := Lib.hid (HR.out.step hs23)
        clear HO hs23 HS HB HR
        have HS := HSn; have HB := HBn; have HR := HRn
        clear HSn HBn HRn
        have HER := Lib.hid (error_same 7 (by decide) _ (HEV.out.below HB.out))
        go_wp2_with fail
        refine HER.out.mono ?_
        rintro e w24 ⟨rfl, hb24⟩
        have HBn := Lib.hid (HB.out.trans (hb24.mono HB.out.size))
        clear HER hb24
        go_wp2
        go_ret
        exact ⟨rfl, HBn.out⟩
       ·have HVn := Lib.hid hV
        clear hV
        have hox := HS.out.x.ask_h (by omega) zz (by decide) (takeC p) HCW.out.2.1
        rw [ea] at hox
        simp only [fault_zero0] at hox
        unfold CallV takeC at hox
        unfold AnsV at hox
        have HO := Lib.hid hox
        clear hox
        go_wp2_with fail
        refine HO.out.mono ?_
        rintro e w23 ⟨v23, rfl, how23, T23, hnt23, hs23⟩
        obtain ⟨A23, c23, rfl, _⟩ := how23.form
        clear how23 hnt23
        clear ea x0 x1
        have HSn := Lib.hid (HS.out.step hs23)
        have HBn := Lib.hid (HB.out.trans (hs23.belB HS.out.x.lo))
        have HRn := Lib.hid (HR.out.step hs23)
        clear HO hs23 HS HB HR
        have HS := HSn; have HB := HBn; have HR := HRn
        clear HSn HBn HRn
        have hox := HS.out.x.close_h (by omega) zz (by decide)
        rw [eb] at hox
        simp only [fault_zero0] at hox
        have HO := Lib.hid hox
        clear hox eb
        go_wp2_with fail
        refine HO.out.mono ?_
        rintro e w25 ⟨rfl, T25, hs25⟩
        have HSn := Lib.hid (HS.out.step hs25)
        have HBn := Lib.hid (HB.out.trans (hs25.belB HS.out.x.lo))
        have HRn := Lib.hid (HR.out.step hs25)
        clear HO hs25 HS HB HR
        have HS := HSn; have HB := HBn; have HR := HRn
        clear HSn HBn HRn
        have HA := Lib.hid (HS.out.x.all_h (by omega))
        go_wp2_with fail
        refine HA.out.mono ?_
        rintro e w26 ⟨v26, L26, rfl, ho26, hr26, hn26, hb26⟩
        have hLL : L26 = L8 := hr26.ext HL8.out (fun s _ => congrFun HVn.out s)
        subst hLL
        obtain ⟨A26, c26, rfl, hrd26⟩ := ho26.rd
        have hrd8 := rd_of' (own_below HR.out.own hb26)
        have HBn := Lib.hid (HB.out.trans (hb26.mono HB.out.size))
        have HSP := Lib.hid (pairs_same A26 A8 L26 c26 c8 (by unfold maxLen; omega) w26 hrd26 hrd8)
        clear HA ho26 hr26 hb26 hrd26 hrd8 HR HS HB HL8 HVn
        go_wp2_with fail
        refine HSP.out.mono ?_
        rintro e w27 ⟨rfl, hb27⟩
        have HBm := Lib.hid (HBn.out.trans (hb27.mono HBn.out.size))
        clear HSP hb27 HBn
        go_wp2
        go_ret
        exact ⟨rfl, HBm.out⟩
      ·have HJn := Lib.hid hJ
       have hox := HS.out.x.ask_h (by omega) zz (by decide) (placeC a) HCW.out.2.2.1
       rw [ea] at hox
       simp only [fault_zero0] at hox
       unfold CallV placeC at hox
       unfold AnsV at hox
       have HO := Lib.hid hox
       clear hox
       go_wp2_with fail
       refine HO.out.mono ?_
       rintro e w20 ⟨v20, rfl, how20, T20, hnt20, hs20⟩
       obtain ⟨A20, c20, rfl, _⟩ := how20.form
       clear how20 hnt20
       clear ea HJ hJ
       have HJ := HJn
       clear HJn
       have HSn := Lib.hid (HS.out.step hs20)
       have HBn := Lib.hid (HB.out.trans (hs20.belB HS.out.x.lo))
       have HRn := Lib.hid (HR.out.step hs20)
       clear HO hs20 HS HB HR
       have HS := HSn; have HB := HBn; have HR := HRn
       clear HSn HBn HRn
       have hox := HS.out.x.ask_h (by omega) zz (by decide) (whoC a) HCW.out.2.2.2.1
       rw [eb] at hox
       simp only [fault_zero0] at hox
       unfold CallV whoC at hox
       unfold AnsV at hox
       have HO := Lib.hid hox
       clear hox
       go_wp2_with fail
       refine HO.out.mono ?_
       rintro e w21 ⟨v21, rfl, how21, T21, hnt21, hs21⟩
       obtain ⟨A21, c21, rfl, _⟩ := how21.form
       clear how21 hnt21
       clear eb
       have hz1 := Blk.new w21 34 #[.int .i64 0, .int .i64 0, .int .i64 0, Value.string { data := nw.toArray }, .slice A21 0 c21]
       have HZ := Lib.hid hz1
       clear hz1
       have HSn := Lib.hid ((HS.out.step hs21).alloc (.cells #[.int .i64 0, .int .i64 0, .int .i64 0, Value.string { data := nw.toArray }, .slice A21 0 c21] 34))
       have HBn := Lib.hid (HB.out.trans ((hs21.belB HS.out.x.lo).alloc (Nat.le_trans HS.out.x.le hs21.size) (.cells #[.int .i64 0, .int .i64 0, .int .i64 0, Value.string { data := nw.toArray }, .slice A21 0 c21] 34)))
       have HRn := Lib.hid ((HR.out.step hs21).alloc (.cells #[.int .i64 0, .int .i64 0, .int .i64 0, Value.string { data := nw.toArray }, .slice A21 0 c21] 34))
       clear HO hs21 HS HB HR
       have HS := HSn; have HB := HBn; have HR := HRn
       clear HSn HBn HRn
       go_upto_region 28 with fail
       refine wp_name (fun w13 HW => ?_)
       have hs0 := HS.out; have hb0 := HB.out; have hr0 := HR.out; have hz0 := HZ.out
       rw [← HW.out] at hs0 hb0 hr0 hz0
       clear HW HS HB HR HZ
       have HS := Lib.hid hs0; have HB := Lib.hid hb0; have HR := Lib.hid hr0; have HZ := Lib.hid hz0
       clear hs0 hb0 hr0 hz0
       generalize w21.heap.size = b21 at *
       obtain ⟨z0, z1, z2, z3⟩ := HZ.out.cls4
       simp at z0 z1 z2 z3
       unfold nw at z3
       have hox := HS.out.x.ask_h (by omega) zz (by decide) (leaveC a) HCW.out.2.2.2.2
       rw [ec] at hox
       simp only [fault_zero0] at hox
       unfold CallV leaveC at hox
       unfold AnsV at hox
       have HO := Lib.hid hox
       clear hox
       go_wp2_with fail
       refine HO.out.mono ?_
       rintro e w22 ⟨v22, rfl, how22, T22, hnt22, hs22⟩
       obtain ⟨A22, c22, rfl, _⟩ := how22.form
       clear how22 hnt22
       clear ec z0 z1 z2 z3 HZ
       have HSn := Lib.hid (HS.out.step hs22)
       have HBn := Lib.hid (HB.out.trans (hs22.belB HS.out.x.lo))
       have HRn := Lib.hid (HR.out.step hs22)
       clear HO hs22 HS HB HR
       have HS := HSn; have HB := HBn; have HR := HRn
       clear HSn HBn HRn
       have x0 := HS.out.blk.cell 0
       have x1 := HS.out.blk.cell 1
       simp at x0 x1
       rcases HJ.out.take (by decide) (by decide) (by omega) with ⟨t5, ea⟩ | ⟨t5, gE, ea, eb, hV⟩
       ·skip
        have hox := HS.out.x.ask_h (by omega) zz (by decide) (takeC p) HCW.out.2.1
        rw [ea] at hox
        simp only [faultV_no (show (7 : Int) ≠ 0 by decide)] at hox
        unfold CallV takeC at hox
        unfold AnsV at hox
        have HO := Lib.hid hox
        clear hox
        go_wp2_with fail
        refine HO.out.mono ?_
        rintro e w23 ⟨v23, rfl, how23, T23, hnt23, hs23⟩
        obtain ⟨A23, c23, rfl, _⟩ := how23.form
        clear how23 hnt23
        clear ea x0 x1
        have HSn := Lib.hid (HS.out.step hs23)
        have HBn := Lib.hid (HB.out.trans (hs23.belB HS.out.x.lo))
        have HRn := Lib.hid (HR.out.step hs23)
        clear HO hs23 HS HB HR
        have HS := HSn; have HB := HBn; have HR := HRn
        clear HSn HBn HRn
        have HER := Lib.hid (error_same 7 (by decide) _ (HEV.out.below HB.out))
        go_wp2_with fail
        refine HER.out.mono ?_
        rintro e w24 ⟨rfl, hb24⟩
        have HBn := Lib.hid (HB.out.trans (hb24.mono HB.out.size))
        clear HER hb24
        go_wp2
        go_ret
        exact ⟨rfl, HBn.out⟩
       ·have HVn := Lib.hid hV
        clear hV
        have hox := HS.out.x.ask_h (by omega) zz (by decide) (takeC p) HCW.out.2.1
        rw [ea] at hox
        simp only [fault_zero0] at hox
        unfold CallV takeC at hox
        unfold AnsV at hox
        have HO := Lib.hid hox
        clear hox
        go_wp2_with fail
        refine HO.out.mono ?_
        rintro e w23 ⟨v23, rfl, how23, T23, hnt23, hs23⟩
        obtain ⟨A23, c23, rfl, _⟩ := how23.form
        clear how23 hnt23
        clear ea x0 x1
        have HSn := Lib.hid (HS.out.step hs23)
        have HBn := Lib.hid (HB.out.trans (hs23.belB HS.out.x.lo))
        have HRn := Lib.hid (HR.out.step hs23)
        clear HO hs23 HS HB HR
        have HS := HSn; have HB := HBn; have HR := HRn
        clear HSn HBn HRn
        have hox := HS.out.x.close_h (by omega) zz (by decide)
        rw [eb] at hox
        simp only [fault_zero0] at hox
        have HO := Lib.hid hox
        clear hox eb
        go_wp2_with fail
        refine HO.out.mono ?_
        rintro e w25 ⟨rfl, T25, hs25⟩
        have HSn := Lib.hid (HS.out.step hs25)
        have HBn := Lib.hid (HB.out.trans (hs25.belB HS.out.x.lo))
        have HRn := Lib.hid (HR.out.step hs25)
        clear HO hs25 HS HB HR
        have HS := HSn; have HB := HBn; have HR := HRn
        clear HSn HBn HRn
        have HA := Lib.hid (HS.out.x.all_h (by omega))
        go_wp2_with fail
        refine HA.out.mono ?_
        rintro e w26 ⟨v26, L26, rfl, ho26, hr26, hn26, hb26⟩
        have hLL : L26 = L8 := hr26.ext HL8.out (fun s _ => congrFun HVn.out s)
        subst hLL
        obtain ⟨A26, c26, rfl, hrd26⟩ := ho26.rd
        have hrd8 := rd_of' (own_below HR.out.own hb26)
        have HBn := Lib.hid (HB.out.trans (hb26.mono HB.out.size))
        have HSP := Lib.hid (pairs_same A26 A8 L26 c26 c8 (by unfold maxLen; omega) w26 hrd26 hrd8)
        clear HA ho26 hr26 hb26 hrd26 hrd8 HR HS HB HL8 HVn
        go_wp2_with fail
        refine HSP.out.mono ?_
        rintro e w27 ⟨rfl, hb27⟩
        have HBm := Lib.hid (HBn.out.trans (hb27.mono HBn.out.size))
        clear HSP hb27 HBn
        go_wp2
        go_ret
        exact ⟨rfl, HBm.out⟩
     | false =>
      have HJn := Lib.hid HJ.out.1
      clear HJ
      have HJ := HJn
      clear HJn
      rcases HJ.out.place (by decide) (by decide) a with ⟨f, t2, hf, ea, hJ⟩ | ⟨t2, t3, t4, ea, eb, ec, hJ⟩
      ·have HJn := Lib.hid hJ
       have HF := Lib.hid (faultV_no hf)
       have hox := HS.out.x.ask_h (by omega) zz (by decide) (placeC a) HCW.out.2.2.1
       rw [ea] at hox
       simp only [HF.out] at hox
       unfold CallV placeC at hox
       unfold AnsV at hox
       have HO := Lib.hid hox
       clear hox
       go_wp2_with fail
       refine HO.out.mono ?_
       rintro e w20 ⟨v20, rfl, how20, T20, hnt20, hs20⟩
       obtain ⟨A20, c20, rfl, _⟩ := how20.form
       clear how20 hnt20
       clear ea HJ hJ hf
       have HJ := HJn
       clear HJn
       have HSn := Lib.hid (HS.out.step hs20)
       have HBn := Lib.hid (HB.out.trans (hs20.belB HS.out.x.lo))
       have HRn := Lib.hid (HR.out.step hs20)
       clear HO hs20 HS HB HR
       have HS := HSn; have HB := HBn; have HR := HRn
       clear HSn HBn HRn
       have x0 := HS.out.blk.cell 0
       have x1 := HS.out.blk.cell 1
       simp at x0 x1
       rcases HJ.out.take (by decide) (by decide) (by omega) with ⟨t5, ea⟩ | ⟨t5, gE, ea, eb, hV⟩
       ·skip
        have hox := HS.out.x.ask_h (by omega) zz (by decide) (takeC p) HCW.out.2.1
        rw [ea] at hox
        simp only [faultV_no (show (7 : Int) ≠ 0 by decide)] at hox
        unfold CallV takeC at hox
        unfold AnsV at hox
        have HO := Lib.hid hox
        clear hox
        go_wp2_with fail
        refine HO.out.mono ?_
        rintro e w23 ⟨v23, rfl, how23, T23, hnt23, hs23⟩
        obtain ⟨A23, c23, rfl, _⟩ := how23.form
        clear how23 hnt23
        clear ea x0 x1
        have HSn := Lib.hid (HS.out.step hs23)
        have HBn := Lib.hid (HB.out.trans (hs23.belB HS.out.x.lo))
        have HRn := Lib.hid (HR.out.step hs23)
        clear HO hs23 HS HB HR
        have HS := HSn; have HB := HBn; have HR := HRn
        clear HSn HBn HRn
        have HER := Lib.hid (error_same 7 (by decide) _ (HEV.out.below HB.out))
        go_wp2_with fail
        refine HER.out.mono ?_
        rintro e w24 ⟨rfl, hb24⟩
        have HBn := Lib.hid (HB.out.trans (hb24.mono HB.out.size))
        clear HER hb24
        go_wp2
        go_ret
        exact ⟨rfl, HBn.out⟩
       ·have HVn := Lib.hid hV
        clear hV
        have hox := HS.out.x.ask_h (by omega) zz (by decide) (takeC p) HCW.out.2.1
        rw [ea] at hox
        simp only [fault_zero0] at hox
        unfold CallV takeC at hox
        unfold AnsV at hox
        have HO := Lib.hid hox
        clear hox
        go_wp2_with fail
        refine HO.out.mono ?_
        rintro e w23 ⟨v23, rfl, how23, T23, hnt23, hs23⟩
        obtain ⟨A23, c23, rfl, _⟩ := how23.form
        clear how23 hnt23
        clear ea x0 x1
        have HSn := Lib.hid (HS.out.step hs23)
        have HBn := Lib.hid (HB.out.trans (hs23.belB HS.out.x.lo))
        have HRn := Lib.hid (HR.out.step hs23)
        clear HO hs23 HS HB HR
        have HS := HSn; have HB := HBn; have HR := HRn
        clear HSn HBn HRn
        have hox := HS.out.x.close_h (by omega) zz (by decide)
        rw [eb] at hox
        simp only [fault_zero0] at hox
        have HO := Lib.hid hox
        clear hox eb
        go_wp2_with fail
        refine HO.out.mono ?_
        rintro e w25 ⟨rfl, T25, hs25⟩
        have HSn := Lib.hid (HS.out.step hs25)
        have HBn := Lib.hid (HB.out.trans (hs25.belB HS.out.x.lo))
        have HRn := Lib.hid (HR.out.step hs25)
        clear HO hs25 HS HB HR
        have HS := HSn; have HB := HBn; have HR := HRn
        clear HSn HBn HRn
        have HA := Lib.hid (HS.out.x.all_h (by omega))
        go_wp2_with fail
        refine HA.out.mono ?_
        rintro e w26 ⟨v26, L26, rfl, ho26, hr26, hn26, hb26⟩
        have hLL : L26 = L8 := hr26.ext HL8.out (fun s _ => congrFun HVn.out s)
        subst hLL
        obtain ⟨A26, c26, rfl, hrd26⟩ := ho26.rd
        have hrd8 := rd_of' (own_below HR.out.own hb26)
        have HBn := Lib.hid (HB.out.trans (hb26.mono HB.out.size))
        have HSP := Lib.hid (pairs_same A26 A8 L26 c26 c8 (by unfold maxLen; omega) w26 hrd26 hrd8)
        clear HA ho26 hr26 hb26 hrd26 hrd8 HR HS HB HL8 HVn
        go_wp2_with fail
        refine HSP.out.mono ?_
        rintro e w27 ⟨rfl, hb27⟩
        have HBm := Lib.hid (HBn.out.trans (hb27.mono HBn.out.size))
        clear HSP hb27 HBn
        go_wp2
        go_ret
        exact ⟨rfl, HBm.out⟩
      ·have HJn := Lib.hid hJ
       have hox := HS.out.x.ask_h (by omega) zz (by decide) (placeC a) HCW.out.2.2.1
       rw [ea] at hox
       simp only [fault_zero0] at hox
       unfold CallV placeC at hox
       unfold AnsV at hox
       have HO := Lib.hid hox
       clear hox
       go_wp2_with fail
       refine HO.out.mono ?_
       rintro e w20 ⟨v20, rfl, how20, T20, hnt20, hs20⟩
       obtain ⟨A20, c20, rfl, _⟩ := how20.form
       clear how20 hnt20
       clear ea HJ hJ
       have HJ := HJn
       clear HJn
       have HSn := Lib.hid (HS.out.step hs20)
       have HBn := Lib.hid (HB.out.trans (hs20.belB HS.out.x.lo))
       have HRn := Lib.hid (HR.out.step hs20)
       clear HO hs20 HS HB HR
       have HS := HSn; have HB := HBn; have HR := HRn
       clear HSn HBn HRn
       have hox := HS.out.x.ask_h (by omega) zz (by decide) (whoC a) HCW.out.2.2.2.1
       rw [eb] at hox
       simp only [fault_zero0] at hox
       unfold CallV whoC at hox
       unfold AnsV at hox
       have HO := Lib.hid hox
       clear hox
       go_wp2_with fail
       refine HO.out.mono ?_
       rintro e w21 ⟨v21, rfl, how21, T21, hnt21, hs21⟩
       obtain ⟨A21, c21, rfl, _⟩ := how21.form
       clear how21 hnt21
       clear eb
       have hz1 := Blk.new w21 34 #[.int .i64 0, .int .i64 0, .int .i64 0, Value.string { data := nw.toArray }, .slice A21 0 c21]
       have HZ := Lib.hid hz1
       clear hz1
       have HSn := Lib.hid ((HS.out.step hs21).alloc (.cells #[.int .i64 0, .int .i64 0, .int .i64 0, Value.string { data := nw.toArray }, .slice A21 0 c21] 34))
       have HBn := Lib.hid (HB.out.trans ((hs21.belB HS.out.x.lo).alloc (Nat.le_trans HS.out.x.le hs21.size) (.cells #[.int .i64 0, .int .i64 0, .int .i64 0, Value.string { data := nw.toArray }, .slice A21 0 c21] 34)))
       have HRn := Lib.hid ((HR.out.step hs21).alloc (.cells #[.int .i64 0, .int .i64 0, .int .i64 0, Value.string { data := nw.toArray }, .slice A21 0 c21] 34))
       clear HO hs21 HS HB HR
       have HS := HSn; have HB := HBn; have HR := HRn
       clear HSn HBn HRn
       go_upto_region 28 with fail
       refine wp_name (fun w14 HW => ?_)
       have hs0 := HS.out; have hb0 := HB.out; have hr0 := HR.out; have hz0 := HZ.out
       rw [← HW.out] at hs0 hb0 hr0 hz0
       clear HW HS HB HR HZ
       have HS := Lib.hid hs0; have HB := Lib.hid hb0; have HR := Lib.hid hr0; have HZ := Lib.hid hz0
       clear hs0 hb0 hr0 hz0
       generalize w21.heap.size = b21 at *
       obtain ⟨z0, z1, z2, z3⟩ := HZ.out.cls4
       simp at z0 z1 z2 z3
       unfold nw at z3
       have hox := HS.out.x.ask_h (by omega) zz (by decide) (leaveC a) HCW.out.2.2.2.2
       rw [ec] at hox
       simp only [fault_zero0] at hox
       unfold CallV leaveC at hox
       unfold AnsV at hox
       have HO := Lib.hid hox
       clear hox
       go_wp2_with fail
       refine HO.out.mono ?_
       rintro e w22 ⟨v22, rfl, how22, T22, hnt22, hs22⟩
       obtain ⟨A22, c22, rfl, _⟩ := how22.form
       clear how22 hnt22
       clear ec z0 z1 z2 z3 HZ
       have HSn := Lib.hid (HS.out.step hs22)
       have HBn := Lib.hid (HB.out.trans (hs22.belB HS.out.x.lo))
       have HRn := Lib.hid (HR.out.step hs22)
       clear HO hs22 HS HB HR
       have HS := HSn; have HB := HBn; have HR := HRn
       clear HSn HBn HRn
       have x0 := HS.out.blk.cell 0
       have x1 := HS.out.blk.cell 1
       simp at x0 x1
       rcases HJ.out.take (by decide) (by decide) (by omega) with ⟨t5, ea⟩ | ⟨t5, gE, ea, eb, hV⟩
       ·skip
        have hox := HS.out.x.ask_h (by omega) zz (by decide) (takeC p) HCW.out.2.1
        rw [ea] at hox
        simp only [faultV_no (show (7 : Int) ≠ 0 by decide)] at hox
        unfold CallV takeC at hox
        unfold AnsV at hox
        have HO := Lib.hid hox
        clear hox
        go_wp2_with fail
        refine HO.out.mono ?_
        rintro e w23 ⟨v23, rfl, how23, T23, hnt23, hs23⟩
        obtain ⟨A23, c23, rfl, _⟩ := how23.form
        clear how23 hnt23
        clear ea x0 x1
        have HSn := Lib.hid (HS.out.step hs23)
        have HBn := Lib.hid (HB.out.trans (hs23.belB HS.out.x.lo))
        have HRn := Lib.hid (HR.out.step hs23)
        clear HO hs23 HS HB HR
        have HS := HSn; have HB := HBn; have HR := HRn
        clear HSn HBn HRn
        have HER := Lib.hid (error_same 7 (by decide) _ (HEV.out.below HB.out))
        go_wp2_with fail
        refine HER.out.mono ?_
        rintro e w24 ⟨rfl, hb24⟩
        have HBn := Lib.hid (HB.out.trans (hb24.mono HB.out.size))
        clear HER hb24
        go_wp2
        go_ret
        exact ⟨rfl, HBn.out⟩
       ·have HVn := Lib.hid hV
        clear hV
        have hox := HS.out.x.ask_h (by omega) zz (by decide) (takeC p) HCW.out.2.1
        rw [ea] at hox
        simp only [fault_zero0] at hox
        unfold CallV takeC at hox
        unfold AnsV at hox
        have HO := Lib.hid hox
        clear hox
        go_wp2_with fail
        refine HO.out.mono ?_
        rintro e w23 ⟨v23, rfl, how23, T23, hnt23, hs23⟩
        obtain ⟨A23, c23, rfl, _⟩ := how23.form
        clear how23 hnt23
        clear ea x0 x1
        have HSn := Lib.hid (HS.out.step hs23)
        have HBn := Lib.hid (HB.out.trans (hs23.belB HS.out.x.lo))
        have HRn := Lib.hid (HR.out.step hs23)
        clear HO hs23 HS HB HR
        have HS := HSn; have HB := HBn; have HR := HRn
        clear HSn HBn HRn
        have hox := HS.out.x.close_h (by omega) zz (by decide)
        rw [eb] at hox
        simp only [fault_zero0] at hox
        have HO := Lib.hid hox
        clear hox eb
        go_wp2_with fail
        refine HO.out.mono ?_
        rintro e w25 ⟨rfl, T25, hs25⟩
        have HSn := Lib.hid (HS.out.step hs25)
        have HBn := Lib.hid (HB.out.trans (hs25.belB HS.out.x.lo))
        have HRn := Lib.hid (HR.out.step hs25)
        clear HO hs25 HS HB HR
        have HS := HSn; have HB := HBn; have HR := HRn
        clear HSn HBn HRn
        have HA := Lib.hid (HS.out.x.all_h (by omega))
        go_wp2_with fail
        refine HA.out.mono ?_
        rintro e w26 ⟨v26, L26, rfl, ho26, hr26, hn26, hb26⟩
        have hLL : L26 = L8 := hr26.ext HL8.out (fun s _ => congrFun HVn.out s)
        subst hLL
        obtain ⟨A26, c26, rfl, hrd26⟩ := ho26.rd
        have hrd8 := rd_of' (own_below HR.out.own hb26)
        have HBn := Lib.hid (HB.out.trans (hb26.mono HB.out.size))
        have HSP := Lib.hid (pairs_same A26 A8 L26 c26 c8 (by unfold maxLen; omega) w26 hrd26 hrd8)
        clear HA ho26 hr26 hb26 hrd26 hrd8 HR HS HB HL8 HVn
        go_wp2_with fail
        refine HSP.out.mono ?_
        rintro e w27 ⟨rfl, hb27⟩
        have HBm := Lib.hid (HBn.out.trans (hb27.mono HBn.out.size))
        clear HSP hb27 HBn
        go_wp2
        go_ret
        exact ⟨rfl, HBm.out⟩
    ·have HF := Lib.hid (faultV_no hf)
     rw [HF.out] at hox
     unfold CallV addC at hox
     unfold AnsV at hox
     have HO := Lib.hid hox
     clear hox hf
     go_wp2_with fail
     refine HO.out.mono ?_
     rintro e w10 ⟨v10, rfl, _, T10, _, hs10⟩
     have HBn := Lib.hid (HB.out.trans (hs10.belB HS.out.x.lo))
     clear HO hs10
     go_wp2
     go_ret
     exact ⟨rfl, HBn.out⟩
   ·have hI : ¬ (k : Int) < (l.length : Int) := by omega
    clear hgo
    have HA := Lib.hid (HSo.out.x.all_h (by omega))
    have HS := HSo
    clear HSo
    go_wp2_with fail
    refine HA.out.mono ?_
    rintro e w8 ⟨v8, L8, rfl, ho8, hr8, hn8, hb8⟩
    obtain ⟨A8, c8, rfl, _⟩ := ho8.rd
    have HR := Lib.hid (show RowK w8 _ T (.slice A8 L8.length c8) L8 from ⟨ho8, fun q e e2 => by have h1 := (World.ownsRow.lt ho8 q e).1; have h2 := HS.out.x.lt q e2; omega⟩)
    have HL8 := Lib.hid hr8
    have HSn := Lib.hid (HS.out.bel hb8)
    have HBn := Lib.hid (HB.out.trans (hb8.mono HB.out.size))
    clear HS HB HA ho8 hr8 hb8
    have HS := HSn; have HB := HBn
    clear HSn HBn
    have HOP := Lib.hid (hs_open HQ.out.1 HQ.out.2.2.1)
    have HP0 := Lib.hid (PbS.new HQ.out.1 HQ.out.2.1)
    have hox := HS.out.x.open_h (by omega) zz (by decide)
    rw [HQ.out.2.2.2, HOP.out] at hox
    simp only [fault_zero0] at hox
    have HO := Lib.hid hox
    clear hox
    go_wp2_with fail
    refine HO.out.mono ?_
    rintro e w9 ⟨rfl, T9, hs9⟩
    have HSn := Lib.hid (HS.out.step hs9)
    have HBn := Lib.hid (HB.out.trans (hs9.belB HS.out.x.lo))
    have HRn := Lib.hid (HR.out.step hs9)
    clear HO hs9 HS HB HR HOP
    have HS := HSn; have HB := HBn; have HR := HRn
    clear HSn HBn HRn
    generalize ({ h.d with ids := h.d.ids + 1 } : Dk) = g0 at *
    generalize tr0 (h.d.ids + 1) h.d.last = t0 at *
    have x0 := HS.out.blk.cell 0
    have x1 := HS.out.blk.cell 1
    simp at x0 x1
    have hox := HS.out.x.ask_h (by omega) zz (by decide) (addC p) HCW.out.1
    by_cases hf : ((hs g0 t0).ask zz (addC p)).2.1 = 0
    ·obtain ⟨t1, ea, hJ, hne⟩ := HP0.out.add (by decide) (by decide) hf
     rw [ea] at hox
     simp only [fault_zero0] at hox
     unfold CallV addC at hox
     unfold AnsV at hox
     have HO := Lib.hid hox
     have HJ := Lib.hid (show PbJ (baD h.d) p g0 t1 (k + 1) 2 1 ∧ t1.own ≠ [] from ⟨hJ, hne⟩)
     clear hox hf ea hJ hne HP0
     go_wp2_with fail
     refine HO.out.mono ?_
     rintro e w10 ⟨v10, rfl, how10, T10, hnt10, hs10⟩
     obtain ⟨A10, c10, rfl, _⟩ := how10.form
     clear how10 hnt10 x0 x1
     have HSn := Lib.hid (HS.out.step hs10)
     have HBn := Lib.hid (HB.out.trans (hs10.belB HS.out.x.lo))
     have HRn := Lib.hid (HR.out.step hs10)
     clear HO hs10 HS HB HR
     have HS := HSn; have HB := HBn; have HR := HRn
     clear HSn HBn HRn
     cases ap with
     | true =>
      obtain ⟨ga, ec, gb, tb, eo, hJ2⟩ := HJ.out.1.again (by decide) (by omega) HJ.out.2
      have HJ := Lib.hid hJ2
      have hox := HS.out.x.close_h (by omega) zz (by decide)
      rw [ec] at hox
      simp only [fault_zero0] at hox
      have HO := Lib.hid hox
      have HOP := Lib.hid eo
      clear hox ec eo hJ2
      go_wp2_with fail
      refine HO.out.mono ?_
      rintro e w11 ⟨rfl, T11, hs11⟩
      have HSn := Lib.hid (HS.out.step hs11)
      have HBn := Lib.hid (HB.out.trans (hs11.belB HS.out.x.lo))
      have HRn := Lib.hid (HR.out.step hs11)
      clear HO hs11 HS HB HR
      have HS := HSn; have HB := HBn; have HR := HRn
      clear HSn HBn HRn
      have hox := HS.out.x.open_h (by omega) zz (by decide)
      rw [HOP.out] at hox
      simp only [fault_zero0] at hox
      have HO := Lib.hid hox
      clear hox
      go_wp2_with fail
      refine HO.out.mono ?_
      rintro e w12 ⟨rfl, T12, hs12⟩
      have HSn := Lib.hid (HS.out.step hs12)
      have HBn := Lib.hid (HB.out.trans (hs12.belB HS.out.x.lo))
      have HRn := Lib.hid (HR.out.step hs12)
      clear HO hs12 HS HB HR HOP
      have HS := HSn; have HB := HBn; have HR := HRn
      clear HSn HBn HRn
      rcases HJ.out.place (by decide) (by decide) a with ⟨f, t2, hf, ea, hJ⟩ | ⟨t2, t3, t4, ea, eb, ec, hJ⟩
      ·have HJn := Lib.hid hJ
       have HF := Lib.hid (faultV_no hf)
       have hox := HS.out.x.ask_h (by omega) zz (by decide) (placeC a) HCW.out.2.2.1
       rw [ea] at hox
       simp only [HF.out] at hox
       unfold CallV placeC at hox
       unfold AnsV at hox
       have HO := Lib.hid hox
       clear hox
       go_wp2_with fail
       refine HO.out.mono ?_
       rintro e w20 ⟨v20, rfl, how20, T20, hnt20, hs20⟩
       obtain ⟨A20, c20, rfl, _⟩ := how20.form
       clear how20 hnt20
       clear ea HJ hJ hf
       have HJ := HJn
       clear HJn
       have HSn := Lib.hid (HS.out.step hs20)
       have HBn := Lib.hid (HB.out.trans (hs20.belB HS.out.x.lo))
       have HRn := Lib.hid (HR.out.step hs20)
       clear HO hs20 HS HB HR
       have HS := HSn; have HB := HBn; have HR := HRn
       clear HSn HBn HRn
       have x0 := HS.out.blk.cell 0
       have x1 := HS.out.blk.cell 1
       simp at x0 x1
       rcases HJ.out.take (by decide) (by decide) (by omega) with ⟨t5, ea⟩ | ⟨t5, gE, ea, eb, hV⟩
       ·skip
        have hox := HS.out.x.ask_h (by omega) zz (by decide) (takeC p) HCW.out.2.1
        rw [ea] at hox
        simp only [faultV_no (show (7 : Int) ≠ 0 by decide)] at hox
        unfold CallV takeC at hox
        unfold AnsV at hox
        have HO := Lib.hid hox
        clear hox
        go_wp2_with fail
        refine HO.out.mono ?_
        rintro e w23 ⟨v23, rfl, how23, T23, hnt23, hs23⟩
        obtain ⟨A23, c23, rfl, _⟩ := how23.form
        clear how23 hnt23
        clear ea x0 x1
        have HSn := Lib.hid (HS.out.step hs23)
        have HBn := Lib.hid (HB.out.trans (hs23.belB HS.out.x.lo))
        have HRn := Lib.hid (HR.out.step hs23)
        clear HO hs23 HS HB HR
        have HS := HSn; have HB := HBn; have HR := HRn
        clear HSn HBn HRn
        have HER := Lib.hid (error_same 7 (by decide) _ (HEV.out.below HB.out))
        go_wp2_with fail
        refine HER.out.mono ?_
        rintro e w24 ⟨rfl, hb24⟩
        have HBn := Lib.hid (HB.out.trans (hb24.mono HB.out.size))
        clear HER hb24
        go_wp2
        go_ret
        exact ⟨rfl, HBn.out⟩
       ·have HVn := Lib.hid hV
        clear hV
        have hox := HS.out.x.ask_h (by omega) zz (by decide) (takeC p) HCW.out.2.1
        rw [ea] at hox
        simp only [fault_zero0] at hox
        unfold CallV takeC at hox
        unfold AnsV at hox
        have HO := Lib.hid hox
        clear hox
        go_wp2_with fail
        refine HO.out.mono ?_
        rintro e w23 ⟨v23, rfl, how23, T23, hnt23, hs23⟩
        obtain ⟨A23, c23, rfl, _⟩ := how23.form
        clear how23 hnt23
        clear ea x0 x1
        have HSn := Lib.hid (HS.out.step hs23)
        have HBn := Lib.hid (HB.out.trans (hs23.belB HS.out.x.lo))
        have HRn := Lib.hid (HR.out.step hs23)
        clear HO hs23 HS HB HR
        have HS := HSn; have HB := HBn; have HR := HRn
        clear HSn HBn HRn
        have hox := HS.out.x.close_h (by omega) zz (by decide)
        rw [eb] at hox
        simp only [fault_zero0] at hox
        have HO := Lib.hid hox
        clear hox eb
        go_wp2_with fail
        refine HO.out.mono ?_
        rintro e w25 ⟨rfl, T25, hs25⟩
        have HSn := Lib.hid (HS.out.step hs25)
        have HBn := Lib.hid (HB.out.trans (hs25.belB HS.out.x.lo))
        have HRn := Lib.hid (HR.out.step hs25)
        clear HO hs25 HS HB HR
        have HS := HSn; have HB := HBn; have HR := HRn
        clear HSn HBn HRn
        have HA := Lib.hid (HS.out.x.all_h (by omega))
        go_wp2_with fail
        refine HA.out.mono ?_
        rintro e w26 ⟨v26, L26, rfl, ho26, hr26, hn26, hb26⟩
        have hLL : L26 = L8 := hr26.ext HL8.out (fun s _ => congrFun HVn.out s)
        subst hLL
        obtain ⟨A26, c26, rfl, hrd26⟩ := ho26.rd
        have hrd8 := rd_of' (own_below HR.out.own hb26)
        have HBn := Lib.hid (HB.out.trans (hb26.mono HB.out.size))
        have HSP := Lib.hid (pairs_same A26 A8 L26 c26 c8 (by unfold maxLen; omega) w26 hrd26 hrd8)
        clear HA ho26 hr26 hb26 hrd26 hrd8 HR HS HB HL8 HVn
        go_wp2_with fail
        refine HSP.out.mono ?_
        rintro e w27 ⟨rfl, hb27⟩
        have HBm := Lib.hid (HBn.out.trans (hb27.mono HBn.out.size))
        clear HSP hb27 HBn
        go_wp2
        go_ret
        exact ⟨rfl, HBm.out⟩
      ·have HJn := Lib.hid hJ
       have hox := HS.out.x.ask_h (by omega) zz (by decide) (placeC a) HCW.out.2.2.1
       rw [ea] at hox
       simp only [fault_zero0] at hox
       unfold CallV placeC at hox
       unfold AnsV at hox
       have HO := Lib.hid hox
       clear hox
       go_wp2_with fail
       refine HO.out.mono ?_
       rintro e w20 ⟨v20, rfl, how20, T20, hnt20, hs20⟩
       obtain ⟨A20, c20, rfl, _⟩ := how20.form
       clear how20 hnt20
       clear ea HJ hJ
       have HJ := HJn
       clear HJn
       have HSn := Lib.hid (HS.out.step hs20)
       have HBn := Lib.hid (HB.out.trans (hs20.belB HS.out.x.lo))
       have HRn := Lib.hid (HR.out.step hs20)
       clear HO hs20 HS HB HR
       have HS := HSn; have HB := HBn; have HR := HRn
       clear HSn HBn HRn
       have hox := HS.out.x.ask_h (by omega) zz (by decide) (whoC a) HCW.out.2.2.2.1
       rw [eb] at hox
       simp only [fault_zero0] at hox
       unfold CallV whoC at hox
       unfold AnsV at hox
       have HO := Lib.hid hox
       clear hox
       go_wp2_with fail
       refine HO.out.mono ?_
       rintro e w21 ⟨v21, rfl, how21, T21, hnt21, hs21⟩
       obtain ⟨A21, c21, rfl, _⟩ := how21.form
       clear how21 hnt21
       clear eb
       have hz1 := Blk.new w21 34 #[.int .i64 0, .int .i64 0, .int .i64 0, Value.string { data := nw.toArray }, .slice A21 0 c21]
       have HZ := Lib.hid hz1
       clear hz1
       have HSn := Lib.hid ((HS.out.step hs21).alloc (.cells #[.int .i64 0, .int .i64 0, .int .i64 0, Value.string { data := nw.toArray }, .slice A21 0 c21] 34))
       have HBn := Lib.hid (HB.out.trans ((hs21.belB HS.out.x.lo).alloc (Nat.le_trans HS.out.x.le hs21.size) (.cells #[.int .i64 0, .int .i64 0, .int .i64 0, Value.string { data := nw.toArray }, .slice A21 0 c21] 34)))
       have HRn := Lib.hid ((HR.out.step hs21).alloc (.cells #[.int .i64 0, .int .i64 0, .int .i64 0, Value.string { data := nw.toArray }, .slice A21 0 c21] 34))
       clear HO hs21 HS HB HR
       have HS := HSn; have HB := HBn; have HR := HRn
       clear HSn HBn HRn
       go_upto_region 28 with fail
       refine wp_name (fun w15 HW => ?_)
       have hs0 := HS.out; have hb0 := HB.out; have hr0 := HR.out; have hz0 := HZ.out
       rw [← HW.out] at hs0 hb0 hr0 hz0
       clear HW HS HB HR HZ
       have HS := Lib.hid hs0; have HB := Lib.hid hb0; have HR := Lib.hid hr0; have HZ := Lib.hid hz0
       clear hs0 hb0 hr0 hz0
       generalize w21.heap.size = b21 at *
       obtain ⟨z0, z1, z2, z3⟩ := HZ.out.cls4
       simp at z0 z1 z2 z3
       unfold nw at z3
       have hox := HS.out.x.ask_h (by omega) zz (by decide) (leaveC a) HCW.out.2.2.2.2
       rw [ec] at hox
       simp only [fault_zero0] at hox
       unfold CallV leaveC at hox
       unfold AnsV at hox
       have HO := Lib.hid hox
       clear hox
       go_wp2_with fail
       refine HO.out.mono ?_
       rintro e w22 ⟨v22, rfl, how22, T22, hnt22, hs22⟩
       obtain ⟨A22, c22, rfl, _⟩ := how22.form
       clear how22 hnt22
       clear ec z0 z1 z2 z3 HZ
       have HSn := Lib.hid (HS.out.step hs22)
       have HBn := Lib.hid (HB.out.trans (hs22.belB HS.out.x.lo))
       have HRn := Lib.hid (HR.out.step hs22)
       clear HO hs22 HS HB HR
       have HS := HSn; have HB := HBn; have HR := HRn
       clear HSn HBn HRn
       have x0 := HS.out.blk.cell 0
       have x1 := HS.out.blk.cell 1
       simp at x0 x1
       rcases HJ.out.take (by decide) (by decide) (by omega) with ⟨t5, ea⟩ | ⟨t5, gE, ea, eb, hV⟩
       ·skip
        have hox := HS.out.x.ask_h (by omega) zz (by decide) (takeC p) HCW.out.2.1
        rw [ea] at hox
        simp only [faultV_no (show (7 : Int) ≠ 0 by decide)] at hox
        unfold CallV takeC at hox
        unfold AnsV at hox
        have HO := Lib.hid hox
        clear hox
        go_wp2_with fail
        refine HO.out.mono ?_
        rintro e w23 ⟨v23, rfl, how23, T23, hnt23, hs23⟩
        obtain ⟨A23, c23, rfl, _⟩ := how23.form
        clear how23 hnt23
        clear ea x0 x1
        have HSn := Lib.hid (HS.out.step hs23)
        have HBn := Lib.hid (HB.out.trans (hs23.belB HS.out.x.lo))
        have HRn := Lib.hid (HR.out.step hs23)
        clear HO hs23 HS HB HR
        have HS := HSn; have HB := HBn; have HR := HRn
        clear HSn HBn HRn
        have HER := Lib.hid (error_same 7 (by decide) _ (HEV.out.below HB.out))
        go_wp2_with fail
        refine HER.out.mono ?_
        rintro e w24 ⟨rfl, hb24⟩
        have HBn := Lib.hid (HB.out.trans (hb24.mono HB.out.size))
        clear HER hb24
        go_wp2
        go_ret
        exact ⟨rfl, HBn.out⟩
       ·have HVn := Lib.hid hV
        clear hV
        have hox := HS.out.x.ask_h (by omega) zz (by decide) (takeC p) HCW.out.2.1
        rw [ea] at hox
        simp only [fault_zero0] at hox
        unfold CallV takeC at hox
        unfold AnsV at hox
        have HO := Lib.hid hox
        clear hox
        go_wp2_with fail
        refine HO.out.mono ?_
        rintro e w23 ⟨v23, rfl, how23, T23, hnt23, hs23⟩
        obtain ⟨A23, c23, rfl, _⟩ := how23.form
        clear how23 hnt23
        clear ea x0 x1
        have HSn := Lib.hid (HS.out.step hs23)
        have HBn := Lib.hid (HB.out.trans (hs23.belB HS.out.x.lo))
        have HRn := Lib.hid (HR.out.step hs23)
        clear HO hs23 HS HB HR
        have HS := HSn; have HB := HBn; have HR := HRn
        clear HSn HBn HRn
        have hox := HS.out.x.close_h (by omega) zz (by decide)
        rw [eb] at hox
        simp only [fault_zero0] at hox
        have HO := Lib.hid hox
        clear hox eb
        go_wp2_with fail
        refine HO.out.mono ?_
        rintro e w25 ⟨rfl, T25, hs25⟩
        have HSn := Lib.hid (HS.out.step hs25)
        have HBn := Lib.hid (HB.out.trans (hs25.belB HS.out.x.lo))
        have HRn := Lib.hid (HR.out.step hs25)
        clear HO hs25 HS HB HR
        have HS := HSn; have HB := HBn; have HR := HRn
        clear HSn HBn HRn
        have HA := Lib.hid (HS.out.x.all_h (by omega))
        go_wp2_with fail
        refine HA.out.mono ?_
        rintro e w26 ⟨v26, L26, rfl, ho26, hr26, hn26, hb26⟩
        have hLL : L26 = L8 := hr26.ext HL8.out (fun s _ => congrFun HVn.out s)
        subst hLL
        obtain ⟨A26, c26, rfl, hrd26⟩ := ho26.rd
        have hrd8 := rd_of' (own_below HR.out.own hb26)
        have HBn := Lib.hid (HB.out.trans (hb26.mono HB.out.size))
        have HSP := Lib.hid (pairs_same A26 A8 L26 c26 c8 (by unfold maxLen; omega) w26 hrd26 hrd8)
        clear HA ho26 hr26 hb26 hrd26 hrd8 HR HS HB HL8 HVn
        go_wp2_with fail
        refine HSP.out.mono ?_
        rintro e w27 ⟨rfl, hb27⟩
        have HBm := Lib.hid (HBn.out.trans (hb27.mono HBn.out.size))
        clear HSP hb27 HBn
        go_wp2
        go_ret
        exact ⟨rfl, HBm.out⟩
     | false =>
      have HJn := Lib.hid HJ.out.1
      clear HJ
      have HJ := HJn
      clear HJn
      rcases HJ.out.place (by decide) (by decide) a with ⟨f, t2, hf, ea, hJ⟩ | ⟨t2, t3, t4, ea, eb, ec, hJ⟩
      ·have HJn := Lib.hid hJ
       have HF := Lib.hid (faultV_no hf)
       have hox := HS.out.x.ask_h (by omega) zz (by decide) (placeC a) HCW.out.2.2.1
       rw [ea] at hox
       simp only [HF.out] at hox
       unfold CallV placeC at hox
       unfold AnsV at hox
       have HO := Lib.hid hox
       clear hox
       go_wp2_with fail
       refine HO.out.mono ?_
       rintro e w20 ⟨v20, rfl, how20, T20, hnt20, hs20⟩
       obtain ⟨A20, c20, rfl, _⟩ := how20.form
       clear how20 hnt20
       clear ea HJ hJ hf
       have HJ := HJn
       clear HJn
       have HSn := Lib.hid (HS.out.step hs20)
       have HBn := Lib.hid (HB.out.trans (hs20.belB HS.out.x.lo))
       have HRn := Lib.hid (HR.out.step hs20)
       clear HO hs20 HS HB HR
       have HS := HSn; have HB := HBn; have HR := HRn
       clear HSn HBn HRn
       have x0 := HS.out.blk.cell 0
       have x1 := HS.out.blk.cell 1
       simp at x0 x1
       rcases HJ.out.take (by decide) (by decide) (by omega) with ⟨t5, ea⟩ | ⟨t5, gE, ea, eb, hV⟩
       ·skip
        have hox := HS.out.x.ask_h (by omega) zz (by decide) (takeC p) HCW.out.2.1
        rw [ea] at hox
        simp only [faultV_no (show (7 : Int) ≠ 0 by decide)] at hox
        unfold CallV takeC at hox
        unfold AnsV at hox
        have HO := Lib.hid hox
        clear hox
        go_wp2_with fail
        refine HO.out.mono ?_
        rintro e w23 ⟨v23, rfl, how23, T23, hnt23, hs23⟩
        obtain ⟨A23, c23, rfl, _⟩ := how23.form
        clear how23 hnt23
        clear ea x0 x1
        have HSn := Lib.hid (HS.out.step hs23)
        have HBn := Lib.hid (HB.out.trans (hs23.belB HS.out.x.lo))
        have HRn := Lib.hid (HR.out.step hs23)
        clear HO hs23 HS HB HR
        have HS := HSn; have HB := HBn; have HR := HRn
        clear HSn HBn HRn
        have HER := Lib.hid (error_same 7 (by decide) _ (HEV.out.below HB.out))
        go_wp2_with fail
        refine HER.out.mono ?_
        rintro e w24 ⟨rfl, hb24⟩
        have HBn := Lib.hid (HB.out.trans (hb24.mono HB.out.size))
        clear HER hb24
        go_wp2
        go_ret
        exact ⟨rfl, HBn.out⟩
       ·have HVn := Lib.hid hV
        clear hV
        have hox := HS.out.x.ask_h (by omega) zz (by decide) (takeC p) HCW.out.2.1
        rw [ea] at hox
        simp only [fault_zero0] at hox
        unfold CallV takeC at hox
        unfold AnsV at hox
        have HO := Lib.hid hox
        clear hox
        go_wp2_with fail
        refine HO.out.mono ?_
        rintro e w23 ⟨v23, rfl, how23, T23, hnt23, hs23⟩
        obtain ⟨A23, c23, rfl, _⟩ := how23.form
        clear how23 hnt23
        clear ea x0 x1
        have HSn := Lib.hid (HS.out.step hs23)
        have HBn := Lib.hid (HB.out.trans (hs23.belB HS.out.x.lo))
        have HRn := Lib.hid (HR.out.step hs23)
        clear HO hs23 HS HB HR
        have HS := HSn; have HB := HBn; have HR := HRn
        clear HSn HBn HRn
        have hox := HS.out.x.close_h (by omega) zz (by decide)
        rw [eb] at hox
        simp only [fault_zero0] at hox
        have HO := Lib.hid hox
        clear hox eb
        go_wp2_with fail
        refine HO.out.mono ?_
        rintro e w25 ⟨rfl, T25, hs25⟩
        have HSn := Lib.hid (HS.out.step hs25)
        have HBn := Lib.hid (HB.out.trans (hs25.belB HS.out.x.lo))
        have HRn := Lib.hid (HR.out.step hs25)
        clear HO hs25 HS HB HR
        have HS := HSn; have HB := HBn; have HR := HRn
        clear HSn HBn HRn
        have HA := Lib.hid (HS.out.x.all_h (by omega))
        go_wp2_with fail
        refine HA.out.mono ?_
        rintro e w26 ⟨v26, L26, rfl, ho26, hr26, hn26, hb26⟩
        have hLL : L26 = L8 := hr26.ext HL8.out (fun s _ => congrFun HVn.out s)
        subst hLL
        obtain ⟨A26, c26, rfl, hrd26⟩ := ho26.rd
        have hrd8 := rd_of' (own_below HR.out.own hb26)
        have HBn := Lib.hid (HB.out.trans (hb26.mono HB.out.size))
        have HSP := Lib.hid (pairs_same A26 A8 L26 c26 c8 (by unfold maxLen; omega) w26 hrd26 hrd8)
        clear HA ho26 hr26 hb26 hrd26 hrd8 HR HS HB HL8 HVn
        go_wp2_with fail
        refine HSP.out.mono ?_
        rintro e w27 ⟨rfl, hb27⟩
        have HBm := Lib.hid (HBn.out.trans (hb27.mono HBn.out.size))
        clear HSP hb27 HBn
        go_wp2
        go_ret
        exact ⟨rfl, HBm.out⟩
      ·have HJn := Lib.hid hJ
       have hox := HS.out.x.ask_h (by omega) zz (by decide) (placeC a) HCW.out.2.2.1
       rw [ea] at hox
       simp only [fault_zero0] at hox
       unfold CallV placeC at hox
       unfold AnsV at hox
       have HO := Lib.hid hox
       clear hox
       go_wp2_with fail
       refine HO.out.mono ?_
       rintro e w20 ⟨v20, rfl, how20, T20, hnt20, hs20⟩
       obtain ⟨A20, c20, rfl, _⟩ := how20.form
       clear how20 hnt20
       clear ea HJ hJ
       have HJ := HJn
       clear HJn
       have HSn := Lib.hid (HS.out.step hs20)
       have HBn := Lib.hid (HB.out.trans (hs20.belB HS.out.x.lo))
       have HRn := Lib.hid (HR.out.step hs20)
       clear HO hs20 HS HB HR
       have HS := HSn; have HB := HBn; have HR := HRn
       clear HSn HBn HRn
       have hox := HS.out.x.ask_h (by omega) zz (by decide) (whoC a) HCW.out.2.2.2.1
       rw [eb] at hox
       simp only [fault_zero0] at hox
       unfold CallV whoC at hox
       unfold AnsV at hox
       have HO := Lib.hid hox
       clear hox
       go_wp2_with fail
       refine HO.out.mono ?_
       rintro e w21 ⟨v21, rfl, how21, T21, hnt21, hs21⟩
       obtain ⟨A21, c21, rfl, _⟩ := how21.form
       clear how21 hnt21
       clear eb
       have hz1 := Blk.new w21 34 #[.int .i64 0, .int .i64 0, .int .i64 0, Value.string { data := nw.toArray }, .slice A21 0 c21]
       have HZ := Lib.hid hz1
       clear hz1
       have HSn := Lib.hid ((HS.out.step hs21).alloc (.cells #[.int .i64 0, .int .i64 0, .int .i64 0, Value.string { data := nw.toArray }, .slice A21 0 c21] 34))
       have HBn := Lib.hid (HB.out.trans ((hs21.belB HS.out.x.lo).alloc (Nat.le_trans HS.out.x.le hs21.size) (.cells #[.int .i64 0, .int .i64 0, .int .i64 0, Value.string { data := nw.toArray }, .slice A21 0 c21] 34)))
       have HRn := Lib.hid ((HR.out.step hs21).alloc (.cells #[.int .i64 0, .int .i64 0, .int .i64 0, Value.string { data := nw.toArray }, .slice A21 0 c21] 34))
       clear HO hs21 HS HB HR
       have HS := HSn; have HB := HBn; have HR := HRn
       clear HSn HBn HRn
       go_upto_region 28 with fail
       refine wp_name (fun w16 HW => ?_)
       have hs0 := HS.out; have hb0 := HB.out; have hr0 := HR.out; have hz0 := HZ.out
       rw [← HW.out] at hs0 hb0 hr0 hz0
       clear HW HS HB HR HZ
       have HS := Lib.hid hs0; have HB := Lib.hid hb0; have HR := Lib.hid hr0; have HZ := Lib.hid hz0
       clear hs0 hb0 hr0 hz0
       generalize w21.heap.size = b21 at *
       obtain ⟨z0, z1, z2, z3⟩ := HZ.out.cls4
       simp at z0 z1 z2 z3
       unfold nw at z3
       have hox := HS.out.x.ask_h (by omega) zz (by decide) (leaveC a) HCW.out.2.2.2.2
       rw [ec] at hox
       simp only [fault_zero0] at hox
       unfold CallV leaveC at hox
       unfold AnsV at hox
       have HO := Lib.hid hox
       clear hox
       go_wp2_with fail
       refine HO.out.mono ?_
       rintro e w22 ⟨v22, rfl, how22, T22, hnt22, hs22⟩
       obtain ⟨A22, c22, rfl, _⟩ := how22.form
       clear how22 hnt22
       clear ec z0 z1 z2 z3 HZ
       have HSn := Lib.hid (HS.out.step hs22)
       have HBn := Lib.hid (HB.out.trans (hs22.belB HS.out.x.lo))
       have HRn := Lib.hid (HR.out.step hs22)
       clear HO hs22 HS HB HR
       have HS := HSn; have HB := HBn; have HR := HRn
       clear HSn HBn HRn
       have x0 := HS.out.blk.cell 0
       have x1 := HS.out.blk.cell 1
       simp at x0 x1
       rcases HJ.out.take (by decide) (by decide) (by omega) with ⟨t5, ea⟩ | ⟨t5, gE, ea, eb, hV⟩
       ·skip
        have hox := HS.out.x.ask_h (by omega) zz (by decide) (takeC p) HCW.out.2.1
        rw [ea] at hox
        simp only [faultV_no (show (7 : Int) ≠ 0 by decide)] at hox
        unfold CallV takeC at hox
        unfold AnsV at hox
        have HO := Lib.hid hox
        clear hox
        go_wp2_with fail
        refine HO.out.mono ?_
        rintro e w23 ⟨v23, rfl, how23, T23, hnt23, hs23⟩
        obtain ⟨A23, c23, rfl, _⟩ := how23.form
        clear how23 hnt23
        clear ea x0 x1
        have HSn := Lib.hid (HS.out.step hs23)
        have HBn := Lib.hid (HB.out.trans (hs23.belB HS.out.x.lo))
        have HRn := Lib.hid (HR.out.step hs23)
        clear HO hs23 HS HB HR
        have HS := HSn; have HB := HBn; have HR := HRn
        clear HSn HBn HRn
        have HER := Lib.hid (error_same 7 (by decide) _ (HEV.out.below HB.out))
        go_wp2_with fail
        refine HER.out.mono ?_
        rintro e w24 ⟨rfl, hb24⟩
        have HBn := Lib.hid (HB.out.trans (hb24.mono HB.out.size))
        clear HER hb24
        go_wp2
        go_ret
        exact ⟨rfl, HBn.out⟩
       ·have HVn := Lib.hid hV
        clear hV
        have hox := HS.out.x.ask_h (by omega) zz (by decide) (takeC p) HCW.out.2.1
        rw [ea] at hox
        simp only [fault_zero0] at hox
        unfold CallV takeC at hox
        unfold AnsV at hox
        have HO := Lib.hid hox
        clear hox
        go_wp2_with fail
        refine HO.out.mono ?_
        rintro e w23 ⟨v23, rfl, how23, T23, hnt23, hs23⟩
        obtain ⟨A23, c23, rfl, _⟩ := how23.form
        clear how23 hnt23
        clear ea x0 x1
        have HSn := Lib.hid (HS.out.step hs23)
        have HBn := Lib.hid (HB.out.trans (hs23.belB HS.out.x.lo))
        have HRn := Lib.hid (HR.out.step hs23)
        clear HO hs23 HS HB HR
        have HS := HSn; have HB := HBn; have HR := HRn
        clear HSn HBn HRn
        have hox := HS.out.x.close_h (by omega) zz (by decide)
        rw [eb] at hox
        simp only [fault_zero0] at hox
        have HO := Lib.hid hox
        clear hox eb
        go_wp2_with fail
        refine HO.out.mono ?_
        rintro e w25 ⟨rfl, T25, hs25⟩
        have HSn := Lib.hid (HS.out.step hs25)
        have HBn := Lib.hid (HB.out.trans (hs25.belB HS.out.x.lo))
        have HRn := Lib.hid (HR.out.step hs25)
        clear HO hs25 HS HB HR
        have HS := HSn; have HB := HBn; have HR := HRn
        clear HSn HBn HRn
        have HA := Lib.hid (HS.out.x.all_h (by omega))
        go_wp2_with fail
        refine HA.out.mono ?_
        rintro e w26 ⟨v26, L26, rfl, ho26, hr26, hn26, hb26⟩
        have hLL : L26 = L8 := hr26.ext HL8.out (fun s _ => congrFun HVn.out s)
        subst hLL
        obtain ⟨A26, c26, rfl, hrd26⟩ := ho26.rd
        have hrd8 := rd_of' (own_below HR.out.own hb26)
        have HBn := Lib.hid (HB.out.trans (hb26.mono HB.out.size))
        have HSP := Lib.hid (pairs_same A26 A8 L26 c26 c8 (by unfold maxLen; omega) w26 hrd26 hrd8)
        clear HA ho26 hr26 hb26 hrd26 hrd8 HR HS HB HL8 HVn
        go_wp2_with fail
        refine HSP.out.mono ?_
        rintro e w27 ⟨rfl, hb27⟩
        have HBm := Lib.hid (HBn.out.trans (hb27.mono HBn.out.size))
        clear HSP hb27 HBn
        go_wp2
        go_ret
        exact ⟨rfl, HBm.out⟩
    ·have HF := Lib.hid (faultV_no hf)
     rw [HF.out] at hox
     unfold CallV addC at hox
     unfold AnsV at hox
     have HO := Lib.hid hox
     clear hox hf
     go_wp2_with fail
     refine HO.out.mono ?_
     rintro e w10 ⟨v10, rfl, _, T10, _, hs10⟩
     have HBn := Lib.hid (HB.out.trans (hs10.belB HS.out.x.lo))
     clear HO hs10
     go_wp2
     go_ret
     exact ⟨rfl, HBn.out⟩
end Go.Proofs.YthleniobcbdepaaGreatDoor
