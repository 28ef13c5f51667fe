/- The law VersStays: the walk of its own text, by the contracts of package vers. Any steps, keys, numbers. Condition: errors.errorType is laid. -/
import Derived.Test.YtdmnejanckdajaaDoorVers15
import Derived.Test.YtdmnejanckdajaaDoorStp
import Derived.Test.YtdmnejanckdajaaDoorSamePr
import Derived.Test.YtdmnejanckdajaaDoorErrLaw
import Derived.StillTailTactics
import Derived.Deep.DeepCutAuto
import Derived.Deep.CutBlock
import Derived.Deep.RegionHeld3
import Derived.Deep.DrawnRows
import Derived.Outline
namespace Go.Proofs.YtdmnejanckdajaaDoor
set_option linter.unusedVariables false
set_option linter.unusedSimpArgs false
set_option maxRecDepth 100000
open Go.RowKit

def fact1 : List UInt8 → List Ver := upd (fun _ => []) [97] [⟨3, [120], false⟩]
theorem fact1_put : putF (fun _ => []) [97] ⟨3, [120], false⟩ 0 = fact1 := by
  have h : putE [97] ⟨3, [120], false⟩ 0 = 0 := by decide
  unfold putF fact1
  rw [if_pos h]
  rfl
theorem fact1_err : putE [97] ⟨3, [120], false⟩ 0 = 0 := by decide
theorem fact1_two : tell fact1 [97] 2 = none := by decide
theorem fact1_four : tell fact1 [97] 4 = some [120] := by decide

set_option maxHeartbeats 40000000 in
theorem versStays_walk (A : Option Addr) (l : List Stp) (c : Nat) (hm : l.length ≤ maxLen) (hS : ∀ s ∈ l, StpOk s) (at' : Int) (hwa : (Lit.int .i64 at').wf = true) (key : List UInt8) (hkey : key.length ≤ maxLen) (lo : List UInt8) (hlo : lo.length ≤ maxLen) (hi : List UInt8) (hhi : hi.length ≤ maxLen)
    (la : Int) (hwl : (Lit.int .i64 la).wf = true) (w : World) (hg : ErrVar w) (hl : Rd w w.heap.size A (cellsS l)) :
    Calls Tryd.prog 3 #[.slice A l.length c, .int .i64 at', txt key, txt lo, txt hi, .int .i64 la] w fun e w' => e = .returned (.bool true) ∧ Below w.heap.size w w' := by
  have HS := Lib.hid hS
  have hwl : wrap64 (l.length : Int) = l.length := by unfold maxLen at hm; unfold wrap64; omega
  clear hS hwa
  go_enter Tryd.func3, Tryd.ntmps3
  go_wp2_with fail
  refine (new_any w).mono ?_
  rintro e w1 ⟨t0, rfl, ht0, hB0, hM0, hne0, hbw1⟩
  have HT0 := Lib.hid (show TblAt w1 (fun g => w.heap.size ≤ g) t0 (fun _ => []) 0 0 from ⟨⟨w.heap.size, #[], 0, hB0, hM0, by simp⟩, ht0, Good.new⟩)
  clear hB0 hM0
  go_wp2_with fail
  refine (Put_any t0 (fun _ => []) 0 0 _ [97] (by decide) [120] (by decide) 3 (by decide) w1 HT0.out).mono ?_
  rintro e w2 ⟨rfl, hf2, hT2⟩
  rw [fact1_put] at hT2
  rw [fact1_err, show faultV 0 = Value.nilIface from rfl]
  have hb2 : Below w.heap.size w w2 := hbw1.trans (hf2.below hbw1.size (fun _ h => h))
  have HT2 := Lib.hid hT2
  clear hT2 hf2
  go_wp2_with fail
  refine (get_none HT2.out (by decide) (by decide) (by decide) fact1_two).mono ?_
  rintro e w3 ⟨rfl, rfl⟩
  go_wp2_with fail
  refine (get_some HT2.out (by decide) (by decide) (by decide) fact1_four).mono ?_
  rintro e w4 ⟨rfl, rfl⟩
  go_wp2_with fail
  refine (error_same 4 (by decide) w4 (hg.below hb2)).mono ?_
  rintro e w5 ⟨rfl, hb5⟩
  have hb5' : Below w.heap.size w w5 := hb2.trans (hb5.mono hb2.size)
  clear HT0 HT2
  go_wp2_with fail
  refine (new_any w5).mono ?_
  rintro e w6 ⟨t1, rfl, ht1, hB1, hM1, hne1, hbw6⟩
  have hT6 : TblAt w6 (fun g => w.heap.size ≤ g) t1 (fun _ => []) 0 0 := (TblAt.mono (S := fun g => w5.heap.size ≤ g) ⟨⟨w5.heap.size, #[], 0, hB1, hM1, by simp⟩, ht1, Good.new⟩ (fun g hg => by have := hb5'.size; omega))
  have hb6 : Below w.heap.size w w6 := hb5'.trans (hbw6.mono hb5'.size)
  clear hB1 hM1 hbw6
  clear hne0 hne1
  go_upto_block 0 with fail
  go_cut [20] (fun i wx => ∃ (k : Nat) (F : List UInt8 → List Ver) (top : Int), k ≤ 40 ∧ TblAt wx (fun g => w.heap.size ≤ g) t1 F top k ∧ Below w.heap.size w wx)
  case first =>
    go_wp2
    go_loopw [20] (fun i wr => ∃ (k : Nat) (F : List UInt8 → List Ver) (top : Int), i = .int .i64 k ∧ k ≤ l.length ∧ k ≤ 40 ∧ TblAt wr (fun g => w.heap.size ≤ g) t1 F top k ∧ Below w.heap.size w wr) (fun i _ => 40 - (intOf i).toNat)
    case atStart => exact ⟨0, _, _, rfl, by omega, by omega, hT6, hb6⟩
    case round =>
      obtain ⟨k, F, top, rfl, hk1, hk2, hT, hb⟩ := hrel
      have HT := Lib.hid hT
      clear hT hT6
      by_cases hlt : k < l.length ∧ k < 40
      · obtain ⟨hlt, hlt2⟩ := hlt
        obtain ⟨b0, of0, rfl, hbb, c0, c1, c2, c3, c4, c5⟩ := (hl.below hb).stp hlt
        obtain ⟨s1, s2, s3, s4, s5⟩ := HS.out l[k] (List.getElem_mem _)
        have hI : (k : Int) < (l.length : Int) := by omega
        have hI2 : (0 : Int) ≤ (k : Int) := by omega
        have hI3 : (k : Int) < 40 := by omega
        by_cases hw : l[k].what = 0
        · rw [hw] at c0
          go_wp2_with fail
          go_still_tail 11, (by kernel_rfl)
          go_wp2_with fail
          refine (Drop_any t1 F top k _ l[k].key s3 l[k].n (by omega) _ HT.out.drew).mono ?_
          rintro e w5 ⟨rfl, hf5, hT5⟩
          have hq := tbl_step hb.drew hf5 hT5
          have HQ := Lib.hid hq
          clear hq hf5 hT5
          go_wp2
          go_roundw
          case rel => exact ⟨k + 1, _, _, by go_num, by omega, by omega, HQ.out.1, HQ.out.2⟩
          case measure => simp [intOf]; omega
        · have hw' : (l[k].what == 0) = false := by simpa using hw
          go_wp2_with fail
          go_still_tail 16, (by kernel_rfl)
          go_wp2_with fail
          refine (Put_any t1 F top k _ l[k].key s3 l[k].val s5 l[k].n (by omega) _ HT.out.drew).mono ?_
          rintro e w5 ⟨rfl, hf5, hT5⟩
          have hq := tbl_step hb.drew hf5 hT5
          have HQ := Lib.hid hq
          clear hq hf5 hT5
          go_wp2
          go_roundw
          case rel => exact ⟨k + 1, _, _, by go_num, by omega, by omega, HQ.out.1, HQ.out.2⟩
          case measure => simp [intOf]; omega
      · by_cases hlt1 : k < l.length
        all_goals
          go_wp2
          go_meet
          exact ⟨k, F, top, hk2, HT.out, hb⟩
  case rest =>
    obtain ⟨k, F, top, hk2, hT, hb⟩ := hcut
    have HT := Lib.hid hT
    clear hT hT6
    have hbr := hb
    have HG := Lib.hid HT.out.good
    by_cases hok : 0 ≤ at' ∧ at' ≤ la ∧ la ≤ 1000000
    · obtain ⟨hk3, hk4, hk5⟩ := hok
      have hat : numB at' = true := numB_of (by omega)
      have hla : numB la = true := numB_of (by omega)
      have HCT : Hid (∀ s, tell (colF F at') s la = tell F s la) := Lib.hid (tell_colF HG.out hk4)
      have HCC : Hid (colF (colF F at') at' = colF F at') := Lib.hid (colF_col HG.out at')
      have HT1 := Lib.hid HT.out.tight
      have hs6 := hb.size
      rcases htl : tell F key la with _ | v
      · have HX : Hid (TellV (tell F key la) (txt []) (.iface 31 (.int .i64 4))) := Lib.hid (by rw [htl]; exact ⟨rfl, rfl⟩)
        clear htl
        go_wp2_with fail
        refine (get_tell HT1.out (by omega) hkey hla HX.out).mono ?_
        rintro e w6 ⟨rfl, rfl⟩
        go_wp2_with fail
        refine (range_ok t1 F top k (by omega) _ lo hi la w6 HT1.out hla).mono ?_
        rintro e wa ⟨v1, L, rfl, hr1, hrng1, hLk, hba⟩
        have ho1 := hr1
        have HR1 := Lib.hid hrng1
        have HTa := Lib.hid (HT1.out.below hba)
        have hsa := hba.size
        obtain ⟨A1, c1, rfl, _⟩ := hr1.rd
        have HB1 := Lib.hid ho1.blk
        clear hr1 hrng1
        go_wp2_with fail
        refine (collect_ok t1 F top k (by omega) _ at' wa HTa.out hat).mono ?_
        rintro e wb ⟨N, j, rfl, hcN, hcJ, hfb, hTb⟩
        have ho2 := ho1.fr hfb (fun g h1 h2 h3 => by omega)
        have HN := Lib.hid hcN
        have hsb := hfb.size
        have HTb := Lib.hid hTb
        have hbb : Below w.heap.size w wb := (hbr.trans (hba.mono hs6)).trans (hfb.below (by omega) (fun g h => h.1))
        clear hTb hcN hcJ hfb ho1 hba
        go_wp2_with fail
        refine (Size_any t1 (colF F at') top k (by omega) _ wb HTb.out).mono ?_
        rintro e wc ⟨N2, rfl, hcN2, hN2, hbc⟩
        obtain rfl : N2 = N := hcN2.unique HN.out
        have ho3 := own_below ho2 hbc
        have hsc := hbc.size
        have HTc := Lib.hid (HTb.out.below hbc).tight
        have hbc' := hbb.trans (hbc.mono (by omega))
        clear hcN2 hbc ho2 hbb HTb
        go_wp2_with fail
        refine (get_tell HTc.out (by omega) hkey hla (by rw [HCT.out]; exact HX.out)).mono ?_
        rintro e w7 ⟨rfl, rfl⟩
        go_wp2_with fail
        refine (range_ok t1 (colF F at') top k (by omega) _ lo hi la w7 HTc.out hla).mono ?_
        rintro e wd ⟨v2, L2, rfl, hr2, hrng2, _, hbd⟩
        obtain rfl : L2 = L := hrng2.ext HR1.out (fun s _ => HCT.out s)
        have ho4 : OwnKV wd w6.heap.size _ L2 := own_below ho3 hbd
        have hsd := hbd.size
        have ho5 := hr2
        have HTd := Lib.hid (HTc.out.below hbd)
        have hbd' := hbc'.trans (hbd.mono (by omega))
        obtain ⟨A2, c2, rfl, _⟩ := hr2.rd
        have HB2 := Lib.hid ho5.blk
        clear hr2 hrng2 hbd ho3 hbc' HTc
        go_wp2_with fail
        refine (collect_ok t1 (colF F at') top k (by omega) _ at' wd HTd.out hat).mono ?_
        rintro e we ⟨M, j2, rfl, hcM, hcJ2, hfe, hTe⟩
        rw [HCC.out] at hcM hTe
        obtain rfl : M = N2 := hcM.unique HN.out
        obtain rfl : j2 = 0 := by have := hcJ2.unique HN.out; omega
        have hse := hfe.size
        have ho6 := ho4.fr' hfe (fun g e h3 => by
          have h1 := HB1.out g e
          obtain ⟨h4 | h4, h5⟩ := h3
          · have := h4.2; omega
          · omega)
        have ho7 := ho5.fr' hfe (fun g e h3 => by
          have h1 := HB2.out g e
          have h5 := h3.2
          omega)
        have HTe := Lib.hid hTe
        have hbe' : Below w.heap.size w we := hbd'.trans (hfe.below (by omega) (fun g h => by
          obtain ⟨h4 | h4, h5⟩ := h
          · exact h4.1
          · omega))
        clear hTe hcM hcJ2 hfe ho4 ho5 hbd' HTd
        obtain ⟨A1', c1', ea1, hq1⟩ := ho6.rd
        obtain ⟨A2', c2', ea2, hq2⟩ := ho7.rd
        injection ea1 with ea1 _ ea3
        injection ea2 with ea4 _ ea6
        subst ea1 ea3 ea4 ea6
        go_wp2_with fail
        refine (pairs_same _ _ L2 _ _ (by unfold maxLen; omega) we hq1 hq2).mono ?_
        rintro e wf ⟨rfl, hbf⟩
        have ho8 := own_below ho6 hbf
        have ho9 := own_below ho7 hbf
        have HTf := Lib.hid (HTe.out.below hbf)
        have hsf := hbf.size
        have hbf' := hbe'.trans (hbf.mono (by omega))
        clear hbf ho6 ho7 hq1 hq2 hbe' HTe
        have hjj : ¬ ((j : Int) < 0) := by omega
        go_wp2_with fail
        go_region_held3 (fun w' => True)
          (first | exact trivial | go_keep)
          (first
            | (go_at_call 12; refine (Size_any t1 (colF F at') top k (by omega) _ _ (by first | exact HTf.out.drew | exact HTf.out)).mono ?_; rintro e wg ⟨N3, rfl, hcN3, hN3, hbg⟩; obtain rfl := hcN3.unique HN.out)
            | fail)
        have hbg' : Below w.heap.size w wg := hbf'.trans ((((Below.refl wf.heap.size wf).drew).trans hbg).mono (by omega))
        have hbgf : Below wf.heap.size wf wg := ((Below.refl _ _).drew).trans hbg
        have ho10 := own_below ho8 hbgf
        have ho11 := own_below ho9 hbgf
        have HTg := Lib.hid (HTf.out.below hbgf).tight
        have hsg := hbgf.size
        clear hbg hbgf ho8 ho9 hbf' HTf hcN3
        by_cases hl1 : 1000000 ≤ la
        · go_wp2
          go_ret
          exact ⟨rfl, hbg'⟩
        · go_wp2_with fail
          refine (Top_any t1 (colF F at') top k _ wg HTg.out).mono ?_
          rintro e w8 ⟨rfl, rfl⟩
          by_cases hl2 : la < top
          · go_wp2
            go_ret
            exact ⟨rfl, hbg'⟩
          · have hpe : putE [98] ⟨la + 1, [110, 101, 119], false⟩ top = 0 := by
              unfold putE
              rw [if_neg (by simp [keyB]), if_neg (by simp; omega), if_neg (by simp; omega)]
            have HCP : Hid (∀ s, tell (putF (colF F at') [98] ⟨la + 1, [110, 101, 119], false⟩ top) s la = tell F s la) := Lib.hid (fun s => by
              unfold putF
              rw [if_pos hpe, tell_put (HG.out.col at') _ _ (by simp; omega) (by simp; omega)]
              exact HCT.out s)
            have HPE := Lib.hid hpe
            clear hpe
            go_wp2_with fail
            refine (Put_any t1 (colF F at') top k _ [98] (by decide) [110, 101, 119] (by decide) (la + 1) (by omega) w8 HTg.out).mono ?_
            rintro e wh ⟨rfl, hfh, hTh⟩
            rw [HPE.out, show faultV 0 = Value.nilIface from rfl]
            have hsh := hfh.size
            have ho12 := OwnKV.fr' ho10 hfh (fun g e h3 => by
              have h1 := HB1.out g e
              obtain ⟨⟨h4 | h4, h5⟩ | h4, h6⟩ := h3
              · have := h4.2; omega
              · omega
              · omega)
            have hbh : Below w.heap.size w wh := hbg'.trans (hfh.below (by omega) (fun g h => by
              obtain ⟨⟨h4 | h4, h5⟩ | h4, h6⟩ := h
              · exact h4.1
              · omega
              · omega))
            have HTh := Lib.hid hTh
            clear hTh hfh ho10 ho11 hbg' HTg
            go_wp2_with fail
            refine (get_tell HTh.out (by omega) hkey hla (by rw [HCP.out]; exact HX.out)).mono ?_
            rintro e w9 ⟨rfl, rfl⟩
            go_wp2_with fail
            refine (range_ok t1 _ _ (k + 1) (by omega) _ lo hi la w9 HTh.out hla).mono ?_
            rintro e wi ⟨v3, L3, rfl, hr3, hrng3, _, hbi⟩
            obtain rfl : L3 = L2 := hrng3.ext HR1.out (fun s _ => HCP.out s)
            have ho13 := own_below ho12 hbi
            obtain ⟨A1s, c1s, ea1, hq3⟩ := OwnKV.rd ho13
            obtain ⟨A3, c3, rfl, hq4⟩ := hr3.rd
            injection ea1 with ea1 _ ea3
            subst ea1 ea3
            have hbi' := hbh.trans (hbi.mono (by omega))
            clear hr3 hrng3 ho12 ho13 hbh
            go_wp2_with fail
            refine (pairs_same _ _ L3 _ _ (by unfold maxLen; omega) wi hq3 hq4).mono ?_
            rintro e wj ⟨rfl, hbj⟩
            have hbj' := hbi'.trans (hbj.mono (by have := hbi.size; omega))
            clear hq3 hq4 hbi hbi' hbj
            go_wp2_with fail
            go_quiet (fail)
            go_wp2
            go_ret
            exact ⟨rfl, Below.drewN' hbj'⟩
      · have HX : Hid (TellV (tell F key la) (txt v) (.nilIface)) := Lib.hid (by rw [htl]; exact ⟨rfl, rfl⟩)
        clear htl
        go_wp2_with fail
        refine (get_tell HT1.out (by omega) hkey hla HX.out).mono ?_
        rintro e w6 ⟨rfl, rfl⟩
        go_wp2_with fail
        refine (range_ok t1 F top k (by omega) _ lo hi la w6 HT1.out hla).mono ?_
        rintro e wa ⟨v1, L, rfl, hr1, hrng1, hLk, hba⟩
        have ho1 := hr1
        have HR1 := Lib.hid hrng1
        have HTa := Lib.hid (HT1.out.below hba)
        have hsa := hba.size
        obtain ⟨A1, c1, rfl, _⟩ := hr1.rd
        have HB1 := Lib.hid ho1.blk
        clear hr1 hrng1
        go_wp2_with fail
        refine (collect_ok t1 F top k (by omega) _ at' wa HTa.out hat).mono ?_
        rintro e wb ⟨N, j, rfl, hcN, hcJ, hfb, hTb⟩
        have ho2 := ho1.fr hfb (fun g h1 h2 h3 => by omega)
        have HN := Lib.hid hcN
        have hsb := hfb.size
        have HTb := Lib.hid hTb
        have hbb : Below w.heap.size w wb := (hbr.trans (hba.mono hs6)).trans (hfb.below (by omega) (fun g h => h.1))
        clear hTb hcN hcJ hfb ho1 hba
        go_wp2_with fail
        refine (Size_any t1 (colF F at') top k (by omega) _ wb HTb.out).mono ?_
        rintro e wc ⟨N2, rfl, hcN2, hN2, hbc⟩
        obtain rfl : N2 = N := hcN2.unique HN.out
        have ho3 := own_below ho2 hbc
        have hsc := hbc.size
        have HTc := Lib.hid (HTb.out.below hbc).tight
        have hbc' := hbb.trans (hbc.mono (by omega))
        clear hcN2 hbc ho2 hbb HTb
        go_wp2_with fail
        refine (get_tell HTc.out (by omega) hkey hla (by rw [HCT.out]; exact HX.out)).mono ?_
        rintro e w7 ⟨rfl, rfl⟩
        go_wp2_with fail
        refine (range_ok t1 (colF F at') top k (by omega) _ lo hi la w7 HTc.out hla).mono ?_
        rintro e wd ⟨v2, L2, rfl, hr2, hrng2, _, hbd⟩
        obtain rfl : L2 = L := hrng2.ext HR1.out (fun s _ => HCT.out s)
        have ho4 : OwnKV wd w6.heap.size _ L2 := own_below ho3 hbd
        have hsd := hbd.size
        have ho5 := hr2
        have HTd := Lib.hid (HTc.out.below hbd)
        have hbd' := hbc'.trans (hbd.mono (by omega))
        obtain ⟨A2, c2, rfl, _⟩ := hr2.rd
        have HB2 := Lib.hid ho5.blk
        clear hr2 hrng2 hbd ho3 hbc' HTc
        go_wp2_with fail
        refine (collect_ok t1 (colF F at') top k (by omega) _ at' wd HTd.out hat).mono ?_
        rintro e we ⟨M, j2, rfl, hcM, hcJ2, hfe, hTe⟩
        rw [HCC.out] at hcM hTe
        obtain rfl : M = N2 := hcM.unique HN.out
        obtain rfl : j2 = 0 := by have := hcJ2.unique HN.out; omega
        have hse := hfe.size
        have ho6 := ho4.fr' hfe (fun g e h3 => by
          have h1 := HB1.out g e
          obtain ⟨h4 | h4, h5⟩ := h3
          · have := h4.2; omega
          · omega)
        have ho7 := ho5.fr' hfe (fun g e h3 => by
          have h1 := HB2.out g e
          have h5 := h3.2
          omega)
        have HTe := Lib.hid hTe
        have hbe' : Below w.heap.size w we := hbd'.trans (hfe.below (by omega) (fun g h => by
          obtain ⟨h4 | h4, h5⟩ := h
          · exact h4.1
          · omega))
        clear hTe hcM hcJ2 hfe ho4 ho5 hbd' HTd
        obtain ⟨A1', c1', ea1, hq1⟩ := ho6.rd
        obtain ⟨A2', c2', ea2, hq2⟩ := ho7.rd
        injection ea1 with ea1 _ ea3
        injection ea2 with ea4 _ ea6
        subst ea1 ea3 ea4 ea6
        go_wp2_with fail
        refine (pairs_same _ _ L2 _ _ (by unfold maxLen; omega) we hq1 hq2).mono ?_
        rintro e wf ⟨rfl, hbf⟩
        have ho8 := own_below ho6 hbf
        have ho9 := own_below ho7 hbf
        have HTf := Lib.hid (HTe.out.below hbf)
        have hsf := hbf.size
        have hbf' := hbe'.trans (hbf.mono (by omega))
        clear hbf ho6 ho7 hq1 hq2 hbe' HTe
        have hjj : ¬ ((j : Int) < 0) := by omega
        go_wp2_with fail
        go_region_held3 (fun w' => True)
          (first | exact trivial | go_keep)
          (first
            | (go_at_call 12; refine (Size_any t1 (colF F at') top k (by omega) _ _ (by first | exact HTf.out.drew | exact HTf.out)).mono ?_; rintro e wg ⟨N3, rfl, hcN3, hN3, hbg⟩; obtain rfl := hcN3.unique HN.out)
            | fail)
        have hbg' : Below w.heap.size w wg := hbf'.trans ((((Below.refl wf.heap.size wf).drew).trans hbg).mono (by omega))
        have hbgf : Below wf.heap.size wf wg := ((Below.refl _ _).drew).trans hbg
        have ho10 := own_below ho8 hbgf
        have ho11 := own_below ho9 hbgf
        have HTg := Lib.hid (HTf.out.below hbgf).tight
        have hsg := hbgf.size
        clear hbg hbgf ho8 ho9 hbf' HTf hcN3
        by_cases hl1 : 1000000 ≤ la
        · go_wp2
          go_ret
          exact ⟨rfl, hbg'⟩
        · go_wp2_with fail
          refine (Top_any t1 (colF F at') top k _ wg HTg.out).mono ?_
          rintro e w8 ⟨rfl, rfl⟩
          by_cases hl2 : la < top
          · go_wp2
            go_ret
            exact ⟨rfl, hbg'⟩
          · have hpe : putE [98] ⟨la + 1, [110, 101, 119], false⟩ top = 0 := by
              unfold putE
              rw [if_neg (by simp [keyB]), if_neg (by simp; omega), if_neg (by simp; omega)]
            have HCP : Hid (∀ s, tell (putF (colF F at') [98] ⟨la + 1, [110, 101, 119], false⟩ top) s la = tell F s la) := Lib.hid (fun s => by
              unfold putF
              rw [if_pos hpe, tell_put (HG.out.col at') _ _ (by simp; omega) (by simp; omega)]
              exact HCT.out s)
            have HPE := Lib.hid hpe
            clear hpe
            go_wp2_with fail
            refine (Put_any t1 (colF F at') top k _ [98] (by decide) [110, 101, 119] (by decide) (la + 1) (by omega) w8 HTg.out).mono ?_
            rintro e wh ⟨rfl, hfh, hTh⟩
            rw [HPE.out, show faultV 0 = Value.nilIface from rfl]
            have hsh := hfh.size
            have ho12 := OwnKV.fr' ho10 hfh (fun g e h3 => by
              have h1 := HB1.out g e
              obtain ⟨⟨h4 | h4, h5⟩ | h4, h6⟩ := h3
              · have := h4.2; omega
              · omega
              · omega)
            have hbh : Below w.heap.size w wh := hbg'.trans (hfh.below (by omega) (fun g h => by
              obtain ⟨⟨h4 | h4, h5⟩ | h4, h6⟩ := h
              · exact h4.1
              · omega
              · omega))
            have HTh := Lib.hid hTh
            clear hTh hfh ho10 ho11 hbg' HTg
            go_wp2_with fail
            refine (get_tell HTh.out (by omega) hkey hla (by rw [HCP.out]; exact HX.out)).mono ?_
            rintro e w9 ⟨rfl, rfl⟩
            go_wp2_with fail
            refine (range_ok t1 _ _ (k + 1) (by omega) _ lo hi la w9 HTh.out hla).mono ?_
            rintro e wi ⟨v3, L3, rfl, hr3, hrng3, _, hbi⟩
            obtain rfl : L3 = L2 := hrng3.ext HR1.out (fun s _ => HCP.out s)
            have ho13 := own_below ho12 hbi
            obtain ⟨A1s, c1s, ea1, hq3⟩ := OwnKV.rd ho13
            obtain ⟨A3, c3, rfl, hq4⟩ := hr3.rd
            injection ea1 with ea1 _ ea3
            subst ea1 ea3
            have hbi' := hbh.trans (hbi.mono (by omega))
            clear hr3 hrng3 ho12 ho13 hbh
            go_wp2_with fail
            refine (pairs_same _ _ L3 _ _ (by unfold maxLen; omega) wi hq3 hq4).mono ?_
            rintro e wj ⟨rfl, hbj⟩
            have hbj' := hbi'.trans (hbj.mono (by have := hbi.size; omega))
            clear hq3 hq4 hbi hbi' hbj
            go_wp2_with fail
            go_quiet (fail)
            go_wp2
            go_ret
            exact ⟨rfl, Below.drewN' hbj'⟩
    · go_wp2
      all_goals first
        | (exfalso; apply hok; exact ⟨by omega, by omega, by omega⟩)
        | (go_ret; exact ⟨rfl, hbr⟩)
end Go.Proofs.YtdmnejanckdajaaDoor
