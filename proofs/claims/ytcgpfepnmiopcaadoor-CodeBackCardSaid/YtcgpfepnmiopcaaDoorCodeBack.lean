/- The law CodeBack: the walk of its own text, by the contracts of package code. Any changes, any number, any byte. Condition: errors.errorType is laid. -/
import Derived.Test.YtcgpfepnmiopcaaDoorCode7
import Derived.Test.YtcgpfepnmiopcaaDoorSameC
import Derived.Test.YtcgpfepnmiopcaaDoorErrLaw
import Derived.Test.YtcgpfepnmiopcaaDoorCut
import Derived.Test.YtcgpfepnmiopcaaDoorOpenC
namespace Go.Proofs.YtcgpfepnmiopcaaDoor
set_option linter.unusedVariables false
set_option linter.unusedSimpArgs false
open Go.RowKit

def oneL : List Chg := [⟨[107], [118], false⟩]
theorem oneL_ok : chgFault oneL = 0 := by decide
theorem oneL_enc : encL oneL = [1, 1, 107, 1, 118] := by decide
theorem oneL_small : Small oneL := by
  intro c hc
  simp [oneL] at hc
  subst hc
  simp [maxLen]

set_option maxRecDepth 100000 in
set_option maxHeartbeats 8000000 in
theorem codeBack_walk (A : Option Addr) (l : List Chg) (c : Nat) (hm : l.length ≤ maxLen) (hS : Small l) (cut : Int) (hcut : (Lit.int .i64 cut).wf = true) (more : Int) (hmore : (Lit.int .u8 more).wf = true) (w : World) (hg : ErrVar w) (hl : Rd w w.heap.size A (cellsC l)) :
    Calls Tryd.prog 4 #[.slice A l.length c, .int .i64 cut, .int .u8 more] w fun e w' => e = .returned (.bool true) ∧ Below w.heap.size w w' := by
  have hcb : -9223372036854775808 ≤ cut ∧ cut ≤ 9223372036854775807 := i64_of hcut
  obtain ⟨mb, rfl⟩ : ∃ mb : UInt8, more = (mb.toNat : Int) := ⟨UInt8.ofNat more.toNat, byte_of hmore⟩
  clear hcut hmore
  have HG := Lib.hid hg
  have HL1 := Lib.hid oneL_enc
  clear hg
  go_enter Tryd.func4, Tryd.ntmps4
  go_wp2_with fail
  refine (encode_ok _ oneL 1 (by simp [oneL, maxLen]) oneL_small oneL_ok _ (rd_newC w oneL _ _ w.heap.size rfl rfl)).mono ?_
  rintro e w1 ⟨v1, rfl, ho1, hb1⟩
  simp only [World.size_alloc] at hb1
  have hbw1 : Below w.heap.size w w1 := ((Below.refl _ _).alloc (Nat.le_refl _) (.cells #[strV [107], strV [118], .bool false] 40)).trans (hb1.mono (by simp))
  obtain ⟨A1, c1, rfl, _, hr1⟩ := own_form2 ho1
  rw [HL1.out] at hr1
  have hcv := run_str (P := Tryd.prog) (w := w1) 23 9 5 Tryd.underlying23 Tryd.underlying5 Tryd.underlying9 c1 hr1 (m := 5) (by rfl)
  rw [HL1.out]
  clear ho1 hb1 hr1
  have hs1 := hbw1.size
  go_wp2_with fail
  by_cases hf : chgFault l = 0
  · refine (encode_ok A l c hm hS hf w1 ((hl.below hbw1).more hs1)).mono ?_
    rintro e w2 ⟨v2, rfl, ho2, hb2⟩
    obtain ⟨A2, c2, rfl, hc2, hr2⟩ := own_form2 ho2
    have hbw2 := hbw1.trans (hb2.mono hs1)
    have hs2 := hb2.size
    obtain ⟨hl1, hl2⟩ := encL_length hf
    have hE := Lib.hid (decL_encL hf)
    have hM := Lib.hid (decL_more hf mb)
    clear ho2 hb2 hcv
    go_wp2_with fail
    refine (decode_ok A2 (encL l) _ c2 rfl (by unfold maxLen; omega) hc2 hE.out w2 hr2).mono ?_
    rintro e w3 ⟨v3, rfl, ho3, hb3⟩
    obtain ⟨A3, c3, rfl, _, hr3⟩ := own_form2 ho3
    have hbw3 := hbw2.trans (hb3.mono (by omega))
    have hs3 := hb3.size
    have hr23 := (hr2.below hb3).more hs3
    clear ho3 hr2
    go_wp2_with fail
    refine (changes_same A3 A l c3 c hm w3 hr3 ((hl.below hbw3).more (by omega))).mono ?_
    rintro e w4 ⟨rfl, hb4⟩
    have hbw4 := hbw3.trans (hb4.mono (by omega))
    have hs4 := hb4.size
    have hr24 := (hr23.below hb4).more hs4
    clear hr23 hr3 hb3
    go_wp2_with fail
    refine (pick_any cut (encL l).length hcb (by omega) (by unfold maxLen; omega) w4).mono ?_
    rintro e w4' ⟨k, hk, rfl, rfl⟩
    have hkc : (k : Int) ≤ (c2 : Int) := by omega
    have hk0 : (0 : Int) ≤ (k : Int) := by omega
    have hC := Lib.hid (decL_cut hf hk)
    go_wp2_with fail
    refine (decode_bad A2 ((encL l).take k) _ c2 (by simp; omega) (by simp; unfold maxLen; omega) (by simp; omega) hC.out w4' (hr24.bytesTake k)).mono ?_
    rintro e w5 ⟨rfl, hb5⟩
    have hbw5 := hbw4.trans (hb5.mono (by omega))
    have hs5 := hb5.size
    have hr25 := (hr24.below hb5).more hs5
    clear hr24 hb4 hb5
    go_wp2_with fail
    refine (error_same 5 (by decide) w5 (HG.out.below hbw5)).mono ?_
    rintro e w6 ⟨rfl, hb6⟩
    have hbw6 := hbw5.trans (hb6.mono (by omega))
    have hs6 := hb6.size
    have hr26 := (hr25.below hb6).more hs6
    clear hr25 hb6
    go_wp2_with (at_builtin; first | (refine wpList_append_rd rfl _ _ 23 rfl 5 Tryd.underlying23 _ 1 1 infoU8 rfl (by decide) w6.heap.size _ 0 [] rfl (World.ownsRow_nil _ _ _ _) w6.heap.size A2 (encL l).length c2 (bytesV (encL l)) rfl (by rw [bytesV_length]; omega) hr26 (bytesV_one _) (by unfold maxLen; omega) (by omega) (Nat.le_refl _) ?_; intro v7 w7 hown7 hb7; have hs7 := hb7.size) | (refine wpList_append_one rfl _ _ 23 rfl Tryd.underlying23 _ 1 infoU8 rfl (by decide) w6.heap.size v7 _ _ rfl hown7 rfl rfl (by omega) hs7 ?_; intro v8 w8 hown8 hb8; obtain ⟨A8, c8, rfl, hc8, hr8⟩ := own_form2 hown8))
    have hbw8 := hbw6.trans ((hb7.trans hb8).mono (by omega))
    have hs8 := hb8.size
    have hr8' : Rd w8 w8.heap.size A8 (bytesV (encL l ++ [mb])) := by rw [bytesV_append]; exact hr8
    clear hown7 hown8 hr8 hr26 hb7 hb8
    refine (decode_bad A8 (encL l ++ [mb]) _ c8 (by simp) (by simp; unfold maxLen; omega) (by simp; omega) hM.out w8 hr8').mono ?_
    rintro e w9 ⟨rfl, hb9⟩
    have hbw9 := hbw8.trans (hb9.mono (by omega))
    clear hb9 hr8'
    go_wp2_with fail
    refine (error_same 5 (by decide) w9 (HG.out.below hbw9)).mono ?_
    rintro e w10 ⟨rfl, hb10⟩
    have hbw10 := hbw9.trans (hb10.mono (by have := hbw9.size; omega))
    go_wp2
    go_ret
    exact ⟨rfl, hbw10⟩
  · refine (encode_bad A l c hm hS hf w1 ((hl.below hbw1).more hs1)).mono ?_
    rintro e w2 ⟨rfl, hb2⟩
    have hbw2 := hbw1.trans (hb2.mono hs1)
    clear hb2
    go_wp2
    go_ret
    exact ⟨rfl, hbw2⟩
end Go.Proofs.YtcgpfepnmiopcaaDoor
