/- The law CodeReads: the walk of its own text, by the contracts of package code and of its references. Any changes, any bytes. Condition: errors.errorType is laid. -/
import Derived.Test.YtcgpfepnmiopcaaDoorRefCode3
import Derived.Test.YtcgpfepnmiopcaaDoorSameC
import Derived.Test.YtcgpfepnmiopcaaDoorErrLaw
import Derived.Test.YtcgpfepnmiopcaaDoorCut
namespace Go.Proofs.YtcgpfepnmiopcaaDoor
set_option linter.unusedVariables false
set_option linter.unusedSimpArgs false
open Go.RowKit

theorem dec_len {b : List UInt8} {m : List Chg} (h : decL b = some m) : m.length ≤ 255 := by
  rcases b with _ | ⟨x, t⟩
  · cases h
  · simp only [decL] at h
    split at h
    · cases h
    · rename_i l s hd
      split at h
      · injection h with h
        subst h
        have := (decN_length _ _ _ _ hd).1
        have := x.toNat_lt
        omega
      · cases h

set_option maxRecDepth 100000 in
set_option maxHeartbeats 8000000 in
theorem codeReads_walk (A : Option Addr) (l : List Chg) (c : Nat) (hm : l.length ≤ maxLen) (hS : Small l) (B : Option Addr) (b : List UInt8) (d : Nat) (hmb : b.length ≤ maxLen) (hcb : b.length ≤ d) (w : World) (hg : ErrVar w) (hl : Rd w w.heap.size A (cellsC l)) (hlb : Rd w w.heap.size B (bytesV b)) :
    Calls Tryd.prog 3 #[.slice A l.length c, .slice B b.length d] w fun e w' => e = .returned (.bool true) ∧ Below w.heap.size w w' := by
  have HG := Lib.hid hg
  have hcn : ∀ w : World, (convert 23 9 (.slice none 0 0)).run Tryd.prog w = .ok (strV []) w := fun w => run_str (w := w) (B := 0) 23 9 5 Tryd.underlying23 Tryd.underlying5 Tryd.underlying9 (A := none) (l := []) 0 Rd.nil rfl
  clear hg
  go_enter Tryd.func3, Tryd.ntmps3
  go_wp2_with fail
  refine (changesFault_any A l c hm hS w hl).mono ?_
  rintro e w1 ⟨rfl, hbw1⟩
  have hs1 := hbw1.size
  go_wp2_with fail
  refine (check_any A l c hm hS w1 ((hl.below hbw1).more hs1)).mono ?_
  rintro e w2 ⟨rfl, hb2⟩
  have hbw2 := hbw1.trans (hb2.mono hs1)
  have hs2 := hbw2.size
  clear hb2
  by_cases hf : chgFault l = 0
  · have HE := Lib.hid (show errV (chgFault l) = .nilIface by unfold errV; rw [if_pos hf])
    have HF := Lib.hid hf
    clear hf
    rw [HE.out, HF.out]
    go_wp2_with fail
    refine (error_nil0 w2 (HG.out.below hbw2)).mono ?_
    rintro e w3 ⟨rfl, hb3⟩
    have hbw3 := hbw2.trans (hb3.mono hs2)
    have hs3 := hbw3.size
    clear hb3
    go_wp2_with fail
    refine (bytesOf_ok A l c HF.out w3 ((hl.below hbw3).more hs3)).mono ?_
    rintro e w4 ⟨v4, rfl, ho4, hb4⟩
    obtain ⟨A4, c4, rfl, hr4⟩ := own_form ho4
    have hcv4 := run_str (P := Tryd.prog) (w := w4) 23 9 5 Tryd.underlying23 Tryd.underlying5 Tryd.underlying9 c4 hr4 rfl
    have hbw4 := hbw3.trans (hb4.mono hs3)
    have hs4 := hbw4.size
    clear hb4 ho4 hr4
    go_wp2_with fail
    refine (encode_ok A l c hm hS HF.out w4 ((hl.below hbw4).more hs4)).mono ?_
    rintro e w5 ⟨v5, rfl, ho5, hb5⟩
    obtain ⟨A5, c5, rfl, hr5⟩ := own_form ho5
    have hbw5 := hbw4.trans (hb5.mono hs4)
    have hs5 := hbw5.size
    clear hcv4 hb5 ho5
    go_wp2_with fail
    refine (error_nil0 w5 (HG.out.below hbw5)).mono ?_
    rintro e w6 ⟨rfl, hb6⟩
    have hcv6 := run_str (P := Tryd.prog) (w := w6) 23 9 5 Tryd.underlying23 Tryd.underlying5 Tryd.underlying9 c5 (hr5.below hb6) rfl
    have hbw6 := hbw5.trans (hb6.mono hs5)
    clear hb6 hr5
    have hsz := hbw6.size
    go_wp2_with fail
    refine (changesOf_any B b d (by unfold maxLen at hmb; omega) hcb w6 ((hlb.below hbw6).more hsz)).mono ?_
    rintro e u1 ⟨hbu1, hres⟩
    have hbv1 := hbw6.trans (hbu1.mono hsz)
    have hsu1 := hbv1.size
    cases hd : decL b with
    | none =>
      rw [hd] at hres
      subst hres
      have hD := Lib.hid hd
      clear hd hbu1
      go_wp2_with fail
      refine (decode_bad B b _ d rfl hmb hcb hD.out u1 ((hlb.below hbv1).more hsu1)).mono ?_
      rintro e u2 ⟨rfl, hbu2⟩
      have hbv2 := hbv1.trans (hbu2.mono hsu1)
      clear hbu2
      go_wp2_with fail
      refine (error_same 5 (by decide) u2 (HG.out.below hbv2)).mono ?_
      rintro e u3 ⟨rfl, hbu3⟩
      have hbv3 := hbv2.trans (hbu3.mono hbv2.size)
      clear hbu3
      go_wp2_with fail
      refine (changes_same none none [] 0 0 (by simp) u3 Rd.nil Rd.nil).mono ?_
      rintro e u4 ⟨rfl, hbu4⟩
      have hbv4 := hbv3.trans (hbu4.mono hbv3.size)
      clear hbu4
      go_wp2
      go_ret
      exact ⟨rfl, hbv4⟩
    | some m =>
      rw [hd] at hres
      obtain ⟨v, rfl, hov⟩ := hres
      obtain ⟨Av, cv, rfl, hrv⟩ := own_form hov
      have hml := dec_len hd
      have hD := Lib.hid hd
      clear hd hbu1 hov
      go_wp2_with fail
      refine (decode_ok B b _ d rfl hmb hcb hD.out u1 ((hlb.below hbv1).more hsu1)).mono ?_
      rintro e u2 ⟨v2, rfl, ho2, hbu2⟩
      obtain ⟨Ay, cy, rfl, hry⟩ := own_form ho2
      have hbv2 := hbv1.trans (hbu2.mono hsu1)
      have hrv2 := (hrv.below hbu2).more hbu2.size
      clear hbu2 ho2 hrv
      go_wp2_with fail
      refine (error_nil0 u2 (HG.out.below hbv2)).mono ?_
      rintro e u3 ⟨rfl, hbu3⟩
      have hbv3 := hbv2.trans (hbu3.mono hbv2.size)
      have hrv3 := (hrv2.below hbu3).more hbu3.size
      have hry3 := (hry.below hbu3).more hbu3.size
      clear hbu3 hrv2 hry
      go_wp2_with fail
      refine (changes_same Ay Av m cy cv (by unfold maxLen; omega) u3 hry3 hrv3).mono ?_
      rintro e u4 ⟨rfl, hbu4⟩
      have hbv4 := hbv3.trans (hbu4.mono hbv3.size)
      clear hbu4
      go_wp2
      go_ret
      exact ⟨rfl, hbv4⟩
  · have HE := Lib.hid (show errV (chgFault l) = .iface 24 (.int .i64 (chgFault l)) by unfold errV; rw [if_neg hf])
    have hne : (chgFault l == 0) = false := by simpa using hf
    have HF := Lib.hid hf
    clear hf
    rw [HE.out]
    go_wp2_with fail
    refine (error_same (chgFault l) HF.out w2 (HG.out.below hbw2)).mono ?_
    rintro e w3 ⟨rfl, hb3⟩
    have hbw3 := hbw2.trans (hb3.mono hs2)
    have hs3 := hbw3.size
    clear hb3
    go_wp2_with fail
    refine (encode_bad A l c hm hS HF.out w3 ((hl.below hbw3).more hs3)).mono ?_
    rintro e w5 ⟨rfl, hb5⟩
    have hbw5 := hbw3.trans (hb5.mono hs3)
    have hs5 := hbw5.size
    clear hb5
    go_wp2_with fail
    refine (error_same (chgFault l) HF.out w5 (HG.out.below hbw5)).mono ?_
    rintro e w6 ⟨rfl, hb6⟩
    have hbw6 := hbw5.trans (hb6.mono hs5)
    clear hb6
    have hsz := hbw6.size
    go_wp2_with fail
    refine (changesOf_any B b d (by unfold maxLen at hmb; omega) hcb w6 ((hlb.below hbw6).more hsz)).mono ?_
    rintro e u1 ⟨hbu1, hres⟩
    have hbv1 := hbw6.trans (hbu1.mono hsz)
    have hsu1 := hbv1.size
    cases hd : decL b with
    | none =>
      rw [hd] at hres
      subst hres
      have hD := Lib.hid hd
      clear hd hbu1
      go_wp2_with fail
      refine (decode_bad B b _ d rfl hmb hcb hD.out u1 ((hlb.below hbv1).more hsu1)).mono ?_
      rintro e u2 ⟨rfl, hbu2⟩
      have hbv2 := hbv1.trans (hbu2.mono hsu1)
      clear hbu2
      go_wp2_with fail
      refine (error_same 5 (by decide) u2 (HG.out.below hbv2)).mono ?_
      rintro e u3 ⟨rfl, hbu3⟩
      have hbv3 := hbv2.trans (hbu3.mono hbv2.size)
      clear hbu3
      go_wp2_with fail
      refine (changes_same none none [] 0 0 (by simp) u3 Rd.nil Rd.nil).mono ?_
      rintro e u4 ⟨rfl, hbu4⟩
      have hbv4 := hbv3.trans (hbu4.mono hbv3.size)
      clear hbu4
      go_wp2
      go_ret
      exact ⟨rfl, hbv4⟩
    | some m =>
      rw [hd] at hres
      obtain ⟨v, rfl, hov⟩ := hres
      obtain ⟨Av, cv, rfl, hrv⟩ := own_form hov
      have hml := dec_len hd
      have hD := Lib.hid hd
      clear hd hbu1 hov
      go_wp2_with fail
      refine (decode_ok B b _ d rfl hmb hcb hD.out u1 ((hlb.below hbv1).more hsu1)).mono ?_
      rintro e u2 ⟨v2, rfl, ho2, hbu2⟩
      obtain ⟨Ay, cy, rfl, hry⟩ := own_form ho2
      have hbv2 := hbv1.trans (hbu2.mono hsu1)
      have hrv2 := (hrv.below hbu2).more hbu2.size
      clear hbu2 ho2 hrv
      go_wp2_with fail
      refine (error_nil0 u2 (HG.out.below hbv2)).mono ?_
      rintro e u3 ⟨rfl, hbu3⟩
      have hbv3 := hbv2.trans (hbu3.mono hbv2.size)
      have hrv3 := (hrv2.below hbu3).more hbu3.size
      have hry3 := (hry.below hbu3).more hbu3.size
      clear hbu3 hrv2 hry
      go_wp2_with fail
      refine (changes_same Ay Av m cy cv (by unfold maxLen; omega) u3 hry3 hrv3).mono ?_
      rintro e u4 ⟨rfl, hbu4⟩
      have hbv4 := hbv3.trans (hbu4.mono hbv3.size)
      clear hbu4
      go_wp2
      go_ret
      exact ⟨rfl, hbv4⟩
end Go.Proofs.YtcgpfepnmiopcaaDoor
