/- span.Union, Meet, Minus. Any two lists. -/
import Derived.Test.YtmfaknngophmhaaDoorConcat
namespace Go.Proofs.YtmfaknngophmhaaDoor
set_option linter.unusedVariables false
set_option linter.unusedSimpArgs false
open Go.RowKit

theorem two_bad (A B : Option Addr) (a b : List Sp) (c d : Nat) (ha : a.length ≤ maxLen) (hb : b.length ≤ maxLen) (hf : twoFault a b ≠ 0) (w : World) (hl : Rd w w.heap.size A (cellsP a)) (hr : Rd w w.heap.size B (cellsP b)) :
    Calls Tryd.prog 53 #[.slice A a.length c, .slice B b.length d] w fun e w' => e = .returned (.iface 23 (.int .i64 (twoFault a b))) ∧ Below w.heap.size w w' :=
  (two_any A B a b c d ha hb w hl hr).mono fun e w' h => ⟨by rw [h.1]; unfold FaultS; rw [if_neg hf], h.2⟩
theorem two_ok (A B : Option Addr) (a b : List Sp) (c d : Nat) (ha : a.length ≤ maxLen) (hb : b.length ≤ maxLen) (hf : twoFault a b = 0) (w : World) (hl : Rd w w.heap.size A (cellsP a)) (hr : Rd w w.heap.size B (cellsP b)) :
    Calls Tryd.prog 53 #[.slice A a.length c, .slice B b.length d] w fun e w' => e = .returned .nilIface ∧ Below w.heap.size w w' :=
  (two_any A B a b c d ha hb w hl hr).mono fun e w' h => ⟨by rw [h.1, hf]; rfl, h.2⟩
def opFault (a b R : List Sp) : Int := if twoFault a b ≠ 0 then twoFault a b else if 64 < R.length then 3 else 0
theorem opFault_two {a b R : List Sp} (h : twoFault a b ≠ 0) : opFault a b R = twoFault a b := by unfold opFault; rw [if_pos h]
theorem opFault_full {a b R : List Sp} (h : twoFault a b = 0) (hR : 64 < R.length) : opFault a b R = 3 := by unfold opFault; rw [if_neg (by simp [h]), if_pos hR]
theorem opFault_zero {a b R : List Sp} (h : opFault a b R = 0) : setFault a = 0 ∧ setFault b = 0 ∧ R.length ≤ 64 := by
  unfold opFault at h
  split at h
  · rename_i h1; exact absurd h h1
  · rename_i h1
    split at h
    · cases h
    · have := twoFault_zero.1 (by simpa using h1)
      exact ⟨this.1, this.2, by omega⟩
theorem opFault_of {a b R : List Sp} (ha : setFault a = 0) (hb : setFault b = 0) (hR : R.length ≤ 64) : opFault a b R = 0 := by
  unfold opFault
  rw [if_neg (by rw [twoFault_zero.2 ⟨ha, hb⟩]; simp), if_neg (by omega)]
def SetRes (w : World) (f : Int) (R : List Sp) (e : Ending) (w' : World) : Prop := Below w.heap.size w w' ∧ (f = 0 → ∃ v, e = .returned (.tuple #[v, .nilIface]) ∧ OwnP w' w.heap.size 26 v R) ∧
  (f ≠ 0 → e = .returned (.tuple #[.slice none 0 0, .iface 23 (.int .i64 f)]))
theorem SetRes.bad {w w' : World} {R : List Sp} {f n : Int} (h : f = n) (hn : n ≠ 0) (hb : Below w.heap.size w w') : SetRes w f R (.returned (.tuple #[.slice none 0 0, .iface 23 (.int .i64 n)])) w' :=
  ⟨hb, fun h0 => absurd (h.symm.trans h0) hn, fun _ => by rw [h]⟩
theorem valid_append {a b : List Sp} (ha : Valid a) (hb : Valid b) : Valid (a ++ b) := fun s hs => (List.mem_append.1 hs).elim (ha s) (hb s)

set_option maxRecDepth 100000 in
set_option maxHeartbeats 1600000 in
theorem union_all (A B : Option Addr) (a b : List Sp) (c d : Nat) (ha : a.length ≤ maxLen) (hb : b.length ≤ maxLen) (w : World) (hl : Rd w w.heap.size A (cellsP a)) (hr : Rd w w.heap.size B (cellsP b)) :
    Calls Tryd.prog 17 #[.slice A a.length c, .slice B b.length d] w (SetRes w (opFault a b (norm (a ++ b))) (norm (a ++ b))) := by
  by_cases hf : twoFault a b = 0
  · have HT := Lib.hid hf
    obtain ⟨ga, gb⟩ := twoFault_zero.1 hf
    have GA := Lib.hid ga
    have GB := Lib.hid gb
    have la := (set_good ga).1
    have lb := (set_good gb).1
    clear hf ga gb
    go_enter Tryd.func17, Tryd.ntmps17
    go_wp2_with fail
    refine (two_ok A B a b c d ha hb HT.out w hl hr).mono ?_
    rintro e w1 ⟨rfl, hb1⟩
    have hs1 := hb1.size
    have hl1 := hl.below hb1
    have hr1 := hr.below hb1
    clear hl hr
    go_wp2_with fail
    have hB2 := Blk.new w1 22 #[.slice A a.length c, .slice B b.length d]
    have hb2 := hb1.alloc hs1 (.cells #[.slice A a.length c, .slice B b.length d] 22)
    have hs2 := hb2.size
    refine (concat_any A B a b c d w1.heap.size (by omega) (by omega) _ hB2 ((hl1.alloc hs1 _).more hs2) ((hr1.alloc hs1 _).more hs2)).mono ?_
    rintro e w3 ⟨v3, rfl, hown3, hb3⟩
    obtain ⟨A3, c3, rfl, hr3⟩ := hown3.form
    have hb4 := hb2.trans (hb3.mono hs2)
    have hs4 := hb4.size
    have hlen : (a ++ b).length ≤ 128 := by simp; omega
    have VL := Lib.hid (valid_append (set_good GA.out).2.1 (set_good GB.out).2.1)
    have hmg := fun W h => merge_any A3 (a ++ b) c3 VL.out (by omega) W h
    rw [List.length_append] at hmg
    have HMG := Lib.hid hmg
    clear hmg hown3 hlen
    go_wp2_with fail
    refine (HMG.out _ hr3).mono ?_
    rintro e w5 ⟨v5, rfl, hown5, hb5⟩
    have hownR := own_of_base hown5 hs4
    have hbR := hb4.trans (hb5.mono hs4)
    change OwnP w5 w.heap.size 26 v5 _ at hownR
    clear hown5
    obtain ⟨U, hU⟩ : ∃ U, U = norm (a ++ b) := ⟨_, rfl⟩
    rw [← hU] at hownR
    have HU := Lib.hid hU
    obtain ⟨AU, cU, rfl, hrU⟩ := hownR.form
    clear hU
    by_cases h64 : U.length ≤ 64
    · go_wp2_with fail
      refine (fit_ok AU U.length cU h64 _).mono ?_
      rintro e w9 ⟨rfl, rfl⟩
      go_wp2
      go_ret2
      exact ⟨hbR, fun _ => ⟨_, rfl, HU.out ▸ hownR⟩, fun h => absurd (opFault_of GA.out GB.out (by rw [← HU.out]; exact h64)) h⟩
    · go_wp2_with fail
      refine (fit_full AU U.length cU (by omega) _).mono ?_
      rintro e w9 ⟨rfl, rfl⟩
      go_wp2
      go_ret2
      exact SetRes.bad (opFault_full HT.out (by rw [← HU.out]; omega)) (by decide) hbR
  · have HT := Lib.hid hf
    clear hf
    go_enter Tryd.func17, Tryd.ntmps17
    go_wp2_with fail
    refine (two_bad A B a b c d ha hb HT.out w hl hr).mono ?_
    rintro e w1 ⟨rfl, hb1⟩
    go_wp2
    go_ret2
    exact SetRes.bad (opFault_two HT.out) HT.out hb1

set_option maxRecDepth 100000 in
set_option maxHeartbeats 1600000 in
theorem meet_all (A B : Option Addr) (a b : List Sp) (c d : Nat) (ha : a.length ≤ maxLen) (hb : b.length ≤ maxLen) (w : World) (hl : Rd w w.heap.size A (cellsP a)) (hr : Rd w w.heap.size B (cellsP b)) :
    Calls Tryd.prog 18 #[.slice A a.length c, .slice B b.length d] w (SetRes w (opFault a b (common a b)) (common a b)) := by
  by_cases hf : twoFault a b = 0
  · have HT := Lib.hid hf
    obtain ⟨ga, gb⟩ := twoFault_zero.1 hf
    have GA := Lib.hid ga
    have GB := Lib.hid gb
    have la := (set_good ga).1
    have lb := (set_good gb).1
    clear hf ga gb
    go_enter Tryd.func18, Tryd.ntmps18
    go_wp2_with fail
    refine (two_ok A B a b c d ha hb HT.out w hl hr).mono ?_
    rintro e w1 ⟨rfl, hb1⟩
    have hs1 := hb1.size
    have hl1 := hl.below hb1
    have hr1 := hr.below hb1
    clear hl hr
    go_wp2_with fail
    refine (common_any A B a b c d (by omega) (by omega) _ (hl1.more hs1) (hr1.more hs1)).mono ?_
    rintro e w2 ⟨v2, rfl, hown2, hb2⟩
    have hownR := own_of_base hown2 hs1
    have hbR := hb1.trans (hb2.mono hs1)
    change OwnP w2 w.heap.size 26 v2 _ at hownR
    clear hown2
    obtain ⟨U, hU⟩ : ∃ U, U = common a b := ⟨_, rfl⟩
    rw [← hU] at hownR
    have HU := Lib.hid hU
    obtain ⟨AU, cU, rfl, hrU⟩ := hownR.form
    clear hU
    by_cases h64 : U.length ≤ 64
    · go_wp2_with fail
      refine (fit_ok AU U.length cU h64 _).mono ?_
      rintro e w9 ⟨rfl, rfl⟩
      go_wp2
      go_ret2
      exact ⟨hbR, fun _ => ⟨_, rfl, HU.out ▸ hownR⟩, fun h => absurd (opFault_of GA.out GB.out (by rw [← HU.out]; exact h64)) h⟩
    · go_wp2_with fail
      refine (fit_full AU U.length cU (by omega) _).mono ?_
      rintro e w9 ⟨rfl, rfl⟩
      go_wp2
      go_ret2
      exact SetRes.bad (opFault_full HT.out (by rw [← HU.out]; omega)) (by decide) hbR
  · have HT := Lib.hid hf
    clear hf
    go_enter Tryd.func18, Tryd.ntmps18
    go_wp2_with fail
    refine (two_bad A B a b c d ha hb HT.out w hl hr).mono ?_
    rintro e w1 ⟨rfl, hb1⟩
    go_wp2
    go_ret2
    exact SetRes.bad (opFault_two HT.out) HT.out hb1

set_option maxRecDepth 100000 in
set_option maxHeartbeats 1600000 in
theorem minus_all (A B : Option Addr) (a b : List Sp) (c d : Nat) (ha : a.length ≤ maxLen) (hb : b.length ≤ maxLen) (w : World) (hl : Rd w w.heap.size A (cellsP a)) (hr : Rd w w.heap.size B (cellsP b)) :
    Calls Tryd.prog 19 #[.slice A a.length c, .slice B b.length d] w (SetRes w (opFault a b (common a (others b))) (common a (others b))) := by
  by_cases hf : twoFault a b = 0
  · have HT := Lib.hid hf
    obtain ⟨ga, gb⟩ := twoFault_zero.1 hf
    have GA := Lib.hid ga
    have GB := Lib.hid gb
    have la := (set_good ga).1
    have lb := (set_good gb).1
    clear hf ga gb
    go_enter Tryd.func19, Tryd.ntmps19
    go_wp2_with fail
    refine (two_ok A B a b c d ha hb HT.out w hl hr).mono ?_
    rintro e w1 ⟨rfl, hb1⟩
    have hs1 := hb1.size
    have hl1 := hl.below hb1
    have hr1 := hr.below hb1
    clear hl hr
    have VB := Lib.hid (set_good GB.out).2.1
    go_wp2_with fail
    refine (others_any B b d (by omega) VB.out _ (hr1.more hs1)).mono ?_
    rintro e w2 ⟨v2, rfl, hown2, hb2⟩
    obtain ⟨O, hO⟩ : ∃ O, O = others b := ⟨_, rfl⟩
    have HO := Lib.hid hO
    have lo : O.length ≤ 65 := by rw [hO]; have := othersGo_length b 0; unfold others; omega
    rw [← hO] at hown2 ⊢
    clear hO
    obtain ⟨A2, c2, rfl, hr2⟩ := hown2.form
    have hb3 := hb1.trans (hb2.mono hs1)
    have hs3 := hb3.size
    have hl3 := hl1.below (hb2.mono hs1)
    clear hown2 hl1 hr1
    go_wp2_with fail
    refine (common_any A A2 a O c c2 (by omega) (by omega) _ (hl3.more hs3) hr2).mono ?_
    rintro e w4 ⟨v4, rfl, hown4, hb4⟩
    have hownR := own_of_base hown4 hs3
    have hbR := hb3.trans (hb4.mono hs3)
    change OwnP w4 w.heap.size 26 v4 _ at hownR
    clear hown4
    obtain ⟨U, hU⟩ : ∃ U, U = common a O := ⟨_, rfl⟩
    rw [← hU] at hownR
    have HU := Lib.hid hU
    obtain ⟨AU, cU, rfl, hrU⟩ := hownR.form
    clear hU
    by_cases h64 : U.length ≤ 64
    · go_wp2_with fail
      refine (fit_ok AU U.length cU h64 _).mono ?_
      rintro e w9 ⟨rfl, rfl⟩
      go_wp2
      go_ret2
      exact ⟨hbR, fun _ => ⟨_, rfl, by rw [← HO.out, ← HU.out]; exact hownR⟩, fun h => absurd (opFault_of GA.out GB.out (by rw [← HO.out, ← HU.out]; exact h64)) h⟩
    · go_wp2_with fail
      refine (fit_full AU U.length cU (by omega) _).mono ?_
      rintro e w9 ⟨rfl, rfl⟩
      go_wp2
      go_ret2
      exact SetRes.bad (opFault_full HT.out (by rw [← HO.out, ← HU.out]; omega)) (by decide) hbR
  · have HT := Lib.hid hf
    clear hf
    go_enter Tryd.func19, Tryd.ntmps19
    go_wp2_with fail
    refine (two_bad A B a b c d ha hb HT.out w hl hr).mono ?_
    rintro e w1 ⟨rfl, hb1⟩
    go_wp2
    go_ret2
    exact SetRes.bad (opFault_two HT.out) HT.out hb1
end Go.Proofs.YtmfaknngophmhaaDoor
