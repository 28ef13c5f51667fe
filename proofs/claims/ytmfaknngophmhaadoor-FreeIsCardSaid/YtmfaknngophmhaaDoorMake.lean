/- span.Make, burgagesame.Spans. Any lists. -/
import Derived.Test.YtmfaknngophmhaaDoorMerge
namespace Go.Proofs.YtmfaknngophmhaaDoor
set_option linter.unusedVariables false
set_option linter.unusedSimpArgs false
open Go.RowKit

theorem firstFault_step (l : List Sp) (k : Nat) (h : k < l.length) : firstFault (l.drop k) = if spanFault l[k] ≠ 0 then spanFault l[k] else firstFault (l.drop (k + 1)) := by
  rw [List.drop_eq_getElem_cons h, firstFault]
theorem makeFault_of {l : List Sp} {k : Nat} (h64 : l.length ≤ 64) (h : k < l.length) (hg : firstFault l = firstFault (l.drop k)) {n : Int} (hf : spanFault l[k] = n) (hn : n ≠ 0) : makeFault l = n := by
  unfold makeFault
  rw [if_neg (by omega), hg, firstFault_step l k h, hf, if_pos hn]
theorem firstFault_next {l : List Sp} {k : Nat} (h : k < l.length) (hg : firstFault l = firstFault (l.drop k)) (hf : spanFault l[k] = 0) : firstFault l = firstFault (l.drop (k + 1)) := by
  rw [hg, firstFault_step l k h, hf, if_neg (by simp)]
theorem makeFault_end {l : List Sp} (h64 : l.length ≤ 64) (hg : firstFault l = firstFault (l.drop l.length)) : makeFault l = 0 ∧ Valid l := by
  rw [List.drop_length] at hg
  refine ⟨?_, firstFault_zero.1 hg⟩
  unfold makeFault
  rw [if_neg (by omega), hg]
  rfl

def MakeRes (w : World) (l : List Sp) (e : Ending) (w' : World) : Prop := Below w.heap.size w w' ∧ (makeFault l = 0 → ∃ v, e = .returned (.tuple #[v, .nilIface]) ∧ OwnP w' w.heap.size 26 v (norm l)) ∧
  (makeFault l ≠ 0 → e = .returned (.tuple #[.slice none 0 0, .iface 23 (.int .i64 (makeFault l))]))
theorem MakeRes.bad {w w' : World} {l : List Sp} {n : Int} (h : makeFault l = n) (hn : n ≠ 0) (hb : Below w.heap.size w w') : MakeRes w l (.returned (.tuple #[.slice none 0 0, .iface 23 (.int .i64 n)])) w' :=
  ⟨hb, fun h0 => absurd (h.symm.trans h0) hn, fun _ => by rw [h]⟩

set_option maxRecDepth 100000 in
set_option maxHeartbeats 1600000 in
theorem make_all (A : Option Addr) (l : List Sp) (c : Nat) (hm : l.length ≤ maxLen) (w : World) (hl : Rd w w.heap.size A (cellsP l)) :
    Calls Tryd.prog 9 #[.slice A l.length c] w (MakeRes w l) := by
  unfold maxLen at hm
  by_cases h64 : l.length ≤ 64
  · go_enter Tryd.func9, Tryd.ntmps9
    go_wp2
    go_loopw [5, 12] (fun _ vi wr => ∃ k : Nat, k ≤ l.length ∧ vi = .int .i64 k ∧ Below w.heap.size w wr ∧ firstFault l = firstFault (l.drop k)) (fun _ vi _ => l.length - (intOf vi).toNat)
    case atStart => exact ⟨0, Nat.zero_le _, rfl, Below.refl _ _, rfl⟩
    case round =>
      obtain ⟨k, hk, rfl, hb, hg⟩ := hrel
      by_cases hlt : k < l.length
      · obtain ⟨b, off, rfl, hbb, c0, c1⟩ := (hl.below hb).pair hlt
        have hs := hb.size
        have hb2 := hb.alloc hs (.cells #[.int .i64 l[k].1, .int .i64 l[k].2] 26)
        by_cases h1 : isA l[k].1 = true
        · by_cases h2 : isA l[k].2 = true
          · have r1 := isA_true.1 h1
            have r2 := isA_true.1 h2
            by_cases h3 : l[k].2 < l[k].1
            · have HF := Lib.hid (makeFault_of (n := 2) h64 hlt hg (by unfold spanFault; rw [if_neg (by simp [h1, h2]), if_pos h3]) (by decide))
              clear hg
              go_wp2_with (go_at_call 48; refine (is_any _ _).mono ?_; rintro e w' ⟨rfl, rfl⟩)
              go_ret2
              exact MakeRes.bad HF.out (by decide) hb2
            · have HN := Lib.hid (firstFault_next hlt hg (by unfold spanFault; rw [if_neg (by simp [h1, h2]), if_neg h3]))
              have h3' : decide (l[k].2 < l[k].1) = false := by simpa using h3
              clear hg
              go_wp2_with (go_at_call 48; refine (is_any _ _).mono ?_; rintro e w' ⟨rfl, rfl⟩)
              go_roundw
              case rel => exact ⟨k + 1, by omega, by go_num, hb2, HN.out⟩
              case measure => simp [intOf]; omega
          · have h2' : isA l[k].2 = false := by simpa using h2
            have HF := Lib.hid (makeFault_of (n := 1) h64 hlt hg (by unfold spanFault; rw [if_pos (.inr h2')]) (by decide))
            clear hg h2
            go_wp2_with (go_at_call 48; refine (is_any _ _).mono ?_; rintro e w' ⟨rfl, rfl⟩)
            go_ret2
            exact MakeRes.bad HF.out (by decide) hb2
        · have h1' : isA l[k].1 = false := by simpa using h1
          have HF := Lib.hid (makeFault_of (n := 1) h64 hlt hg (by unfold spanFault; rw [if_pos (.inl h1')]) (by decide))
          clear hg h1
          go_wp2_with (go_at_call 48; refine (is_any _ _).mono ?_; rintro e w' ⟨rfl, rfl⟩)
          go_ret2
          exact MakeRes.bad HF.out (by decide) hb2
      · obtain rfl : k = l.length := by omega
        obtain ⟨g0, g1⟩ := makeFault_end h64 hg
        have G0 := Lib.hid g0
        have G1 := Lib.hid g1
        clear hg g0 g1
        go_wp2_with fail
        refine (merge_any A l c G1.out (by omega) wr ((hl.below hb).more hb.size)).mono ?_
        rintro e w1 ⟨v, rfl, hown, hb1⟩
        have hs := hb.size
        go_wp2
        go_ret2
        exact ⟨hb.trans (hb1.mono hs), fun _ => ⟨_, rfl, own_of_base hown hs⟩, fun h => absurd G0.out h⟩
  · have HF : makeFault l = 3 := by unfold makeFault; rw [if_pos (by omega)]
    have HF := Lib.hid HF
    go_enter Tryd.func9, Tryd.ntmps9
    go_wp2
    go_ret2
    exact MakeRes.bad HF.out (by decide) (Below.refl _ _)

theorem make_bad (A : Option Addr) (l : List Sp) (c : Nat) (hm : l.length ≤ maxLen) (hf : makeFault l ≠ 0) (w : World) (hl : Rd w w.heap.size A (cellsP l)) :
    Calls Tryd.prog 9 #[.slice A l.length c] w fun e w' => e = .returned (.tuple #[.slice none 0 0, .iface 23 (.int .i64 (makeFault l))]) ∧ Below w.heap.size w w' :=
  (make_all A l c hm w hl).mono fun _ _ h => ⟨h.2.2 hf, h.1⟩
theorem make_ok (A : Option Addr) (l : List Sp) (c : Nat) (hm : l.length ≤ maxLen) (hf : makeFault l = 0) (w : World) (hl : Rd w w.heap.size A (cellsP l)) :
    Calls Tryd.prog 9 #[.slice A l.length c] w fun e w' => ∃ v, e = .returned (.tuple #[v, .nilIface]) ∧ OwnP w' w.heap.size 26 v (norm l) ∧ Below w.heap.size w w' :=
  (make_all A l c hm w hl).mono fun _ _ h => by
    obtain ⟨v, h1, h2⟩ := h.2.1 hf
    exact ⟨v, h1, h2, h.1⟩

/- burgagesame.Spans -/
theorem eq_step {a b : List Sp} {k : Nat} (ha : k < a.length) (hb : k < b.length) (h : a.take k = b.take k) (h1 : a[k].1 = b[k].1) (h2 : a[k].2 = b[k].2) : a.take (k + 1) = b.take (k + 1) := by
  rw [List.take_succ_eq_append_getElem ha, List.take_succ_eq_append_getElem hb, h, show a[k] = b[k] from Prod.ext h1 h2]
set_option maxRecDepth 100000 in
set_option maxHeartbeats 1600000 in
theorem spans_any (A B : Option Addr) (a b : List Sp) (c d : Nat) (hm : a.length ≤ maxLen) (w : World) (hl : Rd w w.heap.size A (cellsP a)) (hr : Rd w w.heap.size B (cellsP b)) :
    Calls Tryd.prog 11 #[.slice A a.length c, .slice B b.length d] w fun e w' => e = .returned (.bool (decide (a = b))) ∧ Below w.heap.size w w' := by
  unfold maxLen at hm
  by_cases hn : a.length = b.length
  · go_enter Tryd.func11, Tryd.ntmps11
    have HN := Lib.hid hn
    rw [← hn]
    clear hn
    go_wp2
    go_loopw [5] (fun vi wr => ∃ k : Nat, k ≤ a.length ∧ vi = .int .i64 k ∧ Below w.heap.size w wr ∧ a.take k = b.take k) (fun vi _ => a.length - (intOf vi).toNat)
    case atStart => exact ⟨0, Nat.zero_le _, rfl, Below.refl _ _, rfl⟩
    case round =>
      obtain ⟨k, hk, rfl, hb, hg⟩ := hrel
      by_cases hlt : k < a.length
      · have hltb : k < b.length := by rw [← HN.out]; exact hlt
        obtain ⟨ba, oa, rfl, hba, c0, c1⟩ := (hl.below hb).pair hlt
        obtain ⟨bb, ob, rfl, hbb, d0, d1⟩ := (hr.below hb).pair hltb
        have hs := hb.size
        have k0 : ∀ x : BelW wr.heap.size wr, x.1.cell? ⟨ba, oa + k * 2, none⟩ = some (.int .i64 a[k].1) := BelW.cell c0 (by simp; omega)
        have k1 : ∀ x : BelW wr.heap.size wr, x.1.cell? ⟨ba, oa + k * 2 + 1, none⟩ = some (.int .i64 a[k].2) := BelW.cell c1 (by simp; omega)
        have k2 : ∀ x : BelW wr.heap.size wr, x.1.cell? ⟨bb, ob + k * 2, none⟩ = some (.int .i64 b[k].1) := BelW.cell d0 (by simp; omega)
        have k3 : ∀ x : BelW wr.heap.size wr, x.1.cell? ⟨bb, ob + k * 2 + 1, none⟩ = some (.int .i64 b[k].2) := BelW.cell d1 (by simp; omega)
        clear c0 c1 d0 d1
        by_cases h1 : a[k].1 = b[k].1
        · by_cases h2 : a[k].2 = b[k].2
          · have HG := Lib.hid (eq_step hlt hltb hg h1 h2)
            clear hg
            have e1 : (a[k].1 != b[k].1) = false := by simpa using h1
            have e2 : (a[k].2 != b[k].2) = false := by simpa using h2
            clear h1 h2
            go_wp2_with fail
            refine wp_region_bel wr.heap.size wr (by kernel_rfl) (by kernel_rfl) (Below.refl _ _) ?_
            repeat (go_big_quiet_step (fail))
            refine wpQuiet_nil ?_
            intro w2 hb2
            clear k0 k1 k2 k3
            go_wp2
            go_roundw
            case rel => exact ⟨k + 1, by omega, by go_num, hb.trans (hb2.mono hs), HG.out⟩
            case measure => simp [intOf]; omega
          · have HNE := Lib.hid (show ¬ a = b from fun e => h2 (by subst e; rfl))
            have e1 : (a[k].1 != b[k].1) = false := by simpa using h1
            have e2 : (a[k].2 != b[k].2) = true := by simpa using h2
            clear hg h1 h2
            go_wp2_with fail
            refine wp_region_bel wr.heap.size wr (by kernel_rfl) (by kernel_rfl) (Below.refl _ _) ?_
            repeat (go_big_quiet_step (fail))
            refine wpQuiet_nil ?_
            intro w2 hb2
            clear k0 k1 k2 k3
            go_wp2
            go_ret
            exact ⟨by rw [decide_eq_false HNE.out]; rfl, hb.trans (hb2.mono hs)⟩
        · have HNE := Lib.hid (show ¬ a = b from fun e => h1 (by subst e; rfl))
          have e1 : (a[k].1 != b[k].1) = true := by simpa using h1
          clear hg h1
          go_wp2_with fail
          refine wp_region_bel wr.heap.size wr (by kernel_rfl) (by kernel_rfl) (Below.refl _ _) ?_
          repeat (go_big_quiet_step (fail))
          refine wpQuiet_nil ?_
          intro w2 hb2
          clear k0 k1 k2 k3
          go_wp2
          go_ret
          exact ⟨by rw [decide_eq_false HNE.out]; rfl, hb.trans (hb2.mono hs)⟩
      · obtain rfl : k = a.length := by omega
        have HE := Lib.hid (show a = b by rw [List.take_length, HN.out, List.take_length] at hg; exact hg)
        clear hg
        go_wp2
        go_ret
        exact ⟨by rw [decide_eq_true HE.out]; rfl, hb⟩
  · have HNE := Lib.hid (show ¬ a = b from fun e => hn (by rw [e]))
    have hnb : ((a.length : Int) != (b.length : Int)) = true := by simp; omega
    clear hn
    go_enter Tryd.func11, Tryd.ntmps11
    go_wp2
    go_ret
    exact ⟨by rw [decide_eq_false HNE.out]; rfl, Below.refl _ _⟩
end Go.Proofs.YtmfaknngophmhaaDoor
