/- burgagesame.Prefixes: whether two lists are the same. Any two lists. -/
import Derived.Test.YtfeeilpkfjfnaaaDoorProg
import Derived.Test.YtfeeilpkfjfnaaaDoorKit
namespace Go.Proofs.YtfeeilpkfjfnaaaDoor
set_option linter.unusedVariables false
set_option linter.unusedSimpArgs false
open Go.RowKit

theorem eqP_step {a b : List (Int × Int)} {k : Nat} (ha : k < a.length) (hb : k < b.length) (h : a.take k = b.take k) (h1 : a[k].1 = b[k].1) (h2 : a[k].2 = b[k].2) : a.take (k + 1) = b.take (k + 1) := by
  rw [List.take_succ_eq_append_getElem ha, List.take_succ_eq_append_getElem hb, h, show a[k] = b[k] from Prod.ext h1 h2]
set_option maxRecDepth 100000 in
set_option maxHeartbeats 1600000 in
theorem prefixes_any (A B : Option Addr) (a b : List (Int × Int)) (c d : Nat) (hm : a.length ≤ maxLen) (w : World) (hl : Rd w w.heap.size A (cellsP a)) (hr : Rd w w.heap.size B (cellsP b)) :
    Calls Tryd.prog 11 #[.slice A a.length c, .slice B b.length d] w fun e w' => e = .returned (.bool (decide (a = b))) ∧ Below w.heap.size w w' := by
  unfold maxLen at hm
  by_cases hn : a.length = b.length
  · go_enter Tryd.func11, Tryd.ntmps11
    have HN := Lib.hid hn
    rw [← hn]
    clear hn
    go_wp2
    go_loopw [5] (fun vi wr => ∃ k : Nat, k ≤ a.length ∧ vi = .int .i64 k ∧ Below w.heap.size w wr ∧ a.take k = b.take k) (fun vi _ => a.length - (intOf vi).toNat)
    case atStart => exact ⟨0, Nat.zero_le _, rfl, Below.refl _ _, rfl⟩
    case round =>
      obtain ⟨k, hk, rfl, hb, hg⟩ := hrel
      by_cases hlt : k < a.length
      · have hltb : k < b.length := by rw [← HN.out]; exact hlt
        obtain ⟨ba, oa, rfl, hba, c0, c1⟩ := (hl.below hb).pair hlt
        obtain ⟨bb, ob, rfl, hbb, d0, d1⟩ := (hr.below hb).pair hltb
        have hs := hb.size
        have k0 : ∀ x : BelW wr.heap.size wr, x.1.cell? ⟨ba, oa + k * 2, none⟩ = some (.int .i64 a[k].1) := BelW.cell c0 (by simp; omega)
        have k1 : ∀ x : BelW wr.heap.size wr, x.1.cell? ⟨ba, oa + k * 2 + 1, none⟩ = some (.int .i64 a[k].2) := BelW.cell c1 (by simp; omega)
        have k2 : ∀ x : BelW wr.heap.size wr, x.1.cell? ⟨bb, ob + k * 2, none⟩ = some (.int .i64 b[k].1) := BelW.cell d0 (by simp; omega)
        have k3 : ∀ x : BelW wr.heap.size wr, x.1.cell? ⟨bb, ob + k * 2 + 1, none⟩ = some (.int .i64 b[k].2) := BelW.cell d1 (by simp; omega)
        clear c0 c1 d0 d1
        by_cases h1 : a[k].1 = b[k].1
        · by_cases h2 : a[k].2 = b[k].2
          · have HG := Lib.hid (eqP_step hlt hltb hg h1 h2)
            clear hg
            have e1 : (a[k].1 != b[k].1) = false := by simpa using h1
            have e2 : (a[k].2 != b[k].2) = false := by simpa using h2
            clear h1 h2
            go_wp2_with fail
            refine wp_region_bel wr.heap.size wr (by kernel_rfl) (by kernel_rfl) (Below.refl _ _) ?_
            repeat (go_big_quiet_step (fail))
            refine wpQuiet_nil ?_
            intro w2 hb2
            clear k0 k1 k2 k3
            go_wp2
            go_roundw
            case rel => exact ⟨k + 1, by omega, by go_num, hb.trans (hb2.mono hs), HG.out⟩
            case measure => simp [intOf]; omega
          · have HNE := Lib.hid (show ¬ a = b from fun e => h2 (by subst e; rfl))
            have e1 : (a[k].1 != b[k].1) = false := by simpa using h1
            have e2 : (a[k].2 != b[k].2) = true := by simpa using h2
            clear hg h1 h2
            go_wp2_with fail
            refine wp_region_bel wr.heap.size wr (by kernel_rfl) (by kernel_rfl) (Below.refl _ _) ?_
            repeat (go_big_quiet_step (fail))
            refine wpQuiet_nil ?_
            intro w2 hb2
            clear k0 k1 k2 k3
            go_wp2
            go_ret
            exact ⟨by rw [decide_eq_false HNE.out]; rfl, hb.trans (hb2.mono hs)⟩
        · have HNE := Lib.hid (show ¬ a = b from fun e => h1 (by subst e; rfl))
          have e1 : (a[k].1 != b[k].1) = true := by simpa using h1
          clear hg h1
          go_wp2_with fail
          refine wp_region_bel wr.heap.size wr (by kernel_rfl) (by kernel_rfl) (Below.refl _ _) ?_
          repeat (go_big_quiet_step (fail))
          refine wpQuiet_nil ?_
          intro w2 hb2
          clear k0 k1 k2 k3
          go_wp2
          go_ret
          exact ⟨by rw [decide_eq_false HNE.out]; rfl, hb.trans (hb2.mono hs)⟩
      · obtain rfl : k = a.length := by omega
        have HE := Lib.hid (show a = b by rw [List.take_length, HN.out, List.take_length] at hg; exact hg)
        clear hg
        go_wp2
        go_ret
        exact ⟨by rw [decide_eq_true HE.out]; rfl, hb⟩
  · have HNE := Lib.hid (show ¬ a = b from fun e => hn (by rw [e]))
    have hnb : ((a.length : Int) != (b.length : Int)) = true := by simp; omega
    clear hn
    go_enter Tryd.func11, Tryd.ntmps11
    go_wp2
    go_ret
    exact ⟨by rw [decide_eq_false HNE.out]; rfl, Below.refl _ _⟩
end Go.Proofs.YtfeeilpkfjfnaaaDoor
