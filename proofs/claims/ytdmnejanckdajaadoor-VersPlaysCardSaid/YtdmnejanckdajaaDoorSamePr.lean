/- burgagesame.Pairs at two lists that are the same, wherever they lie. No conditions. -/
import Derived.Test.YtdmnejanckdajaaDoorPair
import Derived.WalkKit
import Derived.WalkLawsBesides
import Derived.WalkSpells
import Derived.Deep.QuietTactic
import Derived.BigQuiet
namespace Go.Proofs.YtdmnejanckdajaaDoor
set_option linter.unusedVariables false
set_option linter.unusedSimpArgs false
open Go.RowKit

set_option maxRecDepth 100000 in
set_option maxHeartbeats 1600000 in
theorem pairs_same (A B : Option Addr) (a : List KV) (c d : Nat) (hm : a.length ≤ maxLen) (w : World) (hl : Rd w w.heap.size A (flatE encKV a)) (hr : Rd w w.heap.size B (flatE encKV a)) :
    Calls Tryd.prog 13 #[.slice A a.length c, .slice B a.length d] w fun e w' => e = .returned (.bool true) ∧ Below w.heap.size w w' := by
  unfold maxLen at hm
  go_enter Tryd.func13, Tryd.ntmps13
  go_wp2
  go_loopw [5] (fun vi wr => ∃ k : Nat, k ≤ a.length ∧ vi = .int .i64 k ∧ Below w.heap.size w wr) (fun vi _ => a.length - (intOf vi).toNat)
  case atStart => exact ⟨0, Nat.zero_le _, rfl, Below.refl _ _⟩
  case round =>
    obtain ⟨k, hk, rfl, hb⟩ := hrel
    by_cases hlt : k < a.length
    · obtain ⟨ba, oa, rfl, hba, c0, c1⟩ := (hl.below hb).kv hlt
      obtain ⟨bb, ob, rfl, hbb, d0, d1⟩ := (hr.below hb).kv hlt
      have hs := hb.size
      have k0 : ∀ x : BelW wr.heap.size wr, x.1.cell? ⟨ba, oa + k * 2, none⟩ = some (txt a[k].1) := BelW.cell c0 (by simp; omega)
      have k1 : ∀ x : BelW wr.heap.size wr, x.1.cell? ⟨ba, oa + k * 2 + 1, none⟩ = some (txt a[k].2) := BelW.cell c1 (by simp; omega)
      have k3 : ∀ x : BelW wr.heap.size wr, x.1.cell? ⟨bb, ob + k * 2, none⟩ = some (txt a[k].1) := BelW.cell d0 (by simp; omega)
      have k4 : ∀ x : BelW wr.heap.size wr, x.1.cell? ⟨bb, ob + k * 2 + 1, none⟩ = some (txt a[k].2) := BelW.cell d1 (by simp; omega)
      have hk0 : (0 : Int) ≤ (k : Int) := by omega
      have hk1 : (k : Int) < (a.length : Int) := by omega
      clear c0 c1 d0 d1
      go_wp2_with fail
      refine wp_region_bel wr.heap.size wr (by kernel_rfl) (by kernel_rfl) (Below.refl _ _) ?_
      repeat (go_big_quiet_step (fail))
      refine wpQuiet_nil ?_
      intro w2 hb2
      clear k0 k1 k3 k4
      go_wp2
      go_roundw
      case rel => exact ⟨k + 1, by omega, by go_num, hb.trans (hb2.mono hs)⟩
      case measure => simp [intOf]; omega
    · obtain rfl : k = a.length := by omega
      go_wp2
      go_ret
      exact ⟨rfl, hb⟩

end Go.Proofs.YtdmnejanckdajaaDoor
