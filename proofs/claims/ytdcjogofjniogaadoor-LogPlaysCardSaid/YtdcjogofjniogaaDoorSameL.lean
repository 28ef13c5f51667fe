/- burgagesame.Lists at two lists of lists that are the same, wherever they lie. No conditions. -/
import Derived.Test.YtdcjogofjniogaaDoorSameC
import Derived.Test.YtdcjogofjniogaaDoorLog3
namespace Go.Proofs.YtdcjogofjniogaaDoor
set_option linter.unusedVariables false
set_option linter.unusedSimpArgs false
open Go.RowKit

theorem BelW.bel {B : Nat} {W : World} (x : BelW B W) : Below B W x.1 := x.2
theorem BelW.size {B : Nat} {W : World} (x : BelW B W) : W.heap.size ≤ x.1.heap.size := x.2.size
/-- A slice of slices reads as a list of lists. -/
def RdLL (w : World) (B : Nat) (A : Option Addr) (ls : List (List Chg)) : Prop :=
  ∃ xs : List Value, xs.length = ls.length ∧ Rd w B A xs ∧ ∀ i (h : i < ls.length), ∃ C c, xs[i]? = some (.slice C ls[i].length c) ∧ Rd w B C (cellsC ls[i])
theorem RdLL.below {w w' : World} {B : Nat} {A : Option Addr} {ls : List (List Chg)} (h : RdLL w B A ls) (hb : Below B w w') : RdLL w' B A ls := by
  obtain ⟨xs, h1, h2, h3⟩ := h
  exact ⟨xs, h1, h2.below hb, fun i hi => by obtain ⟨C, c, h4, h5⟩ := h3 i hi; exact ⟨C, c, h4, h5.below hb⟩⟩
theorem RdLL.more {w : World} {B B' : Nat} {A : Option Addr} {ls : List (List Chg)} (h : RdLL w B A ls) (hb : B ≤ B') : RdLL w B' A ls := by
  obtain ⟨xs, h1, h2, h3⟩ := h
  exact ⟨xs, h1, h2.more hb, fun i hi => by obtain ⟨C, c, h4, h5⟩ := h3 i hi; exact ⟨C, c, h4, h5.more hb⟩⟩
theorem RdLL.at {w : World} {B : Nat} {A : Option Addr} {ls : List (List Chg)} (h : RdLL w B A ls) {k : Nat} (hk : k < ls.length) :
    ∃ b off C c, A = some ⟨b, off, none⟩ ∧ b < B ∧ w.cell? ⟨b, off + k, none⟩ = some (.slice C ls[k].length c) ∧ Rd w B C (cellsC ls[k]) := by
  obtain ⟨xs, h1, h2, h3⟩ := h
  obtain ⟨C, c, h4, h5⟩ := h3 k hk
  obtain ⟨b, off, e, hb, hc⟩ := h2 (fun e => by rw [e] at h4; simp at h4)
  exact ⟨b, off, C, c, e, hb, hc k _ h4, h5⟩
theorem OwnLL.rd {w : World} {base : Nat} {v : Value} {ls : List (List Chg)} (h : OwnLL w base v ls) : ∃ A c, v = .slice A ls.length c ∧ ls.length ≤ c ∧ RdLL w w.heap.size A ls := by
  obtain ⟨xs, h1, h2⟩ := h
  obtain ⟨A, c, rfl, hc, hr⟩ := own_form2 h1
  refine ⟨A, c, rfl, hc, xs, by simpa using h1.1, hr, fun i hi => ?_⟩
  obtain ⟨u, h3, h4⟩ := h2 i hi
  obtain ⟨C, d, rfl, h5⟩ := own_form h4
  exact ⟨C, d, h3, h5⟩

set_option maxRecDepth 100000 in
set_option maxHeartbeats 1600000 in
theorem lists_same (A B : Option Addr) (a : List (List Chg)) (c d : Nat) (hm : a.length ≤ 1000000000) (hml : ∀ l ∈ a, l.length ≤ maxLen) (w : World) (hl : RdLL w w.heap.size A a) (hr : RdLL w w.heap.size B a) :
    Calls Tryd.prog 19 #[.slice A a.length c, .slice B a.length d] w fun e w' => e = .returned (.bool true) ∧ Below w.heap.size w w' := by
  have HML := Lib.hid hml
  clear hml
  go_enter Tryd.func19, Tryd.ntmps19
  go_wp2
  go_loopw [5, 6] (fun vi _ wr => ∃ k : Nat, k ≤ a.length ∧ vi = .int .i64 k ∧ Below w.heap.size w wr) (fun vi _ _ => a.length - (intOf vi).toNat)
  case atStart => exact ⟨0, Nat.zero_le _, rfl, Below.refl _ _⟩
  case round =>
    obtain ⟨k, hk, rfl, hb⟩ := hrel
    by_cases hlt : k < a.length
    · obtain ⟨ba, oa, Ca, ca, rfl, hba, c0, hra⟩ := (hl.below hb).at hlt
      obtain ⟨bb, ob, Cb, cb, rfl, hbb, d0, hrb⟩ := (hr.below hb).at hlt
      have hs := hb.size
      have k0 : ∀ x : BelW wr.heap.size wr, x.1.cell? ⟨ba, oa + k, none⟩ = some (.slice Ca a[k].length ca) := BelW.cell c0 (show ba < _ by omega)
      have k1 : ∀ x : BelW wr.heap.size wr, x.1.cell? ⟨bb, ob + k, none⟩ = some (.slice Cb a[k].length cb) := BelW.cell d0 (show bb < _ by omega)
      have hk0 : (0 : Int) ≤ (k : Int) := by omega
      have hk1 : (k : Int) < (a.length : Int) := by omega
      have hmk := HML.out a[k] (List.getElem_mem _)
      have HRA := Lib.hid (hra.more hs)
      have HRB := Lib.hid (hrb.more hs)
      clear c0 d0 hra hrb
      go_wp2_with fail
      refine wp_region_bel wr.heap.size wr (by kernel_rfl) (by kernel_rfl) (Below.refl _ _) ?_
      repeat (go_big_quiet_step ((go_at_call 44; exact Calls.bel_of (Nat.le_refl _) (changes_same Ca Cb a[k] ca cb hmk _ ((HRA.out.below (BelW.bel _)).more (BelW.size _)) ((HRB.out.below (BelW.bel _)).more (BelW.size _))))))
      refine wpQuiet_nil ?_
      intro w2 hb2
      clear k0 k1
      go_wp2
      go_roundw
      case rel => exact ⟨k + 1, by omega, by go_num, hb.trans (hb2.mono hs)⟩
      case measure => simp [intOf]; omega
    · obtain rfl : k = a.length := by omega
      go_wp2
      go_ret
      exact ⟨rfl, hb⟩
end Go.Proofs.YtdcjogofjniogaaDoor
