/- Contract of Range, whole. -/
import Derived.Test.YtdmnejanckdajaaDoorVers9
namespace Go.Proofs.YtdmnejanckdajaaDoor
set_option linter.unusedVariables false
set_option linter.unusedSimpArgs false
set_option maxRecDepth 100000
open Go.RowKit

theorem range_bad (t : Value) (lo hi : Value) (n : Int) (w : World) (h0 : numB n = false) :
    Calls Tryd.prog 10 #[t, lo, hi, .int .i64 n] w fun e w' => e = .returned (.tuple #[.slice none 0 0, .iface 31 (.int .i64 1)]) ∧ w' = w := by
  have hnum := number_any n w
  rw [h0] at hnum
  have HN := Lib.hid hnum
  clear hnum
  go_enter Tryd.func10, Tryd.ntmps10
  go_wp2_with fail
  refine HN.out.mono ?_
  rintro e w1 ⟨rfl, rfl⟩
  go_wp2
  go_ret2
  exact ⟨rfl, rfl⟩
theorem Below.drewN' {B : Nat} {a w : World} (h : Below B a w) {n : Nat} : Below B a (w.drewN n) := ⟨h.os, h.tape, h.output, h.size, h.block⟩
theorem TblAt.drew {w : World} {S : Nat → Prop} {t m : Nat} {F : List UInt8 → List Ver} {top : Int} (h : TblAt w S t F top m) : TblAt w.drew S t F top m :=
  h.far (T := fun _ => False) ((Fr.refl _ _).drew) (fun _ _ q => q)
/-- One call more on a table of the law's own. -/
theorem tbl_step {w wr w' : World} {t m : Nat} {F : List UInt8 → List Ver} {top : Int} (hb : Below w.heap.size w wr) (hf : Fr (fun g => w.heap.size ≤ g) wr w') (hT : TblAt w' (plus (fun g => w.heap.size ≤ g) wr) t F top m) :
    TblAt w' (fun g => w.heap.size ≤ g) t F top m ∧ Below w.heap.size w w' :=
  ⟨hT.mono (fun g hg => by have := hb.size; rcases hg with hg | hg <;> omega), hb.trans (hf.below hb.size (fun _ h => h))⟩
theorem tell_some {F : List UInt8 → List Ver} {top : Int} {m : Nat} (hg : Good F top m) {s v : List UInt8} {n : Int} (h : tell F s n = some v) : s.length ≤ 24 ∧ s ≠ [] := by
  by_cases e : F s = []
  · rw [tell_nil e] at h; cases h
  · exact ⟨(hg.key s e).2, (hg.key s e).1⟩
theorem fnd_none {l : List Ver} {n : Int} (h : ∀ v ∈ l, n < v.n) : ∀ m, m ≤ l.length → fnd l n m = 0
  | 0, _ => rfl
  | m + 1, hm => by
    rw [fnd_step (by omega), if_pos (h _ (List.getElem_mem _))]
    exact fnd_none h m (by omega)
theorem tell_nought {F : List UInt8 → List Ver} {top : Int} {m : Nat} (hg : Good F top m) (s : List UInt8) : tell F s 0 = none :=
  tell_zero (fnd_none (fun v hv => by have := hg.num s v hv; omega) _ (Nat.le_refl _))
theorem RangeIs.nought {F : List UInt8 → List Ver} {top : Int} {m : Nat} (hg : Good F top m) {lo hi : List UInt8} {L : List KV} (h : RangeIs F lo hi 0 L) : L = [] := by
  cases L with
  | nil => rfl
  | cons p L =>
    have := ((h.mem p.1 p.2).1 (by simp)).2
    rw [tell_nought hg] at this
    cases this
theorem numB_of {n : Int} (h : 0 ≤ n ∧ n ≤ 1000000) : numB n = true := by simp [numB, h]
end Go.Proofs.YtdmnejanckdajaaDoor
