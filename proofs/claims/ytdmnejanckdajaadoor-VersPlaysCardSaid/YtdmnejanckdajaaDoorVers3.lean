/- Contract of put: the faults. -/
import Derived.Test.YtdmnejanckdajaaDoorVers2
namespace Go.Proofs.YtdmnejanckdajaaDoor
set_option linter.unusedVariables false
set_option linter.unusedSimpArgs false
set_option maxRecDepth 100000
open Go.RowKit

def putE (s : List UInt8) (v : Ver) (top : Int) : Int := if keyB s = false ∨ 12 < v.val.length then 2 else if v.n < 1 ∨ 1000000 < v.n then 1 else if v.n < top then 7 else 0
def addV (l : List Ver) (v : Ver) : List Ver := match l.getLast? with
  | some u => if u.n = v.n then l.dropLast ++ [v] else l ++ [v]
  | none => [v]
def putV (F : List UInt8 → List Ver) (s : List UInt8) (v : Ver) : List UInt8 → List Ver := upd F s (addV (F s) v)
abbrev verV (v : Ver) : Value := .agg #[.int .i64 v.n, txt v.val, .bool v.gone]

theorem put_bad (t : Nat) (k : Value) (top : Int) (s : List UInt8) (hs : s.length ≤ maxLen) (v : Ver) (hv : v.val.length ≤ maxLen) (w : World) (hB : Blk w t 60 #[k, .int .i64 top]) (hp : putE s v top ≠ 0) :
    Calls Tryd.prog 21 #[.pointer (some ⟨t, 0, none⟩), txt s, verV v] w fun e w' => e = .returned (faultV (putE s v top)) ∧ Below w.heap.size w w' := by
  have hBk := Blk.new w 63 #[.int .i64 v.n, txt v.val, .bool v.gone]
  have hb0 : Below w.heap.size w (w.alloc (.cells #[.int .i64 v.n, txt v.val, .bool v.gone] 63)) := (Below.refl _ _).alloc (Nat.le_refl _) _
  have hB1 := hB.below hb0 hB.lt
  have hK := fun W => key_any s hs W
  by_cases h1 : keyB s = false
  · have hR := Lib.hid (show putE s v top = 2 by unfold putE; rw [if_pos (.inl h1)])
    rw [h1] at hK
    have HK := Lib.hid hK
    clear hK
    go_enter Tryd.func21, Tryd.ntmps21
    go_wp2_with fail
    refine (HK.out _).mono ?_
    rintro e w1 ⟨rfl, rfl⟩
    go_wp2
    go_ret
    exact ⟨by rw [hR.out]; rfl, hb0⟩
  · rw [Bool.not_eq_false] at h1
    rw [h1] at hK
    have HK := Lib.hid hK
    clear hK
    by_cases h2 : 12 < v.val.length
    · have hR := Lib.hid (show putE s v top = 2 by unfold putE; rw [if_pos (.inr h2)])
      go_enter Tryd.func21, Tryd.ntmps21
      go_wp2_with fail
      refine (HK.out _).mono ?_
      rintro e w1 ⟨rfl, rfl⟩
      go_wp2
      go_ret
      exact ⟨by rw [hR.out]; rfl, hb0⟩
    · have hE : putE s v top = if v.n < 1 ∨ 1000000 < v.n then 1 else if v.n < top then 7 else 0 := by unfold putE; rw [if_neg (by simp [h1, h2])]
      by_cases h3 : v.n < 1
      · have hR := Lib.hid (show putE s v top = 1 by rw [hE, if_pos (.inl h3)])
        clear hE hp
        go_enter Tryd.func21, Tryd.ntmps21
        go_wp2_with fail
        refine (HK.out _).mono ?_
        rintro e w1 ⟨rfl, rfl⟩
        go_wp2
        go_ret
        exact ⟨by rw [hR.out]; rfl, hb0⟩
      · by_cases h4 : 1000000 < v.n
        · have hR := Lib.hid (show putE s v top = 1 by rw [hE, if_pos (.inr h4)])
          clear hE hp
          go_enter Tryd.func21, Tryd.ntmps21
          go_wp2_with fail
          refine (HK.out _).mono ?_
          rintro e w1 ⟨rfl, rfl⟩
          go_wp2
          go_ret
          exact ⟨by rw [hR.out]; rfl, hb0⟩
        · have h5 : v.n < top := by
            rw [hE, if_neg (by omega)] at hp
            by_cases h : v.n < top
            · exact h
            · rw [if_neg h] at hp; exact absurd rfl hp
          have hR := Lib.hid (show putE s v top = 7 by rw [hE, if_neg (by omega), if_pos h5])
          clear hE hp
          have x0 := hBk.cell 0
          have x1 := hBk.cell 1
          have y1 := hB1.cell 1
          simp at x0 x1 y1
          go_enter Tryd.func21, Tryd.ntmps21
          go_wp2_with fail
          refine (HK.out _).mono ?_
          rintro e w1 ⟨rfl, rfl⟩
          go_wp2_with fail
          go_quiet (fail)
          go_wp2
          go_ret
          exact ⟨by rw [hR.out]; rfl, by first | exact hb0 | exact ⟨hb0.os, hb0.tape, hb0.output, hb0.size, hb0.block⟩⟩
end Go.Proofs.YtdmnejanckdajaaDoor
