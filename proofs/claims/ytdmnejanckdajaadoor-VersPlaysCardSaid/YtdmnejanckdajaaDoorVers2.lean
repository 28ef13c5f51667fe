/- A table of versions in memory; contract of Get. -/
import Derived.Test.YtdmnejanckdajaaDoorVers1
namespace Go.Proofs.YtdmnejanckdajaaDoor
set_option linter.unusedVariables false
set_option linter.unusedSimpArgs false
set_option maxRecDepth 100000
open Go.RowKit

/-- Versions as they may be: rising, none behind top; n bounds how many. -/
structure Good (F : List UInt8 → List Ver) (top : Int) (n : Nat) : Prop where
  len : ∀ s, (F s).length ≤ n
  num : ∀ s, ∀ v ∈ F s, 1 ≤ v.n ∧ v.n ≤ top ∧ v.val.length ≤ 12
  key : ∀ s, F s ≠ [] → s ≠ [] ∧ s.length ≤ 24
  rise : ∀ s, (F s).Pairwise (fun x y => x.n < y.n)
  top0 : 0 ≤ top ∧ top ≤ 1000000
theorem Good.new : Good (fun _ => []) 0 0 := ⟨by simp, by simp, by simp, by simp, by omega⟩
/-- A table. -/
structure TblAt (w : World) (S : Nat → Prop) (t : Nat) (F : List UInt8 → List Ver) (top : Int) (n : Nat) : Prop where
  tab : ∃ b es clock, Blk w t 60 #[.map (some b), .int .i64 top] ∧ TabAt w Tryd.prog 9 63 S b es clock F ∧ es.size ≤ n
  ht : S t
  good : Good F top n
def faultV (k : Int) : Value := if k = 0 then .nilIface else .iface 31 (.int .i64 k)
/-- What is told of a key at a number. -/
def tell (F : List UInt8 → List Ver) (s : List UInt8) (n : Int) : Option (List UInt8) := match fnd (F s) n (F s).length with
  | 0 => none
  | k + 1 => match (F s)[k]? with
    | some v => if v.gone then none else some v.val
    | none => none
def getV (F : List UInt8 → List Ver) (s : List UInt8) (n : Int) : List UInt8 × Int := if numB n then match tell F s n with
    | some v => (v, 0)
    | none => ([], 4)
  else ([], 1)
theorem zeroRow (w : World) : (zeroValue 65).run Tryd.prog w = .ok (.slice none 0 0) w := by kernel_rfl

theorem get_any (t : Nat) (F : List UInt8 → List Ver) (top : Int) (m : Nat) (S : Nat → Prop) (s : List UInt8) (hs : s.length ≤ maxLen) (n : Int) (hm : m ≤ 1000000) (w : World) (hT : TblAt w S t F top m) :
    Calls Tryd.prog 7 #[.pointer (some ⟨t, 0, none⟩), txt s, .int .i64 n] w fun e w' => e = .returned (.tuple #[txt (getV F s n).1, faultV (getV F s n).2]) ∧ w' = w := by
  obtain ⟨⟨b, es, clock, hB, hM, hn⟩, ht, hg⟩ := hT
  obtain ⟨kl, hkl⟩ := txt_key s hs
  have hx := hB.cell 0
  simp at hx
  have hlen := hg.len s
  by_cases h0 : numB n = true
  · rcases hM.map.look strKey Tryd.underlying58 (zeroRow w) hkl false with ⟨h1, hrun⟩ | ⟨v, h1, hrun⟩
    · have hF := hM.none h1
      have hR := Lib.hid (show getV F s n = ([], 4) by simp [getV, h0, tell, hF, fnd])
      have hf := find_any none [] 0 n (by simp) w (by intro h; simp [cellsV] at h)
      simp only [List.length_nil, fnd] at hf
      simp only [Bool.false_eq_true, if_false] at hrun
      have hnum := number_any n w
      rw [h0] at hnum
      have HF := Lib.hid hf
      have HN := Lib.hid hnum
      clear hf hnum
      go_enter Tryd.func7, Tryd.ntmps7
      go_wp2_with fail
      refine HN.out.mono ?_
      rintro e w1 ⟨rfl, rfl⟩
      go_wp2_with fail
      refine HF.out.mono ?_
      rintro e w1 ⟨rfl, rfl⟩
      go_wp2
      go_ret2
      exact ⟨by rw [hR.out]; rfl, rfl⟩
    · obtain ⟨hne, hrow⟩ := hM.rows s v h1
      obtain ⟨A, c, rfl, hrd⟩ := own_form hrow
      have hf := find_any A (F s) c n (by omega) w hrd
      have hnum := number_any n w
      rw [h0] at hnum
      have HN := Lib.hid hnum
      clear hnum
      simp only [Bool.false_eq_true, if_false] at hrun
      generalize hk : fnd (F s) n (F s).length = k at hf
      have hkle := fnd_le (F s) n (F s).length
      rw [hk] at hkle
      cases k with
      | zero =>
        have hR := Lib.hid (show getV F s n = ([], 4) by simp [getV, h0, tell, hk])
        have HF := Lib.hid hf
        clear hf
        go_enter Tryd.func7, Tryd.ntmps7
        go_wp2_with fail
        refine HN.out.mono ?_
        rintro e w1 ⟨rfl, rfl⟩
        go_wp2_with fail
        refine HF.out.mono ?_
        rintro e w1 ⟨rfl, rfl⟩
        go_wp2
        go_ret2
        exact ⟨by rw [hR.out]; rfl, rfl⟩
      | succ k =>
        have hkl' : k < (F s).length := by omega
        obtain ⟨g, off, rfl, hgb, c0, c1, c2⟩ := hrd.ver hkl'
        have e0 : (((k + 1 : Nat) : Int) - 1) = (k : Int) := by omega
        rw [e0] at hf
        have HF := Lib.hid hf
        clear hf
        have hR0 : getV F s n = if (F s)[k].gone then ([], 4) else ((F s)[k].val, 0) := by
          simp only [getV, h0, tell, hk, List.getElem?_eq_getElem hkl', if_true]
          split <;> simp_all
        by_cases hgone : (F s)[k].gone = true
        · have hR := Lib.hid (show getV F s n = ([], 4) by rw [hR0, if_pos hgone])
          rw [hgone] at c2
          go_enter Tryd.func7, Tryd.ntmps7
          go_wp2_with fail
          refine HN.out.mono ?_
          rintro e w1 ⟨rfl, rfl⟩
          go_wp2_with fail
          refine HF.out.mono ?_
          rintro e w1 ⟨rfl, rfl⟩
          go_wp2
          go_ret2
          exact ⟨by rw [hR.out]; rfl, rfl⟩
        · have hR := Lib.hid (show getV F s n = ((F s)[k].val, 0) by rw [hR0, if_neg hgone])
          rw [Bool.not_eq_true] at hgone
          rw [hgone] at c2
          go_enter Tryd.func7, Tryd.ntmps7
          go_wp2_with fail
          refine HN.out.mono ?_
          rintro e w1 ⟨rfl, rfl⟩
          go_wp2_with fail
          refine HF.out.mono ?_
          rintro e w1 ⟨rfl, rfl⟩
          go_wp2
          go_ret2
          exact ⟨by rw [hR.out]; rfl, rfl⟩
  · rw [Bool.not_eq_true] at h0
    have hR := Lib.hid (show getV F s n = ([], 1) by simp [getV, h0])
    have hnum := number_any n w
    rw [h0] at hnum
    go_enter Tryd.func7, Tryd.ntmps7
    go_wp2_with fail
    refine hnum.mono ?_
    rintro e w1 ⟨rfl, rfl⟩
    go_wp2
    go_ret2
    exact ⟨by rw [hR.out]; rfl, rfl⟩
end Go.Proofs.YtdmnejanckdajaaDoor
