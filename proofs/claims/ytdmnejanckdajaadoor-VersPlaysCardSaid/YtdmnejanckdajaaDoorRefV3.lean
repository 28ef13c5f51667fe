/- Contracts of the reference's Get and Touched. No conditions. -/
import Derived.Test.YtdmnejanckdajaaDoorRefV2
namespace Go.Proofs.YtdmnejanckdajaaDoor
set_option linter.unusedVariables false
set_option linter.unusedSimpArgs false
set_option maxRecDepth 100000
open Go.RowKit

theorem refGet_any (m : Nat) (L : List KVer) (F : List UInt8 → List Ver) (top : Int) (hL : L.length ≤ 1000000) (hM : Mdl L F) (hr : ∀ s, Rising (F s)) (S : Nat → Prop) (s : List UInt8) (n : Int) (w : World) (hT : RTbl w S m L top) :
    Calls Tryd.prog 17 #[.pointer (some ⟨m, 0, none⟩), txt s, .int .i64 n] w fun e w' => e = .returned (.tuple #[txt (getV F s n).1, .int .i64 (getV F s n).2]) ∧ Below w.heap.size w w' := by
  by_cases h0 : numB n = true
  · have h0' : 0 ≤ n ∧ n ≤ 1000000 := by unfold numB at h0; simpa using h0
    obtain ⟨hn0, hn1⟩ := h0'
    have HSN := Lib.hid (seen_any m L top hL S s n w hT)
    have HTT := Lib.hid hT
    go_enter Tryd.func17, Tryd.ntmps17
    go_wp2_with fail
    refine HSN.out.mono ?_
    rintro e w1 ⟨r, rfl, hs, hb⟩
    have hT1 := HTT.out.below hb
    clear hT
    rcases hs with ⟨rfl, hs⟩ | ⟨i, hi, rfl, h1, h2, h3⟩
    · have hR := Lib.hid (show getV F s n = ([], 4) from getV_none' h0 (by rw [tell_eq]; exact tellL_zero (hM.none (hr s) hs)))
      clear hs
      go_wp2
      go_ret2
      exact ⟨by rw [hR.out]; rfl, hb⟩
    · obtain ⟨k, hk, hf, hv⟩ := hM.seen (hr s) hi h1 h2 h3
      have htl : tell F s n = if L[i].2.gone then none else some L[i].2.val := by rw [tell_eq, tellL_at hf hk, hv]
      obtain ⟨⟨v, hB, hrow, _⟩, _⟩ := hT1
      have hx := hB.cell 0
      simp at hx
      obtain ⟨A, c, rfl, hrd⟩ := own_form hrow
      obtain ⟨b, off, rfl, hbb, c0, c1, c2, c3⟩ := hrd.kver hi
      have hI1 : (0 : Int) ≤ (i : Int) := by omega
      have hI2 : (i : Int) < (L.length : Int) := by omega
      clear hrow hrd h3 hf hv h1 h2
      by_cases hg : L[i].2.gone = true
      · rw [hg] at c3
        rw [if_pos hg] at htl
        have hR := Lib.hid (show getV F s n = ([], 4) from getV_none' h0 htl)
        clear htl
        go_wp2
        go_ret2
        exact ⟨by rw [hR.out]; rfl, hb⟩
      · rw [Bool.not_eq_true] at hg
        rw [hg] at c3
        rw [if_neg (by rw [hg]; simp)] at htl
        have hR := Lib.hid (show getV F s n = (L[i].2.val, 0) from getV_some' h0 htl)
        clear htl
        go_wp2
        go_ret2
        exact ⟨by rw [hR.out]; rfl, hb⟩
  · rw [Bool.not_eq_true] at h0
    have hR := Lib.hid (show getV F s n = ([], 1) by simp [getV, h0])
    have h1 : n < 0 ∨ 1000000 < n := by
      unfold numB at h0
      simp at h0
      omega
    rcases h1 with h1 | h1
    · go_enter Tryd.func17, Tryd.ntmps17
      go_wp2
      go_ret2
      exact ⟨by rw [hR.out]; rfl, Below.refl _ _⟩
    · have h2 : ¬ n < 0 := by omega
      go_enter Tryd.func17, Tryd.ntmps17
      go_wp2
      go_ret2
      exact ⟨by rw [hR.out]; rfl, Below.refl _ _⟩

theorem lastB_iff {l : List Ver} (h : Rising l) (n : Int) : lastB l n = true ↔ ∃ v ∈ l, n < v.n := by
  unfold lastB
  cases hl : l.getLast? with
  | none =>
    rw [List.getLast?_eq_none_iff.1 hl]
    simp
  | some u =>
    obtain ⟨ys, rfl⟩ := List.getLast?_eq_some_iff.1 hl
    simp only [decide_eq_true_eq]
    constructor
    · exact fun q => ⟨u, by simp, q⟩
    · rintro ⟨v, hv, q⟩
      rcases List.mem_append.1 hv with hv | hv
      · unfold Rising at h
        rw [List.pairwise_append] at h
        have := h.2.2 v hv u (by simp)
        omega
      · simp at hv
        subst hv
        exact q
/-- None of the first k is touched. -/
def NoTch (L : List KVer) (lo hi : List UInt8) (n : Int) (k : Nat) : Prop := ∀ i (h : i < L.length), i < k → ¬ (inB lo hi L[i].1 = true ∧ n < L[i].2.n)
theorem NoTch.step {L : List KVer} {lo hi : List UInt8} {n : Int} {k : Nat} (h : NoTch L lo hi n k) (hk : k < L.length) (hn : ¬ (inB lo hi L[k].1 = true ∧ n < L[k].2.n)) : NoTch L lo hi n (k + 1) := fun i hi hik => by
  rcases Nat.lt_or_ge i k with q | q
  · exact h i hi q
  · obtain rfl : i = k := by omega
    exact hn
theorem Mdl.touch {L : List KVer} {F : List UInt8 → List Ver} (h : Mdl L F) (hr : ∀ s, Rising (F s)) {lo hi : List UInt8} {n : Int} {k : Nat} (hk : k < L.length) (h1 : inB lo hi L[k].1 = true) (h2 : n < L[k].2.n) : TouchIs F lo hi n true :=
  ⟨fun _ => ⟨L[k].1, h1, (lastB_iff (hr _) n).2 ⟨L[k].2, (h.mem _ _).1 (List.getElem_mem _), h2⟩⟩, fun _ => rfl⟩
theorem Mdl.noTouch {L : List KVer} {F : List UInt8 → List Ver} (h : Mdl L F) (hr : ∀ s, Rising (F s)) {lo hi : List UInt8} {n : Int} (hn : NoTch L lo hi n L.length) : TouchIs F lo hi n false :=
  ⟨fun q => (by cases q), fun ⟨s, q1, q2⟩ => by
    obtain ⟨v, hv, q3⟩ := (lastB_iff (hr s) n).1 q2
    obtain ⟨i, hi, e⟩ := List.getElem_of_mem ((h.mem s v).2 hv)
    exact absurd ⟨by rw [e]; exact q1, by rw [e]; exact q3⟩ (hn i hi hi)⟩
set_option maxHeartbeats 4000000 in
theorem refTouched_any (m : Nat) (L : List KVer) (F : List UInt8 → List Ver) (top : Int) (hL : L.length ≤ 1000000) (hM : Mdl L F) (hr : ∀ s, Rising (F s)) (S : Nat → Prop) (lo hi : List UInt8) (n : Int) (w : World) (hT : RTbl w S m L top) :
    Calls Tryd.prog 19 #[.pointer (some ⟨m, 0, none⟩), txt lo, txt hi, .int .i64 n] w fun e w' => ∃ r, e = .returned (.bool r) ∧ TouchIs F lo hi n r ∧ Below w.heap.size w w' := by
  have HM := Lib.hid hM
  have HRR := Lib.hid hr
  clear hM hr
  obtain ⟨⟨v, hB, hrow, _⟩, _⟩ := hT
  have hx := hB.cell 0
  simp at hx
  have hlt := hB.lt
  obtain ⟨A, c, rfl, hrd⟩ := own_form hrow
  clear hrow
  go_enter Tryd.func19, Tryd.ntmps19
  go_wp2
  go_loopw [9] (fun i wr => ∃ (k : Nat), k ≤ L.length ∧ i = .int .i64 k ∧ NoTch L lo hi n k ∧ Below w.heap.size w wr) (fun i _ => L.length - (intOf i).toNat)
  case atStart => exact ⟨0, Nat.zero_le _, rfl, fun i _ h => by omega, Below.refl _ _⟩
  case round =>
    obtain ⟨k, hk, rfl, hno, hb⟩ := hrel
    have x0 : wr.cell? ⟨m, 0, none⟩ = some (.slice A L.length c) := (hb.cell (p := ⟨m, 0, none⟩) hlt).trans hx
    by_cases hlt2 : k < L.length
    · obtain ⟨b, off, rfl, hbb, c0, c1, c2, c3⟩ := (hrd.below hb).kver hlt2
      have hI1 : (0 : Int) ≤ (k : Int) := by omega
      have hI2 : (k : Int) < (L.length : Int) := by omega
      have hLO := Lib.hid (lessB_eq' L[k].1 lo)
      have hHI := Lib.hid (lessB_eq' L[k].1 hi)
      have HNO := Lib.hid hno.step
      clear hno
      rcases q1 : Op.bytesLess L[k].1 lo with _ | _
      · rcases q2 : Op.bytesLess L[k].1 hi with _ | _
        · have HN2 := Lib.hid (HNO.out hlt2 (fun ⟨h, _⟩ => by have := hHI.out; rw [q2] at this; simp [inB, ← this] at h))
          go_wp2
          go_roundw
          case rel => exact ⟨k + 1, by omega, by go_num, HN2.out, hb⟩
          case measure => simp [intOf]; omega
        · by_cases h4 : n < L[k].2.n
          · have HTC := Lib.hid (HM.out.touch HRR.out (lo := lo) (hi := hi) hlt2 (by have e1 := hLO.out; have e2 := hHI.out; rw [q1] at e1; rw [q2] at e2; simp [inB, ← e1, ← e2]) h4)
            go_wp2
            go_ret
            exact ⟨true, rfl, HTC.out, hb⟩
          · have HN2 := Lib.hid (HNO.out hlt2 (fun ⟨_, h⟩ => h4 h))
            go_wp2
            go_roundw
            case rel => exact ⟨k + 1, by omega, by go_num, HN2.out, hb⟩
            case measure => simp [intOf]; omega
      · have HN2 := Lib.hid (HNO.out hlt2 (fun ⟨h, _⟩ => by have := hLO.out; rw [q1] at this; simp [inB, ← this] at h))
        go_wp2
        go_roundw
        case rel => exact ⟨k + 1, by omega, by go_num, HN2.out, hb⟩
        case measure => simp [intOf]; omega
    · obtain rfl : k = L.length := by omega
      have HTC := Lib.hid (HM.out.noTouch HRR.out hno)
      clear hno
      go_wp2
      go_ret
      exact ⟨false, rfl, HTC.out, hb⟩
end Go.Proofs.YtdmnejanckdajaaDoor
