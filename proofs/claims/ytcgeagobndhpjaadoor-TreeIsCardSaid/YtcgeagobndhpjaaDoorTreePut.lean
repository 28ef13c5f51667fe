/- Contracts of package tree: Roots, Put, Drop, Find. -/
import Derived.Test.YtcgeagobndhpjaaDoorSlices2
import Derived.Test.YtcgeagobndhpjaaDoorTreeBackMath
import Derived.Deep.RegionWith
namespace Go.Proofs.YtcgeagobndhpjaaDoor
set_option linter.unusedVariables false
set_option linter.unusedSimpArgs false
open Go.RowKit

theorem faultV_bad {k : Int} (h : k ≠ 0) : FaultV k = .iface 25 (.int .i64 k) := by unfold FaultV; rw [if_neg h]
theorem faultV_ok {k : Int} (h : k = 0) : FaultV k = .nilIface := by unfold FaultV; rw [if_pos h]

theorem roots_bad (A : Option Addr) (l : List Pf) (c : Nat) (hm : l.length ≤ maxLen) (hf : treeFault l ≠ 0) (w : World) (hl : Rd w w.heap.size A (cellsP l)) :
    Calls Tryd.prog 45 #[.slice A l.length c] w fun e w' => e = .returned (.tuple #[.slice none 0 0, .iface 25 (.int .i64 (treeFault l))]) ∧ Below w.heap.size w w' := by
  have HT := Lib.hid (faultV_bad hf)
  clear hf
  go_enter Tryd.func45, Tryd.ntmps45
  go_wp2_with fail
  refine (treeCheck_any A l c hm _ hl).mono ?_
  rintro e w1 ⟨rfl, hb1⟩
  rw [HT.out]
  go_wp2
  go_ret2
  exact ⟨rfl, hb1⟩
theorem roots_ok (A : Option Addr) (l : List Pf) (c : Nat) (hf : treeFault l = 0) (w : World) (hl : Rd w w.heap.size A (cellsP l)) :
    Calls Tryd.prog 45 #[.slice A l.length c] w (OwnRes2 23 w (tops l)) := by
  obtain ⟨g1, g2, _⟩ := tree_good hf
  have HT := Lib.hid (faultV_ok hf)
  have G2 := Lib.hid g2
  clear hf g2
  go_enter Tryd.func45, Tryd.ntmps45
  go_wp2_with fail
  refine (treeCheck_any A l c (by unfold maxLen; omega) _ hl).mono ?_
  rintro e w1 ⟨rfl, hb1⟩
  rw [HT.out]
  have hs1 := hb1.size
  go_wp2_with fail
  refine (tops_any A l c (by omega) G2.out w1 ((hl.below hb1).more hs1)).mono ?_
  rintro e w2 ⟨v, rfl, hown, hb2⟩
  go_wp2
  go_ret2
  exact ⟨v, rfl, own_of_base hown hs1, hb1.trans (hb2.mono hs1)⟩

theorem putFault_two {l : List Pf} {p : Pf} (h : treeFault2 l p ≠ 0) : putFault l p = treeFault2 l p := by
  unfold treeFault2 at *
  unfold putFault
  by_cases h1 : treeFault l = 0
  · rw [if_neg (by simp [h1])] at h
    rw [if_neg (by simp [h1]), if_pos h, if_neg (by simp [h1])]
  · rw [if_pos h1, if_pos h1]
theorem dropFault_two {l : List Pf} {p : Pf} (h : treeFault2 l p ≠ 0) : dropFault l p = treeFault2 l p := by
  unfold treeFault2 at *
  unfold dropFault
  by_cases h1 : treeFault l = 0
  · rw [if_neg (by simp [h1])] at h
    rw [if_neg (by simp [h1]), if_pos h, if_neg (by simp [h1])]
  · rw [if_pos h1, if_pos h1]
theorem putFault_mem {l : List Pf} {p : Pf} (h : treeFault2 l p = 0) (hm : p ∈ l) : putFault l p = 6 := by
  obtain ⟨h1, h2⟩ := treeFault2_zero.1 h
  unfold putFault
  rw [if_neg (by simp [h1]), if_neg (by simp [h2]), if_pos hm]
theorem putFault_full {l : List Pf} {p : Pf} (h : treeFault2 l p = 0) (hm : p ∉ l) (hl : l.length = 60) : putFault l p = 3 := by
  obtain ⟨h1, h2⟩ := treeFault2_zero.1 h
  unfold putFault
  rw [if_neg (by simp [h1]), if_neg (by simp [h2]), if_neg hm, if_pos hl]
theorem putFault_ok {l : List Pf} {p : Pf} (h : treeFault2 l p = 0) (hm : p ∉ l) (hl : l.length ≠ 60) : putFault l p = 0 := by
  obtain ⟨h1, h2⟩ := treeFault2_zero.1 h
  unfold putFault
  rw [if_neg (by simp [h1]), if_neg (by simp [h2]), if_neg hm, if_neg hl]
theorem dropFault_ok {l : List Pf} {p : Pf} (h : treeFault2 l p = 0) (hm : p ∈ l) : dropFault l p = 0 := by
  obtain ⟨h1, h2⟩ := treeFault2_zero.1 h
  unfold dropFault
  rw [if_neg (by simp [h1]), if_neg (by simp [h2]), if_pos hm]
theorem dropFault_none {l : List Pf} {p : Pf} (h : treeFault2 l p = 0) (hm : p ∉ l) : dropFault l p = 4 := by
  obtain ⟨h1, h2⟩ := treeFault2_zero.1 h
  unfold dropFault
  rw [if_neg (by simp [h1]), if_neg (by simp [h2]), if_neg hm]

set_option maxRecDepth 100000 in
theorem put_bad (A : Option Addr) (l : List Pf) (c : Nat) (p : Pf) (hm : l.length ≤ maxLen) (hf : putFault l p ≠ 0) (w : World) (hl : Rd w w.heap.size A (cellsP l)) :
    Calls Tryd.prog 36 #[.slice A l.length c, .agg #[.int .i64 p.1, .int .i64 p.2]] w fun e w' => e = .returned (.tuple #[.slice none 0 0, .iface 25 (.int .i64 (putFault l p))]) ∧ Below w.heap.size w w' := by
  have hl1 := (hl.alloc (Nat.le_refl _) (.cells #[.int .i64 p.1, .int .i64 p.2] 23)).more (show w.heap.size ≤ (w.alloc (.cells #[.int .i64 p.1, .int .i64 p.2] 23)).heap.size by simp)
  have hb0 := (Below.refl w.heap.size w).alloc (Nat.le_refl _) (.cells #[.int .i64 p.1, .int .i64 p.2] 23)
  by_cases h2 : treeFault2 l p = 0
  · by_cases hmem : p ∈ l
    · have HV := Lib.hid (putFault_mem h2 hmem)
      have hd : decide (p ∈ l) = true := by simpa using hmem
      have HD := Lib.hid hd
      have H2 := Lib.hid h2
      clear h2 hmem hd hf
      go_enter Tryd.func36, Tryd.ntmps36
      go_wp2_with fail
      refine (checked_ok A l c p H2.out _ hl1).mono ?_
      rintro e w1 ⟨rfl, hb1⟩
      rw [HD.out]
      go_wp2
      go_ret2
      exact ⟨by rw [HV.out]; rfl, hb0.trans (hb1.mono (by simp))⟩
    · by_cases h60 : l.length = 60
      · have HV := Lib.hid (putFault_full h2 hmem h60)
        have hd : decide (p ∈ l) = false := by simpa using hmem
        have HD := Lib.hid hd
        have H2 := Lib.hid h2
        have H60 := Lib.hid h60
        clear h2 hmem hd hf h60
        go_enter Tryd.func36, Tryd.ntmps36
        go_wp2_with fail
        refine (checked_ok A l c p H2.out _ hl1).mono ?_
        rintro e w1 ⟨rfl, hb1⟩
        rw [HD.out]
        have h60 := H60.out
        go_wp2
        go_ret2
        exact ⟨by rw [HV.out]; rfl, hb0.trans (hb1.mono (by simp))⟩
      · exact absurd (putFault_ok h2 hmem h60) hf
  · have HV := Lib.hid (putFault_two h2)
    have H2 := Lib.hid h2
    clear h2 hf
    go_enter Tryd.func36, Tryd.ntmps36
    go_wp2_with fail
    refine (checked_bad A l c p hm H2.out _ hl1).mono ?_
    rintro e w1 ⟨rfl, hb1⟩
    go_wp2
    go_ret2
    exact ⟨by rw [HV.out]; rfl, hb0.trans (hb1.mono (by simp))⟩

set_option maxRecDepth 100000 in
set_option maxHeartbeats 4000000 in
theorem put_ok (A : Option Addr) (l : List Pf) (c : Nat) (p : Pf) (hf : putFault l p = 0) (w : World) (hl : Rd w w.heap.size A (cellsP l)) :
    Calls Tryd.prog 36 #[.slice A l.length c, .agg #[.int .i64 p.1, .int .i64 p.2]] w (OwnRes2 23 w (putL l p)) := by
  obtain ⟨h1, h2, h3, h4⟩ := putFault_zero hf
  have hl1 := (hl.alloc (Nat.le_refl _) (.cells #[.int .i64 p.1, .int .i64 p.2] 23)).more (show w.heap.size ≤ (w.alloc (.cells #[.int .i64 p.1, .int .i64 p.2] 23)).heap.size by simp)
  have hb0 := (Below.refl w.heap.size w).alloc (Nat.le_refl _) (.cells #[.int .i64 p.1, .int .i64 p.2] 23)
  have hd : decide (p ∈ l) = false := by simpa using h3
  have HD := Lib.hid hd
  have H2 := Lib.hid (treeFault2_zero.2 ⟨h1, h2⟩)
  have hat := at_le l p
  have h60 : ¬ l.length = 60 := by omega
  clear h1 h2 h3 hd hf
  go_enter Tryd.func36, Tryd.ntmps36
  go_wp2_with fail
  refine (checked_ok A l c p H2.out _ hl1).mono ?_
  rintro e w1 ⟨rfl, hb1⟩
  rw [HD.out]
  have hs1 := hb1.size
  have hB1 := (Blk.new w 23 #[.int .i64 p.1, .int .i64 p.2]).below hb1 (by simp)
  have hl2 := hl1.below hb1
  have hbw1 := hb0.trans (hb1.mono (by simp))
  simp only [World.size_alloc] at hs1 hl2
  clear hb1 hl1 hb0
  obtain ⟨c0, c1, _⟩ := hB1.two
  generalize hk : atOf l p = k at hat ⊢
  go_wp2_with fail
  go_region_with (first
    | (go_at_call 88
       refine (clonePf_any A l c ?_ _ ?_).mono ?_
       · omega
       · first
           | exact hl2.more hs1
           | exact (hl2.alloc hs1 _).more (by simp; omega)
       rintro e w2 ⟨v2, rfl, hown2, hb2⟩
       have hs2 := hb2.size
       have hB2 : Blk w2 w.heap.size 23 #[.int .i64 p.1, .int .i64 p.2] := by
         refine Blk.below ?_ hb2 ?_
         · first
             | exact hB1
             | exact hB1.alloc _
         · first
             | omega
             | (simp <;> omega)
       obtain ⟨d0, d1, _⟩ := hB2.two)
    | (go_at_call 87
       refine (insert_any v2 l w.heap.size k _ p ?_ ?_ _ ?_ ?_ ?_ ?_).mono ?_
       go_loud (
         · omega
         · omega
         · have : w1.heap.size ≤ w2.heap.size := by first | exact hs2 | exact Nat.le_trans (by simp) hs2
           first
             | omega
             | (simp <;> omega)
         · first
             | exact own_of_base hown2 (by first | omega | (simp <;> omega))
             | exact own_of_base (hown2.alloc _) (by first | omega | (simp <;> omega))
         · first
             | exact Blk.new _ _ _
             | (refine Blk.below ?_ hb2 ?_
                · exact Blk.new w1 _ _
                · show w1.heap.size < (w1.alloc _).heap.size
                  simp)
         · intro e
           obtain ⟨q1, q2⟩ := World.ownsRow.lt hown2 _ e
           first
             | omega
             | (simp at q1; done)
             | (simp at q1; omega)
         skip)
       rintro e w3 ⟨v3, rfl, hown3, hb3⟩))
  all_goals (
    have hw2 : Below w.heap.size w w2 := by
      first
        | exact (hbw1.drew).trans (hb2.mono (by show w.heap.size ≤ w1.heap.size; omega))
        | exact ((hbw1.alloc (by omega) _).drew).trans (hb2.mono (by show w.heap.size ≤ (w1.alloc _).heap.size; simp; omega))
    have hw3 : Below w.heap.size w w3 := by
      first
        | exact hw2.trans hb3
        | exact (hw2.alloc hw2.size _).trans hb3
    rw [← hk] at hown3
    go_wp2
    go_ret2
    exact ⟨v3, rfl, hown3, hw3⟩)

theorem at_mem {l : List Pf} {p : Pf} (hs : Sorted l) (h : p ∈ l) : atOf l p < l.length := by
  obtain ⟨j, hj, rfl⟩ := List.mem_iff_getElem.1 h
  have h1 : ¬ j < atOf l l[j] := fun h => ordP_irrefl _ ((at_iff hs hj).1 h)
  omega
theorem dropFault_zero {l : List Pf} {p : Pf} (h : dropFault l p = 0) : treeFault2 l p = 0 ∧ p ∈ l := by
  by_cases h2 : treeFault2 l p = 0
  · by_cases hm : p ∈ l
    · exact ⟨h2, hm⟩
    · rw [dropFault_none h2 hm] at h; cases h
  · rw [dropFault_two h2] at h; exact absurd h h2

set_option maxRecDepth 100000 in
theorem drop_bad (A : Option Addr) (l : List Pf) (c : Nat) (p : Pf) (hm : l.length ≤ maxLen) (hf : dropFault l p ≠ 0) (w : World) (hl : Rd w w.heap.size A (cellsP l)) :
    Calls Tryd.prog 38 #[.slice A l.length c, .agg #[.int .i64 p.1, .int .i64 p.2]] w fun e w' => e = .returned (.tuple #[.slice none 0 0, .iface 25 (.int .i64 (dropFault l p))]) ∧ Below w.heap.size w w' := by
  have hl1 := (hl.alloc (Nat.le_refl _) (.cells #[.int .i64 p.1, .int .i64 p.2] 23)).more (show w.heap.size ≤ (w.alloc (.cells #[.int .i64 p.1, .int .i64 p.2] 23)).heap.size by simp)
  have hb0 := (Below.refl w.heap.size w).alloc (Nat.le_refl _) (.cells #[.int .i64 p.1, .int .i64 p.2] 23)
  by_cases h2 : treeFault2 l p = 0
  · by_cases hmem : p ∈ l
    · exact absurd (dropFault_ok h2 hmem) hf
    · have HV := Lib.hid (dropFault_none h2 hmem)
      have hd : decide (p ∈ l) = false := by simpa using hmem
      have HD := Lib.hid hd
      have H2 := Lib.hid h2
      clear h2 hmem hd hf
      go_enter Tryd.func38, Tryd.ntmps38
      go_wp2_with fail
      refine (checked_ok A l c p H2.out _ hl1).mono ?_
      rintro e w1 ⟨rfl, hb1⟩
      rw [HD.out]
      go_wp2
      go_ret2
      exact ⟨by rw [HV.out]; rfl, hb0.trans (hb1.mono (by simp))⟩
  · have HV := Lib.hid (dropFault_two h2)
    have H2 := Lib.hid h2
    clear h2 hf
    go_enter Tryd.func38, Tryd.ntmps38
    go_wp2_with fail
    refine (checked_bad A l c p hm H2.out _ hl1).mono ?_
    rintro e w1 ⟨rfl, hb1⟩
    go_wp2
    go_ret2
    exact ⟨by rw [HV.out]; rfl, hb0.trans (hb1.mono (by simp))⟩

set_option maxRecDepth 100000 in
set_option maxHeartbeats 1000000 in
theorem drop_ok (A : Option Addr) (l : List Pf) (c : Nat) (p : Pf) (hf : dropFault l p = 0) (w : World) (hl : Rd w w.heap.size A (cellsP l)) :
    Calls Tryd.prog 38 #[.slice A l.length c, .agg #[.int .i64 p.1, .int .i64 p.2]] w (OwnRes2 23 w (dropL l p)) := by
  obtain ⟨h2, hmem⟩ := dropFault_zero hf
  obtain ⟨g1, g2, g3⟩ := tree_good (treeFault2_zero.1 h2).1
  have hl1 := (hl.alloc (Nat.le_refl _) (.cells #[.int .i64 p.1, .int .i64 p.2] 23)).more (show w.heap.size ≤ (w.alloc (.cells #[.int .i64 p.1, .int .i64 p.2] 23)).heap.size by simp)
  have hb0 := (Below.refl w.heap.size w).alloc (Nat.le_refl _) (.cells #[.int .i64 p.1, .int .i64 p.2] 23)
  have hd : decide (p ∈ l) = true := by simpa using hmem
  have HD := Lib.hid hd
  have H2 := Lib.hid h2
  have hat := at_mem g3 hmem
  have HV := Lib.hid (drop_at g3 hmem)
  clear h2 hmem hd hf g2 g3
  go_enter Tryd.func38, Tryd.ntmps38
  go_wp2_with fail
  refine (checked_ok A l c p H2.out _ hl1).mono ?_
  rintro e w1 ⟨rfl, hb1⟩
  rw [HD.out]
  have hs1 := hb1.size
  have hl2 := hl1.below hb1
  have hbw1 := hb0.trans (hb1.mono (by simp))
  simp only [World.size_alloc] at hs1 hl2
  clear hb1 hl1 hb0
  generalize hk : atOf l p = k at hat ⊢
  have hw1 : IntKind.i64.wrap ((k : Int) + 1) = (k : Int) + 1 := by rw [IntKind.wrap_i64]; omega
  go_wp2_with fail
  refine (clonePf_any A l c (by omega) w1 (hl2.more hs1)).mono ?_
  rintro e w2 ⟨v2, rfl, hown2, hb2⟩
  have hs2 := hb2.size
  go_wp2_with fail
  refine (delete_one v2 l w.heap.size k (by omega) hat w2 (own_of_base hown2 (by omega))).mono ?_
  rintro e w3 ⟨v3, rfl, hown3, hb3⟩
  rw [← hk, ← HV.out] at hown3
  go_wp2
  go_ret2
  exact ⟨v3, rfl, hown3, hbw1.trans ((hb2.mono (by omega)).trans hb3)⟩
end Go.Proofs.YtcgeagobndhpjaaDoor
