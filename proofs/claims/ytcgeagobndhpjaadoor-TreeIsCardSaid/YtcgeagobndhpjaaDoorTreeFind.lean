/- slices.MaxFunc where the lengths ascend; tree.Find. -/
import Derived.Test.YtcgeagobndhpjaaDoorTreePut
namespace Go.Proofs.YtcgeagobndhpjaaDoor
set_option linter.unusedVariables false
set_option linter.unusedSimpArgs false
open Go.RowKit

theorem findCmp_any (p q : Pf) (hp : 0 ≤ p.2 ∧ p.2 ≤ 32) (hq : 0 ≤ q.2 ∧ q.2 ≤ 32) (w : World) :
    Calls Tryd.prog 93 #[.agg #[.int .i64 p.1, .int .i64 p.2], .agg #[.int .i64 q.1, .int .i64 q.2]] w fun e w' => e = .returned (.int .i64 (p.2 - q.2)) ∧ Below w.heap.size w w' := by
  obtain ⟨h1, h2⟩ := hp
  obtain ⟨h3, h4⟩ := hq
  go_enter Tryd.func93, Tryd.ntmps93
  go_wp2
  go_ret
  exact ⟨rfl, ((Below.refl _ _).alloc (Nat.le_refl _) _).alloc (by simp) _⟩

set_option maxRecDepth 100000 in
set_option maxHeartbeats 1000000 in
theorem maxLast (A : Option Addr) (L : List Pf) (c : Nat) (hL : 0 < L.length) (hlen : L.length ≤ 1000000) (hv : ∀ p ∈ L, 0 ≤ p.2 ∧ p.2 ≤ 32) (hasc : ∀ j (h : j + 1 < L.length), L[j].2 < L[j + 1].2) (w : World) (hl : Rd w w.heap.size A (cellsP L)) :
    Calls Tryd.prog 92 #[.slice A L.length c, .func (.func 93) #[] #[]] w fun e w' => e = .returned (.agg #[.int .i64 (L[L.length - 1]'(by omega)).1, .int .i64 (L[L.length - 1]'(by omega)).2]) ∧ Below w.heap.size w w' := by
  have HV := Lib.hid hv
  have HA := Lib.hid hasc
  clear hv hasc
  obtain ⟨b, off, rfl, hbb, c0, c1⟩ := hl.pair hL
  simp only [Nat.zero_mul, Nat.add_zero] at c0 c1
  have hlt0 : ¬ ((L.length : Int) < 1) := by omega
  have hb2 : Below w.heap.size w ((w.alloc (.cells #[.int .i64 0, .int .i64 0] 23)).alloc (.cells #[.int .i64 L[0].1, .int .i64 L[0].2] 23)) := ((Below.refl _ _).alloc (Nat.le_refl _) _).alloc (by simp) _
  go_enter Tryd.func92, Tryd.ntmps92
  go_wp2
  go_loopw [6] (fun i wr => ∃ (j : Nat) (hj : j < L.length), i = .int .i64 ((j + 1 : Nat) : Int) ∧ Below w.heap.size w wr ∧ Blk wr w.heap.size 23 #[.int .i64 0, .int .i64 0] ∧ Blk wr (w.heap.size + 1) 23 #[.int .i64 L[j].1, .int .i64 L[j].2]) (fun i _ => L.length + 1 - (intOf i).toNat)
  case atStart =>
    refine ⟨0, hL, rfl, hb2, (Blk.new w _ _).alloc _, ?_⟩
    have := Blk.new (w.alloc (.cells #[.int .i64 0, .int .i64 0] 23)) 23 #[.int .i64 L[0].1, .int .i64 L[0].2]
    rwa [World.size_alloc] at this
  case round =>
    obtain ⟨j, hj, rfl, hb, hR, hM⟩ := hrel
    have hs := hM.lt
    obtain ⟨m0, m1, f0, f1⟩ := hM.two
    by_cases hlt : j + 1 < L.length
    · obtain ⟨b', off', he, _, d0, d1⟩ := (hl.below hb).pair hlt
      obtain ⟨rfl, rfl⟩ : b = b' ∧ off = off' := by simpa using he
      clear he
      have hpos : 0 < L[j + 1].2 - L[j].2 := by have := HA.out j hlt; omega
      obtain ⟨k0, k1⟩ := bel2 (B := wr.heap.size) (W := wr) ⟨m0, m1⟩ (by omega)
      have k2 : ∀ x : BelW wr.heap.size wr, x.1.cell? ⟨b, off + (j + 1) * 2, none⟩ = some (.int .i64 L[j + 1].1) := BelW.cell d0 (by simp; omega)
      have k3 : ∀ x : BelW wr.heap.size wr, x.1.cell? ⟨b, off + (j + 1) * 2 + 1, none⟩ = some (.int .i64 L[j + 1].2) := BelW.cell d1 (by simp; omega)
      have hc1 := HV.out L[j + 1] (List.getElem_mem _)
      have hc2 := HV.out L[j] (List.getElem_mem _)
      go_wp2_with fail
      refine wp_region_bel wr.heap.size wr (by kernel_rfl) (by kernel_rfl) (Below.refl _ _) ?_
      repeat (go_big_quiet_step ((go_at_call 93; exact Calls.bel_of (Nat.le_refl _) (findCmp_any _ _ hc1 hc2 _))))
      refine wpQuiet_nil ?_
      intro w2 hb3
      have e0 := (hb3.cell (p := ⟨b, off + (j + 1) * 2, none⟩) (by simp; omega)).trans d0
      have e1 := (hb3.cell (p := ⟨b, off + (j + 1) * 2 + 1, none⟩) (by simp; omega)).trans d1
      have hM2 := hM.below hb3 (by omega)
      have hR2 := hR.below hb3 (by omega)
      have hb4 := hb.trans (hb3.mono (by omega))
      have hs4 := hb3.size
      clear k0 k1 k2 k3 m0 m1 f0 f1 d0 d1 hb3 hM hR hb
      obtain ⟨m0, m1, f0, f1⟩ := hM2.two
      go_wp2
      go_roundw
      case rel =>
        refine ⟨j + 1, hlt, by go_num, ?_, ?_, ?_⟩
        · exact (hb4.setCell (by simp) _).setCell (by simp) _
        · exact (hR2.far (by simp) _).far (by simp) _
        · have := (hM2.setCell 0 (.int .i64 L[j + 1].1)).setCell 1 (.int .i64 L[j + 1].2)
          simpa using this
      case measure => simp [intOf]; omega
    · obtain rfl : j = L.length - 1 := by omega
      obtain ⟨r0, r1, q0, q1⟩ := hR.two
      go_wp2
      have hRf := (hR.setCell 0 (.int .i64 L[L.length - 1].1)).setCell 1 (.int .i64 L[L.length - 1].2)
      have hRf2 : Blk ((wr.setCell ⟨w.heap.size, 0, none⟩ (.int .i64 L[L.length - 1].1)).setCell ⟨w.heap.size, 1, none⟩ (.int .i64 L[L.length - 1].2)) w.heap.size 23 #[.int .i64 L[L.length - 1].1, .int .i64 L[L.length - 1].2] := by simpa using hRf
      obtain ⟨x0, x1, _⟩ := hRf2.two
      refine bodyPost_ret (v := .agg #[.int .i64 L[L.length - 1].1, .int .i64 L[L.length - 1].2]) (by simp [results, Tryd.results92, go_sem, x0, x1]) rfl ⟨rfl, ?_⟩
      exact (hb.setCell (by simp) _).setCell (by simp) _

theorem findF_any (a : Int) (q : Pf) (ha : isA a = true) (hq : chkP q = 0) (w : World) (g : Nat) (hB : Blk w g 23 #[.int .i64 a, .int .i64 32]) :
    Calls Tryd.prog 91 #[.agg #[.int .i64 q.1, .int .i64 q.2], .pointer (some ⟨g, 0, none⟩)] w fun e w' => e = .returned (.bool (inQ (a, 32) q)) ∧ Below w.heap.size w w' := by
  have hp : chk a 32 = 0 := chk32 ha
  obtain ⟨b, m⟩ := q
  simp only at *
  obtain ⟨c0, c1, _⟩ := (hB.alloc (.cells #[.int .i64 b, .int .i64 m] 23)).two
  go_enter Tryd.func91, Tryd.ntmps91
  go_wp2_with fail
  refine (in_any _ _ _ _ hp hq _).mono ?_
  rintro e w1 ⟨rfl, hb1⟩
  go_wp2
  go_ret
  exact ⟨rfl, ((Below.refl _ _).alloc (Nat.le_refl _) _).trans (hb1.mono (by simp))⟩

theorem findFault_tree {l : List Pf} {a : Int} (h : treeFault l ≠ 0) : findFault l a = treeFault l := by unfold findFault; rw [if_pos h]
theorem findFault_range {l : List Pf} {a : Int} (h : treeFault l = 0) (h2 : isA a = false) : findFault l a = 1 := by unfold findFault; rw [if_neg (by simp [h]), if_pos h2]
theorem findFault_none {l : List Pf} {a : Int} (h : treeFault l = 0) (h2 : isA a = true) (h3 : l.filter (inQ (a, 32)) = []) : findFault l a = 4 := by unfold findFault; rw [if_neg (by simp [h]), if_neg (by simp [h2]), if_pos h3]

set_option maxRecDepth 100000 in
set_option maxHeartbeats 1000000 in
theorem find_bad (A : Option Addr) (l : List Pf) (c : Nat) (a : Int) (hm : l.length ≤ maxLen) (hf : findFault l a ≠ 0) (w : World) (hl : Rd w w.heap.size A (cellsP l)) :
    Calls Tryd.prog 40 #[.slice A l.length c, .int .i64 a] w fun e w' => e = .returned (.tuple #[.agg #[.int .i64 0, .int .i64 0], .iface 25 (.int .i64 (findFault l a))]) ∧ Below w.heap.size w w' := by
  have hl1 := (hl.alloc (Nat.le_refl _) (.cells #[.int .i64 0, .int .i64 0] 23)).more (show w.heap.size ≤ (w.alloc (.cells #[.int .i64 0, .int .i64 0] 23)).heap.size by simp)
  have hb0 := (Below.refl w.heap.size w).alloc (Nat.le_refl _) (.cells #[.int .i64 0, .int .i64 0] 23)
  have hR0 := Blk.new w 23 #[.int .i64 0, .int .i64 0]
  by_cases ht : treeFault l = 0
  · have HT := Lib.hid (faultV_ok ht)
    obtain ⟨g1, g2, _⟩ := tree_good ht
    cases ha : isA a
    · have HV := Lib.hid (findFault_range ht ha)
      have HA := Lib.hid ha
      clear ht ha hf
      go_enter Tryd.func40, Tryd.ntmps40
      go_wp2_with fail
      refine (treeCheck_any A l c hm _ hl1).mono ?_
      rintro e w1 ⟨rfl, hb1⟩
      rw [HT.out]
      obtain ⟨r0, r1, q0, q1⟩ := (hR0.below hb1 (by simp)).two
      go_wp2_with fail
      refine (is_any a _).mono ?_
      rintro e w2 ⟨rfl, rfl⟩
      rw [HA.out]
      go_wp2
      have hRf : Blk ((w1.setCell ⟨w.heap.size, 0, none⟩ (.int .i64 0)).setCell ⟨w.heap.size, 1, none⟩ (.int .i64 0)) w.heap.size 23 #[.int .i64 0, .int .i64 0] := by simpa using ((hR0.below hb1 (by simp)).setCell 0 (.int .i64 0)).setCell 1 (.int .i64 0)
      obtain ⟨x0, x1, _⟩ := hRf.two
      refine bodyPost_ret (v := .tuple #[.agg #[.int .i64 0, .int .i64 0], .iface 25 (.int .i64 1)]) (by simp [results, Tryd.results40, go_sem, x0, x1]) rfl ⟨by rw [HV.out], ?_⟩
      exact ((hb0.trans (hb1.mono (by simp))).setCell (by simp) _).setCell (by simp) _
    · by_cases hn : l.filter (inQ (a, 32)) = []
      · have HV := Lib.hid (findFault_none ht ha hn)
        have HA := Lib.hid ha
        have G2 := Lib.hid g2
        have eg : ∀ args w, (callFunc 91 args).run Tryd.prog w = .ok (.enter 91 args) w := fun _ _ => by kernel_rfl
        have EG := Lib.hid eg
        clear ht ha hf g2 eg
        go_enter Tryd.func40, Tryd.ntmps40
        go_wp2_with fail
        refine (treeCheck_any A l c hm _ hl1).mono ?_
        rintro e w1 ⟨rfl, hb1⟩
        rw [HT.out]
        have hs1 := hb1.size
        have hl2 := (hl1.below hb1).more hs1
        have hR1 := hR0.below hb1 (by simp)
        have hb2 := hb0.trans (hb1.mono (by simp))
        simp only [World.size_alloc] at hs1
        clear hb1 hl1 hR0 hb0
        go_wp2_with fail
        refine (is_any a _).mono ?_
        rintro e w2 ⟨rfl, rfl⟩
        rw [HA.out]
        go_wp2_with fail
        have hH := Blk.new w1 23 #[.int .i64 a, .int .i64 32]
        refine (those_any (inQ (a, 32)) A l c _ _ _ ((hl2.alloc (Nat.le_refl _) _).more (by simp)) (by omega) EG.out (fun x hx q hq => findF_any a q HA.out (G2.out q hq) x w1.heap.size (hH.below hx (by simp)))).mono ?_
        rintro e w3 ⟨v, rfl, hown, hb3⟩
        have hR3 := (hR1.alloc (.cells #[.int .i64 a, .int .i64 32] 23)).below hb3 (by simp; omega)
        obtain ⟨r0, r1, q0, q1⟩ := hR3.two
        rw [hn] at hown
        obtain ⟨A3, c3, rfl, _⟩ := hown.form
        clear hn
        go_wp2
        have hRf : Blk ((w3.setCell ⟨w.heap.size, 0, none⟩ (.int .i64 0)).setCell ⟨w.heap.size, 1, none⟩ (.int .i64 0)) w.heap.size 23 #[.int .i64 0, .int .i64 0] := by simpa using (hR3.setCell 0 (.int .i64 0)).setCell 1 (.int .i64 0)
        obtain ⟨x0, x1, _⟩ := hRf.two
        refine bodyPost_ret (v := .tuple #[.agg #[.int .i64 0, .int .i64 0], .iface 25 (.int .i64 4)]) (by simp [results, Tryd.results40, go_sem, x0, x1]) rfl ⟨by rw [HV.out], ?_⟩
        exact (((hb2.alloc (by omega) _).trans (hb3.mono (by simp; omega))).setCell (by simp) _).setCell (by simp) _
      · exact absurd (findFault_of ht ha hn) hf
  · have HT := Lib.hid (faultV_bad ht)
    have HV := Lib.hid (findFault_tree (a := a) ht)
    clear ht hf
    go_enter Tryd.func40, Tryd.ntmps40
    go_wp2_with fail
    refine (treeCheck_any A l c hm _ hl1).mono ?_
    rintro e w1 ⟨rfl, hb1⟩
    rw [HT.out]
    obtain ⟨r0, r1, q0, q1⟩ := (hR0.below hb1 (by simp)).two
    go_wp2
    have hRf : Blk ((w1.setCell ⟨w.heap.size, 0, none⟩ (.int .i64 0)).setCell ⟨w.heap.size, 1, none⟩ (.int .i64 0)) w.heap.size 23 #[.int .i64 0, .int .i64 0] := by simpa using ((hR0.below hb1 (by simp)).setCell 0 (.int .i64 0)).setCell 1 (.int .i64 0)
    obtain ⟨x0, x1, _⟩ := hRf.two
    refine bodyPost_ret (v := .tuple #[.agg #[.int .i64 0, .int .i64 0], .iface 25 (.int .i64 (treeFault l))]) (by simp [results, Tryd.results40, go_sem, x0, x1]) rfl ⟨by rw [HV.out], ?_⟩
    exact ((hb0.trans (hb1.mono (by simp))).setCell (by simp) _).setCell (by simp) _

theorem found_asc {l : List Pf} {a : Int} (hv : ∀ p ∈ l, chkP p = 0) (hs : Sorted l) (ha : isA a = true) : ∀ j (h : j + 1 < (l.filter (inQ (a, 32))).length), (l.filter (inQ (a, 32)))[j].2 < (l.filter (inQ (a, 32)))[j + 1].2 := fun j h => by
  have m1 := List.mem_filter.1 (List.getElem_mem (show j < (l.filter (inQ (a, 32))).length by omega))
  have m2 := List.mem_filter.1 (List.getElem_mem h)
  exact (chain (chk32 ha) (hv _ m1.1) (hv _ m2.1) m1.2 m2.2 (List.pairwise_iff_getElem.1 (hs.filter _) j (j + 1) (by omega) h (by omega))).2
theorem found_at {l : List Pf} {a : Int} (h : findFault l a = 0) (hn : (l.filter (inQ (a, 32))).length - 1 < (l.filter (inQ (a, 32))).length) : (l.filter (inQ (a, 32)))[(l.filter (inQ (a, 32))).length - 1] = findRes l a := by
  have h1 := found_last h
  rw [List.getLast?_eq_getElem?, List.getElem?_eq_getElem hn] at h1
  exact Option.some.inj h1

set_option maxRecDepth 100000 in
set_option maxHeartbeats 1000000 in
theorem find_ok (A : Option Addr) (l : List Pf) (c : Nat) (a : Int) (hf : findFault l a = 0) (w : World) (hl : Rd w w.heap.size A (cellsP l)) :
    Calls Tryd.prog 40 #[.slice A l.length c, .int .i64 a] w fun e w' => e = .returned (.tuple #[.agg #[.int .i64 (findRes l a).1, .int .i64 (findRes l a).2], .nilIface]) ∧ Below w.heap.size w w' := by
  have hl1 := (hl.alloc (Nat.le_refl _) (.cells #[.int .i64 0, .int .i64 0] 23)).more (show w.heap.size ≤ (w.alloc (.cells #[.int .i64 0, .int .i64 0] 23)).heap.size by simp)
  have hb0 := (Below.refl w.heap.size w).alloc (Nat.le_refl _) (.cells #[.int .i64 0, .int .i64 0] 23)
  have hR0 := Blk.new w 23 #[.int .i64 0, .int .i64 0]
  obtain ⟨ht, ha, hn⟩ := findFault_zero hf
  have HT := Lib.hid (faultV_ok ht)
  obtain ⟨g1, g2, g3⟩ := tree_good ht
  obtain ⟨F, hF⟩ : ∃ F, F = l.filter (inQ (a, 32)) := ⟨_, rfl⟩
  have hpos : 0 < F.length := by rw [hF]; exact List.length_pos_iff.2 hn
  have hFl : F.length ≤ l.length := by rw [hF]; exact List.length_filter_le _ _
  have hasc : Hid (∀ j (h : j + 1 < F.length), F[j].2 < F[j + 1].2) := by subst hF; exact found_asc g2 g3 ha
  have hFv : Hid (∀ p ∈ F, 0 ≤ p.2 ∧ p.2 ≤ 32) := by subst hF; exact fun p hp => by have := chk_zero.1 (g2 p (List.mem_filter.1 hp).1); exact ⟨this.1, this.2.1⟩
  have hFe : Hid (∀ h : F.length - 1 < F.length, F[F.length - 1] = findRes l a) := by subst hF; exact fun h => found_at hf h
  obtain ⟨r, hr⟩ : ∃ r, r = findRes l a := ⟨_, rfl⟩
  rw [← hr] at hFe ⊢
  have HA := Lib.hid ha
  have G2 := Lib.hid g2
  have HF := Lib.hid hF
  have eg : ∀ args w, (callFunc 91 args).run Tryd.prog w = .ok (.enter 91 args) w := fun _ _ => by kernel_rfl
  have EG := Lib.hid eg
  have hn0 : ¬ ((F.length : Int) = 0) := by omega
  clear ht ha hf g2 g3 eg hF hn hr
  go_enter Tryd.func40, Tryd.ntmps40
  go_wp2_with fail
  refine (treeCheck_any A l c (by unfold maxLen; omega) _ hl1).mono ?_
  rintro e w1 ⟨rfl, hb1⟩
  rw [HT.out]
  have hs1 := hb1.size
  have hl2 := (hl1.below hb1).more hs1
  have hR1 := hR0.below hb1 (by simp)
  have hb2 := hb0.trans (hb1.mono (by simp))
  simp only [World.size_alloc] at hs1
  clear hb1 hl1 hR0 hb0
  go_wp2_with fail
  refine (is_any a _).mono ?_
  rintro e w2 ⟨rfl, rfl⟩
  rw [HA.out]
  go_wp2_with fail
  have hH := Blk.new w1 23 #[.int .i64 a, .int .i64 32]
  refine (those_any (inQ (a, 32)) A l c _ _ _ ((hl2.alloc (Nat.le_refl _) _).more (by simp)) (by omega) EG.out (fun x hx q hq => findF_any a q HA.out (G2.out q hq) x w1.heap.size (hH.below hx (by simp)))).mono ?_
  rintro e w3 ⟨v, rfl, hown, hb3⟩
  have hR3 := (hR1.alloc (.cells #[.int .i64 a, .int .i64 32] 23)).below hb3 (by simp; omega)
  rw [← HF.out] at hown
  obtain ⟨A3, c3, rfl, hr3⟩ := hown.form
  have hb4 : Below w.heap.size w w3 := (hb2.alloc (by omega) _).trans (hb3.mono (by simp; omega))
  clear hb3 hown hH hR1 hb2
  go_wp2_with fail
  refine (maxLast A3 F c3 hpos (by omega) hFv.out hasc.out w3 hr3).mono ?_
  rintro e w4 ⟨rfl, hb5⟩
  have hs4 := hb4.size
  have hR4 := hR3.below hb5 hR3.lt
  obtain ⟨r0, r1, q0, q1⟩ := hR4.two
  rw [hFe.out (by omega)]
  go_wp2
  have hRf : Blk ((w4.setCell ⟨w.heap.size, 0, none⟩ (.int .i64 r.1)).setCell ⟨w.heap.size, 1, none⟩ (.int .i64 r.2)) w.heap.size 23 #[.int .i64 r.1, .int .i64 r.2] := by simpa using (hR4.setCell 0 (.int .i64 r.1)).setCell 1 (.int .i64 r.2)
  obtain ⟨x0, x1, _⟩ := hRf.two
  refine bodyPost_ret (v := .tuple #[.agg #[.int .i64 r.1, .int .i64 r.2], .nilIface]) (by simp [results, Tryd.results40, go_sem, x0, x1]) rfl ⟨rfl, ?_⟩
  exact ((hb4.trans (hb5.mono hs4)).setCell (by simp) _).setCell (by simp) _
end Go.Proofs.YtcgeagobndhpjaaDoor
