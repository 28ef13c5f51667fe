/- The references Meets, state, FreeFault. Any prefixes that may be (FreeFault: any). -/
import Derived.Test.YtmfaknngophmhaaDoorRefCover
import Derived.Test.YtmfaknngophmhaaDoorFreeMath
import Derived.Test.YtmfaknngophmhaaDoorFitMath
namespace Go.Proofs.YtmfaknngophmhaaDoor
set_option linter.unusedVariables false
set_option linter.unusedSimpArgs false
open Go.RowKit

def meetsQ (p q : Pf) : Bool := decide (p.1 ≤ lastP q) && decide (q.1 ≤ lastP p)
theorem meets_any (a n b m : Int) (hc : chk a n = 0) (hd : chk b m = 0) (w : World) :
    Calls Tryd.prog 84 #[.agg #[.int .i64 a, .int .i64 n], .agg #[.int .i64 b, .int .i64 m]] w fun e w' => e = .returned (.bool (meetsQ (a, n) (b, m))) ∧ Below w.heap.size w w' := by
  obtain ⟨⟨c0, c1⟩, c2, c3⟩ := new22 w (.int .i64 a) (.int .i64 n) (.int .i64 b) (.int .i64 m) 46 46
  obtain ⟨k0, k1⟩ := bel2 (B := w.heap.size + 2) ⟨c0, c1⟩ (by omega)
  obtain ⟨k2, k3⟩ := bel2 (B := w.heap.size + 2) ⟨c2, c3⟩ (by omega)
  clear c0 c1 c2 c3
  by_cases h : a ≤ lastA b m
  · have hr : meetsQ (a, n) (b, m) = decide (b ≤ lastA a n) := by
      unfold meetsQ
      rw [decide_eq_true (show (a, n).1 ≤ lastP (b, m) from h), Bool.true_and]; rfl
    rw [hr]
    clear hr
    go_enter Tryd.func84, Tryd.ntmps84
    go_wp2_with fail
    refine wp_region_bel (w.heap.size + 2) _ (by kernel_rfl) (by kernel_rfl) (Below.refl _ _) ?_
    repeat (go_big_quiet_step ((go_at_call 58; refine Calls.bel_of (by simp) (lastOf_any _ _ ?_ _); assumption)))
    refine wpQuiet_nil ?_
    intro w2 hb2
    clear k0 k1 k2 k3
    go_wp2
    go_ret
    exact ⟨rfl, (((Below.refl _ _).alloc (Nat.le_refl _) _).alloc (by simp) _).trans (hb2.mono (by omega))⟩
  · have hr : meetsQ (a, n) (b, m) = false := by
      unfold meetsQ
      rw [decide_eq_false (show ¬ (a, n).1 ≤ lastP (b, m) from h), Bool.false_and]
    rw [hr]
    clear hr
    have h' : decide (a ≤ lastA b m) = false := by simpa using h
    clear h
    go_enter Tryd.func84, Tryd.ntmps84
    go_wp2_with fail
    refine wp_region_bel (w.heap.size + 2) _ (by kernel_rfl) (by kernel_rfl) (Below.refl _ _) ?_
    repeat (go_big_quiet_step ((go_at_call 58; refine Calls.bel_of (by simp) (lastOf_any _ _ ?_ _); assumption)))
    refine wpQuiet_nil ?_
    intro w2 hb2
    clear k0 k1 k2 k3
    go_wp2
    go_ret
    exact ⟨rfl, (((Below.refl _ _).alloc (Nat.le_refl _) _).alloc (by simp) _).trans (hb2.mono (by omega))⟩

/-- What of a prefix is taken: 0 nothing, 1 all, 2 something. -/
def stT (l : List Pf) (p : Pf) : Nat := if l.any (inQ p) then 1 else if l.any (meetsQ p) then 2 else 0
theorem stT_in {l : List Pf} {p : Pf} {k : Nat} (h : k < l.length) (hi : inQ p l[k] = true) : stT l p = 1 := by
  unfold stT
  rw [if_pos (List.any_eq_true.2 ⟨l[k], List.getElem_mem _, hi⟩)]
/-- How far the loop knows: nothing within so far; has anything met so far. -/
def StTo (l : List Pf) (p : Pf) (k : Nat) (n : Int) : Prop := (l.take k).any (inQ p) = false ∧ n = if (l.take k).any (meetsQ p) then 2 else 0
theorem any_take_succ {α : Type} (f : α → Bool) (l : List α) (k : Nat) (h : k < l.length) : (l.take (k + 1)).any f = ((l.take k).any f || f l[k]) := by
  rw [List.take_succ_eq_append_getElem h, List.any_append]; simp
theorem stTo_step {l : List Pf} {p : Pf} {k : Nat} {n : Int} (h : StTo l p k n) (hk : k < l.length) (hi : inQ p l[k] = false) : StTo l p (k + 1) (if meetsQ p l[k] then 2 else n) := by
  obtain ⟨h1, h2⟩ := h
  refine ⟨by rw [any_take_succ _ _ _ hk, h1, hi]; rfl, ?_⟩
  rw [any_take_succ _ _ _ hk, h2]
  cases (l.take k).any (meetsQ p) <;> cases meetsQ p l[k] <;> rfl
theorem stTo_end {l : List Pf} {p : Pf} {n : Int} (h : StTo l p l.length n) : n = (stT l p : Int) := by
  obtain ⟨h1, h2⟩ := h
  rw [List.take_length] at h1 h2
  unfold stT
  rw [h2, h1]
  cases l.any (meetsQ p) <;> rfl
set_option maxHeartbeats 1600000 in
theorem state_any (p : Pf) (A : Option Addr) (l : List Pf) (c : Nat) (hc : chkP p = 0) (hm : l.length ≤ 60) (hv : ∀ q ∈ l, chkP q = 0) (w : World) (hl : Rd w w.heap.size A (cellsP l)) :
    Calls Tryd.prog 63 #[.agg #[.int .i64 p.1, .int .i64 p.2], .slice A l.length c] w fun e w' => e = .returned (.int .i64 (stT l p : Int)) ∧ Below w.heap.size w w' := by
  have HV := Lib.hid hv
  have HC := Lib.hid hc
  clear hv hc
  have hB := Blk.new w 46 #[.int .i64 p.1, .int .i64 p.2]
  have hb0 := (Below.refl w.heap.size w).alloc (Nat.le_refl _) (.cells #[.int .i64 p.1, .int .i64 p.2] 46)
  go_enter Tryd.func63, Tryd.ntmps63
  go_wp2
  go_loopw [5, 6] (fun v i wr => ∃ (k : Nat) (n : Int), k ≤ l.length ∧ i = .int .i64 k ∧ v = .int .i64 n ∧ Below (w.heap.size + 1) (w.alloc (.cells #[.int .i64 p.1, .int .i64 p.2] 46)) wr ∧ Hid (StTo l p k n)) (fun _ i _ => l.length - (intOf i).toNat)
  case atStart => exact ⟨0, 0, Nat.zero_le _, rfl, rfl, Below.refl _ _, Lib.hid ⟨rfl, rfl⟩⟩
  case round =>
    obtain ⟨k, n, hk, rfl, rfl, hb, HN⟩ := hrel
    have hbw := hb0.trans (hb.mono (by omega))
    have hs := hbw.size
    have hs1 := hb.size
    simp only [World.size_alloc] at hs1
    by_cases hlt : k < l.length
    · obtain ⟨b, off, rfl, hbb, c0, c1⟩ := (hl.below hbw).pair hlt
      obtain ⟨d0, d1, _⟩ := (hB.below hb (by omega)).two
      have hck := HV.out l[k] (List.getElem_mem _)
      have HI := Lib.hid (show Hid (chk l[k].1 l[k].2 = 0) from Lib.hid hck)
      have k0 : ∀ x : BelW wr.heap.size wr, x.1.cell? ⟨b, off + k * 2, none⟩ = some (.int .i64 l[k].1) := BelW.cell c0 (by simp; omega)
      have k1 : ∀ x : BelW wr.heap.size wr, x.1.cell? ⟨b, off + k * 2 + 1, none⟩ = some (.int .i64 l[k].2) := BelW.cell c1 (by simp; omega)
      have k2 : ∀ x : BelW wr.heap.size wr, x.1.cell? ⟨w.heap.size, 0, none⟩ = some (.int .i64 p.1) := BelW.cell d0 (by simp; omega)
      have k3 : ∀ x : BelW wr.heap.size wr, x.1.cell? ⟨w.heap.size, 1, none⟩ = some (.int .i64 p.2) := BelW.cell d1 (by simp; omega)
      have RI := Lib.hid (fun W => (refIn_any p.1 p.2 l[k].1 l[k].2 HC.out hck W))
      have RM := Lib.hid (fun W => (meets_any p.1 p.2 l[k].1 l[k].2 HC.out hck W))
      clear c0 c1 d0 d1 hck HI
      cases hi : inQ p l[k]
      · have HS := Lib.hid (stTo_step HN.out hlt hi)
        have HP := Lib.hid (show inP p.1 p.2 l[k].1 l[k].2 = false from hi)
        clear hi
        go_wp2_with fail
        refine wp_region_bel wr.heap.size wr (by kernel_rfl) (by kernel_rfl) (Below.refl _ _) ?_
        repeat (go_big_quiet_step ((go_at_call 83; exact Calls.bel_of (Nat.le_refl _) (RI.out _))))
        refine wpQuiet_nil ?_
        intro w2 hb2
        rw [HP.out]
        have q0 : ∀ x : BelW w2.heap.size w2, x.1.cell? ⟨b, off + k * 2, none⟩ = some (.int .i64 l[k].1) := BelW.cell (k0 ⟨w2, hb2⟩) (by have := hb2.size; simp; omega)
        have q1 : ∀ x : BelW w2.heap.size w2, x.1.cell? ⟨b, off + k * 2 + 1, none⟩ = some (.int .i64 l[k].2) := BelW.cell (k1 ⟨w2, hb2⟩) (by have := hb2.size; simp; omega)
        have q2 : ∀ x : BelW w2.heap.size w2, x.1.cell? ⟨w.heap.size, 0, none⟩ = some (.int .i64 p.1) := BelW.cell (k2 ⟨w2, hb2⟩) (by have := hb2.size; simp; omega)
        have q3 : ∀ x : BelW w2.heap.size w2, x.1.cell? ⟨w.heap.size, 1, none⟩ = some (.int .i64 p.2) := BelW.cell (k3 ⟨w2, hb2⟩) (by have := hb2.size; simp; omega)
        clear k0 k1 k2 k3
        go_wp2_with fail
        refine wp_region_bel w2.heap.size w2 (by kernel_rfl) (by kernel_rfl) (Below.refl _ _) ?_
        repeat (go_big_quiet_step ((go_at_call 84; exact Calls.bel_of (Nat.le_refl _) (RM.out _))))
        refine wpQuiet_nil ?_
        intro w3 hb3
        clear q0 q1 q2 q3
        have hb4 := hb.trans ((hb2.mono (by omega)).trans (hb3.mono (by have := hb2.size; omega)))
        cases hme : meetsQ p l[k]
        · have HME := Lib.hid (show meetsQ (p.1, p.2) (l[k].1, l[k].2) = false from hme)
          have HS2 := Lib.hid (show StTo l p (k + 1) n by have := HS.out; rwa [hme] at this)
          clear hme
          try rw [HME.out]
          go_wp2_with fail
          go_roundw
          case rel => exact ⟨k + 1, n, by omega, by go_num, rfl, hb4, HS2⟩
          case measure => simp [intOf]; omega
        · have HME := Lib.hid (show meetsQ (p.1, p.2) (l[k].1, l[k].2) = true from hme)
          have HS2 := Lib.hid (show StTo l p (k + 1) 2 by have := HS.out; rwa [hme] at this)
          clear hme
          try rw [HME.out]
          go_wp2_with fail
          go_roundw
          case rel => exact ⟨k + 1, 2, by omega, by go_num, rfl, hb4, HS2⟩
          case measure => simp [intOf]; omega
      · have HS := Lib.hid (stT_in hlt hi)
        have HP := Lib.hid (show inP p.1 p.2 l[k].1 l[k].2 = true from hi)
        clear hi
        go_wp2_with fail
        refine wp_region_bel wr.heap.size wr (by kernel_rfl) (by kernel_rfl) (Below.refl _ _) ?_
        repeat (go_big_quiet_step ((go_at_call 83; exact Calls.bel_of (Nat.le_refl _) (RI.out _))))
        refine wpQuiet_nil ?_
        intro w2 hb2
        rw [HP.out]
        clear k0 k1 k2 k3
        go_wp2_with fail
        go_ret
        exact ⟨by rw [HS.out]; rfl, hbw.trans (hb2.mono hs)⟩
    · obtain rfl : k = l.length := by omega
      have HE := Lib.hid (stTo_end HN.out)
      go_wp2_with fail
      go_ret
      exact ⟨by rw [HE.out]; rfl, hbw⟩
theorem freeFault_p {p : Pf} {l : List Pf} (h : chkP p ≠ 0) : freeFault p l = chkP p := if_pos h
theorem freeFault_full {p : Pf} {l : List Pf} (h : chkP p = 0) (h2 : 60 < l.length) : freeFault p l = 3 := by unfold freeFault; rw [if_neg (by simpa using h), if_pos h2]
theorem freeFault_at {p : Pf} {l : List Pf} {k : Nat} (h : chkP p = 0) (h2 : l.length ≤ 60) (hk : k < l.length) (hg : firstP l = firstP (l.drop k)) (h0 : chkP l[k] ≠ 0) : freeFault p l = chkP l[k] := by
  unfold freeFault; rw [if_neg (by simpa using h), if_neg (by omega), hg, firstP_step l k hk, if_pos h0]
theorem firstP_go {l : List Pf} {k : Nat} (h : k < l.length) (hg : firstP l = firstP (l.drop k)) (h0 : chkP l[k] = 0) : firstP l = firstP (l.drop (k + 1)) := by
  rw [hg, firstP_step l k h, if_neg (by simpa using h0)]
set_option maxHeartbeats 1600000 in
theorem freeFaultRef_any (p : Pf) (A : Option Addr) (l : List Pf) (c : Nat) (hm : l.length ≤ maxLen) (w : World) (hl : Rd w w.heap.size A (cellsP l)) :
    Calls Tryd.prog 28 #[.agg #[.int .i64 p.1, .int .i64 p.2], .slice A l.length c] w fun e w' => e = .returned (.int .i64 (freeFault p l)) ∧ Below w.heap.size w w' := by
  unfold maxLen at hm
  have hb0 := (Below.refl w.heap.size w).alloc (Nat.le_refl _) (.cells #[.int .i64 p.1, .int .i64 p.2] 46)
  by_cases hp : chkP p = 0
  · have HC := Lib.hid (show chk p.1 p.2 = 0 from hp)
    by_cases h60 : l.length ≤ 60
    · go_enter Tryd.func28, Tryd.ntmps28
      have HP := Lib.hid hp
      clear hp
      go_wp2_with fail
      refine (fault_any p.1 p.2 _).mono ?_
      rintro e w1 ⟨rfl, hb1⟩
      rw [HC.out]
      have hbw1 := hb0.trans (hb1.mono (by simp))
      go_wp2_with fail
      go_loopw [5, 6] (fun v i wr => ∃ (k : Nat), k ≤ l.length ∧ i = .int .i64 k ∧ Below w.heap.size w wr ∧ Hid (firstP l = firstP (l.drop k))) (fun _ i _ => l.length - (intOf i).toNat)
      case atStart => exact ⟨0, Nat.zero_le _, rfl, hbw1, Lib.hid rfl⟩
      case round =>
        obtain ⟨k, hk, rfl, hb, HG⟩ := hrel
        have hs := hb.size
        by_cases hlt : k < l.length
        · obtain ⟨b, off, rfl, hbb, c0, c1⟩ := (hl.below hb).pair hlt
          by_cases h0 : chkP l[k] = 0
          · have HN := Lib.hid (firstP_go hlt HG.out h0)
            have HK := Lib.hid (show chk l[k].1 l[k].2 = 0 from h0)
            clear h0
            go_wp2_with fail
            refine (fault_any l[k].1 l[k].2 _).mono ?_
            rintro e w2 ⟨rfl, hb2⟩
            rw [HK.out]
            go_wp2_with fail
            go_roundw
            case rel => exact ⟨k + 1, by omega, by go_num, hb.trans (hb2.mono hs), HN⟩
            case measure => simp [intOf]; omega
          · have HE := Lib.hid (freeFault_at HP.out h60 hlt HG.out h0)
            have hz : (chk l[k].1 l[k].2 != 0) = true := by simpa using (show ¬ chk l[k].1 l[k].2 = 0 from h0)
            clear h0
            go_wp2_with fail
            refine (fault_any l[k].1 l[k].2 _).mono ?_
            rintro e w2 ⟨rfl, hb2⟩
            go_wp2_with fail
            go_ret
            exact ⟨by rw [HE.out]; rfl, hb.trans (hb2.mono hs)⟩
        · obtain rfl : k = l.length := by omega
          have HE := Lib.hid (show freeFault p l = 0 by
            unfold freeFault
            rw [if_neg (by simpa using HP.out), if_neg (by omega), HG.out, List.drop_length]; rfl)
          go_wp2_with fail
          go_ret
          exact ⟨by rw [HE.out]; rfl, hb⟩
    · have HE := Lib.hid (freeFault_full (l := l) hp (by omega))
      clear hp
      go_enter Tryd.func28, Tryd.ntmps28
      go_wp2_with fail
      refine (fault_any p.1 p.2 _).mono ?_
      rintro e w1 ⟨rfl, hb1⟩
      rw [HC.out]
      go_wp2_with fail
      go_ret
      exact ⟨by rw [HE.out]; rfl, hb0.trans (hb1.mono (by simp))⟩
  · have HE := Lib.hid (freeFault_p (l := l) hp)
    have hz : (chk p.1 p.2 != 0) = true := by simpa using (show ¬ chk p.1 p.2 = 0 from hp)
    clear hp
    go_enter Tryd.func28, Tryd.ntmps28
    go_wp2_with fail
    refine (fault_any p.1 p.2 _).mono ?_
    rintro e w1 ⟨rfl, hb1⟩
    go_wp2_with fail
    go_ret
    exact ⟨by rw [HE.out]; rfl, hb0.trans (hb1.mono (by simp))⟩

theorem meets_iff {p q : Pf} : meetsQ p q = true ↔ p.1 ≤ lastP q ∧ q.1 ≤ lastP p := by simp [meetsQ]
theorem stT_cases (l : List Pf) (p : Pf) : (stT l p = 0 ∧ ∀ q ∈ l, meetsQ p q = false) ∨ (stT l p = 1 ∧ ∃ q ∈ l, inQ p q = true) ∨ (stT l p = 2 ∧ (∀ q ∈ l, inQ p q = false) ∧ ∃ q ∈ l, meetsQ p q = true) := by
  unfold stT
  cases h1 : l.any (inQ p)
  · cases h2 : l.any (meetsQ p)
    · exact .inl ⟨rfl, by simpa using h2⟩
    · exact .inr (.inr ⟨rfl, by simpa using h1, by simpa using h2⟩)
  · exact .inr (.inl ⟨rfl, by simpa using h1⟩)
theorem stT_says (l : List Pf) : Says (stT l) (fun t => !memP l t) := by
  refine ⟨fun p hp h t h1 h2 => ?_, fun p hp h t h1 h2 => ?_, fun p hp h => ?_, fun p hp h => ?_⟩
  · rcases stT_cases l p with ⟨_, g⟩ | ⟨g, _⟩ | ⟨g, _⟩
    · have : ¬ memP l t = true := fun hm => by
        obtain ⟨q, hq, q1, q2⟩ := memP_iff.1 hm
        have := g q hq
        rw [Bool.eq_false_iff, ne_eq, meets_iff] at this
        omega
      simpa using this
    · rw [g] at h; cases h
    · rw [g] at h; cases h
  · rcases stT_cases l p with ⟨g, _⟩ | ⟨_, q, hq, g⟩ | ⟨g, _⟩
    · rw [g] at h; cases h
    · have := inQ_iff.1 g
      have hm := memP_iff.2 ⟨q, hq, (by omega : q.1 ≤ t), (by omega : t ≤ lastP q)⟩
      simp [hm]
    · rw [g] at h; cases h
  · have hl := last_geP p
    rcases stT_cases l p with ⟨g, _⟩ | ⟨_, q, hq, g⟩ | ⟨_, _, q, hq, g⟩
    · exact absurd g h
    · have := inQ_iff.1 g
      exact ⟨p.1, by omega, hl, by simp [memP_iff.2 ⟨q, hq, this.1, (by omega : p.1 ≤ lastP q)⟩]⟩
    · have hg := meets_iff.1 g
      have hlq := last_geP q
      rcases Int.le_total p.1 q.1 with h1 | h1
      · exact ⟨q.1, h1, hg.2, by simp [memP_iff.2 ⟨q, hq, Int.le_refl _, hlq⟩]⟩
      · exact ⟨p.1, by omega, hl, by simp [memP_iff.2 ⟨q, hq, h1, hg.1⟩]⟩
  · have hl : lastP p = p.1 := by unfold lastP lastA; rw [h, sz_32]; omega
    rcases stT_cases l p with ⟨g, _⟩ | ⟨g, _⟩ | ⟨_, g1, q, hq, g⟩
    · exact .inl g
    · exact .inr g
    · have hg := meets_iff.1 g
      have := g1 q hq
      rw [Bool.eq_false_iff, ne_eq, inQ_iff] at this
      exact absurd ⟨by omega, by omega⟩ this
/-- What is free, halved, is the blocks. -/
theorem blocks_halv {p : Pf} {l : List Pf} {k : Nat} (hf : freeFault p l = 0) (hk : p.2 + k = 32) : halvL (stT l) k p = blocksL p l := by
  have hp := (freeFault_zero.1 hf).1
  obtain ⟨h1, h2, h3⟩ := halv_good (stT_says l) k p hp hk
  have hgm := gaps_mem hf
  refine greatest_one (F := memS (gapsL p l)) h2 (coverSet_pairwise (gaps_can hf) (gaps_valid hf)) (fun q hq => ?_) (fun q hq => ⟨coverSet_valid (gaps_valid hf) q hq, fun t t1 t2 => ?_⟩) (fun D hD hF => ?_) (fun D hD hF => coverSet_max (gaps_can hf) (gaps_valid hf) hD hF)
  · obtain ⟨c1, c2, c3⟩ := h1 q hq
    refine ⟨c1, fun t t1 t2 => ?_⟩
    have := inQ_iff.1 c2
    rw [hgm, c3 t t1 t2]
    simp; omega
  · rw [← coverSet_addr (gaps_valid hf)]
    exact memP_iff.2 ⟨q, hq, t1, t2⟩
  · have hge := last_geP D
    have key : ∀ t, D.1 ≤ t → t ≤ lastP D → p.1 ≤ t ∧ t ≤ lastP p ∧ memP l t = false := fun t t1 t2 => by
      have := hF t t1 t2
      rw [hgm] at this
      simpa [and_assoc] using this
    have e1 := key D.1 (Int.le_refl _) hge
    have e2 := key (lastP D) hge (Int.le_refl _)
    exact h3 D hD (inQ_iff.2 ⟨e1.1, e2.2.1⟩) fun t t1 t2 => by simp [(key t t1 t2).2.2]
end Go.Proofs.YtmfaknngophmhaaDoor
