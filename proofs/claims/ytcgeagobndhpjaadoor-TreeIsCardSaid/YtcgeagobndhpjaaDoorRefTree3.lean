/- The references of trees: FindIn, AboveOf. Any list that may be. -/
import Derived.Test.YtcgeagobndhpjaaDoorRefTree
namespace Go.Proofs.YtcgeagobndhpjaaDoor
set_option linter.unusedVariables false
set_option linter.unusedSimpArgs false
open Go.RowKit

theorem refIn_lit (p q : Pf) (b : Bool) (hp : chkP p = 0) (hq : chkP q = 0) (h : inQ p q = b) (w : World) :
    Calls Tryd.prog 29 #[.agg #[.int .i64 p.1, .int .i64 p.2], .agg #[.int .i64 q.1, .int .i64 q.2]] w fun e w' => e = .returned (.bool b) ∧ Below w.heap.size w w' := by
  rw [← h]; exact refIn_any p.1 p.2 q.1 q.2 hp hq w
theorem same_lit (p q : Pf) (b : Bool) (h : decide (p = q) = b) (w : World) :
    Calls Tryd.prog 85 #[.agg #[.int .i64 p.1, .int .i64 p.2], .agg #[.int .i64 q.1, .int .i64 q.2]] w fun e w' => e = .returned (.bool b) ∧ Below w.heap.size w w' := by
  rw [← h]; exact same_any p q w

set_option maxRecDepth 100000 in
set_option maxHeartbeats 2000000 in
theorem findRef_any (A : Option Addr) (l : List Pf) (c : Nat) (a : Int) (ht : treeFault l = 0) (ha : isA a = true) (w : World) (hl : Rd w w.heap.size A (cellsP l)) :
    Calls Tryd.prog 39 #[.slice A l.length c, .int .i64 a] w fun e w' => ∃ best : Int, e = .returned (.int .i64 best) ∧ FindRel l a l.length best ∧ Below w.heap.size w w' := by
  obtain ⟨g1, g2, g3⟩ := tree_good ht
  have HV := Lib.hid g2
  have HL : Hid (∀ j k (hk : k < l.length) (hj : j < k), inQ (a, 32) l[j] = true → inQ (a, 32) l[k] = true → l[j].2 < l[k].2) := fun j k hk hj h1 h2 => find_longer g2 g3 ha hk hj h1 h2
  clear g2 g3 ht ha
  go_enter Tryd.func39, Tryd.ntmps39
  go_wp2
  go_loopw [5, 6] (fun v i wr => ∃ (k : Nat) (best : Int), k ≤ l.length ∧ i = .int .i64 k ∧ v = .int .i64 best ∧ FindRel l a k best ∧ Below w.heap.size w wr) (fun _ i _ => l.length - (intOf i).toNat)
  case atStart => exact ⟨0, -1, Nat.zero_le _, rfl, rfl, FindRel.start l a, Below.refl _ _⟩
  case round =>
    obtain ⟨k, best, hk, rfl, rfl, hr, hb⟩ := hrel
    have hs := hb.size
    by_cases hlt : k < l.length
    · obtain ⟨b, off, rfl, hbb, c0, c1⟩ := (hl.below hb).pair hlt
      have k0 : ∀ x : BelW wr.heap.size wr, x.1.cell? ⟨b, off + k * 2, none⟩ = some (.int .i64 l[k].1) := BelW.cell c0 (by simp; omega)
      have k1 : ∀ x : BelW wr.heap.size wr, x.1.cell? ⟨b, off + k * 2 + 1, none⟩ = some (.int .i64 l[k].2) := BelW.cell c1 (by simp; omega)
      have HC : Hid (chk l[k].1 l[k].2 = 0) := HV.out l[k] (List.getElem_mem _)
      by_cases h1 : l[k].1 ≤ a
      · have hd1 : decide (l[k].1 ≤ a) = true := by simpa using h1
        by_cases h2 : a ≤ lastA l[k].1 l[k].2
        · have hd2 : decide (a ≤ lastA l[k].1 l[k].2) = true := by simpa using h2
          have hin : inQ (a, 32) l[k] = true := has_iff.2 ⟨h1, h2⟩
          have HY := Lib.hid (FindRel.yes hlt hin)
          rcases hr with ⟨rfl, hr⟩ | ⟨j, hj, hjk, rfl, hj1, hj2⟩
          · clear hr hin h1 h2
            go_wp2_with fail
            refine wp_region_bel wr.heap.size wr (by kernel_rfl) (by kernel_rfl) (Below.refl _ _) ?_
            repeat (go_big_quiet_step ((go_at_call 23; exact Calls.bel_of (Nat.le_refl _) (lastOf_any _ _ HC.out _))))
            refine wpQuiet_nil ?_
            intro w3 hb5
            clear k0 k1 c0 c1
            go_wp2
            go_roundw
            case rel => exact ⟨k + 1, k, by omega, by go_num, rfl, HY.out, hb.trans (hb5.mono hs)⟩
            case measure => simp [intOf]; omega
          · have hlen := HL.out j k hlt hjk hj1 hin
            have hj0 : decide ((j : Int) < 0) = false := by simp
            have hd3 : decide (l[j].2 < l[k].2) = true := by simpa using hlen
            obtain ⟨b', off', he, _, d0, d1⟩ := (hl.below hb).pair hj
            obtain ⟨rfl, rfl⟩ : b = b' ∧ off = off' := by simpa using he
            have k2 : ∀ x : BelW wr.heap.size wr, x.1.cell? ⟨b, off + j * 2 + 1, none⟩ = some (.int .i64 l[j].2) := BelW.cell d1 (by simp; omega)
            clear he hj1 hj2 hin h1 h2
            go_wp2_with fail
            refine wp_region_bel wr.heap.size wr (by kernel_rfl) (by kernel_rfl) (Below.refl _ _) ?_
            repeat (go_big_quiet_step ((go_at_call 23; exact Calls.bel_of (Nat.le_refl _) (lastOf_any _ _ HC.out _))))
            refine wpQuiet_nil ?_
            intro w3 hb5
            clear k0 k1 k2 c0 c1 d0 d1
            go_wp2
            go_roundw
            case rel => exact ⟨k + 1, k, by omega, by go_num, rfl, HY.out, hb.trans (hb5.mono hs)⟩
            case measure => simp [intOf]; omega
        · have hd2 : decide (a ≤ lastA l[k].1 l[k].2) = false := by simpa using h2
          have HY := Lib.hid (hr.no hlt (by
            have : ¬ inQ (a, 32) l[k] = true := fun h => h2 (has_iff.1 h).2
            simpa using this))
          clear hr h1 h2
          go_wp2_with fail
          refine wp_region_bel wr.heap.size wr (by kernel_rfl) (by kernel_rfl) (Below.refl _ _) ?_
          repeat (go_big_quiet_step ((go_at_call 23; exact Calls.bel_of (Nat.le_refl _) (lastOf_any _ _ HC.out _))))
          refine wpQuiet_nil ?_
          intro w3 hb5
          clear k0 k1 c0 c1
          go_wp2
          go_roundw
          case rel => exact ⟨k + 1, best, by omega, by go_num, rfl, HY.out, hb.trans (hb5.mono hs)⟩
          case measure => simp [intOf]; omega
      · have hd1 : decide (l[k].1 ≤ a) = false := by simpa using h1
        have HY := Lib.hid (hr.no hlt (by
          have : ¬ inQ (a, 32) l[k] = true := fun h => h1 (has_iff.1 h).1
          simpa using this))
        clear hr h1
        go_wp2_with fail
        refine wp_region_bel wr.heap.size wr (by kernel_rfl) (by kernel_rfl) (Below.refl _ _) ?_
        repeat (go_big_quiet_step (fail))
        refine wpQuiet_nil ?_
        intro w3 hb5
        clear k0 k1 c0 c1
        go_wp2
        go_roundw
        case rel => exact ⟨k + 1, best, by omega, by go_num, rfl, HY.out, hb.trans (hb5.mono hs)⟩
        case measure => simp [intOf]; omega
    · obtain rfl : k = l.length := by omega
      have HR := Lib.hid hr
      clear hr
      go_wp2
      go_ret
      exact ⟨best, rfl, HR.out, hb⟩

theorem aboveGo_len (l : List Pf) (p : Pf) : ∀ n, (aboveGo l p n).length ≤ n * l.length
  | 0 => by simp [aboveGo]
  | n + 1 => by
    rw [aboveGo_succ, List.length_append, Nat.add_mul, Nat.one_mul]
    exact Nat.add_le_add (aboveGo_len l p n) (List.length_filter_le _ _)

set_option maxRecDepth 100000 in
set_option maxHeartbeats 1000000 in
theorem aboveRef_any (A : Option Addr) (l : List Pf) (c : Nat) (p : Pf) (ht : treeFault l = 0) (hp : chkP p = 0) (w : World) (hl : Rd w w.heap.size A (cellsP l)) :
    Calls Tryd.prog 41 #[.slice A l.length c, .agg #[.int .i64 p.1, .int .i64 p.2]] w (OwnRes 23 w (l.filter (aboveOf p))) := by
  obtain ⟨g1, g2, g3⟩ := tree_good ht
  have HV := Lib.hid g2
  have HP := Lib.hid hp
  have HE := Lib.hid (above_eq g2 g3 hp)
  obtain ⟨p1, p2, _⟩ := chk_zero.1 hp
  obtain ⟨P, hP⟩ : ∃ P : Nat, p.2 = (P : Int) := ⟨p.2.toNat, by omega⟩
  have HE2 : Hid (aboveGo l p P = l.filter (aboveOf p)) := by rw [← HE.out, hP]; rfl
  have hP32 : P ≤ 32 := by omega
  have hb0 := (Below.refl w.heap.size w).alloc (Nat.le_refl _) (.cells #[.int .i64 p.1, .int .i64 p.2] 23)
  have hB0 := Blk.new w 23 #[.int .i64 p.1, .int .i64 p.2]
  have hnil := OwnP.nil (w.alloc (.cells #[.int .i64 p.1, .int .i64 p.2] 23)) (w.heap.size + 1) 23
  have HP2 := Lib.hid hP
  clear g2 g3 ht hp p1 p2 HE hP
  go_enter Tryd.func41, Tryd.ntmps41
  go_wp2
  go_loopw [5, 6, 7, 8] (fun v n _ _ wr => ∃ m : Nat, m ≤ P ∧ n = .int .i64 m ∧ Below w.heap.size w wr ∧ Blk wr w.heap.size 23 #[.int .i64 p.1, .int .i64 p.2] ∧ OwnP wr (w.heap.size + 1) 23 v (aboveGo l p m)) (fun _ n _ _ _ => P - (intOf n).toNat)
  case atStart => exact ⟨0, Nat.zero_le _, rfl, hb0, hB0, hnil⟩
  case round =>
    obtain ⟨m, hm, rfl, hb, hB, hown⟩ := hrel
    have hs := hb.size
    obtain ⟨c0, c1, _⟩ := hB.two
    by_cases hmP : m < P
    · have hmp : (m : Int) < p.2 := by have := HP2.out; omega
      have hgl : (aboveGo l p m).length ≤ 2000 := Nat.le_trans (aboveGo_len l p m) (Nat.le_trans (Nat.mul_le_mul (show m ≤ 32 by omega) g1) (by decide))
      obtain ⟨wo, rfl⟩ : ∃ wo : World, wo = wr := ⟨_, rfl⟩
      go_wp2
      go_loopw [5, 7, 8] (fun v i _ wr => ∃ k : Nat, k ≤ l.length ∧ i = .int .i64 k ∧ Below w.heap.size w wr ∧ Blk wr w.heap.size 23 #[.int .i64 p.1, .int .i64 p.2] ∧ OwnP wr (w.heap.size + 1) 23 v (aboveGo l p m ++ (l.take k).filter fun x => inQ p x && decide (x.2 = (m : Int)))) (fun _ i _ _ => l.length - (intOf i).toNat)
      case atStart => exact ⟨0, Nat.zero_le _, rfl, hb, hB, by simpa using hown⟩
      case round =>
        obtain ⟨k, hk, rfl, hb2, hB2, hown2⟩ := hrel
        have hs2 := hb2.size
        obtain ⟨q0, q1, _⟩ := hB2.two
        by_cases hlt : k < l.length
        · obtain ⟨b, off, rfl, hbb, d0, d1⟩ := (hl.below hb2).pair hlt
          obtain ⟨k0, k1⟩ := bel2 (B := wr.heap.size) (W := wr) ⟨q0, q1⟩ hB2.lt
          have k2 : ∀ x : BelW wr.heap.size wr, x.1.cell? ⟨b, off + k * 2, none⟩ = some (.int .i64 l[k].1) := BelW.cell d0 (by simp; omega)
          have k3 : ∀ x : BelW wr.heap.size wr, x.1.cell? ⟨b, off + k * 2 + 1, none⟩ = some (.int .i64 l[k].2) := BelW.cell d1 (by simp; omega)
          have HC := Lib.hid (HV.out l[k] (List.getElem_mem _))
          obtain ⟨i1, hi1⟩ : ∃ i1, inQ p l[k] = i1 := ⟨_, rfl⟩
          have HI := Lib.hid hi1
          have hsn := takeFilter_snoc (fun x => inQ p x && decide (x.2 = (m : Int))) l k hlt
          have hfl : ((l.take k).filter fun x => inQ p x && decide (x.2 = (m : Int))).length ≤ k := Nat.le_trans (List.length_filter_le _ _) (List.length_take_le _ _)
          have HS := Lib.hid hsn
          clear hi1 hsn q0 q1
          go_wp2_with fail
          refine wp_region_bel wr.heap.size wr (by kernel_rfl) (by kernel_rfl) (Below.refl _ _) ?_
          repeat (go_big_quiet_step ((go_at_call 29; exact Calls.bel_of (Nat.le_refl _) (refIn_lit _ _ _ HP.out HC.out HI.out _))))
          refine wpQuiet_nil ?_
          intro w3 hb5
          clear k0 k1 k2 k3
          have e0 := (hb5.cell (p := ⟨b, off + k * 2, none⟩) (by simp; omega)).trans d0
          have e1 := (hb5.cell (p := ⟨b, off + k * 2 + 1, none⟩) (by simp; omega)).trans d1
          have hB3 := hB2.below hb5 hB2.lt
          have hown3 := hown2.below hb5
          have hb3 := hb2.trans (hb5.mono hs2)
          have hs3 := hb3.size
          clear d0 d1 hown2 hB2 hb5 hb2
          by_cases hlen : l[k].2 = (m : Int)
          · cases i1
            · have HN := Lib.hid (show OwnP w3 (w.heap.size + 1) 23 _ (aboveGo l p m ++ (l.take (k + 1)).filter fun x => inQ p x && decide (x.2 = (m : Int))) by rw [HS.out, if_neg (by simp [HI.out]), List.append_nil]; exact hown3)
              have hz : (l[k].2 == (m : Int)) = true := by simpa using hlen
              go_wp2
              go_roundw
              case rel => exact ⟨k + 1, by omega, by go_num, hb3, hB3, HN.out⟩
              case measure => simp [intOf]; omega
            · have hz : (l[k].2 == (m : Int)) = true := by simpa using hlen
              have HL := Lib.hid hlen
              clear hlen
              go_wp2_with (at_builtin; refine wpList_append_pair (p := l[k]) rfl _ _ 51 rfl Tryd.underlying51 infoPfx (w.heap.size + 1) _ _ rfl hown3 rfl (by simp only [List.length_append]; omega) hB3.lt ?_; intro v5 w5 hown5 hb9)
              have hB5 := hB3.below hb9 (by omega)
              go_roundw
              case rel => exact ⟨k + 1, by omega, by go_num, hb3.trans (hb9.mono (by omega)), hB5, by rw [HS.out, if_pos (by simp [HI.out, HL.out]), ← List.append_assoc]; exact hown5⟩
              case measure => simp [intOf]; omega
          · have HN := Lib.hid (show OwnP w3 (w.heap.size + 1) 23 _ (aboveGo l p m ++ (l.take (k + 1)).filter fun x => inQ p x && decide (x.2 = (m : Int))) by rw [HS.out, if_neg (by simp [hlen]), List.append_nil]; exact hown3)
            have hz : (l[k].2 == (m : Int)) = false := by simpa using hlen
            clear hlen
            go_wp2
            go_roundw
            case rel => exact ⟨k + 1, by omega, by go_num, hb3, hB3, HN.out⟩
            case measure => simp [intOf]; omega
        · obtain rfl : k = l.length := by omega
          have HN := Lib.hid (show OwnP wr (w.heap.size + 1) 23 _ (aboveGo l p (m + 1)) by rw [aboveGo_succ]; rw [List.take_length] at hown2; exact hown2)
          go_wp2
          go_roundw
          case rel => exact ⟨m + 1, by omega, by go_num, hb2, hB2, HN.out⟩
          case measure => simp [intOf]; omega
    · obtain rfl : m = P := by omega
      have hmp : ¬ (m : Int) < p.2 := by have := HP2.out; omega
      have hmd : decide ((m : Int) < p.2) = false := by simpa using hmp
      go_wp2
      go_ret
      exact ⟨_, rfl, by rw [← HE2.out]; exact own_of_base hown (by omega), hb⟩
end Go.Proofs.YtcgeagobndhpjaaDoor
