/- Contracts of package free: Best. -/
import Derived.Test.YtmfaknngophmhaaDoorFree2
namespace Go.Proofs.YtmfaknngophmhaaDoor
set_option linter.unusedVariables false
set_option linter.unusedSimpArgs false
open Go.RowKit

def bestFault (p : Pf) (l : List Pf) (n : Int) : Int := if blocksFault p l ≠ 0 then blocksFault p l else if greatFault p l n ≠ 0 then greatFault p l n else if greatL p l n = [] then 4 else 0
def bestV (p : Pf) (l : List Pf) (n : Int) : Pf := if bestFault p l n ≠ 0 then (0, 0) else match bestGo none (greatL p l n) with
  | some b => (b.1, n)
  | none => (0, 0)
def faultV (f : Int) : Value := if f = 0 then .nilIface else .iface 23 (.int .i64 f)
theorem faultV_zero : faultV 0 = .nilIface := rfl
theorem faultV_pos {f : Int} (h : f ≠ 0) : faultV f = .iface 23 (.int .i64 f) := by unfold faultV; rw [if_neg h]
def BestRes (w : World) (p : Pf) (l : List Pf) (n : Int) (e : Ending) (w' : World) : Prop := e = .returned (.tuple #[.agg #[.int .i64 (bestV p l n).1, .int .i64 (bestV p l n).2], faultV (bestFault p l n)]) ∧ Below w.heap.size w w'
theorem BestRes.bad {w w' : World} {p : Pf} {l : List Pf} {n k : Int} (h : bestFault p l n = k) (hn : k ≠ 0) (hb : Below w.heap.size w w') : BestRes w p l n (.returned (.tuple #[.agg #[.int .i64 0, .int .i64 0], .iface 23 (.int .i64 k)])) w' := by
  refine ⟨?_, hb⟩
  unfold bestV
  rw [h, if_pos hn, faultV_pos hn]
theorem BestRes.good {w w' : World} {p : Pf} {l : List Pf} {n : Int} {b : Pf} (h : bestFault p l n = 0) (hg : bestGo none (greatL p l n) = some b) (hb : Below w.heap.size w w') : BestRes w p l n (.returned (.tuple #[.agg #[.int .i64 b.1, .int .i64 n], .nilIface])) w' := by
  refine ⟨?_, hb⟩
  unfold bestV
  rw [h, if_neg (by simp), hg]
  rfl
theorem bestGo_step (G : List Pf) (k : Nat) (c : Pf) (h : k < G.length) : bestGo (some c) (G.drop k) = if c.2 < G[k].2 then bestGo (some G[k]) (G.drop (k + 1)) else bestGo (some c) (G.drop (k + 1)) := by
  rw [List.drop_eq_getElem_cons h, bestGo]
theorem bestGo_first (G : List Pf) (h : 0 < G.length) : bestGo none G = bestGo (some G[0]) (G.drop 1) := by
  cases G with
  | nil => simp at h
  | cons x r => rfl

set_option maxRecDepth 100000 in
set_option maxHeartbeats 2000000 in
theorem best_all (p : Pf) (A : Option Addr) (l : List Pf) (c : Nat) (n : Int) (hm : l.length ≤ maxLen) (w : World) (ht : TabVar w) (hl : Rd w w.heap.size A (cellsP l)) :
    Calls Tryd.prog 37 #[.agg #[.int .i64 p.1, .int .i64 p.2], .slice A l.length c, .int .i64 n] w (BestRes w p l n) := by
  have hgt := ht.lt
  have hbA := ((Below.refl w.heap.size w).alloc (Nat.le_refl _) (.cells #[.int .i64 p.1, .int .i64 p.2] 46)).alloc (by simp) (.cells #[.int .i64 0, .int .i64 0] 46)
  by_cases hf : blocksFault p l = 0
  · have HF := Lib.hid hf
    clear hf
    by_cases hg : greatFault p l n = 0
    · have HG := Lib.hid hg
      have hml := many_le hg
      clear hg
      go_enter Tryd.func37, Tryd.ntmps37
      go_wp2_with fail
      refine (blocks_ok p A l c hm HF.out _ (ht.belowB hbA hgt) ((hl.below hbA).more (by simp; omega))).mono ?_
      rintro e w1 ⟨v1, rfl, hown1, hb1⟩
      have hB1 := (Blk.new (w.alloc (.cells #[.int .i64 p.1, .int .i64 p.2] 46)) 46 #[.int .i64 0, .int .i64 0]).below hb1 (by simp)
      have hP1 := ((Blk.new w 46 #[.int .i64 p.1, .int .i64 p.2]).alloc (.cells #[.int .i64 0, .int .i64 0] 46)).below hb1 (by simp; omega)
      rw [World.size_alloc] at hB1
      have hb2 := hbA.trans (hb1.mono (by simp; omega))
      have hs2 := hb2.size
      obtain ⟨y0, y1, _⟩ := hP1.two
      obtain ⟨A0, c0, rfl, _⟩ := hown1.form
      have hlB := hB1.lt
      clear hb1 hown1
      go_wp2_with fail
      refine (great_good p A l c n hm HG.out _ (ht.belowB hb2 hgt) ((hl.below hb2).more hs2)).mono ?_
      rintro e w3 ⟨v3, rfl, hown3, hb3⟩
      obtain ⟨A1, c1, rfl, hr1⟩ := hown3.form
      have hB3 := hB1.below hb3 hlB
      have hb4 := hb2.trans (hb3.mono hs2)
      have hs4 := hb4.size
      obtain ⟨G, hG⟩ : ∃ G, G = greatL p l n := ⟨_, rfl⟩
      rw [← hG] at hr1 hml
      rw [← hG]
      have hGl : G.length ≤ 4294967296 := Nat.le_trans (manyL_len G n) hml
      have HGE := Lib.hid hG
      have hlB3 := hB3.lt
      clear hb3 hown3 hG hml y0 y1 hP1 hB1 hb2 hs2 hlB
      go_wp2
      go_loopw [12, 13, 37] (fun v _ i wr => ∃ k : Nat, k ≤ G.length ∧ i = .int .i64 k ∧ Below w3.heap.size w3 wr ∧ (k = 0 ∧ v = .int .i64 (-1) ∨ ∃ (j : Nat) (hj : j < G.length), j < k ∧ v = .int .i64 j ∧ bestGo none G = bestGo (some G[j]) (G.drop k))) (fun _ _ i _ => G.length - (intOf i).toNat)
      case atStart => exact ⟨0, Nat.zero_le _, rfl, Below.refl _ _, .inl ⟨rfl, rfl⟩⟩
      case round =>
        obtain ⟨k, hk, rfl, hb, hrel2⟩ := hrel
        have hs := hb.size
        by_cases hlt : k < G.length
        · obtain ⟨wo, rfl⟩ : ∃ wo : World, wo = wr := ⟨_, rfl⟩
          obtain ⟨b, off, rfl, hbb, d0, d1⟩ := (hr1.below hb).pair hlt
          have k1 : ∀ x : BelW wo.heap.size wo, x.1.cell? ⟨b, off + k * 2 + 1, none⟩ = some (.int .i64 G[k].2) := BelW.cell d1 (World.block_lt_of_cell? wo _ d1)
          clear d0 d1
          rcases hrel2 with ⟨rfl, rfl⟩ | ⟨j, hj, hjk, rfl, hgo⟩
          · have HB := Lib.hid (bestGo_first G hlt)
            have hneg : decide ((-1 : Int) < 0) = true := rfl
            go_wp2_with fail
            refine wp_region_bel wo.heap.size wo (by kernel_rfl) (by kernel_rfl) (Below.refl _ _) ?_
            repeat (go_big_quiet_step (fail))
            refine wpQuiet_nil ?_
            intro w5 hb5
            clear k1
            go_wp2
            go_roundw
            case rel => exact ⟨1, by omega, by go_num, hb.trans (hb5.mono hs), .inr ⟨0, hlt, by omega, rfl, HB.out⟩⟩
            case measure => simp [intOf]; omega
          · obtain ⟨b', off', he, _, _, f1⟩ := (hr1.below hb).pair hj
            obtain ⟨rfl, rfl⟩ : b = b' ∧ off = off' := by simpa using he
            clear he
            have k2 : ∀ x : BelW wo.heap.size wo, x.1.cell? ⟨b, off + j * 2 + 1, none⟩ = some (.int .i64 G[j].2) := BelW.cell f1 (World.block_lt_of_cell? wo _ f1)
            clear f1
            have hneg : decide ((j : Int) < 0) = false := by simp
            have hstep := bestGo_step G k G[j] hlt
            by_cases hcmp : G[j].2 < G[k].2
            · rw [if_pos hcmp] at hstep
              have HB := Lib.hid (hgo.trans hstep)
              have hc : decide (G[j].2 < G[k].2) = true := by simpa using hcmp
              clear hgo hstep
              go_wp2_with fail
              refine wp_region_bel wo.heap.size wo (by kernel_rfl) (by kernel_rfl) (Below.refl _ _) ?_
              repeat (go_big_quiet_step (fail))
              refine wpQuiet_nil ?_
              intro w5 hb5
              clear k1 k2
              go_wp2
              go_roundw
              case rel => exact ⟨k + 1, by omega, by go_num, hb.trans (hb5.mono hs), .inr ⟨k, hlt, by omega, rfl, HB.out⟩⟩
              case measure => simp [intOf]; omega
            · rw [if_neg hcmp] at hstep
              have HB := Lib.hid (hgo.trans hstep)
              have hc : decide (G[j].2 < G[k].2) = false := by simpa using hcmp
              clear hgo hstep
              go_wp2_with fail
              refine wp_region_bel wo.heap.size wo (by kernel_rfl) (by kernel_rfl) (Below.refl _ _) ?_
              repeat (go_big_quiet_step (fail))
              refine wpQuiet_nil ?_
              intro w5 hb5
              clear k1 k2
              go_wp2
              go_roundw
              case rel => exact ⟨k + 1, by omega, by go_num, hb.trans (hb5.mono hs), .inr ⟨j, hj, by omega, rfl, HB.out⟩⟩
              case measure => simp [intOf]; omega
        · obtain rfl : k = G.length := by omega
          have hB5 := hB3.below hb hlB3
          obtain ⟨x0, x1, hz1, hz2⟩ := hB5.two
          rcases hrel2 with ⟨h0, rfl⟩ | ⟨j, hj, hjk, rfl, hgo⟩
          · have hnil : G = [] := List.length_eq_zero_iff.1 h0
            have HZ := Lib.hid (show bestFault p l n = 4 by unfold bestFault; rw [if_neg (by simp [HF.out]), if_neg (by simp [HG.out]), if_pos (by rw [← HGE.out]; exact hnil)])
            go_wp2
            refine bodyPost_ret (v := .tuple #[.agg #[.int .i64 0, .int .i64 0], .iface 23 (.int .i64 4)]) (by simp [results, Tryd.results37, go_sem, x0, x1]) rfl ?_
            exact BestRes.bad HZ.out (by decide) (((hb4.trans (hb.mono hs4)).setCell (by simp) _).setCell (by simp) _)
          · have hne : G ≠ [] := fun h => by rw [h] at hj; simp at hj
            have HZ := Lib.hid (show bestFault p l n = 0 by unfold bestFault; rw [if_neg (by simp [HF.out]), if_neg (by simp [HG.out]), if_neg (by rw [← HGE.out]; exact hne)])
            rw [List.drop_length] at hgo
            have HGO := Lib.hid (show bestGo none (greatL p l n) = some G[j] by rw [← HGE.out, hgo]; rfl)
            obtain ⟨b, off, rfl, hbb, d0, d1⟩ := (hr1.below hb).pair hj
            clear hgo hne
            go_wp2
            refine bodyPost_ret (v := .tuple #[.agg #[.int .i64 G[j].1, .int .i64 n], .nilIface]) (by simp [results, Tryd.results37, go_sem, x0, x1]) rfl ?_
            exact BestRes.good HZ.out HGO.out (((hb4.trans (hb.mono hs4)).setCell (by simp) _).setCell (by simp) _)
    · have HG := Lib.hid hg
      have HZ := Lib.hid (show bestFault p l n = greatFault p l n by unfold bestFault; rw [if_neg (by simp [HF.out]), if_pos hg])
      clear hg
      go_enter Tryd.func37, Tryd.ntmps37
      go_wp2_with fail
      refine (blocks_ok p A l c hm HF.out _ (ht.belowB hbA hgt) ((hl.below hbA).more (by simp; omega))).mono ?_
      rintro e w1 ⟨v1, rfl, hown1, hb1⟩
      have hB1 := (Blk.new (w.alloc (.cells #[.int .i64 p.1, .int .i64 p.2] 46)) 46 #[.int .i64 0, .int .i64 0]).below hb1 (by simp)
      have hP1 := ((Blk.new w 46 #[.int .i64 p.1, .int .i64 p.2]).alloc (.cells #[.int .i64 0, .int .i64 0] 46)).below hb1 (by simp; omega)
      rw [World.size_alloc] at hB1
      have hb2 := hbA.trans (hb1.mono (by simp; omega))
      have hs2 := hb2.size
      obtain ⟨y0, y1, _⟩ := hP1.two
      obtain ⟨A0, c0, rfl, _⟩ := hown1.form
      have hlB := hB1.lt
      clear hb1 hown1
      go_wp2_with fail
      refine (great_bad p A l c n hm HG.out _ (ht.belowB hb2 hgt) ((hl.below hb2).more hs2)).mono ?_
      rintro e w3 ⟨rfl, hb3⟩
      have hB3 := hB1.below hb3 hlB
      obtain ⟨x0, x1, hz1, hz2⟩ := hB3.two
      have hb4 := hb2.trans (hb3.mono hs2)
      clear hb3 y0 y1 hP1 hB1 hb2
      go_wp2
      refine bodyPost_ret (v := .tuple #[.agg #[.int .i64 0, .int .i64 0], .iface 23 (.int .i64 (greatFault p l n))]) (by simp [results, Tryd.results37, go_sem, x0, x1]) rfl ?_
      exact BestRes.bad HZ.out HG.out ((hb4.setCell (by simp) _).setCell (by simp) _)
  · have HF := Lib.hid hf
    have HZ := Lib.hid (show bestFault p l n = blocksFault p l by unfold bestFault; rw [if_pos hf])
    clear hf
    go_enter Tryd.func37, Tryd.ntmps37
    go_wp2_with fail
    refine (blocks_bad p A l c hm HF.out _ (ht.belowB hbA hgt) ((hl.below hbA).more (by simp; omega))).mono ?_
    rintro e w1 ⟨rfl, hb1⟩
    have hB1 := (Blk.new (w.alloc (.cells #[.int .i64 p.1, .int .i64 p.2] 46)) 46 #[.int .i64 0, .int .i64 0]).below hb1 (by simp)
    rw [World.size_alloc] at hB1
    obtain ⟨x0, x1, hz1, hz2⟩ := hB1.two
    have hb2 := hbA.trans (hb1.mono (by simp; omega))
    clear hb1
    go_wp2
    refine bodyPost_ret (v := .tuple #[.agg #[.int .i64 0, .int .i64 0], .iface 23 (.int .i64 (blocksFault p l))]) (by simp [results, Tryd.results37, go_sem, x0, x1]) rfl ?_
    exact BestRes.bad HZ.out HF.out ((hb2.setCell (by simp) _).setCell (by simp) _)
end Go.Proofs.YtmfaknngophmhaaDoor
