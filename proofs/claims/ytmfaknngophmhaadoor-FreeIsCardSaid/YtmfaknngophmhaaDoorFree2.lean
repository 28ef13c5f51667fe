/- Contracts of package free: great, First, Best, Many. -/
import Derived.Test.YtmfaknngophmhaaDoorFree
import Derived.Test.YtmfaknngophmhaaDoorFitMath
namespace Go.Proofs.YtmfaknngophmhaaDoor
set_option linter.unusedVariables false
set_option linter.unusedSimpArgs false
open Go.RowKit

def GreatRes (w : World) (p : Pf) (l : List Pf) (n : Int) (e : Ending) (w' : World) : Prop := Below w.heap.size w w' ∧ (greatFault p l n = 0 → ∃ v, e = .returned (.tuple #[v, .nilIface]) ∧ OwnP w' w.heap.size 46 v (greatL p l n)) ∧
  (greatFault p l n ≠ 0 → e = .returned (.tuple #[.slice none 0 0, .iface 23 (.int .i64 (greatFault p l n))]))
theorem GreatRes.bad {w w' : World} {p : Pf} {l : List Pf} {n k : Int} (h : greatFault p l n = k) (hn : k ≠ 0) (hb : Below w.heap.size w w') : GreatRes w p l n (.returned (.tuple #[.slice none 0 0, .iface 23 (.int .i64 k)])) w' :=
  ⟨hb, fun h0 => absurd (h.symm.trans h0) hn, fun _ => by rw [h]⟩
theorem take_len_le {α : Type} (l : List α) (k : Nat) : (l.take k).length ≤ l.length := by rw [List.length_take]; omega

set_option maxRecDepth 100000 in
set_option maxHeartbeats 1000000 in
theorem great_all (p : Pf) (A : Option Addr) (l : List Pf) (c : Nat) (n : Int) (hm : l.length ≤ maxLen) (w : World) (ht : TabVar w) (hl : Rd w w.heap.size A (cellsP l)) :
    Calls Tryd.prog 65 #[.agg #[.int .i64 p.1, .int .i64 p.2], .slice A l.length c, .int .i64 n] w (GreatRes w p l n) := by
  have hgt := ht.lt
  have hbA := (Below.refl w.heap.size w).alloc (Nat.le_refl _) (.cells #[.int .i64 p.1, .int .i64 p.2] 46)
  by_cases hf : freeFault p l = 0
  · have HF := Lib.hid hf
    clear hf
    have finish : (p.2 ≤ n ∧ n ≤ 32) ∨ ¬ (p.2 ≤ n ∧ n ≤ 32) := Classical.em _
    rcases finish with hin | hout
    · obtain ⟨hn1, hn2⟩ := hin
      have hn1' : ¬ n < p.2 := by omega
      have hn2' : ¬ 32 < n := by omega
      have HZ := Lib.hid (show greatFault p l n = 0 from greatFault_zero.2 ⟨HF.out, hn1, hn2⟩)
      go_enter Tryd.func65, Tryd.ntmps65
      go_wp2_with fail
      refine (gaps_ok p A l c hm HF.out _ ((hl.alloc (Nat.le_refl _) _).more (by simp))).mono ?_
      rintro e w1 ⟨v1, rfl, hown1, hb1⟩
      obtain ⟨A1, c1, rfl, hr1⟩ := hown1.form
      have hB1 := (Blk.new w 46 #[.int .i64 p.1, .int .i64 p.2]).below hb1 (by simp)
      obtain ⟨x0, x1, _⟩ := hB1.two
      have hb2 := hbA.trans (hb1.mono (by simp))
      have hs2 := hb2.size
      clear hb1 hown1
      go_wp2_with fail
      refine (all_any A1 _ c1 (gaps_valid HF.out) (gaps_len HF.out) _ (ht.belowB hb2 hgt) hr1).mono ?_
      rintro e w3 ⟨v3, rfl, hown3, hb3⟩
      have hb4 := hb2.trans (hb3.mono hs2)
      have hs4 := hb4.size
      obtain ⟨A3, c3, rfl, hr3⟩ := hown3.form
      have hBl := coverSet_len (gaps_valid HF.out)
      have hGl := gaps_len HF.out
      obtain ⟨L, hL⟩ : ∃ L, L = coverSet (gapsL p l) := ⟨_, rfl⟩
      rw [← hL] at hr3 hBl
      rw [← hL]
      have hLb : L.length ≤ 64 * 4294967296 := Nat.le_trans hBl (Nat.mul_le_mul_right _ hGl)
      have HG := Lib.hid (show L.filter (fitB n) = greatL p l n by rw [hL]; rfl)
      clear hown3 hb3 hr1 x0 x1 hB1 hb2 hL hBl hGl
      go_wp2
      go_loopw [10, 12, 34] (fun v _ i wr => ∃ k : Nat, k ≤ L.length ∧ i = .int .i64 k ∧ Below w3.heap.size w3 wr ∧ OwnP wr w3.heap.size 46 v ((L.take k).filter (fitB n))) (fun _ _ i _ => L.length - (intOf i).toNat)
      case atStart => exact ⟨0, Nat.zero_le _, rfl, Below.refl _ _, OwnP.nil _ _ _⟩
      case round =>
        obtain ⟨k, hk, rfl, hb, hown⟩ := hrel
        by_cases hlt : k < L.length
        · have hs := hb.size
          obtain ⟨b, off, rfl, hbb, d0, d1⟩ := (hr3.below hb).pair hlt
          have hsn := takeFilter_snoc (fitB n) L k hlt
          have hfl : ((L.take k).filter (fitB n)).length ≤ k := Nat.le_trans (List.length_filter_le _ _) (List.length_take_le _ _)
          have hbx := hb.alloc hs (.cells #[.int .i64 L[k].1, .int .i64 L[k].2] 46)
          have hownx := hown.alloc (.cells #[.int .i64 L[k].1, .int .i64 L[k].2] 46)
          have hsx := hbx.size
          by_cases hle : L[k].2 ≤ n
          · rw [if_pos (by simpa [fitB] using hle)] at hsn
            have HS := Lib.hid hsn
            clear hsn hb hown
            go_wp2_with (at_builtin; go_loud (refine wpList_append_pair (p := L[k]) rfl _ _ 43 rfl Tryd.underlying43 infoPfx w3.heap.size _ _ rfl hownx (by simp [go_sem]) (by omega) hsx ?_); intro v5 w5 hown5 hb5)
            go_roundw
            case rel => exact ⟨k + 1, by omega, by go_num, hbx.trans hb5, by rw [HS.out]; exact hown5⟩
            case measure => simp [intOf]; omega
          · rw [if_neg (by simpa [fitB] using hle), List.append_nil] at hsn
            have HS := Lib.hid hsn
            have hle' : n < L[k].2 := by omega
            clear hsn hb hown
            go_wp2
            go_roundw
            case rel => exact ⟨k + 1, by omega, by go_num, hbx, by rw [HS.out]; exact hownx⟩
            case measure => simp [intOf]; omega
        · obtain rfl : k = L.length := by omega
          rw [List.take_length, HG.out] at hown
          have hs := hb.size
          go_wp2
          go_ret2
          exact ⟨hb4.trans (hb.mono hs4), fun _ => ⟨_, rfl, own_of_base hown hs4⟩, fun h => absurd HZ.out h⟩
    · have HZ := Lib.hid (show greatFault p l n = 1 by unfold greatFault; rw [if_neg (by simp [HF.out]), if_pos (by omega)])
      go_enter Tryd.func65, Tryd.ntmps65
      go_wp2_with fail
      refine (gaps_ok p A l c hm HF.out _ ((hl.alloc (Nat.le_refl _) _).more (by simp))).mono ?_
      rintro e w1 ⟨v1, rfl, hown1, hb1⟩
      obtain ⟨A1, c1, rfl, hr1⟩ := hown1.form
      have hB1 := (Blk.new w 46 #[.int .i64 p.1, .int .i64 p.2]).below hb1 (by simp)
      obtain ⟨x0, x1, _⟩ := hB1.two
      have hb2 := hbA.trans (hb1.mono (by simp))
      clear hb1 hown1
      by_cases h1 : n < p.2
      · go_wp2
        go_ret2
        exact GreatRes.bad HZ.out (by decide) hb2
      · have h2 : 32 < n := by omega
        go_wp2
        go_ret2
        exact GreatRes.bad HZ.out (by decide) hb2
  · have HZ := Lib.hid (show greatFault p l n = freeFault p l by unfold greatFault; rw [if_pos hf])
    have HF := Lib.hid hf
    clear hf
    go_enter Tryd.func65, Tryd.ntmps65
    go_wp2_with fail
    refine (gaps_bad p A l c hm HF.out _ ((hl.alloc (Nat.le_refl _) _).more (by simp))).mono ?_
    rintro e w1 ⟨rfl, hb1⟩
    go_wp2
    go_ret2
    exact GreatRes.bad HZ.out HF.out (hbA.trans (hb1.mono (by simp)))

theorem great_bad (p : Pf) (A : Option Addr) (l : List Pf) (c : Nat) (n : Int) (hm : l.length ≤ maxLen) (hf : greatFault p l n ≠ 0) (w : World) (ht : TabVar w) (hl : Rd w w.heap.size A (cellsP l)) :
    Calls Tryd.prog 65 #[.agg #[.int .i64 p.1, .int .i64 p.2], .slice A l.length c, .int .i64 n] w fun e w' => e = .returned (.tuple #[.slice none 0 0, .iface 23 (.int .i64 (greatFault p l n))]) ∧ Below w.heap.size w w' := (great_all p A l c n hm w ht hl).mono fun e w' h => ⟨h.2.2 hf, h.1⟩
theorem great_good (p : Pf) (A : Option Addr) (l : List Pf) (c : Nat) (n : Int) (hm : l.length ≤ maxLen) (hf : greatFault p l n = 0) (w : World) (ht : TabVar w) (hl : Rd w w.heap.size A (cellsP l)) :
    Calls Tryd.prog 65 #[.agg #[.int .i64 p.1, .int .i64 p.2], .slice A l.length c, .int .i64 n] w (OwnRes2 46 w (greatL p l n)) := (great_all p A l c n hm w ht hl).mono fun e w' h => by obtain ⟨v, q1, q2⟩ := h.2.1 hf; exact ⟨v, q1, q2, h.1⟩

theorem first_bad (p : Pf) (A : Option Addr) (l : List Pf) (c : Nat) (n : Int) (hm : l.length ≤ maxLen) (hf : greatFault p l n ≠ 0) (w : World) (ht : TabVar w) (hl : Rd w w.heap.size A (cellsP l)) :
    Calls Tryd.prog 36 #[.agg #[.int .i64 p.1, .int .i64 p.2], .slice A l.length c, .int .i64 n] w fun e w' => e = .returned (.tuple #[.agg #[.int .i64 0, .int .i64 0], .iface 23 (.int .i64 (greatFault p l n))]) ∧ Below w.heap.size w w' := by
  have hgt := ht.lt
  have HF := Lib.hid hf
  clear hf
  have hbA := ((Below.refl w.heap.size w).alloc (Nat.le_refl _) (.cells #[.int .i64 p.1, .int .i64 p.2] 46)).alloc (by simp) (.cells #[.int .i64 0, .int .i64 0] 46)
  go_enter Tryd.func36, Tryd.ntmps36
  go_wp2_with fail
  refine (great_bad p A l c n hm HF.out _ (ht.belowB hbA hgt) ((hl.below hbA).more (by simp; omega))).mono ?_
  rintro e w1 ⟨rfl, hb1⟩
  have hB1 := (Blk.new (w.alloc (.cells #[.int .i64 p.1, .int .i64 p.2] 46)) 46 #[.int .i64 0, .int .i64 0]).below hb1 (by simp)
  rw [World.size_alloc] at hB1
  have hb2 := hbA.trans (hb1.mono (by simp; omega))
  have hs2 := hb2.size
  obtain ⟨x0, x1, _⟩ := hB1.two
  have hz1 := hB1.frozen 0
  have hz2 := hB1.frozen 1
  clear hb1
  go_wp2
  refine bodyPost_ret (v := .tuple #[.agg #[.int .i64 0, .int .i64 0], .iface 23 (.int .i64 (greatFault p l n))]) (by simp [results, Tryd.results36, go_sem, x0, x1]) rfl ⟨rfl, ?_⟩
  exact (hb2.setCell (by simp) _).setCell (by simp) _
theorem first_none (p : Pf) (A : Option Addr) (l : List Pf) (c : Nat) (n : Int) (hm : l.length ≤ maxLen) (hf : greatFault p l n = 0) (hg : greatL p l n = []) (w : World) (ht : TabVar w) (hl : Rd w w.heap.size A (cellsP l)) :
    Calls Tryd.prog 36 #[.agg #[.int .i64 p.1, .int .i64 p.2], .slice A l.length c, .int .i64 n] w fun e w' => e = .returned (.tuple #[.agg #[.int .i64 0, .int .i64 0], .iface 23 (.int .i64 4)]) ∧ Below w.heap.size w w' := by
  have hgt := ht.lt
  have HF := Lib.hid hf
  have HG := Lib.hid hg
  clear hf hg
  have hbA := ((Below.refl w.heap.size w).alloc (Nat.le_refl _) (.cells #[.int .i64 p.1, .int .i64 p.2] 46)).alloc (by simp) (.cells #[.int .i64 0, .int .i64 0] 46)
  go_enter Tryd.func36, Tryd.ntmps36
  go_wp2_with fail
  refine (great_good p A l c n hm HF.out _ (ht.belowB hbA hgt) ((hl.below hbA).more (by simp; omega))).mono ?_
  rintro e w1 ⟨v1, rfl, hown1, hb1⟩
  rw [HG.out] at hown1
  obtain ⟨A1, c1, rfl, _⟩ := hown1.form
  have hB1 := (Blk.new (w.alloc (.cells #[.int .i64 p.1, .int .i64 p.2] 46)) 46 #[.int .i64 0, .int .i64 0]).below hb1 (by simp)
  rw [World.size_alloc] at hB1
  have hb2 := hbA.trans (hb1.mono (by simp; omega))
  have hs2 := hb2.size
  obtain ⟨x0, x1, _⟩ := hB1.two
  have hz1 := hB1.frozen 0
  have hz2 := hB1.frozen 1
  clear hb1 hown1
  go_wp2
  refine bodyPost_ret (v := .tuple #[.agg #[.int .i64 0, .int .i64 0], .iface 23 (.int .i64 4)]) (by simp [results, Tryd.results36, go_sem, x0, x1]) rfl ⟨rfl, ?_⟩
  exact (hb2.setCell (by simp) _).setCell (by simp) _
theorem first_ok (p : Pf) (A : Option Addr) (l : List Pf) (c : Nat) (n : Int) (b : Pf) (r : List Pf) (hm : l.length ≤ maxLen) (hf : greatFault p l n = 0) (hg : greatL p l n = b :: r) (w : World) (ht : TabVar w) (hl : Rd w w.heap.size A (cellsP l)) :
    Calls Tryd.prog 36 #[.agg #[.int .i64 p.1, .int .i64 p.2], .slice A l.length c, .int .i64 n] w fun e w' => e = .returned (.tuple #[.agg #[.int .i64 b.1, .int .i64 n], .nilIface]) ∧ Below w.heap.size w w' := by
  have hgt := ht.lt
  have HF := Lib.hid hf
  have HG := Lib.hid hg
  clear hf hg
  have hbA := ((Below.refl w.heap.size w).alloc (Nat.le_refl _) (.cells #[.int .i64 p.1, .int .i64 p.2] 46)).alloc (by simp) (.cells #[.int .i64 0, .int .i64 0] 46)
  go_enter Tryd.func36, Tryd.ntmps36
  go_wp2_with fail
  refine (great_good p A l c n hm HF.out _ (ht.belowB hbA hgt) ((hl.below hbA).more (by simp; omega))).mono ?_
  rintro e w1 ⟨v1, rfl, hown1, hb1⟩
  rw [HG.out] at hown1
  obtain ⟨A1, c1, rfl, hr1⟩ := hown1.form
  obtain ⟨b1, off1, rfl, hbb, d0, _⟩ := hr1.pair (k := 0) (by simp)
  simp only [Nat.zero_mul, Nat.add_zero, List.getElem_cons_zero] at d0
  have hl0 : 0 < (b :: r).length := by simp
  have hl1 : ¬ (((b :: r).length : Int) = 0) := by simp; omega
  obtain ⟨M, hM⟩ : ∃ M, M = (b :: r).length := ⟨_, rfl⟩
  rw [← hM] at hl0 hl1
  rw [← hM]
  clear hM hr1
  have hB1 := (Blk.new (w.alloc (.cells #[.int .i64 p.1, .int .i64 p.2] 46)) 46 #[.int .i64 0, .int .i64 0]).below hb1 (by simp)
  rw [World.size_alloc] at hB1
  have hb2 := hbA.trans (hb1.mono (by simp; omega))
  have hs2 := hb2.size
  obtain ⟨x0, x1, _⟩ := hB1.two
  have hz1 := hB1.frozen 0
  have hz2 := hB1.frozen 1
  clear hb1 hown1
  go_wp2
  refine bodyPost_ret (v := .tuple #[.agg #[.int .i64 b.1, .int .i64 n], .nilIface]) (by simp [results, Tryd.results36, go_sem, x0, x1]) rfl ⟨rfl, ?_⟩
  exact (hb2.setCell (by simp) _).setCell (by simp) _

/- Many -/
theorem manyL_len : ∀ (G : List Pf) (n : Int), G.length ≤ manyL G n
  | [], n => Nat.zero_le _
  | b :: r, n => by
    have h1 := manyL_len r n
    have h2 : 0 < 2 ^ (n - b.2).toNat := Nat.two_pow_pos _
    have h3 : manyL (b :: r) n = 2 ^ (n - b.2).toNat + manyL r n := by simp [manyL]
    rw [h3, List.length_cons]
    omega
theorem shl_at (Y z : Nat) (s : Nat) (hz : z = 2 ^ s) (h : Y + z ≤ 4294967296) : wrap64 ((Y : Int) + wrap64 ((2 : Int) ^ s)) = (Y : Int) + (z : Int) := wrap_shl Y s z hz (by omega) (by omega)
theorem many_bad (p : Pf) (A : Option Addr) (l : List Pf) (c : Nat) (n : Int) (hm : l.length ≤ maxLen) (hf : greatFault p l n ≠ 0) (w : World) (ht : TabVar w) (hl : Rd w w.heap.size A (cellsP l)) :
    Calls Tryd.prog 35 #[.agg #[.int .i64 p.1, .int .i64 p.2], .slice A l.length c, .int .i64 n] w fun e w' => e = .returned (.tuple #[.int .i64 0, .iface 23 (.int .i64 (greatFault p l n))]) ∧ Below w.heap.size w w' := by
  have hgt := ht.lt
  have HF := Lib.hid hf
  clear hf
  have hbA := (Below.refl w.heap.size w).alloc (Nat.le_refl _) (.cells #[.int .i64 p.1, .int .i64 p.2] 46)
  go_enter Tryd.func35, Tryd.ntmps35
  go_wp2_with fail
  refine (great_bad p A l c n hm HF.out _ (ht.belowB hbA hgt) ((hl.below hbA).more (by simp))).mono ?_
  rintro e w1 ⟨rfl, hb1⟩
  go_wp2
  go_ret2
  exact ⟨rfl, hbA.trans (hb1.mono (by simp))⟩
set_option maxHeartbeats 1000000 in
theorem many_ok (p : Pf) (A : Option Addr) (l : List Pf) (c : Nat) (n : Int) (hm : l.length ≤ maxLen) (hf : greatFault p l n = 0) (w : World) (ht : TabVar w) (hl : Rd w w.heap.size A (cellsP l)) :
    Calls Tryd.prog 35 #[.agg #[.int .i64 p.1, .int .i64 p.2], .slice A l.length c, .int .i64 n] w fun e w' => e = .returned (.tuple #[.int .i64 (manyL (greatL p l n) n), .nilIface]) ∧ Below w.heap.size w w' := by
  have hgt := ht.lt
  have HF := Lib.hid hf
  have hml := many_le hf
  have hgo := great_ok hf
  have hn32 := (greatFault_zero.1 hf).2.2
  clear hf
  have hbA := (Below.refl w.heap.size w).alloc (Nat.le_refl _) (.cells #[.int .i64 p.1, .int .i64 p.2] 46)
  go_enter Tryd.func35, Tryd.ntmps35
  go_wp2_with fail
  refine (great_good p A l c n hm HF.out _ (ht.belowB hbA hgt) ((hl.below hbA).more (by simp))).mono ?_
  rintro e w1 ⟨v1, rfl, hown1, hb1⟩
  have hb2 := hbA.trans (hb1.mono (by simp))
  have hs2 := hb2.size
  obtain ⟨A1, c1, rfl, hr1⟩ := hown1.form
  obtain ⟨G, hG⟩ : ∃ G, G = greatL p l n := ⟨_, rfl⟩
  rw [← hG] at hr1 hml hgo
  rw [← hG]
  have HGE := Lib.hid hG
  have HGO : Hid (∀ b ∈ G, chkP b = 0 ∧ b.2 ≤ n) := hgo
  have hGl : G.length ≤ 4294967296 := Nat.le_trans (manyL_len G n) hml
  clear hown1 hb1 hG hgo
  go_wp2
  go_loopw [10, 12, 25] (fun v _ i wr => ∃ k : Nat, k ≤ G.length ∧ i = .int .i64 k ∧ Below w.heap.size w wr ∧ Below w1.heap.size w1 wr ∧ v = .int .i64 (manyL (G.take k) n)) (fun _ _ i _ => G.length - (intOf i).toNat)
  case atStart => exact ⟨0, Nat.zero_le _, rfl, hb2, Below.refl _ _, rfl⟩
  case round =>
    obtain ⟨k, hk, rfl, hb, hbo, rfl⟩ := hrel
    by_cases hlt : k < G.length
    · have hs := hb.size
      have hso := hbo.size
      obtain ⟨b, off, rfl, hbb, d0, d1⟩ := (hr1.below hbo).pair hlt
      obtain ⟨g1, g2⟩ := HGO.out G[k] (List.getElem_mem _)
      obtain ⟨c1', c2', _⟩ := chk_zero.1 g1
      have hsub : wrap64 (n - G[k].2) = n - G[k].2 := by unfold wrap64; omega
      have hns : ¬ n - G[k].2 < 0 := by omega
      obtain ⟨z, hz⟩ : ∃ z : Nat, z = 2 ^ (n - G[k].2).toNat := ⟨_, rfl⟩
      obtain ⟨Y, hY⟩ : ∃ Y : Nat, Y = manyL (G.take k) n := ⟨_, rfl⟩
      have hsn := manyL_snoc G n k hlt
      have htk := manyL_take G n (k + 1)
      rw [← hY, ← hz] at hsn
      rw [← hY]
      have HV := Lib.hid (shl_at Y z _ hz (by omega))
      have HS := Lib.hid hsn
      have HZ := Lib.hid hz
      have hz32 : z ≤ 4294967296 := by omega
      clear hsn htk hY hz g1
      go_wp2
      go_roundw
      case rel => exact ⟨k + 1, by omega, by go_num, hb.alloc hs _, hbo.alloc hso _, by rw [HS.out]; trace_state; rw [HV.out]; simp⟩
      case measure => simp [intOf]; omega
    · obtain rfl : k = G.length := by omega
      rw [List.take_length]
      go_wp2
      go_ret2
      exact ⟨by rw [HGE.out]; rfl, hb⟩
end Go.Proofs.YtmfaknngophmhaaDoor
