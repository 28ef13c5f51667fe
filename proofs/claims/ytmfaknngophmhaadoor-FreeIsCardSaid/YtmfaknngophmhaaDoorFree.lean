/- Contracts of package free: gaps, Gaps, Blocks. -/
import Derived.Test.YtmfaknngophmhaaDoorFreeMath
import Derived.Test.YtmfaknngophmhaaDoorSpan3
import Derived.Test.YtmfaknngophmhaaDoorLaw
namespace Go.Proofs.YtmfaknngophmhaaDoor
set_option linter.unusedVariables false
set_option linter.unusedSimpArgs false
open Go.RowKit

def GapsRes (w : World) (p : Pf) (l : List Pf) (e : Ending) (w' : World) : Prop := Below w.heap.size w w' ∧ (freeFault p l = 0 → ∃ v, e = .returned (.tuple #[v, .nilIface]) ∧ OwnP w' w.heap.size 26 v (gapsL p l)) ∧
  (freeFault p l ≠ 0 → e = .returned (.tuple #[.slice none 0 0, .iface 23 (.int .i64 (freeFault p l))]))
theorem GapsRes.bad {w w' : World} {p : Pf} {l : List Pf} {n : Int} (h : freeFault p l = n) (hn : n ≠ 0) (hb : Below w.heap.size w w') : GapsRes w p l (.returned (.tuple #[.slice none 0 0, .iface 23 (.int .i64 n)])) w' :=
  ⟨hb, fun h0 => absurd (h.symm.trans h0) hn, fun _ => by rw [h]⟩

set_option maxRecDepth 100000 in
set_option maxHeartbeats 1000000 in
theorem gaps_all (p : Pf) (A : Option Addr) (l : List Pf) (c : Nat) (hm : l.length ≤ maxLen) (w : World) (hl : Rd w w.heap.size A (cellsP l)) :
    Calls Tryd.prog 64 #[.agg #[.int .i64 p.1, .int .i64 p.2], .slice A l.length c] w (GapsRes w p l) := by
  unfold maxLen at hm
  by_cases hp : chkP p = 0
  · by_cases h60 : l.length ≤ 60
    · have HP := Lib.hid hp
      clear hp
      go_enter Tryd.func64, Tryd.ntmps64
      go_wp2_with fail
      refine (ends_ok p.1 p.2 HP.out _).mono ?_
      rintro e w0 ⟨rfl, hb0⟩
      have hbA := ((Below.refl w.heap.size w).alloc (Nat.le_refl _) (.cells #[.int .i64 p.1, .int .i64 p.2] 46)).trans (hb0.mono (by simp))
      clear hb0
      go_wp2
      go_loopw [9, 11, 12, 13, 14, 30] (fun v _ _ _ _ i wr => ∃ k : Nat, k ≤ l.length ∧ i = .int .i64 k ∧ Below w.heap.size w wr ∧ OwnP wr w.heap.size 26 v (spansP (l.take k)) ∧ firstP l = firstP (l.drop k) ∧ ∀ q ∈ l.take k, chkP q = 0) (fun _ _ _ _ _ i _ => l.length - (intOf i).toNat)
      case atStart => exact ⟨0, Nat.zero_le _, rfl, hbA, OwnP.nil _ _ _, rfl, by simp⟩
      case round =>
        obtain ⟨k, hk, rfl, hb, hown, hg, hv⟩ := hrel
        by_cases hlt : k < l.length
        · have hs := hb.size
          obtain ⟨b, off, rfl, hbb, c0, c1⟩ := (hl.below hb).pair hlt
          have hst := firstP_step l k hlt
          by_cases hc : chkP l[k] = 0
          · have HC := Lib.hid hc
            have HG := Lib.hid (show firstP l = firstP (l.drop (k + 1)) by rw [hg, hst, if_neg (by simp [hc])])
            have HV := Lib.hid (take_all hlt hv hc)
            have HS := Lib.hid (spansP_snoc l k hlt)
            obtain ⟨X, hX⟩ : ∃ X, X = spansP (l.take k) := ⟨_, rfl⟩
            have hXl : X.length ≤ 200 := by rw [hX]; simp [spansP]; omega
            rw [← hX] at hown
            have HX := Lib.hid hX
            clear hX hg hv hst hc
            go_wp2_with fail
            refine (ends_ok l[k].1 l[k].2 HC.out _).mono ?_
            rintro e w2 ⟨rfl, hb2⟩
            have hb3 := (hb.alloc hs (.cells #[.int .i64 l[k].1, .int .i64 l[k].2] 46)).trans (hb2.mono (by simp; omega))
            have hs3 := hb3.size
            have hown3 := (hown.alloc (.cells #[.int .i64 l[k].1, .int .i64 l[k].2] 46)).below hb2
            clear hb2 hb hown c0 c1
            go_wp2_with (at_builtin; refine wpList_append_pair (p := (l[k].1, lastA l[k].1 l[k].2)) rfl _ _ 22 rfl Tryd.underlying22 infoSp w.heap.size _ _ rfl hown3 rfl (by omega) hs3 ?_; intro v5 w5 hown5 hb5)
            go_roundw
            case rel => exact ⟨k + 1, by omega, by go_num, hb3.trans hb5, by rw [HS.out, ← HX.out]; exact hown5, HG.out, HV.out⟩
            case measure => simp [intOf]; omega
          · have HC := Lib.hid hc
            have HB := Lib.hid (show freeFault p l = chk l[k].1 l[k].2 by unfold freeFault; rw [if_neg (by simp [HP.out]), if_neg (by omega), hg, hst, if_pos hc]; rfl)
            clear hg hv hst hc
            go_wp2_with fail
            refine (ends_bad l[k].1 l[k].2 HC.out _).mono ?_
            rintro e w2 ⟨rfl, hb2⟩
            go_wp2
            go_ret2
            exact GapsRes.bad HB.out HC.out ((hb.alloc hs _).trans (hb2.mono (by simp; omega)))
        · obtain rfl : k = l.length := by omega
          rw [List.take_length] at hown hv
          have hs := hb.size
          have HF := Lib.hid (show firstP l = 0 by rw [hg, List.drop_length]; rfl)
          have HV := Lib.hid hv
          have hXl : (spansP l).length ≤ 200 := by simp [spansP]; omega
          have hNl : (norm (spansP l)).length ≤ 200 := Nat.le_trans (norm_length _) hXl
          have hOl : (others (norm (spansP l))).length ≤ 201 := by have := othersGo_length (norm (spansP l)) 0; unfold others; omega
          obtain ⟨A2, c2, rfl, hr2⟩ := hown.form
          have HZ := Lib.hid (show freeFault p l = 0 from freeFault_zero.2 ⟨HP.out, h60, HV.out⟩)
          have hbX := hb.alloc hs (.cells #[.int .i64 p.1, .int .i64 (lastA p.1 p.2)] 26)
          have hrX := (hr2.alloc (Nat.le_refl _) (.cells #[.int .i64 p.1, .int .i64 (lastA p.1 p.2)] 26)).more (show wr.heap.size ≤ (wr.alloc (.cells #[.int .i64 p.1, .int .i64 (lastA p.1 p.2)] 26)).heap.size by simp)
          have hrN := rd_new wr [(p.1, lastP p)] #[.int .i64 p.1, .int .i64 (lastA p.1 p.2)] 26 _ rfl rfl
          clear hg hv hr2 hown
          go_wp2_with fail
          refine (merge_any A2 (spansP l) c2 (spansP_valid HV.out) (by omega) _ hrX).mono ?_
          rintro e w3 ⟨v3, rfl, hown3, hb3⟩
          obtain ⟨A3, c3, rfl, hr3⟩ := hown3.form
          have hs3 := hb3.size
          go_wp2_with fail
          refine (others_any A3 _ c3 (by omega) (norm_valid (spansP_valid HV.out)) _ hr3).mono ?_
          rintro e w4 ⟨v4, rfl, hown4, hb4⟩
          obtain ⟨A4, c4, rfl, hr4⟩ := hown4.form
          have hs4 := hb4.size
          go_wp2_with fail
          refine (common_any (some ⟨wr.heap.size, 0, none⟩) A4 [(p.1, lastP p)] _ 1 c4 (by simp) (by omega) _ ((((hrN.below hb3).more hs3).below hb4).more hs4) hr4).mono ?_
          rintro e w5 ⟨v5, rfl, hown5, hb5⟩
          have hz : w.heap.size ≤ (wr.alloc (.cells #[.int .i64 p.1, .int .i64 (lastA p.1 p.2)] 26)).heap.size := by simp; omega
          have hbZ := ((hbX.trans (hb3.mono hz)).trans (hb4.mono (by omega))).trans (hb5.mono (by omega))
          have hOw := own_of_base hown5 (show w.heap.size ≤ w4.heap.size by omega)
          go_wp2
          go_ret2
          exact ⟨hbZ, fun _ => ⟨_, rfl, hOw⟩, fun h => absurd HZ.out h⟩
    · have HP := Lib.hid hp
      have HZ := Lib.hid (show freeFault p l = 3 by unfold freeFault; rw [if_neg (by simp [hp]), if_pos (by omega)])
      have hbig : (60 : Int) < (l.length : Int) := by omega
      clear hp
      go_enter Tryd.func64, Tryd.ntmps64
      go_wp2_with fail
      refine (ends_ok p.1 p.2 HP.out _).mono ?_
      rintro e w0 ⟨rfl, hb0⟩
      have hbA := ((Below.refl w.heap.size w).alloc (Nat.le_refl _) (.cells #[.int .i64 p.1, .int .i64 p.2] 46)).trans (hb0.mono (by simp))
      clear hb0
      go_wp2
      go_ret2
      exact GapsRes.bad HZ.out (by decide) hbA
  · have HZ := Lib.hid (show freeFault p l = chk p.1 p.2 by unfold freeFault; rw [if_pos hp]; rfl)
    have HP := Lib.hid hp
    clear hp
    go_enter Tryd.func64, Tryd.ntmps64
    go_wp2_with fail
    refine (ends_bad p.1 p.2 HP.out _).mono ?_
    rintro e w0 ⟨rfl, hb0⟩
    have hbA := ((Below.refl w.heap.size w).alloc (Nat.le_refl _) (.cells #[.int .i64 p.1, .int .i64 p.2] 46)).trans (hb0.mono (by simp))
    clear hb0
    go_wp2
    go_ret2
    exact GapsRes.bad HZ.out HP.out hbA

theorem gaps_bad (p : Pf) (A : Option Addr) (l : List Pf) (c : Nat) (hm : l.length ≤ maxLen) (hf : freeFault p l ≠ 0) (w : World) (hl : Rd w w.heap.size A (cellsP l)) :
    Calls Tryd.prog 64 #[.agg #[.int .i64 p.1, .int .i64 p.2], .slice A l.length c] w fun e w' => e = .returned (.tuple #[.slice none 0 0, .iface 23 (.int .i64 (freeFault p l))]) ∧ Below w.heap.size w w' := (gaps_all p A l c hm w hl).mono fun e w' h => ⟨h.2.2 hf, h.1⟩
theorem gaps_ok (p : Pf) (A : Option Addr) (l : List Pf) (c : Nat) (hm : l.length ≤ maxLen) (hf : freeFault p l = 0) (w : World) (hl : Rd w w.heap.size A (cellsP l)) :
    Calls Tryd.prog 64 #[.agg #[.int .i64 p.1, .int .i64 p.2], .slice A l.length c] w (OwnRes2 26 w (gapsL p l)) := (gaps_all p A l c hm w hl).mono fun e w' h => by obtain ⟨v, q1, q2⟩ := h.2.1 hf; exact ⟨v, q1, q2, h.1⟩

theorem gapsP_ok (p : Pf) (A : Option Addr) (l : List Pf) (c : Nat) (hm : l.length ≤ maxLen) (hf : freeFault p l = 0) (w : World) (hl : Rd w w.heap.size A (cellsP l)) :
    Calls Tryd.prog 31 #[.agg #[.int .i64 p.1, .int .i64 p.2], .slice A l.length c] w (OwnRes2 26 w (gapsL p l)) := by
  have HF := Lib.hid hf
  clear hf
  go_enter Tryd.func31, Tryd.ntmps31
  go_wp2_with fail
  refine (gaps_ok p A l c hm HF.out _ ((hl.alloc (Nat.le_refl _) _).more (by simp))).mono ?_
  rintro e w1 ⟨v1, rfl, hown1, hb1⟩
  go_wp2
  go_ret2
  exact ⟨_, rfl, own_of_base hown1 (by simp), ((Below.refl w.heap.size w).alloc (Nat.le_refl _) _).trans (hb1.mono (by simp))⟩

def blocksFault (p : Pf) (l : List Pf) : Int := if freeFault p l ≠ 0 then freeFault p l else if 200 < (blocksL p l).length then 3 else 0
theorem blocksFault_zero {p : Pf} {l : List Pf} : blocksFault p l = 0 ↔ freeFault p l = 0 ∧ (blocksL p l).length ≤ 200 := by
  unfold blocksFault
  constructor
  · intro h
    by_cases h1 : freeFault p l = 0
    · rw [if_neg (by simp [h1])] at h
      by_cases h2 : 200 < (blocksL p l).length
      · rw [if_pos h2] at h; cases h
      · exact ⟨h1, by omega⟩
    · rw [if_pos h1] at h; exact absurd h h1
  · rintro ⟨h1, h2⟩
    rw [if_neg (by simp [h1]), if_neg (by omega)]

theorem blocks_bad (p : Pf) (A : Option Addr) (l : List Pf) (c : Nat) (hm : l.length ≤ maxLen) (hf : blocksFault p l ≠ 0) (w : World) (ht : TabVar w) (hl : Rd w w.heap.size A (cellsP l)) :
    Calls Tryd.prog 32 #[.agg #[.int .i64 p.1, .int .i64 p.2], .slice A l.length c] w fun e w' => e = .returned (.tuple #[.slice none 0 0, .iface 23 (.int .i64 (blocksFault p l))]) ∧ Below w.heap.size w w' := by
  have hgt := ht.lt
  by_cases h1 : freeFault p l = 0
  · have h200 : 200 < (blocksL p l).length := Nat.lt_of_not_le fun h => hf (blocksFault_zero.2 ⟨h1, h⟩)
    have HV := Lib.hid (show blocksFault p l = 3 by unfold blocksFault; rw [if_neg (by simp [h1]), if_pos h200])
    have H1 := Lib.hid h1
    have H2 := Lib.hid (show 200 < (coverSet (gapsL p l)).length from h200)
    clear h1 h200 hf
    go_enter Tryd.func32, Tryd.ntmps32
    go_wp2_with fail
    refine (gaps_ok p A l c hm H1.out _ ((hl.alloc (Nat.le_refl _) _).more (by simp))).mono ?_
    rintro e w1 ⟨v1, rfl, hown1, hb1⟩
    obtain ⟨A1, c1, rfl, hr1⟩ := hown1.form
    have hb2 := ((Below.refl w.heap.size w).alloc (Nat.le_refl _) (.cells #[.int .i64 p.1, .int .i64 p.2] 46)).trans (hb1.mono (by simp))
    have hs2 := hb2.size
    clear hb1 hown1
    go_wp2_with fail
    refine (setP_full A1 _ c1 (gaps_set H1.out) H2.out _ (ht.belowB hb2 hgt) hr1).mono ?_
    rintro e w3 ⟨rfl, hb3⟩
    go_wp2
    go_ret2
    exact ⟨by rw [HV.out]; rfl, hb2.trans (hb3.mono hs2)⟩
  · have HV := Lib.hid (show blocksFault p l = freeFault p l by unfold blocksFault; rw [if_pos h1])
    have H1 := Lib.hid h1
    clear h1 hf
    go_enter Tryd.func32, Tryd.ntmps32
    go_wp2_with fail
    refine (gaps_bad p A l c hm H1.out _ ((hl.alloc (Nat.le_refl _) _).more (by simp))).mono ?_
    rintro e w1 ⟨rfl, hb1⟩
    go_wp2
    go_ret2
    exact ⟨by rw [HV.out]; rfl, ((Below.refl w.heap.size w).alloc (Nat.le_refl _) _).trans (hb1.mono (by simp))⟩
theorem blocks_ok (p : Pf) (A : Option Addr) (l : List Pf) (c : Nat) (hm : l.length ≤ maxLen) (hf : blocksFault p l = 0) (w : World) (ht : TabVar w) (hl : Rd w w.heap.size A (cellsP l)) :
    Calls Tryd.prog 32 #[.agg #[.int .i64 p.1, .int .i64 p.2], .slice A l.length c] w (OwnRes2 46 w (blocksL p l)) := by
  have hgt := ht.lt
  obtain ⟨h1, h2⟩ := blocksFault_zero.1 hf
  have H1 := Lib.hid h1
  have H2 := Lib.hid (show (coverSet (gapsL p l)).length ≤ 200 from h2)
  clear h1 h2 hf
  go_enter Tryd.func32, Tryd.ntmps32
  go_wp2_with fail
  refine (gaps_ok p A l c hm H1.out _ ((hl.alloc (Nat.le_refl _) _).more (by simp))).mono ?_
  rintro e w1 ⟨v1, rfl, hown1, hb1⟩
  obtain ⟨A1, c1, rfl, hr1⟩ := hown1.form
  have hb2 := ((Below.refl w.heap.size w).alloc (Nat.le_refl _) (.cells #[.int .i64 p.1, .int .i64 p.2] 46)).trans (hb1.mono (by simp))
  have hs2 := hb2.size
  clear hb1 hown1
  go_wp2_with fail
  refine (setP_ok A1 _ c1 (gaps_set H1.out) H2.out _ (ht.belowB hb2 hgt) hr1).mono ?_
  rintro e w3 ⟨v3, rfl, hown3, hb3⟩
  go_wp2
  go_ret2
  exact ⟨_, rfl, own_of_base hown3 hs2, hb2.trans (hb3.mono hs2)⟩
end Go.Proofs.YtmfaknngophmhaaDoor
