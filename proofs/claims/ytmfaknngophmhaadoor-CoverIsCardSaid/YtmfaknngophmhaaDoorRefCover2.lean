/- The references CoverOf, SpansOf: a set's prefixes, prefixes' set. Any set that may be, any prefixes. -/
import Derived.Test.YtmfaknngophmhaaDoorRefCover
import Derived.Test.YtmfaknngophmhaaDoorCover
import Derived.Test.YtmfaknngophmhaaDoorTog
import Derived.Deep.RegionHeld3
namespace Go.Proofs.YtmfaknngophmhaaDoor
set_option linter.unusedVariables false
set_option linter.unusedSimpArgs false
open Go.RowKit

set_option maxRecDepth 100000 in
set_option maxHeartbeats 1000000 in
theorem coverOf_any (A : Option Addr) (l : List Sp) (c : Nat) (hv : Valid l) (hlen : l.length ≤ 64) (w : World) (hl : Rd w w.heap.size A (cellsP l)) :
    Calls Tryd.prog 23 #[.slice A l.length c] w (OwnRes 46 w (coverSet l)) := by
  have HV := Lib.hid hv
  clear hv
  go_enter Tryd.func23, Tryd.ntmps23
  go_wp2
  go_loopw [3, 4] (fun v i wr => ∃ k : Nat, k ≤ l.length ∧ i = .int .i64 k ∧ Below w.heap.size w wr ∧ OwnP wr w.heap.size 46 v (coverSet (l.take k))) (fun _ i _ => l.length - (intOf i).toNat)
  case atStart => exact ⟨0, Nat.zero_le _, rfl, Below.refl _ _, OwnP.nil _ _ _⟩
  case round =>
    obtain ⟨k, hk, rfl, hb, hown⟩ := hrel
    by_cases hlt : k < l.length
    · have hs := hb.size
      obtain ⟨b, off, rfl, hbb, c0, c1⟩ := (hl.below hb).pair hlt
      have HF := Lib.hid (spanFault_zero.2 (HV.out l[k] (List.getElem_mem _)))
      have HS := Lib.hid (coverSet_snoc l k hlt)
      obtain ⟨X, hX⟩ : ∃ X, X = coverSet (l.take k) := ⟨_, rfl⟩
      obtain ⟨Y, hY⟩ : ∃ Y, Y = cover l[k].1 l[k].2 := ⟨_, rfl⟩
      have hXl : X.length ≤ 64 * 4294967296 := by
        rw [hX]
        refine Nat.le_trans (coverSet_len (fun x hx => HV.out x (List.mem_of_mem_take hx))) (Nat.mul_le_mul_right _ ?_)
        rw [List.length_take]; omega
      have hYl : Y.length ≤ 4294967296 := by
        have h3 := HV.out l[k] (List.getElem_mem _)
        have h2 := cover_len l[k].1 l[k].2
        unfold maxA at h3
        rw [hY]; omega
      rw [← hX] at hown
      have HX := Lib.hid hX
      have HY := Lib.hid hY
      clear hX hY
      go_wp2_with fail
      refine (covers_one l[k] HF.out _).mono ?_
      rintro e w2 ⟨v2, rfl, hown2, hb2⟩
      rw [← HY.out] at hown2
      obtain ⟨A2, c2, rfl, hr2⟩ := hown2.form
      have hb3 := hb.trans (hb2.mono hs)
      have hs3 := hb3.size
      have hown3 := hown.below hb2
      clear hb2 hb hown hown2 c0 c1
      go_wp2_with (at_builtin; refine wpList_append_rd rfl (.tmp 11) (.tmp 17) 43 rfl 46 Tryd.underlying43 _ 2 16 infoPfx rfl (by decide) w.heap.size _ X.length (cellsP X) rfl hown3 w2.heap.size A2 Y.length c2 (cellsP Y) rfl (by rw [cellsP_length]) hr2 (cellsP_one Y) (by unfold maxLen; omega) (by omega) hs3 ?_; intro v5 w5 hown5 hb5)
      go_roundw
      case rel => exact ⟨k + 1, by omega, by go_num, hb3.trans hb5, by rw [HS.out, ← HX.out, ← HY.out]; unfold OwnP; rw [cellsP_append, List.length_append]; exact hown5⟩
      case measure => simp [intOf]; omega
    · obtain rfl : k = l.length := by omega
      rw [List.take_length] at hown
      go_wp2
      go_ret
      exact ⟨_, rfl, hown, hb⟩

theorem firstP_next {p : List Pf} {k : Nat} (h : k < p.length) (hg : firstP p = firstP (p.drop k)) (h0 : chkP p[k] = 0) : firstP p = firstP (p.drop (k + 1)) := by
  rw [hg, firstP_step p k h, if_neg (by simpa using h0)]
theorem spansPFault_at {p : List Pf} {k : Nat} (hl : p.length ≤ 200) (h : k < p.length) (hg : firstP p = firstP (p.drop k)) (h0 : chkP p[k] ≠ 0) : spansPFault p = chkP p[k] := by
  have : firstP p = chkP p[k] := by rw [hg, firstP_step p k h, if_pos h0]
  unfold spansPFault
  rw [if_neg (by omega), this, if_pos h0]
def SpansOfRes (w : World) (p : List Pf) (e : Ending) (w' : World) : Prop := Below w.heap.size w w' ∧ (spansPFault p = 0 → ∃ v, e = .returned (.tuple #[v, .int .i64 0]) ∧ OwnP w' w.heap.size 26 v (norm (spansP p))) ∧
  (spansPFault p ≠ 0 → e = .returned (.tuple #[.slice none 0 0, .int .i64 (spansPFault p)]))
theorem SpansOfRes.bad {w w' : World} {p : List Pf} {n : Int} (h : spansPFault p = n) (hn : n ≠ 0) (hb : Below w.heap.size w w') : SpansOfRes w p (.returned (.tuple #[.slice none 0 0, .int .i64 n])) w' :=
  ⟨hb, fun h0 => absurd (h.symm.trans h0) hn, fun _ => by rw [h]⟩
set_option maxRecDepth 100000 in
set_option maxHeartbeats 4000000 in
theorem spansOf_any (A : Option Addr) (p : List Pf) (c : Nat) (hm : p.length ≤ maxLen) (w : World) (hl : Rd w w.heap.size A (cellsP p)) :
    Calls Tryd.prog 25 #[.slice A p.length c] w (SpansOfRes w p) := by
  unfold maxLen at hm
  obtain ⟨i0, hi0, hz0, hz1, hz2⟩ := info_parts infoSp
  by_cases h200 : p.length ≤ 200
  · go_enter Tryd.func25, Tryd.ntmps25
    go_wp2
    go_loopw [4, 5] (fun v i wr => ∃ k : Nat, k ≤ p.length ∧ i = .int .i64 k ∧ Below w.heap.size w wr ∧ OwnP wr w.heap.size 26 v (spansP (p.take k)) ∧ Hid (firstP p = firstP (p.drop k))) (fun _ i _ => p.length - (intOf i).toNat)
    case atStart => exact ⟨0, Nat.zero_le _, rfl, Below.refl _ _, OwnP.nil _ _ _, Lib.hid rfl⟩
    case round =>
      obtain ⟨k, hk, rfl, hb, hown, HG⟩ := hrel
      have hs := hb.size
      by_cases hlt : k < p.length
      · obtain ⟨b, off, rfl, hbb, c0, c1⟩ := (hl.below hb).pair hlt
        by_cases hck : chkP p[k] = 0
        · have HC := Lib.hid (show chk p[k].1 p[k].2 = 0 from hck)
          have HN := Lib.hid (firstP_next hlt HG.out hck)
          have HS := Lib.hid (spansP_snoc p k hlt)
          have hl4 : lastA p[k].1 p[k].2 ≤ 4294967295 := last_le hck
          obtain ⟨X, hX⟩ : ∃ X, X = spansP (p.take k) := ⟨_, rfl⟩
          have hXl : X.length ≤ 200 := by rw [hX]; simp [spansP]; omega
          rw [← hX] at hown
          have HX := Lib.hid hX
          clear hX hck
          go_wp2_with fail
          refine (fault_any p[k].1 p[k].2 _).mono ?_
          rintro e w1 ⟨rfl, hb1⟩
          rw [HC.out]
          have hb2 := hb.trans (hb1.mono hs)
          have hs2 := hb2.size
          have hown2 := hown.below hb1
          have d0 := (hb1.cell (p := ⟨b, off + k * 2, none⟩) (by simp; omega)).trans c0
          have d1 := (hb1.cell (p := ⟨b, off + k * 2 + 1, none⟩) (by simp; omega)).trans c1
          have lb1 : b < w1.heap.size := World.block_lt_of_cell? w1 _ d0
          have hne : u4.ownBlock ≠ some b := fun e => by have := (World.ownsRow.lt hown2 b e).1; omega
          clear c0 c1 hown hb1
          go_wp2_with fail
          go_region_held3 (fun w' => w'.cell? ⟨b, off + k * 2, none⟩ = some (.int .i64 p[k].1) ∧ w'.cell? ⟨b, off + k * 2 + 1, none⟩ = some (.int .i64 p[k].2))
            (first
              | go_keep
              | (go_split_ands
                 refine ⟨?_, ?_⟩
                 · (first | (exact (hbL.cell (p := ⟨b, off + k * 2, none⟩) (by simp; omega)).trans d0) | (rw [hgrow.cell_far _ (by have := hbL.size; simp at this; simp; omega) (Ne.symm hne)]; assumption))
                 · (first | (exact (hbL.cell (p := ⟨b, off + k * 2 + 1, none⟩) (by simp; omega)).trans d1) | (rw [hgrow.cell_far _ (by have := hbL.size; simp at this; simp; omega) (Ne.symm hne)]; assumption))))
            (first
              | (go_at_call 58; refine (lastOf_any _ _ HC.out _).mono ?_; rintro e wL ⟨rfl, hbL⟩)
              | (refine step_append_lies _ (by rfl) _ _ _ (by rfl) w.heap.size 26 i0 _ 2 16 Tryd.underlying22 hi0 hz0 hz1 hz2 rfl (by omega) _ X.length (cellsP X) (by rfl) (World.ownsRow.alloc (own_below (World.ownsRow.drew hown2) hbL) _)
                  ⟨wL.heap.size, 0, none⟩ 1 1 [.int .i64 p[k].1, .int .i64 (lastA p[k].1 p[k].2)] (by rfl) (by rfl) (World.news_of_block (cs := #[.int .i64 p[k].1, .int .i64 (lastA p[k].1 p[k].2)]) (t := 26) (fr := (0, 0)) (heap_alloc_new wL _)) (by simp [Value.oneCell'])
                  (by omega) (by unfold maxLen; omega) (by omega) (by have := hbL.size; simp at this; simp; omega) (wL.heap.size + 1) (by simp) ?_; intro gg cap w4 hown4 hgrow hat hlt4))
          have hb4 : Below w.heap.size w w4 := ((hb2.drew.trans (hbL.mono hs2)).alloc (by have := hbL.size; simp at this; omega) _).grown hgrow (by have := hbL.size; simp at this; simp; omega) (fun q hq => (World.ownsRow.lt hown2 q hq).1)
          have hown5 : OwnP w4 w.heap.size 26 (.slice (some ⟨gg, 0, none⟩) (X.length + 1) cap) (X ++ [(p[k].1, lastP p[k])]) := by
            unfold OwnP
            rw [cellsP_append, List.length_append]
            exact hown4
          clear hown4 hgrow hat hlt4 hown2 hne d0 d1 hbL
          go_wp2_with fail
          go_roundw
          case rel => exact ⟨k + 1, by omega, by go_num, hb4, by rw [HS.out, ← HX.out]; exact hown5, HN⟩
          case measure => simp [intOf]; omega
        · have HE := Lib.hid (spansPFault_at h200 hlt HG.out hck)
          have hz : (chk p[k].1 p[k].2 != 0) = true := by simpa using (show ¬ chk p[k].1 p[k].2 = 0 from hck)
          have HNZ := Lib.hid (show chk p[k].1 p[k].2 ≠ 0 from hck)
          clear hck
          go_wp2_with fail
          refine (fault_any p[k].1 p[k].2 _).mono ?_
          rintro e w1 ⟨rfl, hb1⟩
          go_wp2_with fail
          go_ret2
          exact SpansOfRes.bad HE.out HNZ.out (hb.trans (hb1.mono hs))
      · obtain rfl : k = p.length := by omega
        have hf0 : firstP p = 0 := by have := HG.out; rw [List.drop_length] at this; exact this
        have hgood := firstP_good hf0
        have VG := Lib.hid (spansP_valid hgood)
        have HF0 := Lib.hid hf0
        rw [List.take_length] at hown
        obtain ⟨X, hX⟩ : ∃ X, X = spansP p := ⟨_, rfl⟩
        have hXl : X.length ≤ 200 := by rw [hX]; simp [spansP]; omega
        rw [← hX] at hown VG
        obtain ⟨AX, cX, rfl, hrX⟩ := hown.form
        have HX := Lib.hid hX
        clear hX hgood hf0 hown
        go_wp2_with fail
        refine (together_any AX none X [] cX 0 1 (.inl rfl) _ (by omega) (by decide) VG.out (fun s hs => by cases hs) hrX Rd.nil).mono ?_
        rintro e w2 ⟨v2, rfl, hown2, hb2⟩
        have hb3 := hb.trans (hb2.mono hs)
        rw [together_norm VG.out] at hown2
        have hown3 := own_of_base hown2 hs
        change OwnP w2 w.heap.size 26 v2 _ at hown3
        clear hown2
        obtain ⟨Y, hY⟩ : ∃ Y, Y = norm X := ⟨_, rfl⟩
        rw [← hY] at hown3
        have HY := Lib.hid hY
        obtain ⟨AY, cY, rfl, hrY⟩ := hown3.form
        clear hY
        by_cases h64 : Y.length ≤ 64
        · go_wp2_with fail
          go_ret2
          exact ⟨hb3, fun _ => ⟨_, rfl, by rw [← HX.out, ← HY.out]; exact hown3⟩, fun h => absurd (by unfold spansPFault; rw [if_neg (by omega), HF0.out, if_neg (by simp), if_neg (by rw [← HX.out, ← HY.out]; omega)]) h⟩
        · go_wp2_with fail
          go_ret2
          exact SpansOfRes.bad (by unfold spansPFault; rw [if_neg (by omega), HF0.out, if_neg (by simp), if_pos (by rw [← HX.out, ← HY.out]; omega)]) (by decide) hb3
  · have HF := Lib.hid (show spansPFault p = 3 by unfold spansPFault; rw [if_pos (by omega)])
    go_enter Tryd.func25, Tryd.ntmps25
    go_wp2
    go_ret2
    exact SpansOfRes.bad HF.out (by decide) (Below.refl _ _)
end Go.Proofs.YtmfaknngophmhaaDoor
