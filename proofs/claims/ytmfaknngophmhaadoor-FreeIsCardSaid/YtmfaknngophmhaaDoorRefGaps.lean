/- The reference GapsOf: the gaps of a prefix. A prefix and a list that may be. -/
import Derived.Test.YtmfaknngophmhaaDoorRefBlocks
import Derived.Deep.RegionHeld3
namespace Go.Proofs.YtmfaknngophmhaaDoor
set_option linter.unusedVariables false
set_option linter.unusedSimpArgs false
open Go.RowKit

theorem blocks_len {p : Pf} {l : List Pf} (hf : freeFault p l = 0) : (blocksL p l).length ≤ 4294967296 := by
  have hc := chk_zero.1 (show chk p.1 p.2 = 0 from (freeFault_zero.1 hf).1)
  have hk : p.2 + ((32 - p.2).toNat : Int) = 32 := by omega
  rw [← blocks_halv hf hk]
  exact Nat.le_trans (halvL_len _ _ _) (show 2 ^ (32 - p.2).toNat ≤ 2 ^ 32 from Nat.pow_le_pow_right (by decide) (by omega))
theorem merge_blocks {p : Pf} {l : List Pf} (hf : freeFault p l = 0) : mergeL (spansP (blocksL p l)) = gapsL p l := by
  rw [mergeL_norm (List.Perm.refl _) ?_ (spansP_valid fun q hq => blocks_chk hf hq), spans_blocks hf]
  have := coverSet_pairwise (gaps_can hf) (gaps_valid hf)
  unfold spansP
  rw [List.pairwise_map]
  refine List.Pairwise.imp (fun {a b} h => ?_) this
  have := last_geP a
  show a.1 ≤ b.1
  omega
theorem spansP_drop (B : List Pf) (k : Nat) (h : k < B.length) : (spansP B).drop k = (B[k].1, lastP B[k]) :: (spansP B).drop (k + 1) := by
  unfold spansP
  rw [← List.map_drop, ← List.map_drop, List.drop_eq_getElem_cons h]; rfl
theorem cells_set3 (O : List Sp) (q : Sp) (u : Int) : (cellsP (O ++ [q])).set (O.length * 2 + 1) (.int .i64 u) = cellsP (O ++ [(q.1, u)]) := by
  rw [cellsP_append, cellsP_append, List.set_append_right _ _ (by rw [cellsP_length]; omega), cellsP_length]
  rw [show O.length * 2 + 1 - O.length * 2 = 1 by omega]
  rfl
set_option maxRecDepth 100000 in
set_option maxHeartbeats 4000000 in
theorem gapsRef (p : Pf) (A : Option Addr) (l : List Pf) (c : Nat) (hf : freeFault p l = 0) (w : World) (hl : Rd w w.heap.size A (cellsP l)) :
    Calls Tryd.prog 29 #[.agg #[.int .i64 p.1, .int .i64 p.2], .slice A l.length c] w (OwnRes 26 w (gapsL p l)) := by
  have HF := Lib.hid hf
  obtain ⟨i0, hi0, hz0, hz1, hz2⟩ := info_parts infoSp
  have hb0 := (Below.refl w.heap.size w).alloc (Nat.le_refl _) (.cells #[.int .i64 p.1, .int .i64 p.2] 46)
  clear hf
  go_enter Tryd.func29, Tryd.ntmps29
  go_wp2_with fail
  refine (blocksRef p A l c HF.out _ ((hl.below hb0).more (by simp))).mono ?_
  rintro e w1 ⟨v, rfl, hownB, hb1⟩
  have hbw1 := hb0.trans (hb1.mono (by simp))
  have hs1 := hbw1.size
  have hBl := blocks_len HF.out
  have HM := Lib.hid (merge_blocks HF.out)
  have HCK := Lib.hid (fun q (hq : q ∈ blocksL p l) => blocks_chk HF.out hq)
  have HPA := Lib.hid (show (blocksL p l).Pairwise (fun p q => lastP p < q.1) from coverSet_pairwise (gaps_can HF.out) (gaps_valid HF.out))
  obtain ⟨BL, hBL⟩ : ∃ BL, BL = blocksL p l := ⟨_, rfl⟩
  rw [← hBL] at hownB hBl HM HCK HPA
  clear hBL
  obtain ⟨AB, cB, rfl, rB⟩ := hownB.form
  clear hownB hl hb0 hb1
  go_wp2_with fail
  go_loopw [6, 7] (fun v i wx => ∃ (k : Nat) (O : List Sp), k ≤ BL.length ∧ i = .int .i64 k ∧ Below w1.heap.size w1 wx ∧ OwnP wx w1.heap.size 26 v O ∧ O.length ≤ k ∧ mergeApp O ((spansP BL).drop k) = gapsL p l ∧ Hid (∀ q, O.getLast? = some q → ∀ h : k < BL.length, q.2 < BL[k].1)) (fun _ i _ => BL.length - (intOf i).toNat)
  case atStart => exact ⟨0, [], Nat.zero_le _, rfl, Below.refl _ _, OwnP.nil _ _ _, Nat.le_refl _, HM.out, Lib.hid (fun q hq => by cases hq)⟩
  case round =>
    obtain ⟨k, O, hk, rfl, hb, hown, hO, hg, HQ⟩ := hrel
    have hs := hb.size
    by_cases hlt : k < BL.length
    · obtain ⟨b, off, rfl, hbb, c0, c1⟩ := rB.pair hlt
      have hck := HCK.out BL[k] (List.getElem_mem _)
      have HC := Lib.hid (show chk BL[k].1 BL[k].2 = 0 from hck)
      have hla : lastA BL[k].1 BL[k].2 ≤ 4294967295 := last_le hck
      have hlb : BL[k].1 ≤ lastA BL[k].1 BL[k].2 := last_geP BL[k]
      have hx0 := (chk_zero.1 (show chk BL[k].1 BL[k].2 = 0 from hck)).2.2.1
      have HPW := Lib.hid (show ∀ h : k + 1 < BL.length, lastP BL[k] < BL[k + 1].1 from fun h => List.pairwise_iff_getElem.1 HPA.out k (k + 1) hlt h (by omega))
      rw [spansP_drop BL k hlt] at hg
      have e0 := (hb.cell (p := ⟨b, off + k * 2, none⟩) hbb).trans c0
      have k2 : ∀ x : BelW wr.heap.size wr, x.1.cell? ⟨b, off + k * 2, none⟩ = some (.int .i64 BL[k].1) := BelW.cell e0 (by simp; omega)
      clear hck e0
      by_cases hO0 : O = []
      · subst hO0
        obtain ⟨Av, cv, hv, _⟩ := hown.form
        simp only [List.length_nil] at hv
        subst hv
        go_wp2_with fail
        refine wp_region_bel wr.heap.size wr (by kernel_rfl) (by kernel_rfl) (Below.refl _ _) ?_
        repeat (go_big_quiet_step (fail))
        refine wpQuiet_nil ?_
        intro w2 hb2
        have hb3 := hb.trans (hb2.mono hs)
        have hs3 := hb3.size
        have d0 := (hb3.cell (p := ⟨b, off + k * 2, none⟩) hbb).trans c0
        have d1 := (hb3.cell (p := ⟨b, off + k * 2 + 1, none⟩) hbb).trans c1
        have hown2 : OwnP w2 w1.heap.size 26 (Value.slice Av 0 cv) ([] : List Sp) := hown.below hb2
        unfold OwnP at hown2
        have hne : (Value.slice Av 0 cv).ownBlock ≠ some b := fun e => by have := (World.ownsRow.lt hown2 b e).1; omega
        have lb := World.block_lt_of_cell? w2 _ d0
        have HN := Lib.hid (show mergeApp [(BL[k].1, lastP BL[k])] ((spansP BL).drop (k + 1)) = gapsL p l by rw [mergeApp_nil]; exact hg)
        have hOl : ([] : List Sp).length ≤ 4294967296 := by omega
        obtain ⟨X, hX⟩ : ∃ X, X = ([] : List Sp) := ⟨_, rfl⟩
        have HX := Lib.hid hX
        rw [← hX] at hown2 hOl hO
        clear hX hg k2
        go_wp2_with fail
        go_region_held3 (fun w' => w'.cell? ⟨b, off + k * 2, none⟩ = some (.int .i64 BL[k].1) ∧ w'.cell? ⟨b, off + k * 2 + 1, none⟩ = some (.int .i64 BL[k].2))
          (first
            | go_keep
            | (go_split_ands
               refine ⟨?_, ?_⟩
               · (first | (exact (hbL.cell (p := ⟨b, off + k * 2, none⟩) (by simp; omega)).trans d0) | (rw [hgrow.cell_far _ (by have := hbL.size; simp at this; simp; omega) (Ne.symm hne)]; assumption))
               · (first | (exact (hbL.cell (p := ⟨b, off + k * 2 + 1, none⟩) (by simp; omega)).trans d1) | (rw [hgrow.cell_far _ (by have := hbL.size; simp at this; simp; omega) (Ne.symm hne)]; assumption))))
          (first
            | (go_at_call 58; refine (lastOf_any _ _ HC.out _).mono ?_; rintro e wL ⟨rfl, hbL⟩)
            | (refine step_append_lies _ (by rfl) _ _ _ (by rfl) w1.heap.size 26 i0 _ 2 16 Tryd.underlying22 hi0 hz0 hz1 hz2 rfl (by omega) (Value.slice Av 0 cv) X.length (cellsP X) (by rfl) (World.ownsRow.alloc (own_below (World.ownsRow.drew hown2) hbL) _)
                ⟨wL.heap.size, 0, none⟩ 1 1 [.int .i64 BL[k].1, .int .i64 (lastA BL[k].1 BL[k].2)] (by rfl) (by rfl) (World.news_of_block (cs := #[.int .i64 BL[k].1, .int .i64 (lastA BL[k].1 BL[k].2)]) (t := 26) (fr := (0, 0)) (heap_alloc_new wL _)) (by simp [Value.oneCell'])
                (by omega) (by unfold maxLen; omega) (by omega) (by have := hbL.size; simp at this; simp; omega) (wL.heap.size + 1) (by simp) ?_; intro gg cap' w4 hown4 hgrow hat hlt4))
        have hb4 : Below w1.heap.size w1 w4 := ((hb3.drew.trans (hbL.mono hs3)).alloc (by have := hbL.size; simp at this; omega) _).grown hgrow (by have := hbL.size; simp at this; simp; omega) (fun q hq => (World.ownsRow.lt hown2 q hq).1)
        have hown5 : OwnP w4 w1.heap.size 26 (.slice (some ⟨gg, 0, none⟩) (X.length + 1) cap') (X ++ [(BL[k].1, lastP BL[k])]) := by
          unfold OwnP
          rw [cellsP_append, List.length_append]
          exact hown4
        clear hown4 hgrow hat hlt4 hown2 hne lb d0 d1 hbL
        go_wp2_with fail
        go_roundw
        case rel => exact ⟨k + 1, X ++ [(BL[k].1, lastP BL[k])], by omega, by go_num, hb4, hown5, by simp; omega, by rw [HX.out]; exact HN.out, Lib.hid (fun q hq h => by simp at hq; subst hq; exact HPW.out h)⟩
        case measure => simp [intOf]; omega
      · obtain ⟨O', q, rfl⟩ : ∃ O' q, O = O' ++ [q] := ⟨O.dropLast, O.getLast hO0, (List.dropLast_concat_getLast hO0).symm⟩
        have hqlt := HQ.out q (by simp) hlt
        have hLn : (O' ++ [q]).length = O'.length + 1 := by simp
        obtain ⟨g, cap, hv⟩ : ∃ g cap, u6 = .slice (some ⟨g, 0, none⟩) (O'.length + 1) cap := by
          rcases hown.2 with ⟨_, h0⟩ | ⟨g, cap, cur, e0, _⟩
          · rw [hLn] at h0; omega
          · exact ⟨g, cap, by rw [e0, hLn]⟩
        subst hv
        unfold OwnP at hown
        rw [hLn] at hown
        have hga := World.ownsRow.lt hown g rfl
        have hcell : ∀ j, j < (O'.length + 1) * 2 → wr.cell? ⟨g, j, none⟩ = (cellsP (O' ++ [q]))[j]? := fun j hj => World.ownsRow.cellAt hown j hj
        have e1 : wr.cell? ⟨g, O'.length * 2 + 1, none⟩ = some (.int .i64 q.2) := by
          rw [hcell _ (by omega), Nat.mul_comm, (cellsP_at (O' ++ [q]) O'.length (by simp)).2]; simp
        clear hcell
        rw [hLn] at hO
        have k1 : ∀ x : BelW wr.heap.size wr, x.1.cell? ⟨g, O'.length * 2 + 1, none⟩ = some (.int .i64 q.2) := BelW.cell e1 hga.2
        have HLN := Lib.hid hLn
        clear hLn hO0
        by_cases hq : q.2 = BL[k].1 - 1
        · have HN := Lib.hid (show mergeApp (O' ++ [(q.1, lastP BL[k])]) ((spansP BL).drop (k + 1)) = gapsL p l by
            have := mergeApp_in (O := O') (c := q) (s := (BL[k].1, lastP BL[k])) (r := (spansP BL).drop (k + 1)) (by show BL[k].1 ≤ q.2 + 1; omega)
            rw [show max q.2 ((BL[k].1, lastP BL[k]) : Sp).2 = lastP BL[k] from (by show max q.2 (lastP BL[k]) = lastP BL[k]; have : lastP BL[k] = lastA BL[k].1 BL[k].2 := rfl; omega)] at this
            rw [this]; exact hg)
          have hq2 : (q.2 == BL[k].1 - 1) = true := by simpa using hq
          clear hg hq
          go_wp2_with fail
          refine wp_region_bel wr.heap.size wr (by kernel_rfl) (by kernel_rfl) (Below.refl _ _) ?_
          repeat (go_big_quiet_step (fail))
          refine wpQuiet_nil ?_
          intro w2 hb2
          have hb3 := hb.trans (hb2.mono hs)
          have hs3 := hb3.size
          have d0 := (hb3.cell (p := ⟨b, off + k * 2, none⟩) hbb).trans c0
          have d1 := (hb3.cell (p := ⟨b, off + k * 2 + 1, none⟩) hbb).trans c1
          have hown3 := own_below hown hb2
          clear hown k1 k2 hq2
          go_wp2_with fail
          refine (lastOf_any _ _ HC.out _).mono ?_
          rintro e w5 ⟨rfl, hb5⟩
          have hown5 := own_below hown3 hb5
          have hb6 := hb3.trans (hb5.mono hs3)
          have e2 : w5.cell? ⟨g, O'.length * 2 + 1, none⟩ = some (.int .i64 q.2) := (hb5.cell (p := ⟨g, O'.length * 2 + 1, none⟩) (World.ownsRow.lt hown3 g rfl).2).trans ((hb2.cell (p := ⟨g, O'.length * 2 + 1, none⟩) hga.2).trans e1)
          have f2 := World.ownsRow.frozenAt hown5 (O'.length * 2 + 1)
          have hst := World.ownsRow.stored hown5 (O'.length * 2 + 1) (.int .i64 (lastA BL[k].1 BL[k].2))
          have hown7 : OwnP (w5.setCell ⟨g, O'.length * 2 + 1, none⟩ (.int .i64 (lastA BL[k].1 BL[k].2))) w1.heap.size 26 (.slice (some ⟨g, 0, none⟩) (O'.length + 1) cap) (O' ++ [(q.1, lastP BL[k])]) := by
            unfold OwnP
            rw [show (O' ++ [(q.1, lastP BL[k])]).length = O'.length + 1 by simp, ← cells_set3]
            exact hst.1
          have hb7 : Below w1.heap.size w1 (w5.setCell ⟨g, O'.length * 2 + 1, none⟩ (.int .i64 (lastA BL[k].1 BL[k].2))) := hb6.setCell (p := ⟨g, O'.length * 2 + 1, none⟩) hga.1 _
          have HO4 := Lib.hid hown7
          have HB4 := Lib.hid hb7
          clear hst hown3 hown5 hown7 hb7 hb2 hb5 hb6 d0 d1
          go_wp2_with fail
          go_roundw
          case rel => exact ⟨k + 1, O' ++ [(q.1, lastP BL[k])], by omega, by go_num, HB4.out, HO4.out, by simp; omega, HN.out, Lib.hid (fun q hq h => by simp at hq; subst hq; exact HPW.out h)⟩
          case measure => simp [intOf]; omega
        · have hnq : (q.2 == BL[k].1 - 1) = false := by simpa using hq
          have hown' : OwnP wr w1.heap.size 26 (.slice (some ⟨g, 0, none⟩) (O'.length + 1) cap) (O' ++ [q]) := by unfold OwnP; rw [HLN.out]; exact hown
          have hO' : (O' ++ [q]).length ≤ k := by rw [HLN.out]; exact hO
          have hOs := hO
          clear hown hO
          have hown := hown'
          have hO := hO'
          clear hown' hO'
          go_wp2_with fail
          refine wp_region_bel wr.heap.size wr (by kernel_rfl) (by kernel_rfl) (Below.refl _ _) ?_
          repeat (go_big_quiet_step (fail))
          refine wpQuiet_nil ?_
          intro w2 hb2
          have hb3 := hb.trans (hb2.mono hs)
          have hs3 := hb3.size
          have d0 := (hb3.cell (p := ⟨b, off + k * 2, none⟩) hbb).trans c0
          have d1 := (hb3.cell (p := ⟨b, off + k * 2 + 1, none⟩) hbb).trans c1
          have hown2 : OwnP w2 w1.heap.size 26 (Value.slice (some ⟨g, 0, none⟩) (O'.length + 1) cap) (O' ++ [q]) := hown.below hb2
          unfold OwnP at hown2
          have hne : (Value.slice (some ⟨g, 0, none⟩) (O'.length + 1) cap).ownBlock ≠ some b := fun e => by have := (World.ownsRow.lt hown2 b e).1; omega
          have lb := World.block_lt_of_cell? w2 _ d0
          have HN := Lib.hid (show mergeApp (O' ++ [q] ++ [(BL[k].1, lastP BL[k])]) ((spansP BL).drop (k + 1)) = gapsL p l by rw [mergeApp_new (by show ¬ BL[k].1 ≤ q.2 + 1; omega)]; exact hg)
          have hOl : (O' ++ [q]).length ≤ 4294967296 := by omega
          obtain ⟨X, hX⟩ : ∃ X, X = (O' ++ [q]) := ⟨_, rfl⟩
          have HX := Lib.hid hX
          rw [← hX] at hown2 hOl hO
          clear hX hg hnq k1 k2 e1
          go_wp2_with fail
          go_region_held3 (fun w' => w'.cell? ⟨b, off + k * 2, none⟩ = some (.int .i64 BL[k].1) ∧ w'.cell? ⟨b, off + k * 2 + 1, none⟩ = some (.int .i64 BL[k].2))
            (first
              | go_keep
              | (go_split_ands
                 refine ⟨?_, ?_⟩
                 · (first | (exact (hbL.cell (p := ⟨b, off + k * 2, none⟩) (by simp; omega)).trans d0) | (rw [hgrow.cell_far _ (by have := hbL.size; simp at this; simp; omega) (Ne.symm hne)]; assumption))
                 · (first | (exact (hbL.cell (p := ⟨b, off + k * 2 + 1, none⟩) (by simp; omega)).trans d1) | (rw [hgrow.cell_far _ (by have := hbL.size; simp at this; simp; omega) (Ne.symm hne)]; assumption))))
            (first
              | (go_at_call 58; refine (lastOf_any _ _ HC.out _).mono ?_; rintro e wL ⟨rfl, hbL⟩)
              | (refine step_append_lies _ (by rfl) _ _ _ (by rfl) w1.heap.size 26 i0 _ 2 16 Tryd.underlying22 hi0 hz0 hz1 hz2 rfl (by omega) (Value.slice (some ⟨g, 0, none⟩) (O'.length + 1) cap) X.length (cellsP X) (by rfl) (World.ownsRow.alloc (own_below (World.ownsRow.drew hown2) hbL) _)
                  ⟨wL.heap.size, 0, none⟩ 1 1 [.int .i64 BL[k].1, .int .i64 (lastA BL[k].1 BL[k].2)] (by rfl) (by rfl) (World.news_of_block (cs := #[.int .i64 BL[k].1, .int .i64 (lastA BL[k].1 BL[k].2)]) (t := 26) (fr := (0, 0)) (heap_alloc_new wL _)) (by simp [Value.oneCell'])
                  (by omega) (by unfold maxLen; omega) (by omega) (by have := hbL.size; simp at this; simp; omega) (wL.heap.size + 1) (by simp) ?_; intro gg cap' w4 hown4 hgrow hat hlt4))
          have hb4 : Below w1.heap.size w1 w4 := ((hb3.drew.trans (hbL.mono hs3)).alloc (by have := hbL.size; simp at this; omega) _).grown hgrow (by have := hbL.size; simp at this; simp; omega) (fun q hq => (World.ownsRow.lt hown2 q hq).1)
          have hown5 : OwnP w4 w1.heap.size 26 (.slice (some ⟨gg, 0, none⟩) (X.length + 1) cap') (X ++ [(BL[k].1, lastP BL[k])]) := by
            unfold OwnP
            rw [cellsP_append, List.length_append]
            exact hown4
          clear hown4 hgrow hat hlt4 hown2 hne lb d0 d1 hbL
          go_wp2_with fail
          go_roundw
          case rel => exact ⟨k + 1, X ++ [(BL[k].1, lastP BL[k])], by omega, by go_num, hb4, hown5, by simp; omega, by rw [HX.out]; exact HN.out, Lib.hid (fun q hq h => by simp at hq; subst hq; exact HPW.out h)⟩
          case measure => simp [intOf]; omega
    · obtain rfl : k = BL.length := by omega
      have HF2 := Lib.hid (show O = gapsL p l by
        rw [List.drop_eq_nil_of_le (by simp [spansP]), mergeApp_end] at hg; exact hg)
      clear hg
      go_wp2_with fail
      go_ret
      exact ⟨_, rfl, HF2.out ▸ (own_of_base hown hs1), hbw1.trans (hb.mono hs1)⟩
end Go.Proofs.YtmfaknngophmhaaDoor
