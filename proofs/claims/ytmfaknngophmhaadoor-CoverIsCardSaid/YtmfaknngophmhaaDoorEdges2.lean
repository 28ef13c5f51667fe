/- The reference edges: where each edge goes; the whole contract. Any two lists of spans that may be. -/
import Derived.Test.YtmfaknngophmhaaDoorEdges
import Derived.Test.YtmfaknngophmhaaDoorEdgesMath
import Derived.Test.YtmfaknngophmhaaDoorOwnIns
import Derived.Laws.CopyOwn
namespace Go.Proofs.YtmfaknngophmhaaDoor
set_option linter.unusedVariables false
set_option linter.unusedSimpArgs false
open Go.RowKit

theorem ins_cell {w : World} {base n k cap g q : Nat} {e : TypeId} {xs : List Value} {z u : Value} (h : w.ownsRow base e 1 (.slice (some ⟨g, 0, none⟩) (n + 1) cap) (n + 1) (xs ++ [z])) (hx : xs.length = n) (hq : (xs.drop k)[q]? = some u) : w.drew.cell? ((⟨g, k, none⟩ : Addr).add q) = some u := by
  rw [List.getElem?_drop] at hq
  obtain ⟨hlt, _⟩ := List.getElem?_eq_some_iff.1 hq
  have h1 := World.ownsRow.cellAt h (k + q) (by omega)
  rw [List.getElem?_append_left hlt, hq] at h1
  rw [show ((⟨g, k, none⟩ : Addr).add q) = ⟨g, k + q, none⟩ by unfold Addr.add; split <;> simp_all]
  exact h1
set_option maxRecDepth 100000 in
set_option maxHeartbeats 4000000 in
theorem edges_3 (A B : Option Addr) (l m : List Sp) (c d : Nat) (w : World) (hL : l.length ≤ 1000000) (hM : m.length ≤ 1000000) (vl : Valid l) (vm : Valid m) (s0 : Act) (w0 : World) (h0 : EMid2 A B l m c d w s0 w0) :
    (tailN 5 (Tryd.f46.body.getD .skip)).wp Tryd.prog (bodyPost Tryd.prog Tryd.f46 fun e w' => ∃ v, e = .returned v ∧ w'.ownsRow w.heap.size 3 1 v (edgesL (edgesOf l ++ edgesOf m)).length ((edgesL (edgesOf l ++ edgesOf m)).map (Value.int .i64)) ∧ Below w.heap.size w w') s0 w0 := by
  obtain ⟨U, vS, rfl, hB0, hownS⟩ := h0
  obtain ⟨S, hS⟩ : ∃ S, S = edgesOf l ++ edgesOf m := ⟨_, rfl⟩
  have hSl : S.length ≤ 4000000 := by rw [hS]; simp only [List.length_append, edgesOf_length]; omega
  have hSr : ∀ z ∈ S, 0 ≤ z ∧ z ≤ 4294967296 := by
    intro z hz
    rw [hS] at hz
    rcases List.mem_append.1 hz with h | h
    · exact edgesOf_range vl z h
    · exact edgesOf_range vm z h
  rw [← hS] at hownS ⊢
  clear hS
  have HR := Lib.hid hSr
  clear hSr vl vm
  obtain ⟨AS, cS, rfl, hrS⟩ := own_form hownS
  have hs0 := hB0.size
  have hownO := World.ownsRow_nil w0 w0.heap.size 3 1
  have HN := Lib.hid (show edgesL (S.take 0) = [] from rfl)
  clear hownS
  dsimp only [Tryd.f46, Option.getD, tailN]
  go_wp2_with fail
  go_loopw [5, 9] (fun v i wx => ∃ k : Nat, k ≤ S.length ∧ i = .int .i64 k ∧ Below w0.heap.size w0 wx ∧ wx.ownsRow w0.heap.size 3 1 v (edgesL (S.take k)).length ((edgesL (S.take k)).map (Value.int .i64))) (fun _ i _ => S.length - (intOf i).toNat)
  case atStart => exact ⟨0, Nat.zero_le _, rfl, Below.refl _ _, by rw [HN.out]; exact hownO⟩
  case round =>
    obtain ⟨k, hk, rfl, hb, hown⟩ := hrel
    by_cases hlt : k < S.length
    · obtain ⟨wo, rfl⟩ : ∃ wo : World, wo = wr := ⟨_, rfl⟩
      have hs := hb.size
      have HT := Lib.hid (edgesL_take S hlt)
      have HO := Lib.hid (edgesL_sorted (S.take k))
      have hEl : (edgesL (S.take k)).length ≤ 4000000 := by have := edgesL_length (S.take k); rw [List.length_take] at this; omega
      have HE0 : ∀ z ∈ edgesL (S.take k), z ∈ S := fun z hz => List.mem_of_mem_take (((edgesL_good _).2 z).1 hz)
      obtain ⟨E, hE⟩ : ∃ E, E = edgesL (S.take k) := ⟨_, rfl⟩
      rw [← hE] at hown hEl HO HT HE0
      have HE := Lib.hid hE
      have HER := Lib.hid (show ∀ z ∈ E, 0 ≤ z ∧ z ≤ 4294967296 from fun z hz => HR.out z (HE0 z hz))
      clear hE HE0
      obtain ⟨AO, cO, rfl, hrO⟩ := own_form hown
      obtain ⟨bS, oS, rfl, hbS, cS0⟩ := hrS.int hlt
      obtain ⟨x1, x2⟩ := HR.out S[k] (List.getElem_mem _)
      go_wp2_with fail
      go_loopw [10] (fun j wx => ∃ t : Nat, t ≤ E.length ∧ j = .int .i64 t ∧ Below wo.heap.size wo wx ∧ Hid (∀ q (h : q < E.length), t ≤ q → S[k] < E[q])) (fun j _ => (intOf j).toNat)
      case atStart => exact ⟨E.length, Nat.le_refl _, rfl, Below.refl _ _, Lib.hid (fun q h h' => by omega)⟩
      case round =>
        obtain ⟨j, hj, rfl, hbq, HQ⟩ := hrel
        have hb2 := hb.trans (hbq.mono hs)
        rcases Nat.eq_zero_or_pos j with rfl | hj0
        · have hg0 : decide ((0 : Int) < ((0 : Nat) : Int)) = false := by decide
          go_wp2_with fail
          refine wp_region_bel wr.heap.size wr (by kernel_rfl) (by kernel_rfl) (Below.refl _ _) ?_
          repeat (go_big_quiet_step (fail))
          refine wpQuiet_nil ?_
          intro w2 hbr
          go_wp2_with fail
          refine wp_region_bel w2.heap.size w2 (by kernel_rfl) (by kernel_rfl) (Below.refl _ _) ?_
          repeat (go_big_quiet_step (fail))
          refine wpQuiet_nil ?_
          intro w3 hbr2
          have hb3 := hbq.trans ((hbr.mono hbq.size).trans (hbr2.mono (Nat.le_trans hbq.size hbr.size)))
          have hb2 := hb.trans (hb3.mono hs)
          have hown2 := own_below hown hb3
          have hs3 := hb2.size
          go_wp2_with (at_builtin; refine wpList_append_one (u := .int .i64 0) rfl _ _ 81 rfl Tryd.underlying81 _ 8 infoI rfl (by decide) w0.heap.size _ E.length (E.map (Value.int .i64)) rfl hown2 rfl rfl (by omega) (by omega) ?_; intro v4 w4 hown4 hb4x)
          have hb4 := hb2.trans hb4x
          obtain ⟨g, cap, cur, rfl, hgb, hglt, hcap, hg4, hcur, htk⟩ := own_block hown4 (by omega)
          clear hb4x
          have hl : ((E.map (Value.int .i64)).drop (0)).length = E.length - (0) := by simp
          have HL := Lib.hid hl
          have HFIT := Lib.hid (show 0 + 1 + ((E.map (Value.int .i64)).drop (0)).length ≤ cur.length by rw [hl]; omega)
          have HONE := Lib.hid (show ∀ u ∈ (E.map (Value.int .i64)).drop (0), u.oneCell' = true from fun u hu => by have hu := List.mem_of_mem_drop hu; simp at hu; obtain ⟨z, _, rfl⟩ := hu; rfl)
          have HG := Lib.hid (show w4.drew.heap[g]? = some (.cells cur.toArray 3 (0, 0)) from hg4)
          have HB := Lib.hid (show Below w0.heap.size w0 w4.drew from hb4.drew)
          have HC := Lib.hid (show ∀ q u, ((E.map (Value.int .i64)).drop (0))[q]? = some u → w4.drew.cell? ((⟨g, 0, none⟩ : Addr).add q) = some u from fun q u hq => ins_cell hown4 (by simp) hq)
          have SZ := Lib.hid (show (Tryd.prog.info? 3).map (·.size) = some 1 by kernel_rfl)
          have HOWN := Lib.hid hown4
          have HINS := Lib.hid (show edgesL (S.take (k + 1)) = E.take (0) ++ S[k] :: E.drop (0) from HT.out.trans (insE_at HO.out hj (fun q h h' => HQ.out q h h') (fun h => absurd h (by omega))))
          have HCUR := Lib.hid hg4
          clear hl htk hown4 hg4 hb4 hcur
          by_cases hcp : cap = 0 + 1
          · subst hcp
            have HEL := Lib.hid (show E.length = 0 by omega)
            go_wp2_with fail
            have q1 : IntKind.i64.wrap ((1 : Int)) = (1 : Int) := IntWalk.i64_in _ (by omega)
            have q2 : (0 : Int) ≤ (1 : Int) := by omega
            have q3 : (1 : Int) ≤ (E.length : Int) + 1 := by omega
            have q4 : ((1 : Int)).toNat = 0 + 1 := by omega
            have q5 : ¬ ((0 + 1) = 0) := by omega
            have q6 : (0 : Int) ≤ (E.length : Int) + 1 := by omega
            have HLM := Lib.hid (show ((E.map (Value.int .i64)).drop (0)).length = Nat.min (E.length + 1) 0 by rw [HL.out]; show _ = min _ _; omega)
            go_region_law ((refine step_copy_splice rfl (.tmp 95) (.tmp 98) 81 81 rfl 3 Tryd.underlying81 SZ.out (some ⟨g, 0, none⟩) (some ⟨g, 0, none⟩) 0 0 (E.length + 1) 1 (by go_simp) (by go_simp) g (0 + 1) cur 3 HG.out ((E.map (Value.int .i64)).drop (0)) HLM.out (fun h => absurd h (by rw [HL.out, HEL.out]; simp)) HFIT.out HONE.out w0.heap.size w0 HB.out hgb ?_; intro w5 hg5 hb5))
            clear q1 q2 q3 q4 q5 q6
            have hc5 := (hb5.cell (p := ⟨bS, oS + k, none⟩) hbS).trans cS0
            obtain ⟨uu, hu5⟩ : ∃ u, w5.cell? ⟨g, 0, none⟩ = some u := by
              rw [cell_of_row w5 g (0) _ _ _ hg5.out]
              exact ⟨_, Array.getElem?_eq_getElem (by rw [List.size_toArray, length_splice _ _ _ HFIT.out]; have := HFIT.out; omega)⟩
            have hf5 : w5.frozen? ⟨g, 0, none⟩ = false := Blk.frozen (show Blk w5 g 3 (splice cur (0 + 1) ((E.map (Value.int .i64)).drop (0))).toArray from hg5.out) (0)
            have hfin : (w5.setCell ⟨g, 0, none⟩ (.int .i64 S[k])).ownsRow w0.heap.size 3 1 (.slice (some ⟨g, 0, none⟩) (E.length + 1) (0 + 1)) (edgesL (S.take (k + 1))).length ((edgesL (S.take (k + 1))).map (Value.int .i64)) := by
              rw [HINS.out, List.map_append, List.map_cons, List.map_take, List.map_drop, show (E.take (0) ++ S[k] :: E.drop (0)).length = E.length + 1 by simp <;> omega]
              exact own_ins HOWN.out (by simp) (by omega) HCUR.out hg5.out
            have HF := Lib.hid hfin
            have hbf : Below w0.heap.size w0 (w5.setCell ⟨g, 0, none⟩ (.int .i64 S[k])) := hb5.setCell (p := ⟨g, 0, none⟩) hgb _
            clear hfin
            go_wp2_with fail
            go_roundw
            case rel => exact ⟨k + 1, by omega, by go_num, hbf, HF.out⟩
            case measure => simp [intOf]; omega

          · go_wp2_with fail
            have q1 : IntKind.i64.wrap ((1 : Int)) = (1 : Int) := IntWalk.i64_in _ (by omega)
            have q2 : (0 : Int) ≤ (1 : Int) := by omega
            have q3 : (1 : Int) ≤ (E.length : Int) + 1 := by omega
            have q4 : ((1 : Int)).toNat = 0 + 1 := by omega
            have q5 : ¬ (cap = 0) := by omega
            have q6 : (0 : Int) ≤ (E.length : Int) + 1 := by omega
            have HLM := Lib.hid (show ((E.map (Value.int .i64)).drop (0)).length = Nat.min (E.length + 1) E.length by rw [HL.out]; show _ = min _ _; omega)
            go_region_law ((refine step_copy_splice rfl (.tmp 95) (.tmp 98) 81 81 rfl 3 Tryd.underlying81 SZ.out (some ⟨g, 1, none⟩) (some ⟨g, 0, none⟩) E.length (cap - 1) (E.length + 1) cap (by go_simp) (by go_simp) g (0 + 1) cur 3 HG.out ((E.map (Value.int .i64)).drop (0)) HLM.out (fun _ => ⟨rfl, _, rfl, HC.out⟩) HFIT.out HONE.out w0.heap.size w0 HB.out hgb ?_; intro w5 hg5 hb5))
            clear q1 q2 q3 q4 q5 q6
            have hc5 := (hb5.cell (p := ⟨bS, oS + k, none⟩) hbS).trans cS0
            obtain ⟨uu, hu5⟩ : ∃ u, w5.cell? ⟨g, 0, none⟩ = some u := by
              rw [cell_of_row w5 g (0) _ _ _ hg5.out]
              exact ⟨_, Array.getElem?_eq_getElem (by rw [List.size_toArray, length_splice _ _ _ HFIT.out]; have := HFIT.out; omega)⟩
            have hf5 : w5.frozen? ⟨g, 0, none⟩ = false := Blk.frozen (show Blk w5 g 3 (splice cur (0 + 1) ((E.map (Value.int .i64)).drop (0))).toArray from hg5.out) (0)
            have hfin : (w5.setCell ⟨g, 0, none⟩ (.int .i64 S[k])).ownsRow w0.heap.size 3 1 (.slice (some ⟨g, 0, none⟩) (E.length + 1) cap) (edgesL (S.take (k + 1))).length ((edgesL (S.take (k + 1))).map (Value.int .i64)) := by
              rw [HINS.out, List.map_append, List.map_cons, List.map_take, List.map_drop, show (E.take (0) ++ S[k] :: E.drop (0)).length = E.length + 1 by simp <;> omega]
              exact own_ins HOWN.out (by simp) (by omega) HCUR.out hg5.out
            have HF := Lib.hid hfin
            have hbf : Below w0.heap.size w0 (w5.setCell ⟨g, 0, none⟩ (.int .i64 S[k])) := hb5.setCell (p := ⟨g, 0, none⟩) hgb _
            clear hfin
            go_wp2_with fail
            go_roundw
            case rel => exact ⟨k + 1, by omega, by go_num, hbf, HF.out⟩
            case measure => simp [intOf]; omega



        · obtain ⟨t, rfl⟩ : ∃ t, j = t + 1 := ⟨j - 1, by omega⟩
          obtain ⟨bO, oO, rfl, hbO, cO0⟩ := (hrO.below hbq).int (k := t) (by omega)
          have hbO' : bO < wr.heap.size := Nat.lt_of_lt_of_le hbO hbq.size
          have cS1 := (hb2.cell (p := ⟨bS, oS + k, none⟩) hbS).trans cS0
          have kO : ∀ x : BelW wr.heap.size wr, x.1.cell? ⟨bO, oO + t, none⟩ = some (.int .i64 E[t]) := BelW.cell cO0 hbO'
          have kS : ∀ x : BelW wr.heap.size wr, x.1.cell? ⟨bS, oS + k, none⟩ = some (.int .i64 S[k]) := BelW.cell cS1 (by have := hbq.size; simp; omega)
          by_cases hgt : S[k] < E[t]
          · go_wp2_with fail
            refine wp_region_bel wr.heap.size wr (by kernel_rfl) (by kernel_rfl) (Below.refl _ _) ?_
            repeat (go_big_quiet_step (fail))
            refine wpQuiet_nil ?_
            intro w2 hbr
            clear kO kS
            go_wp2_with fail
            go_roundw
            case rel => exact ⟨t, by omega, by go_num, hbq.trans (hbr.mono hbq.size), Lib.hid (fun q h h' => by rcases Nat.lt_or_ge t q with h1 | h1; exact HQ.out q h h1; obtain rfl : q = t := (by omega); exact hgt)⟩
            case measure => simp [intOf]
          · have hd : decide (S[k] < E[t]) = false := by simpa using hgt
            have hle : E[t] ≤ S[k] := by omega
            clear hgt
            by_cases heq : E[t] = S[k]
            · have hb1 : (E[t] == S[k]) = true := by simpa using heq
              have HSM := Lib.hid (show edgesL (S.take (k + 1)) = E by rw [HT.out]; exact insE_same HO.out hj (by omega) heq)
              have hE2 : decide (S[k] < S[k]) = false := by simp
              rw [heq] at kO
              clear heq hle hd hb1 cO0
              go_wp2_with fail
              refine wp_region_bel wr.heap.size wr (by kernel_rfl) (by kernel_rfl) (Below.refl _ _) ?_
              repeat (go_big_quiet_step (fail))
              refine wpQuiet_nil ?_
              intro w2 hbr
              have kO2 : ∀ x : BelW w2.heap.size w2, x.1.cell? ⟨bO, oO + t, none⟩ = some (.int .i64 S[k]) := BelW.cell (kO ⟨w2, hbr⟩) (Nat.lt_of_lt_of_le hbO' hbr.size)
              have kS2 : ∀ x : BelW w2.heap.size w2, x.1.cell? ⟨bS, oS + k, none⟩ = some (.int .i64 S[k]) := BelW.cell (kS ⟨w2, hbr⟩) (by have := hbq.size; have := hbr.size; simp; omega)
              clear kO kS
              go_wp2_with fail
              refine wp_region_bel w2.heap.size w2 (by kernel_rfl) (by kernel_rfl) (Below.refl _ _) ?_
              repeat (go_big_quiet_step (fail))
              refine wpQuiet_nil ?_
              intro w3 hbr2
              clear kO2 kS2
              have hb3 := hbq.trans ((hbr.mono hbq.size).trans (hbr2.mono (Nat.le_trans hbq.size hbr.size)))
              have hown2 := own_below hown hb3
              go_wp2_with fail
              go_roundw
              case rel => exact ⟨k + 1, by omega, by go_num, hb.trans (hb3.mono hs), by rw [HSM.out]; exact hown2⟩
              case measure => simp [intOf]; omega
            · have hb1 : (E[t] == S[k]) = false := by simpa using heq
              have HLT := Lib.hid (show E[t] < S[k] by omega)
              clear heq
              go_wp2_with fail
              refine wp_region_bel wr.heap.size wr (by kernel_rfl) (by kernel_rfl) (Below.refl _ _) ?_
              repeat (go_big_quiet_step (fail))
              refine wpQuiet_nil ?_
              intro w2 hbr
              have kO2 : ∀ x : BelW w2.heap.size w2, x.1.cell? ⟨bO, oO + t, none⟩ = some (.int .i64 E[t]) := BelW.cell (kO ⟨w2, hbr⟩) (Nat.lt_of_lt_of_le hbO' hbr.size)
              have kS2 : ∀ x : BelW w2.heap.size w2, x.1.cell? ⟨bS, oS + k, none⟩ = some (.int .i64 S[k]) := BelW.cell (kS ⟨w2, hbr⟩) (by have := hbq.size; have := hbr.size; simp; omega)
              clear kO kS cO0
              go_wp2_with fail
              refine wp_region_bel w2.heap.size w2 (by kernel_rfl) (by kernel_rfl) (Below.refl _ _) ?_
              repeat (go_big_quiet_step (fail))
              refine wpQuiet_nil ?_
              intro w3 hbr2
              clear kO2 kS2
              have hb3 := hbq.trans ((hbr.mono hbq.size).trans (hbr2.mono (Nat.le_trans hbq.size hbr.size)))
              have hb2 := hb.trans (hb3.mono hs)
              have hown2 := own_below hown hb3
              have hs3 := hb2.size
              clear hd hb1 hle
              go_wp2_with (at_builtin; refine wpList_append_one (u := .int .i64 0) rfl _ _ 81 rfl Tryd.underlying81 _ 8 infoI rfl (by decide) w0.heap.size _ E.length (E.map (Value.int .i64)) rfl hown2 rfl rfl (by omega) (by omega) ?_; intro v4 w4 hown4 hb4x)
              have hb4 := hb2.trans hb4x
              obtain ⟨g, cap, cur, rfl, hgb, hglt, hcap, hg4, hcur, htk⟩ := own_block hown4 (by omega)
              clear hb4x
              have hl : ((E.map (Value.int .i64)).drop (t + 1)).length = E.length - (t + 1) := by simp
              have HL := Lib.hid hl
              have HFIT := Lib.hid (show t + 1 + 1 + ((E.map (Value.int .i64)).drop (t + 1)).length ≤ cur.length by rw [hl]; omega)
              have HONE := Lib.hid (show ∀ u ∈ (E.map (Value.int .i64)).drop (t + 1), u.oneCell' = true from fun u hu => by have hu := List.mem_of_mem_drop hu; simp at hu; obtain ⟨z, _, rfl⟩ := hu; rfl)
              have HG := Lib.hid (show w4.drew.heap[g]? = some (.cells cur.toArray 3 (0, 0)) from hg4)
              have HB := Lib.hid (show Below w0.heap.size w0 w4.drew from hb4.drew)
              have HC := Lib.hid (show ∀ q u, ((E.map (Value.int .i64)).drop (t + 1))[q]? = some u → w4.drew.cell? ((⟨g, t + 1, none⟩ : Addr).add q) = some u from fun q u hq => ins_cell hown4 (by simp) hq)
              have SZ := Lib.hid (show (Tryd.prog.info? 3).map (·.size) = some 1 by kernel_rfl)
              have HOWN := Lib.hid hown4
              have HINS := Lib.hid (show edgesL (S.take (k + 1)) = E.take (t + 1) ++ S[k] :: E.drop (t + 1) from HT.out.trans (insE_at HO.out hj (fun q h h' => HQ.out q h h') (fun _ => HLT.out)))
              have HCUR := Lib.hid hg4
              clear hl htk hown4 hg4 hb4 hcur
              by_cases hcp : cap = t + 1 + 1
              · subst hcp
                have HEL := Lib.hid (show E.length = t + 1 by omega)
                go_wp2_with fail
                have q1 : IntKind.i64.wrap ((t : Int) + 1 + 1) = (t : Int) + 1 + 1 := IntWalk.i64_in _ (by omega)
                have q2 : (0 : Int) ≤ (t : Int) + 1 + 1 := by omega
                have q3 : (t : Int) + 1 + 1 ≤ (E.length : Int) + 1 := by omega
                have q4 : ((t : Int) + 1 + 1).toNat = t + 1 + 1 := by omega
                have q5 : ¬ ((t + 1 + 1) = t + 1) := by omega
                have q6 : (0 : Int) ≤ (E.length : Int) + 1 := by omega
                have q7 : (0 : Int) ≤ (t : Int) + 1 := by omega
                have q8 : t ≤ E.length := by omega
                have HLM := Lib.hid (show ((E.map (Value.int .i64)).drop (t + 1)).length = Nat.min (E.length + 1 - (t + 1)) (E.length + 1 - (t + 1 + 1)) by rw [HL.out]; show _ = min _ _; omega)
                go_region_law ((refine step_copy_splice rfl (.tmp 95) (.tmp 98) 81 81 rfl 3 Tryd.underlying81 SZ.out (some ⟨g, 0, none⟩) (some ⟨g, t + 1, none⟩) (E.length + 1 - (t + 1 + 1)) (t + 1 + 1 - (t + 1 + 1)) (E.length + 1 - (t + 1)) (t + 1 + 1 - (t + 1)) (by go_simp) (by go_simp) g (t + 1 + 1) cur 3 HG.out ((E.map (Value.int .i64)).drop (t + 1)) HLM.out (fun h => absurd h (by rw [HL.out, HEL.out]; simp)) HFIT.out HONE.out w0.heap.size w0 HB.out hgb ?_; intro w5 hg5 hb5))
                clear q1 q2 q3 q4 q5 q6 q7 q8
                have hc5 := (hb5.cell (p := ⟨bS, oS + k, none⟩) hbS).trans cS0
                obtain ⟨uu, hu5⟩ : ∃ u, w5.cell? ⟨g, t + 1, none⟩ = some u := by
                  rw [cell_of_row w5 g (t + 1) _ _ _ hg5.out]
                  exact ⟨_, Array.getElem?_eq_getElem (by rw [List.size_toArray, length_splice _ _ _ HFIT.out]; have := HFIT.out; omega)⟩
                have hf5 : w5.frozen? ⟨g, t + 1, none⟩ = false := Blk.frozen (show Blk w5 g 3 (splice cur (t + 1 + 1) ((E.map (Value.int .i64)).drop (t + 1))).toArray from hg5.out) (t + 1)
                have hfin : (w5.setCell ⟨g, t + 1, none⟩ (.int .i64 S[k])).ownsRow w0.heap.size 3 1 (.slice (some ⟨g, 0, none⟩) (E.length + 1) (t + 1 + 1)) (edgesL (S.take (k + 1))).length ((edgesL (S.take (k + 1))).map (Value.int .i64)) := by
                  rw [HINS.out, List.map_append, List.map_cons, List.map_take, List.map_drop, show (E.take (t + 1) ++ S[k] :: E.drop (t + 1)).length = E.length + 1 by simp <;> omega]
                  exact own_ins HOWN.out (by simp) (by omega) HCUR.out hg5.out
                have HF := Lib.hid hfin
                have hbf : Below w0.heap.size w0 (w5.setCell ⟨g, t + 1, none⟩ (.int .i64 S[k])) := hb5.setCell (p := ⟨g, t + 1, none⟩) hgb _
                clear hfin
                go_wp2_with fail
                go_roundw
                case rel => exact ⟨k + 1, by omega, by go_num, hbf, HF.out⟩
                case measure => simp [intOf]; omega

              · go_wp2_with fail
                have q1 : IntKind.i64.wrap ((t : Int) + 1 + 1) = (t : Int) + 1 + 1 := IntWalk.i64_in _ (by omega)
                have q2 : (0 : Int) ≤ (t : Int) + 1 + 1 := by omega
                have q3 : (t : Int) + 1 + 1 ≤ (E.length : Int) + 1 := by omega
                have q4 : ((t : Int) + 1 + 1).toNat = t + 1 + 1 := by omega
                have q5 : ¬ (cap = t + 1) := by omega
                have q6 : (0 : Int) ≤ (E.length : Int) + 1 := by omega
                have q7 : (0 : Int) ≤ (t : Int) + 1 := by omega
                have q8 : t ≤ E.length := by omega
                have HLM := Lib.hid (show ((E.map (Value.int .i64)).drop (t + 1)).length = Nat.min (E.length + 1 - (t + 1)) (E.length + 1 - (t + 1 + 1)) by rw [HL.out]; show _ = min _ _; omega)
                go_region_law ((refine step_copy_splice rfl (.tmp 95) (.tmp 98) 81 81 rfl 3 Tryd.underlying81 SZ.out (some ⟨g, t + 1 + 1, none⟩) (some ⟨g, t + 1, none⟩) (E.length + 1 - (t + 1 + 1)) (cap - (t + 1 + 1)) (E.length + 1 - (t + 1)) (cap - (t + 1)) (by go_simp) (by go_simp) g (t + 1 + 1) cur 3 HG.out ((E.map (Value.int .i64)).drop (t + 1)) HLM.out (fun _ => ⟨rfl, _, rfl, HC.out⟩) HFIT.out HONE.out w0.heap.size w0 HB.out hgb ?_; intro w5 hg5 hb5))
                clear q1 q2 q3 q4 q5 q6 q7 q8
                have hc5 := (hb5.cell (p := ⟨bS, oS + k, none⟩) hbS).trans cS0
                obtain ⟨uu, hu5⟩ : ∃ u, w5.cell? ⟨g, t + 1, none⟩ = some u := by
                  rw [cell_of_row w5 g (t + 1) _ _ _ hg5.out]
                  exact ⟨_, Array.getElem?_eq_getElem (by rw [List.size_toArray, length_splice _ _ _ HFIT.out]; have := HFIT.out; omega)⟩
                have hf5 : w5.frozen? ⟨g, t + 1, none⟩ = false := Blk.frozen (show Blk w5 g 3 (splice cur (t + 1 + 1) ((E.map (Value.int .i64)).drop (t + 1))).toArray from hg5.out) (t + 1)
                have hfin : (w5.setCell ⟨g, t + 1, none⟩ (.int .i64 S[k])).ownsRow w0.heap.size 3 1 (.slice (some ⟨g, 0, none⟩) (E.length + 1) cap) (edgesL (S.take (k + 1))).length ((edgesL (S.take (k + 1))).map (Value.int .i64)) := by
                  rw [HINS.out, List.map_append, List.map_cons, List.map_take, List.map_drop, show (E.take (t + 1) ++ S[k] :: E.drop (t + 1)).length = E.length + 1 by simp <;> omega]
                  exact own_ins HOWN.out (by simp) (by omega) HCUR.out hg5.out
                have HF := Lib.hid hfin
                have hbf : Below w0.heap.size w0 (w5.setCell ⟨g, t + 1, none⟩ (.int .i64 S[k])) := hb5.setCell (p := ⟨g, t + 1, none⟩) hgb _
                clear hfin
                go_wp2_with fail
                go_roundw
                case rel => exact ⟨k + 1, by omega, by go_num, hbf, HF.out⟩
                case measure => simp [intOf]; omega


    · obtain rfl : k = S.length := by omega
      rw [List.take_length] at hown
      go_wp2_with fail
      go_ret
      exact ⟨_, rfl, own_of_base hown hs0, hB0.trans (hb.mono hs0)⟩
theorem edges_any (A B : Option Addr) (l m : List Sp) (c d : Nat) (w : World) (hL : l.length ≤ 1000000) (hM : m.length ≤ 1000000) (vl : Valid l) (vm : Valid m) (hl : Rd w w.heap.size A (cellsP l)) (hr : Rd w w.heap.size B (cellsP m)) :
    Calls Tryd.prog 46 #[.slice A l.length c, .slice B m.length d] w fun e w' => ∃ v, e = .returned v ∧ w'.ownsRow w.heap.size 3 1 v (edgesL (edgesOf l ++ edgesOf m)).length ((edgesL (edgesOf l ++ edgesOf m)).map (Value.int .i64)) ∧ Below w.heap.size w w' :=
  edges_12 A B l m c d w hL hM vl vm hl hr _ fun a' w' h => edges_3 A B l m c d w hL hM vl vm a' w' h
end Go.Proofs.YtmfaknngophmhaaDoor
