/- The reference Together: the set of addresses by what two lists tell. Any two lists of spans that may be. -/
import Derived.Test.YtmfaknngophmhaaDoorEdges2
import Derived.Deep.DeepCutAuto
import Derived.Deep.CutRange
namespace Go.Proofs.YtmfaknngophmhaaDoor
set_option linter.unusedVariables false
set_option linter.unusedSimpArgs false
open Go.RowKit

theorem tog_start (f : Int → Bool) (E : List Int) : togApp f [] (E.drop 0) = togGo f none E := rfl
theorem cells_set2 (O : List Sp) (q : Sp) (u : Int) : (cellsP (O ++ [q])).set (O.length * 2 + 1) (.int .i64 u) = cellsP (O ++ [(q.1, u)]) := by
  rw [cellsP_append, cellsP_append, List.set_append_right _ _ (by rw [cellsP_length]; omega), cellsP_length]
  rw [show O.length * 2 + 1 - O.length * 2 = 1 by omega]
  rfl
set_option maxRecDepth 100000 in
set_option maxHeartbeats 4000000 in
theorem together_any (A B : Option Addr) (l m : List Sp) (c d : Nat) (how : Int) (hw : how = 1 ∨ how = 2 ∨ how = 3) (w : World) (hL : l.length ≤ 1000000) (hM : m.length ≤ 1000000) (vl : Valid l) (vm : Valid m) (hl : Rd w w.heap.size A (cellsP l)) (hr : Rd w w.heap.size B (cellsP m)) :
    Calls Tryd.prog 8 #[.slice A l.length c, .slice B m.length d, .int .i64 how] w (OwnRes 26 w (together l m how)) := by
  have VL := Lib.hid vl
  have VM := Lib.hid vm
  have HH := Lib.hid hw
  obtain ⟨i0, hi0, hz0, hz1, hz2⟩ := info_parts infoSp
  clear vl vm hw
  go_enter Tryd.func8, Tryd.ntmps8
  go_wp2_with fail
  refine (edges_any A B l m c d w hL hM VL.out VM.out hl hr).mono ?_
  rintro e w1 ⟨v, rfl, hownE, hb1⟩
  have hEl : (edgesL (edgesOf l ++ edgesOf m)).length ≤ 4000000 := by
    have := edgesL_length (edgesOf l ++ edgesOf m)
    simp only [List.length_append, edgesOf_length] at this; omega
  have hEr : ∀ z ∈ edgesL (edgesOf l ++ edgesOf m), 0 ≤ z ∧ z ≤ 4294967296 := by
    intro z hz
    rcases List.mem_append.1 (((edgesL_good _).2 z).1 hz) with h | h
    · exact edgesOf_range VL.out z h
    · exact edgesOf_range VM.out z h
  obtain ⟨E, hE⟩ : ∃ E, E = edgesL (edgesOf l ++ edgesOf m) := ⟨_, rfl⟩
  have HT := Lib.hid (show togGo (rule how l m) none E = together l m how by rw [hE]; rfl)
  rw [← hE] at hownE hEl hEr
  have HER := Lib.hid hEr
  clear hE hEr
  obtain ⟨AE, cE, rfl, rE⟩ := own_form hownE
  have hs1 := hb1.size
  have hl1 := hl.below hb1
  have hr1 := hr.below hb1
  clear hownE hl hr
  go_wp2_with fail
  go_loopw [8, 9] (fun v i wx => ∃ (k : Nat) (O : List Sp), k ≤ E.length ∧ i = .int .i64 k ∧ Below w1.heap.size w1 wx ∧ OwnP wx w1.heap.size 26 v O ∧ O.length ≤ k ∧ togApp (rule how l m) O (E.drop k) = together l m how) (fun _ i _ => E.length - (intOf i).toNat)
  case atStart => exact ⟨0, [], Nat.zero_le _, rfl, Below.refl _ _, OwnP.nil _ _ _, Nat.le_refl _, HT.out⟩
  case round =>
    obtain ⟨k, O, hk, rfl, hb, hown, hO, hg⟩ := hrel
    have hs := hb.size
    by_cases hlt : k + 1 < E.length
    · obtain ⟨b, off, rfl, hbb, c0⟩ := rE.int (k := k) (by omega)
      obtain ⟨b', off', he, _, c1⟩ := rE.int (k := k + 1) hlt
      obtain ⟨rfl, rfl⟩ : b = b' ∧ off = off' := by simpa using he
      clear he
      have x1 := HER.out E[k] (List.getElem_mem _)
      have x2 := HER.out E[k + 1] (List.getElem_mem _)
      obtain ⟨x1a, x1b⟩ := x1
      obtain ⟨x2a, x2b⟩ := x2
      have HW := Lib.hid (show IntKind.i64.wrap (E[k + 1] - 1) = E[k + 1] - 1 from IntWalk.i64_in _ (by omega))
      have hE2 := drop_two (E := E) hlt
      have hE1 := drop_one (E := E) hlt
      rw [hE2] at hg
      have dr := (hb.cell (p := ⟨b, off + k, none⟩) hbb).trans c0
      obtain ⟨X1, hX1⟩ : ∃ b, b = memS l E[k] := ⟨_, rfl⟩
      obtain ⟨Y1, hY1⟩ : ∃ b, b = memS m E[k] := ⟨_, rfl⟩
      have HX1 := Lib.hid hX1
      have HY1 := Lib.hid hY1
      have HG := Lib.hid hg
      have HE2 := Lib.hid hE2
      have HE1 := Lib.hid hE1
      have hlt' : (k : Int) + 1 < (E.length : Int) := by omega
      clear hX1 hY1 hg hE2 hE1
      go_wp2_with fail
      refine (inside_any A l c E[k] (by unfold maxLen; omega) _ ((hl1.more hs1).below hb |>.more hs)).mono ?_
      rintro e w2 ⟨rfl, rfl⟩
      rw [← HX1.out]
      go_wp2_with fail
      refine (inside_any B m d E[k] (by unfold maxLen; omega) _ ((hr1.more hs1).below hb |>.more hs)).mono ?_
      rintro e w2 ⟨rfl, rfl⟩
      rw [← HY1.out]
      go_upto_region 8 with fail
      go_cut [12] from 36 to 64 (fun s wx => s = .bool (rule how l m E[k]) ∧ wx = wr)
      case first =>
        have hru : rule how l m E[k] = ((decide (how = 1) && (X1 || Y1)) || (decide (how = 2) && (X1 && Y1)) || (decide (how = 3) && (X1 && !Y1))) := by rw [HX1.out, HY1.out]; rfl
        have HRU := Lib.hid hru
        clear hru HX1 HY1
        rcases HH.out with h | h | h
        all_goals
          subst h
          cases X1
          all_goals
            cases Y1
            all_goals
              go_wp2_with fail
              go_meet
              case rel => exact ⟨by rw [HRU.out]; rfl, rfl⟩
      case rest =>
        obtain ⟨hc1, hc2⟩ := hcut
        have hc3 := hc2.symm
        clear hc2
        subst hc3
        subst hc1
        have hg := HG.out
        clear HG
        cases hru : rule how l m E[k]
        · have HN := Lib.hid (show togApp (rule how l m) O (E.drop (k + 1)) = together l m how by rw [HE1.out, togApp_no hru]; exact hg)
          clear hru hg
          go_wp2_with fail
          go_roundw
          case rel => exact ⟨k + 1, O, by omega, by go_num, hb, hown, by omega, HN.out⟩
          case measure => simp [intOf]; omega
        · have HRU := Lib.hid hru
          clear hru
          by_cases hO0 : O = []
          · subst hO0
            obtain ⟨Av, cv, hv, _⟩ := hown.form
            simp only [List.length_nil] at hv
            subst hv
            go_wp2_with fail
            refine wp_region_bel wr.heap.size wr (by kernel_rfl) (by kernel_rfl) (Below.refl _ _) ?_
            repeat (go_big_quiet_step (fail))
            refine wpQuiet_nil ?_
            intro w2 hb2
            have hb3 := hb.trans (hb2.mono hs)
            have hs3 := hb3.size
            have d0 := (hb3.cell (p := ⟨b, off + k, none⟩) hbb).trans c0
            have d1 := (hb3.cell (p := ⟨b, off + (k + 1), none⟩) hbb).trans c1
            have j1 : k < E.length := by omega
            have j2 : (k : Int) < (E.length : Int) := by omega
            have j3 : (0 : Int) ≤ (k : Int) + 1 := by omega
            have j4 : IntKind.i64.wrap ((k : Int) + 1) = (k : Int) + 1 := IntWalk.i64_in _ (by omega)
            have hown2 : OwnP w2 w1.heap.size 26 (Value.slice Av 0 cv) ([] : List Sp) := hown.below hb2
            unfold OwnP at hown2
            have hne : (Value.slice Av 0 cv).ownBlock ≠ some b := fun e => by have := (hown2.lt b e).1; omega
            have lb := World.block_lt_of_cell? w2 _ d0
            have HN := Lib.hid (show togApp (rule how l m) [(E[k], E[k + 1] - 1)] (E.drop (k + 1)) = together l m how by rw [HE1.out, togApp_first HRU.out]; exact hg)
            have hOl : ([] : List Sp).length ≤ 4000000 := by omega
            obtain ⟨X, hX⟩ : ∃ X, X = ([] : List Sp) := ⟨_, rfl⟩
            have HX := Lib.hid hX
            rw [← hX] at hown2 hOl hO
            clear hX hg 
            go_wp2_with fail
            go_region_held3 (fun w' => w'.cell? ⟨b, off + k, none⟩ = some (.int .i64 E[k]) ∧ w'.cell? ⟨b, off + (k + 1), none⟩ = some (.int .i64 E[k + 1]))
              (first
                | go_keep
                | (go_split_ands
                   refine ⟨?_, ?_⟩
                   · (rw [hgrow.cell_far _ (by simp; omega) (Ne.symm hne)]; assumption)
                   · (rw [hgrow.cell_far _ (by simp; omega) (Ne.symm hne)]; assumption)))
              ((refine step_append_lies _ (by rfl) _ _ _ (by rfl) w1.heap.size 26 i0 _ 2 16 Tryd.underlying22 hi0 hz0 hz1 hz2 rfl (by omega) (Value.slice Av 0 cv) X.length (cellsP X) (by rfl) ((hown2.alloc _).drew)
                  ⟨w2.heap.size, 0, none⟩ 1 1 [.int .i64 E[k], .int .i64 (IntKind.i64.wrap (E[k + 1] - 1))] (by rfl) (by rfl) (World.news_of_block (cs := #[.int .i64 E[k], .int .i64 (IntKind.i64.wrap (E[k + 1] - 1))]) (t := 26) (fr := (0, 0)) (heap_alloc_new w2 _)) (by simp [Value.oneCell'])
                  (by omega) (by unfold maxLen; omega) (by omega) (by simp; omega) (w2.heap.size + 1) (by simp) ?_; intro gg cap' w4 hown4 hgrow hat hlt4))
            have hb4 : Below w1.heap.size w1 w4 := ((hb3.alloc hs3 _).drew).grown hgrow (by simp; omega) (fun q hq => (hown2.lt q hq).1)
            rw [HW.out] at hown4
            have hown5 : OwnP w4 w1.heap.size 26 (.slice (some ⟨gg, 0, none⟩) (X.length + 1) cap') (X ++ [(E[k], E[k + 1] - 1)]) := by
              unfold OwnP
              rw [cellsP_append, List.length_append]
              exact hown4
            clear hown4 hgrow hat hlt4 hown2 hne lb d0 d1
            go_wp2_with fail
            go_roundw
            case rel => exact ⟨k + 1, X ++ [(E[k], E[k + 1] - 1)], by omega, by go_num, hb4, hown5, by simp; omega, by rw [HX.out]; exact HN.out⟩
            case measure => simp [intOf]; omega
          · obtain ⟨O', q, rfl⟩ : ∃ O' q, O = O' ++ [q] := ⟨O.dropLast, O.getLast hO0, (List.dropLast_concat_getLast hO0).symm⟩
            have hLn : (O' ++ [q]).length = O'.length + 1 := by simp
            obtain ⟨g, cap, hv⟩ : ∃ g cap, u8 = .slice (some ⟨g, 0, none⟩) (O'.length + 1) cap := by
              rcases hown.2 with ⟨_, h0⟩ | ⟨g, cap, cur, e0, _⟩
              · rw [hLn] at h0; omega
              · exact ⟨g, cap, by rw [e0, hLn]⟩
            subst hv
            unfold OwnP at hown
            rw [hLn] at hown
            have hga := World.ownsRow.lt hown g rfl
            have hcell : ∀ j, j < (O'.length + 1) * 2 → wr.cell? ⟨g, j, none⟩ = (cellsP (O' ++ [q]))[j]? := fun j hj => World.ownsRow.cellAt hown j hj
            have e1 : wr.cell? ⟨g, O'.length * 2 + 1, none⟩ = some (.int .i64 q.2) := by
              rw [hcell _ (by omega), Nat.mul_comm, (cellsP_at (O' ++ [q]) O'.length (by simp)).2]; simp
            clear hcell
            rw [hLn] at hO
            have k1 : ∀ x : BelW wr.heap.size wr, x.1.cell? ⟨g, O'.length * 2 + 1, none⟩ = some (.int .i64 q.2) := BelW.cell e1 hga.2
            have k2 : ∀ x : BelW wr.heap.size wr, x.1.cell? ⟨b, off + k, none⟩ = some (.int .i64 E[k]) := BelW.cell dr (by simp; omega)
            have HLN := Lib.hid hLn
            clear hLn hO0
            by_cases hq : q.2 = E[k] - 1
            · have HN := Lib.hid (show togApp (rule how l m) (O' ++ [(q.1, E[k + 1] - 1)]) (E.drop (k + 1)) = together l m how by rw [HE1.out, togApp_in HRU.out hq]; exact hg)
              have hq2 : (q.2 == E[k] - 1) = true := by simpa using hq
              clear hg hq
              go_wp2_with fail
              refine wp_region_bel wr.heap.size wr (by kernel_rfl) (by kernel_rfl) (Below.refl _ _) ?_
              repeat (go_big_quiet_step (fail))
              refine wpQuiet_nil ?_
              intro w2 hb2
              have hb3 := hb.trans (hb2.mono hs)
              have hs3 := hb3.size
              have d0 := (hb3.cell (p := ⟨b, off + k, none⟩) hbb).trans c0
              have d1 := (hb3.cell (p := ⟨b, off + (k + 1), none⟩) hbb).trans c1
              have j1 : k < E.length := by omega
              have j2 : (k : Int) < (E.length : Int) := by omega
              have j3 : (0 : Int) ≤ (k : Int) + 1 := by omega
              have j4 : IntKind.i64.wrap ((k : Int) + 1) = (k : Int) + 1 := IntWalk.i64_in _ (by omega)
              have hown3 := own_below hown hb2
              have e2 : w2.cell? ⟨g, O'.length * 2 + 1, none⟩ = some (.int .i64 q.2) := k1 ⟨w2, hb2⟩
              have f2 := World.ownsRow.frozenAt hown3 (O'.length * 2 + 1)
              have hst := World.ownsRow.stored hown3 (O'.length * 2 + 1) (.int .i64 (E[k + 1] - 1))
              have hown4 : OwnP (w2.setCell ⟨g, O'.length * 2 + 1, none⟩ (.int .i64 (E[k + 1] - 1))) w1.heap.size 26 (.slice (some ⟨g, 0, none⟩) (O'.length + 1) cap) (O' ++ [(q.1, E[k + 1] - 1)]) := by
                unfold OwnP
                rw [show (O' ++ [(q.1, E[k + 1] - 1)]).length = O'.length + 1 by simp, ← cells_set2]
                exact hst.1
              have hb4 : Below w1.heap.size w1 (w2.setCell ⟨g, O'.length * 2 + 1, none⟩ (.int .i64 (E[k + 1] - 1))) := hb3.setCell (p := ⟨g, O'.length * 2 + 1, none⟩) hga.1 _
              have HO4 := Lib.hid hown4
              have HB4 := Lib.hid hb4
              clear hst hown3 hown hown4 hb4 k1 k2 hb2 hq2
              go_wp2_with fail
              go_roundw
              case rel => exact ⟨k + 1, O' ++ [(q.1, E[k + 1] - 1)], by omega, by go_num, HB4.out, HO4.out, by simp; omega, HN.out⟩
              case measure => simp [intOf]; omega
            · have hnq : (q.2 == E[k] - 1) = false := by simpa using hq
              have hown' : OwnP wr w1.heap.size 26 (.slice (some ⟨g, 0, none⟩) (O'.length + 1) cap) (O' ++ [q]) := by unfold OwnP; rw [HLN.out]; exact hown
              have hO' : (O' ++ [q]).length ≤ k := by rw [HLN.out]; exact hO
              have hOs := hO
              clear hown hO
              have hown := hown'
              have hO := hO'
              clear hown' hO'
              go_wp2_with fail
              refine wp_region_bel wr.heap.size wr (by kernel_rfl) (by kernel_rfl) (Below.refl _ _) ?_
              repeat (go_big_quiet_step (fail))
              refine wpQuiet_nil ?_
              intro w2 hb2
              have hb3 := hb.trans (hb2.mono hs)
              have hs3 := hb3.size
              have d0 := (hb3.cell (p := ⟨b, off + k, none⟩) hbb).trans c0
              have d1 := (hb3.cell (p := ⟨b, off + (k + 1), none⟩) hbb).trans c1
              have j1 : k < E.length := by omega
              have j2 : (k : Int) < (E.length : Int) := by omega
              have j3 : (0 : Int) ≤ (k : Int) + 1 := by omega
              have j4 : IntKind.i64.wrap ((k : Int) + 1) = (k : Int) + 1 := IntWalk.i64_in _ (by omega)
              have hown2 : OwnP w2 w1.heap.size 26 (Value.slice (some ⟨g, 0, none⟩) (O'.length + 1) cap) (O' ++ [q]) := hown.below hb2
              unfold OwnP at hown2
              have hne : (Value.slice (some ⟨g, 0, none⟩) (O'.length + 1) cap).ownBlock ≠ some b := fun e => by have := (hown2.lt b e).1; omega
              have lb := World.block_lt_of_cell? w2 _ d0
              have HN := Lib.hid (show togApp (rule how l m) (O' ++ [q] ++ [(E[k], E[k + 1] - 1)]) (E.drop (k + 1)) = together l m how by rw [HE1.out, togApp_new HRU.out hq]; exact hg)
              have hOl : (O' ++ [q]).length ≤ 4000000 := by omega
              obtain ⟨X, hX⟩ : ∃ X, X = (O' ++ [q]) := ⟨_, rfl⟩
              have HX := Lib.hid hX
              rw [← hX] at hown2 hOl hO
              clear hX hg hnq k1 k2 e1
              go_wp2_with fail
              go_region_held3 (fun w' => w'.cell? ⟨b, off + k, none⟩ = some (.int .i64 E[k]) ∧ w'.cell? ⟨b, off + (k + 1), none⟩ = some (.int .i64 E[k + 1]))
                (first
                  | go_keep
                  | (go_split_ands
                     refine ⟨?_, ?_⟩
                     · (rw [hgrow.cell_far _ (by simp; omega) (Ne.symm hne)]; assumption)
                     · (rw [hgrow.cell_far _ (by simp; omega) (Ne.symm hne)]; assumption)))
                ((refine step_append_lies _ (by rfl) _ _ _ (by rfl) w1.heap.size 26 i0 _ 2 16 Tryd.underlying22 hi0 hz0 hz1 hz2 rfl (by omega) (Value.slice (some ⟨g, 0, none⟩) (O'.length + 1) cap) X.length (cellsP X) (by rfl) ((hown2.alloc _).drew)
                    ⟨w2.heap.size, 0, none⟩ 1 1 [.int .i64 E[k], .int .i64 (IntKind.i64.wrap (E[k + 1] - 1))] (by rfl) (by rfl) (World.news_of_block (cs := #[.int .i64 E[k], .int .i64 (IntKind.i64.wrap (E[k + 1] - 1))]) (t := 26) (fr := (0, 0)) (heap_alloc_new w2 _)) (by simp [Value.oneCell'])
                    (by omega) (by unfold maxLen; omega) (by omega) (by simp; omega) (w2.heap.size + 1) (by simp) ?_; intro gg cap' w4 hown4 hgrow hat hlt4))
              have hb4 : Below w1.heap.size w1 w4 := ((hb3.alloc hs3 _).drew).grown hgrow (by simp; omega) (fun q hq => (hown2.lt q hq).1)
              rw [HW.out] at hown4
              have hown5 : OwnP w4 w1.heap.size 26 (.slice (some ⟨gg, 0, none⟩) (X.length + 1) cap') (X ++ [(E[k], E[k + 1] - 1)]) := by
                unfold OwnP
                rw [cellsP_append, List.length_append]
                exact hown4
              clear hown4 hgrow hat hlt4 hown2 hne lb d0 d1
              go_wp2_with fail
              go_roundw
              case rel => exact ⟨k + 1, X ++ [(E[k], E[k + 1] - 1)], by omega, by go_num, hb4, hown5, by simp; omega, by rw [HX.out]; exact HN.out⟩
              case measure => simp [intOf]; omega
    · have HF := Lib.hid (show O = together l m how by rw [togApp_end (by simp; omega)] at hg; exact hg)
      have hlt' : (E.length : Int) ≤ (k : Int) + 1 := by omega
      clear hg
      go_wp2_with fail
      go_ret
      exact ⟨_, rfl, HF.out ▸ (own_of_base hown hs1), hb1.trans (hb.mono hs1)⟩
end Go.Proofs.YtmfaknngophmhaaDoor
