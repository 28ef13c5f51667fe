/- Contract of the reference's Put. No conditions. -/
import Derived.Test.YtdmnejanckdajaaDoorRefV3
namespace Go.Proofs.YtdmnejanckdajaaDoor
set_option linter.unusedVariables false
set_option linter.unusedSimpArgs false
set_option maxRecDepth 100000
open Go.RowKit

theorem Rd.kverAt {w : World} {B b off : Nat} {l : List KVer} (h : Rd w B (some ⟨b, off, none⟩) (flatE encR l)) {k : Nat} (hk : k < l.length) :
    w.cell? ⟨b, off + k * 4, none⟩ = some (txt l[k].1) ∧ w.cell? ⟨b, off + k * 4 + 1, none⟩ = some (txt l[k].2.val) ∧ w.cell? ⟨b, off + k * 4 + 2, none⟩ = some (.int .i64 l[k].2.n) ∧ w.cell? ⟨b, off + k * 4 + 3, none⟩ = some (.bool l[k].2.gone) := by
  obtain ⟨b', off', e, hb, c⟩ := h.kver hk
  injection e with e
  injection e with e1 e2
  subst e1 e2
  exact c
abbrev kverV (s : List UInt8) (v : Ver) : Value := .agg #[txt s, txt v.val, .int .i64 v.n, .bool v.gone]
theorem putE_kf {s : List UInt8} {v : Ver} {top : Int} : putE s v top = if kfE s v.val ≠ 0 then 2 else if v.n < 1 ∨ 1000000 < v.n then 1 else if v.n < top then 7 else 0 := by
  unfold putE kfE
  by_cases h : keyB s = false ∨ 12 < v.val.length
  · rw [if_pos h, if_pos h]
    rfl
  · rw [if_neg h, if_neg h]
    simp
theorem refPut_bad (m : Nat) (L : List KVer) (top : Int) (S : Nat → Prop) (s : List UInt8) (v : Ver) (w : World) (hT : RTbl w S m L top) (hp : putE s v top ≠ 0) :
    Calls Tryd.prog 15 #[.pointer (some ⟨m, 0, none⟩), kverV s v] w fun e w' => e = .returned (.int .i64 (putE s v top)) ∧ Below w.heap.size w w' := by
  obtain ⟨⟨u, hB, hrow, _⟩, _⟩ := hT
  have hBk := Blk.new w 49 #[txt s, txt v.val, .int .i64 v.n, .bool v.gone]
  have hb0 : Below w.heap.size w (w.alloc (.cells #[txt s, txt v.val, .int .i64 v.n, .bool v.gone] 49)) := (Below.refl _ _).alloc (Nat.le_refl _) _
  have hB1 := hB.below hb0 hB.lt
  have x0 := hBk.cell 0
  have x1 := hBk.cell 1
  have x2 := hBk.cell 2
  have y1 := hB1.cell 1
  simp at x0 x1 x2 y1
  have HK := Lib.hid (fun W => keyFault_any s v.val W)
  have hpe := @putE_kf s v top
  by_cases h1 : kfE s v.val = 0
  · rw [h1] at hpe
    have HK0 : Hid (∀ W, Calls Tryd.prog 28 #[txt s, txt v.val] W fun e w' => e = .returned (.int .i64 0) ∧ w' = W) := Lib.hid (fun W => by have := HK.out W; rwa [h1] at this)
    rw [if_neg (by simp)] at hpe
    by_cases h2 : v.n < 1
    · have hR := Lib.hid (show putE s v top = 1 by rw [hpe, if_pos (.inl h2)])
      clear hpe hp h1
      go_enter Tryd.func15, Tryd.ntmps15
      go_wp2_with fail
      refine (HK0.out _).mono ?_
      rintro e w1 ⟨rfl, rfl⟩
      go_wp2
      go_ret
      exact ⟨by rw [hR.out]; rfl, hb0⟩
    · by_cases h3 : 1000000 < v.n
      · have hR := Lib.hid (show putE s v top = 1 by rw [hpe, if_pos (.inr h3)])
        clear hpe hp h1
        go_enter Tryd.func15, Tryd.ntmps15
        go_wp2_with fail
        refine (HK0.out _).mono ?_
        rintro e w1 ⟨rfl, rfl⟩
        go_wp2
        go_ret
        exact ⟨by rw [hR.out]; rfl, hb0⟩
      · rw [if_neg (by omega)] at hpe
        have h4 : v.n < top := by
          by_cases h : v.n < top
          · exact h
          · rw [if_neg h] at hpe; exact absurd hpe hp
        have hR := Lib.hid (show putE s v top = 7 by rw [hpe, if_pos h4])
        clear hpe hp h1
        go_enter Tryd.func15, Tryd.ntmps15
        go_wp2_with fail
        refine (HK0.out _).mono ?_
        rintro e w1 ⟨rfl, rfl⟩
        go_wp2_with fail
        go_quiet (fail)
        go_wp2
        go_ret
        exact ⟨by rw [hR.out]; rfl, Below.drewN' hb0⟩
  · have h2 : kfE s v.val = 2 := by unfold kfE at h1 ⊢; split <;> simp_all
    rw [if_pos h1] at hpe
    have hR := Lib.hid hpe
    have HK0 : Hid (∀ W, Calls Tryd.prog 28 #[txt s, txt v.val] W fun e w' => e = .returned (.int .i64 2) ∧ w' = W) := Lib.hid (fun W => by have := HK.out W; rwa [h2] at this)
    clear hpe hp h1 h2
    go_enter Tryd.func15, Tryd.ntmps15
    go_wp2_with fail
    refine (HK0.out _).mono ?_
    rintro e w1 ⟨rfl, rfl⟩
    go_wp2
    go_ret
    exact ⟨by rw [hR.out]; rfl, hb0⟩

set_option maxHeartbeats 4000000 in
theorem refPut_ok (m : Nat) (L : List KVer) (top : Int) (hL : L.length ≤ 1000000) (S : Nat → Prop) (s : List UInt8) (v : Ver) (w : World) (hT : RTbl w S m L top) (hp : putE s v top = 0) :
    Calls Tryd.prog 15 #[.pointer (some ⟨m, 0, none⟩), kverV s v] w fun e w' => e = .returned (.int .i64 0) ∧ Fr S w w' ∧ RTbl w' (plus S w) m (L.filter (restB s v.n) ++ [(s, v)]) v.n := by
  obtain ⟨p1, p2, p3, p4, p5⟩ := putE_zero hp
  obtain ⟨⟨u, hB, hrow, hS⟩, hmS⟩ := hT
  have hkf : kfE s v.val = 0 := by unfold kfE; rw [if_neg (by rw [p1]; simp; omega)]
  have HK0 : Hid (∀ W, Calls Tryd.prog 28 #[txt s, txt v.val] W fun e w' => e = .returned (.int .i64 0) ∧ w' = W) := Lib.hid (fun W => by have := keyFault_any s v.val W; rwa [hkf] at this)
  have hmu : some m ≠ u.ownBlock := by
    intro e
    rcases hrow.2 with ⟨rfl, _⟩ | ⟨g2, cap, cur, rfl, _, hh, _⟩
    · simp [Value.ownBlock] at e
    · simp [Value.ownBlock] at e
      subst e
      unfold Blk at hB
      rw [hB] at hh
      injection hh with hh
      injection hh with _ hh
      exact absurd hh (by decide)
  have hBk := Blk.new w 49 #[txt s, txt v.val, .int .i64 v.n, .bool v.gone]
  have hb0 : Below w.heap.size w (w.alloc (.cells #[txt s, txt v.val, .int .i64 v.n, .bool v.gone] 49)) := (Below.refl _ _).alloc (Nat.le_refl _) _
  have hB1 := hB.below hb0 hB.lt
  have x0 := hBk.cell 0
  have x1 := hBk.cell 1
  have x2 := hBk.cell 2
  have y1 := hB1.cell 1
  have yf := hB1.frozen 1
  simp at x0 x1 x2 y1
  have hmlt := hB.lt
  have hn1 : ¬ v.n < 1 := by omega
  have hn2 : ¬ 1000000 < v.n := by omega
  have hn3 : ¬ v.n < top := by omega
  clear hkf
  go_enter Tryd.func15, Tryd.ntmps15
  go_wp2_with fail
  refine (HK0.out _).mono ?_
  rintro e w1 ⟨rfl, rfl⟩
  go_wp2_with fail
  go_quiet (fail)
  generalize hW1 : World.drewN (w.alloc (.cells #[txt s, txt v.val, .int .i64 v.n, .bool v.gone] 49)) nq = w1
  have hb1 : Below w.heap.size w w1 := by rw [← hW1]; exact ⟨hb0.os, hb0.tape, hb0.output, hb0.size, hb0.block⟩
  have hsz1 : w1.heap.size = w.heap.size + 1 := by rw [← hW1]; simp
  have hBk1 : Blk w1 w.heap.size 49 #[txt s, txt v.val, .int .i64 v.n, .bool v.gone] := by rw [← hW1]; exact hBk
  clear hW1 hBk hb0 hB1 x0 x1 x2 y1 yf
  have hBm := hB.below hb1 hmlt
  have hrow1 := own_below hrow hb1
  have hBk2 := hBk1.far (p := ⟨m, 1, none⟩) (by simp; omega) (.int .i64 v.n)
  have hBm2 : Blk (w1.setCell ⟨m, 1, none⟩ (.int .i64 v.n)) m 46 #[u, .int .i64 v.n] := hBm.setCell 1 (.int .i64 v.n)
  have hrow2 : (w1.setCell ⟨m, 1, none⟩ (.int .i64 v.n)).ownsRow 0 49 4 u L.length (flatE encR L) := row_fr hrow1 (fun g e => Below.heap_setCell w1 ⟨m, 1, none⟩ _ g (fun e2 => hmu (by rw [e, e2])))
  have hf2 : Fr S w (w1.setCell ⟨m, 1, none⟩ (.int .i64 v.n)) := (Fr.of_below hb1).setCell (fun _ => hmS) _
  have y1 := hBm.cell 1
  have yf := hBm.frozen 1
  have x2 := hBk1.cell 2
  simp at y1 x2
  obtain ⟨A, c, rfl, hrd2⟩ := own_form hrow2
  go_wp2
  generalize hW2 : w1.setCell ⟨m, 1, none⟩ (.int .i64 v.n) = w2 at *
  have hsz2 : w2.heap.size = w.heap.size + 1 := by rw [← hW2]; simp [World.setCell, hsz1]
  have hx2 := hBm2.cell 0
  simp at hx2
  have hmH : m < w2.heap.size := hBm2.lt
  have hbH : w.heap.size < w2.heap.size := by omega
  have hbox : w2.cell? ⟨w.heap.size, 0, none⟩ = some (txt s) ∧ w2.cell? ⟨w.heap.size, 1, none⟩ = some (txt v.val) ∧ w2.cell? ⟨w.heap.size, 2, none⟩ = some (.int .i64 v.n) ∧ w2.cell? ⟨w.heap.size, 3, none⟩ = some (.bool v.gone) := ⟨hBk2.cell 0, hBk2.cell 1, hBk2.cell 2, hBk2.cell 3⟩
  have hzf : ∀ g, g < w.heap.size + 1 → g < w2.heap.size := fun g h => by omega
  clear hW2 y1 yf x2 hBk1 hBm hrow1 hb1 hsz1 hBk2 hB hrow
  have HZ := Lib.hid hsz2
  clear hsz2
  generalize hH2 : w2.heap.size = H2 at *
  go_loopw [6, 7] (fun rest i wr => ∃ (k : Nat), k ≤ L.length ∧ i = .int .i64 k ∧ wr.ownsRow H2 49 4 rest ((L.take k).filter (restB s v.n)).length (flatE encR ((L.take k).filter (restB s v.n))) ∧ Below H2 w2 wr ∧ H2 ≤ wr.heap.size) (fun _ i _ => L.length - (intOf i).toNat)
  case atStart => exact ⟨0, Nat.zero_le _, rfl, World.ownsRow_nil _ _ _ _, Below.refl _ _, Nat.le_of_eq hH2.symm⟩
  case round =>
    obtain ⟨k, hk, rfl, hown, hb, hsz⟩ := hrel
    have x0 : wr.cell? ⟨m, 0, none⟩ = some (.slice A L.length c) := (hb.cell (p := ⟨m, 0, none⟩) hmH).trans hx2
    have b0 := (hb.cell (p := ⟨w.heap.size, 0, none⟩) hbH).trans hbox.1
    have b1 := (hb.cell (p := ⟨w.heap.size, 1, none⟩) hbH).trans hbox.2.1
    have b2 := (hb.cell (p := ⟨w.heap.size, 2, none⟩) hbH).trans hbox.2.2.1
    have b3 := (hb.cell (p := ⟨w.heap.size, 3, none⟩) hbH).trans hbox.2.2.2
    by_cases hlt2 : k < L.length
    · obtain ⟨b, off, rfl, hbb, c0, c1, c2, c3⟩ := (hrd2.below hb).kver hlt2
      have hI1 : (0 : Int) ≤ (k : Int) := by omega
      have hI2 : (k : Int) < (L.length : Int) := by omega
      by_cases h1 : L[k].1 = s
      · have e1 : (L[k].1 == s) = true := by rw [h1]; simp
        have e1' : (L[k].1 != s) = false := by rw [h1]; simp
        by_cases h2 : L[k].2.n = v.n
        · have e2 : (L[k].2.n == v.n) = true := by rw [h2]; simp
          have e2' : (L[k].2.n != v.n) = false := by rw [h2]; simp
          clear h1 h2
          have hkp : (L.take (k + 1)).filter (restB s v.n) = (L.take k).filter (restB s v.n) := by
            rw [List.take_succ_eq_append_getElem hlt2, List.filter_append, List.filter_cons_of_neg (by unfold restB; rw [e1, e2]; simp)]
            simp
          have HKP := Lib.hid hkp
          clear hkp
          go_wp2_with fail
          go_quiet (fail)
          have hownq : (wr.drewN nq).ownsRow H2 49 4 u6 ((L.take k).filter (restB s v.n)).length (flatE encR ((L.take k).filter (restB s v.n))) := hown
          have hbq : Below H2 w2 (wr.drewN nq) := Below.drewN' hb
          have hszq : H2 ≤ (wr.drewN nq).heap.size := hsz
          clear hown
          go_wp2
          go_roundw
          case rel => exact ⟨k + 1, by omega, by go_num, by rw [HKP.out]; exact hownq, hbq, hszq⟩
          case measure => simp [intOf]; omega
        · have e2 : (L[k].2.n == v.n) = false := by simpa using h2
          have e2' : (L[k].2.n != v.n) = true := by simpa using h2
          clear h1 h2
          have hkp : (L.take (k + 1)).filter (restB s v.n) = (L.take k).filter (restB s v.n) ++ [L[k]] := by
            rw [List.take_succ_eq_append_getElem hlt2, List.filter_append]
            congr 1
            rw [List.filter_cons_of_pos (by unfold restB; rw [e1, e2]; simp)]
            rfl
          have HKP := Lib.hid hkp
          have hfl : ((L.take k).filter (restB s v.n)).length < 1000000000 := by have := List.length_filter_le (restB s v.n) (L.take k); simp at this; omega
          have h1c := encR_one L[k]
          clear hkp
          go_wp2_with fail
          go_quiet (fail)
          have hownq : (wr.drewN nq).ownsRow H2 49 4 u6 ((L.take k).filter (restB s v.n)).length (flatE encR ((L.take k).filter (restB s v.n))) := hown
          have hbq : Below H2 w2 (wr.drewN nq) := Below.drewN' hb
          have hszq : H2 ≤ (wr.drewN nq).heap.size := hsz
          generalize wr.drewN nq = w3 at *
          have xq : w3.cell? ⟨m, 0, none⟩ = some (.slice (some ⟨b, off, none⟩) L.length c) := (hbq.cell (p := ⟨m, 0, none⟩) hmH).trans hx2
          obtain ⟨c0', c1', c2', c3'⟩ := (hrd2.below hbq).kverAt hlt2
          clear hown hb hsz x0 b0 b1 b2 b3 c0 c1 c2 c3
          go_wp2_with (at_builtin; refine wpList_append_elt rfl _ _ 44 rfl 49 Tryd.underlying44 _ 4 48 infoR rfl (by decide) (by decide) H2 _ _ _ rfl hownq #[txt L[k].1, txt L[k].2.val, .int .i64 L[k].2.n, .bool L[k].2.gone] rfl h1c rfl hfl hszq ?_; intro v4 w4 hown4 hg4 hat4)
          have hb4 : Below H2 w2 w4 := hbq.grown hg4 hszq (fun q hq => (World.ownsRow.lt hownq q hq).1)
          have hsz4 : H2 ≤ w4.heap.size := Nat.le_trans hszq hg4.size
          go_wp2
          go_roundw
          case rel => exact ⟨k + 1, by omega, by go_num, by rw [HKP.out, List.length_append, flatE_append]; exact hown4, hb4, hsz4⟩
          case measure => simp [intOf]; omega
      · have e1 : (L[k].1 == s) = false := by simpa using h1
        have e1' : (L[k].1 != s) = true := by simpa using h1
        clear h1
        have hkp : (L.take (k + 1)).filter (restB s v.n) = (L.take k).filter (restB s v.n) ++ [L[k]] := by
          rw [List.take_succ_eq_append_getElem hlt2, List.filter_append]
          congr 1
          rw [List.filter_cons_of_pos (by unfold restB; rw [e1]; simp)]
          rfl
        have HKP := Lib.hid hkp
        have hfl : ((L.take k).filter (restB s v.n)).length < 1000000000 := by have := List.length_filter_le (restB s v.n) (L.take k); simp at this; omega
        have h1c := encR_one L[k]
        clear hkp
        go_wp2_with fail
        go_quiet (fail)
        have hownq : (wr.drewN nq).ownsRow H2 49 4 u6 ((L.take k).filter (restB s v.n)).length (flatE encR ((L.take k).filter (restB s v.n))) := hown
        have hbq : Below H2 w2 (wr.drewN nq) := Below.drewN' hb
        have hszq : H2 ≤ (wr.drewN nq).heap.size := hsz
        generalize wr.drewN nq = w3 at *
        have xq : w3.cell? ⟨m, 0, none⟩ = some (.slice (some ⟨b, off, none⟩) L.length c) := (hbq.cell (p := ⟨m, 0, none⟩) hmH).trans hx2
        obtain ⟨c0', c1', c2', c3'⟩ := (hrd2.below hbq).kverAt hlt2
        clear hown hb hsz x0 b0 b1 b2 b3 c0 c1 c2 c3
        go_wp2_with (at_builtin; refine wpList_append_elt rfl _ _ 44 rfl 49 Tryd.underlying44 _ 4 48 infoR rfl (by decide) (by decide) H2 _ _ _ rfl hownq #[txt L[k].1, txt L[k].2.val, .int .i64 L[k].2.n, .bool L[k].2.gone] rfl h1c rfl hfl hszq ?_; intro v4 w4 hown4 hg4 hat4)
        have hb4 : Below H2 w2 w4 := hbq.grown hg4 hszq (fun q hq => (World.ownsRow.lt hownq q hq).1)
        have hsz4 : H2 ≤ w4.heap.size := Nat.le_trans hszq hg4.size
        go_wp2
        go_roundw
        case rel => exact ⟨k + 1, by omega, by go_num, by rw [HKP.out, List.length_append, flatE_append]; exact hown4, hb4, hsz4⟩
        case measure => simp [intOf]; omega
    · obtain rfl : k = L.length := by omega
      rw [List.take_length] at hown
      have hfl : (L.filter (restB s v.n)).length < 1000000000 := by have := List.length_filter_le (restB s v.n) L; omega
      have h1c := encR_one (s, v)
      have hmw : m < wr.heap.size := by omega
      go_wp2_with (at_builtin; refine wpList_append_elt rfl _ _ 44 rfl 49 Tryd.underlying44 _ 4 48 infoR rfl (by decide) (by decide) H2 _ _ _ rfl hown #[txt s, txt v.val, .int .i64 v.n, .bool v.gone] rfl h1c rfl hfl hsz ?_; intro v4 w4 hown4 hg4 hat4; have hBm4 : Blk w4 m 46 #[.slice A L.length c, .int .i64 v.n] := (hBm2.below hb hmH).grown hg4 (fun e => by have := (World.ownsRow.lt hown m e.symm).1; omega); have z0 := hBm4.cell 0; have zf := hBm4.frozen 0; simp at z0; obtain ⟨A4, c4, hv4, _⟩ := own_form hown4; subst hv4)
      have hb4 : Below H2 w2 w4 := hb.grown hg4 hsz (fun q hq => (World.ownsRow.lt hown q hq).1)
      go_wp2
      go_ret
      have hf4 : Fr S w w4 := hf2.bel (by rw [hH2]; exact hb4)
      refine ⟨rfl, hf4.setCell (fun _ => hmS) _, ⟨⟨_, hBm4.setCell 0 _, ?_, fun g e => .inr (by have := (World.ownsRow.lt hown4 g e).1; omega)⟩, .inl hmS⟩⟩
      rw [List.length_append, flatE_append]
      exact row_fr (own_of_base hown4 (Nat.zero_le _)) (fun g e => Below.heap_setCell w4 ⟨m, 0, none⟩ _ g (by have := (World.ownsRow.lt hown4 g e).1; simp; omega))
end Go.Proofs.YtdmnejanckdajaaDoor
