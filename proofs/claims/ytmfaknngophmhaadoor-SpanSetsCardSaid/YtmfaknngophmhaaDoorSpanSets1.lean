/- The law SpanSets, its parts: a set is made. Any lists, any number. -/
import Derived.Test.YtmfaknngophmhaaDoorSpanSets0
namespace Go.Proofs.YtmfaknngophmhaaDoor
set_option linter.unusedVariables false
set_option linter.unusedSimpArgs false
open Go.RowKit

set_option maxRecDepth 100000 in
set_option maxHeartbeats 8000000 in
theorem spanSets_1a (A : Option Addr) (l : List Sp) (c : Nat) (B : Option Addr) (a : List Sp) (d : Nat) (C : Option Addr) (b : List Sp) (g : Nat) (x : Int) (hm : l.length ≤ maxLen) (hma : a.length ≤ maxLen) (hmb : b.length ≤ maxLen) (w : World) (hg : ErrVar w) (hl : Rd w w.heap.size A (cellsP l)) (ha : Rd w w.heap.size B (cellsP a)) (hb : Rd w w.heap.size C (cellsP b)) (R : Ending → World → Prop)
    (h : ∀ a' w', SSmid A l c B a d C b g x w (if 64 < l.length then 3 else 0) a' w' → (tailN 3 (Tryd.f3.body.getD .skip)).wp Tryd.prog (bodyPost Tryd.prog Tryd.f3 R) a' w') :
    Calls Tryd.prog 3 #[.slice A l.length c, .slice B a.length d, .slice C b.length g, .int .i64 x] w R := by
  unfold maxLen at hm
  by_cases h64 : l.length ≤ 64
  · rw [if_neg (by omega)] at h
    go_enter Tryd.func3, Tryd.ntmps3
    refine wp_cut 3 (SSmid A l c B a d C b g x w 0) (by rfl) ?_ h
    clear h
    intro r HR
    dsimp only [putN]
    go_wp2_with fail
    exact HR.out _ _ (SSmid.mk (by kernel_rfl) (Below.refl _ _))
  · rw [if_pos (by omega)] at h
    go_enter Tryd.func3, Tryd.ntmps3
    refine wp_cut 3 (SSmid A l c B a d C b g x w 3) (by rfl) ?_ h
    clear h
    intro r HR
    dsimp only [putN]
    go_wp2_with fail
    exact HR.out _ _ (SSmid.mk (by kernel_rfl) (Below.refl _ _))
def NextF (l : List Sp) (n : Int) (k : Nat) : Prop := (n = 0 ∧ l.length ≤ 64 ∧ firstFault l = firstFault (l.drop k)) ∨ (n ≠ 0 ∧ makeFault l = n)
theorem nextF_start (l : List Sp) : NextF l (if 64 < l.length then 3 else 0) 0 := by
  by_cases h : 64 < l.length
  · rw [if_pos h]; exact .inr ⟨by decide, by unfold makeFault; rw [if_pos h]⟩
  · rw [if_neg h]; exact .inl ⟨rfl, by omega, rfl⟩
theorem nextF_step {l : List Sp} {k : Nat} (h : NextF l 0 k) (hk : k < l.length) : NextF l (spanFault l[k]) (k + 1) := by
  rcases h with ⟨_, h1, h2⟩ | ⟨h1, _⟩
  · by_cases hf : spanFault l[k] = 0
    · exact .inl ⟨hf, h1, firstFault_next hk h2 hf⟩
    · exact .inr ⟨hf, makeFault_of h1 hk h2 rfl hf⟩
  · exact absurd rfl h1
theorem nextF_end {l : List Sp} (h : NextF l 0 l.length) : makeFault l = 0 := by
  rcases h with ⟨_, h1, h2⟩ | ⟨h1, _⟩
  · exact (makeFault_end h1 h2).1
  · exact absurd rfl h1
theorem nextF_bad {l : List Sp} {n : Int} {k : Nat} (h : NextF l n k) (hn : n ≠ 0) : makeFault l = n := by
  rcases h with ⟨h1, _⟩ | ⟨_, h1⟩
  · exact absurd h1 hn
  · exact h1
set_option maxRecDepth 100000 in
set_option maxHeartbeats 8000000 in
theorem spanSets_1b (A : Option Addr) (l : List Sp) (c : Nat) (B : Option Addr) (a : List Sp) (d : Nat) (C : Option Addr) (b : List Sp) (g : Nat) (x : Int) (hm : l.length ≤ maxLen) (hma : a.length ≤ maxLen) (hmb : b.length ≤ maxLen) (w : World) (hg : ErrVar w) (hl : Rd w w.heap.size A (cellsP l)) (ha : Rd w w.heap.size B (cellsP a)) (hb : Rd w w.heap.size C (cellsP b)) (kk : Int) (HN : Hid (NextF l kk 0)) (Q : Exit → Act → World → Prop) (s0 : Act) (w0 : World) (h0 : SSmid A l c B a d C b g x w kk s0 w0)
    (h : ∀ a' w', SSmid A l c B a d C b g x w (makeFault l) a' w' → (tailN 1 (tailN 3 (Tryd.f3.body.getD .skip))).wp Tryd.prog Q a' w') :
    (tailN 3 (Tryd.f3.body.getD .skip)).wp Tryd.prog Q s0 w0 := by
  have HG := Lib.hid hg
  clear hg
  have HM := Lib.hid hm
  unfold maxLen at hm
  obtain ⟨U, rfl, hB0⟩ := h0
  refine wp_cut 1 (SSmid A l c B a d C b g x w (makeFault l)) (by rfl) ?_ h
  clear h
  intro r HR
  dsimp only [Tryd.f3, Option.getD, tailN, putN]
  have hs0 := hB0.size
  go_wp2_with fail
  go_loopw [9, 10] (fun v i wx => ∃ (k : Nat) (n : Int), k ≤ l.length ∧ i = .int .i64 k ∧ v = .int .i64 n ∧ Below w.heap.size w wx ∧ Hid (NextF l n k)) (fun _ i _ => l.length - (intOf i).toNat)
  case atStart => exact ⟨0, _, Nat.zero_le _, rfl, rfl, hB0, HN⟩
  case round =>
    obtain ⟨k, n, hk, rfl, rfl, hbx, hn⟩ := hrel
    have hs := hbx.size
    by_cases hn0 : n = 0
    · subst hn0
      by_cases hlt : k < l.length
      · obtain ⟨bb, off, rfl, hbb, c0, c1⟩ := (hl.below hbx).pair hlt
        have HS := Lib.hid (nextF_step hn.out hlt)
        go_wp2_with fail
        refine (spanFaultRef_any _ _ _).mono ?_
        rintro e w1 ⟨rfl, hb1⟩
        go_wp2_with fail
        go_roundw
        case rel => exact ⟨k + 1, _, by omega, by go_num, rfl, hbx.trans (hb1.mono hs), HS⟩
        case measure => simp [intOf]; omega
      · obtain rfl : k = l.length := by omega
        have HE := Lib.hid (nextF_end hn.out)
        go_wp2_with fail
        exact HR.out _ _ (by rw [HE.out]; exact SSmid.mk (by kernel_rfl) hbx)
    · have hz : (n == 0) = false := by simpa using hn0
      have HE := Lib.hid (nextF_bad hn.out hn0)
      clear hn0
      by_cases hlt : k < l.length
      · go_wp2_with fail
        exact HR.out _ _ (by rw [HE.out]; exact SSmid.mk (by kernel_rfl) hbx)
      · go_wp2_with fail
        exact HR.out _ _ (by rw [HE.out]; exact SSmid.mk (by kernel_rfl) hbx)
set_option maxRecDepth 100000 in
set_option maxHeartbeats 8000000 in
theorem spanSets_2a (A : Option Addr) (l : List Sp) (c : Nat) (B : Option Addr) (a : List Sp) (d : Nat) (C : Option Addr) (b : List Sp) (g : Nat) (x : Int) (hm : l.length ≤ maxLen) (hma : a.length ≤ maxLen) (hmb : b.length ≤ maxLen) (w : World) (hg : ErrVar w) (hl : Rd w w.heap.size A (cellsP l)) (ha : Rd w w.heap.size B (cellsP a)) (hb : Rd w w.heap.size C (cellsP b)) (ht : makeFault l = 0) (Q : Exit → Act → World → Prop) (s0 : Act) (w0 : World) (h0 : SSmid A l c B a d C b g x w 0 s0 w0)
    (h : ∀ a' w', SSmid A l c B a d C b g x w 0 a' w' → (tailN 6 (tailN 1 (tailN 3 (Tryd.f3.body.getD .skip)))).wp Tryd.prog Q a' w') :
    (tailN 1 (tailN 3 (Tryd.f3.body.getD .skip))).wp Tryd.prog Q s0 w0 := by
  have HG := Lib.hid hg
  clear hg
  obtain ⟨hl64, vl⟩ := make_good ht
  have VL := Lib.hid vl
  have HTN := Lib.hid (tog_norm ht)
  have HT := Lib.hid ht
  clear ht vl
  obtain ⟨U, rfl, hB0⟩ := h0
  refine wp_cut 6 (SSmid A l c B a d C b g x w 0) (by rfl) ?_ h
  clear h
  intro r HR
  dsimp only [Tryd.f3, Option.getD, tailN, putN]
  have hs0 := hB0.size
  go_wp2_with fail
  refine (together_any A none l [] c 0 1 (.inl rfl) _ (by omega) (by decide) VL.out valid_nil ((hl.below (show Below w.heap.size w _ from (by first | exact hB0 | ((repeat' (first | exact hB0 | refine Below.setCell ?_ ?_ _ | refine Below.alloc ?_ ?_ _ | refine Below.drew ?_)) <;> (first | omega | (simp <;> omega)))))).more (show w.heap.size ≤ _ from by first | omega | (simp <;> omega))) Rd.nil).mono ?_
  rintro e w1 ⟨v1, rfl, hown1, hb1⟩
  have hB1 : Below w.heap.size w w1 := Below.trans (by first | exact hB0 | ((repeat' (first | exact hB0 | refine Below.setCell ?_ ?_ _ | refine Below.alloc ?_ ?_ _ | refine Below.drew ?_)) <;> (first | omega | (simp <;> omega)))) (hb1.mono (by first | omega | (simp <;> omega)))
  have hs1 : w.heap.size ≤ w1.heap.size := hB1.size
  have ht1 := hb1.size
  try simp only [World.size_alloc, World.size_setCell] at ht1
  clear hB0 hb1
  obtain ⟨X, hX⟩ : ∃ X, X = together l [] 1 := ⟨_, rfl⟩
  rw [← hX] at hown1
  have HX := Lib.hid hX
  clear hX
  obtain ⟨A1, c1, rfl, hr1⟩ := hown1.form
  clear hown1
  go_wp2_with fail
  refine (make_ok A l c hm HT.out _ ((hl.below (show Below w.heap.size w _ from (by first | exact hB1 | ((repeat' (first | exact hB1 | refine Below.setCell ?_ ?_ _ | refine Below.alloc ?_ ?_ _ | refine Below.drew ?_)) <;> (first | omega | (simp <;> omega)))))).more (show w.heap.size ≤ _ from by first | omega | (simp <;> omega)))).mono ?_
  rintro e w2 ⟨v2, rfl, hown2, hb2⟩
  have hB2 : Below w.heap.size w w2 := Below.trans (by first | exact hB1 | ((repeat' (first | exact hB1 | refine Below.setCell ?_ ?_ _ | refine Below.alloc ?_ ?_ _ | refine Below.drew ?_)) <;> (first | omega | (simp <;> omega)))) (hb2.mono (by first | omega | (simp <;> omega)))
  have hs2 : w.heap.size ≤ w2.heap.size := hB2.size
  have ht2 := hb2.size
  try simp only [World.size_alloc, World.size_setCell] at ht2
  have hkw1_2 : Below w1.heap.size w1 w2 := Below.trans (by first | exact Below.refl _ _ | ((repeat' (first | exact Below.refl _ _ | refine Below.setCell ?_ ?_ _ | refine Below.alloc ?_ ?_ _ | refine Below.drew ?_)) <;> (first | omega | (simp <;> omega)))) (hb2.mono (by first | omega | (simp <;> omega)))
  clear hB1 hb2
  obtain ⟨Y, hY⟩ : ∃ Y, Y = norm l := ⟨_, rfl⟩
  rw [← hY] at hown2
  have HY := Lib.hid hY
  clear hY
  obtain ⟨A2, c2, rfl, hr2⟩ := hown2.form
  clear hown2
  go_wp2_with fail
  refine (error_nil0 _ (by exact HG.out.belowB (show Below w.heap.size w _ from (by first | exact hB2 | ((repeat' (first | exact hB2 | refine Below.setCell ?_ ?_ _ | refine Below.alloc ?_ ?_ _ | refine Below.drew ?_)) <;> (first | omega | (simp <;> omega))))) HG.out.lt)).mono ?_
  rintro e w3 ⟨rfl, hb3⟩
  have hB3 : Below w.heap.size w w3 := Below.trans (by first | exact hB2 | ((repeat' (first | exact hB2 | refine Below.setCell ?_ ?_ _ | refine Below.alloc ?_ ?_ _ | refine Below.drew ?_)) <;> (first | omega | (simp <;> omega)))) (hb3.mono (by first | omega | (simp <;> omega)))
  have hs3 : w.heap.size ≤ w3.heap.size := hB3.size
  have ht3 := hb3.size
  try simp only [World.size_alloc, World.size_setCell] at ht3
  have hkw1_3 : Below w1.heap.size w1 w3 := Below.trans (by first | exact hkw1_2 | ((repeat' (first | exact hkw1_2 | refine Below.setCell ?_ ?_ _ | refine Below.alloc ?_ ?_ _ | refine Below.drew ?_)) <;> (first | omega | (simp <;> omega)))) (hb3.mono (by first | omega | (simp <;> omega)))
  have hkw2_3 : Below w2.heap.size w2 w3 := Below.trans (by first | exact Below.refl _ _ | ((repeat' (first | exact Below.refl _ _ | refine Below.setCell ?_ ?_ _ | refine Below.alloc ?_ ?_ _ | refine Below.drew ?_)) <;> (first | omega | (simp <;> omega)))) (hb3.mono (by first | omega | (simp <;> omega)))
  clear hkw1_2 hB2 hb3
  go_wp2_with fail
  refine (spans_same A2 A1 Y X _ _ c2 c1 rfl rfl (by rw [HY.out]; unfold maxLen; have := norm_length l; omega) (by rw [HX.out, HY.out]; exact HTN.out) _ ((hr2.below (show Below w2.heap.size w2 _ from (by first | exact hkw2_3 | ((repeat' (first | exact hkw2_3 | refine Below.setCell ?_ ?_ _ | refine Below.alloc ?_ ?_ _ | refine Below.drew ?_)) <;> (first | omega | (simp <;> omega)))))).more (show w2.heap.size ≤ _ from by first | omega | (simp <;> omega))) ((hr1.below (show Below w1.heap.size w1 _ from (by first | exact hkw1_3 | ((repeat' (first | exact hkw1_3 | refine Below.setCell ?_ ?_ _ | refine Below.alloc ?_ ?_ _ | refine Below.drew ?_)) <;> (first | omega | (simp <;> omega)))))).more (show w1.heap.size ≤ _ from by first | omega | (simp <;> omega)))).mono ?_
  rintro e w4 ⟨rfl, hb4⟩
  have hB4 : Below w.heap.size w w4 := Below.trans (by first | exact hB3 | ((repeat' (first | exact hB3 | refine Below.setCell ?_ ?_ _ | refine Below.alloc ?_ ?_ _ | refine Below.drew ?_)) <;> (first | omega | (simp <;> omega)))) (hb4.mono (by first | omega | (simp <;> omega)))
  have hs4 : w.heap.size ≤ w4.heap.size := hB4.size
  have ht4 := hb4.size
  try simp only [World.size_alloc, World.size_setCell] at ht4
  have hkw1_4 : Below w1.heap.size w1 w4 := Below.trans (by first | exact hkw1_3 | ((repeat' (first | exact hkw1_3 | refine Below.setCell ?_ ?_ _ | refine Below.alloc ?_ ?_ _ | refine Below.drew ?_)) <;> (first | omega | (simp <;> omega)))) (hb4.mono (by first | omega | (simp <;> omega)))
  have hkw2_4 : Below w2.heap.size w2 w4 := Below.trans (by first | exact hkw2_3 | ((repeat' (first | exact hkw2_3 | refine Below.setCell ?_ ?_ _ | refine Below.alloc ?_ ?_ _ | refine Below.drew ?_)) <;> (first | omega | (simp <;> omega)))) (hb4.mono (by first | omega | (simp <;> omega)))
  clear hkw1_3 hkw2_3 hB3 hb4
  go_wp2_with fail
  refine wp_name ?_
  intro w5 hW5
  have hB5 : Below w.heap.size w w5 := by rw [hW5.out]; exact (by first | exact hB4 | ((repeat' (first | exact hB4 | refine Below.setCell ?_ ?_ _ | refine Below.alloc ?_ ?_ _ | refine Below.drew ?_)) <;> (first | omega | (simp <;> omega))))
  have hs5 : w.heap.size ≤ w5.heap.size := hB5.size
  have ht5 := congrArg (fun x : World => x.heap.size) hW5.out
  try simp only [World.size_alloc, World.size_setCell] at ht5
  have hkw1_5 : Below w1.heap.size w1 w5 := by rw [hW5.out]; exact (by first | exact hkw1_4 | ((repeat' (first | exact hkw1_4 | refine Below.setCell ?_ ?_ _ | refine Below.alloc ?_ ?_ _ | refine Below.drew ?_)) <;> (first | omega | (simp <;> omega))))
  have hkw2_5 : Below w2.heap.size w2 w5 := by rw [hW5.out]; exact (by first | exact hkw2_4 | ((repeat' (first | exact hkw2_4 | refine Below.setCell ?_ ?_ _ | refine Below.alloc ?_ ?_ _ | refine Below.drew ?_)) <;> (first | omega | (simp <;> omega))))
  have hu5 := Nat.le_of_eq ht5
  have hv5 := Nat.le_of_eq ht5.symm
  clear ht5 hkw1_4 hkw2_4 hB4 hW5
  exact HR.out _ _ (SSmid.mk (by kernel_rfl) hB5)
set_option maxRecDepth 100000 in
set_option maxHeartbeats 8000000 in
theorem spanSets_2b (A : Option Addr) (l : List Sp) (c : Nat) (B : Option Addr) (a : List Sp) (d : Nat) (C : Option Addr) (b : List Sp) (g : Nat) (x : Int) (hm : l.length ≤ maxLen) (hma : a.length ≤ maxLen) (hmb : b.length ≤ maxLen) (w : World) (hg : ErrVar w) (hl : Rd w w.heap.size A (cellsP l)) (ha : Rd w w.heap.size B (cellsP a)) (hb : Rd w w.heap.size C (cellsP b)) (ht : makeFault l ≠ 0) (Q : Exit → Act → World → Prop) (s0 : Act) (w0 : World) (h0 : SSmid A l c B a d C b g x w (makeFault l) s0 w0)
    (h : ∀ a' w', SSmid A l c B a d C b g x w (makeFault l) a' w' → (tailN 6 (tailN 1 (tailN 3 (Tryd.f3.body.getD .skip)))).wp Tryd.prog Q a' w') :
    (tailN 1 (tailN 3 (Tryd.f3.body.getD .skip))).wp Tryd.prog Q s0 w0 := by
  have HG := Lib.hid hg
  clear hg
  have hz : (makeFault l == 0) = false := by simpa using ht
  have HT := Lib.hid ht
  clear ht
  obtain ⟨U, rfl, hB0⟩ := h0
  refine wp_cut 6 (SSmid A l c B a d C b g x w (makeFault l)) (by rfl) ?_ h
  clear h
  intro r HR
  dsimp only [Tryd.f3, Option.getD, tailN, putN]
  have hs0 := hB0.size
  go_wp2_with fail
  refine (make_bad A l c hm HT.out _ ((hl.below (show Below w.heap.size w _ from (by first | exact hB0 | ((repeat' (first | exact hB0 | refine Below.setCell ?_ ?_ _ | refine Below.alloc ?_ ?_ _ | refine Below.drew ?_)) <;> (first | omega | (simp <;> omega)))))).more (show w.heap.size ≤ _ from by first | omega | (simp <;> omega)))).mono ?_
  rintro e w1 ⟨rfl, hb1⟩
  have hB1 : Below w.heap.size w w1 := Below.trans (by first | exact hB0 | ((repeat' (first | exact hB0 | refine Below.setCell ?_ ?_ _ | refine Below.alloc ?_ ?_ _ | refine Below.drew ?_)) <;> (first | omega | (simp <;> omega)))) (hb1.mono (by first | omega | (simp <;> omega)))
  have hs1 : w.heap.size ≤ w1.heap.size := hB1.size
  have ht1 := hb1.size
  try simp only [World.size_alloc, World.size_setCell] at ht1
  clear hB0 hb1
  go_wp2_with fail
  refine (error_same _ HT.out _ (by exact HG.out.belowB (show Below w.heap.size w _ from (by first | exact hB1 | ((repeat' (first | exact hB1 | refine Below.setCell ?_ ?_ _ | refine Below.alloc ?_ ?_ _ | refine Below.drew ?_)) <;> (first | omega | (simp <;> omega))))) HG.out.lt)).mono ?_
  rintro e w2 ⟨rfl, hb2⟩
  have hB2 : Below w.heap.size w w2 := Below.trans (by first | exact hB1 | ((repeat' (first | exact hB1 | refine Below.setCell ?_ ?_ _ | refine Below.alloc ?_ ?_ _ | refine Below.drew ?_)) <;> (first | omega | (simp <;> omega)))) (hb2.mono (by first | omega | (simp <;> omega)))
  have hs2 : w.heap.size ≤ w2.heap.size := hB2.size
  have ht2 := hb2.size
  try simp only [World.size_alloc, World.size_setCell] at ht2
  clear hB1 hb2
  go_wp2_with fail
  refine (spans_nil _).mono ?_
  rintro e w3 ⟨rfl, hb3⟩
  have hB3 : Below w.heap.size w w3 := Below.trans (by first | exact hB2 | ((repeat' (first | exact hB2 | refine Below.setCell ?_ ?_ _ | refine Below.alloc ?_ ?_ _ | refine Below.drew ?_)) <;> (first | omega | (simp <;> omega)))) (hb3.mono (by first | omega | (simp <;> omega)))
  have hs3 : w.heap.size ≤ w3.heap.size := hB3.size
  have ht3 := hb3.size
  try simp only [World.size_alloc, World.size_setCell] at ht3
  clear hB2 hb3
  go_wp2_with fail
  refine wp_name ?_
  intro w4 hW4
  have hB4 : Below w.heap.size w w4 := by rw [hW4.out]; exact (by first | exact hB3 | ((repeat' (first | exact hB3 | refine Below.setCell ?_ ?_ _ | refine Below.alloc ?_ ?_ _ | refine Below.drew ?_)) <;> (first | omega | (simp <;> omega))))
  have hs4 : w.heap.size ≤ w4.heap.size := hB4.size
  have ht4 := congrArg (fun x : World => x.heap.size) hW4.out
  try simp only [World.size_alloc, World.size_setCell] at ht4
  have hu4 := Nat.le_of_eq ht4
  have hv4 := Nat.le_of_eq ht4.symm
  clear ht4 hB3 hW4
  exact HR.out _ _ (SSmid.mk (by kernel_rfl) hB4)
end Go.Proofs.YtmfaknngophmhaaDoor
