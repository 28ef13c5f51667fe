/- The law SpanSets, its parts: whether one is in it. Any lists, any number. -/
import Derived.Test.YtmfaknngophmhaaDoorSpanSets0
namespace Go.Proofs.YtmfaknngophmhaaDoor
set_option linter.unusedVariables false
set_option linter.unusedSimpArgs false
open Go.RowKit

theorem refIs_b (a : Int) (w : World) : Calls Tryd.prog 15 #[.int .i64 a] w fun e w' => e = .returned (.bool (isA a)) ∧ Below w.heap.size w w' :=
  (refIs_any a w).mono fun e w' h => ⟨h.1, h.2 ▸ Below.refl _ _⟩
theorem error_has {a : List Sp} {x k : Int} (h : hasFault a x = k) (hk : k ≠ 0) (w : World) (hg : ErrVar w) :
    Calls Tryd.prog 10 #[.iface 23 (.int .i64 (hasFault a x)), .int .i64 k] w fun e w' => e = .returned (.bool true) ∧ Below w.heap.size w w' := by
  rw [h]; exact error_same k hk w hg
theorem memS_take (l : List Sp) (k : Nat) (h : k < l.length) (a : Int) : memS (l.take (k + 1)) a = (memS (l.take k) a || inS l[k] a) := by
  rw [List.take_succ_eq_append_getElem h, memS_append]; simp [memS]
set_option maxRecDepth 100000 in
set_option maxHeartbeats 8000000 in
theorem spanSets_5a (A : Option Addr) (l : List Sp) (c : Nat) (B : Option Addr) (a : List Sp) (d : Nat) (C : Option Addr) (b : List Sp) (g : Nat) (x : Int) (hm : l.length ≤ maxLen) (hma : a.length ≤ maxLen) (hmb : b.length ≤ maxLen) (w : World) (hg : ErrVar w) (hl : Rd w w.heap.size A (cellsP l)) (ha : Rd w w.heap.size B (cellsP a)) (hb : Rd w w.heap.size C (cellsP b)) (hs : setFault a ≠ 0) (Q : Exit → Act → World → Prop) (s0 : Act) (w0 : World) (h0 : SSmid A l c B a d C b g x w (setFault a) s0 w0)
    (h : ∀ a' w', SSmid A l c B a d C b g x w (setFault a) a' w' → (tailN 8 (tailN 5 (tailN 3 (tailN 6 (tailN 1 (tailN 3 (Tryd.f3.body.getD .skip))))))).wp Tryd.prog Q a' w') :
    (tailN 5 (tailN 3 (tailN 6 (tailN 1 (tailN 3 (Tryd.f3.body.getD .skip)))))).wp Tryd.prog Q s0 w0 := by
  have HG := Lib.hid hg
  clear hg
  have hz : (setFault a == 0) = false := by simpa using hs
  have HE := Lib.hid (show hasFault a x = setFault a by unfold hasFault; rw [if_pos (by simpa using hs)])
  have HP := Lib.hid (show hasFault a x ≠ 0 by rw [HE.out]; exact hs)
  have HS := Lib.hid hs
  unfold maxLen at hma
  have HMA := Lib.hid (show a.length ≤ maxLen from hma)
  clear hs
  obtain ⟨U, rfl, hB0⟩ := h0
  refine wp_cut 8 (SSmid A l c B a d C b g x w (setFault a)) (by rfl) ?_ h
  clear h
  intro r HR
  dsimp only [Tryd.f3, Option.getD, tailN, putN]
  have hs0 := hB0.size
  go_wp2_with fail
  refine (refIs_b x _).mono ?_
  rintro e w1 ⟨rfl, hb1⟩
  have hB1 : Below w.heap.size w w1 := Below.trans (by first | exact hB0 | ((repeat' (first | exact hB0 | refine Below.setCell ?_ ?_ _ | refine Below.alloc ?_ ?_ _ | refine Below.drew ?_)) <;> (first | omega | (simp <;> omega)))) (hb1.mono (by first | omega | (simp <;> omega)))
  have hs1 : w.heap.size ≤ w1.heap.size := hB1.size
  have ht1 := hb1.size
  try simp only [World.size_alloc, World.size_setCell] at ht1
  clear hB0 hb1
  generalize isA x = bx
  go_wp2_with fail
  go_loopw [21, 22] (fun v i wx => i = .int .i64 0 ∧ v = .bool false ∧ Below w.heap.size w wx) (fun _ i _ => 0)
  case atStart => exact ⟨rfl, rfl, hB1⟩
  case round =>
    obtain ⟨rfl, rfl, hbx⟩ := hrel
    have hs := hbx.size
    by_cases hlt : 0 < a.length
    · have hlt' : (0 : Int) < (a.length : Int) := by omega
      go_wp2_with fail
      refine (has_bad B a d x HMA.out HP.out _ ((ha.below (show Below w.heap.size w _ from (by first | exact hbx | ((repeat' (first | exact hbx | refine Below.setCell ?_ ?_ _ | refine Below.alloc ?_ ?_ _ | refine Below.drew ?_)) <;> (first | omega | (simp <;> omega)))))).more (show w.heap.size ≤ _ from by first | omega | (simp <;> omega)))).mono ?_
      rintro e w6 ⟨rfl, hb6⟩
      have hB6 : Below w.heap.size w w6 := Below.trans (by first | exact hbx | ((repeat' (first | exact hbx | refine Below.setCell ?_ ?_ _ | refine Below.alloc ?_ ?_ _ | refine Below.drew ?_)) <;> (first | omega | (simp <;> omega)))) (hb6.mono (by first | omega | (simp <;> omega)))
      have hs6 : w.heap.size ≤ w6.heap.size := hB6.size
      have ht6 := hb6.size
      try simp only [World.size_alloc, World.size_setCell] at ht6
      clear hbx hb6
      go_wp2_with fail
      refine (error_has HE.out HS.out _ (by exact HG.out.belowB (show Below w.heap.size w _ from (by first | exact hB6 | ((repeat' (first | exact hB6 | refine Below.setCell ?_ ?_ _ | refine Below.alloc ?_ ?_ _ | refine Below.drew ?_)) <;> (first | omega | (simp <;> omega))))) HG.out.lt)).mono ?_
      rintro e w7 ⟨rfl, hb7⟩
      have hB7 : Below w.heap.size w w7 := Below.trans (by first | exact hB6 | ((repeat' (first | exact hB6 | refine Below.setCell ?_ ?_ _ | refine Below.alloc ?_ ?_ _ | refine Below.drew ?_)) <;> (first | omega | (simp <;> omega)))) (hb7.mono (by first | omega | (simp <;> omega)))
      have hs7 : w.heap.size ≤ w7.heap.size := hB7.size
      have ht7 := hb7.size
      try simp only [World.size_alloc, World.size_setCell] at ht7
      clear hB6 hb7
      go_wp2_with fail
      refine wp_name ?_
      intro w8 hW8
      have hB8 : Below w.heap.size w w8 := by rw [hW8.out]; exact (by first | exact hB7 | ((repeat' (first | exact hB7 | refine Below.setCell ?_ ?_ _ | refine Below.alloc ?_ ?_ _ | refine Below.drew ?_)) <;> (first | omega | (simp <;> omega))))
      have hs8 : w.heap.size ≤ w8.heap.size := hB8.size
      have ht8 := congrArg (fun x : World => x.heap.size) hW8.out
      try simp only [World.size_alloc, World.size_setCell] at ht8
      have hu8 := Nat.le_of_eq ht8
      have hv8 := Nat.le_of_eq ht8.symm
      clear ht8 hB7 hW8
      exact HR.out _ _ (SSmid.mk (by kernel_rfl) hB8)
    · have hlt' : a.length = 0 := by omega
      have HL0 := Lib.hid hlt'
      have hlt2 : decide ((0 : Int) < (a.length : Int)) = false := decide_eq_false (by omega)
      clear hlt'
      go_wp2_with fail
      refine (has_bad B a d x HMA.out HP.out _ ((ha.below (show Below w.heap.size w _ from (by first | exact hbx | ((repeat' (first | exact hbx | refine Below.setCell ?_ ?_ _ | refine Below.alloc ?_ ?_ _ | refine Below.drew ?_)) <;> (first | omega | (simp <;> omega)))))).more (show w.heap.size ≤ _ from by first | omega | (simp <;> omega)))).mono ?_
      rintro e w6 ⟨rfl, hb6⟩
      have hB6 : Below w.heap.size w w6 := Below.trans (by first | exact hbx | ((repeat' (first | exact hbx | refine Below.setCell ?_ ?_ _ | refine Below.alloc ?_ ?_ _ | refine Below.drew ?_)) <;> (first | omega | (simp <;> omega)))) (hb6.mono (by first | omega | (simp <;> omega)))
      have hs6 : w.heap.size ≤ w6.heap.size := hB6.size
      have ht6 := hb6.size
      try simp only [World.size_alloc, World.size_setCell] at ht6
      clear hbx hb6
      go_wp2_with fail
      refine (error_has HE.out HS.out _ (by exact HG.out.belowB (show Below w.heap.size w _ from (by first | exact hB6 | ((repeat' (first | exact hB6 | refine Below.setCell ?_ ?_ _ | refine Below.alloc ?_ ?_ _ | refine Below.drew ?_)) <;> (first | omega | (simp <;> omega))))) HG.out.lt)).mono ?_
      rintro e w7 ⟨rfl, hb7⟩
      have hB7 : Below w.heap.size w w7 := Below.trans (by first | exact hB6 | ((repeat' (first | exact hB6 | refine Below.setCell ?_ ?_ _ | refine Below.alloc ?_ ?_ _ | refine Below.drew ?_)) <;> (first | omega | (simp <;> omega)))) (hb7.mono (by first | omega | (simp <;> omega)))
      have hs7 : w.heap.size ≤ w7.heap.size := hB7.size
      have ht7 := hb7.size
      try simp only [World.size_alloc, World.size_setCell] at ht7
      clear hB6 hb7
      go_wp2_with fail
      refine wp_name ?_
      intro w8 hW8
      have hB8 : Below w.heap.size w w8 := by rw [hW8.out]; exact (by first | exact hB7 | ((repeat' (first | exact hB7 | refine Below.setCell ?_ ?_ _ | refine Below.alloc ?_ ?_ _ | refine Below.drew ?_)) <;> (first | omega | (simp <;> omega))))
      have hs8 : w.heap.size ≤ w8.heap.size := hB8.size
      have ht8 := congrArg (fun x : World => x.heap.size) hW8.out
      try simp only [World.size_alloc, World.size_setCell] at ht8
      have hu8 := Nat.le_of_eq ht8
      have hv8 := Nat.le_of_eq ht8.symm
      clear ht8 hB7 hW8
      exact HR.out _ _ (SSmid.mk (by kernel_rfl) hB8)
set_option maxRecDepth 100000 in
set_option maxHeartbeats 8000000 in
theorem spanSets_5b (A : Option Addr) (l : List Sp) (c : Nat) (B : Option Addr) (a : List Sp) (d : Nat) (C : Option Addr) (b : List Sp) (g : Nat) (x : Int) (hm : l.length ≤ maxLen) (hma : a.length ≤ maxLen) (hmb : b.length ≤ maxLen) (w : World) (hg : ErrVar w) (hl : Rd w w.heap.size A (cellsP l)) (ha : Rd w w.heap.size B (cellsP a)) (hb : Rd w w.heap.size C (cellsP b)) (hs0' : setFault a = 0) (hx : isA x = false) (Q : Exit → Act → World → Prop) (s0 : Act) (w0 : World) (h0 : SSmid A l c B a d C b g x w 0 s0 w0)
    (h : ∀ a' w', SSmid A l c B a d C b g x w 0 a' w' → (tailN 8 (tailN 5 (tailN 3 (tailN 6 (tailN 1 (tailN 3 (Tryd.f3.body.getD .skip))))))).wp Tryd.prog Q a' w') :
    (tailN 5 (tailN 3 (tailN 6 (tailN 1 (tailN 3 (Tryd.f3.body.getD .skip)))))).wp Tryd.prog Q s0 w0 := by
  have HG := Lib.hid hg
  clear hg
  have HE := Lib.hid (show hasFault a x = 1 by unfold hasFault; rw [if_neg (by simpa using hs0'), hx]; rfl)
  have HP := Lib.hid (show hasFault a x ≠ 0 by rw [HE.out]; decide)
  have HX := Lib.hid hx
  have HS := Lib.hid hs0'
  unfold maxLen at hma
  have HMA := Lib.hid (show a.length ≤ maxLen from hma)
  clear hs0' hx
  obtain ⟨U, rfl, hB0⟩ := h0
  refine wp_cut 8 (SSmid A l c B a d C b g x w 0) (by rfl) ?_ h
  clear h
  intro r HR
  dsimp only [Tryd.f3, Option.getD, tailN, putN]
  have hs0 := hB0.size
  go_wp2_with fail
  refine (refIs_b x _).mono ?_
  rintro e w1 ⟨rfl, hb1⟩
  have hB1 : Below w.heap.size w w1 := Below.trans (by first | exact hB0 | ((repeat' (first | exact hB0 | refine Below.setCell ?_ ?_ _ | refine Below.alloc ?_ ?_ _ | refine Below.drew ?_)) <;> (first | omega | (simp <;> omega)))) (hb1.mono (by first | omega | (simp <;> omega)))
  have hs1 : w.heap.size ≤ w1.heap.size := hB1.size
  have ht1 := hb1.size
  try simp only [World.size_alloc, World.size_setCell] at ht1
  clear hB0 hb1
  rw [HX.out]
  go_wp2_with fail
  go_loopw [21, 22] (fun v i wx => i = .int .i64 0 ∧ v = .bool false ∧ Below w.heap.size w wx) (fun _ i _ => 0)
  case atStart => exact ⟨rfl, rfl, hB1⟩
  case round =>
    obtain ⟨rfl, rfl, hbx⟩ := hrel
    have hs := hbx.size
    by_cases hlt : 0 < a.length
    · have hlt' : (0 : Int) < (a.length : Int) := by omega
      go_wp2_with fail
      refine (has_bad B a d x HMA.out HP.out _ ((ha.below (show Below w.heap.size w _ from (by first | exact hbx | ((repeat' (first | exact hbx | refine Below.setCell ?_ ?_ _ | refine Below.alloc ?_ ?_ _ | refine Below.drew ?_)) <;> (first | omega | (simp <;> omega)))))).more (show w.heap.size ≤ _ from by first | omega | (simp <;> omega)))).mono ?_
      rintro e w6 ⟨rfl, hb6⟩
      have hB6 : Below w.heap.size w w6 := Below.trans (by first | exact hbx | ((repeat' (first | exact hbx | refine Below.setCell ?_ ?_ _ | refine Below.alloc ?_ ?_ _ | refine Below.drew ?_)) <;> (first | omega | (simp <;> omega)))) (hb6.mono (by first | omega | (simp <;> omega)))
      have hs6 : w.heap.size ≤ w6.heap.size := hB6.size
      have ht6 := hb6.size
      try simp only [World.size_alloc, World.size_setCell] at ht6
      clear hbx hb6
      go_wp2_with fail
      refine (error_has HE.out (by decide) _ (by exact HG.out.belowB (show Below w.heap.size w _ from (by first | exact hB6 | ((repeat' (first | exact hB6 | refine Below.setCell ?_ ?_ _ | refine Below.alloc ?_ ?_ _ | refine Below.drew ?_)) <;> (first | omega | (simp <;> omega))))) HG.out.lt)).mono ?_
      rintro e w7 ⟨rfl, hb7⟩
      have hB7 : Below w.heap.size w w7 := Below.trans (by first | exact hB6 | ((repeat' (first | exact hB6 | refine Below.setCell ?_ ?_ _ | refine Below.alloc ?_ ?_ _ | refine Below.drew ?_)) <;> (first | omega | (simp <;> omega)))) (hb7.mono (by first | omega | (simp <;> omega)))
      have hs7 : w.heap.size ≤ w7.heap.size := hB7.size
      have ht7 := hb7.size
      try simp only [World.size_alloc, World.size_setCell] at ht7
      clear hB6 hb7
      go_wp2_with fail
      refine wp_name ?_
      intro w8 hW8
      have hB8 : Below w.heap.size w w8 := by rw [hW8.out]; exact (by first | exact hB7 | ((repeat' (first | exact hB7 | refine Below.setCell ?_ ?_ _ | refine Below.alloc ?_ ?_ _ | refine Below.drew ?_)) <;> (first | omega | (simp <;> omega))))
      have hs8 : w.heap.size ≤ w8.heap.size := hB8.size
      have ht8 := congrArg (fun x : World => x.heap.size) hW8.out
      try simp only [World.size_alloc, World.size_setCell] at ht8
      have hu8 := Nat.le_of_eq ht8
      have hv8 := Nat.le_of_eq ht8.symm
      clear ht8 hB7 hW8
      exact HR.out _ _ (SSmid.mk (by kernel_rfl) hB8)
    · have hlt' : a.length = 0 := by omega
      have HL0 := Lib.hid hlt'
      have hlt2 : decide ((0 : Int) < (a.length : Int)) = false := decide_eq_false (by omega)
      clear hlt'
      go_wp2_with fail
      refine (has_bad B a d x HMA.out HP.out _ ((ha.below (show Below w.heap.size w _ from (by first | exact hbx | ((repeat' (first | exact hbx | refine Below.setCell ?_ ?_ _ | refine Below.alloc ?_ ?_ _ | refine Below.drew ?_)) <;> (first | omega | (simp <;> omega)))))).more (show w.heap.size ≤ _ from by first | omega | (simp <;> omega)))).mono ?_
      rintro e w6 ⟨rfl, hb6⟩
      have hB6 : Below w.heap.size w w6 := Below.trans (by first | exact hbx | ((repeat' (first | exact hbx | refine Below.setCell ?_ ?_ _ | refine Below.alloc ?_ ?_ _ | refine Below.drew ?_)) <;> (first | omega | (simp <;> omega)))) (hb6.mono (by first | omega | (simp <;> omega)))
      have hs6 : w.heap.size ≤ w6.heap.size := hB6.size
      have ht6 := hb6.size
      try simp only [World.size_alloc, World.size_setCell] at ht6
      clear hbx hb6
      go_wp2_with fail
      refine (error_has HE.out (by decide) _ (by exact HG.out.belowB (show Below w.heap.size w _ from (by first | exact hB6 | ((repeat' (first | exact hB6 | refine Below.setCell ?_ ?_ _ | refine Below.alloc ?_ ?_ _ | refine Below.drew ?_)) <;> (first | omega | (simp <;> omega))))) HG.out.lt)).mono ?_
      rintro e w7 ⟨rfl, hb7⟩
      have hB7 : Below w.heap.size w w7 := Below.trans (by first | exact hB6 | ((repeat' (first | exact hB6 | refine Below.setCell ?_ ?_ _ | refine Below.alloc ?_ ?_ _ | refine Below.drew ?_)) <;> (first | omega | (simp <;> omega)))) (hb7.mono (by first | omega | (simp <;> omega)))
      have hs7 : w.heap.size ≤ w7.heap.size := hB7.size
      have ht7 := hb7.size
      try simp only [World.size_alloc, World.size_setCell] at ht7
      clear hB6 hb7
      go_wp2_with fail
      refine wp_name ?_
      intro w8 hW8
      have hB8 : Below w.heap.size w w8 := by rw [hW8.out]; exact (by first | exact hB7 | ((repeat' (first | exact hB7 | refine Below.setCell ?_ ?_ _ | refine Below.alloc ?_ ?_ _ | refine Below.drew ?_)) <;> (first | omega | (simp <;> omega))))
      have hs8 : w.heap.size ≤ w8.heap.size := hB8.size
      have ht8 := congrArg (fun x : World => x.heap.size) hW8.out
      try simp only [World.size_alloc, World.size_setCell] at ht8
      have hu8 := Nat.le_of_eq ht8
      have hv8 := Nat.le_of_eq ht8.symm
      clear ht8 hB7 hW8
      exact HR.out _ _ (SSmid.mk (by kernel_rfl) hB8)
set_option maxRecDepth 100000 in
set_option maxHeartbeats 8000000 in
theorem spanSets_5c (A : Option Addr) (l : List Sp) (c : Nat) (B : Option Addr) (a : List Sp) (d : Nat) (C : Option Addr) (b : List Sp) (g : Nat) (x : Int) (hm : l.length ≤ maxLen) (hma : a.length ≤ maxLen) (hmb : b.length ≤ maxLen) (w : World) (hg : ErrVar w) (hl : Rd w w.heap.size A (cellsP l)) (ha : Rd w w.heap.size B (cellsP a)) (hb : Rd w w.heap.size C (cellsP b)) (hs0' : setFault a = 0) (hx : isA x = true) (Q : Exit → Act → World → Prop) (s0 : Act) (w0 : World) (h0 : SSmid A l c B a d C b g x w 0 s0 w0)
    (h : ∀ a' w', SSmid A l c B a d C b g x w 0 a' w' → (tailN 8 (tailN 5 (tailN 3 (tailN 6 (tailN 1 (tailN 3 (Tryd.f3.body.getD .skip))))))).wp Tryd.prog Q a' w') :
    (tailN 5 (tailN 3 (tailN 6 (tailN 1 (tailN 3 (Tryd.f3.body.getD .skip)))))).wp Tryd.prog Q s0 w0 := by
  have HG := Lib.hid hg
  clear hg
  have hla := (set_good hs0').1
  have HS := Lib.hid hs0'
  have HX := Lib.hid hx
  clear hs0' hx
  obtain ⟨U, rfl, hB0⟩ := h0
  refine wp_cut 8 (SSmid A l c B a d C b g x w 0) (by rfl) ?_ h
  clear h
  intro r HR
  dsimp only [Tryd.f3, Option.getD, tailN, putN]
  have hs0 := hB0.size
  go_wp2_with fail
  refine (refIs_b x _).mono ?_
  rintro e w1 ⟨rfl, hb1⟩
  have hB1 : Below w.heap.size w w1 := Below.trans (by first | exact hB0 | ((repeat' (first | exact hB0 | refine Below.setCell ?_ ?_ _ | refine Below.alloc ?_ ?_ _ | refine Below.drew ?_)) <;> (first | omega | (simp <;> omega)))) (hb1.mono (by first | omega | (simp <;> omega)))
  have hs1 : w.heap.size ≤ w1.heap.size := hB1.size
  have ht1 := hb1.size
  try simp only [World.size_alloc, World.size_setCell] at ht1
  clear hB0 hb1
  rw [HX.out]
  go_wp2_with fail
  go_loopw [21, 22] (fun v i wx => ∃ (k : Nat) (y : Bool), k ≤ a.length ∧ i = .int .i64 k ∧ v = .bool y ∧ Below w.heap.size w wx ∧ Hid (y = memS (a.take k) x)) (fun _ i _ => a.length - (intOf i).toNat)
  case atStart => exact ⟨0, false, Nat.zero_le _, rfl, rfl, hB1, Lib.hid rfl⟩
  case round =>
    obtain ⟨k, y, hk, rfl, rfl, hbx, HY⟩ := hrel
    have hs := hbx.size
    by_cases hlt : k < a.length
    · obtain ⟨bb, off, rfl, hbb, c0, c1⟩ := (ha.below hbx).pair hlt
      have HT := Lib.hid (memS_take a k hlt x)
      cases y with
      | true =>
        go_wp2_with fail
        go_roundw
        case rel => exact ⟨k + 1, true, by omega, by go_num, rfl, hbx, Lib.hid (by rw [HT.out, ← HY.out]; rfl)⟩
        case measure => simp [intOf]; omega
      | false =>
        by_cases h1 : a[k].1 ≤ x
        · by_cases h2 : x ≤ a[k].2
          · have HI := Lib.hid (show inS a[k] x = true from inS_iff.2 ⟨h1, h2⟩)
            go_wp2_with fail
            go_roundw
            case rel => exact ⟨k + 1, true, by omega, by go_num, rfl, hbx, Lib.hid (by rw [HT.out, HI.out]; simp)⟩
            case measure => simp [intOf]; omega
          · have HI := Lib.hid (show inS a[k] x = false by simp [inS, h2])
            have h2' : decide (x ≤ a[k].2) = false := by simpa using h2
            clear h2
            go_wp2_with fail
            go_roundw
            case rel => exact ⟨k + 1, false, by omega, by go_num, rfl, hbx, Lib.hid (by rw [HT.out, HI.out, ← HY.out]; rfl)⟩
            case measure => simp [intOf]; omega
        · have HI := Lib.hid (show inS a[k] x = false by simp [inS, h1])
          have h1' : decide (a[k].1 ≤ x) = false := by simpa using h1
          clear h1
          go_wp2_with fail
          go_roundw
          case rel => exact ⟨k + 1, false, by omega, by go_num, rfl, hbx, Lib.hid (by rw [HT.out, HI.out, ← HY.out]; rfl)⟩
          case measure => simp [intOf]; omega
    · obtain rfl : k = a.length := by omega
      have HV := Lib.hid (show memS a x = y by have := HY.out; rw [List.take_length] at this; exact this.symm)
      go_wp2_with fail
      refine (has_ok B a d x HS.out HX.out _ ((ha.below (show Below w.heap.size w _ from (by first | exact hbx | ((repeat' (first | exact hbx | refine Below.setCell ?_ ?_ _ | refine Below.alloc ?_ ?_ _ | refine Below.drew ?_)) <;> (first | omega | (simp <;> omega)))))).more (show w.heap.size ≤ _ from by first | omega | (simp <;> omega)))).mono ?_
      rintro e w6 ⟨rfl, hb6⟩
      have hB6 : Below w.heap.size w w6 := Below.trans (by first | exact hbx | ((repeat' (first | exact hbx | refine Below.setCell ?_ ?_ _ | refine Below.alloc ?_ ?_ _ | refine Below.drew ?_)) <;> (first | omega | (simp <;> omega)))) (hb6.mono (by first | omega | (simp <;> omega)))
      have hs6 : w.heap.size ≤ w6.heap.size := hB6.size
      have ht6 := hb6.size
      try simp only [World.size_alloc, World.size_setCell] at ht6
      clear hbx hb6
      rw [HV.out]
      go_wp2_with fail
      refine (error_nil0 _ (by exact HG.out.belowB (show Below w.heap.size w _ from (by first | exact hB6 | ((repeat' (first | exact hB6 | refine Below.setCell ?_ ?_ _ | refine Below.alloc ?_ ?_ _ | refine Below.drew ?_)) <;> (first | omega | (simp <;> omega))))) HG.out.lt)).mono ?_
      rintro e w7 ⟨rfl, hb7⟩
      have hB7 : Below w.heap.size w w7 := Below.trans (by first | exact hB6 | ((repeat' (first | exact hB6 | refine Below.setCell ?_ ?_ _ | refine Below.alloc ?_ ?_ _ | refine Below.drew ?_)) <;> (first | omega | (simp <;> omega)))) (hb7.mono (by first | omega | (simp <;> omega)))
      have hs7 : w.heap.size ≤ w7.heap.size := hB7.size
      have ht7 := hb7.size
      try simp only [World.size_alloc, World.size_setCell] at ht7
      clear hB6 hb7
      go_wp2_with fail
      refine wp_name ?_
      intro w8 hW8
      have hB8 : Below w.heap.size w w8 := by rw [hW8.out]; exact (by first | exact hB7 | ((repeat' (first | exact hB7 | refine Below.setCell ?_ ?_ _ | refine Below.alloc ?_ ?_ _ | refine Below.drew ?_)) <;> (first | omega | (simp <;> omega))))
      have hs8 : w.heap.size ≤ w8.heap.size := hB8.size
      have ht8 := congrArg (fun x : World => x.heap.size) hW8.out
      try simp only [World.size_alloc, World.size_setCell] at ht8
      have hu8 := Nat.le_of_eq ht8
      have hv8 := Nat.le_of_eq ht8.symm
      clear ht8 hB7 hW8
      exact HR.out _ _ (SSmid.mk (by kernel_rfl) hB8)
set_option maxRecDepth 100000 in
set_option maxHeartbeats 8000000 in
theorem spanSets_6a (A : Option Addr) (l : List Sp) (c : Nat) (B : Option Addr) (a : List Sp) (d : Nat) (C : Option Addr) (b : List Sp) (g : Nat) (x : Int) (hm : l.length ≤ maxLen) (hma : a.length ≤ maxLen) (hmb : b.length ≤ maxLen) (w : World) (hg : ErrVar w) (hl : Rd w w.heap.size A (cellsP l)) (ha : Rd w w.heap.size B (cellsP a)) (hb : Rd w w.heap.size C (cellsP b)) (hs : setFault a = 0) (Q : Exit → Act → World → Prop) (s0 : Act) (w0 : World) (h0 : SSmid A l c B a d C b g x w 0 s0 w0)
    (h : ∀ a' w', SSmid A l c B a d C b g x w (twoFault a b) a' w' → (tailN 1 (tailN 8 (tailN 5 (tailN 3 (tailN 6 (tailN 1 (tailN 3 (Tryd.f3.body.getD .skip)))))))).wp Tryd.prog Q a' w') :
    (tailN 8 (tailN 5 (tailN 3 (tailN 6 (tailN 1 (tailN 3 (Tryd.f3.body.getD .skip))))))).wp Tryd.prog Q s0 w0 := by
  have HG := Lib.hid hg
  clear hg
  have HE := Lib.hid (show setFault b = twoFault a b by unfold twoFault; rw [if_neg (by simpa using hs)])
  clear hs
  obtain ⟨U, rfl, hB0⟩ := h0
  refine wp_cut 1 (SSmid A l c B a d C b g x w (twoFault a b)) (by rfl) ?_ h
  clear h
  intro r HR
  dsimp only [Tryd.f3, Option.getD, tailN, putN]
  have hs0 := hB0.size
  go_wp2_with fail
  refine (setFaultRef_any C b g hmb _ ((hb.below (show Below w.heap.size w _ from (by first | exact hB0 | ((repeat' (first | exact hB0 | refine Below.setCell ?_ ?_ _ | refine Below.alloc ?_ ?_ _ | refine Below.drew ?_)) <;> (first | omega | (simp <;> omega)))))).more (show w.heap.size ≤ _ from by first | omega | (simp <;> omega)))).mono ?_
  rintro e w1 ⟨rfl, hb1⟩
  have hB1 : Below w.heap.size w w1 := Below.trans (by first | exact hB0 | ((repeat' (first | exact hB0 | refine Below.setCell ?_ ?_ _ | refine Below.alloc ?_ ?_ _ | refine Below.drew ?_)) <;> (first | omega | (simp <;> omega)))) (hb1.mono (by first | omega | (simp <;> omega)))
  have hs1 : w.heap.size ≤ w1.heap.size := hB1.size
  have ht1 := hb1.size
  try simp only [World.size_alloc, World.size_setCell] at ht1
  clear hB0 hb1
  rw [HE.out]
  go_wp2_with fail
  refine wp_name ?_
  intro w2 hW2
  have hB2 : Below w.heap.size w w2 := by rw [hW2.out]; exact (by first | exact hB1 | ((repeat' (first | exact hB1 | refine Below.setCell ?_ ?_ _ | refine Below.alloc ?_ ?_ _ | refine Below.drew ?_)) <;> (first | omega | (simp <;> omega))))
  have hs2 : w.heap.size ≤ w2.heap.size := hB2.size
  have ht2 := congrArg (fun x : World => x.heap.size) hW2.out
  try simp only [World.size_alloc, World.size_setCell] at ht2
  have hu2 := Nat.le_of_eq ht2
  have hv2 := Nat.le_of_eq ht2.symm
  clear ht2 hB1 hW2
  exact HR.out _ _ (SSmid.mk (by kernel_rfl) hB2)
set_option maxRecDepth 100000 in
set_option maxHeartbeats 8000000 in
theorem spanSets_6b (A : Option Addr) (l : List Sp) (c : Nat) (B : Option Addr) (a : List Sp) (d : Nat) (C : Option Addr) (b : List Sp) (g : Nat) (x : Int) (hm : l.length ≤ maxLen) (hma : a.length ≤ maxLen) (hmb : b.length ≤ maxLen) (w : World) (hg : ErrVar w) (hl : Rd w w.heap.size A (cellsP l)) (ha : Rd w w.heap.size B (cellsP a)) (hb : Rd w w.heap.size C (cellsP b)) (hs : setFault a ≠ 0) (Q : Exit → Act → World → Prop) (s0 : Act) (w0 : World) (h0 : SSmid A l c B a d C b g x w (setFault a) s0 w0)
    (h : ∀ a' w', SSmid A l c B a d C b g x w (setFault a) a' w' → (tailN 1 (tailN 8 (tailN 5 (tailN 3 (tailN 6 (tailN 1 (tailN 3 (Tryd.f3.body.getD .skip)))))))).wp Tryd.prog Q a' w') :
    (tailN 8 (tailN 5 (tailN 3 (tailN 6 (tailN 1 (tailN 3 (Tryd.f3.body.getD .skip))))))).wp Tryd.prog Q s0 w0 := by
  have HG := Lib.hid hg
  clear hg
  have hz : (setFault a == 0) = false := by simpa using hs
  have HE := Lib.hid (show twoFault a b = setFault a by unfold twoFault; rw [if_pos (by simpa using hs)])
  clear hs
  obtain ⟨U, rfl, hB0⟩ := h0
  refine wp_cut 1 (SSmid A l c B a d C b g x w (setFault a)) (by rfl) ?_ h
  clear h
  intro r HR
  dsimp only [Tryd.f3, Option.getD, tailN, putN]
  have hs0 := hB0.size
  go_wp2_with fail
  refine wp_name ?_
  intro w1 hW1
  have hB1 : Below w.heap.size w w1 := by rw [hW1.out]; exact (by first | exact hB0 | ((repeat' (first | exact hB0 | refine Below.setCell ?_ ?_ _ | refine Below.alloc ?_ ?_ _ | refine Below.drew ?_)) <;> (first | omega | (simp <;> omega))))
  have hs1 : w.heap.size ≤ w1.heap.size := hB1.size
  have ht1 := congrArg (fun x : World => x.heap.size) hW1.out
  try simp only [World.size_alloc, World.size_setCell] at ht1
  have hu1 := Nat.le_of_eq ht1
  have hv1 := Nat.le_of_eq ht1.symm
  clear ht1 hB0 hW1
  exact HR.out _ _ (SSmid.mk (by kernel_rfl) hB1)
end Go.Proofs.YtmfaknngophmhaaDoor
