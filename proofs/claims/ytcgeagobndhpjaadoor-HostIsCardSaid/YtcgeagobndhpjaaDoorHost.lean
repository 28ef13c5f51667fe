/- Contracts of package host: Usable, marked, Next, Share. -/
import Derived.Test.YtcgeagobndhpjaaDoorAddr
import Derived.Maps.OwnOps
import Derived.Maps.OwnSet
namespace Go.Proofs.YtcgeagobndhpjaaDoor
set_option linter.unusedVariables false
set_option linter.unusedSimpArgs false
open Go.RowKit Go.Maps

theorem usable_bad (a n : Int) (hc : chk a n ≠ 0) (w : World) :
    Calls Tryd.prog 15 #[.agg #[.int .i64 a, .int .i64 n]] w fun e w' => e = .returned (.tuple #[.agg #[.int .i64 0, .int .i64 0], .iface 25 (.int .i64 (chk a n))]) ∧ Below w.heap.size w w' := by
  go_enter Tryd.func15, Tryd.ntmps15
  go_wp2_with (go_at_call 22; refine (ends_bad _ _ hc _).mono ?_; rintro e w1 ⟨rfl, hb1⟩; obtain ⟨c0, c1, f0, f1⟩ := ((Blk.new (w.alloc _) _ _).below hb1 (by simp)).two; simp only [World.size_alloc] at c0 c1 f0 f1)
  refine bodyPost_ret (v := .tuple #[.agg #[.int .i64 0, .int .i64 0], .iface 25 (.int .i64 (chk a n))]) (by simp [results, Tryd.results15, go_sem, c0, c1]) rfl ⟨rfl, ?_⟩
  exact (((((Below.refl _ _).alloc (Nat.le_refl _) _).alloc (by simp) _).trans (hb1.mono (by simp; omega))).setCell (by simp) _).setCell (by simp) _

theorem usable_ok (a n : Int) (hc : chk a n = 0) (w : World) :
    Calls Tryd.prog 15 #[.agg #[.int .i64 a, .int .i64 n]] w fun e w' => e = .returned (.tuple #[.agg #[.int .i64 (uLo a n), .int .i64 (uHi a n)], .nilIface]) ∧ Below w.heap.size w w' := by
  obtain ⟨g1, g2, g3, g4, _⟩ := chk_zero.1 hc
  have g5 := last_le hc
  have g6 := last_ge a n
  by_cases h : n < 31
  · have e1 : uLo a n = a + 1 := by simp [uLo, h]
    have e2 : uHi a n = lastA a n - 1 := by simp [uHi, h]
    rw [e1, e2]
    clear e1 e2
    go_enter Tryd.func15, Tryd.ntmps15
    go_wp2_with (go_at_call 22; refine (ends_ok _ _ hc _).mono ?_; rintro e w1 ⟨rfl, hb1⟩; obtain ⟨d0, d1, _⟩ := (((Blk.new w _ _).alloc _).below hb1 (by simp; omega)).two; obtain ⟨c0, c1, f0, f1⟩ := ((Blk.new (w.alloc _) _ _).below hb1 (by simp)).two; simp only [World.size_alloc] at c0 c1 f0 f1)
    refine bodyPost_ret (v := .tuple #[.agg #[.int .i64 (a + 1), .int .i64 (lastA a n - 1)], .nilIface]) (by simp [results, Tryd.results15, go_sem, c0, c1]) rfl ⟨rfl, ?_⟩
    exact (((((Below.refl _ _).alloc (Nat.le_refl _) _).alloc (by simp) _).trans (hb1.mono (by simp; omega))).setCell (by simp) _).setCell (by simp) _
  · have e1 : uLo a n = a := by simp [uLo, h]
    have e2 : uHi a n = lastA a n := by simp [uHi, h]
    rw [e1, e2]
    clear e1 e2
    go_enter Tryd.func15, Tryd.ntmps15
    go_wp2_with (go_at_call 22; refine (ends_ok _ _ hc _).mono ?_; rintro e w1 ⟨rfl, hb1⟩; obtain ⟨d0, d1, _⟩ := (((Blk.new w _ _).alloc _).below hb1 (by simp; omega)).two; obtain ⟨c0, c1, f0, f1⟩ := ((Blk.new (w.alloc _) _ _).below hb1 (by simp)).two; simp only [World.size_alloc] at c0 c1 f0 f1)
    refine bodyPost_ret (v := .tuple #[.agg #[.int .i64 a, .int .i64 (lastA a n)], .nilIface]) (by simp [results, Tryd.results15, go_sem, c0, c1]) rfl ⟨rfl, ?_⟩
    exact (((((Below.refl _ _).alloc (Nat.le_refl _) _).alloc (by simp) _).trans (hb1.mono (by simp; omega))).setCell (by simp) _).setCell (by simp) _

abbrev mapI : TypeId := 107
theorem lawI : Keyed Tryd.prog 3 := int_keyed Tryd.underlying3
theorem zeroI (w : World) : (zeroValue 3).run Tryd.prog w = .ok (.int .i64 0) w := by kernel_rfl
def marksD (l : List Int) : DataW Unit := setOf (.lit (.int .i64 1)) (l.map (Lit.int .i64))
/-- Block b is a map whose keys are these, each with 1. -/
def OwnM (w : World) (b n : Nat) (l : List Int) : Prop := w.ownsMap Tryd.prog 3 (plainElem Tryd.prog 3) b n (marksD l)

def MarkPost (a n : Int) (used : List Int) (w : World) (e : Ending) (w' : World) : Prop :=
  Below w.heap.size w w' ∧
  ((used.all isA = true ∧ ∃ b, e = .returned (.tuple #[.agg #[.int .i64 (uLo a n), .int .i64 (uHi a n)], .map (some b), .nilIface]) ∧ w.heap.size ≤ b ∧ b < w'.heap.size ∧ OwnM w' b used.length (marks a n used)) ∨
   (used.all isA = false ∧ e = .returned (.tuple #[.agg #[.int .i64 (uLo a n), .int .i64 (uHi a n)], .map none, .iface 25 (.int .i64 1)])))

set_option maxHeartbeats 800000 in
theorem marked_any (a n : Int) (A : Option Addr) (used : List Int) (c : Nat) (hc : chk a n = 0) (hlen : used.length ≤ 200) (w : World) (hl : Rd w w.heap.size A (used.map (Value.int .i64))) :
    Calls Tryd.prog 76 #[.agg #[.int .i64 a, .int .i64 n], .slice A used.length c] w (MarkPost a n used w) := by
  have hmm := @run_makeMap Tryd.prog
  go_enter Tryd.func76, Tryd.ntmps76
  go_wp2_with fail
  refine (usable_ok _ _ hc _).mono ?_
  rintro e w1 ⟨rfl, hb1⟩
  have hB1 := (Blk.new (w.alloc (.cells #[.int .i64 a, .int .i64 n] 23)) 28 #[.int .i64 0, .int .i64 0]).below hb1 (by simp)
  simp only [World.size_alloc] at hB1
  have hs1 := hb1.size
  simp only [World.size_alloc] at hs1
  have hl1 : Rd w1 w.heap.size A (used.map (Value.int .i64)) := ((hl.alloc (Nat.le_refl _) _).alloc (by simp) _).below (hb1.mono (by simp; omega))
  have hbw := ((((Below.refl w.heap.size w).alloc (Nat.le_refl _) (.cells #[.int .i64 a, .int .i64 n] 23)).alloc (by simp) (.cells #[.int .i64 0, .int .i64 0] 28)).trans (hb1.mono (by simp; omega)))
  clear hb1 hl
  go_wp2
  go_loopw [11, 29] (fun _ i wr => ∃ k : Nat, k ≤ used.length ∧ i = .int .i64 k ∧ Below (w1.heap.size + 1) (w1.alloc (.cells #[.int .i64 (uLo a n), .int .i64 (uHi a n)] 28)) wr ∧ (used.take k).all isA = true ∧ OwnM wr (w1.heap.size + 1) k (marks a n (used.take k)))
    (fun _ i _ => used.length - (intOf i).toNat)
  case atStart => exact ⟨0, Nat.zero_le _, rfl, (Below.refl _ _).alloc (by simp) _, rfl, by have := World.ownsMap_made (H := Unit) (w1.alloc (.cells #[.int .i64 (uLo a n), .int .i64 (uHi a n)] 28)) Tryd.prog 3 (plainElem Tryd.prog 3); rw [World.size_alloc] at this; exact this⟩
  case round =>
    obtain ⟨k, hk, rfl, hb, hall, hown⟩ := hrel
    have hs := hb.size
    simp only [World.size_alloc] at hs
    obtain ⟨d0, d1, _⟩ := ((Blk.new w1 28 #[.int .i64 (uLo a n), .int .i64 (uHi a n)]).below hb (by omega)).two
    obtain ⟨e0, e1, g0, g1⟩ := ((hB1.alloc _).below hb (by omega)).two
    by_cases hlt : k < used.length
    · obtain ⟨b, off, rfl, hbb, c0⟩ := ((hl1.alloc (by omega) _).below (hb.mono (by omega))).int hlt
      have hsn := all_snoc isA used k hlt
      have hmk := marks_snoc a n used k hlt
      have HS := Lib.hid hsn
      have HM := Lib.hid hmk
      have HA := Lib.hid hall
      clear hsn hmk hall
      by_cases hi : isA used[k] = true
      · have hr := isA_true.1 hi
        by_cases hu : inU a n used[k] = true
        · have hlo : uLo a n ≤ used[k] := by simp [inU] at hu; omega
          have hhi : used[k] ≤ uHi a n := by simp [inU] at hu; omega
          go_wp2_with (first | (go_at_call 81; refine (is_any _ _).mono ?_; rintro e w' ⟨rfl, rfl⟩) | (at_mapUpdate; refine wpList_mapUpdate_own _ rfl _ _ _ mapI rfl 3 3 lawI Tryd.underlying107 _ (w1.heap.size + 1) k _ rfl hown (by unfold maxLen; omega) _ _ _ rfl rfl (keyOf_int_mk Tryd.underlying3 (WalkArith.wf_i64 (by omega))) _ [] (plainElem_int Tryd.underlying3 (by decide)) ?_; intro w2 hown2 hg2))
          go_roundw
          case rel => exact ⟨k + 1, by omega, by go_num, hb.grown hg2 hs (fun j hj => by cases hj; omega), by rw [HS.out, HA.out, hi]; rfl, by unfold OwnM marksD; rw [HM.out, if_pos hu, List.map_append]; exact setOf_snoc _ _ _ ▸ hown2⟩
          case measure => simp [intOf]; omega
        · have hu' : ¬ (uLo a n ≤ used[k] ∧ used[k] ≤ uHi a n) := by simpa [inU] using hu
          have fin : OwnM wr (w1.heap.size + 1) (k + 1) (marks a n (used.take (k + 1))) := by
            rw [HM.out, if_neg hu, List.append_nil]; exact hown.mono (by omega)
          by_cases hlo : uLo a n ≤ used[k]
          · have hhi : uHi a n < used[k] := by omega
            clear hu'
            go_wp2_with (go_at_call 81; refine (is_any _ _).mono ?_; rintro e w' ⟨rfl, rfl⟩)
            go_roundw
            case rel => exact ⟨k + 1, by omega, by go_num, hb, by rw [HS.out, HA.out, hi]; rfl, fin⟩
            case measure => simp [intOf]; omega
          · have hlo' : used[k] < uLo a n := by omega
            clear hu' hlo
            go_wp2_with (go_at_call 81; refine (is_any _ _).mono ?_; rintro e w' ⟨rfl, rfl⟩)
            go_roundw
            case rel => exact ⟨k + 1, by omega, by go_num, hb, by rw [HS.out, HA.out, hi]; rfl, fin⟩
            case measure => simp [intOf]; omega
      · have hi' : isA used[k] = false := by simpa using hi
        have hbad := all_of_bad isA used k hlt hi'
        have HBAD := Lib.hid hbad
        clear hbad hi
        go_wp2_with (go_at_call 81; refine (is_any _ _).mono ?_; rintro e w' ⟨rfl, rfl⟩)
        refine bodyPost_ret (v := .tuple #[.agg #[.int .i64 (uLo a n), .int .i64 (uHi a n)], .map none, .iface 25 (.int .i64 1)]) (by simp [results, Tryd.results76, go_sem, e0, e1]) rfl ⟨?_, .inr ⟨HBAD.out, rfl⟩⟩
        exact ((hbw.trans (((Below.refl _ _).alloc (by omega) _).trans (hb.mono (by omega)))).setCell (by simp) _).setCell (by simp) _
    · obtain rfl : k = used.length := by omega
      rw [List.take_length] at hall hown
      have HA := Lib.hid hall
      clear hall
      go_wp2
      refine bodyPost_ret (v := .tuple #[.agg #[.int .i64 (uLo a n), .int .i64 (uHi a n)], .map (some (w1.heap.size + 1)), .nilIface]) (by simp [results, Tryd.results76, go_sem, e0, e1]) rfl ⟨?_, .inl ⟨HA.out, _, rfl, by omega, by simpa [World.setCell] using hown.lt, (hown.setCell (by simp; omega) _).setCell (by simp; omega) _⟩⟩
      exact ((hbw.trans (((Below.refl _ _).alloc (by omega) _).trans (hb.mono (by omega)))).setCell (by simp) _).setCell (by simp) _

def MarkBad (k : Int) (w : World) (e : Ending) (w' : World) : Prop := ∃ s0 s1, e = .returned (.tuple #[.agg #[.int .i64 s0, .int .i64 s1], .map none, .iface 25 (.int .i64 k)]) ∧ Below w.heap.size w w'

theorem marked_bad (a n : Int) (A : Option Addr) (used : List Int) (c : Nat) (hf : usedFault a n used ≠ 0) (hm : used.length ≤ maxLen) (w : World) (hl : Rd w w.heap.size A (used.map (Value.int .i64))) :
    Calls Tryd.prog 76 #[.agg #[.int .i64 a, .int .i64 n], .slice A used.length c] w (MarkBad (usedFault a n used) w) := by
  unfold maxLen at hm
  by_cases hc : chk a n = 0
  · by_cases h2 : 200 < used.length
    · have e : usedFault a n used = 3 := by simp [usedFault, hc, h2]
      rw [e]
      have hF := Lib.hid hf
      clear e hf
      go_enter Tryd.func76, Tryd.ntmps76
      go_wp2_with fail
      refine (usable_ok _ _ hc _).mono ?_
      rintro e w1 ⟨rfl, hb1⟩
      have hB1 := (Blk.new (w.alloc (.cells #[.int .i64 a, .int .i64 n] 23)) 28 #[.int .i64 0, .int .i64 0]).below hb1 (by simp)
      simp only [World.size_alloc] at hB1
      have hs1 := hb1.size
      simp only [World.size_alloc] at hs1
      obtain ⟨c0, c1, f0, f1⟩ := (hB1.alloc (.cells #[.int .i64 (uLo a n), .int .i64 (uHi a n)] 28)).two
      have hbw := ((((Below.refl w.heap.size w).alloc (Nat.le_refl _) (.cells #[.int .i64 a, .int .i64 n] 23)).alloc (by simp) (.cells #[.int .i64 0, .int .i64 0] 28)).trans (hb1.mono (by simp; omega)))
      clear hb1 hl
      go_wp2
      refine bodyPost_ret (v := .tuple #[.agg #[.int .i64 (uLo a n), .int .i64 (uHi a n)], .map none, .iface 25 (.int .i64 3)]) (by simp [results, Tryd.results76, go_sem, c0, c1]) rfl ⟨_, _, rfl, ?_⟩
      exact ((hbw.alloc (by omega) _).setCell (by simp) _).setCell (by simp) _
    · have h3 : used.all isA = false := by
        cases h : used.all isA
        · rfl
        · exact absurd (usedFault_zero.2 ⟨hc, by omega, h⟩) hf
      have e : usedFault a n used = 1 := by simp [usedFault, hc, h2, h3]
      rw [e]
      refine (marked_any a n A used c hc (by omega) w hl).mono ?_
      rintro e w' ⟨hb, ⟨h, _⟩ | ⟨_, rfl⟩⟩
      · rw [h] at h3; cases h3
      · exact ⟨_, _, rfl, hb⟩
  · have e : usedFault a n used = chk a n := by simp [usedFault, hc]
    rw [e]
    clear e hf
    go_enter Tryd.func76, Tryd.ntmps76
    go_wp2_with fail
    refine (usable_bad _ _ hc _).mono ?_
    rintro e w1 ⟨rfl, hb1⟩
    have hB1 := (Blk.new (w.alloc (.cells #[.int .i64 a, .int .i64 n] 23)) 28 #[.int .i64 0, .int .i64 0]).below hb1 (by simp)
    simp only [World.size_alloc] at hB1
    have hs1 := hb1.size
    simp only [World.size_alloc] at hs1
    obtain ⟨c0, c1, f0, f1⟩ := (hB1.alloc (.cells #[.int .i64 0, .int .i64 0] 28)).two
    have hbw := ((((Below.refl w.heap.size w).alloc (Nat.le_refl _) (.cells #[.int .i64 a, .int .i64 n] 23)).alloc (by simp) (.cells #[.int .i64 0, .int .i64 0] 28)).trans (hb1.mono (by simp; omega)))
    clear hb1 hl
    go_wp2
    refine bodyPost_ret (v := .tuple #[.agg #[.int .i64 0, .int .i64 0], .map none, .iface 25 (.int .i64 (chk a n))]) (by simp [results, Tryd.results76, go_sem, c0, c1]) rfl ⟨_, _, rfl, ?_⟩
    exact ((hbw.alloc (by omega) _).setCell (by simp) _).setCell (by simp) _

theorem atKey_marks (l : List Int) (x c : Int) (h : (marksD l).atKey (.int .i64 x) (.lit (.int .i64 0)) = .lit (.int .i64 c)) : (x ∈ l → c = 1) ∧ (x ∉ l → c = 0) := by
  have key : (marksD l).atKey (.int .i64 x) (.lit (.int .i64 0)) = if x ∈ l then .lit (.int .i64 1) else .lit (.int .i64 0) := by
    clear h
    unfold marksD
    generalize hn : l.length = n
    induction n generalizing l with
    | zero => obtain rfl := List.eq_nil_of_length_eq_zero hn; rfl
    | succ n ih =>
      obtain ⟨r, y, rfl⟩ : ∃ r y, l = r ++ [y] := by
        have : l ≠ [] := by intro e; rw [e] at hn; simp at hn
        exact ⟨l.dropLast, l.getLast this, (List.dropLast_concat_getLast this).symm⟩
      rw [List.map_append, List.map_cons, List.map_nil, setOf_snoc]
      by_cases e : x = y
      · subst e
        rw [atKey_put_same (tidy_setOf _ _ (by simp [WideAt.IsKeyLit])).isMap (by simp [WideAt.IsKeyLit])]
        simp
      · rw [atKey_put_other (by simpa using e), ih r (by simpa using hn)]
        simp [e]
  rw [key] at h
  refine ⟨fun hm => ?_, fun hm => ?_⟩
  · rw [if_pos hm] at h; simp at h; exact h.symm
  · rw [if_neg hm] at h; simp at h; exact h.symm

theorem uSpan {a n : Int} (hc : chk a n = 0) : uLo a n ≤ uHi a n + 1 ∧ 0 ≤ uLo a n ∧ uHi a n ≤ 4294967295 := by
  obtain ⟨g1, g2, g3, g4, _⟩ := chk_zero.1 hc
  have g5 := last_le hc
  have g6 := last_ge a n
  unfold uLo uHi
  by_cases h : n < 31
  · have : sz n = 2 * sz (n + 1) := sz_half n (by omega)
    have := sz_half (n + 1) (by omega)
    have := sz_pos (n + 1 + 1)
    simp only [h, if_true]
    unfold lastA at *
    omega
  · simp only [h, if_false]; omega

theorem next_bad (a n : Int) (A : Option Addr) (used : List Int) (c : Nat) (hf : usedFault a n used ≠ 0) (hm : used.length ≤ maxLen) (w : World) (hl : Rd w w.heap.size A (used.map (Value.int .i64))) :
    Calls Tryd.prog 21 #[.agg #[.int .i64 a, .int .i64 n], .slice A used.length c] w fun e w' => e = .returned (.tuple #[.int .i64 0, .iface 25 (.int .i64 (usedFault a n used))]) ∧ Below w.heap.size w w' := by
  go_enter Tryd.func21, Tryd.ntmps21
  go_wp2_with fail
  refine (marked_bad a n A used c hf hm _ ((hl.alloc (Nat.le_refl _) _).more (by simp))).mono ?_
  rintro e w1 ⟨s0, s1, rfl, hb1⟩
  go_wp2
  go_ret2
  exact ⟨rfl, (((Below.refl _ _).alloc (Nat.le_refl _) _).trans (hb1.mono (by simp))).alloc (by have := hb1.size; simp at this; omega) _⟩

theorem share_bad (a n : Int) (A : Option Addr) (used : List Int) (c : Nat) (hf : usedFault a n used ≠ 0) (hm : used.length ≤ maxLen) (w : World) (hl : Rd w w.heap.size A (used.map (Value.int .i64))) :
    Calls Tryd.prog 19 #[.agg #[.int .i64 a, .int .i64 n], .slice A used.length c] w fun e w' => e = .returned (.tuple #[.int .i64 0, .int .i64 0, .iface 25 (.int .i64 (usedFault a n used))]) ∧ Below w.heap.size w w' := by
  go_enter Tryd.func19, Tryd.ntmps19
  go_wp2_with fail
  refine (marked_bad a n A used c hf hm _ ((hl.alloc (Nat.le_refl _) _).more (by simp))).mono ?_
  rintro e w1 ⟨s0, s1, rfl, hb1⟩
  go_wp2
  go_ret3
  exact ⟨rfl, (((Below.refl _ _).alloc (Nat.le_refl _) _).trans (hb1.mono (by simp))).alloc (by have := hb1.size; simp at this; omega) _⟩

theorem size_marksD (l : List Int) : Maps.size (marksD l) = (distinct l).length := by
  unfold marksD
  rw [size_setOf _ _ (by simp [WideAt.IsKeyLit])]
  have key : ∀ (l acc : List Int), (l.map (Lit.int .i64)).foldl addKey (acc.map (Lit.int .i64)) = (l.foldl addNew acc).map (Lit.int .i64) := by
    intro l
    induction l with
    | nil => intro acc; rfl
    | cons x r ih =>
      intro acc
      have : addKey (acc.map (Lit.int .i64)) (Lit.int .i64 x) = (addNew acc x).map (Lit.int .i64) := by
        unfold addKey addNew
        have e : (acc.map (Lit.int .i64)).any (fun y => y.sameKey (Lit.int .i64 x)) = decide (x ∈ acc) := by
          rw [Bool.eq_iff_iff]
          simp [Lit.sameKey]
        rw [e]
        by_cases h : x ∈ acc <;> simp [h]
      rw [List.map_cons, List.foldl_cons, this, ih, List.foldl_cons]
  have := key l []
  simp only [List.map_nil] at this
  rw [this]
  simp [distinct]

theorem share_ok (a n : Int) (A : Option Addr) (used : List Int) (c : Nat) (hf : usedFault a n used = 0) (w : World) (hl : Rd w w.heap.size A (used.map (Value.int .i64))) :
    Calls Tryd.prog 19 #[.agg #[.int .i64 a, .int .i64 n], .slice A used.length c] w fun e w' => e = .returned (.tuple #[.int .i64 (distinct (marks a n used)).length, .int .i64 (uHi a n - uLo a n + 1), .nilIface]) ∧ Below w.heap.size w w' := by
  obtain ⟨hc, hlen, hall⟩ := usedFault_zero.1 hf
  obtain ⟨u1, u2, u3⟩ := uSpan hc
  have HA := Lib.hid hall
  clear hall hf
  go_enter Tryd.func19, Tryd.ntmps19
  go_wp2_with fail
  refine (marked_any a n A used c hc hlen _ ((hl.alloc (Nat.le_refl _) _).more (by simp))).mono ?_
  rintro e w1 ⟨hb1, ⟨_, b, rfl, hbb, hlt, hown⟩ | ⟨h, _⟩⟩
  · have hs := hb1.size
    simp only [World.size_alloc] at hs
    have hown' := hown.alloc (.cells #[.int .i64 (uLo a n), .int .i64 (uHi a n)] 28)
    have hbw := (((Below.refl _ _).alloc (Nat.le_refl w.heap.size) (.cells #[.int .i64 a, .int .i64 n] 23)).trans (hb1.mono (by simp))).alloc (by omega) (.cells #[.int .i64 (uLo a n), .int .i64 (uHi a n)] 28)
    obtain ⟨k0, k1⟩ := bel2 (B := w1.heap.size + 1) (new2 w1 (.int .i64 (uLo a n)) (.int .i64 (uHi a n)) 28) (by omega)
    have hlenR : ∀ (x : BelW (w1.heap.size + 1) (w1.alloc (.cells #[.int .i64 (uLo a n), .int .i64 (uHi a n)] 28))) (ty : TypeId), (Builtin.len_ #[mapI] ty #[.map (some b)]).run Tryd.prog x.1 = .ok (.int .i64 (distinct (marks a n used)).length) x.1 := fun x ty => by
      rw [← size_marksD]
      exact (hown'.kept (row := none) ⟨x.2.os, x.2.tape, x.2.output, x.2.size, fun k hk _ => x.2.block k (by simpa using hk)⟩ (by simp)).len Tryd.underlying107 ty
    clear hb1 hown hown'
    go_wp2_with fail
    refine wp_region_bel (w1.heap.size + 1) _ (by kernel_rfl) (by kernel_rfl) (Below.refl _ _) ?_
    repeat (go_big_quiet_step (fail))
    refine wpQuiet_nil ?_
    intro w2 hb2
    clear k0 k1 hlenR
    go_wp2
    go_ret3
    exact ⟨rfl, hbw.trans (hb2.mono (by omega))⟩
  · rw [HA.out] at h; cases h

def NextPost (a n : Int) (used : List Int) (w : World) (e : Ending) (w' : World) : Prop :=
  Below w.heap.size w w' ∧ e = .returned (if nextOf a n used ≤ uHi a n then .tuple #[.int .i64 (nextOf a n used), .nilIface] else .tuple #[.int .i64 0, .iface 25 (.int .i64 4)])

set_option maxHeartbeats 400000 in
theorem next_any (a n : Int) (A : Option Addr) (used : List Int) (c : Nat) (hf : usedFault a n used = 0) (w : World) (hl : Rd w w.heap.size A (used.map (Value.int .i64))) :
    Calls Tryd.prog 21 #[.agg #[.int .i64 a, .int .i64 n], .slice A used.length c] w (NextPost a n used w) := by
  obtain ⟨hc, hlen, hall⟩ := usedFault_zero.1 hf
  obtain ⟨u1, u2, u3⟩ := uSpan hc
  have HA := Lib.hid hall
  clear hall hf
  go_enter Tryd.func21, Tryd.ntmps21
  go_wp2_with fail
  refine (marked_any a n A used c hc hlen _ ((hl.alloc (Nat.le_refl _) _).more (by simp))).mono ?_
  rintro e w1 ⟨hb1, ⟨_, b, rfl, hbb, hlt, hown⟩ | ⟨h, _⟩⟩
  · have hs := hb1.size
    simp only [World.size_alloc] at hs
    have hown' := hown.alloc (.cells #[.int .i64 (uLo a n), .int .i64 (uHi a n)] 28)
    have hbw := (((Below.refl _ _).alloc (Nat.le_refl w.heap.size) (.cells #[.int .i64 a, .int .i64 n] 23)).trans (hb1.mono (by simp))).alloc (by omega) (.cells #[.int .i64 (uLo a n), .int .i64 (uHi a n)] 28)
    clear hb1 hown
    go_wp2
    go_loop [9] (fun v => ∃ x : Int, v = .int .i64 x ∧ uLo a n ≤ x ∧ x ≤ uHi a n + 1 ∧ ∀ z, uLo a n ≤ z → z < x → z ∈ marks a n used) (fun v => (uHi a n + 1 - intOf v).toNat)
    case atStart => exact ⟨_, rfl, Int.le_refl _, u1, fun z h1 h2 => by omega⟩
    case round =>
      obtain ⟨x, rfl, x1, x2, hx⟩ := hrel
      have HX := Lib.hid hx
      clear hx
      go_wp2_with (at_lookup; refine wpList_lookup_own_int _ rfl _ _ mapI rfl 3 3 .i64 lawI Tryd.underlying107 Tryd.underlying3 (zeroI _) b _ _ rfl hown' _ _ rfl (keyOf_int_mk Tryd.underlying3 (WalkArith.wf_i64 (by omega))) ?_; intro cc hat hwc; have Hat := Lib.hid (atKey_marks _ _ _ hat); clear hat hwc)
      · go_round
        case rel =>
          have hc1 : cc = 1 := by have : (cc == 1) = true := by assumption
                                  simpa using this
          have hm : x ∈ marks a n used := by
            refine Classical.byContradiction fun h => ?_
            have := Hat.out.2 h
            omega
          have := (mem_marks.1 hm).2
          refine ⟨x + 1, rfl, by omega, by omega, fun z h1 h2 => ?_⟩
          by_cases e : z = x
          · subst e; exact hm
          · exact HX.out z h1 (by omega)
        case measure =>
          have hc1 : cc = 1 := by have : (cc == 1) = true := by assumption
                                  simpa using this
          have hm : x ∈ marks a n used := by
            refine Classical.byContradiction fun h => ?_
            have := Hat.out.2 h
            omega
          have := (mem_marks.1 hm).2
          simp [intOf]; omega
      all_goals
        have hc1 : cc ≠ 1 := by
          have : (cc == 1) = false := by assumption
          simpa using this
        have hm : x ∉ marks a n used := fun h => hc1 (Hat.out.1 h)
        have hn : nextOf a n used = x := nextOf_unique a n used x x1 x2 HX.out hm
        go_ret2
        refine ⟨hbw, ?_⟩
        rw [hn]
      · rw [if_neg (by omega)]; rfl
      · rw [if_pos (by omega)]; rfl
  · rw [HA.out] at h; cases h
end Go.Proofs.YtcgeagobndhpjaaDoor
