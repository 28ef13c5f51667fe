/- Contracts of package cover: Of, All, Set, Spans, Fewest. -/
import Derived.Test.YtmfaknngophmhaaDoorOf2
import Derived.Test.YtmfaknngophmhaaDoorMerge
namespace Go.Proofs.YtmfaknngophmhaaDoor
set_option linter.unusedVariables false
set_option linter.unusedSimpArgs false
open Go.RowKit

theorem of_ok (s : Sp) (hf : spanFault s = 0) (w : World) (ht : TabVar w) :
    Calls Tryd.prog 21 #[.agg #[.int .i64 s.1, .int .i64 s.2]] w (OwnRes2 46 w (cover s.1 s.2)) := by
  obtain ⟨h0, h1, h2⟩ := spanFault_zero.1 hf
  exact callsIn_wide.1 (of_in 3 (by omega) s.1 s.2 h0 h1 h2 w ht)

theorem of_bad (s : Sp) (hf : spanFault s ≠ 0) (w : World) :
    Calls Tryd.prog 21 #[.agg #[.int .i64 s.1, .int .i64 s.2]] w fun e w' => e = .returned (.tuple #[.slice none 0 0, .iface 23 (.int .i64 (spanFault s))]) ∧ Below w.heap.size w w' := by
  obtain ⟨x, y⟩ := s
  simp only
  cases hx : isA x
  · have HV := Lib.hid (show spanFault (x, y) = 1 by simp [spanFault, hx])
    have HX := Lib.hid hx
    clear hx hf
    go_enter Tryd.func21, Tryd.ntmps21
    go_wp2_with fail
    refine (is_lit x false HX.out _).mono ?_
    rintro e w' ⟨rfl, rfl⟩
    go_wp2
    go_ret2
    exact ⟨by rw [HV.out]; rfl, (Below.refl _ _).alloc (Nat.le_refl _) _⟩
  · cases hy : isA y
    · have HV := Lib.hid (show spanFault (x, y) = 1 by simp [spanFault, hx, hy])
      have HX := Lib.hid hx
      have HY := Lib.hid hy
      clear hx hy hf
      go_enter Tryd.func21, Tryd.ntmps21
      go_wp2_with fail
      refine (is_lit x true HX.out _).mono ?_
      rintro e w' ⟨rfl, rfl⟩
      go_wp2_with fail
      refine (is_lit y false HY.out _).mono ?_
      rintro e w' ⟨rfl, rfl⟩
      go_wp2
      go_ret2
      exact ⟨by rw [HV.out]; rfl, (Below.refl _ _).alloc (Nat.le_refl _) _⟩
    · have hlt : y < x := by
        refine Int.not_le.1 fun h => hf ?_
        simp [spanFault, hx, hy]
        omega
      have HV := Lib.hid (show spanFault (x, y) = 2 by simp [spanFault, hx, hy, hlt])
      have HX := Lib.hid hx
      have HY := Lib.hid hy
      clear hx hy hf
      go_enter Tryd.func21, Tryd.ntmps21
      go_wp2_with fail
      refine (is_lit x true HX.out _).mono ?_
      rintro e w' ⟨rfl, rfl⟩
      go_wp2_with fail
      refine (is_lit y true HY.out _).mono ?_
      rintro e w' ⟨rfl, rfl⟩
      go_wp2
      go_ret2
      exact ⟨by rw [HV.out]; rfl, (Below.refl _ _).alloc (Nat.le_refl _) _⟩

theorem coverSet_len {l : List Sp} (hv : Valid l) : (coverSet l).length ≤ l.length * 4294967296 := by
  induction l with
  | nil => simp [coverSet]
  | cons s r ih =>
    have h1 := ih (fun x hx => hv x (by simp [hx]))
    have h2 := cover_len s.1 s.2
    have h3 := hv s (by simp)
    unfold maxA at h3
    have : (coverSet (s :: r)).length = (cover s.1 s.2).length + (coverSet r).length := by simp [coverSet]
    rw [this, List.length_cons, Nat.add_mul]
    omega

set_option maxRecDepth 100000 in
set_option maxHeartbeats 1000000 in
theorem all_any (A : Option Addr) (l : List Sp) (c : Nat) (hv : Valid l) (hlen : l.length ≤ 64) (w : World) (ht : TabVar w) (hl : Rd w w.heap.size A (cellsP l)) :
    Calls Tryd.prog 61 #[.slice A l.length c] w (OwnRes 46 w (coverSet l)) := by
  have HV := Lib.hid hv
  have hgt := ht.lt
  clear hv
  go_enter Tryd.func61, Tryd.ntmps61
  go_wp2
  go_loopw [3, 5, 6, 7, 10] (fun v _ _ _ i wr => ∃ k : Nat, k ≤ l.length ∧ i = .int .i64 k ∧ Below w.heap.size w wr ∧ OwnP wr w.heap.size 46 v (coverSet (l.take k))) (fun _ _ _ _ i _ => l.length - (intOf i).toNat)
  case atStart => exact ⟨0, Nat.zero_le _, rfl, Below.refl _ _, OwnP.nil _ _ _⟩
  case round =>
    obtain ⟨k, hk, rfl, hb, hown⟩ := hrel
    by_cases hlt : k < l.length
    · have hs := hb.size
      obtain ⟨b, off, rfl, hbb, c0, c1⟩ := (hl.below hb).pair hlt
      have HF := Lib.hid (spanFault_zero.2 (HV.out l[k] (List.getElem_mem _)))
      have HS := Lib.hid (coverSet_snoc l k hlt)
      obtain ⟨X, hX⟩ : ∃ X, X = coverSet (l.take k) := ⟨_, rfl⟩
      obtain ⟨Y, hY⟩ : ∃ Y, Y = cover l[k].1 l[k].2 := ⟨_, rfl⟩
      have hXl : X.length ≤ 64 * 4294967296 := by
        rw [hX]
        refine Nat.le_trans (coverSet_len (fun x hx => HV.out x (List.mem_of_mem_take hx))) (Nat.mul_le_mul_right _ ?_)
        rw [List.length_take]; omega
      have hYl : Y.length ≤ 4294967296 := by
        have h3 := HV.out l[k] (List.getElem_mem _)
        have h2 := cover_len l[k].1 l[k].2
        unfold maxA at h3
        rw [hY]; omega
      rw [← hX] at hown
      have HX := Lib.hid hX
      have HY := Lib.hid hY
      clear hX hY
      go_wp2_with fail
      refine (of_ok l[k] HF.out _ ((ht.belowB hb hgt).belowB ((Below.refl wr.heap.size wr).alloc (Nat.le_refl _) _) (by omega))).mono ?_
      rintro e w2 ⟨v2, rfl, hown2, hb2⟩
      rw [← HY.out] at hown2
      obtain ⟨A2, c2, rfl, hr2⟩ := hown2.form
      have hb3 := (hb.alloc hs (.cells #[.int .i64 l[k].1, .int .i64 l[k].2] 26)).trans (hb2.mono (by simp; omega))
      have hs3 := hb3.size
      have hown3 := (hown.alloc (.cells #[.int .i64 l[k].1, .int .i64 l[k].2] 26)).below hb2
      clear hb2 hb hown hown2 c0 c1
      go_wp2_with (at_builtin; refine wpList_append_rd rfl (.tmp 19) (.tmp 20) 43 rfl 46 Tryd.underlying43 _ 2 16 infoPfx rfl (by decide) w.heap.size _ X.length (cellsP X) rfl hown3 w2.heap.size A2 Y.length c2 (cellsP Y) rfl (by rw [cellsP_length]) hr2 (cellsP_one Y) (by unfold maxLen; omega) (by omega) hs3 ?_; intro v5 w5 hown5 hb5)
      go_roundw
      case rel => exact ⟨k + 1, by omega, by go_num, hb3.trans hb5, by rw [HS.out, ← HX.out, ← HY.out]; unfold OwnP; rw [cellsP_append, List.length_append]; exact hown5⟩
      case measure => simp [intOf]; omega
    · obtain rfl : k = l.length := by omega
      rw [List.take_length] at hown
      go_wp2
      go_ret
      exact ⟨_, rfl, hown, hb⟩

theorem setP_bad (A : Option Addr) (l : List Sp) (c : Nat) (hm : l.length ≤ maxLen) (hf : setFault l ≠ 0) (w : World) (hl : Rd w w.heap.size A (cellsP l)) :
    Calls Tryd.prog 24 #[.slice A l.length c] w fun e w' => e = .returned (.tuple #[.slice none 0 0, .iface 23 (.int .i64 (setFault l))]) ∧ Below w.heap.size w w' := by
  have HF := Lib.hid hf
  clear hf
  go_enter Tryd.func24, Tryd.ntmps24
  go_wp2_with fail
  refine (spanCheck_bad A l c hm HF.out _ hl).mono ?_
  rintro e w1 ⟨rfl, hb1⟩
  go_wp2
  go_ret2
  exact ⟨rfl, hb1⟩
theorem setP_full (A : Option Addr) (l : List Sp) (c : Nat) (hf : setFault l = 0) (h200 : 200 < (coverSet l).length) (w : World) (ht : TabVar w) (hl : Rd w w.heap.size A (cellsP l)) :
    Calls Tryd.prog 24 #[.slice A l.length c] w fun e w' => e = .returned (.tuple #[.slice none 0 0, .iface 23 (.int .i64 3)]) ∧ Below w.heap.size w w' := by
  obtain ⟨g1, g2, _⟩ := set_good hf
  have HF := Lib.hid hf
  have HV := Lib.hid g2
  clear hf g2
  go_enter Tryd.func24, Tryd.ntmps24
  go_wp2_with fail
  refine (spanCheck_ok A l c HF.out _ hl).mono ?_
  rintro e w1 ⟨rfl, hb1⟩
  have hs1 := hb1.size
  go_wp2_with fail
  refine (all_any A l c HV.out g1 _ (ht.belowB hb1 ht.lt) ((hl.below hb1).more hs1)).mono ?_
  rintro e w2 ⟨v, rfl, hown, hb2⟩
  obtain ⟨A2, c2, rfl, _⟩ := hown.form
  have hbig : (200 : Int) < ((coverSet l).length : Int) := by omega
  go_wp2
  go_ret2
  exact ⟨rfl, hb1.trans (hb2.mono hs1)⟩
theorem setP_ok (A : Option Addr) (l : List Sp) (c : Nat) (hf : setFault l = 0) (h200 : (coverSet l).length ≤ 200) (w : World) (ht : TabVar w) (hl : Rd w w.heap.size A (cellsP l)) :
    Calls Tryd.prog 24 #[.slice A l.length c] w (OwnRes2 46 w (coverSet l)) := by
  obtain ⟨g1, g2, _⟩ := set_good hf
  have HF := Lib.hid hf
  have HV := Lib.hid g2
  clear hf g2
  go_enter Tryd.func24, Tryd.ntmps24
  go_wp2_with fail
  refine (spanCheck_ok A l c HF.out _ hl).mono ?_
  rintro e w1 ⟨rfl, hb1⟩
  have hs1 := hb1.size
  go_wp2_with fail
  refine (all_any A l c HV.out g1 _ (ht.belowB hb1 ht.lt) ((hl.below hb1).more hs1)).mono ?_
  rintro e w2 ⟨v, rfl, hown, hb2⟩
  obtain ⟨A2, c2, rfl, _⟩ := hown.form
  have hbig : ((coverSet l).length : Int) ≤ 200 := by omega
  go_wp2
  go_ret2
  exact ⟨_, rfl, own_of_base hown hs1, hb1.trans (hb2.mono hs1)⟩

/- cover.Spans -/
def firstP : List Pf → Int
  | [] => 0
  | q :: r => if chkP q ≠ 0 then chkP q else firstP r
theorem firstP_step (l : List Pf) (k : Nat) (h : k < l.length) : firstP (l.drop k) = if chkP l[k] ≠ 0 then chkP l[k] else firstP (l.drop (k + 1)) := by
  rw [List.drop_eq_getElem_cons h, firstP]
def spansPFault (p : List Pf) : Int := if 200 < p.length then 3 else if firstP p ≠ 0 then firstP p else if 64 < (norm (spansP p)).length then 3 else 0
def SpansRes (w : World) (p : List Pf) (e : Ending) (w' : World) : Prop := Below w.heap.size w w' ∧ (spansPFault p = 0 → (∀ q ∈ p, chkP q = 0) ∧ ∃ v, e = .returned (.tuple #[v, .nilIface]) ∧ OwnP w' w.heap.size 26 v (norm (spansP p))) ∧
  (spansPFault p ≠ 0 → e = .returned (.tuple #[.slice none 0 0, .iface 23 (.int .i64 (spansPFault p))]))
theorem SpansRes.bad {w w' : World} {p : List Pf} {n : Int} (h : spansPFault p = n) (hn : n ≠ 0) (hb : Below w.heap.size w w') : SpansRes w p (.returned (.tuple #[.slice none 0 0, .iface 23 (.int .i64 n)])) w' :=
  ⟨hb, fun h0 => absurd (h.symm.trans h0) hn, fun _ => by rw [h]⟩
theorem spansP_snoc (l : List Pf) (k : Nat) (h : k < l.length) : spansP (l.take (k + 1)) = spansP (l.take k) ++ [(l[k].1, lastP l[k])] := by
  unfold spansP
  rw [List.take_succ_eq_append_getElem h, List.map_append]
  rfl

set_option maxRecDepth 100000 in
set_option maxHeartbeats 1000000 in
theorem spansP_all (A : Option Addr) (l : List Pf) (c : Nat) (hm : l.length ≤ maxLen) (w : World) (hl : Rd w w.heap.size A (cellsP l)) :
    Calls Tryd.prog 26 #[.slice A l.length c] w (SpansRes w l) := by
  unfold maxLen at hm
  by_cases h200 : l.length ≤ 200
  · go_enter Tryd.func26, Tryd.ntmps26
    go_wp2
    go_loopw [4, 6, 7, 8, 9, 16] (fun v _ _ _ _ i wr => ∃ k : Nat, k ≤ l.length ∧ i = .int .i64 k ∧ Below w.heap.size w wr ∧ OwnP wr w.heap.size 26 v (spansP (l.take k)) ∧ firstP l = firstP (l.drop k) ∧ ∀ q ∈ l.take k, chkP q = 0) (fun _ _ _ _ _ i _ => l.length - (intOf i).toNat)
    case atStart => exact ⟨0, Nat.zero_le _, rfl, Below.refl _ _, OwnP.nil _ _ _, rfl, by simp⟩
    case round =>
      obtain ⟨k, hk, rfl, hb, hown, hg, hv⟩ := hrel
      by_cases hlt : k < l.length
      · have hs := hb.size
        obtain ⟨b, off, rfl, hbb, c0, c1⟩ := (hl.below hb).pair hlt
        have hst := firstP_step l k hlt
        by_cases hc : chkP l[k] = 0
        · have HC := Lib.hid hc
          have HG := Lib.hid (show firstP l = firstP (l.drop (k + 1)) by rw [hg, hst, if_neg (by simp [hc])])
          have HV := Lib.hid (take_all hlt hv hc)
          have HS := Lib.hid (spansP_snoc l k hlt)
          obtain ⟨X, hX⟩ : ∃ X, X = spansP (l.take k) := ⟨_, rfl⟩
          have hXl : X.length ≤ 200 := by rw [hX]; simp [spansP]; omega
          rw [← hX] at hown
          have HX := Lib.hid hX
          clear hX hg hv hst hc
          go_wp2_with fail
          refine (ends_ok l[k].1 l[k].2 HC.out _).mono ?_
          rintro e w2 ⟨rfl, hb2⟩
          have hb3 := (hb.alloc hs (.cells #[.int .i64 l[k].1, .int .i64 l[k].2] 46)).trans (hb2.mono (by simp; omega))
          have hs3 := hb3.size
          have hown3 := (hown.alloc (.cells #[.int .i64 l[k].1, .int .i64 l[k].2] 46)).below hb2
          clear hb2 hb hown c0 c1
          go_wp2_with (at_builtin; refine wpList_append_pair (p := (l[k].1, lastA l[k].1 l[k].2)) rfl _ _ 22 rfl Tryd.underlying22 infoSp w.heap.size _ _ rfl hown3 rfl (by omega) hs3 ?_; intro v5 w5 hown5 hb5)
          go_roundw
          case rel => exact ⟨k + 1, by omega, by go_num, hb3.trans hb5, by rw [HS.out, ← HX.out]; exact hown5, HG.out, HV.out⟩
          case measure => simp [intOf]; omega
        · have HC := Lib.hid hc
          have HB := Lib.hid (show spansPFault l = chk l[k].1 l[k].2 by unfold spansPFault; rw [if_neg (by omega), hg, hst, if_pos hc, if_pos hc]; rfl)
          clear hg hv hst hc
          go_wp2_with fail
          refine (ends_bad l[k].1 l[k].2 HC.out _).mono ?_
          rintro e w2 ⟨rfl, hb2⟩
          go_wp2
          go_ret2
          exact SpansRes.bad HB.out HC.out ((hb.alloc hs _).trans (hb2.mono (by simp; omega)))
      · obtain rfl : k = l.length := by omega
        rw [List.take_length] at hown hv
        have hs := hb.size
        have HF := Lib.hid (show firstP l = 0 by rw [hg, List.drop_length]; rfl)
        have HV := Lib.hid hv
        have hXl : (spansP l).length ≤ 200 := by simp [spansP]; omega
        obtain ⟨A2, c2, rfl, hr2⟩ := hown.form
        clear hg hv
        go_wp2_with fail
        refine (merge_any A2 (spansP l) c2 (spansP_valid HV.out) (by omega) wr hr2).mono ?_
        rintro e w2 ⟨v, rfl, hown2, hb2⟩
        obtain ⟨A3, c3, rfl, hr3⟩ := hown2.form
        by_cases h64 : (norm (spansP l)).length ≤ 64
        · have hbig : ((norm (spansP l)).length : Int) ≤ 64 := by omega
          have HZ := Lib.hid (show spansPFault l = 0 by unfold spansPFault; rw [if_neg (by omega), if_neg (by rw [HF.out]; simp), if_neg (by omega)])
          clear hown hr2 hXl
          go_wp2
          go_ret2
          exact ⟨hb.trans (hb2.mono hs), fun _ => ⟨HV.out, _, rfl, own_of_base hown2 hs⟩, fun h => absurd HZ.out h⟩
        · have hbig : (64 : Int) < ((norm (spansP l)).length : Int) := by omega
          have HZ := Lib.hid (show spansPFault l = 3 by unfold spansPFault; rw [if_neg (by omega), if_neg (by rw [HF.out]; simp), if_pos (by omega)])
          clear hown hr2 hXl
          go_wp2
          go_ret2
          exact SpansRes.bad HZ.out (by decide) (hb.trans (hb2.mono hs))
  · have HZ := Lib.hid (show spansPFault l = 3 by unfold spansPFault; rw [if_pos (by omega)])
    go_enter Tryd.func26, Tryd.ntmps26
    go_wp2
    go_ret2
    exact SpansRes.bad HZ.out (by decide) (Below.refl _ _)
theorem spansP_bad (A : Option Addr) (l : List Pf) (c : Nat) (hm : l.length ≤ maxLen) (hf : spansPFault l ≠ 0) (w : World) (hl : Rd w w.heap.size A (cellsP l)) :
    Calls Tryd.prog 26 #[.slice A l.length c] w fun e w' => e = .returned (.tuple #[.slice none 0 0, .iface 23 (.int .i64 (spansPFault l))]) ∧ Below w.heap.size w w' := (spansP_all A l c hm w hl).mono fun e w' h => ⟨h.2.2 hf, h.1⟩
theorem spansP_ok (A : Option Addr) (l : List Pf) (c : Nat) (hm : l.length ≤ maxLen) (hf : spansPFault l = 0) (w : World) (hl : Rd w w.heap.size A (cellsP l)) :
    Calls Tryd.prog 26 #[.slice A l.length c] w (OwnRes2 26 w (norm (spansP l))) := (spansP_all A l c hm w hl).mono fun e w' h => by obtain ⟨_, v, q1, q2⟩ := h.2.1 hf; exact ⟨v, q1, q2, h.1⟩
theorem firstP_good : ∀ {l : List Pf}, firstP l = 0 → ∀ q ∈ l, chkP q = 0
  | [], _, q, hq => by simp at hq
  | x :: r, h, q, hq => by
    unfold firstP at h
    by_cases hx : chkP x = 0
    · rw [if_neg (by simp [hx])] at h
      rcases List.mem_cons.1 hq with rfl | hq
      · exact hx
      · exact firstP_good h q hq
    · rw [if_pos hx] at h; exact absurd h hx
theorem firstP_of : ∀ {l : List Pf}, (∀ q ∈ l, chkP q = 0) → firstP l = 0
  | [], _ => rfl
  | x :: r, h => by
    unfold firstP
    rw [if_neg (by simp [h x (by simp)])]
    exact firstP_of fun q hq => h q (by simp [hq])
theorem spansPFault_zero {l : List Pf} : spansPFault l = 0 ↔ l.length ≤ 200 ∧ (∀ q ∈ l, chkP q = 0) ∧ (norm (spansP l)).length ≤ 64 := by
  unfold spansPFault
  constructor
  · intro h
    by_cases h1 : 200 < l.length
    · rw [if_pos h1] at h; cases h
    · rw [if_neg h1] at h
      by_cases h2 : firstP l = 0
      · rw [if_neg (by simp [h2])] at h
        by_cases h3 : 64 < (norm (spansP l)).length
        · rw [if_pos h3] at h; cases h
        · exact ⟨by omega, firstP_good h2, by omega⟩
      · rw [if_pos h2] at h; exact absurd h h2
  · rintro ⟨h1, h2, h3⟩
    rw [if_neg (by omega), if_neg (by simp [firstP_of h2]), if_neg (by omega)]

/- cover.Fewest -/
def fewest (p : List Pf) : List Pf := coverSet (norm (spansP p))
def fewestFault (p : List Pf) : Int := if spansPFault p ≠ 0 then spansPFault p else if 200 < (fewest p).length then 3 else 0
theorem norm_set {p : List Pf} (h : spansPFault p = 0) : setFault (norm (spansP p)) = 0 := by
  obtain ⟨_, h2, h3⟩ := spansPFault_zero.1 h
  exact set_of h3 (norm_valid (spansP_valid h2)) (norm_good (spansP_valid h2)).1
theorem fewest_bad (A : Option Addr) (l : List Pf) (c : Nat) (hm : l.length ≤ maxLen) (hf : fewestFault l ≠ 0) (w : World) (ht : TabVar w) (hl : Rd w w.heap.size A (cellsP l)) :
    Calls Tryd.prog 27 #[.slice A l.length c] w fun e w' => e = .returned (.tuple #[.slice none 0 0, .iface 23 (.int .i64 (fewestFault l))]) ∧ Below w.heap.size w w' := by
  by_cases h1 : spansPFault l = 0
  · have h200 : 200 < (fewest l).length := by
      refine Nat.lt_of_not_le fun h => hf ?_
      unfold fewestFault
      rw [if_neg (by simp [h1]), if_neg (by omega)]
    have HV := Lib.hid (show fewestFault l = 3 by unfold fewestFault; rw [if_neg (by simp [h1]), if_pos h200])
    have H1 := Lib.hid h1
    have H2 := Lib.hid (show 200 < (coverSet (norm (spansP l))).length from h200)
    clear h1 h200 hf
    go_enter Tryd.func27, Tryd.ntmps27
    go_wp2_with fail
    refine (spansP_ok A l c hm H1.out _ hl).mono ?_
    rintro e w1 ⟨v1, rfl, hown1, hb1⟩
    obtain ⟨A1, c1, rfl, hr1⟩ := hown1.form
    have hs1 := hb1.size
    go_wp2_with fail
    refine (setP_full A1 _ c1 (norm_set H1.out) H2.out _ (ht.belowB hb1 ht.lt) hr1).mono ?_
    rintro e w2 ⟨rfl, hb2⟩
    go_wp2
    go_ret2
    exact ⟨by rw [HV.out]; rfl, hb1.trans (hb2.mono hs1)⟩
  · have HV := Lib.hid (show fewestFault l = spansPFault l by unfold fewestFault; rw [if_pos h1])
    have H1 := Lib.hid h1
    clear h1 hf
    go_enter Tryd.func27, Tryd.ntmps27
    go_wp2_with fail
    refine (spansP_bad A l c hm H1.out _ hl).mono ?_
    rintro e w1 ⟨rfl, hb1⟩
    go_wp2
    go_ret2
    exact ⟨by rw [HV.out]; rfl, hb1⟩
theorem fewestFault_zero {p : List Pf} (h : fewestFault p = 0) : spansPFault p = 0 ∧ (fewest p).length ≤ 200 := by
  unfold fewestFault at h
  by_cases h1 : spansPFault p = 0
  · rw [if_neg (by simp [h1])] at h
    by_cases h2 : 200 < (fewest p).length
    · rw [if_pos h2] at h; cases h
    · exact ⟨h1, by omega⟩
  · rw [if_pos h1] at h; exact absurd h h1
theorem fewest_ok (A : Option Addr) (l : List Pf) (c : Nat) (hm : l.length ≤ maxLen) (hf : fewestFault l = 0) (w : World) (ht : TabVar w) (hl : Rd w w.heap.size A (cellsP l)) :
    Calls Tryd.prog 27 #[.slice A l.length c] w (OwnRes2 46 w (fewest l)) := by
  obtain ⟨h1, h2⟩ := fewestFault_zero hf
  have H1 := Lib.hid h1
  have H2 := Lib.hid (show (coverSet (norm (spansP l))).length ≤ 200 from h2)
  clear h1 h2 hf
  go_enter Tryd.func27, Tryd.ntmps27
  go_wp2_with fail
  refine (spansP_ok A l c hm H1.out _ hl).mono ?_
  rintro e w1 ⟨v1, rfl, hown1, hb1⟩
  obtain ⟨A1, c1, rfl, hr1⟩ := hown1.form
  have hs1 := hb1.size
  go_wp2_with fail
  refine (setP_ok A1 _ c1 (norm_set H1.out) H2.out _ (ht.belowB hb1 ht.lt) hr1).mono ?_
  rintro e w2 ⟨v2, rfl, hown2, hb2⟩
  go_wp2
  go_ret2
  exact ⟨_, rfl, own_of_base hown2 hs1, hb1.trans (hb2.mono hs1)⟩
end Go.Proofs.YtmfaknngophmhaaDoor
