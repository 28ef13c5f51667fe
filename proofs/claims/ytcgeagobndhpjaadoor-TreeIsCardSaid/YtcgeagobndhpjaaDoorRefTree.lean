/- The references of trees: TreeFault, PutIn, DropFrom. Any list, any prefix. -/
import Derived.Test.YtcgeagobndhpjaaDoorRefAddr
import Derived.Test.YtcgeagobndhpjaaDoorTreePut
namespace Go.Proofs.YtcgeagobndhpjaaDoor
set_option linter.unusedVariables false
set_option linter.unusedSimpArgs false
open Go.RowKit

theorem ahead_yes (p q : Pf) (h : ordP p q < 0) (w : World) :
    Calls Tryd.prog 83 #[.agg #[.int .i64 p.1, .int .i64 p.2], .agg #[.int .i64 q.1, .int .i64 q.2]] w fun e w' => e = .returned (.bool true) ∧ Below w.heap.size w w' := by
  obtain ⟨a, n⟩ := p
  obtain ⟨b, m⟩ := q
  rcases ordP_lt.1 h with h1 | ⟨h1, h2⟩
  · simp only at h1 ⊢
    clear h
    go_enter Tryd.func83, Tryd.ntmps83
    go_wp2
    go_ret
    exact ⟨rfl, ((Below.refl _ _).alloc (Nat.le_refl _) _).alloc (by simp) _⟩
  · simp only at h1 h2 ⊢
    subst h1
    have h3 : ¬ a < a := by omega
    clear h
    go_enter Tryd.func83, Tryd.ntmps83
    go_wp2
    go_ret
    exact ⟨rfl, ((Below.refl _ _).alloc (Nat.le_refl _) _).alloc (by simp) _⟩
theorem ahead_no (p q : Pf) (h : 0 ≤ ordP p q) (w : World) :
    Calls Tryd.prog 83 #[.agg #[.int .i64 p.1, .int .i64 p.2], .agg #[.int .i64 q.1, .int .i64 q.2]] w fun e w' => e = .returned (.bool false) ∧ Below w.heap.size w w' := by
  obtain ⟨a, n⟩ := p
  obtain ⟨b, m⟩ := q
  replace h : ¬ ordP (a, n) (b, m) < 0 := by omega
  rw [ordP_lt] at h
  simp only at h ⊢
  by_cases h1 : a = b
  · subst h1
    have h3 : ¬ a < a := by omega
    have hd : decide (n < m) = false := by simp; omega
    clear h
    go_enter Tryd.func83, Tryd.ntmps83
    go_wp2
    go_ret
    exact ⟨by first | rfl | exact congrArg (fun b => Ending.returned (.bool b)) hd, ((Below.refl _ _).alloc (Nat.le_refl _) _).alloc (by simp) _⟩
  · have hd : decide (a < b) = false := by simp; omega
    have h3 : (a == b) = false := by simpa using h1
    clear h h1
    go_enter Tryd.func83, Tryd.ntmps83
    go_wp2
    go_ret
    exact ⟨by first | rfl | exact congrArg (fun b => Ending.returned (.bool b)) hd, ((Below.refl _ _).alloc (Nat.le_refl _) _).alloc (by simp) _⟩
theorem same_yes (p q : Pf) (h : p = q) (w : World) :
    Calls Tryd.prog 85 #[.agg #[.int .i64 p.1, .int .i64 p.2], .agg #[.int .i64 q.1, .int .i64 q.2]] w fun e w' => e = .returned (.bool true) ∧ Below w.heap.size w w' := by
  subst h
  go_enter Tryd.func85, Tryd.ntmps85
  go_wp2
  go_ret
  exact ⟨rfl, ((Below.refl _ _).alloc (Nat.le_refl _) _).alloc (by simp) _⟩
theorem same_no (p q : Pf) (h : p ≠ q) (w : World) :
    Calls Tryd.prog 85 #[.agg #[.int .i64 p.1, .int .i64 p.2], .agg #[.int .i64 q.1, .int .i64 q.2]] w fun e w' => e = .returned (.bool false) ∧ Below w.heap.size w w' := by
  obtain ⟨a, n⟩ := p
  obtain ⟨b, m⟩ := q
  simp only
  by_cases h1 : a = b
  · subst h1
    have h2 : (n == m) = false := by
      simp
      rintro rfl
      exact h rfl
    clear h
    go_enter Tryd.func85, Tryd.ntmps85
    go_wp2
    go_ret
    exact ⟨rfl, ((Below.refl _ _).alloc (Nat.le_refl _) _).alloc (by simp) _⟩
  · have h2 : (a == b) = false := by simpa using h1
    clear h h1
    go_enter Tryd.func85, Tryd.ntmps85
    go_wp2
    go_ret
    exact ⟨rfl, ((Below.refl _ _).alloc (Nat.le_refl _) _).alloc (by simp) _⟩
theorem same_any (p q : Pf) (w : World) :
    Calls Tryd.prog 85 #[.agg #[.int .i64 p.1, .int .i64 p.2], .agg #[.int .i64 q.1, .int .i64 q.2]] w fun e w' => e = .returned (.bool (decide (p = q))) ∧ Below w.heap.size w w' := by
  by_cases h : p = q
  · rw [decide_eq_true h]; exact same_yes p q h w
  · rw [decide_eq_false h]; exact same_no p q h w

theorem tf_bad {l : List Pf} {k : Nat} (hlen : l.length ≤ 60) (h : k < l.length) (hg : treeGo none l = treeGo (prevOf l k) (l.drop k)) (hb : chkP l[k] ≠ 0) : treeFault l = chk l[k].1 l[k].2 := by
  unfold treeFault
  rw [if_neg (by omega), hg, treeGo_step l k h, if_pos hb]
  rfl
theorem tf_shape {l : List Pf} {k : Nat} (hlen : l.length ≤ 60) (h : k < l.length) (hg : treeGo none l = treeGo (prevOf l k) (l.drop k)) (hc : chkP l[k] = 0) (hb : badOrd (prevOf l k) l[k] = true) : treeFault l = 2 := by
  unfold treeFault
  rw [if_neg (by omega), hg, treeGo_step l k h, if_neg (by simp [hc]), if_pos hb]
theorem tf_end {l : List Pf} (hlen : l.length ≤ 60) (hg : treeGo none l = treeGo (prevOf l l.length) (l.drop l.length)) : treeFault l = 0 := by
  unfold treeFault
  rw [if_neg (by omega), hg, List.drop_length]
  cases prevOf l l.length <;> rfl

set_option maxHeartbeats 1600000 in
theorem treeRef_any (A : Option Addr) (l : List Pf) (c : Nat) (hm : l.length ≤ maxLen) (w : World) (hl : Rd w w.heap.size A (cellsP l)) :
    Calls Tryd.prog 33 #[.slice A l.length c] w fun e w' => e = .returned (.int .i64 (treeFault l)) ∧ Below w.heap.size w w' := by
  unfold maxLen at hm
  by_cases h60 : l.length ≤ 60
  · go_enter Tryd.func33, Tryd.ntmps33
    go_wp2
    go_loopw [3, 4] (fun i _ wr => ∃ k : Nat, k ≤ l.length ∧ i = .int .i64 k ∧ Below w.heap.size w wr ∧ treeGo none l = treeGo (prevOf l k) (l.drop k)) (fun i _ _ => l.length - (intOf i).toNat)
    case atStart => exact ⟨0, Nat.zero_le _, rfl, Below.refl _ _, rfl⟩
    case round =>
      obtain ⟨k, hk, rfl, hb, hg⟩ := hrel
      by_cases hlt : k < l.length
      · obtain ⟨b, off, rfl, hbb, c0, c1⟩ := (hl.below hb).pair hlt
        have hs := hb.size
        by_cases hc : chkP l[k] = 0
        · have HC := Lib.hid (show chk l[k].1 l[k].2 = 0 from hc)
          rcases Nat.eq_zero_or_pos k with h0 | h0
          · subst h0
            simp only [Nat.zero_mul, Nat.add_zero] at c0 c1
            have HN := Lib.hid (treeGo_next hlt hg hc rfl)
            clear hg hc
            go_wp2_with fail
            refine (fault_any _ _ _).mono ?_
            rintro e w1 ⟨rfl, hb1⟩
            rw [HC.out]
            have hb2 := hb.trans (hb1.mono hs)
            clear hb1
            go_wp2_with fail
            refine wp_region_bel w.heap.size w (by kernel_rfl) (by kernel_rfl) hb2 ?_
            repeat (go_big_quiet_step (fail))
            refine wpQuiet_nil ?_
            intro w2 hb3
            go_wp2
            go_roundw
            case rel => exact ⟨1, by omega, by go_num, hb3, HN.out⟩
            case measure => simp [intOf]; omega
          · obtain ⟨j, rfl⟩ : ∃ j, k = j + 1 := ⟨k - 1, by omega⟩
            obtain ⟨b', off', he, _, d0, d1⟩ := (hl.below hb).pair (k := j) (by omega)
            obtain ⟨rfl, rfl⟩ : b = b' ∧ off = off' := by simpa using he
            clear he
            have hprev : prevOf l (j + 1) = some l[j] := by simp [prevOf]
            by_cases ho : ordP l[j] l[j + 1] < 0
            · have HN := Lib.hid (treeGo_next hlt hg hc (by rw [hprev]; simpa [badOrd] using ho))
              clear hg hprev hc
              go_wp2_with fail
              refine (fault_any _ _ _).mono ?_
              rintro e w1 ⟨rfl, hb1⟩
              rw [HC.out]
              have hb2 := hb.trans (hb1.mono hs)
              have hs1 := hb1.size
              have k0 : ∀ x : BelW w1.heap.size w1, x.1.cell? ⟨b, off + (j + 1) * 2, none⟩ = some (.int .i64 l[j + 1].1) := BelW.cell ((hb1.cell (by simp; omega)).trans c0) (by simp; omega)
              have k1 : ∀ x : BelW w1.heap.size w1, x.1.cell? ⟨b, off + (j + 1) * 2 + 1, none⟩ = some (.int .i64 l[j + 1].2) := BelW.cell ((hb1.cell (by simp; omega)).trans c1) (by simp; omega)
              have k2 : ∀ x : BelW w1.heap.size w1, x.1.cell? ⟨b, off + j * 2, none⟩ = some (.int .i64 l[j].1) := BelW.cell ((hb1.cell (by simp; omega)).trans d0) (by simp; omega)
              have k3 : ∀ x : BelW w1.heap.size w1, x.1.cell? ⟨b, off + j * 2 + 1, none⟩ = some (.int .i64 l[j].2) := BelW.cell ((hb1.cell (by simp; omega)).trans d1) (by simp; omega)
              clear hb1 c0 c1 d0 d1
              go_wp2_with fail
              refine wp_region_bel w1.heap.size w1 (by kernel_rfl) (by kernel_rfl) (Below.refl _ _) ?_
              repeat (go_big_quiet_step ((go_at_call 83; exact Calls.bel_of (Nat.le_refl _) (ahead_yes _ _ ho _))))
              refine wpQuiet_nil ?_
              intro w2 hb3
              clear k0 k1 k2 k3
              go_wp2
              go_roundw
              case rel => exact ⟨j + 1 + 1, by omega, by go_num, hb2.trans (hb3.mono (by omega)), HN.out⟩
              case measure => simp [intOf]; omega
            · have ho' : 0 ≤ ordP l[j] l[j + 1] := by omega
              have HS := Lib.hid (tf_shape h60 hlt hg hc (by rw [hprev]; simp [badOrd]; omega))
              clear hg hprev hc ho
              go_wp2_with fail
              refine (fault_any _ _ _).mono ?_
              rintro e w1 ⟨rfl, hb1⟩
              rw [HC.out]
              have hb2 := hb.trans (hb1.mono hs)
              have hs1 := hb1.size
              have k0 : ∀ x : BelW w1.heap.size w1, x.1.cell? ⟨b, off + (j + 1) * 2, none⟩ = some (.int .i64 l[j + 1].1) := BelW.cell ((hb1.cell (by simp; omega)).trans c0) (by simp; omega)
              have k1 : ∀ x : BelW w1.heap.size w1, x.1.cell? ⟨b, off + (j + 1) * 2 + 1, none⟩ = some (.int .i64 l[j + 1].2) := BelW.cell ((hb1.cell (by simp; omega)).trans c1) (by simp; omega)
              have k2 : ∀ x : BelW w1.heap.size w1, x.1.cell? ⟨b, off + j * 2, none⟩ = some (.int .i64 l[j].1) := BelW.cell ((hb1.cell (by simp; omega)).trans d0) (by simp; omega)
              have k3 : ∀ x : BelW w1.heap.size w1, x.1.cell? ⟨b, off + j * 2 + 1, none⟩ = some (.int .i64 l[j].2) := BelW.cell ((hb1.cell (by simp; omega)).trans d1) (by simp; omega)
              clear hb1 c0 c1 d0 d1
              go_wp2_with fail
              refine wp_region_bel w1.heap.size w1 (by kernel_rfl) (by kernel_rfl) (Below.refl _ _) ?_
              repeat (go_big_quiet_step ((go_at_call 83; exact Calls.bel_of (Nat.le_refl _) (ahead_no _ _ ho' _))))
              refine wpQuiet_nil ?_
              intro w2 hb3
              clear k0 k1 k2 k3
              go_wp2
              go_ret
              exact ⟨by rw [HS.out]; rfl, hb2.trans (hb3.mono (by omega))⟩
        · have HB := Lib.hid (tf_bad h60 hlt hg hc)
          have hz : (chk l[k].1 l[k].2 != 0) = true := by simpa [chkP] using hc
          clear hg hc
          go_wp2_with fail
          refine (fault_any _ _ _).mono ?_
          rintro e w1 ⟨rfl, hb1⟩
          go_wp2
          go_ret
          exact ⟨by rw [HB.out]; rfl, hb.trans (hb1.mono hs)⟩
      · obtain rfl : k = l.length := by omega
        have HE := Lib.hid (tf_end h60 hg)
        clear hg
        go_wp2
        go_ret
        exact ⟨by rw [HE.out]; rfl, hb⟩
  · have e : treeFault l = 3 := by unfold treeFault; rw [if_pos (by omega)]
    rw [e]
    clear e
    go_enter Tryd.func33, Tryd.ntmps33
    go_wp2
    go_ret
    exact ⟨rfl, Below.refl _ _⟩

def PutRes (w : World) (l : List Pf) (p : Pf) (e : Ending) (w' : World) : Prop := Below w.heap.size w w' ∧ (p ∈ l → e = .returned (.tuple #[.slice none 0 0, .int .i64 6])) ∧
  (p ∉ l → l.length = 60 → e = .returned (.tuple #[.slice none 0 0, .int .i64 3])) ∧ (p ∉ l → l.length ≠ 60 → ∃ v, e = .returned (.tuple #[v, .int .i64 0]) ∧ OwnP w' w.heap.size 23 v (putL l p))
theorem PutRes.clash {w w' : World} {l : List Pf} {p : Pf} (hb : Below w.heap.size w w') (h : p ∈ l) : PutRes w l p (.returned (.tuple #[.slice none 0 0, .int .i64 6])) w' := ⟨hb, fun _ => rfl, fun hn => absurd h hn, fun hn => absurd h hn⟩
theorem PutRes.full {w w' : World} {l : List Pf} {p : Pf} (hb : Below w.heap.size w w') (h : p ∉ l) (h60 : l.length = 60) : PutRes w l p (.returned (.tuple #[.slice none 0 0, .int .i64 3])) w' := ⟨hb, fun hm => absurd hm h, fun _ _ => rfl, fun _ hn => absurd h60 hn⟩
theorem PutRes.ok {w w' : World} {l : List Pf} {p : Pf} {v : Value} (hb : Below w.heap.size w w') (h : p ∉ l) (h60 : l.length ≠ 60) (ho : OwnP w' w.heap.size 23 v (putL l p)) : PutRes w l p (.returned (.tuple #[v, .int .i64 0])) w' :=
  ⟨hb, fun hm => absurd hm h, fun _ hn => absurd hn h60, fun _ _ => ⟨v, rfl, ho⟩⟩

theorem putRef_bad (A : Option Addr) (l : List Pf) (c : Nat) (p : Pf) (hm : l.length ≤ maxLen) (hf : treeFault2 l p ≠ 0) (w : World) (hl : Rd w w.heap.size A (cellsP l)) :
    Calls Tryd.prog 35 #[.slice A l.length c, .agg #[.int .i64 p.1, .int .i64 p.2]] w fun e w' => e = .returned (.tuple #[.slice none 0 0, .int .i64 (treeFault2 l p)]) ∧ Below w.heap.size w w' := by
  have hl1 := (hl.alloc (Nat.le_refl _) (.cells #[.int .i64 p.1, .int .i64 p.2] 23)).more (show w.heap.size ≤ (w.alloc (.cells #[.int .i64 p.1, .int .i64 p.2] 23)).heap.size by simp)
  have hb0 := (Below.refl w.heap.size w).alloc (Nat.le_refl _) (.cells #[.int .i64 p.1, .int .i64 p.2] 23)
  have hB0 := Blk.new w 23 #[.int .i64 p.1, .int .i64 p.2]
  by_cases ht : treeFault l = 0
  · have hp : chk p.1 p.2 ≠ 0 := fun h => hf (treeFault2_zero.2 ⟨ht, h⟩)
    have HE := Lib.hid (show treeFault2 l p = chk p.1 p.2 by unfold treeFault2; rw [if_neg (by simpa using ht)]; rfl)
    have HT := Lib.hid ht
    have hz : (chk p.1 p.2 != 0) = true := by simpa using hp
    clear ht hf hp
    go_enter Tryd.func35, Tryd.ntmps35
    go_wp2_with fail
    refine (treeRef_any A l c hm _ hl1).mono ?_
    rintro e w1 ⟨rfl, hb1⟩
    rw [HT.out]
    obtain ⟨c0, c1, _⟩ := (hB0.below hb1 (by simp)).two
    have hb2 := hb0.trans (hb1.mono (by simp))
    have hs2 := hb2.size
    go_wp2_with fail
    refine (fault_any p.1 p.2 _).mono ?_
    rintro e w2 ⟨rfl, hb3⟩
    go_wp2
    go_ret2
    exact ⟨by rw [HE.out]; rfl, hb2.trans (hb3.mono hs2)⟩
  · have HE := Lib.hid (show treeFault2 l p = treeFault l by unfold treeFault2; rw [if_pos (by simpa using ht)])
    have hz : (treeFault l == 0) = false := by simpa using ht
    have hz' : (treeFault l != 0) = true := by simpa using ht
    clear ht hf
    go_enter Tryd.func35, Tryd.ntmps35
    go_wp2_with fail
    refine (treeRef_any A l c hm _ hl1).mono ?_
    rintro e w1 ⟨rfl, hb1⟩
    go_wp2
    go_ret2
    exact ⟨by rw [HE.out]; rfl, hb0.trans (hb1.mono (by simp))⟩

theorem dropRef_bad (A : Option Addr) (l : List Pf) (c : Nat) (p : Pf) (hm : l.length ≤ maxLen) (hf : treeFault2 l p ≠ 0) (w : World) (hl : Rd w w.heap.size A (cellsP l)) :
    Calls Tryd.prog 37 #[.slice A l.length c, .agg #[.int .i64 p.1, .int .i64 p.2]] w fun e w' => e = .returned (.tuple #[.slice none 0 0, .int .i64 (treeFault2 l p)]) ∧ Below w.heap.size w w' := by
  have hl1 := (hl.alloc (Nat.le_refl _) (.cells #[.int .i64 p.1, .int .i64 p.2] 23)).more (show w.heap.size ≤ (w.alloc (.cells #[.int .i64 p.1, .int .i64 p.2] 23)).heap.size by simp)
  have hb0 := (Below.refl w.heap.size w).alloc (Nat.le_refl _) (.cells #[.int .i64 p.1, .int .i64 p.2] 23)
  have hB0 := Blk.new w 23 #[.int .i64 p.1, .int .i64 p.2]
  by_cases ht : treeFault l = 0
  · have hp : chk p.1 p.2 ≠ 0 := fun h => hf (treeFault2_zero.2 ⟨ht, h⟩)
    have HE := Lib.hid (show treeFault2 l p = chk p.1 p.2 by unfold treeFault2; rw [if_neg (by simpa using ht)]; rfl)
    have HT := Lib.hid ht
    have hz : (chk p.1 p.2 != 0) = true := by simpa using hp
    clear ht hf hp
    go_enter Tryd.func37, Tryd.ntmps37
    go_wp2_with fail
    refine (treeRef_any A l c hm _ hl1).mono ?_
    rintro e w1 ⟨rfl, hb1⟩
    rw [HT.out]
    obtain ⟨c0, c1, _⟩ := (hB0.below hb1 (by simp)).two
    have hb2 := hb0.trans (hb1.mono (by simp))
    have hs2 := hb2.size
    go_wp2_with fail
    refine (fault_any p.1 p.2 _).mono ?_
    rintro e w2 ⟨rfl, hb3⟩
    go_wp2
    go_ret2
    exact ⟨by rw [HE.out]; rfl, hb2.trans (hb3.mono hs2)⟩
  · have HE := Lib.hid (show treeFault2 l p = treeFault l by unfold treeFault2; rw [if_pos (by simpa using ht)])
    have hz : (treeFault l == 0) = false := by simpa using ht
    have hz' : (treeFault l != 0) = true := by simpa using ht
    clear ht hf
    go_enter Tryd.func37, Tryd.ntmps37
    go_wp2_with fail
    refine (treeRef_any A l c hm _ hl1).mono ?_
    rintro e w1 ⟨rfl, hb1⟩
    go_wp2
    go_ret2
    exact ⟨by rw [HE.out]; rfl, hb0.trans (hb1.mono (by simp))⟩
end Go.Proofs.YtcgeagobndhpjaaDoor
