/- Contracts of package span: Check, fit, two, Common, Others, Count, Has. Any lists. -/
import Derived.Test.YtmfaknngophmhaaDoorAddr
import Derived.Test.YtmfaknngophmhaaDoorSpanMath
namespace Go.Proofs.YtmfaknngophmhaaDoor
set_option linter.unusedVariables false
set_option linter.unusedSimpArgs false
open Go.RowKit

theorem infoSp : (Tryd.prog.info? 26).map (fun i => (i.zero, i.size, i.bytes)) = some (some (.agg #[.int .i64 0, .int .i64 0]), 2, 16) := by kernel_rfl

def FaultS (k : Int) : Value := if k = 0 then .nilIface else .iface 23 (.int .i64 k)
def prevS (l : List Sp) (k : Nat) : Option Sp := if k = 0 then none else l[k - 1]?
theorem setGo_step (l : List Sp) (k : Nat) (h : k < l.length) : setGo (prevS l k) (l.drop k) =
    if isA l[k].1 = false ∨ isA l[k].2 = false then 1 else if l[k].2 < l[k].1 ∨ badGap (prevS l k) l[k] = true then 2 else setGo (prevS l (k + 1)) (l.drop (k + 1)) := by
  rw [List.drop_eq_getElem_cons h, setGo]
  have : prevS l (k + 1) = some l[k] := by simp [prevS, h]
  rw [this]
theorem setGo_range {l : List Sp} {k : Nat} (hlen : l.length ≤ 64) (h : k < l.length) (hg : setGo none l = setGo (prevS l k) (l.drop k)) (hb : isA l[k].1 = false ∨ isA l[k].2 = false) : FaultS (setFault l) = .iface 23 (.int .i64 1) := by
  unfold setFault
  rw [if_neg (by omega), hg, setGo_step l k h, if_pos hb]
  rfl
theorem setGo_shape {l : List Sp} {k : Nat} (hlen : l.length ≤ 64) (h : k < l.length) (hg : setGo none l = setGo (prevS l k) (l.drop k)) (h1 : isA l[k].1 = true) (h2 : isA l[k].2 = true) (hb : l[k].2 < l[k].1 ∨ badGap (prevS l k) l[k] = true) : FaultS (setFault l) = .iface 23 (.int .i64 2) := by
  unfold setFault
  rw [if_neg (by omega), hg, setGo_step l k h, if_neg (by simp [h1, h2]), if_pos hb]
  rfl
theorem setGo_next {l : List Sp} {k : Nat} (h : k < l.length) (hg : setGo none l = setGo (prevS l k) (l.drop k)) (h1 : isA l[k].1 = true) (h2 : isA l[k].2 = true) (hb : ¬ (l[k].2 < l[k].1 ∨ badGap (prevS l k) l[k] = true)) : setGo none l = setGo (prevS l (k + 1)) (l.drop (k + 1)) := by
  rw [hg, setGo_step l k h, if_neg (by simp [h1, h2]), if_neg hb]
theorem setGo_end {l : List Sp} (hlen : l.length ≤ 64) (hg : setGo none l = setGo (prevS l l.length) (l.drop l.length)) : FaultS (setFault l) = .nilIface := by
  unfold setFault
  rw [if_neg (by omega), hg, List.drop_length]
  rfl
theorem take_valid {l : List Sp} {k : Nat} (h : k < l.length) (hv : Valid (l.take k)) (hs : 0 ≤ l[k].1 ∧ l[k].1 ≤ l[k].2 ∧ l[k].2 ≤ maxA) : Valid (l.take (k + 1)) := by
  intro p hp
  rw [List.take_succ_eq_append_getElem h, List.mem_append] at hp
  rcases hp with hp | hp
  · exact hv p hp
  · simp at hp; subst hp; exact hs

set_option maxHeartbeats 1600000 in
theorem spanCheck_any (A : Option Addr) (l : List Sp) (c : Nat) (hm : l.length ≤ maxLen) (w : World) (hl : Rd w w.heap.size A (cellsP l)) :
    Calls Tryd.prog 13 #[.slice A l.length c] w fun e w' => e = .returned (FaultS (setFault l)) ∧ Below w.heap.size w w' := by
  unfold maxLen at hm
  by_cases h64 : l.length ≤ 64
  · go_enter Tryd.func13, Tryd.ntmps13
    go_wp2
    go_loopw [3, 4, 11] (fun _ _ i wr => ∃ k : Nat, k ≤ l.length ∧ i = .int .i64 k ∧ Below w.heap.size w wr ∧ setGo none l = setGo (prevS l k) (l.drop k) ∧ Valid (l.take k)) (fun _ _ i _ => l.length - (intOf i).toNat)
    case atStart => exact ⟨0, Nat.zero_le _, rfl, Below.refl _ _, rfl, by simp [Valid]⟩
    case round =>
      obtain ⟨k, hk, rfl, hb, hg, hv⟩ := hrel
      by_cases hlt : k < l.length
      · obtain ⟨b, off, rfl, hbb, c0, c1⟩ := (hl.below hb).pair hlt
        have hs := hb.size
        by_cases h1 : isA l[k].1 = true
        · by_cases h2 : isA l[k].2 = true
          · have r1 := isA_true.1 h1
            have r2 := isA_true.1 h2
            by_cases h3 : l[k].2 < l[k].1
            · have HS := Lib.hid (setGo_shape h64 hlt hg h1 h2 (.inl h3))
              have hd : decide (l[k].2 < l[k].1) = true := by simpa using h3
              have hb2 := hb.alloc hs (.cells #[.int .i64 l[k].1, .int .i64 l[k].2] 26)
              obtain ⟨k0, k1⟩ := bel2 (B := wr.heap.size + 1) (new2 wr (.int .i64 l[k].1) (.int .i64 l[k].2) 26) (by omega)
              clear hg hv
              go_wp2_with (go_at_call 48; refine (is_any _ _).mono ?_; rintro e w' ⟨rfl, rfl⟩)
              refine wp_region_bel (wr.heap.size + 1) _ (by kernel_rfl) (by kernel_rfl) (Below.refl _ _) ?_
              repeat (go_big_quiet_step (fail))
              refine wpQuiet_nil ?_
              intro w2 hb3
              clear k0 k1
              go_wp2
              go_ret
              exact ⟨by rw [HS.out]; rfl, hb2.trans (hb3.mono (by omega))⟩
            · have h3' : l[k].1 ≤ l[k].2 := by omega
              have HV := Lib.hid (take_valid hlt hv ⟨r1.1, h3', r2.2⟩)
              have hd : decide (l[k].2 < l[k].1) = false := by simpa using h3
              rcases Nat.eq_zero_or_pos k with h0 | h0
              · subst h0
                simp only [Nat.zero_mul, Nat.add_zero] at c0 c1
                have HN := Lib.hid (setGo_next hlt hg h1 h2 (by simp [prevS, badGap]; omega))
                have hb2 := hb.alloc hs (.cells #[.int .i64 l[0].1, .int .i64 l[0].2] 26)
                obtain ⟨k0, k1⟩ := bel2 (B := wr.heap.size + 1) (new2 wr (.int .i64 l[0].1) (.int .i64 l[0].2) 26) (by omega)
                clear hg hv h3
                go_wp2_with (go_at_call 48; refine (is_any _ _).mono ?_; rintro e w' ⟨rfl, rfl⟩)
                refine wp_region_bel (wr.heap.size + 1) _ (by kernel_rfl) (by kernel_rfl) (Below.refl _ _) ?_
                repeat (go_big_quiet_step (fail))
                refine wpQuiet_nil ?_
                intro w2 hb3
                clear k0 k1
                go_wp2
                go_roundw
                case rel => exact ⟨1, by omega, by go_num, hb2.trans (hb3.mono (by omega)), HN.out, HV.out⟩
                case measure => simp [intOf]; omega
              · obtain ⟨j, rfl⟩ : ∃ j, k = j + 1 := ⟨k - 1, by omega⟩
                obtain ⟨b', off', he, _, d0, d1⟩ := (hl.below hb).pair (k := j) (by omega)
                obtain ⟨rfl, rfl⟩ : b = b' ∧ off = off' := by simpa using he
                clear he
                have hj := hv l[j] (List.mem_take_iff_getElem.2 ⟨j, by omega, rfl⟩)
                obtain ⟨j1, j2, j3⟩ := hj
                unfold maxA at j3
                have hprev : prevS l (j + 1) = some l[j] := by simp [prevS]
                have hb2 := hb.alloc hs (.cells #[.int .i64 l[j + 1].1, .int .i64 l[j + 1].2] 26)
                obtain ⟨k0, k1⟩ := bel2 (B := wr.heap.size + 1) (new2 wr (.int .i64 l[j + 1].1) (.int .i64 l[j + 1].2) 26) (by omega)
                have k2 : ∀ x : BelW (wr.heap.size + 1) (wr.alloc (.cells #[.int .i64 l[j + 1].1, .int .i64 l[j + 1].2] 26)), x.1.cell? ⟨b, off + j * 2, none⟩ = some (.int .i64 l[j].1) := BelW.cell ((World.cell?_alloc_lt wr _ _ (by simp; omega)).trans d0) (by simp; omega)
                have k3 : ∀ x : BelW (wr.heap.size + 1) (wr.alloc (.cells #[.int .i64 l[j + 1].1, .int .i64 l[j + 1].2] 26)), x.1.cell? ⟨b, off + j * 2 + 1, none⟩ = some (.int .i64 l[j].2) := BelW.cell ((World.cell?_alloc_lt wr _ _ (by simp; omega)).trans d1) (by simp; omega)
                by_cases h4 : l[j + 1].1 ≤ l[j].2 + 1
                · have HS := Lib.hid (setGo_shape h64 hlt hg h1 h2 (.inr (by rw [hprev]; simpa [badGap] using h4)))
                  clear hg hv h3 hprev d0 d1
                  go_wp2_with (go_at_call 48; refine (is_any _ _).mono ?_; rintro e w' ⟨rfl, rfl⟩)
                  refine wp_region_bel (wr.heap.size + 1) _ (by kernel_rfl) (by kernel_rfl) (Below.refl _ _) ?_
                  repeat (go_big_quiet_step (fail))
                  refine wpQuiet_nil ?_
                  intro w2 hb3
                  clear k0 k1 k2 k3
                  go_wp2
                  go_ret
                  exact ⟨by rw [HS.out]; rfl, hb2.trans (hb3.mono (by omega))⟩
                · have HN := Lib.hid (setGo_next hlt hg h1 h2 (by rw [hprev]; simp [badGap]; omega))
                  clear hg hv h3 hprev d0 d1
                  go_wp2_with (go_at_call 48; refine (is_any _ _).mono ?_; rintro e w' ⟨rfl, rfl⟩)
                  refine wp_region_bel (wr.heap.size + 1) _ (by kernel_rfl) (by kernel_rfl) (Below.refl _ _) ?_
                  repeat (go_big_quiet_step (fail))
                  refine wpQuiet_nil ?_
                  intro w2 hb3
                  clear k0 k1 k2 k3
                  go_wp2
                  go_roundw
                  case rel => exact ⟨j + 1 + 1, by omega, by go_num, hb2.trans (hb3.mono (by omega)), HN.out, HV.out⟩
                  case measure => simp [intOf]; omega
          · have h2' : isA l[k].2 = false := by simpa using h2
            have HS := Lib.hid (setGo_range h64 hlt hg (.inr h2'))
            clear hg hv h2
            go_wp2_with (go_at_call 48; refine (is_any _ _).mono ?_; rintro e w' ⟨rfl, rfl⟩)
            go_ret
            exact ⟨by rw [HS.out]; rfl, hb.alloc hs _⟩
        · have h1' : isA l[k].1 = false := by simpa using h1
          have HS := Lib.hid (setGo_range h64 hlt hg (.inl h1'))
          clear hg hv h1
          go_wp2_with (go_at_call 48; refine (is_any _ _).mono ?_; rintro e w' ⟨rfl, rfl⟩)
          go_ret
          exact ⟨by rw [HS.out]; rfl, hb.alloc hs _⟩
      · obtain rfl : k = l.length := by omega
        have HE := Lib.hid (setGo_end h64 hg)
        clear hg hv
        go_wp2
        go_ret
        exact ⟨by rw [HE.out]; rfl, hb⟩
  · have e : FaultS (setFault l) = .iface 23 (.int .i64 3) := by unfold setFault; rw [if_pos (by omega)]; rfl
    rw [e]
    clear e
    go_enter Tryd.func13, Tryd.ntmps13
    go_wp2
    go_ret
    exact ⟨rfl, Below.refl _ _⟩

theorem spanCheck_ok (A : Option Addr) (l : List Sp) (c : Nat) (hf : setFault l = 0) (w : World) (hl : Rd w w.heap.size A (cellsP l)) :
    Calls Tryd.prog 13 #[.slice A l.length c] w fun e w' => e = .returned .nilIface ∧ Below w.heap.size w w' :=
  (spanCheck_any A l c (by have := (set_good hf).1; unfold maxLen; omega) w hl).mono fun e w' h => ⟨by rw [h.1, hf]; rfl, h.2⟩
theorem spanCheck_bad (A : Option Addr) (l : List Sp) (c : Nat) (hm : l.length ≤ maxLen) (hf : setFault l ≠ 0) (w : World) (hl : Rd w w.heap.size A (cellsP l)) :
    Calls Tryd.prog 13 #[.slice A l.length c] w fun e w' => e = .returned (.iface 23 (.int .i64 (setFault l))) ∧ Below w.heap.size w w' :=
  (spanCheck_any A l c hm w hl).mono fun e w' h => ⟨by rw [h.1]; unfold FaultS; rw [if_neg hf], h.2⟩

/- two -/
def twoFault (a b : List Sp) : Int := if setFault a ≠ 0 then setFault a else setFault b
theorem twoFault_zero {a b : List Sp} : twoFault a b = 0 ↔ setFault a = 0 ∧ setFault b = 0 := by unfold twoFault; split <;> simp_all
theorem two_any (A B : Option Addr) (a b : List Sp) (c d : Nat) (ha : a.length ≤ maxLen) (hb : b.length ≤ maxLen) (w : World) (hl : Rd w w.heap.size A (cellsP a)) (hr : Rd w w.heap.size B (cellsP b)) :
    Calls Tryd.prog 53 #[.slice A a.length c, .slice B b.length d] w fun e w' => e = .returned (FaultS (twoFault a b)) ∧ Below w.heap.size w w' := by
  by_cases hf : setFault a = 0
  · have e : twoFault a b = setFault b := by simp [twoFault, hf]
    rw [e]
    clear e
    go_enter Tryd.func53, Tryd.ntmps53
    go_wp2_with fail
    refine (spanCheck_ok A a c hf _ hl).mono ?_
    rintro e w1 ⟨rfl, hb1⟩
    go_wp2_with fail
    refine (spanCheck_any B b d hb _ ((hr.below hb1).more hb1.size)).mono ?_
    rintro e w2 ⟨rfl, hb2⟩
    go_wp2
    go_ret
    exact ⟨rfl, hb1.trans (hb2.mono hb1.size)⟩
  · have e : FaultS (twoFault a b) = .iface 23 (.int .i64 (setFault a)) := by simp [twoFault, hf, FaultS]
    rw [e]
    clear e
    go_enter Tryd.func53, Tryd.ntmps53
    go_wp2_with fail
    refine (spanCheck_bad A a c ha hf _ hl).mono ?_
    rintro e w1 ⟨rfl, hb1⟩
    go_wp2
    go_ret
    exact ⟨rfl, hb1⟩

/- fit -/
theorem fit_ok (A : Option Addr) (n c : Nat) (hn : n ≤ 64) (w : World) :
    Calls Tryd.prog 54 #[.slice A n c] w fun e w' => e = .returned (.tuple #[.slice A n c, .nilIface]) ∧ w = w' := by
  go_enter Tryd.func54, Tryd.ntmps54
  go_wp2
  go_ret2
  exact ⟨rfl, rfl⟩
theorem fit_full (A : Option Addr) (n c : Nat) (hn : 64 < n) (w : World) :
    Calls Tryd.prog 54 #[.slice A n c] w fun e w' => e = .returned (.tuple #[.slice none 0 0, .iface 23 (.int .i64 3)]) ∧ w = w' := by
  go_enter Tryd.func54, Tryd.ntmps54
  go_wp2
  go_ret2
  exact ⟨rfl, rfl⟩

/- count -/
theorem cntS_snoc (l : List Sp) (k : Nat) (h : k < l.length) : cntS (l.take (k + 1)) = cntS (l.take k) + (l[k].2 - l[k].1 + 1) := by
  rw [List.take_succ_eq_append_getElem h]
  generalize l.take k = m
  generalize l[k] = s
  induction m with
  | nil => simp [cntS]
  | cons x r ih => simp only [List.cons_append, cntS, ih]; omega
theorem cntS_bound (l : List Sp) (hv : Valid l) : 0 ≤ cntS l ∧ cntS l ≤ 4294967296 * l.length := by
  induction l with
  | nil => simp [cntS]
  | cons x r ih =>
    have h1 := hv x (by simp)
    have h2 := ih (fun y hy => hv y (by simp [hy]))
    unfold maxA at h1
    simp only [cntS, List.length_cons]
    omega
theorem valid_take {l : List Sp} (hv : Valid l) (k : Nat) : Valid (l.take k) := fun s hs => hv s (List.mem_of_mem_take hs)

theorem count_bad (A : Option Addr) (l : List Sp) (c : Nat) (hm : l.length ≤ maxLen) (hf : setFault l ≠ 0) (w : World) (hl : Rd w w.heap.size A (cellsP l)) :
    Calls Tryd.prog 14 #[.slice A l.length c] w fun e w' => e = .returned (.tuple #[.int .i64 0, .iface 23 (.int .i64 (setFault l))]) ∧ Below w.heap.size w w' := by
  go_enter Tryd.func14, Tryd.ntmps14
  go_wp2_with fail
  refine (spanCheck_bad A l c hm hf _ hl).mono ?_
  rintro e w1 ⟨rfl, hb1⟩
  go_wp2
  go_ret2
  exact ⟨rfl, hb1⟩
set_option maxHeartbeats 400000 in
theorem count_ok (A : Option Addr) (l : List Sp) (c : Nat) (hf : setFault l = 0) (w : World) (hl : Rd w w.heap.size A (cellsP l)) :
    Calls Tryd.prog 14 #[.slice A l.length c] w fun e w' => e = .returned (.tuple #[.int .i64 (cntS l), .nilIface]) ∧ Below w.heap.size w w' := by
  obtain ⟨g1, g2, _⟩ := set_good hf
  have HV := Lib.hid g2
  clear g2
  go_enter Tryd.func14, Tryd.ntmps14
  go_wp2_with fail
  refine (spanCheck_ok A l c hf _ hl).mono ?_
  rintro e w1 ⟨rfl, hb1⟩
  clear hf
  go_wp2
  go_loopw [5, 7, 15] (fun n _ i wr => ∃ k : Nat, k ≤ l.length ∧ i = .int .i64 k ∧ n = .int .i64 (cntS (l.take k)) ∧ Below w.heap.size w wr) (fun _ _ i _ => l.length - (intOf i).toNat)
  case atStart => exact ⟨0, Nat.zero_le _, rfl, rfl, hb1⟩
  case round =>
    obtain ⟨k, hk, rfl, rfl, hb⟩ := hrel
    by_cases hlt : k < l.length
    · obtain ⟨b, off, rfl, hbb, c0, c1⟩ := (hl.below hb).pair hlt
      have hs := HV.out l[k] (List.getElem_mem _)
      obtain ⟨s1, s2, s3⟩ := hs
      unfold maxA at s3
      have hcb := cntS_bound (l.take k) (valid_take HV.out k)
      have hkl : (l.take k).length ≤ 64 := by simp; omega
      have HS := Lib.hid (cntS_snoc l k hlt)
      generalize hC : cntS (l.take k) = C at *
      clear hC
      go_wp2
      go_roundw
      case rel => exact ⟨k + 1, by omega, by go_num, by rw [HS.out], hb.alloc hb.size _⟩
      case measure => simp [intOf]; omega
    · obtain rfl : k = l.length := by omega
      rw [List.take_length]
      go_wp2
      go_ret2
      exact ⟨rfl, hb⟩

/- Has -/
theorem hasF_any (s : Sp) (x : Int) (w : World) (g : Nat) (hB : Blk w g 3 #[.int .i64 x]) :
    Calls Tryd.prog 52 #[.agg #[.int .i64 s.1, .int .i64 s.2], .pointer (some ⟨g, 0, none⟩)] w fun e w' => e = .returned (.bool (inS s x)) ∧ Below w.heap.size w w' := by
  have c0 := ((hB.alloc (.cells #[.int .i64 s.1, .int .i64 s.2] 26)).one).1
  by_cases h : s.1 ≤ x
  · have e : inS s x = decide (x ≤ s.2) := by simp [inS, h]
    rw [e]
    clear e
    go_enter Tryd.func52, Tryd.ntmps52
    go_wp2
    go_ret
    exact ⟨rfl, (Below.refl _ _).alloc (Nat.le_refl _) _⟩
  · have e : inS s x = false := by simp [inS]; omega
    have h' : x < s.1 := by omega
    rw [e]
    clear e h
    go_enter Tryd.func52, Tryd.ntmps52
    go_wp2
    go_ret
    exact ⟨rfl, (Below.refl _ _).alloc (Nat.le_refl _) _⟩

def idxF (f : Sp → Bool) : List Sp → Int → Int
  | [], _ => -1
  | s :: r, k => if f s then k else idxF f r (k + 1)
theorem idxF_any (f : Sp → Bool) : ∀ (l : List Sp) (k : Int), 0 ≤ k → decide (0 ≤ idxF f l k) = l.any f
  | [], k, _ => by simp [idxF]
  | s :: r, k, h => by
    unfold idxF
    by_cases hf : f s = true
    · rw [if_pos hf]; simp [hf, h]
    · rw [if_neg hf, idxF_any f r (k + 1) (by omega)]; simp [hf]
theorem idxF_step (f : Sp → Bool) (l : List Sp) (k : Nat) (h : k < l.length) : idxF f (l.drop k) k = if f l[k] then (k : Int) else idxF f (l.drop (k + 1)) ((k + 1 : Nat) : Int) := by
  rw [List.drop_eq_getElem_cons h, idxF]; rfl

set_option maxHeartbeats 400000 in
theorem indexFunc_any (f : Sp → Bool) (A : Option Addr) (l : List Sp) (c kf : Nat) (cap : Value) (w : World) (hl : Rd w w.heap.size A (cellsP l)) (hlen : l.length ≤ 1000000)
    (eg : ∀ args w, (callFunc kf args).run Tryd.prog w = .ok (.enter kf args) w)
    (hkeep : ∀ x : World, Below w.heap.size w x → ∀ p ∈ l, Calls Tryd.prog kf #[.agg #[.int .i64 p.1, .int .i64 p.2], cap] x fun e w' => e = .returned (.bool (f p)) ∧ Below x.heap.size x w') :
    Calls Tryd.prog 79 #[.slice A l.length c, .func (.func kf) #[] #[cap]] w fun e w' => e = .returned (.int .i64 (idxF f l 0)) ∧ Below w.heap.size w w' := by
  have HK := Lib.hid hkeep
  clear hkeep
  go_enter Tryd.func79, Tryd.ntmps79
  go_wp2
  go_loopw [5, 8] (fun _ i wr => ∃ k : Nat, k ≤ l.length ∧ i = .int .i64 k ∧ Below w.heap.size w wr ∧ idxF f l 0 = idxF f (l.drop k) k) (fun _ i _ => l.length - (intOf i).toNat)
  case atStart => exact ⟨0, Nat.zero_le _, rfl, Below.refl _ _, rfl⟩
  case round =>
    obtain ⟨k, hk, rfl, hb, hg⟩ := hrel
    by_cases hlt : k < l.length
    · obtain ⟨b, off, rfl, hbb, c0, c1⟩ := (hl.below hb).pair hlt
      have hstep := idxF_step f l k hlt
      have hs := hb.size
      by_cases hf : f l[k] = true
      · have HG := Lib.hid (show idxF f l 0 = (k : Int) by rw [hg, hstep, if_pos hf])
        clear hg hstep
        go_wp2_with fail
        refine (HK.out _ hb l[k] (List.getElem_mem _)).mono ?_
        rintro e w1 ⟨rfl, hb1⟩
        go_wp2
        go_ret
        exact ⟨by rw [HG.out]; rfl, hb.trans (hb1.mono hs)⟩
      · have HG := Lib.hid (show idxF f l 0 = idxF f (l.drop (k + 1)) ((k + 1 : Nat) : Int) by rw [hg, hstep, if_neg hf])
        clear hg hstep
        go_wp2_with fail
        refine (HK.out _ hb l[k] (List.getElem_mem _)).mono ?_
        rintro e w1 ⟨rfl, hb1⟩
        go_wp2
        go_roundw
        case rel => exact ⟨k + 1, by omega, by go_num, hb.trans (hb1.mono hs), HG.out⟩
        case measure => simp [intOf]; omega
    · obtain rfl : k = l.length := by omega
      have HG := Lib.hid (show idxF f l 0 = -1 by rw [hg, List.drop_length]; rfl)
      clear hg
      go_wp2
      go_ret
      exact ⟨by rw [HG.out]; rfl, hb⟩

theorem containsFunc_any (f : Sp → Bool) (A : Option Addr) (l : List Sp) (c kf : Nat) (cap : Value) (w : World) (hl : Rd w w.heap.size A (cellsP l)) (hlen : l.length ≤ 1000000)
    (eg : ∀ args w, (callFunc kf args).run Tryd.prog w = .ok (.enter kf args) w)
    (hkeep : ∀ x : World, Below w.heap.size w x → ∀ p ∈ l, Calls Tryd.prog kf #[.agg #[.int .i64 p.1, .int .i64 p.2], cap] x fun e w' => e = .returned (.bool (f p)) ∧ Below x.heap.size x w') :
    Calls Tryd.prog 51 #[.slice A l.length c, .func (.func kf) #[] #[cap]] w fun e w' => e = .returned (.bool (l.any f)) ∧ Below w.heap.size w w' := by
  have HK := Lib.hid hkeep
  have HA := Lib.hid (idxF_any f l 0 (Int.le_refl _))
  clear hkeep
  go_enter Tryd.func51, Tryd.ntmps51
  go_wp2_with fail
  refine (indexFunc_any f A l c kf cap w hl hlen eg HK.out).mono ?_
  rintro e w1 ⟨rfl, hb1⟩
  go_wp2
  go_ret
  exact ⟨by rw [← HA.out]; rfl, hb1⟩

def hasFault (l : List Sp) (x : Int) : Int := if setFault l ≠ 0 then setFault l else if isA x then 0 else 1
theorem has_bad (A : Option Addr) (l : List Sp) (c : Nat) (x : Int) (hm : l.length ≤ maxLen) (hf : hasFault l x ≠ 0) (w : World) (hl : Rd w w.heap.size A (cellsP l)) :
    Calls Tryd.prog 16 #[.slice A l.length c, .int .i64 x] w fun e w' => e = .returned (.tuple #[.bool false, .iface 23 (.int .i64 (hasFault l x))]) ∧ Below w.heap.size w w' := by
  by_cases h : setFault l = 0
  · have hx : isA x = false := by
      cases e : isA x
      · rfl
      · exact absurd (by simp [hasFault, h, e]) hf
    have e : hasFault l x = 1 := by simp [hasFault, h, hx]
    rw [e]
    clear e hf
    go_enter Tryd.func16, Tryd.ntmps16
    go_wp2_with fail
    refine (spanCheck_ok A l c h _ ((hl.alloc (Nat.le_refl _) _).more (by simp))).mono ?_
    rintro e w1 ⟨rfl, hb1⟩
    have c0 := (((Blk.new w 3 #[.int .i64 x]).below hb1 (by simp)).one).1
    go_wp2_with (go_at_call 48; refine (is_any _ _).mono ?_; rintro e w' ⟨rfl, rfl⟩)
    go_ret2
    exact ⟨rfl, ((Below.refl _ _).alloc (Nat.le_refl _) _).trans (hb1.mono (by simp))⟩
  · have e : hasFault l x = setFault l := by simp [hasFault, h]
    rw [e]
    clear e hf
    go_enter Tryd.func16, Tryd.ntmps16
    go_wp2_with fail
    refine (spanCheck_bad A l c hm h _ ((hl.alloc (Nat.le_refl _) _).more (by simp))).mono ?_
    rintro e w1 ⟨rfl, hb1⟩
    go_wp2
    go_ret2
    exact ⟨rfl, ((Below.refl _ _).alloc (Nat.le_refl _) _).trans (hb1.mono (by simp))⟩

theorem has_ok (A : Option Addr) (l : List Sp) (c : Nat) (x : Int) (hf : setFault l = 0) (hx : isA x = true) (w : World) (hl : Rd w w.heap.size A (cellsP l)) :
    Calls Tryd.prog 16 #[.slice A l.length c, .int .i64 x] w fun e w' => e = .returned (.tuple #[.bool (memS l x), .nilIface]) ∧ Below w.heap.size w w' := by
  have eg : ∀ args w, (callFunc 52 args).run Tryd.prog w = .ok (.enter 52 args) w := fun _ _ => by kernel_rfl
  have EG := Lib.hid eg
  have hlen := (set_good hf).1
  clear eg
  go_enter Tryd.func16, Tryd.ntmps16
  go_wp2_with fail
  refine (spanCheck_ok A l c hf _ ((hl.alloc (Nat.le_refl _) _).more (by simp))).mono ?_
  rintro e w1 ⟨rfl, hb1⟩
  have hB1 := (Blk.new w 3 #[.int .i64 x]).below hb1 (by simp)
  have c0 := (hB1.one).1
  have hs1 := hb1.size
  simp only [World.size_alloc] at hs1
  have hl1 := (hl.alloc (Nat.le_refl _) (.cells #[.int .i64 x] 3)).below (hb1.mono (by simp))
  have hbw := ((Below.refl w.heap.size w).alloc (Nat.le_refl _) (.cells #[.int .i64 x] 3)).trans (hb1.mono (by simp))
  clear hb1
  go_wp2_with (go_at_call 48; refine (is_any _ _).mono ?_; rintro e w' ⟨rfl, rfl⟩)
  refine (containsFunc_any (fun s => inS s x) A l c _ _ w1 (hl1.more (by omega)) (by omega) EG.out (fun y hy s hs => hasF_any s x y w.heap.size (hB1.below hy (by omega)))).mono ?_
  rintro e w2 ⟨rfl, hb2⟩
  go_wp2
  go_ret2
  exact ⟨rfl, hbw.trans (hb2.mono (by omega))⟩

end Go.Proofs.YtmfaknngophmhaaDoor
