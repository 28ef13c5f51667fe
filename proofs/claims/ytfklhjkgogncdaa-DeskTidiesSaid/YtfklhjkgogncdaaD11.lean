/- Texts joined: XCode, XCode2. Each says at its head what it proves; conditions: as said there. -/
import Derived.Test.YtfklhjkgogncdaaD10
import Derived.WalkKit
import Derived.WalkLawsBesides
import Derived.WalkSpells
import Derived.Defers
import Derived.Recover
import Derived.Deep.QuietTactic
import Derived.BigQuiet
import Derived.Test.YtfklhjkgogncdaaD1
/- Contracts of package code: Key, take, the deferred function, Check. No conditions. -/
namespace Go.Proofs.Ytfklhjkgogncdaa
set_option linter.unusedVariables false
set_option linter.unusedSimpArgs false
open Go.RowKit

theorem infoU8 : (Try.prog.info? 5).map (fun i => (i.zero, i.size, i.bytes)) = some (some (.int .u8 0), 1, 1) := by kernel_rfl
theorem infoChg : (Try.prog.info? 71).map (fun i => (i.zero, i.size, i.bytes)) = some (some (.agg #[.string ⟨#[]⟩, .string ⟨#[]⟩, .bool false]), 3, 40) := by kernel_rfl

set_option maxRecDepth 20000 in
theorem take_ok (B g : Nat) (A : Option Addr) (l : List UInt8) (c n : Nat) (hn : n ≤ l.length) (hc : l.length ≤ c) (hm : l.length ≤ maxLen) (w : World) (hg : w.cell? ⟨g, 0, none⟩ = some (.slice A l.length c)) (hz : w.frozen? ⟨g, 0, none⟩ = false) (hr : Rd w B A (bytesV l)) :
    Calls Try.prog 108 #[.pointer (some ⟨g, 0, none⟩), .int .i64 n] w fun e w' => e = .returned (strV (l.take n)) ∧ ∃ A' c', l.length - n ≤ c' ∧ w' = w.setCell ⟨g, 0, none⟩ (.slice A' (l.length - n) c') ∧ Rd w B A' (bytesV (l.drop n)) := by
  have hs := run_str (P := Try.prog) (w := w) 80 9 5 Try.underlying80 Try.underlying5 Try.underlying9 c (hr.bytesTake n) (m := n) (by simp; omega)
  have hgt : ¬ ((l.length : Int) < (n : Int)) := by omega
  have hn1 : (0 : Int) ≤ (n : Int) := by omega
  have hn2 : (n : Int) ≤ (c : Int) := by omega
  have hn3 : (n : Int) ≤ (l.length : Int) := by omega
  have hwl : wrap64 (l.length : Int) = l.length := by unfold maxLen at hm; unfold wrap64; omega
  go_enter Try.func108, Try.ntmps108
  go_wp2
  · subst h
    go_ret
    refine ⟨rfl, A, 0, by omega, rfl, ?_⟩
    have e : l.drop c = [] := List.drop_eq_nil_of_le (by omega)
    rw [e]
    exact Rd.nil
  · go_ret
    refine ⟨rfl, _, _, ?_, rfl, ?_⟩
    · omega
    · go_loud (simpa using hr.bytesFrom n)
set_option maxRecDepth 20000 in
theorem take_bad (g : Nat) (A : Option Addr) (l : List UInt8) (c n : Nat) (hn : l.length < n) (w : World) (hg : w.cell? ⟨g, 0, none⟩ = some (.slice A l.length c)) (hz : w.frozen? ⟨g, 0, none⟩ = false) :
    Calls Try.prog 108 #[.pointer (some ⟨g, 0, none⟩), .int .i64 n] w fun e w' => e = .panicked [{ v := .iface 172 (.agg #[]), recovered := false }] ∧ w' = w := by
  have hgt : (l.length : Int) < (n : Int) := by omega
  go_enter Try.func108, Try.ntmps108
  go_wp2
  exact ⟨rfl, rfl, rfl⟩

def keyOk (k : List UInt8) : Bool := decide (1 ≤ k.length) && decide (k.length ≤ 24)
theorem ckey_any (k : List UInt8) (hm : k.length ≤ maxLen) (w : World) : Calls Try.prog 33 #[strV k] w fun e w' => e = .returned (.bool (keyOk k)) ∧ w' = w := by
  have hwl : wrap64 (k.length : Int) = k.length := by unfold maxLen at hm; unfold wrap64; omega
  rcases k with _ | ⟨x, k⟩
  · go_enter Try.func33, Try.ntmps33
    go_wp2
    go_ret
    exact ⟨rfl, rfl⟩
  · have hk : keyOk (x :: k) = decide ((k.length : Int) + 1 ≤ 24) := by
      by_cases h : k.length + 1 ≤ 24
      · have h2 : (k.length : Int) + 1 ≤ 24 := by omega
        simp [keyOk, h2]; omega
      · have h2 : ¬ (k.length : Int) + 1 ≤ 24 := by omega
        simp [keyOk, h2]; omega
    have hK := Lib.hid hk
    clear hk
    go_enter Try.func33, Try.ntmps33
    go_wp2
    go_ret
    exact ⟨by rw [hK.out]; rfl, rfl⟩

theorem assert_short (w : World) : (Instr.typeAssert (.iface 172 (.agg #[])) 20 172 true).run Try.prog w = .ok (.tuple #[.agg #[], .bool true]) w := by kernel_rfl
theorem assert_none (w : World) : (Instr.typeAssert .nilIface 20 172 true).run Try.prog w = .ok (.tuple #[.agg #[], .bool false]) w := by kernel_rfl
set_option maxRecDepth 20000 in
/-- The deferred function where the frame panics: the panic is taken, the error is laid. -/
theorem fn38_panicking (g : Nat) (t : TypeId) (x : Value) (older : List PanicEntry) (w : World) (hB : Blk w g t #[x]) :
    CallsD Try.prog 107 #[.pointer (some ⟨g, 0, none⟩)] (.panicking ({ v := .iface 172 (.agg #[]), recovered := false } :: older)) w fun e u' w' =>
      e = .returned (.tuple #[]) ∧ u' = .panicking ({ v := .iface 172 (.agg #[]), recovered := true } :: older) ∧ w' = (w.alloc (.cells #[] 172)).setCell ⟨g, 0, none⟩ (.iface 61 (.int .i64 5)) := by
  obtain ⟨hc, hz⟩ := (hB.alloc (.cells #[] 172)).one
  refine callsD_of_wpS Try.func107 rfl fun c₀ cs hu => ?_
  apply wpS_seq
  apply wpS_region
  simp [wpOpsS, go_sem, recoverD, hu, Try.ntmps107, Exit.thenS, assert_short]
  apply wpS_seq
  apply wpS_region
  simp [wpOpsS, go_sem, Exit.thenS]
  refine wpS_cond (t := true) (by simp [Act.eval, Array.replicate]) ?_
  simp only [if_true]
  apply wpS_region
  simp [wpOpsS, go_sem, hc, hz, bodyPostS, results, Try.results107]

set_option maxRecDepth 20000 in
/-- The deferred function where the frame returns: nothing. -/
theorem fn38_idle (g : Nat) (w : World) :
    CallsD Try.prog 107 #[.pointer (some ⟨g, 0, none⟩)] .returning w fun e u' w' => e = .returned (.tuple #[]) ∧ u' = .returning ∧ w' = w.alloc (.cells #[] 172) := by
  refine callsD_of_wpS Try.func107 rfl fun c₀ cs hu => ?_
  apply wpS_seq
  apply wpS_region
  simp [wpOpsS, go_sem, recoverD, hu, Try.ntmps107, Exit.thenS, assert_none]
  apply wpS_seq
  apply wpS_region
  simp [wpOpsS, go_sem, Exit.thenS]
  refine wpS_cond (t := false) (by simp [Act.eval, Array.replicate]) ?_
  simp only [Bool.false_eq_true, if_false]
  refine wpS_of_wp (wp_skip ?_)
  cases c₀
  simp_all [bodyPostS, results, Try.results107]
end Go.Proofs.Ytfklhjkgogncdaa

/- Contract of code.Check: whatever the changes. Condition: their texts are no longer than a slice may be. -/
namespace Go.Proofs.Ytfklhjkgogncdaa
set_option linter.unusedVariables false
set_option linter.unusedSimpArgs false
open Go.RowKit

def errV (k : Int) : Value := if k = 0 then .nilIface else .iface 61 (.int .i64 k)
/-- The change ahead of number k. -/
def prevC (l : List Chg) (k : Nat) : Option Chg := if k = 0 then none else l[k - 1]?
def riseAt (p : Option Chg) (c : Chg) : Bool := match p with | none => true | some q => !(lessB c.key q.key || c.key == q.key)
theorem riseOk_cons (p : Option Chg) (c : Chg) (l : List Chg) : riseOk p (c :: l) = (oneOk c && riseAt p c && riseOk (some c) l) := by
  cases p <;> rfl
theorem rise_next {l : List Chg} {k : Nat} (h : k < l.length) (hg : riseOk none l = riseOk (prevC l k) (l.drop k)) (h1 : oneOk l[k] = true) (h2 : riseAt (prevC l k) l[k] = true) : riseOk none l = riseOk (prevC l (k + 1)) (l.drop (k + 1)) := by
  rw [hg, List.drop_eq_getElem_cons h, riseOk_cons, h1, h2]
  simp [prevC, List.getElem?_eq_getElem h]
theorem rise_bad {l : List Chg} {k : Nat} (h20 : l.length ≤ 20) (h : k < l.length) (hg : riseOk none l = riseOk (prevC l k) (l.drop k)) (h1 : oneOk l[k] = false ∨ riseAt (prevC l k) l[k] = false) : errV (chgFault l) = .iface 61 (.int .i64 2) := by
  have e : riseOk none l = false := by
    rw [hg, List.drop_eq_getElem_cons h, riseOk_cons]
    rcases h1 with h1 | h1 <;> simp [h1]
  unfold chgFault
  rw [if_neg (by omega), e]
  rfl
theorem rise_end {l : List Chg} (h20 : l.length ≤ 20) (hg : riseOk none l = riseOk (prevC l l.length) (l.drop l.length)) : errV (chgFault l) = .nilIface := by
  have e : riseOk none l = true := by rw [hg]; simp [riseOk]
  unfold chgFault
  rw [if_neg (by omega), if_pos e]
  rfl

set_option maxRecDepth 100000 in
set_option maxHeartbeats 4000000 in
theorem check_any (A : Option Addr) (l : List Chg) (c : Nat) (hm : l.length ≤ maxLen) (hS : Small l) (w : World) (hl : Rd w w.heap.size A (cellsC l)) :
    Calls Try.prog 78 #[.slice A l.length c] w fun e w' => e = .returned (errV (chgFault l)) ∧ Below w.heap.size w w' := by
  have hw : wrap64 (l.length : Int) = l.length := by unfold maxLen at hm; unfold wrap64; omega
  by_cases h20 : l.length ≤ 20
  · have h20' : ¬ (20 : Int) < (l.length : Int) := by omega
    have HS := Lib.hid hS
    clear hS
    go_enter Try.func78, Try.ntmps78
    go_wp2
    go_loopw [3, 4, 11] (fun _ _ i wr => ∃ k : Nat, k ≤ l.length ∧ i = .int .i64 k ∧ Below w.heap.size w wr ∧ riseOk none l = riseOk (prevC l k) (l.drop k)) (fun _ _ i _ => l.length - (intOf i).toNat)
    case atStart => exact ⟨0, Nat.zero_le _, rfl, Below.refl _ _, rfl⟩
    case round =>
      obtain ⟨k, hk, rfl, hb, hg⟩ := hrel
      by_cases hlt : k < l.length
      · obtain ⟨b, off, rfl, hbb, c0, c1, c2⟩ := (hl.below hb).chg hlt
        have hs := hb.size
        have hkey := (HS.out l[k] (List.getElem_mem _)).1
        have hval := (HS.out l[k] (List.getElem_mem _)).2
        have hwv : wrap64 (l[k].val.length : Int) = l[k].val.length := by unfold maxLen at hval; unfold wrap64; omega
        go_wp2_with fail
        refine wp_name ?_
        intro w2 hW2
        have hB2 : Blk w2 wr.heap.size 71 #[strV l[k].key, strV l[k].val, .bool l[k].gone] := by rw [hW2.out]; exact Blk.new _ _ _
        have hbw2 : Below w.heap.size w w2 := by rw [hW2.out]; exact hb.alloc hs _
        have hs2 := hbw2.size
        have hl2 := hB2.lt
        have k0 : ∀ x : BelW w2.heap.size w2, x.1.cell? ⟨wr.heap.size, 0, none⟩ = some (strV l[k].key) := BelW.cell (hB2.cell 0) hl2
        have k1 : ∀ x : BelW w2.heap.size w2, x.1.cell? ⟨wr.heap.size, 1, none⟩ = some (strV l[k].val) := BelW.cell (hB2.cell 1) hl2
        have k2 : ∀ x : BelW w2.heap.size w2, x.1.cell? ⟨wr.heap.size, 2, none⟩ = some (.bool l[k].gone) := BelW.cell (hB2.cell 2) hl2
        clear hW2 c0 c1 c2 hB2
        by_cases q1 : keyOk l[k].key = true
        · by_cases q2 : l[k].val.length ≤ 12
          · have d2 : decide ((12 : Int) < (l[k].val.length : Int)) = false := by simp; omega
            by_cases q3 : (l[k].gone && decide (0 < l[k].val.length)) = true
            · have g1 : l[k].gone = true := by simp at q3; exact q3.1
              have g2 : l[k].val.isEmpty = false := by simp at q3 ⊢; intro h; simp [h] at q3
              have g3 : (l[k].val == []) = false := by simp at q3 ⊢; intro h; simp [h] at q3
              rw [g1] at k2
              have HX := Lib.hid (rise_bad h20 hlt hg (.inl (by unfold oneOk; rw [q3]; simp)))
              clear hg
              refine wp_region_bel w2.heap.size w2 (by kernel_rfl) (by kernel_rfl) (Below.refl _ _) ?_
              repeat (go_big_quiet_step ((go_at_call 33; exact Calls.bel_same ((ckey_any _ hkey _).mono fun e w' h => ⟨h.1, h.2.symm⟩))))
              refine wpQuiet_nil ?_
              intro w3 hb3
              have hbw3 := hbw2.trans (hb3.mono hs2)
              go_wp2
              go_ret
              exact ⟨by rw [HX.out]; rfl, hbw3⟩
            · have q3' : (l[k].gone && decide (0 < l[k].val.length)) = false := by simpa using q3
              have q4 : oneOk l[k] = true := by unfold oneOk; rw [q3']; simp [keyOk] at q1; simp [q1, q2]
              rcases Nat.eq_zero_or_pos k with rfl | hk0
              · have HX := Lib.hid (rise_next hlt hg q4 rfl)
                clear hg
                have d4 : decide ((0 : Int) < ((0 : Nat) : Int)) = false := by simp
                rcases hgo : l[0].gone with _ | _
                · rw [hgo] at k2
                  refine wp_region_bel w2.heap.size w2 (by kernel_rfl) (by kernel_rfl) (Below.refl _ _) ?_
                  repeat (go_big_quiet_step ((go_at_call 33; exact Calls.bel_same ((ckey_any _ hkey _).mono fun e w' h => ⟨h.1, h.2.symm⟩))))
                  refine wpQuiet_nil ?_
                  intro w3 hb3
                  have hbw3 := hbw2.trans (hb3.mono hs2)
                  go_wp2
                  go_roundw
                  case rel => exact ⟨0 + 1, by omega, by go_num, hbw3, HX.out⟩
                  case measure => simp [intOf]; omega
                · rw [hgo] at k2 q3'
                  have g2 : l[0].val.isEmpty = true := by simpa using q3'
                  have g3 : (l[0].val == []) = true := by simpa using q3'
                  refine wp_region_bel w2.heap.size w2 (by kernel_rfl) (by kernel_rfl) (Below.refl _ _) ?_
                  repeat (go_big_quiet_step ((go_at_call 33; exact Calls.bel_same ((ckey_any _ hkey _).mono fun e w' h => ⟨h.1, h.2.symm⟩))))
                  refine wpQuiet_nil ?_
                  intro w3 hb3
                  have hbw3 := hbw2.trans (hb3.mono hs2)
                  go_wp2
                  go_roundw
                  case rel => exact ⟨0 + 1, by omega, by go_num, hbw3, HX.out⟩
                  case measure => simp [intOf]; omega
              · obtain ⟨j, rfl⟩ : ∃ j, k = j + 1 := ⟨k - 1, by omega⟩
                obtain ⟨b', off', he, hbb', e0, _, _⟩ := (hl.below hb).chg (k := j) (by omega)
                obtain ⟨rfl, rfl⟩ : b = b' ∧ off = off' := by simpa using he
                have k3 : ∀ x : BelW w2.heap.size w2, x.1.cell? ⟨b, off + j * 3, none⟩ = some (strV l[j].key) := BelW.cell ((hbw2.cell (p := ⟨b, off + j * 3, none⟩) hbb).trans ((hb.cell (p := ⟨b, off + j * 3, none⟩) hbb).symm.trans e0)) (by show b < _; omega)
                clear he e0
                have hprev : prevC l (j + 1) = some l[j] := by simp [prevC, List.getElem?_eq_getElem (show j < l.length by omega)]
                have d4 : decide ((0 : Int) < ((j + 1 : Nat) : Int)) = true := by simp
                have d4' : decide ((0 : Int) < (j : Int) + 1) = true := by simp
                rcases hle : (Op.bytesLess l[j + 1].key l[j].key || l[j + 1].key == l[j].key) with _ | _
                · have HX := Lib.hid (rise_next hlt hg q4 (by rw [hprev]; simp only [riseAt, ← lessB_eq]; rw [hle]; rfl))
                  clear hg
                  rcases hgo : l[j + 1].gone with _ | _
                  · rw [hgo] at k2
                    refine wp_region_bel w2.heap.size w2 (by kernel_rfl) (by kernel_rfl) (Below.refl _ _) ?_
                    repeat (go_big_quiet_step ((go_at_call 33; exact Calls.bel_same ((ckey_any _ hkey _).mono fun e w' h => ⟨h.1, h.2.symm⟩))))
                    refine wpQuiet_nil ?_
                    intro w3 hb3
                    have hbw3 := hbw2.trans (hb3.mono hs2)
                    go_wp2
                    go_roundw
                    case rel => exact ⟨j + 1 + 1, by omega, by go_num, hbw3, HX.out⟩
                    case measure => simp [intOf]; omega
                  · rw [hgo] at k2 q3'
                    have g2 : l[j + 1].val.isEmpty = true := by simpa using q3'
                    have g3 : (l[j + 1].val == []) = true := by simpa using q3'
                    refine wp_region_bel w2.heap.size w2 (by kernel_rfl) (by kernel_rfl) (Below.refl _ _) ?_
                    repeat (go_big_quiet_step ((go_at_call 33; exact Calls.bel_same ((ckey_any _ hkey _).mono fun e w' h => ⟨h.1, h.2.symm⟩))))
                    refine wpQuiet_nil ?_
                    intro w3 hb3
                    have hbw3 := hbw2.trans (hb3.mono hs2)
                    go_wp2
                    go_roundw
                    case rel => exact ⟨j + 1 + 1, by omega, by go_num, hbw3, HX.out⟩
                    case measure => simp [intOf]; omega
                · have HX := Lib.hid (rise_bad h20 hlt hg (.inr (by rw [hprev]; simp only [riseAt, ← lessB_eq]; rw [hle]; rfl)))
                  clear hg
                  rcases hgo : l[j + 1].gone with _ | _
                  · rw [hgo] at k2
                    refine wp_region_bel w2.heap.size w2 (by kernel_rfl) (by kernel_rfl) (Below.refl _ _) ?_
                    repeat (go_big_quiet_step ((go_at_call 33; exact Calls.bel_same ((ckey_any _ hkey _).mono fun e w' h => ⟨h.1, h.2.symm⟩))))
                    refine wpQuiet_nil ?_
                    intro w3 hb3
                    have hbw3 := hbw2.trans (hb3.mono hs2)
                    go_wp2
                    go_ret
                    exact ⟨by rw [HX.out]; rfl, hbw3⟩
                  · rw [hgo] at k2 q3'
                    have g2 : l[j + 1].val.isEmpty = true := by simpa using q3'
                    have g3 : (l[j + 1].val == []) = true := by simpa using q3'
                    refine wp_region_bel w2.heap.size w2 (by kernel_rfl) (by kernel_rfl) (Below.refl _ _) ?_
                    repeat (go_big_quiet_step ((go_at_call 33; exact Calls.bel_same ((ckey_any _ hkey _).mono fun e w' h => ⟨h.1, h.2.symm⟩))))
                    refine wpQuiet_nil ?_
                    intro w3 hb3
                    have hbw3 := hbw2.trans (hb3.mono hs2)
                    go_wp2
                    go_ret
                    exact ⟨by rw [HX.out]; rfl, hbw3⟩
          · have d2 : decide ((12 : Int) < (l[k].val.length : Int)) = true := by simp; omega
            have HX := Lib.hid (rise_bad h20 hlt hg (.inl (by unfold oneOk; simp [q2])))
            clear hg
            refine wp_region_bel w2.heap.size w2 (by kernel_rfl) (by kernel_rfl) (Below.refl _ _) ?_
            repeat (go_big_quiet_step ((go_at_call 33; exact Calls.bel_same ((ckey_any _ hkey _).mono fun e w' h => ⟨h.1, h.2.symm⟩))))
            refine wpQuiet_nil ?_
            intro w3 hb3
            have hbw3 := hbw2.trans (hb3.mono hs2)
            go_wp2
            go_ret
            exact ⟨by rw [HX.out]; rfl, hbw3⟩
        · have q1' : keyOk l[k].key = false := by simpa using q1
          have HX := Lib.hid (rise_bad h20 hlt hg (.inl (by unfold oneOk; unfold keyOk at q1'; simp only [q1', Bool.false_and])))
          clear hg
          refine wp_region_bel w2.heap.size w2 (by kernel_rfl) (by kernel_rfl) (Below.refl _ _) ?_
          repeat (go_big_quiet_step ((go_at_call 33; exact Calls.bel_same ((ckey_any _ hkey _).mono fun e w' h => ⟨h.1, h.2.symm⟩))))
          refine wpQuiet_nil ?_
          intro w3 hb3
          have hbw3 := hbw2.trans (hb3.mono hs2)
          go_wp2
          go_ret
          exact ⟨by rw [HX.out]; rfl, hbw3⟩
      · obtain rfl : k = l.length := by omega
        have HE := Lib.hid (rise_end h20 hg)
        clear hg
        go_wp2
        go_ret
        exact ⟨by rw [HE.out]; rfl, hb⟩
  · have e : errV (chgFault l) = .iface 61 (.int .i64 3) := by unfold chgFault; rw [if_pos (by omega)]; rfl
    have h20' : (20 : Int) < (l.length : Int) := by omega
    rw [e]
    clear e
    go_enter Try.func78, Try.ntmps78
    go_wp2
    go_ret
    exact ⟨rfl, Below.refl _ _⟩
end Go.Proofs.Ytfklhjkgogncdaa
