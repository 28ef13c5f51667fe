/- Contracts of package code: Key, take, the deferred function, Check. No conditions. -/
import Derived.Test.YtdcjogofjniogaaDoorCodeKit
import Derived.WalkKit
import Derived.WalkLawsBesides
import Derived.WalkSpells
import Derived.Defers
import Derived.Recover
namespace Go.Proofs.YtdcjogofjniogaaDoor
set_option linter.unusedVariables false
set_option linter.unusedSimpArgs false
open Go.RowKit

theorem infoU8 : (Tryd.prog.info? 5).map (fun i => (i.zero, i.size, i.bytes)) = some (some (.int .u8 0), 1, 1) := by kernel_rfl
theorem infoChg : (Tryd.prog.info? 110).map (fun i => (i.zero, i.size, i.bytes)) = some (some (.agg #[.string ⟨#[]⟩, .string ⟨#[]⟩, .bool false]), 3, 40) := by kernel_rfl

set_option maxRecDepth 20000 in
theorem take_ok (B g : Nat) (A : Option Addr) (l : List UInt8) (c n : Nat) (hn : n ≤ l.length) (hc : l.length ≤ c) (hm : l.length ≤ maxLen) (w : World) (hg : w.cell? ⟨g, 0, none⟩ = some (.slice A l.length c)) (hz : w.frozen? ⟨g, 0, none⟩ = false) (hr : Rd w B A (bytesV l)) :
    Calls Tryd.prog 79 #[.pointer (some ⟨g, 0, none⟩), .int .i64 n] w fun e w' => e = .returned (strV (l.take n)) ∧ ∃ A' c', l.length - n ≤ c' ∧ w' = w.setCell ⟨g, 0, none⟩ (.slice A' (l.length - n) c') ∧ Rd w B A' (bytesV (l.drop n)) := by
  have hs := run_str (P := Tryd.prog) (w := w) 32 9 5 Tryd.underlying32 Tryd.underlying5 Tryd.underlying9 c (hr.bytesTake n) (m := n) (by simp; omega)
  have hgt : ¬ ((l.length : Int) < (n : Int)) := by omega
  have hn1 : (0 : Int) ≤ (n : Int) := by omega
  have hn2 : (n : Int) ≤ (c : Int) := by omega
  have hn3 : (n : Int) ≤ (l.length : Int) := by omega
  have hwl : wrap64 (l.length : Int) = l.length := by unfold maxLen at hm; unfold wrap64; omega
  go_enter Tryd.func79, Tryd.ntmps79
  go_wp2
  · subst h
    go_ret
    refine ⟨rfl, A, 0, by omega, rfl, ?_⟩
    have e : l.drop c = [] := List.drop_eq_nil_of_le (by omega)
    rw [e]
    exact Rd.nil
  · go_ret
    refine ⟨rfl, _, _, ?_, rfl, ?_⟩
    · omega
    · go_loud (simpa using hr.bytesFrom n)
set_option maxRecDepth 20000 in
theorem take_bad (g : Nat) (A : Option Addr) (l : List UInt8) (c n : Nat) (hn : l.length < n) (w : World) (hg : w.cell? ⟨g, 0, none⟩ = some (.slice A l.length c)) (hz : w.frozen? ⟨g, 0, none⟩ = false) :
    Calls Tryd.prog 79 #[.pointer (some ⟨g, 0, none⟩), .int .i64 n] w fun e w' => e = .panicked [{ v := .iface 157 (.agg #[]), recovered := false }] ∧ w' = w := by
  have hgt : (l.length : Int) < (n : Int) := by omega
  go_enter Tryd.func79, Tryd.ntmps79
  go_wp2
  exact ⟨rfl, rfl, rfl⟩

def keyOk (k : List UInt8) : Bool := decide (1 ≤ k.length) && decide (k.length ≤ 24)
theorem key_any (k : List UInt8) (hm : k.length ≤ maxLen) (w : World) : Calls Tryd.prog 57 #[strV k] w fun e w' => e = .returned (.bool (keyOk k)) ∧ w' = w := by
  have hwl : wrap64 (k.length : Int) = k.length := by unfold maxLen at hm; unfold wrap64; omega
  rcases k with _ | ⟨x, k⟩
  · go_enter Tryd.func57, Tryd.ntmps57
    go_wp2
    go_ret
    exact ⟨rfl, rfl⟩
  · have hk : keyOk (x :: k) = decide ((k.length : Int) + 1 ≤ 24) := by
      by_cases h : k.length + 1 ≤ 24
      · have h2 : (k.length : Int) + 1 ≤ 24 := by omega
        simp [keyOk, h2]; omega
      · have h2 : ¬ (k.length : Int) + 1 ≤ 24 := by omega
        simp [keyOk, h2]; omega
    have hK := Lib.hid hk
    clear hk
    go_enter Tryd.func57, Tryd.ntmps57
    go_wp2
    go_ret
    exact ⟨by rw [hK.out]; rfl, rfl⟩

theorem assert_short (w : World) : (Instr.typeAssert (.iface 157 (.agg #[])) 20 157 true).run Tryd.prog w = .ok (.tuple #[.agg #[], .bool true]) w := by kernel_rfl
theorem assert_none (w : World) : (Instr.typeAssert .nilIface 20 157 true).run Tryd.prog w = .ok (.tuple #[.agg #[], .bool false]) w := by kernel_rfl
set_option maxRecDepth 20000 in
/-- The deferred function where the frame panics: the panic is taken, the error is laid. -/
theorem fn38_panicking (g : Nat) (t : TypeId) (x : Value) (older : List PanicEntry) (w : World) (hB : Blk w g t #[x]) :
    CallsD Tryd.prog 78 #[.pointer (some ⟨g, 0, none⟩)] (.panicking ({ v := .iface 157 (.agg #[]), recovered := false } :: older)) w fun e u' w' =>
      e = .returned (.tuple #[]) ∧ u' = .panicking ({ v := .iface 157 (.agg #[]), recovered := true } :: older) ∧ w' = (w.alloc (.cells #[] 157)).setCell ⟨g, 0, none⟩ (.iface 31 (.int .i64 5)) := by
  obtain ⟨hc, hz⟩ := (hB.alloc (.cells #[] 157)).one
  refine callsD_of_wpS Tryd.func78 rfl fun c₀ cs hu => ?_
  apply wpS_seq
  apply wpS_region
  simp [wpOpsS, go_sem, recoverD, hu, Tryd.ntmps78, Exit.thenS, assert_short]
  apply wpS_seq
  apply wpS_region
  simp [wpOpsS, go_sem, Exit.thenS]
  refine wpS_cond (t := true) (by simp [Act.eval, Array.replicate]) ?_
  simp only [if_true]
  apply wpS_region
  simp [wpOpsS, go_sem, hc, hz, bodyPostS, results, Tryd.results78]

set_option maxRecDepth 20000 in
/-- The deferred function where the frame returns: nothing. -/
theorem fn38_idle (g : Nat) (w : World) :
    CallsD Tryd.prog 78 #[.pointer (some ⟨g, 0, none⟩)] .returning w fun e u' w' => e = .returned (.tuple #[]) ∧ u' = .returning ∧ w' = w.alloc (.cells #[] 157) := by
  refine callsD_of_wpS Tryd.func78 rfl fun c₀ cs hu => ?_
  apply wpS_seq
  apply wpS_region
  simp [wpOpsS, go_sem, recoverD, hu, Tryd.ntmps78, Exit.thenS, assert_none]
  apply wpS_seq
  apply wpS_region
  simp [wpOpsS, go_sem, Exit.thenS]
  refine wpS_cond (t := false) (by simp [Act.eval, Array.replicate]) ?_
  simp only [Bool.false_eq_true, if_false]
  refine wpS_of_wp (wp_skip ?_)
  cases c₀
  simp_all [bodyPostS, results, Tryd.results78]
end Go.Proofs.YtdcjogofjniogaaDoor
