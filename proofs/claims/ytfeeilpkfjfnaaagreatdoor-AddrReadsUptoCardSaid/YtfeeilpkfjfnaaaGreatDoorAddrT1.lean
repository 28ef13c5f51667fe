/- addr.small: a small number's text. Conditions: at most 999; the library's variables as TxtV says. -/
import Derived.Test.YtfeeilpkfjfnaaaGreatDoorTxt1
import Derived.Test.YtfeeilpkfjfnaaaGreatDoorAddr2
import Derived.Test.YtfeeilpkfjfnaaaGreatDoorBackMath
namespace Go.Proofs.YtfeeilpkfjfnaaaGreatDoor
set_option linter.unusedVariables false
set_option linter.unusedSimpArgs false
open Go.RowKit

theorem atoi_ok {s : List UInt8} {v : Int} (hv : Lib.atoiAll s = .ok v) (hs : s.length ≤ 281474976710656) {B : Nat} (w : World) (hB : B ≤ w.heap.size) (hV : TxtV B w) :
    Calls Tryz.prog 28 #[txt s] w fun e w' => e = .returned (.tuple #[.int .i64 v, .nilIface]) ∧ Below w.heap.size w w' := by
  refine (atoi_any s hs w hB hV).mono fun e w' h => ⟨?_, h.2⟩
  rcases h.1 with ⟨v', h1, h2⟩ | ⟨h1, _⟩
  · rw [hv] at h1
    injection h1 with h1
    rw [h2, h1]
  · exact absurd hv (h1 v)
def AtoiNo (w : World) (e : Ending) (w' : World) : Prop := ∃ n t p, e = .returned (.tuple #[.int .i64 n, .iface t p]) ∧ Below w.heap.size w w'
theorem atoi_no {s : List UInt8} (hv : ∀ v, Lib.atoiAll s ≠ .ok v) (hs : s.length ≤ 281474976710656) {B : Nat} (w : World) (hB : B ≤ w.heap.size) (hV : TxtV B w) :
    Calls Tryz.prog 28 #[txt s] w (AtoiNo w) := by
  refine (atoi_any s hs w hB hV).mono fun e w' h => ?_
  rcases h.1 with ⟨v', h1, h2⟩ | ⟨_, n, t, p, h2⟩
  · exact absurd h1 (hv v')
  · exact ⟨n, t, p, h2, h.2⟩
theorem atoi_range {s : List UInt8} {v : Int} (h : Lib.atoiAll s = .ok v) : -9223372036854775808 ≤ v ∧ v ≤ 9223372036854775807 := Lib.atoiAll_bounds h
theorem txt_eq {a b : List UInt8} (h : a = b) : (a == b) = true := by subst h; simp
theorem txt_ne {a b : List UInt8} (h : a ≠ b) : (a == b) = false := by rw [beq_eq_false_iff_ne]; exact h

/-- A number that a text is. -/
theorem small_some {s : List UInt8} {most m : Nat} (hmost : most ≤ 999) (h : smallM most s = some m) {B : Nat} (w : World) (hB : B ≤ w.heap.size) (hV : TxtV B w) :
    Calls Tryz.prog 19 #[txt s, .int .i64 (most : Int)] w fun e w' => e = .returned (.tuple #[.int .i64 (m : Int), .bool true]) ∧ Below w.heap.size w w' := by
  obtain ⟨h1, h2⟩ := smallM_some.1 h
  have hat : Lib.atoiAll s = .ok (m : Int) := by rw [← h2]; exact atoiAll_digits (by omega)
  have hlen : s.length ≤ 281474976710656 := by rw [← h2]; have := decDigits_len (u := m) (by omega); omega
  have hit : Lib.itoa (m : Int) = s := by rw [itoa_nat, h2]
  have heq := txt_eq hit
  have g0 : (0 : Int) ≤ (m : Int) := by omega
  have g1 : m ≤ most := h1
  have HA := Lib.hid hat
  have HE := Lib.hid heq
  clear hat heq h2 h hit h1
  go_enter Tryz.func19, Tryz.ntmps19
  go_wp2_with fail
  refine (atoi_ok HA.out hlen _ hB hV).mono ?_
  rintro e w1 ⟨rfl, hb1⟩
  have hV1 := hV.on (hb1.mono hB)
  have hs1 := hb1.size
  go_wp2_with fail
  refine (itoa_any (m : Int) (by omega) (by omega) (B := B) _ (by omega) hV1).mono ?_
  rintro e w2 ⟨rfl, hb2⟩
  have he := HE.out
  go_wp2
  go_ret2
  exact ⟨rfl, hb1.trans (hb2.mono hs1)⟩
def SmallNo (w : World) (e : Ending) (w' : World) : Prop := ∃ k : Int, e = .returned (.tuple #[.int .i64 k, .bool false]) ∧ Below w.heap.size w w'
/-- A text that is no such number. -/
theorem small_none {s : List UInt8} {most : Nat} (hmost : most ≤ 999) (hlen : s.length ≤ 281474976710656) (h : smallM most s = none) {B : Nat} (w : World) (hB : B ≤ w.heap.size) (hV : TxtV B w) :
    Calls Tryz.prog 19 #[txt s, .int .i64 (most : Int)] w (SmallNo w) := by
  cases hat : Lib.atoiAll s with
  | ok v =>
    have hno : ¬ (0 ≤ v ∧ v ≤ most ∧ Lib.itoa v = s) := by
      rcases smallM_atoi hmost hat with ⟨m, h1, _⟩ | ⟨_, h2⟩
      · rw [h] at h1; cases h1
      · exact h2
    obtain ⟨r0, r1⟩ := atoi_range hat
    have HA := Lib.hid hat
    clear hat h
    by_cases g0 : 0 ≤ v
    · by_cases g1 : v ≤ most
      · have heq := txt_ne (fun q => hno ⟨g0, g1, q⟩ : Lib.itoa v ≠ s)
        have HE := Lib.hid heq
        clear heq hno
        go_enter Tryz.func19, Tryz.ntmps19
        go_wp2_with fail
        refine (atoi_ok HA.out hlen _ hB hV).mono ?_
        rintro e w1 ⟨rfl, hb1⟩
        have hV1 := hV.on (hb1.mono hB)
        have hs1 := hb1.size
        go_wp2_with fail
        refine (itoa_any v (by omega) (by omega) (B := B) _ (by omega) hV1).mono ?_
        rintro e w2 ⟨rfl, hb2⟩
        have he := HE.out
        go_wp2
        go_ret2
        exact ⟨_, rfl, hb1.trans (hb2.mono hs1)⟩
      · clear hno
        have g1' : decide (v ≤ (most : Int)) = false := by simpa using g1
        go_enter Tryz.func19, Tryz.ntmps19
        go_wp2_with fail
        refine (atoi_ok HA.out hlen _ hB hV).mono ?_
        rintro e w1 ⟨rfl, hb1⟩
        go_wp2
        go_ret2
        exact ⟨_, rfl, hb1⟩
    · clear hno
      have g0' : decide (0 ≤ v) = false := by simpa using g0
      go_enter Tryz.func19, Tryz.ntmps19
      go_wp2_with fail
      refine (atoi_ok HA.out hlen _ hB hV).mono ?_
      rintro e w1 ⟨rfl, hb1⟩
      go_wp2
      go_ret2
      exact ⟨_, rfl, hb1⟩
  | «syntax» =>
    go_enter Tryz.func19, Tryz.ntmps19
    go_wp2_with fail
    refine (atoi_no (fun v q => by rw [hat] at q; cases q) hlen _ hB hV).mono ?_
    rintro e w1 ⟨n, t, p, rfl, hb1⟩
    go_wp2
    go_ret2
    exact ⟨_, rfl, hb1⟩
  | range =>
    go_enter Tryz.func19, Tryz.ntmps19
    go_wp2_with fail
    refine (atoi_no (fun v q => by rw [hat] at q; cases q) hlen _ hB hV).mono ?_
    rintro e w1 ⟨n, t, p, rfl, hb1⟩
    go_wp2
    go_ret2
    exact ⟨_, rfl, hb1⟩
end Go.Proofs.YtfeeilpkfjfnaaaGreatDoor
