/- Texts joined: XDesk0. Each says at its head what it proves; conditions: as said there. -/
import Derived.Test.YtfklhjkgogncdaaD3
import Derived.Test.YtfklhjkgogncdaaD4
import Derived.DeepKeys4
/- Keys of the desk's maps; zero values of their elements. No conditions. -/
namespace Go.Proofs.Ytfklhjkgogncdaa
set_option linter.unusedVariables false
set_option linter.unusedSimpArgs false
set_option maxRecDepth 100000
open Go.RowKit

abbrev intV (n : Int) : Value := .int .i64 n
abbrev spanV (p : List UInt8 × List UInt8) : Value := .agg #[txt p.1, txt p.2]
theorem intKey : Maps.Keyed Try.prog 3 := Maps.int_keyed Try.underlying3
theorem wf_i64 {n : Int} (h : -9223372036854775808 ≤ n ∧ n ≤ 9223372036854775807) : (Lit.int .i64 n).wf = true := by
  unfold Lit.wf
  rw [Bool.and_eq_true]
  exact ⟨decide_eq_true (by show (-9223372036854775808 : Int) ≤ _; omega), decide_eq_true (by show _ ≤ (9223372036854775807 : Int); omega)⟩
theorem int_key (n : Int) (h : (Lit.int .i64 n).wf = true) : ∃ kl, keyOf Try.prog 3 (intV n) = some kl := ⟨_, Maps.keyOf_int_mk Try.underlying3 h⟩
theorem reachKey : Maps.Keyed Try.prog 86 :=
  Maps.Keyed.of_law (deep_law_laid (by kernel_rfl) (m := 3) (by omega) (of_decide_eq_true (by kernel_rfl)) (by kernel_rfl) (by rw [Try.underlying86]))
theorem reach_key (p : List UInt8 × List UInt8) (h1 : p.1.length ≤ maxLen) (h2 : p.2.length ≤ maxLen) : ∃ kl, keyOf Try.prog 86 (spanV p) = some kl := by
  obtain ⟨a, b⟩ := p
  have hk : Try.prog.keyType 86 = true := by kernel_rfl
  have hf : (spanV (a, b)).formed Try.prog 86 = true := by
    have : Try.prog.cellsOf 86 = 2 := by kernel_rfl
    simp [Value.formed, Try.underlying86, this]
  have hc : (spanV (a, b)).cells.toList = [txt a, txt b] := rfl
  have h1' : a.toArray.size ≤ maxLen := by simpa using h1
  have h2' : b.toArray.size ≤ maxLen := by simpa using h2
  have ht : Try.prog.types.size = (Try.prog.types.size - 1) + 1 := by kernel_rfl
  have hs : Try.prog.cellsOf 9 = 1 := by kernel_rfl
  have hr : Try.prog.cellsOf 86 = 2 := by kernel_rfl
  unfold keyOf
  simp only [Try.underlying86, hk, hf, Bool.and_true, if_true, hc]
  generalize Try.prog.types.size = n at ht ⊢
  obtain ⟨m, rfl⟩ : ∃ m, n = m + 1 := ⟨n - 1, ht⟩
  have : Try.prog.keyLits (m + 1 + 1) 86 [txt a, txt b] = some [.string a, .string b] := by
    have h3 : a.length ≤ maxLen := h1
    have h4 : b.length ≤ maxLen := h2
    have e1 : ∀ (x : List UInt8) (h : x.length ≤ maxLen), Try.prog.keyLits (m + 1) 9 [txt x] = some [.string x] := by
      intro x h
      simp only [Program.keyLits, Try.underlying9]
      rw [if_pos (by simpa [ByteArray.size] using h)]
    unfold Program.keyLits
    simp only [Try.underlying86, hr, hs, List.length_cons, List.length_nil]
    rw [if_pos (by simp)]
    simp only [List.mapM_cons, List.mapM_nil, hs, List.drop_zero, List.drop_succ_cons, List.take_succ_cons, List.take_zero, e1 a h3, e1 b h4]
    rfl
  rw [this]
  exact ⟨_, rfl⟩
theorem zeroPtr (w : World) : (zeroValue 63).run Try.prog w = .ok (.pointer none) w := by kernel_rfl
theorem zeroInt (w : World) : (zeroValue 3).run Try.prog w = .ok (.int .i64 0) w := by kernel_rfl
theorem zeroStr (w : World) : (zeroValue 9).run Try.prog w = .ok (txt []) w := by kernel_rfl
theorem zeroChg (w : World) : (zeroValue 71).run Try.prog w = .ok (.agg #[txt [], txt [], .bool false]) w := by kernel_rfl
end Go.Proofs.Ytfklhjkgogncdaa
