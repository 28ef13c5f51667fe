/- Contract of the reference's Seen. No conditions. -/
import Derived.Test.YtdmnejanckdajaaDoorRefV1
namespace Go.Proofs.YtdmnejanckdajaaDoor
set_option linter.unusedVariables false
set_option linter.unusedSimpArgs false
set_option maxRecDepth 100000
open Go.RowKit

theorem seen_more {r : Int} {k : Nat} (h : r = -1 ∨ ∃ i : Nat, r = (i : Int) ∧ i < k) : r = -1 ∨ ∃ i : Nat, r = (i : Int) ∧ i < k + 1 := by
  rcases h with h | ⟨i, h, hi⟩
  · exact .inl h
  · exact .inr ⟨i, h, by omega⟩
set_option maxHeartbeats 4000000 in
theorem seen_any (m : Nat) (L : List KVer) (top : Int) (hL : L.length ≤ 1000000) (S : Nat → Prop) (s : List UInt8) (n : Int) (w : World) (hT : RTbl w S m L top) :
    Calls Tryd.prog 29 #[.pointer (some ⟨m, 0, none⟩), txt s, .int .i64 n] w fun e w' => ∃ r : Int, e = .returned (.int .i64 r) ∧ SeenIs L s n r ∧ Below w.heap.size w w' := by
  obtain ⟨⟨v, hB, hrow, _⟩, _⟩ := hT
  have hx := hB.cell 0
  simp at hx
  have hlt := hB.lt
  obtain ⟨A, c, rfl, hrd⟩ := own_form hrow
  clear hrow
  go_enter Tryd.func29, Tryd.ntmps29
  go_wp2
  go_loopw [7, 8] (fun best i wr => ∃ (k : Nat) (r : Int), k ≤ L.length ∧ i = .int .i64 k ∧ best = .int .i64 r ∧ SeenTo L s n k r ∧ (r = -1 ∨ ∃ i : Nat, r = (i : Int) ∧ i < k) ∧ Below w.heap.size w wr) (fun _ i _ => L.length - (intOf i).toNat)
  case atStart => exact ⟨0, -1, Nat.zero_le _, rfl, rfl, .inl ⟨rfl, fun v hv => by simp at hv⟩, .inl rfl, Below.refl _ _⟩
  case round =>
    obtain ⟨k, r, hk, rfl, rfl, hseen, hr, hb⟩ := hrel
    have x0 : wr.cell? ⟨m, 0, none⟩ = some (.slice A L.length c) := (hb.cell (p := ⟨m, 0, none⟩) hlt).trans hx
    by_cases hlt2 : k < L.length
    · obtain ⟨b, off, rfl, hbb, c0, c1, c2, c3⟩ := (hrd.below hb).kver hlt2
      have hI1 : (0 : Int) ≤ (k : Int) := by omega
      have hI2 : (k : Int) < (L.length : Int) := by omega
      by_cases h1 : L[k].1 = s
      · have e1 : (L[k].1 == s) = true := by rw [h1]; simp
        by_cases h2 : L[k].2.n ≤ n
        · have e2 : decide (L[k].2.n ≤ n) = true := decide_eq_true h2
          rcases hr with rfl | ⟨i, rfl, hi⟩
          · have e3 : decide ((-1 : Int) < 0) = true := by decide
            have HSN := Lib.hid (seen_take hseen hlt2 h1 h2 (.inl rfl))
            clear hseen
            go_wp2_with fail
            go_quiet (fail)
            go_wp2
            go_roundw
            case rel => exact ⟨k + 1, (k : Int), by omega, by go_num, rfl, HSN.out, .inr ⟨k, rfl, by omega⟩, Below.drewN' hb⟩
            case measure => simp [intOf]; omega
          · have e3 : decide ((i : Int) < 0) = false := by simp
            have hil : i < L.length := by omega
            obtain ⟨b2, off2, eq2, _, d0, d1, d2, d3⟩ := (hrd.below hb).kver hil
            injection eq2 with eq2
            injection eq2 with eq3 eq4
            subst eq3
            subst eq4
            have hI3 : (0 : Int) ≤ (i : Int) := by omega
            have hI4 : (i : Int) < (L.length : Int) := by omega
            by_cases h4 : L[i].2.n < L[k].2.n
            · have e4 : decide (L[i].2.n < L[k].2.n) = true := decide_eq_true h4
              have HSN := Lib.hid (seen_take hseen hlt2 h1 h2 (.inr ⟨i, hil, rfl, h4⟩))
              clear hseen
              go_wp2_with fail
              go_quiet (fail)
              go_wp2
              go_roundw
              case rel => exact ⟨k + 1, (k : Int), by omega, by go_num, rfl, HSN.out, .inr ⟨k, rfl, by omega⟩, Below.drewN' hb⟩
              case measure => simp [intOf]; omega
            · have e4 : decide (L[i].2.n < L[k].2.n) = false := decide_eq_false h4
              have HSN := Lib.hid (seen_skip hseen hlt2 (fun _ => .inr ⟨h2, i, hil, rfl, by omega⟩))
              clear hseen
              go_wp2_with fail
              go_quiet (fail)
              go_wp2
              go_roundw
              case rel => exact ⟨k + 1, (i : Int), by omega, by go_num, rfl, HSN.out, .inr ⟨i, rfl, by omega⟩, Below.drewN' hb⟩
              case measure => simp [intOf]; omega
        · have e2 : decide (L[k].2.n ≤ n) = false := decide_eq_false h2
          have HSN := Lib.hid (seen_skip hseen hlt2 (fun _ => .inl (by omega)))
          clear hseen
          go_wp2_with fail
          go_quiet (fail)
          go_wp2
          go_roundw
          case rel => exact ⟨k + 1, r, by omega, by go_num, rfl, HSN.out, seen_more hr, Below.drewN' hb⟩
          case measure => simp [intOf]; omega
      · have e1 : (L[k].1 == s) = false := by simpa using h1
        have HSN := Lib.hid (seen_skip hseen hlt2 (fun q => absurd q h1))
        clear hseen
        go_wp2_with fail
        go_quiet (fail)
        go_wp2
        go_roundw
        case rel => exact ⟨k + 1, r, by omega, by go_num, rfl, HSN.out, seen_more hr, Below.drewN' hb⟩
        case measure => simp [intOf]; omega
    · obtain rfl : k = L.length := by omega
      have HSN : Hid (SeenIs L s n r) := Lib.hid (by unfold SeenTo at hseen; rwa [List.take_length] at hseen)
      clear hseen
      go_wp2
      go_ret
      exact ⟨r, rfl, HSN.out, hb⟩
end Go.Proofs.YtdmnejanckdajaaDoor
