/- Contracts of package vers: New, Key, number, find. -/
import Derived.Test.YtdmnejanckdajaaDoorProg
import Derived.Test.YtdmnejanckdajaaDoorTab
namespace Go.Proofs.YtdmnejanckdajaaDoor
set_option linter.unusedVariables false
set_option linter.unusedSimpArgs false
set_option maxRecDepth 100000
open Go.RowKit

theorem strKey : Maps.Keyed Tryd.prog 9 := Maps.string_keyed Tryd.underlying9
theorem txt_key (s : List UInt8) (h : s.length ≤ maxLen) : ∃ kl, keyOf Tryd.prog 9 (txt s) = some kl := ⟨_, WideMaps.keyOf_string_mk Tryd.underlying9 (by simpa [ByteArray.size] using h)⟩

theorem new_any (w : World) : Calls Tryd.prog 5 #[] w fun e w' => ∃ t, e = .returned (.pointer (some ⟨t, 0, none⟩)) ∧ w.heap.size ≤ t ∧ Blk w' t 60 #[.map (some w.heap.size), .int .i64 0] ∧
    TabAt w' Tryd.prog 9 63 (fun g => w.heap.size ≤ g) w.heap.size #[] 0 (fun _ => []) ∧ t ≠ w.heap.size ∧ Below w.heap.size w w' := by
  have hmk := run_makeMap (P := Tryd.prog) 58 w
  go_enter Tryd.func5, Tryd.ntmps5
  go_wp2
  go_ret
  refine ⟨w.heap.size + 1, rfl, by omega, ?_, (TabAt.new w (Nat.le_refl _)).alloc _, by omega, ((Below.refl _ _).alloc (Nat.le_refl _) _).alloc (by simp) _⟩
  have := heap_alloc_new (w.alloc (.map #[] 0)) (.cells #[.map (some w.heap.size), .int .i64 0] 60)
  rw [World.size_alloc] at this
  exact this

def keyB (s : List UInt8) : Bool := decide (s ≠ []) && decide (s.length ≤ 24)
theorem key_any (s : List UInt8) (hs : s.length ≤ maxLen) (w : World) : Calls Tryd.prog 31 #[txt s] w fun e w' => e = .returned (.bool (keyB s)) ∧ w' = w := by
  by_cases h : s = []
  · subst h
    go_enter Tryd.func31, Tryd.ntmps31
    go_wp2
    go_ret
    exact ⟨by rfl, rfl⟩
  · go_enter Tryd.func31, Tryd.ntmps31
    go_wp2
    go_ret
    refine ⟨?_, rfl⟩
    show Ending.returned (.bool (!s.isEmpty && decide ((s.length : Int) ≤ 24))) = _
    congr 2
    rw [Bool.eq_iff_iff]
    simp [keyB, List.isEmpty_iff]
    omega

def numB (n : Int) : Bool := decide (0 ≤ n) && decide (n ≤ 1000000)
theorem number_any (n : Int) (w : World) : Calls Tryd.prog 22 #[.int .i64 n] w fun e w' => e = .returned (.bool (numB n)) ∧ w' = w := by
  by_cases h : 0 ≤ n
  · go_enter Tryd.func22, Tryd.ntmps22
    go_wp2
    go_ret
    exact ⟨by simp [numB, h], rfl⟩
  · go_enter Tryd.func22, Tryd.ntmps22
    go_wp2
    go_ret
    exact ⟨by simp [numB]; omega, rfl⟩

/-- How many of the first m versions there are up to the last that is not behind a number. -/
def fnd (l : List Ver) (n : Int) : Nat → Nat
  | 0 => 0
  | m + 1 => match l[m]? with
    | some v => if n < v.n then fnd l n m else m + 1
    | none => fnd l n m
theorem fnd_step {l : List Ver} {n : Int} {m : Nat} (h : m < l.length) : fnd l n (m + 1) = if n < l[m].n then fnd l n m else m + 1 := by
  rw [fnd, List.getElem?_eq_getElem h]
theorem fnd_le (l : List Ver) (n : Int) : ∀ m, fnd l n m ≤ m
  | 0 => Nat.le_refl _
  | m + 1 => by
    have := fnd_le l n m
    rw [fnd]
    split
    · split <;> omega
    · omega
theorem find_any (A : Option Addr) (l : List Ver) (c : Nat) (n : Int) (hlen : l.length ≤ 1000000) (w : World) (hl : Rd w w.heap.size A (cellsV l)) :
    Calls Tryd.prog 23 #[.slice A l.length c, .int .i64 n] w fun e w' => e = .returned (.int .i64 ((fnd l n l.length : Int) - 1)) ∧ w' = w := by
  go_enter Tryd.func23, Tryd.ntmps23
  go_wp2
  go_loopw [5] (fun k wr => wr = w ∧ ∃ m : Nat, m ≤ l.length ∧ k = .int .i64 ((m : Int) - 1) ∧ fnd l n l.length = fnd l n m) (fun k _ => (intOf k + 1).toNat)
  case atStart => exact ⟨rfl, l.length, Nat.le_refl _, by go_num, rfl⟩
  case round =>
    obtain ⟨rfl, m, hm, rfl, hg⟩ := hrel
    cases m with
    | zero =>
      have HG := Lib.hid (show fnd l n l.length = 0 by rw [hg]; rfl)
      clear hg
      go_wp2
      go_ret
      exact ⟨by rw [HG.out]; rfl, rfl⟩
    | succ m =>
      obtain ⟨b, off, rfl, hbb, c0, c1, c2⟩ := hl.ver (show m < l.length by omega)
      have hstep := fnd_step (n := n) (show m < l.length by omega)
      have e0 : (((m + 1 : Nat) : Int) - 1) = (m : Int) := by omega
      rw [e0]
      by_cases hf : n < l[m].n
      · have HG := Lib.hid (show fnd l n l.length = fnd l n m by rw [hg, hstep, if_pos hf])
        clear hg hstep
        go_wp2
        go_roundw
        case rel => exact ⟨trivial, m, by omega, rfl, HG.out⟩
        case measure => simp [intOf]
      · have HG := Lib.hid (show fnd l n l.length = m + 1 by rw [hg, hstep, if_neg hf])
        clear hg hstep
        go_wp2
        go_ret
        exact ⟨by rw [HG.out, e0]; rfl, rfl⟩
end Go.Proofs.YtdmnejanckdajaaDoor
