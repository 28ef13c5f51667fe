/- Contract of code.Decode: whatever the bytes. Condition: there are no more than a slice may have. -/
import Derived.Test.YtdcjogofjniogaaDoorCode6
namespace Go.Proofs.YtdcjogofjniogaaDoor
set_option linter.unusedVariables false
set_option linter.unusedSimpArgs false
open Go.RowKit

/-- What an owned value looks like. -/
theorem own_form2 {w : World} {base size n : Nat} {e : TypeId} {v : Value} {xs : List Value} (h : w.ownsRow base e size v n xs) : ∃ A c, v = .slice A n c ∧ n ≤ c ∧ Rd w w.heap.size A xs := by
  rcases h.2 with ⟨h1, h2⟩ | ⟨g, cap, cur, hv, _, _, hc, _⟩
  · obtain ⟨A, c, h3, h4⟩ := own_form h
    exact ⟨A, c, h3, by omega, h4⟩
  · obtain ⟨A, c, h3, h4⟩ := own_form h
    refine ⟨A, c, h3, ?_, h4⟩
    rw [hv] at h3
    injection h3 with _ _ h3
    omega
/-- Changes that were just laid. -/
theorem rd_newC (w : World) (l : List Chg) (cs : Array Value) (t : TypeId) (g : Nat) (hg : g = w.heap.size) (hcs : cs.toList = cellsC l) : Rd (w.alloc (.cells cs t)) (w.alloc (.cells cs t)).heap.size (some ⟨g, 0, none⟩) (cellsC l) := fun _ => by
  subst hg
  refine ⟨w.heap.size, 0, rfl, by simp, fun j u hj => ?_⟩
  rw [← hcs] at hj
  have := (Blk.new w t cs).cell j
  rw [Nat.zero_add, this]
  simpa using hj

theorem decode_ok (A : Option Addr) (l : List UInt8) (n c : Nat) (hn : n = l.length) (hm : l.length ≤ maxLen) (hcap : l.length ≤ c) {m : List Chg} (hd : decL l = some m) (w : World) (hl : Rd w w.heap.size A (bytesV l)) :
    Calls Tryd.prog 56 #[.slice A n c] w fun e w' => ∃ v, e = .returned (.tuple #[v, .nilIface]) ∧ w'.ownsRow w.heap.size 110 3 v m.length (cellsC m) ∧ Below w.heap.size w w' := by
  subst hn
  go_enter Tryd.func56, Tryd.ntmps56
  go_wp2_with fail
  refine (read_any A l c hm hcap _ hl).mono ?_
  rintro e w1 ⟨hb, hres⟩
  rw [hd] at hres
  obtain ⟨v, rfl, ho⟩ := hres
  go_wp2
  go_ret2
  exact ⟨v, rfl, ho, hb⟩
theorem decode_bad (A : Option Addr) (l : List UInt8) (n c : Nat) (hn : n = l.length) (hm : l.length ≤ maxLen) (hcap : l.length ≤ c) (hd : decL l = none) (w : World) (hl : Rd w w.heap.size A (bytesV l)) :
    Calls Tryd.prog 56 #[.slice A n c] w fun e w' => e = .returned (.tuple #[.slice none 0 0, syntaxV]) ∧ Below w.heap.size w w' := by
  subst hn
  go_enter Tryd.func56, Tryd.ntmps56
  go_wp2_with fail
  refine (read_any A l c hm hcap _ hl).mono ?_
  rintro e w1 ⟨hb, hres⟩
  rw [hd] at hres
  obtain ⟨v, rfl⟩ := hres
  go_wp2
  go_ret2
  exact ⟨rfl, hb⟩
end Go.Proofs.YtdcjogofjniogaaDoor
