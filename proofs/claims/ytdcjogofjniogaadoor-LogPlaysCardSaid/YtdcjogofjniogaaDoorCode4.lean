/- Contracts of code.read and code.Decode: whatever the bytes. No conditions. -/
import Derived.Test.YtdcjogofjniogaaDoorCode3
namespace Go.Proofs.YtdcjogofjniogaaDoor
set_option linter.unusedVariables false
set_option linter.unusedSimpArgs false
open Go.RowKit

theorem index_str (h : UInt8) (w : World) : (Instr.index 9 (.string ⟨#[h]⟩) (.int .i64 0)).run Tryd.prog w = .ok (.int .u8 (h.toNat : Int)) w := by kernel_rfl

abbrev shortV : Value := .iface 157 (.agg #[])
abbrev syntaxV : Value := .iface 31 (.int .i64 5)
abbrev doorD (g : Nat) : Deferred := { target := .fn (Fn.func 78) #[.pointer (some ⟨g, 0, none⟩)], args := #[] }

theorem read_results (T : Array Value) (v x : Value) (g : Nat) (w : World) (h2 : T[2]? = some v) (h3 : T[3]? = some (.pointer (some ⟨g, 0, none⟩))) (hB : w.cell? ⟨g, 0, none⟩ = some x) :
    (results Tryd.f64 T).run Tryd.prog w = .ok (.tuple #[v, x]) w := by
  have e2 : T.getD 2 undef = v := by simp [Array.getD_eq_getD_getElem?, h2]
  have e3 : T.getD 3 undef = .pointer (some ⟨g, 0, none⟩) := by simp [Array.getD_eq_getD_getElem?, h3]
  simp [results, Tryd.results64, go_sem, e2, e3, h2, h3, hB]

theorem door_panic (T : Array Value) (v x : Value) (g : Nat) (t : TypeId) (w : World) (R : Ending → World → Prop) (h2 : T[2]? = some v) (h3 : T[3]? = some (.pointer (some ⟨g, 0, none⟩))) (hB : Blk w g t #[x])
    (h : R (.returned (.tuple #[v, syntaxV])) ((w.alloc (.cells #[] 157)).setCell ⟨g, 0, none⟩ syntaxV)) :
    Leaves Tryd.prog Tryd.f64 T R [doorD g] (.panicking [{ v := shortV, recovered := false }]) w := by
  refine leaves_cons (f := 78) (args := #[.pointer (some ⟨g, 0, none⟩)]) (by simp) (by simp [go_sem]) ?_
  refine (fn38_panicking g t x [] w hB).mono ?_
  rintro e u' w'' ⟨rfl, rfl, rfl⟩
  have hr := read_results T v syntaxV g ((w.alloc (.cells #[] 157)).setCell ⟨g, 0, none⟩ syntaxV) h2 h3 (((hB.alloc _).setCell 0 syntaxV).cell 0)
  exact ⟨_, hr, h⟩

theorem door_ret (T : Array Value) (v x : Value) (g : Nat) (t : TypeId) (w : World) (R : Ending → World → Prop) (h2 : T[2]? = some v) (h3 : T[3]? = some (.pointer (some ⟨g, 0, none⟩))) (hB : Blk w g t #[x])
    (h : R (.returned (.tuple #[v, x])) (w.alloc (.cells #[] 157))) :
    Leaves Tryd.prog Tryd.f64 T R [doorD g] .returning w := by
  refine leaves_cons (f := 78) (args := #[.pointer (some ⟨g, 0, none⟩)]) (by simp) (by simp [go_sem]) ?_
  refine (fn38_idle g w).mono ?_
  rintro e u' w'' ⟨rfl, rfl, rfl⟩
  exact ⟨_, read_results T v x g _ h2 h3 ((hB.alloc _).cell 0), h⟩

/-- What read leaves. -/
def ReadRes (l : List UInt8) (w : World) (e : Ending) (w' : World) : Prop :=
  Below w.heap.size w w' ∧ match decL l with
    | some m => ∃ v, e = .returned (.tuple #[v, .nilIface]) ∧ w'.ownsRow w.heap.size 110 3 v m.length (cellsC m)
    | none => ∃ v, e = .returned (.tuple #[v, syntaxV])
theorem readRes_bad {l : List UInt8} {w w' : World} {v : Value} (h : decL l = none) (hb : Below w.heap.size w w') : ReadRes l w (.returned (.tuple #[v, syntaxV])) w' := by
  refine ⟨hb, ?_⟩
  rw [h]
  exact ⟨v, rfl⟩
theorem readRes_ok {l : List UInt8} {m : List Chg} {w w' : World} {v : Value} (h : decL l = some m) (hb : Below w.heap.size w w') (ho : w'.ownsRow w.heap.size 110 3 v m.length (cellsC m)) : ReadRes l w (.returned (.tuple #[v, .nilIface])) w' := by
  refine ⟨hb, ?_⟩
  rw [h]
  exact ⟨v, rfl, ho⟩

theorem take_one (B g : Nat) (A : Option Addr) (h : UInt8) (t : List UInt8) (c : Nat) (hc : (h :: t).length ≤ c) (hm : (h :: t).length ≤ maxLen) (w : World) (hg : w.cell? ⟨g, 0, none⟩ = some (.slice A (h :: t).length c)) (hz : w.frozen? ⟨g, 0, none⟩ = false) (hr : Rd w B A (bytesV (h :: t))) :
    Calls Tryd.prog 79 #[.pointer (some ⟨g, 0, none⟩), .int .i64 1] w fun e w' => e = .returned (.string ⟨#[h]⟩) ∧ ∃ A' c', t.length ≤ c' ∧ w' = w.setCell ⟨g, 0, none⟩ (.slice A' t.length c') ∧ Rd w B A' (bytesV t) := by
  have := take_ok B g A (h :: t) c 1 (by simp) hc hm w hg hz hr
  simpa using this
theorem take_none (g : Nat) (A : Option Addr) (c : Nat) (w : World) (hg : w.cell? ⟨g, 0, none⟩ = some (.slice A 0 c)) (hz : w.frozen? ⟨g, 0, none⟩ = false) :
    Calls Tryd.prog 79 #[.pointer (some ⟨g, 0, none⟩), .int .i64 1] w fun e w' => e = .panicked [{ v := shortV, recovered := false }] ∧ w' = w :=
  take_bad g A [] c 1 (by simp) w (by simpa using hg) hz
/-- A row of the call's own stands where another block's cell is written. -/
theorem own_setCell {w : World} {base size n g : Nat} {e : TypeId} {v u : Value} {xs : List Value} (h : w.ownsRow base e size v n xs) (hg : g < base) : (w.setCell ⟨g, 0, none⟩ u).ownsRow base e size v n xs := by
  refine h.kept (row := some g) ⟨rfl, rfl, rfl, by simp, fun k hk hne => ?_⟩ ?_
  · simp [World.setCell, Array.getElem?_modify]
    intro h; exact absurd (by rw [h]) hne
  · cases hv : v.ownBlock with
    | none => simp
    | some k =>
      have := (h.lt k hv).1
      simp
      omega
end Go.Proofs.YtdcjogofjniogaaDoor
