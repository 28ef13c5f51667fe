/- Steps of a script in memory. Over any program; no conditions. -/
import Derived.Test.YtdmnejanckdajaaDoorTab
namespace Go.Proofs.YtdmnejanckdajaaDoor
set_option linter.unusedVariables false
set_option linter.unusedSimpArgs false
open Go.RowKit

/-- A step of a script. -/
structure Stp where
  what : Int
  who : Int
  key : List UInt8
  to : List UInt8
  val : List UInt8
  n : Int
instance : Inhabited Stp := ⟨⟨0, 0, [], [], [], 0⟩⟩
def cellsS : List Stp → List Value
  | [] => []
  | s :: l => .int .i64 s.what :: .int .i64 s.who :: txt s.key :: txt s.to :: txt s.val :: .int .i64 s.n :: cellsS l
theorem cellsS_length : ∀ l, (cellsS l).length = l.length * 6
  | [] => rfl
  | s :: l => by simp [cellsS, cellsS_length l]; omega
theorem cellsS_at : ∀ (l : List Stp) (k : Nat) (h : k < l.length), (cellsS l)[6 * k]? = some (.int .i64 l[k].what) ∧ (cellsS l)[6 * k + 1]? = some (.int .i64 l[k].who) ∧ (cellsS l)[6 * k + 2]? = some (txt l[k].key) ∧ (cellsS l)[6 * k + 3]? = some (txt l[k].to) ∧ (cellsS l)[6 * k + 4]? = some (txt l[k].val) ∧ (cellsS l)[6 * k + 5]? = some (.int .i64 l[k].n)
  | s :: l, 0, _ => by simp [cellsS]
  | s :: l, k + 1, h => by
    have ih := cellsS_at l k (by simpa using h)
    have e1 : 6 * (k + 1) = 6 * k + 1 + 1 + 1 + 1 + 1 + 1 := by omega
    rw [e1]
    simpa [cellsS] using ih
/-- A step's numbers and texts are of this machine. -/
def StpOk (s : Stp) : Prop := (Lit.int .i64 s.n).wf = true ∧ (Lit.int .i64 s.who).wf = true ∧ s.key.length ≤ maxLen ∧ s.to.length ≤ maxLen ∧ s.val.length ≤ maxLen
/-- Step number k of a slice. -/
theorem Rd.stp {w : World} {B : Nat} {A : Option Addr} {l : List Stp} (h : Rd w B A (cellsS l)) {k : Nat} (hk : k < l.length) :
    ∃ b off, A = some ⟨b, off, none⟩ ∧ b < B ∧ w.cell? ⟨b, off + k * 6, none⟩ = some (.int .i64 l[k].what) ∧ w.cell? ⟨b, off + k * 6 + 1, none⟩ = some (.int .i64 l[k].who) ∧ w.cell? ⟨b, off + k * 6 + 2, none⟩ = some (txt l[k].key) ∧
      w.cell? ⟨b, off + k * 6 + 3, none⟩ = some (txt l[k].to) ∧ w.cell? ⟨b, off + k * 6 + 4, none⟩ = some (txt l[k].val) ∧ w.cell? ⟨b, off + k * 6 + 5, none⟩ = some (.int .i64 l[k].n) := by
  obtain ⟨b, off, e, hb, hc⟩ := h (fun h => by have := cellsS_length l; rw [h] at this; simp at this; omega)
  rw [Nat.mul_comm k 6]
  obtain ⟨h1, h2, h3, h4, h5, h6⟩ := cellsS_at l k hk
  exact ⟨b, off, e, hb, hc _ _ h1, hc _ _ h2, hc _ _ h3, hc _ _ h4, hc _ _ h5, hc _ _ h6⟩

end Go.Proofs.YtdmnejanckdajaaDoor
