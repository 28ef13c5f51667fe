/- A table and the reference's table beside it. No conditions. -/
import Derived.Test.YtdmnejanckdajaaDoorRefV7
namespace Go.Proofs.YtdmnejanckdajaaDoor
set_option linter.unusedVariables false
set_option linter.unusedSimpArgs false
set_option maxRecDepth 100000
open Go.RowKit

def putL (L : List KVer) (s : List UInt8) (v : Ver) (top : Int) : List KVer := if putE s v top = 0 then L.filter (restB s v.n) ++ [(s, v)] else L
theorem refPut_any (m : Nat) (L : List KVer) (top : Int) (hL : L.length ≤ 1000000) (S : Nat → Prop) (s : List UInt8) (v : Ver) (w : World) (hT : RTbl w S m L top) :
    Calls Tryd.prog 15 #[.pointer (some ⟨m, 0, none⟩), kverV s v] w fun e w' => e = .returned (.int .i64 (putE s v top)) ∧ Fr S w w' ∧ RTbl w' (plus S w) m (putL L s v top) (putT s v top) := by
  unfold putL putT
  by_cases h : putE s v top = 0
  · rw [if_pos h, if_pos h, h]
    exact refPut_ok m L top hL S s v w hT h
  · rw [if_neg h, if_neg h]
    refine (refPut_bad m L top S s v w hT h).mono ?_
    rintro e w' ⟨rfl, hb⟩
    exact ⟨rfl, Fr.of_below hb, (hT.below hb).mono plus.old⟩
theorem Mdl.putL {L : List KVer} {F : List UInt8 → List Ver} {top : Int} {n : Nat} (h : Mdl L F) (hg : Good F top n) (s : List UInt8) (v : Ver) : Mdl (putL L s v top) (putF F s v top) := by
  unfold Go.Proofs.YtdmnejanckdajaaDoor.putL putF
  by_cases hp : putE s v top = 0
  · rw [if_pos hp, if_pos hp]
    exact h.put hg s v (putE_zero hp).2.2.2.2
  · rw [if_neg hp, if_neg hp]
    exact h
theorem putL_len (L : List KVer) (s : List UInt8) (v : Ver) (top : Int) : (putL L s v top).length ≤ L.length + 1 := by
  unfold putL
  split
  · have := List.length_filter_le (restB s v.n) L
    simp
    omega
  · omega
/-- The table at t and the reference's at m tell the same. -/
def Duo (b0 : Nat) (w : World) (t m : Nat) (F : List UInt8 → List Ver) (top : Int) (L : List KVer) (n : Nat) : Prop :=
  ∃ S1 S2, TblAt w S1 t F top n ∧ RTbl w S2 m L top ∧ Mdl L F ∧ L.length ≤ n ∧ (∀ g, S1 g → ¬ S2 g) ∧ (∀ g, S1 g → b0 ≤ g ∧ g < w.heap.size) ∧ (∀ g, S2 g → b0 ≤ g ∧ g < w.heap.size)
section
variable {b0 t m n : Nat} {w w1 w1' w2 : World} {F F' : List UInt8 → List Ver} {top top' : Int} {L L' : List KVer} {S1 S2 : Nat → Prop}
theorem Duo.below (h : Duo b0 w t m F top L n) (hb : Below w.heap.size w w2) : Duo b0 w2 t m F top L n := by
  obtain ⟨S1, S2, h1, h2, h3, h4, h5, h6, h7⟩ := h
  have := hb.size
  exact ⟨S1, S2, h1.below hb, h2.below hb, h3, h4, h5, fun g q => by have := h6 g q; omega, fun g q => by have := h7 g q; omega⟩
theorem Duo.good (h : Duo b0 w t m F top L n) : Good F top n ∧ Mdl L F ∧ L.length ≤ n := by
  obtain ⟨S1, S2, h1, h2, h3, h4, _⟩ := h
  exact ⟨h1.good, h3, h4⟩
/-- First the reference turned, then the table. -/
theorem Duo.join (hd : ∀ g, S1 g → ¬ S2 g) (h1 : ∀ g, S1 g → b0 ≤ g ∧ g < w.heap.size) (h2 : ∀ g, S2 g → b0 ≤ g ∧ g < w.heap.size) (hb0 : b0 ≤ w.heap.size) (hR : RTbl w1 (plus S2 w) m L' top') (hs : w.heap.size ≤ w1.heap.size) (hb : Below w1.heap.size w1 w1')
    (hf : Fr S1 w1' w2) {n' : Nat} (hT : TblAt w2 (plus S1 w1') t F' top' n') (hM : Mdl L' F') (hL : L'.length ≤ n') : Duo b0 w2 t m F' top' L' n' := by
  have hs1 := hb.size
  have hs2 := hf.size
  have hR1 := hR.tight
  refine ⟨_, _, hT.tight, (hR1.below hb).far hf (fun g q q2 => ?_), hM, hL, fun g q q2 => ?_, fun g q => ?_, fun g q => ?_⟩
  · obtain ⟨q3 | q3, q4⟩ := q
    · exact hd g q2 q3
    · have := h1 g q2; omega
  · obtain ⟨q3 | q3, q4⟩ := q
    · obtain ⟨q5 | q5, q6⟩ := q2
      · exact hd g q3 q5
      · have := h1 g q3; omega
    · have := q2.2; omega
  · obtain ⟨q3 | q3, q4⟩ := q
    · have := h1 g q3; omega
    · omega
  · obtain ⟨q3 | q3, q4⟩ := q
    · have := h2 g q3; omega
    · omega
theorem Blk.duo {g : Nat} {T : TypeId} {cs : Array Value} (h : Blk w g T cs) (hg : ∀ q, S1 q → q ≠ g) (f : Fr S1 w w2) : Blk w2 g T cs := h.fr f (fun q => hg g q rfl)
end
theorem collect_bad (t : Value) (n : Int) (w : World) (h0 : numB n = false) :
    Calls Tryd.prog 11 #[t, .int .i64 n] w fun e w' => e = .returned (.tuple #[.int .i64 0, .iface 31 (.int .i64 1)]) ∧ w' = w := by
  have hnum := number_any n w
  rw [h0] at hnum
  have HN := Lib.hid hnum
  clear hnum
  go_enter Tryd.func11, Tryd.ntmps11
  go_wp2_with fail
  refine HN.out.mono ?_
  rintro e w1 ⟨rfl, rfl⟩
  go_wp2
  go_ret2
  exact ⟨rfl, rfl⟩
theorem TouchIs.unique {F : List UInt8 → List Ver} {lo hi : List UInt8} {n : Int} {a b : Bool} (h : TouchIs F lo hi n a) (h' : TouchIs F lo hi n b) : a = b := by
  unfold TouchIs at h h'
  rw [Bool.eq_iff_iff, h, h']
theorem numB_bad {n : Int} (h : numB n = false) : n < 0 ∨ 1000000 < n := by
  unfold numB at h
  simp at h
  omega
theorem numB_ok {n : Int} (h : numB n = true) : 0 ≤ n ∧ n ≤ 1000000 := by
  unfold numB at h
  simpa using h
end Go.Proofs.YtdmnejanckdajaaDoor
