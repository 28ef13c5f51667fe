/- Texts joined: XLog1. Each says at its head what it proves; conditions: as said there. -/
import Derived.Test.YtfklhjkgogncdaaD12
import Derived.Test.YtfklhjkgogncdaaD1
import Derived.Test.YtfklhjkgogncdaaD7
import Derived.Laws.AppendOwn
/- A log in memory; contracts of its small methods: step, New, Fail, Sync, Clone, Bytes, Safe. No conditions. -/
namespace Go.Proofs.Ytfklhjkgogncdaa
set_option linter.unusedVariables false
set_option linter.unusedSimpArgs false
open Go.RowKit

/-- Of what was there only block g and v's own row may have turned. -/
structure LK (w w' : World) (g : Nat) (v : Value) : Prop where
  os : w'.os = w.os
  tape : w'.tape = w.tape
  output : w'.output = w.output
  size : w.heap.size ≤ w'.heap.size
  block : ∀ k, k < w.heap.size → k ≠ g → some k ≠ v.ownBlock → w'.heap[k]? = w.heap[k]?
/-- v' owns v's row, or a new one. -/
def Fresh (w : World) (v v' : Value) : Prop := ∀ k, v'.ownBlock = some k → k < w.heap.size → v.ownBlock = some k
theorem LK.refl (w : World) (g : Nat) (v : Value) : LK w w g v := ⟨rfl, rfl, rfl, Nat.le_refl _, fun _ _ _ _ => rfl⟩
theorem Fresh.refl (w : World) (v : Value) : Fresh w v v := fun _ h _ => h
theorem LK.trans {a b c : World} {g : Nat} {v v' : Value} (h : LK a b g v) (h2 : LK b c g v') (hf : Fresh a v v') : LK a c g v :=
  ⟨h2.os.trans h.os, h2.tape.trans h.tape, h2.output.trans h.output, Nat.le_trans h.size h2.size, fun k hk h1 h3 => by
    rw [h2.block k (Nat.lt_of_lt_of_le hk h.size) h1 (fun e => h3 (hf k e.symm hk).symm), h.block k hk h1 h3]⟩
theorem Fresh.trans {a b : World} {u v v' : Value} (h : Fresh a u v) (h2 : Fresh b v v') (hs : a.heap.size ≤ b.heap.size) : Fresh a u v' := fun k hk hlt => h k (h2 k hk (by omega)) hlt
theorem LK.of_below {w w' : World} {g : Nat} {v : Value} (h : Below w.heap.size w w') : LK w w' g v := ⟨h.os, h.tape, h.output, h.size, fun k hk _ _ => h.block k hk⟩
theorem LK.of_grown {w w' : World} {g : Nat} {v : Value} (h : w.grownBy w' v.ownBlock) : LK w w' g v := ⟨h.os, h.tape, h.output, h.size, fun k hk _ h2 => h.block k hk h2⟩
theorem LK.setCell {w w' : World} {g : Nat} {v : Value} (h : LK w w' g v) (i : Nat) (u : Value) : LK w (w'.setCell ⟨g, i, none⟩ u) g v :=
  ⟨h.os, h.tape, h.output, by simpa using h.size, fun k hk h1 h2 => by
    rw [← h.block k hk h1 h2]
    simp [World.setCell, Array.getElem?_modify]
    intro e; exact absurd e.symm h1⟩
theorem LK.below {w w' : World} {g b0 : Nat} {v : Value} (h : LK w w' g v) (hg : b0 ≤ g) (hv : ∀ k, v.ownBlock = some k → b0 ≤ k) (hb : b0 ≤ w.heap.size) : Below b0 w w' :=
  ⟨h.os, h.tape, h.output, h.size, fun k hk => h.block k (by omega) (by omega) (fun e => by have := hv k e.symm; omega)⟩
/-- Rows of other kinds stand. -/
theorem own_types {w : World} {base size n base2 size2 n2 : Nat} {e e2 : TypeId} {v v2 : Value} {xs xs2 : List Value} (h : w.ownsRow base e size v n xs) (h2 : w.ownsRow base2 e2 size2 v2 n2 xs2) (he : e ≠ e2) : ∀ k, v.ownBlock = some k → some k ≠ v2.ownBlock := by
  intro k hk hk2
  rcases h.2 with ⟨rfl, _⟩ | ⟨g, cap, cur, rfl, _, hh, _⟩
  · simp [Value.ownBlock] at hk
  · rcases h2.2 with ⟨rfl, _⟩ | ⟨g2, cap2, cur2, rfl, _, hh2, _⟩
    · simp [Value.ownBlock] at hk2
    · simp [Value.ownBlock] at hk hk2
      subst hk
      subst hk2
      rw [hh] at hh2
      injection hh2 with hh2
      injection hh2 with _ hh2
      exact he hh2
theorem own_blk {w : World} {base size n g : Nat} {e t : TypeId} {v : Value} {xs : List Value} {cs : Array Value} (h : w.ownsRow base e size v n xs) (hB : Blk w g t cs) (he : e ≠ t) : some g ≠ v.ownBlock := by
  intro hk
  rcases h.2 with ⟨rfl, _⟩ | ⟨g2, cap, cur, rfl, _, hh, _⟩
  · simp [Value.ownBlock] at hk
  · simp [Value.ownBlock] at hk
    subst hk
    unfold Blk at hB
    rw [hh] at hB
    injection hB with hB
    injection hB with _ hB
    exact he hB
theorem own_LK {w w' : World} {base size n g : Nat} {e : TypeId} {v u : Value} {xs : List Value} (h : w.ownsRow base e size v n xs) (hk : LK w w' g u) (h1 : some g ≠ v.ownBlock) (h2 : ∀ k, v.ownBlock = some k → some k ≠ u.ownBlock) : w'.ownsRow base e size v n xs := by
  rcases h.2 with ⟨h3, h4⟩ | ⟨g2, cap, cur, rfl, hb, hh, r⟩
  · exact ⟨h.1, .inl ⟨h3, h4⟩⟩
  · refine ⟨h.1, .inr ⟨g2, cap, cur, rfl, hb, ?_, r⟩⟩
    rw [hk.block g2 (Array.getElem?_eq_some_iff.1 hh).1 (fun e => h1 (by simp [Value.ownBlock, e])) (h2 g2 rfl)]
    exact hh
/-- The first ones of a row. -/
theorem own_shrink {w : World} {base m n c : Nat} {e : TypeId} {A : Option Addr} {xs : List Value} (h : w.ownsRow base e 1 (.slice A n c) n xs) (hm : m ≤ n) : w.ownsRow base e 1 (.slice A m c) m (xs.take m) := by
  have hl : xs.length = n := by simpa using h.1
  rcases h.2 with ⟨h3, h4⟩ | ⟨g2, cap, cur, hv, hb, hh, hn, hc, hs, ht⟩
  · have : m = 0 := by omega
    subst this
    refine ⟨by simp, .inl ⟨?_, rfl⟩⟩
    injection h3 with h5 h6 h7
    rw [h5, h7]
  · injection hv with h5 h6 h7
    refine ⟨by simp; omega, .inr ⟨g2, cap, cur, by rw [h5, h7], hb, hh, by omega, hc, hs, ?_⟩⟩
    rw [← ht, List.take_take, Nat.min_eq_left (by omega), Nat.mul_one]

abbrev LT : TypeId := 96
/-- A log. -/
structure LogAt (w : World) (b0 g : Nat) (v : Value) (left : Int) (down : Bool) (room : Int) (B : List UInt8) (safe : Nat) : Prop where
  hB : Blk w g 96 #[.int .i64 left, .bool down, .int .i64 room, v, .int .i64 safe]
  hg : b0 ≤ g
  ho : w.ownsRow b0 5 1 v B.length (bytesV B)
  hl : -1 ≤ left ∧ left ≤ 9223372036854775807
  hr : 0 ≤ room ∧ room ≤ 100000 ∧ (B.length : Int) ≤ room
  hs : safe ≤ B.length
  hb : b0 ≤ w.heap.size

section
variable {w w' : World} {b0 g : Nat} {v : Value} {left room : Int} {down : Bool} {B : List UInt8} {safe : Nat}
theorem LogAt.ne (h : LogAt w b0 g v left down room B safe) : some g ≠ v.ownBlock := own_blk h.ho h.hB (by decide)
theorem LogAt.cells (h : LogAt w b0 g v left down room B safe) : (w.cell? ⟨g, 0, none⟩ = some (.int .i64 left) ∧ w.cell? ⟨g, 1, none⟩ = some (.bool down) ∧ w.cell? ⟨g, 2, none⟩ = some (.int .i64 room) ∧ w.cell? ⟨g, 3, none⟩ = some v ∧ w.cell? ⟨g, 4, none⟩ = some (.int .i64 safe)) ∧
    w.frozen? ⟨g, 0, none⟩ = false ∧ w.frozen? ⟨g, 1, none⟩ = false ∧ w.frozen? ⟨g, 3, none⟩ = false ∧ w.frozen? ⟨g, 4, none⟩ = false :=
  ⟨⟨h.hB.cell 0, h.hB.cell 1, h.hB.cell 2, h.hB.cell 3, h.hB.cell 4⟩, h.hB.frozen 0, h.hB.frozen 1, h.hB.frozen 3, h.hB.frozen 4⟩
theorem LogAt.below (h : LogAt w b0 g v left down room B safe) (hb : Below w.heap.size w w') : LogAt w' b0 g v left down room B safe :=
  ⟨h.hB.below hb h.hB.lt, h.hg, own_below h.ho hb, h.hl, h.hr, h.hs, Nat.le_trans h.hb hb.size⟩
/-- What a call that turns the log leaves. -/
def LogTo (w : World) (b0 g : Nat) (v : Value) (left : Int) (down : Bool) (room : Int) (B : List UInt8) (safe : Nat) (w' : World) : Prop :=
  ∃ v', LogAt w' b0 g v' left down room B safe ∧ LK w w' g v ∧ Fresh w v v'
theorem LogAt.to (h : LogAt w b0 g v left down room B safe) : LogTo w b0 g v left down room B safe w := ⟨v, h, LK.refl _ _ _, Fresh.refl _ _⟩
/-- Numbers of the log are written. -/
theorem LogAt.write (h : LogAt w b0 g v left down room B safe) {left' : Int} {down' : Bool} {safe' : Nat} (hk : LK w w' g .nilIface) (hB : Blk w' g 96 #[.int .i64 left', .bool down', .int .i64 room, v, .int .i64 safe'])
    (hl : -1 ≤ left' ∧ left' ≤ 9223372036854775807) (hs : safe' ≤ B.length) : LogAt w' b0 g v left' down' room B safe' :=
  ⟨hB, h.hg, own_LK h.ho hk h.ne (fun k hk e => by simp [Value.ownBlock] at e), hl, h.hr, hs, Nat.le_trans h.hb hk.size⟩
end
theorem step_any (g : Nat) (left : Int) (down : Bool) (r v s : Value) (hl : -1 ≤ left ∧ left ≤ 9223372036854775807) (w : World) (hB : Blk w g 96 #[.int .i64 left, .bool down, r, v, s]) :
    Calls Try.prog 51 #[.pointer (some ⟨g, 0, none⟩)] w fun e w' => e = .returned (.bool (left != 0)) ∧ Blk w' g 96 #[.int .i64 (leftS left), .bool (left == 0), r, v, s] ∧ LK w w' g .nilIface := by
  have x0 := hB.cell 0
  have x1 := hB.cell 1
  have z0 := hB.frozen 0
  have z1 := hB.frozen 1
  simp at x0 x1
  by_cases h0 : left = 0
  · subst h0
    go_enter Try.func51, Try.ntmps51
    go_wp2
    go_ret
    exact ⟨rfl, (hB.setCell 1 (.bool true)).setCell 0 (.int .i64 (-1)), ((LK.refl w g .nilIface).setCell 1 _).setCell 0 _⟩
  · have e0 : (left == 0) = false := by simpa using h0
    have HL := Lib.hid e0
    by_cases h1 : 0 ≤ left
    · have HS := Lib.hid (show leftS left = left - 1 by unfold leftS; rw [if_pos h1])
      go_enter Try.func51, Try.ntmps51
      go_wp2
      go_ret
      refine ⟨by simp [h0], ?_, ((LK.refl w g .nilIface).setCell 1 _).setCell 0 _⟩
      rw [HS.out, HL.out]
      exact (hB.setCell 1 (.bool false)).setCell 0 (.int .i64 (left - 1))
    · have HS := Lib.hid (show leftS left = left by unfold leftS; rw [if_neg h1])
      go_enter Try.func51, Try.ntmps51
      go_wp2
      go_ret
      refine ⟨by simp [h0], ?_, (LK.refl w g .nilIface).setCell 1 _⟩
      rw [HS.out]
      first | rw [HL.out] | skip
      exact hB.setCell 1 (.bool false)
end Go.Proofs.Ytfklhjkgogncdaa
