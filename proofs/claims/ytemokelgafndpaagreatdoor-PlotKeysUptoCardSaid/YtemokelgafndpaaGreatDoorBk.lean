/- What a law's walk carries from call to call: a prefix that lies boxed, the library's variables. No conditions. -/
import Derived.Test.YtemokelgafndpaaGreatDoorTxt1
namespace Go.Proofs.YtemokelgafndpaaGreatDoor
set_option linter.unusedVariables false
set_option linter.unusedSimpArgs false
open Go.RowKit

theorem Blk.to {w w' : World} {g : Nat} {t : TypeId} {cs : Array Value} {o : Obj} (h : Blk w g t cs) (e : w' = w.alloc o) : Blk w' g t cs := by rw [e]; exact h.alloc o
theorem Blk.to2 {w w' : World} {g : Nat} {t : TypeId} {cs : Array Value} {o o' : Obj} (h : Blk w g t cs) (e : w' = (w.alloc o).alloc o') : Blk w' g t cs := by rw [e]; exact (h.alloc o).alloc o'
/-- What the law's walk knows of the world: what was there is as it was; the prefix p lies boxed. -/
structure Bk (w : World) (B : Nat) (a n : Int) (wi : World) : Prop where
  bel : Below w.heap.size w wi
  blk : Blk wi w.heap.size 23 #[.int .i64 a, .int .i64 n]
  txt : TxtV B wi
  le : B ≤ w.heap.size
  sz : w.heap.size + 1 ≤ wi.heap.size
theorem Bk.step {w wi wj : World} {B : Nat} {a n : Int} (h : Bk w B a n wi) (hb : Below wi.heap.size wi wj) : Bk w B a n wj :=
  ⟨h.bel.trans (hb.mono (by have := h.sz; omega)), h.blk.below hb (by have := h.sz; omega), h.txt.on (hb.mono (by have := h.sz; have := h.le; omega)), h.le, by have := hb.size; have := h.sz; omega⟩
theorem Bk.leI {w wi : World} {B : Nat} {a n : Int} (h : Bk w B a n wi) : B ≤ wi.heap.size := by have := h.sz; have := h.le; omega
theorem Bk.alloc {w wi : World} {B : Nat} {a n : Int} (h : Bk w B a n wi) (o : Obj) : Bk w B a n (wi.alloc o) := h.step ((Below.refl _ _).alloc (Nat.le_refl _) _)
theorem Bk.set {w wi : World} {B : Nat} {a n : Int} (h : Bk w B a n wi) {p : Addr} (hp : w.heap.size < p.block) (u : Value) : Bk w B a n (wi.setCell p u) :=
  ⟨h.bel.setCell (by omega) u, h.blk.far (by omega) u, h.txt.on ((Below.refl _ _).setCell (by have := h.le; omega) u), h.le, by simpa using h.sz⟩
theorem Bk.first (w : World) {B : Nat} (a n : Int) (hB : B ≤ w.heap.size) (hV : TxtV B w) : Bk w B a n (w.alloc (.cells #[.int .i64 a, .int .i64 n] 23)) :=
  ⟨(Below.refl _ _).alloc (Nat.le_refl _) _, Blk.new _ _ _, hV.on ((Below.refl _ _).alloc hB _), hB, by simp⟩
end Go.Proofs.YtemokelgafndpaaGreatDoor
