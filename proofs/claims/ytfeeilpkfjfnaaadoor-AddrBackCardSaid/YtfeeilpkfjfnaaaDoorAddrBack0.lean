/- What the law AddrBack carries from call to call; a text that is known. Conditions: the library's variables as TxtV says. -/
import Derived.Test.YtfeeilpkfjfnaaaDoorAddrT4
import Derived.Test.YtfeeilpkfjfnaaaDoorBoth
import Derived.Test.YtfeeilpkfjfnaaaDoorLit
import Derived.Test.YtfeeilpkfjfnaaaDoorCut
namespace Go.Proofs.YtfeeilpkfjfnaaaDoor
set_option linter.unusedVariables false
set_option linter.unusedSimpArgs false
open Go.RowKit

theorem parse_ten : ParseV [49, 48, 46, 48, 46, 48, 46, 49] = .tuple #[.int .i64 167772161, .nilIface] := by
  have h : textT 167772161 = [49, 48, 46, 48, 46, 48, 46, 49] := by
    rw [textT_eq]
    have e0 : Lib.decDigits 0 = [48] := by rw [Lib.decDigits, dif_pos (by decide)]; rfl
    have e1 : Lib.decDigits 1 = [49] := by rw [Lib.decDigits, dif_pos (by decide)]; rfl
    have e10 : Lib.decDigits 10 = [49, 48] := by rw [Lib.decDigits, dif_neg (by decide)]; show Lib.decDigits 1 ++ _ = _; rw [e1]; rfl
    show Lib.decDigits 10 ++ 46 :: (Lib.decDigits 0 ++ 46 :: (Lib.decDigits 0 ++ 46 :: Lib.decDigits 1)) = _
    rw [e0, e1, e10]
    rfl
  unfold ParseV
  rw [← h, addrT_textT (by decide)]
  rfl
theorem parse_text {a : Nat} (h : a < 4294967296) : ParseV (textT a) = .tuple #[.int .i64 (a : Int), .nilIface] := by unfold ParseV; rw [addrT_textT h]
theorem parse_pfx {a n : Nat} (h : chk (a : Int) (n : Int) = 0) : ppV (pfxT a n) = .tuple #[.agg #[.int .i64 (a : Int), .int .i64 (n : Int)], .nilIface] := by
  obtain ⟨h1, h2, h3, h4, h5⟩ := chk_zero.1 h
  unfold ppV pfxT
  rw [cut_hit _ (textT_no a)]
  exact ppW_ok (addrT_textT (by omega)) (smallM_digits (by omega)) h
theorem half_last {a n : Int} (h : chk a n = 0) (hn : n ≠ 32) : lastA (a + sz (n + 1)) (n + 1) = lastA a n ∧ wrap64 (lastA a (n + 1) + 1) = a + sz (n + 1) := by
  obtain ⟨h1, h2, h3, h4, h5⟩ := chk_zero.1 h
  have hs := sz_half n (by omega)
  have hl := last_le h
  have hp := sz_pos (n + 1)
  unfold lastA at *
  refine ⟨by omega, ?_⟩
  rw [show a + sz (n + 1) - 1 + 1 = a + sz (n + 1) by omega]
  exact IntWalk.wrap64_in (a + sz (n + 1)) (by omega)
theorem Blk.to {w w' : World} {g : Nat} {t : TypeId} {cs : Array Value} {o : Obj} (h : Blk w g t cs) (e : w' = w.alloc o) : Blk w' g t cs := by rw [e]; exact h.alloc o
theorem Blk.to2 {w w' : World} {g : Nat} {t : TypeId} {cs : Array Value} {o o' : Obj} (h : Blk w g t cs) (e : w' = (w.alloc o).alloc o') : Blk w' g t cs := by rw [e]; exact (h.alloc o).alloc o'
theorem pfxT_len {a n : Nat} (h : chk (a : Int) (n : Int) = 0) : (pfxT a n).length < 4294967281 := by
  have h1 := textT_len a
  have h2 := decDigits_len (u := n) (by have := chk_zero.1 h; omega)
  unfold pfxT; simp; omega
theorem halves_at32 {a n : Int} (hc : chk a n = 0) (hn : n = 32) (w : World) :
    Calls Tryd.prog 8 #[.agg #[.int .i64 a, .int .i64 n]] w fun e w' => e = .returned (.tuple #[.agg #[.int .i64 0, .int .i64 0], .agg #[.int .i64 0, .int .i64 0], .iface 44 (.int .i64 4)]) ∧ Below w.heap.size w w' := by
  subst hn; exact halves_bad2 a hc w
/-- What the law's walk knows of the world: what was there is as it was; the prefix p lies boxed. -/
structure Bk (w : World) (B : Nat) (a n : Int) (wi : World) : Prop where
  bel : Below w.heap.size w wi
  blk : Blk wi w.heap.size 23 #[.int .i64 a, .int .i64 n]
  txt : TxtV B wi
  le : B ≤ w.heap.size
  sz : w.heap.size + 1 ≤ wi.heap.size
theorem Bk.step {w wi wj : World} {B : Nat} {a n : Int} (h : Bk w B a n wi) (hb : Below wi.heap.size wi wj) : Bk w B a n wj :=
  ⟨h.bel.trans (hb.mono (by have := h.sz; omega)), h.blk.below hb (by have := h.sz; omega), h.txt.on (hb.mono (by have := h.sz; have := h.le; omega)), h.le, by have := hb.size; have := h.sz; omega⟩
theorem Bk.leI {w wi : World} {B : Nat} {a n : Int} (h : Bk w B a n wi) : B ≤ wi.heap.size := by have := h.sz; have := h.le; omega
theorem Bk.alloc {w wi : World} {B : Nat} {a n : Int} (h : Bk w B a n wi) (o : Obj) : Bk w B a n (wi.alloc o) := h.step ((Below.refl _ _).alloc (Nat.le_refl _) _)
theorem Bk.set {w wi : World} {B : Nat} {a n : Int} (h : Bk w B a n wi) {p : Addr} (hp : w.heap.size < p.block) (u : Value) : Bk w B a n (wi.setCell p u) :=
  ⟨h.bel.setCell (by omega) u, h.blk.far (by omega) u, h.txt.on ((Below.refl _ _).setCell (by have := h.le; omega) u), h.le, by simpa using h.sz⟩
theorem Bk.first (w : World) {B : Nat} (a n : Int) (hB : B ≤ w.heap.size) (hV : TxtV B w) : Bk w B a n (w.alloc (.cells #[.int .i64 a, .int .i64 n] 23)) :=
  ⟨(Below.refl _ _).alloc (Nat.le_refl _) _, Blk.new _ _ _, hV.on ((Below.refl _ _).alloc hB _), hB, by simp⟩
end Go.Proofs.YtfeeilpkfjfnaaaDoor
