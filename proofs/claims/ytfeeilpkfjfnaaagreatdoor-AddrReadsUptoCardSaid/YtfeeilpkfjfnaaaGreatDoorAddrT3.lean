/- addr.written, Print, PrintPrefix, ParsePrefix. Conditions: the library's bound on a text's length; its variables as TxtV says. -/
import Derived.Test.YtfeeilpkfjfnaaaGreatDoorAddrT2
import Derived.Deep.RegionHeld3
namespace Go.Proofs.YtfeeilpkfjfnaaaGreatDoor
set_option linter.unusedVariables false
set_option linter.unusedSimpArgs false
open Go.RowKit

/-- The four texts while they are written. -/
def fourK (a k : Nat) : Array Value := #[if 4 ≤ k then txt (Lib.decDigits (a / 16777216 % 256)) else txt [], if 3 ≤ k then txt (Lib.decDigits (a / 65536 % 256)) else txt [], if 2 ≤ k then txt (Lib.decDigits (a / 256 % 256)) else txt [], if 1 ≤ k then txt (Lib.decDigits (a % 256)) else txt []]
theorem fourK_4 (a : Nat) : fourK a 4 = ((fourT a).map txt).toArray := rfl
theorem fourK_set (a k : Nat) (h : k < 4) : (fourK a k).setIfInBounds (3 - k) (txt (Lib.decDigits (a / 256 ^ k % 256))) = fourK a (k + 1) := by
  match k, h with
  | 0, _ => simp [fourK]
  | 1, _ => simp [fourK]
  | 2, _ => simp [fourK]
  | 3, _ => simp [fourK]
theorem fourK_at (a k : Nat) (h : k < 4) : ∃ u : List UInt8, (fourK a k)[3 - k]? = some (txt u) := by
  match k, h with
  | 0, _ => exact ⟨_, rfl⟩
  | 1, _ => exact ⟨_, rfl⟩
  | 2, _ => exact ⟨_, rfl⟩
  | 3, _ => exact ⟨_, rfl⟩
theorem and_nat {x : Nat} (h : x ≤ 4294967295) : bits .and .i64 (x : Int) 255 = ((x % 256 : Nat) : Int) := by rw [and_255 (by omega) (by omega)]; omega
theorem byte_le (x : Nat) : x % 256 < 256 := Nat.mod_lt _ (by decide)
set_option maxHeartbeats 1000000 in
theorem written_any (a : Nat) (ha : a < 4294967296) {B : Nat} (w : World) (hB : B ≤ w.heap.size) (hV : TxtV B w) :
    Calls Tryz.prog 22 #[.int .i64 (a : Int)] w fun e w' => e = .returned (txt (textT a)) ∧ Below w.heap.size w w' := by
  go_enter Tryz.func22, Tryz.ntmps22
  go_wp2
  go_loopw [0, 4, 5] (fun x _ i wr => ∃ (k : Nat), k ≤ 4 ∧ i = .int .i64 (k : Int) ∧ x = .int .i64 ((a / 256 ^ k : Nat) : Int) ∧ Blk wr w.heap.size 58 (fourK a k) ∧ Below w.heap.size w wr) (fun _ _ i _ => 4 - (intOf i).toNat)
  case atStart => exact ⟨0, by omega, rfl, by simp, Blk.new _ _ _, (Below.refl _ _).alloc (Nat.le_refl _) _⟩
  case round =>
    obtain ⟨k, hk, rfl, rfl, hblk, hbr⟩ := hrel
    by_cases hlt : k < 4
    · have hx : a / 256 ^ k ≤ 4294967295 := Nat.le_trans (Nat.div_le_self _ _) (by omega)
      have hset := fourK_set a k hlt
      have hand : bits .and .i64 ((a / 256 ^ k : Nat) : Int) 255 = ((a / 256 ^ k % 256 : Nat) : Int) := and_nat hx
      have hdiv : a / 256 ^ k / 256 = a / 256 ^ (k + 1) := by rw [Nat.div_div_eq_div_mul, Nat.pow_succ]
      have hit : Lib.itoa ((a / 256 ^ k % 256 : Nat) : Int) = Lib.decDigits (a / 256 ^ k % 256) := itoa_nat _
      have hy := byte_le (a / 256 ^ k)
      generalize a / 256 ^ k = x at *
      generalize x % 256 = y at *
      have HS := Lib.hid hset
      have HA := Lib.hid hand
      have HD := Lib.hid hdiv
      have HI := Lib.hid hit
      clear hset hand hdiv hit
      go_wp2_with fail
      rw [HA.out]
      have hsr := hbr.size
      refine (itoa_any (y : Int) (by omega) (by omega) (B := B) _ (Nat.le_trans hB hbr.size) (hV.on (hbr.mono hB))).mono ?_
      rintro e w2 ⟨rfl, hb2⟩
      rw [HI.out]
      have hblk2 := hblk.below hb2 hblk.lt
      have hb3 := hbr.trans (hb2.mono hbr.size)
      obtain ⟨u, hu⟩ := fourK_at a k hlt
      have hcell : w2.cell? ⟨w.heap.size, 3 - k, none⟩ = some (.string ⟨u.toArray⟩) := (hblk2.cell _).trans hu
      have hfr : w2.frozen? ⟨w.heap.size, 3 - k, none⟩ = false := hblk2.frozen _
      have HB := Lib.hid hblk2
      clear hblk hb2 hbr hu hblk2
      go_wp2
      go_roundw
      case rel =>
        refine ⟨k + 1, by omega, by go_num, ?_, ?_, hb3.setCell (Nat.le_refl _) _⟩
        · rw [← HD.out]; rfl
        · rw [← HS.out]; exact HB.out.setCell _ _
      case measure => simp [intOf]; omega
    · obtain rfl : k = 4 := by omega
      have hc0 : ∀ (j : Nat) x, (fourT a)[j]? = some x → wr.cell? ⟨w.heap.size, j, none⟩ = some (txt x) := fun j x hj => by
        rw [hblk.cell, fourK_4]
        simp [hj]
      have hlen := textT_len a
      go_wp2_with fail
      refine (join_any w.heap.size 4 (fourT a) [46] wr hc0 hblk.lt (Nat.le_refl _) (by show (textT a).length ≤ _; omega) (by show 4 ≤ _; omega)).mono ?_
      rintro e w2 ⟨rfl, hb2⟩
      go_wp2
      go_ret
      exact ⟨rfl, hbr.trans (hb2.mono hbr.size)⟩
end Go.Proofs.YtfeeilpkfjfnaaaGreatDoor
