/- cover.Of: the iterator over the blocks of a span, and who ranges over it. -/
import Derived.Test.YtmfaknngophmhaaDoorTzMath
import Derived.Test.YtmfaknngophmhaaDoorAddr
import Derived.Test.YtmfaknngophmhaaDoorLayLen
import Derived.Test.YtmfaknngophmhaaDoorLayTz
import Derived.RangeFuncNested
import Derived.RangeFuncBound
import Derived.RangeFuncCalls
import Derived.RangeFuncLeaves
import Derived.RangeFuncBox
import Derived.RangeFuncFrom
import Derived.Shelf.Abstract
import Derived.Shelf.RegionOpen
import Derived.OwnWalkIn
import Derived.TacticsInMore
import Derived.LoopNIn
import Derived.LoopIn
import Derived.Maps.AppendAt
import Derived.Sort.QuietIn
namespace Go.Proofs.YtmfaknngophmhaaDoor
set_option linter.unusedVariables false
set_option linter.unusedSimpArgs false
open Go.RowKit Go.Shelf
attribute [local go_sem] Oper.semAt_some
theorem wide_fn (k : FuncId) : Fence.wide.fn k := trivial
theorem wide_depth : Fence.wide.depth = none := rfl
attribute [local go_sem] wide_fn wide_depth

/-- The table is laid. -/
def TabVar (w : World) : Prop := TabAt 1 Lib.deBruijn64tab w
theorem TabVar.lt {w : World} (h : TabVar w) : 1 < w.heap.size := World.block_lt_of_cell? w ⟨1, 0, none⟩ (h 0 (by decide))
theorem TabVar.belowB {w w' : World} {B : Nat} (h : TabVar w) (hb : Below B w w') (hB : 1 < B) : TabVar w' := fun j hj => (hb.cell (p := ⟨1, j, none⟩) hB).trans (h j hj)
theorem tz_any (x : Nat) (hx : x < 18446744073709551616) (w : World) (ht : TabVar w) :
    Calls Tryd.prog 82 #[.int .u64 (x : Int)] w fun e w' => e = .returned (.int .i64 (Lib.ctz 64 x : Int)) ∧ w' = w := Any7.bits_TrailingZeros64 layTz x hx w (fun _ => ht)
theorem len_any' (x : Nat) (h : x < 18446744073709551616) (w : World) : Calls Tryd.prog 74 #[.int .u64 (x : Int)] w fun e w' => e = .returned (.int .i64 (Lib.bitLen x : Int)) ∧ w' = w :=
  (Any.bits_Len layLen (x : Int) w (by omega) (by omega)).mono fun e w' ⟨h1, h2⟩ => ⟨by rw [h1, Int.toNat_natCast], h2⟩
theorem u64_or_nat (a b : Nat) (ha : a < 18446744073709551616) (hb : b < 18446744073709551616) : bits .or .u64 (a : Int) (b : Int) = ((a ||| b : Nat) : Int) := by
  have h3 := Nat.or_lt_two_pow (n := 64) (by simpa using ha) (by simpa using hb)
  have h1 : (BitVec.ofInt 64 (a : Int)).toNat = a := by simp [BitVec.toNat_ofInt]; omega
  have h2 : (BitVec.ofInt 64 (b : Int)).toNat = b := by simp [BitVec.toNat_ofInt]; omega
  show IntKind.u64.wrap ((BitVec.ofInt 64 (a : Int) ||| BitVec.ofInt 64 (b : Int)).toNat : Int) = _
  rw [BitVec.toNat_or, h1, h2, IntWalk.u64_in _ (by omega)]
theorem tz_at (Y : Nat) (hY : Y < 4294967296) (w : World) (ht : TabVar w) :
    Calls Tryd.prog 82 #[.int .u64 (bits .or .u64 (Y : Int) 4294967296)] w fun e w' => e = .returned (.int .i64 (tzOf Y : Int)) ∧ w' = w := by
  have := u64_or_nat Y 4294967296 (by omega) (by decide)
  rw [show ((4294967296 : Nat) : Int) = 4294967296 from rfl] at this
  rw [this]
  refine tz_any _ ?_ w ht
  rw [or_top hY]
  omega
theorem len_at (z : Int) (h0 : 0 ≤ z) (h1 : z < 18446744073709551616) (w : World) : Calls Tryd.prog 74 #[.int .u64 z] w fun e w' => e = .returned (.int .i64 (Lib.bitLen z.toNat : Int)) ∧ w' = w :=
  (Any.bits_Len layLen z w (by omega) (by omega)).mono fun e w' ⟨h1, h2⟩ => ⟨h1, h2⟩
theorem two_pow_cast (s : Nat) : ((2 : Int) ^ s) = ((2 ^ s : Nat) : Int) := by simp
theorem wrap_shl (Y s z : Nat) (hz : z = 2 ^ s) (hY : Y ≤ 4294967296) (hz2 : z ≤ 4294967296) : wrap64 ((Y : Int) + wrap64 ((2 : Int) ^ s)) = (Y : Int) + (z : Int) := by
  rw [two_pow_cast, ← hz]
  unfold wrap64
  omega
theorem abides_drewN {β : Type} {B : Nat} {J : β → World → Prop} (h : AbidesFrom B J) {s : β} {W : World} (hJ : J s W) (n : Nat) : J s (W.drewN n) :=
  h s W (W.drewN n) none hJ ⟨rfl, rfl, rfl, Nat.le_refl _, fun _ _ _ => rfl⟩ (fun r e => by cases e)

/-- What a round that goes on keeps: the span's box, and all below n₁. -/
def KpB (Bn n₁ : Nat) (W W' : World) : Prop := W'.heap[Bn]? = W.heap[Bn]? ∧ Below n₁ W W'
theorem KpB.refl (Bn n₁ : Nat) (W : World) : KpB Bn n₁ W W := ⟨rfl, Below.refl _ _⟩
theorem KpB.trans {Bn n₁ : Nat} {A B C : World} (h : KpB Bn n₁ A B) (k : KpB Bn n₁ B C) : KpB Bn n₁ A C := ⟨k.1.trans h.1, Below.trans h.2 k.2⟩
theorem KpB.drewN {Bn n₁ : Nat} {A B : World} (h : KpB Bn n₁ A B) (q : Nat) : KpB Bn n₁ A (B.drewN q) := ⟨h.1, below_drewN h.2 q⟩
theorem KpB.blk {Bn n₁ : Nat} {A B : World} {t : TypeId} {cs : Array Value} (h : KpB Bn n₁ A B) (hb : Blk A Bn t cs) : Blk B Bn t cs := h.1.trans hb

set_option maxRecDepth 100000 in
set_option maxHeartbeats 1000000 in
theorem blocks1_in (n : Nat) (hn : 1 ≤ n) (l Bn n₀ : Nat) (x hi : Int) (h0 : 0 ≤ x) (h1 : x ≤ hi + 1) (h2 : hi ≤ 4294967295) (J Jx : List Pf → World → Prop)
    (hY : ∀ pre (p : Pf) W, J pre W → pre.length < (cover x hi).length → YieldAt Fence.wide (n - 1) Tryd.prog l #[.agg #[.int .i64 p.1, .int .i64 p.2]] W fun e W' =>
      (e = .returned (.bool true) ∧ J (pre ++ [p]) W' ∧ KpB Bn n₀ W W') ∨ (e = .returned (.bool false) ∧ Jx (pre ++ [p]) W'))
    (W : World) (hJA : AbidesFrom W.heap.size J) (hg : 1 < n₀) (hBk : Blk W Bn 26 #[.int .i64 x, .int .i64 hi]) (ht : TabVar W) (hJ0 : J [] W) :
    CallsIn Fence.wide n Tryd.prog 81 #[.func (.yield l) #[] #[], .pointer (some ⟨Bn, 0, none⟩)] W fun e W' => (∃ v, e = .returned v) ∧
      ((∃ ys, ys = cover x hi ∧ J ys W') ∨ (∃ pre, pre <+: cover x hi ∧ Jx pre W')) := by
  refine callsIn_of_wp Tryd.func81 rfl trivial ?_ rfl
  simp only [Tryd.ntmps81, List.size_toArray, List.length_cons, List.length_nil, Nat.reduceAdd, Nat.reduceSub, Array.replicate_succ, Array.replicate_zero, List.push_toArray, List.append_toArray, List.nil_append, List.cons_append]
  obtain ⟨e0, e1, _⟩ := hBk.two
  gi_wp2
  gi_loopw [3, 4] (fun p _ wr => ∃ (pre : List Pf) (y : Int), p = .int .i64 y ∧ 0 ≤ y ∧ y ≤ hi + 1 ∧ cover x hi = pre ++ cover y hi ∧ KpB Bn n₀ W wr ∧ J pre wr)
    (fun p _ _ => (hi + 1 - intOf p).toNat)
  case atStart => exact ⟨[], x, rfl, h0, h1, rfl, KpB.refl _ _ _, hJ0⟩
  case round =>
    obtain ⟨pre, y, rfl, y0, y1, hx, hb, hJs⟩ := hrel
    obtain ⟨d0, d1, _⟩ := (hb.blk hBk).two
    by_cases hle : y ≤ hi
    · have hT := ht.belowB hb.2 hg
      obtain ⟨Y, rfl⟩ : ∃ Y : Nat, y = (Y : Int) := ⟨y.toNat, by omega⟩
      gi_wp2
      gi_quiet (first
        | (gi_at_call 82; go_loud (exact CallsIn.quiet_of_same (callsIn_wide.2 (tz_at Y (by omega) _ hT))))
        | (gi_at_call 74; go_loud (exact CallsIn.quiet_of_same (callsIn_wide.2 (len_at _ (by omega) (by omega) _)))))
      obtain ⟨s, hs⟩ : ∃ s, s = min (tzOf (Y : Int).toNat) (Lib.bitLen (hi - (Y : Int) + 1).toNat - 1) := ⟨_, rfl⟩
      obtain ⟨hs32, hblk⟩ := blk_size y0 hle (by unfold maxA; exact h2) hs
      obtain ⟨l1, _, _⟩ := len_facts (d := (hi - (Y : Int) + 1).toNat) (by omega) (by omega)
      have hL64 : Lib.bitLen (hi - (Y : Int) + 1).toNat ≤ 64 := Lib.bitLen_le _ 64 (by decide) (by omega)
      have hsz : min ((tzOf Y : Nat) : Int) (wrap64 ((Lib.bitLen (hi - (Y : Int) + 1).toNat : Int) - 1)) = (s : Int) := by
        rw [show wrap64 ((Lib.bitLen (hi - (Y : Int) + 1).toNat : Int) - 1) = (Lib.bitLen (hi - (Y : Int) + 1).toNat : Int) - 1 by unfold wrap64; omega, hs, Int.toNat_natCast]
        omega
      rw [hsz]
      obtain ⟨z, hz⟩ : ∃ z : Nat, z = 2 ^ s := ⟨_, rfl⟩
      have hz32 : z ≤ 4294967296 := by rw [hz]; exact (show 2 ^ s ≤ 2 ^ 32 from Nat.pow_le_pow_right (by decide) hs32)
      have hz1 : 1 ≤ z := by rw [hz]; exact Nat.two_pow_pos s
      have hstep : cover (Y : Int) hi = ((Y : Int), 32 - (s : Int)) :: cover ((Y : Int) + (z : Int)) hi := by
        rw [cover_step hle, hblk]
        congr 2
        unfold lastA
        rw [sz_pow s hs32, ← hz]
        omega
      have hnext := (blk_spec y0 hle (by unfold maxA; exact h2)).2.1
      rw [hblk] at hnext
      unfold lastA at hnext
      rw [sz_pow s hs32, ← hz] at hnext
      have hJq := abides_drewN hJA hJs nq
      have hbq : KpB Bn n₀ W (wr.drewN nq) := hb.drewN nq
      obtain ⟨fn, tmps, assign, body, hy, hR⟩ := hY pre ((Y : Int), 32 - (s : Int)) (wr.drewN nq) hJq (by rw [hx, hstep]; simp)
      have HS := Lib.hid hs
      have HB := Lib.hid hblk
      have HST := Lib.hid hstep
      have HSZ := Lib.hid hsz
      have HV := Lib.hid (wrap_shl Y s z hz (by omega) hz32)
      have HX := Lib.hid hx
      clear hs hblk hstep hsz hx hJs hJq hb d0 d1 hT hz
      gi_wp2
      refine hR.mono ?_
      rintro e W3 (⟨rfl, hJ3, hk3⟩ | ⟨rfl, hJx3⟩)
      · have hb3 := hbq.trans hk3
        gi_wp2
        rw [HV.out]
        go_roundw
        case rel => exact ⟨pre ++ [((Y : Int), 32 - (s : Int))], (Y : Int) + (z : Int), by go_num, by omega, by omega, by rw [HX.out, HST.out]; simp, hb3, hJ3⟩
        case measure => simp [intOf]; omega
      · gi_wp2
        refine bodyPost_ret (results_none rfl _ _ _) rfl ?_
        exact ⟨⟨_, rfl⟩, .inr ⟨pre ++ [((Y : Int), 32 - (s : Int))], ⟨cover ((Y : Int) + (z : Int)) hi, by rw [HX.out, HST.out]; simp⟩, hJx3⟩⟩
    · have HX := Lib.hid (show cover x hi = pre by rw [hx, cover_end hle, List.append_nil])
      clear hx
      gi_wp2
      go_end0
      exact ⟨⟨_, rfl⟩, .inl (by rw [HX.out]; exact hJs)⟩
end Go.Proofs.YtmfaknngophmhaaDoor
