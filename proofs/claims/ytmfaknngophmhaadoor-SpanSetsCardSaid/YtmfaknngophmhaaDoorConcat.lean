/- slices.Grow of nil, slices.Concat of two, at spans; span.Union, Meet, Minus. -/
import Derived.Test.YtmfaknngophmhaaDoorMake
import Derived.Test.YtmfaknngophmhaaDoorLayGrow
namespace Go.Proofs.YtmfaknngophmhaaDoor
set_option linter.unusedVariables false
set_option linter.unusedSimpArgs false
open Go.RowKit

theorem grow_any (n : Nat) (hn : n ≤ 1000000) (w : World) :
    Calls Tryd.prog 80 #[.slice none 0 0, .int .i64 n] w fun e w' => ∃ v, e = .returned v ∧ w'.ownsRow w.heap.size 26 2 v 0 [] ∧ Below w.heap.size w w' := by
  rcases Nat.eq_zero_or_pos n with h | h
  · have hcon := Any8.slices_Grow_room layGrow none 0 0 n w (by omega) (by omega) (by omega) (by omega)
    change Calls Tryd.prog 80 _ _ _ at hcon
    refine hcon.mono ?_
    rintro e w' ⟨rfl, rfl⟩
    exact ⟨_, rfl, World.ownsRow_nil _ _ _ _, Below.refl _ _⟩
  · obtain ⟨i0, hi0, hz0, hz1, hz2⟩ := info_parts infoSp
    have hcon := Any8.slices_Grow_grow layGrow i0 _ hi0 hz0 (by rw [hz1]; decide) none 0 0 n [] w (by omega) (by omega) (by rw [hz2]; omega) (by omega) (by simp) (fun _ => rfl) (fun a h => by cases h)
    change Calls Tryd.prog 80 _ _ _ at hcon
    refine hcon.mono ?_
    rintro e w' ⟨rfl, rfl⟩
    have hle : 0 + n ≤ grownCap w (0 + n) 0 26 := grownCap_ge w _ _ _
    refine ⟨_, rfl, World.ownsRow_made w.drew _ _ (Nat.le_refl _) (grownCap_le_maxLen w _ _ _ (by unfold maxLen; omega)) ?_, ((Below.refl _ _).drew).alloc (Nat.le_refl _) _⟩
    simp only [Array.size_append, List.size_toArray, size_zeroCells, List.length_nil, Value.cells]
    show 0 + (0 + n - 0) * 2 + (grownCap w (0 + n) 0 26 - (0 + n)) * 2 = grownCap w (0 + n) 0 26 * 2
    omega

set_option maxRecDepth 100000 in
set_option maxHeartbeats 1600000 in
theorem concat_any (A B : Option Addr) (a b : List Sp) (c d g : Nat) (ha : a.length ≤ 1000) (hb : b.length ≤ 1000) (w : World) (hg : Blk w g 22 #[.slice A a.length c, .slice B b.length d]) (hl : Rd w w.heap.size A (cellsP a)) (hr : Rd w w.heap.size B (cellsP b)) :
    Calls Tryd.prog 55 #[.slice (some ⟨g, 0, none⟩) 2 2] w (OwnRes 26 w (a ++ b)) := by
  have hlt := hg.lt
  obtain ⟨g0, g1, _⟩ := hg.two
  go_enter Tryd.func55, Tryd.ntmps55
  go_wp2
  go_loopw [3, 5, 11] (fun vs _ vi wr => w = wr ∧ ((vi = .int .i64 0 ∧ vs = .int .i64 0) ∨ (vi = .int .i64 1 ∧ vs = .int .i64 a.length) ∨ (vi = .int .i64 2 ∧ vs = .int .i64 ((a.length : Int) + b.length)))) (fun _ _ vi _ => 2 - (intOf vi).toNat)
  case atStart => exact ⟨rfl, .inl ⟨rfl, rfl⟩⟩
  case round =>
    obtain ⟨rfl, hc⟩ := hrel
    rcases hc with ⟨rfl, rfl⟩ | ⟨rfl, rfl⟩ | ⟨rfl, rfl⟩
    · go_wp2
      go_roundw
      case rel => exact ⟨trivial, .inr (.inl ⟨by go_num, by go_num⟩)⟩
      case measure => simp [intOf]
    · go_wp2
      go_roundw
      case rel => exact ⟨trivial, .inr (.inr ⟨by go_num, by go_num⟩)⟩
      case measure => simp [intOf]
    · have hN : ((a.length : Int) + b.length) = ((a.length + b.length : Nat) : Int) := by omega
      rw [hN]
      clear hN
      go_wp2_with fail
      refine (grow_any (a.length + b.length) (by omega) _).mono ?_
      rintro e w1 ⟨v1, rfl, hown1, hb1⟩
      have hs1 := hb1.size
      have hg1 := hg.below hb1 hlt
      have hl1 := hl.below hb1
      have hr1 := hr.below hb1
      clear g0 g1
      go_wp2
      go_loopw [6, 8, 27] (fun v _ vi wr => Below w.heap.size w wr ∧ ((vi = .int .i64 0 ∧ OwnP wr w.heap.size 26 v []) ∨ (vi = .int .i64 1 ∧ OwnP wr w.heap.size 26 v a) ∨ (vi = .int .i64 2 ∧ OwnP wr w.heap.size 26 v (a ++ b)))) (fun _ _ vi _ => 2 - (intOf vi).toNat)
      case atStart => exact ⟨hb1, .inl ⟨rfl, hown1⟩⟩
      case round =>
        obtain ⟨hbr, hc⟩ := hrel
        have hsr := hbr.size
        obtain ⟨g0, g1, _⟩ := (hg.below hbr hlt).two
        have hlr := hl.below hbr
        have hrr := hr.below hbr
        rcases hc with ⟨rfl, hown⟩ | ⟨rfl, hown⟩ | ⟨rfl, hown⟩
        · go_wp2_with (at_builtin; refine wpList_append_rd rfl _ _ 22 rfl 26 Tryd.underlying22 _ 2 16 infoSp rfl (by decide) w.heap.size _ 0 _ rfl hown w.heap.size A a.length c _ rfl (by rw [cellsP_length]) hlr (cellsP_one a) (by unfold maxLen; omega) (by omega) hsr ?_; intro v5 w5 hown5 hb5)
          go_roundw
          case rel => exact ⟨hbr.trans hb5, .inr (.inl ⟨by go_num, by simpa [OwnP, cellsP] using hown5⟩)⟩
          case measure => simp [intOf]
        · go_wp2_with (at_builtin; refine wpList_append_rd rfl _ _ 22 rfl 26 Tryd.underlying22 _ 2 16 infoSp rfl (by decide) w.heap.size _ a.length _ rfl hown w.heap.size B b.length d _ rfl (by rw [cellsP_length]) hrr (cellsP_one b) (by unfold maxLen; omega) (by omega) hsr ?_; intro v5 w5 hown5 hb5)
          go_roundw
          case rel => exact ⟨hbr.trans hb5, .inr (.inr ⟨by go_num, by unfold OwnP; rw [List.length_append, cellsP_append]; exact hown5⟩)⟩
          case measure => simp [intOf]
        · go_wp2
          go_ret
          exact ⟨_, rfl, hown, hbr⟩
end Go.Proofs.YtmfaknngophmhaaDoor
