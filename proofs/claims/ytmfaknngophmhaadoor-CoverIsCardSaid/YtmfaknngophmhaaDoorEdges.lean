/- The reference edges: its list of all edges. Any two lists of spans that may be. -/
import Derived.Test.YtmfaknngophmhaaDoorRefSpan
import Derived.Test.YtmfaknngophmhaaDoorTogMath
import Derived.Test.YtmfaknngophmhaaDoorCut
import Derived.Test.YtmfaknngophmhaaDoorTail
import Derived.Deep.RegionHeld3
namespace Go.Proofs.YtmfaknngophmhaaDoor
set_option linter.unusedVariables false
set_option linter.unusedSimpArgs false
open Go.RowKit

theorem infoI : (Tryd.prog.info? 3).map (fun i => (i.zero, i.size, i.bytes)) = some (some (.int .i64 0), 1, 8) := by kernel_rfl
theorem edgesOf_snoc (l : List Sp) (k : Nat) (h : k < l.length) : edgesOf (l.take (k + 1)) = edgesOf (l.take k) ++ [l[k].1, l[k].2 + 1] := by
  unfold edgesOf; rw [List.take_succ_eq_append_getElem h, List.flatMap_append]; simp
theorem edgesOf_length (l : List Sp) : (edgesOf l).length = 2 * l.length := by
  induction l with
  | nil => rfl
  | cons s r ih => simp [edgesOf] at ih ⊢; omega
def EMid2 (A B : Option Addr) (l m : List Sp) (c d : Nat) (w : World) (a' : Act) (w' : World) : Prop :=
  ∃ (U : Nat → Value) (v : Value), a' = { tmps := #[U 0, U 1, U 2, U 3, .slice none 0 0, .slice none 0 0, v, U 7, U 8, U 9, U 10, U 11, U 12, U 13, U 14, U 15, U 16, U 17, U 18, U 19, U 20, U 21, U 22, U 23, U 24, U 25, U 26, U 27, U 28, U 29, U 30, U 31, U 32, U 33, U 34, U 35, U 36, U 37, U 38, U 39, U 40, U 41, U 42, U 43, U 44, U 45, U 46, U 47, U 48, U 49, U 50, U 51, U 52, U 53, U 54, U 55, U 56, U 57, U 58, U 59, U 60, U 61, U 62, U 63, U 64, U 65, U 66, U 67, U 68, U 69, U 70, U 71, U 72, U 73, U 74, U 75, U 76, U 77, U 78, U 79, U 80, U 81, U 82, U 83, U 84, U 85, U 86, U 87, U 88, U 89, U 90, U 91, U 92, U 93, U 94, U 95, U 96, U 97, U 98, U 99, U 100, U 101, U 102, U 103, U 104, U 105, U 106, U 107], defers := [] } ∧ Below w.heap.size w w' ∧ w'.ownsRow w.heap.size 3 1 v (edgesOf l ++ edgesOf m).length ((edgesOf l ++ edgesOf m).map (Value.int .i64))
theorem EMid2.mk {A B : Option Addr} {l m : List Sp} {c d : Nat} {w : World} {T : Array Value} {w' : World} (v : Value) (hT : T = #[T.getD 0 undef, T.getD 1 undef, T.getD 2 undef, T.getD 3 undef, .slice none 0 0, .slice none 0 0, v, T.getD 7 undef, T.getD 8 undef, T.getD 9 undef, T.getD 10 undef, T.getD 11 undef, T.getD 12 undef, T.getD 13 undef, T.getD 14 undef, T.getD 15 undef, T.getD 16 undef, T.getD 17 undef, T.getD 18 undef, T.getD 19 undef, T.getD 20 undef, T.getD 21 undef, T.getD 22 undef, T.getD 23 undef, T.getD 24 undef, T.getD 25 undef, T.getD 26 undef, T.getD 27 undef, T.getD 28 undef, T.getD 29 undef, T.getD 30 undef, T.getD 31 undef, T.getD 32 undef, T.getD 33 undef, T.getD 34 undef, T.getD 35 undef, T.getD 36 undef, T.getD 37 undef, T.getD 38 undef, T.getD 39 undef, T.getD 40 undef, T.getD 41 undef, T.getD 42 undef, T.getD 43 undef, T.getD 44 undef, T.getD 45 undef, T.getD 46 undef, T.getD 47 undef, T.getD 48 undef, T.getD 49 undef, T.getD 50 undef, T.getD 51 undef, T.getD 52 undef, T.getD 53 undef, T.getD 54 undef, T.getD 55 undef, T.getD 56 undef, T.getD 57 undef, T.getD 58 undef, T.getD 59 undef, T.getD 60 undef, T.getD 61 undef, T.getD 62 undef, T.getD 63 undef, T.getD 64 undef, T.getD 65 undef, T.getD 66 undef, T.getD 67 undef, T.getD 68 undef, T.getD 69 undef, T.getD 70 undef, T.getD 71 undef, T.getD 72 undef, T.getD 73 undef, T.getD 74 undef, T.getD 75 undef, T.getD 76 undef, T.getD 77 undef, T.getD 78 undef, T.getD 79 undef, T.getD 80 undef, T.getD 81 undef, T.getD 82 undef, T.getD 83 undef, T.getD 84 undef, T.getD 85 undef, T.getD 86 undef, T.getD 87 undef, T.getD 88 undef, T.getD 89 undef, T.getD 90 undef, T.getD 91 undef, T.getD 92 undef, T.getD 93 undef, T.getD 94 undef, T.getD 95 undef, T.getD 96 undef, T.getD 97 undef, T.getD 98 undef, T.getD 99 undef, T.getD 100 undef, T.getD 101 undef, T.getD 102 undef, T.getD 103 undef, T.getD 104 undef, T.getD 105 undef, T.getD 106 undef, T.getD 107 undef]) (h : Below w.heap.size w w' ∧ w'.ownsRow w.heap.size 3 1 v (edgesOf l ++ edgesOf m).length ((edgesOf l ++ edgesOf m).map (Value.int .i64))) : EMid2 A B l m c d w { tmps := T, defers := [] } w' :=
  ⟨fun i => T.getD i undef, v,  congrArg (fun t => ({ tmps := t, defers := [] } : Act)) hT, h⟩
set_option maxRecDepth 100000 in
set_option maxHeartbeats 4000000 in
theorem edges_12 (A B : Option Addr) (l m : List Sp) (c d : Nat) (w : World) (hL : l.length ≤ 1000000) (hM : m.length ≤ 1000000) (vl : Valid l) (vm : Valid m) (hl : Rd w w.heap.size A (cellsP l)) (hr : Rd w w.heap.size B (cellsP m)) (R : Ending → World → Prop)
    (h : ∀ a' w', EMid2 A B l m c d w a' w' → (tailN 5 (Tryd.f46.body.getD .skip)).wp Tryd.prog (bodyPost Tryd.prog Tryd.f46 R) a' w') :
    Calls Tryd.prog 46 #[.slice A l.length c, .slice B m.length d] w R := by
  have VL := Lib.hid vl
  have VM := Lib.hid vm
  clear vl vm
  obtain ⟨i0, hi0, hz0, hz1, hz2⟩ := info_parts infoI
  go_enter Tryd.func46, Tryd.ntmps46
  refine wp_cut 5 (EMid2 A B l m c d w) (by rfl) ?_ h
  clear h
  intro r HR
  dsimp only [putN]
  have hB0 := Below.refl w.heap.size w
  have hown0 := World.ownsRow_nil w w.heap.size 3 1
  go_wp2
  go_loopw [6, 7] (fun v i wx => ∃ k : Nat, k ≤ l.length ∧ i = .int .i64 k ∧ Below w.heap.size w wx ∧ wx.ownsRow w.heap.size 3 1 v (edgesOf (l.take k)).length ((edgesOf (l.take k)).map (Value.int .i64))) (fun _ i _ => l.length - (intOf i).toNat)
  case atStart => exact ⟨0, Nat.zero_le _, rfl, hB0, by simpa [edgesOf] using hown0⟩
  case round =>
    obtain ⟨k, hk, rfl, hb, hown⟩ := hrel
    by_cases hlt : k < l.length
    · obtain ⟨b, off, rfl, hbb, c0, c1⟩ := (hl.below hb).pair hlt
      have hs := hb.size
      obtain ⟨v1, v2, v3⟩ := VL.out l[k] (List.getElem_mem _)
      unfold maxA at v3
      have hne : u6.ownBlock ≠ some b := fun e => by have := (hown.lt b e).1; omega
      have lb := World.block_lt_of_cell? wr _ c0
      have hlen : (edgesOf (l.take k)).length ≤ 4000000 := by
        simp only [List.length_append, edgesOf_length, List.length_take]; omega
      have HS := Lib.hid (edgesOf_snoc l k hlt)
      obtain ⟨X, hX⟩ : ∃ X, X = edgesOf (l.take k) := ⟨_, rfl⟩
      rw [← hX] at hown hlen
      have HX := Lib.hid hX
      clear hX
      have HW := Lib.hid (show IntKind.i64.wrap (l[k].2 + 1) = l[k].2 + 1 from IntWalk.i64_in _ (by omega))
      go_wp2_with fail
      go_region_held3 (fun w' => w'.cell? ⟨b, off + k * 2, none⟩ = some (.int .i64 l[k].1) ∧ w'.cell? ⟨b, off + k * 2 + 1, none⟩ = some (.int .i64 l[k].2))
        (first
          | go_keep
          | (go_split_ands
             refine ⟨?_, ?_⟩
             · (rw [hgrow.cell_far _ (by simp; omega) (Ne.symm hne)]; assumption)
             · (rw [hgrow.cell_far _ (by simp; omega) (Ne.symm hne)]; assumption)))
        ((refine step_append_lies _ (by rfl) _ _ _ (by rfl) w.heap.size 3 i0 _ 1 8 Tryd.underlying81 hi0 hz0 hz1 hz2 rfl (by omega) u6 X.length (X.map (Value.int .i64)) (by rfl) ((hown.alloc _).drew)
            ⟨wr.heap.size, 0, none⟩ 2 2 [.int .i64 l[k].1, .int .i64 (IntKind.i64.wrap (l[k].2 + 1))] (by rfl) (by rfl) (World.news_of_block (cs := #[.int .i64 l[k].1, .int .i64 (IntKind.i64.wrap (l[k].2 + 1))]) (t := 3) (fr := (0, 0)) (heap_alloc_new wr _)) (by simp [Value.oneCell'])
            (by omega) (by unfold maxLen; omega) (by omega) (by simp; omega) (wr.heap.size + 1) (by simp) ?_; intro gg cap w1 hown1 hgrow hat hlt1))
      have hb1 : Below w.heap.size w w1 := ((hb.alloc hs _).drew).grown hgrow (by simp; omega) (fun q hq => (hown.lt q hq).1)
      rw [HW.out] at hown1
      have hown2 : w1.ownsRow w.heap.size 3 1 (.slice (some ⟨gg, 0, none⟩) (X.length + 2) cap) (X ++ [l[k].1, l[k].2 + 1]).length ((X ++ [l[k].1, l[k].2 + 1]).map (Value.int .i64)) := by
        simpa using hown1
      clear hown1 hgrow hat hlt1 hown hne lb c0 c1
      go_wp2
      go_roundw
      case rel => exact ⟨k + 1, by omega, by go_num, hb1, by rw [HS.out];  rw [← HX.out]; exact hown2⟩
      case measure => simp [intOf]; omega
    · obtain rfl : k = l.length := by omega
      rw [List.take_length] at hown
      have hB1 := hb
      have hown0 := hown
      clear hown hb hk
      go_wp2
      go_loopw [6, 8] (fun v i wx => ∃ k : Nat, k ≤ m.length ∧ i = .int .i64 k ∧ Below w.heap.size w wx ∧ wx.ownsRow w.heap.size 3 1 v (edgesOf l ++ edgesOf (m.take k)).length ((edgesOf l ++ edgesOf (m.take k)).map (Value.int .i64))) (fun _ i _ => m.length - (intOf i).toNat)
      case atStart => exact ⟨0, Nat.zero_le _, rfl, hB1, by simpa [edgesOf] using hown0⟩
      case round =>
        obtain ⟨k, hk, rfl, hb, hown⟩ := hrel
        by_cases hlt : k < m.length
        · obtain ⟨b, off, rfl, hbb, c0, c1⟩ := (hr.below hb).pair hlt
          have hs := hb.size
          obtain ⟨v1, v2, v3⟩ := VM.out m[k] (List.getElem_mem _)
          unfold maxA at v3
          have hne : u6.ownBlock ≠ some b := fun e => by have := (hown.lt b e).1; omega
          have lb := World.block_lt_of_cell? wr _ c0
          have hlen : (edgesOf l ++ edgesOf (m.take k)).length ≤ 4000000 := by
            simp only [List.length_append, edgesOf_length, List.length_take]; omega
          have HS := Lib.hid (edgesOf_snoc m k hlt)
          obtain ⟨X, hX⟩ : ∃ X, X = edgesOf l ++ edgesOf (m.take k) := ⟨_, rfl⟩
          rw [← hX] at hown hlen
          have HX := Lib.hid hX
          clear hX
          have HW := Lib.hid (show IntKind.i64.wrap (m[k].2 + 1) = m[k].2 + 1 from IntWalk.i64_in _ (by omega))
          go_wp2_with fail
          go_region_held3 (fun w' => w'.cell? ⟨b, off + k * 2, none⟩ = some (.int .i64 m[k].1) ∧ w'.cell? ⟨b, off + k * 2 + 1, none⟩ = some (.int .i64 m[k].2))
            (first
              | go_keep
              | (go_split_ands
                 refine ⟨?_, ?_⟩
                 · (rw [hgrow.cell_far _ (by simp; omega) (Ne.symm hne)]; assumption)
                 · (rw [hgrow.cell_far _ (by simp; omega) (Ne.symm hne)]; assumption)))
            ((refine step_append_lies _ (by rfl) _ _ _ (by rfl) w.heap.size 3 i0 _ 1 8 Tryd.underlying81 hi0 hz0 hz1 hz2 rfl (by omega) u6 X.length (X.map (Value.int .i64)) (by rfl) ((hown.alloc _).drew)
                ⟨wr.heap.size, 0, none⟩ 2 2 [.int .i64 m[k].1, .int .i64 (IntKind.i64.wrap (m[k].2 + 1))] (by rfl) (by rfl) (World.news_of_block (cs := #[.int .i64 m[k].1, .int .i64 (IntKind.i64.wrap (m[k].2 + 1))]) (t := 3) (fr := (0, 0)) (heap_alloc_new wr _)) (by simp [Value.oneCell'])
                (by omega) (by unfold maxLen; omega) (by omega) (by simp; omega) (wr.heap.size + 1) (by simp) ?_; intro gg cap w1 hown1 hgrow hat hlt1))
          have hb1 : Below w.heap.size w w1 := ((hb.alloc hs _).drew).grown hgrow (by simp; omega) (fun q hq => (hown.lt q hq).1)
          rw [HW.out] at hown1
          have hown2 : w1.ownsRow w.heap.size 3 1 (.slice (some ⟨gg, 0, none⟩) (X.length + 2) cap) (X ++ [m[k].1, m[k].2 + 1]).length ((X ++ [m[k].1, m[k].2 + 1]).map (Value.int .i64)) := by
            simpa using hown1
          clear hown1 hgrow hat hlt1 hown hne lb c0 c1
          go_wp2
          go_roundw
          case rel => exact ⟨k + 1, by omega, by go_num, hb1, by rw [HS.out]; rw [← List.append_assoc]; rw [← HX.out]; exact hown2⟩
          case measure => simp [intOf]; omega
        · obtain rfl : k = m.length := by omega
          rw [List.take_length] at hown
          have hB2 := hb
          go_wp2
          exact HR.out _ _ (EMid2.mk _ (by kernel_rfl) ⟨hB2, hown⟩)
end Go.Proofs.YtmfaknngophmhaaDoor
