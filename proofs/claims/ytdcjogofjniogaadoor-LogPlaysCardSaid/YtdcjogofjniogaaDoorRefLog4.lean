/- Contract of the document's (*Log).Crash: as many lists as end within the bytes that are left. No conditions. -/
import Derived.Test.YtdcjogofjniogaaDoorRefLog2
namespace Go.Proofs.YtdcjogofjniogaaDoor
set_option linter.unusedVariables false
set_option linter.unusedSimpArgs false
open Go.RowKit

/-- What the crash leaves. -/
def RefCut (w : World) (b0 m : Nat) (vl ve vb : Value) (room : Int) (ls : List (List Chg)) (n : Nat) (w' : World) : Prop :=
  ∃ k A1 A2 A3 c1 c2 c3, k ≤ ls.length ∧ (frames (ls.take k)).length ≤ n ∧ (k < ls.length → n < (frames (ls.take (k + 1))).length) ∧
    vl = .slice A1 ls.length c1 ∧ ve = .slice A2 ls.length c2 ∧ (∃ nb, vb = .slice A3 nb c3 ∧ (frames (ls.take k)).length ≤ nb) ∧
    Blk w' m 47 #[.int .i64 room, .slice A1 k c1, .slice A2 k c2, .slice A3 (frames (ls.take k)).length c3, .int .i64 (frames (ls.take k)).length, .int .i64 (-1), .bool false] ∧ RO w w' m
theorem frames_mono (ls : List (List Chg)) (k : Nat) : (frames (ls.take k)).length ≤ (frames ls).length := frames_take_le ls k
theorem facts {w w' : World} {m : Nat} {a0 a1 a2 a3 a4 a5 a6 : Value} (h : Blk w m 47 #[a0, a1, a2, a3, a4, a5, a6]) (hb : Below w.heap.size w w') (hg : m < w.heap.size) :
    (w'.cell? ⟨m, 0, none⟩ = some a0 ∧ w'.cell? ⟨m, 1, none⟩ = some a1 ∧ w'.cell? ⟨m, 2, none⟩ = some a2 ∧ w'.cell? ⟨m, 3, none⟩ = some a3 ∧ w'.cell? ⟨m, 4, none⟩ = some a4 ∧ w'.cell? ⟨m, 5, none⟩ = some a5 ∧ w'.cell? ⟨m, 6, none⟩ = some a6) ∧
    w'.frozen? ⟨m, 1, none⟩ = false ∧ w'.frozen? ⟨m, 2, none⟩ = false ∧ w'.frozen? ⟨m, 3, none⟩ = false ∧ w'.frozen? ⟨m, 4, none⟩ = false ∧ w'.frozen? ⟨m, 5, none⟩ = false ∧ w'.frozen? ⟨m, 6, none⟩ = false := by
  have h := h.below hb hg
  exact ⟨⟨h.cell 0, h.cell 1, h.cell 2, h.cell 3, h.cell 4, h.cell 5, h.cell 6⟩, h.frozen 1, h.frozen 2, h.frozen 3, h.frozen 4, h.frozen 5, h.frozen 6⟩
theorem ends_at {w : World} {B : Nat} {A : Option Addr} {ls : List (List Chg)} (h : Rd w B A (cellsE ls)) {k : Nat} (hk : k < ls.length) : ∃ b off, A = some ⟨b, off, none⟩ ∧ b < B ∧ w.cell? ⟨b, off + k, none⟩ = some (.int .i64 ((frames (ls.take (k + 1))).length : Nat)) := by
  have he := cellsE_at ls hk
  obtain ⟨b, off, e, hb, hc⟩ := h (fun h => by rw [h] at he; simp at he)
  exact ⟨b, off, e, hb, hc k _ he⟩
set_option maxRecDepth 100000 in
set_option maxHeartbeats 4000000 in
theorem RefAt.crash0 {w : World} {b0 m : Nat} {vl ve vb : Value} {left room : Int} {down : Bool} {ls : List (List Chg)} {B : List UInt8} {safe : Nat} (h : RefAt w b0 m vl ve vb left down room ls B safe) (keep : Int) (hk : (Lit.int .i64 keep).wf = true) :
    Calls Tryd.prog 18 #[.pointer (some ⟨m, 0, none⟩), .int .i64 keep] w fun e w' => e = .returned (.tuple #[]) ∧ RefCut w b0 m vl ve vb room ls (crashN keep B.length safe) w' := by
  have hi := i64_of hk
  obtain ⟨n, hn⟩ : ∃ n, n = crashN keep B.length safe := ⟨_, rfl⟩
  rw [← hn]
  have hBl : B.length ≤ 100000 := by have := h.hr; omega
  have hsl := h.hs
  have hfl := h.hf
  have hlf := len_frames ls
  have hnB : n ≤ B.length ∧ safe ≤ n := by
    rw [hn]; unfold crashN
    split
    · omega
    · split <;> omega
  obtain ⟨xs, hxo, _⟩ := h.hls
  obtain ⟨A1, c1, rfl, hc1, _⟩ := own_form2 hxo
  obtain ⟨A2, c2, rfl, hc2, hr2⟩ := own_form2 h.hes
  obtain ⟨A3, c3, rfl, hc3, _⟩ := own_form2 h.hbs
  obtain ⟨⟨x0, x1, x2, x3, x4, x5, x6⟩, z1, z2, z3, z4, z5, z6⟩ := h.cells
  have HB := Lib.hid h.hB
  have HFM := Lib.hid (frames_mono ls)
  have hgl := h.hB.lt
  have k3 : ∀ x : BelW w.heap.size w, x.1.cell? ⟨m, 3, none⟩ = some (.slice A3 B.length c3) := BelW.cell x3 hgl
  have k4 : ∀ x : BelW w.heap.size w, x.1.cell? ⟨m, 4, none⟩ = some (.int .i64 safe) := BelW.cell x4 hgl
  clear h hk hxo
  by_cases hk1 : keep ≤ 0
  · have hns : n = safe := by rw [hn]; unfold crashN; rw [if_pos hk1]
    have d1 : decide ((0 : Int) < keep) = false := decide_eq_false (by omega)
    clear hn
    subst hns
    go_enter Tryd.func18, Tryd.ntmps18
    go_wp2_with fail
    refine wp_region_bel w.heap.size w (by kernel_rfl) (by kernel_rfl) (Below.refl _ _) ?_
    repeat (go_big_quiet_step (fail))
    refine wpQuiet_nil ?_
    intro w1 hb1
    have hs1 := hb1.size
    clear k3 k4
    have y2 := (hb1.cell (p := ⟨m, 2, none⟩) hgl).trans x2
    have y3 := (hb1.cell (p := ⟨m, 3, none⟩) hgl).trans x3
    have y4 := (hb1.cell (p := ⟨m, 4, none⟩) hgl).trans x4
    go_wp2_with fail
    go_loopw [5, 6] (fun vk ve wr => ∃ k : Nat, k ≤ ls.length ∧ vk = .int .i64 k ∧ ve = .int .i64 (frames (ls.take k)).length ∧ (frames (ls.take k)).length ≤ n ∧ Below w.heap.size w wr) (fun vk _ _ => ls.length - (intOf vk).toNat)
    case atStart => exact ⟨0, Nat.zero_le _, rfl, rfl, by simp [frames], hb1⟩
    case round =>
      obtain ⟨k, hk, rfl, rfl, hkn, hb⟩ := hrel
      have hs := hb.size
      obtain ⟨⟨x0, x1, x2, x3, x4, x5, x6⟩, z1, z2, z3, z4, z5, z6⟩ := facts HB.out hb hgl
      by_cases hlt : k < ls.length
      · have dlt : decide ((k : Int) < (ls.length : Int)) = true := decide_eq_true (by omega)
        have hk0 : (0 : Int) ≤ (k : Int) := by omega
        have hk1 : (k : Int) < (ls.length : Int) := by omega
        obtain ⟨be, oe, rfl, hbe, ce⟩ := ends_at (hr2.below hb) hlt
        have hlast := HFM.out (k + 1)
        by_cases hend : (frames (ls.take (k + 1))).length ≤ n
        · have dend : decide ((frames (ls.take (k + 1))).length ≤ n) = true := decide_eq_true hend
          go_wp2
          go_roundw
          case rel => exact ⟨k + 1, by omega, by go_num, rfl, hend, hb⟩
          case measure => simp [intOf]; omega
        · have dend : decide ((frames (ls.take (k + 1))).length ≤ n) = false := decide_eq_false hend
          go_wp2
          go_end0
          exact ⟨rfl, k, A1, _, A3, c1, c2, c3, hk, hkn, fun _ => by omega, rfl, rfl, ⟨B.length, rfl, by have := HFM.out k; omega⟩, (((((((HB.out.below hb hgl).setCell 1 _).setCell 2 _).setCell 3 _).setCell 4 _).setCell 5 _).setCell 6 _), fun vl ve vb => ((((((RK.of_below hb).setCell 1 _).setCell 2 _).setCell 3 _).setCell 4 _).setCell 5 _).setCell 6 _⟩
      · have dlt : decide ((k : Int) < (ls.length : Int)) = false := decide_eq_false (by omega)
        obtain rfl : k = ls.length := by omega
        go_wp2
        go_end0
        exact ⟨rfl, ls.length, A1, _, A3, c1, c2, c3, Nat.le_refl _, hkn, fun h => absurd h (Nat.lt_irrefl _), rfl, rfl, ⟨B.length, rfl, by have := HFM.out ls.length; omega⟩, by rw [List.take_length]; exact ((((((HB.out.below hb hgl).setCell 1 _).setCell 2 _).setCell 3 _).setCell 4 _).setCell 5 _).setCell 6 _, fun vl ve vb => ((((((RK.of_below hb).setCell 1 _).setCell 2 _).setCell 3 _).setCell 4 _).setCell 5 _).setCell 6 _⟩
  · have d1 : decide ((0 : Int) < keep) = true := decide_eq_true (by omega)
    by_cases hk2 : keep < (B.length : Int) - safe
    · have d2 : decide (keep < (B.length : Int) - safe) = true := decide_eq_true hk2
      have hx : (safe : Int) + keep = (n : Int) := by rw [hn]; unfold crashN; rw [if_neg hk1, if_pos (by omega)]; omega
      clear hn
      go_enter Tryd.func18, Tryd.ntmps18
      go_wp2_with fail
      refine wp_region_bel w.heap.size w (by kernel_rfl) (by kernel_rfl) (Below.refl _ _) ?_
      repeat (go_big_quiet_step (fail))
      refine wpQuiet_nil ?_
      intro w1 hb1
      have hs1 := hb1.size
      clear k3 k4
      have y2 := (hb1.cell (p := ⟨m, 2, none⟩) hgl).trans x2
      have y3 := (hb1.cell (p := ⟨m, 3, none⟩) hgl).trans x3
      have y4 := (hb1.cell (p := ⟨m, 4, none⟩) hgl).trans x4
      go_wp2_with fail
      go_loopw [5, 6] (fun vk ve wr => ∃ k : Nat, k ≤ ls.length ∧ vk = .int .i64 k ∧ ve = .int .i64 (frames (ls.take k)).length ∧ (frames (ls.take k)).length ≤ n ∧ Below w.heap.size w wr) (fun vk _ _ => ls.length - (intOf vk).toNat)
      case atStart => exact ⟨0, Nat.zero_le _, rfl, rfl, by simp [frames], hb1⟩
      case round =>
        obtain ⟨k, hk, rfl, rfl, hkn, hb⟩ := hrel
        have hs := hb.size
        obtain ⟨⟨x0, x1, x2, x3, x4, x5, x6⟩, z1, z2, z3, z4, z5, z6⟩ := facts HB.out hb hgl
        by_cases hlt : k < ls.length
        · have dlt : decide ((k : Int) < (ls.length : Int)) = true := decide_eq_true (by omega)
          have hk0 : (0 : Int) ≤ (k : Int) := by omega
          have hk1 : (k : Int) < (ls.length : Int) := by omega
          obtain ⟨be, oe, rfl, hbe, ce⟩ := ends_at (hr2.below hb) hlt
          have hlast := HFM.out (k + 1)
          by_cases hend : (frames (ls.take (k + 1))).length ≤ n
          · have dend : decide ((frames (ls.take (k + 1))).length ≤ n) = true := decide_eq_true hend
            go_wp2
            go_roundw
            case rel => exact ⟨k + 1, by omega, by go_num, rfl, hend, hb⟩
            case measure => simp [intOf]; omega
          · have dend : decide ((frames (ls.take (k + 1))).length ≤ n) = false := decide_eq_false hend
            go_wp2
            go_end0
            exact ⟨rfl, k, A1, _, A3, c1, c2, c3, hk, hkn, fun _ => by omega, rfl, rfl, ⟨B.length, rfl, by have := HFM.out k; omega⟩, (((((((HB.out.below hb hgl).setCell 1 _).setCell 2 _).setCell 3 _).setCell 4 _).setCell 5 _).setCell 6 _), fun vl ve vb => ((((((RK.of_below hb).setCell 1 _).setCell 2 _).setCell 3 _).setCell 4 _).setCell 5 _).setCell 6 _⟩
        · have dlt : decide ((k : Int) < (ls.length : Int)) = false := decide_eq_false (by omega)
          obtain rfl : k = ls.length := by omega
          go_wp2
          go_end0
          exact ⟨rfl, ls.length, A1, _, A3, c1, c2, c3, Nat.le_refl _, hkn, fun h => absurd h (Nat.lt_irrefl _), rfl, rfl, ⟨B.length, rfl, by have := HFM.out ls.length; omega⟩, by rw [List.take_length]; exact ((((((HB.out.below hb hgl).setCell 1 _).setCell 2 _).setCell 3 _).setCell 4 _).setCell 5 _).setCell 6 _, fun vl ve vb => ((((((RK.of_below hb).setCell 1 _).setCell 2 _).setCell 3 _).setCell 4 _).setCell 5 _).setCell 6 _⟩
    · have d2 : decide (keep < (B.length : Int) - safe) = false := decide_eq_false hk2
      have hx : n = B.length := by
        rw [hn]; unfold crashN; rw [if_neg hk1]
        split <;> omega
      clear hn
      subst hx
      go_enter Tryd.func18, Tryd.ntmps18
      go_wp2_with fail
      refine wp_region_bel w.heap.size w (by kernel_rfl) (by kernel_rfl) (Below.refl _ _) ?_
      repeat (go_big_quiet_step (fail))
      refine wpQuiet_nil ?_
      intro w1 hb1
      have hs1 := hb1.size
      clear k3 k4
      have y2 := (hb1.cell (p := ⟨m, 2, none⟩) hgl).trans x2
      have y3 := (hb1.cell (p := ⟨m, 3, none⟩) hgl).trans x3
      have y4 := (hb1.cell (p := ⟨m, 4, none⟩) hgl).trans x4
      go_wp2_with fail
      go_loopw [5, 6] (fun vk ve wr => ∃ k : Nat, k ≤ ls.length ∧ vk = .int .i64 k ∧ ve = .int .i64 (frames (ls.take k)).length ∧ (frames (ls.take k)).length ≤ B.length ∧ Below w.heap.size w wr) (fun vk _ _ => ls.length - (intOf vk).toNat)
      case atStart => exact ⟨0, Nat.zero_le _, rfl, rfl, by simp [frames], hb1⟩
      case round =>
        obtain ⟨k, hk, rfl, rfl, hkn, hb⟩ := hrel
        have hs := hb.size
        obtain ⟨⟨x0, x1, x2, x3, x4, x5, x6⟩, z1, z2, z3, z4, z5, z6⟩ := facts HB.out hb hgl
        by_cases hlt : k < ls.length
        · have dlt : decide ((k : Int) < (ls.length : Int)) = true := decide_eq_true (by omega)
          have hk0 : (0 : Int) ≤ (k : Int) := by omega
          have hk1 : (k : Int) < (ls.length : Int) := by omega
          obtain ⟨be, oe, rfl, hbe, ce⟩ := ends_at (hr2.below hb) hlt
          have hlast := HFM.out (k + 1)
          by_cases hend : (frames (ls.take (k + 1))).length ≤ B.length
          · have dend : decide ((frames (ls.take (k + 1))).length ≤ B.length) = true := decide_eq_true hend
            go_wp2
            go_roundw
            case rel => exact ⟨k + 1, by omega, by go_num, rfl, hend, hb⟩
            case measure => simp [intOf]; omega
          · exact absurd (Nat.le_trans hlast hfl) hend
        · have dlt : decide ((k : Int) < (ls.length : Int)) = false := decide_eq_false (by omega)
          obtain rfl : k = ls.length := by omega
          go_wp2
          go_end0
          exact ⟨rfl, ls.length, A1, _, A3, c1, c2, c3, Nat.le_refl _, hkn, fun h => absurd h (Nat.lt_irrefl _), rfl, rfl, ⟨B.length, rfl, by have := HFM.out ls.length; omega⟩, by rw [List.take_length]; exact ((((((HB.out.below hb hgl).setCell 1 _).setCell 2 _).setCell 3 _).setCell 4 _).setCell 5 _).setCell 6 _, fun vl ve vb => ((((((RK.of_below hb).setCell 1 _).setCell 2 _).setCell 3 _).setCell 4 _).setCell 5 _).setCell 6 _⟩
end Go.Proofs.YtdcjogofjniogaaDoor
