/- Contracts of the document's log: NewLog, step, Sync. No conditions. -/
import Derived.Test.YtdcjogofjniogaaDoorRefLog1
namespace Go.Proofs.YtdcjogofjniogaaDoor
set_option linter.unusedVariables false
set_option linter.unusedSimpArgs false
open Go.RowKit

theorem refNew_ok (room : Int) (hr : 0 ≤ room ∧ room ≤ 100000) (w : World) (b0 : Nat) (hb : b0 ≤ w.heap.size) :
    Calls Tryd.prog 15 #[.int .i64 room] w fun e w' => e = .returned (.pointer (some ⟨w.heap.size, 0, none⟩)) ∧ RefAt w' b0 w.heap.size (.slice none 0 0) (.slice none 0 0) (.slice none 0 0) (-1) false room [] [] 0 ∧ Below w.heap.size w w' := by
  go_enter Tryd.func15, Tryd.ntmps15
  go_wp2
  go_ret
  exact ⟨rfl, ⟨Blk.new _ _ _, hb, AllAt.nil _ _, World.ownsRow_nil _ _ _ _, World.ownsRow_nil _ _ _ _, by omega, ⟨hr.1, hr.2, by simp; omega⟩, by simp, by simp [frames], by simp; omega⟩, (Below.refl _ _).alloc (Nat.le_refl _) _⟩

/-- Only block m turned. -/
def RO (w w' : World) (m : Nat) : Prop := ∀ vl ve vb, RK w w' m vl ve vb
theorem rstep (m : Nat) (r vl ve vb s : Value) (left : Int) (down : Bool) (hl : -1 ≤ left ∧ left ≤ 9223372036854775807) (w : World) (hB : Blk w m 47 #[r, vl, ve, vb, s, .int .i64 left, .bool down]) :
    Calls Tryd.prog 43 #[.pointer (some ⟨m, 0, none⟩)] w fun e w' => e = .returned (.bool (left != 0)) ∧ (left = 0 → Blk w' m 47 #[r, vl, ve, vb, s, .int .i64 0, .bool true]) ∧ (left ≠ 0 → Blk w' m 47 #[r, vl, ve, vb, s, .int .i64 (leftS left), .bool down]) ∧ RO w w' m := by
  have x5 := hB.cell 5
  have x6 := hB.cell 6
  have z5 := hB.frozen 5
  have z6 := hB.frozen 6
  simp at x5 x6
  by_cases h0 : left = 0
  · subst h0
    go_enter Tryd.func43, Tryd.ntmps43
    go_wp2
    go_ret
    exact ⟨rfl, fun _ => hB.setCell 6 (.bool true), fun h => absurd rfl h, fun vl ve vb => (RK.refl w m vl ve vb).setCell 6 _⟩
  · have e0 : (left == 0) = false := by simpa using h0
    by_cases h1 : 0 < left
    · have HS := Lib.hid (show leftS left = left - 1 by unfold leftS; rw [if_pos (by omega)])
      go_enter Tryd.func43, Tryd.ntmps43
      go_wp2
      go_ret
      refine ⟨by simp [h0], fun h => absurd h h0, fun _ => ?_, fun vl ve vb => (RK.refl w m vl ve vb).setCell 5 _⟩
      rw [HS.out]
      exact hB.setCell 5 (.int .i64 (left - 1))
    · have HS := Lib.hid (show leftS left = left by unfold leftS; rw [if_neg (by omega)])
      go_enter Tryd.func43, Tryd.ntmps43
      go_wp2
      go_ret
      have HBS : Blk w m 47 #[r, vl, ve, vb, s, .int .i64 (leftS left), .bool down] := by rw [HS.out]; exact hB
      first
        | exact ⟨by simp [h0], fun h => absurd h h0, fun _ => HBS, fun vl ve vb => RK.refl w m vl ve vb⟩
        | exact ⟨by simp [h0], HBS, fun vl ve vb => RK.refl w m vl ve vb⟩
        | exact ⟨rfl, HBS, fun vl ve vb => RK.refl w m vl ve vb⟩

section
variable {w w' : World} {b0 m : Nat} {vl ve vb : Value} {left room : Int} {down : Bool} {ls : List (List Chg)} {B : List UInt8} {safe : Nat}
theorem RefAt.cells (h : RefAt w b0 m vl ve vb left down room ls B safe) : (w.cell? ⟨m, 0, none⟩ = some (.int .i64 room) ∧ w.cell? ⟨m, 1, none⟩ = some vl ∧ w.cell? ⟨m, 2, none⟩ = some ve ∧ w.cell? ⟨m, 3, none⟩ = some vb ∧ w.cell? ⟨m, 4, none⟩ = some (.int .i64 safe) ∧ w.cell? ⟨m, 5, none⟩ = some (.int .i64 left) ∧ w.cell? ⟨m, 6, none⟩ = some (.bool down)) ∧
    w.frozen? ⟨m, 1, none⟩ = false ∧ w.frozen? ⟨m, 2, none⟩ = false ∧ w.frozen? ⟨m, 3, none⟩ = false ∧ w.frozen? ⟨m, 4, none⟩ = false ∧ w.frozen? ⟨m, 5, none⟩ = false ∧ w.frozen? ⟨m, 6, none⟩ = false :=
  ⟨⟨h.hB.cell 0, h.hB.cell 1, h.hB.cell 2, h.hB.cell 3, h.hB.cell 4, h.hB.cell 5, h.hB.cell 6⟩, h.hB.frozen 1, h.hB.frozen 2, h.hB.frozen 3, h.hB.frozen 4, h.hB.frozen 5, h.hB.frozen 6⟩
/-- Numbers of the log are written. -/
theorem RefAt.write (h : RefAt w b0 m vl ve vb left down room ls B safe) {left' : Int} {down' : Bool} {safe' : Nat} (hk : RO w w' m) (hB : Blk w' m 47 #[.int .i64 room, vl, ve, vb, .int .i64 safe', .int .i64 left', .bool down'])
    (hl : -1 ≤ left' ∧ left' ≤ 9223372036854775807) (hs : safe' ≤ B.length) : RefAt w' b0 m vl ve vb left' down' room ls B safe' := by
  have hq := hk .nilIface .nilIface .nilIface
  have hn : ∀ k : Nat, some k ≠ Value.nilIface.ownBlock := fun k e => by simp [Value.ownBlock] at e
  obtain ⟨xs, h1, h2⟩ := h.hls
  refine ⟨hB, h.hg, h.hls.kept (h.rkBelow (hk _ _ _)) fun k e => ?_, own_kept h.hes fun k e => ?_, own_kept h.hbs fun k e => ?_, hl, h.hr, hs, h.hf, Nat.le_trans h.hb hq.size⟩
  · refine hq.block k (h1.lt k e).2 (fun hh => ?_) (hn k) (hn k) (hn k)
    subst hh
    exact own_blk h1 h.hB (by decide) e.symm
  · refine hq.block k (h.hes.lt k e).2 (fun hh => ?_) (hn k) (hn k) (hn k)
    subst hh
    exact own_blk h.hes h.hB (by decide) e.symm
  · refine hq.block k (h.hbs.lt k e).2 (fun hh => ?_) (hn k) (hn k) (hn k)
    subst hh
    exact own_blk h.hbs h.hB (by decide) e.symm
theorem RO.setCell (h : RO w w' m) (i : Nat) (u : Value) : RO w (w'.setCell ⟨m, i, none⟩ u) m := fun vl ve vb => (h vl ve vb).setCell i u
theorem RO.refl (w : World) (m : Nat) : RO w w m := fun vl ve vb => RK.refl _ _ _ _ _
theorem RefAt.sync_down (h : RefAt w b0 m vl ve vb left true room ls B safe) :
    Calls Tryd.prog 17 #[.pointer (some ⟨m, 0, none⟩)] w fun e w' => e = .returned (.int .i64 8) ∧ w' = w := by
  obtain ⟨⟨x0, x1, x2, x3, x4, x5, x6⟩, _⟩ := h.cells
  go_enter Tryd.func17, Tryd.ntmps17
  go_wp2
  go_ret
  exact ⟨rfl, rfl⟩
theorem RefAt.sync_off (h : RefAt w b0 m vl ve vb 0 false room ls B safe) :
    Calls Tryd.prog 17 #[.pointer (some ⟨m, 0, none⟩)] w fun e w' => e = .returned (.int .i64 8) ∧ RefAt w' b0 m vl ve vb 0 true room ls B safe ∧ RO w w' m := by
  obtain ⟨⟨x0, x1, x2, x3, x4, x5, x6⟩, _⟩ := h.cells
  have H := Lib.hid h
  clear h
  go_enter Tryd.func17, Tryd.ntmps17
  go_wp2_with fail
  refine (rstep m _ _ _ _ _ 0 false (by omega) w H.out.hB).mono ?_
  rintro e w1 ⟨rfl, hB1, _, hk1⟩
  have hB1' := Lib.hid (hB1 rfl)
  clear hB1
  go_wp2
  go_ret
  exact ⟨rfl, H.out.write hk1 hB1'.out (by omega) H.out.hs, hk1⟩
theorem RefAt.sync_on (h : RefAt w b0 m vl ve vb left false room ls B safe) (h0 : left ≠ 0) :
    Calls Tryd.prog 17 #[.pointer (some ⟨m, 0, none⟩)] w fun e w' => e = .returned (.int .i64 0) ∧ RefAt w' b0 m vl ve vb (leftS left) false room ls B B.length ∧ RO w w' m := by
  obtain ⟨⟨x0, x1, x2, x3, x4, x5, x6⟩, _⟩ := h.cells
  have hrg := Lib.hid (leftS_range h.hl h0)
  have h1 : (left != 0) = true := by simpa using h0
  have hBl : (B.length : Int) ≤ 100000 := by have := h.hr; omega
  obtain ⟨A, c, rfl, _⟩ := own_form h.hbs
  have H := Lib.hid h
  have H0 := Lib.hid h0
  clear h h0
  go_enter Tryd.func17, Tryd.ntmps17
  go_wp2_with fail
  refine (rstep m _ _ _ _ _ left false H.out.hl w H.out.hB).mono ?_
  rintro e w1 ⟨rfl, _, hB1, hk1⟩
  have hB1' := hB1 H0.out
  have y3 : w1.cell? ⟨m, 3, none⟩ = some (.slice A B.length c) := hB1'.cell 3
  have y4 : w1.cell? ⟨m, 4, none⟩ = some (.int .i64 safe) := hB1'.cell 4
  have u4 := hB1'.frozen 4
  have HB := Lib.hid hB1'
  clear hB1 hB1'
  go_wp2_with fail
  go_ret
  exact ⟨rfl, H.out.write (hk1.setCell 4 _) (HB.out.setCell 4 _) hrg.out (Nat.le_refl _), hk1.setCell 4 _⟩
end
end Go.Proofs.YtdcjogofjniogaaDoor
