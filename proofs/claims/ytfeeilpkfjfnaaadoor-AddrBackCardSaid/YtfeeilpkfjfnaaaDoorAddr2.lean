/- Contracts of package addr: Halves, Up. Any prefix. -/
import Derived.Test.YtfeeilpkfjfnaaaDoorAddr
import Derived.Test.YtfeeilpkfjfnaaaDoorAddrMath
import Derived.Test.YtfeeilpkfjfnaaaDoorTail
namespace Go.Proofs.YtfeeilpkfjfnaaaDoor
set_option linter.unusedVariables false
set_option linter.unusedSimpArgs false
open Go.RowKit

/-- The facts of a block of two cells, at an address that is known to be it. -/
theorem Blk.at {w : World} {g h : Nat} {t : TypeId} {u v : Value} (hB : Blk w g t #[u, v]) (e : g = h) : w.cell? ⟨h, 0, none⟩ = some u ∧ w.cell? ⟨h, 1, none⟩ = some v ∧ w.frozen? ⟨h, 0, none⟩ = false ∧ w.frozen? ⟨h, 1, none⟩ = false := by
  subst e; exact hB.two

theorem Blk.drew {w : World} {g : Nat} {t : TypeId} {cs : Array Value} (h : Blk w g t cs) : Blk w.drew g t cs := h

def upFault (a n : Int) : Int := if chk a n ≠ 0 then chk a n else if n = 0 then 4 else 0
def UpV (a n : Int) : Value := if upFault a n = 0 then .tuple #[.agg #[.int .i64 (clr a (n - 1)), .int .i64 (n - 1)], .nilIface] else .tuple #[.agg #[.int .i64 0, .int .i64 0], .iface 44 (.int .i64 (upFault a n))]

set_option maxHeartbeats 400000 in
theorem up_bad (a n : Int) (hc : chk a n ≠ 0) (w : World) :
    Calls Tryd.prog 9 #[.agg #[.int .i64 a, .int .i64 n]] w fun e w' => e = .returned (.tuple #[.agg #[.int .i64 0, .int .i64 0], .iface 44 (.int .i64 (chk a n))]) ∧ Below w.heap.size w w' := by
  go_enter Tryd.func9, Tryd.ntmps9
  go_wp2_with fail
  refine (check_bad _ _ hc _).mono ?_
  rintro e w1 ⟨rfl, hb1⟩
  obtain ⟨c0, c1, f0, f1⟩ := ((Blk.new (w.alloc (.cells #[.int .i64 a, .int .i64 n] 23)) 23 #[.int .i64 0, .int .i64 0]).below hb1 (by simp)).at (h := w.heap.size + 1) (by simp)
  go_wp2
  refine bodyPost_ret (v := .tuple #[.agg #[.int .i64 0, .int .i64 0], .iface 44 (.int .i64 (chk a n))]) (by simp [results, Tryd.results9, go_sem, c0, c1]) rfl ⟨rfl, ?_⟩
  exact (((((Below.refl _ _).alloc (Nat.le_refl _) _).alloc (by simp) _).trans (hb1.mono (by simp <;> omega))).setCell (by simp) _).setCell (by simp) _
set_option maxHeartbeats 400000 in
theorem up_none (a : Int) (hc : chk a 0 = 0) (w : World) :
    Calls Tryd.prog 9 #[.agg #[.int .i64 a, .int .i64 0]] w fun e w' => e = .returned (.tuple #[.agg #[.int .i64 0, .int .i64 0], .iface 44 (.int .i64 4)]) ∧ Below w.heap.size w w' := by
  go_enter Tryd.func9, Tryd.ntmps9
  go_wp2_with fail
  refine (check_ok _ _ hc _).mono ?_
  rintro e w1 ⟨rfl, hb1⟩
  obtain ⟨d0, d1, _, _⟩ := (((Blk.new w 23 #[.int .i64 a, .int .i64 0]).alloc (.cells #[.int .i64 0, .int .i64 0] 23)).below hb1 (by simp <;> omega)).two
  obtain ⟨c0, c1, f0, f1⟩ := ((Blk.new (w.alloc (.cells #[.int .i64 a, .int .i64 0] 23)) 23 #[.int .i64 0, .int .i64 0]).below hb1 (by simp)).at (h := w.heap.size + 1) (by simp)
  go_wp2
  refine bodyPost_ret (v := .tuple #[.agg #[.int .i64 0, .int .i64 0], .iface 44 (.int .i64 4)]) (by simp [results, Tryd.results9, go_sem, c0, c1]) rfl ⟨rfl, ?_⟩
  exact (((((Below.refl _ _).alloc (Nat.le_refl _) _).alloc (by simp) _).trans (hb1.mono (by simp <;> omega))).setCell (by simp) _).setCell (by simp) _
set_option maxHeartbeats 400000 in
theorem up_ok (a n : Int) (hc : chk a n = 0) (hn : n ≠ 0) (w : World) :
    Calls Tryd.prog 9 #[.agg #[.int .i64 a, .int .i64 n]] w fun e w' => e = .returned (.tuple #[.agg #[.int .i64 (clr a (n - 1)), .int .i64 (n - 1)], .nilIface]) ∧ Below w.heap.size w w' := by
  obtain ⟨g1, g2, g3, g4, _⟩ := chk_zero.1 hc
  have g5 : 1 ≤ n := by omega
  have hbit := andNot_rest (a := a) (n := n - 1) (by omega) g3 g4
  have HB := Lib.hid hbit
  have hn' : (n == 0) = false := by simpa using hn
  clear hbit hn
  go_enter Tryd.func9, Tryd.ntmps9
  go_wp2_with fail
  refine (check_ok _ _ hc _).mono ?_
  rintro e w1 ⟨rfl, hb1⟩
  have d := (((Blk.new w 23 #[.int .i64 a, .int .i64 n]).alloc (.cells #[.int .i64 0, .int .i64 0] 23)).below hb1 (by simp <;> omega))
  have c := ((Blk.new (w.alloc (.cells #[.int .i64 a, .int .i64 n] 23)) 23 #[.int .i64 0, .int .i64 0]).below hb1 (by simp))
  rw [World.size_alloc] at c
  have hs1 := hb1.size
  simp only [World.size_alloc] at hs1
  obtain ⟨k0, k1⟩ := bel2 (B := w1.heap.size) ⟨d.two.1, d.two.2.1⟩ (by omega)
  obtain ⟨d0, d1, _, _⟩ := d.two
  go_wp2_with fail
  refine wp_region_bel_tail 11 w1.heap.size w1 (by kernel_rfl) (by kernel_rfl) (Below.refl _ _) ?_
  simp only [List.take_succ_cons, List.take_zero, List.drop_succ_cons, List.drop_zero]
  repeat (go_big_quiet_step ((go_at_call 20; refine Calls.bel_same (rest_any _ ?_ ?_ _) <;> omega)))
  refine wpQuiet_nil ?_
  intro w2 hb2
  obtain ⟨c0, c1, f0, f1⟩ := (c.below hb2 (by omega)).two
  have e1 : IntKind.i64.wrap (n - 1) = n - 1 := IntWalk.i64_in _ (by omega)
  clear k0 k1 d0 d1
  go_wp2
  refine bodyPost_ret (v := .tuple #[.agg #[.int .i64 (clr a (n - 1)), .int .i64 (n - 1)], .nilIface]) (by simp [results, Tryd.results9, go_sem, c0, c1, HB.out, clr]) rfl ⟨rfl, ?_⟩
  exact ((((((Below.refl _ _).alloc (Nat.le_refl _) _).alloc (by simp) _).trans (hb1.mono (by simp <;> omega))).trans (hb2.mono (by omega))).setCell (by simp) _).setCell (by simp) _

def halvesFault (a n : Int) : Int := if chk a n ≠ 0 then chk a n else if n = 32 then 4 else 0
theorem halvesFault_zero {a n : Int} : halvesFault a n = 0 ↔ chk a n = 0 ∧ n ≠ 32 := by
  unfold halvesFault; split
  · simp_all
  · split <;> simp_all
theorem upFault_zero {a n : Int} : upFault a n = 0 ↔ chk a n = 0 ∧ n ≠ 0 := by
  unfold upFault; split
  · simp_all
  · split <;> simp_all
set_option maxHeartbeats 800000 in
theorem halves_bad1 (a n : Int) (hc : chk a n ≠ 0) (w : World) :
    Calls Tryd.prog 8 #[.agg #[.int .i64 a, .int .i64 n]] w fun e w' => e = .returned (.tuple #[.agg #[.int .i64 0, .int .i64 0], .agg #[.int .i64 0, .int .i64 0], .iface 44 (.int .i64 (chk a n))]) ∧ Below w.heap.size w w' := by
  go_enter Tryd.func8, Tryd.ntmps8
  go_wp2_with fail
  refine (check_bad _ _ hc _).mono ?_
  rintro e w1 ⟨rfl, hb1⟩
  obtain ⟨c0, c1, f0, f1⟩ := (((Blk.new (w.alloc (.cells #[.int .i64 a, .int .i64 n] 23)) 23 #[.int .i64 0, .int .i64 0]).alloc (.cells #[.int .i64 0, .int .i64 0] 23)).below hb1 (by simp <;> omega)).at (h := w.heap.size + 1) (by simp)
  obtain ⟨d0, d1, h0, h1⟩ := ((Blk.new ((w.alloc (.cells #[.int .i64 a, .int .i64 n] 23)).alloc (.cells #[.int .i64 0, .int .i64 0] 23)) 23 #[.int .i64 0, .int .i64 0]).below hb1 (by simp)).at (h := w.heap.size + 1 + 1) (by simp)
  go_wp2
  go_region
  all_goals
    go_wp2
    refine bodyPost_ret (v := .tuple #[.agg #[.int .i64 0, .int .i64 0], .agg #[.int .i64 0, .int .i64 0], .iface 44 (.int .i64 (chk a n))]) (by simp [results, Tryd.results8, go_sem, c0, c1, d0, d1]) rfl ⟨rfl, ?_⟩
    have hB := ((((Below.refl w.heap.size w).alloc (Nat.le_refl _) (.cells #[.int .i64 a, .int .i64 n] 23)).alloc (by simp) (.cells #[.int .i64 0, .int .i64 0] 23)).alloc (by simp <;> omega) (.cells #[.int .i64 0, .int .i64 0] 23)).trans (hb1.mono (by simp <;> omega))
    exact ((((hB.setCell (by simp <;> omega) _).setCell (by simp <;> omega) _).setCell (by simp <;> omega) _).setCell (by simp <;> omega) _).drew
set_option maxHeartbeats 800000 in
theorem halves_bad2 (a : Int) (hc : chk a 32 = 0) (w : World) :
    Calls Tryd.prog 8 #[.agg #[.int .i64 a, .int .i64 32]] w fun e w' => e = .returned (.tuple #[.agg #[.int .i64 0, .int .i64 0], .agg #[.int .i64 0, .int .i64 0], .iface 44 (.int .i64 4)]) ∧ Below w.heap.size w w' := by
  go_enter Tryd.func8, Tryd.ntmps8
  go_wp2_with fail
  refine (check_ok _ _ hc _).mono ?_
  rintro e w1 ⟨rfl, hb1⟩
  obtain ⟨b0, b1, _, _⟩ := ((((Blk.new w 23 #[.int .i64 a, .int .i64 32]).alloc (.cells #[.int .i64 0, .int .i64 0] 23)).alloc (.cells #[.int .i64 0, .int .i64 0] 23)).below hb1 (by simp <;> omega)).two
  obtain ⟨c0, c1, f0, f1⟩ := (((Blk.new (w.alloc (.cells #[.int .i64 a, .int .i64 32] 23)) 23 #[.int .i64 0, .int .i64 0]).alloc (.cells #[.int .i64 0, .int .i64 0] 23)).below hb1 (by simp <;> omega)).at (h := w.heap.size + 1) (by simp)
  obtain ⟨d0, d1, h0, h1⟩ := ((Blk.new ((w.alloc (.cells #[.int .i64 a, .int .i64 32] 23)).alloc (.cells #[.int .i64 0, .int .i64 0] 23)) 23 #[.int .i64 0, .int .i64 0]).below hb1 (by simp)).at (h := w.heap.size + 1 + 1) (by simp)
  go_wp2
  go_region
  all_goals
    go_wp2
    refine bodyPost_ret (v := .tuple #[.agg #[.int .i64 0, .int .i64 0], .agg #[.int .i64 0, .int .i64 0], .iface 44 (.int .i64 4)]) (by simp [results, Tryd.results8, go_sem, c0, c1, d0, d1]) rfl ⟨rfl, ?_⟩
    have hB := ((((Below.refl w.heap.size w).alloc (Nat.le_refl _) (.cells #[.int .i64 a, .int .i64 32] 23)).alloc (by simp) (.cells #[.int .i64 0, .int .i64 0] 23)).alloc (by simp <;> omega) (.cells #[.int .i64 0, .int .i64 0] 23)).trans (hb1.mono (by simp <;> omega))
    exact ((((hB.setCell (by simp <;> omega) _).setCell (by simp <;> omega) _).setCell (by simp <;> omega) _).setCell (by simp <;> omega) _).drew
set_option maxHeartbeats 1600000 in
theorem halves_ok (a n : Int) (hc : chk a n = 0) (hn : n ≠ 32) (w : World) :
    Calls Tryd.prog 8 #[.agg #[.int .i64 a, .int .i64 n]] w fun e w' => e = .returned (.tuple #[.agg #[.int .i64 a, .int .i64 (n + 1)], .agg #[.int .i64 (a + sz (n + 1)), .int .i64 (n + 1)], .nilIface]) ∧ Below w.heap.size w w' := by
  obtain ⟨g1, g2, g3, g4, _⟩ := chk_zero.1 hc
  have g5 : n ≤ 31 := by omega
  have hs := sz_le (n + 1) (by omega)
  have hp := sz_pos (n + 1)
  have hn' : (n == 32) = false := by simpa using hn
  clear hn
  go_enter Tryd.func8, Tryd.ntmps8
  go_wp2_with fail
  refine (check_ok _ _ hc _).mono ?_
  rintro e w1 ⟨rfl, hb1⟩
  have b := ((((Blk.new w 23 #[.int .i64 a, .int .i64 n]).alloc (.cells #[.int .i64 0, .int .i64 0] 23)).alloc (.cells #[.int .i64 0, .int .i64 0] 23)).below hb1 (by simp <;> omega))
  have c := (((Blk.new (w.alloc (.cells #[.int .i64 a, .int .i64 n] 23)) 23 #[.int .i64 0, .int .i64 0]).alloc (.cells #[.int .i64 0, .int .i64 0] 23)).below hb1 (by simp <;> omega))
  have d := ((Blk.new ((w.alloc (.cells #[.int .i64 a, .int .i64 n] 23)).alloc (.cells #[.int .i64 0, .int .i64 0] 23)) 23 #[.int .i64 0, .int .i64 0]).below hb1 (by simp))
  simp only [World.size_alloc] at c d
  have hs1 := hb1.size
  simp only [World.size_alloc] at hs1
  obtain ⟨b0, b1, _, _⟩ := b.two
  obtain ⟨c0, c1, f0, f1⟩ := c.two
  go_wp2_with fail
  have b' := (b.far (p := ⟨w.heap.size + 1, 0, none⟩) (by simp) (.int .i64 a)).far (p := ⟨w.heap.size + 1, 1, none⟩) (by simp) (.int .i64 (n + 1))
  have d' := (d.far (p := ⟨w.heap.size + 1, 0, none⟩) (by simp) (.int .i64 a)).far (p := ⟨w.heap.size + 1, 1, none⟩) (by simp) (.int .i64 (n + 1))
  have c' := (c.setCell 0 (.int .i64 a)).setCell 1 (.int .i64 (n + 1))
  have hB := ((((Below.refl w.heap.size w).alloc (Nat.le_refl _) (.cells #[.int .i64 a, .int .i64 n] 23)).alloc (by simp) (.cells #[.int .i64 0, .int .i64 0] 23)).alloc (by simp <;> omega) (.cells #[.int .i64 0, .int .i64 0] 23)).trans (hb1.mono (by simp <;> omega))
  have hB' := (hB.setCell (p := ⟨w.heap.size + 1, 0, none⟩) (by simp) (.int .i64 a)).setCell (p := ⟨w.heap.size + 1, 1, none⟩) (by simp) (.int .i64 (n + 1))
  obtain ⟨W, hW⟩ : ∃ W, W = (w1.setCell ⟨w.heap.size + 1, 0, none⟩ (.int .i64 a)).setCell ⟨w.heap.size + 1, 1, none⟩ (.int .i64 (n + 1)) := ⟨_, rfl⟩
  rw [← hW] at b' c' d' hB' ⊢
  have hs2 := d'.lt
  clear hW b0 b1 c0 c1 f0 f1 b c d hB hb1 hs1
  obtain ⟨k0, k1⟩ := bel2 (B := W.heap.size) ⟨b'.two.1, b'.two.2.1⟩ (by omega)
  refine wp_region_bel_tail 12 W.heap.size W (by kernel_rfl) (by kernel_rfl) (Below.refl _ _) ?_
  simp only [List.take_succ_cons, List.take_zero, List.drop_succ_cons, List.drop_zero]
  repeat (go_big_quiet_step ((go_at_call 20; refine Calls.bel_same (rest_any _ ?_ ?_ _) <;> omega)))
  refine wpQuiet_nil ?_
  intro w2 hb2
  obtain ⟨c0, c1, f0, f1⟩ := (c'.below hb2 (by omega)).two
  obtain ⟨d0, d1, h0, h1⟩ := (d'.below hb2 (by omega)).two
  obtain ⟨e0, e1, _, _⟩ := (((((((d'.below hb2 (by omega)).setCell 0 (.int .i64 (a + (sz (n + 1) - 1) + 1))).setCell 1 (.int .i64 (n + 1))).far (p := ⟨w.heap.size + 1, 0, none⟩) (by simp) (.int .i64 a)).far (p := ⟨w.heap.size + 1, 1, none⟩) (by simp) (.int .i64 (n + 1))).setCell 0 (.int .i64 (a + (sz (n + 1) - 1) + 1))).setCell 1 (.int .i64 (n + 1))).drew.two
  obtain ⟨e2, e3, _, _⟩ := (((((((c'.below hb2 (by omega)).far (p := ⟨w.heap.size + 1 + 1, 0, none⟩) (by simp) (.int .i64 (a + (sz (n + 1) - 1) + 1))).far (p := ⟨w.heap.size + 1 + 1, 1, none⟩) (by simp) (.int .i64 (n + 1))).setCell 0 (.int .i64 a)).setCell 1 (.int .i64 (n + 1))).far (p := ⟨w.heap.size + 1 + 1, 0, none⟩) (by simp) (.int .i64 (a + (sz (n + 1) - 1) + 1))).far (p := ⟨w.heap.size + 1 + 1, 1, none⟩) (by simp) (.int .i64 (n + 1))).drew.two
  have E := Lib.hid (And.intro (And.intro e0 e1) (And.intro e2 e3))
  clear k0 k1 e0 e1 e2 e3
  go_wp2
  go_region
  all_goals
    go_wp2
    obtain ⟨⟨e0, e1⟩, e2, e3⟩ := E.out
    have hE := ((((((((hB'.trans (hb2.mono (by omega))).setCell (p := ⟨w.heap.size + 1 + 1, 0, none⟩) (by simp <;> omega) (.int .i64 (a + (sz (n + 1) - 1) + 1))).setCell (p := ⟨w.heap.size + 1 + 1, 1, none⟩) (by simp <;> omega) (.int .i64 (n + 1))).setCell (p := ⟨w.heap.size + 1, 0, none⟩) (by simp <;> omega) (.int .i64 a)).setCell (p := ⟨w.heap.size + 1, 1, none⟩) (by simp <;> omega) (.int .i64 (n + 1))).setCell (p := ⟨w.heap.size + 1 + 1, 0, none⟩) (by simp <;> omega) (.int .i64 (a + (sz (n + 1) - 1) + 1))).setCell (p := ⟨w.heap.size + 1 + 1, 1, none⟩) (by simp <;> omega) (.int .i64 (n + 1)))).drew
    obtain ⟨Wf, hWf⟩ : ∃ Wf, Wf = ((((((w2.setCell ⟨w.heap.size + 1 + 1, 0, none⟩ (.int .i64 (a + (sz (n + 1) - 1) + 1))).setCell ⟨w.heap.size + 1 + 1, 1, none⟩ (.int .i64 (n + 1))).setCell ⟨w.heap.size + 1, 0, none⟩ (.int .i64 a)).setCell ⟨w.heap.size + 1, 1, none⟩ (.int .i64 (n + 1))).setCell ⟨w.heap.size + 1 + 1, 0, none⟩ (.int .i64 (a + (sz (n + 1) - 1) + 1))).setCell ⟨w.heap.size + 1 + 1, 1, none⟩ (.int .i64 (n + 1))).drew := ⟨_, rfl⟩
    have e0' : Wf.cell? ⟨w.heap.size + 1 + 1, 0, none⟩ = some (.int .i64 (a + (sz (n + 1) - 1) + 1)) := by rw [hWf]; exact e0
    have e1' : Wf.cell? ⟨w.heap.size + 1 + 1, 1, none⟩ = some (.int .i64 (n + 1)) := by rw [hWf]; exact e1
    have e2' : Wf.cell? ⟨w.heap.size + 1, 0, none⟩ = some (.int .i64 a) := by rw [hWf]; exact e2
    have e3' : Wf.cell? ⟨w.heap.size + 1, 1, none⟩ = some (.int .i64 (n + 1)) := by rw [hWf]; exact e3
    rw [← hWf] at hE ⊢
    clear hWf e0 e1 e2 e3 E
    refine bodyPost_ret (v := .tuple #[.agg #[.int .i64 a, .int .i64 (n + 1)], .agg #[.int .i64 (a + (sz (n + 1) - 1) + 1), .int .i64 (n + 1)], .nilIface]) (by simp [results, Tryd.results8, go_sem, e0', e1', e2', e3']) rfl ⟨by rw [show a + (sz (n + 1) - 1) + 1 = a + sz (n + 1) by omega], hE⟩
end Go.Proofs.YtfeeilpkfjfnaaaDoor
