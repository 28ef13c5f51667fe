/- Contract of (*Log).Crash. No conditions. -/
import Derived.Test.YtdcjogofjniogaaDoorLog4
namespace Go.Proofs.YtdcjogofjniogaaDoor
set_option linter.unusedVariables false
set_option linter.unusedSimpArgs false
open Go.RowKit

theorem parseF_len : ∀ (f : Nat) (b : List UInt8), (parseF f b).2 ≤ b.length
  | 0, b => by cases b <;> simp [parseF]
  | f + 1, [] => by simp [parseF]
  | f + 1, [_] => by simp [parseF]
  | f + 1, h :: l :: r => by
    simp only [parseF]
    split
    · simp
    · split
      · simp
      · have := parseF_len f (r.drop (h.toNat * 256 + l.toNat))
        simp at this ⊢
        omega
theorem parse_len (b : List UInt8) : (parse b).2 ≤ b.length := parseF_len _ _
theorem bytesV_take (l : List UInt8) (k : Nat) : bytesV (l.take k) = (bytesV l).take k := by simp [bytesV, List.map_take]
/-- How many bytes a crash leaves ahead of the whole lists. -/
def crashN (keep : Int) (len safe : Nat) : Nat := if keep ≤ 0 then safe else if keep ≤ (len : Int) - safe then safe + keep.toNat else len

set_option maxRecDepth 100000 in
set_option maxHeartbeats 4000000 in
theorem LogAt.crash {w : World} {b0 g : Nat} {v : Value} {left room : Int} {down : Bool} {B : List UInt8} {safe : Nat} (h : LogAt w b0 g v left down room B safe) (keep : Int) (hk : (Lit.int .i64 keep).wf = true) :
    Calls Tryd.prog 13 #[.pointer (some ⟨g, 0, none⟩), .int .i64 keep] w fun e w' => e = .returned (.tuple #[]) ∧ LogTo w b0 g v (-1) false room ((B.take (crashN keep B.length safe)).take (parse (B.take (crashN keep B.length safe))).2) (parse (B.take (crashN keep B.length safe))).2 w' := by
  obtain ⟨n, hn⟩ : ∃ n, n = crashN keep B.length safe := ⟨_, rfl⟩
  rw [← hn]
  have hi := i64_of hk
  obtain ⟨A0, c0, rfl, hc0, hA0, hr0⟩ := own_form3 h.ho
  have hBl : B.length ≤ 100000 := by have := h.hr; omega
  have hsl := h.hs
  have hnB : n ≤ B.length ∧ safe ≤ n := by
    rw [hn]; unfold crashN
    split
    · omega
    · split <;> omega
  obtain ⟨hnl, hsn⟩ := hnB
  have HNL := Lib.hid (show (B.take n).length = n by simp; omega)
  have hgl := h.hB.lt
  obtain ⟨⟨x0, x1, x2, x3, x4⟩, _⟩ := h.cells
  have k3 : ∀ x : BelW w.heap.size w, x.1.cell? ⟨g, 3, none⟩ = some (.slice A0 B.length c0) := BelW.cell x3 hgl
  have k4 : ∀ x : BelW w.heap.size w, x.1.cell? ⟨g, 4, none⟩ = some (.int .i64 safe) := BelW.cell x4 hgl
  have hnc : (n : Int) ≤ (c0 : Int) := by omega
  have hn0 : (0 : Int) ≤ (n : Int) := by omega
  have H := Lib.hid h
  have X3 := Lib.hid x3
  have HR0 := Lib.hid hr0
  have hs0 : (safe : Int) ≤ 100000 := by omega
  have hs00 : (0 : Int) ≤ (safe : Int) := by omega
  clear h x0 x1 x2 x3 x4 hk hr0
  by_cases hk1 : keep ≤ 0
  · have hns : safe = n := by rw [hn]; unfold crashN; rw [if_pos hk1]
    have hx : (safe : Int) = (n : Int) := by omega
    have hmx : (if keep < 0 then (0 : Int) else keep) = 0 := by split <;> omega
    have hmn : ¬ ((B.length : Int) - (n : Int) < 0) := by omega
    clear hn hns
    go_enter Tryd.func13, Tryd.ntmps13
    go_wp2_with fail
    refine wp_region_bel w.heap.size w (by kernel_rfl) (by kernel_rfl) (Below.refl _ _) ?_
    repeat (go_big_quiet_step (fail))
    refine wpQuiet_nil ?_
    intro w1 hb1
    have hs1 := hb1.size
    clear k3 k4
    have y3a := (hb1.cell (p := ⟨g, 3, none⟩) hgl).trans X3.out
    go_wp2_with fail
    refine (clone_any A0 (B.take n) n c0 (fun e => ⟨by have := (hA0 e).1; omega, (hA0 e).2⟩) HNL.out.symm (by rw [HNL.out]; omega) w1 (((HR0.out.below hb1).more hs1).bytesTake n)).mono ?_
    rintro e w2 ⟨v2, rfl, ho2, hb2⟩
    rw [HNL.out] at ho2
    have hbw2 := hb1.trans (hb2.mono hs1)
    have h2 := H.out.below hbw2
    have hs2 := hbw2.size
    obtain ⟨A2, c2, rfl, hc2, hA2, hr2⟩ := own_form3 ho2
    have y3 : w2.cell? ⟨g, 3, none⟩ = some (.slice A0 B.length c0) := h2.hB.cell 3
    have z3 := h2.hB.frozen 3
    have hne2 : some g ≠ (Value.slice A2 n c2).ownBlock := own_blk ho2 h2.hB (by decide)
    have hB3 := h2.hB.setCell 3 (.slice A2 n c2)
    have ho3 := own_off (i := 3) (u := .slice A2 n c2) ho2 hne2
    have hbb := h2.hb
    have HFR : Fresh w (.slice A0 B.length c0) (.slice A2 n c2) := fun k hk hlt => by have := (ho2.lt k hk).1; omega
    have hlt : LogAt (w2.setCell ⟨g, 3, none⟩ (.slice A2 n c2)) b0 g (.slice A2 n c2) left down room (B.take n) safe := ⟨hB3, H.out.hg, own_of_base (by rw [HNL.out]; exact ho3) (show b0 ≤ w1.heap.size by have := H.out.hb; omega), H.out.hl, ⟨H.out.hr.1, H.out.hr.2.1, by have := H.out.hr.2.2; rw [HNL.out]; omega⟩, by rw [HNL.out]; exact hsn, by simpa using hbb⟩
    have HLT := Lib.hid hlt
    clear hr2 ho3 hB3 hlt h2
    go_wp2_with fail
    refine calls_name ?_
    intro w3 hW3
    have h3 : LogAt w3 b0 g (.slice A2 n c2) left down room (B.take n) safe := by rw [hW3.out]; exact HLT.out
    have hk3 : LK w w3 g (.slice A0 B.length c0) := by rw [hW3.out]; exact (LK.of_below hbw2).setCell 3 _
    clear hW3 HLT y3 z3
    refine h3.lists_ok.mono ?_
    rintro e w4 ⟨vo, rfl, hoo, hb4⟩
    have h4 := h3.below hb4
    have hk4 := hk3.trans (LK.of_below (v := .slice A2 n c2) hb4) HFR
    have hpe := Lib.hid (parse_len (B.take n))
    obtain ⟨en, hen⟩ : ∃ en, en = (parse (B.take n)).2 := ⟨_, rfl⟩
    rw [← hen]
    have henl : en ≤ n := by have := hpe.out; rw [HNL.out] at this; omega
    have hen0 : (0 : Int) ≤ (en : Int) := by omega
    have henc : (en : Int) ≤ (c2 : Int) := by omega
    have HEN := Lib.hid hen
    obtain ⟨⟨y0, y1, y2, y3, y4⟩, z0, z1, z3, z4⟩ := h4.cells
    clear hoo hb4 h3 hk3 hen
    go_wp2_with fail
    go_end0
    rw [← HEN.out]
    have ho4 := h4.ho
    rw [HNL.out] at ho4
    have hlen2 : ((B.take n).take en).length = en := by rw [List.length_take, HNL.out]; omega
    have hsh := own_shrink ho4 henl
    have hks : LK w4 ((((w4.setCell ⟨g, 3, none⟩ (.slice A2 en c2)).setCell ⟨g, 4, none⟩ (.int .i64 (en : Int))).setCell ⟨g, 0, none⟩ (.int .i64 (-1))).setCell ⟨g, 1, none⟩ (.bool false)) g .nilIface := ((((LK.refl w4 g .nilIface).setCell 3 _).setCell 4 _).setCell 0 _).setCell 1 _
    refine ⟨rfl, .slice A2 en c2, ⟨(((h4.hB.setCell 3 _).setCell 4 _).setCell 0 _).setCell 1 _, H.out.hg, ?_, by omega, ⟨H.out.hr.1, H.out.hr.2.1, ?_⟩, ?_, ?_⟩, (((hk4.setCell 3 _).setCell 4 _).setCell 0 _).setCell 1 _, fun k hk hlt => HFR k (by cases A2 <;> exact hk) hlt⟩
    · rw [hlen2, bytesV_take]
      exact own_LK hsh hks (own_blk hsh h4.hB (by decide)) (fun k hk e => by simp [Value.ownBlock] at e)
    · have := H.out.hr.2.2; rw [hlen2]; omega
    · rw [hlen2]; exact Nat.le_refl _
    · have := h4.hb; simp; omega
  · by_cases hk2 : keep ≤ (B.length : Int) - safe
    · have hx : (safe : Int) + keep = (n : Int) := by rw [hn]; unfold crashN; rw [if_neg hk1, if_pos hk2]; omega
      have hmx : ¬ keep < 0 := by omega
      have hmn : ¬ ((B.length : Int) - (safe : Int) < keep) := by omega
      clear hn
      go_enter Tryd.func13, Tryd.ntmps13
      go_wp2_with fail
      refine wp_region_bel w.heap.size w (by kernel_rfl) (by kernel_rfl) (Below.refl _ _) ?_
      repeat (go_big_quiet_step (fail))
      refine wpQuiet_nil ?_
      intro w1 hb1
      have hs1 := hb1.size
      clear k3 k4
      have y3a := (hb1.cell (p := ⟨g, 3, none⟩) hgl).trans X3.out
      go_wp2_with fail
      refine (clone_any A0 (B.take n) n c0 (fun e => ⟨by have := (hA0 e).1; omega, (hA0 e).2⟩) HNL.out.symm (by rw [HNL.out]; omega) w1 (((HR0.out.below hb1).more hs1).bytesTake n)).mono ?_
      rintro e w2 ⟨v2, rfl, ho2, hb2⟩
      rw [HNL.out] at ho2
      have hbw2 := hb1.trans (hb2.mono hs1)
      have h2 := H.out.below hbw2
      have hs2 := hbw2.size
      obtain ⟨A2, c2, rfl, hc2, hA2, hr2⟩ := own_form3 ho2
      have y3 : w2.cell? ⟨g, 3, none⟩ = some (.slice A0 B.length c0) := h2.hB.cell 3
      have z3 := h2.hB.frozen 3
      have hne2 : some g ≠ (Value.slice A2 n c2).ownBlock := own_blk ho2 h2.hB (by decide)
      have hB3 := h2.hB.setCell 3 (.slice A2 n c2)
      have ho3 := own_off (i := 3) (u := .slice A2 n c2) ho2 hne2
      have hbb := h2.hb
      have HFR : Fresh w (.slice A0 B.length c0) (.slice A2 n c2) := fun k hk hlt => by have := (ho2.lt k hk).1; omega
      have hlt : LogAt (w2.setCell ⟨g, 3, none⟩ (.slice A2 n c2)) b0 g (.slice A2 n c2) left down room (B.take n) safe := ⟨hB3, H.out.hg, own_of_base (by rw [HNL.out]; exact ho3) (show b0 ≤ w1.heap.size by have := H.out.hb; omega), H.out.hl, ⟨H.out.hr.1, H.out.hr.2.1, by have := H.out.hr.2.2; rw [HNL.out]; omega⟩, by rw [HNL.out]; exact hsn, by simpa using hbb⟩
      have HLT := Lib.hid hlt
      clear hr2 ho3 hB3 hlt h2
      go_wp2_with fail
      refine calls_name ?_
      intro w3 hW3
      have h3 : LogAt w3 b0 g (.slice A2 n c2) left down room (B.take n) safe := by rw [hW3.out]; exact HLT.out
      have hk3 : LK w w3 g (.slice A0 B.length c0) := by rw [hW3.out]; exact (LK.of_below hbw2).setCell 3 _
      clear hW3 HLT y3 z3
      refine h3.lists_ok.mono ?_
      rintro e w4 ⟨vo, rfl, hoo, hb4⟩
      have h4 := h3.below hb4
      have hk4 := hk3.trans (LK.of_below (v := .slice A2 n c2) hb4) HFR
      have hpe := Lib.hid (parse_len (B.take n))
      obtain ⟨en, hen⟩ : ∃ en, en = (parse (B.take n)).2 := ⟨_, rfl⟩
      rw [← hen]
      have henl : en ≤ n := by have := hpe.out; rw [HNL.out] at this; omega
      have hen0 : (0 : Int) ≤ (en : Int) := by omega
      have henc : (en : Int) ≤ (c2 : Int) := by omega
      have HEN := Lib.hid hen
      obtain ⟨⟨y0, y1, y2, y3, y4⟩, z0, z1, z3, z4⟩ := h4.cells
      clear hoo hb4 h3 hk3 hen
      go_wp2_with fail
      go_end0
      rw [← HEN.out]
      have ho4 := h4.ho
      rw [HNL.out] at ho4
      have hlen2 : ((B.take n).take en).length = en := by rw [List.length_take, HNL.out]; omega
      have hsh := own_shrink ho4 henl
      have hks : LK w4 ((((w4.setCell ⟨g, 3, none⟩ (.slice A2 en c2)).setCell ⟨g, 4, none⟩ (.int .i64 (en : Int))).setCell ⟨g, 0, none⟩ (.int .i64 (-1))).setCell ⟨g, 1, none⟩ (.bool false)) g .nilIface := ((((LK.refl w4 g .nilIface).setCell 3 _).setCell 4 _).setCell 0 _).setCell 1 _
      refine ⟨rfl, .slice A2 en c2, ⟨(((h4.hB.setCell 3 _).setCell 4 _).setCell 0 _).setCell 1 _, H.out.hg, ?_, by omega, ⟨H.out.hr.1, H.out.hr.2.1, ?_⟩, ?_, ?_⟩, (((hk4.setCell 3 _).setCell 4 _).setCell 0 _).setCell 1 _, fun k hk hlt => HFR k (by cases A2 <;> exact hk) hlt⟩
      · rw [hlen2, bytesV_take]
        exact own_LK hsh hks (own_blk hsh h4.hB (by decide)) (fun k hk e => by simp [Value.ownBlock] at e)
      · have := H.out.hr.2.2; rw [hlen2]; omega
      · rw [hlen2]; exact Nat.le_refl _
      · have := h4.hb; simp; omega
    · have hx : (safe : Int) + ((B.length : Int) - (safe : Int)) = (n : Int) := by rw [hn]; unfold crashN; rw [if_neg hk1, if_neg hk2]; omega
      have hmx : ¬ keep < 0 := by omega
      have hmn : (B.length : Int) - (safe : Int) < keep := by omega
      clear hn
      go_enter Tryd.func13, Tryd.ntmps13
      go_wp2_with fail
      refine wp_region_bel w.heap.size w (by kernel_rfl) (by kernel_rfl) (Below.refl _ _) ?_
      repeat (go_big_quiet_step (fail))
      refine wpQuiet_nil ?_
      intro w1 hb1
      have hs1 := hb1.size
      clear k3 k4
      have y3a := (hb1.cell (p := ⟨g, 3, none⟩) hgl).trans X3.out
      go_wp2_with fail
      refine (clone_any A0 (B.take n) n c0 (fun e => ⟨by have := (hA0 e).1; omega, (hA0 e).2⟩) HNL.out.symm (by rw [HNL.out]; omega) w1 (((HR0.out.below hb1).more hs1).bytesTake n)).mono ?_
      rintro e w2 ⟨v2, rfl, ho2, hb2⟩
      rw [HNL.out] at ho2
      have hbw2 := hb1.trans (hb2.mono hs1)
      have h2 := H.out.below hbw2
      have hs2 := hbw2.size
      obtain ⟨A2, c2, rfl, hc2, hA2, hr2⟩ := own_form3 ho2
      have y3 : w2.cell? ⟨g, 3, none⟩ = some (.slice A0 B.length c0) := h2.hB.cell 3
      have z3 := h2.hB.frozen 3
      have hne2 : some g ≠ (Value.slice A2 n c2).ownBlock := own_blk ho2 h2.hB (by decide)
      have hB3 := h2.hB.setCell 3 (.slice A2 n c2)
      have ho3 := own_off (i := 3) (u := .slice A2 n c2) ho2 hne2
      have hbb := h2.hb
      have HFR : Fresh w (.slice A0 B.length c0) (.slice A2 n c2) := fun k hk hlt => by have := (ho2.lt k hk).1; omega
      have hlt : LogAt (w2.setCell ⟨g, 3, none⟩ (.slice A2 n c2)) b0 g (.slice A2 n c2) left down room (B.take n) safe := ⟨hB3, H.out.hg, own_of_base (by rw [HNL.out]; exact ho3) (show b0 ≤ w1.heap.size by have := H.out.hb; omega), H.out.hl, ⟨H.out.hr.1, H.out.hr.2.1, by have := H.out.hr.2.2; rw [HNL.out]; omega⟩, by rw [HNL.out]; exact hsn, by simpa using hbb⟩
      have HLT := Lib.hid hlt
      clear hr2 ho3 hB3 hlt h2
      go_wp2_with fail
      refine calls_name ?_
      intro w3 hW3
      have h3 : LogAt w3 b0 g (.slice A2 n c2) left down room (B.take n) safe := by rw [hW3.out]; exact HLT.out
      have hk3 : LK w w3 g (.slice A0 B.length c0) := by rw [hW3.out]; exact (LK.of_below hbw2).setCell 3 _
      clear hW3 HLT y3 z3
      refine h3.lists_ok.mono ?_
      rintro e w4 ⟨vo, rfl, hoo, hb4⟩
      have h4 := h3.below hb4
      have hk4 := hk3.trans (LK.of_below (v := .slice A2 n c2) hb4) HFR
      have hpe := Lib.hid (parse_len (B.take n))
      obtain ⟨en, hen⟩ : ∃ en, en = (parse (B.take n)).2 := ⟨_, rfl⟩
      rw [← hen]
      have henl : en ≤ n := by have := hpe.out; rw [HNL.out] at this; omega
      have hen0 : (0 : Int) ≤ (en : Int) := by omega
      have henc : (en : Int) ≤ (c2 : Int) := by omega
      have HEN := Lib.hid hen
      obtain ⟨⟨y0, y1, y2, y3, y4⟩, z0, z1, z3, z4⟩ := h4.cells
      clear hoo hb4 h3 hk3 hen
      go_wp2_with fail
      go_end0
      rw [← HEN.out]
      have ho4 := h4.ho
      rw [HNL.out] at ho4
      have hlen2 : ((B.take n).take en).length = en := by rw [List.length_take, HNL.out]; omega
      have hsh := own_shrink ho4 henl
      have hks : LK w4 ((((w4.setCell ⟨g, 3, none⟩ (.slice A2 en c2)).setCell ⟨g, 4, none⟩ (.int .i64 (en : Int))).setCell ⟨g, 0, none⟩ (.int .i64 (-1))).setCell ⟨g, 1, none⟩ (.bool false)) g .nilIface := ((((LK.refl w4 g .nilIface).setCell 3 _).setCell 4 _).setCell 0 _).setCell 1 _
      refine ⟨rfl, .slice A2 en c2, ⟨(((h4.hB.setCell 3 _).setCell 4 _).setCell 0 _).setCell 1 _, H.out.hg, ?_, by omega, ⟨H.out.hr.1, H.out.hr.2.1, ?_⟩, ?_, ?_⟩, (((hk4.setCell 3 _).setCell 4 _).setCell 0 _).setCell 1 _, fun k hk hlt => HFR k (by cases A2 <;> exact hk) hlt⟩
      · rw [hlen2, bytesV_take]
        exact own_LK hsh hks (own_blk hsh h4.hB (by decide)) (fun k hk e => by simp [Value.ownBlock] at e)
      · have := H.out.hr.2.2; rw [hlen2]; omega
      · rw [hlen2]; exact Nat.le_refl _
      · have := h4.hb; simp; omega
end Go.Proofs.YtdcjogofjniogaaDoor
