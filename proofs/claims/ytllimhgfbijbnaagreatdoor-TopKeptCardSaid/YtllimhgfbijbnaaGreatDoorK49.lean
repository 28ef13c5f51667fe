/- Parts of the proof; conditions: as each theorem says. -/
import Derived.Test.YtllimhgfbijbnaaGreatDoorK45
import Derived.Test.YtllimhgfbijbnaaGreatDoorK37
import Derived.Test.YtllimhgfbijbnaaGreatDoorK41
import Derived.Test.YtllimhgfbijbnaaGreatDoorK11
import Derived.Test.YtllimhgfbijbnaaGreatDoorK48
import Derived.Test.YtllimhgfbijbnaaGreatDoorK24
import Derived.Test.YtllimhgfbijbnaaGreatDoorK16
set_option linter.unusedVariables false
set_option linter.unusedSimpArgs false
set_option maxRecDepth 100000
set_option maxHeartbeats 40000000
namespace Go.Proofs.YtllimhgfbijbnaaGreatDoor
open Go.RowKit
section
variable {B : Nat} {w : World} {T : Nat → Prop} {d : Nat} {g : Dk} {id : Int} {k : Nat}
theorem DK.do_2 (h : DK B w T d g k) (hk : k ≤ 40000) (hid : (Lit.int .i64 id).wf = true) (nm ow : List UInt8) (pa pn ln ad : Int) (hc : CallOk ⟨2, nm, pa, pn, ln, ad, ow⟩) (hn : nameB nm = true) (ho : nameB ow = true) (hp : chk pa pn = 0) :
  Calls Tryz.prog 76 #[workV d id ⟨2, nm, pa, pn, ln, ad, ow⟩] w (DoR B w T d k (g.do2 id ⟨2, nm, pa, pn, ln, ad, ow⟩)) := by
 have hD1 := h.refl.alloc (.cells #[ptrV d, intV id, .int .i64 2, txt nm, .int .i64 pa, .int .i64 pn, .int .i64 ln, .int .i64 ad, txt ow] 153)
 have hX1 := Loc.new h 153 #[ptrV d, intV id, .int .i64 2, txt nm, .int .i64 pa, .int .i64 pn, .int .i64 ln, .int .i64 ad, txt ow]
 have hD2 := hD1.alloc (.cells #[.int .i64 0, .int .i64 0, .int .i64 0, .string { data := #[] }, .slice none 0 0] 46)
 have hX2 := hX1.alloc (.cells #[.int .i64 0, .int .i64 0, .int .i64 0, .string { data := #[] }, .slice none 0 0] 46)
 have hR2 := Loc.new hD1.dk 46 #[.int .i64 0, .int .i64 0, .int .i64 0, .string { data := #[] }, .slice none 0 0]
 have hD3 := hD2.alloc (.cells #[.int .i64 2, txt nm, .int .i64 pa, .int .i64 pn, .int .i64 ln, .int .i64 ad, txt ow] 33)
 have hX3 := hX2.alloc (.cells #[.int .i64 2, txt nm, .int .i64 pa, .int .i64 pn, .int .i64 ln, .int .i64 ad, txt ow] 33)
 have hC3 := Loc.new hD2.dk 33 #[.int .i64 2, txt nm, .int .i64 pa, .int .i64 pn, .int .i64 ln, .int .i64 ad, txt ow]
 have hR3 := hR2.alloc (.cells #[.int .i64 2, txt nm, .int .i64 pa, .int .i64 pn, .int .i64 ln, .int .i64 ad, txt ow] 33)
 rw [World.size_alloc] at hR3
 rw [World.size_alloc, World.size_alloc] at hC3
 have e2 := hX1.blk.cell 2
 have e3 := hX1.blk.cell 3
 have e4 := hX1.blk.cell 4
 have e5 := hX1.blk.cell 5
 have e6 := hX1.blk.cell 6
 have e7 := hX1.blk.cell 7
 have e8 := hX1.blk.cell 8
 simp at e2 e3 e4 e5 e6 e7 e8
 unfold workV
 dsimp only
 go_enter Tryz.func76, Tryz.ntmps76
 go_upto_region 2 with fail
 refine wp_name (fun w3 HW => ?_)
 rw [← HW.out] at hD3 hX3 hR3 hC3
 clear HW hD1 hD2 hX1 hX2 hR2 e2 e3 e4 e5 e6 e7 e8
 have HN := Hd hn
 have HP := Hd hp
 have HPK := Hd (fun (W : World) (hB : B ≤ W.heap.size) hV => pk_any nm HN.out (pa, pn) HP.out (B := B) W hB hV)
 have HHAS := Hd (fun W T' (q : DK B W T' d g k) => q.has hk hid ⟨2, nm, pa, pn, ln, ad, ow⟩ (pkOf nm (pa, pn)) (by have := pk_len (c := ⟨2, nm, pa, pn, ln, ad, ow⟩) HN.out (pa, pn) HP.out; unfold maxLen; simp only at this; omega))
 have HKL := Hd (show (pkOf nm (pa, pn)).length ≤ maxLen by have := pk_len (c := ⟨2, nm, pa, pn, ln, ad, ow⟩) HN.out (pa, pn) HP.out; unfold maxLen; simp only at this; omega)
 have HOL := Hd (show ow.length ≤ maxLen by have := hc.owner; unfold maxLen; simp only at this; omega)
 have HV := Hd (show g.do2 id ⟨2, nm, pa, pn, ln, ad, ow⟩ = if (g.has id (pkOf nm (pa, pn))).2.1 ≠ 0 then (noAns, (g.has id (pkOf nm (pa, pn))).2.1, (g.has id (pkOf nm (pa, pn))).2.2) else if (g.has id (pkOf nm (pa, pn))).1 then (noAns, 6, (g.has id (pkOf nm (pa, pn))).2.2) else (g.has id (pkOf nm (pa, pn))).2.2.chg id ⟨pkOf nm (pa, pn), ow, false⟩ noAns from rfl)
 unfold workV at HHAS
 dsimp only at HPK HHAS
 generalize g.has id (pkOf nm (pa, pn)) = rh at *
 generalize pkOf nm (pa, pn) = key at *
 clear hn hp hc ho
 have hks : ∀ W : World, Blk W w.heap.size 153 #[ptrV d, intV id, .int .i64 2, txt nm, .int .i64 pa, .int .i64 pn, .int .i64 ln, .int .i64 ad, txt ow] → Blk W (w.heap.size + 2) 33 #[.int .i64 2, txt nm, .int .i64 pa, .int .i64 pn, .int .i64 ln, .int .i64 ad, txt ow] → W.cell? ⟨w.heap.size, 0, none⟩ = some (ptrV d) ∧ W.cell? ⟨w.heap.size, 1, none⟩ = some (intV id) ∧ W.cell? ⟨w.heap.size, 2, none⟩ = some (.int .i64 2) ∧ W.cell? ⟨w.heap.size, 3, none⟩ = some (txt nm) ∧ W.cell? ⟨w.heap.size, 4, none⟩ = some (.int .i64 pa) ∧ W.cell? ⟨w.heap.size, 5, none⟩ = some (.int .i64 pn) ∧ W.cell? ⟨w.heap.size, 6, none⟩ = some (.int .i64 ln) ∧ W.cell? ⟨w.heap.size, 7, none⟩ = some (.int .i64 ad) ∧ W.cell? ⟨w.heap.size, 8, none⟩ = some (txt ow) ∧ W.cell? ⟨w.heap.size + 2, 0, none⟩ = some (.int .i64 2) ∧ W.cell? ⟨w.heap.size + 2, 1, none⟩ = some (txt nm) ∧ W.cell? ⟨w.heap.size + 2, 2, none⟩ = some (.int .i64 pa) ∧ W.cell? ⟨w.heap.size + 2, 3, none⟩ = some (.int .i64 pn) ∧ W.cell? ⟨w.heap.size + 2, 4, none⟩ = some (.int .i64 ln) ∧ W.cell? ⟨w.heap.size + 2, 5, none⟩ = some (.int .i64 ad) ∧ W.cell? ⟨w.heap.size + 2, 6, none⟩ = some (txt ow) := fun W a b => ⟨a.cell 0, a.cell 1, a.cell 2, a.cell 3, a.cell 4, a.cell 5, a.cell 6, a.cell 7, a.cell 8, b.cell 0, b.cell 1, b.cell 2, b.cell 3, b.cell 4, b.cell 5, b.cell 6⟩
 obtain ⟨y0, y1, y2, y3, y4, y5, y6, y7, y8⟩ := hX3.blk.cls9
 obtain ⟨z0, z1, z2, z3, z4⟩ := hR3.blk.cls5
 obtain ⟨u0, u1, u2, u3, u4⟩ := hR3.blk.frs5
 obtain ⟨x0, x1, x2, x3, x4, x5, x6⟩ := hC3.blk.cls7
 simp at y0 y1 y2 y3 y4 y5 y6 y7 y8 z0 z1 z2 z3 z4 x0 x1 x2 x3 x4 x5 x6
 go_upto_region 4 with fail
 clear y0 y1 y2 y3 y4 y5 y6 y7 y8 z0 z1 z2 z3 z4 u0 u1 u2 u3 u4 x0 x1 x2 x3 x4 x5 x6
 have hXd : Blk w3.drew w.heap.size 153 #[ptrV d, intV id, .int .i64 2, txt nm, .int .i64 pa, .int .i64 pn, .int .i64 ln, .int .i64 ad, txt ow] := hX3.blk
 have hCd : Blk w3.drew (w.heap.size + 2) 33 #[.int .i64 2, txt nm, .int .i64 pa, .int .i64 pn, .int .i64 ln, .int .i64 ad, txt ow] := hC3.blk
 go_region_held3 (fun W => W.cell? ⟨w.heap.size, 0, none⟩ = some (ptrV d) ∧ W.cell? ⟨w.heap.size, 1, none⟩ = some (intV id) ∧ W.cell? ⟨w.heap.size, 2, none⟩ = some (.int .i64 2) ∧ W.cell? ⟨w.heap.size, 3, none⟩ = some (txt nm) ∧ W.cell? ⟨w.heap.size, 4, none⟩ = some (.int .i64 pa) ∧ W.cell? ⟨w.heap.size, 5, none⟩ = some (.int .i64 pn) ∧ W.cell? ⟨w.heap.size, 6, none⟩ = some (.int .i64 ln) ∧ W.cell? ⟨w.heap.size, 7, none⟩ = some (.int .i64 ad) ∧ W.cell? ⟨w.heap.size, 8, none⟩ = some (txt ow) ∧ W.cell? ⟨w.heap.size + 2, 0, none⟩ = some (.int .i64 2) ∧ W.cell? ⟨w.heap.size + 2, 1, none⟩ = some (txt nm) ∧ W.cell? ⟨w.heap.size + 2, 2, none⟩ = some (.int .i64 pa) ∧ W.cell? ⟨w.heap.size + 2, 3, none⟩ = some (.int .i64 pn) ∧ W.cell? ⟨w.heap.size + 2, 4, none⟩ = some (.int .i64 ln) ∧ W.cell? ⟨w.heap.size + 2, 5, none⟩ = some (.int .i64 ad) ∧ W.cell? ⟨w.heap.size + 2, 6, none⟩ = some (txt ow))
  (first
   | with_reducible exact hks _ hXd hCd
   | with_reducible exact hks _ hX4.blk hC4.blk
   | with_reducible exact hks _ hX5.blk hC5.blk)
  ((first
   | (go_at_call 110; refine (HPK.out _ hD3.drew.dk.le hD3.drew.dk.gv).mono ?_; rintro e w4 ⟨rfl, hb4⟩; have hD4 := hD3.drew.bel hb4; have hX4 := hX3.bel (w2 := w4) ⟨hb4.os, hb4.tape, hb4.output, hb4.size, hb4.block⟩; have hR4 := hR3.bel (w2 := w4) ⟨hb4.os, hb4.tape, hb4.output, hb4.size, hb4.block⟩; have hC4 := hC3.bel (w2 := w4) ⟨hb4.os, hb4.tape, hb4.output, hb4.size, hb4.block⟩)
   | (go_at_call 73; refine (HHAS.out _ _ hD4.dk).mono ?_; rintro e w5 ⟨rfl, T5, hD45⟩; have hD5 := hD4.step hD45; have hX5 := hX4.step hD45; have hR5 := hR4.step hD45; have hC5 := hC4.step hD45)))
 clear hD3 hX3 hR3 hC3 hD4 hX4 hR4 hC4 hD45 hb4 hXd hCd
 obtain ⟨b, f, g1⟩ := rh
 dsimp only at HV hD5
 by_cases hf : f ≠ 0
 ·have HR := Hd (show g.do2 id ⟨2, nm, pa, pn, ln, ad, ow⟩ = (noAns, f, g1) by rw [HV.out, if_pos hf])
  have HF := Hd (fault_num hf)
  have HNZ := Hd hf
  rw [HF.out]
  clear hf HV
  obtain ⟨y0, y1, y2, y3, y4, y5, y6, y7, y8⟩ := hX5.blk.cls9
  obtain ⟨z0, z1, z2, z3, z4⟩ := hR5.blk.cls5
  obtain ⟨u0, u1, u2, u3, u4⟩ := hR5.blk.frs5
  obtain ⟨x0, x1, x2, x3, x4, x5, x6⟩ := hC5.blk.cls7
  simp at y0 y1 y2 y3 y4 y5 y6 y7 y8 z0 z1 z2 z3 z4 x0 x1 x2 x3 x4 x5 x6
  go_wp2
  refine bodyPost_ret (v := .tuple #[AnsV (.slice none 0 0) noAns, .iface 89 (.int .i64 f)]) (by simp [AnsV, noAns, results, Tryz.results76, go_sem, z0, z1, z2, z3, z4, u0, u1, u2, u3, u4]) rfl ?_
  unfold DoR
  refine ⟨_, _, _, noAns, T5, by rw [HR.out]; exact congrArg (fun x => Ending.returned (.tuple #[AnsV (.slice none 0 0) noAns, x])) HF.out.symm, fun q => ?_, ?_⟩
  ·rw [HR.out] at q ⊢
   exact absurd q HNZ.out
  ·rw [HR.out]
   (repeat' (first | exact hD5 | refine DKto.set ?_ ?_ ?_ _ | exact hR5.out)) <;> simp
 obtain rfl : f = 0 := Decidable.not_not.1 hf
 rw [show faultV 0 = .nilIface from rfl]
 clear hf
 cases b with
 | true =>
  have HR := Hd (show g.do2 id ⟨2, nm, pa, pn, ln, ad, ow⟩ = (noAns, 6, g1) from HV.out)
  clear HV
  obtain ⟨y0, y1, y2, y3, y4, y5, y6, y7, y8⟩ := hX5.blk.cls9
  obtain ⟨z0, z1, z2, z3, z4⟩ := hR5.blk.cls5
  obtain ⟨u0, u1, u2, u3, u4⟩ := hR5.blk.frs5
  obtain ⟨x0, x1, x2, x3, x4, x5, x6⟩ := hC5.blk.cls7
  simp at y0 y1 y2 y3 y4 y5 y6 y7 y8 z0 z1 z2 z3 z4 x0 x1 x2 x3 x4 x5 x6
  go_wp2
  refine bodyPost_ret (v := .tuple #[AnsV (.slice none 0 0) noAns, .iface 89 (.int .i64 6)]) (by simp [AnsV, noAns, results, Tryz.results76, go_sem, z0, z1, z2, z3, z4, u0, u1, u2, u3, u4]) rfl ?_
  unfold DoR
  refine ⟨_, _, _, noAns, T5, by rw [HR.out]; exact rfl, fun q => ?_, ?_⟩
  ·rw [HR.out] at q ⊢
   exact absurd q (by simp)
  ·rw [HR.out]
   (repeat' (first | exact hD5 | refine DKto.set ?_ ?_ ?_ _ | exact hR5.out)) <;> simp
 | false =>
  have HR := Hd (show g.do2 id ⟨2, nm, pa, pn, ln, ad, ow⟩ = g1.chg id ⟨key, ow, false⟩ noAns from HV.out)
  clear HV
  have HPU := Hd (fun W T' (q : DK B W T' d g1 k) => q.put hid key ow HKL.out HOL.out)
  have HEQ := Hd (show g1.chg id ⟨key, ow, false⟩ noAns = (noAns, (g1.change id ⟨key, ow, false⟩).1, (g1.change id ⟨key, ow, false⟩).2) by unfold Dk.chg; simp)
  generalize g1.change id ⟨key, ow, false⟩ = r3 at *
  obtain ⟨y0, y1, y2, y3, y4, y5, y6, y7, y8⟩ := hX5.blk.cls9
  obtain ⟨z0, z1, z2, z3, z4⟩ := hR5.blk.cls5
  obtain ⟨u0, u1, u2, u3, u4⟩ := hR5.blk.frs5
  obtain ⟨x0, x1, x2, x3, x4, x5, x6⟩ := hC5.blk.cls7
  simp at y0 y1 y2 y3 y4 y5 y6 y7 y8 z0 z1 z2 z3 z4 x0 x1 x2 x3 x4 x5 x6
  go_upto_region 9 with fail
  clear y0 y1 y2 y3 y4 y5 y6 y7 y8 z0 z1 z2 z3 z4 u0 u1 u2 u3 u4 x0 x1 x2 x3 x4 x5 x6
  have hXd : Blk w5.drew w.heap.size 153 #[ptrV d, intV id, .int .i64 2, txt nm, .int .i64 pa, .int .i64 pn, .int .i64 ln, .int .i64 ad, txt ow] := hX5.blk
  have hCd : Blk w5.drew (w.heap.size + 2) 33 #[.int .i64 2, txt nm, .int .i64 pa, .int .i64 pn, .int .i64 ln, .int .i64 ad, txt ow] := hC5.blk
  have hwn : w.heap.size ≠ w.heap.size + 1 := by omega
  have hcn : w.heap.size + 2 ≠ w.heap.size + 1 := by omega
  go_region_held3 (fun W => W.cell? ⟨w.heap.size, 0, none⟩ = some (ptrV d) ∧ W.cell? ⟨w.heap.size, 1, none⟩ = some (intV id) ∧ W.cell? ⟨w.heap.size, 2, none⟩ = some (.int .i64 2) ∧ W.cell? ⟨w.heap.size, 3, none⟩ = some (txt nm) ∧ W.cell? ⟨w.heap.size, 4, none⟩ = some (.int .i64 pa) ∧ W.cell? ⟨w.heap.size, 5, none⟩ = some (.int .i64 pn) ∧ W.cell? ⟨w.heap.size, 6, none⟩ = some (.int .i64 ln) ∧ W.cell? ⟨w.heap.size, 7, none⟩ = some (.int .i64 ad) ∧ W.cell? ⟨w.heap.size, 8, none⟩ = some (txt ow) ∧ W.cell? ⟨w.heap.size + 2, 0, none⟩ = some (.int .i64 2) ∧ W.cell? ⟨w.heap.size + 2, 1, none⟩ = some (txt nm) ∧ W.cell? ⟨w.heap.size + 2, 2, none⟩ = some (.int .i64 pa) ∧ W.cell? ⟨w.heap.size + 2, 3, none⟩ = some (.int .i64 pn) ∧ W.cell? ⟨w.heap.size + 2, 4, none⟩ = some (.int .i64 ln) ∧ W.cell? ⟨w.heap.size + 2, 5, none⟩ = some (.int .i64 ad) ∧ W.cell? ⟨w.heap.size + 2, 6, none⟩ = some (txt ow))
   (first
    | with_reducible exact hks _ hXd hCd
    | with_reducible exact hks _ hX6.blk hC6.blk
    | with_reducible exact hks _ hX7.blk hC7.blk
    | with_reducible exact hks _ (hX7.blk.far5 hwn _ _ _ _ _) (hC7.blk.far5 hcn _ _ _ _ _))
   ((first
    | (go_at_call 110; refine (HPK.out _ hD5.drew.dk.le hD5.drew.dk.gv).mono ?_; rintro e w6 ⟨rfl, hb6⟩; have hD6 := hD5.drew.bel hb6; have hX6 := hX5.bel (w2 := w6) ⟨hb6.os, hb6.tape, hb6.output, hb6.size, hb6.block⟩; have hR6 := hR5.bel (w2 := w6) ⟨hb6.os, hb6.tape, hb6.output, hb6.size, hb6.block⟩; have hC6 := hC5.bel (w2 := w6) ⟨hb6.os, hb6.tape, hb6.output, hb6.size, hb6.block⟩)
    | (go_at_call 75; refine (HPU.out _ _ hD6.dk).mono ?_; rintro e w7 ⟨rfl, T7, hD67⟩; have hD7 := hD6.step hD67; have hX7 := hX6.step hD67; have hR7 := hR6.step hD67; have hC7 := hC6.step hD67; have y0 := hX7.blk.cell 0; have y1 := hX7.blk.cell 1; have y2 := hX7.blk.cell 2; have y3 := hX7.blk.cell 3; have y4 := hX7.blk.cell 4; have y5 := hX7.blk.cell 5; have y6 := hX7.blk.cell 6; have y7 := hX7.blk.cell 7; have y8 := hX7.blk.cell 8;  have z0 := hR7.blk.cell 0; have z1 := hR7.blk.cell 1; have z2 := hR7.blk.cell 2; have z3 := hR7.blk.cell 3; have z4 := hR7.blk.cell 4;  have u0 := hR7.blk.frozen 0; have u1 := hR7.blk.frozen 1; have u2 := hR7.blk.frozen 2; have u3 := hR7.blk.frozen 3; have u4 := hR7.blk.frozen 4;  have x0 := hC7.blk.cell 0; have x1 := hC7.blk.cell 1; have x2 := hC7.blk.cell 2; have x3 := hC7.blk.cell 3; have x4 := hC7.blk.cell 4; have x5 := hC7.blk.cell 5; have x6 := hC7.blk.cell 6;  simp at y0 y1 y2 y3 y4 y5 y6 y7 y8 z0 z1 z2 z3 z4 x0 x1 x2 x3 x4 x5 x6)))
  clear hD5 hX5 hR5 hC5 hD6 hX6 hR6 hC6 hD67 hb6 hXd hCd
  go_wp2
  refine bodyPost_ret (v := .tuple #[AnsV (.slice none 0 0) noAns, faultV r3.1]) (by simp [AnsV, noAns, results, Tryz.results76, go_sem, z0, z1, z2, z3, z4, u0, u1, u2, u3, u4]) rfl ?_
  unfold DoR
  refine ⟨_, _, _, noAns, T7, by rw [HR.out, HEQ.out], fun q => ?_, ?_⟩
  ·rw [HR.out, HEQ.out] at q ⊢
   exact ⟨rfl, OwnP.nil _ _ _, own_none⟩
  ·rw [HR.out, HEQ.out]
   (repeat' (first | exact hD7 | refine DKto.set ?_ ?_ ?_ _ | exact hR7.out)) <;> simp
theorem DK.do_5 (h : DK B w T d g k) (hk : k ≤ 40000) (hid : (Lit.int .i64 id).wf = true) (nm ow : List UInt8) (pa pn ln ad : Int) (hc : CallOk ⟨5, nm, pa, pn, ln, ad, ow⟩) (hn : nameB nm = true) (ha : isA ad = true) :
  Calls Tryz.prog 76 #[workV d id ⟨5, nm, pa, pn, ln, ad, ow⟩] w (DoR B w T d k (g.do2 id ⟨5, nm, pa, pn, ln, ad, ow⟩)) := by
 have hD1 := h.refl.alloc (.cells #[ptrV d, intV id, .int .i64 5, txt nm, .int .i64 pa, .int .i64 pn, .int .i64 ln, .int .i64 ad, txt ow] 153)
 have hX1 := Loc.new h 153 #[ptrV d, intV id, .int .i64 5, txt nm, .int .i64 pa, .int .i64 pn, .int .i64 ln, .int .i64 ad, txt ow]
 have hD2 := hD1.alloc (.cells #[.int .i64 0, .int .i64 0, .int .i64 0, .string { data := #[] }, .slice none 0 0] 46)
 have hX2 := hX1.alloc (.cells #[.int .i64 0, .int .i64 0, .int .i64 0, .string { data := #[] }, .slice none 0 0] 46)
 have hR2 := Loc.new hD1.dk 46 #[.int .i64 0, .int .i64 0, .int .i64 0, .string { data := #[] }, .slice none 0 0]
 have hD3 := hD2.alloc (.cells #[.int .i64 5, txt nm, .int .i64 pa, .int .i64 pn, .int .i64 ln, .int .i64 ad, txt ow] 33)
 have hX3 := hX2.alloc (.cells #[.int .i64 5, txt nm, .int .i64 pa, .int .i64 pn, .int .i64 ln, .int .i64 ad, txt ow] 33)
 have hC3 := Loc.new hD2.dk 33 #[.int .i64 5, txt nm, .int .i64 pa, .int .i64 pn, .int .i64 ln, .int .i64 ad, txt ow]
 have hR3 := hR2.alloc (.cells #[.int .i64 5, txt nm, .int .i64 pa, .int .i64 pn, .int .i64 ln, .int .i64 ad, txt ow] 33)
 rw [World.size_alloc] at hR3
 rw [World.size_alloc, World.size_alloc] at hC3
 have e2 := hX1.blk.cell 2
 have e3 := hX1.blk.cell 3
 have e4 := hX1.blk.cell 4
 have e5 := hX1.blk.cell 5
 have e6 := hX1.blk.cell 6
 have e7 := hX1.blk.cell 7
 have e8 := hX1.blk.cell 8
 simp at e2 e3 e4 e5 e6 e7 e8
 unfold workV
 dsimp only
 go_enter Tryz.func76, Tryz.ntmps76
 go_upto_region 2 with fail
 refine wp_name (fun w3 HW => ?_)
 rw [← HW.out] at hD3 hX3 hR3 hC3
 clear HW hD1 hD2 hX1 hX2 hR2 e2 e3 e4 e5 e6 e7 e8
 have HN := Hd hn
 have HA := Hd ha
 have HPK := Hd (fun (W : World) (hB : B ≤ W.heap.size) hV => ak_any nm HN.out ad HA.out (B := B) W hB hV)
 have HHAS := Hd (fun W T' (q : DK B W T' d g k) => q.has hk hid ⟨5, nm, pa, pn, ln, ad, ow⟩ (akOf nm ad) (by have := ak_len (c := ⟨5, nm, pa, pn, ln, ad, ow⟩) HN.out ad; unfold maxLen; simp only at this; omega))
 have HKL := Hd (show (akOf nm ad).length ≤ maxLen by have := ak_len (c := ⟨5, nm, pa, pn, ln, ad, ow⟩) HN.out ad; unfold maxLen; simp only at this; omega)
 have HV := Hd (show g.do2 id ⟨5, nm, pa, pn, ln, ad, ow⟩ = if (g.has id (akOf nm ad)).2.1 ≠ 0 then (noAns, (g.has id (akOf nm ad)).2.1, (g.has id (akOf nm ad)).2.2) else if (g.has id (akOf nm ad)).1 = false then (noAns, 4, (g.has id (akOf nm ad)).2.2) else (g.has id (akOf nm ad)).2.2.chg id ⟨akOf nm ad, [], true⟩ noAns from rfl)
 unfold workV at HHAS
 dsimp only at HPK HHAS
 generalize g.has id (akOf nm ad) = rh at *
 generalize akOf nm ad = key at *
 clear hn ha hc
 have hks : ∀ W : World, Blk W w.heap.size 153 #[ptrV d, intV id, .int .i64 5, txt nm, .int .i64 pa, .int .i64 pn, .int .i64 ln, .int .i64 ad, txt ow] → Blk W (w.heap.size + 2) 33 #[.int .i64 5, txt nm, .int .i64 pa, .int .i64 pn, .int .i64 ln, .int .i64 ad, txt ow] → W.cell? ⟨w.heap.size, 0, none⟩ = some (ptrV d) ∧ W.cell? ⟨w.heap.size, 1, none⟩ = some (intV id) ∧ W.cell? ⟨w.heap.size, 2, none⟩ = some (.int .i64 5) ∧ W.cell? ⟨w.heap.size, 3, none⟩ = some (txt nm) ∧ W.cell? ⟨w.heap.size, 4, none⟩ = some (.int .i64 pa) ∧ W.cell? ⟨w.heap.size, 5, none⟩ = some (.int .i64 pn) ∧ W.cell? ⟨w.heap.size, 6, none⟩ = some (.int .i64 ln) ∧ W.cell? ⟨w.heap.size, 7, none⟩ = some (.int .i64 ad) ∧ W.cell? ⟨w.heap.size, 8, none⟩ = some (txt ow) ∧ W.cell? ⟨w.heap.size + 2, 0, none⟩ = some (.int .i64 5) ∧ W.cell? ⟨w.heap.size + 2, 1, none⟩ = some (txt nm) ∧ W.cell? ⟨w.heap.size + 2, 2, none⟩ = some (.int .i64 pa) ∧ W.cell? ⟨w.heap.size + 2, 3, none⟩ = some (.int .i64 pn) ∧ W.cell? ⟨w.heap.size + 2, 4, none⟩ = some (.int .i64 ln) ∧ W.cell? ⟨w.heap.size + 2, 5, none⟩ = some (.int .i64 ad) ∧ W.cell? ⟨w.heap.size + 2, 6, none⟩ = some (txt ow) := fun W a b => ⟨a.cell 0, a.cell 1, a.cell 2, a.cell 3, a.cell 4, a.cell 5, a.cell 6, a.cell 7, a.cell 8, b.cell 0, b.cell 1, b.cell 2, b.cell 3, b.cell 4, b.cell 5, b.cell 6⟩
 obtain ⟨y0, y1, y2, y3, y4, y5, y6, y7, y8⟩ := hX3.blk.cls9
 obtain ⟨z0, z1, z2, z3, z4⟩ := hR3.blk.cls5
 obtain ⟨u0, u1, u2, u3, u4⟩ := hR3.blk.frs5
 obtain ⟨x0, x1, x2, x3, x4, x5, x6⟩ := hC3.blk.cls7
 simp at y0 y1 y2 y3 y4 y5 y6 y7 y8 z0 z1 z2 z3 z4 x0 x1 x2 x3 x4 x5 x6
 go_upto_region 25 with fail
 clear y0 y1 y2 y3 y4 y5 y6 y7 y8 z0 z1 z2 z3 z4 u0 u1 u2 u3 u4 x0 x1 x2 x3 x4 x5 x6
 have hXd : Blk w3.drew w.heap.size 153 #[ptrV d, intV id, .int .i64 5, txt nm, .int .i64 pa, .int .i64 pn, .int .i64 ln, .int .i64 ad, txt ow] := hX3.blk
 have hCd : Blk w3.drew (w.heap.size + 2) 33 #[.int .i64 5, txt nm, .int .i64 pa, .int .i64 pn, .int .i64 ln, .int .i64 ad, txt ow] := hC3.blk
 go_region_held3 (fun W => W.cell? ⟨w.heap.size, 0, none⟩ = some (ptrV d) ∧ W.cell? ⟨w.heap.size, 1, none⟩ = some (intV id) ∧ W.cell? ⟨w.heap.size, 2, none⟩ = some (.int .i64 5) ∧ W.cell? ⟨w.heap.size, 3, none⟩ = some (txt nm) ∧ W.cell? ⟨w.heap.size, 4, none⟩ = some (.int .i64 pa) ∧ W.cell? ⟨w.heap.size, 5, none⟩ = some (.int .i64 pn) ∧ W.cell? ⟨w.heap.size, 6, none⟩ = some (.int .i64 ln) ∧ W.cell? ⟨w.heap.size, 7, none⟩ = some (.int .i64 ad) ∧ W.cell? ⟨w.heap.size, 8, none⟩ = some (txt ow) ∧ W.cell? ⟨w.heap.size + 2, 0, none⟩ = some (.int .i64 5) ∧ W.cell? ⟨w.heap.size + 2, 1, none⟩ = some (txt nm) ∧ W.cell? ⟨w.heap.size + 2, 2, none⟩ = some (.int .i64 pa) ∧ W.cell? ⟨w.heap.size + 2, 3, none⟩ = some (.int .i64 pn) ∧ W.cell? ⟨w.heap.size + 2, 4, none⟩ = some (.int .i64 ln) ∧ W.cell? ⟨w.heap.size + 2, 5, none⟩ = some (.int .i64 ad) ∧ W.cell? ⟨w.heap.size + 2, 6, none⟩ = some (txt ow))
  (first
   | with_reducible exact hks _ hXd hCd
   | with_reducible exact hks _ hX4.blk hC4.blk
   | with_reducible exact hks _ hX5.blk hC5.blk)
  ((first
   | (go_at_call 113; refine (HPK.out _ hD3.drew.dk.le hD3.drew.dk.gv).mono ?_; rintro e w4 ⟨rfl, hb4⟩; have hD4 := hD3.drew.bel hb4; have hX4 := hX3.bel (w2 := w4) ⟨hb4.os, hb4.tape, hb4.output, hb4.size, hb4.block⟩; have hR4 := hR3.bel (w2 := w4) ⟨hb4.os, hb4.tape, hb4.output, hb4.size, hb4.block⟩; have hC4 := hC3.bel (w2 := w4) ⟨hb4.os, hb4.tape, hb4.output, hb4.size, hb4.block⟩)
   | (go_at_call 73; refine (HHAS.out _ _ hD4.dk).mono ?_; rintro e w5 ⟨rfl, T5, hD45⟩; have hD5 := hD4.step hD45; have hX5 := hX4.step hD45; have hR5 := hR4.step hD45; have hC5 := hC4.step hD45)))
 clear hD3 hX3 hR3 hC3 hD4 hX4 hR4 hC4 hD45 hb4 hXd hCd
 obtain ⟨b, f, g1⟩ := rh
 dsimp only at HV hD5
 by_cases hf : f ≠ 0
 ·have HR := Hd (show g.do2 id ⟨5, nm, pa, pn, ln, ad, ow⟩ = (noAns, f, g1) by rw [HV.out, if_pos hf])
  have HF := Hd (fault_num hf)
  have HNZ := Hd hf
  rw [HF.out]
  clear hf HV
  obtain ⟨y0, y1, y2, y3, y4, y5, y6, y7, y8⟩ := hX5.blk.cls9
  obtain ⟨z0, z1, z2, z3, z4⟩ := hR5.blk.cls5
  obtain ⟨u0, u1, u2, u3, u4⟩ := hR5.blk.frs5
  obtain ⟨x0, x1, x2, x3, x4, x5, x6⟩ := hC5.blk.cls7
  simp at y0 y1 y2 y3 y4 y5 y6 y7 y8 z0 z1 z2 z3 z4 x0 x1 x2 x3 x4 x5 x6
  go_wp2
  refine bodyPost_ret (v := .tuple #[AnsV (.slice none 0 0) noAns, .iface 89 (.int .i64 f)]) (by simp [AnsV, noAns, results, Tryz.results76, go_sem, z0, z1, z2, z3, z4, u0, u1, u2, u3, u4]) rfl ?_
  unfold DoR
  refine ⟨_, _, _, noAns, T5, by rw [HR.out]; exact congrArg (fun x => Ending.returned (.tuple #[AnsV (.slice none 0 0) noAns, x])) HF.out.symm, fun q => ?_, ?_⟩
  ·rw [HR.out] at q ⊢
   exact absurd q HNZ.out
  ·rw [HR.out]
   (repeat' (first | exact hD5 | refine DKto.set ?_ ?_ ?_ _ | exact hR5.out)) <;> simp
 obtain rfl : f = 0 := Decidable.not_not.1 hf
 rw [show faultV 0 = .nilIface from rfl]
 clear hf
 cases b with
 | false =>
  have HR := Hd (show g.do2 id ⟨5, nm, pa, pn, ln, ad, ow⟩ = (noAns, 4, g1) from HV.out)
  clear HV
  obtain ⟨y0, y1, y2, y3, y4, y5, y6, y7, y8⟩ := hX5.blk.cls9
  obtain ⟨z0, z1, z2, z3, z4⟩ := hR5.blk.cls5
  obtain ⟨u0, u1, u2, u3, u4⟩ := hR5.blk.frs5
  obtain ⟨x0, x1, x2, x3, x4, x5, x6⟩ := hC5.blk.cls7
  simp at y0 y1 y2 y3 y4 y5 y6 y7 y8 z0 z1 z2 z3 z4 x0 x1 x2 x3 x4 x5 x6
  go_wp2
  refine bodyPost_ret (v := .tuple #[AnsV (.slice none 0 0) noAns, .iface 89 (.int .i64 4)]) (by simp [AnsV, noAns, results, Tryz.results76, go_sem, z0, z1, z2, z3, z4, u0, u1, u2, u3, u4]) rfl ?_
  unfold DoR
  refine ⟨_, _, _, noAns, T5, by rw [HR.out]; exact rfl, fun q => ?_, ?_⟩
  ·rw [HR.out] at q ⊢
   exact absurd q (by simp)
  ·rw [HR.out]
   (repeat' (first | exact hD5 | refine DKto.set ?_ ?_ ?_ _ | exact hR5.out)) <;> simp
 | true =>
  have HR := Hd (show g.do2 id ⟨5, nm, pa, pn, ln, ad, ow⟩ = g1.chg id ⟨key, [], true⟩ noAns from HV.out)
  clear HV
  have HPU := Hd (fun W T' (q : DK B W T' d g1 k) => q.drop hid key HKL.out)
  have HEQ := Hd (show g1.chg id ⟨key, [], true⟩ noAns = (noAns, (g1.change id ⟨key, [], true⟩).1, (g1.change id ⟨key, [], true⟩).2) by unfold Dk.chg; simp)
  generalize g1.change id ⟨key, [], true⟩ = r3 at *
  obtain ⟨y0, y1, y2, y3, y4, y5, y6, y7, y8⟩ := hX5.blk.cls9
  obtain ⟨z0, z1, z2, z3, z4⟩ := hR5.blk.cls5
  obtain ⟨u0, u1, u2, u3, u4⟩ := hR5.blk.frs5
  obtain ⟨x0, x1, x2, x3, x4, x5, x6⟩ := hC5.blk.cls7
  simp at y0 y1 y2 y3 y4 y5 y6 y7 y8 z0 z1 z2 z3 z4 x0 x1 x2 x3 x4 x5 x6
  go_upto_region 30 with fail
  clear y0 y1 y2 y3 y4 y5 y6 y7 y8 z0 z1 z2 z3 z4 u0 u1 u2 u3 u4 x0 x1 x2 x3 x4 x5 x6
  have hXd : Blk w5.drew w.heap.size 153 #[ptrV d, intV id, .int .i64 5, txt nm, .int .i64 pa, .int .i64 pn, .int .i64 ln, .int .i64 ad, txt ow] := hX5.blk
  have hCd : Blk w5.drew (w.heap.size + 2) 33 #[.int .i64 5, txt nm, .int .i64 pa, .int .i64 pn, .int .i64 ln, .int .i64 ad, txt ow] := hC5.blk
  have hwn : w.heap.size ≠ w.heap.size + 1 := by omega
  have hcn : w.heap.size + 2 ≠ w.heap.size + 1 := by omega
  go_region_held3 (fun W => W.cell? ⟨w.heap.size, 0, none⟩ = some (ptrV d) ∧ W.cell? ⟨w.heap.size, 1, none⟩ = some (intV id) ∧ W.cell? ⟨w.heap.size, 2, none⟩ = some (.int .i64 5) ∧ W.cell? ⟨w.heap.size, 3, none⟩ = some (txt nm) ∧ W.cell? ⟨w.heap.size, 4, none⟩ = some (.int .i64 pa) ∧ W.cell? ⟨w.heap.size, 5, none⟩ = some (.int .i64 pn) ∧ W.cell? ⟨w.heap.size, 6, none⟩ = some (.int .i64 ln) ∧ W.cell? ⟨w.heap.size, 7, none⟩ = some (.int .i64 ad) ∧ W.cell? ⟨w.heap.size, 8, none⟩ = some (txt ow) ∧ W.cell? ⟨w.heap.size + 2, 0, none⟩ = some (.int .i64 5) ∧ W.cell? ⟨w.heap.size + 2, 1, none⟩ = some (txt nm) ∧ W.cell? ⟨w.heap.size + 2, 2, none⟩ = some (.int .i64 pa) ∧ W.cell? ⟨w.heap.size + 2, 3, none⟩ = some (.int .i64 pn) ∧ W.cell? ⟨w.heap.size + 2, 4, none⟩ = some (.int .i64 ln) ∧ W.cell? ⟨w.heap.size + 2, 5, none⟩ = some (.int .i64 ad) ∧ W.cell? ⟨w.heap.size + 2, 6, none⟩ = some (txt ow))
   (first
    | with_reducible exact hks _ hXd hCd
    | with_reducible exact hks _ hX6.blk hC6.blk
    | with_reducible exact hks _ hX7.blk hC7.blk
    | with_reducible exact hks _ (hX7.blk.far5 hwn _ _ _ _ _) (hC7.blk.far5 hcn _ _ _ _ _))
   ((first
    | (go_at_call 113; refine (HPK.out _ hD5.drew.dk.le hD5.drew.dk.gv).mono ?_; rintro e w6 ⟨rfl, hb6⟩; have hD6 := hD5.drew.bel hb6; have hX6 := hX5.bel (w2 := w6) ⟨hb6.os, hb6.tape, hb6.output, hb6.size, hb6.block⟩; have hR6 := hR5.bel (w2 := w6) ⟨hb6.os, hb6.tape, hb6.output, hb6.size, hb6.block⟩; have hC6 := hC5.bel (w2 := w6) ⟨hb6.os, hb6.tape, hb6.output, hb6.size, hb6.block⟩)
    | (go_at_call 115; refine (HPU.out _ _ hD6.dk).mono ?_; rintro e w7 ⟨rfl, T7, hD67⟩; have hD7 := hD6.step hD67; have hX7 := hX6.step hD67; have hR7 := hR6.step hD67; have hC7 := hC6.step hD67; have y0 := hX7.blk.cell 0; have y1 := hX7.blk.cell 1; have y2 := hX7.blk.cell 2; have y3 := hX7.blk.cell 3; have y4 := hX7.blk.cell 4; have y5 := hX7.blk.cell 5; have y6 := hX7.blk.cell 6; have y7 := hX7.blk.cell 7; have y8 := hX7.blk.cell 8;  have z0 := hR7.blk.cell 0; have z1 := hR7.blk.cell 1; have z2 := hR7.blk.cell 2; have z3 := hR7.blk.cell 3; have z4 := hR7.blk.cell 4;  have u0 := hR7.blk.frozen 0; have u1 := hR7.blk.frozen 1; have u2 := hR7.blk.frozen 2; have u3 := hR7.blk.frozen 3; have u4 := hR7.blk.frozen 4;  have x0 := hC7.blk.cell 0; have x1 := hC7.blk.cell 1; have x2 := hC7.blk.cell 2; have x3 := hC7.blk.cell 3; have x4 := hC7.blk.cell 4; have x5 := hC7.blk.cell 5; have x6 := hC7.blk.cell 6;  simp at y0 y1 y2 y3 y4 y5 y6 y7 y8 z0 z1 z2 z3 z4 x0 x1 x2 x3 x4 x5 x6)))
  clear hD5 hX5 hR5 hC5 hD6 hX6 hR6 hC6 hD67 hb6 hXd hCd
  go_wp2
  refine bodyPost_ret (v := .tuple #[AnsV (.slice none 0 0) noAns, faultV r3.1]) (by simp [AnsV, noAns, results, Tryz.results76, go_sem, z0, z1, z2, z3, z4, u0, u1, u2, u3, u4]) rfl ?_
  unfold DoR
  refine ⟨_, _, _, noAns, T7, by rw [HR.out, HEQ.out], fun q => ?_, ?_⟩
  ·rw [HR.out, HEQ.out] at q ⊢
   exact ⟨rfl, OwnP.nil _ _ _, own_none⟩
  ·rw [HR.out, HEQ.out]
   (repeat' (first | exact hD7 | refine DKto.set ?_ ?_ ?_ _ | exact hR7.out)) <;> simp
end
section
variable {B : Nat} {w : World} {T : Nat → Prop} {d : Nat} {g : Dk} {id : Int} {k : Nat}
theorem DK.do_8 (h : DK B w T d g k) (hk : k ≤ 40000) (hid : (Lit.int .i64 id).wf = true) (nm ow : List UInt8) (pa pn ln ad : Int) (hc : CallOk ⟨8, nm, pa, pn, ln, ad, ow⟩) (hn : nameB nm = true) :
  Calls Tryz.prog 76 #[workV d id ⟨8, nm, pa, pn, ln, ad, ow⟩] w (DoR B w T d k (g.do2 id ⟨8, nm, pa, pn, ln, ad, ow⟩)) := by
 have hD1 := h.refl.alloc (.cells #[ptrV d, intV id, .int .i64 8, txt nm, .int .i64 pa, .int .i64 pn, .int .i64 ln, .int .i64 ad, txt ow] 153)
 have hX1 := Loc.new h 153 #[ptrV d, intV id, .int .i64 8, txt nm, .int .i64 pa, .int .i64 pn, .int .i64 ln, .int .i64 ad, txt ow]
 have hD2 := hD1.alloc (.cells #[.int .i64 0, .int .i64 0, .int .i64 0, .string { data := #[] }, .slice none 0 0] 46)
 have hX2 := hX1.alloc (.cells #[.int .i64 0, .int .i64 0, .int .i64 0, .string { data := #[] }, .slice none 0 0] 46)
 have hR2 := Loc.new hD1.dk 46 #[.int .i64 0, .int .i64 0, .int .i64 0, .string { data := #[] }, .slice none 0 0]
 have hD3 := hD2.alloc (.cells #[.int .i64 8, txt nm, .int .i64 pa, .int .i64 pn, .int .i64 ln, .int .i64 ad, txt ow] 33)
 have hX3 := hX2.alloc (.cells #[.int .i64 8, txt nm, .int .i64 pa, .int .i64 pn, .int .i64 ln, .int .i64 ad, txt ow] 33)
 have hC3 := Loc.new hD2.dk 33 #[.int .i64 8, txt nm, .int .i64 pa, .int .i64 pn, .int .i64 ln, .int .i64 ad, txt ow]
 have hR3 := hR2.alloc (.cells #[.int .i64 8, txt nm, .int .i64 pa, .int .i64 pn, .int .i64 ln, .int .i64 ad, txt ow] 33)
 rw [World.size_alloc] at hR3
 rw [World.size_alloc, World.size_alloc] at hC3
 have e2 := hX1.blk.cell 2
 have e3 := hX1.blk.cell 3
 have e4 := hX1.blk.cell 4
 have e5 := hX1.blk.cell 5
 have e6 := hX1.blk.cell 6
 have e7 := hX1.blk.cell 7
 have e8 := hX1.blk.cell 8
 simp at e2 e3 e4 e5 e6 e7 e8
 unfold workV
 dsimp only
 go_enter Tryz.func76, Tryz.ntmps76
 go_upto_region 2 with fail
 refine wp_name (fun w3 HW => ?_)
 rw [← HW.out] at hD3 hX3 hR3 hC3
 clear HW hD1 hD2 hX1 hX2 hR2 e2 e3 e4 e5 e6 e7 e8
 have HPFX := Hd (hD3.dk.prefixes hk hid ⟨8, nm, pa, pn, ln, ad, ow⟩ hc)
 have hTs := h.lt
 have hT3 := hD3.dk.lt
 unfold workV at HPFX
 dsimp only at HPFX
 have HV := Hd (show g.do2 id ⟨8, nm, pa, pn, ln, ad, ow⟩ = (⟨0, 0, 0, [], g.pfxsL id nm⟩, g.pfxsE id nm, (g.allF id 112 nm).2) from rfl)
 obtain ⟨y0, y1, y2, y3, y4, y5, y6, y7, y8⟩ := hX3.blk.cls9
 obtain ⟨z0, z1, z2, z3, z4⟩ := hR3.blk.cls5
 obtain ⟨u0, u1, u2, u3, u4⟩ := hR3.blk.frs5
 obtain ⟨x0, x1, x2, x3, x4, x5, x6⟩ := hC3.blk.cls7
 simp at y0 y1 y2 y3 y4 y5 y6 y7 y8 z0 z1 z2 z3 z4 x0 x1 x2 x3 x4 x5 x6
 go_wp2_with fail
 refine HPFX.out.mono ?_
 rintro e w4 ⟨v, rfl, hown, hlen, hS⟩
 have hD4 := hD3.step hS
 have hX4 := hX3.step hS
 have hR4 := hR3.step hS
 have hC4 := hC3.step hS
 have hnb : v.ownBlock ≠ some (w.heap.size + 1) := fun q => by
  have h1 := (World.ownsRow.lt hown _ q).1
  have h2 := hR3.blk.lt
  omega
 obtain ⟨A4, c4, rfl, _⟩ := hown.form
 have HOW := Hd hown
 have HNB := Hd hnb
 have HNT := Hd (show ∀ q, (Value.slice A4 (g.pfxsL id nm).length c4).ownBlock = some q → ¬ T q from row_out hown hT3)
 have HSZ := Hd (show w.heap.size ≤ w3.heap.size from hD3.size)
 clear hD3 hX3 hR3 hC3 hS HPFX hown hnb y0 y1 y2 y3 y4 y5 y6 y7 y8 z0 z1 z2 z3 z4 u0 u1 u2 u3 u4 x0 x1 x2 x3 x4 x5 x6
 obtain ⟨y0, y1, y2, y3, y4, y5, y6, y7, y8⟩ := hX4.blk.cls9
 obtain ⟨z0, z1, z2, z3, z4⟩ := hR4.blk.cls5
 obtain ⟨u0, u1, u2, u3, u4⟩ := hR4.blk.frs5
 obtain ⟨x0, x1, x2, x3, x4, x5, x6⟩ := hC4.blk.cls7
 simp at y0 y1 y2 y3 y4 y5 y6 y7 y8 z0 z1 z2 z3 z4 x0 x1 x2 x3 x4 x5 x6
 go_wp2
 refine bodyPost_ret (v := .tuple #[AnsV (.slice A4 (g.pfxsL id nm).length c4) noAns, faultV (g.pfxsE id nm)]) (by simp [AnsV, noAns, results, Tryz.results76, go_sem, z0, z1, z2, z3, z4, u0, u1, u2, u3, u4]) rfl ?_
 unfold DoR
 refine ⟨_, _, _, ⟨0, 0, 0, [], g.pfxsL id nm⟩, T, by rw [HV.out]; rfl, fun q => ?_, ?_⟩
 ·rw [HV.out]
  exact ⟨rfl, own_fr (S := fun q => q = w.heap.size + 1) (own_of_base HOW.out HSZ.out) (Fr.setCell (Fr.setCell (Fr.setCell (Fr.setCell (Fr.setCell (Fr.refl (fun q => q = w.heap.size + 1) w4) (p := ⟨w.heap.size + 1, 0, none⟩) (fun _ => rfl) _) (p := ⟨w.heap.size + 1, 1, none⟩) (fun _ => rfl) _) (p := ⟨w.heap.size + 1, 2, none⟩) (fun _ => rfl) _) (p := ⟨w.heap.size + 1, 3, none⟩) (fun _ => rfl) _) (p := ⟨w.heap.size + 1, 4, none⟩) (fun _ => rfl) _) (fun g e1 e2 => HNB.out (by rw [← e2]; exact e1)), HNT.out⟩
 ·rw [HV.out]
  (repeat' (first | exact hD4 | refine DKto.set ?_ ?_ ?_ _ | exact hR4.out)) <;> simp
end
section
variable {B : Nat} {w : World} {T : Nat → Prop} {d : Nat} {g : Dk} {id : Int} {k : Nat}
theorem DK.do_4 (h : DK B w T d g k) (hk : k ≤ 40000) (hid : (Lit.int .i64 id).wf = true) (nm ow : List UInt8) (pa pn ln ad : Int) (hc : CallOk ⟨4, nm, pa, pn, ln, ad, ow⟩) (hn : nameB nm = true) (ho : nameB ow = true) (ha : isA ad = true) :
  Calls Tryz.prog 76 #[workV d id ⟨4, nm, pa, pn, ln, ad, ow⟩] w (DoR B w T d k (g.do2 id ⟨4, nm, pa, pn, ln, ad, ow⟩)) := by
 have hD1 := h.refl.alloc (.cells #[ptrV d, intV id, .int .i64 4, txt nm, .int .i64 pa, .int .i64 pn, .int .i64 ln, .int .i64 ad, txt ow] 153)
 have hX1 := Loc.new h 153 #[ptrV d, intV id, .int .i64 4, txt nm, .int .i64 pa, .int .i64 pn, .int .i64 ln, .int .i64 ad, txt ow]
 have hD2 := hD1.alloc (.cells #[.int .i64 0, .int .i64 0, .int .i64 0, .string { data := #[] }, .slice none 0 0] 46)
 have hX2 := hX1.alloc (.cells #[.int .i64 0, .int .i64 0, .int .i64 0, .string { data := #[] }, .slice none 0 0] 46)
 have hR2 := Loc.new hD1.dk 46 #[.int .i64 0, .int .i64 0, .int .i64 0, .string { data := #[] }, .slice none 0 0]
 have hD3 := hD2.alloc (.cells #[.int .i64 4, txt nm, .int .i64 pa, .int .i64 pn, .int .i64 ln, .int .i64 ad, txt ow] 33)
 have hX3 := hX2.alloc (.cells #[.int .i64 4, txt nm, .int .i64 pa, .int .i64 pn, .int .i64 ln, .int .i64 ad, txt ow] 33)
 have hC3 := Loc.new hD2.dk 33 #[.int .i64 4, txt nm, .int .i64 pa, .int .i64 pn, .int .i64 ln, .int .i64 ad, txt ow]
 have hR3 := hR2.alloc (.cells #[.int .i64 4, txt nm, .int .i64 pa, .int .i64 pn, .int .i64 ln, .int .i64 ad, txt ow] 33)
 rw [World.size_alloc] at hR3
 rw [World.size_alloc, World.size_alloc] at hC3
 have e2 := hX1.blk.cell 2
 have e3 := hX1.blk.cell 3
 have e4 := hX1.blk.cell 4
 have e5 := hX1.blk.cell 5
 have e6 := hX1.blk.cell 6
 have e7 := hX1.blk.cell 7
 have e8 := hX1.blk.cell 8
 simp at e2 e3 e4 e5 e6 e7 e8
 unfold workV
 dsimp only
 go_enter Tryz.func76, Tryz.ntmps76
 go_upto_region 2 with fail
 refine wp_name (fun w3 HW => ?_)
 rw [← HW.out] at hD3 hX3 hR3 hC3
 clear HW hD1 hD2 hX1 hX2 hR2 e2 e3 e4 e5 e6 e7 e8
 have HN := Hd hn
 have HA := Hd ha
 have HOL := Hd (show ow.length ≤ maxLen by have := hc.owner; unfold maxLen; simp only at this; omega)
 have HKL := Hd (show (akOf nm ad).length ≤ maxLen by have := ak_len (c := ⟨4, nm, pa, pn, ln, ad, ow⟩) HN.out ad; unfold maxLen; simp only at this; omega)
 have HPFX := Hd (hD3.dk.prefixes hk hid ⟨4, nm, pa, pn, ln, ad, ow⟩ hc)
 have hTs := h.lt
 have hT3 := hD3.dk.lt
 have HV0 := Hd (show g.do2 id ⟨4, nm, pa, pn, ln, ad, ow⟩ = if g.pfxsE id nm ≠ 0 then (noAns, g.pfxsE id nm, (g.allF id 112 nm).2) else (g.allF id 112 nm).2.doPlace2 id ⟨4, nm, pa, pn, ln, ad, ow⟩ (g.pfxsL id nm) from rfl)
 have HLC := Hd (pfxsL_chk g id nm)
 unfold workV at HPFX
 dsimp only at HPFX
 obtain ⟨y0, y1, y2, y3, y4, y5, y6, y7, y8⟩ := hX3.blk.cls9
 obtain ⟨z0, z1, z2, z3, z4⟩ := hR3.blk.cls5
 obtain ⟨u0, u1, u2, u3, u4⟩ := hR3.blk.frs5
 obtain ⟨x0, x1, x2, x3, x4, x5, x6⟩ := hC3.blk.cls7
 simp at y0 y1 y2 y3 y4 y5 y6 y7 y8 z0 z1 z2 z3 z4 x0 x1 x2 x3 x4 x5 x6
 go_wp2_with fail
 refine HPFX.out.mono ?_
 rintro e w4 ⟨v, rfl, hown, hlen, hS⟩
 have hD4 := hD3.step hS
 have hX4 := hX3.step hS
 have hR4 := hR3.step hS
 have hC4 := hC3.step hS
 clear hD3 hX3 hR3 hC3 HPFX y0 y1 y2 y3 y4 y5 y6 y7 y8 z0 z1 z2 z3 z4 u0 u1 u2 u3 u4 x0 x1 x2 x3 x4 x5 x6
 generalize g.pfxsE id nm = pe at *
 generalize g.pfxsL id nm = L at *
 generalize (g.allF id 112 nm).2 = g0 at *
 by_cases hf : pe ≠ 0
 ·have HR := Hd (show g.do2 id ⟨4, nm, pa, pn, ln, ad, ow⟩ = (noAns, pe, g0) by rw [HV0.out, if_pos hf])
  have HF := Hd (fault_num hf)
  have HNZ := Hd hf
  rw [HF.out]
  clear hf HV0 hown hS
  obtain ⟨y0, y1, y2, y3, y4, y5, y6, y7, y8⟩ := hX4.blk.cls9
  obtain ⟨z0, z1, z2, z3, z4⟩ := hR4.blk.cls5
  obtain ⟨u0, u1, u2, u3, u4⟩ := hR4.blk.frs5
  obtain ⟨x0, x1, x2, x3, x4, x5, x6⟩ := hC4.blk.cls7
  simp at y0 y1 y2 y3 y4 y5 y6 y7 y8 z0 z1 z2 z3 z4 x0 x1 x2 x3 x4 x5 x6
  go_wp2
  refine bodyPost_ret (v := .tuple #[AnsV (.slice none 0 0) noAns, .iface 89 (.int .i64 pe)]) (by simp [AnsV, noAns, results, Tryz.results76, go_sem, z0, z1, z2, z3, z4, u0, u1, u2, u3, u4]) rfl ?_
  unfold DoR
  refine ⟨_, _, _, noAns, T, by rw [HR.out]; exact congrArg (fun x => Ending.returned (.tuple #[AnsV (.slice none 0 0) noAns, x])) HF.out.symm, fun q => ?_, ?_⟩
  ·rw [HR.out] at q ⊢
   exact absurd q HNZ.out
  ·rw [HR.out]
   (repeat' (first | exact hD4 | refine DKto.set ?_ ?_ ?_ _ | exact hR4.out)) <;> simp
 obtain rfl : pe = 0 := Decidable.not_not.1 hf
 rw [show faultV 0 = .nilIface from rfl]
 clear hf
 have HPK := Hd (fun (W : World) (hB : B ≤ W.heap.size) hV => ak_any nm HN.out ad HA.out (B := B) W hB hV)
 have HHAS := Hd (fun W T' (q : DK B W T' d g0 k) => q.has hk hid ⟨4, nm, pa, pn, ln, ad, ow⟩ (akOf nm ad) HKL.out)
 have HV := Hd (show g.do2 id ⟨4, nm, pa, pn, ln, ad, ow⟩ = if (g0.has id (akOf nm ad)).2.1 ≠ 0 then (noAns, (g0.has id (akOf nm ad)).2.1, (g0.has id (akOf nm ad)).2.2) else if coveredB ad L (0, -1) = false then (noAns, 7, (g0.has id (akOf nm ad)).2.2) else if (g0.has id (akOf nm ad)).1 then (noAns, 6, (g0.has id (akOf nm ad)).2.2) else (g0.has id (akOf nm ad)).2.2.chg id ⟨akOf nm ad, ow, false⟩ noAns by rw [HV0.out, if_neg (by simp)]; rfl)
 unfold workV at HHAS
 dsimp only at HPK HHAS
 generalize g0.has id (akOf nm ad) = rh at *
 generalize akOf nm ad = key at *
 obtain ⟨A4, c4, rfl, _⟩ := hown.form
 have HOW := Hd hown
 have HT4 := Hd (show ∀ q, (Value.slice A4 L.length c4).ownBlock = some q → ¬ T q from row_out hown hT3)
 clear hn ha hc ho HV0 hown hS
 have hks : ∀ W : World, Blk W w.heap.size 153 #[ptrV d, intV id, .int .i64 4, txt nm, .int .i64 pa, .int .i64 pn, .int .i64 ln, .int .i64 ad, txt ow] → Blk W (w.heap.size + 2) 33 #[.int .i64 4, txt nm, .int .i64 pa, .int .i64 pn, .int .i64 ln, .int .i64 ad, txt ow] → W.cell? ⟨w.heap.size, 0, none⟩ = some (ptrV d) ∧ W.cell? ⟨w.heap.size, 1, none⟩ = some (intV id) ∧ W.cell? ⟨w.heap.size, 2, none⟩ = some (.int .i64 4) ∧ W.cell? ⟨w.heap.size, 3, none⟩ = some (txt nm) ∧ W.cell? ⟨w.heap.size, 4, none⟩ = some (.int .i64 pa) ∧ W.cell? ⟨w.heap.size, 5, none⟩ = some (.int .i64 pn) ∧ W.cell? ⟨w.heap.size, 6, none⟩ = some (.int .i64 ln) ∧ W.cell? ⟨w.heap.size, 7, none⟩ = some (.int .i64 ad) ∧ W.cell? ⟨w.heap.size, 8, none⟩ = some (txt ow) ∧ W.cell? ⟨w.heap.size + 2, 0, none⟩ = some (.int .i64 4) ∧ W.cell? ⟨w.heap.size + 2, 1, none⟩ = some (txt nm) ∧ W.cell? ⟨w.heap.size + 2, 2, none⟩ = some (.int .i64 pa) ∧ W.cell? ⟨w.heap.size + 2, 3, none⟩ = some (.int .i64 pn) ∧ W.cell? ⟨w.heap.size + 2, 4, none⟩ = some (.int .i64 ln) ∧ W.cell? ⟨w.heap.size + 2, 5, none⟩ = some (.int .i64 ad) ∧ W.cell? ⟨w.heap.size + 2, 6, none⟩ = some (txt ow) := fun W a b => ⟨a.cell 0, a.cell 1, a.cell 2, a.cell 3, a.cell 4, a.cell 5, a.cell 6, a.cell 7, a.cell 8, b.cell 0, b.cell 1, b.cell 2, b.cell 3, b.cell 4, b.cell 5, b.cell 6⟩
 obtain ⟨y0, y1, y2, y3, y4, y5, y6, y7, y8⟩ := hX4.blk.cls9
 obtain ⟨z0, z1, z2, z3, z4⟩ := hR4.blk.cls5
 obtain ⟨u0, u1, u2, u3, u4⟩ := hR4.blk.frs5
 obtain ⟨x0, x1, x2, x3, x4, x5, x6⟩ := hC4.blk.cls7
 simp at y0 y1 y2 y3 y4 y5 y6 y7 y8 z0 z1 z2 z3 z4 x0 x1 x2 x3 x4 x5 x6
 go_upto_region 16 with fail
 clear y0 y1 y2 y3 y4 y5 y6 y7 y8 z0 z1 z2 z3 z4 u0 u1 u2 u3 u4 x0 x1 x2 x3 x4 x5 x6
 have hXd : Blk w4.drew w.heap.size 153 #[ptrV d, intV id, .int .i64 4, txt nm, .int .i64 pa, .int .i64 pn, .int .i64 ln, .int .i64 ad, txt ow] := hX4.blk
 have hCd : Blk w4.drew (w.heap.size + 2) 33 #[.int .i64 4, txt nm, .int .i64 pa, .int .i64 pn, .int .i64 ln, .int .i64 ad, txt ow] := hC4.blk
 go_region_held3 (fun W => W.cell? ⟨w.heap.size, 0, none⟩ = some (ptrV d) ∧ W.cell? ⟨w.heap.size, 1, none⟩ = some (intV id) ∧ W.cell? ⟨w.heap.size, 2, none⟩ = some (.int .i64 4) ∧ W.cell? ⟨w.heap.size, 3, none⟩ = some (txt nm) ∧ W.cell? ⟨w.heap.size, 4, none⟩ = some (.int .i64 pa) ∧ W.cell? ⟨w.heap.size, 5, none⟩ = some (.int .i64 pn) ∧ W.cell? ⟨w.heap.size, 6, none⟩ = some (.int .i64 ln) ∧ W.cell? ⟨w.heap.size, 7, none⟩ = some (.int .i64 ad) ∧ W.cell? ⟨w.heap.size, 8, none⟩ = some (txt ow) ∧ W.cell? ⟨w.heap.size + 2, 0, none⟩ = some (.int .i64 4) ∧ W.cell? ⟨w.heap.size + 2, 1, none⟩ = some (txt nm) ∧ W.cell? ⟨w.heap.size + 2, 2, none⟩ = some (.int .i64 pa) ∧ W.cell? ⟨w.heap.size + 2, 3, none⟩ = some (.int .i64 pn) ∧ W.cell? ⟨w.heap.size + 2, 4, none⟩ = some (.int .i64 ln) ∧ W.cell? ⟨w.heap.size + 2, 5, none⟩ = some (.int .i64 ad) ∧ W.cell? ⟨w.heap.size + 2, 6, none⟩ = some (txt ow))
  (first
   | with_reducible exact hks _ hXd hCd
   | with_reducible exact hks _ hX5.blk hC5.blk
   | with_reducible exact hks _ hX6.blk hC6.blk)
  ((first
   | (go_at_call 113; refine (HPK.out _ hD4.drew.dk.le hD4.drew.dk.gv).mono ?_; rintro e w5 ⟨rfl, hb5⟩; have HOW5 := Hd (OwnP.below (w := w4) HOW.out ⟨hb5.os, hb5.tape, hb5.output, hb5.size, hb5.block⟩); have hD5 := hD4.drew.bel hb5; have hX5 := hX4.bel (w2 := w5) ⟨hb5.os, hb5.tape, hb5.output, hb5.size, hb5.block⟩; have hR5 := hR4.bel (w2 := w5) ⟨hb5.os, hb5.tape, hb5.output, hb5.size, hb5.block⟩; have hC5 := hC4.bel (w2 := w5) ⟨hb5.os, hb5.tape, hb5.output, hb5.size, hb5.block⟩)
   | (go_at_call 73; refine (HHAS.out _ _ hD5.dk).mono ?_; rintro e w6 ⟨rfl, T6, hD56⟩; have HOW6 := Hd (own_fr HOW5.out hD56.fr HT4.out); have hD6 := hD5.step hD56; have hX6 := hX5.step hD56; have hR6 := hR5.step hD56; have hC6 := hC5.step hD56)))
 clear hD4 hX4 hR4 hC4 hD5 hX5 hR5 hC5 hD56 hb5 hXd hCd
 obtain ⟨b, f, g1⟩ := rh
 dsimp only at HV hD6
 by_cases hf : f ≠ 0
 ·have HR := Hd (show g.do2 id ⟨4, nm, pa, pn, ln, ad, ow⟩ = (noAns, f, g1) by rw [HV.out, if_pos hf])
  have HF := Hd (fault_num hf)
  have HNZ := Hd hf
  rw [HF.out]
  clear hf HV
  obtain ⟨y0, y1, y2, y3, y4, y5, y6, y7, y8⟩ := hX6.blk.cls9
  obtain ⟨z0, z1, z2, z3, z4⟩ := hR6.blk.cls5
  obtain ⟨u0, u1, u2, u3, u4⟩ := hR6.blk.frs5
  obtain ⟨x0, x1, x2, x3, x4, x5, x6⟩ := hC6.blk.cls7
  simp at y0 y1 y2 y3 y4 y5 y6 y7 y8 z0 z1 z2 z3 z4 x0 x1 x2 x3 x4 x5 x6
  go_wp2
  refine bodyPost_ret (v := .tuple #[AnsV (.slice none 0 0) noAns, .iface 89 (.int .i64 f)]) (by simp [AnsV, noAns, results, Tryz.results76, go_sem, z0, z1, z2, z3, z4, u0, u1, u2, u3, u4]) rfl ?_
  unfold DoR
  refine ⟨_, _, _, noAns, T6, by rw [HR.out]; exact congrArg (fun x => Ending.returned (.tuple #[AnsV (.slice none 0 0) noAns, x])) HF.out.symm, fun q => ?_, ?_⟩
  ·rw [HR.out] at q ⊢
   exact absurd q HNZ.out
  ·rw [HR.out]
   (repeat' (first | exact hD6 | refine DKto.set ?_ ?_ ?_ _ | exact hR6.out)) <;> simp
 obtain rfl : f = 0 := Decidable.not_not.1 hf
 rw [show faultV 0 = .nilIface from rfl]
 clear hf
 obtain ⟨A6, c6, e6, hrd6⟩ := OwnP.form HOW6.out
 injection e6 with e61 e62 e63
 subst e61; subst e63
 clear e62
 have HCV := Hd (covered_pl ad HA.out A4 L c4 (0, -1) (by omega) HLC.out w6 hrd6)
 dsimp only at HCV
 obtain ⟨y0, y1, y2, y3, y4, y5, y6, y7, y8⟩ := hX6.blk.cls9
 obtain ⟨z0, z1, z2, z3, z4⟩ := hR6.blk.cls5
 obtain ⟨u0, u1, u2, u3, u4⟩ := hR6.blk.frs5
 obtain ⟨x0, x1, x2, x3, x4, x5, x6⟩ := hC6.blk.cls7
 simp at y0 y1 y2 y3 y4 y5 y6 y7 y8 z0 z1 z2 z3 z4 x0 x1 x2 x3 x4 x5 x6
 go_wp2_with fail
 refine HCV.out.mono ?_
 rintro e w7 ⟨rfl, hb7⟩
 have hD7 := hD6.bel hb7; have hX7 := hX6.bel hb7; have hR7 := hR6.bel hb7; have hC7 := hC6.bel hb7
 clear hD6 hX6 hR6 hC6 hb7 HCV hrd6 HOW6 HOW y0 y1 y2 y3 y4 y5 y6 y7 y8 z0 z1 z2 z3 z4 u0 u1 u2 u3 u4 x0 x1 x2 x3 x4 x5 x6
 cases hcv : coveredB ad L (0, -1) with
 | false =>
  have HR := Hd (show g.do2 id ⟨4, nm, pa, pn, ln, ad, ow⟩ = (noAns, 7, g1) by rw [HV.out, if_neg (by simp), if_pos hcv])
  clear hcv HV
  obtain ⟨y0, y1, y2, y3, y4, y5, y6, y7, y8⟩ := hX7.blk.cls9
  obtain ⟨z0, z1, z2, z3, z4⟩ := hR7.blk.cls5
  obtain ⟨u0, u1, u2, u3, u4⟩ := hR7.blk.frs5
  obtain ⟨x0, x1, x2, x3, x4, x5, x6⟩ := hC7.blk.cls7
  simp at y0 y1 y2 y3 y4 y5 y6 y7 y8 z0 z1 z2 z3 z4 x0 x1 x2 x3 x4 x5 x6
  go_wp2
  refine bodyPost_ret (v := .tuple #[AnsV (.slice none 0 0) noAns, .iface 89 (.int .i64 7)]) (by simp [AnsV, noAns, results, Tryz.results76, go_sem, z0, z1, z2, z3, z4, u0, u1, u2, u3, u4]) rfl ?_
  unfold DoR
  refine ⟨_, _, _, noAns, T6, by rw [HR.out]; exact rfl, fun q => ?_, ?_⟩
  ·rw [HR.out] at q ⊢
   exact absurd q (by simp)
  ·rw [HR.out]
   (repeat' (first | exact hD7 | refine DKto.set ?_ ?_ ?_ _ | exact hR7.out)) <;> simp
 | true =>
 have HV2 := Hd (show g.do2 id ⟨4, nm, pa, pn, ln, ad, ow⟩ = if b then (noAns, 6, g1) else g1.chg id ⟨key, ow, false⟩ noAns by rw [HV.out, if_neg (by simp), if_neg (by rw [hcv]; simp)])
 clear hcv HV
 cases b with
 | true =>
  have HR := Hd (show g.do2 id ⟨4, nm, pa, pn, ln, ad, ow⟩ = (noAns, 6, g1) from HV2.out)
  clear HV2
  obtain ⟨y0, y1, y2, y3, y4, y5, y6, y7, y8⟩ := hX7.blk.cls9
  obtain ⟨z0, z1, z2, z3, z4⟩ := hR7.blk.cls5
  obtain ⟨u0, u1, u2, u3, u4⟩ := hR7.blk.frs5
  obtain ⟨x0, x1, x2, x3, x4, x5, x6⟩ := hC7.blk.cls7
  simp at y0 y1 y2 y3 y4 y5 y6 y7 y8 z0 z1 z2 z3 z4 x0 x1 x2 x3 x4 x5 x6
  go_wp2
  refine bodyPost_ret (v := .tuple #[AnsV (.slice none 0 0) noAns, .iface 89 (.int .i64 6)]) (by simp [AnsV, noAns, results, Tryz.results76, go_sem, z0, z1, z2, z3, z4, u0, u1, u2, u3, u4]) rfl ?_
  unfold DoR
  refine ⟨_, _, _, noAns, T6, by rw [HR.out]; exact rfl, fun q => ?_, ?_⟩
  ·rw [HR.out] at q ⊢
   exact absurd q (by simp)
  ·rw [HR.out]
   (repeat' (first | exact hD7 | refine DKto.set ?_ ?_ ?_ _ | exact hR7.out)) <;> simp
 | false =>
  have HR := Hd (show g.do2 id ⟨4, nm, pa, pn, ln, ad, ow⟩ = g1.chg id ⟨key, ow, false⟩ noAns from HV2.out)
  clear HV2
  have HPU := Hd (fun W T' (q : DK B W T' d g1 k) => q.put hid key ow HKL.out HOL.out)
  have HEQ := Hd (show g1.chg id ⟨key, ow, false⟩ noAns = (noAns, (g1.change id ⟨key, ow, false⟩).1, (g1.change id ⟨key, ow, false⟩).2) by unfold Dk.chg; simp)
  generalize g1.change id ⟨key, ow, false⟩ = r3 at *
  obtain ⟨y0, y1, y2, y3, y4, y5, y6, y7, y8⟩ := hX7.blk.cls9
  obtain ⟨z0, z1, z2, z3, z4⟩ := hR7.blk.cls5
  obtain ⟨u0, u1, u2, u3, u4⟩ := hR7.blk.frs5
  obtain ⟨x0, x1, x2, x3, x4, x5, x6⟩ := hC7.blk.cls7
  simp at y0 y1 y2 y3 y4 y5 y6 y7 y8 z0 z1 z2 z3 z4 x0 x1 x2 x3 x4 x5 x6
  go_upto_region 23 with fail
  clear y0 y1 y2 y3 y4 y5 y6 y7 y8 z0 z1 z2 z3 z4 u0 u1 u2 u3 u4 x0 x1 x2 x3 x4 x5 x6
  have hXd : Blk w7.drew w.heap.size 153 #[ptrV d, intV id, .int .i64 4, txt nm, .int .i64 pa, .int .i64 pn, .int .i64 ln, .int .i64 ad, txt ow] := hX7.blk
  have hCd : Blk w7.drew (w.heap.size + 2) 33 #[.int .i64 4, txt nm, .int .i64 pa, .int .i64 pn, .int .i64 ln, .int .i64 ad, txt ow] := hC7.blk
  have hwn : w.heap.size ≠ w.heap.size + 1 := by omega
  have hcn : w.heap.size + 2 ≠ w.heap.size + 1 := by omega
  go_region_held3 (fun W => W.cell? ⟨w.heap.size, 0, none⟩ = some (ptrV d) ∧ W.cell? ⟨w.heap.size, 1, none⟩ = some (intV id) ∧ W.cell? ⟨w.heap.size, 2, none⟩ = some (.int .i64 4) ∧ W.cell? ⟨w.heap.size, 3, none⟩ = some (txt nm) ∧ W.cell? ⟨w.heap.size, 4, none⟩ = some (.int .i64 pa) ∧ W.cell? ⟨w.heap.size, 5, none⟩ = some (.int .i64 pn) ∧ W.cell? ⟨w.heap.size, 6, none⟩ = some (.int .i64 ln) ∧ W.cell? ⟨w.heap.size, 7, none⟩ = some (.int .i64 ad) ∧ W.cell? ⟨w.heap.size, 8, none⟩ = some (txt ow) ∧ W.cell? ⟨w.heap.size + 2, 0, none⟩ = some (.int .i64 4) ∧ W.cell? ⟨w.heap.size + 2, 1, none⟩ = some (txt nm) ∧ W.cell? ⟨w.heap.size + 2, 2, none⟩ = some (.int .i64 pa) ∧ W.cell? ⟨w.heap.size + 2, 3, none⟩ = some (.int .i64 pn) ∧ W.cell? ⟨w.heap.size + 2, 4, none⟩ = some (.int .i64 ln) ∧ W.cell? ⟨w.heap.size + 2, 5, none⟩ = some (.int .i64 ad) ∧ W.cell? ⟨w.heap.size + 2, 6, none⟩ = some (txt ow))
   (first
    | with_reducible exact hks _ hXd hCd
    | with_reducible exact hks _ hX8.blk hC8.blk
    | with_reducible exact hks _ hX9.blk hC9.blk
    | with_reducible exact hks _ (hX9.blk.far5 hwn _ _ _ _ _) (hC9.blk.far5 hcn _ _ _ _ _))
   ((first
    | (go_at_call 113; refine (HPK.out _ hD7.drew.dk.le hD7.drew.dk.gv).mono ?_; rintro e w8 ⟨rfl, hb8⟩; have hD8 := hD7.drew.bel hb8; have hX8 := hX7.bel (w2 := w8) ⟨hb8.os, hb8.tape, hb8.output, hb8.size, hb8.block⟩; have hR8 := hR7.bel (w2 := w8) ⟨hb8.os, hb8.tape, hb8.output, hb8.size, hb8.block⟩; have hC8 := hC7.bel (w2 := w8) ⟨hb8.os, hb8.tape, hb8.output, hb8.size, hb8.block⟩)
    | (go_at_call 75; refine (HPU.out _ _ hD8.dk).mono ?_; rintro e w9 ⟨rfl, T9, hD89⟩; have hD9 := hD8.step hD89; have hX9 := hX8.step hD89; have hR9 := hR8.step hD89; have hC9 := hC8.step hD89; have y0 := hX9.blk.cell 0; have y1 := hX9.blk.cell 1; have y2 := hX9.blk.cell 2; have y3 := hX9.blk.cell 3; have y4 := hX9.blk.cell 4; have y5 := hX9.blk.cell 5; have y6 := hX9.blk.cell 6; have y7 := hX9.blk.cell 7; have y8 := hX9.blk.cell 8;  have z0 := hR9.blk.cell 0; have z1 := hR9.blk.cell 1; have z2 := hR9.blk.cell 2; have z3 := hR9.blk.cell 3; have z4 := hR9.blk.cell 4;  have u0 := hR9.blk.frozen 0; have u1 := hR9.blk.frozen 1; have u2 := hR9.blk.frozen 2; have u3 := hR9.blk.frozen 3; have u4 := hR9.blk.frozen 4;  have x0 := hC9.blk.cell 0; have x1 := hC9.blk.cell 1; have x2 := hC9.blk.cell 2; have x3 := hC9.blk.cell 3; have x4 := hC9.blk.cell 4; have x5 := hC9.blk.cell 5; have x6 := hC9.blk.cell 6;  simp at y0 y1 y2 y3 y4 y5 y6 y7 y8 z0 z1 z2 z3 z4 x0 x1 x2 x3 x4 x5 x6)))
  clear hD7 hX7 hR7 hC7 hD8 hX8 hR8 hC8 hD89 hb8 hXd hCd
  go_wp2
  refine bodyPost_ret (v := .tuple #[AnsV (.slice none 0 0) noAns, faultV r3.1]) (by simp [AnsV, noAns, results, Tryz.results76, go_sem, z0, z1, z2, z3, z4, u0, u1, u2, u3, u4]) rfl ?_
  unfold DoR
  refine ⟨_, _, _, noAns, T9, by rw [HR.out, HEQ.out], fun q => ?_, ?_⟩
  ·rw [HR.out, HEQ.out] at q ⊢
   exact ⟨rfl, OwnP.nil _ _ _, own_none⟩
  ·rw [HR.out, HEQ.out]
   (repeat' (first | exact hD9 | refine DKto.set ?_ ?_ ?_ _ | exact hR9.out)) <;> simp
end
section
variable {B : Nat} {w : World} {T : Nat → Prop} {d : Nat} {g : Dk} {id : Int} {k : Nat}
theorem DK.do_any (h : DK B w T d g k) (hk : k ≤ 40000) (hid : (Lit.int .i64 id).wf = true) (c : PCall) (hc : CallOk c) (hf : callFault c = 0) (h1 : c.what ≠ 1) :
  Calls Tryz.prog 76 #[workV d id c] w (DoR B w T d k (g.do2 id c)) := by
 obtain ⟨⟨w1, w2⟩, hn, how, hpf, had⟩ := callFault_zero hf
 obtain ⟨what, nm, pa, pn, ln, ad, ow⟩ := c
 simp only at w1 w2 hn how hpf had h1
 rcases (show what = 2 ∨ what = 3 ∨ what = 4 ∨ what = 5 ∨ what = 6 ∨ what = 7 ∨ what = 8 ∨ what = 9 by omega) with rfl | rfl | rfl | rfl | rfl | rfl | rfl | rfl
 ·exact h.do_2 hk hid nm ow pa pn ln ad hc hn (how (by decide)) (hpf (by decide))
 ·exact h.do_3 hk hid nm ow pa pn ln ad hc hn (hpf (by decide))
 ·exact h.do_4 hk hid nm ow pa pn ln ad hc hn (how (by decide)) (had (by decide))
 ·exact h.do_5 hk hid nm ow pa pn ln ad hc hn (had (by decide))
 ·exact h.do_6 hk hid nm ow pa pn ln ad hc hn (hpf (by decide))
 ·exact h.do_7 hk hid nm ow pa pn ln ad hc hn (hpf (by decide))
 ·exact h.do_8 hk hid nm ow pa pn ln ad hc hn
 ·exact h.do_9 hk hid nm ow pa pn ln ad hc hn (had (by decide))
theorem nk_len {c : PCall} (hn : nameB c.name = true) : c.nk.length ≤ 100 := by
 have h8 := (nameB_iff.1 hn).2.2
 unfold PCall.nk nKey
 simp only [List.length_append, List.length_cons, List.length_nil]
 omega
theorem nk_any (net : List UInt8) (hn : nameB net = true) (w : World) :
  Calls Tryz.prog 74 #[txt net] w fun e w' => e = .returned (txt (nKey net)) ∧ Below w.heap.size w w' :=
 (netKey_any net (by have h8 := (nameB_iff.1 hn).2.2; omega) w).mono fun e w' q => ⟨q.1, by rw [← q.2]; exact Below.refl _ _⟩
theorem DK.doC (h : DK B w T d g k) (hk : k ≤ 40000) (hid : (Lit.int .i64 id).wf = true) (c : PCall) (hc : CallW c) :
  Calls Tryz.prog 39 #[ptrV d, intV id, CallV c] w fun e w' => ∃ v, e = .returned (.tuple #[AnsV v (g.doC id c).1, faultV (g.doC id c).2.1]) ∧ OwnP w' w.heap.size 31 v (g.doC id c).1.list ∧ ∃ T', (∀ q, v.ownBlock = some q → ¬ T' q) ∧ DKto B w T d w' T' (g.doC id c).2.2 k := by
 have hD1 := h.refl.alloc (.cells #[.int .i64 c.what, txt c.name, .int .i64 c.pa, .int .i64 c.pn, .int .i64 c.len, .int .i64 c.ad, txt c.owner] 33)
 have hC1 := Loc.new h 33 #[.int .i64 c.what, txt c.name, .int .i64 c.pa, .int .i64 c.pn, .int .i64 c.len, .int .i64 c.ad, txt c.owner]
 have hD2 := hD1.alloc (.cells #[.int .i64 0, .int .i64 0, .int .i64 0, .string { data := #[] }, .slice none 0 0] 46)
 have hC2 := hC1.alloc (.cells #[.int .i64 0, .int .i64 0, .int .i64 0, .string { data := #[] }, .slice none 0 0] 46)
 have hR2 := Loc.new hD1.dk 46 #[.int .i64 0, .int .i64 0, .int .i64 0, .string { data := #[] }, .slice none 0 0]
 rw [World.size_alloc] at hR2
 have HC := Hd hc
 have HCK := Hd (fun W => checkC_any c hc W)
 have HNO := Hd (g.doC_no id c)
 clear hc
 unfold CallV at HCK
 unfold CallV
 go_enter Tryz.func39, Tryz.ntmps39
 go_upto_region 1 with fail
 refine wp_name (fun w2 HW => ?_)
 rw [← HW.out] at hD2 hC2 hR2
 clear HW hD1 hC1
 obtain ⟨z0, z1, z2, z3, z4⟩ := hR2.blk.cls5
 obtain ⟨u0, u1, u2, u3, u4⟩ := hR2.blk.frs5
 obtain ⟨x0, x1, x2, x3, x4, x5, x6⟩ := hC2.blk.cls7
 simp at z0 z1 z2 z3 z4 x0 x1 x2 x3 x4 x5 x6
 go_wp2_with fail
 refine (HCK.out _).mono ?_
 rintro e w3 ⟨rfl, hb3⟩
 have hD3 := hD2.bel hb3
 have hC3 := hC2.bel hb3
 have hR3 := hR2.bel hb3
 clear hD2 hC2 hR2 hb3 HCK z0 z1 z2 z3 z4 u0 u1 u2 u3 u4 x0 x1 x2 x3 x4 x5 x6
 by_cases hf : callFault c ≠ 0
 ·have HR := Hd (show g.doC id c = (noAns, callFault c, g) by unfold Dk.doC; rw [if_pos hf])
  have HF := Hd (fault_num hf)
  rw [HF.out]
  clear hf
  obtain ⟨z0, z1, z2, z3, z4⟩ := hR3.blk.cls5
  obtain ⟨u0, u1, u2, u3, u4⟩ := hR3.blk.frs5
  obtain ⟨x0, x1, x2, x3, x4, x5, x6⟩ := hC3.blk.cls7
  simp at z0 z1 z2 z3 z4 x0 x1 x2 x3 x4 x5 x6
  go_wp2
  refine bodyPost_ret (v := .tuple #[AnsV (.slice none 0 0) noAns, .iface 89 (.int .i64 (callFault c))]) (by simp [AnsV, noAns, results, Tryz.results39, go_sem, z0, z1, z2, z3, z4, u0, u1, u2, u3, u4]) rfl ?_
  refine ⟨.slice none 0 0, by rw [HR.out]; exact congrArg (fun x => Ending.returned (.tuple #[AnsV (.slice none 0 0) noAns, x])) HF.out.symm, by rw [HR.out]; exact OwnP.nil _ _ _, T, own_none, ?_⟩
  rw [HR.out]
  (repeat' (first | exact hD3 | refine DKto.set ?_ ?_ ?_ _ | exact hR3.out)) <;> simp
 have hf : callFault c = 0 := Decidable.not_not.1 hf
 rw [show faultV (callFault c) = .nilIface by rw [hf]; rfl]
 obtain ⟨hwh, hn, how, hpf, had⟩ := callFault_zero hf
 have HN := Hd hn
 have HO := Hd how
 have HCO := Hd (HC.out.ok hn)
 have HZ := Hd hf
 have HV := Hd (show g.doC id c = if (g.has id c.nk).2.1 ≠ 0 then (noAns, (g.has id c.nk).2.1, (g.has id c.nk).2.2) else if c.what = 1 then (if (g.has id c.nk).1 then (noAns, 6, (g.has id c.nk).2.2) else (g.has id c.nk).2.2.chg id ⟨c.nk, c.owner, false⟩ noAns) else if (g.has id c.nk).1 = false then (noAns, 4, (g.has id c.nk).2.2) else (g.has id c.nk).2.2.do2 id c by unfold Dk.doC; rw [if_neg (by rw [hf]; simp)]; rfl)
 have HPK := Hd (fun (W : World) => nk_any c.name HN.out W)
 have HKL := Hd (show c.nk.length ≤ maxLen by have := nk_len HN.out; unfold maxLen; omega)
 have HOL := Hd (show c.owner.length ≤ maxLen by have := HC.out.owner; unfold maxLen; omega)
 have HHAS := Hd (fun W T' (q : DK B W T' d g k) => q.has hk hid c c.nk HKL.out)
 unfold workV at HHAS
 rw [show nKey c.name = c.nk from rfl] at HPK
 generalize g.has id c.nk = rh at *
 generalize c.nk = key at *
 clear hf hn how hpf had hwh
 have hX4 := Loc.new hD3.dk 153 #[ptrV d, intV id, .int .i64 c.what, txt c.name, .int .i64 c.pa, .int .i64 c.pn, .int .i64 c.len, .int .i64 c.ad, txt c.owner]
 have hD4 := hD3.alloc (.cells #[ptrV d, intV id, .int .i64 c.what, txt c.name, .int .i64 c.pa, .int .i64 c.pn, .int .i64 c.len, .int .i64 c.ad, txt c.owner] 153)
 have hC4 := hC3.alloc (.cells #[ptrV d, intV id, .int .i64 c.what, txt c.name, .int .i64 c.pa, .int .i64 c.pn, .int .i64 c.len, .int .i64 c.ad, txt c.owner] 153)
 have hR4 := hR3.alloc (.cells #[ptrV d, intV id, .int .i64 c.what, txt c.name, .int .i64 c.pa, .int .i64 c.pn, .int .i64 c.len, .int .i64 c.ad, txt c.owner] 153)
 have HBX := Hd (show w.heap.size + 1 < w3.heap.size from hR3.blk.lt)
 obtain ⟨z0, z1, z2, z3, z4⟩ := hR3.blk.cls5
 obtain ⟨u0, u1, u2, u3, u4⟩ := hR3.blk.frs5
 obtain ⟨x0, x1, x2, x3, x4, x5, x6⟩ := hC3.blk.cls7
 simp at z0 z1 z2 z3 z4 x0 x1 x2 x3 x4 x5 x6
 go_upto_region 5 with fail
 refine wp_name (fun w4 HW => ?_)
 rw [← HW.out] at hD4 hC4 hR4 hX4
 clear HW hD3 hC3 hR3 z0 z1 z2 z3 z4 u0 u1 u2 u3 u4 x0 x1 x2 x3 x4 x5 x6
 generalize w3.heap.size = bx at *
 have hks : ∀ W : World, Blk W bx 153 #[ptrV d, intV id, .int .i64 c.what, txt c.name, .int .i64 c.pa, .int .i64 c.pn, .int .i64 c.len, .int .i64 c.ad, txt c.owner] → Blk W w.heap.size 33 #[.int .i64 c.what, txt c.name, .int .i64 c.pa, .int .i64 c.pn, .int .i64 c.len, .int .i64 c.ad, txt c.owner] → W.cell? ⟨bx, 0, none⟩ = some (ptrV d) ∧ W.cell? ⟨bx, 1, none⟩ = some (intV id) ∧ W.cell? ⟨bx, 2, none⟩ = some (.int .i64 c.what) ∧ W.cell? ⟨bx, 3, none⟩ = some (txt c.name) ∧ W.cell? ⟨bx, 4, none⟩ = some (.int .i64 c.pa) ∧ W.cell? ⟨bx, 5, none⟩ = some (.int .i64 c.pn) ∧ W.cell? ⟨bx, 6, none⟩ = some (.int .i64 c.len) ∧ W.cell? ⟨bx, 7, none⟩ = some (.int .i64 c.ad) ∧ W.cell? ⟨bx, 8, none⟩ = some (txt c.owner) ∧ W.cell? ⟨w.heap.size, 0, none⟩ = some (.int .i64 c.what) ∧ W.cell? ⟨w.heap.size, 1, none⟩ = some (txt c.name) ∧ W.cell? ⟨w.heap.size, 2, none⟩ = some (.int .i64 c.pa) ∧ W.cell? ⟨w.heap.size, 3, none⟩ = some (.int .i64 c.pn) ∧ W.cell? ⟨w.heap.size, 4, none⟩ = some (.int .i64 c.len) ∧ W.cell? ⟨w.heap.size, 5, none⟩ = some (.int .i64 c.ad) ∧ W.cell? ⟨w.heap.size, 6, none⟩ = some (txt c.owner) := fun W a b => ⟨a.cell 0, a.cell 1, a.cell 2, a.cell 3, a.cell 4, a.cell 5, a.cell 6, a.cell 7, a.cell 8, b.cell 0, b.cell 1, b.cell 2, b.cell 3, b.cell 4, b.cell 5, b.cell 6⟩
 have hXd : Blk w4.drew bx 153 #[ptrV d, intV id, .int .i64 c.what, txt c.name, .int .i64 c.pa, .int .i64 c.pn, .int .i64 c.len, .int .i64 c.ad, txt c.owner] := hX4.blk
 have hCd : Blk w4.drew w.heap.size 33 #[.int .i64 c.what, txt c.name, .int .i64 c.pa, .int .i64 c.pn, .int .i64 c.len, .int .i64 c.ad, txt c.owner] := hC4.blk
 go_region_held3 (fun W => W.cell? ⟨bx, 0, none⟩ = some (ptrV d) ∧ W.cell? ⟨bx, 1, none⟩ = some (intV id) ∧ W.cell? ⟨bx, 2, none⟩ = some (.int .i64 c.what) ∧ W.cell? ⟨bx, 3, none⟩ = some (txt c.name) ∧ W.cell? ⟨bx, 4, none⟩ = some (.int .i64 c.pa) ∧ W.cell? ⟨bx, 5, none⟩ = some (.int .i64 c.pn) ∧ W.cell? ⟨bx, 6, none⟩ = some (.int .i64 c.len) ∧ W.cell? ⟨bx, 7, none⟩ = some (.int .i64 c.ad) ∧ W.cell? ⟨bx, 8, none⟩ = some (txt c.owner) ∧ W.cell? ⟨w.heap.size, 0, none⟩ = some (.int .i64 c.what) ∧ W.cell? ⟨w.heap.size, 1, none⟩ = some (txt c.name) ∧ W.cell? ⟨w.heap.size, 2, none⟩ = some (.int .i64 c.pa) ∧ W.cell? ⟨w.heap.size, 3, none⟩ = some (.int .i64 c.pn) ∧ W.cell? ⟨w.heap.size, 4, none⟩ = some (.int .i64 c.len) ∧ W.cell? ⟨w.heap.size, 5, none⟩ = some (.int .i64 c.ad) ∧ W.cell? ⟨w.heap.size, 6, none⟩ = some (txt c.owner))
  (first
   | with_reducible exact hks _ hXd hCd
   | with_reducible exact hks _ hX5.blk hC5.blk
   | with_reducible exact hks _ hX6.blk hC6.blk)
  ((first
   | (go_at_call 74; refine (HPK.out _).mono ?_; rintro e w5 ⟨rfl, hb5⟩; have hD5 := hD4.drew.bel hb5; have hX5 := hX4.bel (w2 := w5) ⟨hb5.os, hb5.tape, hb5.output, hb5.size, hb5.block⟩; have hR5 := hR4.bel (w2 := w5) ⟨hb5.os, hb5.tape, hb5.output, hb5.size, hb5.block⟩; have hC5 := hC4.bel (w2 := w5) ⟨hb5.os, hb5.tape, hb5.output, hb5.size, hb5.block⟩)
   | (go_at_call 73; refine (HHAS.out _ _ hD5.dk).mono ?_; rintro e w6 ⟨rfl, T6, hD56⟩; have hD6 := hD5.step hD56; have hX6 := hX5.step hD56; have hR6 := hR5.step hD56; have hC6 := hC5.step hD56)))
 clear hD4 hX4 hR4 hC4 hD5 hX5 hR5 hC5 hD56 hb5 hXd hCd
 obtain ⟨b, f, g1⟩ := rh
 dsimp only at HV hD6
 by_cases hf : f ≠ 0
 ·have HR := Hd (show g.doC id c = (noAns, f, g1) by rw [HV.out, if_pos hf])
  have HF := Hd (fault_num hf)
  rw [HF.out]
  clear hf HV
  obtain ⟨z0, z1, z2, z3, z4⟩ := hR6.blk.cls5
  obtain ⟨u0, u1, u2, u3, u4⟩ := hR6.blk.frs5
  obtain ⟨x0, x1, x2, x3, x4, x5, x6⟩ := hC6.blk.cls7
  obtain ⟨y0, y1, y2, y3, y4, y5, y6, y7, y8⟩ := hX6.blk.cls9
  simp at z0 z1 z2 z3 z4 x0 x1 x2 x3 x4 x5 x6 y0 y1 y2 y3 y4 y5 y6 y7 y8
  go_wp2
  refine bodyPost_ret (v := .tuple #[AnsV (.slice none 0 0) noAns, .iface 89 (.int .i64 f)]) (by simp [AnsV, noAns, results, Tryz.results39, go_sem, z0, z1, z2, z3, z4, u0, u1, u2, u3, u4]) rfl ?_
  refine ⟨.slice none 0 0, by rw [HR.out]; exact congrArg (fun x => Ending.returned (.tuple #[AnsV (.slice none 0 0) noAns, x])) HF.out.symm, by rw [HR.out]; exact OwnP.nil _ _ _, T6, own_none, ?_⟩
  rw [HR.out]
  (repeat' (first | exact hD6 | refine DKto.set ?_ ?_ ?_ _ | exact hR6.out)) <;> simp
 obtain rfl : f = 0 := Decidable.not_not.1 hf
 rw [show faultV 0 = .nilIface from rfl]
 clear hf HHAS
 by_cases h1 : c.what = 1
 ·have h1b : (c.what == 1) = true := by simpa using h1
  cases b with
  | true =>
   have HR := Hd (show g.doC id c = (noAns, 6, g1) by rw [HV.out, if_neg (by simp), if_pos h1]; rfl)
   clear HV h1
   obtain ⟨z0, z1, z2, z3, z4⟩ := hR6.blk.cls5
   obtain ⟨u0, u1, u2, u3, u4⟩ := hR6.blk.frs5
   obtain ⟨x0, x1, x2, x3, x4, x5, x6⟩ := hC6.blk.cls7
   obtain ⟨y0, y1, y2, y3, y4, y5, y6, y7, y8⟩ := hX6.blk.cls9
   simp at z0 z1 z2 z3 z4 x0 x1 x2 x3 x4 x5 x6 y0 y1 y2 y3 y4 y5 y6 y7 y8
   go_wp2
   refine bodyPost_ret (v := .tuple #[AnsV (.slice none 0 0) noAns, .iface 89 (.int .i64 6)]) (by simp [AnsV, noAns, results, Tryz.results39, go_sem, z0, z1, z2, z3, z4, u0, u1, u2, u3, u4]) rfl ?_
   refine ⟨.slice none 0 0, by rw [HR.out]; exact rfl, by rw [HR.out]; exact OwnP.nil _ _ _, T6, own_none, ?_⟩
   rw [HR.out]
   (repeat' (first | exact hD6 | refine DKto.set ?_ ?_ ?_ _ | exact hR6.out)) <;> simp
  | false =>
   have HR := Hd (show g.doC id c = g1.chg id ⟨key, c.owner, false⟩ noAns by rw [HV.out, if_neg (by simp), if_pos h1]; rfl)
   clear HV h1
   have HPU := Hd (fun W T' (q : DK B W T' d g1 k) => q.put hid key c.owner HKL.out HOL.out)
   have HEQ := Hd (show g1.chg id ⟨key, c.owner, false⟩ noAns = (noAns, (g1.change id ⟨key, c.owner, false⟩).1, (g1.change id ⟨key, c.owner, false⟩).2) by unfold Dk.chg; simp)
   generalize g1.change id ⟨key, c.owner, false⟩ = r3 at *
   obtain ⟨z0, z1, z2, z3, z4⟩ := hR6.blk.cls5
   obtain ⟨u0, u1, u2, u3, u4⟩ := hR6.blk.frs5
   obtain ⟨x0, x1, x2, x3, x4, x5, x6⟩ := hC6.blk.cls7
   obtain ⟨y0, y1, y2, y3, y4, y5, y6, y7, y8⟩ := hX6.blk.cls9
   simp at z0 z1 z2 z3 z4 x0 x1 x2 x3 x4 x5 x6 y0 y1 y2 y3 y4 y5 y6 y7 y8
   go_upto_region 11 with fail
   clear z0 z1 z2 z3 z4 u0 u1 u2 u3 u4 x0 x1 x2 x3 x4 x5 x6 y0 y1 y2 y3 y4 y5 y6 y7 y8
   have hXd : Blk w6.drew bx 153 #[ptrV d, intV id, .int .i64 c.what, txt c.name, .int .i64 c.pa, .int .i64 c.pn, .int .i64 c.len, .int .i64 c.ad, txt c.owner] := hX6.blk
   have hCd : Blk w6.drew w.heap.size 33 #[.int .i64 c.what, txt c.name, .int .i64 c.pa, .int .i64 c.pn, .int .i64 c.len, .int .i64 c.ad, txt c.owner] := hC6.blk
   have hwn : bx ≠ w.heap.size + 1 := by have := HBX.out; omega
   have hcn : w.heap.size ≠ w.heap.size + 1 := by omega
   go_region_held3 (fun W => W.cell? ⟨bx, 0, none⟩ = some (ptrV d) ∧ W.cell? ⟨bx, 1, none⟩ = some (intV id) ∧ W.cell? ⟨bx, 2, none⟩ = some (.int .i64 c.what) ∧ W.cell? ⟨bx, 3, none⟩ = some (txt c.name) ∧ W.cell? ⟨bx, 4, none⟩ = some (.int .i64 c.pa) ∧ W.cell? ⟨bx, 5, none⟩ = some (.int .i64 c.pn) ∧ W.cell? ⟨bx, 6, none⟩ = some (.int .i64 c.len) ∧ W.cell? ⟨bx, 7, none⟩ = some (.int .i64 c.ad) ∧ W.cell? ⟨bx, 8, none⟩ = some (txt c.owner) ∧ W.cell? ⟨w.heap.size, 0, none⟩ = some (.int .i64 c.what) ∧ W.cell? ⟨w.heap.size, 1, none⟩ = some (txt c.name) ∧ W.cell? ⟨w.heap.size, 2, none⟩ = some (.int .i64 c.pa) ∧ W.cell? ⟨w.heap.size, 3, none⟩ = some (.int .i64 c.pn) ∧ W.cell? ⟨w.heap.size, 4, none⟩ = some (.int .i64 c.len) ∧ W.cell? ⟨w.heap.size, 5, none⟩ = some (.int .i64 c.ad) ∧ W.cell? ⟨w.heap.size, 6, none⟩ = some (txt c.owner))
    (first
     | with_reducible exact hks _ hXd hCd
     | with_reducible exact hks _ hX7.blk hC7.blk
     | with_reducible exact hks _ hX8.blk hC8.blk
     | with_reducible exact hks _ (hX8.blk.far5 hwn _ _ _ _ _) (hC8.blk.far5 hcn _ _ _ _ _))
    ((first
     | (go_at_call 74; refine (HPK.out _).mono ?_; rintro e w7 ⟨rfl, hb7⟩; have hD7 := hD6.drew.bel hb7; have hX7 := hX6.bel (w2 := w7) ⟨hb7.os, hb7.tape, hb7.output, hb7.size, hb7.block⟩; have hR7 := hR6.bel (w2 := w7) ⟨hb7.os, hb7.tape, hb7.output, hb7.size, hb7.block⟩; have hC7 := hC6.bel (w2 := w7) ⟨hb7.os, hb7.tape, hb7.output, hb7.size, hb7.block⟩)
     | (go_at_call 75; refine (HPU.out _ _ hD7.dk).mono ?_; rintro e w8 ⟨rfl, T8, hD78⟩; have hD8 := hD7.step hD78; have hX8 := hX7.step hD78; have hR8 := hR7.step hD78; have hC8 := hC7.step hD78; have z0 := hR8.blk.cell 0; have z1 := hR8.blk.cell 1; have z2 := hR8.blk.cell 2; have z3 := hR8.blk.cell 3; have z4 := hR8.blk.cell 4; have u0 := hR8.blk.frozen 0; have u1 := hR8.blk.frozen 1; have u2 := hR8.blk.frozen 2; have u3 := hR8.blk.frozen 3; have u4 := hR8.blk.frozen 4; have x0 := hC8.blk.cell 0; have x1 := hC8.blk.cell 1; have x2 := hC8.blk.cell 2; have x3 := hC8.blk.cell 3; have x4 := hC8.blk.cell 4; have x5 := hC8.blk.cell 5; have x6 := hC8.blk.cell 6; simp at z0 z1 z2 z3 z4 x0 x1 x2 x3 x4 x5 x6)))
   clear hD6 hX6 hR6 hC6 hD7 hX7 hR7 hC7 hD78 hb7 hXd hCd
   go_wp2
   refine bodyPost_ret (v := .tuple #[AnsV (.slice none 0 0) noAns, faultV r3.1]) (by simp [AnsV, noAns, results, Tryz.results39, go_sem, z0, z1, z2, z3, z4, u0, u1, u2, u3, u4]) rfl ?_
   refine ⟨.slice none 0 0, by rw [HR.out, HEQ.out], by rw [HR.out, HEQ.out]; exact OwnP.nil _ _ _, T8, own_none, ?_⟩
   rw [HR.out, HEQ.out]
   (repeat' (first | exact hD8 | refine DKto.set ?_ ?_ ?_ _ | exact hR8.out)) <;> simp
 ·have h1b : (c.what == 1) = false := by simpa using h1
  cases b with
  | false =>
   have HR := Hd (show g.doC id c = (noAns, 4, g1) by rw [HV.out, if_neg (by simp), if_neg h1]; rfl)
   clear HV h1
   obtain ⟨z0, z1, z2, z3, z4⟩ := hR6.blk.cls5
   obtain ⟨u0, u1, u2, u3, u4⟩ := hR6.blk.frs5
   obtain ⟨x0, x1, x2, x3, x4, x5, x6⟩ := hC6.blk.cls7
   obtain ⟨y0, y1, y2, y3, y4, y5, y6, y7, y8⟩ := hX6.blk.cls9
   simp at z0 z1 z2 z3 z4 x0 x1 x2 x3 x4 x5 x6 y0 y1 y2 y3 y4 y5 y6 y7 y8
   go_wp2
   refine bodyPost_ret (v := .tuple #[AnsV (.slice none 0 0) noAns, .iface 89 (.int .i64 4)]) (by simp [AnsV, noAns, results, Tryz.results39, go_sem, z0, z1, z2, z3, z4, u0, u1, u2, u3, u4]) rfl ?_
   refine ⟨.slice none 0 0, by rw [HR.out]; exact rfl, by rw [HR.out]; exact OwnP.nil _ _ _, T6, own_none, ?_⟩
   rw [HR.out]
   (repeat' (first | exact hD6 | refine DKto.set ?_ ?_ ?_ _ | exact hR6.out)) <;> simp
  | true =>
   have HV2 := Hd (show g.doC id c = g1.do2 id c by rw [HV.out, if_neg (by simp), if_neg h1]; rfl)
   have HDO := Hd (hD6.dk.do_any hk hid c HCO.out HZ.out h1)
   clear HV h1
   rw [HV2.out] at HNO
   generalize g1.do2 id c = r at *
   unfold workV at HDO
   obtain ⟨z0, z1, z2, z3, z4⟩ := hR6.blk.cls5
   obtain ⟨u0, u1, u2, u3, u4⟩ := hR6.blk.frs5
   obtain ⟨x0, x1, x2, x3, x4, x5, x6⟩ := hC6.blk.cls7
   obtain ⟨y0, y1, y2, y3, y4, y5, y6, y7, y8⟩ := hX6.blk.cls9
   simp at z0 z1 z2 z3 z4 x0 x1 x2 x3 x4 x5 x6 y0 y1 y2 y3 y4 y5 y6 y7 y8
   go_wp2_with fail
   refine HDO.out.mono ?_
   rintro e w7 ⟨A7, n7, c7, a7, T7, rfl, ha7, hD67⟩
   have HS67 := Hd (show w.heap.size ≤ w6.heap.size from hD6.size)
   have HS6 := Hd (show w.heap.size + 1 < w6.heap.size from hR6.blk.lt)
   have hD7 := hD6.step hD67
   have hR7 := hR6.step hD67
   clear hD6 hX6 hR6 hC6 hD67 HDO z0 z1 z2 z3 z4 u0 u1 u2 u3 u4 x0 x1 x2 x3 x4 x5 x6 y0 y1 y2 y3 y4 y5 y6 y7 y8
   obtain ⟨a, f, g2⟩ := r
   dsimp only at hD7 ha7 HV2
   unfold AnsV
   by_cases hf : f ≠ 0
   ·have HF := Hd (fault_num hf)
    have hno : a = noAns := HNO.out hf
    subst hno
    have hD8 := hD7.alloc (.cells #[.int .i64 a7.pa, .int .i64 a7.pn, .int .i64 a7.ad, txt a7.owner, .slice A7 n7 c7] 46)
    have hR8 := hR7.alloc (.cells #[.int .i64 a7.pa, .int .i64 a7.pn, .int .i64 a7.ad, txt a7.owner, .slice A7 n7 c7] 46)
    rw [HF.out]
    clear hf hD7 hR7 ha7
    obtain ⟨z0, z1, z2, z3, z4⟩ := hR8.blk.cls5
    obtain ⟨u0, u1, u2, u3, u4⟩ := hR8.blk.frs5
    simp at z0 z1 z2 z3 z4
    go_wp2
    refine bodyPost_ret (v := .tuple #[AnsV (.slice none 0 0) noAns, .iface 89 (.int .i64 f)]) (by simp [AnsV, noAns, results, Tryz.results39, go_sem, z0, z1, z2, z3, z4, u0, u1, u2, u3, u4]) rfl ?_
    refine ⟨.slice none 0 0, by rw [HV2.out]; exact congrArg (fun x => Ending.returned (.tuple #[AnsV (.slice none 0 0) noAns, x])) HF.out.symm, by rw [HV2.out]; exact OwnP.nil _ _ _, T7, own_none, ?_⟩
    rw [HV2.out]
    (repeat' (first | exact hD8 | refine DKto.set ?_ ?_ ?_ _ | exact hR8.out)) <;> simp
   obtain rfl : f = 0 := Decidable.not_not.1 hf
   obtain ⟨rfl, how, hnt⟩ := ha7 rfl
   have hnb : (Value.slice A7 n7 c7).ownBlock ≠ some (w.heap.size + 1) := fun q => by
    have h1 := (World.ownsRow.lt how _ q).1
    have h2 := HS6.out
    omega
   have HOW := Hd (how.alloc (.cells #[.int .i64 a7.pa, .int .i64 a7.pn, .int .i64 a7.ad, txt a7.owner, .slice A7 n7 c7] 46))
   have HNB := Hd hnb
   have HNT := Hd hnt
   have hD8 := hD7.alloc (.cells #[.int .i64 a7.pa, .int .i64 a7.pn, .int .i64 a7.ad, txt a7.owner, .slice A7 n7 c7] 46)
   have hR8 := hR7.alloc (.cells #[.int .i64 a7.pa, .int .i64 a7.pn, .int .i64 a7.ad, txt a7.owner, .slice A7 n7 c7] 46)
   rw [show faultV 0 = .nilIface from rfl]
   clear hf hD7 hR7 hnb how hnt
   obtain ⟨z0, z1, z2, z3, z4⟩ := hR8.blk.cls5
   obtain ⟨u0, u1, u2, u3, u4⟩ := hR8.blk.frs5
   simp at z0 z1 z2 z3 z4
   go_wp2
   refine bodyPost_ret (v := .tuple #[AnsV (.slice A7 n7 c7) a7, .nilIface]) (by simp [AnsV, noAns, results, Tryz.results39, go_sem, z0, z1, z2, z3, z4, u0, u1, u2, u3, u4]) rfl ?_
   refine ⟨.slice A7 n7 c7, by rw [HV2.out]; rfl, ?_, T7, HNT.out, ?_⟩
   ·rw [HV2.out]
    exact own_fr (S := fun q => q = w.heap.size + 1) (own_of_base HOW.out HS67.out) (Fr.setCell (Fr.setCell (Fr.setCell (Fr.setCell (Fr.setCell (Fr.refl (fun q => q = w.heap.size + 1) _) (p := ⟨w.heap.size + 1, 0, none⟩) (fun _ => rfl) _) (p := ⟨w.heap.size + 1, 1, none⟩) (fun _ => rfl) _) (p := ⟨w.heap.size + 1, 2, none⟩) (fun _ => rfl) _) (p := ⟨w.heap.size + 1, 3, none⟩) (fun _ => rfl) _) (p := ⟨w.heap.size + 1, 4, none⟩) (fun _ => rfl) _) (fun g e1 e2 => HNB.out (by rw [← e2]; exact e1))
   ·rw [HV2.out]
    (repeat' (first | exact hD8 | refine DKto.set ?_ ?_ ?_ _ | exact hR8.out)) <;> simp
end
section
variable {B : Nat} {w : World} {T : Nat → Prop} {a : Nat} {h : Hl} {k : Nat}
theorem HK.ask_h (o : HK B w T a h k) (hk : k ≤ 30000) (who : List UInt8) (hw : who.length ≤ 9223372036854775807) (c : PCall) (hc : CallW c) :
  Calls Tryz.prog 12 #[ptrV a, txt who, CallV c] w fun e w' => ∃ v, e = .returned (.tuple #[AnsV v (h.ask who c).1, faultV (h.ask who c).2.1]) ∧ OwnP w' w.heap.size 31 v (h.ask who c).1.list ∧ ∃ T', (∀ q, v.ownBlock = some q → ¬ T' q) ∧ HKto B w T a w' T' (h.ask who c).2.2 k := by
 have HO := Hd o
 have HOK := Hd o.ok
 obtain ⟨d, m, To, es, clock, q1, q2, q3, q4, q5, q6, q7, q8, q9⟩ := o.ex
 have hD1 := q1.refl.alloc (.cells #[.int .i64 c.what, txt c.name, .int .i64 c.pa, .int .i64 c.pn, .int .i64 c.len, .int .i64 c.ad, txt c.owner] 33)
 have hC1 := Loc.new q1 33 #[.int .i64 c.what, txt c.name, .int .i64 c.pa, .int .i64 c.pn, .int .i64 c.len, .int .i64 c.ad, txt c.owner]
 have hA1 : Loc (w.alloc (.cells #[.int .i64 c.what, txt c.name, .int .i64 c.pa, .int .i64 c.pn, .int .i64 c.len, .int .i64 c.ad, txt c.owner] 33)) To a 87 #[ptrV d, .map (some m)] := (Loc.mk q2 q4).alloc _
 have hD2 := hD1.alloc (.cells #[.int .i64 0, .int .i64 0, .int .i64 0, .string { data := #[] }, .slice none 0 0] 46)
 have hC2 := hC1.alloc (.cells #[.int .i64 0, .int .i64 0, .int .i64 0, .string { data := #[] }, .slice none 0 0] 46)
 have hA2 := hA1.alloc (.cells #[.int .i64 0, .int .i64 0, .int .i64 0, .string { data := #[] }, .slice none 0 0] 46)
 have hR2 := Loc.new hD1.dk 46 #[.int .i64 0, .int .i64 0, .int .i64 0, .string { data := #[] }, .slice none 0 0]
 rw [World.size_alloc] at hR2
 have hM2 := q3.below (((Below.refl w.heap.size w).alloc (Nat.le_refl _) (.cells #[.int .i64 c.what, txt c.name, .int .i64 c.pa, .int .i64 c.pn, .int .i64 c.len, .int .i64 c.ad, txt c.owner] 33)).alloc (by simp) (.cells #[.int .i64 0, .int .i64 0, .int .i64 0, .string { data := #[] }, .slice none 0 0] 46)) q3.map.lt
 have HQ2 := Hd q2
 have HQ3 := Hd q3
 have HQ := Hd (show ¬ To a ∧ ¬ To m ∧ T a ∧ T m ∧ (∀ q, To q → T q) ∧ a ≠ m from ⟨q4, q5, q6, q7, q8, q9⟩)
 have HAW := Hd (show a ≠ w.heap.size + 1 by have := q2.lt; omega)
 clear o q1 q2 q3 q4 q5 q6 q7 q8 q9 hD1 hC1 hA1
 unfold CallV
 go_enter Tryz.func12, Tryz.ntmps12
 go_upto_region 1 with fail
 refine wp_name (fun w2 HW => ?_)
 rw [← HW.out] at hD2 hC2 hR2 hA2 hM2
 clear HW
 obtain ⟨kl, hkl⟩ := txt_key who (len_max hw)
 rcases hM2.look strKey mapStr (zeroInt w2) who hkl true with ⟨hf, hrun⟩ | ⟨id, hf, hrun⟩
 ·simp only [if_true] at hrun
  have HR := Hd (show h.ask who c = (noAns, 4, h) by unfold Hl.ask; rw [hf])
  clear hf hM2
  have h0 := hA2.blk.cell 0
  have h1 := hA2.blk.cell 1
  simp at h0 h1
  obtain ⟨z0, z1, z2, z3, z4⟩ := hR2.blk.cls5
  obtain ⟨u0, u1, u2, u3, u4⟩ := hR2.blk.frs5
  simp at z0 z1 z2 z3 z4
  go_wp2
  refine bodyPost_ret (v := .tuple #[AnsV (.slice none 0 0) noAns, .iface 89 (.int .i64 4)]) (by simp [AnsV, noAns, results, Tryz.results12, go_sem, z0, z1, z2, z3, z4, u0, u1, u2, u3, u4]) rfl ?_
  refine ⟨.slice none 0 0, by rw [HR.out]; rfl, by rw [HR.out]; exact OwnP.nil _ _ _, fun q => T q ∨ To q, own_none, ?_⟩
  rw [HR.out]
  refine HO.out.deskX (To1 := To) HQ2.out HQ3.out HQ.out (by omega) ?_
  (repeat' (first | exact hD2 | refine DKto.set ?_ ?_ ?_ _ | exact hR2.out)) <;> simp
 ·simp only [if_true] at hrun
  have HR := Hd (show h.ask who c = ((h.d.doC id c).1, (h.d.doC id c).2.1, ⟨(h.d.doC id c).2.2, h.op⟩) by unfold Hl.ask; rw [hf])
  have hid := HOK.out.ids _ (findH_mem hf)
  have HDO := Hd (fun W T' (q : DK B W T' d h.d k) => q.doC (by omega) hid c hc)
  unfold CallV at HDO
  unfold AnsV at HDO
  generalize h.d.doC id c = r at *
  clear hf hM2 hid hc
  have h0 := hA2.blk.cell 0
  have h1 := hA2.blk.cell 1
  simp at h0 h1
  go_upto_region 4 with fail
  clear h0 h1 hrun hkl
  have hks : ∀ W : World, Blk W a 87 #[ptrV d, .map (some m)] → Blk W w.heap.size 33 #[.int .i64 c.what, txt c.name, .int .i64 c.pa, .int .i64 c.pn, .int .i64 c.len, .int .i64 c.ad, txt c.owner] → W.cell? ⟨a, 0, none⟩ = some (ptrV d) ∧ W.cell? ⟨w.heap.size, 0, none⟩ = some (.int .i64 c.what) ∧ W.cell? ⟨w.heap.size, 1, none⟩ = some (txt c.name) ∧ W.cell? ⟨w.heap.size, 2, none⟩ = some (.int .i64 c.pa) ∧ W.cell? ⟨w.heap.size, 3, none⟩ = some (.int .i64 c.pn) ∧ W.cell? ⟨w.heap.size, 4, none⟩ = some (.int .i64 c.len) ∧ W.cell? ⟨w.heap.size, 5, none⟩ = some (.int .i64 c.ad) ∧ W.cell? ⟨w.heap.size, 6, none⟩ = some (txt c.owner) := fun W a b => ⟨a.cell 0, b.cell 0, b.cell 1, b.cell 2, b.cell 3, b.cell 4, b.cell 5, b.cell 6⟩
  have hAd : Blk w2.drew a 87 #[ptrV d, .map (some m)] := hA2.blk
  have hCd : Blk w2.drew w.heap.size 33 #[.int .i64 c.what, txt c.name, .int .i64 c.pa, .int .i64 c.pn, .int .i64 c.len, .int .i64 c.ad, txt c.owner] := hC2.blk
  have hcn : w.heap.size ≠ w.heap.size + 1 := by omega
  have han := HAW.out
  go_region_held3 (fun W => W.cell? ⟨a, 0, none⟩ = some (ptrV d) ∧ W.cell? ⟨w.heap.size, 0, none⟩ = some (.int .i64 c.what) ∧ W.cell? ⟨w.heap.size, 1, none⟩ = some (txt c.name) ∧ W.cell? ⟨w.heap.size, 2, none⟩ = some (.int .i64 c.pa) ∧ W.cell? ⟨w.heap.size, 3, none⟩ = some (.int .i64 c.pn) ∧ W.cell? ⟨w.heap.size, 4, none⟩ = some (.int .i64 c.len) ∧ W.cell? ⟨w.heap.size, 5, none⟩ = some (.int .i64 c.ad) ∧ W.cell? ⟨w.heap.size, 6, none⟩ = some (txt c.owner))
   (first
    | with_reducible exact hks _ hAd hCd
    | with_reducible exact hks _ hA3.blk hC3.blk
    | with_reducible exact hks _ (hA3.blk.far5 han _ _ _ _ _) (hC3.blk.far5 hcn _ _ _ _ _))
   ((first | (go_at_call 39; refine (HDO.out _ _ hD2.drew.dk).mono ?_; rintro e w3 ⟨v3, rfl, how3, T3, hnt3, hD23⟩; obtain ⟨A3, c3, rfl, _⟩ := how3.form; have HOW := Hd how3; have HNT := Hd hnt3; have hD3 := hD2.drew.step hD23; have hC3 := (hC2.bel (w2 := w2.drew) ((Below.refl _ _).drew)).step hD23; have hR3 := (hR2.bel (w2 := w2.drew) ((Below.refl _ _).drew)).step hD23; have hA3 := (hA2.bel (w2 := w2.drew) ((Below.refl _ _).drew)).step hD23; have z0 := hR3.blk.cell 0; have z1 := hR3.blk.cell 1; have z2 := hR3.blk.cell 2; have z3 := hR3.blk.cell 3; have z4 := hR3.blk.cell 4; have u0 := hR3.blk.frozen 0; have u1 := hR3.blk.frozen 1; have u2 := hR3.blk.frozen 2; have u3 := hR3.blk.frozen 3; have u4 := hR3.blk.frozen 4; simp at z0 z1 z2 z3 z4)))
  go_wp2
  refine bodyPost_ret (v := .tuple #[AnsV (.slice A3 r.1.list.length c3) r.1, faultV r.2.1]) (by simp [AnsV, noAns, results, Tryz.results12, go_sem, z0, z1, z2, z3, z4, u0, u1, u2, u3, u4]) rfl ?_
  refine ⟨.slice A3 r.1.list.length c3, by rw [HR.out], ?_, fun q => T q ∨ T3 q, fun q e => not_or.2 ⟨fun e2 => by have h1 := (World.ownsRow.lt HOW.out _ e).1; have h2 := HO.out.lt q e2; have h3 : w.heap.size ≤ w2.drew.heap.size := hD2.size; omega, HNT.out q e⟩, ?_⟩
  ·rw [HR.out]
   have hnb : (Value.slice A3 r.1.list.length c3).ownBlock ≠ some (w.heap.size + 1) := fun q => by
    have h1 := (World.ownsRow.lt HOW.out _ q).1
    have h2 := hR2.blk.lt
    have h3 : w2.drew.heap.size = w2.heap.size := rfl
    omega
   exact own_fr (S := fun q => q = w.heap.size + 1) (own_of_base HOW.out (show w.heap.size ≤ w2.drew.heap.size from hD2.size)) (Fr.setCell (Fr.setCell (Fr.setCell (Fr.setCell (Fr.setCell (Fr.refl (fun q => q = w.heap.size + 1) _) (p := ⟨w.heap.size + 1, 0, none⟩) (fun _ => rfl) _) (p := ⟨w.heap.size + 1, 1, none⟩) (fun _ => rfl) _) (p := ⟨w.heap.size + 1, 2, none⟩) (fun _ => rfl) _) (p := ⟨w.heap.size + 1, 3, none⟩) (fun _ => rfl) _) (p := ⟨w.heap.size + 1, 4, none⟩) (fun _ => rfl) _) (fun g e1 e2 => hnb (by rw [← e2]; exact e1))
  rw [HR.out]
  refine HO.out.deskX (To1 := T3) HQ2.out HQ3.out HQ.out (by omega) ?_
  (repeat' (first | exact hD3 | refine DKto.set ?_ ?_ ?_ _ | exact hR3.out)) <;> simp
end
theorem join_first (b : Nat) (x : Int) (hx : x ≠ 0) (w : World) (h0 : w.cell? ⟨b, 0, none⟩ = some (.iface 89 (.int .i64 x))) :
  Calls Tryz.prog 55 #[.slice (some ⟨b, 0, none⟩) 2 2] w fun e w' => e = .returned (.iface 89 (.int .i64 x)) ∧ w = w' := by
 go_enter Tryz.func55, Tryz.ntmps55
 go_wp2
 refine wp_loop_rounds 3 ?_
 rw [rounds_succ]
 go_wp2
 go_ret
 exact ⟨rfl, rfl⟩
theorem fault_shape (x : Int) : faultV x = .nilIface ∨ faultV x = .iface 89 (.int .i64 x) := by
 unfold faultV
 by_cases h : x = 0
 ·exact .inl (if_pos h)
 ·exact .inr (if_neg h)
section
variable {B : Nat} {w : World} {T : Nat → Prop} {a : Nat} {h : Hl} {k : Nat}
theorem HK.once_h (o : HK B w T a h k) (hk : k ≤ 30000) (c : PCall) (hc : CallW c) :
  Calls Tryz.prog 26 #[ptrV a, CallV c] w fun e w' => ∃ v, e = .returned (.tuple #[AnsV v (h.once c).1, .int .i64 (h.once c).2.1, faultV (h.once c).2.2.1]) ∧ OwnP w' w.heap.size 31 v (h.once c).1.list ∧ ∃ T', (∀ q, v.ownBlock = some q → ¬ T' q) ∧ HKto B w T a w' T' (h.once c).2.2.2 (k + 2) := by
 have HO := Hd o
 have HOK := Hd o.ok
 obtain ⟨d, m, To, es, clock, q1, q2, q3, q4, q5, q6, q7, q8, q9⟩ := o.ex
 have hD1 := q1.refl.alloc (.cells #[.int .i64 c.what, txt c.name, .int .i64 c.pa, .int .i64 c.pn, .int .i64 c.len, .int .i64 c.ad, txt c.owner] 33)
 have hC1 := Loc.new q1 33 #[.int .i64 c.what, txt c.name, .int .i64 c.pa, .int .i64 c.pn, .int .i64 c.len, .int .i64 c.ad, txt c.owner]
 have hA1 : Loc (w.alloc (.cells #[.int .i64 c.what, txt c.name, .int .i64 c.pa, .int .i64 c.pn, .int .i64 c.len, .int .i64 c.ad, txt c.owner] 33)) To a 87 #[ptrV d, .map (some m)] := (Loc.mk q2 q4).alloc _
 have hD2 := hD1.alloc (.cells #[.int .i64 0, .int .i64 0, .int .i64 0, .string { data := #[] }, .slice none 0 0] 46)
 have hC2 := hC1.alloc (.cells #[.int .i64 0, .int .i64 0, .int .i64 0, .string { data := #[] }, .slice none 0 0] 46)
 have hA2 := hA1.alloc (.cells #[.int .i64 0, .int .i64 0, .int .i64 0, .string { data := #[] }, .slice none 0 0] 46)
 have hR2 := Loc.new hD1.dk 46 #[.int .i64 0, .int .i64 0, .int .i64 0, .string { data := #[] }, .slice none 0 0]
 rw [World.size_alloc] at hR2
 have hM2 := q3.below (((Below.refl w.heap.size w).alloc (Nat.le_refl _) (.cells #[.int .i64 c.what, txt c.name, .int .i64 c.pa, .int .i64 c.pn, .int .i64 c.len, .int .i64 c.ad, txt c.owner] 33)).alloc (by simp) (.cells #[.int .i64 0, .int .i64 0, .int .i64 0, .string { data := #[] }, .slice none 0 0] 46)) q3.map.lt
 have HQ2 := Hd q2
 have HQ3 := Hd q3
 have HQ := Hd (show ¬ To a ∧ ¬ To m ∧ T a ∧ T m ∧ (∀ q, To q → T q) ∧ a ≠ m from ⟨q4, q5, q6, q7, q8, q9⟩)
 have HAW := Hd (show a ≠ w.heap.size + 1 by have := q2.lt; omega)
 clear o q1 q2 q3 q4 q5 q6 q7 q8 q9 hD1 hC1 hA1
 unfold CallV
 go_enter Tryz.func26, Tryz.ntmps26
 go_upto_region 1 with fail
 refine wp_name (fun w2 HW => ?_)
 rw [← HW.out] at hD2 hC2 hR2 hA2 hM2
 clear HW
 clear hM2
 have HBG := Hd (hD2.dk.begin (by omega))
 have HBZ := Hd (begin_zero (g := h.d))
 have HIDS := Hd (show 0 ≤ h.d.ids ∧ h.d.ids ≤ (k : Int) from hD2.dk.s.ok.hids)
 have HV := Hd (show h.once c = if h.d.begin.2.1 ≠ 0 then (noAns, 0, h.d.begin.2.1, ⟨h.d.begin.2.2, h.op⟩) else ((onceD h.d.begin.2.2 h.d.begin.1 c).1, (onceD h.d.begin.2.2 h.d.begin.1 c).2.1, (onceD h.d.begin.2.2 h.d.begin.1 c).2.2.1, ⟨(onceD h.d.begin.2.2 h.d.begin.1 c).2.2.2, h.op⟩) from rfl)
 generalize h.d.begin = rb at *
 have h0 := hA2.blk.cell 0
 have h1 := hA2.blk.cell 1
 simp at h0 h1
 go_wp2_with fail
 refine HBG.out.mono ?_
 rintro e w3 ⟨rfl, T3, hD23⟩
 have hD3 := hD2.step hD23; have hC3 := hC2.step hD23; have hR3 := hR2.step hD23; have hA3 := hA2.step hD23
 clear hD2 hC2 hR2 hA2 hD23 HBG h0 h1
 obtain ⟨id, f, g1⟩ := rb
 dsimp only at HV HBZ hD3
 by_cases hz : f ≠ 0
 ·have HR := Hd (show h.once c = (noAns, 0, f, ⟨g1, h.op⟩) by rw [HV.out, if_pos hz])
  have HF := Hd (show faultV f = .iface 89 (.int .i64 f) by unfold faultV; rw [if_neg hz])
  rw [HF.out]
  clear hz HV
  obtain ⟨z0, z1, z2, z3, z4⟩ := hR3.blk.cls5
  obtain ⟨u0, u1, u2, u3, u4⟩ := hR3.blk.frs5
  simp at z0 z1 z2 z3 z4
  go_wp2
  refine bodyPost_ret (v := .tuple #[AnsV (.slice none 0 0) noAns, .int .i64 0, .iface 89 (.int .i64 f)]) (by simp [AnsV, noAns, results, Tryz.results26, go_sem, z0, z1, z2, z3, z4, u0, u1, u2, u3, u4]) rfl ?_
  refine ⟨.slice none 0 0, by rw [HR.out]; exact congrArg (fun x => Ending.returned (.tuple #[AnsV (.slice none 0 0) noAns, .int .i64 0, x])) HF.out.symm, by rw [HR.out]; exact OwnP.nil _ _ _, fun q => T q ∨ T3 q, own_none, ?_⟩
  rw [HR.out]
  refine HO.out.deskX (To1 := T3) HQ2.out HQ3.out HQ.out (by omega) ?_
  refine DKto.more (k1 := (k + 1)) ?_ (by omega)
  (repeat' (first | exact hD3 | refine DKto.set ?_ ?_ ?_ _ | exact hR3.out)) <;> simp
 obtain rfl : f = 0 := Decidable.not_not.1 hz
 rw [show faultV 0 = .nilIface from rfl]
 have hid : (Lit.int .i64 id).wf = true := wf_i64 (by rw [HBZ.out rfl]; have := HIDS.out; omega)
 have HV2 := Hd (show h.once c = ((onceD g1 id c).1, (onceD g1 id c).2.1, (onceD g1 id c).2.2.1, ⟨(onceD g1 id c).2.2.2, h.op⟩) by rw [HV.out, if_neg (by simp)])
 have HW := Hd (show onceD g1 id c = if (g1.doC id c).2.1 ≠ 0 then (noAns, 0, (g1.doC id c).2.1, ((g1.doC id c).2.2.abort id).2) else if ((g1.doC id c).2.2.commit id).2.1 ≠ 0 then (noAns, 0, ((g1.doC id c).2.2.commit id).2.1, ((g1.doC id c).2.2.commit id).2.2) else ((g1.doC id c).1, ((g1.doC id c).2.2.commit id).1, 0, ((g1.doC id c).2.2.commit id).2.2) from rfl)
 have HDO := Hd (fun W T' (q : DK B W T' d g1 (k + 1)) => q.doC (by omega) hid c hc)
 have HNO := Hd (g1.doC_no id c)
 have HID := Hd hid
 unfold CallV at HDO
 unfold AnsV at HDO
 generalize g1.doC id c = r at *
 clear hz hid hc HV
 have h0 := hA3.blk.cell 0
 have h1 := hA3.blk.cell 1
 simp at h0 h1
 go_upto_region 4 with fail
 clear h0 h1
 have hks : ∀ W : World, Blk W a 87 #[ptrV d, .map (some m)] → Blk W w.heap.size 33 #[.int .i64 c.what, txt c.name, .int .i64 c.pa, .int .i64 c.pn, .int .i64 c.len, .int .i64 c.ad, txt c.owner] → W.cell? ⟨a, 0, none⟩ = some (ptrV d) ∧ W.cell? ⟨w.heap.size, 0, none⟩ = some (.int .i64 c.what) ∧ W.cell? ⟨w.heap.size, 1, none⟩ = some (txt c.name) ∧ W.cell? ⟨w.heap.size, 2, none⟩ = some (.int .i64 c.pa) ∧ W.cell? ⟨w.heap.size, 3, none⟩ = some (.int .i64 c.pn) ∧ W.cell? ⟨w.heap.size, 4, none⟩ = some (.int .i64 c.len) ∧ W.cell? ⟨w.heap.size, 5, none⟩ = some (.int .i64 c.ad) ∧ W.cell? ⟨w.heap.size, 6, none⟩ = some (txt c.owner) := fun W a b => ⟨a.cell 0, b.cell 0, b.cell 1, b.cell 2, b.cell 3, b.cell 4, b.cell 5, b.cell 6⟩
 have hAd : Blk w3.drew a 87 #[ptrV d, .map (some m)] := hA3.blk
 have hCd : Blk w3.drew w.heap.size 33 #[.int .i64 c.what, txt c.name, .int .i64 c.pa, .int .i64 c.pn, .int .i64 c.len, .int .i64 c.ad, txt c.owner] := hC3.blk
 have hcn : w.heap.size ≠ w.heap.size + 1 := by omega
 have han := HAW.out
 go_region_held3 (fun W => W.cell? ⟨a, 0, none⟩ = some (ptrV d) ∧ W.cell? ⟨w.heap.size, 0, none⟩ = some (.int .i64 c.what) ∧ W.cell? ⟨w.heap.size, 1, none⟩ = some (txt c.name) ∧ W.cell? ⟨w.heap.size, 2, none⟩ = some (.int .i64 c.pa) ∧ W.cell? ⟨w.heap.size, 3, none⟩ = some (.int .i64 c.pn) ∧ W.cell? ⟨w.heap.size, 4, none⟩ = some (.int .i64 c.len) ∧ W.cell? ⟨w.heap.size, 5, none⟩ = some (.int .i64 c.ad) ∧ W.cell? ⟨w.heap.size, 6, none⟩ = some (txt c.owner))
  (first
   | with_reducible exact hks _ hAd hCd
   | with_reducible exact hks _ hA4.blk hC4.blk
   | with_reducible exact hks _ (hA4.blk.far5 han _ _ _ _ _) (hC4.blk.far5 hcn _ _ _ _ _))
  ((first | (go_at_call 39; refine (HDO.out _ _ hD3.drew.dk).mono ?_; rintro e w4 ⟨v4, rfl, how4, T4, hnt4, hD34⟩; obtain ⟨A4, c4, rfl, _⟩ := how4.form; have HOW := Hd how4; have HNT := Hd hnt4; have hD4 := hD3.drew.step hD34; have hC4 := (hC3.bel (w2 := w3.drew) ((Below.refl _ _).drew)).step hD34; have hR4 := (hR3.bel (w2 := w3.drew) ((Below.refl _ _).drew)).step hD34; have hA4 := (hA3.bel (w2 := w3.drew) ((Below.refl _ _).drew)).step hD34; have z0 := hR4.blk.cell 0; have z1 := hR4.blk.cell 1; have z2 := hR4.blk.cell 2; have z3 := hR4.blk.cell 3; have z4 := hR4.blk.cell 4; have u0 := hR4.blk.frozen 0; have u1 := hR4.blk.frozen 1; have u2 := hR4.blk.frozen 2; have u3 := hR4.blk.frozen 3; have u4 := hR4.blk.frozen 4; simp at z0 z1 z2 z3 z4)))
 go_upto_region 5 with fail
 refine wp_name (fun w5 HW5 => ?_)
 have hD5 : DKto B w To d w5 T4 r.2.2 (k + 1) := by
  rw [HW5.out]
  (repeat' (first | exact hD4 | refine DKto.set ?_ ?_ ?_ _ | exact hR4.out)) <;> simp
 have hA5 : Loc w5 T4 a 87 #[ptrV d, .map (some m)] := by rw [HW5.out]; exact ⟨hA4.blk.far5 HAW.out _ _ _ _ _, hA4.out⟩
 have hR5 : Loc w5 T4 (w.heap.size + 1) 46 #[.int .i64 r.1.pa, .int .i64 r.1.pn, .int .i64 r.1.ad, txt r.1.owner, .slice A4 r.1.list.length c4] := by rw [HW5.out]; exact (((((hR4.set 0 _).set 1 _).set 2 _).set 3 _).set 4 _)
 have HOW5 : Hid (OwnP w5 w.heap.size 31 (.slice A4 r.1.list.length c4) r.1.list) := by
  have hnb : (Value.slice A4 r.1.list.length c4).ownBlock ≠ some (w.heap.size + 1) := fun q => by
   have h1 := (World.ownsRow.lt HOW.out _ q).1
   have h2 := hR3.blk.lt
   have h3 : w3.drew.heap.size = w3.heap.size := rfl
   omega
  rw [HW5.out]
  exact Hd (own_fr (S := fun q => q = w.heap.size + 1) (own_of_base HOW.out (show w.heap.size ≤ w3.drew.heap.size from hD3.size)) (Fr.setCell (Fr.setCell (Fr.setCell (Fr.setCell (Fr.setCell (Fr.refl (fun q => q = w.heap.size + 1) _) (p := ⟨w.heap.size + 1, 0, none⟩) (fun _ => rfl) _) (p := ⟨w.heap.size + 1, 1, none⟩) (fun _ => rfl) _) (p := ⟨w.heap.size + 1, 2, none⟩) (fun _ => rfl) _) (p := ⟨w.heap.size + 1, 3, none⟩) (fun _ => rfl) _) (p := ⟨w.heap.size + 1, 4, none⟩) (fun _ => rfl) _) (fun g e1 e2 => hnb (by rw [← e2]; exact e1)))
 have HRB : Hid (∀ q, (Value.slice A4 r.1.list.length c4).ownBlock = some q → ¬ T4 q) := HNT
 have HNB5 : Hid ((Value.slice A4 r.1.list.length c4).ownBlock ≠ some (w.heap.size + 1)) := Hd (fun q => by
   have h1 := (World.ownsRow.lt HOW.out _ q).1
   have h2 := hR3.blk.lt
   have h3 : w3.drew.heap.size = w3.heap.size := rfl
   omega)
 clear HW5 hD3 hA3 hR3 hC3 hD4 hA4 hR4 hC4 hD34 how4 hnt4 HOW HDO hks hAd hCd han hcn z0 z1 z2 z3 z4 u0 u1 u2 u3 u4
 by_cases hf : r.2.1 ≠ 0
 ·have HF := Hd (fault_num hf)
  have HNZ := Hd hf
  have HAB := Hd (hD5.dk.abort HID.out)
  have HR := Hd (show h.once c = (noAns, 0, r.2.1, ⟨(r.2.2.abort id).2, h.op⟩) by rw [HV2.out, HW.out, if_pos hf])
  rw [HF.out]
  clear hf HNO HV2 HW
  have h0 := hA5.blk.cell 0
  have h1 := hA5.blk.cell 1
  simp at h0 h1
  go_wp2_with fail
  refine HAB.out.mono ?_
  rintro e w6 ⟨rfl, T6, hD56⟩
  have hD6 := hD5.step hD56
  have hR6 := hR5.step hD56
  clear hD5 hA5 hR5 hD56 HAB h0 h1 HOW5
  rcases fault_shape (r.2.2.abort id).1 with hfs | hfs
  ·rw [hfs]
   clear hfs
   have hD7 := hD6.alloc (.cells #[.iface 89 (.int .i64 r.2.1), .nilIface] 26)
   have hR7 := hR6.alloc (.cells #[.iface 89 (.int .i64 r.2.1), .nilIface] 26)
   have hJ : (w6.alloc (.cells #[.iface 89 (.int .i64 r.2.1), .nilIface] 26)).cell? ⟨w6.heap.size, 0, none⟩ = some (.iface 89 (.int .i64 r.2.1)) := (Blk.new w6 26 #[.iface 89 (.int .i64 r.2.1), .nilIface]).cell 0
   have HJ := Hd (join_first w6.heap.size r.2.1 HNZ.out _ hJ)
   clear hJ
   go_wp2_with fail
   refine HJ.out.mono ?_
   rintro e w7 ⟨rfl, rfl⟩
   clear HJ
   obtain ⟨z0, z1, z2, z3, z4⟩ := hR7.blk.cls5
   obtain ⟨u0, u1, u2, u3, u4⟩ := hR7.blk.frs5
   simp at z0 z1 z2 z3 z4
   go_wp2
   refine bodyPost_ret (v := .tuple #[AnsV (.slice none 0 0) noAns, .int .i64 0, .iface 89 (.int .i64 r.2.1)]) (by simp [AnsV, noAns, results, Tryz.results26, go_sem, z0, z1, z2, z3, z4, u0, u1, u2, u3, u4]) rfl ?_
   refine ⟨.slice none 0 0, by rw [HR.out]; exact congrArg (fun x => Ending.returned (.tuple #[AnsV (.slice none 0 0) noAns, .int .i64 0, x])) HF.out.symm, by rw [HR.out]; exact OwnP.nil _ _ _, fun q => T q ∨ T6 q, own_none, ?_⟩
   rw [HR.out]
   refine HO.out.deskX (To1 := T6) HQ2.out HQ3.out HQ.out (by omega) ?_
   refine DKto.more (k1 := (k + 1)) ?_ (by omega)
   (repeat' (first | exact hD7 | refine DKto.set ?_ ?_ ?_ _ | exact hR7.out)) <;> simp
  ·rw [hfs]
   generalize (r.2.2.abort id).1 = fy
   clear hfs
   have hD7 := hD6.alloc (.cells #[.iface 89 (.int .i64 r.2.1), .iface 89 (.int .i64 fy)] 26)
   have hR7 := hR6.alloc (.cells #[.iface 89 (.int .i64 r.2.1), .iface 89 (.int .i64 fy)] 26)
   have hJ : (w6.alloc (.cells #[.iface 89 (.int .i64 r.2.1), .iface 89 (.int .i64 fy)] 26)).cell? ⟨w6.heap.size, 0, none⟩ = some (.iface 89 (.int .i64 r.2.1)) := (Blk.new w6 26 #[.iface 89 (.int .i64 r.2.1), .iface 89 (.int .i64 fy)]).cell 0
   have HJ := Hd (join_first w6.heap.size r.2.1 HNZ.out _ hJ)
   clear hJ
   go_wp2_with fail
   refine HJ.out.mono ?_
   rintro e w7 ⟨rfl, rfl⟩
   clear HJ
   obtain ⟨z0, z1, z2, z3, z4⟩ := hR7.blk.cls5
   obtain ⟨u0, u1, u2, u3, u4⟩ := hR7.blk.frs5
   simp at z0 z1 z2 z3 z4
   go_wp2
   refine bodyPost_ret (v := .tuple #[AnsV (.slice none 0 0) noAns, .int .i64 0, .iface 89 (.int .i64 r.2.1)]) (by simp [AnsV, noAns, results, Tryz.results26, go_sem, z0, z1, z2, z3, z4, u0, u1, u2, u3, u4]) rfl ?_
   refine ⟨.slice none 0 0, by rw [HR.out]; exact congrArg (fun x => Ending.returned (.tuple #[AnsV (.slice none 0 0) noAns, .int .i64 0, x])) HF.out.symm, by rw [HR.out]; exact OwnP.nil _ _ _, fun q => T q ∨ T6 q, own_none, ?_⟩
   rw [HR.out]
   refine HO.out.deskX (To1 := T6) HQ2.out HQ3.out HQ.out (by omega) ?_
   refine DKto.more (k1 := (k + 1)) ?_ (by omega)
   (repeat' (first | exact hD7 | refine DKto.set ?_ ?_ ?_ _ | exact hR7.out)) <;> simp
 have hf : r.2.1 = 0 := Decidable.not_not.1 hf
 rw [show faultV r.2.1 = .nilIface by rw [hf]; rfl]
 have HCM := Hd (hD5.dk.commit (id := id) (by omega) HID.out)
 have HW2 := Hd (show onceD g1 id c = if (r.2.2.commit id).2.1 ≠ 0 then (noAns, 0, (r.2.2.commit id).2.1, (r.2.2.commit id).2.2) else (r.1, (r.2.2.commit id).1, 0, (r.2.2.commit id).2.2) by rw [HW.out, if_neg (by rw [hf]; simp)])
 clear hf HW HNO
 generalize r.2.2.commit id = rc at *
 have h0 := hA5.blk.cell 0
 have h1 := hA5.blk.cell 1
 simp at h0 h1
 go_wp2_with fail
 refine HCM.out.mono ?_
 rintro e w6 ⟨rfl, T6, hD56⟩
 have hD6 := hD5.step hD56
 have hR6 := hR5.step hD56
 have HOW6 := Hd (own_fr HOW5.out hD56.fr HRB.out)
 have HNT6 := Hd (show ∀ q, (Value.slice A4 r.1.list.length c4).ownBlock = some q → ¬ (T q ∨ T6 q) from fun q e => not_or.2 ⟨fun e2 => by have h1 := (World.ownsRow.lt HOW5.out _ e).1; have h2 := HO.out.lt q e2; omega, fun e2 => (hD56.new q e2).elim (HNT.out q e) (fun e3 => by have h1 := (World.ownsRow.lt HOW5.out _ e).2; omega)⟩)
 clear hD5 hA5 hR5 HCM h0 h1 HOW5
 obtain ⟨n, f, g3⟩ := rc
 dsimp only at HW2 hD6
 by_cases hf : f ≠ 0
 ·have HF := Hd (fault_num hf)
  have HR := Hd (show h.once c = (noAns, 0, f, ⟨g3, h.op⟩) by rw [HV2.out, HW2.out, if_pos hf])
  rw [HF.out]
  clear hf HV2 HW2 hD56 HOW6
  obtain ⟨z0, z1, z2, z3, z4⟩ := hR6.blk.cls5
  obtain ⟨u0, u1, u2, u3, u4⟩ := hR6.blk.frs5
  simp at z0 z1 z2 z3 z4
  go_wp2
  refine bodyPost_ret (v := .tuple #[AnsV (.slice none 0 0) noAns, .int .i64 0, .iface 89 (.int .i64 f)]) (by simp [AnsV, noAns, results, Tryz.results26, go_sem, z0, z1, z2, z3, z4, u0, u1, u2, u3, u4]) rfl ?_
  refine ⟨.slice none 0 0, by rw [HR.out]; exact congrArg (fun x => Ending.returned (.tuple #[AnsV (.slice none 0 0) noAns, .int .i64 0, x])) HF.out.symm, by rw [HR.out]; exact OwnP.nil _ _ _, fun q => T q ∨ T6 q, own_none, ?_⟩
  rw [HR.out]
  refine HO.out.deskX (To1 := T6) HQ2.out HQ3.out HQ.out (by omega) ?_
  refine DKto.more (k1 := (k + 1 + 1)) ?_ (by omega)
  (repeat' (first | exact hD6 | refine DKto.set ?_ ?_ ?_ _ | exact hR6.out)) <;> simp
 obtain rfl : f = 0 := Decidable.not_not.1 hf
 have HR := Hd (show h.once c = (r.1, n, 0, ⟨g3, h.op⟩) by rw [HV2.out, HW2.out, if_neg (by simp)])
 rw [show faultV 0 = .nilIface from rfl]
 clear hf HV2 HW2 hD56
 obtain ⟨z0, z1, z2, z3, z4⟩ := hR6.blk.cls5
 obtain ⟨u0, u1, u2, u3, u4⟩ := hR6.blk.frs5
 simp at z0 z1 z2 z3 z4
 go_wp2
 refine bodyPost_ret (v := .tuple #[AnsV (.slice A4 r.1.list.length c4) r.1, .int .i64 n, .nilIface]) (by simp [AnsV, noAns, results, Tryz.results26, go_sem, z0, z1, z2, z3, z4, u0, u1, u2, u3, u4]) rfl ?_
 refine ⟨.slice A4 r.1.list.length c4, by rw [HR.out]; rfl, ?_, fun q => T q ∨ T6 q, HNT6.out, ?_⟩
 ·rw [HR.out]
  exact own_fr (S := fun q => q = w.heap.size + 1) HOW6.out (Fr.setCell (Fr.setCell (Fr.setCell (Fr.setCell (Fr.setCell (Fr.refl (fun q => q = w.heap.size + 1) _) (p := ⟨w.heap.size + 1, 0, none⟩) (fun _ => rfl) _) (p := ⟨w.heap.size + 1, 1, none⟩) (fun _ => rfl) _) (p := ⟨w.heap.size + 1, 2, none⟩) (fun _ => rfl) _) (p := ⟨w.heap.size + 1, 3, none⟩) (fun _ => rfl) _) (p := ⟨w.heap.size + 1, 4, none⟩) (fun _ => rfl) _) (fun g e1 e2 => HNB5.out (by rw [← e2]; exact e1))
 rw [HR.out]
 refine HO.out.deskX (To1 := T6) HQ2.out HQ3.out HQ.out (by omega) ?_
 (repeat' (first | exact hD6 | refine DKto.set ?_ ?_ ?_ _ | exact hR6.out)) <;> simp
end
theorem PCallW.w {c : PCall} (h : PCallW c) : CallW c := ⟨h.what, h.name, h.pa, h.pn, h.len, h.ad, h.owner⟩
section
variable {B : Nat} {w w' : World} {Tx Ty T' : Nat → Prop} {ax ay bc : Nat} {cs : Array Value} {hx hy h' : Hl} {kx ky k' : Nat}
variable {b : Nat} {t : TypeId} {cb : Array Value}
variable {base : Nat} {v : Value} {l : List Pf}
end
theorem rd_of' {w : World} {base : Nat} {A : Option Addr} {c : Nat} {L : List KV} (h : OwnKV w base (.slice A L.length c) L) : Rd w w.heap.size A (flatE encKV L) := by
 obtain ⟨A', c', e, h1⟩ := h.rd
 injection e with e1 e2 e3
 subst e1
 exact h1
theorem faultV_no {f : Int} (h : f ≠ 0) : faultV f = .iface 89 (.int .i64 f) := by unfold faultV; rw [if_neg h]
theorem fault_zero0 : faultV 0 = .nilIface := rfl
def hQ : Hl := ⟨gNext (Dk.new 100000) ⟨nKey [113], [111], false⟩, []⟩
theorem riseC_at : ∀ (l : List Chg) (p : Option Chg), riseOk p l = true → RiseC l ∧ ∀ q, p = some q → ∀ c ∈ l, lessB q.key c.key = true
 | [], p, _ => ⟨List.Pairwise.nil, fun q _ c hc => by cases hc⟩
 | x :: l, p, h => by
  unfold riseOk at h
  simp only [Bool.and_eq_true] at h
  obtain ⟨⟨h1, h2⟩, h3⟩ := h
  obtain ⟨h4, h5⟩ := riseC_at l (some x) h3
  have h5 := h5 x rfl
  refine ⟨List.pairwise_cons.2 ⟨h5, h4⟩, ?_⟩
  rintro q rfl c hc
  have hq : lessB q.key x.key = true := by
   simp at h2
   exact lessB_of h2.1 (fun e => h2.2 e.symm)
  rcases List.mem_cons.1 hc with rfl | hc
  ·exact hq
  ·exact lessB_trans hq (h5 c hc)
theorem riseC_of {l : List Chg} (h : chgFault l = 0) : RiseC l := (riseC_at l none (chgFault_zero.1 h).2).1
section
variable {h : Hl}
theorem HOrd.hopen (o : HOrd h.d) (who : List UInt8) : HOrd (h.open who).2.d := by
 unfold Hl.open
 split
 ·exact o
 ·split
  ·exact o
  ·split
   ·exact o.begin
   ·exact o.begin
theorem HOrd.hask (o : HOrd h.d) (who : List UInt8) (c : PCall) : HOrd (h.ask who c).2.2.d := by
 unfold Hl.ask
 split
 ·exact o
 ·exact o.do _ c
theorem HOrd.hclose (o : HOrd h.d) (who : List UInt8) : HOrd (h.close who).2.2.d := by
 unfold Hl.close
 split
 ·exact o
 ·exact o.commit _
theorem HOrd.hquit (o : HOrd h.d) (who : List UInt8) : HOrd (h.quit who).2.d := by
 unfold Hl.quit
 split
 ·exact o
 ·exact o.abort _
theorem HOrd.honce (o : HOrd h.d) (c : PCall) : HOrd (h.once c).2.2.2.d := by
 unfold Hl.once
 split
 ·exact o.begin
 ·show HOrd (onceD h.d.begin.2.2 h.d.begin.1 c).2.2.2
  unfold onceD
  split
  ·exact (o.begin.do _ c).abort _
  ·split
   ·exact (o.begin.do _ c).commit _
   ·exact (o.begin.do _ c).commit _
theorem HK.hcrash {B : Nat} {w : World} {T : Nat → Prop} {a k : Nat} (q : HK B w T a h k) (o : HOrd h.d) (n : Int) : HOrd (h.crash n).d := by
 obtain ⟨d, m, To, es, clock, q1, _⟩ := q.ex
 obtain ⟨_, j, _, j2, j3⟩ := q1.s.ok.crash n q1.s.log.2.2
 exact o.crash (fun l hl => riseC_of (q1.s.ok.log.1 l hl)) ⟨j, j2, j3⟩
end
theorem inB_top {s : List UInt8} (h : (keyI s).kind ≠ 0) : inB [] topKey s = true := by
 have hle := keyI_le s
 have key : ∃ b l, s = b :: l ∧ b < 255 := by
  by_cases h1 : (keyI s).kind = 1
  ·exact ⟨_, _, (keyI_1 h1).1, by decide⟩
  ·by_cases h2 : (keyI s).kind = 2
   ·obtain ⟨x, q, _⟩ := keyI_2 h2
    exact ⟨_, _, q, by decide⟩
   ·obtain ⟨x, q, _⟩ := keyI_3 (show (keyI s).kind = 3 by omega)
    exact ⟨_, _, q, by decide⟩
 obtain ⟨b, l, e, hb⟩ := key
 rw [e]
 unfold inB topKey
 rw [lessB_nil]
 show (!false && (decide (b < 255) || (b == 255 && lessB l _))) = true
 rw [decide_eq_true hb]
 rfl
theorem aud_ok {F : List UInt8 → List Ver} {n : Int} {L : List KV} (hr : RangeIs F [] topKey n L) (ho : OrdV (fun s => tell F s n)) : ∀ i (hi : i < L.length), auAt L i L[i] = 0 := by
 intro i hi
 have hm : (L[i].1, L[i].2) ∈ L := List.getElem_mem hi
 have ht := ((hr.mem _ _).1 hm).2
 have hk := ho.each _ _ ht
 have hin : ∀ s, tell F s n ≠ none → ∃ v, (s, v) ∈ L := fun s hs => by
  obtain ⟨v, hv⟩ := some_ne hs
  exact ⟨v, (hr.mem s v).2 ⟨inB_top (ho.each s v hv).1, hv⟩⟩
 unfold auAt
 rw [if_neg, if_neg (fun q => q (ownE_zero.2 hk))]
 ·split
  ·rfl
  ·rename_i h1
   obtain ⟨s', q1, q2, q3⟩ := ho.net L[i].1 (by show tell F _ n ≠ none; rw [ht]; simp)
   obtain ⟨v', hv'⟩ := hin s' q1
   have hnet : netIn L (keyI L[i].1).net = true := by
    unfold netIn
    refine List.any_eq_true.2 ⟨_, hv', decide_eq_true ?_⟩
    have := (keyI_1 q2).1
    rw [q3] at this
    exact this
   rw [if_neg (by rw [hnet]; decide), if_neg]
   rintro ⟨h3, h4⟩
   obtain ⟨s2, r1, r2, r3, r4⟩ := ho.cov L[i].1 (by show tell F _ n ≠ none; rw [ht]; simp) h3
   obtain ⟨v2, hv2⟩ := hin s2 r1
   have : (pfxOf L (keyI L[i].1).net).any (fun q => inP ((keyI L[i].1).ad : Int) 32 q.1 q.2) = true := by
    refine List.any_eq_true.2 ⟨_, List.mem_filterMap.2 ⟨_, hv2, ?_⟩, r4⟩
    unfold pfxAt
    rw [if_pos ⟨r2, r3⟩]
   rw [this] at h4
   cases h4
 ·rintro ⟨h1, h2⟩
  rw [getD_at L (show i - 1 < L.length by omega)] at h2
  have := List.pairwise_iff_getElem.1 hr.rise (i - 1) i (by omega) hi (by omega)
  rw [this] at h2
  cases h2
def Same3 (g g' : Dk) : Prop := g'.all = g.all ∧ g'.F = g.F ∧ g'.ns = g.ns
theorem Same3.refl (g : Dk) : Same3 g g := ⟨rfl, rfl, rfl⟩
theorem Same3.trans {a b c : Dk} (h : Same3 a b) (k : Same3 b c) : Same3 a c := ⟨k.1.trans h.1, k.2.1.trans h.2.1, k.2.2.trans h.2.2⟩
theorem get_keeps (g : Dk) (id : Int) (s : List UInt8) : Same3 g (g.get id s).2.2 := by
 unfold Dk.get
 split
 ·exact Same3.refl g
 ·split
  ·exact Same3.refl g
  ·split
   ·exact Same3.refl g
   ·exact ⟨rfl, rfl, rfl⟩
theorem range_keeps (g : Dk) (id : Int) (lo hi : List UInt8) : Same3 g (g.range id lo hi).2 := by
 unfold Dk.range
 split
 ·exact Same3.refl g
 ·split
  ·exact Same3.refl g
  ·exact ⟨rfl, rfl, rfl⟩
theorem run_keeps {α : Type} (id : Int) : ∀ (p : DP α) (g : Dk), Same3 g (p.run id g).2
 | .ret a, g => Same3.refl g
 | .get s k, g => (get_keeps g id s).trans (run_keeps id (k ((g.get id s).1, (g.get id s).2.1)) (g.get id s).2.2)
 | .range lo hi k, g => (range_keeps g id lo hi).trans (run_keeps id (k ((g.range id lo hi).1, g.rangeL id lo hi)) (g.range id lo hi).2)
 | .chg c k, g => Same3.trans (show Same3 g (g.change id c).2 from change_keeps g id c) (run_keeps id (k (g.change id c).1) (g.change id c).2)
theorem doC_keeps (g : Dk) (id : Int) (c : PCall) : Same3 g (g.doC id c).2.2 := by
 rw [← doC_run g id c]
 exact run_keeps id (doP c) g
theorem abort_keeps (g : Dk) (id : Int) : Same3 g (g.abort id).2 := by
 unfold Dk.abort
 split
 ·exact Same3.refl g
 ·exact ⟨rfl, rfl, rfl⟩
def Nx (n f : Int) (g g' : Dk) : Prop := (f ≠ 0 ∧ Same3 g g') ∨ (f = 0 ∧ n ≤ g.last ∧ Same3 g g') ∨ (f = 0 ∧ n = g.last + 1 ∧ g'.ns = g.ns ∧ ∃ l, g'.all = g.all ++ [l] ∧ g'.F = appF g.F l (g.last + 1))
theorem Nx.before {n f : Int} {a g g' : Dk} (s : Same3 a g) (h : Nx n f g g') : Nx n f a g' := by
 have hl : g.last = a.last := by unfold Dk.last; rw [s.1]
 rcases h with ⟨h1, h2⟩ | ⟨h1, h2, h3⟩ | ⟨h1, h2, h3, l, h4, h5⟩
 ·exact .inl ⟨h1, s.trans h2⟩
 ·exact .inr (.inl ⟨h1, by rw [← hl]; exact h2, s.trans h3⟩)
 ·exact .inr (.inr ⟨h1, by rw [← hl]; exact h2, h3.trans s.2.2, l, by rw [h4, s.1], by rw [h5, s.2.1, hl]⟩)
theorem commit_nx {g : Dk} (o : HOrd g) (id : Int) : Nx (g.commit id).1 (g.commit id).2.1 g (g.commit id).2.2 := by
 cases ht : findT g.op id with
 | none =>
  have e : g.commit id = (0, 4, g) := by unfold Dk.commit; rw [ht]
  rw [e]
  exact .inl ⟨(by decide : (4 : Int) ≠ 0), Same3.refl g⟩
 | some t =>
  by_cases hc : Clash g.F t
  ·have e : g.commit id = (0, 6, { g with op := eraseT g.op id }) := by unfold Dk.commit; rw [ht]; simp only; rw [if_pos hc]
   rw [e]
   exact .inl ⟨(by decide : (6 : Int) ≠ 0), rfl, rfl, rfl⟩
  ·by_cases ho : t.own = []
   ·have e : g.commit id = (t.sees, 0, { g with op := eraseT g.op id }) := by unfold Dk.commit; rw [ht]; simp only; rw [if_neg hc, if_pos ho]
    rw [e]
    exact .inr (.inl ⟨rfl, (o.bnd t (findT_mem ht).1).2, rfl, rfl, rfl⟩)
   ·by_cases hz : (g.lg.append t.own).1 = 0
    ·have e : g.commit id = (g.last + 1, 0, Dk.put { g with lg := (g.lg.append t.own).2, op := eraseT g.op id } t.own ((g.lg.append t.own).2.B.length : Int)) := by unfold Dk.commit; rw [ht]; simp only; rw [if_neg hc, if_neg ho, if_pos hz]
     rw [e]
     exact .inr (.inr ⟨rfl, rfl, rfl, t.own, rfl, rfl⟩)
    ·have e : g.commit id = (0, (g.lg.append t.own).1, { g with op := eraseT g.op id, lg := (g.lg.append t.own).2 }) := by unfold Dk.commit; rw [ht]; simp only; rw [if_neg hc, if_neg ho, if_neg hz]
     rw [e]
     exact .inl ⟨hz, rfl, rfl, rfl⟩
section
variable {h : Hl}
theorem open_keeps (h : Hl) (who : List UInt8) : Same3 h.d (h.open who).2.d := by
 unfold Hl.open
 split
 ·exact Same3.refl _
 ·split
  ·exact Same3.refl _
  ·split <;> exact begin_keeps h.d
theorem ask_keeps (h : Hl) (who : List UInt8) (c : PCall) : Same3 h.d (h.ask who c).2.2.d := by
 unfold Hl.ask
 split
 ·exact Same3.refl _
 ·exact doC_keeps _ _ _
theorem quit_keeps (h : Hl) (who : List UInt8) : Same3 h.d (h.quit who).2.d := by
 unfold Hl.quit
 split
 ·exact Same3.refl _
 ·exact abort_keeps _ _
theorem close_nx (o : HOrd h.d) (who : List UInt8) : Nx (h.close who).1 (h.close who).2.1 h.d (h.close who).2.2.d := by
 unfold Hl.close
 split
 ·exact .inl ⟨(by decide : (4 : Int) ≠ 0), Same3.refl _⟩
 ·exact commit_nx o _
theorem once_nx (o : HOrd h.d) (c : PCall) : Nx (h.once c).2.1 (h.once c).2.2.1 h.d (h.once c).2.2.2.d := by
 unfold Hl.once
 split
 ·rename_i q
  exact .inl ⟨q, begin_keeps h.d⟩
 ·show Nx (onceD h.d.begin.2.2 h.d.begin.1 c).2.1 (onceD h.d.begin.2.2 h.d.begin.1 c).2.2.1 h.d (onceD h.d.begin.2.2 h.d.begin.1 c).2.2.2
  have s1 : Same3 h.d (h.d.begin.2.2.doC h.d.begin.1 c).2.2 := Same3.trans (show Same3 h.d h.d.begin.2.2 from begin_keeps h.d) (doC_keeps _ _ _)
  have o1 : HOrd (h.d.begin.2.2.doC h.d.begin.1 c).2.2 := o.begin.do _ c
  have hc := commit_nx o1 h.d.begin.1
  unfold onceD
  split
  ·rename_i q
   exact .inl ⟨q, s1.trans (abort_keeps _ _)⟩
  ·split
   ·rename_i q
    rcases hc with ⟨h1, h2⟩ | ⟨h1, _⟩ | ⟨h1, _⟩
    ·exact .inl ⟨q, s1.trans h2⟩
    ·exact absurd h1 q
    ·exact absurd h1 q
   ·rename_i q
    rcases hc with ⟨h1, h2⟩ | ⟨h1, h2, h3⟩ | ⟨h1, h2, h3, h4⟩
    ·exact absurd h1 q
    ·exact Nx.before s1 (.inr (.inl ⟨rfl, h2, h3⟩))
    ·exact Nx.before s1 (.inr (.inr ⟨rfl, h2, h3, h4⟩))
end
theorem HK.crash_fg {B : Nat} {w : World} {T : Nat → Prop} {a k : Nat} {h : Hl} (q : HK B w T a h k) {was : List (List KV)} (hI : FgI topKey h.d was) (n : Int) :
  ∃ j, h.d.ns ≤ j ∧ j < was.length ∧ (h.crash n).d.ns = j ∧ (h.crash n).d.all.length = j ∧ FgI topKey (h.crash n).d (was.take (j + 1)) := by
 obtain ⟨d, m, To, es, clock, q1, _⟩ := q.ex
 obtain ⟨_, j, j1, j2, j3⟩ := q1.s.ok.crash n q1.s.log.2.2
 have hl : (h.crash n).d.all.length = j := by
  show (h.d.crash n).all.length = j
  rw [j3, List.length_take]; omega
 exact ⟨j, j1, by rw [hI.len]; omega, hl, hl, hI.cut j2 j3 rfl⟩
theorem HK.flush_ns {B : Nat} {w : World} {T : Nat → Prop} {a k : Nat} {h : Hl} (q : HK B w T a h k) : h.d.ns ≤ h.d.flush.2.ns := by
 obtain ⟨d, m, To, es, clock, q1, _⟩ := q.ex
 have h2 := q1.s.ok.log.2.1
 rcases (flush_cases h.d k q1.s.ok).2.2 with ⟨_, e⟩ | ⟨_, e⟩ <;> omega
structure HgS (B : Nat) (w : World) (T : Nat → Prop) (a : Nat) (h : Hl) (k : Nat) (R : Nat → Prop) (v : Value) (Ls : List (List KV)) : Prop where
 x : HK B w T a h k
 was : WasAt w R v Ls
 out : ∀ q, R q → ¬ T q
 lt : ∀ q, R q → q < w.heap.size
 lo : ∀ q, R q → B ≤ q
section
variable {B : Nat} {w w' : World} {T T' : Nat → Prop} {a : Nat} {h h' : Hl} {k k' : Nat} {R : Nat → Prop} {v v' u : Value} {Ls : List (List KV)} {L : List KV}
theorem HK.all_le (q : HK B w T a h k) : h.d.all.length ≤ k := by
 obtain ⟨d, m, To, es, clock, q1, _⟩ := q.ex
 exact q1.s.ok.hall.1
theorem HgS.step (o : HgS B w T a h k R v Ls) (s : HKto B w T a w' T' h' k') : HgS B w' T' a h' k' R v Ls :=
 ⟨s.hk, o.was.fr s.fr o.out, fun q e => s.outs (o.lt q e) (o.out q e), fun q e => Nat.lt_of_lt_of_le (o.lt q e) s.size, o.lo⟩
theorem HgS.bel (o : HgS B w T a h k R v Ls) (hb : Below w.heap.size w w') : HgS B w' T a h k R v Ls :=
 ⟨o.x.bel hb, o.was.fr (T := fun _ => False) (Fr.of_below hb) (fun _ _ q => q), o.out, fun q e => Nat.lt_of_lt_of_le (o.lt q e) hb.size, o.lo⟩
theorem HgS.more (o : HgS B w T a h k R v Ls) (hk : k ≤ k') : HgS B w T a h k' R v Ls := ⟨o.x.more hk, o.was, o.out, o.lt, o.lo⟩
theorem HgS.cut {A : Option Addr} {c m : Nat} (o : HgS B w T a h k R (.slice A Ls.length c) Ls) (hm : m ≤ Ls.length) : HgS B w T a h k R (.slice A m c) (Ls.take m) := ⟨o.x, o.was.take hm, o.out, o.lt, o.lo⟩
theorem HgS.new {w : World} (x : HK B w T a h k) (hB : B ≤ w.heap.size) : HgS B (w.alloc (.cells #[.slice none 0 0] 52)) T a h k (fun q => q = w.heap.size) (.slice (some ⟨w.heap.size, 0, none⟩) 1 1) [[]] :=
 ⟨x.bel ((Below.refl _ _).alloc (Nat.le_refl _) _), WasAt.one w, fun q e e2 => by have := x.lt q e2; omega, fun q e => by rw [World.size_alloc]; omega, fun q e => by omega⟩
theorem HgS.app {xs : List Value} (o : HgS B w T a h k R v Ls) (x1 : w.ownsRow 0 52 1 v Ls.length xs) (x2 : ∀ q, v.ownBlock = some q → R q) (x3 : ∀ i (h : i < Ls.length), ∃ u, xs[i]? = some u ∧ OwnKV w 0 u Ls[i] ∧ ∀ q, u.ownBlock = some q → R q)
  (hO : OwnKV w 0 u L) (hu : ∀ q, u.ownBlock = some q → ¬ T q ∧ q < w.heap.size ∧ B ≤ q) (hown : w'.ownsRow 0 52 1 v' (Ls.length + 1) (xs ++ [u])) (hg : w.grownBy w' v.ownBlock) (hat : v'.ownBlock = v.ownBlock ∨ v'.ownBlock = some (w.heap.size + 1)) (hB : B ≤ w.heap.size) :
  ∃ R', HgS B w' T a h k R' v' (Ls ++ [L]) := by
 have hf : Fr (fun q => v.ownBlock = some q) w w' := (Fr.refl _ w).grown hg (fun q e _ => e)
 have hv' : ∀ q, v'.ownBlock = some q → R q ∨ (w.heap.size ≤ q ∧ q < w'.heap.size) := fun q e => by
  rcases hat with h | h
  ·exact .inl (x2 q (h.symm.trans e))
  ·have := (World.ownsRow.lt hown q e).2
   rw [h] at e
   injection e with e
   exact .inr ⟨by omega, this⟩
 refine ⟨fun q => (R q ∨ u.ownBlock = some q) ∨ v'.ownBlock = some q, o.x.far hf (fun q e => o.out q (x2 q e)) (fun q e => o.lo q (x2 q e)), ?_, fun q e => ?_, fun q e => ?_, fun q e => ?_⟩
 ·exact WasAt.snoc x1 (fun q e => .inl (.inl (x2 q e))) (fun i hi => by obtain ⟨y, a1, a2, a3⟩ := x3 i hi; exact ⟨y, a1, a2, fun q e => .inl (.inl (a3 q e))⟩) hO (fun q e => .inl (.inr e)) hown (fun q e => .inr e) hg
 ·rcases e with (e | e) | e
  ·exact o.out q e
  ·exact (hu q e).1
  ·rcases hv' q e with e | e
   ·exact o.out q e
   ·exact fun e2 => by have := o.x.lt q e2; omega
 ·have hs := hf.size
  rcases e with (e | e) | e
  ·exact Nat.lt_of_lt_of_le (o.lt q e) hs
  ·exact Nat.lt_of_lt_of_le (hu q e).2.1 hs
  ·rcases hv' q e with e | e
   ·exact Nat.lt_of_lt_of_le (o.lt q e) hs
   ·exact e.2
 ·rcases e with (e | e) | e
  ·exact o.lo q e
  ·exact (hu q e).2.2
  ·rcases hv' q e with e | e
   ·exact o.lo q e
   ·omega
end
end Go.Proofs.YtllimhgfbijbnaaGreatDoor
