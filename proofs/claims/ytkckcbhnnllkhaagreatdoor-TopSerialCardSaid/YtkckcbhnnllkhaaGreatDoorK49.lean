/- Parts of the proof; conditions: as each theorem says. -/
import Derived.Test.YtkckcbhnnllkhaaGreatDoorK45
import Derived.Test.YtkckcbhnnllkhaaGreatDoorK37
import Derived.Test.YtkckcbhnnllkhaaGreatDoorK41
import Derived.Test.YtkckcbhnnllkhaaGreatDoorK11
import Derived.Test.YtkckcbhnnllkhaaGreatDoorK48
import Derived.Test.YtkckcbhnnllkhaaGreatDoorK24
import Derived.Test.YtkckcbhnnllkhaaGreatDoorK16
set_option linter.unusedVariables false
set_option linter.unusedSimpArgs false
set_option maxRecDepth 100000
set_option maxHeartbeats 40000000
namespace Go.Proofs.YtkckcbhnnllkhaaGreatDoor
open Go.RowKit
section
variable {B : Nat} {w : World} {T : Nat → Prop} {d : Nat} {g : Dk} {id : Int} {k : Nat}
theorem DK.do_4 (h : DK B w T d g k) (hk : k ≤ 40000) (hid : (Lit.int .i64 id).wf = true) (nm ow : List UInt8) (pa pn ln ad : Int) (hc : CallOk ⟨4, nm, pa, pn, ln, ad, ow⟩) (hn : nameB nm = true) (ho : nameB ow = true) (ha : isA ad = true) :
  Calls Tryz.prog 46 #[workV d id ⟨4, nm, pa, pn, ln, ad, ow⟩] w (DoR B w T d k (g.do2 id ⟨4, nm, pa, pn, ln, ad, ow⟩)) := by
 have hD1 := h.refl.alloc (.cells #[ptrV d, intV id, .int .i64 4, txt nm, .int .i64 pa, .int .i64 pn, .int .i64 ln, .int .i64 ad, txt ow] 120)
 have hX1 := Loc.new h 120 #[ptrV d, intV id, .int .i64 4, txt nm, .int .i64 pa, .int .i64 pn, .int .i64 ln, .int .i64 ad, txt ow]
 have hD2 := hD1.alloc (.cells #[.int .i64 0, .int .i64 0, .int .i64 0, .string { data := #[] }, .slice none 0 0] 46)
 have hX2 := hX1.alloc (.cells #[.int .i64 0, .int .i64 0, .int .i64 0, .string { data := #[] }, .slice none 0 0] 46)
 have hR2 := Loc.new hD1.dk 46 #[.int .i64 0, .int .i64 0, .int .i64 0, .string { data := #[] }, .slice none 0 0]
 have hD3 := hD2.alloc (.cells #[.int .i64 4, txt nm, .int .i64 pa, .int .i64 pn, .int .i64 ln, .int .i64 ad, txt ow] 33)
 have hX3 := hX2.alloc (.cells #[.int .i64 4, txt nm, .int .i64 pa, .int .i64 pn, .int .i64 ln, .int .i64 ad, txt ow] 33)
 have hC3 := Loc.new hD2.dk 33 #[.int .i64 4, txt nm, .int .i64 pa, .int .i64 pn, .int .i64 ln, .int .i64 ad, txt ow]
 have hR3 := hR2.alloc (.cells #[.int .i64 4, txt nm, .int .i64 pa, .int .i64 pn, .int .i64 ln, .int .i64 ad, txt ow] 33)
 rw [World.size_alloc] at hR3
 rw [World.size_alloc, World.size_alloc] at hC3
 have e2 := hX1.blk.cell 2
 have e3 := hX1.blk.cell 3
 have e4 := hX1.blk.cell 4
 have e5 := hX1.blk.cell 5
 have e6 := hX1.blk.cell 6
 have e7 := hX1.blk.cell 7
 have e8 := hX1.blk.cell 8
 simp at e2 e3 e4 e5 e6 e7 e8
 unfold workV
 dsimp only
 go_enter Tryz.func46, Tryz.ntmps46
 go_upto_region 2 with fail
 refine wp_name (fun w3 HW => ?_)
 rw [← HW.out] at hD3 hX3 hR3 hC3
 clear HW hD1 hD2 hX1 hX2 hR2 e2 e3 e4 e5 e6 e7 e8
 have HN := Hd hn
 have HA := Hd ha
 have HOL := Hd (show ow.length ≤ maxLen by have := hc.owner; unfold maxLen; simp only at this; omega)
 have HKL := Hd (show (akOf nm ad).length ≤ maxLen by have := ak_len (c := ⟨4, nm, pa, pn, ln, ad, ow⟩) HN.out ad; unfold maxLen; simp only at this; omega)
 have HPFX := Hd (hD3.dk.prefixes hk hid ⟨4, nm, pa, pn, ln, ad, ow⟩ hc)
 have hTs := h.lt
 have hT3 := hD3.dk.lt
 have HV0 := Hd (show g.do2 id ⟨4, nm, pa, pn, ln, ad, ow⟩ = if g.pfxsE id nm ≠ 0 then (noAns, g.pfxsE id nm, (g.allF id 112 nm).2) else (g.allF id 112 nm).2.doPlace2 id ⟨4, nm, pa, pn, ln, ad, ow⟩ (g.pfxsL id nm) from rfl)
 have HLC := Hd (pfxsL_chk g id nm)
 unfold workV at HPFX
 dsimp only at HPFX
 obtain ⟨y0, y1, y2, y3, y4, y5, y6, y7, y8⟩ := hX3.blk.cls9
 obtain ⟨z0, z1, z2, z3, z4⟩ := hR3.blk.cls5
 obtain ⟨u0, u1, u2, u3, u4⟩ := hR3.blk.frs5
 obtain ⟨x0, x1, x2, x3, x4, x5, x6⟩ := hC3.blk.cls7
 simp at y0 y1 y2 y3 y4 y5 y6 y7 y8 z0 z1 z2 z3 z4 x0 x1 x2 x3 x4 x5 x6
 go_wp2_with fail
 refine HPFX.out.mono ?_
 rintro e w4 ⟨v, rfl, hown, hlen, hS⟩
 have hD4 := hD3.step hS
 have hX4 := hX3.step hS
 have hR4 := hR3.step hS
 have hC4 := hC3.step hS
 clear hD3 hX3 hR3 hC3 HPFX y0 y1 y2 y3 y4 y5 y6 y7 y8 z0 z1 z2 z3 z4 u0 u1 u2 u3 u4 x0 x1 x2 x3 x4 x5 x6
 generalize g.pfxsE id nm = pe at *
 generalize g.pfxsL id nm = L at *
 generalize (g.allF id 112 nm).2 = g0 at *
 by_cases hf : pe ≠ 0
 ·have HR := Hd (show g.do2 id ⟨4, nm, pa, pn, ln, ad, ow⟩ = (noAns, pe, g0) by rw [HV0.out, if_pos hf])
  have HF := Hd (fault_num hf)
  have HNZ := Hd hf
  rw [HF.out]
  clear hf HV0 hown hS
  obtain ⟨y0, y1, y2, y3, y4, y5, y6, y7, y8⟩ := hX4.blk.cls9
  obtain ⟨z0, z1, z2, z3, z4⟩ := hR4.blk.cls5
  obtain ⟨u0, u1, u2, u3, u4⟩ := hR4.blk.frs5
  obtain ⟨x0, x1, x2, x3, x4, x5, x6⟩ := hC4.blk.cls7
  simp at y0 y1 y2 y3 y4 y5 y6 y7 y8 z0 z1 z2 z3 z4 x0 x1 x2 x3 x4 x5 x6
  go_wp2
  refine bodyPost_ret (v := .tuple #[AnsV (.slice none 0 0) noAns, .iface 71 (.int .i64 pe)]) (by simp [AnsV, noAns, results, Tryz.results46, go_sem, z0, z1, z2, z3, z4, u0, u1, u2, u3, u4]) rfl ?_
  unfold DoR
  refine ⟨_, _, _, noAns, T, by rw [HR.out]; exact congrArg (fun x => Ending.returned (.tuple #[AnsV (.slice none 0 0) noAns, x])) HF.out.symm, fun q => ?_, ?_⟩
  ·rw [HR.out] at q ⊢
   exact absurd q HNZ.out
  ·rw [HR.out]
   (repeat' (first | exact hD4 | refine DKto.set ?_ ?_ ?_ _ | exact hR4.out)) <;> simp
 obtain rfl : pe = 0 := Decidable.not_not.1 hf
 rw [show faultV 0 = .nilIface from rfl]
 clear hf
 have HPK := Hd (fun (W : World) (hB : B ≤ W.heap.size) hV => ak_any nm HN.out ad HA.out (B := B) W hB hV)
 have HHAS := Hd (fun W T' (q : DK B W T' d g0 k) => q.has hk hid ⟨4, nm, pa, pn, ln, ad, ow⟩ (akOf nm ad) HKL.out)
 have HV := Hd (show g.do2 id ⟨4, nm, pa, pn, ln, ad, ow⟩ = if (g0.has id (akOf nm ad)).2.1 ≠ 0 then (noAns, (g0.has id (akOf nm ad)).2.1, (g0.has id (akOf nm ad)).2.2) else if coveredB ad L (0, -1) = false then (noAns, 7, (g0.has id (akOf nm ad)).2.2) else if (g0.has id (akOf nm ad)).1 then (noAns, 6, (g0.has id (akOf nm ad)).2.2) else (g0.has id (akOf nm ad)).2.2.chg id ⟨akOf nm ad, ow, false⟩ noAns by rw [HV0.out, if_neg (by simp)]; rfl)
 unfold workV at HHAS
 dsimp only at HPK HHAS
 generalize g0.has id (akOf nm ad) = rh at *
 generalize akOf nm ad = key at *
 obtain ⟨A4, c4, rfl, _⟩ := hown.form
 have HOW := Hd hown
 have HT4 := Hd (show ∀ q, (Value.slice A4 L.length c4).ownBlock = some q → ¬ T q from row_out hown hT3)
 clear hn ha hc ho HV0 hown hS
 have hks : ∀ W : World, Blk W w.heap.size 120 #[ptrV d, intV id, .int .i64 4, txt nm, .int .i64 pa, .int .i64 pn, .int .i64 ln, .int .i64 ad, txt ow] → Blk W (w.heap.size + 2) 33 #[.int .i64 4, txt nm, .int .i64 pa, .int .i64 pn, .int .i64 ln, .int .i64 ad, txt ow] → W.cell? ⟨w.heap.size, 0, none⟩ = some (ptrV d) ∧ W.cell? ⟨w.heap.size, 1, none⟩ = some (intV id) ∧ W.cell? ⟨w.heap.size, 2, none⟩ = some (.int .i64 4) ∧ W.cell? ⟨w.heap.size, 3, none⟩ = some (txt nm) ∧ W.cell? ⟨w.heap.size, 4, none⟩ = some (.int .i64 pa) ∧ W.cell? ⟨w.heap.size, 5, none⟩ = some (.int .i64 pn) ∧ W.cell? ⟨w.heap.size, 6, none⟩ = some (.int .i64 ln) ∧ W.cell? ⟨w.heap.size, 7, none⟩ = some (.int .i64 ad) ∧ W.cell? ⟨w.heap.size, 8, none⟩ = some (txt ow) ∧ W.cell? ⟨w.heap.size + 2, 0, none⟩ = some (.int .i64 4) ∧ W.cell? ⟨w.heap.size + 2, 1, none⟩ = some (txt nm) ∧ W.cell? ⟨w.heap.size + 2, 2, none⟩ = some (.int .i64 pa) ∧ W.cell? ⟨w.heap.size + 2, 3, none⟩ = some (.int .i64 pn) ∧ W.cell? ⟨w.heap.size + 2, 4, none⟩ = some (.int .i64 ln) ∧ W.cell? ⟨w.heap.size + 2, 5, none⟩ = some (.int .i64 ad) ∧ W.cell? ⟨w.heap.size + 2, 6, none⟩ = some (txt ow) := fun W a b => ⟨a.cell 0, a.cell 1, a.cell 2, a.cell 3, a.cell 4, a.cell 5, a.cell 6, a.cell 7, a.cell 8, b.cell 0, b.cell 1, b.cell 2, b.cell 3, b.cell 4, b.cell 5, b.cell 6⟩
 obtain ⟨y0, y1, y2, y3, y4, y5, y6, y7, y8⟩ := hX4.blk.cls9
 obtain ⟨z0, z1, z2, z3, z4⟩ := hR4.blk.cls5
 obtain ⟨u0, u1, u2, u3, u4⟩ := hR4.blk.frs5
 obtain ⟨x0, x1, x2, x3, x4, x5, x6⟩ := hC4.blk.cls7
 simp at y0 y1 y2 y3 y4 y5 y6 y7 y8 z0 z1 z2 z3 z4 x0 x1 x2 x3 x4 x5 x6
 go_upto_region 16 with fail
 clear y0 y1 y2 y3 y4 y5 y6 y7 y8 z0 z1 z2 z3 z4 u0 u1 u2 u3 u4 x0 x1 x2 x3 x4 x5 x6
 have hXd : Blk w4.drew w.heap.size 120 #[ptrV d, intV id, .int .i64 4, txt nm, .int .i64 pa, .int .i64 pn, .int .i64 ln, .int .i64 ad, txt ow] := hX4.blk
 have hCd : Blk w4.drew (w.heap.size + 2) 33 #[.int .i64 4, txt nm, .int .i64 pa, .int .i64 pn, .int .i64 ln, .int .i64 ad, txt ow] := hC4.blk
 go_region_held3 (fun W => W.cell? ⟨w.heap.size, 0, none⟩ = some (ptrV d) ∧ W.cell? ⟨w.heap.size, 1, none⟩ = some (intV id) ∧ W.cell? ⟨w.heap.size, 2, none⟩ = some (.int .i64 4) ∧ W.cell? ⟨w.heap.size, 3, none⟩ = some (txt nm) ∧ W.cell? ⟨w.heap.size, 4, none⟩ = some (.int .i64 pa) ∧ W.cell? ⟨w.heap.size, 5, none⟩ = some (.int .i64 pn) ∧ W.cell? ⟨w.heap.size, 6, none⟩ = some (.int .i64 ln) ∧ W.cell? ⟨w.heap.size, 7, none⟩ = some (.int .i64 ad) ∧ W.cell? ⟨w.heap.size, 8, none⟩ = some (txt ow) ∧ W.cell? ⟨w.heap.size + 2, 0, none⟩ = some (.int .i64 4) ∧ W.cell? ⟨w.heap.size + 2, 1, none⟩ = some (txt nm) ∧ W.cell? ⟨w.heap.size + 2, 2, none⟩ = some (.int .i64 pa) ∧ W.cell? ⟨w.heap.size + 2, 3, none⟩ = some (.int .i64 pn) ∧ W.cell? ⟨w.heap.size + 2, 4, none⟩ = some (.int .i64 ln) ∧ W.cell? ⟨w.heap.size + 2, 5, none⟩ = some (.int .i64 ad) ∧ W.cell? ⟨w.heap.size + 2, 6, none⟩ = some (txt ow))
  (first
   | with_reducible exact hks _ hXd hCd
   | with_reducible exact hks _ hX5.blk hC5.blk
   | with_reducible exact hks _ hX6.blk hC6.blk)
  ((first
   | (go_at_call 72; refine (HPK.out _ hD4.drew.dk.le hD4.drew.dk.gv).mono ?_; rintro e w5 ⟨rfl, hb5⟩; have HOW5 := Hd (OwnP.below (w := w4) HOW.out ⟨hb5.os, hb5.tape, hb5.output, hb5.size, hb5.block⟩); have hD5 := hD4.drew.bel hb5; have hX5 := hX4.bel (w2 := w5) ⟨hb5.os, hb5.tape, hb5.output, hb5.size, hb5.block⟩; have hR5 := hR4.bel (w2 := w5) ⟨hb5.os, hb5.tape, hb5.output, hb5.size, hb5.block⟩; have hC5 := hC4.bel (w2 := w5) ⟨hb5.os, hb5.tape, hb5.output, hb5.size, hb5.block⟩)
   | (go_at_call 43; refine (HHAS.out _ _ hD5.dk).mono ?_; rintro e w6 ⟨rfl, T6, hD56⟩; have HOW6 := Hd (own_fr HOW5.out hD56.fr HT4.out); have hD6 := hD5.step hD56; have hX6 := hX5.step hD56; have hR6 := hR5.step hD56; have hC6 := hC5.step hD56)))
 clear hD4 hX4 hR4 hC4 hD5 hX5 hR5 hC5 hD56 hb5 hXd hCd
 obtain ⟨b, f, g1⟩ := rh
 dsimp only at HV hD6
 by_cases hf : f ≠ 0
 ·have HR := Hd (show g.do2 id ⟨4, nm, pa, pn, ln, ad, ow⟩ = (noAns, f, g1) by rw [HV.out, if_pos hf])
  have HF := Hd (fault_num hf)
  have HNZ := Hd hf
  rw [HF.out]
  clear hf HV
  obtain ⟨y0, y1, y2, y3, y4, y5, y6, y7, y8⟩ := hX6.blk.cls9
  obtain ⟨z0, z1, z2, z3, z4⟩ := hR6.blk.cls5
  obtain ⟨u0, u1, u2, u3, u4⟩ := hR6.blk.frs5
  obtain ⟨x0, x1, x2, x3, x4, x5, x6⟩ := hC6.blk.cls7
  simp at y0 y1 y2 y3 y4 y5 y6 y7 y8 z0 z1 z2 z3 z4 x0 x1 x2 x3 x4 x5 x6
  go_wp2
  refine bodyPost_ret (v := .tuple #[AnsV (.slice none 0 0) noAns, .iface 71 (.int .i64 f)]) (by simp [AnsV, noAns, results, Tryz.results46, go_sem, z0, z1, z2, z3, z4, u0, u1, u2, u3, u4]) rfl ?_
  unfold DoR
  refine ⟨_, _, _, noAns, T6, by rw [HR.out]; exact congrArg (fun x => Ending.returned (.tuple #[AnsV (.slice none 0 0) noAns, x])) HF.out.symm, fun q => ?_, ?_⟩
  ·rw [HR.out] at q ⊢
   exact absurd q HNZ.out
  ·rw [HR.out]
   (repeat' (first | exact hD6 | refine DKto.set ?_ ?_ ?_ _ | exact hR6.out)) <;> simp
 obtain rfl : f = 0 := Decidable.not_not.1 hf
 rw [show faultV 0 = .nilIface from rfl]
 clear hf
 obtain ⟨A6, c6, e6, hrd6⟩ := OwnP.form HOW6.out
 injection e6 with e61 e62 e63
 subst e61; subst e63
 clear e62
 have HCV := Hd (covered_pl ad HA.out A4 L c4 (0, -1) (by omega) HLC.out w6 hrd6)
 dsimp only at HCV
 obtain ⟨y0, y1, y2, y3, y4, y5, y6, y7, y8⟩ := hX6.blk.cls9
 obtain ⟨z0, z1, z2, z3, z4⟩ := hR6.blk.cls5
 obtain ⟨u0, u1, u2, u3, u4⟩ := hR6.blk.frs5
 obtain ⟨x0, x1, x2, x3, x4, x5, x6⟩ := hC6.blk.cls7
 simp at y0 y1 y2 y3 y4 y5 y6 y7 y8 z0 z1 z2 z3 z4 x0 x1 x2 x3 x4 x5 x6
 go_wp2_with fail
 refine HCV.out.mono ?_
 rintro e w7 ⟨rfl, hb7⟩
 have hD7 := hD6.bel hb7; have hX7 := hX6.bel hb7; have hR7 := hR6.bel hb7; have hC7 := hC6.bel hb7
 clear hD6 hX6 hR6 hC6 hb7 HCV hrd6 HOW6 HOW y0 y1 y2 y3 y4 y5 y6 y7 y8 z0 z1 z2 z3 z4 u0 u1 u2 u3 u4 x0 x1 x2 x3 x4 x5 x6
 cases hcv : coveredB ad L (0, -1) with
 | false =>
  have HR := Hd (show g.do2 id ⟨4, nm, pa, pn, ln, ad, ow⟩ = (noAns, 7, g1) by rw [HV.out, if_neg (by simp), if_pos hcv])
  clear hcv HV
  obtain ⟨y0, y1, y2, y3, y4, y5, y6, y7, y8⟩ := hX7.blk.cls9
  obtain ⟨z0, z1, z2, z3, z4⟩ := hR7.blk.cls5
  obtain ⟨u0, u1, u2, u3, u4⟩ := hR7.blk.frs5
  obtain ⟨x0, x1, x2, x3, x4, x5, x6⟩ := hC7.blk.cls7
  simp at y0 y1 y2 y3 y4 y5 y6 y7 y8 z0 z1 z2 z3 z4 x0 x1 x2 x3 x4 x5 x6
  go_wp2
  refine bodyPost_ret (v := .tuple #[AnsV (.slice none 0 0) noAns, .iface 71 (.int .i64 7)]) (by simp [AnsV, noAns, results, Tryz.results46, go_sem, z0, z1, z2, z3, z4, u0, u1, u2, u3, u4]) rfl ?_
  unfold DoR
  refine ⟨_, _, _, noAns, T6, by rw [HR.out]; exact rfl, fun q => ?_, ?_⟩
  ·rw [HR.out] at q ⊢
   exact absurd q (by simp)
  ·rw [HR.out]
   (repeat' (first | exact hD7 | refine DKto.set ?_ ?_ ?_ _ | exact hR7.out)) <;> simp
 | true =>
 have HV2 := Hd (show g.do2 id ⟨4, nm, pa, pn, ln, ad, ow⟩ = if b then (noAns, 6, g1) else g1.chg id ⟨key, ow, false⟩ noAns by rw [HV.out, if_neg (by simp), if_neg (by rw [hcv]; simp)])
 clear hcv HV
 cases b with
 | true =>
  have HR := Hd (show g.do2 id ⟨4, nm, pa, pn, ln, ad, ow⟩ = (noAns, 6, g1) from HV2.out)
  clear HV2
  obtain ⟨y0, y1, y2, y3, y4, y5, y6, y7, y8⟩ := hX7.blk.cls9
  obtain ⟨z0, z1, z2, z3, z4⟩ := hR7.blk.cls5
  obtain ⟨u0, u1, u2, u3, u4⟩ := hR7.blk.frs5
  obtain ⟨x0, x1, x2, x3, x4, x5, x6⟩ := hC7.blk.cls7
  simp at y0 y1 y2 y3 y4 y5 y6 y7 y8 z0 z1 z2 z3 z4 x0 x1 x2 x3 x4 x5 x6
  go_wp2
  refine bodyPost_ret (v := .tuple #[AnsV (.slice none 0 0) noAns, .iface 71 (.int .i64 6)]) (by simp [AnsV, noAns, results, Tryz.results46, go_sem, z0, z1, z2, z3, z4, u0, u1, u2, u3, u4]) rfl ?_
  unfold DoR
  refine ⟨_, _, _, noAns, T6, by rw [HR.out]; exact rfl, fun q => ?_, ?_⟩
  ·rw [HR.out] at q ⊢
   exact absurd q (by simp)
  ·rw [HR.out]
   (repeat' (first | exact hD7 | refine DKto.set ?_ ?_ ?_ _ | exact hR7.out)) <;> simp
 | false =>
  have HR := Hd (show g.do2 id ⟨4, nm, pa, pn, ln, ad, ow⟩ = g1.chg id ⟨key, ow, false⟩ noAns from HV2.out)
  clear HV2
  have HPU := Hd (fun W T' (q : DK B W T' d g1 k) => q.put hid key ow HKL.out HOL.out)
  have HEQ := Hd (show g1.chg id ⟨key, ow, false⟩ noAns = (noAns, (g1.change id ⟨key, ow, false⟩).1, (g1.change id ⟨key, ow, false⟩).2) by unfold Dk.chg; simp)
  generalize g1.change id ⟨key, ow, false⟩ = r3 at *
  obtain ⟨y0, y1, y2, y3, y4, y5, y6, y7, y8⟩ := hX7.blk.cls9
  obtain ⟨z0, z1, z2, z3, z4⟩ := hR7.blk.cls5
  obtain ⟨u0, u1, u2, u3, u4⟩ := hR7.blk.frs5
  obtain ⟨x0, x1, x2, x3, x4, x5, x6⟩ := hC7.blk.cls7
  simp at y0 y1 y2 y3 y4 y5 y6 y7 y8 z0 z1 z2 z3 z4 x0 x1 x2 x3 x4 x5 x6
  go_upto_region 23 with fail
  clear y0 y1 y2 y3 y4 y5 y6 y7 y8 z0 z1 z2 z3 z4 u0 u1 u2 u3 u4 x0 x1 x2 x3 x4 x5 x6
  have hXd : Blk w7.drew w.heap.size 120 #[ptrV d, intV id, .int .i64 4, txt nm, .int .i64 pa, .int .i64 pn, .int .i64 ln, .int .i64 ad, txt ow] := hX7.blk
  have hCd : Blk w7.drew (w.heap.size + 2) 33 #[.int .i64 4, txt nm, .int .i64 pa, .int .i64 pn, .int .i64 ln, .int .i64 ad, txt ow] := hC7.blk
  have hwn : w.heap.size ≠ w.heap.size + 1 := by omega
  have hcn : w.heap.size + 2 ≠ w.heap.size + 1 := by omega
  go_region_held3 (fun W => W.cell? ⟨w.heap.size, 0, none⟩ = some (ptrV d) ∧ W.cell? ⟨w.heap.size, 1, none⟩ = some (intV id) ∧ W.cell? ⟨w.heap.size, 2, none⟩ = some (.int .i64 4) ∧ W.cell? ⟨w.heap.size, 3, none⟩ = some (txt nm) ∧ W.cell? ⟨w.heap.size, 4, none⟩ = some (.int .i64 pa) ∧ W.cell? ⟨w.heap.size, 5, none⟩ = some (.int .i64 pn) ∧ W.cell? ⟨w.heap.size, 6, none⟩ = some (.int .i64 ln) ∧ W.cell? ⟨w.heap.size, 7, none⟩ = some (.int .i64 ad) ∧ W.cell? ⟨w.heap.size, 8, none⟩ = some (txt ow) ∧ W.cell? ⟨w.heap.size + 2, 0, none⟩ = some (.int .i64 4) ∧ W.cell? ⟨w.heap.size + 2, 1, none⟩ = some (txt nm) ∧ W.cell? ⟨w.heap.size + 2, 2, none⟩ = some (.int .i64 pa) ∧ W.cell? ⟨w.heap.size + 2, 3, none⟩ = some (.int .i64 pn) ∧ W.cell? ⟨w.heap.size + 2, 4, none⟩ = some (.int .i64 ln) ∧ W.cell? ⟨w.heap.size + 2, 5, none⟩ = some (.int .i64 ad) ∧ W.cell? ⟨w.heap.size + 2, 6, none⟩ = some (txt ow))
   (first
    | with_reducible exact hks _ hXd hCd
    | with_reducible exact hks _ hX8.blk hC8.blk
    | with_reducible exact hks _ hX9.blk hC9.blk
    | with_reducible exact hks _ (hX9.blk.far5 hwn _ _ _ _ _) (hC9.blk.far5 hcn _ _ _ _ _))
   ((first
    | (go_at_call 72; refine (HPK.out _ hD7.drew.dk.le hD7.drew.dk.gv).mono ?_; rintro e w8 ⟨rfl, hb8⟩; have hD8 := hD7.drew.bel hb8; have hX8 := hX7.bel (w2 := w8) ⟨hb8.os, hb8.tape, hb8.output, hb8.size, hb8.block⟩; have hR8 := hR7.bel (w2 := w8) ⟨hb8.os, hb8.tape, hb8.output, hb8.size, hb8.block⟩; have hC8 := hC7.bel (w2 := w8) ⟨hb8.os, hb8.tape, hb8.output, hb8.size, hb8.block⟩)
    | (go_at_call 45; refine (HPU.out _ _ hD8.dk).mono ?_; rintro e w9 ⟨rfl, T9, hD89⟩; have hD9 := hD8.step hD89; have hX9 := hX8.step hD89; have hR9 := hR8.step hD89; have hC9 := hC8.step hD89; have y0 := hX9.blk.cell 0; have y1 := hX9.blk.cell 1; have y2 := hX9.blk.cell 2; have y3 := hX9.blk.cell 3; have y4 := hX9.blk.cell 4; have y5 := hX9.blk.cell 5; have y6 := hX9.blk.cell 6; have y7 := hX9.blk.cell 7; have y8 := hX9.blk.cell 8;  have z0 := hR9.blk.cell 0; have z1 := hR9.blk.cell 1; have z2 := hR9.blk.cell 2; have z3 := hR9.blk.cell 3; have z4 := hR9.blk.cell 4;  have u0 := hR9.blk.frozen 0; have u1 := hR9.blk.frozen 1; have u2 := hR9.blk.frozen 2; have u3 := hR9.blk.frozen 3; have u4 := hR9.blk.frozen 4;  have x0 := hC9.blk.cell 0; have x1 := hC9.blk.cell 1; have x2 := hC9.blk.cell 2; have x3 := hC9.blk.cell 3; have x4 := hC9.blk.cell 4; have x5 := hC9.blk.cell 5; have x6 := hC9.blk.cell 6;  simp at y0 y1 y2 y3 y4 y5 y6 y7 y8 z0 z1 z2 z3 z4 x0 x1 x2 x3 x4 x5 x6)))
  clear hD7 hX7 hR7 hC7 hD8 hX8 hR8 hC8 hD89 hb8 hXd hCd
  go_wp2
  refine bodyPost_ret (v := .tuple #[AnsV (.slice none 0 0) noAns, faultV r3.1]) (by simp [AnsV, noAns, results, Tryz.results46, go_sem, z0, z1, z2, z3, z4, u0, u1, u2, u3, u4]) rfl ?_
  unfold DoR
  refine ⟨_, _, _, noAns, T9, by rw [HR.out, HEQ.out], fun q => ?_, ?_⟩
  ·rw [HR.out, HEQ.out] at q ⊢
   exact ⟨rfl, OwnP.nil _ _ _, own_none⟩
  ·rw [HR.out, HEQ.out]
   (repeat' (first | exact hD9 | refine DKto.set ?_ ?_ ?_ _ | exact hR9.out)) <;> simp
end
section
variable {B : Nat} {w : World} {T : Nat → Prop} {d : Nat} {g : Dk} {id : Int} {k : Nat}
theorem DK.do_any (h : DK B w T d g k) (hk : k ≤ 40000) (hid : (Lit.int .i64 id).wf = true) (c : PCall) (hc : CallOk c) (hf : callFault c = 0) (h1 : c.what ≠ 1) :
  Calls Tryz.prog 46 #[workV d id c] w (DoR B w T d k (g.do2 id c)) := by
 obtain ⟨⟨w1, w2⟩, hn, how, hpf, had⟩ := callFault_zero hf
 obtain ⟨what, nm, pa, pn, ln, ad, ow⟩ := c
 simp only at w1 w2 hn how hpf had h1
 rcases (show what = 2 ∨ what = 3 ∨ what = 4 ∨ what = 5 ∨ what = 6 ∨ what = 7 ∨ what = 8 ∨ what = 9 by omega) with rfl | rfl | rfl | rfl | rfl | rfl | rfl | rfl
 ·exact h.do_2 hk hid nm ow pa pn ln ad hc hn (how (by decide)) (hpf (by decide))
 ·exact h.do_3 hk hid nm ow pa pn ln ad hc hn (hpf (by decide))
 ·exact h.do_4 hk hid nm ow pa pn ln ad hc hn (how (by decide)) (had (by decide))
 ·exact h.do_5 hk hid nm ow pa pn ln ad hc hn (had (by decide))
 ·exact h.do_6 hk hid nm ow pa pn ln ad hc hn (hpf (by decide))
 ·exact h.do_7 hk hid nm ow pa pn ln ad hc hn (hpf (by decide))
 ·exact h.do_8 hk hid nm ow pa pn ln ad hc hn
 ·exact h.do_9 hk hid nm ow pa pn ln ad hc hn (had (by decide))
theorem nk_len {c : PCall} (hn : nameB c.name = true) : c.nk.length ≤ 100 := by
 have h8 := (nameB_iff.1 hn).2.2
 unfold PCall.nk nKey
 simp only [List.length_append, List.length_cons, List.length_nil]
 omega
theorem nk_any (net : List UInt8) (hn : nameB net = true) (w : World) :
  Calls Tryz.prog 44 #[txt net] w fun e w' => e = .returned (txt (nKey net)) ∧ Below w.heap.size w w' :=
 (netKey_any net (by have h8 := (nameB_iff.1 hn).2.2; omega) w).mono fun e w' q => ⟨q.1, by rw [← q.2]; exact Below.refl _ _⟩
theorem DK.doC (h : DK B w T d g k) (hk : k ≤ 40000) (hid : (Lit.int .i64 id).wf = true) (c : PCall) (hc : CallW c) :
  Calls Tryz.prog 24 #[ptrV d, intV id, CallV c] w fun e w' => ∃ v, e = .returned (.tuple #[AnsV v (g.doC id c).1, faultV (g.doC id c).2.1]) ∧ OwnP w' w.heap.size 31 v (g.doC id c).1.list ∧ ∃ T', (∀ q, v.ownBlock = some q → ¬ T' q) ∧ DKto B w T d w' T' (g.doC id c).2.2 k := by
 have hD1 := h.refl.alloc (.cells #[.int .i64 c.what, txt c.name, .int .i64 c.pa, .int .i64 c.pn, .int .i64 c.len, .int .i64 c.ad, txt c.owner] 33)
 have hC1 := Loc.new h 33 #[.int .i64 c.what, txt c.name, .int .i64 c.pa, .int .i64 c.pn, .int .i64 c.len, .int .i64 c.ad, txt c.owner]
 have hD2 := hD1.alloc (.cells #[.int .i64 0, .int .i64 0, .int .i64 0, .string { data := #[] }, .slice none 0 0] 46)
 have hC2 := hC1.alloc (.cells #[.int .i64 0, .int .i64 0, .int .i64 0, .string { data := #[] }, .slice none 0 0] 46)
 have hR2 := Loc.new hD1.dk 46 #[.int .i64 0, .int .i64 0, .int .i64 0, .string { data := #[] }, .slice none 0 0]
 rw [World.size_alloc] at hR2
 have HC := Hd hc
 have HCK := Hd (fun W => checkC_any c hc W)
 have HNO := Hd (g.doC_no id c)
 clear hc
 unfold CallV at HCK
 unfold CallV
 go_enter Tryz.func24, Tryz.ntmps24
 go_upto_region 1 with fail
 refine wp_name (fun w2 HW => ?_)
 rw [← HW.out] at hD2 hC2 hR2
 clear HW hD1 hC1
 obtain ⟨z0, z1, z2, z3, z4⟩ := hR2.blk.cls5
 obtain ⟨u0, u1, u2, u3, u4⟩ := hR2.blk.frs5
 obtain ⟨x0, x1, x2, x3, x4, x5, x6⟩ := hC2.blk.cls7
 simp at z0 z1 z2 z3 z4 x0 x1 x2 x3 x4 x5 x6
 go_wp2_with fail
 refine (HCK.out _).mono ?_
 rintro e w3 ⟨rfl, hb3⟩
 have hD3 := hD2.bel hb3
 have hC3 := hC2.bel hb3
 have hR3 := hR2.bel hb3
 clear hD2 hC2 hR2 hb3 HCK z0 z1 z2 z3 z4 u0 u1 u2 u3 u4 x0 x1 x2 x3 x4 x5 x6
 by_cases hf : callFault c ≠ 0
 ·have HR := Hd (show g.doC id c = (noAns, callFault c, g) by unfold Dk.doC; rw [if_pos hf])
  have HF := Hd (fault_num hf)
  rw [HF.out]
  clear hf
  obtain ⟨z0, z1, z2, z3, z4⟩ := hR3.blk.cls5
  obtain ⟨u0, u1, u2, u3, u4⟩ := hR3.blk.frs5
  obtain ⟨x0, x1, x2, x3, x4, x5, x6⟩ := hC3.blk.cls7
  simp at z0 z1 z2 z3 z4 x0 x1 x2 x3 x4 x5 x6
  go_wp2
  refine bodyPost_ret (v := .tuple #[AnsV (.slice none 0 0) noAns, .iface 71 (.int .i64 (callFault c))]) (by simp [AnsV, noAns, results, Tryz.results24, go_sem, z0, z1, z2, z3, z4, u0, u1, u2, u3, u4]) rfl ?_
  refine ⟨.slice none 0 0, by rw [HR.out]; exact congrArg (fun x => Ending.returned (.tuple #[AnsV (.slice none 0 0) noAns, x])) HF.out.symm, by rw [HR.out]; exact OwnP.nil _ _ _, T, own_none, ?_⟩
  rw [HR.out]
  (repeat' (first | exact hD3 | refine DKto.set ?_ ?_ ?_ _ | exact hR3.out)) <;> simp
 have hf : callFault c = 0 := Decidable.not_not.1 hf
 rw [show faultV (callFault c) = .nilIface by rw [hf]; rfl]
 obtain ⟨hwh, hn, how, hpf, had⟩ := callFault_zero hf
 have HN := Hd hn
 have HO := Hd how
 have HCO := Hd (HC.out.ok hn)
 have HZ := Hd hf
 have HV := Hd (show g.doC id c = if (g.has id c.nk).2.1 ≠ 0 then (noAns, (g.has id c.nk).2.1, (g.has id c.nk).2.2) else if c.what = 1 then (if (g.has id c.nk).1 then (noAns, 6, (g.has id c.nk).2.2) else (g.has id c.nk).2.2.chg id ⟨c.nk, c.owner, false⟩ noAns) else if (g.has id c.nk).1 = false then (noAns, 4, (g.has id c.nk).2.2) else (g.has id c.nk).2.2.do2 id c by unfold Dk.doC; rw [if_neg (by rw [hf]; simp)]; rfl)
 have HPK := Hd (fun (W : World) => nk_any c.name HN.out W)
 have HKL := Hd (show c.nk.length ≤ maxLen by have := nk_len HN.out; unfold maxLen; omega)
 have HOL := Hd (show c.owner.length ≤ maxLen by have := HC.out.owner; unfold maxLen; omega)
 have HHAS := Hd (fun W T' (q : DK B W T' d g k) => q.has hk hid c c.nk HKL.out)
 unfold workV at HHAS
 rw [show nKey c.name = c.nk from rfl] at HPK
 generalize g.has id c.nk = rh at *
 generalize c.nk = key at *
 clear hf hn how hpf had hwh
 have hX4 := Loc.new hD3.dk 120 #[ptrV d, intV id, .int .i64 c.what, txt c.name, .int .i64 c.pa, .int .i64 c.pn, .int .i64 c.len, .int .i64 c.ad, txt c.owner]
 have hD4 := hD3.alloc (.cells #[ptrV d, intV id, .int .i64 c.what, txt c.name, .int .i64 c.pa, .int .i64 c.pn, .int .i64 c.len, .int .i64 c.ad, txt c.owner] 120)
 have hC4 := hC3.alloc (.cells #[ptrV d, intV id, .int .i64 c.what, txt c.name, .int .i64 c.pa, .int .i64 c.pn, .int .i64 c.len, .int .i64 c.ad, txt c.owner] 120)
 have hR4 := hR3.alloc (.cells #[ptrV d, intV id, .int .i64 c.what, txt c.name, .int .i64 c.pa, .int .i64 c.pn, .int .i64 c.len, .int .i64 c.ad, txt c.owner] 120)
 have HBX := Hd (show w.heap.size + 1 < w3.heap.size from hR3.blk.lt)
 obtain ⟨z0, z1, z2, z3, z4⟩ := hR3.blk.cls5
 obtain ⟨u0, u1, u2, u3, u4⟩ := hR3.blk.frs5
 obtain ⟨x0, x1, x2, x3, x4, x5, x6⟩ := hC3.blk.cls7
 simp at z0 z1 z2 z3 z4 x0 x1 x2 x3 x4 x5 x6
 go_upto_region 5 with fail
 refine wp_name (fun w4 HW => ?_)
 rw [← HW.out] at hD4 hC4 hR4 hX4
 clear HW hD3 hC3 hR3 z0 z1 z2 z3 z4 u0 u1 u2 u3 u4 x0 x1 x2 x3 x4 x5 x6
 generalize w3.heap.size = bx at *
 have hks : ∀ W : World, Blk W bx 120 #[ptrV d, intV id, .int .i64 c.what, txt c.name, .int .i64 c.pa, .int .i64 c.pn, .int .i64 c.len, .int .i64 c.ad, txt c.owner] → Blk W w.heap.size 33 #[.int .i64 c.what, txt c.name, .int .i64 c.pa, .int .i64 c.pn, .int .i64 c.len, .int .i64 c.ad, txt c.owner] → W.cell? ⟨bx, 0, none⟩ = some (ptrV d) ∧ W.cell? ⟨bx, 1, none⟩ = some (intV id) ∧ W.cell? ⟨bx, 2, none⟩ = some (.int .i64 c.what) ∧ W.cell? ⟨bx, 3, none⟩ = some (txt c.name) ∧ W.cell? ⟨bx, 4, none⟩ = some (.int .i64 c.pa) ∧ W.cell? ⟨bx, 5, none⟩ = some (.int .i64 c.pn) ∧ W.cell? ⟨bx, 6, none⟩ = some (.int .i64 c.len) ∧ W.cell? ⟨bx, 7, none⟩ = some (.int .i64 c.ad) ∧ W.cell? ⟨bx, 8, none⟩ = some (txt c.owner) ∧ W.cell? ⟨w.heap.size, 0, none⟩ = some (.int .i64 c.what) ∧ W.cell? ⟨w.heap.size, 1, none⟩ = some (txt c.name) ∧ W.cell? ⟨w.heap.size, 2, none⟩ = some (.int .i64 c.pa) ∧ W.cell? ⟨w.heap.size, 3, none⟩ = some (.int .i64 c.pn) ∧ W.cell? ⟨w.heap.size, 4, none⟩ = some (.int .i64 c.len) ∧ W.cell? ⟨w.heap.size, 5, none⟩ = some (.int .i64 c.ad) ∧ W.cell? ⟨w.heap.size, 6, none⟩ = some (txt c.owner) := fun W a b => ⟨a.cell 0, a.cell 1, a.cell 2, a.cell 3, a.cell 4, a.cell 5, a.cell 6, a.cell 7, a.cell 8, b.cell 0, b.cell 1, b.cell 2, b.cell 3, b.cell 4, b.cell 5, b.cell 6⟩
 have hXd : Blk w4.drew bx 120 #[ptrV d, intV id, .int .i64 c.what, txt c.name, .int .i64 c.pa, .int .i64 c.pn, .int .i64 c.len, .int .i64 c.ad, txt c.owner] := hX4.blk
 have hCd : Blk w4.drew w.heap.size 33 #[.int .i64 c.what, txt c.name, .int .i64 c.pa, .int .i64 c.pn, .int .i64 c.len, .int .i64 c.ad, txt c.owner] := hC4.blk
 go_region_held3 (fun W => W.cell? ⟨bx, 0, none⟩ = some (ptrV d) ∧ W.cell? ⟨bx, 1, none⟩ = some (intV id) ∧ W.cell? ⟨bx, 2, none⟩ = some (.int .i64 c.what) ∧ W.cell? ⟨bx, 3, none⟩ = some (txt c.name) ∧ W.cell? ⟨bx, 4, none⟩ = some (.int .i64 c.pa) ∧ W.cell? ⟨bx, 5, none⟩ = some (.int .i64 c.pn) ∧ W.cell? ⟨bx, 6, none⟩ = some (.int .i64 c.len) ∧ W.cell? ⟨bx, 7, none⟩ = some (.int .i64 c.ad) ∧ W.cell? ⟨bx, 8, none⟩ = some (txt c.owner) ∧ W.cell? ⟨w.heap.size, 0, none⟩ = some (.int .i64 c.what) ∧ W.cell? ⟨w.heap.size, 1, none⟩ = some (txt c.name) ∧ W.cell? ⟨w.heap.size, 2, none⟩ = some (.int .i64 c.pa) ∧ W.cell? ⟨w.heap.size, 3, none⟩ = some (.int .i64 c.pn) ∧ W.cell? ⟨w.heap.size, 4, none⟩ = some (.int .i64 c.len) ∧ W.cell? ⟨w.heap.size, 5, none⟩ = some (.int .i64 c.ad) ∧ W.cell? ⟨w.heap.size, 6, none⟩ = some (txt c.owner))
  (first
   | with_reducible exact hks _ hXd hCd
   | with_reducible exact hks _ hX5.blk hC5.blk
   | with_reducible exact hks _ hX6.blk hC6.blk)
  ((first
   | (go_at_call 44; refine (HPK.out _).mono ?_; rintro e w5 ⟨rfl, hb5⟩; have hD5 := hD4.drew.bel hb5; have hX5 := hX4.bel (w2 := w5) ⟨hb5.os, hb5.tape, hb5.output, hb5.size, hb5.block⟩; have hR5 := hR4.bel (w2 := w5) ⟨hb5.os, hb5.tape, hb5.output, hb5.size, hb5.block⟩; have hC5 := hC4.bel (w2 := w5) ⟨hb5.os, hb5.tape, hb5.output, hb5.size, hb5.block⟩)
   | (go_at_call 43; refine (HHAS.out _ _ hD5.dk).mono ?_; rintro e w6 ⟨rfl, T6, hD56⟩; have hD6 := hD5.step hD56; have hX6 := hX5.step hD56; have hR6 := hR5.step hD56; have hC6 := hC5.step hD56)))
 clear hD4 hX4 hR4 hC4 hD5 hX5 hR5 hC5 hD56 hb5 hXd hCd
 obtain ⟨b, f, g1⟩ := rh
 dsimp only at HV hD6
 by_cases hf : f ≠ 0
 ·have HR := Hd (show g.doC id c = (noAns, f, g1) by rw [HV.out, if_pos hf])
  have HF := Hd (fault_num hf)
  rw [HF.out]
  clear hf HV
  obtain ⟨z0, z1, z2, z3, z4⟩ := hR6.blk.cls5
  obtain ⟨u0, u1, u2, u3, u4⟩ := hR6.blk.frs5
  obtain ⟨x0, x1, x2, x3, x4, x5, x6⟩ := hC6.blk.cls7
  obtain ⟨y0, y1, y2, y3, y4, y5, y6, y7, y8⟩ := hX6.blk.cls9
  simp at z0 z1 z2 z3 z4 x0 x1 x2 x3 x4 x5 x6 y0 y1 y2 y3 y4 y5 y6 y7 y8
  go_wp2
  refine bodyPost_ret (v := .tuple #[AnsV (.slice none 0 0) noAns, .iface 71 (.int .i64 f)]) (by simp [AnsV, noAns, results, Tryz.results24, go_sem, z0, z1, z2, z3, z4, u0, u1, u2, u3, u4]) rfl ?_
  refine ⟨.slice none 0 0, by rw [HR.out]; exact congrArg (fun x => Ending.returned (.tuple #[AnsV (.slice none 0 0) noAns, x])) HF.out.symm, by rw [HR.out]; exact OwnP.nil _ _ _, T6, own_none, ?_⟩
  rw [HR.out]
  (repeat' (first | exact hD6 | refine DKto.set ?_ ?_ ?_ _ | exact hR6.out)) <;> simp
 obtain rfl : f = 0 := Decidable.not_not.1 hf
 rw [show faultV 0 = .nilIface from rfl]
 clear hf HHAS
 by_cases h1 : c.what = 1
 ·have h1b : (c.what == 1) = true := by simpa using h1
  cases b with
  | true =>
   have HR := Hd (show g.doC id c = (noAns, 6, g1) by rw [HV.out, if_neg (by simp), if_pos h1]; rfl)
   clear HV h1
   obtain ⟨z0, z1, z2, z3, z4⟩ := hR6.blk.cls5
   obtain ⟨u0, u1, u2, u3, u4⟩ := hR6.blk.frs5
   obtain ⟨x0, x1, x2, x3, x4, x5, x6⟩ := hC6.blk.cls7
   obtain ⟨y0, y1, y2, y3, y4, y5, y6, y7, y8⟩ := hX6.blk.cls9
   simp at z0 z1 z2 z3 z4 x0 x1 x2 x3 x4 x5 x6 y0 y1 y2 y3 y4 y5 y6 y7 y8
   go_wp2
   refine bodyPost_ret (v := .tuple #[AnsV (.slice none 0 0) noAns, .iface 71 (.int .i64 6)]) (by simp [AnsV, noAns, results, Tryz.results24, go_sem, z0, z1, z2, z3, z4, u0, u1, u2, u3, u4]) rfl ?_
   refine ⟨.slice none 0 0, by rw [HR.out]; exact rfl, by rw [HR.out]; exact OwnP.nil _ _ _, T6, own_none, ?_⟩
   rw [HR.out]
   (repeat' (first | exact hD6 | refine DKto.set ?_ ?_ ?_ _ | exact hR6.out)) <;> simp
  | false =>
   have HR := Hd (show g.doC id c = g1.chg id ⟨key, c.owner, false⟩ noAns by rw [HV.out, if_neg (by simp), if_pos h1]; rfl)
   clear HV h1
   have HPU := Hd (fun W T' (q : DK B W T' d g1 k) => q.put hid key c.owner HKL.out HOL.out)
   have HEQ := Hd (show g1.chg id ⟨key, c.owner, false⟩ noAns = (noAns, (g1.change id ⟨key, c.owner, false⟩).1, (g1.change id ⟨key, c.owner, false⟩).2) by unfold Dk.chg; simp)
   generalize g1.change id ⟨key, c.owner, false⟩ = r3 at *
   obtain ⟨z0, z1, z2, z3, z4⟩ := hR6.blk.cls5
   obtain ⟨u0, u1, u2, u3, u4⟩ := hR6.blk.frs5
   obtain ⟨x0, x1, x2, x3, x4, x5, x6⟩ := hC6.blk.cls7
   obtain ⟨y0, y1, y2, y3, y4, y5, y6, y7, y8⟩ := hX6.blk.cls9
   simp at z0 z1 z2 z3 z4 x0 x1 x2 x3 x4 x5 x6 y0 y1 y2 y3 y4 y5 y6 y7 y8
   go_upto_region 11 with fail
   clear z0 z1 z2 z3 z4 u0 u1 u2 u3 u4 x0 x1 x2 x3 x4 x5 x6 y0 y1 y2 y3 y4 y5 y6 y7 y8
   have hXd : Blk w6.drew bx 120 #[ptrV d, intV id, .int .i64 c.what, txt c.name, .int .i64 c.pa, .int .i64 c.pn, .int .i64 c.len, .int .i64 c.ad, txt c.owner] := hX6.blk
   have hCd : Blk w6.drew w.heap.size 33 #[.int .i64 c.what, txt c.name, .int .i64 c.pa, .int .i64 c.pn, .int .i64 c.len, .int .i64 c.ad, txt c.owner] := hC6.blk
   have hwn : bx ≠ w.heap.size + 1 := by have := HBX.out; omega
   have hcn : w.heap.size ≠ w.heap.size + 1 := by omega
   go_region_held3 (fun W => W.cell? ⟨bx, 0, none⟩ = some (ptrV d) ∧ W.cell? ⟨bx, 1, none⟩ = some (intV id) ∧ W.cell? ⟨bx, 2, none⟩ = some (.int .i64 c.what) ∧ W.cell? ⟨bx, 3, none⟩ = some (txt c.name) ∧ W.cell? ⟨bx, 4, none⟩ = some (.int .i64 c.pa) ∧ W.cell? ⟨bx, 5, none⟩ = some (.int .i64 c.pn) ∧ W.cell? ⟨bx, 6, none⟩ = some (.int .i64 c.len) ∧ W.cell? ⟨bx, 7, none⟩ = some (.int .i64 c.ad) ∧ W.cell? ⟨bx, 8, none⟩ = some (txt c.owner) ∧ W.cell? ⟨w.heap.size, 0, none⟩ = some (.int .i64 c.what) ∧ W.cell? ⟨w.heap.size, 1, none⟩ = some (txt c.name) ∧ W.cell? ⟨w.heap.size, 2, none⟩ = some (.int .i64 c.pa) ∧ W.cell? ⟨w.heap.size, 3, none⟩ = some (.int .i64 c.pn) ∧ W.cell? ⟨w.heap.size, 4, none⟩ = some (.int .i64 c.len) ∧ W.cell? ⟨w.heap.size, 5, none⟩ = some (.int .i64 c.ad) ∧ W.cell? ⟨w.heap.size, 6, none⟩ = some (txt c.owner))
    (first
     | with_reducible exact hks _ hXd hCd
     | with_reducible exact hks _ hX7.blk hC7.blk
     | with_reducible exact hks _ hX8.blk hC8.blk
     | with_reducible exact hks _ (hX8.blk.far5 hwn _ _ _ _ _) (hC8.blk.far5 hcn _ _ _ _ _))
    ((first
     | (go_at_call 44; refine (HPK.out _).mono ?_; rintro e w7 ⟨rfl, hb7⟩; have hD7 := hD6.drew.bel hb7; have hX7 := hX6.bel (w2 := w7) ⟨hb7.os, hb7.tape, hb7.output, hb7.size, hb7.block⟩; have hR7 := hR6.bel (w2 := w7) ⟨hb7.os, hb7.tape, hb7.output, hb7.size, hb7.block⟩; have hC7 := hC6.bel (w2 := w7) ⟨hb7.os, hb7.tape, hb7.output, hb7.size, hb7.block⟩)
     | (go_at_call 45; refine (HPU.out _ _ hD7.dk).mono ?_; rintro e w8 ⟨rfl, T8, hD78⟩; have hD8 := hD7.step hD78; have hX8 := hX7.step hD78; have hR8 := hR7.step hD78; have hC8 := hC7.step hD78; have z0 := hR8.blk.cell 0; have z1 := hR8.blk.cell 1; have z2 := hR8.blk.cell 2; have z3 := hR8.blk.cell 3; have z4 := hR8.blk.cell 4; have u0 := hR8.blk.frozen 0; have u1 := hR8.blk.frozen 1; have u2 := hR8.blk.frozen 2; have u3 := hR8.blk.frozen 3; have u4 := hR8.blk.frozen 4; have x0 := hC8.blk.cell 0; have x1 := hC8.blk.cell 1; have x2 := hC8.blk.cell 2; have x3 := hC8.blk.cell 3; have x4 := hC8.blk.cell 4; have x5 := hC8.blk.cell 5; have x6 := hC8.blk.cell 6; simp at z0 z1 z2 z3 z4 x0 x1 x2 x3 x4 x5 x6)))
   clear hD6 hX6 hR6 hC6 hD7 hX7 hR7 hC7 hD78 hb7 hXd hCd
   go_wp2
   refine bodyPost_ret (v := .tuple #[AnsV (.slice none 0 0) noAns, faultV r3.1]) (by simp [AnsV, noAns, results, Tryz.results24, go_sem, z0, z1, z2, z3, z4, u0, u1, u2, u3, u4]) rfl ?_
   refine ⟨.slice none 0 0, by rw [HR.out, HEQ.out], by rw [HR.out, HEQ.out]; exact OwnP.nil _ _ _, T8, own_none, ?_⟩
   rw [HR.out, HEQ.out]
   (repeat' (first | exact hD8 | refine DKto.set ?_ ?_ ?_ _ | exact hR8.out)) <;> simp
 ·have h1b : (c.what == 1) = false := by simpa using h1
  cases b with
  | false =>
   have HR := Hd (show g.doC id c = (noAns, 4, g1) by rw [HV.out, if_neg (by simp), if_neg h1]; rfl)
   clear HV h1
   obtain ⟨z0, z1, z2, z3, z4⟩ := hR6.blk.cls5
   obtain ⟨u0, u1, u2, u3, u4⟩ := hR6.blk.frs5
   obtain ⟨x0, x1, x2, x3, x4, x5, x6⟩ := hC6.blk.cls7
   obtain ⟨y0, y1, y2, y3, y4, y5, y6, y7, y8⟩ := hX6.blk.cls9
   simp at z0 z1 z2 z3 z4 x0 x1 x2 x3 x4 x5 x6 y0 y1 y2 y3 y4 y5 y6 y7 y8
   go_wp2
   refine bodyPost_ret (v := .tuple #[AnsV (.slice none 0 0) noAns, .iface 71 (.int .i64 4)]) (by simp [AnsV, noAns, results, Tryz.results24, go_sem, z0, z1, z2, z3, z4, u0, u1, u2, u3, u4]) rfl ?_
   refine ⟨.slice none 0 0, by rw [HR.out]; exact rfl, by rw [HR.out]; exact OwnP.nil _ _ _, T6, own_none, ?_⟩
   rw [HR.out]
   (repeat' (first | exact hD6 | refine DKto.set ?_ ?_ ?_ _ | exact hR6.out)) <;> simp
  | true =>
   have HV2 := Hd (show g.doC id c = g1.do2 id c by rw [HV.out, if_neg (by simp), if_neg h1]; rfl)
   have HDO := Hd (hD6.dk.do_any hk hid c HCO.out HZ.out h1)
   clear HV h1
   rw [HV2.out] at HNO
   generalize g1.do2 id c = r at *
   unfold workV at HDO
   obtain ⟨z0, z1, z2, z3, z4⟩ := hR6.blk.cls5
   obtain ⟨u0, u1, u2, u3, u4⟩ := hR6.blk.frs5
   obtain ⟨x0, x1, x2, x3, x4, x5, x6⟩ := hC6.blk.cls7
   obtain ⟨y0, y1, y2, y3, y4, y5, y6, y7, y8⟩ := hX6.blk.cls9
   simp at z0 z1 z2 z3 z4 x0 x1 x2 x3 x4 x5 x6 y0 y1 y2 y3 y4 y5 y6 y7 y8
   go_wp2_with fail
   refine HDO.out.mono ?_
   rintro e w7 ⟨A7, n7, c7, a7, T7, rfl, ha7, hD67⟩
   have HS67 := Hd (show w.heap.size ≤ w6.heap.size from hD6.size)
   have HS6 := Hd (show w.heap.size + 1 < w6.heap.size from hR6.blk.lt)
   have hD7 := hD6.step hD67
   have hR7 := hR6.step hD67
   clear hD6 hX6 hR6 hC6 hD67 HDO z0 z1 z2 z3 z4 u0 u1 u2 u3 u4 x0 x1 x2 x3 x4 x5 x6 y0 y1 y2 y3 y4 y5 y6 y7 y8
   obtain ⟨a, f, g2⟩ := r
   dsimp only at hD7 ha7 HV2
   unfold AnsV
   by_cases hf : f ≠ 0
   ·have HF := Hd (fault_num hf)
    have hno : a = noAns := HNO.out hf
    subst hno
    have hD8 := hD7.alloc (.cells #[.int .i64 a7.pa, .int .i64 a7.pn, .int .i64 a7.ad, txt a7.owner, .slice A7 n7 c7] 46)
    have hR8 := hR7.alloc (.cells #[.int .i64 a7.pa, .int .i64 a7.pn, .int .i64 a7.ad, txt a7.owner, .slice A7 n7 c7] 46)
    rw [HF.out]
    clear hf hD7 hR7 ha7
    obtain ⟨z0, z1, z2, z3, z4⟩ := hR8.blk.cls5
    obtain ⟨u0, u1, u2, u3, u4⟩ := hR8.blk.frs5
    simp at z0 z1 z2 z3 z4
    go_wp2
    refine bodyPost_ret (v := .tuple #[AnsV (.slice none 0 0) noAns, .iface 71 (.int .i64 f)]) (by simp [AnsV, noAns, results, Tryz.results24, go_sem, z0, z1, z2, z3, z4, u0, u1, u2, u3, u4]) rfl ?_
    refine ⟨.slice none 0 0, by rw [HV2.out]; exact congrArg (fun x => Ending.returned (.tuple #[AnsV (.slice none 0 0) noAns, x])) HF.out.symm, by rw [HV2.out]; exact OwnP.nil _ _ _, T7, own_none, ?_⟩
    rw [HV2.out]
    (repeat' (first | exact hD8 | refine DKto.set ?_ ?_ ?_ _ | exact hR8.out)) <;> simp
   obtain rfl : f = 0 := Decidable.not_not.1 hf
   obtain ⟨rfl, how, hnt⟩ := ha7 rfl
   have hnb : (Value.slice A7 n7 c7).ownBlock ≠ some (w.heap.size + 1) := fun q => by
    have h1 := (World.ownsRow.lt how _ q).1
    have h2 := HS6.out
    omega
   have HOW := Hd (how.alloc (.cells #[.int .i64 a7.pa, .int .i64 a7.pn, .int .i64 a7.ad, txt a7.owner, .slice A7 n7 c7] 46))
   have HNB := Hd hnb
   have HNT := Hd hnt
   have hD8 := hD7.alloc (.cells #[.int .i64 a7.pa, .int .i64 a7.pn, .int .i64 a7.ad, txt a7.owner, .slice A7 n7 c7] 46)
   have hR8 := hR7.alloc (.cells #[.int .i64 a7.pa, .int .i64 a7.pn, .int .i64 a7.ad, txt a7.owner, .slice A7 n7 c7] 46)
   rw [show faultV 0 = .nilIface from rfl]
   clear hf hD7 hR7 hnb how hnt
   obtain ⟨z0, z1, z2, z3, z4⟩ := hR8.blk.cls5
   obtain ⟨u0, u1, u2, u3, u4⟩ := hR8.blk.frs5
   simp at z0 z1 z2 z3 z4
   go_wp2
   refine bodyPost_ret (v := .tuple #[AnsV (.slice A7 n7 c7) a7, .nilIface]) (by simp [AnsV, noAns, results, Tryz.results24, go_sem, z0, z1, z2, z3, z4, u0, u1, u2, u3, u4]) rfl ?_
   refine ⟨.slice A7 n7 c7, by rw [HV2.out]; rfl, ?_, T7, HNT.out, ?_⟩
   ·rw [HV2.out]
    exact own_fr (S := fun q => q = w.heap.size + 1) (own_of_base HOW.out HS67.out) (Fr.setCell (Fr.setCell (Fr.setCell (Fr.setCell (Fr.setCell (Fr.refl (fun q => q = w.heap.size + 1) _) (p := ⟨w.heap.size + 1, 0, none⟩) (fun _ => rfl) _) (p := ⟨w.heap.size + 1, 1, none⟩) (fun _ => rfl) _) (p := ⟨w.heap.size + 1, 2, none⟩) (fun _ => rfl) _) (p := ⟨w.heap.size + 1, 3, none⟩) (fun _ => rfl) _) (p := ⟨w.heap.size + 1, 4, none⟩) (fun _ => rfl) _) (fun g e1 e2 => HNB.out (by rw [← e2]; exact e1))
   ·rw [HV2.out]
    (repeat' (first | exact hD8 | refine DKto.set ?_ ?_ ?_ _ | exact hR8.out)) <;> simp
end
section
variable {B : Nat} {w : World} {T : Nat → Prop} {a : Nat} {h : Hl} {k : Nat}
theorem HK.ask_h (o : HK B w T a h k) (hk : k ≤ 30000) (who : List UInt8) (hw : who.length ≤ 9223372036854775807) (c : PCall) (hc : CallW c) :
  Calls Tryz.prog 10 #[ptrV a, txt who, CallV c] w fun e w' => ∃ v, e = .returned (.tuple #[AnsV v (h.ask who c).1, faultV (h.ask who c).2.1]) ∧ OwnP w' w.heap.size 31 v (h.ask who c).1.list ∧ ∃ T', (∀ q, v.ownBlock = some q → ¬ T' q) ∧ HKto B w T a w' T' (h.ask who c).2.2 k := by
 have HO := Hd o
 have HOK := Hd o.ok
 obtain ⟨d, m, To, es, clock, q1, q2, q3, q4, q5, q6, q7, q8, q9⟩ := o.ex
 have hD1 := q1.refl.alloc (.cells #[.int .i64 c.what, txt c.name, .int .i64 c.pa, .int .i64 c.pn, .int .i64 c.len, .int .i64 c.ad, txt c.owner] 33)
 have hC1 := Loc.new q1 33 #[.int .i64 c.what, txt c.name, .int .i64 c.pa, .int .i64 c.pn, .int .i64 c.len, .int .i64 c.ad, txt c.owner]
 have hA1 : Loc (w.alloc (.cells #[.int .i64 c.what, txt c.name, .int .i64 c.pa, .int .i64 c.pn, .int .i64 c.len, .int .i64 c.ad, txt c.owner] 33)) To a 69 #[ptrV d, .map (some m)] := (Loc.mk q2 q4).alloc _
 have hD2 := hD1.alloc (.cells #[.int .i64 0, .int .i64 0, .int .i64 0, .string { data := #[] }, .slice none 0 0] 46)
 have hC2 := hC1.alloc (.cells #[.int .i64 0, .int .i64 0, .int .i64 0, .string { data := #[] }, .slice none 0 0] 46)
 have hA2 := hA1.alloc (.cells #[.int .i64 0, .int .i64 0, .int .i64 0, .string { data := #[] }, .slice none 0 0] 46)
 have hR2 := Loc.new hD1.dk 46 #[.int .i64 0, .int .i64 0, .int .i64 0, .string { data := #[] }, .slice none 0 0]
 rw [World.size_alloc] at hR2
 have hM2 := q3.below (((Below.refl w.heap.size w).alloc (Nat.le_refl _) (.cells #[.int .i64 c.what, txt c.name, .int .i64 c.pa, .int .i64 c.pn, .int .i64 c.len, .int .i64 c.ad, txt c.owner] 33)).alloc (by simp) (.cells #[.int .i64 0, .int .i64 0, .int .i64 0, .string { data := #[] }, .slice none 0 0] 46)) q3.map.lt
 have HQ2 := Hd q2
 have HQ3 := Hd q3
 have HQ := Hd (show ¬ To a ∧ ¬ To m ∧ T a ∧ T m ∧ (∀ q, To q → T q) ∧ a ≠ m from ⟨q4, q5, q6, q7, q8, q9⟩)
 have HAW := Hd (show a ≠ w.heap.size + 1 by have := q2.lt; omega)
 clear o q1 q2 q3 q4 q5 q6 q7 q8 q9 hD1 hC1 hA1
 unfold CallV
 go_enter Tryz.func10, Tryz.ntmps10
 go_upto_region 1 with fail
 refine wp_name (fun w2 HW => ?_)
 rw [← HW.out] at hD2 hC2 hR2 hA2 hM2
 clear HW
 obtain ⟨kl, hkl⟩ := txt_key who (len_max hw)
 rcases hM2.look strKey mapStr (zeroInt w2) who hkl true with ⟨hf, hrun⟩ | ⟨id, hf, hrun⟩
 ·simp only [if_true] at hrun
  have HR := Hd (show h.ask who c = (noAns, 4, h) by unfold Hl.ask; rw [hf])
  clear hf hM2
  have h0 := hA2.blk.cell 0
  have h1 := hA2.blk.cell 1
  simp at h0 h1
  obtain ⟨z0, z1, z2, z3, z4⟩ := hR2.blk.cls5
  obtain ⟨u0, u1, u2, u3, u4⟩ := hR2.blk.frs5
  simp at z0 z1 z2 z3 z4
  go_wp2
  refine bodyPost_ret (v := .tuple #[AnsV (.slice none 0 0) noAns, .iface 71 (.int .i64 4)]) (by simp [AnsV, noAns, results, Tryz.results10, go_sem, z0, z1, z2, z3, z4, u0, u1, u2, u3, u4]) rfl ?_
  refine ⟨.slice none 0 0, by rw [HR.out]; rfl, by rw [HR.out]; exact OwnP.nil _ _ _, fun q => T q ∨ To q, own_none, ?_⟩
  rw [HR.out]
  refine HO.out.deskX (To1 := To) HQ2.out HQ3.out HQ.out (by omega) ?_
  (repeat' (first | exact hD2 | refine DKto.set ?_ ?_ ?_ _ | exact hR2.out)) <;> simp
 ·simp only [if_true] at hrun
  have HR := Hd (show h.ask who c = ((h.d.doC id c).1, (h.d.doC id c).2.1, ⟨(h.d.doC id c).2.2, h.op⟩) by unfold Hl.ask; rw [hf])
  have hid := HOK.out.ids _ (findH_mem hf)
  have HDO := Hd (fun W T' (q : DK B W T' d h.d k) => q.doC (by omega) hid c hc)
  unfold CallV at HDO
  unfold AnsV at HDO
  generalize h.d.doC id c = r at *
  clear hf hM2 hid hc
  have h0 := hA2.blk.cell 0
  have h1 := hA2.blk.cell 1
  simp at h0 h1
  go_upto_region 4 with fail
  clear h0 h1 hrun hkl
  have hks : ∀ W : World, Blk W a 69 #[ptrV d, .map (some m)] → Blk W w.heap.size 33 #[.int .i64 c.what, txt c.name, .int .i64 c.pa, .int .i64 c.pn, .int .i64 c.len, .int .i64 c.ad, txt c.owner] → W.cell? ⟨a, 0, none⟩ = some (ptrV d) ∧ W.cell? ⟨w.heap.size, 0, none⟩ = some (.int .i64 c.what) ∧ W.cell? ⟨w.heap.size, 1, none⟩ = some (txt c.name) ∧ W.cell? ⟨w.heap.size, 2, none⟩ = some (.int .i64 c.pa) ∧ W.cell? ⟨w.heap.size, 3, none⟩ = some (.int .i64 c.pn) ∧ W.cell? ⟨w.heap.size, 4, none⟩ = some (.int .i64 c.len) ∧ W.cell? ⟨w.heap.size, 5, none⟩ = some (.int .i64 c.ad) ∧ W.cell? ⟨w.heap.size, 6, none⟩ = some (txt c.owner) := fun W a b => ⟨a.cell 0, b.cell 0, b.cell 1, b.cell 2, b.cell 3, b.cell 4, b.cell 5, b.cell 6⟩
  have hAd : Blk w2.drew a 69 #[ptrV d, .map (some m)] := hA2.blk
  have hCd : Blk w2.drew w.heap.size 33 #[.int .i64 c.what, txt c.name, .int .i64 c.pa, .int .i64 c.pn, .int .i64 c.len, .int .i64 c.ad, txt c.owner] := hC2.blk
  have hcn : w.heap.size ≠ w.heap.size + 1 := by omega
  have han := HAW.out
  go_region_held3 (fun W => W.cell? ⟨a, 0, none⟩ = some (ptrV d) ∧ W.cell? ⟨w.heap.size, 0, none⟩ = some (.int .i64 c.what) ∧ W.cell? ⟨w.heap.size, 1, none⟩ = some (txt c.name) ∧ W.cell? ⟨w.heap.size, 2, none⟩ = some (.int .i64 c.pa) ∧ W.cell? ⟨w.heap.size, 3, none⟩ = some (.int .i64 c.pn) ∧ W.cell? ⟨w.heap.size, 4, none⟩ = some (.int .i64 c.len) ∧ W.cell? ⟨w.heap.size, 5, none⟩ = some (.int .i64 c.ad) ∧ W.cell? ⟨w.heap.size, 6, none⟩ = some (txt c.owner))
   (first
    | with_reducible exact hks _ hAd hCd
    | with_reducible exact hks _ hA3.blk hC3.blk
    | with_reducible exact hks _ (hA3.blk.far5 han _ _ _ _ _) (hC3.blk.far5 hcn _ _ _ _ _))
   ((first | (go_at_call 24; refine (HDO.out _ _ hD2.drew.dk).mono ?_; rintro e w3 ⟨v3, rfl, how3, T3, hnt3, hD23⟩; obtain ⟨A3, c3, rfl, _⟩ := how3.form; have HOW := Hd how3; have HNT := Hd hnt3; have hD3 := hD2.drew.step hD23; have hC3 := (hC2.bel (w2 := w2.drew) ((Below.refl _ _).drew)).step hD23; have hR3 := (hR2.bel (w2 := w2.drew) ((Below.refl _ _).drew)).step hD23; have hA3 := (hA2.bel (w2 := w2.drew) ((Below.refl _ _).drew)).step hD23; have z0 := hR3.blk.cell 0; have z1 := hR3.blk.cell 1; have z2 := hR3.blk.cell 2; have z3 := hR3.blk.cell 3; have z4 := hR3.blk.cell 4; have u0 := hR3.blk.frozen 0; have u1 := hR3.blk.frozen 1; have u2 := hR3.blk.frozen 2; have u3 := hR3.blk.frozen 3; have u4 := hR3.blk.frozen 4; simp at z0 z1 z2 z3 z4)))
  go_wp2
  refine bodyPost_ret (v := .tuple #[AnsV (.slice A3 r.1.list.length c3) r.1, faultV r.2.1]) (by simp [AnsV, noAns, results, Tryz.results10, go_sem, z0, z1, z2, z3, z4, u0, u1, u2, u3, u4]) rfl ?_
  refine ⟨.slice A3 r.1.list.length c3, by rw [HR.out], ?_, fun q => T q ∨ T3 q, fun q e => not_or.2 ⟨fun e2 => by have h1 := (World.ownsRow.lt HOW.out _ e).1; have h2 := HO.out.lt q e2; have h3 : w.heap.size ≤ w2.drew.heap.size := hD2.size; omega, HNT.out q e⟩, ?_⟩
  ·rw [HR.out]
   have hnb : (Value.slice A3 r.1.list.length c3).ownBlock ≠ some (w.heap.size + 1) := fun q => by
    have h1 := (World.ownsRow.lt HOW.out _ q).1
    have h2 := hR2.blk.lt
    have h3 : w2.drew.heap.size = w2.heap.size := rfl
    omega
   exact own_fr (S := fun q => q = w.heap.size + 1) (own_of_base HOW.out (show w.heap.size ≤ w2.drew.heap.size from hD2.size)) (Fr.setCell (Fr.setCell (Fr.setCell (Fr.setCell (Fr.setCell (Fr.refl (fun q => q = w.heap.size + 1) _) (p := ⟨w.heap.size + 1, 0, none⟩) (fun _ => rfl) _) (p := ⟨w.heap.size + 1, 1, none⟩) (fun _ => rfl) _) (p := ⟨w.heap.size + 1, 2, none⟩) (fun _ => rfl) _) (p := ⟨w.heap.size + 1, 3, none⟩) (fun _ => rfl) _) (p := ⟨w.heap.size + 1, 4, none⟩) (fun _ => rfl) _) (fun g e1 e2 => hnb (by rw [← e2]; exact e1))
  rw [HR.out]
  refine HO.out.deskX (To1 := T3) HQ2.out HQ3.out HQ.out (by omega) ?_
  (repeat' (first | exact hD3 | refine DKto.set ?_ ?_ ?_ _ | exact hR3.out)) <;> simp
end
theorem join_first (b : Nat) (x : Int) (hx : x ≠ 0) (w : World) (h0 : w.cell? ⟨b, 0, none⟩ = some (.iface 71 (.int .i64 x))) :
  Calls Tryz.prog 27 #[.slice (some ⟨b, 0, none⟩) 2 2] w fun e w' => e = .returned (.iface 71 (.int .i64 x)) ∧ w = w' := by
 go_enter Tryz.func27, Tryz.ntmps27
 go_wp2
 refine wp_loop_rounds 3 ?_
 rw [rounds_succ]
 go_wp2
 go_ret
 exact ⟨rfl, rfl⟩
theorem fault_shape (x : Int) : faultV x = .nilIface ∨ faultV x = .iface 71 (.int .i64 x) := by
 unfold faultV
 by_cases h : x = 0
 ·exact .inl (if_pos h)
 ·exact .inr (if_neg h)
section
variable {B : Nat} {w : World} {T : Nat → Prop} {a : Nat} {h : Hl} {k : Nat}
theorem HK.once_h (o : HK B w T a h k) (hk : k ≤ 30000) (c : PCall) (hc : CallW c) :
  Calls Tryz.prog 15 #[ptrV a, CallV c] w fun e w' => ∃ v, e = .returned (.tuple #[AnsV v (h.once c).1, .int .i64 (h.once c).2.1, faultV (h.once c).2.2.1]) ∧ OwnP w' w.heap.size 31 v (h.once c).1.list ∧ ∃ T', (∀ q, v.ownBlock = some q → ¬ T' q) ∧ HKto B w T a w' T' (h.once c).2.2.2 (k + 2) := by
 have HO := Hd o
 have HOK := Hd o.ok
 obtain ⟨d, m, To, es, clock, q1, q2, q3, q4, q5, q6, q7, q8, q9⟩ := o.ex
 have hD1 := q1.refl.alloc (.cells #[.int .i64 c.what, txt c.name, .int .i64 c.pa, .int .i64 c.pn, .int .i64 c.len, .int .i64 c.ad, txt c.owner] 33)
 have hC1 := Loc.new q1 33 #[.int .i64 c.what, txt c.name, .int .i64 c.pa, .int .i64 c.pn, .int .i64 c.len, .int .i64 c.ad, txt c.owner]
 have hA1 : Loc (w.alloc (.cells #[.int .i64 c.what, txt c.name, .int .i64 c.pa, .int .i64 c.pn, .int .i64 c.len, .int .i64 c.ad, txt c.owner] 33)) To a 69 #[ptrV d, .map (some m)] := (Loc.mk q2 q4).alloc _
 have hD2 := hD1.alloc (.cells #[.int .i64 0, .int .i64 0, .int .i64 0, .string { data := #[] }, .slice none 0 0] 46)
 have hC2 := hC1.alloc (.cells #[.int .i64 0, .int .i64 0, .int .i64 0, .string { data := #[] }, .slice none 0 0] 46)
 have hA2 := hA1.alloc (.cells #[.int .i64 0, .int .i64 0, .int .i64 0, .string { data := #[] }, .slice none 0 0] 46)
 have hR2 := Loc.new hD1.dk 46 #[.int .i64 0, .int .i64 0, .int .i64 0, .string { data := #[] }, .slice none 0 0]
 rw [World.size_alloc] at hR2
 have hM2 := q3.below (((Below.refl w.heap.size w).alloc (Nat.le_refl _) (.cells #[.int .i64 c.what, txt c.name, .int .i64 c.pa, .int .i64 c.pn, .int .i64 c.len, .int .i64 c.ad, txt c.owner] 33)).alloc (by simp) (.cells #[.int .i64 0, .int .i64 0, .int .i64 0, .string { data := #[] }, .slice none 0 0] 46)) q3.map.lt
 have HQ2 := Hd q2
 have HQ3 := Hd q3
 have HQ := Hd (show ¬ To a ∧ ¬ To m ∧ T a ∧ T m ∧ (∀ q, To q → T q) ∧ a ≠ m from ⟨q4, q5, q6, q7, q8, q9⟩)
 have HAW := Hd (show a ≠ w.heap.size + 1 by have := q2.lt; omega)
 clear o q1 q2 q3 q4 q5 q6 q7 q8 q9 hD1 hC1 hA1
 unfold CallV
 go_enter Tryz.func15, Tryz.ntmps15
 go_upto_region 1 with fail
 refine wp_name (fun w2 HW => ?_)
 rw [← HW.out] at hD2 hC2 hR2 hA2 hM2
 clear HW
 clear hM2
 have HBG := Hd (hD2.dk.begin (by omega))
 have HBZ := Hd (begin_zero (g := h.d))
 have HIDS := Hd (show 0 ≤ h.d.ids ∧ h.d.ids ≤ (k : Int) from hD2.dk.s.ok.hids)
 have HV := Hd (show h.once c = if h.d.begin.2.1 ≠ 0 then (noAns, 0, h.d.begin.2.1, ⟨h.d.begin.2.2, h.op⟩) else ((onceD h.d.begin.2.2 h.d.begin.1 c).1, (onceD h.d.begin.2.2 h.d.begin.1 c).2.1, (onceD h.d.begin.2.2 h.d.begin.1 c).2.2.1, ⟨(onceD h.d.begin.2.2 h.d.begin.1 c).2.2.2, h.op⟩) from rfl)
 generalize h.d.begin = rb at *
 have h0 := hA2.blk.cell 0
 have h1 := hA2.blk.cell 1
 simp at h0 h1
 go_wp2_with fail
 refine HBG.out.mono ?_
 rintro e w3 ⟨rfl, T3, hD23⟩
 have hD3 := hD2.step hD23; have hC3 := hC2.step hD23; have hR3 := hR2.step hD23; have hA3 := hA2.step hD23
 clear hD2 hC2 hR2 hA2 hD23 HBG h0 h1
 obtain ⟨id, f, g1⟩ := rb
 dsimp only at HV HBZ hD3
 by_cases hz : f ≠ 0
 ·have HR := Hd (show h.once c = (noAns, 0, f, ⟨g1, h.op⟩) by rw [HV.out, if_pos hz])
  have HF := Hd (show faultV f = .iface 71 (.int .i64 f) by unfold faultV; rw [if_neg hz])
  rw [HF.out]
  clear hz HV
  obtain ⟨z0, z1, z2, z3, z4⟩ := hR3.blk.cls5
  obtain ⟨u0, u1, u2, u3, u4⟩ := hR3.blk.frs5
  simp at z0 z1 z2 z3 z4
  go_wp2
  refine bodyPost_ret (v := .tuple #[AnsV (.slice none 0 0) noAns, .int .i64 0, .iface 71 (.int .i64 f)]) (by simp [AnsV, noAns, results, Tryz.results15, go_sem, z0, z1, z2, z3, z4, u0, u1, u2, u3, u4]) rfl ?_
  refine ⟨.slice none 0 0, by rw [HR.out]; exact congrArg (fun x => Ending.returned (.tuple #[AnsV (.slice none 0 0) noAns, .int .i64 0, x])) HF.out.symm, by rw [HR.out]; exact OwnP.nil _ _ _, fun q => T q ∨ T3 q, own_none, ?_⟩
  rw [HR.out]
  refine HO.out.deskX (To1 := T3) HQ2.out HQ3.out HQ.out (by omega) ?_
  refine DKto.more (k1 := (k + 1)) ?_ (by omega)
  (repeat' (first | exact hD3 | refine DKto.set ?_ ?_ ?_ _ | exact hR3.out)) <;> simp
 obtain rfl : f = 0 := Decidable.not_not.1 hz
 rw [show faultV 0 = .nilIface from rfl]
 have hid : (Lit.int .i64 id).wf = true := wf_i64 (by rw [HBZ.out rfl]; have := HIDS.out; omega)
 have HV2 := Hd (show h.once c = ((onceD g1 id c).1, (onceD g1 id c).2.1, (onceD g1 id c).2.2.1, ⟨(onceD g1 id c).2.2.2, h.op⟩) by rw [HV.out, if_neg (by simp)])
 have HW := Hd (show onceD g1 id c = if (g1.doC id c).2.1 ≠ 0 then (noAns, 0, (g1.doC id c).2.1, ((g1.doC id c).2.2.abort id).2) else if ((g1.doC id c).2.2.commit id).2.1 ≠ 0 then (noAns, 0, ((g1.doC id c).2.2.commit id).2.1, ((g1.doC id c).2.2.commit id).2.2) else ((g1.doC id c).1, ((g1.doC id c).2.2.commit id).1, 0, ((g1.doC id c).2.2.commit id).2.2) from rfl)
 have HDO := Hd (fun W T' (q : DK B W T' d g1 (k + 1)) => q.doC (by omega) hid c hc)
 have HNO := Hd (g1.doC_no id c)
 have HID := Hd hid
 unfold CallV at HDO
 unfold AnsV at HDO
 generalize g1.doC id c = r at *
 clear hz hid hc HV
 have h0 := hA3.blk.cell 0
 have h1 := hA3.blk.cell 1
 simp at h0 h1
 go_upto_region 4 with fail
 clear h0 h1
 have hks : ∀ W : World, Blk W a 69 #[ptrV d, .map (some m)] → Blk W w.heap.size 33 #[.int .i64 c.what, txt c.name, .int .i64 c.pa, .int .i64 c.pn, .int .i64 c.len, .int .i64 c.ad, txt c.owner] → W.cell? ⟨a, 0, none⟩ = some (ptrV d) ∧ W.cell? ⟨w.heap.size, 0, none⟩ = some (.int .i64 c.what) ∧ W.cell? ⟨w.heap.size, 1, none⟩ = some (txt c.name) ∧ W.cell? ⟨w.heap.size, 2, none⟩ = some (.int .i64 c.pa) ∧ W.cell? ⟨w.heap.size, 3, none⟩ = some (.int .i64 c.pn) ∧ W.cell? ⟨w.heap.size, 4, none⟩ = some (.int .i64 c.len) ∧ W.cell? ⟨w.heap.size, 5, none⟩ = some (.int .i64 c.ad) ∧ W.cell? ⟨w.heap.size, 6, none⟩ = some (txt c.owner) := fun W a b => ⟨a.cell 0, b.cell 0, b.cell 1, b.cell 2, b.cell 3, b.cell 4, b.cell 5, b.cell 6⟩
 have hAd : Blk w3.drew a 69 #[ptrV d, .map (some m)] := hA3.blk
 have hCd : Blk w3.drew w.heap.size 33 #[.int .i64 c.what, txt c.name, .int .i64 c.pa, .int .i64 c.pn, .int .i64 c.len, .int .i64 c.ad, txt c.owner] := hC3.blk
 have hcn : w.heap.size ≠ w.heap.size + 1 := by omega
 have han := HAW.out
 go_region_held3 (fun W => W.cell? ⟨a, 0, none⟩ = some (ptrV d) ∧ W.cell? ⟨w.heap.size, 0, none⟩ = some (.int .i64 c.what) ∧ W.cell? ⟨w.heap.size, 1, none⟩ = some (txt c.name) ∧ W.cell? ⟨w.heap.size, 2, none⟩ = some (.int .i64 c.pa) ∧ W.cell? ⟨w.heap.size, 3, none⟩ = some (.int .i64 c.pn) ∧ W.cell? ⟨w.heap.size, 4, none⟩ = some (.int .i64 c.len) ∧ W.cell? ⟨w.heap.size, 5, none⟩ = some (.int .i64 c.ad) ∧ W.cell? ⟨w.heap.size, 6, none⟩ = some (txt c.owner))
  (first
   | with_reducible exact hks _ hAd hCd
   | with_reducible exact hks _ hA4.blk hC4.blk
   | with_reducible exact hks _ (hA4.blk.far5 han _ _ _ _ _) (hC4.blk.far5 hcn _ _ _ _ _))
  ((first | (go_at_call 24; refine (HDO.out _ _ hD3.drew.dk).mono ?_; rintro e w4 ⟨v4, rfl, how4, T4, hnt4, hD34⟩; obtain ⟨A4, c4, rfl, _⟩ := how4.form; have HOW := Hd how4; have HNT := Hd hnt4; have hD4 := hD3.drew.step hD34; have hC4 := (hC3.bel (w2 := w3.drew) ((Below.refl _ _).drew)).step hD34; have hR4 := (hR3.bel (w2 := w3.drew) ((Below.refl _ _).drew)).step hD34; have hA4 := (hA3.bel (w2 := w3.drew) ((Below.refl _ _).drew)).step hD34; have z0 := hR4.blk.cell 0; have z1 := hR4.blk.cell 1; have z2 := hR4.blk.cell 2; have z3 := hR4.blk.cell 3; have z4 := hR4.blk.cell 4; have u0 := hR4.blk.frozen 0; have u1 := hR4.blk.frozen 1; have u2 := hR4.blk.frozen 2; have u3 := hR4.blk.frozen 3; have u4 := hR4.blk.frozen 4; simp at z0 z1 z2 z3 z4)))
 go_upto_region 5 with fail
 refine wp_name (fun w5 HW5 => ?_)
 have hD5 : DKto B w To d w5 T4 r.2.2 (k + 1) := by
  rw [HW5.out]
  (repeat' (first | exact hD4 | refine DKto.set ?_ ?_ ?_ _ | exact hR4.out)) <;> simp
 have hA5 : Loc w5 T4 a 69 #[ptrV d, .map (some m)] := by rw [HW5.out]; exact ⟨hA4.blk.far5 HAW.out _ _ _ _ _, hA4.out⟩
 have hR5 : Loc w5 T4 (w.heap.size + 1) 46 #[.int .i64 r.1.pa, .int .i64 r.1.pn, .int .i64 r.1.ad, txt r.1.owner, .slice A4 r.1.list.length c4] := by rw [HW5.out]; exact (((((hR4.set 0 _).set 1 _).set 2 _).set 3 _).set 4 _)
 have HOW5 : Hid (OwnP w5 w.heap.size 31 (.slice A4 r.1.list.length c4) r.1.list) := by
  have hnb : (Value.slice A4 r.1.list.length c4).ownBlock ≠ some (w.heap.size + 1) := fun q => by
   have h1 := (World.ownsRow.lt HOW.out _ q).1
   have h2 := hR3.blk.lt
   have h3 : w3.drew.heap.size = w3.heap.size := rfl
   omega
  rw [HW5.out]
  exact Hd (own_fr (S := fun q => q = w.heap.size + 1) (own_of_base HOW.out (show w.heap.size ≤ w3.drew.heap.size from hD3.size)) (Fr.setCell (Fr.setCell (Fr.setCell (Fr.setCell (Fr.setCell (Fr.refl (fun q => q = w.heap.size + 1) _) (p := ⟨w.heap.size + 1, 0, none⟩) (fun _ => rfl) _) (p := ⟨w.heap.size + 1, 1, none⟩) (fun _ => rfl) _) (p := ⟨w.heap.size + 1, 2, none⟩) (fun _ => rfl) _) (p := ⟨w.heap.size + 1, 3, none⟩) (fun _ => rfl) _) (p := ⟨w.heap.size + 1, 4, none⟩) (fun _ => rfl) _) (fun g e1 e2 => hnb (by rw [← e2]; exact e1)))
 have HRB : Hid (∀ q, (Value.slice A4 r.1.list.length c4).ownBlock = some q → ¬ T4 q) := HNT
 have HNB5 : Hid ((Value.slice A4 r.1.list.length c4).ownBlock ≠ some (w.heap.size + 1)) := Hd (fun q => by
   have h1 := (World.ownsRow.lt HOW.out _ q).1
   have h2 := hR3.blk.lt
   have h3 : w3.drew.heap.size = w3.heap.size := rfl
   omega)
 clear HW5 hD3 hA3 hR3 hC3 hD4 hA4 hR4 hC4 hD34 how4 hnt4 HOW HDO hks hAd hCd han hcn z0 z1 z2 z3 z4 u0 u1 u2 u3 u4
 by_cases hf : r.2.1 ≠ 0
 ·have HF := Hd (fault_num hf)
  have HNZ := Hd hf
  have HAB := Hd (hD5.dk.abort HID.out)
  have HR := Hd (show h.once c = (noAns, 0, r.2.1, ⟨(r.2.2.abort id).2, h.op⟩) by rw [HV2.out, HW.out, if_pos hf])
  rw [HF.out]
  clear hf HNO HV2 HW
  have h0 := hA5.blk.cell 0
  have h1 := hA5.blk.cell 1
  simp at h0 h1
  go_wp2_with fail
  refine HAB.out.mono ?_
  rintro e w6 ⟨rfl, T6, hD56⟩
  have hD6 := hD5.step hD56
  have hR6 := hR5.step hD56
  clear hD5 hA5 hR5 hD56 HAB h0 h1 HOW5
  rcases fault_shape (r.2.2.abort id).1 with hfs | hfs
  ·rw [hfs]
   clear hfs
   have hD7 := hD6.alloc (.cells #[.iface 71 (.int .i64 r.2.1), .nilIface] 26)
   have hR7 := hR6.alloc (.cells #[.iface 71 (.int .i64 r.2.1), .nilIface] 26)
   have hJ : (w6.alloc (.cells #[.iface 71 (.int .i64 r.2.1), .nilIface] 26)).cell? ⟨w6.heap.size, 0, none⟩ = some (.iface 71 (.int .i64 r.2.1)) := (Blk.new w6 26 #[.iface 71 (.int .i64 r.2.1), .nilIface]).cell 0
   have HJ := Hd (join_first w6.heap.size r.2.1 HNZ.out _ hJ)
   clear hJ
   go_wp2_with fail
   refine HJ.out.mono ?_
   rintro e w7 ⟨rfl, rfl⟩
   clear HJ
   obtain ⟨z0, z1, z2, z3, z4⟩ := hR7.blk.cls5
   obtain ⟨u0, u1, u2, u3, u4⟩ := hR7.blk.frs5
   simp at z0 z1 z2 z3 z4
   go_wp2
   refine bodyPost_ret (v := .tuple #[AnsV (.slice none 0 0) noAns, .int .i64 0, .iface 71 (.int .i64 r.2.1)]) (by simp [AnsV, noAns, results, Tryz.results15, go_sem, z0, z1, z2, z3, z4, u0, u1, u2, u3, u4]) rfl ?_
   refine ⟨.slice none 0 0, by rw [HR.out]; exact congrArg (fun x => Ending.returned (.tuple #[AnsV (.slice none 0 0) noAns, .int .i64 0, x])) HF.out.symm, by rw [HR.out]; exact OwnP.nil _ _ _, fun q => T q ∨ T6 q, own_none, ?_⟩
   rw [HR.out]
   refine HO.out.deskX (To1 := T6) HQ2.out HQ3.out HQ.out (by omega) ?_
   refine DKto.more (k1 := (k + 1)) ?_ (by omega)
   (repeat' (first | exact hD7 | refine DKto.set ?_ ?_ ?_ _ | exact hR7.out)) <;> simp
  ·rw [hfs]
   generalize (r.2.2.abort id).1 = fy
   clear hfs
   have hD7 := hD6.alloc (.cells #[.iface 71 (.int .i64 r.2.1), .iface 71 (.int .i64 fy)] 26)
   have hR7 := hR6.alloc (.cells #[.iface 71 (.int .i64 r.2.1), .iface 71 (.int .i64 fy)] 26)
   have hJ : (w6.alloc (.cells #[.iface 71 (.int .i64 r.2.1), .iface 71 (.int .i64 fy)] 26)).cell? ⟨w6.heap.size, 0, none⟩ = some (.iface 71 (.int .i64 r.2.1)) := (Blk.new w6 26 #[.iface 71 (.int .i64 r.2.1), .iface 71 (.int .i64 fy)]).cell 0
   have HJ := Hd (join_first w6.heap.size r.2.1 HNZ.out _ hJ)
   clear hJ
   go_wp2_with fail
   refine HJ.out.mono ?_
   rintro e w7 ⟨rfl, rfl⟩
   clear HJ
   obtain ⟨z0, z1, z2, z3, z4⟩ := hR7.blk.cls5
   obtain ⟨u0, u1, u2, u3, u4⟩ := hR7.blk.frs5
   simp at z0 z1 z2 z3 z4
   go_wp2
   refine bodyPost_ret (v := .tuple #[AnsV (.slice none 0 0) noAns, .int .i64 0, .iface 71 (.int .i64 r.2.1)]) (by simp [AnsV, noAns, results, Tryz.results15, go_sem, z0, z1, z2, z3, z4, u0, u1, u2, u3, u4]) rfl ?_
   refine ⟨.slice none 0 0, by rw [HR.out]; exact congrArg (fun x => Ending.returned (.tuple #[AnsV (.slice none 0 0) noAns, .int .i64 0, x])) HF.out.symm, by rw [HR.out]; exact OwnP.nil _ _ _, fun q => T q ∨ T6 q, own_none, ?_⟩
   rw [HR.out]
   refine HO.out.deskX (To1 := T6) HQ2.out HQ3.out HQ.out (by omega) ?_
   refine DKto.more (k1 := (k + 1)) ?_ (by omega)
   (repeat' (first | exact hD7 | refine DKto.set ?_ ?_ ?_ _ | exact hR7.out)) <;> simp
 have hf : r.2.1 = 0 := Decidable.not_not.1 hf
 rw [show faultV r.2.1 = .nilIface by rw [hf]; rfl]
 have HCM := Hd (hD5.dk.commit (id := id) (by omega) HID.out)
 have HW2 := Hd (show onceD g1 id c = if (r.2.2.commit id).2.1 ≠ 0 then (noAns, 0, (r.2.2.commit id).2.1, (r.2.2.commit id).2.2) else (r.1, (r.2.2.commit id).1, 0, (r.2.2.commit id).2.2) by rw [HW.out, if_neg (by rw [hf]; simp)])
 clear hf HW HNO
 generalize r.2.2.commit id = rc at *
 have h0 := hA5.blk.cell 0
 have h1 := hA5.blk.cell 1
 simp at h0 h1
 go_wp2_with fail
 refine HCM.out.mono ?_
 rintro e w6 ⟨rfl, T6, hD56⟩
 have hD6 := hD5.step hD56
 have hR6 := hR5.step hD56
 have HOW6 := Hd (own_fr HOW5.out hD56.fr HRB.out)
 have HNT6 := Hd (show ∀ q, (Value.slice A4 r.1.list.length c4).ownBlock = some q → ¬ (T q ∨ T6 q) from fun q e => not_or.2 ⟨fun e2 => by have h1 := (World.ownsRow.lt HOW5.out _ e).1; have h2 := HO.out.lt q e2; omega, fun e2 => (hD56.new q e2).elim (HNT.out q e) (fun e3 => by have h1 := (World.ownsRow.lt HOW5.out _ e).2; omega)⟩)
 clear hD5 hA5 hR5 HCM h0 h1 HOW5
 obtain ⟨n, f, g3⟩ := rc
 dsimp only at HW2 hD6
 by_cases hf : f ≠ 0
 ·have HF := Hd (fault_num hf)
  have HR := Hd (show h.once c = (noAns, 0, f, ⟨g3, h.op⟩) by rw [HV2.out, HW2.out, if_pos hf])
  rw [HF.out]
  clear hf HV2 HW2 hD56 HOW6
  obtain ⟨z0, z1, z2, z3, z4⟩ := hR6.blk.cls5
  obtain ⟨u0, u1, u2, u3, u4⟩ := hR6.blk.frs5
  simp at z0 z1 z2 z3 z4
  go_wp2
  refine bodyPost_ret (v := .tuple #[AnsV (.slice none 0 0) noAns, .int .i64 0, .iface 71 (.int .i64 f)]) (by simp [AnsV, noAns, results, Tryz.results15, go_sem, z0, z1, z2, z3, z4, u0, u1, u2, u3, u4]) rfl ?_
  refine ⟨.slice none 0 0, by rw [HR.out]; exact congrArg (fun x => Ending.returned (.tuple #[AnsV (.slice none 0 0) noAns, .int .i64 0, x])) HF.out.symm, by rw [HR.out]; exact OwnP.nil _ _ _, fun q => T q ∨ T6 q, own_none, ?_⟩
  rw [HR.out]
  refine HO.out.deskX (To1 := T6) HQ2.out HQ3.out HQ.out (by omega) ?_
  refine DKto.more (k1 := (k + 1 + 1)) ?_ (by omega)
  (repeat' (first | exact hD6 | refine DKto.set ?_ ?_ ?_ _ | exact hR6.out)) <;> simp
 obtain rfl : f = 0 := Decidable.not_not.1 hf
 have HR := Hd (show h.once c = (r.1, n, 0, ⟨g3, h.op⟩) by rw [HV2.out, HW2.out, if_neg (by simp)])
 rw [show faultV 0 = .nilIface from rfl]
 clear hf HV2 HW2 hD56
 obtain ⟨z0, z1, z2, z3, z4⟩ := hR6.blk.cls5
 obtain ⟨u0, u1, u2, u3, u4⟩ := hR6.blk.frs5
 simp at z0 z1 z2 z3 z4
 go_wp2
 refine bodyPost_ret (v := .tuple #[AnsV (.slice A4 r.1.list.length c4) r.1, .int .i64 n, .nilIface]) (by simp [AnsV, noAns, results, Tryz.results15, go_sem, z0, z1, z2, z3, z4, u0, u1, u2, u3, u4]) rfl ?_
 refine ⟨.slice A4 r.1.list.length c4, by rw [HR.out]; rfl, ?_, fun q => T q ∨ T6 q, HNT6.out, ?_⟩
 ·rw [HR.out]
  exact own_fr (S := fun q => q = w.heap.size + 1) HOW6.out (Fr.setCell (Fr.setCell (Fr.setCell (Fr.setCell (Fr.setCell (Fr.refl (fun q => q = w.heap.size + 1) _) (p := ⟨w.heap.size + 1, 0, none⟩) (fun _ => rfl) _) (p := ⟨w.heap.size + 1, 1, none⟩) (fun _ => rfl) _) (p := ⟨w.heap.size + 1, 2, none⟩) (fun _ => rfl) _) (p := ⟨w.heap.size + 1, 3, none⟩) (fun _ => rfl) _) (p := ⟨w.heap.size + 1, 4, none⟩) (fun _ => rfl) _) (fun g e1 e2 => HNB5.out (by rw [← e2]; exact e1))
 rw [HR.out]
 refine HO.out.deskX (To1 := T6) HQ2.out HQ3.out HQ.out (by omega) ?_
 (repeat' (first | exact hD6 | refine DKto.set ?_ ?_ ?_ _ | exact hR6.out)) <;> simp
end
theorem answers_same (x : PAns) (A1 A2 : Option Addr) (c1 c2 : Nat) (hm : x.list.length ≤ maxLen) (w : World) (h1 : Rd w w.heap.size A1 (cellsP x.list)) (h2 : Rd w w.heap.size A2 (cellsP x.list)) :
  Calls Tryz.prog 12 #[AnsV (.slice A1 x.list.length c1) x, AnsV (.slice A2 x.list.length c2) x] w fun e w' => e = .returned (.bool true) ∧ Below w.heap.size w w' := by
 have hb2 := ((Below.refl w.heap.size w).alloc (Nat.le_refl _) (.cells #[.int .i64 x.pa, .int .i64 x.pn, .int .i64 x.ad, txt x.owner, .slice A1 x.list.length c1] 46)).alloc (by simp) (.cells #[.int .i64 x.pa, .int .i64 x.pn, .int .i64 x.ad, txt x.owner, .slice A2 x.list.length c2] 46)
 have hB1 := (Blk.new w 46 #[.int .i64 x.pa, .int .i64 x.pn, .int .i64 x.ad, txt x.owner, .slice A1 x.list.length c1]).alloc (.cells #[.int .i64 x.pa, .int .i64 x.pn, .int .i64 x.ad, txt x.owner, .slice A2 x.list.length c2] 46)
 have hB2 := Blk.new (w.alloc (.cells #[.int .i64 x.pa, .int .i64 x.pn, .int .i64 x.ad, txt x.owner, .slice A1 x.list.length c1] 46)) 46 #[.int .i64 x.pa, .int .i64 x.pn, .int .i64 x.ad, txt x.owner, .slice A2 x.list.length c2]
 rw [World.size_alloc] at hB2
 unfold AnsV
 go_enter Tryz.func12, Tryz.ntmps12
 go_upto_region 1 with fail
 refine wp_name (fun w2 HW => ?_)
 rw [← HW.out] at hb2 hB1 hB2
 clear HW
 have hs0 := prefixes_any A1 A2 x.list x.list c1 c2 hm w2 ((h1.below hb2).more hb2.size) ((h2.below hb2).more hb2.size)
 rw [show decide (x.list = x.list) = true from decide_eq_true rfl] at hs0
 have HS := Hd hs0
 clear hs0
 obtain ⟨y0, y1, y2, y3, y4⟩ := hB1.cls5
 obtain ⟨z0, z1, z2, z3, z4⟩ := hB2.cls5
 simp at y0 y1 y2 y3 y4 z0 z1 z2 z3 z4
 go_wp2_with fail
 refine HS.out.mono ?_
 rintro e w3 ⟨rfl, hb3⟩
 have hB1' := hB1.below hb3 hB1.lt
 have hB2' := hB2.below hb3 hB2.lt
 have hb := Hd (hb2.trans (hb3.mono hb2.size))
 clear y0 y1 y2 y3 y4 z0 z1 z2 z3 z4 hB1 hB2 hb2 hb3 HS
 have y0 := hB1'.cell 0; have y1 := hB1'.cell 1; have y2 := hB1'.cell 2; have y3 := hB1'.cell 3; have y4 := hB1'.cell 4
 have z0 := hB2'.cell 0; have z1 := hB2'.cell 1; have z2 := hB2'.cell 2; have z3 := hB2'.cell 3; have z4 := hB2'.cell 4
 simp at y0 y1 y2 y3 y4 z0 z1 z2 z3 z4
 go_wp2
 go_ret
 exact ⟨rfl, hb.out⟩
theorem PCallW.w {c : PCall} (h : PCallW c) : CallW c := ⟨h.what, h.name, h.pa, h.pn, h.len, h.ad, h.owner⟩
section
variable {B : Nat} {w w' : World} {Tx Ty T' : Nat → Prop} {ax ay bc : Nat} {cs : Array Value} {hx hy h' : Hl} {kx ky k' : Nat}
variable {b : Nat} {t : TypeId} {cb : Array Value}
variable {base : Nat} {v : Value} {l : List Pf}
end
theorem rd_of' {w : World} {base : Nat} {A : Option Addr} {c : Nat} {L : List KV} (h : OwnKV w base (.slice A L.length c) L) : Rd w w.heap.size A (flatE encKV L) := by
 obtain ⟨A', c', e, h1⟩ := h.rd
 injection e with e1 e2 e3
 subst e1
 exact h1
theorem faultV_no {f : Int} (h : f ≠ 0) : faultV f = .iface 71 (.int .i64 f) := by unfold faultV; rw [if_neg h]
theorem fault_zero0 : faultV 0 = .nilIface := rfl
def hQ : Hl := ⟨gNext (Dk.new 100000) ⟨nKey [113], [111], false⟩, []⟩
section
variable {h : Hl}
end
section
variable {h : Hl}
end
section
variable {B : Nat} {w w' : World} {T T' : Nat → Prop} {a : Nat} {h h' : Hl} {k k' : Nat} {R : Nat → Prop} {v v' u : Value} {Ls : List (List KV)} {L : List KV}
end
theorem rise_at : ∀ (l : List Chg) (p : Option Chg), riseOk p l = true → RiseC l ∧ ∀ q, p = some q → ∀ c ∈ l, lessB q.key c.key = true
 | [], p, _ => ⟨List.Pairwise.nil, fun q _ c hc => by cases hc⟩
 | x :: l, p, h => by
  unfold riseOk at h
  simp only [Bool.and_eq_true] at h
  obtain ⟨⟨h1, h2⟩, h3⟩ := h
  obtain ⟨h4, h5⟩ := rise_at l (some x) h3
  have h5 := h5 x rfl
  refine ⟨List.pairwise_cons.2 ⟨h5, h4⟩, ?_⟩
  rintro q rfl c hc
  have hq : lessB q.key x.key = true := by
   simp at h2
   exact lessB_of h2.1 (fun e => h2.2 e.symm)
  rcases List.mem_cons.1 hc with rfl | hc
  ·exact hq
  ·exact lessB_trans hq (h5 c hc)
theorem rise_of {l : List Chg} (h : chgFault l = 0) : RiseC l := (rise_at l none (chgFault_zero.1 h).2).1
def stZ : St := ⟨0, [], [], []⟩
section
variable {ι α : Type} (P : ι → DP α)
noncomputable def runL (β : Base) : List ι → St → List α × St
 | [], t => ([], t)
 | c :: cs, t => (((P c).runS β t).1 :: (runL β cs ((P c).runS β t).2).1, (runL β cs ((P c).runS β t).2).2)
theorem runL_app (β : Base) (ds : List ι) : ∀ (cs : List ι) (t : St), runL P β (cs ++ ds) t = ((runL P β cs t).1 ++ (runL P β ds (runL P β cs t).2).1, (runL P β ds (runL P β cs t).2).2)
 | [], t => rfl
 | c :: cs, t => by
  show (((P c).runS β t).1 :: (runL P β (cs ++ ds) ((P c).runS β t).2).1, (runL P β (cs ++ ds) ((P c).runS β t).2).2) = _
  rw [runL_app β ds cs]
  rfl
theorem runL_snoc (β : Base) (c : ι) (cs : List ι) (t : St) : runL P β (cs ++ [c]) t = ((runL P β cs t).1 ++ [((P c).runS β (runL P β cs t).2).1], ((P c).runS β (runL P β cs t).2).2) := by
 rw [runL_app]
 rfl
theorem runL_len (β : Base) : ∀ (cs : List ι) (t : St), (runL P β cs t).1.length = cs.length
 | [], t => rfl
 | c :: cs, t => by
  unfold runL
  rw [List.length_cons, List.length_cons, runL_len β cs]
theorem runL_le (β : Base) : ∀ (cs : List ι) (t : St), StLe t (runL P β cs t).2
 | [], t => StLe.refl _
 | c :: cs, t => (DP.runS_le β (P c) t).trans (runL_le β cs _)
theorem runL_agree {β β' : Base} : ∀ (cs : List ι) (t : St), AgreeB β β' (runL P β cs t).2 → runL P β' cs t = runL P β cs t
 | [], t, h => rfl
 | c :: cs, t, h => by
  have e := DP.runS_agree (P c) t (h.le (runL_le P β cs _))
  have e2 := runL_agree cs ((P c).runS β t).2 h
  unfold runL
  rw [e, e2]
theorem runL_at (β : Base) (cs : List ι) (t : St) (k : Nat) (h : k < cs.length) :
  (runL P β (cs.take (k + 1)) t).2 = ((P cs[k]).runS β (runL P β (cs.take k) t).2).2 ∧ (runL P β cs t).1[k]? = some ((P cs[k]).runS β (runL P β (cs.take k) t).2).1 := by
 have e : cs.take (k + 1) = cs.take k ++ [cs[k]] := List.take_succ_eq_append_getElem h
 refine ⟨by rw [e, runL_snoc], ?_⟩
 have e2 := runL_app P β (cs.drop (k + 1)) (cs.take (k + 1)) t
 rw [List.take_append_drop] at e2
 rw [e2, e, runL_snoc]
 have hl : (runL P β (cs.take k) t).1.length = k := by rw [runL_len, List.length_take]; omega
 rw [List.append_assoc, List.getElem?_append_right (by omega), hl, Nat.sub_self]
 rfl
end
structure SerG (g : Dk) (R : Int) : Prop where
 F : g.F = replay noF 0 g.all
 good : GoodR g.F g.last
 nod : (g.op.map Tr.id).Nodup
 bnd : ∀ t ∈ g.op, t.id ≤ g.ids ∧ 0 ≤ t.sees ∧ t.sees ≤ g.last
 down : g.lg.down = false
 left : g.lg.left < 0
 room : g.lg.room = R
 B : g.lg.B = frames g.all
 fit : ((frames g.all).length : Int) ≤ R
 ok : ∀ l ∈ g.all, chgFault l = 0
theorem SerG.new {R : Int} (h : 0 ≤ R) : SerG (Dk.new R) R := ⟨rfl, GoodR.nil _, List.Pairwise.nil, fun t ht => (by cases ht), rfl, (by show (-1 : Int) < 0; decide), rfl, rfl, h, fun l hl => (by cases hl)⟩
theorem goodR_replay {all : List (List Chg)} (hr : ∀ l ∈ all, chgFault l = 0) : ∀ j, j ≤ all.length → GoodR (replay noF 0 (all.take j)) j
 | 0, _ => by simpa [replay] using GoodR.nil 0
 | j + 1, hj => by
  have ih := goodR_replay hr j (by omega)
  rw [List.take_succ_eq_append_getElem (by omega), replay_snoc]
  have := ih.app (l := all[j]) (rise_of (hr _ (List.getElem_mem _)))
  have e : (0 : Int) + ((all.take j).length : Int) + 1 = (j : Int) + 1 := by rw [List.length_take]; omega
  rw [e]
  exact_mod_cast this
theorem atN_tell {all : List (List Chg)} (hr : ∀ l ∈ all, chgFault l = 0) {j : Nat} (s : List UInt8) : ∀ m, j ≤ m → m ≤ all.length → tell (replay noF 0 (all.take m)) s j = atN all j s
 | 0, h1, h2 => by
  obtain rfl : j = 0 := by omega
  rfl
 | m + 1, h1, h2 => by
  rcases Nat.lt_or_ge m j with q | q
  ·obtain rfl : j = m + 1 := by omega
   rfl
  ·rw [List.take_succ_eq_append_getElem (by omega), replay_snoc]
   have e : (0 : Int) + ((all.take m).length : Int) + 1 = (m : Int) + 1 := by rw [List.length_take]; omega
   rw [e, tell_app_old (goodR_replay hr m (by omega)) (rise_of (hr _ (List.getElem_mem _))) (by omega)]
   exact atN_tell hr s m q (by omega)
theorem atN_take (all : List (List Chg)) {j m : Nat} (h : j ≤ m) : atN (all.take m) j = atN all j := by
 unfold atN
 rw [List.take_take, Nat.min_eq_left h]
section
variable {g : Dk} {R : Int}
theorem SerG.at (h : SerG g R) {j : Nat} (hj : j ≤ g.all.length) : (fun s => tell g.F s j) = atN g.all j := by
 funext s
 rw [h.F]
 have := atN_tell h.ok s g.all.length hj (Nat.le_refl _)
 rwa [List.take_length] at this
theorem SerG.begin (h : SerG g R) : SerG g.begin.2.2 R := by
 unfold Dk.begin
 split
 ·exact h
 ·split
  ·exact h
  ·refine ⟨h.F, h.good, ?_, fun t ht => ?_, h.down, h.left, h.room, h.B, h.fit, h.ok⟩
   ·show ((g.op ++ [_]).map Tr.id).Nodup
    rw [List.map_append, List.nodup_append]
    refine ⟨h.nod, by simp, ?_⟩
    intro a ha b hb e
    simp at hb
    subst hb
    subst e
    obtain ⟨t, ht, e⟩ := List.mem_map.1 ha
    have := (h.bnd t ht).1
    omega
   ·rcases List.mem_append.1 ht with ht | ht
    ·have := h.bnd t ht
     exact ⟨by show t.id ≤ g.ids + 1; omega, this.2⟩
    ·simp at ht
     subst ht
     exact ⟨Int.le_refl _, by show 0 ≤ g.last; unfold Dk.last; omega, Int.le_refl _⟩
theorem SerG.set (h : SerG g R) {id : Int} {t : Tr} (ht : findT g.op id = some t) (s : St) : SerG (g.set (t.put s)) R := by
 have hm := (findT_mem ht).1
 refine ⟨h.F, h.good, by show ((setT g.op _).map Tr.id).Nodup; rw [setT_ids]; exact h.nod, fun u hu => ?_, h.down, h.left, h.room, h.B, h.fit, h.ok⟩
 rcases mem_set hu with rfl | hu
 ·exact h.bnd t hm
 ·exact h.bnd u hu
theorem SerG.erase (h : SerG g R) (id : Int) : SerG { g with op := eraseT g.op id } R :=
 ⟨h.F, h.good, h.nod.sublist (List.filter_sublist.map _), fun u hu => h.bnd u (mem_erase hu), h.down, h.left, h.room, h.B, h.fit, h.ok⟩
theorem SerG.abort (h : SerG g R) (id : Int) : SerG (g.abort id).2 R := by
 unfold Dk.abort
 cases ht : findT g.op id with
 | none => exact h
 | some t => exact h.erase id
structure CommitR (g g' : Dk) (t : Tr) (n f : Int) : Prop where
 op : g'.op = eraseT g.op t.id
 ids : g'.ids = g.ids
 way : (f ≠ 0 ∧ n = 0 ∧ g'.all = g.all ∧ g'.F = g.F) ∨ (f = 0 ∧ t.own = [] ∧ n = t.sees ∧ g'.all = g.all ∧ g'.F = g.F) ∨
  (f = 0 ∧ t.own ≠ [] ∧ n = g.last + 1 ∧ g'.all = g.all ++ [t.own] ∧ g'.F = appF g.F t.own (g.last + 1) ∧ AgreeB (baseOf g t) (fun s => tell g.F s g.last) t.st ∧ chgFault t.own = 0)
theorem Lg.append_way {lg : Lg} (hd : lg.down = false) (hl : lg.left < 0) (l : List Chg) :
  ((lg.append l).1 ≠ 0 ∧ (lg.append l).2 = lg) ∨ (lg.append l = (0, { lg with B := lg.B ++ frame l }) ∧ chgFault l = 0 ∧ ((lg.B ++ frame l).length : Int) ≤ lg.room) := by
 unfold Lg.append
 by_cases h1 : chgFault l = 0
 ·rw [if_neg (by simp [h1])]
  by_cases h2 : lg.room < (lg.B.length : Int) + 2 + ((encL l).length : Int)
  ·rw [if_pos h2]; exact .inl ⟨(by show (3 : Int) ≠ 0; decide), rfl⟩
  ·rw [if_neg h2, if_neg (by rw [hd]; decide), if_neg (by omega)]
   refine .inr ⟨?_, h1, ?_⟩
   ·unfold leftS
    rw [if_neg (by omega)]
   ·rw [List.length_append, frame_length]
    push_cast
    omega
 ·rw [if_pos h1]; exact .inl ⟨h1, rfl⟩
theorem SerG.commit (h : SerG g R) {id : Int} {t : Tr} (ht : findT g.op id = some t) : SerG (g.commit id).2.2 R ∧ CommitR g (g.commit id).2.2 t (g.commit id).1 (g.commit id).2.1 := by
 obtain ⟨hm, hid⟩ := findT_mem ht
 subst hid
 unfold Dk.commit
 rw [ht]
 simp only
 split
 ·exact ⟨h.erase t.id, ⟨rfl, rfl, .inl ⟨(by show (6 : Int) ≠ 0; decide), rfl, rfl, rfl⟩⟩⟩
 ·rename_i hc
  split
  ·rename_i ho
   exact ⟨h.erase t.id, ⟨rfl, rfl, .inr (.inl ⟨rfl, ho, rfl, rfl, rfl⟩)⟩⟩
  ·rename_i ho
   rcases Lg.append_way h.down h.left t.own with ⟨q1, q2⟩ | ⟨q1, q2, q3⟩
   ·rw [if_neg q1, q2]
    exact ⟨h.erase t.id, ⟨rfl, rfl, .inl ⟨q1, rfl, rfl, rfl⟩⟩⟩
   ·rw [q1, if_pos rfl]
    have hag := agree_of h.good hc (h.bnd t hm).2.2
    have hr := rise_of q2
    have hB : g.lg.B ++ frame t.own = frames (g.all ++ [t.own]) := by rw [frames_append, frames_one, h.B]
    refine ⟨?_, ⟨rfl, rfl, .inr (.inr ⟨rfl, ho, rfl, rfl, rfl, hag, q2⟩)⟩⟩
    have hlast : (Dk.put { g with lg := { g.lg with B := g.lg.B ++ frame t.own }, op := eraseT g.op t.id } t.own ((g.lg.B ++ frame t.own).length : Int)).last = g.last + 1 := by unfold Dk.last Dk.put; simp
    have hF : (Dk.put { g with lg := { g.lg with B := g.lg.B ++ frame t.own }, op := eraseT g.op t.id } t.own ((g.lg.B ++ frame t.own).length : Int)).F = appF g.F t.own (g.last + 1) := rfl
    refine ⟨?_, by rw [hlast, hF]; exact h.good.app hr, h.nod.sublist (List.filter_sublist.map _), fun u hu => ?_, h.down, h.left, h.room, hB, ?_, fun l hl => ?_⟩
    ·rw [hF]
     show _ = replay noF 0 (g.all ++ [t.own])
     rw [replay_snoc, ← h.F]
     unfold Dk.last
     simp
    ·have := h.bnd u (mem_erase hu)
     exact ⟨this.1, this.2.1, by rw [hlast]; omega⟩
    ·show ((frames (g.all ++ [t.own])).length : Int) ≤ R
     rw [← hB, ← h.room]
     exact q3
    ·rcases List.mem_append.1 hl with hl | hl
     ·exact h.ok l hl
     ·simp at hl; subst hl; exact q2
theorem SerG.tell_old (h : SerG g R) {id : Int} {t : Tr} (ht : findT g.op id = some t) {n : Int} (hn : n ≤ g.last) (s : List UInt8) : tell (g.commit id).2.2.F s n = tell g.F s n := by
 rcases (h.commit ht).2.way with ⟨_, _, _, e⟩ | ⟨_, _, _, _, e⟩ | ⟨_, _, _, _, e, _, e2⟩
 ·rw [e]
 ·rw [e]
 ·rw [e]; exact tell_app_old h.good (rise_of e2) hn s
end
structure Opn (ι α : Type) where
 who : List UInt8
 id : Int
 cs : List ι
 rs : List α
structure Ovr (ι α : Type) where
 who : List UInt8
 n : Nat
 cs : List ι
 rs : List α
section
variable {ι α : Type} (P : ι → DP α) (isC : ι → α → Bool)
structure OpI (g : Dk) (op : List (Opn ι α)) : Prop where
 nod : (op.map Opn.id).Nodup
 each : ∀ x ∈ op, ∃ t, findT g.op x.id = some t ∧ runL P (baseOf g t) x.cs stZ = (x.rs, t.st)
def chgd (cs : List ι) (rs : List α) : Bool := (cs.zip rs).any fun p => isC p.1 p.2
def isN (n : Nat) (x : Ovr ι α) : Bool := x.n == n && chgd isC x.cs x.rs
def DoneI (all : List (List Chg)) (x : Ovr ι α) : Prop := ∃ t : St, x.n ≤ all.length ∧
 (chgd isC x.cs x.rs = true → 1 ≤ x.n ∧ all[x.n - 1]? = some t.own ∧ t.own ≠ [] ∧ runL P (atN all (x.n - 1)) x.cs stZ = (x.rs, t)) ∧
 (chgd isC x.cs x.rs = false → t.own = [] ∧ runL P (atN all x.n) x.cs stZ = (x.rs, t))
structure OvI (all : List (List Chg)) (ov : List (Ovr ι α)) : Prop where
 each : ∀ x ∈ ov, DoneI P isC all x
 one : ∀ n, 1 ≤ n → n ≤ all.length → ov.countP (isN isC n) = 1
variable {P isC}
variable {g : Dk} {R : Int} {op : List (Opn ι α)} {ov : List (Ovr ι α)}
theorem OpI.nil (g : Dk) : OpI P g ([] : List (Opn ι α)) := ⟨List.Pairwise.nil, fun x hx => (by cases hx)⟩
theorem OpI.bnd (o : OpI P g op) (h : SerG g R) : ∀ x ∈ op, x.id ≤ g.ids := fun x hx => by
 obtain ⟨t, ht, _⟩ := o.each x hx
 obtain ⟨h1, h2⟩ := findT_mem ht
 rw [← h2]
 exact (h.bnd t h1).1
theorem OpI.begin0 (o : OpI P g op) (h : SerG g R) : OpI P g.begin.2.2 op := by
 unfold Dk.begin
 split
 ·exact o
 ·split
  ·exact o
  ·refine ⟨o.nod, fun x hx => ?_⟩
   obtain ⟨t, ht, hr⟩ := o.each x hx
   refine ⟨t, ?_, hr⟩
   unfold findT at ht ⊢
   rw [List.find?_append, ht]
   rfl
theorem OpI.begin (o : OpI P g op) (h : SerG g R) (who : List UInt8) (hf : g.begin.2.1 = 0) : OpI P g.begin.2.2 (op ++ [⟨who, g.begin.1, [], []⟩]) := by
 have o0 := o.begin0 h
 have e : g.begin = (g.ids + 1, 0, { g with ids := g.ids + 1, op := g.op ++ [⟨g.ids + 1, g.last, 0, [], [], []⟩] }) := by
  unfold Dk.begin at hf ⊢
  by_cases h1 : g.op.length = 8
  ·rw [if_pos h1] at hf; cases hf
  ·rw [if_neg h1] at hf ⊢
   rw [h.down] at hf ⊢
   rfl
 have hb := o.bnd h
 rw [e] at o0 ⊢
 refine ⟨?_, fun x hx => ?_⟩
 ·rw [List.map_append, List.nodup_append]
  refine ⟨o.nod, by simp, ?_⟩
  intro a ha b hb' e2
  simp at hb'
  subst hb'
  subst e2
  obtain ⟨x, hx, e3⟩ := List.mem_map.1 ha
  have := hb x hx
  omega
 ·rcases List.mem_append.1 hx with hx | hx
  ·exact o0.each x hx
  ·simp at hx
   subst hx
   refine ⟨⟨g.ids + 1, g.last, 0, [], [], []⟩, ?_, rfl⟩
   show findT (g.op ++ [_]) (g.ids + 1) = _
   have hn : g.op.find? (fun t => t.id == g.ids + 1) = none := by
    rw [List.find?_eq_none]
    intro t ht
    have := (h.bnd t ht).1
    simp
    omega
   unfold findT
   rw [List.find?_append, hn]
   simp
theorem nodup_ne {op : List (Opn ι α)} (hn : (op.map Opn.id).Nodup) {i k : Nat} (hi : i < op.length) (hk : k < op.length) (h : i ≠ k) : op[i].id ≠ op[k].id := fun e => h (by
 have h1 : i < (op.map Opn.id).length := by simpa using hi
 have h2 : k < (op.map Opn.id).length := by simpa using hk
 exact (List.getElem_inj (h₀ := h1) (h₁ := h2) hn).1 (by simpa using e))
theorem OpI.ask (o : OpI P g op) (h : SerG g R) {k : Nat} (hk : k < op.length) (c : ι) : ∃ t, findT g.op op[k].id = some t ∧
  (P c).run op[k].id g = (((P c).runS (baseOf g t) t.st).1, g.set (t.put ((P c).runS (baseOf g t) t.st).2)) ∧ SerG ((P c).run op[k].id g).2 R ∧ ((P c).run op[k].id g).2.all = g.all ∧
  OpI P ((P c).run op[k].id g).2 (op.set k ⟨op[k].who, op[k].id, op[k].cs ++ [c], op[k].rs ++ [((P c).run op[k].id g).1]⟩) := by
 obtain ⟨t, ht, hr⟩ := o.each op[k] (List.getElem_mem hk)
 have hrun := DP.run_st op[k].id (P c) g t h.nod ht
 refine ⟨t, ht, hrun, by rw [hrun]; exact h.set ht _, by rw [hrun]; rfl, ?_⟩
 rw [hrun]
 have hid := (findT_mem ht).2
 refine ⟨?_, fun x hx => ?_⟩
 ·rw [List.map_set]
  have : (op.map Opn.id).set k op[k].id = op.map Opn.id := by
   have h1 : k < (op.map Opn.id).length := by simpa using hk
   have e : op[k].id = (op.map Opn.id)[k] := by simp
   rw [e, List.set_getElem_self]
  show ((op.map Opn.id).set k op[k].id).Nodup
  rw [this]
  exact o.nod
 ·obtain ⟨i, hi, rfl⟩ := List.getElem_of_mem hx
  rw [List.length_set] at hi
  rw [List.getElem_set]
  by_cases e : k = i
  ·subst e
   rw [if_pos rfl]
   refine ⟨t.put ((P c).runS (baseOf g t) t.st).2, ?_, ?_⟩
   ·show findT (setT g.op _) op[k].id = _
    have := findT_set_same (l := g.op) (u := t.put ((P c).runS (baseOf g t) t.st).2) (t := t) (by rw [Tr.put_id, hid]; exact ht)
    rwa [Tr.put_id, hid] at this
   ·show runL P (baseOf g t) (op[k].cs ++ [c]) stZ = _
    rw [runL_snoc, hr]
    rfl
  ·rw [if_neg e]
   obtain ⟨u, hu, hru⟩ := o.each op[i] (List.getElem_mem hi)
   refine ⟨u, ?_, hru⟩
   show findT (setT g.op _) op[i].id = _
   rw [findT_set_other (by rw [Tr.put_id, hid]; exact nodup_ne o.nod hi hk (fun q => e q.symm))]
   exact hu
theorem OpI.drop {g' : Dk} (o : OpI P g op) {k : Nat} (hk : k < op.length) (he : g'.op = eraseT g.op op[k].id) (hF : ∀ t ∈ g.op, ∀ s, tell g'.F s t.sees = tell g.F s t.sees) : OpI P g' (op.eraseIdx k) := by
 refine ⟨o.nod.sublist ((List.eraseIdx_sublist op k).map _), fun x hx => ?_⟩
 obtain ⟨i, hik, hi⟩ := List.mem_eraseIdx_iff_getElem?.1 hx
 obtain ⟨hi', rfl⟩ := List.getElem?_eq_some_iff.1 hi
 obtain ⟨u, hu, hru⟩ := o.each op[i] (List.getElem_mem hi')
 refine ⟨u, ?_, ?_⟩
 ·rw [he, findT_erase_other (nodup_ne o.nod hi' hk hik)]
  exact hu
 ·have : baseOf g' u = baseOf g u := funext fun s => hF u (findT_mem hu).1 s
  rw [this]
  exact hru
theorem OpI.abort (o : OpI P g op) {k : Nat} (hk : k < op.length) : (g.abort op[k].id).1 = 0 ∧ OpI P (g.abort op[k].id).2 (op.eraseIdx k) ∧ (g.abort op[k].id).2.all = g.all := by
 obtain ⟨t, ht, hr⟩ := o.each op[k] (List.getElem_mem hk)
 unfold Dk.abort
 rw [ht]
 exact ⟨rfl, o.drop hk rfl (fun _ _ _ => rfl), rfl⟩
theorem DoneI.more {all : List (List Chg)} {x : Ovr ι α} (h : DoneI P isC all x) (l : List Chg) : DoneI P isC (all ++ [l]) x := by
 obtain ⟨t, h1, h2, h3⟩ := h
 refine ⟨t, by simp; omega, fun q => ?_, fun q => ?_⟩
 ·obtain ⟨a, b, c, d⟩ := h2 q
  refine ⟨a, ?_, c, ?_⟩
  ·rw [List.getElem?_append_left (by omega)]; exact b
  ·rw [atN_old _ _ (by omega)]; exact d
 ·obtain ⟨a, b⟩ := h3 q
  exact ⟨a, by rw [atN_old _ _ h1]; exact b⟩
def TellsC (P : ι → DP α) (isC : ι → α → Bool) : Prop := ∀ c β t, ((P c).runS β t).2.own = [] ↔ t.own = [] ∧ isC c ((P c).runS β t).1 = false
theorem chgd_own (hC : TellsC P isC) (β : Base) : ∀ (cs : List ι) (t : St), (runL P β cs t).2.own = [] ↔ t.own = [] ∧ chgd isC cs (runL P β cs t).1 = false
 | [], t => by simp [runL, chgd]
 | c :: cs, t => by
  have ih := chgd_own hC β cs ((P c).runS β t).2
  unfold runL
  rw [ih, hC c β t]
  unfold chgd
  simp only [List.zip_cons_cons, List.any_cons, Bool.or_eq_false_iff]
  constructor
  ·rintro ⟨⟨a, b⟩, c⟩; exact ⟨a, b, c⟩
  ·rintro ⟨a, b, c⟩; exact ⟨⟨a, b⟩, c⟩
theorem OvI.nil (all : List (List Chg)) (h : all = []) : OvI P isC all ([] : List (Ovr ι α)) := ⟨fun x hx => (by cases hx), fun n h1 h2 => by subst h; simp at h2; omega⟩
theorem OvI.commit (hC : TellsC P isC) (v : OvI P isC g.all ov) (o : OpI P g op) (h : SerG g R) {k : Nat} (hk : k < op.length) :
  SerG (g.commit op[k].id).2.2 R ∧ OpI P (g.commit op[k].id).2.2 (op.eraseIdx k) ∧ g.all.length ≤ (g.commit op[k].id).2.2.all.length ∧
  ((g.commit op[k].id).2.1 ≠ 0 ∧ (g.commit op[k].id).2.2.all = g.all ∨
   (g.commit op[k].id).2.1 = 0 ∧ ∃ n : Nat, (g.commit op[k].id).1 = (n : Int) ∧ OvI P isC (g.commit op[k].id).2.2.all (ov ++ [⟨op[k].who, n, op[k].cs, op[k].rs⟩]) ∧
   (if g.all.length < n then (g.commit op[k].id).2.2.all.length = n else (g.commit op[k].id).2.2.all = g.all)) := by
 obtain ⟨t, ht, hr⟩ := o.each op[k] (List.getElem_mem hk)
 obtain ⟨hm, hid⟩ := findT_mem ht
 have hb := h.bnd t hm
 obtain ⟨c1, c2⟩ := h.commit ht
 have hdrop : OpI P (g.commit op[k].id).2.2 (op.eraseIdx k) := o.drop hk (by rw [c2.op, hid]) (fun u hu s => h.tell_old ht (h.bnd u hu).2.2 s)
 have hown : t.own = [] ↔ chgd isC op[k].cs op[k].rs = false := by
  have := chgd_own hC (baseOf g t) op[k].cs stZ
  rw [hr] at this
  show t.st.own = [] ↔ _
  rw [this]
  simp [stZ]
 have hnod : ∀ {n : Nat} {all' : List (List Chg)}, (chgd isC op[k].cs op[k].rs = false) → ∀ m, (ov ++ [(⟨op[k].who, n, op[k].cs, op[k].rs⟩ : Ovr ι α)]).countP (isN isC m) = ov.countP (isN isC m) := by
  intro n all' q m
  rw [List.countP_append]
  simp [isN, q]
 refine ⟨c1, hdrop, ?_, ?_⟩
 ·rcases c2.way with ⟨_, _, e, _⟩ | ⟨_, _, _, e, _⟩ | ⟨_, _, _, e, _⟩
  ·rw [e]; exact Nat.le_refl _
  ·rw [e]; exact Nat.le_refl _
  ·rw [e]; simp
 ·rcases c2.way with ⟨q1, _, e, _⟩ | ⟨q1, q2, q3, e, _⟩ | ⟨q1, q2, q3, e, _, hag, hcf⟩
  ·exact .inl ⟨q1, e⟩
  ·refine .inr ⟨q1, t.sees.toNat, by rw [q3]; omega, ?_, ?_⟩
   ·rw [e]
    have hs : t.sees.toNat ≤ g.all.length := by have := hb.2.2; unfold Dk.last at this; omega
    have hch := hown.1 q2
    refine ⟨fun x hx => ?_, fun n h1 h2 => by rw [hnod (all' := g.all) hch]; exact v.one n h1 h2⟩
    rcases List.mem_append.1 hx with hx | hx
    ·exact v.each x hx
    ·simp at hx
     subst hx
     refine ⟨t.st, hs, fun q => (by rw [hch] at q; cases q), fun _ => ⟨q2, ?_⟩⟩
     rw [← h.at hs]
     have : (fun s => tell g.F s (t.sees.toNat : Int)) = baseOf g t := by
      funext s
      show _ = tell g.F s t.sees
      congr 1
      omega
     rw [this]
     exact hr
   ·have hs : t.sees.toNat ≤ g.all.length := by have := hb.2.2; unfold Dk.last at this; omega
    rw [if_neg (by omega)]
    exact e
  ·have hch : chgd isC op[k].cs op[k].rs = true := by
    cases q : chgd isC op[k].cs op[k].rs with
    | true => rfl
    | false => exact absurd (hown.2 q) q2
   refine .inr ⟨q1, g.all.length + 1, by rw [q3]; unfold Dk.last; push_cast; rfl, ?_, ?_⟩
   ·rw [e]
    refine ⟨fun x hx => ?_, fun n h1 h2 => ?_⟩
    ·rcases List.mem_append.1 hx with hx | hx
     ·exact (v.each x hx).more t.own
     ·simp at hx
      subst hx
      refine ⟨t.st, by simp, fun _ => ⟨by simp, by simp [Tr.st], q2, ?_⟩, fun q => (by rw [hch] at q; cases q)⟩
      show runL P (atN (g.all ++ [t.own]) (g.all.length + 1 - 1)) _ _ = _
      rw [Nat.add_sub_cancel, atN_old _ _ (Nat.le_refl _), ← h.at (Nat.le_refl _)]
      have hag' : AgreeB (baseOf g t) (fun s => tell g.F s ((g.all.length : Nat) : Int)) (runL P (baseOf g t) op[k].cs stZ).2 := by rw [hr]; exact hag
      rw [runL_agree P op[k].cs stZ hag', hr]
    ·rw [List.countP_append]
     rw [List.length_append, List.length_singleton] at h2
     rcases Nat.lt_or_ge g.all.length n with q | q
     ·obtain rfl : n = g.all.length + 1 := by omega
      have h0 : ov.countP (isN isC (g.all.length + 1)) = 0 := by
       rw [List.countP_eq_zero]
       intro x hx
       obtain ⟨_, h3, _⟩ := v.each x hx
       simp [isN]
       intro h4
       omega
      rw [h0]
      simp [isN, hch]
     ·have h0 : ([⟨op[k].who, g.all.length + 1, op[k].cs, op[k].rs⟩] : List (Ovr ι α)).countP (isN isC n) = 0 := by
       rw [List.countP_eq_zero]
       intro x hx
       simp at hx
       subst hx
       simp [isN]
       intro h4
       omega
      rw [h0]
      exact v.one n h1 q
   ·rw [if_pos (by omega), e]
    simp
end
structure AlG (g : Dk) (R : Int) (all : List (List Chg)) (m : Nat) : Prop where
 s : SerG g R
 al : g.all = all.take m
 le : m ≤ all.length
 op : g.op = []
structure AlR (g : Dk) (R : Int) (all : List (List Chg)) (m : Nat) (t : Tr) : Prop where
 s : SerG g R
 al : g.all = all.take m
 le : m ≤ all.length
 op : g.op = [t]
 sees : t.sees = m
section
variable {ι α : Type} {P : ι → DP α} {g : Dk} {R : Int} {all : List (List Chg)} {m : Nat} {t : Tr}
theorem AlG.new (h : 0 ≤ R) (all : List (List Chg)) : AlG (Dk.new R) R all 0 := ⟨SerG.new h, rfl, Nat.zero_le _, rfl⟩
theorem AlG.last (h : AlG g R all m) : g.last = m := by
 unfold Dk.last
 rw [h.al, List.length_take]
 have := h.le
 omega
theorem AlR.last (h : AlR g R all m t) : g.last = m := by
 unfold Dk.last
 rw [h.al, List.length_take]
 have := h.le
 omega
theorem AlG.begin (h : AlG g R all m) : g.begin.1 = g.ids + 1 ∧ g.begin.2.1 = 0 ∧ AlR g.begin.2.2 R all m ⟨g.ids + 1, m, 0, [], [], []⟩ := by
 have hs := h.s.begin
 have e : g.begin = (g.ids + 1, 0, { g with ids := g.ids + 1, op := [⟨g.ids + 1, m, 0, [], [], []⟩] }) := by
  unfold Dk.begin
  rw [h.op, h.s.down, h.last]
  rfl
 rw [e] at hs ⊢
 exact ⟨rfl, rfl, hs, h.al, h.le, rfl, rfl⟩
theorem AlR.find (h : AlR g R all m t) : findT g.op t.id = some t := by
 rw [h.op]
 unfold findT
 rw [List.find?_cons_of_pos (by simp)]
theorem AlR.base (h : AlR g R all m t) : baseOf g t = atN all m := by
 have hl : g.all.length = m := by rw [h.al, List.length_take]; have := h.le; omega
 have := h.s.at (j := m) (by omega)
 rw [h.al, atN_take all (Nat.le_refl _)] at this
 rw [← this]
 funext s
 show tell g.F s t.sees = _
 rw [h.sees]
theorem AlR.run (h : AlR g R all m t) (c : ι) : (P c).run t.id g = (((P c).runS (atN all m) t.st).1, ((P c).run t.id g).2) ∧ AlR ((P c).run t.id g).2 R all m (t.put ((P c).runS (atN all m) t.st).2) := by
 have e := DP.run_st t.id (P c) g t h.s.nod h.find
 rw [h.base] at e
 rw [e]
 refine ⟨rfl, h.s.set h.find _, h.al, h.le, ?_, h.sees⟩
 show setT g.op _ = _
 rw [h.op]
 unfold setT
 rw [List.map_singleton, if_pos (by rw [Tr.put_id])]
theorem AlR.commit0 (h : AlR g R all m t) (ho : t.own = []) : (g.commit t.id).1 = (m : Int) ∧ (g.commit t.id).2.1 = 0 ∧ AlG (g.commit t.id).2.2 R all m := by
 obtain ⟨c1, c2⟩ := h.s.commit h.find
 have hc : ¬ Clash g.F t := by
  have hn : NoLater g.F t.sees := by rw [h.sees, ← h.last]; exact fun s v hv => (h.s.good s).2 v hv
  exact hn.clash
 have e : g.commit t.id = (t.sees, 0, { g with op := eraseT g.op t.id }) := by
  unfold Dk.commit
  rw [h.find]
  simp only
  rw [if_neg hc, if_pos ho]
 rw [e] at c1 ⊢
 refine ⟨h.sees, rfl, c1, h.al, h.le, ?_⟩
 show eraseT g.op t.id = []
 rw [h.op]
 unfold eraseT
 simp
theorem frames_le (all : List (List Chg)) (m : Nat) : (frames (all.take m)).length ≤ (frames all).length := by
 have : frames all = frames (all.take m) ++ frames (all.drop m) := by rw [← frames_append, List.take_append_drop]
 rw [this, List.length_append]
 omega
theorem AlR.commit1 (h : AlR g R all m t) (hall : ∀ l ∈ all, chgFault l = 0) (hfit : ((frames all).length : Int) ≤ R) (hne : t.own ≠ []) (ho : all[m]? = some t.own) :
  (g.commit t.id).1 = ((m + 1 : Nat) : Int) ∧ (g.commit t.id).2.1 = 0 ∧ AlG (g.commit t.id).2.2 R all (m + 1) := by
 obtain ⟨c1, c2⟩ := h.s.commit h.find
 have hc : ¬ Clash g.F t := by
  have hn : NoLater g.F t.sees := by rw [h.sees, ← h.last]; exact fun s v hv => (h.s.good s).2 v hv
  exact hn.clash
 obtain ⟨hm, ho'⟩ := List.getElem?_eq_some_iff.1 ho
 have hcf : chgFault t.own = 0 := hall _ (by rw [← ho']; exact List.getElem_mem _)
 have hB : g.lg.B ++ frame t.own = frames (all.take (m + 1)) := by
  rw [h.s.B, h.al, List.take_succ_eq_append_getElem hm, frames_append, frames_one, ho']
 have ha : (g.lg.append t.own).1 = 0 := by
  have hlen := frames_le all (m + 1)
  rw [← hB, List.length_append, frame_length] at hlen
  unfold Lg.append
  rw [if_neg (by simp [hcf]), if_neg (by rw [h.s.room]; omega), if_neg (by rw [h.s.down]; decide), if_neg (by have := h.s.left; omega)]
 have hw := c2.way
 have e2 : (g.commit t.id).2.1 = 0 ∧ (g.commit t.id).1 = g.last + 1 := by
  unfold Dk.commit
  rw [h.find]
  simp only
  rw [if_neg hc, if_neg hne, if_pos ha]
  exact ⟨rfl, rfl⟩
 refine ⟨by rw [e2.2, h.last]; push_cast; rfl, e2.1, c1, ?_, hm, ?_⟩
 ·rcases hw with ⟨q, _⟩ | ⟨_, q, _⟩ | ⟨_, _, _, q, _⟩
  ·exact absurd e2.1 q
  ·exact absurd q hne
  ·rw [q, h.al, List.take_succ_eq_append_getElem hm, ho']
 ·rw [c2.op, h.op]
  unfold eraseT
  simp
theorem AlG.F (h : AlG g R all all.length) : g.F = replay noF 0 all := by rw [h.s.F, h.al, List.take_length]
end
def CO (p : DP (PAns × Int)) : Prop := ∀ β t, ((p.runS β t).1.2 = 0 → (p.runS β t).2.own ≠ []) ∧ ((p.runS β t).1.2 ≠ 0 → (p.runS β t).2.own = t.own)
theorem CO.no {e : Int} (h : e ≠ 0) : CO (noP e) := fun β t => ⟨fun q => absurd q h, fun _ => rfl⟩
theorem insC_ne (c : Chg) : ∀ l : List Chg, insC c l ≠ []
 | [] => by simp [insC]
 | x :: l => by unfold insC; split <;> (try split) <;> simp
theorem CO.chg (c : Chg) (a : PAns) : CO (chgP c a) := fun β t => by
 show ((t.change c).1 = 0 → (t.change c).2.own ≠ []) ∧ ((t.change c).1 ≠ 0 → (t.change c).2.own = t.own)
 unfold St.change
 split
 ·exact ⟨fun q => absurd q (by show ¬ (2 : Int) = 0; decide), fun _ => rfl⟩
 ·split
  ·exact ⟨fun q => absurd q (by show ¬ (3 : Int) = 0; decide), fun _ => rfl⟩
  ·exact ⟨fun _ => insC_ne _ _, fun q => absurd rfl q⟩
theorem CO.ite {b : Prop} [Decidable b] {p q : DP (PAns × Int)} (h1 : b → CO p) (h2 : ¬ b → CO q) : CO (if b then p else q) := by
 by_cases h : b
 ·rw [if_pos h]; exact h1 h
 ·rw [if_neg h]; exact h2 h
theorem CO.bind {α : Type} {p : DP α} {f : α → DP (PAns × Int)} (hp : ∀ β t, (p.runS β t).2.own = t.own) (h : ∀ a, CO (f a)) : CO (p.bind f) := fun β t => by
 rw [DP.runS_bind]
 have := h (p.runS β t).1 β (p.runS β t).2
 rw [hp] at this
 exact this
theorem has_own (s : List UInt8) (β : Base) (t : St) : ((hasP s).runS β t).2.own = t.own := St.get_own β t s
theorem pfxs_own (net : List UInt8) (β : Base) (t : St) : ((pfxsP net).runS β t).2.own = t.own := St.range_own β t _ _
theorem ads_own (net : List UInt8) (β : Base) (t : St) : ((adsP net).runS β t).2.own = t.own := St.range_own β t _ _
theorem co_do2 (c : PCall) (h8 : c.what ≠ 8) (h9 : c.what = 2 ∨ c.what = 3 ∨ c.what = 4 ∨ c.what = 5 ∨ c.what = 6 ∨ c.what = 7) : CO (do2P c) := by
 unfold do2P addP takeP placeP leaveP nextPP nextAP
 repeat' (first
  | with_reducible exact CO.chg _ _
  | (with_reducible refine CO.no ?_; first | assumption | decide)
  | with_reducible refine CO.ite (fun _ => ?_) (fun _ => ?_)
  | with_reducible refine CO.bind (has_own _) (fun _ => ?_)
  | with_reducible refine CO.bind (pfxs_own _) (fun _ => ?_)
  | with_reducible refine CO.bind (ads_own _) (fun _ => ?_)
  | (exfalso; omega))
def isCh (c : PCall) (r : PAns × Int) : Bool := decide (r.2 = 0) && decide (c.what ≠ 8) && decide (c.what ≠ 9)
theorem noChg_ite {α : Type} {b : Prop} [Decidable b] {p q : DP α} (h1 : b → p.noChg) (h2 : ¬ b → q.noChg) : (if b then p else q).noChg := by
 by_cases h : b
 ·rw [if_pos h]; exact h1 h
 ·rw [if_neg h]; exact h2 h
theorem noChg_bind {α γ : Type} {f : α → DP γ} (h : ∀ a, (f a).noChg) : ∀ {p : DP α}, p.noChg → (p.bind f).noChg
 | .ret a, _ => h a
 | .get s k, hp => fun x => noChg_bind h (hp x)
 | .range lo hi k, hp => fun x => noChg_bind h (hp x)
 | .chg c k, hp => hp.elim
theorem doP_no (c : PCall) (h : c.what = 8 ∨ c.what = 9) : (doP c).noChg := by
 have hn : ∀ e, (noP e).noChg := fun e => trivial
 have hh : ∀ s, (hasP s).noChg := fun s => by
  unfold hasP
  intro x
  exact trivial
 have hl : (listP c).noChg := by
  unfold listP
  have h1 : (pfxsP c.name).noChg := by
   unfold pfxsP
   intro x
   exact trivial
  exact noChg_bind (f := fun (l : Int × List Pf) => (DP.ret ((⟨0, 0, 0, [], l.2⟩ : PAns), l.1) : DP (PAns × Int))) (fun _ => trivial) h1
 have hw : (whoP c).noChg := by
  unfold whoP
  intro x
  exact noChg_ite (fun _ => trivial) fun _ => noChg_ite (fun _ => hn _) fun _ => fun y => noChg_ite (fun _ => hn _) fun _ => noChg_ite (fun _ => hn _) fun _ => trivial
 unfold doP
 refine noChg_ite (fun _ => hn _) fun _ => noChg_bind (fun a => noChg_ite (fun _ => hn _) fun _ => noChg_ite (fun e => by omega) fun _ => noChg_ite (fun _ => hn _) fun _ => ?_) (hh _)
 unfold do2P
 rw [if_neg (by omega), if_neg (by omega), if_neg (by omega), if_neg (by omega), if_neg (by omega), if_neg (by omega)]
 exact noChg_ite (fun _ => hl) fun _ => hw
theorem callFault_what {c : PCall} (h : callFault c = 0) : 1 ≤ c.what ∧ c.what ≤ 9 := by
 unfold callFault at h
 split at h
 ·cases h
 ·omega
theorem doP_tells : TellsC doP isCh := by
 intro c β t
 by_cases h : c.what = 8 ∨ c.what = 9
 ·rw [DP.noChg_own β (doP c) t (doP_no c h)]
  have : isCh c ((doP c).runS β t).1 = false := by
   unfold isCh
   rcases h with h | h <;> simp [h]
  rw [this]
  simp
 ·have hco : CO (doP c) := by
   unfold doP
   by_cases hf : callFault c = 0
   ·rw [if_neg (by simp [hf])]
    have hw := callFault_what hf
    refine CO.bind (has_own _) (fun a => CO.ite (fun q => CO.no q) fun _ => CO.ite (fun _ => CO.ite (fun _ => CO.no (by decide)) fun _ => CO.chg _ _) fun q => CO.ite (fun _ => CO.no (by decide)) fun _ => co_do2 c (fun e => h (.inl e)) (by omega))
   ·rw [if_pos hf]
    exact CO.no hf
  obtain ⟨h1, h2⟩ := hco β t
  by_cases e : ((doP c).runS β t).1.2 = 0
  ·have hc : isCh c ((doP c).runS β t).1 = true := by
    unfold isCh
    simp [e]
    omega
   rw [hc]
   simp [h1 e]
  ·rw [h2 e]
   have hc : isCh c ((doP c).runS β t).1 = false := by
    unfold isCh
    simp [e]
   rw [hc]
   simp
structure HSer (h : Hl) (R : Int) (op : List (Opn PCall (PAns × Int))) (ov : List (Ovr PCall (PAns × Int))) : Prop where
 s : SerG h.d R
 o : OpI doP h.d op
 hop : h.op = op.map (fun x => (x.who, x.id))
 v : OvI doP isCh h.d.all ov
 nod : (op.map Opn.who).Nodup
theorem HSer.new {R : Int} (h : 0 ≤ R) : HSer (Hl.new R) R [] [] := ⟨SerG.new h, OpI.nil _, rfl, OvI.nil _ rfl, List.Pairwise.nil⟩
section
variable {h : Hl} {R : Int} {op : List (Opn PCall (PAns × Int))} {ov : List (Ovr PCall (PAns × Int))}
theorem HSer.find (q : HSer h R op ov) {k : Nat} (hk : k < op.length) : findH h.op op[k].who = some op[k].id := by
 rw [q.hop]
 have hn := q.nod
 clear q
 unfold findH
 induction op generalizing k with
 | nil => simp at hk
 | cons x l ih =>
  rw [List.map_cons, List.nodup_cons] at hn
  rw [List.map_cons]
  rcases k with _ | k
  ·rw [List.find?_cons_of_pos (by simp)]
   rfl
  ·have hk' : k < l.length := by simpa using hk
   rw [List.find?_cons_of_neg]
   ·exact ih hk' hn.2
   ·simp
    intro e
    exact hn.1 (List.mem_map.2 ⟨l[k], List.getElem_mem _, e.symm⟩)
theorem HSer.findNone (q : HSer h R op ov) {who : List UInt8} : findH h.op who = none ↔ who ∉ op.map Opn.who := by
 have e : ∀ l : List (Opn PCall (PAns × Int)), findH (l.map (fun x => (x.who, x.id))) who = none ↔ who ∉ l.map Opn.who := by
  intro l
  unfold findH
  rw [Option.map_eq_none_iff, List.find?_eq_none]
  simp only [beq_iff_eq, List.mem_map, not_exists, not_and, forall_exists_index, and_imp]
  constructor
  ·rintro a x hx e
   exact a _ x hx rfl e
  ·rintro a p x hx rfl e
   exact a x hx e
 rw [q.hop]
 exact e op
theorem begin_op0 (g : Dk) : g.begin.2.1 ≠ 0 → g.begin.2.2 = g := by
 unfold Dk.begin
 split
 ·exact fun _ => rfl
 ·split
  ·exact fun _ => rfl
  ·exact fun e => absurd rfl e
theorem begin_all (g : Dk) : g.begin.2.2.all = g.all := by
 unfold Dk.begin
 split
 ·rfl
 ·split <;> rfl
theorem HSer.open (q : HSer h R op ov) (who : List UInt8) : (h.open who).2.d.all = h.d.all ∧ ((h.open who).1 ≠ 0 ∧ HSer (h.open who).2 R op ov ∨ (h.open who).1 = 0 ∧ HSer (h.open who).2 R (op ++ [⟨who, h.d.begin.1, [], []⟩]) ov) := by
 unfold Hl.open
 split
 ·exact ⟨rfl, .inl ⟨(by show (5 : Int) ≠ 0; decide), q⟩⟩
 ·split
  ·exact ⟨rfl, .inl ⟨(by show (6 : Int) ≠ 0; decide), q⟩⟩
  ·rename_i hs
   split
   ·rename_i hb
    have e := begin_op0 h.d hb
    refine ⟨by rw [e], .inl ⟨hb, ?_⟩⟩
    rw [e]
    exact q
   ·rename_i hb
    have hb0 : h.d.begin.2.1 = 0 := by
     rcases Decidable.em (h.d.begin.2.1 = 0) with e | e
     ·exact e
     ·exact absurd e hb
    have hfn : findH h.op who = none := by
     cases e : findH h.op who with
     | none => rfl
     | some x => rw [e] at hs; exact absurd rfl hs
    refine ⟨begin_all _, .inr ⟨rfl, q.s.begin, q.o.begin q.s who hb0, ?_, ?_, ?_⟩⟩
    ·show h.op ++ [(who, h.d.begin.1)] = _
     rw [q.hop]
     simp
    ·rw [begin_all]; exact q.v
    ·rw [List.map_append, List.nodup_append]
     refine ⟨q.nod, by simp, ?_⟩
     intro a ha b hb e
     simp at hb
     subst hb
     subst e
     exact q.findNone.1 hfn ha
theorem erase_idx {op : List (Opn PCall (PAns × Int))} (hn : (op.map Opn.who).Nodup) {k : Nat} (hk : k < op.length) : eraseH (op.map (fun x => (x.who, x.id))) op[k].who = (op.eraseIdx k).map (fun x => (x.who, x.id)) := by
 induction op generalizing k with
 | nil => simp at hk
 | cons x l ih =>
  rw [List.map_cons, List.nodup_cons] at hn
  rw [List.map_cons]
  unfold eraseH at ih ⊢
  rcases k with _ | k
  ·show List.filter _ (_ :: _) = _
   rw [List.filter_cons_of_neg (by simp)]
   show _ = l.map _
   rw [List.filter_eq_self]
   intro p hp
   obtain ⟨y, hy, rfl⟩ := List.mem_map.1 hp
   simp
   intro e
   exact hn.1 (List.mem_map.2 ⟨y, hy, e⟩)
  ·have hk' : k < l.length := by simpa using hk
   rw [List.filter_cons_of_pos]
   ·show _ = _ :: (l.eraseIdx k).map _
    rw [← ih hn.2 hk']
    rfl
   ·simp
    intro e
    exact hn.1 (List.mem_map.2 ⟨l[k], List.getElem_mem _, e.symm⟩)
theorem HSer.quit (q : HSer h R op ov) {k : Nat} (hk : k < op.length) : (h.quit op[k].who).1 = 0 ∧ (h.quit op[k].who).2.d.all = h.d.all ∧ HSer (h.quit op[k].who).2 R (op.eraseIdx k) ov := by
 unfold Hl.quit
 rw [q.find hk]
 obtain ⟨a1, a2, a3⟩ := q.o.abort hk
 refine ⟨a1, a3, q.s.abort _, a2, ?_, ?_, q.nod.sublist ((List.eraseIdx_sublist op k).map _)⟩
 ·show eraseH h.op _ = _
  rw [q.hop, erase_idx q.nod hk]
 ·show OvI doP isCh (h.d.abort op[k].id).2.all ov
  rw [a3]
  exact q.v
theorem HSer.close (q : HSer h R op ov) {k : Nat} (hk : k < op.length) :
  ((h.close op[k].who).2.1 ≠ 0 ∧ (h.close op[k].who).2.2.d.all = h.d.all ∧ HSer (h.close op[k].who).2.2 R (op.eraseIdx k) ov) ∨
  ((h.close op[k].who).2.1 = 0 ∧ ∃ n : Nat, (h.close op[k].who).1 = (n : Int) ∧ HSer (h.close op[k].who).2.2 R (op.eraseIdx k) (ov ++ [⟨op[k].who, n, op[k].cs, op[k].rs⟩]) ∧
   (if h.d.all.length < n then (h.close op[k].who).2.2.d.all.length = n else (h.close op[k].who).2.2.d.all.length = h.d.all.length)) := by
 unfold Hl.close
 rw [q.find hk]
 have hop : eraseH h.op op[k].who = (op.eraseIdx k).map (fun x => (x.who, x.id)) := by rw [q.hop, erase_idx q.nod hk]
 have hnod := q.nod.sublist ((List.eraseIdx_sublist op k).map _)
 obtain ⟨a1, a2, _, a3⟩ := q.v.commit doP_tells q.o q.s hk
 rcases a3 with ⟨b1, b2⟩ | ⟨b1, n, b2, b3, b4⟩
 ·refine .inl ⟨b1, b2, a1, a2, hop, ?_, hnod⟩
  show OvI doP isCh (h.d.commit op[k].id).2.2.all ov
  rw [b2]
  exact q.v
 ·refine .inr ⟨b1, n, b2, ⟨a1, a2, hop, b3, hnod⟩, ?_⟩
  split
  ·rename_i c
   rw [if_pos c] at b4
   exact b4
  ·rename_i c
   rw [if_neg c] at b4
   show (h.d.commit op[k].id).2.2.all.length = _
   rw [b4]
theorem HSer.ask (q : HSer h R op ov) {k : Nat} (hk : k < op.length) (c : PCall) : (h.ask op[k].who c).2.2.d.all = h.d.all ∧
  HSer (h.ask op[k].who c).2.2 R (op.set k ⟨op[k].who, op[k].id, op[k].cs ++ [c], op[k].rs ++ [((h.ask op[k].who c).1, (h.ask op[k].who c).2.1)]⟩) ov := by
 unfold Hl.ask
 rw [q.find hk]
 obtain ⟨t, ht, a1, a2, a3, a4⟩ := q.o.ask q.s hk c
 have e : h.d.doC op[k].id c = flat3 ((doP c).run op[k].id h.d) := (doC_run _ _ _).symm
 simp only [e]
 unfold flat3
 refine ⟨a3, a2, a4, ?_, ?_, ?_⟩
 ·rw [q.hop, List.map_set]
  have h1 : k < (op.map (fun x => (x.who, x.id))).length := by simpa using hk
  have e2 : (op[k].who, op[k].id) = (op.map (fun x => (x.who, x.id)))[k] := by simp
  show _ = (op.map (fun x => (x.who, x.id))).set k (op[k].who, op[k].id)
  rw [e2, List.set_getElem_self]
 ·show OvI doP isCh ((doP c).run op[k].id h.d).2.all ov
  rw [a3]
  exact q.v
 ·rw [List.map_set]
  have h1 : k < (op.map Opn.who).length := by simpa using hk
  have e2 : op[k].who = (op.map Opn.who)[k] := by simp
  show ((op.map Opn.who).set k op[k].who).Nodup
  rw [e2, List.set_getElem_self]
  exact q.nod
structure HAl (h : Hl) (R : Int) (all : List (List Chg)) (m : Nat) : Prop where
 g : AlG h.d R all m
 op : h.op = []
structure HAr (h : Hl) (R : Int) (all : List (List Chg)) (m : Nat) (who : List UInt8) (t : Tr) : Prop where
 g : AlR h.d R all m t
 op : h.op = [(who, t.id)]
theorem HAl.open {all : List (List Chg)} {m : Nat} (q : HAl h R all m) {who : List UInt8} (hw : nameB who = true) : (h.open who).1 = 0 ∧ ∃ t, HAr (h.open who).2 R all m who t ∧ t.st = stZ := by
 obtain ⟨b1, b2, b3⟩ := q.g.begin
 unfold Hl.open
 rw [if_neg (by simp [hw]), if_neg (by rw [q.op]; simp [findH]), if_neg (by simp [b2])]
 refine ⟨rfl, _, ⟨b3, ?_⟩, rfl⟩
 show h.op ++ [(who, h.d.begin.1)] = _
 rw [q.op, b1]
 rfl
theorem HAr.find {all : List (List Chg)} {m : Nat} {who : List UInt8} {t : Tr} (q : HAr h R all m who t) : findH h.op who = some t.id := by
 rw [q.op]
 unfold findH
 rw [List.find?_cons_of_pos (by simp)]
 rfl
theorem HAr.ask {all : List (List Chg)} {m : Nat} {who : List UInt8} {t : Tr} (q : HAr h R all m who t) (c : PCall) :
  ((h.ask who c).1, (h.ask who c).2.1) = ((doP c).runS (atN all m) t.st).1 ∧ HAr (h.ask who c).2.2 R all m who (t.put ((doP c).runS (atN all m) t.st).2) := by
 unfold Hl.ask
 rw [q.find]
 obtain ⟨a1, a2⟩ := q.g.run (P := doP) c
 have e : h.d.doC t.id c = flat3 ((doP c).run t.id h.d) := (doC_run _ _ _).symm
 simp only [e]
 unfold flat3
 refine ⟨?_, a2, q.op⟩
 show ((doP c).run t.id h.d).1 = _
 rw [a1]
theorem HAr.close {all : List (List Chg)} {m : Nat} {who : List UInt8} {t : Tr} (q : HAr h R all m who t) :
  (t.own = [] → (h.close who).1 = (m : Int) ∧ (h.close who).2.1 = 0 ∧ HAl (h.close who).2.2 R all m) ∧
  ((∀ l ∈ all, chgFault l = 0) → ((frames all).length : Int) ≤ R → t.own ≠ [] → all[m]? = some t.own → (h.close who).1 = ((m + 1 : Nat) : Int) ∧ (h.close who).2.1 = 0 ∧ HAl (h.close who).2.2 R all (m + 1)) := by
 unfold Hl.close
 rw [q.find]
 have he : eraseH h.op who = [] := by
  rw [q.op]
  unfold eraseH
  simp
 constructor
 ·intro ho
  obtain ⟨a1, a2, a3⟩ := q.g.commit0 ho
  exact ⟨a1, a2, a3, he⟩
 ·intro h1 h2 h3 h4
  obtain ⟨a1, a2, a3⟩ := q.g.commit1 h1 h2 h3 h4
  exact ⟨a1, a2, a3, he⟩
end
def encCl (c : PCall) : List Value := [.int .i64 c.what, txt c.name, .int .i64 c.pa, .int .i64 c.pn, .int .i64 c.len, .int .i64 c.ad, txt c.owner]
def encAn (p : PAns × Value) : List Value := [.int .i64 p.1.pa, .int .i64 p.1.pn, .int .i64 p.1.ad, txt p.1.owner, p.2]
structure TkV where
 who : List UInt8
 n : Int
 cv : Value
 tv : Value
 ev : Value
def encT (t : TkV) : List Value := [txt t.who, .int .i64 t.n, t.cv, t.tv, t.ev]
theorem infoTk : (Tryz.prog.info? 40).map (fun i => (i.zero, i.size, i.bytes)) = some (some (.agg #[txt [], .int .i64 0, .slice none 0 0, .slice none 0 0, .slice none 0 0]), 5, 96) := by kernel_rfl
theorem infoCl : (Tryz.prog.info? 33).map (fun i => (i.zero, i.size, i.bytes)) = some (some (.agg #[.int .i64 0, txt [], .int .i64 0, .int .i64 0, .int .i64 0, .int .i64 0, txt []]), 7, 72) := by kernel_rfl
theorem infoAn : (Tryz.prog.info? 46).map (fun i => (i.zero, i.size, i.bytes)) = some (some (.agg #[.int .i64 0, .int .i64 0, .int .i64 0, txt [], .slice none 0 0]), 5, 64) := by kernel_rfl
theorem infoBo : (Tryz.prog.info? 4).map (fun i => (i.zero, i.size, i.bytes)) = some (some (.bool false), 1, 1) := by kernel_rfl
def BIn (R : Nat → Prop) (v : Value) : Prop := ∀ q, v.ownBlock = some q → R q
def CallsAt (w : World) (R : Nat → Prop) (v : Value) (cs : List PCall) : Prop := w.ownsRow 0 33 7 v cs.length (flatE encCl cs) ∧ BIn R v
def AnssAt (w : World) (R : Nat → Prop) (v : Value) (al : List PAns) : Prop :=
 ∃ us : List Value, us.length = al.length ∧ w.ownsRow 0 46 5 v al.length (flatE encAn (al.zip us)) ∧ BIn R v ∧ ∀ i (h : i < al.length), ∃ u, us[i]? = some u ∧ OwnP w 0 31 u al[i].list ∧ BIn R u
def ErrsAt (w : World) (R : Nat → Prop) (v : Value) (es : List Bool) : Prop := w.ownsRow 0 4 1 v es.length (es.map .bool) ∧ BIn R v
abbrev eS (rs : List (PAns × Int)) : List Bool := rs.map fun r => decide (r.2 ≠ 0)
structure TalkAt (E : List (PAns × Int) → List Bool) (w : World) (R : Nat → Prop) (t : TkV) (who : List UInt8) (cs : List PCall) (rs : List (PAns × Int)) : Prop where
 hwho : t.who = who
 wl : who.length ≤ 9223372036854775807
 len : rs.length = cs.length
 ok : ∀ c ∈ cs, CallW c
 calls : CallsAt w R t.cv cs
 told : AnssAt w R t.tv (rs.map Prod.fst)
 errs : ErrsAt w R t.ev (E rs)
section
variable {E : List (PAns × Int) → List Bool} {w w' : World} {R R' : Nat → Prop} {v u : Value} {cs : List PCall} {al : List PAns} {es : List Bool} {t : TkV} {who : List UInt8} {rs : List (PAns × Int)}
theorem CallsAt.fr {T : Nat → Prop} (h : CallsAt w R v cs) (f : Fr T w w') (hd : ∀ q, R q → ¬ T q) : CallsAt w' R v cs := ⟨own_fr h.1 f (fun q e => hd q (h.2 q e)), h.2⟩
theorem CallsAt.mono (h : CallsAt w R v cs) (hs : ∀ q, R q → R' q) : CallsAt w R' v cs := ⟨h.1, fun q e => hs q (h.2 q e)⟩
theorem ErrsAt.fr {T : Nat → Prop} (h : ErrsAt w R v es) (f : Fr T w w') (hd : ∀ q, R q → ¬ T q) : ErrsAt w' R v es := ⟨own_fr h.1 f (fun q e => hd q (h.2 q e)), h.2⟩
theorem ErrsAt.mono (h : ErrsAt w R v es) (hs : ∀ q, R q → R' q) : ErrsAt w R' v es := ⟨h.1, fun q e => hs q (h.2 q e)⟩
theorem AnssAt.fr {T : Nat → Prop} (h : AnssAt w R v al) (f : Fr T w w') (hd : ∀ q, R q → ¬ T q) : AnssAt w' R v al := by
 obtain ⟨us, h1, h2, h3, h4⟩ := h
 exact ⟨us, h1, own_fr h2 f (fun q e => hd q (h3 q e)), h3, fun i hi => by
  obtain ⟨u, a, b, c⟩ := h4 i hi
  exact ⟨u, a, own_fr b f (fun q e => hd q (c q e)), c⟩⟩
theorem AnssAt.mono (h : AnssAt w R v al) (hs : ∀ q, R q → R' q) : AnssAt w R' v al := by
 obtain ⟨us, h1, h2, h3, h4⟩ := h
 exact ⟨us, h1, h2, fun q e => hs q (h3 q e), fun i hi => by
  obtain ⟨u, a, b, c⟩ := h4 i hi
  exact ⟨u, a, b, fun q e => hs q (c q e)⟩⟩
theorem TalkAt.fr {T : Nat → Prop} (h : TalkAt E w R t who cs rs) (f : Fr T w w') (hd : ∀ q, R q → ¬ T q) : TalkAt E w' R t who cs rs := ⟨h.hwho, h.wl, h.len, h.ok, h.calls.fr f hd, h.told.fr f hd, h.errs.fr f hd⟩
theorem TalkAt.mono (h : TalkAt E w R t who cs rs) (hs : ∀ q, R q → R' q) : TalkAt E w R' t who cs rs := ⟨h.hwho, h.wl, h.len, h.ok, h.calls.mono hs, h.told.mono hs, h.errs.mono hs⟩
theorem BIn.nil (R : Nat → Prop) : BIn R (.slice none 0 0) := fun q e => by simp [Value.ownBlock] at e
theorem CallsAt.nil (w : World) (R : Nat → Prop) : CallsAt w R (.slice none 0 0) [] := ⟨World.ownsRow_nil _ _ _ _, BIn.nil R⟩
theorem ErrsAt.nil (w : World) (R : Nat → Prop) : ErrsAt w R (.slice none 0 0) [] := ⟨World.ownsRow_nil _ _ _ _, BIn.nil R⟩
theorem AnssAt.nil (w : World) (R : Nat → Prop) : AnssAt w R (.slice none 0 0) [] := ⟨[], rfl, World.ownsRow_nil _ _ _ _, BIn.nil R, fun i h => by simp at h⟩
theorem TalkAt.new (hE : E [] = []) (w : World) (R : Nat → Prop) {who : List UInt8} (hw : who.length ≤ 9223372036854775807) : TalkAt E w R ⟨who, 0, .slice none 0 0, .slice none 0 0, .slice none 0 0⟩ who [] [] :=
 ⟨rfl, hw, rfl, fun c hc => (by cases hc), CallsAt.nil w R, AnssAt.nil w R, by rw [hE]; exact ErrsAt.nil w R⟩
theorem own_bq {base size n : Nat} {e : TypeId} {xs : List Value} (h : w.ownsRow base e size v n xs) : ∀ q, v.ownBlock = some q → q < w.heap.size := fun q e => (World.ownsRow.lt h q e).2
end
def RowAt (w : World) (v : Value) (ts : List TkV) : Prop := w.ownsRow 0 40 5 v ts.length (flatE encT ts)
structure TpS (E : List (PAns × Int) → List Bool) (B : Nat) (w : World) (T R : Nat → Prop) (v : Value) (tt : List TkV) (op : List (Opn PCall (PAns × Int))) (vo : Value) (tc : List TkV) (ov : List (Ovr PCall (PAns × Int))) : Prop where
 lo : tt.length = op.length
 ro : RowAt w v tt
 eo : ∀ i (h : i < op.length), ∃ t, tt[i]? = some t ∧ TalkAt E w R t op[i].who op[i].cs op[i].rs
 lc : tc.length = ov.length
 rc : RowAt w vo tc
 ec : ∀ i (h : i < ov.length), ∃ t, tc[i]? = some t ∧ TalkAt E w R t ov[i].who ov[i].cs ov[i].rs ∧ t.n = (ov[i].n : Int)
 no : BIn (fun q => ¬ R q ∧ ¬ T q ∧ B ≤ q) v
 nc : BIn (fun q => ¬ R q ∧ ¬ T q ∧ B ≤ q) vo
 dj : ∀ q, v.ownBlock = some q → vo.ownBlock ≠ some q
 sep : ∀ q, R q → ¬ T q ∧ q < w.heap.size ∧ B ≤ q
section
variable {E : List (PAns × Int) → List Bool} {B : Nat} {w w' : World} {T T' R : Nat → Prop} {v vo v' : Value} {tt tc : List TkV} {op : List (Opn PCall (PAns × Int))} {ov : List (Ovr PCall (PAns × Int))}
theorem flatT_len : ∀ x, (encT x).length = 5 := fun x => rfl
theorem flatCl_len : ∀ x, (encCl x).length = 7 := fun x => rfl
theorem flatAn_len : ∀ x, (encAn x).length = 5 := fun x => rfl
theorem TpS.call (s : TpS E B w T R v tt op vo tc ov) (f : Fr T w w') (hn : ∀ q, T' q → T q ∨ w.heap.size ≤ q) : TpS E B w' T' R v tt op vo tc ov := by
 have hT : ∀ q, q < w.heap.size → ¬ T q → ¬ T' q := fun q h1 h2 h3 => (hn q h3).elim h2 (by omega)
 have hsz := f.size
 exact ⟨s.lo, own_fr s.ro f (fun q e => (s.no q e).2.1), fun i h => by
   obtain ⟨t, a, b⟩ := s.eo i h
   exact ⟨t, a, b.fr f (fun q e => (s.sep q e).1)⟩,
  s.lc, own_fr s.rc f (fun q e => (s.nc q e).2.1), fun i h => by
   obtain ⟨t, a, b, c⟩ := s.ec i h
   exact ⟨t, a, b.fr f (fun q e => (s.sep q e).1), c⟩,
  fun q e => ⟨(s.no q e).1, hT q (own_bq s.ro q e) (s.no q e).2.1, (s.no q e).2.2⟩,
  fun q e => ⟨(s.nc q e).1, hT q (own_bq s.rc q e) (s.nc q e).2.1, (s.nc q e).2.2⟩, s.dj,
  fun q e => ⟨hT q (s.sep q e).2.1 (s.sep q e).1, by have := (s.sep q e).2.1; omega, (s.sep q e).2.2⟩⟩
theorem TpS.step {a k' : Nat} {h' : Hl} (s : TpS E B w T R v tt op vo tc ov) (q : HKto B w T a w' T' h' k') : TpS E B w' T' R v tt op vo tc ov := s.call q.fr q.new
theorem TpS.bel (s : TpS E B w T R v tt op vo tc ov) (hb : Below w.heap.size w w') : TpS E B w' T R v tt op vo tc ov := s.call (Fr.of_below hb) (fun q h => .inl h)
theorem TpS.row {tt' : List TkV} {op' : List (Opn PCall (PAns × Int))} {R' : Nat → Prop} (s : TpS E B w T R v tt op vo tc ov) (hR : ∀ q, R q → R' q) (hs : ∀ q, R' q → R q ∨ (w.heap.size ≤ q ∧ q < w'.heap.size)) (hB : B ≤ w.heap.size)
  (f : Fr (fun q => v.ownBlock = some q) w w') (lo : tt'.length = op'.length) (ro : RowAt w' v' tt') (hv : v'.ownBlock = v.ownBlock ∨ ∀ q, v'.ownBlock = some q → w.heap.size ≤ q ∧ ¬ R' q) (hT : ∀ q, T q → q < w.heap.size)
  (eo : ∀ i (h : i < op'.length), ∃ t, tt'[i]? = some t ∧ TalkAt E w' R' t op'[i].who op'[i].cs op'[i].rs) : TpS E B w' T R' v' tt' op' vo tc ov := by
 have hsz := f.size
 refine ⟨lo, ro, eo, s.lc, own_fr s.rc f (fun q e e2 => s.dj q e2 e), fun i h => ?_, fun q e => ?_, fun q e => ?_, fun q e e2 => ?_, fun q e => ?_⟩
 ·obtain ⟨t, a, b, c⟩ := s.ec i h
  exact ⟨t, a, (b.fr f (fun q e e2 => (s.no q e2).1 e)).mono hR, c⟩
 ·rcases hv with hv | hv
  ·rw [hv] at e
   have h1 := s.no q e
   have h2 := own_bq s.ro q e
   exact ⟨fun e2 => (hs q e2).elim h1.1 (by omega), h1.2⟩
  ·have h1 := hv q e
   exact ⟨h1.2, fun e2 => by have := hT q e2; omega, by omega⟩
 ·have h1 := s.nc q e
  have h2 := own_bq s.rc q e
  exact ⟨fun e3 => (hs q e3).elim h1.1 (by omega), h1.2⟩
 ·rcases hv with hv | hv
  ·rw [hv] at e; exact s.dj q e e2
  ·have h1 := hv q e
   have h2 := own_bq s.rc q e2
   omega
 ·rcases hs q e with h | h
  ·have := s.sep q h; exact ⟨this.1, by omega, this.2.2⟩
  ·exact ⟨fun e2 => by have := hT q e2; omega, h.2, by omega⟩
theorem TpS.over {tc' : List TkV} {ov' : List (Ovr PCall (PAns × Int))} {vo' : Value} (s : TpS E B w T R v tt op vo tc ov) (hB : B ≤ w.heap.size)
  (f : Fr (fun q => vo.ownBlock = some q) w w') (lc : tc'.length = ov'.length) (rc : RowAt w' vo' tc') (hv : vo'.ownBlock = vo.ownBlock ∨ ∀ q, vo'.ownBlock = some q → w.heap.size ≤ q) (hT : ∀ q, T q → q < w.heap.size)
  (ec : ∀ i (h : i < ov'.length), ∃ t, tc'[i]? = some t ∧ TalkAt E w' R t ov'[i].who ov'[i].cs ov'[i].rs ∧ t.n = (ov'[i].n : Int)) : TpS E B w' T R v tt op vo' tc' ov' := by
 have hsz := f.size
 refine ⟨s.lo, own_fr s.ro f (fun q e e2 => s.dj q e e2), fun i h => ?_, lc, rc, ec, s.no, fun q e => ?_, fun q e e2 => ?_, fun q e => ?_⟩
 ·obtain ⟨t, a, b⟩ := s.eo i h
  exact ⟨t, a, b.fr f (fun q e e2 => (s.nc q e2).1 e)⟩
 ·rcases hv with hv | hv
  ·rw [hv] at e
   exact s.nc q e
  ·have h1 := hv q e
   exact ⟨fun e2 => by have := (s.sep q e2).2.1; omega, fun e2 => by have := hT q e2; omega, by omega⟩
 ·rcases hv with hv | hv
  ·rw [hv] at e2; exact s.dj q e e2
  ·have h1 := hv q e2
   have h2 := own_bq s.ro q e
   omega
 ·have := s.sep q e; exact ⟨this.1, by omega, this.2.2⟩
theorem TpS.opened (hE : E [] = []) (s : TpS E B w T R v tt op vo tc ov) (hB : B ≤ w.heap.size) {who : List UInt8} (hw : who.length ≤ 9223372036854775807) (id : Int) (hown : w'.ownsRow 0 40 5 v' (tt.length + 1) (flatE encT tt ++ encT ⟨who, 0, .slice none 0 0, .slice none 0 0, .slice none 0 0⟩))
  (hg : w.grownBy w' v.ownBlock) (hat : v'.ownBlock = v.ownBlock ∨ v'.ownBlock = some (w.heap.size + 1)) (hT : ∀ q, T q → q < w.heap.size) :
  TpS E B w' T R v' (tt ++ [⟨who, 0, .slice none 0 0, .slice none 0 0, .slice none 0 0⟩]) (op ++ [⟨who, id, [], []⟩]) vo tc ov := by
 have hf : Fr (fun q => v.ownBlock = some q) w w' := (Fr.refl _ w).grown hg (fun q e _ => e)
 refine s.row (R' := R) (fun _ h => h) (fun _ h => .inl h) hB hf (by simp [s.lo]) ?_ ?_ hT (fun i h => ?_)
 ·unfold RowAt
  rw [flatE_append, List.length_append, List.length_singleton]
  have : flatE encT [(⟨who, 0, .slice none 0 0, .slice none 0 0, .slice none 0 0⟩ : TkV)] = encT ⟨who, 0, .slice none 0 0, .slice none 0 0, .slice none 0 0⟩ := by simp [flatE]
  rw [this]
  exact hown
 ·rcases hat with h | h
  ·exact .inl h
  ·refine .inr fun q e => ?_
   rw [h] at e
   injection e with e
   exact ⟨by omega, fun e2 => by have := (s.sep q e2).2.1; omega⟩
 ·rcases Nat.lt_or_ge i op.length with c | c
  ·obtain ⟨t, a, b⟩ := s.eo i c
   refine ⟨t, by rw [List.getElem?_append_left (by rw [s.lo]; exact c)]; exact a, ?_⟩
   rw [List.getElem_append_left c]
   exact b.fr hf (fun q e e2 => (s.no q e2).1 e)
  ·have hi2 : i = op.length := by simp at h; omega
   subst hi2
   refine ⟨_, by rw [← s.lo, List.getElem?_append_right (Nat.le_refl _), Nat.sub_self]; rfl, ?_⟩
   rw [List.getElem_append_right (Nat.le_refl _)]
   simp
   exact TalkAt.new hE w' R hw
theorem TpS.closed (s : TpS E B w T R v tt op vo tc ov) (hB : B ≤ w.heap.size) {k : Nat} (hb : Below w.heap.size w w') (hown : w'.ownsRow w.heap.size 40 5 v' (tt.eraseIdx k).length (flatE encT (tt.eraseIdx k))) (hT : ∀ q, T q → q < w.heap.size) :
  TpS E B w' T R v' (tt.eraseIdx k) (op.eraseIdx k) vo tc ov := by
 refine s.row (R' := R) (fun _ h => h) (fun _ h => .inl h) hB (Fr.of_below hb) (by rw [List.length_eraseIdx, List.length_eraseIdx, s.lo]) (own_of_base hown (Nat.zero_le _)) (.inr fun q e => ?_) hT (fun i h => ?_)
 ·have h1 := World.ownsRow.lt hown q e
  exact ⟨h1.1, fun e2 => by have := (s.sep q e2).2.1; omega⟩
 ·have hh : i < op.length := by have := List.length_eraseIdx_le op k; omega
  rw [List.getElem_eraseIdx, List.getElem?_eraseIdx]
  split
  ·obtain ⟨t, a, b⟩ := s.eo i hh
   exact ⟨t, a, b.fr (T := fun _ => False) (Fr.of_below hb) (fun _ _ q => q)⟩
  ·have h2 : i + 1 < op.length := by
    rw [List.length_eraseIdx] at h
    split at h <;> omega
   obtain ⟨t, a, b⟩ := s.eo (i + 1) h2
   exact ⟨t, a, b.fr (T := fun _ => False) (Fr.of_below hb) (fun _ _ q => q)⟩
theorem TpS.done (s : TpS E B w T R v tt op vo tc ov) (hB : B ≤ w.heap.size) {x : Ovr PCall (PAns × Int)} {t : TkV} (ht : TalkAt E w R t x.who x.cs x.rs) (hn : t.n = (x.n : Int)) (hown : w'.ownsRow 0 40 5 v' (tc.length + 1) (flatE encT tc ++ encT t))
  (hg : w.grownBy w' vo.ownBlock) (hat : v'.ownBlock = vo.ownBlock ∨ v'.ownBlock = some (w.heap.size + 1)) (hT : ∀ q, T q → q < w.heap.size) :
  TpS E B w' T R v tt op v' (tc ++ [t]) (ov ++ [x]) := by
 have hf : Fr (fun q => vo.ownBlock = some q) w w' := (Fr.refl _ w).grown hg (fun q e _ => e)
 refine s.over hB hf (by simp [s.lc]) ?_ ?_ hT (fun i h => ?_)
 ·unfold RowAt
  rw [flatE_append, List.length_append, List.length_singleton]
  have : flatE encT [t] = encT t := by simp [flatE]
  rw [this]
  exact hown
 ·rcases hat with h | h
  ·exact .inl h
  ·refine .inr fun q e => ?_
   rw [h] at e
   injection e with e
   omega
 ·rcases Nat.lt_or_ge i ov.length with c | c
  ·obtain ⟨t, a, b, d⟩ := s.ec i c
   refine ⟨t, by rw [List.getElem?_append_left (by rw [s.lc]; exact c)]; exact a, ?_⟩
   rw [List.getElem_append_left c]
   exact ⟨b.fr hf (fun q e e2 => (s.nc q e2).1 e), d⟩
  ·have hi2 : i = ov.length := by simp at h; omega
   subst hi2
   refine ⟨t, by rw [← s.lc, List.getElem?_append_right (Nat.le_refl _), Nat.sub_self]; rfl, ?_⟩
   rw [List.getElem_append_right (Nat.le_refl _)]
   simp
   exact ⟨ht.fr hf (fun q e e2 => (s.nc q e2).1 e), hn⟩
theorem flatE_set {α : Type} {enc : α → List Value} {n : Nat} (hk : ∀ x, (enc x).length = n) : ∀ (l : List α) (k j : Nat) (x : α) (u : Value) (h : k < l.length), j < n → enc x = (enc l[k]).set j u → flatE enc (l.set k x) = (flatE enc l).set (k * n + j) u
 | y :: l, 0, j, x, u, h, hj, e => by
  unfold flatE
  rw [List.set_cons_zero, List.flatMap_cons, List.flatMap_cons, Nat.zero_mul, Nat.zero_add, List.set_append_left _ _ (by rw [hk]; exact hj)]
  rw [e]
  rfl
 | y :: l, k + 1, j, x, u, h, hj, e => by
  have ih := flatE_set hk l k j x u (by simpa using h) hj e
  unfold flatE at ih ⊢
  rw [List.set_cons_succ, List.flatMap_cons, List.flatMap_cons, ih, List.set_append_right _ _ (by rw [hk, Nat.add_mul]; omega), hk, show (k + 1) * n + j - n = k * n + j by rw [Nat.add_mul]; omega]
theorem TpS.widen {R' : Nat → Prop} (s : TpS E B w T R v tt op vo tc ov) (hR : ∀ q, R q → R' q) (hs : ∀ q, R' q → R q ∨ (¬ T q ∧ q < w.heap.size ∧ B ≤ q ∧ v.ownBlock ≠ some q ∧ vo.ownBlock ≠ some q)) : TpS E B w T R' v tt op vo tc ov :=
 ⟨s.lo, s.ro, fun i h => by
   obtain ⟨t, a, b⟩ := s.eo i h
   exact ⟨t, a, b.mono hR⟩,
  s.lc, s.rc, fun i h => by
   obtain ⟨t, a, b, c⟩ := s.ec i h
   exact ⟨t, a, b.mono hR, c⟩,
  fun q e => ⟨fun e2 => (hs q e2).elim (s.no q e).1 (fun e3 => e3.2.2.2.1 e), (s.no q e).2⟩, fun q e => ⟨fun e2 => (hs q e2).elim (s.nc q e).1 (fun e3 => e3.2.2.2.2 e), (s.nc q e).2⟩, s.dj,
  fun q e => (hs q e).elim (s.sep q) (fun e3 => ⟨e3.1, e3.2.1, e3.2.2.1⟩)⟩
theorem TpS.asked {g c : Nat} (s : TpS E B w T R (.slice (some ⟨g, 0, none⟩) tt.length c) tt op vo tc ov) (hB : B ≤ w.heap.size) (hT : ∀ q, T q → q < w.heap.size) {k : Nat} (hk : k < tt.length)
  {cv tv ev : Value} {x : Opn PCall (PAns × Int)} (hx : ∀ w', Fr (fun q => q = g) w w' → TalkAt E w' R (TkV.mk tt[k].who tt[k].n cv tv ev) x.who x.cs x.rs) :
  TpS E B (((w.setCell ⟨g, k * 5 + 2, none⟩ cv).setCell ⟨g, k * 5 + 3, none⟩ tv).setCell ⟨g, k * 5 + 4, none⟩ ev) T R (.slice (some ⟨g, 0, none⟩) tt.length c) (tt.set k ⟨tt[k].who, tt[k].n, cv, tv, ev⟩) (op.set k x) vo tc ov := by
 have hro := s.ro
 unfold RowAt at hro
 obtain ⟨r1, g1⟩ := World.ownsRow.stored hro (k * 5 + 2) cv
 obtain ⟨r2, g2⟩ := World.ownsRow.stored r1 (k * 5 + 3) tv
 obtain ⟨r3, g3⟩ := World.ownsRow.stored r2 (k * 5 + 4) ev
 have f1 : Fr (fun q => q = g) w (w.setCell ⟨g, k * 5 + 2, none⟩ cv) := (Fr.refl _ w).grown g1 (fun q e _ => by injection e with e; exact e.symm)
 have f2 := f1.grown g2 (fun q e _ => by injection e with e; exact e.symm)
 have f3 := f2.grown g3 (fun q e _ => by injection e with e; exact e.symm)
 have hf : Fr (fun q => (Value.slice (some ⟨g, 0, none⟩) tt.length c).ownBlock = some q) w (((w.setCell ⟨g, k * 5 + 2, none⟩ cv).setCell ⟨g, k * 5 + 3, none⟩ tv).setCell ⟨g, k * 5 + 4, none⟩ ev) := f3.mono (fun q _ e => by subst e; rfl)
 have e1 := flatE_set flatT_len tt k 2 ⟨tt[k].who, tt[k].n, cv, tt[k].tv, tt[k].ev⟩ cv hk (by omega) rfl
 have e2 := flatE_set flatT_len (tt.set k ⟨tt[k].who, tt[k].n, cv, tt[k].tv, tt[k].ev⟩) k 3 ⟨tt[k].who, tt[k].n, cv, tv, tt[k].ev⟩ tv (by simpa using hk) (by omega) (by simp [encT])
 have e3 := flatE_set flatT_len ((tt.set k ⟨tt[k].who, tt[k].n, cv, tt[k].tv, tt[k].ev⟩).set k ⟨tt[k].who, tt[k].n, cv, tv, tt[k].ev⟩) k 4 ⟨tt[k].who, tt[k].n, cv, tv, ev⟩ ev (by simpa using hk) (by omega) (by simp [encT])
 rw [e2, e1, List.set_set, List.set_set] at e3
 rw [← e3] at r3
 refine s.row (R' := R) (fun _ h => h) (fun _ h => .inl h) hB hf (by simp [s.lo]) ?_ (.inl rfl) hT (fun i h => ?_)
 ·unfold RowAt
  rw [List.length_set]
  exact r3
 ·rw [List.length_set] at h
  rw [List.getElem_set, List.getElem?_set]
  by_cases e : k = i
  ·subst e
   rw [if_pos rfl, if_pos rfl, if_pos (by simpa using hk)]
   exact ⟨_, rfl, hx _ f3⟩
  ·rw [if_neg e, if_neg e]
   obtain ⟨t, a, b⟩ := s.eo i h
   exact ⟨t, a, b.fr hf (fun q e e2 => (s.no q e2).1 e)⟩
end
theorem chgd_snoc (cs : List PCall) (rs : List (PAns × Int)) (hl : rs.length = cs.length) (j : Nat) (h : j < cs.length) : chgd isCh (cs.take (j + 1)) (rs.take (j + 1)) = (chgd isCh (cs.take j) (rs.take j) || isCh cs[j] (rs[j]'(by omega))) := by
 unfold chgd
 have hr : j < rs.length := by omega
 rw [List.take_succ_eq_append_getElem h, List.take_succ_eq_append_getElem hr, List.zip_append (by simp; omega), List.any_append]
 simp
theorem chgd_hit (cs : List PCall) (rs : List (PAns × Int)) (hl : rs.length = cs.length) (j : Nat) (h : j < cs.length) (q : isCh cs[j] (rs[j]'(by omega)) = true) : chgd isCh cs rs = true := by
 unfold chgd
 have hz : j < (cs.zip rs).length := by simp; omega
 exact List.any_eq_true.2 ⟨(cs.zip rs)[j], List.getElem_mem hz, by simpa using q⟩
theorem changed_any (who : List UInt8) (n : Int) (tv : Value) (A E : Option Addr) (c ce : Nat) (cs : List PCall) (rs : List (PAns × Int)) (hl : rs.length = cs.length) (hm : cs.length ≤ 1000000000) (w : World)
  (hc : Rd w w.heap.size A (flatE encCl cs)) (he : Rd w w.heap.size E ((rs.map fun r => decide (r.2 ≠ 0)).map Value.bool)) :
  Calls Tryz.prog 11 #[.agg #[txt who, .int .i64 n, .slice A cs.length c, tv, .slice E cs.length ce]] w fun e w' => e = .returned (.bool (chgd isCh cs rs)) ∧ Below w.heap.size w w' := by
 have HL := Hd hl
 clear hl
 have hb0 := Blk.new w 40 #[txt who, .int .i64 n, .slice A cs.length c, tv, .slice E cs.length ce]
 have hB0 := (Below.refl w.heap.size w).alloc (Nat.le_refl _) (.cells #[txt who, .int .i64 n, .slice A cs.length c, tv, .slice E cs.length ce] 40)
 have hc0 := hc.below hB0
 have he0 := he.below hB0
 go_enter Tryz.func11, Tryz.ntmps11
 go_upto_region 1 with fail
 refine wp_name (fun w0 HW0 => ?_)
 rw [← HW0.out] at hb0 hB0 hc0 he0
 have hz0 : w.heap.size < w0.heap.size := hb0.lt
 clear HW0
 generalize hH : w.heap.size = H at *
 have HH := Hd hH
 clear hH
 go_wp2
 go_loopw [3] (fun i wr => ∃ j : Nat, j ≤ cs.length ∧ i = .int .i64 (j : Int) ∧ Below w0.heap.size w0 wr ∧ Hid (chgd isCh (cs.take j) (rs.take j) = false)) (fun i _ => cs.length - (intOf i).toNat)
 case atStart => exact ⟨0, Nat.zero_le _, rfl, Below.refl _ _, Hd rfl⟩
 case round =>
  obtain ⟨j, hj, rfl, hb, HN⟩ := hrel
  have hbx := hb0.below hb hz0
  have d2 := hbx.cell 2
  have d4 := hbx.cell 4
  simp at d2 d4
  by_cases hlt : j < cs.length
  ·have hlr : j < rs.length := by have := HL.out; omega
   obtain ⟨b0, of0, rfl, hbb, hcc⟩ := Rd.elt flatCl_len ((hc0.more (Nat.le_of_lt hz0)).below hb) hlt (by omega)
   have c0 := hcc 0 _ rfl
   obtain ⟨b1, of1, rfl, hbe, hce⟩ := (he0.more (Nat.le_of_lt hz0)).below hb (fun h => by have := congrArg List.length h; simp at this; rw [this] at hlr; simp at hlr)
   have c1 := hce j (.bool (decide (rs[j].2 ≠ 0))) (by simp [hlr])
   have HS := Hd (chgd_snoc cs rs HL.out j hlt)
   have HT := Hd (chgd_hit cs rs HL.out j hlt)
   have hI1 : (j : Int) < (cs.length : Int) := by omega
   rw [Nat.add_zero] at c0
   clear hcc hce
   by_cases hf : rs[j].2 = 0
   ·replace c1 : wr.cell? ⟨b1, of1 + j, none⟩ = some (.bool false) := by rw [c1]; simp [hf]
    by_cases h8 : cs[j].what = 8
    ·have HF := Hd (show chgd isCh (cs.take (j + 1)) (rs.take (j + 1)) = false by rw [HS.out, HN.out]; simp [isCh, h8])
     clear HS HT
     go_wp2
     go_roundw
     case rel => exact ⟨j + 1, by omega, by go_num, hb, HF⟩
     case measure => simp [intOf]; omega
    ·by_cases h9 : cs[j].what = 9
     ·have HF := Hd (show chgd isCh (cs.take (j + 1)) (rs.take (j + 1)) = false by rw [HS.out, HN.out]; simp [isCh, h9])
      clear HS HT
      go_wp2
      go_roundw
      case rel => exact ⟨j + 1, by omega, by go_num, hb, HF⟩
      case measure => simp [intOf]; omega
     ·have HF := Hd (show chgd isCh cs rs = true from HT.out (by simp [isCh, hf, h8, h9]))
      have n8 : (cs[j].what != 8) = true := by simpa using h8
      have n9 : (cs[j].what != 9) = true := by simpa using h9
      clear HS HT h8 h9
      go_wp2
      go_ret
      exact ⟨by rw [HF.out]; rfl, by rw [HH.out]; exact hB0.trans (hb.mono (Nat.le_of_lt hz0))⟩
   ·replace c1 : wr.cell? ⟨b1, of1 + j, none⟩ = some (.bool true) := by rw [c1]; simp [hf]
    have HF := Hd (show chgd isCh (cs.take (j + 1)) (rs.take (j + 1)) = false by rw [HS.out, HN.out]; simp [isCh, hf])
    clear HS HT
    go_wp2
    go_roundw
    case rel => exact ⟨j + 1, by omega, by go_num, hb, HF⟩
    case measure => simp [intOf]; omega
  ·obtain rfl : j = cs.length := by omega
   have HF := Hd (show chgd isCh cs rs = false by have := HN.out; rwa [List.take_length, ← HL.out, List.take_length] at this)
   have hI1 : ¬ ((cs.length : Int) < (cs.length : Int)) := by omega
   go_wp2
   go_ret
   exact ⟨by rw [HF.out]; rfl, by rw [HH.out]; exact hB0.trans (hb.mono (Nat.le_of_lt hz0))⟩
structure SrS (B : Nat) (w : World) (T R : Nat → Prop) (a : Nat) (h : Hl) (k : Nat) (v : Value) (tt : List TkV) (op : List (Opn PCall (PAns × Int))) (vo : Value) (tc : List TkV) (ov : List (Ovr PCall (PAns × Int))) : Prop where
 x : HK B w T a h k
 q : HSer h 100000 op ov
 m : TpS eS B w T R v tt op vo tc ov
def Srch (op : List (Opn PCall (PAns × Int))) (who : List UInt8) (j : Nat) (kv : Int) : Prop :=
 (kv = -1 ∧ ∀ i (h : i < op.length), i < j → op[i].who ≠ who) ∨ ∃ (i : Nat) (h : i < op.length), kv = (i : Int) ∧ op[i].who = who
section
variable {B : Nat} {w w' : World} {T T' R : Nat → Prop} {a k k' : Nat} {h h' : Hl} {v vo v' : Value} {tt tc : List TkV} {op op' : List (Opn PCall (PAns × Int))} {ov ov' : List (Ovr PCall (PAns × Int))}
theorem SrS.new (x : HK B w T a (Hl.new 100000) k) : SrS B w T (fun _ => False) a (Hl.new 100000) k (.slice none 0 0) [] [] (.slice none 0 0) [] [] :=
 ⟨x, HSer.new (by decide), rfl, World.ownsRow_nil _ _ _ _, fun i h => by simp at h, rfl, World.ownsRow_nil _ _ _ _, fun i h => by simp at h, BIn.nil _, BIn.nil _, fun q e => by simp [Value.ownBlock] at e, fun q e => e.elim⟩
theorem SrS.bel (s : SrS B w T R a h k v tt op vo tc ov) (hb : Below w.heap.size w w') : SrS B w' T R a h k v tt op vo tc ov := ⟨s.x.bel hb, s.q, s.m.bel hb⟩
theorem SrS.more (s : SrS B w T R a h k v tt op vo tc ov) (hk : k ≤ k') : SrS B w T R a h k' v tt op vo tc ov := ⟨s.x.more hk, s.q, s.m⟩
theorem SrS.rowO (s : SrS B w T R a h k v tt op vo tc ov) {i : Nat} (hi : i < op.length) : ∃ g c, v = .slice (some ⟨g, 0, none⟩) tt.length c ∧ g < w.heap.size ∧ ∃ t, tt[i]? = some t ∧ TalkAt eS w R t op[i].who op[i].cs op[i].rs ∧ ∀ j u, (encT t)[j]? = some u → w.cell? ⟨g, i * 5 + j, none⟩ = some u := by
 obtain ⟨t, h1, h2⟩ := s.m.eo i hi
 have hi' : i < tt.length := by rw [s.m.lo]; exact hi
 have hro := s.m.ro
 unfold RowAt at hro
 rcases hro.2 with ⟨_, h3⟩ | ⟨g, c, cur, h3, _, h4, h5, _, h6, h7⟩
 ·omega
 ·obtain ⟨A, c2, h8, h9⟩ := own_form hro
  rw [h3] at h8
  injection h8 with h8
  subst h8
  obtain ⟨b, off, e1, e2, e3⟩ := Rd.elt flatT_len h9 hi' (by omega)
  injection e1 with e1
  injection e1 with e1 e4
  subst e1
  subst e4
  have ht : tt[i] = t := by
   have := List.getElem?_eq_getElem hi'
   rw [h1] at this
   exact (Option.some.inj this).symm
  refine ⟨g, c, h3, e2, t, h1, h2, fun j u hu => ?_⟩
  rw [ht] at e3
  have := e3 j u hu
  rwa [Nat.zero_add] at this
theorem flatE_drop {α : Type} {enc : α → List Value} {n : Nat} (hk : ∀ x, (enc x).length = n) : ∀ (l : List α) (k : Nat), flatE enc (l.drop k) = (flatE enc l).drop (k * n)
 | l, 0 => by simp
 | [], k + 1 => by simp [flatE]
 | c :: l, k + 1 => by
  have ih := flatE_drop hk l k
  rw [List.drop_succ_cons, ih]
  unfold flatE
  rw [List.flatMap_cons, show (k + 1) * n = n + k * n by rw [Nat.add_mul]; omega, ← List.drop_drop, List.drop_left' (hk c)]
theorem flatE_take {α : Type} {enc : α → List Value} {n : Nat} (hk : ∀ x, (enc x).length = n) (l : List α) (k : Nat) : flatE enc (l.take k) = (flatE enc l).take (k * n) := by
 rcases Nat.lt_or_ge k l.length with c | c
 ·have h := flatE_append (enc := enc) (l.take k) (l.drop k)
  rw [List.take_append_drop] at h
  have h2 : (flatE enc (l.take k)).length = k * n := by rw [flatE_length hk, List.length_take, Nat.min_eq_left (by omega)]
  rw [h, List.take_left' h2]
 ·rw [List.take_of_length_le c, List.take_of_length_le]
  rw [flatE_length hk]
  exact Nat.mul_le_mul_right n c
theorem Rd.head {α : Type} {enc : α → List Value} {n : Nat} (hk : ∀ x, (enc x).length = n) {C : Nat} {A : Option Addr} {l : List α} (h : Rd w C A (flatE enc l)) (k : Nat) : Rd w C A (flatE enc (l.take k)) := fun hn => by
 obtain ⟨b, off, e1, e2, e3⟩ := h (fun e => hn (by rw [flatE_take hk, e]; simp))
 refine ⟨b, off, e1, e2, fun j u hu => e3 j u ?_⟩
 rw [flatE_take hk, List.getElem?_take] at hu
 split at hu
 ·exact hu
 ·cases hu
theorem Rd.tail {α : Type} {enc : α → List Value} {n : Nat} (hk : ∀ x, (enc x).length = n) {C b off : Nat} {l : List α} (h : Rd w C (some ⟨b, off, none⟩) (flatE enc l)) (k : Nat) : Rd w C (some ⟨b, off + k * n, none⟩) (flatE enc (l.drop k)) := fun hn => by
 obtain ⟨b', off', e1, e2, e3⟩ := h (fun e => hn (by rw [flatE_drop hk, e]; simp))
 injection e1 with e1
 injection e1 with e1 e4
 subst e1
 subst e4
 refine ⟨b, off + k * n, rfl, e2, fun j u hu => ?_⟩
 rw [flatE_drop hk, List.getElem?_drop] at hu
 rw [show off + k * n + j = off + (k * n + j) by omega]
 exact e3 _ u hu
theorem Rd.tailIf {α : Type} {enc : α → List Value} {n : Nat} (hk : ∀ x, (enc x).length = n) {C b c : Nat} {l : List α} (h : Rd w C (some ⟨b, 0, none⟩) (flatE enc l)) (k : Nat) (hc : l.length ≤ c) : Rd w C (if c = k then some ⟨b, 0, none⟩ else some ⟨b, k * n, none⟩) (flatE enc (l.drop k)) := by
 split
 ·rename_i e
  rw [List.drop_of_length_le (by omega)]
  exact Rd.nil
 ·have := Rd.tail hk h k
  rwa [Nat.zero_add] at this
theorem TpS.beside {E : List (PAns × Int) → List Bool} {S : Nat → Prop} (s : TpS E B w T R v tt op vo tc ov) (f : Fr S w w') (h1 : ∀ q, S q → ¬ R q) (h2 : ∀ q, S q → v.ownBlock ≠ some q) (h3 : ∀ q, S q → vo.ownBlock ≠ some q) : TpS E B w' T R v tt op vo tc ov :=
 ⟨s.lo, own_fr s.ro f (fun q e e2 => h2 q e2 e), fun i h => by
   obtain ⟨t, a, b⟩ := s.eo i h
   exact ⟨t, a, b.fr f (fun q e e2 => h1 q e2 e)⟩,
  s.lc, own_fr s.rc f (fun q e e2 => h3 q e2 e), fun i h => by
   obtain ⟨t, a, b, c⟩ := s.ec i h
   exact ⟨t, a, b.fr f (fun q e e2 => h1 q e2 e), c⟩, s.no, s.nc, s.dj, fun q e => ⟨(s.sep q e).1, by have := (s.sep q e).2.1; have := f.size; omega, (s.sep q e).2.2⟩⟩
theorem own_cap {w : World} {base size n : Nat} {e : TypeId} {A : Option Addr} {c : Nat} {xs : List Value} (h : w.ownsRow base e size (.slice A n c) n xs) : n ≤ c := by
 obtain ⟨A', c', e1, e2, _⟩ := own_form3 h
 injection e1 with e1 e3 e4
 omega
theorem TalkAt.num {E : List (PAns × Int) → List Bool} {t : TkV} {who : List UInt8} {cs : List PCall} {rs : List (PAns × Int)} (h : TalkAt E w R t who cs rs) (n : Int) : TalkAt E w R ⟨t.who, n, t.cv, t.tv, t.ev⟩ who cs rs := ⟨h.hwho, h.wl, h.len, h.ok, h.calls, h.told, h.errs⟩
theorem TalkAt.bel {E : List (PAns × Int) → List Bool} {t : TkV} {who : List UInt8} {cs : List PCall} {rs : List (PAns × Int)} (h : TalkAt E w R t who cs rs) (hb : Below w.heap.size w w') : TalkAt E w' R t who cs rs := h.fr (T := fun _ => False) (Fr.of_below hb) (fun _ _ q => q)
theorem TalkAt.form {t : TkV} {who : List UInt8} {cs : List PCall} {rs : List (PAns × Int)} (h : TalkAt eS w R t who cs rs) : ∃ Ac cc At ct Ae ce, t = ⟨who, t.n, .slice Ac cs.length cc, .slice At cs.length ct, .slice Ae cs.length ce⟩ ∧
  Rd w w.heap.size Ac (flatE encCl cs) ∧ Rd w w.heap.size Ae ((rs.map fun r => decide (r.2 ≠ 0)).map Value.bool) := by
 obtain ⟨twho, tn, cv, tv, ev⟩ := t
 have h1 : CallsAt w R cv cs := h.calls
 obtain ⟨us, h2, h3, _⟩ : AnssAt w R tv (rs.map Prod.fst) := h.told
 have h4 : ErrsAt w R ev (rs.map fun r => decide (r.2 ≠ 0)) := h.errs
 have hw : twho = who := h.hwho
 obtain ⟨Ac, cc, e1, r1⟩ := own_form h1.1
 obtain ⟨At, ct, e2, r2⟩ := own_form h3
 obtain ⟨Ae, ce, e3, r3⟩ := own_form h4.1
 subst hw
 subst e1
 subst e2
 subst e3
 refine ⟨Ac, cc, At, ct, Ae, ce, ?_, r1, r3⟩
 simp [h.len]
theorem encT_one {E : List (PAns × Int) → List Bool} {t : TkV} {who : List UInt8} {cs : List PCall} {rs : List (PAns × Int)} (h : TalkAt E w R t who cs rs) : ∀ u ∈ encT t, u.oneCell' = true := by
 obtain ⟨twho, tn, cv, tv, ev⟩ := t
 have h1 : CallsAt w R cv cs := h.calls
 obtain ⟨us, h2, h3, _⟩ : AnssAt w R tv (rs.map Prod.fst) := h.told
 have h4 : ErrsAt w R ev (E rs) := h.errs
 obtain ⟨Ac, cc, e1, r1⟩ := own_form h1.1
 obtain ⟨At, ct, e2, r2⟩ := own_form h3
 obtain ⟨Ae, ce, e3, r3⟩ := own_form h4.1
 subst e1
 subst e2
 subst e3
 intro u hu
 simp [encT] at hu
 rcases hu with rfl | rfl | rfl | rfl | rfl <;> rfl
theorem TpS.one {E : List (PAns × Int) → List Bool} (m : TpS E B w T R v tt op vo tc ov) : ∀ u ∈ flatE encT tt, u.oneCell' = true := by
 intro u hu
 obtain ⟨t, ht, hx⟩ := List.mem_flatMap.1 hu
 obtain ⟨i, hi, rfl⟩ := List.getElem_of_mem ht
 obtain ⟨t, h1, h2⟩ := m.eo i (by rw [← m.lo]; exact hi)
 rw [List.getElem?_eq_getElem hi] at h1
 rw [Option.some.inj h1] at hx
 exact encT_one h2 u hx
theorem one_take {tt : List TkV} (h : ∀ u ∈ flatE encT tt, u.oneCell' = true) (k : Nat) : ∀ u ∈ flatE encT (tt.take k), u.oneCell' = true := fun u hu => h u (by rw [flatE_take flatT_len] at hu; exact List.mem_of_mem_take hu)
theorem one_drop {tt : List TkV} (h : ∀ u ∈ flatE encT tt, u.oneCell' = true) (k : Nat) : ∀ u ∈ flatE encT (tt.drop k), u.oneCell' = true := fun u hu => h u (by rw [flatE_drop flatT_len] at hu; exact List.mem_of_mem_drop hu)
theorem SrS.opened (x : HK B w T a h k) (m : TpS eS B w T R v tt op vo tc ov) {who : List UInt8} (hw : who.length ≤ 9223372036854775807) {id : Int} (hq : HSer h 100000 (op ++ [⟨who, id, [], []⟩]) ov) (hB : B ≤ w.heap.size)
  (hown : w'.ownsRow 0 40 5 v' (tt.length + 1) (flatE encT tt ++ (#[txt who, .int .i64 0, .slice none 0 0, .slice none 0 0, .slice none 0 0] : Array Value).toList)) (hg : w.grownBy w' v.ownBlock) (hat : v'.ownBlock = v.ownBlock ∨ v'.ownBlock = some (w.heap.size + 1)) :
  SrS B w' T R a h k v' (tt ++ [⟨who, 0, .slice none 0 0, .slice none 0 0, .slice none 0 0⟩]) (op ++ [⟨who, id, [], []⟩]) vo tc ov := by
 have hf : Fr (fun q => v.ownBlock = some q) w w' := (Fr.refl _ w).grown hg (fun q e _ => e)
 exact ⟨x.far hf (fun q e => (m.no q e).2.1) (fun q e => (m.no q e).2.2), hq, m.opened rfl hB hw id hown hg hat x.lt⟩
end
theorem Srch.zero (op : List (Opn PCall (PAns × Int))) (who : List UInt8) : Srch op who 0 (-1) := .inl ⟨rfl, fun i h q => by omega⟩
theorem Srch.hit {op : List (Opn PCall (PAns × Int))} {who : List UInt8} {j : Nat} (h : j < op.length) (e : op[j].who = who) : Srch op who (j + 1) (j : Int) := .inr ⟨j, h, rfl, e⟩
theorem Srch.miss {op : List (Opn PCall (PAns × Int))} {who : List UInt8} {j : Nat} {kv : Int} (s : Srch op who j kv) (h : j < op.length) (e : op[j].who ≠ who) : Srch op who (j + 1) kv := by
 rcases s with ⟨s1, s2⟩ | s
 ·refine .inl ⟨s1, fun i hi q => ?_⟩
  rcases Nat.lt_or_ge i j with c | c
  ·exact s2 i hi c
  ·obtain rfl : i = j := by omega
   exact e
 ·exact .inr s
section
variable {ι α : Type} {P : ι → DP α} {isC : ι → α → Bool} {all : List (List Chg)} {ov : List (Ovr ι α)} {n turn i : Nat}
def mAt (isC : ι → α → Bool) (ov : List (Ovr ι α)) (n turn i : Nat) : Nat := if turn = 0 then n - 1 + (ov.take i).countP (isN isC n) else n
theorem mAt_zero : mAt isC ov 0 0 0 = 0 := by
 unfold mAt
 rw [if_pos rfl]
 simp
theorem mAt_turn (v : OvI P isC all ov) (hn : n ≤ all.length) : mAt isC ov n 0 ov.length = n := by
 unfold mAt
 rw [if_pos rfl, List.take_length]
 rcases Nat.eq_zero_or_pos n with rfl | h
 ·rw [List.countP_eq_zero.2]
  intro x hx q
  unfold isN at q
  simp only [Bool.and_eq_true, beq_iff_eq] at q
  obtain ⟨t, h1, h2, h3⟩ := v.each x hx
  have := (h2 q.2).1
  omega
 ·rw [v.one n h hn]
  omega
theorem mAt_1 {j : Nat} : mAt isC ov n 1 j = n := by
 unfold mAt
 rw [if_neg (by decide)]
theorem mAt_next : mAt isC ov (n + 1) 0 0 = n := by
 unfold mAt
 rw [if_pos rfl]
 simp
theorem count_snoc (hi : i < ov.length) : (ov.take (i + 1)).countP (isN isC n) = (ov.take i).countP (isN isC n) + if isN isC n ov[i] = true then 1 else 0 := by
 rw [List.take_succ_eq_append_getElem hi, List.countP_append, List.countP_singleton]
theorem mAt_skip (hi : i < ov.length) (h : ¬ (ov[i].n = n ∧ chgd isC ov[i].cs ov[i].rs = decide (turn = 0))) : mAt isC ov n turn (i + 1) = mAt isC ov n turn i := by
 unfold mAt
 by_cases ht : turn = 0
 ·rw [if_pos ht, if_pos ht, count_snoc hi, if_neg]
  ·rfl
  ·intro q
   unfold isN at q
   simp only [Bool.and_eq_true, beq_iff_eq] at q
   exact h ⟨q.1, by rw [q.2]; simp [ht]⟩
 ·rw [if_neg ht, if_neg ht]
theorem mAt_do (v : OvI P isC all ov) (hi : i < ov.length) (hn : n ≤ all.length) (h1 : ov[i].n = n) (h2 : chgd isC ov[i].cs ov[i].rs = decide (turn = 0)) :
  ∃ t : St, runL P (atN all (mAt isC ov n turn i)) ov[i].cs stZ = (ov[i].rs, t) ∧
   ((t.own = [] ∧ mAt isC ov n turn (i + 1) = mAt isC ov n turn i ∧ n = mAt isC ov n turn i) ∨ (t.own ≠ [] ∧ all[mAt isC ov n turn i]? = some t.own ∧ mAt isC ov n turn (i + 1) = mAt isC ov n turn i + 1 ∧ n = mAt isC ov n turn i + 1)) := by
 obtain ⟨t, d1, d2, d3⟩ := v.each ov[i] (List.getElem_mem hi)
 by_cases ht : turn = 0
 ·have hc : chgd isC ov[i].cs ov[i].rs = true := by rw [h2]; simp [ht]
  obtain ⟨e1, e2, e3, e4⟩ := d2 hc
  rw [h1] at e1 e2 e4
  have hN : isN isC n ov[i] = true := by unfold isN; rw [h1, hc]; simp
  have hcount : (ov.take i).countP (isN isC n) = 0 := by
   have a1 := count_snoc (isC := isC) (n := n) hi
   rw [if_pos hN] at a1
   have a2 : (ov.take (i + 1)).countP (isN isC n) ≤ ov.countP (isN isC n) := (List.take_sublist _ _).countP_le
   rw [v.one n e1 hn] at a2
   omega
  have hm : mAt isC ov n turn i = n - 1 := by
   unfold mAt
   rw [if_pos ht, hcount]
   rfl
  have hm2 : mAt isC ov n turn (i + 1) = n - 1 + 1 := by
   unfold mAt
   rw [if_pos ht, count_snoc hi, if_pos hN, hcount]
  refine ⟨t, by rw [hm]; exact e4, .inr ⟨e3, by rw [hm]; exact e2, by rw [hm2, hm], by rw [hm]; omega⟩⟩
 ·have hc : chgd isC ov[i].cs ov[i].rs = false := by rw [h2]; simp [ht]
  obtain ⟨e1, e2⟩ := d3 hc
  rw [h1] at e2
  have hm : ∀ j, mAt isC ov n turn j = n := fun j => by
   unfold mAt
   rw [if_neg ht]
  exact ⟨t, by rw [hm]; exact e2, .inl ⟨e1, by rw [hm, hm], (hm i).symm⟩⟩
theorem countP_add {γ : Type} {p q r : γ → Bool} (h : ∀ x, (if p x = true then 1 else 0) + (if q x = true then 1 else 0) ≤ (if r x = true then 1 else 0 : Nat)) : ∀ l : List γ, l.countP p + l.countP q ≤ l.countP r
 | [] => by simp
 | x :: l => by
  have ih := countP_add h l
  have hx := h x
  rw [List.countP_cons, List.countP_cons, List.countP_cons]
  omega
theorem OvI.len_le (v : OvI P isC all ov) : all.length ≤ ov.length := by
 have key : ∀ k, k ≤ all.length → k ≤ (ov.countP fun x => decide (1 ≤ x.n ∧ x.n ≤ k)) := by
  intro k
  induction k with
  | zero => intro _; omega
  | succ k ih =>
   intro hk
   have h1 := ih (by omega)
   have h2 := v.one (k + 1) (by omega) hk
   have h3 := countP_add (p := fun x : Ovr ι α => decide (1 ≤ x.n ∧ x.n ≤ k)) (q := isN isC (k + 1)) (r := fun x : Ovr ι α => decide (1 ≤ x.n ∧ x.n ≤ k + 1)) (fun x => by
    by_cases c : 1 ≤ x.n ∧ x.n ≤ k
    ·rw [if_pos (by simpa using c), if_neg (by unfold isN; simp; omega), if_pos (by simp; omega)]
     decide
    ·rw [if_neg (by simpa using c)]
     by_cases d : isN isC (k + 1) x = true
     ·rw [if_pos d, if_pos]
      ·decide
      ·unfold isN at d
       simp at d
       simp
       omega
     ·rw [if_neg d]
      omega) ov
   omega
 have := key all.length (Nat.le_refl _)
 have h2 : (ov.countP fun x => decide (1 ≤ x.n ∧ x.n ≤ all.length)) ≤ ov.length := List.countP_le_length
 omega
end
structure HAk (h : Hl) (all : List (List Chg)) (m : Nat) (who : List UInt8) (cs : List PCall) (k : Nat) : Prop where
 ex : ∃ t, HAr h 100000 all m who t ∧ t.st = (runL doP (atN all m) (cs.take k) stZ).2
section
variable {h : Hl} {all : List (List Chg)} {m : Nat} {who : List UInt8} {cs : List PCall} {rs : List (PAns × Int)} {k : Nat} {t : St}
theorem HAl.openK (q : HAl h 100000 all m) (hw : nameB who = true) (cs : List PCall) : (h.open who).1 = 0 ∧ HAk (h.open who).2 all m who cs 0 := by
 obtain ⟨a, t, b, c⟩ := q.open hw
 exact ⟨a, t, b, by rw [c]; rfl⟩
theorem HAk.ask (q : HAk h all m who cs k) (hk : k < cs.length) (hr : runL doP (atN all m) cs stZ = (rs, t)) (hl : rs.length = cs.length) :
  ((h.ask who cs[k]).1, (h.ask who cs[k]).2.1) = rs[k]'(by omega) ∧ HAk (h.ask who cs[k]).2.2 all m who cs (k + 1) := by
 obtain ⟨tr, a, b⟩ := q.ex
 obtain ⟨c, d⟩ := a.ask cs[k]
 obtain ⟨e1, e2⟩ := runL_at doP (atN all m) cs stZ k hk
 rw [hr] at e2
 simp only at e2
 rw [List.getElem?_eq_getElem (by omega)] at e2
 injection e2 with e2
 refine ⟨by rw [c, e2, b], ⟨_, d, ?_⟩⟩
 show ((doP cs[k]).runS (atN all m) tr.st).2 = _
 rw [e1, b]
theorem HAk.close (q : HAk h all m who cs cs.length) (hr : runL doP (atN all m) cs stZ = (rs, t)) (h1 : ∀ l ∈ all, chgFault l = 0) (h2 : ((frames all).length : Int) ≤ 100000) {n m' : Nat}
  (hw : (t.own = [] ∧ m' = m ∧ n = m) ∨ (t.own ≠ [] ∧ all[m]? = some t.own ∧ m' = m + 1 ∧ n = m + 1)) : (h.close who).1 = (n : Int) ∧ (h.close who).2.1 = 0 ∧ HAl (h.close who).2.2 100000 all m' := by
 obtain ⟨tr, a, b⟩ := q.ex
 rw [List.take_length, hr] at b
 have b : tr.st = t := b
 have hown : tr.own = t.own := by rw [← b]; rfl
 obtain ⟨c, d⟩ := a.close
 rcases hw with ⟨w1, rfl, rfl⟩ | ⟨w1, w2, rfl, rfl⟩
 ·exact c (by rw [hown]; exact w1)
 ·exact d h1 h2 (by rw [hown]; exact w1) (by rw [hown]; exact w2)
end
structure SzS (op : List (Opn PCall (PAns × Int))) (ov : List (Ovr PCall (PAns × Int))) (k : Nat) : Prop where
 lo : op.length ≤ k
 lv : ov.length ≤ k
 co : ∀ x ∈ op, x.cs.length ≤ k
 cv : ∀ x ∈ ov, x.cs.length ≤ k
theorem cut_len {n i : Nat} (h : i < n) (h60 : n ≤ 60) : i + (n - (i + 1)) ≤ maxLen ∧ (i + (n - (i + 1))) * 96 ≤ 140737488355328 := by
 unfold maxLen
 omega
theorem cut_len0 {n i : Nat} (h : i < n) (h60 : n ≤ 60) : 0 + i ≤ maxLen ∧ (0 + i) * 96 ≤ 140737488355328 := by
 unfold maxLen
 omega
theorem cut_erase {α : Type} {l : List α} {i : Nat} (h : i < l.length) : i + (l.length - (i + 1)) = (l.eraseIdx i).length := by
 rw [List.length_eraseIdx, if_pos h]
 omega
section
variable {op : List (Opn PCall (PAns × Int))} {ov : List (Ovr PCall (PAns × Int))} {k : Nat}
theorem SzS.new : SzS [] [] 0 := ⟨Nat.le_refl _, Nat.le_refl _, fun x h => (by cases h), fun x h => (by cases h)⟩
theorem SzS.more (s : SzS op ov k) : SzS op ov (k + 1) := ⟨Nat.le_succ_of_le s.lo, Nat.le_succ_of_le s.lv, fun x h => Nat.le_succ_of_le (s.co x h), fun x h => Nat.le_succ_of_le (s.cv x h)⟩
theorem SzS.upto {k' : Nat} (s : SzS op ov k) (h : k ≤ k') : SzS op ov k' := ⟨Nat.le_trans s.lo h, Nat.le_trans s.lv h, fun x q => Nat.le_trans (s.co x q) h, fun x q => Nat.le_trans (s.cv x q) h⟩
theorem SzS.open (s : SzS op ov k) (who : List UInt8) (id : Int) : SzS (op ++ [⟨who, id, [], []⟩]) ov (k + 1) :=
 ⟨by have := s.lo; simp; omega, Nat.le_succ_of_le s.lv, fun x h => by
  rcases List.mem_append.1 h with h | h
  ·exact Nat.le_succ_of_le (s.co x h)
  ·simp at h; subst h; exact Nat.zero_le _, fun x h => Nat.le_succ_of_le (s.cv x h)⟩
theorem SzS.drop (s : SzS op ov k) (i : Nat) : SzS (op.eraseIdx i) ov (k + 1) :=
 ⟨by have := s.lo; have := List.length_eraseIdx_le op i; omega, Nat.le_succ_of_le s.lv, fun x h => Nat.le_succ_of_le (s.co x (List.mem_of_mem_eraseIdx h)), fun x h => Nat.le_succ_of_le (s.cv x h)⟩
theorem SzS.close (s : SzS op ov k) {i : Nat} (hi : i < op.length) (who : List UInt8) (n : Nat) (rs : List (PAns × Int)) : SzS (op.eraseIdx i) (ov ++ [⟨who, n, op[i].cs, rs⟩]) (k + 1) :=
 ⟨(s.drop i).lo, by have := s.lv; simp; omega, (s.drop i).co, fun x h => by
  rcases List.mem_append.1 h with h | h
  ·exact Nat.le_succ_of_le (s.cv x h)
  ·simp at h; subst h; exact Nat.le_succ_of_le (s.co _ (List.getElem_mem hi))⟩
theorem SzS.ask (s : SzS op ov k) {i : Nat} (hi : i < op.length) (who : List UInt8) (id : Int) (c : PCall) (rs : List (PAns × Int)) : SzS (op.set i ⟨who, id, op[i].cs ++ [c], rs⟩) ov (k + 1) :=
 ⟨by have := s.lo; simp; omega, Nat.le_succ_of_le s.lv, fun x h => by
  rcases List.mem_or_eq_of_mem_set h with h | rfl
  ·exact Nat.le_succ_of_le (s.co x h)
  ·have := s.co _ (List.getElem_mem hi)
   simp
   omega, fun x h => Nat.le_succ_of_le (s.cv x h)⟩
end
section
variable {E : List (PAns × Int) → List Bool} {B C : Nat} {w w' : World} {T T' R : Nat → Prop} {a k k' : Nat} {h h' : Hl} {v vo v' : Value} {tt tc : List TkV} {op op' : List (Opn PCall (PAns × Int))} {ov ov' : List (Ovr PCall (PAns × Int))}
theorem TalkAt.as {t : TkV} {who who' : List UInt8} {cs : List PCall} {rs : List (PAns × Int)} (h : TalkAt E w R t who cs rs) (e : who = who') : TalkAt E w R t who' cs rs := e ▸ h
theorem own_blk3 {v : Value} {base size n : Nat} {e : TypeId} {xs : List Value} (h : w.ownsRow base e size v n xs) (hn : xs ≠ []) : ∃ (g c : Nat) (cur : Array Value), v = .slice (some ⟨g, 0, none⟩) n c ∧ base ≤ g ∧ Blk w g e cur ∧ ∀ (j : Nat) (u : Value), xs[j]? = some u → cur[j]? = some u := by
 rcases h.2 with ⟨_, h3⟩ | ⟨g, c, cur, h3, h4, h5, _, _, h6, h7⟩
 ·exact absurd (List.eq_nil_of_length_eq_zero (by rw [h.1, h3, Nat.zero_mul])) hn
 ·refine ⟨g, c, cur, h3, h4, h5, fun j u hu => ?_⟩
  rw [← h7, List.getElem?_take] at hu
  split at hu
  ·rw [← hu, Array.getElem?_toList]
  ·cases hu
theorem TpS.rowI (s : TpS E B w T R v tt op vo tc ov) {i : Nat} (hi : i < op.length) : ∃ g c, v = .slice (some ⟨g, 0, none⟩) tt.length c ∧ g < w.heap.size ∧ ∃ t, tt[i]? = some t ∧ TalkAt E w R t op[i].who op[i].cs op[i].rs ∧ (∀ j u, (encT t)[j]? = some u → w.cell? ⟨g, i * 5 + j, none⟩ = some u) ∧ ∀ j, w.frozen? ⟨g, j, none⟩ = false := by
 obtain ⟨t, h1, h2⟩ := s.eo i hi
 have hi' : i < tt.length := by rw [s.lo]; exact hi
 have hro := s.ro
 unfold RowAt at hro
 have hne : flatE encT tt ≠ [] := fun e => by
  have := flatE_length flatT_len tt
  rw [e] at this
  simp at this
  omega
 obtain ⟨g, c, cur, e1, e2, e3, e4⟩ := own_blk3 hro hne
 obtain ⟨A, c2, e5, e6⟩ := own_form hro
 rw [e1] at e5
 injection e5 with e5
 subst e5
 obtain ⟨b, off, f1, f2, f3⟩ := Rd.elt flatT_len e6 hi' (by omega)
 injection f1 with f1
 injection f1 with f1 f4
 subst f1
 subst f4
 have ht : tt[i] = t := by
  have := List.getElem?_eq_getElem hi'
  rw [h1] at this
  exact (Option.some.inj this).symm
 refine ⟨g, c, e1, f2, t, h1, h2, fun j u hu => ?_, fun j => e3.frozen j⟩
 rw [ht] at f3
 have := f3 j u hu
 rwa [Nat.zero_add] at this
theorem TpS.rowV {Ao : Option Addr} {co : Nat} (s : TpS E B w T R v tt op (.slice Ao tc.length co) tc ov) {i : Nat} (hi : i < ov.length) : ∃ b0 f0 t, Ao = some ⟨b0, f0, none⟩ ∧ b0 < w.heap.size ∧ tc[i]? = some t ∧ TalkAt E w R t ov[i].who ov[i].cs ov[i].rs ∧ t.n = (ov[i].n : Int) ∧ ∀ j u, (encT t)[j]? = some u → w.cell? ⟨b0, f0 + i * 5 + j, none⟩ = some u := by
 obtain ⟨t, h1, h2, h3⟩ := s.ec i hi
 have hi' : i < tc.length := by rw [s.lc]; exact hi
 have hrc := s.rc
 unfold RowAt at hrc
 obtain ⟨A, c, e1, e2⟩ := own_form hrc
 injection e1 with e1
 subst e1
 obtain ⟨b, off, f1, f2, f3⟩ := Rd.elt flatT_len e2 hi' (by omega)
 have ht : tc[i] = t := by
  have := List.getElem?_eq_getElem hi'
  rw [h1] at this
  exact (Option.some.inj this).symm
 refine ⟨b, off, t, f1, f2, h1, h2, h3, fun j u hu => ?_⟩
 rw [ht] at f3
 rw [Nat.add_assoc]
 exact f3 j u hu
theorem AnssAt.at {A : Option Addr} {n c : Nat} {al : List PAns} (h : AnssAt w R (.slice A n c) al) {i : Nat} (hi : i < al.length) :
  ∃ b off A2 c2, A = some ⟨b, off, none⟩ ∧ b < w.heap.size ∧ w.cell? ⟨b, off + i * 5, none⟩ = some (.int .i64 al[i].pa) ∧ w.cell? ⟨b, off + i * 5 + 1, none⟩ = some (.int .i64 al[i].pn) ∧ w.cell? ⟨b, off + i * 5 + 2, none⟩ = some (.int .i64 al[i].ad) ∧
   w.cell? ⟨b, off + i * 5 + 3, none⟩ = some (txt al[i].owner) ∧ w.cell? ⟨b, off + i * 5 + 4, none⟩ = some (.slice A2 al[i].list.length c2) ∧ Rd w w.heap.size A2 (cellsP al[i].list) := by
 obtain ⟨us, h1, h2, _, h4⟩ := h
 obtain ⟨u, u1, u2, _⟩ := h4 i hi
 obtain ⟨A2, c2, e1, e2⟩ := u2.form
 obtain ⟨A', c', e3, e4⟩ := own_form h2
 injection e3 with e3
 subst e3
 have hz : i < (al.zip us).length := by rw [List.length_zip]; omega
 obtain ⟨b, off, f1, f2, f3⟩ := Rd.elt flatAn_len e4 hz (by omega)
 have hiu : i < us.length := by omega
 have hz2 : (al.zip us)[i] = (al[i], us[i]) := List.getElem_zip
 have hu : us[i] = u := by
  rw [List.getElem?_eq_getElem hiu] at u1
  exact Option.some.inj u1
 rw [hz2, hu, e1] at f3
 simp only [← Nat.add_assoc] at f3
 exact ⟨b, off, A2, c2, f1, f2, f3 0 _ rfl, f3 1 _ rfl, f3 2 _ rfl, f3 3 _ rfl, f3 4 _ rfl, e2⟩
theorem CallsAt.at {A : Option Addr} {n c : Nat} {cs : List PCall} (h : CallsAt w R (.slice A n c) cs) {i : Nat} (hi : i < cs.length) :
  ∃ b off, A = some ⟨b, off, none⟩ ∧ b < w.heap.size ∧ ∀ j u, (encCl cs[i])[j]? = some u → w.cell? ⟨b, off + i * 7 + j, none⟩ = some u := by
 obtain ⟨A', c', e3, e4⟩ := own_form h.1
 injection e3 with e3
 subst e3
 obtain ⟨b, off, f1, f2, f3⟩ := Rd.elt flatCl_len e4 hi (by omega)
 exact ⟨b, off, f1, f2, fun j u hu => by rw [Nat.add_assoc]; exact f3 j u hu⟩
theorem ErrsAt.at {A : Option Addr} {n c : Nat} {es : List Bool} (h : ErrsAt w R (.slice A n c) es) {i : Nat} (hi : i < es.length) :
  ∃ b off, A = some ⟨b, off, none⟩ ∧ b < w.heap.size ∧ w.cell? ⟨b, off + i, none⟩ = some (.bool es[i]) := by
 obtain ⟨A', c', e3, e4⟩ := own_form h.1
 injection e3 with e3
 subst e3
 obtain ⟨b, off, f1, f2, f3⟩ := e4 (fun e => by have := congrArg List.length e; simp at this; rw [this] at hi; simp at hi)
 exact ⟨b, off, f1, f2, f3 i _ (by simp [hi])⟩
theorem TalkAt.asked {t : TkV} {who : List UInt8} {cs : List PCall} {rs : List (PAns × Int)} {c : PCall} {r : PAns × Int} {cv tv ev u : Value} {us : List Value} {b1 b2 : Nat} (h : TalkAt E w R t who cs rs) (hc : CallW c)
  (h1 : w.ownsRow b1 33 7 cv (cs.length + 1) (flatE encCl cs ++ encCl c)) (i1 : BIn R cv)
  (h2 : us.length = rs.length) (h3 : ∀ i (h : i < (rs.map Prod.fst).length), ∃ u, us[i]? = some u ∧ OwnP w 0 31 u (rs.map Prod.fst)[i].list ∧ BIn R u)
  (h4 : w.ownsRow b2 46 5 tv (cs.length + 1) (flatE encAn ((rs.map Prod.fst).zip us) ++ encAn (r.1, u))) (i2 : BIn R tv) (h5 : OwnP w 0 31 u r.1.list) (i3 : BIn R u)
  (h6 : ErrsAt w R ev (E (rs ++ [r]))) : TalkAt E w R ⟨t.who, t.n, cv, tv, ev⟩ who (cs ++ [c]) (rs ++ [r]) := by
 have hl := h.len
 refine ⟨h.hwho, h.wl, by simp [hl], fun x hx => ?_, ?_, ?_, h6⟩
 ·rcases List.mem_append.1 hx with hx | hx
  ·exact h.ok x hx
  ·simp at hx; subst hx; exact hc
 ·refine ⟨?_, i1⟩
  rw [flatE_append, List.length_append, List.length_singleton, show flatE encCl [c] = encCl c by simp [flatE]]
  exact own_of_base h1 (Nat.zero_le _)
 ·refine ⟨us ++ [u], by simp [h2], ?_, i2, fun i hi => ?_⟩
  ·have e : ((rs ++ [r]).map Prod.fst).zip (us ++ [u]) = (rs.map Prod.fst).zip us ++ [(r.1, u)] := by
    rw [List.map_append, List.zip_append (by simp [h2])]
    rfl
   rw [e, flatE_append, show flatE encAn [(r.1, u)] = encAn (r.1, u) by simp [flatE], List.length_map, List.length_append, List.length_singleton, hl]
   exact own_of_base h4 (Nat.zero_le _)
  ·rw [List.length_map, List.length_append, List.length_singleton] at hi
   rcases Nat.lt_or_ge i rs.length with q | q
   ·obtain ⟨y, y1, y2, y3⟩ := h3 i (by simpa using q)
    refine ⟨y, by rw [List.getElem?_append_left (by omega)]; exact y1, ?_, y3⟩
    have : ((rs ++ [r]).map Prod.fst)[i]'(by simp; omega) = (rs.map Prod.fst)[i]'(by simpa using q) := by simp [q]
    rw [this]
    exact y2
   ·obtain rfl : i = rs.length := by omega
    refine ⟨u, by rw [← h2, List.getElem?_append_right (Nat.le_refl _), Nat.sub_self]; rfl, ?_, i3⟩
    have : ((rs ++ [r]).map Prod.fst)[rs.length]'(by simp) = r.1 := by simp
    rw [this]
    exact h5
theorem TpS.askedAll {g c : Nat} {w8 w14 : World} (s : TpS E B w8 T R (.slice (some ⟨g, 0, none⟩) tt.length c) tt op vo tc ov) (hB : B ≤ w8.heap.size) (hT : ∀ q, T q → q < w8.heap.size) {k : Nat} (hk : k < tt.length)
  {t : TkV} {who : List UInt8} {id : Int} {cs : List PCall} {rs : List (PAns × Int)} {us : List Value} (ht : tt[k]? = some t) (htk : TalkAt E w8 R t who cs rs) {cl : PCall} (hcl : CallW cl) {r : PAns × Int} {u : Value} (hu : OwnP w8 0 31 u r.1.list)
  (hu2 : ∀ q, u.ownBlock = some q → ¬ T q ∧ B ≤ q ∧ g ≠ q ∧ vo.ownBlock ≠ some q)
  (h2 : us.length = rs.length) (h3 : ∀ i (h : i < (rs.map Prod.fst).length), ∃ u, us[i]? = some u ∧ OwnP w8 0 31 u (rs.map Prod.fst)[i].list ∧ BIn R u)
  (hb : Below w8.heap.size w8 w14) {cv tv ev : Value} (hcv : w14.ownsRow w8.heap.size 33 7 cv (cs.length + 1) (flatE encCl cs ++ encCl cl))
  (htv : w14.ownsRow w8.heap.size 46 5 tv (cs.length + 1) (flatE encAn ((rs.map Prod.fst).zip us) ++ encAn (r.1, u)))
  (hev : w14.ownsRow w8.heap.size 4 1 ev (E (rs ++ [r])).length ((E (rs ++ [r])).map .bool)) :
  ∃ R', TpS E B (((w14.setCell ⟨g, k * 5 + 2, none⟩ cv).setCell ⟨g, k * 5 + 3, none⟩ tv).setCell ⟨g, k * 5 + 4, none⟩ ev) T R' (.slice (some ⟨g, 0, none⟩) tt.length c) (tt.set k ⟨t.who, t.n, cv, tv, ev⟩) (op.set k ⟨who, id, cs ++ [cl], rs ++ [r]⟩) vo tc ov := by
 have htt : tt[k] = t := by
  rw [List.getElem?_eq_getElem hk] at ht
  exact Option.some.inj ht
 have hgv := (s.no g rfl)
 have hgl : g < w8.heap.size := own_bq s.ro g rfl
 have hsz := hb.size
 have lt1 := fun q e => World.ownsRow.lt hcv q e
 have lt2 := fun q e => World.ownsRow.lt htv q e
 have lt3 := fun q e => World.ownsRow.lt hev q e
 have hul := fun q e => World.ownsRow.lt hu q e
 obtain ⟨R', hR'⟩ : ∃ R' : Nat → Prop, R' = fun q => R q ∨ u.ownBlock = some q ∨ (w8.heap.size ≤ q ∧ q < w14.heap.size) := ⟨_, rfl⟩
 have s2 : TpS E B w14 T R' (.slice (some ⟨g, 0, none⟩) tt.length c) tt op vo tc ov := by
  refine (s.bel hb).widen (fun q e => by rw [hR']; exact .inl e) (fun q e => ?_)
  rw [hR'] at e
  rcases e with e | e | e
  ·exact .inl e
  ·have h1 := hu2 q e
   have h4 := (hul q e).2
   exact .inr ⟨h1.1, by omega, h1.2.1, fun e2 => by injection e2 with e2; exact h1.2.2.1 e2, h1.2.2.2⟩
  ·refine .inr ⟨fun e2 => by have := hT q e2; omega, e.2, by omega, fun e2 => by injection e2 with e2; have e2 : g = q := e2; omega, fun e2 => by have := own_bq s.rc q e2; omega⟩
 have tk14 : TalkAt E w14 R' t who cs rs := (htk.bel hb).mono (fun q e => by rw [hR']; exact .inl e)
 have hu14 : OwnP w14 0 31 u r.1.list := hu.below hb
 have hn1 : ∀ q, R' q → q ≠ g := fun q e e2 => by
  subst e2
  rw [hR'] at e
  rcases e with e | e | e
  ·exact hgv.1 e
  ·exact (hu2 q e).2.2.1 rfl
  ·omega
 subst htt
 refine ⟨R', s2.asked (Nat.le_trans hB hsz) (fun q e => Nat.lt_of_lt_of_le (hT q e) hsz) hk (x := ⟨who, id, cs ++ [cl], rs ++ [r]⟩) (fun w' f => ?_)⟩
 have hin : ∀ {x : Value}, (∀ q, x.ownBlock = some q → w8.heap.size ≤ q ∧ q < w14.heap.size) → BIn R' x := fun hx q e => by rw [hR']; exact .inr (.inr (hx q e))
 have i1 := hin (x := cv) lt1
 have i2 := hin (x := tv) lt2
 have i4 := hin (x := ev) lt3
 have i3 : BIn R' u := fun q e => by rw [hR']; exact .inr (.inl e)
 have fr : ∀ {x : Value} {base size n : Nat} {e : TypeId} {xs : List Value}, w14.ownsRow base e size x n xs → BIn R' x → w'.ownsRow base e size x n xs := fun h hi => own_fr h f (fun q e => hn1 q (hi q e))
 refine TalkAt.asked (E := E) (us := us) (u := u) (tk14.fr f (fun q e => hn1 q e)) hcl (fr hcv i1) i1 h2 (fun i hi => ?_) (fr htv i2) i2 (fr hu14 i3) i3 ⟨own_of_base (fr hev i4) (Nat.zero_le _), i4⟩
 obtain ⟨y, y1, y2, y3⟩ := h3 i hi
 have y4 : BIn R' y := fun q e => by rw [hR']; exact .inl (y3 q e)
 exact ⟨y, y1, fr (y2.below hb) y4, y4⟩
theorem one_calls' (cs : List PCall) : ∀ u ∈ flatE encCl cs, u.oneCell' = true := by
 intro u hu
 obtain ⟨c, _, hx⟩ := List.mem_flatMap.1 hu
 simp [encCl] at hx
 rcases hx with rfl | rfl | rfl | rfl | rfl | rfl | rfl <;> rfl
theorem one_anss {al : List PAns} {us : List Value} (hl : al.length = us.length) (h : ∀ i, i < al.length → ∃ u, us[i]? = some u ∧ u.oneCell' = true) : ∀ u ∈ flatE encAn (al.zip us), u.oneCell' = true := by
 intro u hu
 obtain ⟨p, hp, hx⟩ := List.mem_flatMap.1 hu
 obtain ⟨i, hi, rfl⟩ := List.getElem_of_mem hp
 have hi' : i < al.length := by rw [List.length_zip] at hi; omega
 obtain ⟨y, y1, y2⟩ := h i hi'
 rw [List.getElem?_eq_getElem (by omega)] at y1
 have y1 := Option.some.inj y1
 rw [List.getElem_zip] at hx
 simp [encAn] at hx
 rcases hx with rfl | rfl | rfl | rfl | rfl
 ·rfl
 ·rfl
 ·rfl
 ·rfl
 ·rw [y1]; exact y2
theorem own_max {base size n : Nat} {e : TypeId} {xs : List Value} (h : w.ownsRow base e size v n xs) : n ≤ maxLen := by
 rcases h.2 with ⟨_, h3⟩ | ⟨g, c, cur, _, _, _, h4, h5, _⟩
 ·omega
 ·exact Nat.le_trans h4 h5
theorem alone_all {h h2 : Hl} {L L2 : List KV} (s : SerG h.d 100000) (q : HAl h2 100000 h.d.all h.d.all.length) (h1 : RangeIs h.d.F [] topKey h.d.last L) (h2' : RangeIs h2.d.F [] topKey h2.d.last L2) : L2 = L := by
 have e1 : h2.d.F = h.d.F := by rw [q.g.F, s.F]
 have e2 : h2.d.last = h.d.last := by rw [q.g.last]; rfl
 rw [e1, e2] at h2'
 exact h2'.ext h1 (fun _ _ => rfl)
theorem HK.ask_hE (o : HK B w T a h k) (hk : k ≤ 30000) (who : List UInt8) (hw : who.length ≤ 9223372036854775807) (c : PCall) (hc : CallW c) {an : PAns} {fa : Int} (e : ((h.ask who c).1, (h.ask who c).2.1) = (an, fa)) :
  Calls Tryz.prog 10 #[ptrV a, txt who, CallV c] w fun e w' => ∃ v, e = .returned (.tuple #[AnsV v an, faultV fa]) ∧ OwnP w' w.heap.size 31 v an.list ∧ ∃ T', (∀ q, v.ownBlock = some q → ¬ T' q) ∧ HKto B w T a w' T' (h.ask who c).2.2 k := by
 injection e with e1 e2
 subst e1
 subst e2
 exact o.ask_h hk who hw c hc
structure Alo (B C : Nat) (w : World) (T : Nat → Prop) (a : Nat) (h : Hl) (k : Nat) : Prop where
 hk : HK B w T a h k
 ab : ∀ q, T q → C ≤ q
 le : C ≤ w.heap.size
theorem Alo.step (o : Alo B C w T a h k) (s : HKto B w T a w' T' h' k') : Alo B C w' T' a h' k' ∧ Below C w w' :=
 ⟨⟨s.hk, fun q e => (s.new q e).elim (o.ab q) (fun e2 => Nat.le_trans o.le e2), Nat.le_trans o.le s.size⟩, s.fr.below o.le o.ab⟩
theorem Alo.bel (o : Alo B C w T a h k) (hb : Below w.heap.size w w') : Alo B C w' T a h k := ⟨o.hk.bel hb, o.ab, Nat.le_trans o.le hb.size⟩
theorem Alo.more (o : Alo B C w T a h k) (hk : k ≤ k') : Alo B C w T a h k' := ⟨o.hk.more hk, o.ab, o.le⟩
end
end Go.Proofs.YtkckcbhnnllkhaaGreatDoor
