/- Both logs, the program's and the document's, side by side: what each call makes of both. No conditions. -/
import Derived.Test.YtdcjogofjniogaaDoorRefLog3
import Derived.Test.YtdcjogofjniogaaDoorRefLog4
import Derived.Test.YtdcjogofjniogaaDoorLog6
import Derived.Test.YtdcjogofjniogaaDoorErr2
namespace Go.Proofs.YtdcjogofjniogaaDoor
set_option linter.unusedVariables false
set_option linter.unusedSimpArgs false
open Go.RowKit

/-- Both logs tell the same lists. -/
structure PlayAt (w : World) (b0 g m : Nat) (v vl ve vb : Value) (left left2 : Int) (down : Bool) (room : Int) (ls : List (List Chg)) (B : List UInt8) (safe ns : Nat) : Prop where
  hL : LogAt w b0 g v left down room B safe
  hR : RefAt w b0 m vl ve vb left2 down room ls B safe
  hne : ∀ k, v.ownBlock = some k → vb.ownBlock ≠ some k
  hI : LInv down B safe ls ns
  hlf : down = false → left = left2
def Play (w : World) (b0 g m : Nat) (room : Int) (ls : List (List Chg)) (B : List UInt8) (safe : Nat) : Prop := ∃ v vl ve vb left left2 down ns, PlayAt w b0 g m v vl ve vb left left2 down room ls B safe ns
section
variable {w w' : World} {b0 g m : Nat} {v vl ve vb : Value} {left left2 room : Int} {down : Bool} {ls : List (List Chg)} {B : List UInt8} {safe ns : Nat}
theorem PlayAt.below (h : PlayAt w b0 g m v vl ve vb left left2 down room ls B safe ns) (hb : Below w.heap.size w w') : PlayAt w' b0 g m v vl ve vb left left2 down room ls B safe ns :=
  ⟨h.hL.below hb, h.hR.below hb, h.hne, h.hI, h.hlf⟩
theorem Play.below (h : Play w b0 g m room ls B safe) (hb : Below w.heap.size w w') : Play w' b0 g m room ls B safe := by
  obtain ⟨v, vl, ve, vb, left, left2, down, ns, h⟩ := h
  exact ⟨v, vl, ve, vb, left, left2, down, ns, h.below hb⟩
theorem LInv.full (h : LInv false B safe ls ns) : (frames ls).length = B.length := by
  obtain ⟨_, _, _, t, h4, _, h6⟩ := h
  obtain rfl := h6 rfl
  rw [h4]; simp
/-- Between the calls of the two logs. -/
def Mid (w w1 : World) (b0 g m : Nat) (room : Int) (q : World → (Ending → World → Prop) → Prop) (n : Int) : Prop :=
  Below b0 w w1 ∧ b0 ≤ w1.heap.size ∧ ∀ w2, Below w1.heap.size w1 w2 → q w2 fun e' w3 => e' = .returned (errOf n) ∧ Below b0 w w3 ∧ ∃ ls' B' safe', Play w3 b0 g m room ls' B' safe'
theorem errOf_ne {k : Int} (h : k ≠ 0) : errOf k = .iface 31 (.int .i64 k) := by unfold errOf; rw [if_neg h]

theorem PlayAt.append (h : PlayAt w b0 g m v vl ve vb left left2 down room ls B safe ns) (A : Option Addr) (l : List Chg) (c : Nat) (hm : l.length ≤ maxLen) (hS : Small l) (hA : Rd w b0 A (cellsC l)) :
    Calls Tryd.prog 16 #[.pointer (some ⟨m, 0, none⟩), .slice A l.length c] w fun e w1 => ∃ n, e = .returned (.int .i64 n) ∧
      Mid w w1 b0 g m room (Calls Tryd.prog 8 #[.pointer (some ⟨g, 0, none⟩), .slice A l.length c]) n := by
  obtain ⟨h1, h2, h3, h4, h5⟩ := h
  have hb := h1.hb
  by_cases hf : chgFault l = 0
  · by_cases hr : room < (B.length : Int) + 2 + ((encL l).length : Int)
    · refine (h2.append_full A l c hm hS hf hA hr).mono ?_
      rintro e w1 ⟨rfl, q⟩
      refine ⟨3, rfl, q.mono hb, Nat.le_trans hb q.size, fun w2 q2 => ?_⟩
      have q3 := q.trans (q2.mono q.size)
      refine ((h1.below q3).append_full A l c hm hS hf ((hA.below (q3.mono hb)).more (Nat.le_trans hb q3.size)) hr).mono ?_
      rintro e w3 ⟨rfl, q4⟩
      exact ⟨rfl, (q3.trans (q4.mono q3.size)).mono hb, ls, B, safe, v, vl, ve, vb, left, left2, down, ns, (PlayAt.mk h1 h2 h3 h4 h5).below (q3.trans (q4.mono q3.size))⟩
    · cases down with
      | true =>
        refine (h2.append_down A l c hm hS hf hA hr).mono ?_
        rintro e w1 ⟨rfl, q⟩
        refine ⟨8, rfl, q.mono hb, Nat.le_trans hb q.size, fun w2 q2 => ?_⟩
        have q3 := q.trans (q2.mono q.size)
        refine ((h1.below q3).append_down A l c hm hS hf ((hA.below (q3.mono hb)).more (Nat.le_trans hb q3.size)) hr).mono ?_
        rintro e w3 ⟨rfl, q4⟩
        exact ⟨rfl, (q3.trans (q4.mono q3.size)).mono hb, ls, B, safe, v, vl, ve, vb, left, left2, true, ns, (PlayAt.mk h1 h2 h3 h4 h5).below (q3.trans (q4.mono q3.size))⟩
      | false =>
        obtain rfl := h5 rfl
        have hfr := h4.full
        by_cases h0 : left = 0
        · subst h0
          refine (h2.append_off A l c hm hS hf hA hr).mono ?_
          rintro e w1 ⟨rfl, vl', ve', vb', r1, r2, r3⟩
          have k1 := h1.keepRK h2 r2 h3
          have hbw := h2.rkBelow r2
          refine ⟨8, rfl, hbw, k1.hb, fun w2 q2 => ?_⟩
          have k2 := k1.below q2
          have r4 := r1.below q2
          have hb2 : Below b0 w w2 := hbw.trans (q2.mono k1.hb)
          have hne2 : ∀ k, v.ownBlock = some k → vb'.ownBlock ≠ some k := fun k hv hv' => h3 k hv (r3 k hv' (h1.ho.lt k hv).2)
          refine (k2.append_off A l c hm hS hf ((hA.below hb2).more k2.hb) hr).mono ?_
          rintro e w3 ⟨rfl, v', p1, p2, p3⟩
          have r5 := r4.keepLK k2 p2 hne2
          exact ⟨rfl, hb2.trans (p2.below k2.hg (fun k e => (k2.ho.lt k e).1) k2.hb), _, _, _, v', vl', ve', vb', -1, 0, true, ns, p1, r5, fun k hv hv' => hne2 k (p3 k hv (r4.hbs.lt k hv').2) hv', h4.half hf, fun h => by cases h⟩
        · refine (h2.append_on A l c hm hS hf hA hr h0 hfr).mono ?_
          rintro e w1 ⟨rfl, vl', ve', vb', r1, r2, r3⟩
          have k1 := h1.keepRK h2 r2 h3
          have hbw := h2.rkBelow r2
          refine ⟨0, rfl, hbw, k1.hb, fun w2 q2 => ?_⟩
          have k2 := k1.below q2
          have r4 := r1.below q2
          have hb2 : Below b0 w w2 := hbw.trans (q2.mono k1.hb)
          have hne2 : ∀ k, v.ownBlock = some k → vb'.ownBlock ≠ some k := fun k hv hv' => h3 k hv (r3 k hv' (h1.ho.lt k hv).2)
          refine (k2.append_on A l c hm hS hf ((hA.below hb2).more k2.hb) hr h0).mono ?_
          rintro e w3 ⟨rfl, v', p1, p2, p3⟩
          have r5 := r4.keepLK k2 p2 hne2
          exact ⟨rfl, hb2.trans (p2.below k2.hg (fun k e => (k2.ho.lt k e).1) k2.hb), _, _, _, v', vl', ve', vb', leftS left, leftS left, false, ns, p1, r5, fun k hv hv' => hne2 k (p3 k hv (r4.hbs.lt k hv').2) hv', h4.append hf, fun _ => rfl⟩
  · refine (h2.append_bad A l c hm hS hf (hA.more hb)).mono ?_
    rintro e w1 ⟨rfl, q⟩
    refine ⟨chgFault l, rfl, q.mono hb, Nat.le_trans hb q.size, fun w2 q2 => ?_⟩
    have q3 := q.trans (q2.mono q.size)
    refine ((h1.below q3).append_bad A l c hm hS hf ((hA.below (q3.mono hb)).more (Nat.le_trans hb q3.size))).mono ?_
    rintro e w3 ⟨rfl, q4⟩
    exact ⟨by rw [errOf_ne hf], (q3.trans (q4.mono q3.size)).mono hb, ls, B, safe, v, vl, ve, vb, left, left2, down, ns, (PlayAt.mk h1 h2 h3 h4 h5).below (q3.trans (q4.mono q3.size))⟩
theorem PlayAt.sync (h : PlayAt w b0 g m v vl ve vb left left2 down room ls B safe ns) :
    Calls Tryd.prog 17 #[.pointer (some ⟨m, 0, none⟩)] w fun e w1 => ∃ n, e = .returned (.int .i64 n) ∧
      Mid w w1 b0 g m room (Calls Tryd.prog 11 #[.pointer (some ⟨g, 0, none⟩)]) n := by
  obtain ⟨h1, h2, h3, h4, h5⟩ := h
  have hb := h1.hb
  cases down with
  | true =>
    refine h2.sync_down.mono ?_
    rintro e w1 ⟨rfl, rfl⟩
    refine ⟨8, rfl, Below.refl _ _, hb, fun w2 q2 => ?_⟩
    refine (h1.below q2).sync_down.mono ?_
    rintro e w3 ⟨rfl, rfl⟩
    exact ⟨rfl, q2.mono hb, ls, B, safe, v, vl, ve, vb, left, left2, true, ns, (PlayAt.mk h1 h2 h3 h4 h5).below q2⟩
  | false =>
    obtain rfl := h5 rfl
    by_cases h0 : left = 0
    · subst h0
      refine h2.sync_off.mono ?_
      rintro e w1 ⟨rfl, r1, r2⟩
      have k1 := h1.keepRK h2 (r2 _ _ _) h3
      have hbw := h2.rkBelow (r2 _ _ _)
      refine ⟨8, rfl, hbw, k1.hb, fun w2 q2 => ?_⟩
      have k2 := k1.below q2
      have r4 := r1.below q2
      refine k2.sync_off.mono ?_
      rintro e w3 ⟨rfl, p1, p2⟩
      exact ⟨rfl, (hbw.trans (q2.mono k1.hb)).trans (p2.below k2.hg (fun k e => (k2.ho.lt k e).1) k2.hb), _, _, _, v, vl, ve, vb, -1, 0, true, ns, p1, r4.keepLK k2 p2 h3, h3, h4.down, fun h => by cases h⟩
    · refine (h2.sync_on h0).mono ?_
      rintro e w1 ⟨rfl, r1, r2⟩
      have k1 := h1.keepRK h2 (r2 _ _ _) h3
      have hbw := h2.rkBelow (r2 _ _ _)
      refine ⟨0, rfl, hbw, k1.hb, fun w2 q2 => ?_⟩
      have k2 := k1.below q2
      have r4 := r1.below q2
      refine (k2.sync_on h0).mono ?_
      rintro e w3 ⟨rfl, p1, p2⟩
      exact ⟨rfl, (hbw.trans (q2.mono k1.hb)).trans (p2.below k2.hg (fun k e => (k2.ho.lt k e).1) k2.hb), _, _, _, v, vl, ve, vb, leftS left, leftS left, false, ls.length, p1, r4.keepLK k2 p2 h3, h3, h4.sync, fun _ => rfl⟩
/-- The number of steps is written by hand. -/
theorem PlayAt.fail (h : PlayAt w b0 g m v vl ve vb left left2 down room ls B safe ns) (n : Int) (hn : (Lit.int .i64 n).wf = true) :
    Calls Tryd.prog 12 #[.pointer (some ⟨g, 0, none⟩), .int .i64 n] w fun e w1 => e = .returned (.tuple #[]) ∧ Keep b0 w w1 ∧ (∀ g2 t cs, t ≠ 47 → Blk w1 g2 t cs → g2 ≠ m) ∧ m < w1.heap.size ∧ w1.cell? ⟨m, 5, none⟩ = some (.int .i64 left2) ∧ w1.frozen? ⟨m, 5, none⟩ = false ∧
      (0 ≤ n → Play (w1.setCell ⟨m, 5, none⟩ (.int .i64 n)) b0 g m room ls B safe ∧ Below b0 w (w1.setCell ⟨m, 5, none⟩ (.int .i64 n))) ∧
      (n < 0 → Play ((w1.setCell ⟨m, 5, none⟩ (.int .i64 n)).setCell ⟨m, 5, none⟩ (.int .i64 (-1))) b0 g m room ls B safe ∧ Below b0 w ((w1.setCell ⟨m, 5, none⟩ (.int .i64 n)).setCell ⟨m, 5, none⟩ (.int .i64 (-1)))) := by
  obtain ⟨h1, h2, h3, h4, h5⟩ := h
  have hi := i64_of hn
  refine (h1.fail n hn).mono ?_
  rintro e w1 ⟨rfl, p1, p2⟩
  have r1 := h2.keepLK h1 p2 h3
  have hbw : Below b0 w w1 := p2.below h1.hg (fun k e => (h1.ho.lt k e).1) h1.hb
  refine ⟨rfl, Keep.of_LK h1 p2, fun g2 t cs ht hb2 e => ?_, r1.hB.lt, r1.hB.cell 5, r1.hB.frozen 5, fun h0 => ?_, fun h0 => ?_⟩
  · subst e
    have a := r1.hB
    unfold Blk at a hb2
    rw [a] at hb2
    injection hb2 with hb2
    injection hb2 with _ hb2
    exact ht hb2.symm
  · have k1 : RO w1 (w1.setCell ⟨m, 5, none⟩ (.int .i64 n)) m := (RO.refl w1 m).setCell 5 _
    have r2 := r1.write k1 (r1.hB.setCell 5 (.int .i64 n)) (by omega) r1.hs
    refine ⟨⟨v, vl, ve, vb, _, n, down, ns, p1.keepRK r1 (k1 _ _ _) h3, r2, h3, h4, fun _ => if_neg (by omega)⟩, hbw.setCell h2.hg _⟩
  · have k1 : RO w1 ((w1.setCell ⟨m, 5, none⟩ (.int .i64 n)).setCell ⟨m, 5, none⟩ (.int .i64 (-1))) m := ((RO.refl w1 m).setCell 5 _).setCell 5 _
    have r2 := r1.write (left' := -1) (down' := down) (safe' := safe) k1 ((r1.hB.setCell 5 (.int .i64 n)).setCell 5 (.int .i64 (-1))) (by omega) r1.hs
    refine ⟨⟨v, vl, ve, vb, _, -1, down, ns, p1.keepRK r1 (k1 _ _ _) h3, r2, h3, h4, fun _ => ?_⟩, (hbw.setCell h2.hg _).setCell h2.hg _⟩
    split <;> omega
/-- The document's Crash. -/
theorem RefAt.crash (h : RefAt w b0 m vl ve vb left2 down room ls B safe) (hI : LInv down B safe ls ns) (n : Int) (hn : (Lit.int .i64 n).wf = true) :
    Calls Tryd.prog 18 #[.pointer (some ⟨m, 0, none⟩), .int .i64 n] w fun e w1 => e = .returned (.tuple #[]) ∧ ∃ k vl' ve' vb', k ≤ ls.length ∧ RO w w1 m ∧ vb'.ownBlock = vb.ownBlock ∧
      RefAt w1 b0 m vl' ve' vb' (-1) false room (ls.take k) ((B.take (crashN n B.length safe)).take (parse (B.take (crashN n B.length safe))).2) (parse (B.take (crashN n B.length safe))).2 ∧
      LInv false ((B.take (crashN n B.length safe)).take (parse (B.take (crashN n B.length safe))).2) (parse (B.take (crashN n B.length safe))).2 (ls.take k) k := by
  refine (h.crash0 n hn).mono ?_
  rintro e w1 ⟨rfl, k, A1, A2, A3, c1, c2, c3, hk, g1, g2, rfl, rfl, ⟨nb, rfl, gnb⟩, hB, hk1⟩
  obtain ⟨e1, e2, e3⟩ := crash_same hI h.hs n hk g1 g2
  rw [e1, e2]
  have hkl : (ls.take k).length = k := by simp; omega
  have hq := hk1 .nilIface .nilIface .nilIface
  have hbl := frames_take_le ls k
  have hfl := h.hf
  obtain ⟨A3', c3', e4, _, _⟩ := own_form2 h.hbs
  injection e4 with e4a e4b e4c
  subst e4b
  have hbe : (bytesV B).take (frames (ls.take k)).length = bytesV (frames (ls.take k)) := by
    obtain ⟨_, _, _, t, h4, _, _⟩ := hI
    have e5 : ls.take k ++ ls.drop k = ls := List.take_append_drop k ls
    have e6 : B = frames (ls.take k) ++ (frames (ls.drop k) ++ t) := by rw [h4, ← List.append_assoc, ← frames_append, e5]
    rw [← bytesV_take, e6, List.take_left']
    rfl
  refine ⟨rfl, k, .slice A1 k c1, .slice A2 k c2, .slice A3 (frames (ls.take k)).length c3, hk, hk1, by cases A3 <;> rfl, ⟨hB, h.hg, ?_, ?_, ?_, by omega, ⟨h.hr.1, h.hr.2.1, by have := h.hr; omega⟩, Nat.le_refl _, Nat.le_refl _, Nat.le_trans h.hb hq.size⟩, e3⟩
  · have h6 := h.hls.shrink hk
    obtain ⟨xs, h7, h8⟩ := h6
    exact ⟨xs, own_RO h7 hk1 (own_blk h7 h.hB (by decide)), fun i hi => by obtain ⟨C, d, g3, g4⟩ := h8 i hi; exact ⟨C, d, g3, g4.below (h.rkBelow (hk1 _ _ _))⟩⟩
  · have h6 := own_shrink h.hes hk
    rw [cellsE_take ls hk] at h6
    rw [hkl]
    exact own_RO h6 hk1 (own_blk h6 h.hB (by decide))
  · have h6 := own_shrink h.hbs (show (frames (ls.take k)).length ≤ B.length by omega)
    rw [hbe] at h6
    exact own_RO h6 hk1 (own_blk h6 h.hB (by decide))
theorem PlayAt.crash (h : PlayAt w b0 g m v vl ve vb left left2 down room ls B safe ns) (n : Int) (hn : (Lit.int .i64 n).wf = true) :
    Calls Tryd.prog 13 #[.pointer (some ⟨g, 0, none⟩), .int .i64 n] w fun e w1 => e = .returned (.tuple #[]) ∧ Keep b0 w w1 ∧ b0 ≤ w1.heap.size ∧ ∀ w2, Below w1.heap.size w1 w2 →
      Calls Tryd.prog 18 #[.pointer (some ⟨m, 0, none⟩), .int .i64 n] w2 fun e' w3 => e' = .returned (.tuple #[]) ∧ Below b0 w w3 ∧ ∃ ls' B' safe', Play w3 b0 g m room ls' B' safe' := by
  obtain ⟨h1, h2, h3, h4, h5⟩ := h
  refine (h1.crash n hn).mono ?_
  rintro e w1 ⟨rfl, v', p1, p2, p3⟩
  have r1 := h2.keepLK h1 p2 h3
  have hbw : Below b0 w w1 := p2.below h1.hg (fun k e => (h1.ho.lt k e).1) h1.hb
  refine ⟨rfl, Keep.of_LK h1 p2, p1.hb, fun w2 q2 => ?_⟩
  have k2 := p1.below q2
  have r2 := r1.below q2
  refine (r2.crash h4 n hn).mono ?_
  rintro e w3 ⟨rfl, k, vl', ve', vb', hk, hk1, eb, r3, hI⟩
  have hne2 : ∀ k, v'.ownBlock = some k → vb.ownBlock ≠ some k := fun k hv hv' => h3 k (p3 k hv (h2.hbs.lt k hv').2) hv'
  exact ⟨rfl, (hbw.trans (q2.mono p1.hb)).trans (r2.rkBelow (hk1 _ _ _)), _, _, _, v', vl', ve', vb', -1, -1, false, k, k2.keepRK r2 (hk1 _ _ _) hne2, r3, fun k hv => by rw [eb]; exact hne2 k hv, hI, fun _ => rfl⟩
/-- What a walk reads of both. -/
theorem PlayAt.view (h : PlayAt w b0 g m v vl ve vb left left2 down room ls B safe ns) : ∃ A1 c1 A3 c3, w.cell? ⟨m, 1, none⟩ = some (.slice A1 ls.length c1) ∧ RdLL w w.heap.size A1 ls ∧ w.cell? ⟨m, 3, none⟩ = some (.slice A3 B.length c3) ∧ Rd w w.heap.size A3 (bytesV B) ∧
    w.cell? ⟨m, 4, none⟩ = some (.int .i64 safe) ∧ m < w.heap.size ∧ ls.length ≤ 100000 ∧ B.length ≤ 100000 ∧ safe ≤ 100000 ∧ (∀ x ∈ ls, x.length ≤ maxLen) ∧ (parse B).1 = ls := by
  obtain ⟨h1, h2, h3, h4, h5⟩ := h
  obtain ⟨A1, c1, rfl, _, hr1⟩ := h2.hls.rd h2.hb
  obtain ⟨A3, c3, rfl, _, hr3⟩ := own_form2 h2.hbs
  have hl := len_frames ls
  have hf := h2.hf
  have hr := h2.hr
  have hs := h2.hs
  exact ⟨A1, c1, A3, c3, h2.hB.cell 1, hr1, h2.hB.cell 3, hr3, h2.hB.cell 4, h2.hB.lt, by omega, by omega, by omega, fun x hx => by have := (chgFault_zero.1 (h4.1 x hx)).1; unfold maxLen; omega, h4.parsed⟩
end
end Go.Proofs.YtdcjogofjniogaaDoor
