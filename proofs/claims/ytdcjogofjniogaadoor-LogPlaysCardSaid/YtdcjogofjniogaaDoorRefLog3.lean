/- Contracts of the document's (*Log).Append: whatever the changes. Condition: their texts are no longer than a slice may be. -/
import Derived.Test.YtdcjogofjniogaaDoorRefLog2
import Derived.Test.YtdcjogofjniogaaDoorLog4
namespace Go.Proofs.YtdcjogofjniogaaDoor
set_option linter.unusedVariables false
set_option linter.unusedSimpArgs false
open Go.RowKit
attribute [local go_sem ↓] Go.wp_at_zero Go.wp_at_succ
theorem infoI : (Tryd.prog.info? 3).map (fun i => (i.zero, i.size, i.bytes)) = some (some (.int .i64 0), 1, 8) := by kernel_rfl
theorem grown_boxed {w w' : World} {o : Obj} {row : Option Nat} (h : ((w.alloc o).drew).grownBy w' row) : w.grownBy w' row :=
  ⟨h.os, h.tape, h.output, by have := h.size; simp at this; omega, fun k hk hne => (h.block k (by simp; omega) hne).trans (Below.heap_alloc w o k hk)⟩
theorem cellsE_next (ls : List (List Chg)) (l : List Chg) {b : Nat} (h : (frames ls).length = b) : cellsE (ls ++ [l]) = cellsE ls ++ [.int .i64 ((b : Int) + ((frame l).length : Int))] := by
  have e : ((frames (ls ++ [l])).length : Int) = (b : Int) + ((frame l).length : Int) := by rw [frames_append, frames_one, List.length_append, h]; omega
  rw [cellsE_snoc, e]
/-- The three rows and the block, each by itself. -/
structure Raw (w : World) (b0 m : Nat) (vl ve vb : Value) (left : Int) (down : Bool) (room : Int) (L : List (List Chg)) (n : Nat) (E : List Value) (B : List UInt8) (safe : Nat) : Prop where
  hB : Blk w m 47 #[.int .i64 room, vl, ve, vb, .int .i64 safe, .int .i64 left, .bool down]
  hls : AllAt w b0 vl L
  hes : w.ownsRow b0 3 1 ve n E
  hbs : w.ownsRow b0 5 1 vb B.length (bytesV B)
  hb : b0 ≤ w.heap.size
theorem own_RO {w w' : World} {base size n m : Nat} {e : TypeId} {v : Value} {xs : List Value} (h : w.ownsRow base e size v n xs) (hk : RO w w' m) (h1 : some m ≠ v.ownBlock) : w'.ownsRow base e size v n xs :=
  own_kept h fun k hv => (hk .nilIface .nilIface .nilIface).block k (h.lt k hv).2 (fun e => h1 (e ▸ hv.symm)) (fun e => by simp [Value.ownBlock] at e) (fun e => by simp [Value.ownBlock] at e) (fun e => by simp [Value.ownBlock] at e)
theorem AllAt.grown {w w' : World} {b0 base2 size2 n2 : Nat} {e2 : TypeId} {v v2 : Value} {xs2 : List Value} {all : List (List Chg)} (h : AllAt w b0 v all) (h2 : w.ownsRow base2 e2 size2 v2 n2 xs2) (he : 36 ≠ e2) (hg : w.grownBy w' v2.ownBlock) (hb : Below b0 w w') : AllAt w' b0 v all := by
  obtain ⟨xs, h3, h4⟩ := h
  exact ⟨xs, own_grown h3 h2 he hg, fun i hi => by obtain ⟨C, c, h5, h6⟩ := h4 i hi; exact ⟨C, c, h5, h6.below hb⟩⟩
theorem AllAt.off {w : World} {b0 m i : Nat} {v u : Value} {all : List (List Chg)} (h : AllAt w b0 v all) (hv : some m ≠ v.ownBlock) (hb : b0 ≤ m) : AllAt (w.setCell ⟨m, i, none⟩ u) b0 v all := by
  obtain ⟨xs, h3, h4⟩ := h
  exact ⟨xs, own_off h3 hv, fun j hj => by obtain ⟨C, c, h5, h6⟩ := h4 j hj; exact ⟨C, c, h5, h6.below ((Below.refl _ _).setCell hb _)⟩⟩
section
variable {w w' : World} {b0 m : Nat} {vl ve vb : Value} {left room : Int} {down : Bool} {L : List (List Chg)} {n : Nat} {E : List Value} {B : List UInt8} {safe : Nat}
theorem RefAt.raw (h : RefAt w b0 m vl ve vb left down room L B safe) : Raw w b0 m vl ve vb left down room L L.length (cellsE L) B safe := ⟨h.hB, h.hls, h.hes, h.hbs, h.hb⟩
theorem Raw.ne1 (h : Raw w b0 m vl ve vb left down room L n E B safe) : some m ≠ vl.ownBlock := by obtain ⟨xs, h1, _⟩ := h.hls; exact own_blk h1 h.hB (by decide)
theorem Raw.ne2 (h : Raw w b0 m vl ve vb left down room L n E B safe) : some m ≠ ve.ownBlock := own_blk h.hes h.hB (by decide)
theorem Raw.ne3 (h : Raw w b0 m vl ve vb left down room L n E B safe) : some m ≠ vb.ownBlock := own_blk h.hbs h.hB (by decide)
theorem Raw.setB (h : Raw w b0 m vl ve vb left down room L n E B safe) (hm : b0 ≤ m) {vb' : Value} {B' : List UInt8} (ho : w'.ownsRow b0 5 1 vb' B'.length (bytesV B')) (hg : w.grownBy w' vb.ownBlock) :
    Raw (w'.setCell ⟨m, 3, none⟩ vb') b0 m vl ve vb' left down room L n E B' safe := by
  have hbel : Below b0 w w' := (Below.refl b0 w).grown hg h.hb (fun k hk => (h.hbs.lt k hk).1)
  have hB' := h.hB.grown hg h.ne3
  refine ⟨hB'.setCell 3 _, (h.hls.grown h.hbs (by decide) hg hbel).off h.ne1 hm, own_off (own_grown h.hes h.hbs (by decide) hg) h.ne2, own_off ho (own_blk ho hB' (by decide)), ?_⟩
  have := hbel.size; have := h.hb; simp; omega
theorem Raw.setE (h : Raw w b0 m vl ve vb left down room L n E B safe) (hm : b0 ≤ m) {ve' : Value} {n' : Nat} {E' : List Value} (ho : w'.ownsRow b0 3 1 ve' n' E') (hg : w.grownBy w' ve.ownBlock) :
    Raw (w'.setCell ⟨m, 2, none⟩ ve') b0 m vl ve' vb left down room L n' E' B safe := by
  have hbel : Below b0 w w' := (Below.refl b0 w).grown hg h.hb (fun k hk => (h.hes.lt k hk).1)
  have hB' := h.hB.grown hg h.ne2
  refine ⟨hB'.setCell 2 _, (h.hls.grown h.hes (by decide) hg hbel).off h.ne1 hm, own_off ho (own_blk ho hB' (by decide)), own_off (own_grown h.hbs h.hes (by decide) hg) h.ne3, ?_⟩
  have := hbel.size; have := h.hb; simp; omega
theorem Raw.setL (h : Raw w b0 m vl ve vb left down room L n E B safe) (hm : b0 ≤ m) {vl' : Value} {xs : List Value} {l : List Chg} {C : Option Addr} {c : Nat} (hx : w.ownsRow b0 36 1 vl L.length xs)
    (hxs : ∀ i (h : i < L.length), ∃ C c, xs[i]? = some (.slice C L[i].length c) ∧ Rd w b0 C (cellsC L[i])) (hr : Rd w b0 C (cellsC l)) (ho : w'.ownsRow b0 36 1 vl' (L.length + 1) (xs ++ [.slice C l.length c])) (hg : w.grownBy w' vl.ownBlock) :
    Raw (w'.setCell ⟨m, 1, none⟩ vl') b0 m vl' ve vb left down room (L ++ [l]) n E B safe := by
  have hbel : Below b0 w w' := (Below.refl b0 w).grown hg h.hb (fun k hk => (hx.lt k hk).1)
  have hB' := h.hB.grown hg h.ne1
  refine ⟨hB'.setCell 1 _, (AllAt.snoc (v := vl) hxs (by simpa using hx.1) hr ho hbel).off (own_blk ho hB' (by decide)) hm, own_off (own_grown h.hes hx (by decide) hg) h.ne2, own_off (own_grown h.hbs hx (by decide) hg) h.ne3, ?_⟩
  have := hbel.size; have := h.hb; simp; omega
end
/-- What a call that turns the log leaves. -/
def RefTo (w : World) (b0 m : Nat) (vl ve vb : Value) (left : Int) (down : Bool) (room : Int) (ls : List (List Chg)) (B : List UInt8) (safe : Nat) (w' : World) : Prop :=
  ∃ vl' ve' vb', RefAt w' b0 m vl' ve' vb' left down room ls B safe ∧ RK w w' m vl ve vb ∧ Fresh w vb vb'
section
variable {w : World} {b0 m : Nat} {vl ve vb : Value} {left room : Int} {down : Bool} {ls : List (List Chg)} {B : List UInt8} {safe : Nat}
theorem RefAt.append_bad (h : RefAt w b0 m vl ve vb left down room ls B safe) (A : Option Addr) (l : List Chg) (c : Nat) (hm : l.length ≤ maxLen) (hS : Small l) (hf : chgFault l ≠ 0) (hl : Rd w w.heap.size A (cellsC l)) :
    Calls Tryd.prog 16 #[.pointer (some ⟨m, 0, none⟩), .slice A l.length c] w fun e w' => e = .returned (.int .i64 (chgFault l)) ∧ Below w.heap.size w w' := by
  have hne : (chgFault l != 0) = true := by simpa using hf
  go_enter Tryd.func16, Tryd.ntmps16
  go_wp2_with fail
  refine (changesFault_any A l c hm hS w hl).mono ?_
  rintro e w1 ⟨rfl, hb1⟩
  go_wp2
  go_ret
  exact ⟨rfl, hb1⟩
set_option maxRecDepth 100000 in
set_option maxHeartbeats 4000000 in
theorem RefAt.append_full (h : RefAt w b0 m vl ve vb left down room ls B safe) (A : Option Addr) (l : List Chg) (c : Nat) (hm : l.length ≤ maxLen) (hS : Small l) (hf : chgFault l = 0) (hA0 : Rd w b0 A (cellsC l))
    (hr : room < (B.length : Int) + 2 + ((encL l).length : Int)) :
    Calls Tryd.prog 16 #[.pointer (some ⟨m, 0, none⟩), .slice A l.length c] w fun e w' => e = .returned (.int .i64 3) ∧ Below w.heap.size w w' := by
  have hl := hA0.more h.hb
  have hel := encL_length hf
  obtain ⟨A0, c0, rfl, _⟩ := own_form h.hbs
  obtain ⟨Ae, ce, rfl, _⟩ := own_form h.hes
  obtain ⟨Al, cl, rfl, _⟩ := h.hls.rd h.hb
  have hBl : (B.length : Int) ≤ 100000 := by have := h.hr; omega
  have hll : ls.length ≤ 100000 := by have h1 := len_frames ls; have h2 := h.hf; omega
  have hrd : decide (room < (B.length : Int) + 2 + ((encL l).length : Int)) = true := decide_eq_true hr
  have HR := Lib.hid hr
  have H := Lib.hid h
  clear h hr
  go_enter Tryd.func16, Tryd.ntmps16
  go_wp2_with fail
  refine (changesFault_any A l c hm hS w hl).mono ?_
  rintro e w0 ⟨rfl, hb0⟩
  rw [hf]
  have hl0 := (hl.below hb0).more hb0.size
  go_wp2_with fail
  refine (bytesOf_ok A l c hf w0 hl0).mono ?_
  rintro e w1 ⟨v1, rfl, ho1, hb1'⟩
  have hb1 := hb0.trans (hb1'.mono hb0.size)
  obtain ⟨A1, c1, rfl, hr1⟩ := own_form ho1
  have hs1 := hb1.size
  have h1 := H.out.below hb1
  obtain ⟨⟨x0, x1, x2, x3, x4, x5, x6⟩, _⟩ := h1.cells
  have hgl := h1.hB.lt
  have k2 : ∀ x : BelW w1.heap.size w1, x.1.cell? ⟨m, 0, none⟩ = some (.int .i64 room) := BelW.cell x0 hgl
  have k3 : ∀ x : BelW w1.heap.size w1, x.1.cell? ⟨m, 3, none⟩ = some (.slice A0 B.length c0) := BelW.cell x3 hgl
  clear ho1 hb0 hb1' hl0
  go_wp2_with fail
  refine wp_region_bel w1.heap.size w1 (by kernel_rfl) (by kernel_rfl) (Below.refl _ _) ?_
  repeat (go_big_quiet_step (fail))
  refine wpQuiet_nil ?_
  intro w2 hb2
  clear k2 k3
  have y1 := (hb2.cell (p := ⟨m, 6, none⟩) hgl).trans x6
  go_wp2
  go_ret
  exact ⟨rfl, hb1.trans (hb2.mono hs1)⟩
set_option maxRecDepth 100000 in
set_option maxHeartbeats 4000000 in
theorem RefAt.append_down (h : RefAt w b0 m vl ve vb left true room ls B safe) (A : Option Addr) (l : List Chg) (c : Nat) (hm : l.length ≤ maxLen) (hS : Small l) (hf : chgFault l = 0) (hA0 : Rd w b0 A (cellsC l))
    (hr : ¬ room < (B.length : Int) + 2 + ((encL l).length : Int)) :
    Calls Tryd.prog 16 #[.pointer (some ⟨m, 0, none⟩), .slice A l.length c] w fun e w' => e = .returned (.int .i64 8) ∧ Below w.heap.size w w' := by
  have hl := hA0.more h.hb
  have hel := encL_length hf
  obtain ⟨A0, c0, rfl, _⟩ := own_form h.hbs
  obtain ⟨Ae, ce, rfl, _⟩ := own_form h.hes
  obtain ⟨Al, cl, rfl, _⟩ := h.hls.rd h.hb
  have hBl : (B.length : Int) ≤ 100000 := by have := h.hr; omega
  have hll : ls.length ≤ 100000 := by have h1 := len_frames ls; have h2 := h.hf; omega
  have hrd : decide (room < (B.length : Int) + 2 + ((encL l).length : Int)) = false := decide_eq_false hr
  have HR := Lib.hid hr
  have H := Lib.hid h
  clear h hr
  go_enter Tryd.func16, Tryd.ntmps16
  go_wp2_with fail
  refine (changesFault_any A l c hm hS w hl).mono ?_
  rintro e w0 ⟨rfl, hb0⟩
  rw [hf]
  have hl0 := (hl.below hb0).more hb0.size
  go_wp2_with fail
  refine (bytesOf_ok A l c hf w0 hl0).mono ?_
  rintro e w1 ⟨v1, rfl, ho1, hb1'⟩
  have hb1 := hb0.trans (hb1'.mono hb0.size)
  obtain ⟨A1, c1, rfl, hr1⟩ := own_form ho1
  have hs1 := hb1.size
  have h1 := H.out.below hb1
  obtain ⟨⟨x0, x1, x2, x3, x4, x5, x6⟩, _⟩ := h1.cells
  have hgl := h1.hB.lt
  have k2 : ∀ x : BelW w1.heap.size w1, x.1.cell? ⟨m, 0, none⟩ = some (.int .i64 room) := BelW.cell x0 hgl
  have k3 : ∀ x : BelW w1.heap.size w1, x.1.cell? ⟨m, 3, none⟩ = some (.slice A0 B.length c0) := BelW.cell x3 hgl
  clear ho1 hb0 hb1' hl0
  go_wp2_with fail
  refine wp_region_bel w1.heap.size w1 (by kernel_rfl) (by kernel_rfl) (Below.refl _ _) ?_
  repeat (go_big_quiet_step (fail))
  refine wpQuiet_nil ?_
  intro w2 hb2
  clear k2 k3
  have y1 := (hb2.cell (p := ⟨m, 6, none⟩) hgl).trans x6
  go_wp2
  go_ret
  exact ⟨rfl, hb1.trans (hb2.mono hs1)⟩
set_option maxRecDepth 100000 in
set_option maxHeartbeats 4000000 in
theorem RefAt.append_on (h : RefAt w b0 m vl ve vb left false room ls B safe) (A : Option Addr) (l : List Chg) (c : Nat) (hm : l.length ≤ maxLen) (hS : Small l) (hf : chgFault l = 0) (hA0 : Rd w b0 A (cellsC l))
    (hr : ¬ room < (B.length : Int) + 2 + ((encL l).length : Int)) (h0 : left ≠ 0) (hfr : (frames ls).length = B.length) :
    Calls Tryd.prog 16 #[.pointer (some ⟨m, 0, none⟩), .slice A l.length c] w fun e w' => e = .returned (.int .i64 0) ∧ RefTo w b0 m vl ve vb (leftS left) false room (ls ++ [l]) (B ++ frame l) safe w' := by
  have hl := hA0.more h.hb
  have hel := encL_length hf
  obtain ⟨A0, c0, rfl, _⟩ := own_form h.hbs
  obtain ⟨Ae, ce, rfl, _⟩ := own_form h.hes
  obtain ⟨Al, cl, rfl, _⟩ := h.hls.rd h.hb
  have hBl : (B.length : Int) ≤ 100000 := by have := h.hr; omega
  have hll : ls.length ≤ 100000 := by have h1 := len_frames ls; have h2 := h.hf; omega
  have hrd : decide (room < (B.length : Int) + 2 + ((encL l).length : Int)) = false := decide_eq_false hr
  have HR := Lib.hid hr
  have H := Lib.hid h
  have hne0 : (left != 0) = true := by simpa using h0
  have H0 := Lib.hid h0
  have HFR := Lib.hid hfr
  clear h hr h0 hfr
  go_enter Tryd.func16, Tryd.ntmps16
  go_wp2_with fail
  refine (changesFault_any A l c hm hS w hl).mono ?_
  rintro e w0 ⟨rfl, hb0⟩
  rw [hf]
  have hl0 := (hl.below hb0).more hb0.size
  go_wp2_with fail
  refine (bytesOf_ok A l c hf w0 hl0).mono ?_
  rintro e w1 ⟨v1, rfl, ho1, hb1'⟩
  have hb1 := hb0.trans (hb1'.mono hb0.size)
  obtain ⟨A1, c1, rfl, hr1⟩ := own_form ho1
  have hs1 := hb1.size
  have h1 := H.out.below hb1
  obtain ⟨⟨x0, x1, x2, x3, x4, x5, x6⟩, _⟩ := h1.cells
  have hgl := h1.hB.lt
  have k2 : ∀ x : BelW w1.heap.size w1, x.1.cell? ⟨m, 0, none⟩ = some (.int .i64 room) := BelW.cell x0 hgl
  have k3 : ∀ x : BelW w1.heap.size w1, x.1.cell? ⟨m, 3, none⟩ = some (.slice A0 B.length c0) := BelW.cell x3 hgl
  clear ho1 hb0 hb1' hl0
  go_wp2_with fail
  refine wp_region_bel w1.heap.size w1 (by kernel_rfl) (by kernel_rfl) (Below.refl _ _) ?_
  repeat (go_big_quiet_step (fail))
  refine wpQuiet_nil ?_
  intro w2 hb2
  clear k2 k3
  have h2 := h1.below hb2
  have hbw2 := hb1.trans (hb2.mono hs1)
  have hs2 := hbw2.size
  have y6 := (hb2.cell (p := ⟨m, 6, none⟩) hgl).trans x6
  have hr2 := (hr1.below hb2).more hb2.size
  clear h1 x0 x1 x2 x3 x4 x5 x6 hb1 hb2 hr1
  have hen : encL l ≠ [] := by simp [encL]
  go_wp2_with (at_builtin; refine wpList_append_bytes rfl _ _ 32 rfl 5 Tryd.underlying32 infoU8 w.heap.size _ 2 _ rfl (own_built2 w2 5 (.int .u8 (((encL l).length : Int) / 256)) (.int .u8 (((encL l).length : Int) % 256)) hs2) w2.heap.size A1 (encL l).length c1 (encL l) rfl hen rfl (hr2.alloc (Nat.le_refl _) _) (by omega) (by simp; omega) ?_; intro v3 w3 hown3 hgrow3 hat3)
  have hb23 : Below w2.heap.size w2 w3 := ((Below.refl w2.heap.size w2).alloc (Nat.le_refl _) _).grown hgrow3 (by simp) (fun k hk => Nat.le_of_eq (Option.some.inj hk))
  have h3 := h2.below hb23
  have hbw3 := hbw2.trans (hb23.mono hs2)
  have hs3 := hbw3.size
  obtain ⟨hf1, hf2⟩ := frame_cells l hel.2
  rw [hf1, hf2] at hown3
  clear hgrow3 hat3 hb23 h2
  refine (rstep m _ _ _ _ _ left false h3.hl w3 h3.hB).mono ?_
  rintro e w4 ⟨rfl, hB4a, hB4, hk4⟩
  have hB4' := hB4 H0.out
  have hown4 := own_RO hown3 hk4 (own_blk hown3 h3.hB (by decide))
  obtain ⟨A4, c4, rfl, hc4, hr4⟩ := own_form2 hown4
  have h4 := h3.write hk4 hB4' (leftS_range h3.hl H0.out) h3.hs
  have K2 : RK w w4 m (.slice Al ls.length cl) (.slice Ae ls.length ce) (.slice A0 B.length c0) := (RK.of_below hbw3).same (hk4 _ _ _)
  obtain ⟨⟨_, y1, y2, y3, _⟩, _⟩ := h4.cells
  have hs4 := h4.hb
  have hsz4 := (hk4 .nilIface .nilIface .nilIface).size
  have HF := Lib.hid (frame_length l)
  have hfne : frame l ≠ [] := by simp [frame]
  have R4 := h4.raw
  clear hown3 hown4 h3 hk4 hr2 hB4 hB4' hB4a
  go_wp2_with (first | (at_builtin; refine wpList_append_bytes rfl _ _ 32 rfl 5 Tryd.underlying32 infoU8 b0 (.slice A0 B.length c0) B.length _ rfl R4.hbs w4.heap.size A4 (frame l).length c4 (frame l) rfl hfne rfl hr4 (by have := HF.out; omega) hs4 ?_; intro v5 w5 hown5 hgrow5 hat5; obtain ⟨A5, c5, rfl, hfm5⟩ := own_form hown5; clear hfm5; have hB5 := R4.hB.grown hgrow5 R4.ne3; have u1 : w5.cell? ⟨m, 1, none⟩ = some (.slice Al ls.length cl) := hB5.cell 1; have u2 : w5.cell? ⟨m, 2, none⟩ = some (.slice Ae ls.length ce) := hB5.cell 2; have u3 : w5.cell? ⟨m, 3, none⟩ = some (.slice A0 B.length c0) := hB5.cell 3; have zz1 := hB5.frozen 1; have zz2 := hB5.frozen 2; have zz3 := hB5.frozen 3; have R6 := R4.setB H.out.hg (B' := B ++ frame l) (by rw [List.length_append, bytesV_append]; exact hown5) hgrow5; have K6 := (K2.same (RK.grown3 hgrow5)).setCell 3 (.slice A5 (B.length + (frame l).length) c5); obtain ⟨xs6, hxo6, hxs6⟩ := R6.hls; have hb06 := R6.hb; have HXS6 := Lib.hid hxs6; clear hxs6; have hsz6 := Lib.hid (show (w5.setCell ⟨m, 3, none⟩ (.slice A5 (B.length + (frame l).length) c5)).heap.size = w5.heap.size by simp)) | (at_builtin; refine wpList_append_one2 rfl _ _ 22 rfl Tryd.underlying22 _ 24 infoSl rfl (by decide) b0 (.slice Al ls.length cl) ls.length xs6 rfl hxo6 (by first | rfl | (rw [hsz6.out]; rfl)) rfl (by omega) hb06 ?_; intro v7 w7 hown7 hgrow7 hb7; obtain ⟨A7, c7, rfl, hfm7⟩ := own_form hown7; clear hfm7; have hB7 := R6.hB.grown hgrow7 R6.ne1; have p1 : w7.cell? ⟨m, 1, none⟩ = some (.slice Al ls.length cl) := hB7.cell 1; have p2 : w7.cell? ⟨m, 2, none⟩ = some (.slice Ae ls.length ce) := hB7.cell 2; have p3 : w7.cell? ⟨m, 3, none⟩ = some (.slice A5 (B.length + (frame l).length) c5) := hB7.cell 3; have yy1 := hB7.frozen 1; have yy2 := hB7.frozen 2; have R8 := R6.setL H.out.hg hxo6 HXS6.out (hA0.below (H.out.rkBelow K6)) hown7 hgrow7; have K8 := (K6.same (RK.grown1 hgrow7)).setCell 1 (.slice A7 (ls.length + 1) c7); have hb08 := R8.hb; have hes8 := R8.hes; have hsz8 := Lib.hid (show (w7.setCell ⟨m, 1, none⟩ (.slice A7 (ls.length + 1) c7)).heap.size = w7.heap.size by simp)))
  obtain ⟨w8, hW8⟩ : ∃ w8, w8 = w7.setCell ⟨m, 1, none⟩ (.slice A7 (ls.length + 1) c7) := ⟨_, rfl⟩
  rw [← hW8] at R8 K8 hb08 hes8 ⊢
  have hBl5 : B.length + (frame l).length ≤ 100000 := by have := HF.out; have := HR.out; have := H.out.hr; omega
  have y1 : w8.cell? ⟨m, 1, none⟩ = some (.slice A7 (ls.length + 1) c7) := R8.hB.cell 1
  have y2 : w8.cell? ⟨m, 2, none⟩ = some (.slice Ae ls.length ce) := R8.hB.cell 2
  have y3 : w8.cell? ⟨m, 3, none⟩ = some (.slice A5 (B.length + (frame l).length) c5) := R8.hB.cell 3
  have HES8 : Hid (((w8.alloc (.cells #[.int .i64 ((B.length : Int) + ((frame l).length : Int))] 3)).drew).ownsRow b0 3 1 (.slice Ae ls.length ce) ls.length (cellsE ls)) := Lib.hid ((hes8.alloc _).drew)
  have hgl8 := R8.hB.lt
  have y2d : ((w8.alloc (.cells #[.int .i64 ((B.length : Int) + ((frame l).length : Int))] 3)).drew).cell? ⟨m, 2, none⟩ = some (.slice Ae ls.length ce) := (R8.hB.alloc _).cell 2
  have y3d : ((w8.alloc (.cells #[.int .i64 ((B.length : Int) + ((frame l).length : Int))] 3)).drew).cell? ⟨m, 3, none⟩ = some (.slice A5 (B.length + (frame l).length) c5) := (R8.hB.alloc _).cell 3
  clear hW8 hsz8 hsz6 u1 u2 u3 p1 p2 p3 zz1 zz2 zz3 yy1 yy2 hB5 hB7 R6 K6 hxo6 HXS6 hb06 hown5 hgrow7 hown7 hb7 hes8
  go_wp2_with fail
  go_region_law ((refine step_append_one (by rfl) _ _ 45 (by rfl) 3 Tryd.underlying45 _ 8 infoI (by rfl) (by decide) b0 (.slice Ae ls.length ce) ls.length (cellsE ls) (by rfl) HES8.out w8.heap.size (.int .i64 ((B.length : Int) + ((frame l).length : Int))) (by rfl) (by simp) (by rfl) (by omega) (by simp; omega) ?_; intro v9 w9 hown9 hgrow9 hat9; obtain ⟨A9, c9, rfl, hfm9⟩ := own_form hown9; clear hfm9; have hgrow9' := grown_boxed hgrow9; have hB9 := R8.hB.grown hgrow9' R8.ne2; have q2 : w9.cell? ⟨m, 2, none⟩ = some (.slice Ae ls.length ce) := hB9.cell 2; have rr2 := hB9.frozen 2))
  go_wp2_with fail
  clear HES8 y1 y2 y3 y2d y3d q2 rr2 hB9
  all_goals (
    go_ret
    have R10 := R8.setE H.out.hg (n' := (ls ++ [l]).length) (E' := cellsE (ls ++ [l])) (by rw [cellsE_next ls l HFR.out]; simpa using hown9) hgrow9'
    have hlen : (B ++ frame l).length = B.length + (frame l).length := List.length_append
    refine ⟨rfl, _, _, _, ⟨R10.hB, H.out.hg, R10.hls, R10.hes, R10.hbs, leftS_range H.out.hl H0.out, ⟨H.out.hr.1, H.out.hr.2.1, ?_⟩, ?_, ?_, R10.hb⟩, (K8.same (RK.grown2 hgrow9')).setCell 2 _, ?_⟩
    · have := HF.out; have := HR.out; omega
    · have := H.out.hs; omega
    · rw [frames_append, frames_one, List.length_append, HFR.out]; omega
    · intro k hk hlt
      rcases hat5 with h | h
      · rw [← h]; exact hk
      · rw [h] at hk; injection hk with hk; omega)
set_option maxRecDepth 100000 in
set_option maxHeartbeats 4000000 in
theorem RefAt.append_off (h : RefAt w b0 m vl ve vb 0 false room ls B safe) (A : Option Addr) (l : List Chg) (c : Nat) (hm : l.length ≤ maxLen) (hS : Small l) (hf : chgFault l = 0) (hA0 : Rd w b0 A (cellsC l))
    (hr : ¬ room < (B.length : Int) + 2 + ((encL l).length : Int)) :
    Calls Tryd.prog 16 #[.pointer (some ⟨m, 0, none⟩), .slice A l.length c] w fun e w' => e = .returned (.int .i64 8) ∧ RefTo w b0 m vl ve vb 0 true room ls (B ++ (frame l).take ((frame l).length / 2)) safe w' := by
  have hl := hA0.more h.hb
  have hel := encL_length hf
  obtain ⟨A0, c0, rfl, _⟩ := own_form h.hbs
  obtain ⟨Ae, ce, rfl, _⟩ := own_form h.hes
  obtain ⟨Al, cl, rfl, _⟩ := h.hls.rd h.hb
  have hBl : (B.length : Int) ≤ 100000 := by have := h.hr; omega
  have hll : ls.length ≤ 100000 := by have h1 := len_frames ls; have h2 := h.hf; omega
  have hrd : decide (room < (B.length : Int) + 2 + ((encL l).length : Int)) = false := decide_eq_false hr
  have HR := Lib.hid hr
  have H := Lib.hid h
  clear h hr
  go_enter Tryd.func16, Tryd.ntmps16
  go_wp2_with fail
  refine (changesFault_any A l c hm hS w hl).mono ?_
  rintro e w0 ⟨rfl, hb0⟩
  rw [hf]
  have hl0 := (hl.below hb0).more hb0.size
  go_wp2_with fail
  refine (bytesOf_ok A l c hf w0 hl0).mono ?_
  rintro e w1 ⟨v1, rfl, ho1, hb1'⟩
  have hb1 := hb0.trans (hb1'.mono hb0.size)
  obtain ⟨A1, c1, rfl, hr1⟩ := own_form ho1
  have hs1 := hb1.size
  have h1 := H.out.below hb1
  obtain ⟨⟨x0, x1, x2, x3, x4, x5, x6⟩, _⟩ := h1.cells
  have hgl := h1.hB.lt
  have k2 : ∀ x : BelW w1.heap.size w1, x.1.cell? ⟨m, 0, none⟩ = some (.int .i64 room) := BelW.cell x0 hgl
  have k3 : ∀ x : BelW w1.heap.size w1, x.1.cell? ⟨m, 3, none⟩ = some (.slice A0 B.length c0) := BelW.cell x3 hgl
  clear ho1 hb0 hb1' hl0
  go_wp2_with fail
  refine wp_region_bel w1.heap.size w1 (by kernel_rfl) (by kernel_rfl) (Below.refl _ _) ?_
  repeat (go_big_quiet_step (fail))
  refine wpQuiet_nil ?_
  intro w2 hb2
  clear k2 k3
  have h2 := h1.below hb2
  have hbw2 := hb1.trans (hb2.mono hs1)
  have hs2 := hbw2.size
  have y6 := (hb2.cell (p := ⟨m, 6, none⟩) hgl).trans x6
  have hr2 := (hr1.below hb2).more hb2.size
  clear h1 x0 x1 x2 x3 x4 x5 x6 hb1 hb2 hr1
  have hen : encL l ≠ [] := by simp [encL]
  go_wp2_with (at_builtin; refine wpList_append_bytes rfl _ _ 32 rfl 5 Tryd.underlying32 infoU8 w.heap.size _ 2 _ rfl (own_built2 w2 5 (.int .u8 (((encL l).length : Int) / 256)) (.int .u8 (((encL l).length : Int) % 256)) hs2) w2.heap.size A1 (encL l).length c1 (encL l) rfl hen rfl (hr2.alloc (Nat.le_refl _) _) (by omega) (by simp; omega) ?_; intro v3 w3 hown3 hgrow3 hat3)
  have hb23 : Below w2.heap.size w2 w3 := ((Below.refl w2.heap.size w2).alloc (Nat.le_refl _) _).grown hgrow3 (by simp) (fun k hk => Nat.le_of_eq (Option.some.inj hk))
  have h3 := h2.below hb23
  have hbw3 := hbw2.trans (hb23.mono hs2)
  have hs3 := hbw3.size
  obtain ⟨hf1, hf2⟩ := frame_cells l hel.2
  rw [hf1, hf2] at hown3
  clear hgrow3 hat3 hb23 h2
  refine (rstep m _ _ _ _ _ 0 false h3.hl w3 h3.hB).mono ?_
  rintro e w4 ⟨rfl, hB4a, hB4, hk4⟩
  have hB4' := hB4a rfl
  have hown4 := own_RO hown3 hk4 (own_blk hown3 h3.hB (by decide))
  obtain ⟨A4, c4, rfl, hc4, hr4⟩ := own_form2 hown4
  have h4 := h3.write hk4 hB4' (by omega) h3.hs
  have K2 : RK w w4 m (.slice Al ls.length cl) (.slice Ae ls.length ce) (.slice A0 B.length c0) := (RK.of_below hbw3).same (hk4 _ _ _)
  obtain ⟨⟨_, y1, y2, y3, _⟩, _⟩ := h4.cells
  have hs4 := h4.hb
  have hsz4 := (hk4 .nilIface .nilIface .nilIface).size
  have HF := Lib.hid (frame_length l)
  have hfne : frame l ≠ [] := by simp [frame]
  have R4 := h4.raw
  clear hown3 hown4 h3 hk4 hr2 hB4 hB4' hB4a
  obtain ⟨half, hhalf⟩ : ∃ half, half = (frame l).length / 2 := ⟨_, rfl⟩
  have HFT := Lib.hid (show ((frame l).take half).length = half by simp; omega)
  have HFN := Lib.hid (show (frame l).take half ≠ [] by intro e; have h5 := congrArg List.length e; rw [HFT.out] at h5; have h6 := HF.out; simp only [List.length_nil] at h5; omega)
  have hq1 : ((frame l).length : Int).tdiv 2 = (half : Int) := by rw [hhalf]; rfl
  have hq4 : ((frame l).length : Int) / 2 = (half : Int) := by omega
  have hq5 : IntKind.i64.wrap (half : Int) = (half : Int) := by have := HF.out; exact i64_small (by omega)
  have hq2 : (0 : Int) ≤ (half : Int) := by omega
  have hq3 : (half : Int) ≤ (c4 : Int) := by omega
  have hq6 : half ≤ (frame l).length := by omega
  have HHALF := Lib.hid hhalf
  have HOD : Hid (w4.drew.ownsRow b0 5 1 (.slice A0 B.length c0) B.length (bytesV B)) := Lib.hid R4.hbs.drew
  have HRD : Hid (Rd w4.drew w4.heap.size A4 (bytesV ((frame l).take half))) := Lib.hid ((hr4.bytesTake half).keep fun p _ => by simp)
  clear hhalf
  go_wp2_with fail
  go_region_law ((refine step_append_bytes (by rfl) _ _ 32 (by rfl) 5 Tryd.underlying32 infoU8 b0 (.slice A0 B.length c0) B.length _ (by rfl) HOD.out w4.heap.size A4 half c4 ((frame l).take half) (by rfl) HFN.out HFT.out.symm HRD.out (by rw [HFT.out]; omega) hs4 ?_; intro v5 w5 hown5 hgrow5 hat5; obtain ⟨A5, c5, rfl, hfm5⟩ := own_form hown5; clear hfm5; have hgrow6 : w4.grownBy w5 (Value.slice A0 B.length c0).ownBlock := ⟨hgrow5.os, hgrow5.tape, hgrow5.output, hgrow5.size, hgrow5.block⟩; have hB5 := R4.hB.grown hgrow6 R4.ne3; have z3 := hB5.frozen 3; have zc3 : w5.cell? ⟨m, 3, none⟩ = some (.slice A0 B.length c0) := hB5.cell 3))
  go_wp2_with fail
  go_ret
  rw [← HHALF.out]
  have hlen : (B ++ (frame l).take half).length = B.length + half := by rw [List.length_append, HFT.out]
  rw [HFT.out] at hown5 hat5
  have R6 := R4.setB H.out.hg (B' := B ++ (frame l).take half) (by rw [hlen, bytesV_append]; exact hown5) hgrow6
  refine ⟨rfl, _, _, _, ⟨R6.hB, H.out.hg, R6.hls, R6.hes, R6.hbs, by omega, ⟨H.out.hr.1, H.out.hr.2.1, ?_⟩, ?_, ?_, R6.hb⟩, (K2.same (RK.grown3 hgrow6)).setCell 3 _, ?_⟩
  · have := HF.out; have := HR.out; omega
  · have := H.out.hs; omega
  · have := H.out.hf; omega
  · intro k hk hlt
    rcases hat5 with h | h
    · rw [← h]; exact hk
    · rw [h] at hk; injection hk with hk; simp at hk; omega
end
end Go.Proofs.YtdcjogofjniogaaDoor
