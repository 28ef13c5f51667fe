/- The document's log in memory: cells of its ends, what stands beside it. No conditions. -/
import Derived.Test.YtdcjogofjniogaaDoorSteps
import Derived.Test.YtdcjogofjniogaaDoorRefCode2
namespace Go.Proofs.YtdcjogofjniogaaDoor
set_option linter.unusedVariables false
set_option linter.unusedSimpArgs false
open Go.RowKit

/-- Cells of the lists' ends. -/
def cellsE (ls : List (List Chg)) : List Value := (List.range ls.length).map fun i => .int .i64 ((frames (ls.take (i + 1))).length : Nat)
theorem cellsE_length (ls : List (List Chg)) : (cellsE ls).length = ls.length := by simp [cellsE]
theorem cellsE_at (ls : List (List Chg)) {k : Nat} (hk : k < ls.length) : (cellsE ls)[k]? = some (.int .i64 ((frames (ls.take (k + 1))).length : Nat)) := by simp [cellsE, hk]
theorem cellsE_snoc (ls : List (List Chg)) (l : List Chg) : cellsE (ls ++ [l]) = cellsE ls ++ [.int .i64 ((frames (ls ++ [l])).length : Nat)] := by
  simp only [cellsE, List.length_append, List.length_singleton, List.range_succ, List.map_append, List.map_cons, List.map_nil]
  congr 1
  · refine List.map_congr_left fun i hi => ?_
    rw [List.mem_range] at hi
    rw [List.take_append_of_le_length (by omega)]
  · rw [List.take_of_length_le (by simp)]
theorem cellsE_take (ls : List (List Chg)) {k : Nat} (hk : k ≤ ls.length) : (cellsE ls).take k = cellsE (ls.take k) := by
  refine List.ext_getElem? fun i => ?_
  rw [List.getElem?_take]
  have hl : (ls.take k).length = k := by simp; omega
  split
  · rename_i h
    rw [cellsE_at ls (by omega), cellsE_at (ls.take k) (by omega), List.take_take, Nat.min_eq_left (by omega)]
  · rw [List.getElem?_eq_none (by rw [cellsE_length, hl]; omega)]
theorem cellsE_one (ls : List (List Chg)) : ∀ u ∈ cellsE ls, u.oneCell' = true := by
  intro u hu
  simp only [cellsE, List.mem_map] at hu
  obtain ⟨i, _, rfl⟩ := hu
  rfl
theorem len_frames : ∀ ls : List (List Chg), ls.length ≤ (frames ls).length
  | [] => by simp
  | l :: m => by have := frame_length l; have := len_frames m; simp only [frames, List.length_append, List.length_cons]; omega
/-- How many lists end within n bytes: the place where the loop ends is the place where the bytes are cut. -/
theorem crash_same {down : Bool} {B : List UInt8} {safe ns : Nat} {all : List (List Chg)} (h : LInv down B safe all ns) (hs : safe ≤ B.length) (keep : Int) {k : Nat} (hk : k ≤ all.length)
    (h1 : (frames (all.take k)).length ≤ crashN keep B.length safe) (h2 : k < all.length → crashN keep B.length safe < (frames (all.take (k + 1))).length) :
    (B.take (crashN keep B.length safe)).take (parse (B.take (crashN keep B.length safe))).2 = frames (all.take k) ∧ (parse (B.take (crashN keep B.length safe))).2 = (frames (all.take k)).length ∧ LInv false (frames (all.take k)) (frames (all.take k)).length (all.take k) k := by
  obtain ⟨g1, g2, g3, t, g4, g5, g6⟩ := h
  obtain ⟨c1, c2⟩ := crashN_range keep B.length safe hs
  obtain ⟨k', t', k1, k2, k3, k4⟩ := take_frames all t (crashN keep B.length safe) g1 g5 (by rw [← g4]; exact c2)
  rw [← g4] at k3
  have hl := congrArg List.length k3
  rw [List.length_take, List.length_append, Nat.min_eq_left c2] at hl
  have hle := k4 k hk h1
  have hkk : k = k' := by
    rcases Nat.lt_or_ge k k' with h | h
    · have h3 := h2 (by omega)
      have h4 : (frames (all.take (k + 1))).length ≤ (frames (all.take k')).length := by
        have := frames_take_le (all.take k') (k + 1)
        rwa [List.take_take, Nat.min_eq_left (by omega)] at this
      omega
    · omega
  subst hkk
  have hall : ∀ l ∈ all.take k, chgFault l = 0 := fun l hl => g1 l (List.mem_of_mem_take hl)
  have hp := parse_frames hall k2
  rw [← k3] at hp
  refine ⟨?_, by rw [hp], hall, by simp; omega, by rw [List.take_take, Nat.min_self], [], by simp, trivial, fun _ => rfl⟩
  rw [hp, k3]
  simp

theorem own_kept {w w' : World} {base size n : Nat} {e : TypeId} {v : Value} {xs : List Value} (h : w.ownsRow base e size v n xs) (hk : ∀ k, v.ownBlock = some k → w'.heap[k]? = w.heap[k]?) : w'.ownsRow base e size v n xs := by
  rcases h.2 with ⟨h3, h4⟩ | ⟨g2, cap, cur, rfl, hb, hh, r⟩
  · exact ⟨h.1, .inl ⟨h3, h4⟩⟩
  · exact ⟨h.1, .inr ⟨g2, cap, cur, rfl, hb, by rw [hk g2 rfl]; exact hh, r⟩⟩
theorem AllAt.kept {w w' : World} {b0 : Nat} {v : Value} {all : List (List Chg)} (h : AllAt w b0 v all) (hb : Below b0 w w') (hk : ∀ k, v.ownBlock = some k → w'.heap[k]? = w.heap[k]?) : AllAt w' b0 v all := by
  obtain ⟨xs, h1, h2⟩ := h
  exact ⟨xs, own_kept h1 hk, fun i hi => by obtain ⟨C, c, h3, h4⟩ := h2 i hi; exact ⟨C, c, h3, h4.below hb⟩⟩
/-- Of what was there only block m and three rows may have turned. -/
structure RK (w w' : World) (m : Nat) (vl ve vb : Value) : Prop where
  os : w'.os = w.os
  tape : w'.tape = w.tape
  output : w'.output = w.output
  size : w.heap.size ≤ w'.heap.size
  block : ∀ k, k < w.heap.size → k ≠ m → some k ≠ vl.ownBlock → some k ≠ ve.ownBlock → some k ≠ vb.ownBlock → w'.heap[k]? = w.heap[k]?
section
variable {w w' : World} {m : Nat} {vl ve vb : Value}
theorem RK.refl (w : World) (m : Nat) (vl ve vb : Value) : RK w w m vl ve vb := ⟨rfl, rfl, rfl, Nat.le_refl _, fun _ _ _ _ _ _ => rfl⟩
theorem RK.of_below (h : Below w.heap.size w w') : RK w w' m vl ve vb := ⟨h.os, h.tape, h.output, h.size, fun k hk _ _ _ _ => h.block k hk⟩
theorem RK.trans {a b c : World} {vl' ve' vb' : Value} (h : RK a b m vl ve vb) (h2 : RK b c m vl' ve' vb') (f1 : Fresh a vl vl') (f2 : Fresh a ve ve') (f3 : Fresh a vb vb') : RK a c m vl ve vb :=
  ⟨h2.os.trans h.os, h2.tape.trans h.tape, h2.output.trans h.output, Nat.le_trans h.size h2.size, fun k hk h1 h3 h4 h5 => by
    rw [h2.block k (Nat.lt_of_lt_of_le hk h.size) h1 (fun e => h3 (f1 k e.symm hk).symm) (fun e => h4 (f2 k e.symm hk).symm) (fun e => h5 (f3 k e.symm hk).symm), h.block k hk h1 h3 h4 h5]⟩
theorem RK.same {a b c : World} (h : RK a b m vl ve vb) (h2 : RK b c m vl ve vb) : RK a c m vl ve vb := h.trans h2 (Fresh.refl _ _) (Fresh.refl _ _) (Fresh.refl _ _)
theorem RK.grown1 (h : w.grownBy w' vl.ownBlock) : RK w w' m vl ve vb := ⟨h.os, h.tape, h.output, h.size, fun k hk _ h2 _ _ => h.block k hk h2⟩
theorem RK.grown2 (h : w.grownBy w' ve.ownBlock) : RK w w' m vl ve vb := ⟨h.os, h.tape, h.output, h.size, fun k hk _ _ h2 _ => h.block k hk h2⟩
theorem RK.grown3 (h : w.grownBy w' vb.ownBlock) : RK w w' m vl ve vb := ⟨h.os, h.tape, h.output, h.size, fun k hk _ _ _ h2 => h.block k hk h2⟩
theorem RK.setCell (h : RK w w' m vl ve vb) (i : Nat) (u : Value) : RK w (w'.setCell ⟨m, i, none⟩ u) m vl ve vb :=
  ⟨h.os, h.tape, h.output, by simpa using h.size, fun k hk h1 h2 h3 h4 => by
    rw [← h.block k hk h1 h2 h3 h4]
    simp [World.setCell, Array.getElem?_modify]
    intro e; exact absurd e.symm h1⟩
theorem RK.below {b0 : Nat} (h : RK w w' m vl ve vb) (hg : b0 ≤ m) (h1 : ∀ k, vl.ownBlock = some k → b0 ≤ k) (h2 : ∀ k, ve.ownBlock = some k → b0 ≤ k) (h3 : ∀ k, vb.ownBlock = some k → b0 ≤ k) (hb : b0 ≤ w.heap.size) : Below b0 w w' :=
  ⟨h.os, h.tape, h.output, h.size, fun k hk => h.block k (by omega) (by omega) (fun e => by have := h1 k e.symm; omega) (fun e => by have := h2 k e.symm; omega) (fun e => by have := h3 k e.symm; omega)⟩
end
/-- The document's log. -/
structure RefAt (w : World) (b0 m : Nat) (vl ve vb : Value) (left : Int) (down : Bool) (room : Int) (ls : List (List Chg)) (B : List UInt8) (safe : Nat) : Prop where
  hB : Blk w m 47 #[.int .i64 room, vl, ve, vb, .int .i64 safe, .int .i64 left, .bool down]
  hg : b0 ≤ m
  hls : AllAt w b0 vl ls
  hes : w.ownsRow b0 3 1 ve ls.length (cellsE ls)
  hbs : w.ownsRow b0 5 1 vb B.length (bytesV B)
  hl : -1 ≤ left ∧ left ≤ 9223372036854775807
  hr : 0 ≤ room ∧ room ≤ 100000 ∧ (B.length : Int) ≤ room
  hs : safe ≤ B.length
  hf : (frames ls).length ≤ B.length
  hb : b0 ≤ w.heap.size
section
variable {w w' : World} {b0 m : Nat} {vl ve vb : Value} {left room : Int} {down : Bool} {ls : List (List Chg)} {B : List UInt8} {safe : Nat}
theorem RefAt.below (h : RefAt w b0 m vl ve vb left down room ls B safe) (hb : Below w.heap.size w w') : RefAt w' b0 m vl ve vb left down room ls B safe :=
  ⟨h.hB.below hb h.hB.lt, h.hg, h.hls.kept (hb.mono h.hb) (fun k hk => hb.block k (by obtain ⟨xs, h1, _⟩ := h.hls; exact (h1.lt k hk).2)), own_below h.hes hb, own_below h.hbs hb, h.hl, h.hr, h.hs, h.hf, Nat.le_trans h.hb hb.size⟩
theorem RefAt.rkBelow {w' : World} (h : RefAt w b0 m vl ve vb left down room ls B safe) (hk : RK w w' m vl ve vb) : Below b0 w w' := by
  obtain ⟨xs, h1, _⟩ := h.hls
  exact hk.below h.hg (fun k e => (h1.lt k e).1) (fun k e => (h.hes.lt k e).1) (fun k e => (h.hbs.lt k e).1) h.hb
/-- The program's log turned: the document's stands. -/
theorem RefAt.keepLK {g : Nat} {v : Value} {left' room' : Int} {down' : Bool} {B' : List UInt8} {safe' : Nat} (h : RefAt w b0 m vl ve vb left down room ls B safe) (hL : LogAt w b0 g v left' down' room' B' safe') (hk : LK w w' g v)
    (hne : ∀ k, v.ownBlock = some k → vb.ownBlock ≠ some k) : RefAt w' b0 m vl ve vb left down room ls B safe := by
  obtain ⟨xs, h1, h2⟩ := h.hls
  have hbel : Below b0 w w' := hk.below hL.hg (fun k e => (hL.ho.lt k e).1) hL.hb
  have hmg : m ≠ g := by
    intro e
    subst e
    have a := h.hB
    have b := hL.hB
    unfold Blk at a b
    rw [a] at b
    injection b with b
    injection b with _ b
    revert b
    decide
  refine ⟨(hk.block m h.hB.lt hmg (own_blk hL.ho h.hB (by decide))).trans h.hB, h.hg, h.hls.kept hbel fun k e => ?_, own_kept h.hes fun k e => ?_, own_kept h.hbs fun k e => ?_, h.hl, h.hr, h.hs, h.hf, Nat.le_trans h.hb hk.size⟩
  · refine hk.block k (h1.lt k e).2 (fun hh => ?_) (own_types h1 hL.ho (by decide) k e)
    subst hh
    exact own_blk h1 hL.hB (by decide) e.symm
  · refine hk.block k (h.hes.lt k e).2 (fun hh => ?_) (own_types h.hes hL.ho (by decide) k e)
    subst hh
    exact own_blk h.hes hL.hB (by decide) e.symm
  · refine hk.block k (h.hbs.lt k e).2 (fun hh => ?_) (fun hh => hne k hh.symm e)
    subst hh
    exact own_blk h.hbs hL.hB (by decide) e.symm
/-- The document's log turned: the program's stands. -/
theorem LogAt.keepRK {g : Nat} {v : Value} {left' room' : Int} {down' : Bool} {B' : List UInt8} {safe' : Nat} (hL : LogAt w b0 g v left' down' room' B' safe') (h : RefAt w b0 m vl ve vb left down room ls B safe) (hk : RK w w' m vl ve vb)
    (hne : ∀ k, v.ownBlock = some k → vb.ownBlock ≠ some k) : LogAt w' b0 g v left' down' room' B' safe' := by
  obtain ⟨xs, h1, h2⟩ := h.hls
  have hmg : g ≠ m := by
    intro e
    subst e
    have a := h.hB
    have b := hL.hB
    unfold Blk at a b
    rw [a] at b
    injection b with b
    injection b with _ b
    revert b
    decide
  refine ⟨(hk.block g hL.hB.lt hmg (own_blk h1 hL.hB (by decide)) (own_blk h.hes hL.hB (by decide)) (own_blk h.hbs hL.hB (by decide))).trans hL.hB, hL.hg, own_kept hL.ho fun k e => ?_, hL.hl, hL.hr, hL.hs, Nat.le_trans hL.hb hk.size⟩
  refine hk.block k (hL.ho.lt k e).2 (fun hh => ?_) (own_types hL.ho h1 (by decide) k e) (own_types hL.ho h.hes (by decide) k e) (fun hh => hne k e hh.symm)
  subst hh
  exact own_blk hL.ho h.hB (by decide) e.symm
end
end Go.Proofs.YtdcjogofjniogaaDoor
