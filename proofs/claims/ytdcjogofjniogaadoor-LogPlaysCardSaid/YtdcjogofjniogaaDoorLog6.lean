/- A log and the lists that were appended to it: what each method makes of them. No conditions. -/
import Derived.Test.YtdcjogofjniogaaDoorLog5
namespace Go.Proofs.YtdcjogofjniogaaDoor
set_option linter.unusedVariables false
set_option linter.unusedSimpArgs false
open Go.RowKit

/-- The bytes are the lists' frames, and perhaps the beginning of one more; so many lists are safe. -/
def LInv (down : Bool) (B : List UInt8) (safe : Nat) (all : List (List Chg)) (ns : Nat) : Prop :=
  (∀ l ∈ all, chgFault l = 0) ∧ ns ≤ all.length ∧ safe = (frames (all.take ns)).length ∧ ∃ t, B = frames all ++ t ∧ stuck t ∧ (down = false → t = [])
theorem LInv.append {B : List UInt8} {safe ns : Nat} {all : List (List Chg)} {l : List Chg} (h : LInv false B safe all ns) (hl : chgFault l = 0) : LInv false (B ++ frame l) safe (all ++ [l]) ns := by
  obtain ⟨h1, h2, h3, t, h4, h5, h6⟩ := h
  obtain rfl := h6 rfl
  refine ⟨fun x hx => ?_, by simp; omega, ?_, [], ?_, trivial, fun _ => rfl⟩
  · rcases List.mem_append.1 hx with hx | hx
    · exact h1 x hx
    · simp at hx; subst hx; exact hl
  · rw [h3, List.take_append_of_le_length h2]
  · rw [h4, frames_append, frames_one]; simp
theorem LInv.half {B : List UInt8} {safe ns : Nat} {all : List (List Chg)} {l : List Chg} (h : LInv false B safe all ns) (hl : chgFault l = 0) : LInv true (B ++ (frame l).take ((frame l).length / 2)) safe all ns := by
  obtain ⟨h1, h2, h3, t, h4, h5, h6⟩ := h
  obtain rfl := h6 rfl
  refine ⟨h1, h2, h3, (frame l).take ((frame l).length / 2), by rw [h4]; simp, frame_stuck hl ?_, fun h => by cases h⟩
  have := frame_length l
  omega
theorem LInv.down {down : Bool} {B : List UInt8} {safe ns : Nat} {all : List (List Chg)} (h : LInv down B safe all ns) : LInv true B safe all ns := by
  obtain ⟨h1, h2, h3, t, h4, h5, h6⟩ := h
  exact ⟨h1, h2, h3, t, h4, h5, fun h => by cases h⟩
theorem LInv.sync {B : List UInt8} {safe ns : Nat} {all : List (List Chg)} (h : LInv false B safe all ns) : LInv false B B.length all all.length := by
  obtain ⟨h1, h2, h3, t, h4, h5, h6⟩ := h
  obtain rfl := h6 rfl
  exact ⟨h1, Nat.le_refl _, by rw [List.take_length, h4]; simp, [], h4, h5, h6⟩
theorem LInv.parsed {down : Bool} {B : List UInt8} {safe ns : Nat} {all : List (List Chg)} (h : LInv down B safe all ns) : (parse B).1 = all := by
  obtain ⟨h1, h2, h3, t, h4, h5, h6⟩ := h
  rw [h4, parse_frames h1 h5]
theorem crashN_range (keep : Int) (len safe : Nat) (h : safe ≤ len) : safe ≤ crashN keep len safe ∧ crashN keep len safe ≤ len := by
  unfold crashN
  split
  · omega
  · split <;> omega
theorem LInv.crash {down : Bool} {B : List UInt8} {safe ns : Nat} {all : List (List Chg)} (h : LInv down B safe all ns) (hs : safe ≤ B.length) (keep : Int) :
    ∃ k, ns ≤ k ∧ k ≤ all.length ∧ LInv false ((B.take (crashN keep B.length safe)).take (parse (B.take (crashN keep B.length safe))).2) (parse (B.take (crashN keep B.length safe))).2 (all.take k) k := by
  obtain ⟨h1, h2, h3, t, h4, h5, h6⟩ := h
  obtain ⟨c1, c2⟩ := crashN_range keep B.length safe hs
  obtain ⟨k, t', k1, k2, k3, k4⟩ := take_frames all t (crashN keep B.length safe) h1 h5 (by rw [← h4]; exact c2)
  rw [← h4] at k3
  have hall : ∀ l ∈ all.take k, chgFault l = 0 := fun l hl => h1 l (List.mem_of_mem_take hl)
  have hp := parse_frames hall k2
  rw [← k3] at hp
  refine ⟨k, k4 ns h2 (by rw [← h3]; exact c1), k1, hall, by simp; omega, ?_, [], ?_, trivial, fun _ => rfl⟩
  · rw [hp]
    simp [List.take_take]
  · rw [hp, k3]
    simp

/-- A log with its lists. -/
def Logged (w : World) (b0 g : Nat) (room : Int) (all : List (List Chg)) (ns : Nat) : Prop := ∃ v left down B safe, LogAt w b0 g v left down room B safe ∧ LInv down B safe all ns
/-- What was there below, and rows of lists, stand. -/
def Keep (b0 : Nat) (w w' : World) : Prop := Below b0 w w' ∧ w.heap.size ≤ w'.heap.size ∧ (∀ (v : Value) (n : Nat) (xs : List Value), w.ownsRow b0 36 1 v n xs → w'.ownsRow b0 36 1 v n xs) ∧
  ∀ (t : TypeId) (g2 : Nat) (cs : Array Value), t ≠ 81 → t ≠ 5 → Blk w g2 t cs → Blk w' g2 t cs
theorem Keep.of_below {b0 : Nat} {w w' : World} (h : Below w.heap.size w w') (hb : b0 ≤ w.heap.size) : Keep b0 w w' := ⟨h.mono hb, h.size, fun v n xs ho => own_below ho h, fun t g2 cs _ _ hB => hB.below h hB.lt⟩
theorem Keep.of_LK {b0 g : Nat} {w w' : World} {v : Value} {left room : Int} {down : Bool} {B : List UInt8} {safe : Nat} (h : LogAt w b0 g v left down room B safe) (hk : LK w w' g v) : Keep b0 w w' :=
  ⟨hk.below h.hg (fun k hk => (h.ho.lt k hk).1) h.hb, hk.size, fun u n xs ho => own_LK ho hk (own_blk ho h.hB (by decide)) (own_types ho h.ho (by decide)), fun t g2 cs h1 h2 hB => (hk.block g2 hB.lt (fun e => by
    subst e
    have := h.hB
    unfold Blk at this hB
    rw [this] at hB
    injection hB with hB
    injection hB with _ hB
    exact h1 hB.symm) (own_blk h.ho hB (fun e => h2 e.symm))).trans hB⟩
theorem Keep.trans {b0 : Nat} {a b c : World} (h : Keep b0 a b) (h2 : Keep b0 b c) : Keep b0 a c := ⟨h.1.trans h2.1, Nat.le_trans h.2.1 h2.2.1, fun v n xs ho => h2.2.2.1 v n xs (h.2.2.1 v n xs ho), fun t g2 cs h3 h4 hB => h2.2.2.2 t g2 cs h3 h4 (h.2.2.2 t g2 cs h3 h4 hB)⟩
theorem Logged.below {w w' : World} {b0 g : Nat} {room : Int} {all : List (List Chg)} {ns : Nat} (h : Logged w b0 g room all ns) (hb : Below w.heap.size w w') : Logged w' b0 g room all ns := by
  obtain ⟨v, left, down, B, safe, h1, h2⟩ := h
  exact ⟨v, left, down, B, safe, h1.below hb, h2⟩
/-- A row of lists grew. -/
theorem Logged.grown {w w' : World} {b0 g : Nat} {room : Int} {all : List (List Chg)} {ns : Nat} (h : Logged w b0 g room all ns) {u : Value} {n : Nat} {xs : List Value} (ho : w.ownsRow b0 36 1 u n xs) (hg : w.grownBy w' u.ownBlock) : Logged w' b0 g room all ns := by
  obtain ⟨v, left, down, B, safe, h1, h2⟩ := h
  exact ⟨v, left, down, B, safe, ⟨h1.hB.grown hg (own_blk ho h1.hB (by decide)), h1.hg, own_grown h1.ho ho (by decide) hg, h1.hl, h1.hr, h1.hs, Nat.le_trans h1.hb hg.size⟩, h2⟩
theorem Logged.hb {w : World} {b0 g : Nat} {room : Int} {all : List (List Chg)} {ns : Nat} (h : Logged w b0 g room all ns) : b0 ≤ w.heap.size := by
  obtain ⟨v, left, down, B, safe, h1, h2⟩ := h
  exact h1.hb
theorem Logged.hn {w : World} {b0 g : Nat} {room : Int} {all : List (List Chg)} {ns : Nat} (h : Logged w b0 g room all ns) : ns ≤ all.length ∧ all.length ≤ 100000 ∧ ∀ l ∈ all, chgFault l = 0 := by
  obtain ⟨v, left, down, B, safe, h1, h2, h3, h4, t, h5, _⟩ := h
  refine ⟨h3, ?_, h2⟩
  have hr := h1.hr
  have : all.length ≤ (frames all).length := by
    clear h5 h4 h3 h2
    induction all with
    | nil => simp
    | cons l m ih => have := frame_length l; simp only [frames, List.length_append, List.length_cons]; omega
  rw [h5, List.length_append] at hr
  omega
section
variable {w : World} {b0 g : Nat} {room : Int} {all : List (List Chg)} {ns : Nat}
theorem Logged.append (h : Logged w b0 g room all ns) (A : Option Addr) (l : List Chg) (c : Nat) (hm : l.length ≤ maxLen) (hS : Small l) (hl : Rd w w.heap.size A (cellsC l)) :
    Calls Tryd.prog 8 #[.pointer (some ⟨g, 0, none⟩), .slice A l.length c] w fun e w' => Keep b0 w w' ∧
      ((chgFault l = 0 ∧ e = .returned .nilIface ∧ Logged w' b0 g room (all ++ [l]) ns) ∨ (∃ k, e = .returned (.iface 31 (.int .i64 k)) ∧ Logged w' b0 g room all ns)) := by
  obtain ⟨v, left, down, B, safe, h1, h2⟩ := h
  by_cases hf : chgFault l = 0
  · by_cases hr : room < (B.length : Int) + 2 + ((encL l).length : Int)
    · exact (h1.append_full A l c hm hS hf hl hr).mono fun e w' q => ⟨Keep.of_below q.2 h1.hb, .inr ⟨3, q.1, v, left, down, B, safe, h1.below q.2, h2⟩⟩
    · cases down with
      | true => exact (h1.append_down A l c hm hS hf hl hr).mono fun e w' q => ⟨Keep.of_below q.2 h1.hb, .inr ⟨8, q.1, v, left, true, B, safe, h1.below q.2, h2⟩⟩
      | false =>
        by_cases h0 : left = 0
        · subst h0
          refine (h1.append_off A l c hm hS hf hl hr).mono fun e w' q => ?_
          obtain ⟨q1, v', q2, q3, q4⟩ := q
          exact ⟨Keep.of_LK h1 q3, .inr ⟨8, q1, v', -1, true, _, safe, q2, h2.half hf⟩⟩
        · refine (h1.append_on A l c hm hS hf hl hr h0).mono fun e w' q => ?_
          obtain ⟨q1, v', q2, q3, q4⟩ := q
          exact ⟨Keep.of_LK h1 q3, .inl ⟨hf, q1, v', leftS left, false, _, safe, q2, h2.append hf⟩⟩
  · exact (h1.append_bad A l c hm hS hf hl).mono fun e w' q => ⟨Keep.of_below q.2 h1.hb, .inr ⟨chgFault l, q.1, v, left, down, B, safe, h1.below q.2, h2⟩⟩
theorem Logged.sync (h : Logged w b0 g room all ns) :
    Calls Tryd.prog 11 #[.pointer (some ⟨g, 0, none⟩)] w fun e w' => Keep b0 w w' ∧
      ((e = .returned .nilIface ∧ Logged w' b0 g room all all.length) ∨ (e = .returned (.iface 31 (.int .i64 8)) ∧ Logged w' b0 g room all ns)) := by
  obtain ⟨v, left, down, B, safe, h1, h2⟩ := h
  cases down with
  | true => exact h1.sync_down.mono fun e w' q => by rw [q.2]; exact ⟨Keep.of_below (Below.refl _ _) h1.hb, .inr ⟨q.1, v, left, true, B, safe, h1, h2⟩⟩
  | false =>
    by_cases h0 : left = 0
    · subst h0
      exact h1.sync_off.mono fun e w' q => ⟨Keep.of_LK h1 q.2.2, .inr ⟨q.1, v, -1, true, B, safe, q.2.1, h2.down⟩⟩
    · exact (h1.sync_on h0).mono fun e w' q => ⟨Keep.of_LK h1 q.2.2, .inl ⟨q.1, v, leftS left, false, B, B.length, q.2.1, h2.sync⟩⟩
theorem Logged.fail (h : Logged w b0 g room all ns) (n : Int) (hn : (Lit.int .i64 n).wf = true) :
    Calls Tryd.prog 12 #[.pointer (some ⟨g, 0, none⟩), .int .i64 n] w fun e w' => e = .returned (.tuple #[]) ∧ Keep b0 w w' ∧ Logged w' b0 g room all ns := by
  obtain ⟨v, left, down, B, safe, h1, h2⟩ := h
  exact (h1.fail n hn).mono fun e w' q => ⟨q.1, Keep.of_LK h1 q.2.2, v, _, down, B, safe, q.2.1, h2⟩
theorem Logged.crash (h : Logged w b0 g room all ns) (n : Int) (hn : (Lit.int .i64 n).wf = true) :
    Calls Tryd.prog 13 #[.pointer (some ⟨g, 0, none⟩), .int .i64 n] w fun e w' => e = .returned (.tuple #[]) ∧ Keep b0 w w' ∧ ∃ k, ns ≤ k ∧ k ≤ all.length ∧ Logged w' b0 g room (all.take k) k := by
  obtain ⟨v, left, down, B, safe, h1, h2⟩ := h
  refine (h1.crash n hn).mono fun e w' q => ?_
  obtain ⟨q1, v', q2, q3, q4⟩ := q
  obtain ⟨k, k1, k2, k3⟩ := h2.crash h1.hs n
  exact ⟨q1, Keep.of_LK h1 q3, k, k1, k2, v', -1, false, _, _, q2, k3⟩
theorem Logged.read (h : Logged w b0 g room all ns) :
    Calls Tryd.prog 20 #[.pointer (some ⟨g, 0, none⟩)] w fun e w' => ∃ vo, e = .returned vo ∧ OwnLL w' w.heap.size vo all ∧ Below w.heap.size w w' := by
  obtain ⟨v, left, down, B, safe, h1, h2⟩ := h
  have := h1.read_ok
  rwa [h2.parsed] at this
end
end Go.Proofs.YtdcjogofjniogaaDoor
