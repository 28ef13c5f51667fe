/- Texts joined: XLogS. Each says at its head what it proves; conditions: as said there. -/
import Derived.Test.YtfklhjkgogncdaaD17
import Derived.Test.YtfklhjkgogncdaaD16
import Derived.Test.YtfklhjkgogncdaaD4
/- A log in memory, its blocks a set; what each method makes of it, exactly. No conditions. -/
namespace Go.Proofs.Ytfklhjkgogncdaa
set_option linter.unusedVariables false
set_option linter.unusedSimpArgs false
set_option maxRecDepth 100000
open Go.RowKit

def LogS (w : World) (S : Nat → Prop) (lg : Nat) (g : Lg) : Prop := ∃ v, LogAt w 0 lg v g.left g.down g.room g.B g.safe ∧ S lg ∧ ∀ q, v.ownBlock = some q → S q
section
variable {w w' : World} {S : Nat → Prop} {lg : Nat} {g : Lg}
theorem LogS.lt (h : LogS w S lg g) : lg < w.heap.size := by obtain ⟨v, h1, _⟩ := h; exact h1.hB.lt
theorem LogS.mono {S' : Nat → Prop} (h : LogS w S lg g) (hs : ∀ q, S q → S' q) : LogS w S' lg g := by
  obtain ⟨v, h1, h2, h3⟩ := h
  exact ⟨v, h1, hs _ h2, fun q e => hs q (h3 q e)⟩
theorem LogS.far {T : Nat → Prop} (h : LogS w S lg g) (f : Fr T w w') (hd : ∀ q, S q → ¬ T q) : LogS w' S lg g := by
  obtain ⟨v, h1, h2, h3⟩ := h
  exact ⟨v, ⟨h1.hB.fr f (hd _ h2), h1.hg, own_fr h1.ho f (fun q e => hd q (h3 q e)), h1.hl, h1.hr, h1.hs, Nat.zero_le _⟩, h2, h3⟩
theorem LogS.below (h : LogS w S lg g) (hb : Below w.heap.size w w') : LogS w' S lg g := h.far (T := fun _ => False) (Fr.of_below hb) (fun _ _ q => q)
theorem LogS.tight (h : LogS w S lg g) : LogS w (fun q => S q ∧ q < w.heap.size) lg g := by
  obtain ⟨v, h1, h2, h3⟩ := h
  exact ⟨v, h1, ⟨h2, h1.hB.lt⟩, fun q e => ⟨h3 q e, (World.ownsRow.lt h1.ho q e).2⟩⟩
theorem fr_LK {v : Value} (hk : LK w w' lg v) (h2 : S lg) (h3 : ∀ q, v.ownBlock = some q → S q) : Fr S w w' := ⟨hk.os, hk.tape, hk.output, hk.size, fun k hk' hn => hk.block k hk' (fun e => hn (e ▸ h2)) (fun e => hn (h3 k e.symm))⟩
theorem LogS.of_to {v : Value} {left : Int} {down : Bool} {room : Int} {B : List UInt8} {safe : Nat} (h : LogTo w 0 lg v left down room B safe w') (h2 : S lg) (h3 : ∀ q, v.ownBlock = some q → S q) : Fr S w w' ∧ LogS w' (plus S w) lg ⟨left, down, room, B, safe⟩ := by
  obtain ⟨v', q2, q3, q4⟩ := h
  refine ⟨fr_LK q3 h2 h3, v', q2, .inl h2, fun q e => ?_⟩
  rcases Nat.lt_or_ge q w.heap.size with c | c
  · exact .inl (h3 q (q4 q e c))
  · exact .inr c
theorem LogS.append (h : LogS w S lg g) (A : Option Addr) (l : List Chg) (c : Nat) (hm : l.length ≤ maxLen) (hS : Small l) (hl : Rd w w.heap.size A (cellsC l)) :
    Calls Try.prog 30 #[.pointer (some ⟨lg, 0, none⟩), .slice A l.length c] w fun e w' => e = .returned (faultV (g.append l).1) ∧ Fr S w w' ∧ LogS w' (plus S w) lg (g.append l).2 := by
  obtain ⟨left, down, room, B, safe⟩ := g
  have h0 := h
  obtain ⟨v, h1, h2, h3⟩ := h
  simp only at h1
  unfold Lg.append
  simp only
  by_cases hf : chgFault l = 0
  · rw [if_neg (by simp [hf])]
    by_cases hr : room < (B.length : Int) + 2 + ((encL l).length : Int)
    · rw [if_pos hr]
      exact (h1.append_full A l c hm hS hf hl hr).mono fun e w' q => ⟨q.1, Fr.of_below q.2, (h0.below q.2).mono plus.old⟩
    · rw [if_neg hr]
      cases down with
      | true => exact (h1.append_down A l c hm hS hf hl hr).mono fun e w' q => ⟨q.1, Fr.of_below q.2, (h0.below q.2).mono plus.old⟩
      | false =>
        simp only [Bool.false_eq_true, if_false]
        by_cases hz : left = 0
        · subst hz
          rw [if_pos rfl]
          exact (h1.append_off A l c hm hS hf hl hr).mono fun e w' q => ⟨q.1, LogS.of_to q.2 h2 h3⟩
        · rw [if_neg hz]
          exact (h1.append_on A l c hm hS hf hl hr hz).mono fun e w' q => ⟨q.1, LogS.of_to q.2 h2 h3⟩
  · rw [if_pos hf]
    refine (h1.append_bad A l c hm hS hf hl).mono fun e w' q => ⟨?_, Fr.of_below q.2, (h0.below q.2).mono plus.old⟩
    rw [q.1]
    unfold faultV
    simp only [if_neg hf]
theorem LogS.sync (h : LogS w S lg g) :
    Calls Try.prog 38 #[.pointer (some ⟨lg, 0, none⟩)] w fun e w' => e = .returned (faultV g.sync.1) ∧ Fr S w w' ∧ LogS w' (plus S w) lg g.sync.2 := by
  obtain ⟨left, down, room, B, safe⟩ := g
  have h0 := h
  obtain ⟨v, h1, h2, h3⟩ := h
  simp only at h1
  unfold Lg.sync
  simp only
  cases down with
  | true => exact h1.sync_down.mono fun e w' q => by rw [q.2]; exact ⟨q.1, Fr.refl _ _, h0.mono plus.old⟩
  | false =>
    simp only [Bool.false_eq_true, if_false]
    by_cases hz : left = 0
    · subst hz
      rw [if_pos rfl]
      exact h1.sync_off.mono fun e w' q => ⟨q.1, fr_LK q.2.2 h2 h3, v, q.2.1, .inl h2, fun k e => .inl (h3 k e)⟩
    · rw [if_neg hz]
      exact (h1.sync_on hz).mono fun e w' q => ⟨q.1, fr_LK q.2.2 h2 h3, v, q.2.1, .inl h2, fun k e => .inl (h3 k e)⟩
theorem LogS.crash (h : LogS w S lg g) (n : Int) (hn : (Lit.int .i64 n).wf = true) :
    Calls Try.prog 39 #[.pointer (some ⟨lg, 0, none⟩), .int .i64 n] w fun e w' => e = .returned (.tuple #[]) ∧ Fr S w w' ∧ LogS w' (plus S w) lg (g.crash n) := by
  obtain ⟨left, down, room, B, safe⟩ := g
  obtain ⟨v, h1, h2, h3⟩ := h
  exact (h1.crash n hn).mono fun e w' q => ⟨q.1, LogS.of_to q.2 h2 h3⟩
theorem LogS.fail (h : LogS w S lg g) (n : Int) (hn : (Lit.int .i64 n).wf = true) :
    Calls Try.prog 43 #[.pointer (some ⟨lg, 0, none⟩), .int .i64 n] w fun e w' => e = .returned (.tuple #[]) ∧ Fr S w w' ∧ LogS w' (plus S w) lg (g.fail n) := by
  obtain ⟨v, h1, h2, h3⟩ := h
  exact (h1.fail n hn).mono fun e w' q => ⟨q.1, fr_LK q.2.2 h2 h3, v, q.2.1, .inl h2, fun k e => .inl (h3 k e)⟩
theorem LogS.safe_ok (h : LogS w S lg g) :
    Calls Try.prog 42 #[.pointer (some ⟨lg, 0, none⟩)] w fun e w' => e = .returned (.int .i64 g.safe) ∧ w' = w := by
  obtain ⟨v, h1, h2, h3⟩ := h
  exact h1.safe_ok
theorem LogS.bytes_ok (h : LogS w S lg g) :
    Calls Try.prog 32 #[.pointer (some ⟨lg, 0, none⟩)] w fun e w' => ∃ v, e = .returned v ∧ w'.ownsRow w.heap.size 5 1 v g.B.length (bytesV g.B) ∧ Below w.heap.size w w' := by
  obtain ⟨v, h1, h2, h3⟩ := h
  exact h1.bytes_ok
theorem LogS.read_ok (h : LogS w S lg g) :
    Calls Try.prog 40 #[.pointer (some ⟨lg, 0, none⟩)] w fun e w' => ∃ vo, e = .returned vo ∧ OwnLL w' w.heap.size vo (parse g.B).1 ∧ Below w.heap.size w w' := by
  obtain ⟨v, h1, h2, h3⟩ := h
  exact h1.read_ok
theorem LogS.down_ok (h : LogS w S lg g) :
    Calls Try.prog 24 #[.pointer (some ⟨lg, 0, none⟩)] w fun e w' => e = .returned (.bool g.down) ∧ w' = w := by
  obtain ⟨v, h1, h2, h3⟩ := h
  obtain ⟨⟨x0, x1, x2, x3, x4⟩, z0, z1, z3, z4⟩ := h1.cells
  go_enter Try.func24, Try.ntmps24
  go_wp2
  go_ret
  exact ⟨rfl, rfl⟩
theorem LogS.len (h : LogS w S lg g) : (g.B.length : Int) ≤ g.room ∧ g.room ≤ 100000 ∧ g.safe ≤ g.B.length := by
  obtain ⟨v, h1, h2, h3⟩ := h
  have := h1.hr
  exact ⟨by omega, by omega, h1.hs⟩
end
theorem logNew_ok (room : Int) (hr : 0 ≤ room ∧ room ≤ 100000) (w : World) :
    Calls Try.prog 22 #[.int .i64 room] w fun e w' => e = .returned (.tuple #[.pointer (some ⟨w.heap.size, 0, none⟩), .nilIface]) ∧ LogS w' (fun q => w.heap.size ≤ q) w.heap.size ⟨-1, false, room, [], 0⟩ ∧ Below w.heap.size w w' :=
  (new_ok room hr w 0 (Nat.zero_le _)).mono fun e w' q => ⟨q.1, ⟨_, q.2.1, Nat.le_refl _, fun k e => by cases e⟩, q.2.2⟩
end Go.Proofs.Ytfklhjkgogncdaa
