/- Texts of addresses as the reference reads them: plain mathematics of bytes. No conditions. -/
import Derived.Test.YtemokelgafndpaaGreatDoorTextMath
namespace Go.Proofs.YtemokelgafndpaaGreatDoor
set_option linter.unusedVariables false
set_option linter.unusedSimpArgs false
open Go.Lib

/-- The number of at most three digits that a text is; -1: it is none. -/
def smallS (s : List UInt8) : Int := match smallM 999 s with
  | some m => (m : Int)
  | none => -1
theorem smallM_more {a b : Nat} (h : a ≤ b) (s : List UInt8) : smallM a s = match smallM b s with
    | some m => if m ≤ a then some m else none
    | none => none := by
  cases e : smallM b s with
  | none =>
    simp only
    rw [smallM_none] at e ⊢
    exact fun m hm => e m (by omega)
  | some m =>
    obtain ⟨h1, h2⟩ := smallM_some.1 e
    simp only
    split
    · rename_i hm
      exact smallM_some.2 ⟨hm, h2⟩
    · rename_i hm
      rw [smallM_none]
      intro k hk q
      have := decDigits_inj (q.trans h2.symm)
      omega
theorem smallS_range (s : List UInt8) : -1 ≤ smallS s ∧ smallS s ≤ 999 := by
  unfold smallS
  cases h : smallM 999 s with
  | none => simp
  | some m => have := (smallM_some.1 h).1; simp; omega
theorem smallS_some {most m : Nat} {s : List UInt8} (hm : most ≤ 999) (h : smallM most s = some m) : smallS s = m ∧ m ≤ most := by
  obtain ⟨h1, h2⟩ := smallM_some.1 h
  unfold smallS
  rw [smallM_some.2 ⟨show m ≤ 999 by omega, h2⟩]
  exact ⟨rfl, h1⟩
theorem smallS_none {most : Nat} {s : List UInt8} (hm : most ≤ 999) (h : smallM most s = none) : smallS s < 0 ∨ (most : Int) < smallS s := by
  unfold smallS
  rw [smallM_more hm] at h
  cases e : smallM 999 s with
  | none => exact .inl (by decide)
  | some m =>
    rw [e] at h
    simp only at h ⊢
    split at h
    · cases h
    · exact .inr (by omega)
theorem snoc_rec {P : List UInt8 → Prop} (h0 : P []) (h1 : ∀ l b, P l → P (l ++ [b])) (l : List UInt8) : P l := by
  generalize hn : l.length = n
  induction n generalizing l with
  | zero => rw [List.eq_nil_of_length_eq_zero hn]; exact h0
  | succ n ih =>
    rcases List.eq_nil_or_concat l with e | ⟨l', b, e⟩
    · subst e; exact h0
    · have e' : l = l' ++ [b] := by simpa using e
      subst e'
      exact h1 l' b (ih l' (by simpa using hn))
/-- How a text of digits goes on. -/
def digOk (b : UInt8) : Bool := decide (48 ≤ b.toNat ∧ b.toNat ≤ 57)
def valN : Nat → List UInt8 → Nat
  | a, [] => a
  | a, b :: l => valN (a * 10 + (b.toNat - 48)) l
theorem valN_snoc : ∀ (l : List UInt8) (a : Nat) (b : UInt8), valN a (l ++ [b]) = valN a l * 10 + (b.toNat - 48)
  | [], a, b => rfl
  | c :: l, a, b => by show valN _ (l ++ [b]) = _; rw [valN_snoc l]; rfl
theorem decFrom_val : ∀ (l : List UInt8) (a : Nat), (∀ b ∈ l, digOk b = true) → decFrom a l = some (valN a l)
  | [], a, _ => rfl
  | b :: l, a, h => by
    have hb := h b List.mem_cons_self
    unfold digOk at hb
    simp only [decide_eq_true_eq] at hb
    unfold decFrom digitVal
    rw [if_pos hb]
    exact decFrom_val l _ fun c hc => h c (List.mem_cons_of_mem _ hc)
theorem dec_of_val {l : List UInt8} (h1 : l ≠ []) (h2 : ∀ b ∈ l, digOk b = true) (h3 : l.length ≤ 1 ∨ l.head? ≠ some 48) : decDigits (valN 0 l) = l := by
  induction l using snoc_rec with
  | h0 => exact absurd rfl h1
  | h1 l b ih =>
    have hb := h2 b (by simp)
    unfold digOk at hb
    simp only [decide_eq_true_eq] at hb
    rw [valN_snoc]
    by_cases hl : l = []
    · subst hl
      have e : valN 0 [] * 10 + (b.toNat - 48) = b.toNat - 48 := by show 0 * 10 + _ = _; omega
      rw [e, decDigits, dif_pos (show b.toNat - 48 < 10 by omega)]
      have e2 : UInt8.ofNat (48 + (b.toNat - 48)) = b := by
        apply UInt8.toNat_inj.1
        rw [show 48 + (b.toNat - 48) = b.toNat by omega]
        simp
      rw [e2]; rfl
    · have hh : l.length ≤ 1 ∨ l.head? ≠ some 48 := by
        rcases h3 with h3 | h3
        · cases l with
          | nil => exact absurd rfl hl
          | cons c r => simp at h3
        · cases l with
          | nil => exact absurd rfl hl
          | cons c r => exact .inr (by simpa using h3)
      have ih' := ih hl (fun c hc => h2 c (List.mem_append_left _ hc)) hh
      have hpos : 0 < valN 0 l := by
        rcases Nat.eq_zero_or_pos (valN 0 l) with e | e
        · exfalso
          rw [e] at ih'
          have e0 : decDigits 0 = [48] := by rw [decDigits, dif_pos (by decide)]; rfl
          rw [e0] at ih'
          rw [← ih'] at h3
          simp at h3
        · exact e
      rw [decDigits, dif_neg (by omega)]
      have d1 : (valN 0 l * 10 + (b.toNat - 48)) / 10 = valN 0 l := by omega
      have d2 : (valN 0 l * 10 + (b.toNat - 48)) % 10 = b.toNat - 48 := by omega
      have e2 : UInt8.ofNat (48 + (b.toNat - 48)) = b := by
        apply UInt8.toNat_inj.1
        rw [show 48 + (b.toNat - 48) = b.toNat by omega]
        simp
      rw [d1, d2, ih', e2]
theorem val_lt (l : List UInt8) (h : ∀ b ∈ l, digOk b = true) : valN 0 l < 10 ^ l.length := by
  induction l using snoc_rec with
  | h0 => decide
  | h1 l b ih =>
    have hb := h b (by simp)
    unfold digOk at hb
    simp only [decide_eq_true_eq] at hb
    have := ih fun c hc => h c (List.mem_append_left _ hc)
    rw [valN_snoc, List.length_append, List.length_singleton, Nat.pow_succ]
    omega
theorem dec_head {u : Nat} (h : 1 < (decDigits u).length) : (decDigits u).head? ≠ some 48 := by
  induction u using Nat.strongRecOn with
  | _ u ih =>
    rw [decDigits] at h ⊢
    split at h
    · simp at h
    · rename_i hu
      rw [dif_neg hu]
      rcases Nat.lt_or_ge 1 (decDigits (u / 10)).length with g | g
      · have := ih (u / 10) (by omega) g
        cases e : decDigits (u / 10) with
        | nil => exact absurd e (decDigits_ne _)
        | cons c r => rw [e] at this; simpa using this
      · have h10 : u / 10 < 10 := by
          rcases Nat.lt_or_ge (u / 10) 10 with q | q
          · exact q
          · exfalso
            rw [decDigits, dif_neg (by omega)] at g
            simp at g
            exact decDigits_ne _ g
        rw [decDigits, dif_pos h10]
        simp only [List.cons_append, List.head?_cons, ne_eq, Option.some.injEq]
        intro q
        have := congrArg UInt8.toNat q
        simp at this
        omega
/-- What Small tells: three digits at most, none needless. -/
theorem smallS_no {s : List UInt8} (h : s.length < 1 ∨ 3 < s.length ∨ (1 < s.length ∧ s.head? = some 48) ∨ ∃ b ∈ s, digOk b = false) : smallS s = -1 := by
  unfold smallS
  have : smallM 999 s = none := by
    rw [smallM_none]
    intro m hm q
    have h1 := decDigits_len hm
    have h2 := decDigits_ne m
    have h3 := decDigits_bytes m
    rw [q] at h1 h2 h3
    rcases h with h | h | ⟨h, h'⟩ | ⟨b, hb, hd⟩
    · exact h2 (List.eq_nil_of_length_eq_zero (by omega))
    · omega
    · rw [← q] at h h'
      exact dec_head h h'
    · have := h3 b hb
      unfold digOk at hd
      simp at hd
      omega
  rw [this]
theorem smallS_yes {s : List UInt8} (h1 : 1 ≤ s.length) (h2 : s.length ≤ 3) (h3 : s.length ≤ 1 ∨ s.head? ≠ some 48) (h4 : ∀ b ∈ s, digOk b = true) : smallS s = (valN 0 s : Int) := by
  unfold smallS
  have hd := dec_of_val (by intro e; subst e; simp at h1) h4 h3
  have hv := val_lt s h4
  have : 10 ^ s.length ≤ 10 ^ 3 := Nat.pow_le_pow_right (by decide) h2
  rw [smallM_some.2 ⟨by omega, hd⟩]
/-- Cut at a byte, and split at it. -/
theorem cut_split {c : UInt8} (s : List UInt8) : (∃ x, splitL c s = [x] ∧ cut s [c] = (x, [], false)) ∨ (∃ x y, cut s [c] = (x, y, true) ∧ splitL c s = x :: splitL c y) := by
  by_cases h : c ∈ s
  · obtain ⟨x, y, rfl, hx⟩ := List.eq_append_cons_of_mem h
    exact .inr ⟨x, y, cut_hit y hx, splitL_cons y hx⟩
  · exact .inl ⟨s, splitL_none h, cut_miss h⟩
theorem splitL_mem {c : UInt8} {s : List UInt8} (h : 1 < (splitL c s).length) : c ∈ s := by
  rcases Classical.em (c ∈ s) with q | q
  · exact q
  · rw [splitL_none q] at h; simp at h
theorem smallM_mem {most : Nat} {c : UInt8} (hc : c.toNat < 48) {s : List UInt8} (h : c ∈ s) : smallM most s = none := by
  rw [smallM_none]
  intro m hm q
  rw [← q] at h
  exact decDigits_no hc h
theorem smallM_nil (most : Nat) : smallM most [] = none := by
  rw [smallM_none]
  intro m _ q
  exact decDigits_ne m q
end Go.Proofs.YtemokelgafndpaaGreatDoor
