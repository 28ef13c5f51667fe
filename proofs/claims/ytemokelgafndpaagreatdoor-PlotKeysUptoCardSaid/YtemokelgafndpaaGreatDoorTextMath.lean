/- Texts of addresses: plain mathematics of bytes. No conditions. -/
import Derived.Lib.SplitLaws
import Derived.Lib.AtoiTie
import Derived.Lib.AtoiAllCases
import Derived.Lib.ItoaNum
import Derived.Lib.Join
namespace Go.Proofs.YtemokelgafndpaaGreatDoor
set_option linter.unusedVariables false
set_option linter.unusedSimpArgs false
open Go.Lib

/-- A text's parts between a byte. -/
def splitL (c : UInt8) : List UInt8 → List (List UInt8)
  | [] => [[]]
  | x :: l => if x = c then [] :: splitL c l else match splitL c l with
    | p :: ps => (x :: p) :: ps
    | [] => [[x]]
theorem splitL_ne (c : UInt8) : ∀ l, splitL c l ≠ []
  | [] => by simp [splitL]
  | x :: l => by
    unfold splitL
    split
    · simp
    · split <;> simp
theorem splitL_none {c : UInt8} : ∀ {x : List UInt8}, c ∉ x → splitL c x = [x]
  | [], _ => rfl
  | a :: x, h => by
    have h1 : a ≠ c := fun e => h (by rw [e]; exact List.mem_cons_self)
    rw [splitL, if_neg h1, splitL_none (fun q => h (List.mem_cons_of_mem _ q))]
theorem splitL_cons {c : UInt8} : ∀ {x : List UInt8} (y : List UInt8), c ∉ x → splitL c (x ++ c :: y) = x :: splitL c y
  | [], y, _ => by
    show splitL c (c :: y) = _
    rw [splitL, if_pos rfl]
  | a :: x, y, h => by
    have h1 : a ≠ c := fun e => h (by rw [e]; exact List.mem_cons_self)
    show splitL c (a :: (x ++ c :: y)) = _
    rw [splitL, if_neg h1, splitL_cons y (fun q => h (List.mem_cons_of_mem _ q))]
/-- The first place of a byte. -/
theorem index_cons_eq (c : UInt8) (l : List UInt8) : index (c :: l) [c] = 0 := by
  unfold index
  rw [if_pos (by simp [List.isPrefixOf])]
theorem index_cons_ne {b c : UInt8} (l : List UInt8) (h : b ≠ c) : index (b :: l) [c] = if index l [c] == -1 then -1 else index l [c] + 1 := by
  rw [index, if_neg]
  have : (c == b) = false := by simpa using h.symm
  simp [List.isPrefixOf, this]
theorem splitK_nil (c : UInt8) (k : Nat) : splitK [c] 0 k [] = [[]] := by
  cases k with
  | zero => rfl
  | succ k => unfold splitK; simp [index]
theorem count_none {c : UInt8} {l : List UInt8} (h : count l [c] = 0) : c ∉ l := by
  rw [count_one] at h
  exact List.count_eq_zero.1 h
/-- strings.Split at one byte. -/
theorem split_one (c : UInt8) : ∀ l : List UInt8, split l [c] = splitL c l
  | [] => by
    unfold split
    rw [splitK_nil]
    rfl
  | b :: l => by
    have ih := split_one c l
    unfold split at ih ⊢
    by_cases e : b = c
    · subst e
      rw [count_cons_eq, Nat.add_comm, splitK, index_cons_eq, if_neg (by decide)]
      show List.take 0 _ :: splitK [b] 0 (count l [b]) (List.drop 1 (b :: l)) = _
      rw [splitL, if_pos rfl, ← ih]
      rfl
    · rw [count_cons_ne _ _ _ e]
      rw [splitL, if_neg e, ← ih]
      cases hk : count l [c] with
      | zero => rfl
      | succ k =>
        have hi : index l [c] ≠ -1 := fun q => by rw [count_miss q] at hk; cases hk
        have hi0 : 0 ≤ index l [c] := by have := index_ge l [c]; omega
        obtain ⟨i, hi⟩ : ∃ i : Nat, index l [c] = i := ⟨(index l [c]).toNat, by omega⟩
        rw [splitK, splitK, index_cons_ne l e, hi]
        have e1 : ¬ ((i : Int) == -1) = true := by simp
        rw [if_neg e1, if_neg e1]
        have e2 : ¬ ((i : Int) + 1 == -1) = true := by simp; omega
        rw [if_neg e2]
        have e3 : ((i : Int) + 1).toNat = i + 1 := by omega
        have e4 : ((i : Int)).toNat = i := by omega
        rw [e3, e4]
        simp only [Nat.add_zero, List.take_succ_cons, List.length_singleton, List.drop_succ_cons]
theorem splitL_length (c : UInt8) (l : List UInt8) : (splitL c l).length = count l [c] + 1 := by
  induction l with
  | nil => simp [splitL, count_one]
  | cons b l ih =>
    by_cases e : b = c
    · subst e
      rw [splitL, if_pos rfl, count_cons_eq]
      simp [ih]
      omega
    · rw [splitL, if_neg e, count_cons_ne _ _ _ e, ← ih]
      cases h : splitL c l with
      | nil => exact absurd h (splitL_ne c l)
      | cons p ps => simp
/-- strings.Cut at one byte. -/
theorem cut_hit {c : UInt8} : ∀ {x : List UInt8} (y : List UInt8), c ∉ x → cut (x ++ c :: y) [c] = (x, y, true) := by
  intro x y h
  have hi : index (x ++ c :: y) [c] = x.length := by
    induction x with
    | nil => exact index_cons_eq c y
    | cons a x ih =>
      have h1 : a ≠ c := fun e => h (by rw [e]; exact List.mem_cons_self)
      show index (a :: (x ++ c :: y)) [c] = _
      rw [index_cons_ne _ h1, ih (fun q => h (List.mem_cons_of_mem _ q)), if_neg (by simp)]
      simp
  unfold cut
  rw [hi, if_pos (by omega)]
  simp
theorem cut_miss {c : UInt8} {x : List UInt8} (h : c ∉ x) : cut x [c] = (x, [], false) := by
  have hi : index x [c] = -1 := by
    induction x with
    | nil => rfl
    | cons a x ih =>
      have h1 : a ≠ c := fun e => h (by rw [e]; exact List.mem_cons_self)
      rw [index_cons_ne _ h1, ih (fun q => h (List.mem_cons_of_mem _ q)), if_pos (by decide)]
  unfold cut
  rw [hi, if_neg (by decide)]

/-- Digits. -/
theorem decFrom_snoc : ∀ (l : List UInt8) (acc : Nat) (b : UInt8), decFrom acc (l ++ [b]) = (decFrom acc l).bind (fun n => (digitVal b).map (fun d => n * 10 + d))
  | [], acc, b => by
    show decFrom acc [b] = _
    unfold decFrom
    cases digitVal b with
    | none => rfl
    | some d => rfl
  | a :: l, acc, b => by
    show decFrom acc (a :: (l ++ [b])) = _
    unfold decFrom
    cases digitVal a with
    | none => rfl
    | some d => exact decFrom_snoc l (acc * 10 + d) b
theorem digitVal_of {d : Nat} (h : d < 10) : digitVal (UInt8.ofNat (48 + d)) = some d := by
  unfold digitVal
  have e : (UInt8.ofNat (48 + d)).toNat = 48 + d := by simp; omega
  rw [e, if_pos (by omega)]
  congr 1
  omega
theorem decFrom_digits : ∀ (u : Nat), decFrom 0 (decDigits u) = some u := by
  intro u
  induction u using Nat.strongRecOn with
  | _ u ih =>
    rw [decDigits]
    split
    · rename_i h
      unfold decFrom
      rw [digitVal_of h]
      simp [decFrom]
    · rename_i h
      rw [decFrom_snoc, ih (u / 10) (by omega), digitVal_of (Nat.mod_lt _ (by decide))]
      simp
      omega
theorem decDigits_inj {u v : Nat} (h : decDigits u = decDigits v) : u = v := by
  have h1 := decFrom_digits u
  rw [h, decFrom_digits v] at h1
  injection h1 with h1
  exact h1.symm
theorem decDigits_bytes : ∀ (u : Nat), ∀ b ∈ decDigits u, 48 ≤ b.toNat ∧ b.toNat ≤ 57 := by
  intro u
  induction u using Nat.strongRecOn with
  | _ u ih =>
    intro b hb
    rw [decDigits] at hb
    split at hb
    · rename_i h
      simp at hb
      subst hb
      simp
      omega
    · rename_i h
      rcases List.mem_append.1 hb with hb | hb
      · exact ih (u / 10) (by omega) b hb
      · simp at hb
        subst hb
        have : u % 10 < 10 := Nat.mod_lt _ (by decide)
        simp
        omega
theorem decDigits_ne (u : Nat) : decDigits u ≠ [] := by
  rw [decDigits]
  split <;> simp
theorem decDigits_no {u : Nat} {c : UInt8} (h : c.toNat < 48) : c ∉ decDigits u := fun q => by have := decDigits_bytes u c q; omega
theorem decDigits_len {u : Nat} (h : u ≤ 999) : (decDigits u).length ≤ 3 := by
  rw [decDigits_length]
  rcases Nat.lt_or_ge u 10 with c | c
  · rw [nDigits_small c]; omega
  · rw [nDigits_big (by omega)]
    rcases Nat.lt_or_ge (u / 10) 10 with c2 | c2
    · rw [nDigits_small c2]; omega
    · rw [nDigits_big (by omega), nDigits_small (by omega)]; omega
theorem atoi_digits (u : Nat) : atoi (decDigits u) = some (u : Int) := by
  have hn : decNat (decDigits u) = some u := by
    unfold decNat
    rw [if_neg (by simpa using decDigits_ne u), decFrom_digits]
  cases hd : decDigits u with
  | nil => exact absurd hd (decDigits_ne u)
  | cons b r =>
    have hb := decDigits_bytes u b (by rw [hd]; exact List.mem_cons_self)
    have e1 : ¬ (b == 45) = true := by simp; intro e; subst e; simp at hb
    have e2 : ¬ (b == 43) = true := by simp; intro e; subst e; simp at hb
    show (if (b == 45) = true then _ else if (b == 43) = true then _ else _) = _
    rw [if_neg e1, if_neg e2, ← hd, hn]
    rfl
theorem atoiAll_digits {u : Nat} (h : u ≤ 999) : atoiAll (decDigits u) = .ok (u : Int) := by
  rw [atoiAll_short _ (by have := decDigits_len h; omega), atoi_digits]
  rfl
theorem itoa_nat (u : Nat) : itoa (u : Int) = decDigits u := by
  unfold itoa
  rw [if_neg (by omega)]
  simp
/-- The small number that a text is. -/
def smallM (most : Nat) (s : List UInt8) : Option Nat := (List.range (most + 1)).find? (fun m => decDigits m == s)
theorem smallM_some {most m : Nat} {s : List UInt8} : smallM most s = some m ↔ m ≤ most ∧ decDigits m = s := by
  unfold smallM
  constructor
  · intro h
    have h1 := List.mem_of_find?_eq_some h
    have h2 := List.find?_some h
    simp at h1 h2
    exact ⟨by omega, h2⟩
  · rintro ⟨h1, h2⟩
    cases e : (List.range (most + 1)).find? (fun m => decDigits m == s) with
    | none =>
      have := List.find?_eq_none.1 e m (by simp; omega)
      simp [h2] at this
    | some k =>
      have h3 := List.find?_some e
      simp at h3
      rw [decDigits_inj (h3.trans h2.symm)]
theorem smallM_none {most : Nat} {s : List UInt8} : smallM most s = none ↔ ∀ m, m ≤ most → decDigits m ≠ s := by
  constructor
  · intro h m hm e
    have := smallM_some.2 ⟨hm, e⟩
    rw [h] at this
    cases this
  · intro h
    cases e : smallM most s with
    | none => rfl
    | some k => exact absurd (smallM_some.1 e).2 (h k (smallM_some.1 e).1)
theorem smallM_digits {most m : Nat} (h : m ≤ most) : smallM most (decDigits m) = some m := smallM_some.2 ⟨h, rfl⟩
/-- What Atoi says of it. -/
theorem smallM_atoi {most : Nat} (hmost : most ≤ 999) {s : List UInt8} {v : Int} (h : atoiAll s = .ok v) : (∃ m, smallM most s = some m ∧ v = (m : Int)) ∨ (smallM most s = none ∧ ¬ (0 ≤ v ∧ v ≤ most ∧ itoa v = s)) := by
  cases e : smallM most s with
  | some m =>
    obtain ⟨h1, h2⟩ := smallM_some.1 e
    rw [← h2, atoiAll_digits (by omega)] at h
    injection h with h
    exact .inl ⟨m, rfl, h.symm⟩
  | none =>
    refine .inr ⟨rfl, fun ⟨h1, h2, h3⟩ => ?_⟩
    obtain ⟨m, rfl⟩ : ∃ m : Nat, v = m := ⟨v.toNat, by omega⟩
    rw [itoa_nat] at h3
    exact smallM_none.1 e m (by omega) h3
theorem smallM_bad {most : Nat} (hmost : most ≤ 999) {s : List UInt8} (h : ∀ v, atoiAll s ≠ .ok v) : smallM most s = none := by
  rw [smallM_none]
  intro m hm e
  exact h _ (e ▸ atoiAll_digits (by omega))
/-- An address's text, and back. -/
def addrW (ps : List (List UInt8)) : Option Nat := match ps with
  | [a, b, c, d] => match smallM 255 a, smallM 255 b, smallM 255 c, smallM 255 d with
    | some x, some y, some z, some t => some (((x * 256 + y) * 256 + z) * 256 + t)
    | _, _, _, _ => none
  | _ => none
def addrT (s : List UInt8) : Option Nat := addrW (splitL 46 s)
def fourT (a : Nat) : List (List UInt8) := [decDigits (a / 16777216 % 256), decDigits (a / 65536 % 256), decDigits (a / 256 % 256), decDigits (a % 256)]
def textT (a : Nat) : List UInt8 := join (fourT a) [46]
theorem textT_eq (a : Nat) : textT a = decDigits (a / 16777216 % 256) ++ 46 :: (decDigits (a / 65536 % 256) ++ 46 :: (decDigits (a / 256 % 256) ++ 46 :: decDigits (a % 256))) := by
  unfold textT fourT
  simp [join, List.intercalate, List.intersperse]
theorem dot_no (u : Nat) : (46 : UInt8) ∉ decDigits u := decDigits_no (by decide)
theorem slash_no (u : Nat) : (47 : UInt8) ∉ decDigits u := decDigits_no (by decide)
theorem split_textT (a : Nat) : splitL 46 (textT a) = fourT a := by
  rw [textT_eq, splitL_cons _ (dot_no _), splitL_cons _ (dot_no _), splitL_cons _ (dot_no _), splitL_none (dot_no _)]
  rfl
theorem addrT_textT {a : Nat} (h : a < 4294967296) : addrT (textT a) = some a := by
  unfold addrT
  rw [split_textT]
  unfold fourT addrW
  simp only
  rw [smallM_digits (by omega), smallM_digits (by omega), smallM_digits (by omega), smallM_digits (by omega)]
  simp only [Option.some.injEq]
  omega
theorem addrT_lt {s : List UInt8} {a : Nat} (h : addrT s = some a) : a < 4294967296 := by
  unfold addrT addrW at h
  split at h
  · split at h
    · rename_i e1 e2 e3 e4
      have h1 := (smallM_some.1 e1).1
      have h2 := (smallM_some.1 e2).1
      have h3 := (smallM_some.1 e3).1
      have h4 := (smallM_some.1 e4).1
      injection h with h
      omega
    · cases h
  · cases h
theorem textT_no (a : Nat) : (47 : UInt8) ∉ textT a := by
  rw [textT_eq]
  intro q
  simp only [List.mem_append, List.mem_cons] at q
  rcases q with q | q | q | q | q | q | q
  · exact slash_no _ q
  · exact absurd q (by decide)
  · exact slash_no _ q
  · exact absurd q (by decide)
  · exact slash_no _ q
  · exact absurd q (by decide)
  · exact slash_no _ q
theorem textT_len (a : Nat) : (textT a).length ≤ 15 := by
  rw [textT_eq]
  have h1 := decDigits_len (u := a / 16777216 % 256) (by omega)
  have h2 := decDigits_len (u := a / 65536 % 256) (by omega)
  have h3 := decDigits_len (u := a / 256 % 256) (by omega)
  have h4 := decDigits_len (u := a % 256) (by omega)
  simp
  omega
end Go.Proofs.YtemokelgafndpaaGreatDoor
