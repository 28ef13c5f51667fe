/- Plain arithmetic of addresses and prefixes: no program is in sight. No conditions. -/
import Derived.Laws.BitsAllLaws
import Derived.Laws.Bits64
import Derived.IntWalk
namespace Go.Proofs.YtemokelgafndpaaGreatDoor
set_option linter.unusedVariables false
set_option linter.unusedSimpArgs false
open Go

/-- How many addresses a prefix of this length has. -/
def sz (n : Int) : Int := 2 ^ (32 - n).toNat
def isA (a : Int) : Bool := decide (0 ≤ a) && decide (a ≤ 4294967295)
/-- The fault of a prefix: 0 none, 1 ErrRange, 2 ErrShape. -/
def chk (a n : Int) : Int := if n < 0 ∨ 32 < n ∨ isA a = false then 1 else if a % sz n = 0 then 0 else 2
def lastA (a n : Int) : Int := a + sz n - 1
def inP (a n b m : Int) : Bool := decide (b ≤ a) && decide (lastA a n ≤ lastA b m)

theorem isA_true {a : Int} : isA a = true ↔ 0 ≤ a ∧ a ≤ 4294967295 := by simp [isA]
theorem isA_false {a : Int} : isA a = false ↔ (a < 0 ∨ 4294967295 < a) := by simp [isA]; omega

theorem sz_pos (n : Int) : 0 < sz n := Int.pow_pos (by decide)
theorem sz_nat (n : Int) : sz n = ((2 ^ (32 - n).toNat : Nat) : Int) := by simp [sz]
theorem sz_le (n : Int) (h : 0 ≤ n) : sz n ≤ 4294967296 := by
  rw [sz_nat]
  have : 2 ^ (32 - n).toNat ≤ 2 ^ 32 := Nat.pow_le_pow_right (by decide) (by omega)
  omega
theorem sz_dvd (n : Int) (h : 0 ≤ n) : sz n ∣ 4294967296 := by
  rw [sz_nat]
  have h2 : 2 ^ (32 - n).toNat ∣ 2 ^ 32 := Nat.pow_dvd_pow 2 (by omega)
  exact Int.natCast_dvd_natCast.2 h2
theorem sz_32 : sz 32 = 1 := rfl
theorem sz_0 : sz 0 = 4294967296 := rfl
theorem sz_half (n : Int) (h : n < 32) : sz n = 2 * sz (n + 1) := by
  unfold sz
  have : (32 - n).toNat = (32 - (n + 1)).toNat + 1 := by omega
  rw [this, Int.pow_succ]
  omega

theorem chk_zero {a n : Int} : chk a n = 0 ↔ 0 ≤ n ∧ n ≤ 32 ∧ 0 ≤ a ∧ a ≤ 4294967295 ∧ a % sz n = 0 := by
  unfold chk
  by_cases h : n < 0 ∨ 32 < n ∨ isA a = false
  · rw [if_pos h, isA_false] at *
    omega
  · rw [if_neg h]
    rw [isA_false] at h
    by_cases h2 : a % sz n = 0
    · rw [if_pos h2]; omega
    · rw [if_neg h2]; omega

theorem chk_cases (a n : Int) : chk a n = 0 ∨ chk a n = 1 ∨ chk a n = 2 := by
  unfold chk
  split
  · simp
  · split <;> simp

theorem last_le {a n : Int} (h : chk a n = 0) : lastA a n ≤ 4294967295 := by
  obtain ⟨h1, h2, h3, h4, h5⟩ := chk_zero.1 h
  have hp := sz_pos n
  obtain ⟨k, hk⟩ := sz_dvd n h1
  obtain ⟨q, hq⟩ := Int.dvd_of_emod_eq_zero h5
  unfold lastA
  have hlt : q < k := by
    refine Int.not_le.1 fun h => ?_
    have := Int.mul_le_mul_of_nonneg_left h (Int.le_of_lt hp)
    omega
  have := Int.mul_le_mul_of_nonneg_left (show q + 1 ≤ k by omega) (Int.le_of_lt hp)
  rw [Int.mul_add] at this
  omega

theorem last_ge (a n : Int) : a ≤ lastA a n := by have := sz_pos n; unfold lastA; omega

/- bits -/
theorem i64_bits_nat (a b : Nat) (ha : a < 9223372036854775808) (hb : b < 9223372036854775808) :
    (bits .and .i64 (a : Int) (b : Int) = ((a &&& b : Nat) : Int)) ∧ (bits .or .i64 (a : Int) (b : Int) = ((a ||| b : Nat) : Int)) ∧ (bits .xor .i64 (a : Int) (b : Int) = ((a ^^^ b : Nat) : Int)) := by
  have h1 := ofInt_u64 a (by omega)
  have h2 := ofInt_u64 b (by omega)
  have l1 : a &&& b < 2 ^ 63 := Nat.and_lt_two_pow _ (by omega)
  have l2 : a ||| b < 2 ^ 63 := Nat.or_lt_two_pow (by omega) (by omega)
  have l3 : a ^^^ b < 2 ^ 63 := Nat.xor_lt_two_pow (by omega) (by omega)
  refine ⟨?_, ?_, ?_⟩
  · show IntKind.i64.wrap ((BitVec.ofInt 64 (a : Int) &&& BitVec.ofInt 64 (b : Int)).toNat : Int) = _
    rw [BitVec.toNat_and, h1, h2, IntWalk.i64_in _ (by omega)]
  · show IntKind.i64.wrap ((BitVec.ofInt 64 (a : Int) ||| BitVec.ofInt 64 (b : Int)).toNat : Int) = _
    rw [BitVec.toNat_or, h1, h2, IntWalk.i64_in _ (by omega)]
  · show IntKind.i64.wrap ((BitVec.ofInt 64 (a : Int) ^^^ BitVec.ofInt 64 (b : Int)).toNat : Int) = _
    rw [BitVec.toNat_xor, h1, h2, IntWalk.i64_in _ (by omega)]

theorem and_rest {a n : Int} (h0 : 0 ≤ n) (h1 : 0 ≤ a) (h2 : a ≤ 4294967295) : bits .and .i64 a (sz n - 1) = a % sz n := by
  obtain ⟨x, rfl⟩ := Int.eq_ofNat_of_zero_le h1
  have hs := sz_le n h0
  have hp := sz_pos n
  rw [sz_nat] at *
  have hq : ((2 ^ (32 - n).toNat : Nat) : Int) - 1 = ((2 ^ (32 - n).toNat - 1 : Nat) : Int) := by omega
  rw [hq, (i64_bits_nat _ _ (by omega) (by omega)).1, Nat.and_two_pow_sub_one_eq_mod]
  rfl

theorem or_rest {a n : Int} (h : chk a n = 0) : bits .or .i64 a (sz n - 1) = lastA a n := by
  obtain ⟨h0, h3, h1, h2, h5⟩ := chk_zero.1 h
  obtain ⟨x, rfl⟩ := Int.eq_ofNat_of_zero_le h1
  have hs := sz_le n h0
  have hp := sz_pos n
  unfold lastA
  rw [sz_nat] at *
  have hq : ((2 ^ (32 - n).toNat : Nat) : Int) - 1 = ((2 ^ (32 - n).toNat - 1 : Nat) : Int) := by omega
  rw [hq, (i64_bits_nat _ _ (by omega) (by omega)).2.1]
  rw [nat_join (32 - n).toNat x _ (by omega) (by have := Nat.two_pow_pos (32 - n).toNat; omega)]
  have := Nat.two_pow_pos (32 - n).toNat
  omega

/- host -/
def uLo (a n : Int) : Int := if n < 31 then a + 1 else a
def uHi (a n : Int) : Int := if n < 31 then lastA a n - 1 else lastA a n
def inU (a n x : Int) : Bool := decide (uLo a n ≤ x) && decide (x ≤ uHi a n)
/-- The fault of what is used: 0 none, else the number. -/
def usedFault (a n : Int) (used : List Int) : Int := if chk a n ≠ 0 then chk a n else if 200 < used.length then 3 else if used.all isA then 0 else 1
def marks (a n : Int) (used : List Int) : List Int := used.filter (inU a n)
def nx (keys : List Int) : Nat → Int → Int
  | 0, x => x
  | k + 1, x => if x ∈ keys then nx keys k (x + 1) else x
def nextOf (a n : Int) (used : List Int) : Int := nx (marks a n used) (uHi a n + 1 - uLo a n).toNat (uLo a n)
def addNew (acc : List Int) (x : Int) : List Int := if x ∈ acc then acc else acc ++ [x]
def distinct (l : List Int) : List Int := l.foldl addNew []

theorem marks_snoc (a n : Int) (used : List Int) (k : Nat) (h : k < used.length) : marks a n (used.take (k + 1)) = marks a n (used.take k) ++ (if inU a n used[k] then [used[k]] else []) := by
  unfold marks
  rw [List.take_succ_eq_append_getElem h, List.filter_append]
  congr 1
  by_cases hf : inU a n used[k] <;> simp [List.filter, hf]
theorem all_snoc {α : Type} (f : α → Bool) (l : List α) (k : Nat) (h : k < l.length) : (l.take (k + 1)).all f = ((l.take k).all f && f l[k]) := by
  rw [List.take_succ_eq_append_getElem h, List.all_append]; simp
theorem all_of_bad {α : Type} (f : α → Bool) (l : List α) (k : Nat) (h : k < l.length) (hf : f l[k] = false) : l.all f = false := by
  rw [List.all_eq_false]
  exact ⟨l[k], List.getElem_mem _, by simp [hf]⟩
theorem usedFault_zero {a n : Int} {used : List Int} : usedFault a n used = 0 ↔ chk a n = 0 ∧ used.length ≤ 200 ∧ used.all isA = true := by
  unfold usedFault
  by_cases h : chk a n = 0
  · by_cases h2 : 200 < used.length
    · simp [h, h2]; omega
    · by_cases h3 : used.all isA = true
      · simp [h, h2, h3]; omega
      · simp [h, h2, h3]
  · simp [h]
theorem mem_marks {a n : Int} {used : List Int} {x : Int} : x ∈ marks a n used ↔ x ∈ used ∧ uLo a n ≤ x ∧ x ≤ uHi a n := by simp [marks, inU]
theorem nx_le (keys : List Int) : ∀ (k : Nat) (x : Int), x ≤ nx keys k x ∧ nx keys k x ≤ x + k
  | 0, x => by simp [nx]
  | k + 1, x => by
    have := nx_le keys k (x + 1)
    unfold nx
    split <;> omega
theorem nx_all (keys : List Int) : ∀ (k : Nat) (x y : Int), x ≤ y → y < nx keys k x → y ∈ keys
  | 0, x, y, h1, h2 => by simp [nx] at h2; omega
  | k + 1, x, y, h1, h2 => by
    unfold nx at h2
    split at h2
    · rename_i hx
      by_cases e : y = x
      · subst e; exact hx
      · exact nx_all keys k (x + 1) y (by omega) h2
    · omega
theorem nx_stop (keys : List Int) : ∀ (k : Nat) (x : Int), nx keys k x ∉ keys ∨ nx keys k x = x + k
  | 0, x => by simp [nx]
  | k + 1, x => by
    unfold nx
    split
    · rcases nx_stop keys k (x + 1) with h | h
      · exact .inl h
      · right; omega
    · rename_i h; exact .inl h
/-- The least one is the one with these properties. -/
theorem nx_unique (keys : List Int) (k : Nat) (x y : Int) (h1 : x ≤ y) (h2 : y ≤ x + k) (h3 : ∀ z, x ≤ z → z < y → z ∈ keys) (h4 : y ∉ keys) : nx keys k x = y := by
  have g1 := nx_le keys k x
  rcases Int.lt_trichotomy (nx keys k x) y with h | h | h
  · rcases nx_stop keys k x with g | g
    · exact absurd (h3 _ g1.1 h) g
    · omega
  · exact h
  · exact absurd (nx_all keys k x y h1 h) h4

theorem mem_addNew (acc : List Int) (x y : Int) : y ∈ addNew acc x ↔ y ∈ acc ∨ y = x := by
  unfold addNew
  split
  · rename_i h
    exact ⟨.inl, fun h' => h'.elim id (fun e => e ▸ h)⟩
  · simp
theorem nodup_addNew (acc : List Int) (x : Int) (h : acc.Nodup) : (addNew acc x).Nodup := by
  unfold addNew
  split
  · exact h
  · rename_i hx
    rw [List.nodup_append]
    exact ⟨h, by simp, fun a ha b hb => by simp at hb; subst hb; exact fun e => hx (e ▸ ha)⟩
theorem distinct_fold : ∀ (l acc : List Int), acc.Nodup → (l.foldl addNew acc).Nodup ∧ ∀ y, y ∈ l.foldl addNew acc ↔ y ∈ acc ∨ y ∈ l
  | [], acc, h => by simp [h]
  | x :: l, acc, h => by
    have ih := distinct_fold l (addNew acc x) (nodup_addNew acc x h)
    rw [List.foldl_cons]
    refine ⟨ih.1, fun y => ?_⟩
    rw [ih.2, mem_addNew]
    simp [or_assoc]
theorem distinct_nodup (l : List Int) : (distinct l).Nodup := (distinct_fold l [] (by simp)).1
theorem mem_distinct (l : List Int) (y : Int) : y ∈ distinct l ↔ y ∈ l := by rw [distinct, (distinct_fold l [] (by simp)).2]; simp
theorem distinct_snoc (l : List Int) (x : Int) : distinct (l ++ [x]) = addNew (distinct l) x := by simp [distinct, List.foldl_append]

/-- What 'Next' gives: it is not marked, and all before it are. -/
theorem nextOf_spec (a n : Int) (used : List Int) (h : uLo a n ≤ uHi a n + 1) : uLo a n ≤ nextOf a n used ∧ nextOf a n used ≤ uHi a n + 1 ∧ nextOf a n used ∉ marks a n used ∧ ∀ y, uLo a n ≤ y → y < nextOf a n used → y ∈ marks a n used := by
  have h1 := nx_le (marks a n used) (uHi a n + 1 - uLo a n).toNat (uLo a n)
  refine ⟨h1.1, by unfold nextOf; omega, ?_, fun y g1 g2 => nx_all _ _ _ _ g1 g2⟩
  rcases nx_stop (marks a n used) (uHi a n + 1 - uLo a n).toNat (uLo a n) with g | g
  · exact g
  · intro hm
    have := mem_marks.1 hm
    unfold nextOf at this
    omega
theorem nextOf_unique (a n : Int) (used : List Int) (y : Int) (h1 : uLo a n ≤ y) (h2 : y ≤ uHi a n + 1) (h3 : ∀ z, uLo a n ≤ z → z < y → z ∈ marks a n used) (h4 : y ∉ marks a n used) : nextOf a n used = y :=
  nx_unique _ _ _ _ h1 (by omega) h3 h4
/-- A list without repeats between two numbers is no longer than they are apart; and if it is shorter something is not on it. -/
theorem nodup_range : ∀ (k : Nat) (lo : Int) (l : List Int), l.Nodup → (∀ x ∈ l, lo ≤ x ∧ x < lo + k) → l.length ≤ k
  | 0, lo, l, _, h => by
    cases l with
    | nil => simp
    | cons x r => have := h x (by simp); omega
  | k + 1, lo, l, hn, h => by
    have hf : (l.filter (fun x => decide (x ≠ lo + k))).length ≤ k := nodup_range k lo _ (hn.filter _) (fun x hx => by
      rw [List.mem_filter] at hx
      have h1 := h x hx.1
      have h2 := of_decide_eq_true hx.2
      omega)
    have hle : l.length ≤ (l.filter (fun x => decide (x ≠ lo + k))).length + 1 := by
      clear hf h
      induction l with
      | nil => simp
      | cons x r ih =>
        rw [List.nodup_cons] at hn
        by_cases e : x = lo + k
        · have : r.filter (fun x => decide (x ≠ lo + k)) = r := List.filter_eq_self.2 fun y hy => decide_eq_true (fun e' => hn.1 (by rw [e, ← e']; exact hy))
          simp only [List.filter_cons, e, this]
          simp
        · have := ih hn.2
          simp [e]
          simpa using this
    omega
theorem nodup_full (k : Nat) (lo : Int) (l : List Int) (hn : l.Nodup) (h : ∀ x ∈ l, lo ≤ x ∧ x < lo + k) (hall : ∀ x, lo ≤ x → x < lo + k → x ∈ l) : l.length = k := by
  refine Nat.le_antisymm (nodup_range k lo l hn h) ?_
  clear hn h
  induction k generalizing l with
  | zero => simp
  | succ k ih =>
    have h1 := ih (l.filter (fun x => decide (x ≠ lo + k))) (fun x h1 h2 => by
      rw [List.mem_filter]
      exact ⟨hall x h1 (by omega), decide_eq_true (by omega)⟩)
    have hm : lo + (k : Int) ∈ l := hall _ (by omega) (by omega)
    have : (l.filter (fun x => decide (x ≠ lo + k))).length < l.length := by
      refine List.length_filter_lt_length_iff_exists.2 ⟨lo + k, hm, by simp⟩
    omega

theorem next_none {a n : Int} {used : List Int} (hu : uLo a n ≤ uHi a n + 1) (h : uHi a n < nextOf a n used) : ((distinct (marks a n used)).length : Int) = uHi a n - uLo a n + 1 := by
  obtain ⟨h1, h2, h3, h4⟩ := nextOf_spec a n used hu
  have := nodup_full (uHi a n - uLo a n + 1).toNat (uLo a n) (distinct (marks a n used)) (distinct_nodup _)
    (fun x hx => by have := (mem_marks.1 ((mem_distinct _ _).1 hx)).2; omega)
    (fun x g1 g2 => (mem_distinct _ _).2 (h4 x g1 (by omega)))
  omega
theorem distinct_add {a n x : Int} {used : List Int} (hx : x ∉ marks a n used) (h1 : uLo a n ≤ x) (h2 : x ≤ uHi a n) : (distinct (marks a n (used ++ [x]))).length = (distinct (marks a n used)).length + 1 := by
  have e : marks a n (used ++ [x]) = marks a n used ++ [x] := by
    unfold marks
    rw [List.filter_append]
    congr 1
    have : inU a n x = true := by simp [inU, h1, h2]
    simp [List.filter, this]
  rw [e, distinct_snoc]
  unfold addNew
  rw [if_neg (by rw [mem_distinct]; exact hx)]
  simp
theorem distinct_le {a n : Int} {used : List Int} (hu : uLo a n ≤ uHi a n + 1) : ((distinct (marks a n used)).length : Int) ≤ uHi a n - uLo a n + 1 := by
  have := nodup_range (uHi a n - uLo a n + 1).toNat (uLo a n) (distinct (marks a n used)) (distinct_nodup _) (fun x hx => by have := (mem_marks.1 ((mem_distinct _ _).1 hx)).2; omega)
  omega
theorem next_more {a n : Int} {used : List Int} (hu : uLo a n ≤ uHi a n + 1) (h : nextOf a n used ≤ uHi a n) : nextOf a n used < nextOf a n (used ++ [nextOf a n used]) := by
  obtain ⟨h1, h2, h3, h4⟩ := nextOf_spec a n used hu
  obtain ⟨g1, g2, g3, g4⟩ := nextOf_spec a n (used ++ [nextOf a n used]) hu
  refine Int.not_le.1 fun hle => g3 ?_
  rw [mem_marks]
  by_cases e : nextOf a n (used ++ [nextOf a n used]) = nextOf a n used
  · exact ⟨by rw [e]; simp, by omega, by omega⟩
  · have := mem_marks.1 (h4 _ g1 (by omega))
    exact ⟨by simp [this.1], this.2⟩
end Go.Proofs.YtemokelgafndpaaGreatDoor
