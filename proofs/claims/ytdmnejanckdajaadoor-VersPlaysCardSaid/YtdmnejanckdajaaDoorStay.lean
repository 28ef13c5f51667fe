/- What is forgotten nobody sees: plain mathematics of versions. No conditions. -/
import Derived.Test.YtdmnejanckdajaaDoorCount
namespace Go.Proofs.YtdmnejanckdajaaDoor
set_option linter.unusedVariables false
set_option linter.unusedSimpArgs false
open Go.RowKit

def Rising (l : List Ver) : Prop := l.Pairwise (fun x y => x.n < y.n)
/-- What a list of versions tells at a number. -/
def tellL (l : List Ver) (n : Int) : Option (List UInt8) := match fnd l n l.length with
  | 0 => none
  | k + 1 => match l[k]? with
    | some v => if v.gone then none else some v.val
    | none => none
theorem tell_eq (F : List UInt8 → List Ver) (s : List UInt8) (n : Int) : tell F s n = tellL (F s) n := rfl
theorem fnd_up {l : List Ver} (n : Int) : ∀ m, m ≤ l.length → ∀ i, fnd l n m ≤ i → (hi : i < m) → (h : i < l.length) → n < l[i].n
  | 0, _, i, _, hi, _ => by omega
  | m + 1, hm, i, h1, hi, h => by
    rw [fnd_step (by omega)] at h1
    by_cases c : n < l[m].n
    · rw [if_pos c] at h1
      rcases Nat.lt_or_ge i m with h2 | h2
      · exact fnd_up n m (by omega) i h1 h2 h
      · obtain rfl : i = m := by omega
        exact c
    · rw [if_neg c] at h1
      omega
theorem fnd_last {l : List Ver} (n : Int) : ∀ m, m ≤ l.length → ∀ k, fnd l n m = k + 1 → (h : k < l.length) → l[k].n ≤ n
  | 0, _, k, h, _ => by simp [fnd] at h
  | m + 1, hm, k, h, hk => by
    rw [fnd_step (by omega)] at h
    by_cases c : n < l[m].n
    · rw [if_pos c] at h
      exact fnd_last n m (by omega) k h hk
    · rw [if_neg c] at h
      obtain rfl : k = m := by omega
      omega
theorem Rising.lt {l : List Ver} (h : Rising l) {i j : Nat} (hi : i < j) (hj : j < l.length) : (l[i]'(by omega)).n < l[j].n := (List.pairwise_iff_getElem.1 h) i j (by omega) hj hi
/-- fnd is the number of versions up to n. -/
theorem fnd_iff {l : List Ver} (h : Rising l) (n : Int) (i : Nat) (hi : i < l.length) : i < fnd l n l.length ↔ l[i].n ≤ n := by
  constructor
  · intro h1
    obtain ⟨k, hk⟩ : ∃ k, fnd l n l.length = k + 1 := ⟨fnd l n l.length - 1, by omega⟩
    have hkl : k < l.length := by have := fnd_le l n l.length; omega
    have h2 := fnd_last n l.length (Nat.le_refl _) k hk hkl
    rcases Nat.lt_or_ge i k with h3 | h3
    · have := h.lt h3 hkl
      omega
    · obtain rfl : i = k := by omega
      exact h2
  · intro h1
    rcases Nat.lt_or_ge i (fnd l n l.length) with h2 | h2
    · exact h2
    · have := fnd_up n l.length (Nat.le_refl _) i h2 hi hi
      omega
theorem fnd_uniq {l : List Ver} (h : Rising l) {n : Int} {k : Nat} (hk : k ≤ l.length) (hu : ∀ i (hi : i < l.length), i < k ↔ l[i].n ≤ n) : fnd l n l.length = k := by
  have hle := fnd_le l n l.length
  rcases Nat.lt_trichotomy (fnd l n l.length) k with h1 | h1 | h1
  · have hi : fnd l n l.length < l.length := by omega
    have := (fnd_iff h n _ hi).2 ((hu _ hi).1 h1)
    omega
  · exact h1
  · have hi : k < l.length := by omega
    have := (hu _ hi).2 ((fnd_iff h n _ hi).1 h1)
    omega
theorem Rising.drop {l : List Ver} (h : Rising l) (d : Nat) : Rising (l.drop d) := List.Pairwise.sublist (List.drop_sublist _ _) h
theorem fnd_drop {l : List Ver} (h : Rising l) {n : Int} {d : Nat} (hd : d ≤ fnd l n l.length) : fnd (l.drop d) n (l.drop d).length = fnd l n l.length - d := by
  have hle := fnd_le l n l.length
  refine fnd_uniq (h.drop d) (by rw [List.length_drop]; omega) (fun i hi => ?_)
  rw [List.length_drop] at hi
  rw [List.getElem_drop, ← fnd_iff h n (d + i) (by omega)]
  omega
theorem fnd_mono {l : List Ver} (h : Rising l) {a b : Int} (hab : a ≤ b) : fnd l a l.length ≤ fnd l b l.length := by
  rcases Nat.lt_or_ge (fnd l b l.length) (fnd l a l.length) with h1 | h1
  · have hle := fnd_le l a l.length
    have hi : fnd l b l.length < l.length := by omega
    have := (fnd_iff h a _ hi).1 h1
    have := (fnd_iff h b _ hi).2 (by omega)
    omega
  · exact h1
theorem tellL_zero {l : List Ver} {n : Int} (h : fnd l n l.length = 0) : tellL l n = none := by simp only [tellL, h]
theorem tellL_at {l : List Ver} {n : Int} {k : Nat} (h : fnd l n l.length = k + 1) (hk : k < l.length) : tellL l n = if l[k].gone then none else some l[k].val := by
  simp only [tellL, h, List.getElem?_eq_getElem hk]
/-- Behind a Collect at a number all later ones tell what they told. -/
theorem tell_col {l : List Ver} (h : Rising l) {a b : Int} (hab : a ≤ b) : tellL (colL l a) b = tellL l b := by
  have hle := fnd_le l a l.length
  have hleb := fnd_le l b l.length
  have hm := fnd_mono h hab
  cases hk : fnd l a l.length with
  | zero => rw [colL_zero hk]
  | succ k =>
    have hkl : k < l.length := by omega
    obtain ⟨q, hq⟩ : ∃ q, fnd l b l.length = q + 1 := ⟨fnd l b l.length - 1, by omega⟩
    have hql : q < l.length := by omega
    by_cases hg : l[k].gone = true
    · rw [colL_gone hk hkl hg]
      have hd := fnd_drop h (n := b) (d := k + 1) (by omega)
      rcases Nat.lt_or_ge k q with h1 | h1
      · rw [tellL_at hq hql, tellL_at (k := q - (k + 1)) (by rw [hd]; omega) (by rw [List.length_drop]; omega)]
        have e : (l.drop (k + 1))[q - (k + 1)]'(by rw [List.length_drop]; omega) = l[q] := by
          rw [List.getElem_drop]
          congr 1
          omega
        rw [e]
      · obtain rfl : q = k := by omega
        rw [tellL_at hq hql, if_pos hg, tellL_zero (by rw [hd]; omega)]
    · rw [Bool.not_eq_true] at hg
      rw [colL_here hk hkl hg]
      have hd := fnd_drop h (n := b) (d := k) (by omega)
      rw [tellL_at hq hql, tellL_at (k := q - k) (by rw [hd]; omega) (by rw [List.length_drop]; omega)]
      have e : (l.drop k)[q - k]'(by rw [List.length_drop]; omega) = l[q] := by
        rw [List.getElem_drop]
        congr 1
        omega
      rw [e]
theorem col_col {l : List Ver} (h : Rising l) (a : Int) : colL (colL l a) a = colL l a := by
  have hle := fnd_le l a l.length
  cases hk : fnd l a l.length with
  | zero => rw [colL_zero hk, colL_zero hk]
  | succ k =>
    have hkl : k < l.length := by omega
    by_cases hg : l[k].gone = true
    · rw [colL_gone hk hkl hg]
      exact colL_zero (by rw [fnd_drop h (by omega)]; omega)
    · rw [Bool.not_eq_true] at hg
      rw [colL_here hk hkl hg]
      have := fnd_drop h (n := a) (d := k) (by omega)
      have e : (l.drop k)[0]'(by rw [List.length_drop]; omega) = l[k] := by rw [List.getElem_drop]; rfl
      rw [colL_here (k := 0) (by rw [this]; omega) (by rw [List.length_drop]; omega) (by rw [e]; exact hg), List.drop_zero]
theorem colF_col {F : List UInt8 → List Ver} {top : Int} {m : Nat} (h : Good F top m) (a : Int) : colF (colF F a) a = colF F a := funext fun s => col_col (h.rise s) a
theorem tell_colF {F : List UInt8 → List Ver} {top : Int} {m : Nat} (h : Good F top m) {a b : Int} (hab : a ≤ b) (s : List UInt8) : tell (colF F a) s b = tell F s b := tell_col (h.rise s) hab
/-- What is put later changes nothing that was told. -/
theorem fnd_snoc (l : List Ver) (v : Ver) (n : Int) : ∀ m, m ≤ l.length → fnd (l ++ [v]) n m = fnd l n m
  | 0, _ => rfl
  | m + 1, hm => by
    rw [fnd_step (l := l ++ [v]) (by simp; omega), fnd_step (l := l) (by omega), List.getElem_append_left (by omega), fnd_snoc l v n m (by omega)]
theorem tell_snoc (l : List Ver) (v : Ver) {n : Int} (h : n < v.n) : tellL (l ++ [v]) n = tellL l n := by
  have hf : fnd (l ++ [v]) n (l ++ [v]).length = fnd l n l.length := by
    rw [List.length_append, List.length_singleton, fnd_step (by simp)]
    rw [if_pos (by simpa using h), fnd_snoc l v n _ (Nat.le_refl _)]
  have hle := fnd_le l n l.length
  cases hk : fnd l n l.length with
  | zero => rw [tellL_zero hk, tellL_zero (by rw [hf]; exact hk)]
  | succ k =>
    rw [tellL_at (l := l) hk (by omega), tellL_at (l := l ++ [v]) (k := k) (by rw [hf]; exact hk) (by simp; omega), List.getElem_append_left (by omega)]
theorem tell_put {F : List UInt8 → List Ver} {top : Int} {m : Nat} (h : Good F top m) (s : List UInt8) (v : Ver) {n : Int} (hn : n < v.n) (ht : top < v.n) (x : List UInt8) : tell (putV F s v) x n = tell F x n := by
  rw [tell_eq, tell_eq]
  unfold putV
  by_cases e : x = s
  · subst e
    rw [upd_same]
    have ha : addV (F x) v = F x ++ [v] := by
      unfold addV
      split
      · rename_i u hu
        have := h.num x u (List.mem_of_getLast? hu)
        rw [if_neg (by omega)]
      · rename_i hu
        rw [List.getLast?_eq_none_iff.1 hu]
        rfl
    rw [ha]
    exact tell_snoc _ _ hn
  · rw [upd_other _ _ e]
end Go.Proofs.YtdmnejanckdajaaDoor
