/- Plain laws for the walks of edges and Together: where one more edge goes; the set as far as it is made. No program. -/
import Derived.Test.YtmfaknngophmhaaDoorTogMath
namespace Go.Proofs.YtmfaknngophmhaaDoor
set_option linter.unusedVariables false
set_option linter.unusedSimpArgs false

theorem pw_lt {E : List Int} (hs : E.Pairwise (· < ·)) {i j : Nat} (hij : i < j) (hj : j < E.length) : E[i] < E[j] := List.pairwise_iff_getElem.1 hs i j (by omega) hj hij
theorem insE_at {x : Int} {E : List Int} (hs : E.Pairwise (· < ·)) {k : Nat} (hk : k ≤ E.length) (hQ : ∀ j (h : j < E.length), k ≤ j → x < E[j]) (hP : ∀ h : 0 < k, E[k - 1]'(by omega) < x) : insE x E = E.take k ++ x :: E.drop k := by
  have h1 : ∀ y ∈ E.take k, y < x := by
    intro y hy
    obtain ⟨i, hi, rfl⟩ := List.mem_iff_getElem.1 hy
    have hik : i < k := by simp at hi; omega
    rw [List.getElem_take]
    have h0 := hP (by omega)
    rcases Nat.lt_or_ge i (k - 1) with h | h
    · have := pw_lt hs h (by omega); omega
    · have : i = k - 1 := by omega
      subst this; exact h0
  have h2 : ∀ y ∈ E.drop k, x < y := by
    intro y hy
    obtain ⟨i, hi, rfl⟩ := List.mem_iff_getElem.1 hy
    rw [List.getElem_drop]
    simp at hi
    exact hQ (k + i) (by omega) (by omega)
  have := insE_new h1 h2
  rwa [List.take_append_drop] at this
theorem insE_same {x : Int} {E : List Int} (hs : E.Pairwise (· < ·)) {k : Nat} (hk : k ≤ E.length) (h0 : 0 < k) (hx : E[k - 1]'(by omega) = x) : insE x E = E := by
  have h1 : ∀ y ∈ E.take (k - 1), y < x := by
    intro y hy
    obtain ⟨i, hi, rfl⟩ := List.mem_iff_getElem.1 hy
    have hik : i < k - 1 := by simp at hi; omega
    rw [List.getElem_take]
    have := pw_lt hs hik (by omega)
    omega
  have h2 : E.take (k - 1) ++ x :: E.drop k = E := by
    have h3 : E.drop (k - 1) = E[k - 1]'(by omega) :: E.drop (k - 1 + 1) := List.drop_eq_getElem_cons (by omega)
    rw [show k - 1 + 1 = k by omega, hx] at h3
    rw [← h3, List.take_append_drop]
  have := insE_old (Q := E.drop k) h1
  rwa [h2] at this
theorem edgesL_take (S : List Int) {i : Nat} (h : i < S.length) : edgesL (S.take (i + 1)) = insE S[i] (edgesL (S.take i)) := by
  rw [List.take_succ_eq_append_getElem h, edgesL_snoc]
theorem edgesL_sorted (S : List Int) : (edgesL S).Pairwise (· < ·) := (edgesL_good S).1

/-- The set as far as it is made, and what follows. -/
def togApp (f : Int → Bool) (O : List Sp) (r : List Int) : List Sp := O.dropLast ++ togGo f O.getLast? r
section
variable {f : Int → Bool} {O : List Sp} {c : Sp} {x y : Int} {r : List Int}
theorem togApp_snoc : togApp f (O ++ [c]) r = O ++ togGo f (some c) r := by
  unfold togApp
  rw [List.getLast?_append, List.getLast?_singleton, Option.some_or]
  simp
theorem togApp_first (h : f x = true) : togApp f [(x, y - 1)] (y :: r) = togApp f [] (x :: y :: r) := by
  show togGo f (some (x, y - 1)) (y :: r) = togGo f none (x :: y :: r)
  conv => rhs; rw [togGo, if_pos h]
theorem togApp_in (h : f x = true) (e : c.2 = x - 1) : togApp f (O ++ [(c.1, y - 1)]) (y :: r) = togApp f (O ++ [c]) (x :: y :: r) := by
  rw [togApp_snoc, togApp_snoc]
  conv => rhs; rw [togGo, if_pos h]
  simp only [if_pos e]
theorem togApp_new (h : f x = true) (e : ¬ c.2 = x - 1) : togApp f (O ++ [c] ++ [(x, y - 1)]) (y :: r) = togApp f (O ++ [c]) (x :: y :: r) := by
  rw [togApp_snoc, togApp_snoc]
  conv => rhs; rw [togGo, if_pos h]
  simp only [if_neg e, List.append_assoc, List.singleton_append]
theorem togApp_no (h : f x = false) : togApp f O (y :: r) = togApp f O (x :: y :: r) := by
  unfold togApp
  generalize O.getLast? = q
  have e : togGo f q (x :: y :: r) = togGo f q (y :: r) := by
    conv => lhs; unfold togGo
    rw [if_neg (by simp [h])]
  rw [e]
theorem togApp_end (h : r.length ≤ 1) : togApp f O r = O := by
  rcases List.eq_nil_or_concat O with rfl | ⟨O', c, rfl⟩
  · match r, h with
    | [], _ => rfl
    | [x], _ => rfl
  · rw [List.concat_eq_append, togApp_snoc]
    match r, h with
    | [], _ => rfl
    | [x], _ => rfl
theorem drop_two {E : List Int} {i : Nat} (h : i + 1 < E.length) : E.drop i = E[i] :: E[i + 1] :: E.drop (i + 2) := by
  rw [List.drop_eq_getElem_cons (show i < E.length by omega), List.drop_eq_getElem_cons h]
theorem drop_one {E : List Int} {i : Nat} (h : i + 1 < E.length) : E.drop (i + 1) = E[i + 1] :: E.drop (i + 2) := List.drop_eq_getElem_cons h
end
/-- Edges of spans that may be: within what int holds. -/
theorem edgesOf_range {l : List Sp} (h : Valid l) : ∀ z ∈ edgesOf l, 0 ≤ z ∧ z ≤ 4294967296 := by
  intro z hz
  obtain ⟨s, hs, e⟩ := mem_edgesOf.1 hz
  have := h s hs
  unfold maxA at this
  omega
theorem edgesL_range {l m : List Sp} (hl : Valid l) (hm : Valid m) : ∀ z ∈ edgesL (edgesOf l ++ edgesOf m), 0 ≤ z ∧ z ≤ 4294967296 := by
  intro z hz
  rcases List.mem_append.1 ((edgesL_good _).2 z |>.1 hz) with h | h
  · exact edgesOf_range hl z h
  · exact edgesOf_range hm z h
end Go.Proofs.YtmfaknngophmhaaDoor
