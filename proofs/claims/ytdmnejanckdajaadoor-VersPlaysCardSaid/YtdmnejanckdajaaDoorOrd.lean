/- Bytes in their order; lists that rise. Plain mathematics, no conditions, no program. -/
import Derived.Test.YtdmnejanckdajaaDoorCodeMath
namespace Go.Proofs.YtdmnejanckdajaaDoor
set_option linter.unusedVariables false
set_option linter.unusedSimpArgs false

theorem lessB_irrefl : ∀ x : List UInt8, lessB x x = false
  | [] => rfl
  | a :: x => by
    have h : ¬ a < a := by rw [UInt8.lt_iff_toNat_lt]; omega
    simp [lessB, h, lessB_irrefl x]
theorem lessB_trans : ∀ {x y z : List UInt8}, lessB x y = true → lessB y z = true → lessB x z = true
  | _, [], _, h, _ => by simp [lessB] at h
  | _, _ :: _, [], _, h => by simp [lessB] at h
  | [], _ :: _, _ :: _, _, _ => by simp [lessB]
  | a :: x, b :: y, c :: z, h1, h2 => by
    simp only [lessB, Bool.or_eq_true, decide_eq_true_eq, Bool.and_eq_true, beq_iff_eq] at h1 h2 ⊢
    rcases h1 with h1 | ⟨rfl, h1⟩
    · rcases h2 with h2 | ⟨rfl, h2⟩
      · left
        rw [UInt8.lt_iff_toNat_lt] at *
        omega
      · exact .inl h1
    · rcases h2 with h2 | ⟨rfl, h2⟩
      · exact .inl h2
      · exact .inr ⟨rfl, lessB_trans h1 h2⟩
theorem lessB_total : ∀ x y : List UInt8, lessB x y = true ∨ x = y ∨ lessB y x = true
  | [], [] => .inr (.inl rfl)
  | [], _ :: _ => .inl rfl
  | _ :: _, [] => .inr (.inr rfl)
  | a :: x, b :: y => by
    simp only [lessB, Bool.or_eq_true, decide_eq_true_eq, Bool.and_eq_true, beq_iff_eq, List.cons.injEq]
    rcases Nat.lt_trichotomy a.toNat b.toNat with h | h | h
    · exact .inl (.inl (by rw [UInt8.lt_iff_toNat_lt]; exact h))
    · have e : a = b := UInt8.toNat_inj.1 h
      subst e
      rcases lessB_total x y with q | q | q
      · exact .inl (.inr ⟨rfl, q⟩)
      · exact .inr (.inl ⟨rfl, q⟩)
      · exact .inr (.inr (.inr ⟨rfl, q⟩))
    · exact .inr (.inr (.inl (by rw [UInt8.lt_iff_toNat_lt]; exact h)))
theorem lessB_asymm {x y : List UInt8} (h : lessB x y = true) : lessB y x = false := by
  cases e : lessB y x with
  | false => rfl
  | true => exact absurd (lessB_trans h e) (by rw [lessB_irrefl]; simp)
theorem lessB_ne {x y : List UInt8} (h : lessB x y = true) : x ≠ y := fun e => by rw [e, lessB_irrefl] at h; cases h
theorem lessB_of {x y : List UInt8} (h : lessB y x = false) (hn : x ≠ y) : lessB x y = true := by
  rcases lessB_total x y with q | q | q
  · exact q
  · exact absurd q hn
  · rw [h] at q; cases q
theorem lessB_nil {x : List UInt8} : lessB x [] = false := by cases x <;> rfl

/-- Pairs that rise by their keys. -/
abbrev KV := List UInt8 × List UInt8
def Rise {α : Type} (key : α → List UInt8) (l : List α) : Prop := l.Pairwise (fun x y => lessB (key x) (key y) = true)
theorem Rise.nodup {α : Type} {key : α → List UInt8} : ∀ {l : List α}, Rise key l → (l.map key).Nodup := by
  intro l h
  unfold List.Nodup
  rw [List.pairwise_map]
  exact h.imp (fun q => lessB_ne q)
/-- Two lists that rise and have the same elements are the same. -/
theorem Rise.ext {α : Type} {key : α → List UInt8} : ∀ {l m : List α}, Rise key l → Rise key m → (∀ x, x ∈ l ↔ x ∈ m) → l = m
  | [], [], _, _, _ => rfl
  | [], b :: m, _, _, h => absurd ((h b).2 (by simp)) (by simp)
  | a :: l, [], _, _, h => absurd ((h a).1 (by simp)) (by simp)
  | a :: l, b :: m, hl, hm, h => by
    unfold Rise at hl hm
    rw [List.pairwise_cons] at hl hm
    have hab : a = b := by
      rcases List.mem_cons.1 ((h a).1 (by simp)) with e | e
      · exact e
      · rcases List.mem_cons.1 ((h b).2 (by simp)) with e2 | e2
        · exact e2.symm
        · have h1 := hm.1 a e
          have h2 := hl.1 b e2
          rw [lessB_asymm h1] at h2
          cases h2
    subst hab
    rw [Rise.ext (key := key) hl.2 hm.2 (fun x => by
      constructor
      · intro hx
        rcases List.mem_cons.1 ((h x).1 (by simp [hx])) with e | e
        · subst e
          have := hl.1 x hx
          rw [lessB_irrefl] at this
          cases this
        · exact e
      · intro hx
        rcases List.mem_cons.1 ((h x).2 (by simp [hx])) with e | e
        · subst e
          have := hm.1 x hx
          rw [lessB_irrefl] at this
          cases this
        · exact e)]
/-- What a sort by the keys leaves, where no two keys are the same. -/
theorem Rise.of_sorted {α : Type} {key : α → List UInt8} {l : List α} (h : l.Pairwise (fun x y => lessB (key y) (key x) = false)) (hn : (l.map key).Nodup) : Rise key l := by
  unfold Rise
  unfold List.Nodup at hn
  rw [List.pairwise_map] at hn
  exact h.imp₂ (fun a b q q2 => lessB_of q q2) hn
end Go.Proofs.YtdmnejanckdajaaDoor
