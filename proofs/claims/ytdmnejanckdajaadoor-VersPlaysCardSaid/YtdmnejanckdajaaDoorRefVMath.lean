/- The reference's table of versions, plain mathematics: a list of versions as they were put. No conditions. -/
import Derived.Test.YtdmnejanckdajaaDoorStay
namespace Go.Proofs.YtdmnejanckdajaaDoor
set_option linter.unusedVariables false
set_option linter.unusedSimpArgs false
open Go.RowKit

/-- A version of a key. -/
abbrev KVer := List UInt8 × Ver
/-- The list tells just what F tells. -/
structure Mdl (L : List KVer) (F : List UInt8 → List Ver) : Prop where
  mem : ∀ s v, (s, v) ∈ L ↔ v ∈ F s
  one : L.Pairwise (fun x y => ¬ (x.1 = y.1 ∧ x.2.n = y.2.n))
theorem Mdl.new : Mdl [] (fun _ => []) := ⟨by simp, by simp⟩

theorem rising_split {l : List Ver} (h : Rising l) {v : Ver} (hv : v ∈ l) : ∃ a b, l = a ++ v :: b ∧ l.filter (fun u => !(u.n == v.n)) = a ++ b := by
  obtain ⟨a, b, rfl⟩ := List.append_of_mem hv
  refine ⟨a, b, rfl, ?_⟩
  unfold Rising at h
  rw [List.pairwise_append, List.pairwise_cons] at h
  rw [List.filter_append, List.filter_cons_of_neg (by simp)]
  congr 1
  · refine List.filter_eq_self.2 (fun x hx => ?_)
    have := h.2.2 x hx v (by simp)
    simp
    omega
  · refine List.filter_eq_self.2 (fun x hx => ?_)
    have := h.2.1.1 x hx
    simp
    omega
theorem rising_one {l : List Ver} (h : Rising l) {u v : Ver} (hu : u ∈ l) (hv : v ∈ l) (e : u.n = v.n) : u = v := by
  obtain ⟨i, hi, rfl⟩ := List.getElem_of_mem hu
  obtain ⟨j, hj, rfl⟩ := List.getElem_of_mem hv
  rcases Nat.lt_trichotomy i j with q | q | q
  · have := h.lt q hj; omega
  · subst q; rfl
  · have := h.lt q hi; omega
theorem Mdl.count : ∀ {L : List KVer} {F : List UInt8 → List Ver}, Mdl L F → (∀ s, Rising (F s)) → Count F L.length
  | [], F, h, _ => by
    refine ⟨[], by simp, fun s hs => ?_, rfl⟩
    cases e : F s with
    | nil => exact absurd e hs
    | cons a l =>
      have := (h.mem s a).2 (by rw [e]; simp)
      simp at this
  | (s, v) :: L, F, h, hr => by
    have hv : v ∈ F s := (h.mem s v).1 (by simp)
    obtain ⟨a, b, hab, hf⟩ := rising_split (hr s) hv
    have h1 := List.pairwise_cons.1 h.one
    have hM : Mdl L (upd F s ((F s).filter (fun u => !(u.n == v.n)))) := by
      refine ⟨fun x u => ?_, h1.2⟩
      by_cases e : x = s
      · subst e
        rw [upd_same, List.mem_filter]
        constructor
        · intro hx
          refine ⟨(h.mem x u).1 (List.mem_cons_of_mem _ hx), ?_⟩
          have := h1.1 (x, u) hx
          simp only [true_and] at this
          simp
          exact fun e => this e.symm
        · rintro ⟨hx, hne⟩
          rcases List.mem_cons.1 ((h.mem x u).2 hx) with e2 | e2
          · injection e2 with _ e2
            subst e2
            simp at hne
          · exact e2
      · rw [upd_other _ _ e]
        constructor
        · exact fun hx => (h.mem x u).1 (List.mem_cons_of_mem _ hx)
        · intro hx
          rcases List.mem_cons.1 ((h.mem x u).2 hx) with e2 | e2
          · injection e2 with e2 _
            exact absurd e2 e
          · exact e2
    have ih := Mdl.count hM (fun x => by
      by_cases e : x = s
      · subst e
        rw [upd_same]
        exact List.Pairwise.sublist List.filter_sublist (hr x)
      · rw [upd_other _ _ e]
        exact hr x)
    obtain ⟨M, hM2, hl⟩ := ih.upd s (F s)
    have e1 : upd (upd F s ((F s).filter (fun u => !(u.n == v.n)))) s (F s) = F := by
      funext x
      by_cases e : x = s
      · subst e; rw [upd_same]
      · rw [upd_other _ _ e, upd_other _ _ e]
    rw [e1] at hM2
    rw [upd_same, hf] at hl
    have hl2 : (F s).length = a.length + b.length + 1 := by
      rw [hab, List.length_append, List.length_cons]
      omega
    rw [List.length_append] at hl
    have : M = L.length + 1 := by omega
    rw [List.length_cons, ← this]
    exact hM2

/-- What Put leaves of the others. -/
def restB (s : List UInt8) (n : Int) (x : KVer) : Bool := !(x.1 == s) || !(x.2.n == n)
theorem addV_get {F : List UInt8 → List Ver} {top : Int} {m : Nat} (hg : Good F top m) (s : List UInt8) (v : Ver) (ht : top ≤ v.n) (u : Ver) : u ∈ addV (F s) v ↔ u = v ∨ (u ∈ F s ∧ u.n ≠ v.n) := by
  have hr : Rising (F s) := hg.rise s
  unfold addV
  split
  · rename_i y hy
    obtain ⟨ys, hys⟩ := List.getLast?_eq_some_iff.1 hy
    rw [hys]
    rw [hys] at hr
    unfold Rising at hr
    rw [List.pairwise_append] at hr
    have hyt := hg.num s y (by rw [hys]; simp)
    split
    · rename_i e
      rw [List.dropLast_concat]
      simp only [List.mem_append, List.mem_singleton]
      constructor
      · rintro (h | h)
        · have := hr.2.2 u h y (by simp)
          exact .inr ⟨.inl h, by omega⟩
        · exact .inl h
      · rintro (h | ⟨h | h, h2⟩)
        · exact .inr h
        · exact .inl h
        · subst h
          exact absurd e h2
    · rename_i e
      simp only [List.mem_append, List.mem_singleton]
      constructor
      · rintro ((h | h) | h)
        · have := hr.2.2 u h y (by simp)
          exact .inr ⟨.inl h, by omega⟩
        · subst h
          exact .inr ⟨.inr rfl, e⟩
        · exact .inl h
      · rintro (h | ⟨h, _⟩)
        · exact .inr h
        · exact .inl h
  · rename_i hy
    rw [List.getLast?_eq_none_iff.1 hy]
    simp
theorem Mdl.put {L : List KVer} {F : List UInt8 → List Ver} {top : Int} {m : Nat} (h : Mdl L F) (hg : Good F top m) (s : List UInt8) (v : Ver) (ht : top ≤ v.n) : Mdl (L.filter (restB s v.n) ++ [(s, v)]) (putV F s v) := by
  refine ⟨fun x u => ?_, ?_⟩
  · rw [List.mem_append, List.mem_singleton, List.mem_filter, h.mem]
    unfold putV
    by_cases e : x = s
    · subst e
      rw [upd_same, addV_get hg x v ht]
      simp [restB]
      exact or_comm
    · rw [upd_other _ _ e]
      simp [restB, e]
  · rw [List.pairwise_append]
    refine ⟨h.one.sublist List.filter_sublist, by simp, fun x hx y hy => ?_⟩
    simp at hy
    subst hy
    have := (List.mem_filter.1 hx).2
    simp [restB] at this
    rintro ⟨h1, h2⟩
    rcases this with h3 | h3
    · exact h3 h1
    · exact h3 h2

/-- The version that is seen: its place; -1: there is none. -/
def SeenIs (L : List KVer) (s : List UInt8) (n : Int) (r : Int) : Prop :=
  (r = -1 ∧ ∀ v, (s, v) ∈ L → n < v.n) ∨ ∃ (i : Nat) (h : i < L.length), r = (i : Int) ∧ L[i].1 = s ∧ L[i].2.n ≤ n ∧ ∀ v, (s, v) ∈ L → v.n ≤ n → v.n ≤ L[i].2.n
theorem Mdl.none {L : List KVer} {F : List UInt8 → List Ver} (h : Mdl L F) {s : List UInt8} {n : Int} (hr : Rising (F s)) (hn : ∀ v, (s, v) ∈ L → n < v.n) : fnd (F s) n (F s).length = 0 :=
  fnd_none (fun v hv => hn v ((h.mem s v).2 hv)) _ (Nat.le_refl _)
theorem Mdl.seen {L : List KVer} {F : List UInt8 → List Ver} (h : Mdl L F) {s : List UInt8} {n : Int} (hr : Rising (F s)) {i : Nat} (hi : i < L.length) (h1 : L[i].1 = s) (h2 : L[i].2.n ≤ n) (h3 : ∀ v, (s, v) ∈ L → v.n ≤ n → v.n ≤ L[i].2.n) :
    ∃ k, ∃ hk : k < (F s).length, fnd (F s) n (F s).length = k + 1 ∧ (F s)[k] = L[i].2 := by
  have hmem : L[i].2 ∈ F s := (h.mem s _).1 (by rw [← h1]; exact List.getElem_mem _)
  obtain ⟨j, hj, hjv⟩ := List.getElem_of_mem hmem
  have hjf := (fnd_iff hr n j hj).2 (by rw [hjv]; exact h2)
  have hle := fnd_le (F s) n (F s).length
  obtain ⟨k, hk⟩ : ∃ k, fnd (F s) n (F s).length = k + 1 := ⟨fnd (F s) n (F s).length - 1, by omega⟩
  have hkl : k < (F s).length := by omega
  have hkn := fnd_last n _ (Nat.le_refl _) k hk hkl
  have hku := h3 (F s)[k] ((h.mem s _).2 (List.getElem_mem _)) hkn
  refine ⟨k, hkl, hk, ?_⟩
  rcases Nat.lt_or_ge j k with q | q
  · have := hr.lt q hkl
    rw [hjv] at this
    omega
  · obtain rfl : j = k := by omega
    exact hjv
/-- At most one place is seen. -/
theorem Mdl.place {L : List KVer} {F : List UInt8 → List Ver} (h : Mdl L F) {i j : Nat} (hi : i < L.length) (hj : j < L.length) (e1 : L[i].1 = L[j].1) (e2 : L[i].2.n = L[j].2.n) : i = j := by
  rcases Nat.lt_trichotomy i j with q | q | q
  · exact absurd ⟨e1, e2⟩ ((List.pairwise_iff_getElem.1 h.one) i j hi hj q)
  · exact q
  · exact absurd ⟨e1.symm, e2.symm⟩ ((List.pairwise_iff_getElem.1 h.one) j i hj hi q)
end Go.Proofs.YtdmnejanckdajaaDoor
