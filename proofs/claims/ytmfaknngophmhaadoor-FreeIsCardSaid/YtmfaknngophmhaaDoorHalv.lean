/- Plain laws: the prefixes of a set by halving as often as is needed are the set's cover. No program. -/
import Derived.Test.YtmfaknngophmhaaDoorCoverMath
namespace Go.Proofs.YtmfaknngophmhaaDoor
set_option linter.unusedVariables false
set_option linter.unusedSimpArgs false

/-- Halved as often as is needed: a rule tells 0: all, 1: nothing, else: something. -/
def halvL (st : Pf → Nat) : Nat → Pf → List Pf
  | 0, p => if st p = 0 then [p] else []
  | k + 1, p => if st p = 0 then [p] else if st p = 1 then [] else halvL st k (p.1, p.2 + 1) ++ halvL st k (p.1 + sz (p.2 + 1), p.2 + 1)
theorem halv_all {st : Pf → Nat} {p : Pf} (h : st p = 0) : ∀ k, halvL st k p = [p]
  | 0 => by simp [halvL, h]
  | k + 1 => by simp [halvL, h]
theorem halv_none {st : Pf → Nat} {p : Pf} (h : st p = 1) : ∀ k, halvL st k p = []
  | 0 => by simp [halvL, h]
  | k + 1 => by simp [halvL, h]
theorem halv_more {st : Pf → Nat} {p : Pf} (h0 : st p ≠ 0) (h1 : st p ≠ 1) (k : Nat) : halvL st (k + 1) p = halvL st k (p.1, p.2 + 1) ++ halvL st k (p.1 + sz (p.2 + 1), p.2 + 1) := by simp [halvL, h0, h1]

theorem halves {p : Pf} (hp : chkP p = 0) (h : p.2 < 32) : chkP (p.1, p.2 + 1) = 0 ∧ chkP (p.1 + sz (p.2 + 1), p.2 + 1) = 0 ∧ lastP (p.1, p.2 + 1) + 1 = p.1 + sz (p.2 + 1) ∧ lastP (p.1 + sz (p.2 + 1), p.2 + 1) = lastP p ∧ lastP (p.1, p.2 + 1) < lastP p := by
  obtain ⟨a, n⟩ := p
  obtain ⟨h1, h2, h3, h4, h5⟩ := chk_zero.1 (show chk a n = 0 from hp)
  have hl := last_le (show chk a n = 0 from hp)
  have hs := sz_half n (by simpa using h)
  have hpos := sz_pos (n + 1)
  simp only at h ⊢
  unfold lastA at hl
  have hm : a % sz (n + 1) = 0 := by
    rw [hs] at h5
    have hd : sz (n + 1) ∣ a := Int.dvd_trans (Int.dvd_mul_left 2 (sz (n + 1))) (Int.dvd_of_emod_eq_zero h5)
    exact Int.emod_eq_zero_of_dvd hd
  refine ⟨?_, ?_, ?_, ?_, ?_⟩
  · exact chk_zero.2 ⟨by omega, by omega, h3, h4, hm⟩
  · refine chk_zero.2 ⟨by show (0 : Int) ≤ n + 1; omega, by show n + 1 ≤ (32 : Int); omega, by show 0 ≤ a + sz (n + 1); omega, by show a + sz (n + 1) ≤ _; omega, ?_⟩
    show (a + sz (n + 1)) % sz (n + 1) = 0
    rw [Int.add_emod_right]; exact hm
  · show a + sz (n + 1) - 1 + 1 = a + sz (n + 1); omega
  · show a + sz (n + 1) + sz (n + 1) - 1 = a + sz n - 1; omega
  · show a + sz (n + 1) - 1 < a + sz n - 1; omega
/-- What a rule says of a set. -/
structure Says (st : Pf → Nat) (F : Int → Bool) : Prop where
  all : ∀ p, chkP p = 0 → st p = 0 → ∀ t, p.1 ≤ t → t ≤ lastP p → F t = true
  none : ∀ p, chkP p = 0 → st p = 1 → ∀ t, p.1 ≤ t → t ≤ lastP p → F t = false
  some : ∀ p, chkP p = 0 → st p ≠ 0 → ∃ t, p.1 ≤ t ∧ t ≤ lastP p ∧ F t = false
  least : ∀ p, chkP p = 0 → p.2 = 32 → st p = 0 ∨ st p = 1
theorem sub_half {p D : Pf} (hp : chkP p = 0) (h : p.2 < 32) (hD : chkP D = 0) (hin : inQ D p = true) : D = p ∨ inQ D (p.1, p.2 + 1) = true ∨ inQ D (p.1 + sz (p.2 + 1), p.2 + 1) = true := by
  obtain ⟨g1, g2, g3, g4, g5⟩ := halves hp h
  obtain ⟨k1, k2⟩ := in_len hD hp hin
  by_cases e : p.2 = D.2
  · exact .inl (k2 e)
  · have hlen : p.2 + 1 ≤ D.2 := by omega
    obtain ⟨i1, i2⟩ := inQ_iff.1 hin
    have hge := last_geP D
    by_cases e2 : D.1 ≤ lastP (p.1, p.2 + 1)
    · exact .inr (.inl (nested hD g1 hlen e2 (by show p.1 ≤ _; omega)))
    · exact .inr (.inr (nested hD g2 hlen (by rw [g4]; omega) (by show p.1 + sz (p.2 + 1) ≤ _; omega)))
theorem halv_good {st : Pf → Nat} {F : Int → Bool} (hs : Says st F) : ∀ (k : Nat) (p : Pf), chkP p = 0 → p.2 + k = 32 →
    (∀ q ∈ halvL st k p, chkP q = 0 ∧ inQ q p = true ∧ ∀ t, q.1 ≤ t → t ≤ lastP q → F t = true) ∧ (halvL st k p).Pairwise (fun p q => lastP p < q.1) ∧
    (∀ D, chkP D = 0 → inQ D p = true → (∀ t, D.1 ≤ t → t ≤ lastP D → F t = true) → ∃ q ∈ halvL st k p, inQ D q = true) := by
  intro k
  induction k with
  | zero =>
    intro p hp hk
    rcases hs.least p hp (by omega) with h | h
    · rw [halv_all h]
      refine ⟨fun q hq => ?_, by simp, fun D _ hD _ => ⟨p, by simp, hD⟩⟩
      rw [List.mem_singleton] at hq
      subst hq
      exact ⟨hp, in_refl _, hs.all _ hp h⟩
    · rw [halv_none h]
      refine ⟨fun q hq => by simp at hq, by simp, fun D hD hin hF => ?_⟩
      have h1 := hF D.1 (Int.le_refl _) (last_geP D)
      have h2 := inQ_iff.1 hin
      have h3 := last_geP D
      rw [hs.none p hp h D.1 h2.1 (by omega)] at h1
      cases h1
  | succ k ih =>
    intro p hp hk
    by_cases h : st p = 0
    · rw [halv_all h]
      refine ⟨fun q hq => ?_, by simp, fun D _ hD _ => ⟨p, by simp, hD⟩⟩
      rw [List.mem_singleton] at hq
      subst hq
      exact ⟨hp, in_refl _, hs.all _ hp h⟩
    · by_cases h1 : st p = 1
      · rw [halv_none h1]
        refine ⟨fun q hq => by simp at hq, by simp, fun D hD hin hF => ?_⟩
        have h2 := hF D.1 (Int.le_refl _) (last_geP D)
        have h3 := inQ_iff.1 hin
        have h4 := last_geP D
        rw [hs.none p hp h1 D.1 h3.1 (by omega)] at h2
        cases h2
      · have hlt : p.2 < 32 := by omega
        obtain ⟨g1, g2, g3, g4, g5⟩ := halves hp hlt
        obtain ⟨a1, a2, a3⟩ := ih _ g1 (by show p.2 + 1 + (k : Int) = 32; omega)
        obtain ⟨b1, b2, b3⟩ := ih _ g2 (by show p.2 + 1 + (k : Int) = 32; omega)
        have hlow : inQ (p.1, p.2 + 1) p = true := inQ_iff.2 ⟨Int.le_refl _, by omega⟩
        have hpos := sz_pos (p.2 + 1)
        have hhigh : inQ (p.1 + sz (p.2 + 1), p.2 + 1) p = true := inQ_iff.2 ⟨by show p.1 ≤ p.1 + sz (p.2 + 1); omega, by omega⟩
        rw [halv_more h h1]
        refine ⟨fun q hq => ?_, ?_, fun D hD hin hF => ?_⟩
        · rcases List.mem_append.1 hq with hq | hq
          · obtain ⟨c1, c2, c3⟩ := a1 q hq
            exact ⟨c1, in_trans c2 hlow, c3⟩
          · obtain ⟨c1, c2, c3⟩ := b1 q hq
            exact ⟨c1, in_trans c2 hhigh, c3⟩
        · rw [List.pairwise_append]
          refine ⟨a2, b2, fun x hx y hy => ?_⟩
          have hx2 := inQ_iff.1 (a1 x hx).2.1
          have hy2 := inQ_iff.1 (b1 y hy).2.1
          have : p.1 + sz (p.2 + 1) ≤ y.1 := hy2.1
          omega
        · rcases sub_half hp hlt hD hin with rfl | hin | hin
          · obtain ⟨t, t1, t2, t3⟩ := hs.some _ hp h
            rw [hF t t1 t2] at t3
            cases t3
          · obtain ⟨q, hq, hi⟩ := a3 D hD hin hF
            exact ⟨q, List.mem_append_left _ hq, hi⟩
          · obtain ⟨q, hq, hi⟩ := b3 D hD hin hF
            exact ⟨q, List.mem_append_right _ hq, hi⟩
theorem in_anti {p q : Pf} (hp : chkP p = 0) (hq : chkP q = 0) (h1 : inQ p q = true) (h2 : inQ q p = true) : p = q := by
  have a := in_len hp hq h1
  have b := in_len hq hp h2
  exact a.2 (by omega)
theorem sorted_pf : ∀ {l m : List Pf}, l.Pairwise (fun p q => lastP p < q.1) → m.Pairwise (fun p q => lastP p < q.1) → (∀ a, a ∈ l ↔ a ∈ m) → l = m
  | [], [], _, _, _ => rfl
  | [], b :: m, _, _, h => by have := (h b).2 (by simp); cases this
  | a :: l, [], _, _, h => by have := (h a).1 (by simp); cases this
  | a :: l, b :: m, hl, hm, h => by
    rw [List.pairwise_cons] at hl hm
    have irr : ∀ p : Pf, ¬ lastP p < p.1 := fun p hp => by have := last_geP p; omega
    have hab : a = b := by
      rcases List.mem_cons.1 ((h a).1 (by simp)) with e | e
      · exact e
      · rcases List.mem_cons.1 ((h b).2 (by simp)) with e2 | e2
        · exact e2.symm
        · have h1 := hm.1 a e
          have h2 := hl.1 b e2
          have := last_geP a
          have := last_geP b
          omega
    subst hab
    congr 1
    refine sorted_pf hl.2 hm.2 fun x => ⟨fun hx => ?_, fun hx => ?_⟩
    · rcases List.mem_cons.1 ((h x).1 (List.mem_cons_of_mem _ hx)) with rfl | e
      · exact absurd (hl.1 _ hx) (irr _)
      · exact e
    · rcases List.mem_cons.1 ((h x).2 (List.mem_cons_of_mem _ hx)) with rfl | e
      · exact absurd (hm.1 _ hx) (irr _)
      · exact e
/-- Two lists of all that is greatest in a set are one. -/
theorem greatest_one {F : Int → Bool} {l m : List Pf} (hl : l.Pairwise (fun p q => lastP p < q.1)) (hm : m.Pairwise (fun p q => lastP p < q.1))
    (cl : ∀ q ∈ l, chkP q = 0 ∧ ∀ t, q.1 ≤ t → t ≤ lastP q → F t = true) (cm : ∀ q ∈ m, chkP q = 0 ∧ ∀ t, q.1 ≤ t → t ≤ lastP q → F t = true)
    (gl : ∀ D, chkP D = 0 → (∀ t, D.1 ≤ t → t ≤ lastP D → F t = true) → ∃ q ∈ l, inQ D q = true) (gm : ∀ D, chkP D = 0 → (∀ t, D.1 ≤ t → t ≤ lastP D → F t = true) → ∃ q ∈ m, inQ D q = true) : l = m := by
  have key : ∀ {l m : List Pf}, l.Pairwise (fun p q => lastP p < q.1) → (∀ q ∈ l, chkP q = 0 ∧ ∀ t, q.1 ≤ t → t ≤ lastP q → F t = true) → (∀ q ∈ m, chkP q = 0 ∧ ∀ t, q.1 ≤ t → t ≤ lastP q → F t = true) →
      (∀ D, chkP D = 0 → (∀ t, D.1 ≤ t → t ≤ lastP D → F t = true) → ∃ q ∈ l, inQ D q = true) → (∀ D, chkP D = 0 → (∀ t, D.1 ≤ t → t ≤ lastP D → F t = true) → ∃ q ∈ m, inQ D q = true) → ∀ a, a ∈ l → a ∈ m := by
    intro l m hl cl cm gl gm a ha
    obtain ⟨h1, h2⟩ := cl a ha
    obtain ⟨c, hc, hac⟩ := gm a h1 h2
    obtain ⟨h3, h4⟩ := cm c hc
    obtain ⟨r, hr, hcr⟩ := gl c h3 h4
    have har := in_trans hac hcr
    have e : a = r := by
      obtain ⟨i, hi, rfl⟩ := List.mem_iff_getElem.1 ha
      obtain ⟨j, hj, rfl⟩ := List.mem_iff_getElem.1 hr
      have h5 := inQ_iff.1 har
      have h6 := last_geP l[i]
      rcases Nat.lt_trichotomy i j with h | h | h
      · have := List.pairwise_iff_getElem.1 hl i j hi hj h; omega
      · subst h; rfl
      · have := List.pairwise_iff_getElem.1 hl j i hj hi h; omega
    subst e
    rw [in_anti h1 h3 hac hcr]
    exact hc
  exact sorted_pf hl hm fun a => ⟨key hl cl cm gl gm a, key hm cm cl gm gl a⟩
/-- All of a set that lies within a prefix, halved, is the set's cover. -/
theorem halv_cover {st : Pf → Nat} {l : List Sp} {p : Pf} {k : Nat} (hs : Says st (fun t => decide (p.1 ≤ t) && decide (t ≤ lastP p) && memS l t)) (hp : chkP p = 0) (hk : p.2 + k = 32) {b : Int} (hc : CanF b l) (hv : Valid l)
    (hin : ∀ t, memS l t = true → p.1 ≤ t ∧ t ≤ lastP p) : halvL st k p = coverSet l := by
  obtain ⟨h1, h2, h3⟩ := halv_good hs k p hp hk
  have hF : ∀ t, (decide (p.1 ≤ t) && decide (t ≤ lastP p) && memS l t) = memS l t := by
    intro t
    by_cases e : memS l t = true
    · obtain ⟨e1, e2⟩ := hin t e
      simp [e, e1, e2]
    · simp at e; simp [e]
  refine greatest_one (F := memS l) h2 (coverSet_pairwise hc hv) (fun q hq => ?_) (fun q hq => ⟨coverSet_valid hv q hq, fun t t1 t2 => ?_⟩) (fun D hD hF2 => ?_) (fun D hD hF2 => coverSet_max hc hv hD hF2)
  · obtain ⟨c1, c2, c3⟩ := h1 q hq
    exact ⟨c1, fun t t1 t2 => by rw [← hF]; exact c3 t t1 t2⟩
  · rw [← coverSet_addr hv]
    exact memP_iff.2 ⟨q, hq, t1, t2⟩
  · have hge := last_geP D
    have e1 := hin D.1 (hF2 _ (Int.le_refl _) hge)
    have e2 := hin (lastP D) (hF2 _ hge (Int.le_refl _))
    exact h3 D hD (inQ_iff.2 ⟨e1.1, e2.2⟩) fun t t1 t2 => by rw [hF]; exact hF2 t t1 t2
end Go.Proofs.YtmfaknngophmhaaDoor
