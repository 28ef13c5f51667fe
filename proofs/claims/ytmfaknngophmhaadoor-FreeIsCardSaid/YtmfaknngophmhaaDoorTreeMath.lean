/- Plain arithmetic of trees of prefixes: order, chains, tops. No program is in sight. No conditions. -/
import Derived.Test.YtmfaknngophmhaaDoorMath
namespace Go.Proofs.YtmfaknngophmhaaDoor
set_option linter.unusedVariables false
set_option linter.unusedSimpArgs false
open Go

abbrev Pf := Int × Int
def chkP (p : Pf) : Int := chk p.1 p.2
def lastP (p : Pf) : Int := lastA p.1 p.2
def inQ (p q : Pf) : Bool := inP p.1 p.2 q.1 q.2
def ordP (p q : Pf) : Int := if p.1 = q.1 then p.2 - q.2 else p.1 - q.1

theorem inQ_iff {p q : Pf} : inQ p q = true ↔ q.1 ≤ p.1 ∧ lastP p ≤ lastP q := by simp [inQ, inP, lastP]
theorem ordP_lt {p q : Pf} : ordP p q < 0 ↔ p.1 < q.1 ∨ p.1 = q.1 ∧ p.2 < q.2 := by
  unfold ordP; split <;> omega
theorem ordP_zero {p q : Pf} : ordP p q = 0 ↔ p = q := by
  unfold ordP
  constructor
  · intro h
    split at h
    · exact Prod.ext (by assumption) (by omega)
    · omega
  · rintro rfl; simp
theorem ordP_trans {p q r : Pf} (h : ordP p q < 0) (k : ordP q r < 0) : ordP p r < 0 := by rw [ordP_lt] at *; omega
theorem ordP_irrefl (p : Pf) : ¬ ordP p p < 0 := by rw [ordP_lt]; omega
theorem ordP_range {p q : Pf} (hp : chkP p = 0) (hq : chkP q = 0) : -4294967296 ≤ ordP p q ∧ ordP p q ≤ 4294967296 := by
  obtain ⟨_, _, _, _, _⟩ := chk_zero.1 hp
  obtain ⟨_, _, _, _, _⟩ := chk_zero.1 hq
  unfold ordP; split <;> omega

theorem last_geP (p : Pf) : p.1 ≤ lastP p := last_ge _ _

theorem sz_split (n m : Int) (h0 : 0 ≤ m) (h : m ≤ n) (h2 : n ≤ 32) : ∃ t, sz m = sz n * t := by
  refine ⟨2 ^ (n - m).toNat, ?_⟩
  unfold sz
  rw [← Int.pow_add]
  congr 1
  omega

/-- Of two prefixes that have an address in common the longer one is within the other one. -/
theorem nested {p q : Pf} (hp : chkP p = 0) (hq : chkP q = 0) (hlen : q.2 ≤ p.2) (h1 : p.1 ≤ lastP q) (h2 : q.1 ≤ lastP p) : inQ p q = true := by
  obtain ⟨p1, p2, p3, p4, p5⟩ := chk_zero.1 hp
  obtain ⟨q1, q2, q3, q4, q5⟩ := chk_zero.1 hq
  obtain ⟨t, ht⟩ := sz_split p.2 q.2 q1 hlen p2
  obtain ⟨i, hi⟩ := Int.dvd_of_emod_eq_zero p5
  obtain ⟨j, hj⟩ := Int.dvd_of_emod_eq_zero q5
  have hs := sz_pos p.2
  rw [inQ_iff]
  unfold lastP lastA at *
  rw [ht] at hj h1 ⊢
  generalize sz p.2 = s at *
  have hj' : q.1 = s * (t * j) := by rw [hj, Int.mul_assoc]
  rw [hi, hj'] at h1 h2 ⊢
  have a1 : i < t * j + t := by
    refine Int.not_le.1 fun h => ?_
    have := Int.mul_le_mul_of_nonneg_left h (Int.le_of_lt hs)
    rw [Int.mul_add] at this
    omega
  have a2 : t * j < i + 1 := by
    refine Int.not_le.1 fun h => ?_
    have := Int.mul_le_mul_of_nonneg_left h (Int.le_of_lt hs)
    rw [Int.mul_add] at this
    omega
  have b1 := Int.mul_le_mul_of_nonneg_left (show t * j ≤ i by omega) (Int.le_of_lt hs)
  have b2 := Int.mul_le_mul_of_nonneg_left (show i + 1 ≤ t * j + t by omega) (Int.le_of_lt hs)
  rw [Int.mul_add, Int.mul_add] at b2
  omega

theorem sz_mono {n m : Int} (h : m ≤ n) : sz n ≤ sz m := by
  unfold sz
  have : (2 : Nat) ^ (32 - n).toNat ≤ 2 ^ (32 - m).toNat := Nat.pow_le_pow_right (by decide) (by omega)
  exact_mod_cast this
theorem sz_strict {n m : Int} (h : m < n) (h2 : n ≤ 32) : sz n < sz m := by
  have := sz_half m (by omega)
  have := sz_mono (n := n) (m := m + 1) (by omega)
  have := sz_pos (m + 1)
  omega
/-- What is within is no shorter; of equal length it is the same. -/
theorem in_len {p q : Pf} (hp : chkP p = 0) (hq : chkP q = 0) (h : inQ p q = true) : q.2 ≤ p.2 ∧ (q.2 = p.2 → p = q) := by
  obtain ⟨p1, p2, p3, p4, p5⟩ := chk_zero.1 hp
  obtain ⟨q1, q2, q3, q4, q5⟩ := chk_zero.1 hq
  rw [inQ_iff] at h
  unfold lastP lastA at h
  constructor
  · refine Int.not_lt.1 fun hlt => ?_
    have := sz_strict hlt q2
    omega
  · intro e
    rw [e] at h
    exact Prod.ext (by omega) e.symm
theorem in_trans {p q r : Pf} (h : inQ p q = true) (k : inQ q r = true) : inQ p r = true := by
  rw [inQ_iff] at *; omega
theorem in_refl (p : Pf) : inQ p p = true := by rw [inQ_iff]; omega
/-- What is within another one, and is not it, comes behind it. -/
theorem in_ord {p q : Pf} (hp : chkP p = 0) (hq : chkP q = 0) (h : inQ p q = true) (hne : p ≠ q) : ordP q p < 0 := by
  have h1 := in_len hp hq h
  rw [inQ_iff] at h
  rw [ordP_lt]
  by_cases e : q.1 = p.1
  · right
    refine ⟨e, ?_⟩
    by_cases e2 : q.2 = p.2
    · exact absurd (h1.2 e2) hne
    · omega
  · left; omega
/-- Ordered ones: the later is within the earlier, or behind it. -/
theorem ord_cases {p q : Pf} (hp : chkP p = 0) (hq : chkP q = 0) (h : ordP p q < 0) : inQ q p = true ∨ lastP p < q.1 := by
  rw [ordP_lt] at h
  by_cases hl : lastP p < q.1
  · exact .inr hl
  · left
    have g1 := last_geP p
    have g2 := last_geP q
    by_cases e : p.2 ≤ q.2
    · exact nested hq hp e (by omega) (by omega)
    · have := nested hp hq (by omega) (by omega) (by omega)
      rw [inQ_iff] at this
      exact absurd h (by omega)

/- The fault of a tree. -/
def badOrd : Option Pf → Pf → Bool
  | some q, p => decide (0 ≤ ordP q p)
  | none, _ => false
def treeGo : Option Pf → List Pf → Int
  | _, [] => 0
  | prev, p :: r => if chkP p ≠ 0 then chkP p else if badOrd prev p then 2 else treeGo (some p) r
def treeFault (l : List Pf) : Int := if 60 < l.length then 3 else treeGo none l
def prevOf (l : List Pf) (k : Nat) : Option Pf := if k = 0 then none else l[k - 1]?

theorem treeGo_step (l : List Pf) (k : Nat) (h : k < l.length) : treeGo (prevOf l k) (l.drop k) =
    if chkP l[k] ≠ 0 then chkP l[k] else if badOrd (prevOf l k) l[k] then 2 else treeGo (prevOf l (k + 1)) (l.drop (k + 1)) := by
  rw [List.drop_eq_getElem_cons h, treeGo]
  have : prevOf l (k + 1) = some l[k] := by simp [prevOf, h]
  rw [this]

theorem treeGo_good : ∀ (l : List Pf) (prev : Option Pf), treeGo prev l = 0 → (∀ p ∈ l, chkP p = 0) ∧ l.Pairwise (fun p q => ordP p q < 0) ∧ ∀ q, prev = some q → ∀ p ∈ l, ordP q p < 0
  | [], prev, _ => by simp
  | p :: r, prev, h => by
    unfold treeGo at h
    split at h
    · contradiction
    · rename_i h1
      have h1' : chkP p = 0 := by simpa using h1
      split at h
      · cases h
      · rename_i h2
        obtain ⟨g1, g2, g3⟩ := treeGo_good r (some p) h
        have hp := g3 p rfl
        refine ⟨by simp [h1']; exact fun a b hab => g1 _ hab, List.pairwise_cons.2 ⟨hp, g2⟩, fun q hq x hx => ?_⟩
        subst hq
        have hqp : ordP q p < 0 := by simpa [badOrd] using h2
        rcases List.mem_cons.1 hx with rfl | hx
        · exact hqp
        · exact ordP_trans hqp (hp x hx)
theorem tree_good {l : List Pf} (h : treeFault l = 0) : l.length ≤ 60 ∧ (∀ p ∈ l, chkP p = 0) ∧ l.Pairwise (fun p q => ordP p q < 0) := by
  unfold treeFault at h
  split at h
  · cases h
  · obtain ⟨h1, h2, _⟩ := treeGo_good l none h
    exact ⟨by omega, h1, h2⟩

/- Those within no other one. -/
def topsGo : Option Pf → List Pf → List Pf
  | _, [] => []
  | none, p :: r => p :: topsGo (some p) r
  | some q, p :: r => if inQ p q then topsGo (some q) r else p :: topsGo (some p) r
def tops (l : List Pf) : List Pf := topsGo none l

theorem topsGo_sub : ∀ (l : List Pf) (q : Option Pf), ∀ p ∈ topsGo q l, p ∈ l
  | [], q, p, h => by simp [topsGo] at h
  | x :: r, none, p, h => by
    simp only [topsGo, List.mem_cons] at h ⊢
    exact h.imp id (topsGo_sub r _ p)
  | x :: r, some q, p, h => by
    simp only [topsGo] at h
    split at h
    · exact List.mem_cons_of_mem _ (topsGo_sub r _ p h)
    · rw [List.mem_cons] at h ⊢
      exact h.imp id (topsGo_sub r _ p)

/-- What stays is within none of what came ahead of it ('seen') nor of what is on the list. -/
theorem topsGo_none : ∀ (l seen : List Pf) (q : Option Pf), (∀ p ∈ l, chkP p = 0) → (∀ p ∈ seen, chkP p = 0) → l.Pairwise (fun p q => ordP p q < 0) →
    (q = none → seen = []) → (∀ t, q = some t → t ∈ seen ∧ (∀ c ∈ seen, inQ c t = true ∨ lastP c < t.1) ∧ ∀ p ∈ l, ordP t p < 0) →
    ∀ d ∈ topsGo q l, ∀ c, c ∈ seen ∨ c ∈ l → c ≠ d → inQ d c = false
  | [], seen, q, _, _, _, _, _, d, hd, _, _, _ => by simp [topsGo] at hd
  | p :: r, seen, q, hl, hs, hpw, hn, hq, d, hd, c, hc, hne => by
    rw [List.pairwise_cons] at hpw
    have hp := hl p (by simp)
    have hr : ∀ x ∈ r, chkP x = 0 := fun x hx => hl x (by simp [hx])
    have hsp : ∀ x ∈ p :: seen, chkP x = 0 := fun x hx => by
      rcases List.mem_cons.1 hx with rfl | hx
      · exact hp
      · exact hs x hx
    -- p itself is kept
    have keep : (∀ x ∈ seen, lastP x < p.1) → d ∈ p :: topsGo (some p) r → inQ d c = false := fun hlt hd => by
      rcases List.mem_cons.1 hd with rfl | hd
      · cases hin : inQ d c
        · rfl
        · rcases hc with hc | hc
          · have h1 := hlt c hc
            have h2 := last_geP d
            rw [inQ_iff] at hin
            omega
          · rcases List.mem_cons.1 hc with rfl | hc
            · exact absurd rfl hne
            · have h1 := hpw.1 c hc
              have h2 := in_ord hp (hr c hc) hin (Ne.symm hne)
              exact absurd (ordP_trans h1 h2) (ordP_irrefl _)
      · refine topsGo_none r (p :: seen) (some p) hr hsp hpw.2 (by simp) (fun t ht => ?_) d hd c ?_ hne
        · cases ht
          refine ⟨by simp, fun x hx => ?_, hpw.1⟩
          rcases List.mem_cons.1 hx with rfl | hx
          · exact .inl (in_refl _)
          · exact .inr (hlt x hx)
        · rcases hc with hc | hc
          · exact .inl (by simp [hc])
          · rcases List.mem_cons.1 hc with rfl | hc
            · exact .inl (by simp)
            · exact .inr hc
    cases q with
    | none =>
      have := hn rfl
      subst this
      exact keep (by simp) (by simpa [topsGo] using hd)
    | some t =>
      obtain ⟨t1, t2, t3⟩ := hq t rfl
      simp only [topsGo] at hd
      split at hd
      · rename_i hin
        refine topsGo_none r (p :: seen) (some t) hr hsp hpw.2 (by simp) (fun t' ht' => ?_) d hd c ?_ hne
        · cases ht'
          refine ⟨by simp [t1], fun x hx => ?_, fun x hx => t3 x (by simp [hx])⟩
          rcases List.mem_cons.1 hx with rfl | hx
          · exact .inl hin
          · exact t2 x hx
        · rcases hc with hc | hc
          · exact .inl (by simp [hc])
          · rcases List.mem_cons.1 hc with rfl | hc
            · exact .inl (by simp)
            · exact .inr hc
      · rename_i hin
        refine keep (fun x hx => ?_) hd
        have htp := t3 p (by simp)
        have hlt : lastP t < p.1 := (ord_cases (hs t t1) hp htp).resolve_left hin
        rcases t2 x hx with h | h
        · rw [inQ_iff] at h; omega
        · have := last_geP t; omega

theorem tops_none {l : List Pf} (hl : ∀ p ∈ l, chkP p = 0) (hpw : l.Pairwise (fun p q => ordP p q < 0)) {d c : Pf} (hd : d ∈ tops l) (hc : c ∈ l) (hne : c ≠ d) : inQ d c = false :=
  topsGo_none l [] none hl (by simp) hpw (by simp) (by simp) d hd c (.inr hc) hne

/- Above and below. -/
def aboveOf (p q : Pf) : Bool := decide (q ≠ p) && inQ p q
def belowOf (p q : Pf) : Bool := decide (q ≠ p) && inQ q p

/-- Two that have p within, in order: the later is within the earlier and longer. -/
theorem chain {p q r : Pf} (hp : chkP p = 0) (hq : chkP q = 0) (hr : chkP r = 0) (h1 : inQ p q = true) (h2 : inQ p r = true) (h : ordP q r < 0) : inQ r q = true ∧ q.2 < r.2 := by
  have g := last_geP p
  rcases ord_cases hq hr h with h3 | h3
  · refine ⟨h3, ?_⟩
    have := in_len hr hq h3
    by_cases e : q.2 = r.2
    · have := this.2 e
      subst this
      exact absurd h (ordP_irrefl _)
    · omega
  · rw [inQ_iff] at h1 h2
    omega

theorem topsGo_keep0 {l : List Pf} {k : Nat} (h : k < l.length) : topsGo none (l.drop k) = l[k] :: topsGo (some l[k]) (l.drop (k + 1)) := by
  rw [List.drop_eq_getElem_cons h]; rfl
theorem topsGo_keep {l : List Pf} {k : Nat} (h : k < l.length) {q : Pf} (hq : inQ l[k] q = false) : topsGo (some q) (l.drop k) = l[k] :: topsGo (some l[k]) (l.drop (k + 1)) := by
  rw [List.drop_eq_getElem_cons h, topsGo, if_neg (by simp [hq])]
theorem topsGo_drop {l : List Pf} {k : Nat} (h : k < l.length) {q : Pf} (hq : inQ l[k] q = true) : topsGo (some q) (l.drop k) = topsGo (some q) (l.drop (k + 1)) := by
  rw [List.drop_eq_getElem_cons h, topsGo, if_pos hq]

/- where a prefix stands in a tree, or would -/
def atOf (l : List Pf) (p : Pf) : Nat := (l.takeWhile fun x => decide (ordP x p < 0)).length
theorem atOf_eq : ∀ (l : List Pf) (p : Pf) (i : Nat), i ≤ l.length → (∀ k (h : k < l.length), k < i → ordP l[k] p < 0) → (∀ h : i < l.length, 0 ≤ ordP l[i] p) → atOf l p = i
  | [], p, i, h, _, _ => by simp [atOf] at *; omega
  | x :: r, p, 0, _, _, h2 => by
    have := h2 (by simp)
    simp only [List.getElem_cons_zero] at this
    simp [atOf, List.takeWhile, show ¬ ordP x p < 0 by omega]
  | x :: r, p, i + 1, h, h1, h2 => by
    have h0 := h1 0 (by simp) (by omega)
    have ih := atOf_eq r p i (by simpa using h) (fun k hk hlt => h1 (k + 1) (by simp; omega) (by omega)) (fun hi => h2 (by simp; omega))
    simp only [List.getElem_cons_zero] at h0
    simp only [atOf, List.takeWhile, h0, decide_true, List.length_cons] at *
    omega
theorem mem_at {l : List Pf} {p : Pf} {i : Nat} (hpw : l.Pairwise (fun p q => ordP p q < 0)) (h1 : ∀ k (h : k < l.length), k < i → ordP l[k] p < 0) (h2 : ∀ h : i < l.length, 0 ≤ ordP l[i] p) :
    p ∈ l ↔ ∃ h : i < l.length, ordP l[i] p = 0 := by
  constructor
  · intro hp
    obtain ⟨k, hk, rfl⟩ := List.mem_iff_getElem.1 hp
    have hki : ¬ k < i := fun h => absurd (h1 k hk h) (ordP_irrefl _)
    have hi : i < l.length := by omega
    refine ⟨hi, ?_⟩
    by_cases e : i = k
    · subst e; exact ordP_zero.2 rfl
    · have := List.pairwise_iff_getElem.1 hpw i k hi hk (by omega)
      have := h2 hi
      omega
  · rintro ⟨h, e⟩
    rw [ordP_zero] at e
    rw [← e]
    exact List.getElem_mem _

/- the law on chains -/
theorem chains_up {l : List Pf} {p : Pf} (hl : ∀ p ∈ l, chkP p = 0) (hp : chkP p = 0) (hpw : l.Pairwise (fun p q => ordP p q < 0)) {k : Nat} (h : k < (l.filter (aboveOf p)).length) :
    chkP (l.filter (aboveOf p))[k] = 0 ∧ inQ p (l.filter (aboveOf p))[k] = true := by
  have := List.mem_filter.1 (List.getElem_mem h)
  refine ⟨hl _ this.1, ?_⟩
  have := this.2
  simp [aboveOf] at this
  exact this.2
theorem chains_next {l : List Pf} {p : Pf} (hl : ∀ p ∈ l, chkP p = 0) (hp : chkP p = 0) (hpw : l.Pairwise (fun p q => ordP p q < 0)) {k : Nat} (h : k + 1 < (l.filter (aboveOf p)).length) :
    inQ (l.filter (aboveOf p))[k + 1] (l.filter (aboveOf p))[k] = true ∧ (l.filter (aboveOf p))[k].2 < (l.filter (aboveOf p))[k + 1].2 := by
  obtain ⟨a1, a2⟩ := chains_up hl hp hpw (k := k) (by omega)
  obtain ⟨b1, b2⟩ := chains_up hl hp hpw h
  exact chain hp a1 b1 a2 b2 (List.pairwise_iff_getElem.1 (hpw.filter _) k (k + 1) (by omega) h (by omega))
theorem tops_mem {l : List Pf} {p d : Pf} (hd : d ∈ tops (l.filter (belowOf p))) : d ∈ l ∧ d ≠ p ∧ inQ d p = true := by
  have := List.mem_filter.1 (topsGo_sub _ _ _ hd)
  have h2 := this.2
  simp [belowOf] at h2
  exact ⟨this.1, h2⟩
theorem chains_down {l : List Pf} {p d c : Pf} (hl : ∀ p ∈ l, chkP p = 0) (hpw : l.Pairwise (fun p q => ordP p q < 0)) (hd : d ∈ tops (l.filter (belowOf p))) (hc : c ∈ l.filter (aboveOf d)) (hin : inQ c p = true) : c = p := by
  refine Classical.byContradiction fun hne => ?_
  have h1 := List.mem_filter.1 hc
  have h2 := h1.2
  simp [aboveOf] at h2
  have := tops_none (l := l.filter (belowOf p)) (fun q hq => hl q (List.mem_filter.1 hq).1) (hpw.filter _) hd (c := c) (List.mem_filter.2 ⟨h1.1, by simp [belowOf, hne, hin]⟩) h2.1
  rw [h2.2] at this
  cases this
theorem topsGo_length : ∀ (q : Option Pf) (l : List Pf), (topsGo q l).length ≤ l.length
  | _, [] => by simp [topsGo]
  | none, p :: r => by simp [topsGo]; exact topsGo_length _ r
  | some q, p :: r => by
    simp only [topsGo]
    split
    · exact Nat.le_trans (topsGo_length _ r) (by simp)
    · simp; exact topsGo_length _ r
end Go.Proofs.YtmfaknngophmhaaDoor
