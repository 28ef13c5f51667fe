/- Plain laws of 'Together': rising edges, and the one set in order that has just the addresses that a rule tells. No program. -/
import Derived.Test.YtmfaknngophmhaaDoorSpanMath
namespace Go.Proofs.YtmfaknngophmhaaDoor
set_option linter.unusedVariables false
set_option linter.unusedSimpArgs false

/-- The set between edges: by a rule on the left edge. -/
def togGo (f : Int → Bool) : Option Sp → List Int → List Sp
  | cur, x :: y :: r => if f x then (match cur with
      | some c => if c.2 = x - 1 then togGo f (some (c.1, y - 1)) (y :: r) else c :: togGo f (some (x, y - 1)) (y :: r)
      | none => togGo f (some (x, y - 1)) (y :: r)) else togGo f cur (y :: r)
  | cur, _ => cur.toList
/-- A rule does not turn between edges, and tells nothing behind the last one. -/
def ConstOn (f : Int → Bool) : List Int → Prop
  | x :: y :: r => x < y ∧ (∀ t, x ≤ t → t < y → f t = f x) ∧ ConstOn f (y :: r)
  | [x] => ∀ t, x ≤ t → f t = false
  | [] => ∀ t, f t = false

def memO (c : Option Sp) (t : Int) : Bool := match c with | some s => inS s t | none => false

theorem togGo_mem (f : Int → Bool) : ∀ (r : List Int) (x : Int) (cur : Option Sp), ConstOn f (x :: r) → (∀ c, cur = some c → c.1 ≤ c.2 ∧ c.2 < x) → ∀ t, memS (togGo f cur (x :: r)) t = (memO cur t || (decide (x ≤ t) && f t))
  | [], x, cur, h, _, t => by
    have h' : ∀ t, x ≤ t → f t = false := h
    have : (decide (x ≤ t) && f t) = false := by
      by_cases e : x ≤ t
      · simp [h' t e]
      · simp [e]
    rw [this]
    cases cur <;> simp [togGo, memS, memO]
  | y :: r, x, cur, h, hcur, t => by
    obtain ⟨hxy, hc, hr⟩ := h
    have ih := fun c hcc => togGo_mem f r y c hr hcc t
    have key : (decide (x ≤ t) && f t) = ((decide (x ≤ t) && decide (t < y) && f x) || (decide (y ≤ t) && f t)) := by
      by_cases e1 : x ≤ t
      · by_cases e2 : t < y
        · simp [e1, e2, hc t e1 e2, show ¬ y ≤ t by omega]
        · simp [e1, e2, show y ≤ t by omega]
      · simp [e1, show ¬ y ≤ t by omega]
    have hi : inS (x, y - 1) t = (decide (x ≤ t) && decide (t < y)) := by
      rw [Bool.eq_iff_iff]; simp [inS]; omega
    rw [key]
    unfold togGo
    by_cases hf : f x = true
    · rw [if_pos hf, hf]
      cases cur with
      | none =>
        rw [ih _ (fun c e => by cases e; simp; omega)]
        simp [memO, hi]
      | some c =>
        obtain ⟨g1, g2⟩ := hcur c rfl
        by_cases e : c.2 = x - 1
        · simp only [if_pos e]
          rw [ih _ (fun c' e' => by cases e'; simp; omega)]
          have : inS (c.1, y - 1) t = (inS c t || inS (x, y - 1) t) := by
            rw [Bool.eq_iff_iff]; simp [inS]; omega
          simp only [memO, this, hi, Bool.and_true, Bool.or_assoc]
        · simp only [if_neg e]
          rw [memS_cons, ih _ (fun c' e' => by cases e'; simp; omega)]
          simp only [memO, hi, Bool.and_true, Bool.or_assoc]
    · have hf' : f x = false := by simpa using hf
      rw [if_neg hf, ih _ (fun c e => by have := hcur c e; omega), hf']
      simp
theorem togGo_can (f : Int → Bool) : ∀ (r : List Int) (x : Int) (cur : Option Sp) (b : Int), ConstOn f (x :: r) → (∀ c, cur = some c → b < c.1 ∧ c.1 ≤ c.2 ∧ c.2 < x) → (cur = none → b < x) → CanF b (togGo f cur (x :: r))
  | [], x, cur, b, _, h, _ => by
    cases cur with
    | none => exact trivial
    | some c => have := h c rfl; exact ⟨this.1, this.2.1, trivial⟩
  | y :: r, x, cur, b, h, hcur, hn => by
    obtain ⟨hxy, _, hr⟩ := h
    have ih := fun c b' => togGo_can f r y c b' hr
    unfold togGo
    by_cases hf : f x = true
    · rw [if_pos hf]
      cases cur with
      | none =>
        have := hn rfl
        exact ih _ _ (fun c e => by cases e; simp; omega) (fun e => by cases e)
      | some c =>
        obtain ⟨g0, g1, g2⟩ := hcur c rfl
        by_cases e : c.2 = x - 1
        · simp only [if_pos e]
          exact ih _ _ (fun c' e' => by cases e'; simp; omega) (fun e => by cases e)
        · simp only [if_neg e]
          exact ⟨g0, g1, ih _ _ (fun c' e' => by cases e'; simp; omega) (fun e => by cases e)⟩
    · rw [if_neg hf]
      exact ih _ _ (fun c e => by have := hcur c e; omega) (fun e => by have := hn e; omega)

theorem constOn_of (f : Int → Bool) (S : List Int) (hf : ∀ x t, x ≤ t → (∀ z ∈ S, z ≤ x ∨ t < z) → f t = f x) (h0 : ∀ t, (∀ z ∈ S, z ≤ t) → f t = false) :
    ∀ (r : List Int) (x : Int), (x :: r).Pairwise (· < ·) → (∀ z ∈ S, z ≤ x ∨ z ∈ r) → ConstOn f (x :: r)
  | [], x, _, hS => fun t ht => h0 t fun z hz => by
    rcases hS z hz with h | h
    · omega
    · cases h
  | y :: r, x, hp, hS => by
    rw [List.pairwise_cons] at hp
    have hxy := hp.1 y (by simp)
    refine ⟨hxy, fun t h1 h2 => hf x t h1 fun z hz => ?_, constOn_of f S hf h0 r y hp.2 fun z hz => ?_⟩
    · rcases hS z hz with h | h
      · exact .inl h
      · rcases List.mem_cons.1 h with rfl | h
        · exact .inr h2
        · have := (List.pairwise_cons.1 hp.2).1 z h; exact .inr (by omega)
    · rcases hS z hz with h | h
      · exact .inl (by omega)
      · rcases List.mem_cons.1 h with rfl | h
        · exact .inl (Int.le_refl _)
        · exact .inr h

theorem togL_mem (f : Int → Bool) (S E : List Int) (hf : ∀ x t, x ≤ t → (∀ z ∈ S, z ≤ x ∨ t < z) → f t = f x) (h0 : ∀ t, (∀ z ∈ S, z ≤ t) → f t = false) (h1 : ∀ t, (∀ z ∈ S, t < z) → f t = false)
    (hp : E.Pairwise (· < ·)) (hE : ∀ z, z ∈ E ↔ z ∈ S) (t : Int) : memS (togGo f none E) t = f t := by
  cases E with
  | nil =>
    have : S = [] := List.eq_nil_iff_forall_not_mem.2 fun z hz => by have := (hE z).2 hz; cases this
    subst this
    rw [h0 t (by simp)]
    rfl
  | cons x r =>
    rw [togGo_mem f r x none (constOn_of f S hf h0 r x hp fun z hz => by
      rcases List.mem_cons.1 ((hE z).2 hz) with rfl | h
      · exact .inl (Int.le_refl _)
      · exact .inr h) (fun c e => by cases e)]
    by_cases h : x ≤ t
    · simp [h, memO]
    · rw [h1 t fun z hz => by
        rcases List.mem_cons.1 ((hE z).2 hz) with rfl | h'
        · omega
        · have := (List.pairwise_cons.1 hp).1 z h'; omega]
      simp [memO]
theorem togL_can (f : Int → Bool) (S E : List Int) (hf : ∀ x t, x ≤ t → (∀ z ∈ S, z ≤ x ∨ t < z) → f t = f x) (h0 : ∀ t, (∀ z ∈ S, z ≤ t) → f t = false)
    (hp : E.Pairwise (· < ·)) (hE : ∀ z, z ∈ E ↔ z ∈ S) (b : Int) (hb : ∀ z ∈ S, b < z) : CanF b (togGo f none E) := by
  cases E with
  | nil => exact trivial
  | cons x r =>
    exact togGo_can f r x none b (constOn_of f S hf h0 r x hp fun z hz => by
      rcases List.mem_cons.1 ((hE z).2 hz) with rfl | h
      · exact .inl (Int.le_refl _)
      · exact .inr h) (fun c e => by cases e) (fun _ => hb x ((hE x).1 (by simp)))

/- the edges -/
def edgesOf (l : List Sp) : List Int := l.flatMap fun s => [s.1, s.2 + 1]
theorem mem_edgesOf {l : List Sp} {z : Int} : z ∈ edgesOf l ↔ ∃ s ∈ l, z = s.1 ∨ z = s.2 + 1 := by simp [edgesOf]
theorem edges_const {l : List Sp} {x t : Int} (h : x ≤ t) (hz : ∀ z ∈ edgesOf l, z ≤ x ∨ t < z) : memS l t = memS l x := by
  rw [Bool.eq_iff_iff, memS_iff, memS_iff]
  constructor
  · rintro ⟨s, hs, h1, h2⟩
    have a := hz s.1 (mem_edgesOf.2 ⟨s, hs, .inl rfl⟩)
    exact ⟨s, hs, by omega, by omega⟩
  · rintro ⟨s, hs, h1, h2⟩
    have b := hz (s.2 + 1) (mem_edgesOf.2 ⟨s, hs, .inr rfl⟩)
    exact ⟨s, hs, by omega, by omega⟩
theorem edges_over {l : List Sp} {t : Int} (hz : ∀ z ∈ edgesOf l, z ≤ t) : memS l t = false := by
  rw [Bool.eq_false_iff, ne_eq, memS_iff]
  rintro ⟨s, hs, h1, h2⟩
  have b := hz (s.2 + 1) (mem_edgesOf.2 ⟨s, hs, .inr rfl⟩)
  omega
theorem edges_ahead {l : List Sp} {t : Int} (hz : ∀ z ∈ edgesOf l, t < z) : memS l t = false := by
  rw [Bool.eq_false_iff, ne_eq, memS_iff]
  rintro ⟨s, hs, h1, h2⟩
  have b := hz s.1 (mem_edgesOf.2 ⟨s, hs, .inl rfl⟩)
  omega
def insE (x : Int) : List Int → List Int
  | [] => [x]
  | y :: r => if y < x then y :: insE x r else if y = x then y :: r else x :: y :: r
theorem insE_new {x : Int} : ∀ {P Q : List Int}, (∀ y ∈ P, y < x) → (∀ y ∈ Q, x < y) → insE x (P ++ Q) = P ++ x :: Q
  | [], [], _, _ => rfl
  | [], q :: Q, _, h => by
    have := h q (by simp)
    simp only [List.nil_append]
    rw [insE, if_neg (by omega), if_neg (by omega)]
  | p :: P, Q, h1, h2 => by
    rw [List.cons_append, insE, if_pos (h1 p (by simp)), insE_new (fun y hy => h1 y (by simp [hy])) h2]
    rfl
theorem insE_old {x : Int} {Q : List Int} : ∀ {P : List Int}, (∀ y ∈ P, y < x) → insE x (P ++ x :: Q) = P ++ x :: Q
  | [], _ => by
    simp only [List.nil_append]
    rw [insE, if_neg (by omega), if_pos rfl]
  | p :: P, h1 => by
    rw [List.cons_append, insE, if_pos (h1 p (by simp)), insE_old (fun y hy => h1 y (by simp [hy]))]
theorem mem_insE {x z : Int} : ∀ {l : List Int}, z ∈ insE x l ↔ z = x ∨ z ∈ l
  | [] => by simp [insE]
  | y :: r => by
    unfold insE
    split
    · rw [List.mem_cons, mem_insE, List.mem_cons]
      constructor
      · rintro (h | h | h)
        · exact .inr (.inl h)
        · exact .inl h
        · exact .inr (.inr h)
      · rintro (h | h | h)
        · exact .inr (.inl h)
        · exact .inl h
        · exact .inr (.inr h)
    · split
      · rename_i h; subst h; simp
      · simp
theorem sorted_insE {x : Int} : ∀ {l : List Int}, l.Pairwise (· < ·) → (insE x l).Pairwise (· < ·)
  | [], _ => by simp [insE]
  | y :: r, h => by
    have h' := List.pairwise_cons.1 h
    unfold insE
    split
    · rename_i hyx
      rw [List.pairwise_cons]
      refine ⟨fun z hz => ?_, sorted_insE h'.2⟩
      rcases mem_insE.1 hz with rfl | hz
      · exact hyx
      · exact h'.1 z hz
    · split
      · exact h
      · rw [List.pairwise_cons]
        refine ⟨fun z hz => ?_, h⟩
        rcases List.mem_cons.1 hz with rfl | hz
        · omega
        · have := h'.1 z hz; omega
def edgesL (S : List Int) : List Int := S.foldl (fun o x => insE x o) []
theorem edgesL_snoc (S : List Int) (x : Int) : edgesL (S ++ [x]) = insE x (edgesL S) := by simp [edgesL, List.foldl_append]
theorem edgesL_good (S : List Int) : (edgesL S).Pairwise (· < ·) ∧ ∀ z, z ∈ edgesL S ↔ z ∈ S := by
  have : ∀ (S o : List Int), o.Pairwise (· < ·) → (S.foldl (fun o x => insE x o) o).Pairwise (· < ·) ∧ ∀ z, z ∈ S.foldl (fun o x => insE x o) o ↔ z ∈ o ∨ z ∈ S := by
    intro S
    induction S with
    | nil => intro o h; simp [h]
    | cons x S ih =>
      intro o h
      have := ih (insE x o) (sorted_insE h)
      rw [List.foldl_cons]
      refine ⟨this.1, fun z => ?_⟩
      rw [this.2, mem_insE, List.mem_cons]
      constructor
      · rintro ((h | h) | h)
        · exact .inr (.inl h)
        · exact .inl h
        · exact .inr (.inr h)
      · rintro (h | h | h)
        · exact .inl (.inr h)
        · exact .inl (.inl h)
        · exact .inr h
  have := this S [] (by simp)
  exact ⟨this.1, fun z => by have := this.2 z; simpa [edgesL] using this⟩
theorem edgesL_length (S : List Int) : (edgesL S).length ≤ S.length := by
  have h1 : ∀ (x : Int) (o : List Int), (insE x o).length ≤ o.length + 1 := by
    intro x o
    induction o with
    | nil => simp [insE]
    | cons y r ih =>
      unfold insE
      split
      · simp; omega
      · split <;> simp
  have : ∀ (S o : List Int), (S.foldl (fun o x => insE x o) o).length ≤ o.length + S.length := by
    intro S
    induction S with
    | nil => intro o; simp
    | cons x S ih =>
      intro o
      have := ih (insE x o)
      have := h1 x o
      simp only [List.foldl_cons, List.length_cons]
      omega
  simpa [edgesL] using this S []

/-- The rule that a number tells. -/
def rule (how : Int) (l m : List Sp) (t : Int) : Bool :=
  (decide (how = 1) && (memS l t || memS m t)) || (decide (how = 2) && (memS l t && memS m t)) || (decide (how = 3) && (memS l t && !memS m t))
def together (l m : List Sp) (how : Int) : List Sp := togGo (rule how l m) none (edgesL (edgesOf l ++ edgesOf m))
theorem rule_const {how : Int} {l m : List Sp} (x t : Int) (h : x ≤ t) (hz : ∀ z ∈ edgesOf l ++ edgesOf m, z ≤ x ∨ t < z) : rule how l m t = rule how l m x := by
  unfold rule
  rw [edges_const h fun z hz' => hz z (by simp [hz']), edges_const h fun z hz' => hz z (by simp [hz'])]
theorem rule_over {how : Int} {l m : List Sp} (t : Int) (hz : ∀ z ∈ edgesOf l ++ edgesOf m, z ≤ t) : rule how l m t = false := by
  unfold rule
  rw [edges_over fun z hz' => hz z (by simp [hz']), edges_over fun z hz' => hz z (by simp [hz'])]
  simp
theorem rule_ahead {how : Int} {l m : List Sp} (t : Int) (hz : ∀ z ∈ edgesOf l ++ edgesOf m, t < z) : rule how l m t = false := by
  unfold rule
  rw [edges_ahead fun z hz' => hz z (by simp [hz']), edges_ahead fun z hz' => hz z (by simp [hz'])]
  simp
theorem together_mem (l m : List Sp) (how t : Int) : memS (together l m how) t = rule how l m t :=
  togL_mem _ (edgesOf l ++ edgesOf m) _ rule_const rule_over rule_ahead (edgesL_good _).1 (edgesL_good _).2 t
theorem together_can (l m : List Sp) (how : Int) (hl : Valid l) (hm : Valid m) : CanF (-1) (together l m how) := by
  refine togL_can _ (edgesOf l ++ edgesOf m) _ rule_const rule_over (edgesL_good _).1 (edgesL_good _).2 (-1) fun z hz => ?_
  rcases List.mem_append.1 hz with h | h
  · obtain ⟨s, hs, e⟩ := mem_edgesOf.1 h
    have := hl s hs
    omega
  · obtain ⟨s, hs, e⟩ := mem_edgesOf.1 h
    have := hm s hs
    omega
theorem together_norm {l : List Sp} (hl : Valid l) : together l [] 1 = norm l :=
  canon_unique (together_can l [] 1 hl (by intro s hs; cases hs)) (norm_good hl).1 fun t => by rw [together_mem, (norm_good hl).2]; simp [rule, memS_nil]
end Go.Proofs.YtmfaknngophmhaaDoor
