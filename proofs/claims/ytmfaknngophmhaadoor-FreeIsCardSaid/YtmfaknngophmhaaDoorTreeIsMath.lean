/- Plain laws of the references of trees: one put in, dropped, found, those above, those below. No program. -/
import Derived.Test.YtmfaknngophmhaaDoorTreeMath
namespace Go.Proofs.YtmfaknngophmhaaDoor
set_option linter.unusedVariables false
set_option linter.unusedSimpArgs false

abbrev Sorted (l : List Pf) : Prop := l.Pairwise (fun p q => ordP p q < 0)

theorem at_iff {p : Pf} : ∀ {l : List Pf}, Sorted l → ∀ {k : Nat} (h : k < l.length), k < atOf l p ↔ ordP l[k] p < 0
  | [], _, k, h => by simp at h
  | x :: r, hpw, k, h => by
    have hpw' := List.pairwise_cons.1 hpw
    by_cases h0 : ordP x p < 0
    · have e : atOf (x :: r) p = atOf r p + 1 := by simp [atOf, List.takeWhile, h0]
      rw [e]
      match k, h with
      | 0, h => simp [h0]
      | k + 1, h =>
        have := at_iff (p := p) hpw'.2 (k := k) (by simpa using h)
        simp only [List.getElem_cons_succ]
        rw [← this]
        omega
    · have e : atOf (x :: r) p = 0 := by simp [atOf, List.takeWhile, h0]
      rw [e]
      match k, h with
      | 0, h => simp [h0]
      | k + 1, h =>
        simp only [List.getElem_cons_succ, Nat.not_lt_zero, false_iff]
        intro hlt
        exact h0 (ordP_trans (hpw'.1 _ (List.getElem_mem _)) hlt)
theorem at_le (l : List Pf) (p : Pf) : atOf l p ≤ l.length := List.Sublist.length_le (List.takeWhile_sublist _)
theorem ordP_flip {p q : Pf} (hne : p ≠ q) (h : ¬ ordP p q < 0) : ordP q p < 0 := by
  have h1 : ordP p q ≠ 0 := fun e => hne (ordP_zero.1 e)
  rw [ordP_lt] at *
  unfold ordP at h1
  by_cases e : p.1 = q.1
  · rw [if_pos e] at h1; omega
  · omega

/- put in -/
def putL (l : List Pf) (p : Pf) : List Pf := l.take (atOf l p) ++ p :: l.drop (atOf l p)
def putGo (l : List Pf) (p : Pf) (k : Nat) : List Pf := if atOf l p < k then l.take (atOf l p) ++ p :: (l.take k).drop (atOf l p) else l.take k
theorem putGo_zero (l : List Pf) (p : Pf) : putGo l p 0 = [] := by simp [putGo]
theorem putGo_len (l : List Pf) (p : Pf) (k : Nat) : (putGo l p k).length ≤ k + 1 := by
  unfold putGo
  split
  · simp; omega
  · simp; omega
theorem putGo_done {l : List Pf} {p : Pf} {k : Nat} (h : k < l.length) (hd : atOf l p < k) : putGo l p (k + 1) = putGo l p k ++ [l[k]] := by
  unfold putGo
  rw [if_pos hd, if_pos (by omega), List.take_succ_eq_append_getElem h, List.drop_append_of_le_length (by simp; omega)]
  simp
theorem putGo_at {l : List Pf} {p : Pf} {k : Nat} (h : k < l.length) (hd : atOf l p = k) : putGo l p (k + 1) = putGo l p k ++ [p] ++ [l[k]] := by
  unfold putGo
  rw [if_pos (by omega), if_neg (by omega), hd, List.take_succ_eq_append_getElem h, List.drop_append_of_le_length (by simp; omega)]
  simp
theorem putGo_not {l : List Pf} {p : Pf} {k : Nat} (h : k < l.length) (hd : k < atOf l p) : putGo l p (k + 1) = putGo l p k ++ [l[k]] := by
  unfold putGo
  rw [if_neg (by omega), if_neg (by omega), List.take_succ_eq_append_getElem h]
theorem putGo_end {l : List Pf} {p : Pf} (hd : atOf l p < l.length) : putGo l p l.length = putL l p := by
  unfold putGo putL
  rw [if_pos hd, List.take_length]
theorem putGo_end2 {l : List Pf} {p : Pf} (hd : ¬ atOf l p < l.length) : putGo l p l.length ++ [p] = putL l p := by
  have := at_le l p
  have e : atOf l p = l.length := by omega
  unfold putGo putL
  rw [if_neg hd, e]
  simp
theorem putL_length (l : List Pf) (p : Pf) : (putL l p).length = l.length + 1 := by
  have := at_le l p
  unfold putL; simp; omega
def putFault (l : List Pf) (p : Pf) : Int := if treeFault l ≠ 0 then treeFault l else if chkP p ≠ 0 then chkP p else if p ∈ l then 6 else if l.length = 60 then 3 else 0
def putRes (l : List Pf) (p : Pf) : List Pf := if putFault l p = 0 then putL l p else []

/- dropped -/
def dropL (l : List Pf) (p : Pf) : List Pf := l.filter fun x => decide (x ≠ p)
theorem drop_notin {l : List Pf} {p : Pf} (h : p ∉ l) : dropL l p = l := by
  unfold dropL
  rw [List.filter_eq_self]
  intro x hx
  simp
  rintro rfl
  exact h hx
theorem drop_in_len {l : List Pf} {p : Pf} (h : p ∈ l) : (dropL l p).length < l.length := by
  unfold dropL
  have h1 := List.length_filter_le (fun x => decide (x ≠ p)) l
  rcases Nat.lt_or_eq_of_le h1 with h2 | h2
  · exact h2
  · have := (List.length_filter_eq_length_iff.1 h2) p h
    simp at this
theorem drop_at {p : Pf} : ∀ {l : List Pf}, Sorted l → p ∈ l → dropL l p = l.take (atOf l p) ++ l.drop (atOf l p + 1)
  | [], _, h => by simp at h
  | x :: r, hpw, h => by
    have hpw' := List.pairwise_cons.1 hpw
    by_cases e : x = p
    · subst e
      have e0 : atOf (x :: r) x = 0 := by simp [atOf, List.takeWhile, ordP_irrefl]
      have : x ∉ r := fun hx => ordP_irrefl _ (hpw'.1 x hx)
      have := drop_notin this
      unfold dropL at this ⊢
      rw [e0, List.filter_cons, if_neg (by simp), this]
      simp
    · have hr : p ∈ r := by
        rcases List.mem_cons.1 h with h | h
        · exact absurd h.symm e
        · exact h
      have hlt := hpw'.1 p hr
      have e0 : atOf (x :: r) p = atOf r p + 1 := by simp [atOf, List.takeWhile, hlt]
      have := drop_at hpw'.2 hr
      unfold dropL at this ⊢
      rw [e0, List.filter_cons, if_pos (by simp [e]), this]
      simp
def dropFault (l : List Pf) (p : Pf) : Int := if treeFault l ≠ 0 then treeFault l else if chkP p ≠ 0 then chkP p else if p ∈ l then 0 else 4
def dropRes (l : List Pf) (p : Pf) : List Pf := if dropFault l p = 0 then dropL l p else []

/- found -/
theorem last32 (a : Int) : lastP (a, 32) = a := by simp [lastP, lastA, sz_32]
theorem chk32 {a : Int} (h : isA a = true) : chkP (a, 32) = 0 := by
  unfold chkP
  rw [chk_zero]
  obtain ⟨h1, h2⟩ := isA_true.1 h
  refine ⟨by omega, by omega, h1, h2, ?_⟩
  simp [sz_32]
theorem has_iff {a : Int} {q : Pf} : inQ (a, 32) q = true ↔ q.1 ≤ a ∧ a ≤ lastP q := by rw [inQ_iff, last32]
def FindRel (l : List Pf) (a : Int) (k : Nat) (best : Int) : Prop :=
  (best = -1 ∧ ∀ j (h : j < l.length), j < k → inQ (a, 32) l[j] = false) ∨
  ∃ j, ∃ h : j < l.length, j < k ∧ best = (j : Int) ∧ inQ (a, 32) l[j] = true ∧ ∀ i (h : i < l.length), j < i → i < k → inQ (a, 32) l[i] = false
theorem FindRel.start (l : List Pf) (a : Int) : FindRel l a 0 (-1) := .inl ⟨rfl, fun j h hk => by omega⟩
theorem FindRel.no {l : List Pf} {a : Int} {k : Nat} {best : Int} (hk : k < l.length) (h : FindRel l a k best) (hn : inQ (a, 32) l[k] = false) : FindRel l a (k + 1) best := by
  rcases h with ⟨h1, h2⟩ | ⟨j, hj, hjk, h1, h2, h3⟩
  · refine .inl ⟨h1, fun j h hj => ?_⟩
    by_cases e : j = k
    · subst e; exact hn
    · exact h2 j h (by omega)
  · refine .inr ⟨j, hj, by omega, h1, h2, fun i h hi1 hi2 => ?_⟩
    by_cases e : i = k
    · subst e; exact hn
    · exact h3 i h hi1 (by omega)
theorem FindRel.yes {l : List Pf} {a : Int} {k : Nat} (hk : k < l.length) (hn : inQ (a, 32) l[k] = true) : FindRel l a (k + 1) k :=
  .inr ⟨k, hk, by omega, rfl, hn, fun i h hi1 hi2 => by omega⟩
theorem find_longer {l : List Pf} {a : Int} (hv : ∀ p ∈ l, chkP p = 0) (hpw : Sorted l) (ha : isA a = true) {j k : Nat} (hk : k < l.length) (hj : j < k) (h1 : inQ (a, 32) l[j] = true) (h2 : inQ (a, 32) l[k] = true) : l[j].2 < l[k].2 :=
  (chain (chk32 ha) (hv _ (List.getElem_mem _)) (hv _ (List.getElem_mem _)) h1 h2 (List.pairwise_iff_getElem.1 hpw j k (by omega) hk hj)).2
theorem find_none {l : List Pf} {a : Int} (h : FindRel l a l.length (-1)) : l.filter (inQ (a, 32)) = [] := by
  rcases h with ⟨_, h2⟩ | ⟨j, hj, hjk, h1, h2, h3⟩
  · rw [List.filter_eq_nil_iff]
    intro x hx
    obtain ⟨j, hj, rfl⟩ := List.mem_iff_getElem.1 hx
    simp [h2 j hj hj]
  · omega
theorem find_last {l : List Pf} {a : Int} {j : Nat} (hj : j < l.length) (h : FindRel l a l.length j) : (l.filter (inQ (a, 32))).getLast? = some l[j] := by
  rcases h with ⟨h1, _⟩ | ⟨i, hi, _, h1, h2, h3⟩
  · omega
  · obtain rfl : j = i := by omega
    have e : l = l.take j ++ l[j] :: l.drop (j + 1) := by rw [← List.drop_eq_getElem_cons hj, List.take_append_drop]
    have e2 : (l.drop (j + 1)).filter (inQ (a, 32)) = [] := by
      rw [List.filter_eq_nil_iff]
      intro x hx
      obtain ⟨i, hi, rfl⟩ := List.mem_iff_getElem.1 hx
      simp only [List.length_drop] at hi
      rw [List.getElem_drop]
      simp [h3 (j + 1 + i) (by omega) (by omega) (by omega)]
    have : l.filter (inQ (a, 32)) = (l.take j).filter (inQ (a, 32)) ++ [l[j]] := by
      conv => lhs; rw [e]
      rw [List.filter_append, List.filter_cons, if_pos h2, e2]
    rw [this]
    simp
def foundL (l : List Pf) (a : Int) : Option Pf := (l.filter (inQ (a, 32))).getLast?
def findFault (l : List Pf) (a : Int) : Int := if treeFault l ≠ 0 then treeFault l else if isA a = false then 1 else if l.filter (inQ (a, 32)) = [] then 4 else 0
def findRes (l : List Pf) (a : Int) : Pf := if findFault l a = 0 then ((l.filter (inQ (a, 32))).getLast?).getD (0, 0) else (0, 0)

/- above -/
theorem filter_lt_eq {f : Pf → Int} {N : Int} : ∀ {L : List Pf}, L.Pairwise (fun x y => f x < f y) → L.filter (fun x => decide (f x < N)) ++ L.filter (fun x => decide (f x = N)) = L.filter (fun x => decide (f x < N + 1))
  | [], _ => rfl
  | x :: r, h => by
    have h' := List.pairwise_cons.1 h
    have ih := filter_lt_eq (N := N) h'.2
    by_cases h1 : f x < N
    · rw [List.filter_cons, if_pos (by simpa using h1), List.filter_cons, if_neg (by simp; omega), List.filter_cons, if_pos (by simp; omega), ← ih]
      rfl
    · have n1 : r.filter (fun x => decide (f x < N)) = [] := by
        rw [List.filter_eq_nil_iff]; intro y hy; have := h'.1 y hy; simp; omega
      have n2 : r.filter (fun x => decide (f x = N)) = [] := by
        rw [List.filter_eq_nil_iff]; intro y hy; have := h'.1 y hy; simp; omega
      rw [n1, n2] at ih
      rw [List.filter_cons, if_neg (by simpa using h1), n1, List.filter_cons, List.filter_cons, n2, ← ih]
      by_cases h2 : f x = N
      · rw [if_pos (by simpa using h2), if_pos (by simp; omega)]; rfl
      · rw [if_neg (by simpa using h2), if_neg (by simp; omega)]
def aboveGo (l : List Pf) (p : Pf) (n : Nat) : List Pf := (List.range n).flatMap fun m : Nat => l.filter fun x => inQ p x && decide (x.2 = (m : Int))
theorem aboveGo_succ (l : List Pf) (p : Pf) (n : Nat) : aboveGo l p (n + 1) = aboveGo l p n ++ l.filter fun x => inQ p x && decide (x.2 = (n : Int)) := by
  unfold aboveGo; rw [List.range_succ, List.flatMap_append]; simp
theorem above_eq {l : List Pf} {p : Pf} (hv : ∀ p ∈ l, chkP p = 0) (hpw : Sorted l) (hp : chkP p = 0) : aboveGo l p p.2.toNat = l.filter (aboveOf p) := by
  have hL : (l.filter (inQ p)).Pairwise (fun x y => x.2 < y.2) := by
    have h1 := hpw.filter (inQ p)
    refine h1.imp_of_mem fun {x y} hx hy hlt => ?_
    have hx' := List.mem_filter.1 hx
    have hy' := List.mem_filter.1 hy
    exact (chain hp (hv _ hx'.1) (hv _ hy'.1) hx'.2 hy'.2 hlt).2
  have key : ∀ n : Nat, aboveGo l p n = (l.filter (inQ p)).filter fun x => decide (x.2 < (n : Int)) := by
    intro n
    induction n with
    | zero =>
      symm
      simp only [aboveGo, List.range_zero, List.flatMap_nil]
      rw [List.filter_eq_nil_iff]
      intro x hx
      have := chk_zero.1 (hv _ (List.mem_filter.1 hx).1)
      simp; omega
    | succ n ih =>
      rw [aboveGo_succ, ih]
      have := filter_lt_eq (f := fun x => x.2) (N := n) hL
      rw [show ((n + 1 : Nat) : Int) = (n : Int) + 1 by omega, ← this]
      congr 1
      rw [List.filter_filter]
      congr 1
      funext x
      exact Bool.and_comm _ _
  rw [key, List.filter_filter]
  refine List.filter_congr fun x hx => ?_
  have hx0 := chk_zero.1 (hv x hx)
  have hp0 := chk_zero.1 hp
  rw [show ((p.2.toNat : Nat) : Int) = p.2 by omega, Bool.eq_iff_iff]
  simp only [aboveOf, Bool.and_eq_true, decide_eq_true_eq]
  constructor
  · rintro ⟨h1, h2⟩
    refine ⟨?_, h2⟩
    rintro rfl
    omega
  · rintro ⟨h1, h2⟩
    refine ⟨?_, h2⟩
    have := in_len hp (hv x hx) h2
    by_cases e : x.2 = p.2
    · exact absurd (this.2 e).symm h1
    · omega

/- below -/
def hidBy (L : List Pf) (d : Pf) : Bool := L.any fun c => decide (c ≠ d) && inQ d c
theorem hidBy_false {L : List Pf} {d : Pf} : hidBy L d = false ↔ ∀ c ∈ L, c ≠ d → inQ d c = false := by
  unfold hidBy; rw [List.any_eq_false]
  constructor
  · intro h c hc hne
    have := h c hc
    simpa [hne] using this
  · intro h c hc
    by_cases e : c = d
    · simp [e]
    · simp [e, h c hc e]
theorem topsGo_filter : ∀ (l seen : List Pf) (q : Option Pf), (∀ p ∈ l, chkP p = 0) → (∀ p ∈ seen, chkP p = 0) → l.Pairwise (fun p q => ordP p q < 0) →
    (q = none → seen = []) → (∀ t, q = some t → t ∈ seen ∧ (∀ c ∈ seen, inQ c t = true ∨ lastP c < t.1) ∧ ∀ p ∈ l, ordP t p < 0) →
    topsGo q l = l.filter fun d => !hidBy (seen ++ l) d
  | [], seen, q, _, _, _, _, _ => by cases q <;> rfl
  | p :: r, seen, q, hl, hs, hpw, hn, hq => by
    have N := topsGo_none (p :: r) seen q hl hs hpw hn hq
    have hpw' := List.pairwise_cons.1 hpw
    have hp := hl p (by simp)
    have hr : ∀ x ∈ r, chkP x = 0 := fun x hx => hl x (by simp [hx])
    have hsp : ∀ x ∈ seen ++ [p], chkP x = 0 := fun x hx => by
      rcases List.mem_append.1 hx with hx | hx
      · exact hs x hx
      · simp at hx; subst hx; exact hp
    have ea : seen ++ p :: r = (seen ++ [p]) ++ r := by simp
    have keep : (∀ x ∈ seen, lastP x < p.1) → topsGo q (p :: r) = p :: topsGo (some p) r → topsGo q (p :: r) = (p :: r).filter fun d => !hidBy (seen ++ p :: r) d := fun hlt e => by
      have h1 : hidBy (seen ++ p :: r) p = false := hidBy_false.2 fun c hc hne => N p (by rw [e]; simp) c (List.mem_append.1 hc) hne
      rw [List.filter_cons, if_pos (by simp [h1]), e, ea]
      congr 1
      refine topsGo_filter r (seen ++ [p]) (some p) hr hsp hpw'.2 (by simp) fun t ht => ?_
      cases ht
      refine ⟨by simp, fun x hx => ?_, hpw'.1⟩
      rcases List.mem_append.1 hx with hx | hx
      · exact .inr (hlt x hx)
      · simp at hx; subst hx; exact .inl (in_refl _)
    cases q with
    | none =>
      have := hn rfl
      subst this
      exact keep (by simp) rfl
    | some t =>
      obtain ⟨t1, t2, t3⟩ := hq t rfl
      have htp := t3 p (by simp)
      by_cases hin : inQ p t = true
      · have e : topsGo (some t) (p :: r) = topsGo (some t) r := by simp [topsGo, hin]
        have h1 : hidBy (seen ++ p :: r) p = true := by
          have : ¬ hidBy (seen ++ p :: r) p = false := fun h => by
            have := hidBy_false.1 h t (by simp [t1]) (fun e => by subst e; exact ordP_irrefl _ htp)
            rw [hin] at this; cases this
          simpa using this
        rw [List.filter_cons, if_neg (by simp [h1]), e, ea]
        refine topsGo_filter r (seen ++ [p]) (some t) hr hsp hpw'.2 (by simp) fun t' ht' => ?_
        cases ht'
        refine ⟨by simp [t1], fun x hx => ?_, fun x hx => t3 x (by simp [hx])⟩
        rcases List.mem_append.1 hx with hx | hx
        · exact t2 x hx
        · simp at hx; subst hx; exact .inl hin
      · refine keep (fun x hx => ?_) (by simp [topsGo, hin])
        have hlt : lastP t < p.1 := (ord_cases (hs t t1) hp htp).resolve_left hin
        rcases t2 x hx with h | h
        · rw [inQ_iff] at h; omega
        · have := last_geP t; omega
theorem tops_eq {l : List Pf} (hl : ∀ p ∈ l, chkP p = 0) (hpw : Sorted l) : tops l = l.filter fun d => !hidBy l d := by
  have := topsGo_filter l [] none hl (by simp) hpw (by simp) (by simp)
  simpa [tops] using this
/-- What the reference keeps. -/
def hidIn (l : List Pf) (p : Pf) (all : Bool) (x : Pf) : Bool := l.any fun c => (decide (c ≠ x) && inQ x c) && (all || belowOf p c)
def belowRef (l : List Pf) (p : Pf) (all : Bool) : List Pf := l.filter fun x => (all || belowOf p x) && !hidIn l p all x
theorem belowRef_all {l : List Pf} (p : Pf) (hl : ∀ p ∈ l, chkP p = 0) (hpw : Sorted l) : belowRef l p true = tops l := by
  rw [tops_eq hl hpw]
  simp [belowRef, hidIn, hidBy]
theorem belowRef_some {l : List Pf} (p : Pf) (hl : ∀ p ∈ l, chkP p = 0) (hpw : Sorted l) : belowRef l p false = tops (l.filter (belowOf p)) := by
  rw [tops_eq (fun q hq => hl q (List.mem_filter.1 hq).1) (hpw.filter _), List.filter_filter]
  refine List.filter_congr fun x _ => ?_
  have : hidBy (l.filter (belowOf p)) x = hidIn l p false x := by
    rw [Bool.eq_iff_iff]
    simp only [hidBy, hidIn, List.any_eq_true, List.mem_filter, Bool.and_eq_true, Bool.false_or]
    constructor
    · rintro ⟨c, ⟨h1, h2⟩, h3⟩; exact ⟨c, h1, h3, h2⟩
    · rintro ⟨c, h1, h3, h2⟩; exact ⟨c, ⟨h1, h2⟩, h3⟩
  rw [this]
  simp [Bool.and_comm]
end Go.Proofs.YtmfaknngophmhaaDoor
