/- Plain laws of trees: one put in is a tree; found again; each is a root, or below just one. No program. -/
import Derived.Test.YtcgeagobndhpjaaDoorTreeIsMath
namespace Go.Proofs.YtcgeagobndhpjaaDoor
set_option linter.unusedVariables false
set_option linter.unusedSimpArgs false

theorem last_split {α : Type} {L : List α} {q : α} (h : L.getLast? = some q) : ∃ r, L = r ++ [q] := List.getLast?_eq_some_iff.1 h
theorem treeGo_of : ∀ (l : List Pf) (prev : Option Pf), (∀ p ∈ l, chkP p = 0) → Sorted l → (∀ q, prev = some q → ∀ p ∈ l, ordP q p < 0) → treeGo prev l = 0
  | [], prev, _, _, _ => by cases prev <;> rfl
  | p :: r, prev, hv, hs, hq => by
    have hs' := List.pairwise_cons.1 hs
    have hb : badOrd prev p = false := by
      cases prev with
      | none => rfl
      | some q =>
        have := hq q rfl p (by simp)
        simp [badOrd]; omega
    unfold treeGo
    rw [if_neg (by simp [hv p (by simp)]), if_neg (by simp [hb])]
    exact treeGo_of r (some p) (fun x hx => hv x (by simp [hx])) hs'.2 (fun q hq x hx => by cases hq; exact hs'.1 x hx)
theorem tree_of {l : List Pf} (hl : l.length ≤ 60) (hv : ∀ p ∈ l, chkP p = 0) (hs : Sorted l) : treeFault l = 0 := by
  unfold treeFault
  rw [if_neg (by omega)]
  exact treeGo_of l none hv hs (by simp)

theorem putFault_zero {l : List Pf} {p : Pf} (h : putFault l p = 0) : treeFault l = 0 ∧ chkP p = 0 ∧ p ∉ l ∧ l.length < 60 := by
  unfold putFault at h
  by_cases h1 : treeFault l = 0
  · rw [if_neg (by simp [h1])] at h
    by_cases h2 : chkP p = 0
    · rw [if_neg (by simp [h2])] at h
      by_cases h3 : p ∈ l
      · rw [if_pos h3] at h; cases h
      · rw [if_neg h3] at h
        by_cases h4 : l.length = 60
        · rw [if_pos h4] at h; cases h
        · have := (tree_good h1).1
          exact ⟨h1, h2, h3, by omega⟩
    · rw [if_pos h2] at h; exact absurd h h2
  · rw [if_pos h1] at h; exact absurd h h1
theorem putL_mem {l : List Pf} {p x : Pf} : x ∈ putL l p ↔ x = p ∨ x ∈ l := by
  unfold putL
  rw [List.mem_append, List.mem_cons]
  constructor
  · rintro (h | h | h)
    · exact .inr (List.mem_of_mem_take h)
    · exact .inl h
    · exact .inr (List.mem_of_mem_drop h)
  · rintro (h | h)
    · exact .inr (.inl h)
    · rw [← List.take_append_drop (atOf l p) l, List.mem_append] at h
      rcases h with h | h
      · exact .inl h
      · exact .inr (.inr h)
theorem put_sorted {l : List Pf} {p : Pf} (hs : Sorted l) (hn : p ∉ l) : Sorted (putL l p) := by
  have g1 : ∀ x ∈ l.take (atOf l p), ordP x p < 0 := fun x hx => by
    obtain ⟨k, hk, rfl⟩ := List.mem_iff_getElem.1 hx
    simp only [List.length_take] at hk
    rw [List.getElem_take]
    exact (at_iff hs (by omega)).1 (by omega)
  have g2 : ∀ x ∈ l.drop (atOf l p), ordP p x < 0 := fun x hx => by
    have hm := List.mem_of_mem_drop hx
    obtain ⟨k, hk, rfl⟩ := List.mem_iff_getElem.1 hx
    simp only [List.length_drop] at hk
    rw [List.getElem_drop] at hm ⊢
    refine ordP_flip (fun e => hn (e ▸ hm)) fun h => ?_
    have := (at_iff hs (by omega)).2 h
    omega
  have g3 := hs
  rw [← List.take_append_drop (atOf l p) l] at g3
  obtain ⟨a1, a2, a3⟩ := List.pairwise_append.1 g3
  unfold putL
  refine List.pairwise_append.2 ⟨a1, List.pairwise_cons.2 ⟨g2, a2⟩, fun x hx y hy => ?_⟩
  rcases List.mem_cons.1 hy with rfl | hy
  · exact g1 x hx
  · exact a3 x hx y hy
theorem put_tree {l : List Pf} {p : Pf} (h : putFault l p = 0) : treeFault (putL l p) = 0 := by
  obtain ⟨h1, h2, h3, h4⟩ := putFault_zero h
  obtain ⟨g1, g2, g3⟩ := tree_good h1
  refine tree_of (by rw [putL_length]; omega) (fun x hx => ?_) (put_sorted g3 h3)
  rcases putL_mem.1 hx with rfl | hx
  · exact h2
  · exact g2 x hx
theorem put_twice {l : List Pf} {p : Pf} (h : putFault l p = 0) : putFault (putL l p) p = 6 := by
  obtain ⟨h1, h2, h3, h4⟩ := putFault_zero h
  unfold putFault
  rw [if_neg (by simp [put_tree h]), if_neg (by simp [h2]), if_pos (putL_mem.2 (.inl rfl))]
theorem put_drop {l : List Pf} {p : Pf} (h : putFault l p = 0) : dropFault (putL l p) p = 0 ∧ dropL (putL l p) p = l := by
  obtain ⟨h1, h2, h3, h4⟩ := putFault_zero h
  constructor
  · unfold dropFault
    rw [if_neg (by simp [put_tree h]), if_neg (by simp [h2]), if_pos (putL_mem.2 (.inl rfl))]
  · have e : l.filter (fun x => decide (x ≠ p)) = l := drop_notin h3
    have e2 : (l.take (atOf l p)).filter (fun x => decide (x ≠ p)) ++ (l.drop (atOf l p)).filter (fun x => decide (x ≠ p)) = l := by
      rw [← List.filter_append, List.take_append_drop, e]
    unfold dropL putL
    rw [List.filter_append, List.filter_cons, if_neg (by simp), e2]

/- found -/
theorem findFault_zero {l : List Pf} {a : Int} (h : findFault l a = 0) : treeFault l = 0 ∧ isA a = true ∧ l.filter (inQ (a, 32)) ≠ [] := by
  unfold findFault at h
  by_cases h1 : treeFault l = 0
  · rw [if_neg (by simp [h1])] at h
    by_cases h2 : isA a = false
    · rw [if_pos h2] at h; cases h
    · rw [if_neg h2] at h
      by_cases h3 : l.filter (inQ (a, 32)) = []
      · rw [if_pos h3] at h; cases h
      · exact ⟨h1, by simpa using h2, h3⟩
  · rw [if_pos h1] at h; exact absurd h h1
theorem findFault_of {l : List Pf} {a : Int} (h1 : treeFault l = 0) (h2 : isA a = true) (h3 : l.filter (inQ (a, 32)) ≠ []) : findFault l a = 0 := by
  unfold findFault
  rw [if_neg (by simp [h1]), if_neg (by simp [h2]), if_neg h3]
theorem found_last {l : List Pf} {a : Int} (h : findFault l a = 0) : (l.filter (inQ (a, 32))).getLast? = some (findRes l a) := by
  have h3 := (findFault_zero h).2.2
  unfold findRes
  rw [if_pos h]
  cases e : (l.filter (inQ (a, 32))).getLast? with
  | none => exact absurd (List.getLast?_eq_none_iff.1 e) h3
  | some q => rfl
/-- Of an ascending list the last is the longest. -/
theorem last_long {a : Int} {l : List Pf} (hv : ∀ p ∈ l, chkP p = 0) (hs : Sorted l) (ha : isA a = true) {q x : Pf} (hq : (l.filter (inQ (a, 32))).getLast? = some q) (hx : x ∈ l) (hin : inQ (a, 32) x = true) : x.2 ≤ q.2 := by
  obtain ⟨L, e⟩ : ∃ L, l.filter (inQ (a, 32)) = L ++ [q] := last_split hq
  have hm : x ∈ l.filter (inQ (a, 32)) := List.mem_filter.2 ⟨hx, hin⟩
  have hpw : Sorted (l.filter (inQ (a, 32))) := hs.filter _
  have hqm : q ∈ l.filter (inQ (a, 32)) := by rw [e]; simp
  rw [e] at hm hpw
  rcases List.mem_append.1 hm with h | h
  · have := (List.pairwise_append.1 hpw).2.2 x h q (by simp)
    have hq' := List.mem_filter.1 hqm
    exact Int.le_of_lt (chain (chk32 ha) (hv x hx) (hv q hq'.1) hin hq'.2 this).2
  · simp at h; subst h; exact Int.le_refl _
theorem isA_of_chk {p : Pf} (h : chkP p = 0) : isA p.1 = true := by
  obtain ⟨_, _, h3, h4, _⟩ := chk_zero.1 h
  exact isA_true.2 ⟨h3, h4⟩
theorem put_found {l : List Pf} {p : Pf} (h : putFault l p = 0) : findFault (putL l p) p.1 = 0 ∧ p.2 ≤ (findRes (putL l p) p.1).2 := by
  obtain ⟨h1, h2, h3, h4⟩ := putFault_zero h
  have hin : inQ (p.1, 32) p = true := by rw [has_iff]; exact ⟨Int.le_refl _, last_geP p⟩
  have hm : p ∈ putL l p := putL_mem.2 (.inl rfl)
  have hne : (putL l p).filter (inQ (p.1, 32)) ≠ [] := fun e => by
    have : p ∈ (putL l p).filter (inQ (p.1, 32)) := List.mem_filter.2 ⟨hm, hin⟩
    rw [e] at this; simp at this
  have hf := findFault_of (put_tree h) (isA_of_chk h2) hne
  obtain ⟨g1, g2, g3⟩ := tree_good (put_tree h)
  exact ⟨hf, last_long g2 g3 (isA_of_chk h2) (found_last hf) hm hin⟩
theorem last_filter {α : Type} {L : List α} {f : α → Bool} {q : α} (h : L.getLast? = some q) (hf : f q = true) : (L.filter f).getLast? = some q := by
  obtain ⟨L0, e⟩ := last_split h
  rw [e, List.filter_append]
  simp [List.filter, hf]
theorem found_up {l : List Pf} {a : Int} (h : findFault l a = 0) (hlt : (findRes l a).2 < 32) : (l.filter (aboveOf (a, 32))).getLast? = some (findRes l a) := by
  have e : l.filter (aboveOf (a, 32)) = (l.filter (inQ (a, 32))).filter fun x => decide (x ≠ (a, 32)) := by
    rw [List.filter_filter]; rfl
  rw [e]
  refine last_filter (found_last h) ?_
  simp only [decide_eq_true_eq]
  intro hq
  rw [hq] at hlt
  simp at hlt
theorem found_up2 {l : List Pf} {a : Int} (h : findFault l a = 0) (hlt : (findRes l a).2 < 32) : ∃ hn : (l.filter (aboveOf (a, 32))).length - 1 < (l.filter (aboveOf (a, 32))).length, (l.filter (aboveOf (a, 32)))[(l.filter (aboveOf (a, 32))).length - 1] = findRes l a := by
  have h1 := found_up h hlt
  have hne : l.filter (aboveOf (a, 32)) ≠ [] := fun e => by rw [e] at h1; cases h1
  have hpos := List.length_pos_iff.2 hne
  refine ⟨by omega, ?_⟩
  rw [List.getLast?_eq_getElem?, List.getElem?_eq_getElem (by omega)] at h1
  exact Option.some.inj h1

/- each is a root, or below just one -/
def parOf (l : List Pf) (d : Pf) : Option Pf := (l.filter (aboveOf d)).getLast?
theorem root_iff {l : List Pf} (hv : ∀ p ∈ l, chkP p = 0) (hs : Sorted l) {d : Pf} : hidBy l d = false ↔ parOf l d = none := by
  rw [hidBy_false]
  unfold parOf
  rw [List.getLast?_eq_none_iff, List.filter_eq_nil_iff]
  constructor
  · intro h x hx
    simp only [aboveOf, Bool.and_eq_true, decide_eq_true_eq, not_and]
    intro hne
    simp [h x hx hne]
  · intro h x hx hne
    have := h x hx
    simp only [aboveOf, Bool.and_eq_true, decide_eq_true_eq, not_and] at this
    simpa using this hne
theorem in_anti {p q : Pf} (hp : chkP p = 0) (hq : chkP q = 0) (h1 : inQ p q = true) (h2 : inQ q p = true) : p = q := by
  have a1 := in_len hp hq h1
  have a2 := in_len hq hp h2
  exact a1.2 (by omega)
theorem kid_iff {l : List Pf} (hv : ∀ p ∈ l, chkP p = 0) (hs : Sorted l) {c d : Pf} (hc : c ∈ l) (hd : d ∈ l) : (belowOf c d && !hidIn l c false d) = true ↔ parOf l d = some c := by
  have hvc := hv c hc
  have hvd := hv d hd
  rw [Bool.and_eq_true, Bool.not_eq_true']
  constructor
  · rintro ⟨h1, h2⟩
    simp only [belowOf, Bool.and_eq_true, decide_eq_true_eq] at h1
    have hcm : c ∈ l.filter (aboveOf d) := List.mem_filter.2 ⟨hc, by simp [aboveOf, h1.2, Ne.symm h1.1]⟩
    unfold parOf
    cases e : (l.filter (aboveOf d)).getLast? with
    | none => rw [List.getLast?_eq_none_iff.1 e] at hcm; simp at hcm
    | some q =>
      obtain ⟨L0, e2⟩ := last_split e
      have hqm : q ∈ l.filter (aboveOf d) := by rw [e2]; simp
      have hpw : Sorted (l.filter (aboveOf d)) := hs.filter _
      have hq' := List.mem_filter.1 hqm
      have hqa := hq'.2
      simp only [aboveOf, Bool.and_eq_true, decide_eq_true_eq] at hqa
      rw [e2] at hcm hpw
      rcases List.mem_append.1 hcm with h | h
      · exfalso
        have hlt := (List.pairwise_append.1 hpw).2.2 c h q (by simp)
        have hch := chain hvd hvc (hv q hq'.1) h1.2 hqa.2 hlt
        have hne : q ≠ c := fun e => by subst e; exact ordP_irrefl _ hlt
        have : hidIn l c false d = true := by
          unfold hidIn
          rw [List.any_eq_true]
          exact ⟨q, hq'.1, by simp [hqa.1, hqa.2, belowOf, hne, hch.1]⟩
        rw [this] at h2; cases h2
      · simp at h; rw [h]
  · intro h
    unfold parOf at h
    obtain ⟨L0, e2⟩ := last_split h
    have hcm : c ∈ l.filter (aboveOf d) := by rw [e2]; simp
    have hca := (List.mem_filter.1 hcm).2
    simp only [aboveOf, Bool.and_eq_true, decide_eq_true_eq] at hca
    refine ⟨by simp [belowOf, hca.2, Ne.symm hca.1], ?_⟩
    have : ¬ hidIn l c false d = true := fun hh => by
      unfold hidIn at hh
      rw [List.any_eq_true] at hh
      obtain ⟨x, hx, hh⟩ := hh
      simp only [Bool.false_or, Bool.and_eq_true, decide_eq_true_eq, belowOf] at hh
      obtain ⟨⟨x1, x2⟩, x3, x4⟩ := hh
      have hxm : x ∈ l.filter (aboveOf d) := List.mem_filter.2 ⟨hx, by simp [aboveOf, x1, x2]⟩
      have hpw : Sorted (l.filter (aboveOf d)) := hs.filter _
      rw [e2] at hxm hpw
      rcases List.mem_append.1 hxm with h | h
      · have hlt := (List.pairwise_append.1 hpw).2.2 x h c (by simp)
        have hch := chain hvd (hv x hx) hvc x2 hca.2 hlt
        exact x3 (in_anti (hv x hx) hvc x4 hch.1)
      · simp at h; exact x3 h
    simpa using this
/-- Those that are roots, or below one of the first k. -/
def cntK (l : List Pf) (k : Nat) : Nat := (l.filter fun d => match parOf l d with | none => true | some c => decide (c ∈ l.take k)).length
theorem cnt_zero {l : List Pf} (hv : ∀ p ∈ l, chkP p = 0) (hs : Sorted l) : cntK l 0 = (tops l).length := by
  rw [tops_eq hv hs]
  unfold cntK
  congr 1
  refine List.filter_congr fun d hd => ?_
  have := root_iff hv hs (d := d)
  cases e : parOf l d with
  | none => simp [this.2 e]
  | some c =>
    have h2 : ¬ hidBy l d = false := fun h => by rw [this.1 h] at e; cases e
    simp at h2
    simp [h2]
theorem filter_or_len {α : Type} (f g h : α → Bool) : ∀ (L : List α), (∀ x ∈ L, h x = (f x || g x)) → (∀ x ∈ L, ¬ (f x = true ∧ g x = true)) → (L.filter h).length = (L.filter f).length + (L.filter g).length
  | [], _, _ => rfl
  | x :: r, h1, h2 => by
    have ih := filter_or_len f g h r (fun y hy => h1 y (by simp [hy])) (fun y hy => h2 y (by simp [hy]))
    have a := h1 x (by simp)
    have b := h2 x (by simp)
    by_cases hf : f x = true
    · by_cases hg : g x = true
      · exact absurd ⟨hf, hg⟩ b
      · simp [List.filter, a, hf, hg, ih]; omega
    · by_cases hg : g x = true
      · simp [List.filter, a, hf, hg, ih]; omega
      · simp [List.filter, a, hf, hg, ih]
theorem cnt_succ {l : List Pf} (hv : ∀ p ∈ l, chkP p = 0) (hs : Sorted l) {k : Nat} (hk : k < l.length) : cntK l (k + 1) = cntK l k + (tops (l.filter (belowOf l[k]))).length := by
  rw [← belowRef_some l[k] hv hs]
  unfold cntK belowRef
  simp only [Bool.false_or]
  refine filter_or_len _ _ _ l (fun d hd => ?_) (fun d hd h => ?_)
  · have hkid := kid_iff hv hs (List.getElem_mem hk) hd
    cases e : parOf l d with
    | none => simp
    | some c =>
      rw [e] at hkid
      simp only [Option.some.injEq] at hkid
      rw [Bool.eq_iff_iff, Bool.or_eq_true, hkid, decide_eq_true_eq, decide_eq_true_eq, List.take_succ_eq_append_getElem hk, List.mem_append, List.mem_singleton]
  · have hkid := kid_iff hv hs (List.getElem_mem hk) hd
    have hp := hkid.1 h.2
    have h1 := h.1
    rw [hp] at h1
    simp only [decide_eq_true_eq] at h1
    obtain ⟨j, hj, e⟩ := List.mem_iff_getElem.1 h1
    simp only [List.length_take] at hj
    rw [List.getElem_take] at e
    have := List.pairwise_iff_getElem.1 hs j k (by omega) hk (by omega)
    rw [e] at this
    exact ordP_irrefl _ this
theorem cnt_all {l : List Pf} : cntK l l.length = l.length := by
  unfold cntK
  rw [List.filter_eq_self.2]
  intro d hd
  cases e : parOf l d with
  | none => rfl
  | some c =>
    obtain ⟨L0, e2⟩ := last_split (show (l.filter (aboveOf d)).getLast? = some c from e)
    have : c ∈ l.filter (aboveOf d) := by rw [e2]; simp
    simp [(List.mem_filter.1 this).1]
theorem cnt_le (l : List Pf) (k : Nat) : cntK l k ≤ l.length := List.length_filter_le _ _
end Go.Proofs.YtcgeagobndhpjaaDoor
