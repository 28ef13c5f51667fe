/- The law SpanLaws: the walk of its own text, by the contracts of package span. Any two lists, any number. -/
import Derived.Test.YtghbihjelmocaaaSpanOrder
import Derived.Test.YtghbihjelmocaaaSets
namespace Go.Proofs.Ytghbihjelmocaaa
set_option linter.unusedVariables false
open Go.RowKit

theorem SetRes.cases {w w' : World} {f : Int} {R : List Sp} {e : Ending} (h : SetRes w f R e w') : ∃ v er, e = .returned (.tuple #[v, er]) ∧ Below w.heap.size w w' ∧
    ((f = 0 ∧ er = .nilIface ∧ OwnP w' w.heap.size 35 v R) ∨ (f ≠ 0 ∧ er = .iface 22 (.int .i64 f) ∧ v = .slice none 0 0)) := by
  obtain ⟨h1, h2, h3⟩ := h
  by_cases hf : f = 0
  · obtain ⟨v, e1, e2⟩ := h2 hf
    exact ⟨v, _, e1, h1, .inl ⟨hf, rfl, e2⟩⟩
  · exact ⟨_, _, h3 hf, h1, .inr ⟨hf, rfl, rfl⟩⟩
theorem SetRes.ok {w w' : World} {f : Int} {R R' : List Sp} {e : Ending} (h : SetRes w f R e w') (hf : f = 0) (hR : R = R') : ∃ v, e = .returned (.tuple #[v, .nilIface]) ∧ OwnP w' w.heap.size 35 v R' ∧ Below w.heap.size w w' := by
  obtain ⟨v, h1, h2⟩ := h.2.1 hf
  exact ⟨v, h1, hR ▸ h2, h.1⟩

/- the plain law -/
section
variable {a b : List Sp} (ha : setFault a = 0) (hb : setFault b = 0)
theorem set_can {a : List Sp} (ha : setFault a = 0) : CanF (-1) a := (set_good ha).2.2
theorem set_val {a : List Sp} (ha : setFault a = 0) : Valid a := (set_good ha).2.1
theorem union_mem {a b : List Sp} (ha : setFault a = 0) (hb : setFault b = 0) (t : Int) : memS (norm (a ++ b)) t = (memS a t || memS b t) := by
  rw [(norm_good (valid_append (set_val ha) (set_val hb))).2, memS_append]
theorem meet_mem {a b : List Sp} (ha : setFault a = 0) (hb : setFault b = 0) (t : Int) : memS (common a b) t = (memS a t && memS b t) := common_mem a b _ _ (set_can ha) (set_can hb) t
theorem others_ok {b : List Sp} (hb : setFault b = 0) (t : Int) : CanF (-1) (others b) ∧ memS (others b) t = (decide (0 ≤ t) && decide (t ≤ maxA) && !memS b t) :=
  ⟨othersGo_can b 0 (set_can hb), othersGo_mem b 0 (set_can hb) (fun s h => (set_val hb s h).2.2) t⟩
theorem minus_mem {a b : List Sp} (ha : setFault a = 0) (hb : setFault b = 0) (t : Int) : memS (common a (others b)) t = (memS a t && !memS b t) := by
  rw [common_mem a _ _ _ (set_can ha) (others_ok hb t).1, (others_ok hb t).2]
  cases e : memS a t
  · rfl
  · obtain ⟨h0, h1⟩ := valid_mem (set_val ha) e
    simp [h0, h1]
theorem sub_set {a R : List Sp} (ha : setFault a = 0) (hc : CanF (-1) R) (hl : R.length ≤ 64) (hm : ∀ t, memS R t = true → memS a t = true) : setFault R = 0 :=
  set_of hl (can_valid hc fun t h => (valid_mem (set_val ha) (hm t h)).2) hc
theorem meet_can {a b : List Sp} (ha : setFault a = 0) (hb : CanF (-1) b) : CanF (-1) (common a b) := by
  have := common_can a b _ _ (set_can ha) hb
  simpa using this
theorem meet_set {a b : List Sp} (ha : setFault a = 0) (hb : setFault b = 0) (hl : (common a b).length ≤ 64) : setFault (common a b) = 0 :=
  sub_set ha (meet_can ha (set_can hb)) hl fun t h => by rw [meet_mem ha hb] at h; exact (Bool.and_eq_true_iff.1 h).1
theorem minus_set {a b : List Sp} (ha : setFault a = 0) (hb : setFault b = 0) (hl : (common a (others b)).length ≤ 64) : setFault (common a (others b)) = 0 :=
  sub_set ha (meet_can ha (others_ok hb 0).1) hl fun t h => by rw [minus_mem ha hb] at h; exact (Bool.and_eq_true_iff.1 h).1
theorem union_set {a b : List Sp} (ha : setFault a = 0) (hb : setFault b = 0) (hl : (norm (a ++ b)).length ≤ 64) : setFault (norm (a ++ b)) = 0 :=
  have hv := valid_append (set_val ha) (set_val hb)
  set_of hl (norm_valid hv) (norm_good hv).1
theorem union_comm {a b : List Sp} (ha : setFault a = 0) (hb : setFault b = 0) : norm (b ++ a) = norm (a ++ b) :=
  norm_eq (valid_append (set_val hb) (set_val ha)) (norm_good (valid_append (set_val ha) (set_val hb))).1 fun t => by
    rw [union_mem ha hb, memS_append, Bool.or_comm]
theorem meet_comm {a b : List Sp} (ha : setFault a = 0) (hb : setFault b = 0) : common b a = common a b :=
  canon_unique (meet_can hb (set_can ha)) (meet_can ha (set_can hb)) fun t => by rw [meet_mem hb ha, meet_mem ha hb, Bool.and_comm]
theorem parts_all {a b : List Sp} (ha : setFault a = 0) (hb : setFault b = 0) (hm : (common a b).length ≤ 64) (hd : (common a (others b)).length ≤ 64) : norm (common a b ++ common a (others b)) = a :=
  norm_eq (valid_append (set_val (meet_set ha hb hm)) (set_val (minus_set ha hb hd))) (set_can ha) fun t => by
    rw [memS_append, meet_mem ha hb, minus_mem ha hb]
    cases memS a t <;> cases memS b t <;> rfl
theorem counts {a b : List Sp} (ha : setFault a = 0) (hb : setFault b = 0) (hu : (norm (a ++ b)).length ≤ 64) (hm : (common a b).length ≤ 64) : cntS (norm (a ++ b)) + cntS (common a b) = cntS a + cntS b :=
  cnt_law (set_can ha) (set_can hb) (set_can (union_set ha hb hu)) (set_can (meet_set ha hb hm)) (set_val ha) (set_val hb) (set_val (union_set ha hb hu)) (set_val (meet_set ha hb hm)) (union_mem ha hb) (meet_mem ha hb)
end
end Go.Proofs.Ytghbihjelmocaaa
