/- Plain laws of what is free: gaps, blocks. No program. -/
import Derived.Test.YtmfaknngophmhaaDoorCover
namespace Go.Proofs.YtmfaknngophmhaaDoor
set_option linter.unusedVariables false
set_option linter.unusedSimpArgs false

def freeFault (p : Pf) (l : List Pf) : Int := if chkP p ≠ 0 then chkP p else if 60 < l.length then 3 else firstP l
theorem freeFault_zero {p : Pf} {l : List Pf} : freeFault p l = 0 ↔ chkP p = 0 ∧ l.length ≤ 60 ∧ ∀ q ∈ l, chkP q = 0 := by
  unfold freeFault
  constructor
  · intro h
    by_cases h1 : chkP p = 0
    · rw [if_neg (by simp [h1])] at h
      by_cases h2 : 60 < l.length
      · rw [if_pos h2] at h; cases h
      · rw [if_neg h2] at h
        exact ⟨h1, by omega, firstP_good h⟩
    · rw [if_pos h1] at h; exact absurd h h1
  · rintro ⟨h1, h2, h3⟩
    rw [if_neg (by simp [h1]), if_neg (by omega)]
    exact firstP_of h3
def gapsL (p : Pf) (l : List Pf) : List Sp := common [(p.1, lastP p)] (others (norm (spansP l)))
def blocksL (p : Pf) (l : List Pf) : List Pf := coverSet (gapsL p l)
theorem gaps_mem {p : Pf} {l : List Pf} (hf : freeFault p l = 0) (t : Int) : memS (gapsL p l) t = (decide (p.1 ≤ t) && decide (t ≤ lastP p) && !memP l t) := by
  obtain ⟨h1, h2, h3⟩ := freeFault_zero.1 hf
  obtain ⟨c1, c2, c3, c4, c5⟩ := chk_zero.1 h1
  have hv := spansP_valid h3
  have hn := norm_good hv
  have hnv := norm_valid hv
  have hlast : lastP p ≤ maxA := by
    have := spansP_valid (l := [p]) (by simpa using h1) (p.1, lastP p) (by simp [spansP])
    exact this.2.2
  have hc1 : CanF (-1) [(p.1, lastP p)] := ⟨by simp; omega, last_geP p, trivial⟩
  have hc2 : CanF (-1) (others (norm (spansP l))) := othersGo_can _ 0 hn.1
  unfold gapsL
  rw [common_mem _ _ _ _ hc1 hc2]
  have ho := othersGo_mem (norm (spansP l)) 0 hn.1 (fun s hs => (hnv s hs).2.2) t
  unfold others
  rw [ho, hn.2, spansP_mem]
  have : memS [(p.1, lastP p)] t = (decide (p.1 ≤ t) && decide (t ≤ lastP p)) := by simp [memS, inS]
  rw [this]
  by_cases q1 : p.1 ≤ t
  · by_cases q2 : t ≤ lastP p
    · have q3 : (0 : Int) ≤ t := by omega
      have q4 : t ≤ maxA := by omega
      simp [q1, q2, q3, q4]
    · simp [q2]
  · simp [q1]
theorem gaps_can {p : Pf} {l : List Pf} (hf : freeFault p l = 0) : CanF (-1) (gapsL p l) := by
  obtain ⟨h1, h2, h3⟩ := freeFault_zero.1 hf
  obtain ⟨c1, c2, c3, c4, c5⟩ := chk_zero.1 h1
  have hc1 : CanF (-1) [(p.1, lastP p)] := ⟨by simp; omega, last_geP p, trivial⟩
  have hc2 : CanF (-1) (others (norm (spansP l))) := othersGo_can _ 0 (norm_good (spansP_valid h3)).1
  exact common_can _ _ _ _ hc1 hc2
theorem gaps_valid {p : Pf} {l : List Pf} (hf : freeFault p l = 0) : Valid (gapsL p l) := can_valid (gaps_can hf) fun t ht => by
  rw [gaps_mem hf] at ht
  simp only [Bool.and_eq_true, decide_eq_true_eq] at ht
  obtain ⟨h1, _, _⟩ := freeFault_zero.1 hf
  have := spansP_valid (l := [p]) (by simpa using h1) (p.1, lastP p) (by simp [spansP])
  have := this.2.2
  omega
theorem gaps_len {p : Pf} {l : List Pf} (hf : freeFault p l = 0) : (gapsL p l).length ≤ 64 := by
  obtain ⟨h1, h2, h3⟩ := freeFault_zero.1 hf
  have a1 := common_length [(p.1, lastP p)] (others (norm (spansP l)))
  have a2 := othersGo_length (norm (spansP l)) 0
  have a3 := norm_length (spansP l)
  have a4 : (spansP l).length = l.length := by simp [spansP]
  unfold gapsL others at *
  simp at a1
  omega
theorem gaps_set {p : Pf} {l : List Pf} (hf : freeFault p l = 0) : setFault (gapsL p l) = 0 := set_of (gaps_len hf) (gaps_valid hf) (gaps_can hf)
/-- What is said of a block. -/
theorem block_facts {p : Pf} {l : List Pf} (hf : freeFault p l = 0) {b : Pf} (hb : b ∈ blocksL p l) : chkP b = 0 ∧ inQ b p = true ∧ ∀ q ∈ l, inQ b q = false ∧ inQ q b = false := by
  have hg := last_geP b
  have key : ∀ t, b.1 ≤ t → t ≤ lastP b → p.1 ≤ t ∧ t ≤ lastP p ∧ memP l t = false := fun t h1 h2 => by
    have hm : memP (blocksL p l) t = true := memP_iff.2 ⟨b, hb, h1, h2⟩
    unfold blocksL at hm
    rw [coverSet_addr (gaps_valid hf), gaps_mem hf] at hm
    simpa [and_assoc] using hm
  have k1 := key b.1 (Int.le_refl _) hg
  have k2 := key (lastP b) hg (Int.le_refl _)
  refine ⟨coverSet_valid (gaps_valid hf) b hb, inQ_iff.2 ⟨k1.1, k2.2.1⟩, fun q hq => ⟨?_, ?_⟩⟩
  · have : ¬ inQ b q = true := fun h => by
      rw [inQ_iff] at h
      have := memP_iff.2 ⟨q, hq, h.1, by omega⟩
      rw [k1.2.2] at this; cases this
    simpa using this
  · have hgq := last_geP q
    have : ¬ inQ q b = true := fun h => by
      rw [inQ_iff] at h
      have hk := key q.1 h.1 (by omega)
      have := memP_iff.2 ⟨q, hq, Int.le_refl _, hgq⟩
      rw [hk.2.2] at this; cases this
    simpa using this
def lastL (L : List Pf) : Nat → Int
  | 0 => -1
  | k + 1 => ((L[k]?).map lastP).getD (-1)
theorem lastL_succ (L : List Pf) (k : Nat) (h : k < L.length) : lastL L (k + 1) = lastP L[k] := by simp [lastL, h]
theorem blocks_rise {p : Pf} {l : List Pf} (hf : freeFault p l = 0) (k : Nat) (h : k < (blocksL p l).length) : lastL (blocksL p l) k < (blocksL p l)[k].1 := by
  have hv := coverSet_valid (gaps_valid hf) _ (show (blocksL p l)[k] ∈ coverSet (gapsL p l) from List.getElem_mem h)
  obtain ⟨_, _, c3, _, _⟩ := chk_zero.1 hv
  match k, h with
  | 0, h => simp only [lastL]; omega
  | k + 1, h =>
    rw [lastL_succ _ k (by omega)]
    have h' : k + 1 < (coverSet (gapsL p l)).length := h
    exact List.pairwise_iff_getElem.1 (coverSet_pairwise (gaps_can hf) (gaps_valid hf)) k (k + 1) (by omega) h' (by omega)
theorem spans_blocks {p : Pf} {l : List Pf} (hf : freeFault p l = 0) : norm (spansP (blocksL p l)) = gapsL p l := spans_cover (gaps_can hf) (gaps_valid hf)
theorem gaps3 : gapsL (0, 30) [(0, 32)] = [(1, 3)] := by
  have h : norm (spansP [((0 : Int), (32 : Int))]) = [(0, 0)] := norm_eq (b := -1) (spansP_valid (by decide)) ⟨by decide, by decide, trivial⟩ fun a => by
    rw [spansP_mem]; simp [memP, memS, inS, lastP, lastA, sz_32]
  unfold gapsL
  rw [h, show lastP ((0 : Int), (30 : Int)) = 3 by decide, show others [((0 : Int), (0 : Int))] = [(1, 4294967295)] by decide]
  simp [common, piece]
  decide
theorem blocks3 : blocksL (0, 30) [(0, 32)] = [(1, 32), (2, 31)] := by
  unfold blocksL
  rw [gaps3]
  show coverSet [((1 : Int), (3 : Int))] = _
  simp only [coverSet, List.flatMap_cons, List.flatMap_nil, List.append_nil]
  rw [cover_step (by decide), show blkN 1 3 = 32 by decide, show lastA 1 32 + 1 = 2 by decide, cover_step (by decide), show blkN 2 3 = 31 by decide, show lastA 2 31 + 1 = 4 by decide, cover_end (by decide)]
end Go.Proofs.YtmfaknngophmhaaDoor
