/- Plain laws of what fits: the blocks of a Len that are free, each once; how many. No program. -/
import Derived.Test.YtmfaknngophmhaaDoorFreeMath
namespace Go.Proofs.YtmfaknngophmhaaDoor
set_option linter.unusedVariables false
set_option linter.unusedSimpArgs false

def fitB (n : Int) (b : Pf) : Bool := decide (b.2 ≤ n)
def greatL (p : Pf) (l : List Pf) (n : Int) : List Pf := (blocksL p l).filter (fitB n)
def greatFault (p : Pf) (l : List Pf) (n : Int) : Int := if freeFault p l ≠ 0 then freeFault p l else if n < p.2 ∨ 32 < n then 1 else 0
theorem greatFault_zero {p : Pf} {l : List Pf} {n : Int} : greatFault p l n = 0 ↔ freeFault p l = 0 ∧ p.2 ≤ n ∧ n ≤ 32 := by
  unfold greatFault
  constructor
  · intro h
    by_cases h1 : freeFault p l = 0
    · rw [if_neg (by simp [h1])] at h
      by_cases h2 : n < p.2 ∨ 32 < n
      · rw [if_pos h2] at h; cases h
      · exact ⟨h1, by omega, by omega⟩
    · rw [if_pos h1] at h; exact absurd h h1
  · rintro ⟨h1, h2, h3⟩
    rw [if_neg (by simp [h1]), if_neg (by omega)]
theorem great_mem {p : Pf} {l : List Pf} {n : Int} {b : Pf} : b ∈ greatL p l n ↔ b ∈ blocksL p l ∧ b.2 ≤ n := by simp [greatL, fitB]
theorem blocks_chk {p : Pf} {l : List Pf} (hf : freeFault p l = 0) {b : Pf} (hb : b ∈ blocksL p l) : chkP b = 0 := coverSet_valid (gaps_valid hf) b hb
theorem great_pairwise {p : Pf} {l : List Pf} (n : Int) (hf : freeFault p l = 0) : (greatL p l n).Pairwise (fun p q => lastP p < q.1) :=
  (coverSet_pairwise (gaps_can hf) (gaps_valid hf)).sublist List.filter_sublist

/- how many -/
def manyL (G : List Pf) (n : Int) : Nat := (G.map fun b => 2 ^ (n - b.2).toNat).sum
theorem manyL_snoc (G : List Pf) (n : Int) (k : Nat) (h : k < G.length) : manyL (G.take (k + 1)) n = manyL (G.take k) n + 2 ^ (n - G[k].2).toNat := by
  unfold manyL
  rw [List.take_succ_eq_append_getElem h, List.map_append, List.sum_append]
  simp
theorem manyL_take (G : List Pf) (n : Int) (k : Nat) : manyL (G.take k) n ≤ manyL G n := by
  have : manyL G n = manyL (G.take k ++ G.drop k) n := by rw [List.take_append_drop]
  rw [this]
  unfold manyL
  rw [List.map_append, List.sum_append]
  omega
def nb (G : List Pf) (n : Int) : List Int := G.flatMap fun b => (List.range (2 ^ (n - b.2).toNat)).map fun (j : Nat) => b.1 + (j : Int) * sz n
theorem nb_cons (b : Pf) (G : List Pf) (n : Int) : nb (b :: G) n = ((List.range (2 ^ (n - b.2).toNat)).map fun (j : Nat) => b.1 + (j : Int) * sz n) ++ nb G n := rfl
theorem nb_length : ∀ (G : List Pf) (n : Int), (nb G n).length = manyL G n
  | [], n => rfl
  | b :: G, n => by
    rw [nb_cons, List.length_append, nb_length G n, List.length_map, List.length_range]
    simp [manyL]
theorem sz_times {n m : Int} (h0 : 0 ≤ m) (h : m ≤ n) (h2 : n ≤ 32) : sz m = ((2 ^ (n - m).toNat : Nat) : Int) * sz n := by
  have e : ((2 ^ (n - m).toNat : Nat) : Int) = (2 : Int) ^ (n - m).toNat := by simp
  rw [e]
  unfold sz
  rw [← Int.pow_add]
  congr 1
  omega
theorem nb_one {b : Pf} {n a : Int} (hb : chkP b = 0) (hl : b.2 ≤ n) (hn : n ≤ 32) : (a ∈ (List.range (2 ^ (n - b.2).toNat)).map fun (j : Nat) => b.1 + (j : Int) * sz n) ↔ chkP (a, n) = 0 ∧ inQ (a, n) b = true := by
  obtain ⟨c1, c2, c3, c4, c5⟩ := chk_zero.1 hb
  have hlast : lastP b ≤ 4294967295 := last_le hb
  have ht := sz_times c1 hl hn
  have hs := sz_pos n
  obtain ⟨i, hi⟩ := Int.dvd_of_emod_eq_zero c5
  have hlb : lastP b = b.1 + sz b.2 - 1 := rfl
  have hdv : b.1 = sz n * (((2 ^ (n - b.2).toNat : Nat) : Int) * i) := by rw [hi, ht, Int.mul_comm _ (sz n), Int.mul_assoc]
  generalize hK : (2 ^ (n - b.2).toNat : Nat) = K at *
  rw [List.mem_map]
  constructor
  · rintro ⟨j, hj, rfl⟩
    rw [List.mem_range] at hj
    have h1 : 0 ≤ (j : Int) * sz n := Int.mul_nonneg (by omega) (Int.le_of_lt hs)
    have h2 : ((j : Int) + 1) * sz n ≤ (K : Int) * sz n := Int.mul_le_mul_of_nonneg_right (by omega) (Int.le_of_lt hs)
    rw [Int.add_mul] at h2
    refine ⟨chk_zero.2 ⟨by omega, hn, by show 0 ≤ b.1 + _; omega, ?_, ?_⟩, inQ_iff.2 ⟨by show b.1 ≤ b.1 + _; omega, ?_⟩⟩
    · show b.1 + (j : Int) * sz n ≤ 4294967295
      omega
    · show (b.1 + (j : Int) * sz n) % sz n = 0
      rw [hdv, Int.mul_comm (j : Int), ← Int.mul_add]
      exact Int.mul_emod_right _ _
    · show b.1 + (j : Int) * sz n + sz n - 1 ≤ lastP b
      omega
  · rintro ⟨h1, h2⟩
    obtain ⟨d1, d2, d3, d4, d5⟩ := chk_zero.1 h1
    rw [inQ_iff] at h2
    obtain ⟨e1, e2⟩ := h2
    have e1' : b.1 ≤ a := e1
    have e2' : a + sz n - 1 ≤ lastP b := e2
    obtain ⟨x, hx⟩ := Int.dvd_of_emod_eq_zero (show a % sz n = 0 from d5)
    obtain ⟨y, hy⟩ : ∃ y, y = (K : Int) * i := ⟨_, rfl⟩
    rw [← hy] at hdv
    have g1 : y ≤ x := by
      refine Int.not_lt.1 fun h => ?_
      have := Int.mul_le_mul_of_nonneg_left (show x + 1 ≤ y by omega) (Int.le_of_lt hs)
      rw [Int.mul_add] at this
      omega
    have g2 : x < y + K := by
      refine Int.not_le.1 fun h => ?_
      have := Int.mul_le_mul_of_nonneg_left h (Int.le_of_lt hs)
      rw [Int.mul_add, Int.mul_comm (sz n) (K : Int)] at this
      omega
    refine ⟨(x - y).toNat, List.mem_range.2 (by omega), ?_⟩
    rw [Int.toNat_of_nonneg (by omega), Int.sub_mul, Int.mul_comm x, Int.mul_comm y, ← hx, ← hdv]
    omega
theorem nb_mem {G : List Pf} {n : Int} (hG : ∀ b ∈ G, chkP b = 0 ∧ b.2 ≤ n) (hn : n ≤ 32) (a : Int) : a ∈ nb G n ↔ chkP (a, n) = 0 ∧ ∃ b ∈ G, inQ (a, n) b = true := by
  unfold nb
  rw [List.mem_flatMap]
  constructor
  · rintro ⟨b, hb, h⟩
    obtain ⟨h1, h2⟩ := (nb_one (hG b hb).1 (hG b hb).2 hn).1 h
    exact ⟨h1, b, hb, h2⟩
  · rintro ⟨h1, b, hb, h2⟩
    exact ⟨b, hb, (nb_one (hG b hb).1 (hG b hb).2 hn).2 ⟨h1, h2⟩⟩
theorem nb_pairwise : ∀ {G : List Pf} {n : Int}, (∀ b ∈ G, chkP b = 0 ∧ b.2 ≤ n) → n ≤ 32 → G.Pairwise (fun p q => lastP p < q.1) → (nb G n).Pairwise (· < ·)
  | [], n, _, _, _ => by simp [nb]
  | b :: G, n, hG, hn, hp => by
    have hp' := List.pairwise_cons.1 hp
    have hG' : ∀ b ∈ G, chkP b = 0 ∧ b.2 ≤ n := fun x hx => hG x (by simp [hx])
    have hs := sz_pos n
    rw [nb_cons, List.pairwise_append]
    refine ⟨?_, nb_pairwise hG' hn hp'.2, fun x hx y hy => ?_⟩
    · rw [List.pairwise_map]
      refine List.pairwise_lt_range.imp fun {i j} hij => ?_
      have := Int.mul_le_mul_of_nonneg_right (show (i : Int) + 1 ≤ j by omega) (Int.le_of_lt hs)
      rw [Int.add_mul] at this
      omega
    · obtain ⟨_, hx2⟩ := (nb_one (hG b (by simp)).1 (hG b (by simp)).2 hn).1 hx
      obtain ⟨_, c, hc, hy2⟩ := (nb_mem hG' hn y).1 hy
      rw [inQ_iff] at hx2 hy2
      have h1 := hp'.1 c hc
      have h2 := last_geP (x, n)
      have h3 : c.1 ≤ y := hy2.1
      have h4 : x ≤ lastP (x, n) := h2
      omega
theorem strict_len : ∀ (l : List Int) (lo hi : Int), l.Pairwise (· < ·) → (∀ x ∈ l, lo ≤ x ∧ x ≤ hi) → lo ≤ hi + 1 → (l.length : Int) ≤ hi + 1 - lo
  | [], lo, hi, _, _, h => by simp; omega
  | x :: r, lo, hi, hp, hm, h => by
    have hp' := List.pairwise_cons.1 hp
    have hx := hm x (by simp)
    have := strict_len r (x + 1) hi hp'.2 (fun y hy => ⟨by have := hp'.1 y hy; omega, (hm y (by simp [hy])).2⟩) (by omega)
    simp only [List.length_cons]
    omega
theorem sorted_ext : ∀ {l m : List Int}, l.Pairwise (· < ·) → m.Pairwise (· < ·) → (∀ a, a ∈ l ↔ a ∈ m) → l = m
  | [], [], _, _, _ => rfl
  | [], y :: m, _, _, h => by have := (h y).2 (by simp); simp at this
  | x :: l, [], _, _, h => by have := (h x).1 (by simp); simp at this
  | x :: l, y :: m, hl, hm, h => by
    have hl' := List.pairwise_cons.1 hl
    have hm' := List.pairwise_cons.1 hm
    have e : x = y := by
      have h1 := (h x).1 (by simp)
      have h2 := (h y).2 (by simp)
      rcases List.mem_cons.1 h1 with rfl | h1
      · rfl
      · rcases List.mem_cons.1 h2 with h2 | h2
        · exact h2.symm
        · have := hm'.1 x h1; have := hl'.1 y h2; omega
    subst e
    rw [sorted_ext hl'.2 hm'.2 fun a => ?_]
    constructor
    · intro ha
      rcases List.mem_cons.1 ((h a).1 (by simp [ha])) with rfl | h3
      · have := hl'.1 a ha; omega
      · exact h3
    · intro ha
      rcases List.mem_cons.1 ((h a).2 (by simp [ha])) with rfl | h3
      · have := hm'.1 a ha; omega
      · exact h3
theorem filter_one : ∀ {l : List Int} {x : Int}, l.Pairwise (· < ·) → x ∈ l → (l.filter fun a => decide (a ≠ x)).length + 1 = l.length
  | [], x, _, h => by simp at h
  | y :: l, x, hp, h => by
    have hp' := List.pairwise_cons.1 hp
    by_cases e : y = x
    · subst e
      have h1 : (l.filter fun a => decide (a ≠ y)) = l := List.filter_eq_self.2 fun a ha => by
        have := hp'.1 a ha
        simp only [decide_eq_true_eq]
        omega
      rw [List.filter_cons, if_neg (by simp), h1]
      rfl
    · have hx : x ∈ l := by
        rcases List.mem_cons.1 h with h | h
        · exact absurd h.symm e
        · exact h
      have := filter_one hp'.2 hx
      rw [List.filter_cons, if_pos (by simpa using e), List.length_cons, List.length_cons]
      omega

/- what is free of a Len -/
theorem great_ok {p : Pf} {l : List Pf} {n : Int} (hf : greatFault p l n = 0) : ∀ b ∈ greatL p l n, chkP b = 0 ∧ b.2 ≤ n := fun b hb => by
  obtain ⟨h1, h2⟩ := great_mem.1 hb
  exact ⟨blocks_chk (greatFault_zero.1 hf).1 h1, h2⟩
theorem great_nb {p : Pf} {l : List Pf} {n : Int} (hf : greatFault p l n = 0) (a : Int) : a ∈ nb (greatL p l n) n ↔ chkP (a, n) = 0 ∧ ∀ t, a ≤ t → t ≤ lastP (a, n) → memS (gapsL p l) t = true := by
  obtain ⟨h1, h2, h3⟩ := greatFault_zero.1 hf
  rw [nb_mem (great_ok hf) h3]
  constructor
  · rintro ⟨g1, b, hb, g2⟩
    rw [inQ_iff] at g2
    refine ⟨g1, fun t t1 t2 => ?_⟩
    rw [← coverSet_addr (gaps_valid h1)]
    have g3 : b.1 ≤ a := g2.1
    exact memP_iff.2 ⟨b, (great_mem.1 hb).1, by omega, by omega⟩
  · rintro ⟨g1, g2⟩
    obtain ⟨b, hb, hin⟩ := coverSet_max (gaps_can h1) (gaps_valid h1) g1 g2
    refine ⟨g1, b, great_mem.2 ⟨hb, ?_⟩, hin⟩
    rw [inQ_iff] at hin
    have e1 : b.1 ≤ a := hin.1
    have e2 : a + sz n - 1 ≤ b.1 + sz b.2 - 1 := hin.2
    refine Int.not_lt.1 fun h => ?_
    obtain ⟨d1, d2, _⟩ := chk_zero.1 (blocks_chk h1 hb)
    have := sz_strict h d2
    omega
theorem many_le {p : Pf} {l : List Pf} {n : Int} (hf : greatFault p l n = 0) : manyL (greatL p l n) n ≤ 4294967296 := by
  obtain ⟨h1, h2, h3⟩ := greatFault_zero.1 hf
  have := strict_len (nb (greatL p l n) n) 0 4294967295 (nb_pairwise (great_ok hf) h3 (great_pairwise n h1)) (fun x hx => by
    obtain ⟨g1, _⟩ := (nb_mem (great_ok hf) h3 x).1 hx
    obtain ⟨_, _, e1, e2, _⟩ := chk_zero.1 g1
    exact ⟨e1, e2⟩) (by decide)
  rw [nb_length] at this
  omega
/-- The first address of a great block is one of a Len. -/
theorem great_at {p : Pf} {l : List Pf} {n : Int} (hf : greatFault p l n = 0) {b : Pf} (hb : b ∈ greatL p l n) : b.1 ∈ nb (greatL p l n) n := by
  obtain ⟨h1, h2, h3⟩ := greatFault_zero.1 hf
  obtain ⟨g1, g2⟩ := great_ok hf b hb
  have : b.1 ∈ (List.range (2 ^ (n - b.2).toNat)).map fun (j : Nat) => b.1 + (j : Int) * sz n := List.mem_map.2 ⟨0, List.mem_range.2 (Nat.two_pow_pos _), by simp⟩
  exact List.mem_flatMap.2 ⟨b, hb, this⟩
/-- What is said of a prefix of a Len that is free. -/
theorem fit_facts {p : Pf} {l : List Pf} {n a : Int} (hf : greatFault p l n = 0) (ha : a ∈ nb (greatL p l n) n) : chkP (a, n) = 0 ∧ inQ (a, n) p = true ∧ ∀ q ∈ l, inQ (a, n) q = false ∧ inQ q (a, n) = false := by
  obtain ⟨h1, h2, h3⟩ := greatFault_zero.1 hf
  obtain ⟨g1, g2⟩ := (great_nb hf a).1 ha
  have hg : a ≤ lastP (a, n) := last_geP (a, n)
  have key : ∀ t, a ≤ t → t ≤ lastP (a, n) → p.1 ≤ t ∧ t ≤ lastP p ∧ memP l t = false := fun t t1 t2 => by
    have hm := g2 t t1 t2
    rw [gaps_mem h1] at hm
    simpa [and_assoc] using hm
  have k1 := key a (Int.le_refl _) hg
  have k2 := key (lastP (a, n)) hg (Int.le_refl _)
  refine ⟨g1, inQ_iff.2 ⟨k1.1, k2.2.1⟩, fun q hq => ⟨?_, ?_⟩⟩
  · have : ¬ inQ (a, n) q = true := fun h => by
      rw [inQ_iff] at h
      have e1 : q.1 ≤ a := h.1
      have := memP_iff.2 ⟨q, hq, e1, by omega⟩
      rw [k1.2.2] at this; cases this
    simpa using this
  · have hgq := last_geP q
    have : ¬ inQ q (a, n) = true := fun h => by
      rw [inQ_iff] at h
      have e1 : a ≤ q.1 := h.1
      have hk := key q.1 e1 (by omega)
      have := memP_iff.2 ⟨q, hq, Int.le_refl _, hgq⟩
      rw [hk.2.2] at this; cases this
    simpa using this
/-- Taken itself, there is one less. -/
theorem fits_less {p : Pf} {l : List Pf} {n a : Int} (hf : greatFault p l n = 0) (hl : l.length < 60) (ha : a ∈ nb (greatL p l n) n) :
    greatFault p (l ++ [(a, n)]) n = 0 ∧ manyL (greatL p (l ++ [(a, n)]) n) n + 1 = manyL (greatL p l n) n := by
  obtain ⟨h1, h2, h3⟩ := greatFault_zero.1 hf
  obtain ⟨g1, g2, g3⟩ := fit_facts hf ha
  obtain ⟨e1, e2, e3⟩ := freeFault_zero.1 h1
  have hf2 : greatFault p (l ++ [(a, n)]) n = 0 := greatFault_zero.2 ⟨freeFault_zero.2 ⟨e1, by simp; omega, fun q hq => by
    rcases List.mem_append.1 hq with hq | hq
    · exact e3 q hq
    · obtain rfl : q = (a, n) := by simpa using hq
      exact g1⟩, h2, h3⟩
  refine ⟨hf2, ?_⟩
  have hf2' := (greatFault_zero.1 hf2).1
  have hp1 := nb_pairwise (great_ok hf) h3 (great_pairwise n h1)
  have hp2 := nb_pairwise (great_ok hf2) h3 (great_pairwise n hf2')
  have hE : ((nb (greatL p l n) n).filter fun x => decide (x ≠ a)) = nb (greatL p (l ++ [(a, n)]) n) n := by
    refine sorted_ext (hp1.sublist List.filter_sublist) hp2 fun x => ?_
    rw [List.mem_filter, great_nb hf, great_nb hf2]
    have hx : x ≤ lastP (x, n) := last_geP (x, n)
    constructor
    · rintro ⟨⟨c1, c2⟩, c3⟩
      have hne : x ≠ a := by simpa using c3
      refine ⟨c1, fun t t1 t2 => ?_⟩
      have := c2 t t1 t2
      rw [gaps_mem h1] at this
      rw [gaps_mem hf2', memP_append]
      have hno : memP [(a, n)] t = false := by
        cases hm : memP [(a, n)] t
        · rfl
        · obtain ⟨q, hq, q1, q2⟩ := memP_iff.1 hm
          obtain rfl : q = (a, n) := by simpa using hq
          have z1 := nested c1 g1 (Int.le_refl _) (show x ≤ lastP (a, n) by omega) (show a ≤ lastP (x, n) by have : a ≤ t := q1; omega)
          have z2 := nested g1 c1 (Int.le_refl _) (show a ≤ lastP (x, n) by have : a ≤ t := q1; omega) (show x ≤ lastP (a, n) by omega)
          have y1 : a ≤ x := (inQ_iff.1 z1).1
          have y2 : x ≤ a := (inQ_iff.1 z2).1
          omega
      rw [hno, Bool.or_false]
      exact this
    · rintro ⟨c1, c2⟩
      refine ⟨⟨c1, fun t t1 t2 => ?_⟩, ?_⟩
      · have := c2 t t1 t2
        rw [gaps_mem hf2', memP_append] at this
        rw [gaps_mem h1]
        revert this
        cases decide (p.1 ≤ t) <;> cases decide (t ≤ lastP p) <;> cases memP l t <;> simp
      · simp only [decide_eq_true_eq]
        rintro rfl
        have := c2 x (Int.le_refl _) hx
        rw [gaps_mem hf2', memP_append, show memP [(x, n)] x = true from memP_iff.2 ⟨(x, n), by simp, Int.le_refl _, hx⟩] at this
        simp at this
  have := filter_one hp1 ha
  rw [hE, nb_length, nb_length] at this
  exact this
theorem many_pos {p : Pf} {l : List Pf} {n a : Int} (ha : a ∈ nb (greatL p l n) n) : 1 ≤ manyL (greatL p l n) n := by
  rw [← nb_length]
  exact List.length_pos_of_mem ha

/- the best -/
def bestGo : Option Pf → List Pf → Option Pf
  | o, [] => o
  | none, b :: r => bestGo (some b) r
  | some c, b :: r => if c.2 < b.2 then bestGo (some b) r else bestGo (some c) r
theorem bestGo_mem : ∀ (l : List Pf) (o : Option Pf) (b : Pf), bestGo o l = some b → b ∈ l ∨ o = some b
  | [], o, b, h => .inr h
  | x :: r, none, b, h => by
    rcases bestGo_mem r (some x) b h with h | h
    · exact .inl (by simp [h])
    · exact .inl (by simp at h; simp [h])
  | x :: r, some c, b, h => by
    unfold bestGo at h
    split at h
    · rcases bestGo_mem r (some x) b h with h | h
      · exact .inl (by simp [h])
      · exact .inl (by simp at h; simp [h])
    · rcases bestGo_mem r (some c) b h with h | h
      · exact .inl (by simp [h])
      · exact .inr h
theorem bestGo_some : ∀ (l : List Pf) (c : Pf), ∃ b, bestGo (some c) l = some b
  | [], c => ⟨c, rfl⟩
  | x :: r, c => by
    unfold bestGo
    split
    · exact bestGo_some r x
    · exact bestGo_some r c
/-- What is first is first. -/
theorem great_first {p : Pf} {l : List Pf} {n : Int} (hf : freeFault p l = 0) {b c : Pf} {r : List Pf} (he : greatL p l n = b :: r) (hc : c ∈ greatL p l n) : b.1 ≤ c.1 := by
  have hp := great_pairwise n hf
  rw [he] at hp hc
  rcases List.mem_cons.1 hc with rfl | hc
  · exact Int.le_refl _
  · have := (List.pairwise_cons.1 hp).1 c hc
    have := last_geP b
    omega
/- gaps and what is taken are all -/
theorem whole_norm {p : Pf} (hp : chkP p = 0) : norm (spansP [p]) = [(p.1, lastP p)] := by
  obtain ⟨_, _, c3, _, _⟩ := chk_zero.1 hp
  exact norm_eq (b := -1) (spansP_valid (by simpa using hp)) ⟨by simp; omega, last_geP p, trivial⟩ fun t => rfl
theorem all_whole {p : Pf} {l : List Pf} (hf : freeFault p l = 0) : norm (common [(p.1, lastP p)] (norm (spansP l)) ++ gapsL p l) = [(p.1, lastP p)] ∧ common (common [(p.1, lastP p)] (norm (spansP l))) (gapsL p l) = [] ∧
    setFault [(p.1, lastP p)] = 0 ∧ setFault (norm (spansP l)) = 0 ∧ setFault (common [(p.1, lastP p)] (norm (spansP l))) = 0 ∧ spansPFault l = 0 ∧ spansPFault [p] = 0 := by
  obtain ⟨h1, h2, h3⟩ := freeFault_zero.1 hf
  obtain ⟨_, _, c3, _, _⟩ := chk_zero.1 h1
  have hlast : lastP p ≤ 4294967295 := last_le h1
  have hvl := spansP_valid h3
  have hn := norm_good hvl
  have hc1 : CanF (-1) [(p.1, lastP p)] := ⟨by simp; omega, last_geP p, trivial⟩
  have hw : Valid [(p.1, lastP p)] := by
    intro s hs
    obtain rfl : s = (p.1, lastP p) := by simpa using hs
    exact ⟨c3, last_geP p, by unfold maxA; exact hlast⟩
  have hin := common_can _ _ _ _ hc1 hn.1
  have hmem := common_mem _ _ _ _ hc1 hn.1
  have hmw : ∀ t, memS [(p.1, lastP p)] t = (decide (p.1 ≤ t) && decide (t ≤ lastP p)) := fun t => by simp [memS, inS]
  have hvin : Valid (common [(p.1, lastP p)] (norm (spansP l))) := can_valid hin fun t ht => by
    rw [hmem, hmw] at ht
    simp only [Bool.and_eq_true, decide_eq_true_eq] at ht
    unfold maxA; omega
  have hll : (norm (spansP l)).length ≤ l.length := Nat.le_trans (norm_length _) (by simp [spansP])
  have hlin := common_length [(p.1, lastP p)] (norm (spansP l))
  have hg := gaps_mem hf
  have hvg := gaps_valid hf
  refine ⟨?_, ?_, set_of (by simp) hw hc1, set_of (by omega) (norm_valid hvl) hn.1, set_of (by simp at hlin; omega) hvin hin, spansPFault_zero.2 ⟨by omega, h3, by omega⟩, spansPFault_zero.2 ⟨by simp, by simpa using h1, by rw [whole_norm h1]; simp⟩⟩
  · refine norm_eq (b := -1) (fun s hs => (List.mem_append.1 hs).elim (hvin s) (hvg s)) hc1 fun t => ?_
    rw [memS_append, hmem, hg, hmw, hn.2, spansP_mem]
    cases decide (p.1 ≤ t) <;> cases decide (t ≤ lastP p) <;> cases memP l t <;> rfl
  · refine canon_unique (common_can _ _ _ _ hin (gaps_can hf)) (c := -1) trivial fun t => ?_
    rw [common_mem _ _ _ _ hin (gaps_can hf), hmem, hg, hn.2, spansP_mem, memS_nil]
    cases decide (p.1 ≤ t) <;> cases decide (t ≤ lastP p) <;> cases memP l t <;> simp
end Go.Proofs.YtmfaknngophmhaaDoor
