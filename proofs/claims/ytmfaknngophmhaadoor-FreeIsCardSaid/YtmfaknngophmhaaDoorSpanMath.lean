/- Plain laws of sets of addresses as spans: canonical lists, their merging, common part, complement, count. No program is in sight. No conditions. -/
import Derived.Test.YtmfaknngophmhaaDoorMath
namespace Go.Proofs.YtmfaknngophmhaaDoor
set_option linter.unusedVariables false
set_option linter.unusedSimpArgs false
open Go

abbrev Sp := Int × Int
def maxA : Int := 4294967295
def inS (s : Sp) (a : Int) : Bool := decide (s.1 ≤ a) && decide (a ≤ s.2)
def memS (l : List Sp) (a : Int) : Bool := l.any (fun s => inS s a)
theorem inS_iff {s : Sp} {a : Int} : inS s a = true ↔ s.1 ≤ a ∧ a ≤ s.2 := by simp [inS]
theorem memS_nil (a : Int) : memS [] a = false := rfl
theorem memS_cons (s : Sp) (l : List Sp) (a : Int) : memS (s :: l) a = (inS s a || memS l a) := rfl
theorem memS_append (l m : List Sp) (a : Int) : memS (l ++ m) a = (memS l a || memS m a) := by simp [memS]
theorem memS_iff {l : List Sp} {a : Int} : memS l a = true ↔ ∃ s ∈ l, s.1 ≤ a ∧ a ≤ s.2 := by simp [memS, inS]

/-- Spans that rise, each behind b, with an address between one and the next. -/
def CanF : Int → List Sp → Prop
  | _, [] => True
  | b, s :: r => b < s.1 ∧ s.1 ≤ s.2 ∧ CanF (s.2 + 1) r
theorem CanF.mono : ∀ {l : List Sp} {b c : Int}, CanF b l → c ≤ b → CanF c l
  | [], _, _, _, _ => trivial
  | s :: r, b, c, h, hc => ⟨by have := h.1; omega, h.2⟩
theorem CanF.gt : ∀ {l : List Sp} {b a : Int}, CanF b l → memS l a = true → b < a
  | [], b, a, _, h => by simp [memS] at h
  | s :: r, b, a, ⟨h1, h2, h3⟩, h => by
    rw [memS_cons, Bool.or_eq_true] at h
    rcases h with h | h
    · rw [inS_iff] at h; omega
    · have := CanF.gt h3 h; omega
theorem CanF.mem : ∀ {l : List Sp} {b : Int}, CanF b l → ∀ s ∈ l, b < s.1 ∧ s.1 ≤ s.2
  | [], _, _, s, h => by simp at h
  | t :: r, b, ⟨h1, h2, h3⟩, s, h => by
    rcases List.mem_cons.1 h with rfl | h
    · exact ⟨h1, h2⟩
    · have := CanF.mem h3 s h; omega

theorem canon_unique : ∀ {l m : List Sp} {b c : Int}, CanF b l → CanF c m → (∀ a, memS l a = memS m a) → l = m
  | [], [], _, _, _, _, _ => rfl
  | [], t :: q, _, _, _, h2, h => by
    have := h t.1
    rw [memS_nil, memS_cons, show inS t t.1 = true from inS_iff.2 ⟨Int.le_refl _, h2.2.1⟩] at this
    simp at this
  | s :: r, [], _, _, h1, _, h => by
    have := h s.1
    rw [memS_nil, memS_cons, show inS s s.1 = true from inS_iff.2 ⟨Int.le_refl _, h1.2.1⟩] at this
    simp at this
  | s :: r, t :: q, b, c, ⟨a1, a2, a3⟩, ⟨b1, b2, b3⟩, h => by
    have hr : ∀ a, a ≤ s.2 + 1 → memS r a = false := fun a ha => by
      cases hm : memS r a
      · rfl
      · have := CanF.gt a3 hm; omega
    have hq : ∀ a, a ≤ t.2 + 1 → memS q a = false := fun a ha => by
      cases hm : memS q a
      · rfl
      · have := CanF.gt b3 hm; omega
    have lo1 : t.1 ≤ s.1 := by
      have := h s.1
      rw [memS_cons, memS_cons, show inS s s.1 = true from inS_iff.2 ⟨Int.le_refl _, a2⟩, Bool.true_or] at this
      rcases Bool.or_eq_true_iff.1 this.symm with g | g
      · exact (inS_iff.1 g).1
      · have := CanF.gt b3 g; omega
    have lo2 : s.1 ≤ t.1 := by
      have := h t.1
      rw [memS_cons, memS_cons, show inS t t.1 = true from inS_iff.2 ⟨Int.le_refl _, b2⟩, Bool.true_or] at this
      rcases Bool.or_eq_true_iff.1 this with g | g
      · exact (inS_iff.1 g).1
      · have := CanF.gt a3 g; omega
    have hi : s.2 = t.2 := by
      rcases Int.lt_trichotomy s.2 t.2 with g | g | g
      · have := h (s.2 + 1)
        rw [memS_cons, memS_cons, hr _ (Int.le_refl _), show inS t (s.2 + 1) = true from inS_iff.2 ⟨by omega, by omega⟩] at this
        have h0 : inS s (s.2 + 1) = false := by
          cases e : inS s (s.2 + 1)
          · rfl
          · have := (inS_iff.1 e).2; omega
        rw [h0] at this
        simp at this
      · exact g
      · have := h (t.2 + 1)
        rw [memS_cons, memS_cons, hq _ (Int.le_refl _), show inS s (t.2 + 1) = true from inS_iff.2 ⟨by omega, by omega⟩] at this
        have h0 : inS t (t.2 + 1) = false := by
          cases e : inS t (t.2 + 1)
          · rfl
          · have := (inS_iff.1 e).2; omega
        rw [h0] at this
        simp at this
    have est : s = t := Prod.ext (by omega) hi
    subst est
    have : r = q := canon_unique a3 b3 fun a => by
      by_cases ha : a ≤ s.2 + 1
      · rw [hr a ha, hq a ha]
      · have := h a
        rw [memS_cons, memS_cons] at this
        have h0 : inS s a = false := by
          cases e : inS s a
          · rfl
          · have := (inS_iff.1 e).2; omega
        simpa [h0] using this
    rw [this]

/- merging -/
def mergeGo : Sp → List Sp → List Sp
  | cur, [] => [cur]
  | cur, s :: r => if s.1 ≤ cur.2 + 1 then mergeGo (cur.1, max cur.2 s.2) r else cur :: mergeGo s r
def mergeL : List Sp → List Sp
  | [] => []
  | s :: r => mergeGo s r
theorem mergeGo_mem : ∀ (r : List Sp) (cur : Sp), cur.1 ≤ cur.2 → (∀ s ∈ r, s.1 ≤ s.2) → (cur :: r).Pairwise (fun x y => x.1 ≤ y.1) → ∀ a, memS (mergeGo cur r) a = (inS cur a || memS r a)
  | [], cur, _, _, _, a => by simp [mergeGo, memS]
  | s :: r, cur, hc, hv, hp, a => by
    rw [List.pairwise_cons, List.pairwise_cons] at hp
    have hs := hv s (by simp)
    have hcs := hp.1 s (by simp)
    unfold mergeGo
    split
    · rename_i h
      rw [mergeGo_mem r (cur.1, max cur.2 s.2) (by simp; omega) (fun x hx => hv x (by simp [hx])) (List.pairwise_cons.2 ⟨fun x hx => hp.1 x (by simp [hx]), hp.2.2⟩), memS_cons, ← Bool.or_assoc]
      congr 1
      rw [Bool.eq_iff_iff, Bool.or_eq_true, inS_iff, inS_iff, inS_iff]
      simp only
      omega
    · rw [memS_cons, mergeGo_mem r s hs (fun x hx => hv x (by simp [hx])) (List.pairwise_cons.2 hp.2), memS_cons]
theorem mergeGo_can : ∀ (r : List Sp) (cur : Sp) (b : Int), b < cur.1 → cur.1 ≤ cur.2 → (∀ s ∈ r, s.1 ≤ s.2) → CanF b (mergeGo cur r)
  | [], cur, b, h1, h2, _ => ⟨h1, h2, trivial⟩
  | s :: r, cur, b, h1, h2, hv => by
    unfold mergeGo
    split
    · exact mergeGo_can r _ b h1 (by simp; omega) (fun x hx => hv x (by simp [hx]))
    · exact ⟨h1, h2, mergeGo_can r s _ (by omega) (hv s (by simp)) (fun x hx => hv x (by simp [hx]))⟩
theorem mergeGo_length : ∀ (r : List Sp) (cur : Sp), (mergeGo cur r).length ≤ r.length + 1
  | [], _ => by simp [mergeGo]
  | s :: r, cur => by
    unfold mergeGo
    split
    · have := mergeGo_length r (cur.1, max cur.2 s.2); simp; omega
    · have := mergeGo_length r s; simp; omega

/-- Insertion by the low end. -/
def insS (s : Sp) : List Sp → List Sp
  | [] => [s]
  | t :: r => if s.1 ≤ t.1 then s :: t :: r else t :: insS s r
def sortS : List Sp → List Sp
  | [] => []
  | s :: r => insS s (sortS r)
theorem insS_perm (s : Sp) : ∀ l, (insS s l).Perm (s :: l)
  | [] => List.Perm.refl _
  | t :: r => by
    unfold insS
    split
    · exact List.Perm.refl _
    · exact ((insS_perm s r).cons t).trans (List.Perm.swap s t r)
theorem sortS_perm : ∀ l, (sortS l).Perm l
  | [] => List.Perm.refl _
  | s :: r => (insS_perm s (sortS r)).trans ((sortS_perm r).cons s)
theorem insS_sorted (s : Sp) : ∀ l : List Sp, l.Pairwise (fun x y => x.1 ≤ y.1) → (insS s l).Pairwise (fun x y => x.1 ≤ y.1)
  | [], _ => by simp [insS]
  | t :: r, h => by
    rw [List.pairwise_cons] at h
    unfold insS
    split
    · rename_i hst
      refine List.pairwise_cons.2 ⟨fun x hx => ?_, List.pairwise_cons.2 h⟩
      rcases List.mem_cons.1 hx with rfl | hx
      · exact hst
      · have := h.1 x hx; omega
    · refine List.pairwise_cons.2 ⟨fun x hx => ?_, insS_sorted s r h.2⟩
      rcases List.mem_cons.1 ((insS_perm s r).mem_iff.1 hx) with rfl | hx
      · omega
      · exact h.1 x hx
theorem sortS_sorted : ∀ l : List Sp, (sortS l).Pairwise (fun x y => x.1 ≤ y.1)
  | [] => List.Pairwise.nil
  | s :: r => insS_sorted s _ (sortS_sorted r)

def norm (l : List Sp) : List Sp := mergeL (sortS l)
def Valid (l : List Sp) : Prop := ∀ s ∈ l, 0 ≤ s.1 ∧ s.1 ≤ s.2 ∧ s.2 ≤ maxA

theorem memS_perm {l m : List Sp} (h : l.Perm m) (a : Int) : memS l a = memS m a := by
  rw [Bool.eq_iff_iff, memS_iff, memS_iff]
  exact ⟨fun ⟨s, hs, g⟩ => ⟨s, h.mem_iff.1 hs, g⟩, fun ⟨s, hs, g⟩ => ⟨s, h.mem_iff.2 hs, g⟩⟩

theorem mergeL_good (L : List Sp) (hs : L.Pairwise (fun x y => x.1 ≤ y.1)) (hv : Valid L) : CanF (-1) (mergeL L) ∧ ∀ a, memS (mergeL L) a = memS L a := by
  cases L with
  | nil => exact ⟨trivial, fun a => rfl⟩
  | cons s r =>
    have h0 := hv s (by simp)
    exact ⟨mergeGo_can r s _ (by omega) h0.2.1 (fun x hx => (hv x (by simp [hx])).2.1), fun a => mergeGo_mem r s h0.2.1 (fun x hx => (hv x (by simp [hx])).2.1) hs a⟩
theorem norm_good {l : List Sp} (hv : Valid l) : CanF (-1) (norm l) ∧ ∀ a, memS (norm l) a = memS l a := by
  obtain ⟨h1, h2⟩ := mergeL_good (sortS l) (sortS_sorted l) (fun s hs => hv s ((sortS_perm l).mem_iff.1 hs))
  exact ⟨h1, fun a => (h2 a).trans (memS_perm (sortS_perm l) a)⟩
/-- However the spans were sorted by their low ends: the same set. -/
theorem normMerge {l L : List Sp} (hp : L.Perm l) (hs : L.Pairwise (fun x y => x.1 ≤ y.1)) (hv : Valid l) : mergeL L = norm l := by
  obtain ⟨h1, h2⟩ := mergeL_good L hs (fun s h => hv s (hp.mem_iff.1 h))
  obtain ⟨g1, g2⟩ := norm_good hv
  exact canon_unique h1 g1 fun a => by rw [h2, g2, memS_perm hp]
theorem norm_length (l : List Sp) : (norm l).length ≤ l.length := by
  rw [← (sortS_perm l).length_eq]
  unfold norm
  cases sortS l with
  | nil => simp [mergeL]
  | cons s r => exact mergeGo_length r s
theorem norm_eq {l m : List Sp} (hl : Valid l) {b : Int} (hm : CanF b m) (h : ∀ a, memS l a = memS m a) : norm l = m :=
  canon_unique (norm_good hl).1 hm fun a => by rw [(norm_good hl).2, h]

/-- A canonical list whose addresses are addresses is valid. -/
theorem can_valid {l : List Sp} (h : CanF (-1) l) (hm : ∀ a, memS l a = true → a ≤ maxA) : Valid l := fun s hs => by
  have := CanF.mem h s hs
  have := hm s.2 (memS_iff.2 ⟨s, hs, by omega, by omega⟩)
  omega
theorem valid_mem {l : List Sp} (h : Valid l) {a : Int} (hm : memS l a = true) : 0 ≤ a ∧ a ≤ maxA := by
  obtain ⟨s, hs, h1, h2⟩ := memS_iff.1 hm
  have := h s hs
  omega
theorem norm_valid {l : List Sp} (h : Valid l) : Valid (norm l) :=
  can_valid (norm_good h).1 fun a ha => by rw [(norm_good h).2] at ha; exact (valid_mem h ha).2

/- the common part -/
def piece (x y : Sp) : List Sp := if max x.1 y.1 ≤ min x.2 y.2 then [(max x.1 y.1, min x.2 y.2)] else []
def common : List Sp → List Sp → List Sp
  | x :: a, y :: b => piece x y ++ if x.2 < y.2 then common a (y :: b) else common (x :: a) b
  | _, _ => []
termination_by a b => a.length + b.length

theorem piece_mem (x y : Sp) (t : Int) : memS (piece x y) t = (inS x t && inS y t) := by
  rw [Bool.eq_iff_iff, Bool.and_eq_true, inS_iff, inS_iff]
  unfold piece
  split
  · simp [memS, inS]; omega
  · simp [memS]; omega
theorem common_mem (a b : List Sp) : ∀ c d, CanF c a → CanF d b → ∀ t, memS (common a b) t = (memS a t && memS b t) := by
  fun_induction common a b with
  | case1 x a y b ih1 ih2 =>
    intro c d ha hb t
    obtain ⟨a1, a2, a3⟩ := ha
    obtain ⟨b1, b2, b3⟩ := hb
    rw [memS_append, piece_mem]
    by_cases h : x.2 < y.2
    · rw [if_pos h, ih1 _ _ a3 ⟨b1, b2, b3⟩, memS_cons x a]
      have hy : inS x t = true → memS (y :: b) t = inS y t := fun hx => by
        rw [inS_iff] at hx
        rw [memS_cons]
        have : memS b t = false := by
          cases e : memS b t
          · rfl
          · have := CanF.gt b3 e; omega
        rw [this, Bool.or_false]
      cases hx : inS x t
      · simp
      · rw [hy hx]; cases inS y t <;> simp
    · rw [if_neg h, ih2 _ _ ⟨a1, a2, a3⟩ b3, memS_cons y b]
      have hx : inS y t = true → memS (x :: a) t = inS x t := fun hy => by
        rw [inS_iff] at hy
        rw [memS_cons]
        have : memS a t = false := by
          cases e : memS a t
          · rfl
          · have := CanF.gt a3 e; omega
        rw [this, Bool.or_false]
      cases hy : inS y t
      · simp
      · rw [hx hy]; cases inS x t <;> simp
  | case2 a b h =>
    intro c d _ _ t
    cases a with
    | nil => simp [memS]
    | cons x a =>
      cases b with
      | nil => simp [memS]
      | cons y b => exact (h x a y b rfl rfl).elim
theorem common_can (a b : List Sp) : ∀ c d, CanF c a → CanF d b → CanF (max c d) (common a b) := by
  fun_induction common a b with
  | case1 x a y b ih1 ih2 =>
    intro c d ha hb
    obtain ⟨a1, a2, a3⟩ := ha
    obtain ⟨b1, b2, b3⟩ := hb
    by_cases h : x.2 < y.2
    · have hr := ih1 _ _ a3 (show CanF d (y :: b) from ⟨b1, b2, b3⟩)
      rw [if_pos h]
      unfold piece
      split
      · exact ⟨by simp; omega, by simp; omega, hr.mono (by simp; omega)⟩
      · exact hr.mono (by omega)
    · have hr := ih2 _ _ (show CanF c (x :: a) from ⟨a1, a2, a3⟩) b3
      rw [if_neg h]
      unfold piece
      split
      · exact ⟨by simp; omega, by simp; omega, hr.mono (by simp; omega)⟩
      · exact hr.mono (by omega)
  | case2 => intro _ _ _ _; trivial
theorem common_length (a b : List Sp) : (common a b).length ≤ a.length + b.length := by
  have hp : ∀ x y : Sp, (piece x y).length ≤ 1 := fun x y => by unfold piece; split <;> simp
  fun_induction common a b with
  | case1 x a y b ih1 ih2 =>
    have := hp x y
    rw [List.length_append]
    split <;> simp only [List.length_cons] at * <;> omega
  | case2 => simp

/- the others -/
def othersGo : Int → List Sp → List Sp
  | k, [] => if k ≤ maxA then [(k, maxA)] else []
  | k, s :: r => (if k < s.1 then [(k, s.1 - 1)] else []) ++ othersGo (s.2 + 1) r
def others (l : List Sp) : List Sp := othersGo 0 l
theorem othersGo_mem : ∀ (l : List Sp) (k : Int), CanF (k - 1) l → (∀ s ∈ l, s.2 ≤ maxA) → ∀ t, memS (othersGo k l) t = (decide (k ≤ t) && decide (t ≤ maxA) && !memS l t)
  | [], k, _, _, t => by
    rw [Bool.eq_iff_iff]
    unfold othersGo
    split
    · simp [memS, inS]
    · simp [memS]; omega
  | s :: r, k, ⟨h1, h2, h3⟩, hm, t => by
    have hs := hm s (by simp)
    have ih := othersGo_mem r (s.2 + 1) (h3.mono (by omega)) (fun x hx => hm x (by simp [hx])) t
    have hr : t ≤ s.2 + 1 → memS r t = false := fun ht => by
      cases e : memS r t
      · rfl
      · have := CanF.gt h3 e; omega
    have hd : memS (if k < s.1 then [(k, s.1 - 1)] else []) t = (decide (k ≤ t) && decide (t < s.1)) := by
      rw [Bool.eq_iff_iff]
      split
      · simp [memS, inS]; omega
      · simp [memS]; omega
    unfold othersGo
    rw [memS_append, ih, hd, memS_cons]
    by_cases g1 : t < s.1
    · have e1 : inS s t = false := by
        cases e : inS s t
        · rfl
        · have := (inS_iff.1 e).1; omega
      rw [hr (by omega), e1]
      have e2 : decide (s.2 + 1 ≤ t) = false := by simp; omega
      have e3 : decide (t ≤ maxA) = true := by simp; omega
      simp [g1, e2, e3]
    · have e4 : decide (t < s.1) = false := by simpa using g1
      by_cases g2 : t ≤ s.2
      · have e1 : inS s t = true := inS_iff.2 ⟨by omega, g2⟩
        have e2 : decide (s.2 + 1 ≤ t) = false := by simp; omega
        simp [e4, e1, e2]
      · have e1 : inS s t = false := by
          cases e : inS s t
          · rfl
          · have := (inS_iff.1 e).2; omega
        have e2 : decide (s.2 + 1 ≤ t) = true := by simp; omega
        have e5 : decide (k ≤ t) = true := by simp; omega
        simp [e4, e1, e2, e5]
theorem othersGo_can : ∀ (l : List Sp) (k : Int), CanF (k - 1) l → CanF (k - 1) (othersGo k l)
  | [], k, _ => by
    unfold othersGo
    split
    · exact ⟨by simp; omega, by simpa using (by assumption), trivial⟩
    · trivial
  | s :: r, k, ⟨h1, h2, h3⟩ => by
    have ih := othersGo_can r (s.2 + 1) (h3.mono (by omega))
    unfold othersGo
    split
    · exact ⟨by simp; omega, by simp; omega, ih.mono (by simp; omega)⟩
    · exact ih.mono (by omega)
theorem othersGo_length : ∀ (l : List Sp) (k : Int), (othersGo k l).length ≤ l.length + 1
  | [], k => by unfold othersGo; split <;> simp
  | s :: r, k => by
    have := othersGo_length r (s.2 + 1)
    unfold othersGo
    split <;> simp <;> omega

/- how many -/
def cntS : List Sp → Int
  | [] => 0
  | s :: r => s.2 - s.1 + 1 + cntS r
def sumTo (f : Nat → Int) : Nat → Int
  | 0 => 0
  | n + 1 => sumTo f n + f n
theorem sumTo_add (f g : Nat → Int) : ∀ n, sumTo (fun i => f i + g i) n = sumTo f n + sumTo g n
  | 0 => rfl
  | n + 1 => by simp only [sumTo, sumTo_add f g n]; omega
theorem sumTo_congr {f g : Nat → Int} (h : ∀ i, f i = g i) (n : Nat) : sumTo f n = sumTo g n := by rw [show f = g from funext h]
def indS (l : List Sp) (i : Nat) : Int := if memS l i = true then 1 else 0
theorem sumTo_one (s : Sp) (h0 : 0 ≤ s.1) (h1 : s.1 ≤ s.2) : ∀ n : Nat, sumTo (fun i => if inS s i = true then 1 else 0) n = if (n : Int) ≤ s.1 then 0 else if (n : Int) ≤ s.2 + 1 then n - s.1 else s.2 - s.1 + 1
  | 0 => by simp [sumTo]; omega
  | n + 1 => by
    rw [sumTo, sumTo_one s h0 h1 n]
    by_cases g : inS s n = true
    · rw [if_pos g]
      rw [inS_iff] at g
      split <;> split <;> (try split) <;> omega
    · rw [if_neg g]
      rw [inS_iff] at g
      split <;> split <;> (try split) <;> (try split) <;> omega
theorem cnt_sum : ∀ (l : List Sp) (b : Int), -1 ≤ b → CanF b l → (∀ s ∈ l, s.2 ≤ maxA) → cntS l = sumTo (indS l) 4294967296
  | [], _, _, _, _ => by
    have : ∀ n, sumTo (indS []) n = 0 := fun n => by
      induction n with
      | zero => rfl
      | succ n ih => rw [sumTo, ih]; rfl
    rw [this]; rfl
  | s :: r, b, hb, ⟨h1, h2, h3⟩, hm => by
    have ih := cnt_sum r (s.2 + 1) (by omega) h3 (fun x hx => hm x (by simp [hx]))
    have hs := hm s (by simp)
    have hsum : sumTo (indS (s :: r)) 4294967296 = sumTo (fun i => if inS s i = true then 1 else 0) 4294967296 + sumTo (indS r) 4294967296 := by
      rw [← sumTo_add]
      refine sumTo_congr (fun i => ?_) _
      unfold indS
      rw [memS_cons]
      cases e : inS s i
      · simp
      · have : memS r i = false := by
          cases e' : memS r i
          · rfl
          · have := CanF.gt h3 e'
            have := (inS_iff.1 e).2
            omega
        simp [this]
    rw [hsum, ← ih, sumTo_one s (by omega) h2, cntS]
    unfold maxA at hs
    split <;> (try split) <;> omega
/-- Together they have as many as each, less what they have in common. -/
theorem cnt_law {a b u m : List Sp} (ha : CanF (-1) a) (hb : CanF (-1) b) (hu : CanF (-1) u) (hm : CanF (-1) m) (va : Valid a) (vb : Valid b) (vu : Valid u) (vm : Valid m)
    (h1 : ∀ t, memS u t = (memS a t || memS b t)) (h2 : ∀ t, memS m t = (memS a t && memS b t)) : cntS u + cntS m = cntS a + cntS b := by
  rw [cnt_sum a _ (Int.le_refl _) ha (fun s h => (va s h).2.2), cnt_sum b _ (Int.le_refl _) hb (fun s h => (vb s h).2.2), cnt_sum u _ (Int.le_refl _) hu (fun s h => (vu s h).2.2), cnt_sum m _ (Int.le_refl _) hm (fun s h => (vm s h).2.2),
    ← sumTo_add, ← sumTo_add]
  refine sumTo_congr (fun i => ?_) _
  unfold indS
  rw [h1, h2]
  cases memS a i <;> cases memS b i <;> rfl

/- faults -/
def spanFault (s : Sp) : Int := if isA s.1 = false ∨ isA s.2 = false then 1 else if s.2 < s.1 then 2 else 0
theorem spanFault_zero {s : Sp} : spanFault s = 0 ↔ 0 ≤ s.1 ∧ s.1 ≤ s.2 ∧ s.2 ≤ maxA := by
  unfold spanFault maxA
  by_cases h : isA s.1 = false ∨ isA s.2 = false
  · rw [if_pos h]
    rw [isA_false, isA_false] at h
    constructor
    · intro h; cases h
    · omega
  · rw [if_neg h]
    rw [isA_false, isA_false] at h
    split
    · constructor
      · intro h; cases h
      · omega
    · constructor
      · omega
      · intro _; rfl
def firstFault : List Sp → Int
  | [] => 0
  | s :: r => if spanFault s ≠ 0 then spanFault s else firstFault r
def makeFault (l : List Sp) : Int := if 64 < l.length then 3 else firstFault l
theorem firstFault_zero : ∀ {l : List Sp}, firstFault l = 0 ↔ Valid l
  | [] => by simp [firstFault, Valid]
  | s :: r => by
    unfold firstFault
    split
    · rename_i h
      exact ⟨fun h' => absurd h' h, fun hv => absurd (spanFault_zero.2 (hv s (by simp))) h⟩
    · rename_i h
      have h' : spanFault s = 0 := by simpa using h
      rw [firstFault_zero]
      constructor
      · intro hv x hx
        rcases List.mem_cons.1 hx with rfl | hx
        · exact spanFault_zero.1 h'
        · exact hv x hx
      · exact fun hv x hx => hv x (by simp [hx])
def badGap : Option Sp → Sp → Bool
  | some q, s => decide (s.1 ≤ q.2 + 1)
  | none, _ => false
def setGo : Option Sp → List Sp → Int
  | _, [] => 0
  | prev, s :: r => if isA s.1 = false ∨ isA s.2 = false then 1 else if s.2 < s.1 ∨ badGap prev s = true then 2 else setGo (some s) r
def setFault (l : List Sp) : Int := if 64 < l.length then 3 else setGo none l
theorem setGo_zero : ∀ {l : List Sp} {prev : Option Sp}, setGo prev l = 0 → Valid l ∧ (∀ q, prev = some q → CanF (q.2 + 1) l) ∧ CanF (-1) l
  | [], _, _ => ⟨by simp [Valid], fun _ _ => trivial, trivial⟩
  | s :: r, prev, h => by
    unfold setGo at h
    split at h
    · cases h
    · rename_i h1
      split at h
      · cases h
      · rename_i h2
        obtain ⟨g1, g2, _⟩ := setGo_zero h
        rw [isA_false, isA_false] at h1
        have hs : 0 ≤ s.1 ∧ s.1 ≤ s.2 ∧ s.2 ≤ maxA := by unfold maxA; omega
        refine ⟨fun x hx => ?_, fun q hq => ?_, ⟨by omega, hs.2.1, g2 s rfl⟩⟩
        · rcases List.mem_cons.1 hx with rfl | hx
          · exact hs
          · exact g1 x hx
        · subst hq
          refine ⟨?_, hs.2.1, g2 s rfl⟩
          have : badGap (some q) s = false := by
            cases e : badGap (some q) s
            · rfl
            · exact absurd (.inr e) h2
          simpa [badGap] using this
theorem setGo_of : ∀ {l : List Sp} {prev : Option Sp}, Valid l → CanF (-1) l → (∀ q, prev = some q → CanF (q.2 + 1) l) → setGo prev l = 0
  | [], _, _, _, _ => rfl
  | s :: r, prev, hv, hc, hp => by
    have hs := hv s (by simp)
    unfold maxA at hs
    unfold setGo
    rw [if_neg (by rw [isA_false, isA_false]; omega), if_neg, setGo_of (fun x hx => hv x (by simp [hx])) (hc.2.2.mono (by omega)) (fun q hq => by cases hq; exact hc.2.2)]
    rintro (h | h)
    · omega
    · cases prev with
      | none => simp [badGap] at h
      | some q =>
        have := (hp q rfl).1
        simp [badGap] at h
        omega
theorem set_good {l : List Sp} (h : setFault l = 0) : l.length ≤ 64 ∧ Valid l ∧ CanF (-1) l := by
  unfold setFault at h
  split at h
  · cases h
  · obtain ⟨g1, _, g3⟩ := setGo_zero h
    exact ⟨by omega, g1, g3⟩
theorem set_of {l : List Sp} (hl : l.length ≤ 64) (hv : Valid l) (hc : CanF (-1) l) : setFault l = 0 := by
  unfold setFault
  rw [if_neg (by omega)]
  exact setGo_of hv hc (by simp)
end Go.Proofs.YtmfaknngophmhaaDoor
