/- Parts of the proof; conditions: as each theorem says. -/
import Derived.Test.YthleniobcbdepaaGreatDoorP37
import Derived.Test.YthleniobcbdepaaGreatDoorP45
import Derived.Test.YthleniobcbdepaaGreatDoorP48
import Derived.Test.YthleniobcbdepaaGreatDoorP41
import Derived.Test.YthleniobcbdepaaGreatDoorP11
import Derived.Test.YthleniobcbdepaaGreatDoorP16
import Derived.Test.YthleniobcbdepaaGreatDoorP24
set_option linter.unusedVariables false
set_option linter.unusedSimpArgs false
namespace Go.Proofs.YthleniobcbdepaaGreatDoor
open Go.RowKit
def FinB (V : Base) : Prop := ∃ K : List (List UInt8), ∀ s, V s ≠ none → s ∈ K
theorem view_ex {V : Base} (h : FinB V) (lo hi : List UInt8) : ∃ L, ViewIs V lo hi L := by
 obtain ⟨K, hK⟩ := h
 have key : ∀ K : List (List UInt8), ∃ own : List Chg, RiseC own ∧ (∀ c ∈ own, c.gone = false ∧ inB lo hi c.key = true ∧ V c.key = some c.val) ∧ ∀ s v, s ∈ K → inB lo hi s = true → V s = some v → (⟨s, v, false⟩ : Chg) ∈ own := by
  intro K
  induction K with
  | nil => exact ⟨[], List.Pairwise.nil, by simp, by simp⟩
  | cons a K ih =>
   obtain ⟨own, h1, h2, h3⟩ := ih
   by_cases ha : inB lo hi a = true
   ·cases hv : V a with
    | none =>
     refine ⟨own, h1, h2, fun s v hs hi hv' => ?_⟩
     rcases List.mem_cons.1 hs with rfl | hs
     ·rw [hv] at hv'; cases hv'
     ·exact h3 s v hs hi hv'
    | some u =>
     refine ⟨insC ⟨a, u, false⟩ own, insC_rise h1, fun c hc => ?_, fun s v hs hi hv' => ?_⟩
     ·rcases (insC_mem h1).1 hc with rfl | ⟨hc, _⟩
      ·exact ⟨rfl, ha, hv⟩
      ·exact h2 c hc
     ·refine (insC_mem h1).2 ?_
      by_cases e : s = a
      ·subst e
       rw [hv] at hv'
       injection hv' with hv'
       subst hv'
       exact .inl rfl
      ·rcases List.mem_cons.1 hs with q | hs
       ·exact absurd q e
       ·exact .inr ⟨h3 s v hs hi hv', e⟩
   ·refine ⟨own, h1, h2, fun s v hs hi hv' => ?_⟩
    rcases List.mem_cons.1 hs with rfl | hs
    ·exact absurd hi ha
    ·exact h3 s v hs hi hv'
 obtain ⟨own, h1, h2, h3⟩ := key K
 refine ⟨own.map (fun c => (c.key, c.val)), ?_, fun s v => ?_⟩
 ·unfold Rise
  rw [List.pairwise_map]
  exact h1
 ·rw [List.mem_map]
  constructor
  ·rintro ⟨c, hc, e⟩
   injection e with e1 e2
   subst e1
   subst e2
   exact ⟨(h2 c hc).2.1, (h2 c hc).2.2⟩
  ·rintro ⟨q1, q2⟩
   exact ⟨_, h3 s v (hK s (by rw [q2]; simp)) q1 q2, rfl⟩
theorem rangeB_is {V : Base} (h : FinB V) (lo hi : List UInt8) : ViewIs V lo hi (rangeB V lo hi) := by
 obtain ⟨L, hL⟩ := view_ex h lo hi
 rw [rangeB_eq hL]
 exact hL
structure OrdV (V : Base) : Prop where
 fin : FinB V
 each : ∀ s v, V s = some v → (keyI s).kind ≠ 0 ∧ nameB v = true
 net : ∀ s, V s ≠ none → ∃ s', V s' ≠ none ∧ (keyI s').kind = 1 ∧ (keyI s').net = (keyI s).net
 cov : ∀ s, V s ≠ none → (keyI s).kind = 3 → ∃ s', V s' ≠ none ∧ (keyI s').kind = 2 ∧ (keyI s').net = (keyI s).net ∧ inA ((keyI s).ad : Int) (((keyI s').pa : Int), ((keyI s').pn : Int)) = true
noncomputable def turnV (V : Base) (c : Chg) : Base := updO V c.key (if c.gone then none else some c.val)
theorem turnV_same (V : Base) (c : Chg) : turnV V c c.key = if c.gone then none else some c.val := updO_same _ _ _
theorem turnV_other (V : Base) (c : Chg) {s : List UInt8} (h : s ≠ c.key) : turnV V c s = V s := updO_other _ _ h
theorem see_ins (β : Base) {own : List Chg} (h : RiseC own) (c : Chg) : seeB β (insC c own) = turnV (seeB β own) c := by
 funext s
 unfold seeB turnV
 rw [findO_ins h]
 by_cases e : s = c.key
 ·subst e
  rw [updO_same, updO_same]
 ·rw [updO_other _ _ e, updO_other _ _ e]
theorem seeB_nil (β : Base) : seeB β [] = β := by
 funext s
 rfl
theorem FinB.turn {V : Base} (h : FinB V) (c : Chg) : FinB (turnV V c) := by
 obtain ⟨K, hK⟩ := h
 refine ⟨c.key :: K, fun s hs => ?_⟩
 by_cases e : s = c.key
 ·rw [e]; exact List.mem_cons_self
 ·rw [turnV_other _ _ e] at hs
  exact List.mem_cons_of_mem _ (hK s hs)
theorem some_ne {α : Type} {x : Option α} (h : x ≠ none) : ∃ v, x = some v := by
 cases x with
 | none => exact absurd rfl h
 | some v => exact ⟨v, rfl⟩
theorem readAll_ne {α : Type} (f : KV → Option α) : ∀ l : List KV, (∀ x ∈ l, (f x).isSome = true) → readAll f l ≠ none
 | [], _, e => by cases e
 | x :: l, hl, e => by
  unfold readAll at e
  have h1 := hl x List.mem_cons_self
  have h2 := readAll_ne f l (fun y hy => hl y (List.mem_cons_of_mem _ hy))
  cases e1 : f x with
  | none => rw [e1] at h1; cases h1
  | some a =>
   cases e2 : readAll f l with
   | none => exact h2 e2
   | some r => rw [e1, e2] at e; cases e
theorem readAll_has {α : Type} (f : KV → Option α) : ∀ (l : List KV) (out : List α), readAll f l = some out → ∀ x ∈ l, ∀ y, f x = some y → y ∈ out
 | [], out, _, x, hx, _, _ => by cases hx
 | z :: l, out, h, x, hx, y, hy => by
  unfold readAll at h
  cases e1 : f z with
  | none => rw [e1] at h; simp at h
  | some a =>
   cases e2 : readAll f l with
   | none => rw [e1, e2] at h; simp at h
   | some r =>
    rw [e1, e2] at h
    simp at h
    subst h
    rcases List.mem_cons.1 hx with rfl | hx
    ·rw [e1] at hy
     injection hy with hy
     rw [hy]; exact List.mem_cons_self
    ·exact List.mem_cons_of_mem _ (readAll_has f l r e2 x hx y hy)
section
variable {V : Base}
theorem OrdV.nil : OrdV (fun _ => none) := ⟨⟨[], fun s h => absurd rfl h⟩, fun s v h => (by cases h), fun s h => absurd rfl h, fun s h => absurd rfl h⟩
theorem OrdV.put (h : OrdV V) (s v : List UInt8) (hk : (keyI s).kind ≠ 0) (hv : nameB v = true)
  (hnet : (keyI s).kind = 1 ∨ ∃ s', V s' ≠ none ∧ (keyI s').kind = 1 ∧ (keyI s').net = (keyI s).net)
  (hcov : (keyI s).kind = 3 → ∃ s', V s' ≠ none ∧ (keyI s').kind = 2 ∧ (keyI s').net = (keyI s).net ∧ inA ((keyI s).ad : Int) (((keyI s').pa : Int), ((keyI s').pn : Int)) = true) : OrdV (turnV V ⟨s, v, false⟩) := by
 have up : ∀ x, V x ≠ none → turnV V ⟨s, v, false⟩ x ≠ none := fun x hx => by
  by_cases e : x = s
  ·subst e
   rw [turnV_same V ⟨x, v, false⟩]; simp
  ·rw [turnV_other _ _ e]; exact hx
 have hs : turnV V ⟨s, v, false⟩ s ≠ none := by rw [turnV_same V ⟨s, v, false⟩]; simp
 refine ⟨h.fin.turn _, fun x u hx => ?_, fun x hx => ?_, fun x hx h3 => ?_⟩
 ·by_cases e : x = s
  ·subst e
   rw [turnV_same V ⟨x, v, false⟩] at hx
   injection hx with hx
   subst hx
   exact ⟨hk, hv⟩
  ·rw [turnV_other _ _ e] at hx
   exact h.each x u hx
 ·by_cases e : x = s
  ·subst e
   rcases hnet with q | ⟨s', q1, q2⟩
   ·exact ⟨x, hs, q, rfl⟩
   ·exact ⟨s', up _ q1, q2⟩
  ·rw [turnV_other _ _ e] at hx
   obtain ⟨s', q1, q2⟩ := h.net x hx
   exact ⟨s', up _ q1, q2⟩
 ·by_cases e : x = s
  ·subst e
   obtain ⟨s', q1, q2⟩ := hcov h3
   exact ⟨s', up _ q1, q2⟩
  ·rw [turnV_other _ _ e] at hx
   obtain ⟨s', q1, q2⟩ := h.cov x hx h3
   exact ⟨s', up _ q1, q2⟩
theorem OrdV.dropA (h : OrdV V) (s : List UInt8) (hk : (keyI s).kind = 3) : OrdV (turnV V ⟨s, [], true⟩) := by
 have dn : ∀ x, turnV V ⟨s, [], true⟩ x ≠ none → x ≠ s ∧ V x ≠ none := fun x hx => by
  by_cases e : x = s
  ·subst e
   rw [turnV_same V ⟨x, [], true⟩] at hx
   exact absurd rfl hx
  ·rw [turnV_other _ _ e] at hx; exact ⟨e, hx⟩
 have up : ∀ x, V x ≠ none → (keyI x).kind ≠ 3 → turnV V ⟨s, [], true⟩ x ≠ none := fun x hx h3 => by
  rw [turnV_other _ _ (show x ≠ (⟨s, [], true⟩ : Chg).key from fun e => h3 (by rw [e]; exact hk))]
  exact hx
 refine ⟨h.fin.turn _, fun x u hx => ?_, fun x hx => ?_, fun x hx h3 => ?_⟩
 ·have := dn x (by rw [hx]; simp)
  rw [turnV_other _ _ this.1] at hx
  exact h.each x u hx
 ·obtain ⟨s', q1, q2, q3⟩ := h.net x (dn x hx).2
  exact ⟨s', up _ q1 (by omega), q2, q3⟩
 ·obtain ⟨s', q1, q2, q3⟩ := h.cov x (dn x hx).2 h3
  exact ⟨s', up _ q1 (by omega), q2, q3⟩
theorem OrdV.dropP (h : OrdV V) (s : List UInt8) (hk : (keyI s).kind = 2)
  (hc : ∀ x, V x ≠ none → (keyI x).kind = 3 → (keyI x).net = (keyI s).net → inA ((keyI x).ad : Int) (((keyI s).pa : Int), ((keyI s).pn : Int)) = true → ∃ s', s' ≠ s ∧ V s' ≠ none ∧ (keyI s').kind = 2 ∧ (keyI s').net = (keyI x).net ∧ inA ((keyI x).ad : Int) (((keyI s').pa : Int), ((keyI s').pn : Int)) = true) : OrdV (turnV V ⟨s, [], true⟩) := by
 have dn : ∀ x, turnV V ⟨s, [], true⟩ x ≠ none → x ≠ s ∧ V x ≠ none := fun x hx => by
  by_cases e : x = s
  ·subst e
   rw [turnV_same V ⟨x, [], true⟩] at hx
   exact absurd rfl hx
  ·rw [turnV_other _ _ e] at hx; exact ⟨e, hx⟩
 have up : ∀ x, V x ≠ none → x ≠ s → turnV V ⟨s, [], true⟩ x ≠ none := fun x hx h3 => by
  rw [turnV_other _ _ (show x ≠ (⟨s, [], true⟩ : Chg).key from h3)]
  exact hx
 refine ⟨h.fin.turn _, fun x u hx => ?_, fun x hx => ?_, fun x hx h3 => ?_⟩
 ·have := dn x (by rw [hx]; simp)
  rw [turnV_other _ _ this.1] at hx
  exact h.each x u hx
 ·obtain ⟨s', q1, q2, q3⟩ := h.net x (dn x hx).2
  exact ⟨s', up _ q1 (fun e => by rw [e] at q2; omega), q2, q3⟩
 ·have hx' := (dn x hx).2
  obtain ⟨s', q1, q2, q3, q4⟩ := h.cov x hx' h3
  by_cases e : s' = s
  ·subst e
   obtain ⟨s2, r1, r2, r3⟩ := hc x hx' h3 q3.symm q4
   exact ⟨s2, up _ r2 r1, r3⟩
  ·exact ⟨s', up _ q1 e, q2, q3, q4⟩
theorem OrdV.pfxs (h : OrdV V) {net : List UInt8} (hn : nameB net = true) : ∃ out, readAll pfxO (rangeB V (loK 112 net) (hiK 112 net)) = some out ∧
  ∀ q, q ∈ out ↔ ∃ s, V s ≠ none ∧ (keyI s).kind = 2 ∧ (keyI s).net = net ∧ q = (((keyI s).pa : Int), ((keyI s).pn : Int)) := by
 have hR := rangeB_is h.fin (loK 112 net) (hiK 112 net)
 have hin : ∀ s v, (s, v) ∈ rangeB V (loK 112 net) (hiK 112 net) → (keyI s).kind = 2 ∧ (keyI s).net = net := fun s v hs => by
  have := (hR.mem s v).1 hs
  exact (range_2 hn (h.each s v this.2).1).1 this.1
 cases hr : readAll pfxO (rangeB V (loK 112 net) (hiK 112 net)) with
 | none =>
  exfalso
  refine readAll_ne pfxO _ (fun x hx => ?_) hr
  obtain ⟨s, v⟩ := x
  unfold pfxO
  rw [if_pos (hin s v hx).1]
  rfl
 | some out =>
  refine ⟨out, rfl, fun q => ⟨fun hq => ?_, ?_⟩⟩
  ·obtain ⟨x, hx, e⟩ := readAll_mem pfxO _ out hr q hq
   obtain ⟨s, v⟩ := x
   have h1 := hin s v hx
   have h2 := (hR.mem s v).1 hx
   refine ⟨s, by rw [h2.2]; simp, h1.1, h1.2, ?_⟩
   unfold pfxO at e
   rw [if_pos h1.1] at e
   injection e with e
   exact e.symm
  ·rintro ⟨s, h1, h2, h3, rfl⟩
   obtain ⟨v, hv⟩ := some_ne h1
   have hx := (hR.mem s v).2 ⟨(range_2 hn (h.each s v hv).1).2 ⟨h2, h3⟩, hv⟩
   exact readAll_has pfxO _ out hr (s, v) hx _ (by unfold pfxO; rw [if_pos h2])
theorem OrdV.ads (h : OrdV V) {net : List UInt8} (hn : nameB net = true) : ∃ out, readAll adO (rangeB V (loK 97 net) (hiK 97 net)) = some out ∧
  ∀ q, q ∈ out ↔ ∃ s, V s ≠ none ∧ (keyI s).kind = 3 ∧ (keyI s).net = net ∧ q = ((keyI s).ad : Int) := by
 have hR := rangeB_is h.fin (loK 97 net) (hiK 97 net)
 have hin : ∀ s v, (s, v) ∈ rangeB V (loK 97 net) (hiK 97 net) → (keyI s).kind = 3 ∧ (keyI s).net = net := fun s v hs => by
  have := (hR.mem s v).1 hs
  exact (range_3 hn (h.each s v this.2).1).1 this.1
 cases hr : readAll adO (rangeB V (loK 97 net) (hiK 97 net)) with
 | none =>
  exfalso
  refine readAll_ne adO _ (fun x hx => ?_) hr
  obtain ⟨s, v⟩ := x
  unfold adO
  rw [if_pos (hin s v hx).1]
  rfl
 | some out =>
  refine ⟨out, rfl, fun q => ⟨fun hq => ?_, ?_⟩⟩
  ·obtain ⟨x, hx, e⟩ := readAll_mem adO _ out hr q hq
   obtain ⟨s, v⟩ := x
   have h1 := hin s v hx
   have h2 := (hR.mem s v).1 hx
   refine ⟨s, by rw [h2.2]; simp, h1.1, h1.2, ?_⟩
   unfold adO at e
   rw [if_pos h1.1] at e
   injection e with e
   exact e.symm
  ·rintro ⟨s, h1, h2, h3, rfl⟩
   obtain ⟨v, hv⟩ := some_ne h1
   have hx := (hR.mem s v).2 ⟨(range_3 hn (h.each s v hv).1).2 ⟨h2, h3⟩, hv⟩
   exact readAll_has adO _ out hr (s, v) hx _ (by unfold adO; rw [if_pos h2])
end
def Wp (β : Base) (p : DP (PAns × Int)) (t : St) (Q : PAns → Int → List Chg → Prop) : Prop := Q (p.runS β t).1.1 (p.runS β t).1.2 (p.runS β t).2.own
section
variable {β : Base} {t : St} {Q : PAns → Int → List Chg → Prop}
theorem Wp.no (e : Int) (h : Q noAns e t.own) : Wp β (noP e) t Q := h
theorem Wp.ite {b : Prop} [Decidable b] {p q : DP (PAns × Int)} (h1 : b → Wp β p t Q) (h2 : ¬ b → Wp β q t Q) : Wp β (if b then p else q) t Q := by
 by_cases h : b
 ·rw [if_pos h]; exact h1 h
 ·rw [if_neg h]; exact h2 h
theorem Wp.chg (c : Chg) (a : PAns) (h1 : ∀ e, e ≠ 0 → Q noAns e t.own) (h2 : keyB c.key = true → c.val.length ≤ 12 → Q a 0 (insC c t.own)) : Wp β (chgP c a) t Q := by
 show Q (if (t.change c).1 = 0 then a else noAns) (t.change c).1 (t.change c).2.own
 unfold St.change
 split
 ·exact h1 2 (by decide)
 ·rename_i hk
  split
  ·exact h1 3 (by decide)
  ·refine h2 ?_ (Nat.le_of_not_lt (fun q => hk (.inr q)))
   cases e : keyB c.key with
   | true => rfl
   | false => exact absurd (.inl e) hk
theorem Wp.has (s : List UInt8) (f : Bool × Int → DP (PAns × Int))
  (H : ∀ (b : Bool) (e : Int) (t' : St), t'.own = t.own → (e = 0 → b = true → seeB β t.own s ≠ none) → (e = 0 → b = false → seeB β t.own s = none) → Wp β (f (b, e)) t' Q) : Wp β ((hasP s).bind f) t Q := by
 refine H (decide ((t.get β s).1.2 = 0)) (if (t.get β s).1.2 = 4 then 0 else (t.get β s).1.2) (t.get β s).2 (St.get_own β t s) ?_ ?_
 ·intro he hb
  have hb := of_decide_eq_true hb
  unfold St.get at hb
  split at hb
  ·exact absurd hb (by simp)
  ·split at hb
   ·exact absurd hb (by simp)
   ·unfold getB at hb
    split at hb
    ·rename_i v hv; rw [hv]; simp
    ·exact absurd hb (by simp)
 ·intro he hb
  have hb := of_decide_eq_false hb
  unfold St.get at hb he
  split at hb
  ·rename_i q; rw [if_pos q] at he; exact absurd he (by simp)
  ·rename_i q
   rw [if_neg q] at he
   split at hb
   ·rename_i q2; rw [if_pos q2] at he; exact absurd he (by simp)
   ·unfold getB at hb
    split at hb
    ·exact absurd rfl hb
    ·rename_i hv; exact hv
theorem Wp.pfxs (net : List UInt8) (f : Int × List Pf → DP (PAns × Int))
  (H : ∀ (e : Int) (L : List Pf) (t' : St), t'.own = t.own → (e = 0 → readAll pfxO (rangeB (seeB β t.own) (loK 112 net) (hiK 112 net)) = some L) → Wp β (f (e, L)) t' Q) : Wp β ((pfxsP net).bind f) t Q := by
 refine H _ _ (t.range β (loK 112 net) (hiK 112 net)).2 (St.range_own β t _ _) ?_
 unfold St.range
 split
 ·intro q; exact absurd q (by simp [faultL])
 ·simp only [faultL, listL]
  intro q
  cases h : readAll pfxO (rangeB (seeB β t.own) (loK 112 net) (hiK 112 net)) with
  | none => rw [h] at q; simp at q
  | some L => simp
theorem Wp.ads (net : List UInt8) (f : Int × List Int → DP (PAns × Int))
  (H : ∀ (e : Int) (L : List Int) (t' : St), t'.own = t.own → (e = 0 → readAll adO (rangeB (seeB β t.own) (loK 97 net) (hiK 97 net)) = some L) → Wp β (f (e, L)) t' Q) : Wp β ((adsP net).bind f) t Q := by
 refine H _ _ (t.range β (loK 97 net) (hiK 97 net)).2 (St.range_own β t _ _) ?_
 unfold St.range
 split
 ·intro q; exact absurd q (by simp [faultL])
 ·simp only [faultL, listL]
  intro q
  cases h : readAll adO (rangeB (seeB β t.own) (loK 97 net) (hiK 97 net)) with
  | none => rw [h] at q; simp at q
  | some L => simp
theorem Wp.quiet (p : DP (PAns × Int)) (hp : p.noChg) (h : ∀ a e, Q a e t.own) : Wp β p t Q := by
 unfold Wp
 rw [DP.noChg_own β p t hp]
 exact h _ _
theorem bind_no {α γ : Type} (f : α → DP γ) (hf : ∀ x, (f x).noChg) : ∀ p : DP α, p.noChg → (p.bind f).noChg
 | .ret a, _ => hf a
 | .get _ k, h => fun x => bind_no f hf (k x) (h x)
 | .range _ _ k, h => fun x => bind_no f hf (k x) (h x)
 | .chg _ _, h => h.elim
theorem if_no {α : Type} {b : Prop} [Decidable b] {p q : DP α} (h1 : p.noChg) (h2 : q.noChg) : (if b then p else q).noChg := by split <;> assumption
theorem listP_no (c : PCall) : (listP c).noChg := bind_no (fun l : Int × List Pf => (.ret (⟨0, 0, 0, [], l.2⟩, l.1) : DP (PAns × Int))) (fun _ => trivial) _ (pfxsP_no _)
theorem whoP_no (c : PCall) : (whoP c).noChg := by
 intro x
 refine if_no trivial (if_no trivial ?_)
 intro y
 exact if_no trivial (if_no trivial trivial)
end
theorem callFault_zero {c : PCall} (h : callFault c = 0) : (1 ≤ c.what ∧ c.what ≤ 9) ∧ nameB c.name = true ∧ (callOwned c.what = true → nameB c.owner = true) ∧ (callPf c.what = true → chk c.pa c.pn = 0) ∧ (callAd c.what = true → isA c.ad = true) := by
 unfold callFault at h
 split at h
 ·exact absurd h (by decide)
 ·rename_i h1
  split at h
  ·exact absurd h (by decide)
  ·rename_i h2
   split at h
   ·exact absurd h (by decide)
   ·rename_i h3
    refine ⟨by omega, by cases e : nameB c.name with | true => rfl | false => exact absurd e h2, fun q => ?_, fun q => ?_, fun q => ?_⟩
    ·cases e : nameB c.owner with
     | true => rfl
     | false => exact absurd ⟨q, e⟩ h3
    ·rw [if_pos q] at h; exact h
    ·by_cases h4 : callPf c.what = true
     ·exfalso
      unfold callPf at h4
      unfold callAd at q
      simp at h4 q
      omega
     ·rw [if_neg h4] at h
      cases e : isA c.ad with
      | true => rfl
      | false => rw [if_pos ⟨q, e⟩] at h; exact absurd h (by decide)
theorem pf_nat {p : Pf} (h : chk p.1 p.2 = 0) : ((p.1.toNat : Int) = p.1) ∧ ((p.2.toNat : Int) = p.2) := by
 have := chk_zero.1 h
 omega
theorem keyI_pk {net : List UInt8} (hn : nameB net = true) {p : Pf} (h : chk p.1 p.2 = 0) : keyI (pkOf net p) = ⟨2, net, p.1.toNat, p.2.toNat, 0⟩ := by
 unfold pkOf
 exact keyI_p hn (by rw [(pf_nat h).1, (pf_nat h).2]; exact h)
theorem keyI_ak {net : List UInt8} (hn : nameB net = true) {a : Int} (h : isA a = true) : keyI (akOf net a) = ⟨3, net, 0, 0, a.toNat⟩ := by
 unfold akOf
 have := isA_true.1 h
 exact keyI_a hn (by omega)
theorem sz32 : sz 32 = 1 := by decide
theorem inA_iff {a : Int} {p : Pf} : inA a p = true ↔ p.1 ≤ a ∧ a ≤ lastP p := by
 unfold inA inP lastP
 rw [show lastA a 32 = a by unfold lastA; rw [sz32]; omega]
 simp
theorem nextR_in (p : Pf) (used : List Int) (h : (nextR p used).1 = 0) : inA (nextR p used).2 p = true ∧ chk p.1 p.2 = 0 := by
 unfold nextR at h ⊢
 by_cases hf : usedFault p.1 p.2 used = 0
 ·rw [if_neg (by rw [hf]; simp)] at h ⊢
  by_cases hx : uHi p.1 p.2 < nextOf p.1 p.2 used
  ·rw [if_pos hx] at h; exact absurd h (by decide)
  ·rw [if_neg hx]
   have hc := (usedFault_zero.1 hf).1
   obtain ⟨u1, u2, u3⟩ := uSpan hc
   have hs := nextOf_spec p.1 p.2 used u1
   refine ⟨inA_iff.2 ⟨?_, ?_⟩, hc⟩
   ·have h1 := hs.1
    show p.1 ≤ nextOf p.1 p.2 used
    unfold uLo at h1
    split at h1 <;> omega
   ·show nextOf p.1 p.2 used ≤ lastA p.1 p.2
    have h1 : nextOf p.1 p.2 used ≤ uHi p.1 p.2 := by omega
    unfold uHi at h1
    split at h1 <;> omega
 ·rw [if_pos hf] at h; exact absurd h hf
theorem coveredB_iff {a : Int} {l : List Pf} {but : Pf} : coveredB a l but = true ↔ ∃ p ∈ l, p ≠ but ∧ inA a p = true := by
 unfold coveredB
 rw [List.any_eq_true]
 simp
def KeepO (β : Base) (own : List Chg) : Prop := OrdV (seeB β own) ∧ RiseC own
def NetIn (V : Base) (net : List UInt8) : Prop := ∃ s', V s' ≠ none ∧ (keyI s').kind = 1 ∧ (keyI s').net = net
section
variable {β : Base} {own : List Chg}
theorem KeepO.net (h : KeepO β own) {net v : List UInt8} (hn : nameB net = true) (hv : nameB v = true) : KeepO β (insC ⟨nKey net, v, false⟩ own) :=
 ⟨by rw [see_ins β h.2]; exact h.1.put _ _ (by rw [keyI_n hn]; simp) hv (.inl (by rw [keyI_n hn])) (fun q => by rw [keyI_n hn] at q; cases q), insC_rise h.2⟩
theorem KeepO.pfx (h : KeepO β own) {net v : List UInt8} (hn : nameB net = true) (hv : nameB v = true) {p : Pf} (hp : chk p.1 p.2 = 0) (hN : NetIn (seeB β own) net) : KeepO β (insC ⟨pkOf net p, v, false⟩ own) :=
 ⟨by
  rw [see_ins β h.2]
  refine h.1.put _ _ (by rw [keyI_pk hn hp]; simp) hv (.inr ?_) (fun q => by rw [keyI_pk hn hp] at q; cases q)
  rw [keyI_pk hn hp]
  exact hN, insC_rise h.2⟩
theorem KeepO.adr (h : KeepO β own) {net v : List UInt8} (hn : nameB net = true) (hv : nameB v = true) {a : Int} (ha : isA a = true) (hN : NetIn (seeB β own) net)
  (hC : ∃ s', seeB β own s' ≠ none ∧ (keyI s').kind = 2 ∧ (keyI s').net = net ∧ inA a (((keyI s').pa : Int), ((keyI s').pn : Int)) = true) : KeepO β (insC ⟨akOf net a, v, false⟩ own) :=
 ⟨by
  have h0 := isA_true.1 ha
  rw [see_ins β h.2]
  refine h.1.put _ _ (by rw [keyI_ak hn ha]; simp) hv (.inr ?_) (fun q => ?_)
  ·rw [keyI_ak hn ha]
   exact hN
  ·rw [keyI_ak hn ha]
   simp only
   rw [show ((a.toNat : Nat) : Int) = a by omega]
   exact hC, insC_rise h.2⟩
theorem KeepO.leave (h : KeepO β own) {net : List UInt8} (hn : nameB net = true) {a : Int} (ha : isA a = true) : KeepO β (insC ⟨akOf net a, [], true⟩ own) :=
 ⟨by rw [see_ins β h.2]; exact h.1.dropA _ (by rw [keyI_ak hn ha]), insC_rise h.2⟩
end
section
variable {β : Base} {t : St} (c : PCall)
abbrev QO (β : Base) : PAns → Int → List Chg → Prop := fun _ _ own => KeepO β own
theorem ord_add (h : KeepO β t.own) (hn : nameB c.name = true) (hv : nameB c.owner = true) (hp : chk c.pa c.pn = 0) (hN : NetIn (seeB β t.own) c.name) : Wp β (addP c) t (QO β) := by
 unfold addP
 refine Wp.has _ _ (fun b e t1 e1 hy hno => ?_)
 refine Wp.ite (fun _ => Wp.no _ (by rw [e1]; exact h)) (fun _ => Wp.ite (fun _ => Wp.no _ (by rw [e1]; exact h)) (fun _ => Wp.chg _ _ (fun _ _ => by rw [e1]; exact h) (fun _ _ => ?_)))
 rw [e1]
 exact h.pfx hn hv (p := c.pf) hp hN
theorem ord_leave (h : KeepO β t.own) (hn : nameB c.name = true) (ha : isA c.ad = true) : Wp β (leaveP c) t (QO β) := by
 unfold leaveP
 refine Wp.has _ _ (fun b e t1 e1 hy hno => ?_)
 refine Wp.ite (fun _ => Wp.no _ (by rw [e1]; exact h)) (fun _ => Wp.ite (fun _ => Wp.no _ (by rw [e1]; exact h)) (fun _ => Wp.chg _ _ (fun _ _ => by rw [e1]; exact h) (fun _ _ => ?_)))
 rw [e1]
 exact h.leave hn ha
theorem ord_take (h : KeepO β t.own) (hn : nameB c.name = true) (hp : chk c.pa c.pn = 0) : Wp β (takeP c) t (QO β) := by
 unfold takeP
 refine Wp.has _ _ (fun b e t1 e1 hy hno => ?_)
 have h1 : KeepO β t1.own := by rw [e1]; exact h
 refine Wp.ite (fun _ => Wp.no _ h1) (fun _ => Wp.ite (fun _ => Wp.no _ h1) (fun _ => ?_))
 refine Wp.pfxs _ _ (fun e2 L t2 e2' hL => ?_)
 have h2 : KeepO β t2.own := by rw [e2']; exact h1
 refine Wp.ite (fun _ => Wp.no _ h2) (fun q2 => ?_)
 have q2 : e2 = 0 := Decidable.not_not.1 q2
 refine Wp.ads _ _ (fun e3 A t3 e3' hA => ?_)
 have h3 : KeepO β t3.own := by rw [e3']; exact h2
 refine Wp.ite (fun _ => Wp.no _ h3) (fun q3 => ?_)
 have q3 : e3 = 0 := Decidable.not_not.1 q3
 refine Wp.ite (fun _ => Wp.no _ h3) (fun q4 => Wp.ite (fun _ => Wp.no _ h3) (fun q5 => Wp.chg _ _ (fun _ _ => h3) (fun _ _ => ?_)))
 have hL := hL q2
 have hA := hA q3
 rw [← e2'] at hL
 have hks := keyI_pk hn (p := c.pf) hp
 obtain ⟨out, o1, o2⟩ := h2.1.pfxs hn
 rw [hL] at o1
 injection o1 with o1
 subst o1
 obtain ⟨out, a1, a2⟩ := h2.1.ads hn
 rw [hA] at a1
 injection a1 with a1
 subst a1
 have h3' := h3
 rw [e3'] at h3'
 refine ⟨?_, by rw [e3']; exact insC_rise h2.2⟩
 rw [e3', see_ins β h2.2]
 refine h2.1.dropP _ (by show (keyI (pkOf c.name c.pf)).kind = 2; rw [hks]) (fun x hx hk hnet hin => ?_)
 have hks' : keyI c.pk = ⟨2, c.name, c.pf.1.toNat, c.pf.2.toNat, 0⟩ := hks
 rw [hks'] at hnet hin
 simp only at hnet hin
 rw [(pf_nat (p := c.pf) hp).1, (pf_nat (p := c.pf) hp).2] at hin
 have hmem : ((keyI x).ad : Int) ∈ A := (a2 _).2 ⟨x, hx, hk, hnet, rfl⟩
 have hcov : coveredB ((keyI x).ad : Int) L c.pf = true := by
  cases hcv : coveredB ((keyI x).ad : Int) L c.pf with
  | true => rfl
  | false =>
   exfalso
   apply q5
   rw [List.any_eq_true]
   exact ⟨_, hmem, by rw [hcv]; simpa using hin⟩
 obtain ⟨p, p1, p2, p3⟩ := coveredB_iff.1 hcov
 obtain ⟨s', r1, r2, r3, r4⟩ := (o2 p).1 p1
 refine ⟨s', fun e => p2 ?_, r1, r2, by rw [r3, hnet], by rw [← r4]; exact p3⟩
 rw [r4, e, hks']
 simp only
 rw [(pf_nat (p := c.pf) hp).1, (pf_nat (p := c.pf) hp).2]
theorem ord_place (h : KeepO β t.own) (hn : nameB c.name = true) (hv : nameB c.owner = true) (ha : isA c.ad = true) (hN : NetIn (seeB β t.own) c.name) : Wp β (placeP c) t (QO β) := by
 unfold placeP
 refine Wp.pfxs _ _ (fun e2 L t2 e2' hL => ?_)
 have h2 : KeepO β t2.own := by rw [e2']; exact h
 refine Wp.ite (fun _ => Wp.no _ h2) (fun q2 => ?_)
 have q2 : e2 = 0 := Decidable.not_not.1 q2
 refine Wp.has _ _ (fun b e t3 e3' hy hno => ?_)
 have h3 : KeepO β t3.own := by rw [e3']; exact h2
 refine Wp.ite (fun _ => Wp.no _ h3) (fun _ => Wp.ite (fun _ => Wp.no _ h3) (fun q4 => Wp.ite (fun _ => Wp.no _ h3) (fun _ => Wp.chg _ _ (fun _ _ => h3) (fun _ _ => ?_))))
 obtain ⟨out, o1, o2⟩ := h.1.pfxs hn
 rw [hL q2] at o1
 injection o1 with o1
 subst o1
 have q4 : coveredB c.ad L (0, -1) = true := by
  cases e : coveredB c.ad L (0, -1) with
  | true => rfl
  | false => exact absurd e q4
 obtain ⟨p, p1, p2, p3⟩ := coveredB_iff.1 q4
 obtain ⟨s', r1, r2, r3, r4⟩ := (o2 p).1 p1
 rw [e3', e2']
 exact h.adr hn hv ha hN ⟨s', r1, r2, r3, by rw [← r4]; exact p3⟩
theorem ord_nextP (h : KeepO β t.own) (hn : nameB c.name = true) (hv : nameB c.owner = true) (hN : NetIn (seeB β t.own) c.name) : Wp β (nextPP c) t (QO β) := by
 unfold nextPP
 refine Wp.pfxs _ _ (fun e2 L t2 e2' hL => ?_)
 have h2 : KeepO β t2.own := by rw [e2']; exact h
 refine Wp.ite (fun _ => Wp.no _ h2) (fun q2 => Wp.ite (fun _ => Wp.no _ h2) (fun q3 => Wp.ite (fun _ => Wp.no _ h2) (fun q4 => Wp.ite (fun _ => Wp.no _ h2) (fun _ => Wp.chg _ _ (fun _ _ => h2) (fun _ _ => ?_)))))
 rw [e2']
 exact h.pfx hn hv (firstR_chk _ _ _ (Decidable.not_not.1 q4)) hN
theorem ord_nextA (h : KeepO β t.own) (hn : nameB c.name = true) (hv : nameB c.owner = true) (hN : NetIn (seeB β t.own) c.name) : Wp β (nextAP c) t (QO β) := by
 unfold nextAP
 refine Wp.pfxs _ _ (fun e2 L t2 e2' hL => ?_)
 have h2 : KeepO β t2.own := by rw [e2']; exact h
 refine Wp.ite (fun _ => Wp.no _ h2) (fun q2 => Wp.ite (fun _ => Wp.no _ h2) (fun q3 => ?_))
 have q2 : e2 = 0 := Decidable.not_not.1 q2
 have q3 : c.pf ∈ L := Decidable.not_not.1 q3
 refine Wp.ads _ _ (fun e3 A t3 e3' hA => ?_)
 have h3 : KeepO β t3.own := by rw [e3']; exact h2
 refine Wp.ite (fun _ => Wp.no _ h3) (fun _ => Wp.ite (fun _ => Wp.no _ h3) (fun q4 => Wp.chg _ _ (fun _ _ => h3) (fun _ _ => ?_)))
 obtain ⟨out, o1, o2⟩ := h.1.pfxs hn
 rw [hL q2] at o1
 injection o1 with o1
 subst o1
 obtain ⟨s', r1, r2, r3, r4⟩ := (o2 c.pf).1 q3
 rw [e3', e2']
 exact h.adr hn hv (nextR_is _ _ (Decidable.not_not.1 q4)) hN ⟨s', r1, r2, r3, by rw [← r4]; exact (nextR_in _ _ (Decidable.not_not.1 q4)).1⟩
theorem ord_step (h : KeepO β t.own) : Wp β (doP c) t (QO β) := by
 unfold doP
 refine Wp.ite (fun _ => Wp.no _ h) (fun hf => ?_)
 obtain ⟨hw, hn, how, hpf, had⟩ := callFault_zero (Decidable.not_not.1 hf)
 refine Wp.has _ _ (fun b e t1 e1 hy hno => ?_)
 have h1 : KeepO β t1.own := by rw [e1]; exact h
 refine Wp.ite (fun _ => Wp.no _ h1) (fun he => ?_)
 have he : e = 0 := Decidable.not_not.1 he
 refine Wp.ite (fun w1 => Wp.ite (fun _ => Wp.no _ h1) (fun _ => Wp.chg _ _ (fun _ _ => h1) (fun _ _ => h1.net hn (how (by unfold callOwned; simp [w1]))))) (fun w1 => ?_)
 refine Wp.ite (fun _ => Wp.no _ h1) (fun hb => ?_)
 have hb : b = true := by cases b with | true => rfl | false => exact absurd rfl hb
 have hN : NetIn (seeB β t1.own) c.name := ⟨c.nk, by rw [e1]; exact hy he hb, by unfold PCall.nk; rw [keyI_n hn], by unfold PCall.nk; rw [keyI_n hn]⟩
 unfold do2P
 refine Wp.ite (fun w => ord_add c h1 hn (how (by unfold callOwned; simp [w])) (hpf (by unfold callPf; simp [w])) hN) (fun w2 => ?_)
 refine Wp.ite (fun w => ord_take c h1 hn (hpf (by unfold callPf; simp [w]))) (fun w3 => ?_)
 refine Wp.ite (fun w => ord_place c h1 hn (how (by unfold callOwned; simp [w])) (had (by unfold callAd; simp [w])) hN) (fun w4 => ?_)
 refine Wp.ite (fun w => ord_leave c h1 hn (had (by unfold callAd; simp [w]))) (fun w5 => ?_)
 refine Wp.ite (fun w => ord_nextP c h1 hn (how (by unfold callOwned; simp [w])) hN) (fun w6 => ?_)
 refine Wp.ite (fun w => ord_nextA c h1 hn (how (by unfold callOwned; simp [w])) hN) (fun w7 => ?_)
 refine Wp.ite (fun w => Wp.quiet _ (listP_no c) (fun _ _ => h1)) (fun w8 => Wp.quiet _ (whoP_no c) (fun _ _ => h1))
end
section
variable {B : Nat} {w : World} {T : Nat → Prop} {d : Nat} {g : Dk} {id : Int} {k : Nat}
theorem DK.do_any (h : DK B w T d g k) (hk : k ≤ 40000) (hid : (Lit.int .i64 id).wf = true) (c : PCall) (hc : CallOk c) (hf : callFault c = 0) (h1 : c.what ≠ 1) :
  Calls Tryz.prog 43 #[workV d id c] w (DoR B w T d k (g.do2 id c)) := by
 obtain ⟨⟨w1, w2⟩, hn, how, hpf, had⟩ := callFault_zero hf
 obtain ⟨what, nm, pa, pn, ln, ad, ow⟩ := c
 simp only at w1 w2 hn how hpf had h1
 rcases (show what = 2 ∨ what = 3 ∨ what = 4 ∨ what = 5 ∨ what = 6 ∨ what = 7 ∨ what = 8 ∨ what = 9 by omega) with rfl | rfl | rfl | rfl | rfl | rfl | rfl | rfl
 ·exact h.do_2 hk hid nm ow pa pn ln ad hc hn (how (by decide)) (hpf (by decide))
 ·exact h.do_3 hk hid nm ow pa pn ln ad hc hn (hpf (by decide))
 ·exact h.do_4 hk hid nm ow pa pn ln ad hc hn (how (by decide)) (had (by decide))
 ·exact h.do_5 hk hid nm ow pa pn ln ad hc hn (had (by decide))
 ·exact h.do_6 hk hid nm ow pa pn ln ad hc hn (hpf (by decide))
 ·exact h.do_7 hk hid nm ow pa pn ln ad hc hn (hpf (by decide))
 ·exact h.do_8 hk hid nm ow pa pn ln ad hc hn
 ·exact h.do_9 hk hid nm ow pa pn ln ad hc hn (had (by decide))
theorem nk_len {c : PCall} (hn : nameB c.name = true) : c.nk.length ≤ 100 := by
 have h8 := (nameB_iff.1 hn).2.2
 unfold PCall.nk nKey
 simp only [List.length_append, List.length_cons, List.length_nil]
 omega
theorem nk_any (net : List UInt8) (hn : nameB net = true) (w : World) :
  Calls Tryz.prog 41 #[txt net] w fun e w' => e = .returned (txt (nKey net)) ∧ Below w.heap.size w w' :=
 (netKey_any net (by have h8 := (nameB_iff.1 hn).2.2; omega) w).mono fun e w' q => ⟨q.1, by rw [← q.2]; exact Below.refl _ _⟩
set_option maxRecDepth 100000 in
set_option maxHeartbeats 4000000 in
theorem DK.doC (h : DK B w T d g k) (hk : k ≤ 40000) (hid : (Lit.int .i64 id).wf = true) (c : PCall) (hc : CallW c) :
  Calls Tryz.prog 23 #[ptrV d, intV id, CallV c] w fun e w' => ∃ v, e = .returned (.tuple #[AnsV v (g.doC id c).1, faultV (g.doC id c).2.1]) ∧ OwnP w' w.heap.size 24 v (g.doC id c).1.list ∧ ∃ T', (∀ q, v.ownBlock = some q → ¬ T' q) ∧ DKto B w T d w' T' (g.doC id c).2.2 k := by
 have hD1 := h.refl.alloc (.cells #[.int .i64 c.what, txt c.name, .int .i64 c.pa, .int .i64 c.pn, .int .i64 c.len, .int .i64 c.ad, txt c.owner] 26)
 have hC1 := Loc.new h 26 #[.int .i64 c.what, txt c.name, .int .i64 c.pa, .int .i64 c.pn, .int .i64 c.len, .int .i64 c.ad, txt c.owner]
 have hD2 := hD1.alloc (.cells #[.int .i64 0, .int .i64 0, .int .i64 0, .string { data := #[] }, .slice none 0 0] 34)
 have hC2 := hC1.alloc (.cells #[.int .i64 0, .int .i64 0, .int .i64 0, .string { data := #[] }, .slice none 0 0] 34)
 have hR2 := Loc.new hD1.dk 34 #[.int .i64 0, .int .i64 0, .int .i64 0, .string { data := #[] }, .slice none 0 0]
 rw [World.size_alloc] at hR2
 have HC := Lib.hid hc
 have HCK := Lib.hid (fun W => checkC_any c hc W)
 have HNO := Lib.hid (g.doC_no id c)
 clear hc
 unfold CallV at HCK
 unfold CallV
 go_enter Tryz.func23, Tryz.ntmps23
 go_upto_region 1 with fail
 refine wp_name (fun w2 HW => ?_)
 rw [← HW.out] at hD2 hC2 hR2
 clear HW hD1 hC1
 obtain ⟨z0, z1, z2, z3, z4⟩ := hR2.blk.cls5
 obtain ⟨u0, u1, u2, u3, u4⟩ := hR2.blk.frs5
 obtain ⟨x0, x1, x2, x3, x4, x5, x6⟩ := hC2.blk.cls7
 simp at z0 z1 z2 z3 z4 x0 x1 x2 x3 x4 x5 x6
 go_wp2_with fail
 refine (HCK.out _).mono ?_
 rintro e w3 ⟨rfl, hb3⟩
 have hD3 := hD2.bel hb3
 have hC3 := hC2.bel hb3
 have hR3 := hR2.bel hb3
 clear hD2 hC2 hR2 hb3 HCK z0 z1 z2 z3 z4 u0 u1 u2 u3 u4 x0 x1 x2 x3 x4 x5 x6
 by_cases hf : callFault c ≠ 0
 ·have HR := Lib.hid (show g.doC id c = (noAns, callFault c, g) by unfold Dk.doC; rw [if_pos hf])
  have HF := Lib.hid (fault_num hf)
  rw [HF.out]
  clear hf
  obtain ⟨z0, z1, z2, z3, z4⟩ := hR3.blk.cls5
  obtain ⟨u0, u1, u2, u3, u4⟩ := hR3.blk.frs5
  obtain ⟨x0, x1, x2, x3, x4, x5, x6⟩ := hC3.blk.cls7
  simp at z0 z1 z2 z3 z4 x0 x1 x2 x3 x4 x5 x6
  go_wp2
  refine bodyPost_ret (v := .tuple #[AnsV (.slice none 0 0) noAns, .iface 50 (.int .i64 (callFault c))]) (by simp [AnsV, noAns, results, Tryz.results23, go_sem, z0, z1, z2, z3, z4, u0, u1, u2, u3, u4]) rfl ?_
  refine ⟨.slice none 0 0, by rw [HR.out]; exact congrArg (fun x => Ending.returned (.tuple #[AnsV (.slice none 0 0) noAns, x])) HF.out.symm, by rw [HR.out]; exact OwnP.nil _ _ _, T, own_none, ?_⟩
  rw [HR.out]
  (repeat' (first | exact hD3 | refine DKto.set ?_ ?_ ?_ _ | exact hR3.out)) <;> simp
 have hf : callFault c = 0 := Decidable.not_not.1 hf
 rw [show faultV (callFault c) = .nilIface by rw [hf]; rfl]
 obtain ⟨hwh, hn, how, hpf, had⟩ := callFault_zero hf
 have HN := Lib.hid hn
 have HO := Lib.hid how
 have HCO := Lib.hid (HC.out.ok hn)
 have HZ := Lib.hid hf
 have HV := Lib.hid (show g.doC id c = if (g.has id c.nk).2.1 ≠ 0 then (noAns, (g.has id c.nk).2.1, (g.has id c.nk).2.2) else if c.what = 1 then (if (g.has id c.nk).1 then (noAns, 6, (g.has id c.nk).2.2) else (g.has id c.nk).2.2.chg id ⟨c.nk, c.owner, false⟩ noAns) else if (g.has id c.nk).1 = false then (noAns, 4, (g.has id c.nk).2.2) else (g.has id c.nk).2.2.do2 id c by unfold Dk.doC; rw [if_neg (by rw [hf]; simp)]; rfl)
 have HPK := Lib.hid (fun (W : World) => nk_any c.name HN.out W)
 have HKL := Lib.hid (show c.nk.length ≤ maxLen by have := nk_len HN.out; unfold maxLen; omega)
 have HOL := Lib.hid (show c.owner.length ≤ maxLen by have := HC.out.owner; unfold maxLen; omega)
 have HHAS := Lib.hid (fun W T' (q : DK B W T' d g k) => q.has hk hid c c.nk HKL.out)
 unfold workV at HHAS
 rw [show nKey c.name = c.nk from rfl] at HPK
 generalize g.has id c.nk = rh at *
 generalize c.nk = key at *
 clear hf hn how hpf had hwh
 have hX4 := Loc.new hD3.dk 96 #[ptrV d, intV id, .int .i64 c.what, txt c.name, .int .i64 c.pa, .int .i64 c.pn, .int .i64 c.len, .int .i64 c.ad, txt c.owner]
 have hD4 := hD3.alloc (.cells #[ptrV d, intV id, .int .i64 c.what, txt c.name, .int .i64 c.pa, .int .i64 c.pn, .int .i64 c.len, .int .i64 c.ad, txt c.owner] 96)
 have hC4 := hC3.alloc (.cells #[ptrV d, intV id, .int .i64 c.what, txt c.name, .int .i64 c.pa, .int .i64 c.pn, .int .i64 c.len, .int .i64 c.ad, txt c.owner] 96)
 have hR4 := hR3.alloc (.cells #[ptrV d, intV id, .int .i64 c.what, txt c.name, .int .i64 c.pa, .int .i64 c.pn, .int .i64 c.len, .int .i64 c.ad, txt c.owner] 96)
 have HBX := Lib.hid (show w.heap.size + 1 < w3.heap.size from hR3.blk.lt)
 obtain ⟨z0, z1, z2, z3, z4⟩ := hR3.blk.cls5
 obtain ⟨u0, u1, u2, u3, u4⟩ := hR3.blk.frs5
 obtain ⟨x0, x1, x2, x3, x4, x5, x6⟩ := hC3.blk.cls7
 simp at z0 z1 z2 z3 z4 x0 x1 x2 x3 x4 x5 x6
 go_upto_region 5 with fail
 refine wp_name (fun w4 HW => ?_)
 rw [← HW.out] at hD4 hC4 hR4 hX4
 clear HW hD3 hC3 hR3 z0 z1 z2 z3 z4 u0 u1 u2 u3 u4 x0 x1 x2 x3 x4 x5 x6
 generalize w3.heap.size = bx at *
 have hks : ∀ W : World, Blk W bx 96 #[ptrV d, intV id, .int .i64 c.what, txt c.name, .int .i64 c.pa, .int .i64 c.pn, .int .i64 c.len, .int .i64 c.ad, txt c.owner] → Blk W w.heap.size 26 #[.int .i64 c.what, txt c.name, .int .i64 c.pa, .int .i64 c.pn, .int .i64 c.len, .int .i64 c.ad, txt c.owner] → W.cell? ⟨bx, 0, none⟩ = some (ptrV d) ∧ W.cell? ⟨bx, 1, none⟩ = some (intV id) ∧ W.cell? ⟨bx, 2, none⟩ = some (.int .i64 c.what) ∧ W.cell? ⟨bx, 3, none⟩ = some (txt c.name) ∧ W.cell? ⟨bx, 4, none⟩ = some (.int .i64 c.pa) ∧ W.cell? ⟨bx, 5, none⟩ = some (.int .i64 c.pn) ∧ W.cell? ⟨bx, 6, none⟩ = some (.int .i64 c.len) ∧ W.cell? ⟨bx, 7, none⟩ = some (.int .i64 c.ad) ∧ W.cell? ⟨bx, 8, none⟩ = some (txt c.owner) ∧ W.cell? ⟨w.heap.size, 0, none⟩ = some (.int .i64 c.what) ∧ W.cell? ⟨w.heap.size, 1, none⟩ = some (txt c.name) ∧ W.cell? ⟨w.heap.size, 2, none⟩ = some (.int .i64 c.pa) ∧ W.cell? ⟨w.heap.size, 3, none⟩ = some (.int .i64 c.pn) ∧ W.cell? ⟨w.heap.size, 4, none⟩ = some (.int .i64 c.len) ∧ W.cell? ⟨w.heap.size, 5, none⟩ = some (.int .i64 c.ad) ∧ W.cell? ⟨w.heap.size, 6, none⟩ = some (txt c.owner) := fun W a b => ⟨a.cell 0, a.cell 1, a.cell 2, a.cell 3, a.cell 4, a.cell 5, a.cell 6, a.cell 7, a.cell 8, b.cell 0, b.cell 1, b.cell 2, b.cell 3, b.cell 4, b.cell 5, b.cell 6⟩
 have hXd : Blk w4.drew bx 96 #[ptrV d, intV id, .int .i64 c.what, txt c.name, .int .i64 c.pa, .int .i64 c.pn, .int .i64 c.len, .int .i64 c.ad, txt c.owner] := hX4.blk
 have hCd : Blk w4.drew w.heap.size 26 #[.int .i64 c.what, txt c.name, .int .i64 c.pa, .int .i64 c.pn, .int .i64 c.len, .int .i64 c.ad, txt c.owner] := hC4.blk
 go_region_held3 (fun W => W.cell? ⟨bx, 0, none⟩ = some (ptrV d) ∧ W.cell? ⟨bx, 1, none⟩ = some (intV id) ∧ W.cell? ⟨bx, 2, none⟩ = some (.int .i64 c.what) ∧ W.cell? ⟨bx, 3, none⟩ = some (txt c.name) ∧ W.cell? ⟨bx, 4, none⟩ = some (.int .i64 c.pa) ∧ W.cell? ⟨bx, 5, none⟩ = some (.int .i64 c.pn) ∧ W.cell? ⟨bx, 6, none⟩ = some (.int .i64 c.len) ∧ W.cell? ⟨bx, 7, none⟩ = some (.int .i64 c.ad) ∧ W.cell? ⟨bx, 8, none⟩ = some (txt c.owner) ∧ W.cell? ⟨w.heap.size, 0, none⟩ = some (.int .i64 c.what) ∧ W.cell? ⟨w.heap.size, 1, none⟩ = some (txt c.name) ∧ W.cell? ⟨w.heap.size, 2, none⟩ = some (.int .i64 c.pa) ∧ W.cell? ⟨w.heap.size, 3, none⟩ = some (.int .i64 c.pn) ∧ W.cell? ⟨w.heap.size, 4, none⟩ = some (.int .i64 c.len) ∧ W.cell? ⟨w.heap.size, 5, none⟩ = some (.int .i64 c.ad) ∧ W.cell? ⟨w.heap.size, 6, none⟩ = some (txt c.owner))
  (first
   | with_reducible exact hks _ hXd hCd
   | with_reducible exact hks _ hX5.blk hC5.blk
   | with_reducible exact hks _ hX6.blk hC6.blk)
  ((first
   | (go_at_call 41; refine (HPK.out _).mono ?_; rintro e w5 ⟨rfl, hb5⟩; have hD5 := hD4.drew.bel hb5; have hX5 := hX4.bel (w2 := w5) ⟨hb5.os, hb5.tape, hb5.output, hb5.size, hb5.block⟩; have hR5 := hR4.bel (w2 := w5) ⟨hb5.os, hb5.tape, hb5.output, hb5.size, hb5.block⟩; have hC5 := hC4.bel (w2 := w5) ⟨hb5.os, hb5.tape, hb5.output, hb5.size, hb5.block⟩)
   | (go_at_call 40; refine (HHAS.out _ _ hD5.dk).mono ?_; rintro e w6 ⟨rfl, T6, hD56⟩; have hD6 := hD5.step hD56; have hX6 := hX5.step hD56; have hR6 := hR5.step hD56; have hC6 := hC5.step hD56)))
 clear hD4 hX4 hR4 hC4 hD5 hX5 hR5 hC5 hD56 hb5 hXd hCd
 obtain ⟨b, f, g1⟩ := rh
 dsimp only at HV hD6
 by_cases hf : f ≠ 0
 ·have HR := Lib.hid (show g.doC id c = (noAns, f, g1) by rw [HV.out, if_pos hf])
  have HF := Lib.hid (fault_num hf)
  rw [HF.out]
  clear hf HV
  obtain ⟨z0, z1, z2, z3, z4⟩ := hR6.blk.cls5
  obtain ⟨u0, u1, u2, u3, u4⟩ := hR6.blk.frs5
  obtain ⟨x0, x1, x2, x3, x4, x5, x6⟩ := hC6.blk.cls7
  obtain ⟨y0, y1, y2, y3, y4, y5, y6, y7, y8⟩ := hX6.blk.cls9
  simp at z0 z1 z2 z3 z4 x0 x1 x2 x3 x4 x5 x6 y0 y1 y2 y3 y4 y5 y6 y7 y8
  go_wp2
  refine bodyPost_ret (v := .tuple #[AnsV (.slice none 0 0) noAns, .iface 50 (.int .i64 f)]) (by simp [AnsV, noAns, results, Tryz.results23, go_sem, z0, z1, z2, z3, z4, u0, u1, u2, u3, u4]) rfl ?_
  refine ⟨.slice none 0 0, by rw [HR.out]; exact congrArg (fun x => Ending.returned (.tuple #[AnsV (.slice none 0 0) noAns, x])) HF.out.symm, by rw [HR.out]; exact OwnP.nil _ _ _, T6, own_none, ?_⟩
  rw [HR.out]
  (repeat' (first | exact hD6 | refine DKto.set ?_ ?_ ?_ _ | exact hR6.out)) <;> simp
 obtain rfl : f = 0 := Decidable.not_not.1 hf
 rw [show faultV 0 = .nilIface from rfl]
 clear hf HHAS
 by_cases h1 : c.what = 1
 ·have h1b : (c.what == 1) = true := by simpa using h1
  cases b with
  | true =>
   have HR := Lib.hid (show g.doC id c = (noAns, 6, g1) by rw [HV.out, if_neg (by simp), if_pos h1]; rfl)
   clear HV h1
   obtain ⟨z0, z1, z2, z3, z4⟩ := hR6.blk.cls5
   obtain ⟨u0, u1, u2, u3, u4⟩ := hR6.blk.frs5
   obtain ⟨x0, x1, x2, x3, x4, x5, x6⟩ := hC6.blk.cls7
   obtain ⟨y0, y1, y2, y3, y4, y5, y6, y7, y8⟩ := hX6.blk.cls9
   simp at z0 z1 z2 z3 z4 x0 x1 x2 x3 x4 x5 x6 y0 y1 y2 y3 y4 y5 y6 y7 y8
   go_wp2
   refine bodyPost_ret (v := .tuple #[AnsV (.slice none 0 0) noAns, .iface 50 (.int .i64 6)]) (by simp [AnsV, noAns, results, Tryz.results23, go_sem, z0, z1, z2, z3, z4, u0, u1, u2, u3, u4]) rfl ?_
   refine ⟨.slice none 0 0, by rw [HR.out]; exact rfl, by rw [HR.out]; exact OwnP.nil _ _ _, T6, own_none, ?_⟩
   rw [HR.out]
   (repeat' (first | exact hD6 | refine DKto.set ?_ ?_ ?_ _ | exact hR6.out)) <;> simp
  | false =>
   have HR := Lib.hid (show g.doC id c = g1.chg id ⟨key, c.owner, false⟩ noAns by rw [HV.out, if_neg (by simp), if_pos h1]; rfl)
   clear HV h1
   have HPU := Lib.hid (fun W T' (q : DK B W T' d g1 k) => q.put hid key c.owner HKL.out HOL.out)
   have HEQ := Lib.hid (show g1.chg id ⟨key, c.owner, false⟩ noAns = (noAns, (g1.change id ⟨key, c.owner, false⟩).1, (g1.change id ⟨key, c.owner, false⟩).2) by unfold Dk.chg; simp)
   generalize g1.change id ⟨key, c.owner, false⟩ = r3 at *
   obtain ⟨z0, z1, z2, z3, z4⟩ := hR6.blk.cls5
   obtain ⟨u0, u1, u2, u3, u4⟩ := hR6.blk.frs5
   obtain ⟨x0, x1, x2, x3, x4, x5, x6⟩ := hC6.blk.cls7
   obtain ⟨y0, y1, y2, y3, y4, y5, y6, y7, y8⟩ := hX6.blk.cls9
   simp at z0 z1 z2 z3 z4 x0 x1 x2 x3 x4 x5 x6 y0 y1 y2 y3 y4 y5 y6 y7 y8
   go_upto_region 11 with fail
   clear z0 z1 z2 z3 z4 u0 u1 u2 u3 u4 x0 x1 x2 x3 x4 x5 x6 y0 y1 y2 y3 y4 y5 y6 y7 y8
   have hXd : Blk w6.drew bx 96 #[ptrV d, intV id, .int .i64 c.what, txt c.name, .int .i64 c.pa, .int .i64 c.pn, .int .i64 c.len, .int .i64 c.ad, txt c.owner] := hX6.blk
   have hCd : Blk w6.drew w.heap.size 26 #[.int .i64 c.what, txt c.name, .int .i64 c.pa, .int .i64 c.pn, .int .i64 c.len, .int .i64 c.ad, txt c.owner] := hC6.blk
   have hwn : bx ≠ w.heap.size + 1 := by have := HBX.out; omega
   have hcn : w.heap.size ≠ w.heap.size + 1 := by omega
   go_region_held3 (fun W => W.cell? ⟨bx, 0, none⟩ = some (ptrV d) ∧ W.cell? ⟨bx, 1, none⟩ = some (intV id) ∧ W.cell? ⟨bx, 2, none⟩ = some (.int .i64 c.what) ∧ W.cell? ⟨bx, 3, none⟩ = some (txt c.name) ∧ W.cell? ⟨bx, 4, none⟩ = some (.int .i64 c.pa) ∧ W.cell? ⟨bx, 5, none⟩ = some (.int .i64 c.pn) ∧ W.cell? ⟨bx, 6, none⟩ = some (.int .i64 c.len) ∧ W.cell? ⟨bx, 7, none⟩ = some (.int .i64 c.ad) ∧ W.cell? ⟨bx, 8, none⟩ = some (txt c.owner) ∧ W.cell? ⟨w.heap.size, 0, none⟩ = some (.int .i64 c.what) ∧ W.cell? ⟨w.heap.size, 1, none⟩ = some (txt c.name) ∧ W.cell? ⟨w.heap.size, 2, none⟩ = some (.int .i64 c.pa) ∧ W.cell? ⟨w.heap.size, 3, none⟩ = some (.int .i64 c.pn) ∧ W.cell? ⟨w.heap.size, 4, none⟩ = some (.int .i64 c.len) ∧ W.cell? ⟨w.heap.size, 5, none⟩ = some (.int .i64 c.ad) ∧ W.cell? ⟨w.heap.size, 6, none⟩ = some (txt c.owner))
    (first
     | with_reducible exact hks _ hXd hCd
     | with_reducible exact hks _ hX7.blk hC7.blk
     | with_reducible exact hks _ hX8.blk hC8.blk
     | with_reducible exact hks _ (hX8.blk.far5 hwn _ _ _ _ _) (hC8.blk.far5 hcn _ _ _ _ _))
    ((first
     | (go_at_call 41; refine (HPK.out _).mono ?_; rintro e w7 ⟨rfl, hb7⟩; have hD7 := hD6.drew.bel hb7; have hX7 := hX6.bel (w2 := w7) ⟨hb7.os, hb7.tape, hb7.output, hb7.size, hb7.block⟩; have hR7 := hR6.bel (w2 := w7) ⟨hb7.os, hb7.tape, hb7.output, hb7.size, hb7.block⟩; have hC7 := hC6.bel (w2 := w7) ⟨hb7.os, hb7.tape, hb7.output, hb7.size, hb7.block⟩)
     | (go_at_call 42; refine (HPU.out _ _ hD7.dk).mono ?_; rintro e w8 ⟨rfl, T8, hD78⟩; have hD8 := hD7.step hD78; have hX8 := hX7.step hD78; have hR8 := hR7.step hD78; have hC8 := hC7.step hD78; have z0 := hR8.blk.cell 0; have z1 := hR8.blk.cell 1; have z2 := hR8.blk.cell 2; have z3 := hR8.blk.cell 3; have z4 := hR8.blk.cell 4; have u0 := hR8.blk.frozen 0; have u1 := hR8.blk.frozen 1; have u2 := hR8.blk.frozen 2; have u3 := hR8.blk.frozen 3; have u4 := hR8.blk.frozen 4; have x0 := hC8.blk.cell 0; have x1 := hC8.blk.cell 1; have x2 := hC8.blk.cell 2; have x3 := hC8.blk.cell 3; have x4 := hC8.blk.cell 4; have x5 := hC8.blk.cell 5; have x6 := hC8.blk.cell 6; simp at z0 z1 z2 z3 z4 x0 x1 x2 x3 x4 x5 x6)))
   clear hD6 hX6 hR6 hC6 hD7 hX7 hR7 hC7 hD78 hb7 hXd hCd
   go_wp2
   refine bodyPost_ret (v := .tuple #[AnsV (.slice none 0 0) noAns, faultV r3.1]) (by simp [AnsV, noAns, results, Tryz.results23, go_sem, z0, z1, z2, z3, z4, u0, u1, u2, u3, u4]) rfl ?_
   refine ⟨.slice none 0 0, by rw [HR.out, HEQ.out], by rw [HR.out, HEQ.out]; exact OwnP.nil _ _ _, T8, own_none, ?_⟩
   rw [HR.out, HEQ.out]
   (repeat' (first | exact hD8 | refine DKto.set ?_ ?_ ?_ _ | exact hR8.out)) <;> simp
 ·have h1b : (c.what == 1) = false := by simpa using h1
  cases b with
  | false =>
   have HR := Lib.hid (show g.doC id c = (noAns, 4, g1) by rw [HV.out, if_neg (by simp), if_neg h1]; rfl)
   clear HV h1
   obtain ⟨z0, z1, z2, z3, z4⟩ := hR6.blk.cls5
   obtain ⟨u0, u1, u2, u3, u4⟩ := hR6.blk.frs5
   obtain ⟨x0, x1, x2, x3, x4, x5, x6⟩ := hC6.blk.cls7
   obtain ⟨y0, y1, y2, y3, y4, y5, y6, y7, y8⟩ := hX6.blk.cls9
   simp at z0 z1 z2 z3 z4 x0 x1 x2 x3 x4 x5 x6 y0 y1 y2 y3 y4 y5 y6 y7 y8
   go_wp2
   refine bodyPost_ret (v := .tuple #[AnsV (.slice none 0 0) noAns, .iface 50 (.int .i64 4)]) (by simp [AnsV, noAns, results, Tryz.results23, go_sem, z0, z1, z2, z3, z4, u0, u1, u2, u3, u4]) rfl ?_
   refine ⟨.slice none 0 0, by rw [HR.out]; exact rfl, by rw [HR.out]; exact OwnP.nil _ _ _, T6, own_none, ?_⟩
   rw [HR.out]
   (repeat' (first | exact hD6 | refine DKto.set ?_ ?_ ?_ _ | exact hR6.out)) <;> simp
  | true =>
   have HV2 := Lib.hid (show g.doC id c = g1.do2 id c by rw [HV.out, if_neg (by simp), if_neg h1]; rfl)
   have HDO := Lib.hid (hD6.dk.do_any hk hid c HCO.out HZ.out h1)
   clear HV h1
   rw [HV2.out] at HNO
   generalize g1.do2 id c = r at *
   unfold workV at HDO
   obtain ⟨z0, z1, z2, z3, z4⟩ := hR6.blk.cls5
   obtain ⟨u0, u1, u2, u3, u4⟩ := hR6.blk.frs5
   obtain ⟨x0, x1, x2, x3, x4, x5, x6⟩ := hC6.blk.cls7
   obtain ⟨y0, y1, y2, y3, y4, y5, y6, y7, y8⟩ := hX6.blk.cls9
   simp at z0 z1 z2 z3 z4 x0 x1 x2 x3 x4 x5 x6 y0 y1 y2 y3 y4 y5 y6 y7 y8
   go_wp2_with fail
   refine HDO.out.mono ?_
   rintro e w7 ⟨A7, n7, c7, a7, T7, rfl, ha7, hD67⟩
   have HS67 := Lib.hid (show w.heap.size ≤ w6.heap.size from hD6.size)
   have HS6 := Lib.hid (show w.heap.size + 1 < w6.heap.size from hR6.blk.lt)
   have hD7 := hD6.step hD67
   have hR7 := hR6.step hD67
   clear hD6 hX6 hR6 hC6 hD67 HDO z0 z1 z2 z3 z4 u0 u1 u2 u3 u4 x0 x1 x2 x3 x4 x5 x6 y0 y1 y2 y3 y4 y5 y6 y7 y8
   obtain ⟨a, f, g2⟩ := r
   dsimp only at hD7 ha7 HV2
   unfold AnsV
   by_cases hf : f ≠ 0
   ·have HF := Lib.hid (fault_num hf)
    have hno : a = noAns := HNO.out hf
    subst hno
    have hD8 := hD7.alloc (.cells #[.int .i64 a7.pa, .int .i64 a7.pn, .int .i64 a7.ad, txt a7.owner, .slice A7 n7 c7] 34)
    have hR8 := hR7.alloc (.cells #[.int .i64 a7.pa, .int .i64 a7.pn, .int .i64 a7.ad, txt a7.owner, .slice A7 n7 c7] 34)
    rw [HF.out]
    clear hf hD7 hR7 ha7
    obtain ⟨z0, z1, z2, z3, z4⟩ := hR8.blk.cls5
    obtain ⟨u0, u1, u2, u3, u4⟩ := hR8.blk.frs5
    simp at z0 z1 z2 z3 z4
    go_wp2
    refine bodyPost_ret (v := .tuple #[AnsV (.slice none 0 0) noAns, .iface 50 (.int .i64 f)]) (by simp [AnsV, noAns, results, Tryz.results23, go_sem, z0, z1, z2, z3, z4, u0, u1, u2, u3, u4]) rfl ?_
    refine ⟨.slice none 0 0, by rw [HV2.out]; exact congrArg (fun x => Ending.returned (.tuple #[AnsV (.slice none 0 0) noAns, x])) HF.out.symm, by rw [HV2.out]; exact OwnP.nil _ _ _, T7, own_none, ?_⟩
    rw [HV2.out]
    (repeat' (first | exact hD8 | refine DKto.set ?_ ?_ ?_ _ | exact hR8.out)) <;> simp
   obtain rfl : f = 0 := Decidable.not_not.1 hf
   obtain ⟨rfl, how, hnt⟩ := ha7 rfl
   have hnb : (Value.slice A7 n7 c7).ownBlock ≠ some (w.heap.size + 1) := fun q => by
    have h1 := (World.ownsRow.lt how _ q).1
    have h2 := HS6.out
    omega
   have HOW := Lib.hid (how.alloc (.cells #[.int .i64 a7.pa, .int .i64 a7.pn, .int .i64 a7.ad, txt a7.owner, .slice A7 n7 c7] 34))
   have HNB := Lib.hid hnb
   have HNT := Lib.hid hnt
   have hD8 := hD7.alloc (.cells #[.int .i64 a7.pa, .int .i64 a7.pn, .int .i64 a7.ad, txt a7.owner, .slice A7 n7 c7] 34)
   have hR8 := hR7.alloc (.cells #[.int .i64 a7.pa, .int .i64 a7.pn, .int .i64 a7.ad, txt a7.owner, .slice A7 n7 c7] 34)
   rw [show faultV 0 = .nilIface from rfl]
   clear hf hD7 hR7 hnb how hnt
   obtain ⟨z0, z1, z2, z3, z4⟩ := hR8.blk.cls5
   obtain ⟨u0, u1, u2, u3, u4⟩ := hR8.blk.frs5
   simp at z0 z1 z2 z3 z4
   go_wp2
   refine bodyPost_ret (v := .tuple #[AnsV (.slice A7 n7 c7) a7, .nilIface]) (by simp [AnsV, noAns, results, Tryz.results23, go_sem, z0, z1, z2, z3, z4, u0, u1, u2, u3, u4]) rfl ?_
   refine ⟨.slice A7 n7 c7, by rw [HV2.out]; rfl, ?_, T7, HNT.out, ?_⟩
   ·rw [HV2.out]
    exact own_fr (S := fun q => q = w.heap.size + 1) (own_of_base HOW.out HS67.out) (Fr.setCell (Fr.setCell (Fr.setCell (Fr.setCell (Fr.setCell (Fr.refl (fun q => q = w.heap.size + 1) _) (p := ⟨w.heap.size + 1, 0, none⟩) (fun _ => rfl) _) (p := ⟨w.heap.size + 1, 1, none⟩) (fun _ => rfl) _) (p := ⟨w.heap.size + 1, 2, none⟩) (fun _ => rfl) _) (p := ⟨w.heap.size + 1, 3, none⟩) (fun _ => rfl) _) (p := ⟨w.heap.size + 1, 4, none⟩) (fun _ => rfl) _) (fun g e1 e2 => HNB.out (by rw [← e2]; exact e1))
   ·rw [HV2.out]
    (repeat' (first | exact hD8 | refine DKto.set ?_ ?_ ?_ _ | exact hR8.out)) <;> simp
end
section
variable {B : Nat} {w : World} {T : Nat → Prop} {a : Nat} {h : Hl} {k : Nat}
set_option maxRecDepth 100000 in
set_option maxHeartbeats 4000000 in
theorem HK.ask_h (o : HK B w T a h k) (hk : k ≤ 30000) (who : List UInt8) (hw : who.length ≤ 9223372036854775807) (c : PCall) (hc : CallW c) :
  Calls Tryz.prog 9 #[ptrV a, txt who, CallV c] w fun e w' => ∃ v, e = .returned (.tuple #[AnsV v (h.ask who c).1, faultV (h.ask who c).2.1]) ∧ OwnP w' w.heap.size 24 v (h.ask who c).1.list ∧ ∃ T', (∀ q, v.ownBlock = some q → ¬ T' q) ∧ HKto B w T a w' T' (h.ask who c).2.2 k := by
 have HO := Lib.hid o
 have HOK := Lib.hid o.ok
 obtain ⟨d, m, To, es, clock, q1, q2, q3, q4, q5, q6, q7, q8, q9⟩ := o.ex
 have hD1 := q1.refl.alloc (.cells #[.int .i64 c.what, txt c.name, .int .i64 c.pa, .int .i64 c.pn, .int .i64 c.len, .int .i64 c.ad, txt c.owner] 26)
 have hC1 := Loc.new q1 26 #[.int .i64 c.what, txt c.name, .int .i64 c.pa, .int .i64 c.pn, .int .i64 c.len, .int .i64 c.ad, txt c.owner]
 have hA1 : Loc (w.alloc (.cells #[.int .i64 c.what, txt c.name, .int .i64 c.pa, .int .i64 c.pn, .int .i64 c.len, .int .i64 c.ad, txt c.owner] 26)) To a 63 #[ptrV d, .map (some m)] := (Loc.mk q2 q4).alloc _
 have hD2 := hD1.alloc (.cells #[.int .i64 0, .int .i64 0, .int .i64 0, .string { data := #[] }, .slice none 0 0] 34)
 have hC2 := hC1.alloc (.cells #[.int .i64 0, .int .i64 0, .int .i64 0, .string { data := #[] }, .slice none 0 0] 34)
 have hA2 := hA1.alloc (.cells #[.int .i64 0, .int .i64 0, .int .i64 0, .string { data := #[] }, .slice none 0 0] 34)
 have hR2 := Loc.new hD1.dk 34 #[.int .i64 0, .int .i64 0, .int .i64 0, .string { data := #[] }, .slice none 0 0]
 rw [World.size_alloc] at hR2
 have hM2 := q3.below (((Below.refl w.heap.size w).alloc (Nat.le_refl _) (.cells #[.int .i64 c.what, txt c.name, .int .i64 c.pa, .int .i64 c.pn, .int .i64 c.len, .int .i64 c.ad, txt c.owner] 26)).alloc (by simp) (.cells #[.int .i64 0, .int .i64 0, .int .i64 0, .string { data := #[] }, .slice none 0 0] 34)) q3.map.lt
 have HQ2 := Lib.hid q2
 have HQ3 := Lib.hid q3
 have HQ := Lib.hid (show ¬ To a ∧ ¬ To m ∧ T a ∧ T m ∧ (∀ q, To q → T q) ∧ a ≠ m from ⟨q4, q5, q6, q7, q8, q9⟩)
 have HAW := Lib.hid (show a ≠ w.heap.size + 1 by have := q2.lt; omega)
 clear o q1 q2 q3 q4 q5 q6 q7 q8 q9 hD1 hC1 hA1
 unfold CallV
 go_enter Tryz.func9, Tryz.ntmps9
 go_upto_region 1 with fail
 refine wp_name (fun w2 HW => ?_)
 rw [← HW.out] at hD2 hC2 hR2 hA2 hM2
 clear HW
 obtain ⟨kl, hkl⟩ := txt_key who (len_max hw)
 rcases hM2.look strKey mapStr (zeroInt w2) who hkl true with ⟨hf, hrun⟩ | ⟨id, hf, hrun⟩
 ·simp only [if_true] at hrun
  have HR := Lib.hid (show h.ask who c = (noAns, 4, h) by unfold Hl.ask; rw [hf])
  clear hf hM2
  have h0 := hA2.blk.cell 0
  have h1 := hA2.blk.cell 1
  simp at h0 h1
  obtain ⟨z0, z1, z2, z3, z4⟩ := hR2.blk.cls5
  obtain ⟨u0, u1, u2, u3, u4⟩ := hR2.blk.frs5
  simp at z0 z1 z2 z3 z4
  go_wp2
  refine bodyPost_ret (v := .tuple #[AnsV (.slice none 0 0) noAns, .iface 50 (.int .i64 4)]) (by simp [AnsV, noAns, results, Tryz.results9, go_sem, z0, z1, z2, z3, z4, u0, u1, u2, u3, u4]) rfl ?_
  refine ⟨.slice none 0 0, by rw [HR.out]; rfl, by rw [HR.out]; exact OwnP.nil _ _ _, fun q => T q ∨ To q, own_none, ?_⟩
  rw [HR.out]
  refine HO.out.deskX (To1 := To) HQ2.out HQ3.out HQ.out (by omega) ?_
  (repeat' (first | exact hD2 | refine DKto.set ?_ ?_ ?_ _ | exact hR2.out)) <;> simp
 ·simp only [if_true] at hrun
  have HR := Lib.hid (show h.ask who c = ((h.d.doC id c).1, (h.d.doC id c).2.1, ⟨(h.d.doC id c).2.2, h.op⟩) by unfold Hl.ask; rw [hf])
  have hid := HOK.out.ids _ (findH_mem hf)
  have HDO := Lib.hid (fun W T' (q : DK B W T' d h.d k) => q.doC (by omega) hid c hc)
  unfold CallV at HDO
  unfold AnsV at HDO
  generalize h.d.doC id c = r at *
  clear hf hM2 hid hc
  have h0 := hA2.blk.cell 0
  have h1 := hA2.blk.cell 1
  simp at h0 h1
  go_upto_region 4 with fail
  clear h0 h1 hrun hkl
  have hks : ∀ W : World, Blk W a 63 #[ptrV d, .map (some m)] → Blk W w.heap.size 26 #[.int .i64 c.what, txt c.name, .int .i64 c.pa, .int .i64 c.pn, .int .i64 c.len, .int .i64 c.ad, txt c.owner] → W.cell? ⟨a, 0, none⟩ = some (ptrV d) ∧ W.cell? ⟨w.heap.size, 0, none⟩ = some (.int .i64 c.what) ∧ W.cell? ⟨w.heap.size, 1, none⟩ = some (txt c.name) ∧ W.cell? ⟨w.heap.size, 2, none⟩ = some (.int .i64 c.pa) ∧ W.cell? ⟨w.heap.size, 3, none⟩ = some (.int .i64 c.pn) ∧ W.cell? ⟨w.heap.size, 4, none⟩ = some (.int .i64 c.len) ∧ W.cell? ⟨w.heap.size, 5, none⟩ = some (.int .i64 c.ad) ∧ W.cell? ⟨w.heap.size, 6, none⟩ = some (txt c.owner) := fun W a b => ⟨a.cell 0, b.cell 0, b.cell 1, b.cell 2, b.cell 3, b.cell 4, b.cell 5, b.cell 6⟩
  have hAd : Blk w2.drew a 63 #[ptrV d, .map (some m)] := hA2.blk
  have hCd : Blk w2.drew w.heap.size 26 #[.int .i64 c.what, txt c.name, .int .i64 c.pa, .int .i64 c.pn, .int .i64 c.len, .int .i64 c.ad, txt c.owner] := hC2.blk
  have hcn : w.heap.size ≠ w.heap.size + 1 := by omega
  have han := HAW.out
  go_region_held3 (fun W => W.cell? ⟨a, 0, none⟩ = some (ptrV d) ∧ W.cell? ⟨w.heap.size, 0, none⟩ = some (.int .i64 c.what) ∧ W.cell? ⟨w.heap.size, 1, none⟩ = some (txt c.name) ∧ W.cell? ⟨w.heap.size, 2, none⟩ = some (.int .i64 c.pa) ∧ W.cell? ⟨w.heap.size, 3, none⟩ = some (.int .i64 c.pn) ∧ W.cell? ⟨w.heap.size, 4, none⟩ = some (.int .i64 c.len) ∧ W.cell? ⟨w.heap.size, 5, none⟩ = some (.int .i64 c.ad) ∧ W.cell? ⟨w.heap.size, 6, none⟩ = some (txt c.owner))
   (first
    | with_reducible exact hks _ hAd hCd
    | with_reducible exact hks _ hA3.blk hC3.blk
    | with_reducible exact hks _ (hA3.blk.far5 han _ _ _ _ _) (hC3.blk.far5 hcn _ _ _ _ _))
   ((first | (go_at_call 23; refine (HDO.out _ _ hD2.drew.dk).mono ?_; rintro e w3 ⟨v3, rfl, how3, T3, hnt3, hD23⟩; obtain ⟨A3, c3, rfl, _⟩ := how3.form; have HOW := Lib.hid how3; have HNT := Lib.hid hnt3; have hD3 := hD2.drew.step hD23; have hC3 := (hC2.bel (w2 := w2.drew) ((Below.refl _ _).drew)).step hD23; have hR3 := (hR2.bel (w2 := w2.drew) ((Below.refl _ _).drew)).step hD23; have hA3 := (hA2.bel (w2 := w2.drew) ((Below.refl _ _).drew)).step hD23; have z0 := hR3.blk.cell 0; have z1 := hR3.blk.cell 1; have z2 := hR3.blk.cell 2; have z3 := hR3.blk.cell 3; have z4 := hR3.blk.cell 4; have u0 := hR3.blk.frozen 0; have u1 := hR3.blk.frozen 1; have u2 := hR3.blk.frozen 2; have u3 := hR3.blk.frozen 3; have u4 := hR3.blk.frozen 4; simp at z0 z1 z2 z3 z4)))
  go_wp2
  refine bodyPost_ret (v := .tuple #[AnsV (.slice A3 r.1.list.length c3) r.1, faultV r.2.1]) (by simp [AnsV, noAns, results, Tryz.results9, go_sem, z0, z1, z2, z3, z4, u0, u1, u2, u3, u4]) rfl ?_
  refine ⟨.slice A3 r.1.list.length c3, by rw [HR.out], ?_, fun q => T q ∨ T3 q, fun q e => not_or.2 ⟨fun e2 => by have h1 := (World.ownsRow.lt HOW.out _ e).1; have h2 := HO.out.lt q e2; have h3 : w.heap.size ≤ w2.drew.heap.size := hD2.size; omega, HNT.out q e⟩, ?_⟩
  ·rw [HR.out]
   have hnb : (Value.slice A3 r.1.list.length c3).ownBlock ≠ some (w.heap.size + 1) := fun q => by
    have h1 := (World.ownsRow.lt HOW.out _ q).1
    have h2 := hR2.blk.lt
    have h3 : w2.drew.heap.size = w2.heap.size := rfl
    omega
   exact own_fr (S := fun q => q = w.heap.size + 1) (own_of_base HOW.out (show w.heap.size ≤ w2.drew.heap.size from hD2.size)) (Fr.setCell (Fr.setCell (Fr.setCell (Fr.setCell (Fr.setCell (Fr.refl (fun q => q = w.heap.size + 1) _) (p := ⟨w.heap.size + 1, 0, none⟩) (fun _ => rfl) _) (p := ⟨w.heap.size + 1, 1, none⟩) (fun _ => rfl) _) (p := ⟨w.heap.size + 1, 2, none⟩) (fun _ => rfl) _) (p := ⟨w.heap.size + 1, 3, none⟩) (fun _ => rfl) _) (p := ⟨w.heap.size + 1, 4, none⟩) (fun _ => rfl) _) (fun g e1 e2 => hnb (by rw [← e2]; exact e1))
  rw [HR.out]
  refine HO.out.deskX (To1 := T3) HQ2.out HQ3.out HQ.out (by omega) ?_
  (repeat' (first | exact hD3 | refine DKto.set ?_ ?_ ?_ _ | exact hR3.out)) <;> simp
end
set_option maxRecDepth 100000 in
theorem join_first (b : Nat) (x : Int) (hx : x ≠ 0) (w : World) (h0 : w.cell? ⟨b, 0, none⟩ = some (.iface 50 (.int .i64 x))) :
  Calls Tryz.prog 24 #[.slice (some ⟨b, 0, none⟩) 2 2] w fun e w' => e = .returned (.iface 50 (.int .i64 x)) ∧ w = w' := by
 go_enter Tryz.func24, Tryz.ntmps24
 go_wp2
 refine wp_loop_rounds 3 ?_
 rw [rounds_succ]
 go_wp2
 go_ret
 exact ⟨rfl, rfl⟩
theorem fault_shape (x : Int) : faultV x = .nilIface ∨ faultV x = .iface 50 (.int .i64 x) := by
 unfold faultV
 by_cases h : x = 0
 ·exact .inl (if_pos h)
 ·exact .inr (if_neg h)
section
variable {B : Nat} {w : World} {T : Nat → Prop} {a : Nat} {h : Hl} {k : Nat}
set_option maxRecDepth 100000 in
set_option maxHeartbeats 4000000 in
theorem HK.once_h (o : HK B w T a h k) (hk : k ≤ 30000) (c : PCall) (hc : CallW c) :
  Calls Tryz.prog 7 #[ptrV a, CallV c] w fun e w' => ∃ v, e = .returned (.tuple #[AnsV v (h.once c).1, .int .i64 (h.once c).2.1, faultV (h.once c).2.2.1]) ∧ OwnP w' w.heap.size 24 v (h.once c).1.list ∧ ∃ T', (∀ q, v.ownBlock = some q → ¬ T' q) ∧ HKto B w T a w' T' (h.once c).2.2.2 (k + 2) := by
 have HO := Lib.hid o
 have HOK := Lib.hid o.ok
 obtain ⟨d, m, To, es, clock, q1, q2, q3, q4, q5, q6, q7, q8, q9⟩ := o.ex
 have hD1 := q1.refl.alloc (.cells #[.int .i64 c.what, txt c.name, .int .i64 c.pa, .int .i64 c.pn, .int .i64 c.len, .int .i64 c.ad, txt c.owner] 26)
 have hC1 := Loc.new q1 26 #[.int .i64 c.what, txt c.name, .int .i64 c.pa, .int .i64 c.pn, .int .i64 c.len, .int .i64 c.ad, txt c.owner]
 have hA1 : Loc (w.alloc (.cells #[.int .i64 c.what, txt c.name, .int .i64 c.pa, .int .i64 c.pn, .int .i64 c.len, .int .i64 c.ad, txt c.owner] 26)) To a 63 #[ptrV d, .map (some m)] := (Loc.mk q2 q4).alloc _
 have hD2 := hD1.alloc (.cells #[.int .i64 0, .int .i64 0, .int .i64 0, .string { data := #[] }, .slice none 0 0] 34)
 have hC2 := hC1.alloc (.cells #[.int .i64 0, .int .i64 0, .int .i64 0, .string { data := #[] }, .slice none 0 0] 34)
 have hA2 := hA1.alloc (.cells #[.int .i64 0, .int .i64 0, .int .i64 0, .string { data := #[] }, .slice none 0 0] 34)
 have hR2 := Loc.new hD1.dk 34 #[.int .i64 0, .int .i64 0, .int .i64 0, .string { data := #[] }, .slice none 0 0]
 rw [World.size_alloc] at hR2
 have hM2 := q3.below (((Below.refl w.heap.size w).alloc (Nat.le_refl _) (.cells #[.int .i64 c.what, txt c.name, .int .i64 c.pa, .int .i64 c.pn, .int .i64 c.len, .int .i64 c.ad, txt c.owner] 26)).alloc (by simp) (.cells #[.int .i64 0, .int .i64 0, .int .i64 0, .string { data := #[] }, .slice none 0 0] 34)) q3.map.lt
 have HQ2 := Lib.hid q2
 have HQ3 := Lib.hid q3
 have HQ := Lib.hid (show ¬ To a ∧ ¬ To m ∧ T a ∧ T m ∧ (∀ q, To q → T q) ∧ a ≠ m from ⟨q4, q5, q6, q7, q8, q9⟩)
 have HAW := Lib.hid (show a ≠ w.heap.size + 1 by have := q2.lt; omega)
 clear o q1 q2 q3 q4 q5 q6 q7 q8 q9 hD1 hC1 hA1
 unfold CallV
 go_enter Tryz.func7, Tryz.ntmps7
 go_upto_region 1 with fail
 refine wp_name (fun w2 HW => ?_)
 rw [← HW.out] at hD2 hC2 hR2 hA2 hM2
 clear HW
 clear hM2
 have HBG := Lib.hid (hD2.dk.begin (by omega))
 have HBZ := Lib.hid (begin_zero (g := h.d))
 have HIDS := Lib.hid (show 0 ≤ h.d.ids ∧ h.d.ids ≤ (k : Int) from hD2.dk.s.ok.hids)
 have HV := Lib.hid (show h.once c = if h.d.begin.2.1 ≠ 0 then (noAns, 0, h.d.begin.2.1, ⟨h.d.begin.2.2, h.op⟩) else ((onceD h.d.begin.2.2 h.d.begin.1 c).1, (onceD h.d.begin.2.2 h.d.begin.1 c).2.1, (onceD h.d.begin.2.2 h.d.begin.1 c).2.2.1, ⟨(onceD h.d.begin.2.2 h.d.begin.1 c).2.2.2, h.op⟩) from rfl)
 generalize h.d.begin = rb at *
 have h0 := hA2.blk.cell 0
 have h1 := hA2.blk.cell 1
 simp at h0 h1
 go_wp2_with fail
 refine HBG.out.mono ?_
 rintro e w3 ⟨rfl, T3, hD23⟩
 have hD3 := hD2.step hD23; have hC3 := hC2.step hD23; have hR3 := hR2.step hD23; have hA3 := hA2.step hD23
 clear hD2 hC2 hR2 hA2 hD23 HBG h0 h1
 obtain ⟨id, f, g1⟩ := rb
 dsimp only at HV HBZ hD3
 by_cases hz : f ≠ 0
 ·have HR := Lib.hid (show h.once c = (noAns, 0, f, ⟨g1, h.op⟩) by rw [HV.out, if_pos hz])
  have HF := Lib.hid (show faultV f = .iface 50 (.int .i64 f) by unfold faultV; rw [if_neg hz])
  rw [HF.out]
  clear hz HV
  obtain ⟨z0, z1, z2, z3, z4⟩ := hR3.blk.cls5
  obtain ⟨u0, u1, u2, u3, u4⟩ := hR3.blk.frs5
  simp at z0 z1 z2 z3 z4
  go_wp2
  refine bodyPost_ret (v := .tuple #[AnsV (.slice none 0 0) noAns, .int .i64 0, .iface 50 (.int .i64 f)]) (by simp [AnsV, noAns, results, Tryz.results7, go_sem, z0, z1, z2, z3, z4, u0, u1, u2, u3, u4]) rfl ?_
  refine ⟨.slice none 0 0, by rw [HR.out]; exact congrArg (fun x => Ending.returned (.tuple #[AnsV (.slice none 0 0) noAns, .int .i64 0, x])) HF.out.symm, by rw [HR.out]; exact OwnP.nil _ _ _, fun q => T q ∨ T3 q, own_none, ?_⟩
  rw [HR.out]
  refine HO.out.deskX (To1 := T3) HQ2.out HQ3.out HQ.out (by omega) ?_
  refine DKto.more (k1 := (k + 1)) ?_ (by omega)
  (repeat' (first | exact hD3 | refine DKto.set ?_ ?_ ?_ _ | exact hR3.out)) <;> simp
 obtain rfl : f = 0 := Decidable.not_not.1 hz
 rw [show faultV 0 = .nilIface from rfl]
 have hid : (Lit.int .i64 id).wf = true := wf_i64 (by rw [HBZ.out rfl]; have := HIDS.out; omega)
 have HV2 := Lib.hid (show h.once c = ((onceD g1 id c).1, (onceD g1 id c).2.1, (onceD g1 id c).2.2.1, ⟨(onceD g1 id c).2.2.2, h.op⟩) by rw [HV.out, if_neg (by simp)])
 have HW := Lib.hid (show onceD g1 id c = if (g1.doC id c).2.1 ≠ 0 then (noAns, 0, (g1.doC id c).2.1, ((g1.doC id c).2.2.abort id).2) else if ((g1.doC id c).2.2.commit id).2.1 ≠ 0 then (noAns, 0, ((g1.doC id c).2.2.commit id).2.1, ((g1.doC id c).2.2.commit id).2.2) else ((g1.doC id c).1, ((g1.doC id c).2.2.commit id).1, 0, ((g1.doC id c).2.2.commit id).2.2) from rfl)
 have HDO := Lib.hid (fun W T' (q : DK B W T' d g1 (k + 1)) => q.doC (by omega) hid c hc)
 have HNO := Lib.hid (g1.doC_no id c)
 have HID := Lib.hid hid
 unfold CallV at HDO
 unfold AnsV at HDO
 generalize g1.doC id c = r at *
 clear hz hid hc HV
 have h0 := hA3.blk.cell 0
 have h1 := hA3.blk.cell 1
 simp at h0 h1
 go_upto_region 4 with fail
 clear h0 h1
 have hks : ∀ W : World, Blk W a 63 #[ptrV d, .map (some m)] → Blk W w.heap.size 26 #[.int .i64 c.what, txt c.name, .int .i64 c.pa, .int .i64 c.pn, .int .i64 c.len, .int .i64 c.ad, txt c.owner] → W.cell? ⟨a, 0, none⟩ = some (ptrV d) ∧ W.cell? ⟨w.heap.size, 0, none⟩ = some (.int .i64 c.what) ∧ W.cell? ⟨w.heap.size, 1, none⟩ = some (txt c.name) ∧ W.cell? ⟨w.heap.size, 2, none⟩ = some (.int .i64 c.pa) ∧ W.cell? ⟨w.heap.size, 3, none⟩ = some (.int .i64 c.pn) ∧ W.cell? ⟨w.heap.size, 4, none⟩ = some (.int .i64 c.len) ∧ W.cell? ⟨w.heap.size, 5, none⟩ = some (.int .i64 c.ad) ∧ W.cell? ⟨w.heap.size, 6, none⟩ = some (txt c.owner) := fun W a b => ⟨a.cell 0, b.cell 0, b.cell 1, b.cell 2, b.cell 3, b.cell 4, b.cell 5, b.cell 6⟩
 have hAd : Blk w3.drew a 63 #[ptrV d, .map (some m)] := hA3.blk
 have hCd : Blk w3.drew w.heap.size 26 #[.int .i64 c.what, txt c.name, .int .i64 c.pa, .int .i64 c.pn, .int .i64 c.len, .int .i64 c.ad, txt c.owner] := hC3.blk
 have hcn : w.heap.size ≠ w.heap.size + 1 := by omega
 have han := HAW.out
 go_region_held3 (fun W => W.cell? ⟨a, 0, none⟩ = some (ptrV d) ∧ W.cell? ⟨w.heap.size, 0, none⟩ = some (.int .i64 c.what) ∧ W.cell? ⟨w.heap.size, 1, none⟩ = some (txt c.name) ∧ W.cell? ⟨w.heap.size, 2, none⟩ = some (.int .i64 c.pa) ∧ W.cell? ⟨w.heap.size, 3, none⟩ = some (.int .i64 c.pn) ∧ W.cell? ⟨w.heap.size, 4, none⟩ = some (.int .i64 c.len) ∧ W.cell? ⟨w.heap.size, 5, none⟩ = some (.int .i64 c.ad) ∧ W.cell? ⟨w.heap.size, 6, none⟩ = some (txt c.owner))
  (first
   | with_reducible exact hks _ hAd hCd
   | with_reducible exact hks _ hA4.blk hC4.blk
   | with_reducible exact hks _ (hA4.blk.far5 han _ _ _ _ _) (hC4.blk.far5 hcn _ _ _ _ _))
  ((first | (go_at_call 23; refine (HDO.out _ _ hD3.drew.dk).mono ?_; rintro e w4 ⟨v4, rfl, how4, T4, hnt4, hD34⟩; obtain ⟨A4, c4, rfl, _⟩ := how4.form; have HOW := Lib.hid how4; have HNT := Lib.hid hnt4; have hD4 := hD3.drew.step hD34; have hC4 := (hC3.bel (w2 := w3.drew) ((Below.refl _ _).drew)).step hD34; have hR4 := (hR3.bel (w2 := w3.drew) ((Below.refl _ _).drew)).step hD34; have hA4 := (hA3.bel (w2 := w3.drew) ((Below.refl _ _).drew)).step hD34; have z0 := hR4.blk.cell 0; have z1 := hR4.blk.cell 1; have z2 := hR4.blk.cell 2; have z3 := hR4.blk.cell 3; have z4 := hR4.blk.cell 4; have u0 := hR4.blk.frozen 0; have u1 := hR4.blk.frozen 1; have u2 := hR4.blk.frozen 2; have u3 := hR4.blk.frozen 3; have u4 := hR4.blk.frozen 4; simp at z0 z1 z2 z3 z4)))
 go_upto_region 5 with fail
 refine wp_name (fun w5 HW5 => ?_)
 have hD5 : DKto B w To d w5 T4 r.2.2 (k + 1) := by
  rw [HW5.out]
  (repeat' (first | exact hD4 | refine DKto.set ?_ ?_ ?_ _ | exact hR4.out)) <;> simp
 have hA5 : Loc w5 T4 a 63 #[ptrV d, .map (some m)] := by rw [HW5.out]; exact ⟨hA4.blk.far5 HAW.out _ _ _ _ _, hA4.out⟩
 have hR5 : Loc w5 T4 (w.heap.size + 1) 34 #[.int .i64 r.1.pa, .int .i64 r.1.pn, .int .i64 r.1.ad, txt r.1.owner, .slice A4 r.1.list.length c4] := by rw [HW5.out]; exact (((((hR4.set 0 _).set 1 _).set 2 _).set 3 _).set 4 _)
 have HOW5 : Hid (OwnP w5 w.heap.size 24 (.slice A4 r.1.list.length c4) r.1.list) := by
  have hnb : (Value.slice A4 r.1.list.length c4).ownBlock ≠ some (w.heap.size + 1) := fun q => by
   have h1 := (World.ownsRow.lt HOW.out _ q).1
   have h2 := hR3.blk.lt
   have h3 : w3.drew.heap.size = w3.heap.size := rfl
   omega
  rw [HW5.out]
  exact Lib.hid (own_fr (S := fun q => q = w.heap.size + 1) (own_of_base HOW.out (show w.heap.size ≤ w3.drew.heap.size from hD3.size)) (Fr.setCell (Fr.setCell (Fr.setCell (Fr.setCell (Fr.setCell (Fr.refl (fun q => q = w.heap.size + 1) _) (p := ⟨w.heap.size + 1, 0, none⟩) (fun _ => rfl) _) (p := ⟨w.heap.size + 1, 1, none⟩) (fun _ => rfl) _) (p := ⟨w.heap.size + 1, 2, none⟩) (fun _ => rfl) _) (p := ⟨w.heap.size + 1, 3, none⟩) (fun _ => rfl) _) (p := ⟨w.heap.size + 1, 4, none⟩) (fun _ => rfl) _) (fun g e1 e2 => hnb (by rw [← e2]; exact e1)))
 have HRB : Hid (∀ q, (Value.slice A4 r.1.list.length c4).ownBlock = some q → ¬ T4 q) := HNT
 have HNB5 : Hid ((Value.slice A4 r.1.list.length c4).ownBlock ≠ some (w.heap.size + 1)) := Lib.hid (fun q => by
   have h1 := (World.ownsRow.lt HOW.out _ q).1
   have h2 := hR3.blk.lt
   have h3 : w3.drew.heap.size = w3.heap.size := rfl
   omega)
 clear HW5 hD3 hA3 hR3 hC3 hD4 hA4 hR4 hC4 hD34 how4 hnt4 HOW HDO hks hAd hCd han hcn z0 z1 z2 z3 z4 u0 u1 u2 u3 u4
 by_cases hf : r.2.1 ≠ 0
 ·have HF := Lib.hid (fault_num hf)
  have HNZ := Lib.hid hf
  have HAB := Lib.hid (hD5.dk.abort HID.out)
  have HR := Lib.hid (show h.once c = (noAns, 0, r.2.1, ⟨(r.2.2.abort id).2, h.op⟩) by rw [HV2.out, HW.out, if_pos hf])
  rw [HF.out]
  clear hf HNO HV2 HW
  have h0 := hA5.blk.cell 0
  have h1 := hA5.blk.cell 1
  simp at h0 h1
  go_wp2_with fail
  refine HAB.out.mono ?_
  rintro e w6 ⟨rfl, T6, hD56⟩
  have hD6 := hD5.step hD56
  have hR6 := hR5.step hD56
  clear hD5 hA5 hR5 hD56 HAB h0 h1 HOW5
  rcases fault_shape (r.2.2.abort id).1 with hfs | hfs
  ·rw [hfs]
   clear hfs
   have hD7 := hD6.alloc (.cells #[.iface 50 (.int .i64 r.2.1), .nilIface] 29)
   have hR7 := hR6.alloc (.cells #[.iface 50 (.int .i64 r.2.1), .nilIface] 29)
   have hJ : (w6.alloc (.cells #[.iface 50 (.int .i64 r.2.1), .nilIface] 29)).cell? ⟨w6.heap.size, 0, none⟩ = some (.iface 50 (.int .i64 r.2.1)) := (Blk.new w6 29 #[.iface 50 (.int .i64 r.2.1), .nilIface]).cell 0
   have HJ := Lib.hid (join_first w6.heap.size r.2.1 HNZ.out _ hJ)
   clear hJ
   go_wp2_with fail
   refine HJ.out.mono ?_
   rintro e w7 ⟨rfl, rfl⟩
   clear HJ
   obtain ⟨z0, z1, z2, z3, z4⟩ := hR7.blk.cls5
   obtain ⟨u0, u1, u2, u3, u4⟩ := hR7.blk.frs5
   simp at z0 z1 z2 z3 z4
   go_wp2
   refine bodyPost_ret (v := .tuple #[AnsV (.slice none 0 0) noAns, .int .i64 0, .iface 50 (.int .i64 r.2.1)]) (by simp [AnsV, noAns, results, Tryz.results7, go_sem, z0, z1, z2, z3, z4, u0, u1, u2, u3, u4]) rfl ?_
   refine ⟨.slice none 0 0, by rw [HR.out]; exact congrArg (fun x => Ending.returned (.tuple #[AnsV (.slice none 0 0) noAns, .int .i64 0, x])) HF.out.symm, by rw [HR.out]; exact OwnP.nil _ _ _, fun q => T q ∨ T6 q, own_none, ?_⟩
   rw [HR.out]
   refine HO.out.deskX (To1 := T6) HQ2.out HQ3.out HQ.out (by omega) ?_
   refine DKto.more (k1 := (k + 1)) ?_ (by omega)
   (repeat' (first | exact hD7 | refine DKto.set ?_ ?_ ?_ _ | exact hR7.out)) <;> simp
  ·rw [hfs]
   generalize (r.2.2.abort id).1 = fy
   clear hfs
   have hD7 := hD6.alloc (.cells #[.iface 50 (.int .i64 r.2.1), .iface 50 (.int .i64 fy)] 29)
   have hR7 := hR6.alloc (.cells #[.iface 50 (.int .i64 r.2.1), .iface 50 (.int .i64 fy)] 29)
   have hJ : (w6.alloc (.cells #[.iface 50 (.int .i64 r.2.1), .iface 50 (.int .i64 fy)] 29)).cell? ⟨w6.heap.size, 0, none⟩ = some (.iface 50 (.int .i64 r.2.1)) := (Blk.new w6 29 #[.iface 50 (.int .i64 r.2.1), .iface 50 (.int .i64 fy)]).cell 0
   have HJ := Lib.hid (join_first w6.heap.size r.2.1 HNZ.out _ hJ)
   clear hJ
   go_wp2_with fail
   refine HJ.out.mono ?_
   rintro e w7 ⟨rfl, rfl⟩
   clear HJ
   obtain ⟨z0, z1, z2, z3, z4⟩ := hR7.blk.cls5
   obtain ⟨u0, u1, u2, u3, u4⟩ := hR7.blk.frs5
   simp at z0 z1 z2 z3 z4
   go_wp2
   refine bodyPost_ret (v := .tuple #[AnsV (.slice none 0 0) noAns, .int .i64 0, .iface 50 (.int .i64 r.2.1)]) (by simp [AnsV, noAns, results, Tryz.results7, go_sem, z0, z1, z2, z3, z4, u0, u1, u2, u3, u4]) rfl ?_
   refine ⟨.slice none 0 0, by rw [HR.out]; exact congrArg (fun x => Ending.returned (.tuple #[AnsV (.slice none 0 0) noAns, .int .i64 0, x])) HF.out.symm, by rw [HR.out]; exact OwnP.nil _ _ _, fun q => T q ∨ T6 q, own_none, ?_⟩
   rw [HR.out]
   refine HO.out.deskX (To1 := T6) HQ2.out HQ3.out HQ.out (by omega) ?_
   refine DKto.more (k1 := (k + 1)) ?_ (by omega)
   (repeat' (first | exact hD7 | refine DKto.set ?_ ?_ ?_ _ | exact hR7.out)) <;> simp
 have hf : r.2.1 = 0 := Decidable.not_not.1 hf
 rw [show faultV r.2.1 = .nilIface by rw [hf]; rfl]
 have HCM := Lib.hid (hD5.dk.commit (id := id) (by omega) HID.out)
 have HW2 := Lib.hid (show onceD g1 id c = if (r.2.2.commit id).2.1 ≠ 0 then (noAns, 0, (r.2.2.commit id).2.1, (r.2.2.commit id).2.2) else (r.1, (r.2.2.commit id).1, 0, (r.2.2.commit id).2.2) by rw [HW.out, if_neg (by rw [hf]; simp)])
 clear hf HW HNO
 generalize r.2.2.commit id = rc at *
 have h0 := hA5.blk.cell 0
 have h1 := hA5.blk.cell 1
 simp at h0 h1
 go_wp2_with fail
 refine HCM.out.mono ?_
 rintro e w6 ⟨rfl, T6, hD56⟩
 have hD6 := hD5.step hD56
 have hR6 := hR5.step hD56
 have HOW6 := Lib.hid (own_fr HOW5.out hD56.fr HRB.out)
 have HNT6 := Lib.hid (show ∀ q, (Value.slice A4 r.1.list.length c4).ownBlock = some q → ¬ (T q ∨ T6 q) from fun q e => not_or.2 ⟨fun e2 => by have h1 := (World.ownsRow.lt HOW5.out _ e).1; have h2 := HO.out.lt q e2; omega, fun e2 => (hD56.new q e2).elim (HNT.out q e) (fun e3 => by have h1 := (World.ownsRow.lt HOW5.out _ e).2; omega)⟩)
 clear hD5 hA5 hR5 HCM h0 h1 HOW5
 obtain ⟨n, f, g3⟩ := rc
 dsimp only at HW2 hD6
 by_cases hf : f ≠ 0
 ·have HF := Lib.hid (fault_num hf)
  have HR := Lib.hid (show h.once c = (noAns, 0, f, ⟨g3, h.op⟩) by rw [HV2.out, HW2.out, if_pos hf])
  rw [HF.out]
  clear hf HV2 HW2 hD56 HOW6
  obtain ⟨z0, z1, z2, z3, z4⟩ := hR6.blk.cls5
  obtain ⟨u0, u1, u2, u3, u4⟩ := hR6.blk.frs5
  simp at z0 z1 z2 z3 z4
  go_wp2
  refine bodyPost_ret (v := .tuple #[AnsV (.slice none 0 0) noAns, .int .i64 0, .iface 50 (.int .i64 f)]) (by simp [AnsV, noAns, results, Tryz.results7, go_sem, z0, z1, z2, z3, z4, u0, u1, u2, u3, u4]) rfl ?_
  refine ⟨.slice none 0 0, by rw [HR.out]; exact congrArg (fun x => Ending.returned (.tuple #[AnsV (.slice none 0 0) noAns, .int .i64 0, x])) HF.out.symm, by rw [HR.out]; exact OwnP.nil _ _ _, fun q => T q ∨ T6 q, own_none, ?_⟩
  rw [HR.out]
  refine HO.out.deskX (To1 := T6) HQ2.out HQ3.out HQ.out (by omega) ?_
  refine DKto.more (k1 := (k + 1 + 1)) ?_ (by omega)
  (repeat' (first | exact hD6 | refine DKto.set ?_ ?_ ?_ _ | exact hR6.out)) <;> simp
 obtain rfl : f = 0 := Decidable.not_not.1 hf
 have HR := Lib.hid (show h.once c = (r.1, n, 0, ⟨g3, h.op⟩) by rw [HV2.out, HW2.out, if_neg (by simp)])
 rw [show faultV 0 = .nilIface from rfl]
 clear hf HV2 HW2 hD56
 obtain ⟨z0, z1, z2, z3, z4⟩ := hR6.blk.cls5
 obtain ⟨u0, u1, u2, u3, u4⟩ := hR6.blk.frs5
 simp at z0 z1 z2 z3 z4
 go_wp2
 refine bodyPost_ret (v := .tuple #[AnsV (.slice A4 r.1.list.length c4) r.1, .int .i64 n, .nilIface]) (by simp [AnsV, noAns, results, Tryz.results7, go_sem, z0, z1, z2, z3, z4, u0, u1, u2, u3, u4]) rfl ?_
 refine ⟨.slice A4 r.1.list.length c4, by rw [HR.out]; rfl, ?_, fun q => T q ∨ T6 q, HNT6.out, ?_⟩
 ·rw [HR.out]
  exact own_fr (S := fun q => q = w.heap.size + 1) HOW6.out (Fr.setCell (Fr.setCell (Fr.setCell (Fr.setCell (Fr.setCell (Fr.refl (fun q => q = w.heap.size + 1) _) (p := ⟨w.heap.size + 1, 0, none⟩) (fun _ => rfl) _) (p := ⟨w.heap.size + 1, 1, none⟩) (fun _ => rfl) _) (p := ⟨w.heap.size + 1, 2, none⟩) (fun _ => rfl) _) (p := ⟨w.heap.size + 1, 3, none⟩) (fun _ => rfl) _) (p := ⟨w.heap.size + 1, 4, none⟩) (fun _ => rfl) _) (fun g e1 e2 => HNB5.out (by rw [← e2]; exact e1))
 rw [HR.out]
 refine HO.out.deskX (To1 := T6) HQ2.out HQ3.out HQ.out (by omega) ?_
 (repeat' (first | exact hD6 | refine DKto.set ?_ ?_ ?_ _ | exact hR6.out)) <;> simp
end
end Go.Proofs.YthleniobcbdepaaGreatDoor

namespace Go.Proofs.YthleniobcbdepaaGreatDoor
set_option maxRecDepth 100000
open Go.RowKit
theorem PCallW.w {c : PCall} (h : PCallW c) : CallW c := ⟨h.what, h.name, h.pa, h.pn, h.len, h.ad, h.owner⟩
section
variable {B : Nat} {w w' : World} {Tx Ty T' : Nat → Prop} {ax ay bc : Nat} {cs : Array Value} {hx hy h' : Hl} {kx ky k' : Nat}
variable {b : Nat} {t : TypeId} {cb : Array Value}
variable {base : Nat} {v : Value} {l : List Pf}
end
theorem rd_of' {w : World} {base : Nat} {A : Option Addr} {c : Nat} {L : List KV} (h : OwnKV w base (.slice A L.length c) L) : Rd w w.heap.size A (flatE encKV L) := by
 obtain ⟨A', c', e, h1⟩ := h.rd
 injection e with e1 e2 e3
 subst e1
 exact h1
theorem faultV_no {f : Int} (h : f ≠ 0) : faultV f = .iface 50 (.int .i64 f) := by unfold faultV; rw [if_neg h]
theorem fault_zero0 : faultV 0 = .nilIface := rfl
def hQ : Hl := ⟨gNext (Dk.new 100000) ⟨nKey [113], [111], false⟩, []⟩
end Go.Proofs.YthleniobcbdepaaGreatDoor

namespace Go.Proofs.YthleniobcbdepaaGreatDoor
open Go.RowKit
def GoodR (F : List UInt8 → List Ver) (n : Int) : Prop := ∀ s, Rising (F s) ∧ ∀ v ∈ F s, v.n ≤ n
theorem GoodR.nil (n : Int) : GoodR noF n := fun s => ⟨List.Pairwise.nil, by intro v hv; cases hv⟩
theorem GoodR.mono {F : List UInt8 → List Ver} {a b : Int} (h : GoodR F a) (hab : a ≤ b) : GoodR F b := fun s => ⟨(h s).1, fun v hv => by have := (h s).2 v hv; omega⟩
theorem fnd_all {l : List Ver} (h : Rising l) {n : Int} (hn : ∀ v ∈ l, v.n ≤ n) : fnd l n l.length = l.length :=
 fnd_uniq h (Nat.le_refl _) (fun i hi => ⟨fun _ => hn _ (List.getElem_mem hi), fun _ => hi⟩)
theorem tellL_ge {l : List Ver} (h : Rising l) {n a b : Int} (hn : ∀ v ∈ l, v.n ≤ n) (ha : n ≤ a) (hb : n ≤ b) : tellL l a = tellL l b := by
 have h1 := fnd_all h (n := a) (fun v hv => by have := hn v hv; omega)
 have h2 := fnd_all h (n := b) (fun v hv => by have := hn v hv; omega)
 unfold tellL
 rw [h1, h2]
theorem addV_new {l : List Ver} {v : Ver} (hn : ∀ u ∈ l, u.n < v.n) : addV l v = l ++ [v] := by
 unfold addV
 split
 ·rename_i u hu
  have := hn u (List.mem_of_getLast? hu)
  rw [if_neg (by omega)]
 ·rename_i hu
  rw [List.getLast?_eq_none_iff.1 hu]
  rfl
theorem Rising.snoc {l : List Ver} (h : Rising l) {v : Ver} (hn : ∀ u ∈ l, u.n < v.n) : Rising (l ++ [v]) := by
 unfold Rising
 rw [List.pairwise_append]
 exact ⟨h, List.pairwise_singleton _ _, fun a ha b hb => by simp at hb; subst hb; exact hn a ha⟩
theorem tellL_new {l : List Ver} (h : Rising l) {v : Ver} (hn : ∀ u ∈ l, u.n < v.n) : tellL (l ++ [v]) v.n = if v.gone then none else some v.val := by
 have hf := fnd_all (h.snoc hn) (n := v.n) (fun u hu => by
  rcases List.mem_append.1 hu with hu | hu
  ·have := hn u hu; omega
  ·simp at hu; subst hu; exact Int.le_refl _)
 rw [List.length_append, List.length_singleton] at hf
 rw [tellL_at (l := l ++ [v]) (k := l.length) (by rw [List.length_append, List.length_singleton]; exact hf) (by simp)]
 simp
theorem findO_cons (c : Chg) (l : List Chg) (s : List UInt8) : findO (c :: l) s = if c.key = s then some c else findO l s := by
 unfold findO
 by_cases e : c.key = s
 ·rw [if_pos e, List.find?_cons_of_pos (by simpa using e)]
 ·rw [if_neg e, List.find?_cons_of_neg (by simpa using e)]
theorem appF_key (n : Int) (s : List UInt8) : ∀ (l : List Chg) (F : List UInt8 → List Ver), RiseC l → appF F l n s = match findO l s with
  | some c => addV (F s) ⟨n, c.val, c.gone⟩
  | none => F s
 | [], F, _ => rfl
 | c :: l, F, h => by
  have h' := List.pairwise_cons.1 h
  show appF (putV F c.key ⟨n, c.val, c.gone⟩) l n s = _
  rw [appF_key n s l _ h'.2, findO_cons]
  by_cases e : c.key = s
  ·rw [if_pos e]
   have hno : findO l s = none := by
    rw [findO_none]
    intro x hx
    rw [← e]
    exact (lessB_ne (h'.1 x hx)).symm
   rw [hno]
   simp only
   unfold putV
   rw [e, upd_same]
  ·rw [if_neg e]
   unfold putV
   rw [upd_other _ _ (fun q => e q.symm)]
section
variable {F : List UInt8 → List Ver} {last : Int} {l : List Chg}
theorem GoodR.app (h : GoodR F last) (hr : RiseC l) : GoodR (appF F l (last + 1)) (last + 1) := by
 intro s
 rw [appF_key _ _ _ _ hr]
 cases hf : findO l s with
 | none => exact (h.mono (by omega)) s
 | some c =>
  simp only
  have hn : ∀ u ∈ F s, u.n < (⟨last + 1, c.val, c.gone⟩ : Ver).n := fun u hu => by have := (h s).2 u hu; show u.n < last + 1; omega
  rw [addV_new hn]
  refine ⟨(h s).1.snoc hn, fun v hv => ?_⟩
  rcases List.mem_append.1 hv with hv | hv
  ·have := (h s).2 v hv; omega
  ·simp at hv; subst hv; exact Int.le_refl _
theorem tell_app (h : GoodR F last) (hr : RiseC l) : (fun s => tell (appF F l (last + 1)) s (last + 1)) = seeB (fun s => tell F s last) l := by
 funext s
 unfold seeB
 rw [tell_eq, appF_key _ _ _ _ hr]
 cases hf : findO l s with
 | none => exact tellL_ge (h s).1 (h s).2 (by omega) (Int.le_refl _)
 | some c =>
  simp only
  have hn : ∀ u ∈ F s, u.n < (⟨last + 1, c.val, c.gone⟩ : Ver).n := fun u hu => by have := (h s).2 u hu; show u.n < last + 1; omega
  rw [addV_new hn]
  exact tellL_new (h s).1 hn
theorem tell_app_old (h : GoodR F last) (hr : RiseC l) {n : Int} (hn : n ≤ last) (s : List UInt8) : tell (appF F l (last + 1)) s n = tell F s n := by
 rw [tell_eq, tell_eq, appF_key _ _ _ _ hr]
 cases hf : findO l s with
 | none => rfl
 | some c =>
  simp only
  have hn2 : ∀ u ∈ F s, u.n < (⟨last + 1, c.val, c.gone⟩ : Ver).n := fun u hu => by have := (h s).2 u hu; show u.n < last + 1; omega
  rw [addV_new hn2]
  exact tell_snoc _ _ (by show n < last + 1; omega)
theorem lastB_no {l : List Ver} (h : Rising l) {n : Int} (hb : lastB l n = false) : ∀ v ∈ l, v.n ≤ n := by
 intro v hv
 rcases List.eq_nil_or_concat l with rfl | ⟨l', u, rfl⟩
 ·cases hv
 ·unfold lastB at hb
  simp at hb
  unfold Rising at h
  simp at h hv
  rw [List.pairwise_append] at h
  rcases hv with hv | rfl
  ·have := h.2.2 v hv u (by simp)
   omega
  ·exact hb
theorem tell_no (h : GoodR F last) {s : List UInt8} {n b : Int} (hb : lastB (F s) n = false) (hn : n ≤ b) : tell F s n = tell F s b := by
 rw [tell_eq, tell_eq]
 exact tellL_ge (h s).1 (lastB_no (h s).1 hb) (Int.le_refl _) hn
theorem agree_of (h : GoodR F last) {t : Tr} (hc : ¬ Clash F t) {b : Int} (hb : t.sees ≤ b) : AgreeB (fun s => tell F s t.sees) (fun s => tell F s b) t.st := by
 have nb : ∀ {x : Bool}, ¬ x = true → x = false := fun {x} q => by cases x with | true => exact absurd rfl q | false => rfl
 refine ⟨fun s hs => tell_no h (nb fun q => hc (.inl ⟨s, hs, q⟩)) hb, fun p hp s hs => tell_no h (nb fun q => hc (.inr (.inr ⟨p, hp, s, hs, q⟩))) hb⟩
end
def TrO (F : List UInt8 → List Ver) (t : Tr) : Prop := ∀ β : Base, AgreeB (fun s => tell F s t.sees) β t.st → OrdV β → KeepO β t.own
theorem TrO.congr {F F' : List UInt8 → List Ver} {t : Tr} (h : TrO F t) (e : ∀ s, tell F' s t.sees = tell F s t.sees) : TrO F' t := fun β ha ho => h β ⟨fun s hs => by rw [← ha.1 s hs]; exact (e s).symm, fun p hp s hs => by rw [← ha.2 p hp s hs]; exact (e s).symm⟩ ho
theorem TrO.do {g : Dk} {t : Tr} (h : TrO g.F t) (c : PCall) : TrO g.F (t.put ((doP c).runS (baseOf g t) t.st).2) := by
 intro β ha ho
 have hl := DP.runS_le (baseOf g t) (doP c) t.st
 have ha' : AgreeB (baseOf g t) β ((doP c).runS (baseOf g t) t.st).2 := ha
 have e := DP.runS_agree (doP c) t.st ha'
 have hk : KeepO β t.st.own := h β (ha'.le hl) ho
 have := ord_step (β := β) (t := t.st) c hk
 unfold Wp QO at this
 rw [e] at this
 exact this
theorem DP.run_none {α : Type} (id : Int) : ∀ (p : DP α) (g : Dk), findT g.op id = none → (p.run id g).2 = g
 | .ret a, g, h => rfl
 | .get s k, g, h => by
  have e : (g.get id s).2.2 = g := by unfold Dk.get; rw [h]
  show ((k _).run id (g.get id s).2.2).2 = g
  rw [e]
  exact DP.run_none id _ g h
 | .range lo hi k, g, h => by
  have e : (g.range id lo hi).2 = g := by unfold Dk.range; rw [h]
  show ((k _).run id (g.range id lo hi).2).2 = g
  rw [e]
  exact DP.run_none id _ g h
 | .chg c k, g, h => by
  have e : (g.change id c).2 = g := by unfold Dk.change; rw [h]
  show ((k _).run id (g.change id c).2).2 = g
  rw [e]
  exact DP.run_none id _ g h
theorem doC_none {g : Dk} {id : Int} (h : findT g.op id = none) (c : PCall) : (g.doC id c).2.2 = g := by
 rw [← doC_run]
 exact DP.run_none id (doP c) g h
theorem mem_set {l : List Tr} {t u : Tr} (h : u ∈ setT l t) : u = t ∨ u ∈ l := by
 obtain ⟨x, hx, e⟩ := List.mem_map.1 h
 split at e
 ·exact .inl e.symm
 ·exact .inr (by rw [← e]; exact hx)
theorem mem_erase {l : List Tr} {id : Int} {u : Tr} (h : u ∈ eraseT l id) : u ∈ l := (List.mem_filter.1 h).1
def atN (all : List (List Chg)) (j : Nat) : Base := fun s => tell (replay noF 0 (all.take j)) s j
structure HOrd (g : Dk) : Prop where
 F : g.F = replay noF 0 g.all
 good : GoodR g.F g.last
 pre : ∀ j, j ≤ g.all.length → OrdV (atN g.all j)
 nod : (g.op.map Tr.id).Nodup
 bnd : ∀ t ∈ g.op, t.id ≤ g.ids ∧ t.sees ≤ g.last
 tr : ∀ t ∈ g.op, TrO g.F t
theorem tell_nought' {s : List UInt8} : tell noF s 0 = none := tell_nil rfl
theorem HOrd.new (room : Int) : HOrd (Dk.new room) := by
 refine ⟨rfl, GoodR.nil _, fun j hj => ?_, List.Pairwise.nil, fun t ht => (by cases ht), fun t ht => (by cases ht)⟩
 have : j = 0 := Nat.le_zero.1 hj
 subst this
 have : atN (Dk.new room).all 0 = fun _ => none := by
  funext s
  exact tell_nought'
 rw [this]
 exact OrdV.nil
section
variable {g : Dk} {id : Int}
theorem HOrd.now (h : HOrd g) : OrdV (fun s => tell g.F s g.last) := by
 have := h.pre g.all.length (Nat.le_refl _)
 unfold atN at this
 rw [List.take_length, ← h.F] at this
 exact this
theorem HOrd.begin (h : HOrd g) : HOrd g.begin.2.2 := by
 unfold Dk.begin
 split
 ·exact h
 ·split
  ·exact h
  ·refine ⟨h.F, h.good, h.pre, ?_, fun t ht => ?_, fun t ht => ?_⟩
   ·show ((g.op ++ [_]).map Tr.id).Nodup
    rw [List.map_append, List.nodup_append]
    refine ⟨h.nod, by simp, ?_⟩
    intro a ha b hb e
    simp at hb
    subst hb
    subst e
    obtain ⟨t, ht, e⟩ := List.mem_map.1 ha
    have := (h.bnd t ht).1
    omega
   ·rcases List.mem_append.1 ht with ht | ht
    ·have := h.bnd t ht
     exact ⟨by show t.id ≤ g.ids + 1; omega, this.2⟩
    ·simp at ht
     subst ht
     exact ⟨Int.le_refl _, Int.le_refl _⟩
   ·rcases List.mem_append.1 ht with ht | ht
    ·exact h.tr t ht
    ·simp at ht
     subst ht
     intro β ha ho
     exact ⟨by rw [seeB_nil]; exact ho, List.Pairwise.nil⟩
theorem HOrd.do (h : HOrd g) (id : Int) (c : PCall) : HOrd (g.doC id c).2.2 := by
 cases ht : findT g.op id with
 | none => rw [doC_none ht]; exact h
 | some t =>
  rw [doC_st h.nod ht c]
  have hm := (findT_mem ht).1
  refine ⟨h.F, h.good, h.pre, by show ((setT g.op _).map Tr.id).Nodup; rw [setT_ids]; exact h.nod, fun u hu => ?_, fun u hu => ?_⟩
  ·rcases mem_set hu with rfl | hu
   ·exact h.bnd t hm
   ·exact h.bnd u hu
  ·rcases mem_set hu with rfl | hu
   ·exact (h.tr t hm).do c
   ·exact h.tr u hu
theorem HOrd.erase (h : HOrd g) (id : Int) (lg : Lg) (ns : Nat) : HOrd { g with op := eraseT g.op id, lg := lg, ns := ns } :=
 ⟨h.F, h.good, h.pre, h.nod.sublist (List.filter_sublist.map _), fun u hu => h.bnd u (mem_erase hu), fun u hu => h.tr u (mem_erase hu)⟩
theorem HOrd.abort (h : HOrd g) (id : Int) : HOrd (g.abort id).2 := by
 unfold Dk.abort
 cases ht : findT g.op id with
 | none => exact h
 | some t => exact h.erase id g.lg g.ns
theorem atN_old (all : List (List Chg)) (l : List Chg) {j : Nat} (hj : j ≤ all.length) : atN (all ++ [l]) j = atN all j := by
 unfold atN
 rw [List.take_append_of_le_length hj]
theorem HOrd.put (h : HOrd g) {t : Tr} (hm : t ∈ g.op) (hc : ¬ Clash g.F t) (id : Int) (lg : Lg) (e : Int) : HOrd (Dk.put { g with lg := lg, op := eraseT g.op id } t.own e) := by
 have hag := agree_of h.good hc (h.bnd t hm).2
 obtain ⟨k1, k2⟩ := h.tr t hm _ hag h.now
 have hlast : (Dk.put { g with lg := lg, op := eraseT g.op id } t.own e).last = g.last + 1 := by unfold Dk.last Dk.put; simp
 have hF : (Dk.put { g with lg := lg, op := eraseT g.op id } t.own e).F = appF g.F t.own (g.last + 1) := rfl
 have hFr : appF g.F t.own (g.last + 1) = replay noF 0 (g.all ++ [t.own]) := by
  rw [replay_snoc, ← h.F]
  unfold Dk.last
  simp
 refine ⟨hFr, by rw [hlast, hF]; exact h.good.app k2, fun j hj => ?_, h.nod.sublist (List.filter_sublist.map _), fun u hu => ?_, fun u hu => ?_⟩
 ·have hj' : j ≤ g.all.length + 1 := by
   have : (Dk.put { g with lg := lg, op := eraseT g.op id } t.own e).all.length = g.all.length + 1 := by unfold Dk.put; simp
   omega
  show OrdV (atN (g.all ++ [t.own]) j)
  rcases Nat.lt_or_ge g.all.length j with q | q
  ·have : j = g.all.length + 1 := by omega
   subst this
   have e2 : atN (g.all ++ [t.own]) (g.all.length + 1) = fun s => tell (appF g.F t.own (g.last + 1)) s (g.last + 1) := by
    unfold atN
    rw [List.take_of_length_le (by simp), ← hFr]
    unfold Dk.last
    simp
   rw [e2, tell_app h.good k2]
   exact k1
  ·rw [atN_old _ _ q]
   exact h.pre j q
 ·have := h.bnd u (mem_erase hu)
  exact ⟨this.1, by rw [hlast]; omega⟩
 ·have hu' := mem_erase hu
  rw [hF]
  exact (h.tr u hu').congr (fun s => tell_app_old h.good k2 (h.bnd u hu').2 s)
theorem HOrd.commit (h : HOrd g) (id : Int) : HOrd (g.commit id).2.2 := by
 unfold Dk.commit
 cases ht : findT g.op id with
 | none => exact h
 | some t =>
  simp only
  split
  ·exact h.erase id g.lg g.ns
  ·rename_i hc
   split
   ·exact h.erase id g.lg g.ns
   ·split
    ·exact h.put (findT_mem ht).1 hc id _ _
    ·exact h.erase id _ g.ns
end
section
variable {h : Hl}
theorem HOrd.honce (o : HOrd h.d) (c : PCall) : HOrd (h.once c).2.2.2.d := by
 unfold Hl.once
 split
 ·exact o.begin
 ·show HOrd (onceD h.d.begin.2.2 h.d.begin.1 c).2.2.2
  unfold onceD
  split
  ·exact (o.begin.do _ c).abort _
  ·split
   ·exact (o.begin.do _ c).commit _
   ·exact (o.begin.do _ c).commit _
end
theorem riseOk_of : ∀ {l : List Chg} {p : Option Chg}, RiseC l → (∀ c ∈ l, oneOk c = true) → (∀ q, p = some q → ∀ c ∈ l, lessB q.key c.key = true) → riseOk p l = true
 | [], _, _, _, _ => rfl
 | c :: l, p, h, ho, hp => by
  have h' := List.pairwise_cons.1 h
  have h1 := ho c List.mem_cons_self
  have h3 := riseOk_of (l := l) (p := some c) h'.2 (fun x hx => ho x (List.mem_cons_of_mem _ hx)) (fun q e x hx => by injection e with e; subst e; exact h'.1 x hx)
  unfold riseOk
  rw [h1, h3]
  cases p with
  | none => rfl
  | some q =>
   have := hp q rfl c List.mem_cons_self
   simp [lessB_asymm this, (lessB_ne this).symm]
theorem fault_own {l : List Chg} (hn : l.length ≤ 20) (hr : RiseC l) (ho : ∀ c ∈ l, oneOk c = true) : chgFault l = 0 :=
 chgFault_zero.2 ⟨hn, riseOk_of hr ho (by simp)⟩
theorem append_own {lg : Lg} {l : List Chg} (hf : chgFault l = 0) (hd : lg.down = false) (hl : lg.left = -1) (hr : lg.room = 100000) (hB : (lg.B.length : Int) ≤ 99000) :
  lg.append l = (0, { lg with B := lg.B ++ frame l }) ∧ ((lg.B ++ frame l).length : Int) ≤ lg.B.length + 763 := by
 have he := encL_length hf
 refine ⟨?_, ?_⟩
 ·unfold Lg.append
  rw [if_neg (by rw [hf]; simp), if_neg (by rw [hr]; omega), if_neg (by rw [hd]; simp), if_neg (by rw [hl]; decide)]
  unfold leftS
  rw [hl, if_neg (by decide)]
 ·rw [List.length_append, frame_length]
  push_cast
  omega
theorem commit_own {g : Dk} {id : Int} {t : Tr} (ht : findT g.op id = some t) (hne : t.own ≠ []) (hf : chgFault t.own = 0) (hF : NoLater g.F t.sees) (hd : g.lg.down = false) (hl : g.lg.left = -1) (hr : g.lg.room = 100000) (hB : (g.lg.B.length : Int) ≤ 99000) :
  g.commit id = (g.last + 1, 0, Dk.put { g with lg := { g.lg with B := g.lg.B ++ frame t.own }, op := eraseT g.op id } t.own ((g.lg.B ++ frame t.own).length : Int)) := by
 obtain ⟨ha, _⟩ := append_own hf hd hl hr hB
 unfold Dk.commit
 rw [ht]
 simp only
 rw [if_neg hF.clash, if_neg hne, ha, if_pos rfl]
theorem GoodR.noLater {F : List UInt8 → List Ver} {n : Int} (h : GoodR F n) : NoLater F n := fun s v hv => (h s).2 v hv
def tk (t : St) (s : List UInt8) : St := { t with asked := t.asked + 1, keys := t.keys ++ [s] }
def tsp (t : St) (lo hi : List UInt8) : St := { t with asked := t.asked + 1, spans := t.spans ++ [(lo, hi)] }
def tch (t : St) (c : Chg) : St := { t with own := insC c t.own }
section
variable {β : Base} {t : St} {s : List UInt8} {c : PCall}
theorem get_1 (hk : keyB s = true) (ht : t.asked ≠ 100) {v : List UInt8} (h : seeB β t.own s = some v) : t.get β s = ((v, 0), tk t s) := by
 unfold St.get tk getB
 rw [if_neg (by rw [hk]; simp), if_neg ht, h]
theorem get_0 (hk : keyB s = true) (ht : t.asked ≠ 100) (h : seeB β t.own s = none) : t.get β s = (([], 4), tk t s) := by
 unfold St.get tk getB
 rw [if_neg (by rw [hk]; simp), if_neg ht, h]
theorem has_eq (s : List UInt8) : (hasP s).runS β t = ((decide ((t.get β s).1.2 = 0), if (t.get β s).1.2 = 4 then 0 else (t.get β s).1.2), (t.get β s).2) := rfl
theorem hasS1 (hk : keyB s = true) (ht : t.asked ≠ 100) {v : List UInt8} (h : seeB β t.own s = some v) : (hasP s).runS β t = ((true, 0), tk t s) := by rw [has_eq, get_1 hk ht h]; rfl
theorem hasS0 (hk : keyB s = true) (ht : t.asked ≠ 100) (h : seeB β t.own s = none) : (hasP s).runS β t = ((false, 0), tk t s) := by rw [has_eq, get_0 hk ht h]; rfl
theorem range_1 (ht : t.asked ≠ 100) (lo hi : List UInt8) : t.range β lo hi = ((0, rangeB (seeB β t.own) lo hi), tsp t lo hi) := by
 unfold St.range tsp
 rw [if_neg ht]
theorem pfxs_eq (net : List UInt8) : (pfxsP net).runS β t = ((faultL (t.range β (loK 112 net) (hiK 112 net)).1.1 (readAll pfxO (t.range β (loK 112 net) (hiK 112 net)).1.2), listL (t.range β (loK 112 net) (hiK 112 net)).1.1 (readAll pfxO (t.range β (loK 112 net) (hiK 112 net)).1.2)), (t.range β (loK 112 net) (hiK 112 net)).2) := rfl
theorem ads_eq (net : List UInt8) : (adsP net).runS β t = ((faultL (t.range β (loK 97 net) (hiK 97 net)).1.1 (readAll adO (t.range β (loK 97 net) (hiK 97 net)).1.2), listL (t.range β (loK 97 net) (hiK 97 net)).1.1 (readAll adO (t.range β (loK 97 net) (hiK 97 net)).1.2)), (t.range β (loK 97 net) (hiK 97 net)).2) := rfl
theorem pfxS1 {net : List UInt8} (ht : t.asked ≠ 100) {L : List Pf} (h : readAll pfxO (rangeB (seeB β t.own) (loK 112 net) (hiK 112 net)) = some L) : (pfxsP net).runS β t = ((0, L), tsp t (loK 112 net) (hiK 112 net)) := by
 rw [pfxs_eq, range_1 ht]
 simp only
 rw [h]
 rfl
theorem adS1 {net : List UInt8} (ht : t.asked ≠ 100) {L : List Int} (h : readAll adO (rangeB (seeB β t.own) (loK 97 net) (hiK 97 net)) = some L) : (adsP net).runS β t = ((0, L), tsp t (loK 97 net) (hiK 97 net)) := by
 rw [ads_eq, range_1 ht]
 simp only
 rw [h]
 rfl
theorem chgS1 {x : Chg} {a : PAns} (hk : keyB x.key = true) (hv : x.val.length ≤ 12) (hn : t.own.length < 20) : (chgP x a).runS β t = ((a, 0), tch t x) := by
 have e : (chgP x a).runS β t = ((if (t.change x).1 = 0 then a else noAns, (t.change x).1), (t.change x).2) := rfl
 have e2 : t.change x = (0, tch t x) := by
  unfold St.change tch
  rw [if_neg (by rw [hk]; simp; omega), if_neg (by rintro ⟨_, q⟩; omega)]
 rw [e, e2]
 rfl
theorem pk_ok {net : List UInt8} (hn : nameB net = true) {p : Pf} (hp : chk p.1 p.2 = 0) : keyB (pkOf net p) = true := by
 have h1 := (nameB_iff.1 hn).2
 obtain ⟨q1, q2, q3, q4, _⟩ := chk_zero.1 hp
 have e1 := dec_one (n := p.2.toNat / 10) (by omega)
 have e2 := dec_one (n := p.2.toNat % 10) (by omega)
 unfold keyB pkOf pKey
 rw [e1, e2]
 simp [hexL_length]
 omega
theorem ak_ok {net : List UInt8} (hn : nameB net = true) {a : Int} : keyB (akOf net a) = true := by
 have h1 := (nameB_iff.1 hn).2
 unfold keyB akOf aKey
 simp [hexL_length]
 omega
theorem doS_fault (hf : callFault c ≠ 0) : (doP c).runS β t = ((noAns, callFault c), t) := by
 unfold doP
 rw [if_pos hf]
 rfl
theorem doS_none (hf : callFault c = 0) (hw : c.what ≠ 1) (ht : t.asked ≠ 100) (h : seeB β t.own c.nk = none) : (doP c).runS β t = ((noAns, 4), tk t c.nk) := by
 have hn := (callFault_zero hf).2.1
 unfold doP
 rw [if_neg (by rw [hf]; simp), DP.runS_bind, hasS0 (s := c.nk) (nKey_ok hn) ht h]
 simp only
 rw [if_neg (by simp), if_neg hw, if_pos (by simp)]
 rfl
theorem doS_in (hf : callFault c = 0) (hw : c.what ≠ 1) (ht : t.asked ≠ 100) {v : List UInt8} (h : seeB β t.own c.nk = some v) : (doP c).runS β t = (do2P c).runS β (tk t c.nk) := by
 have hn := (callFault_zero hf).2.1
 unfold doP
 rw [if_neg (by rw [hf]; simp), DP.runS_bind, hasS1 (s := c.nk) (nKey_ok hn) ht h]
 simp only
 rw [if_neg (by simp), if_neg hw, if_neg (by simp)]
theorem netS_clash {nm ow : List UInt8} (hn : nameB nm = true) (ho : nameB ow = true) (ht : t.asked ≠ 100) {v : List UInt8} (h : seeB β t.own (nKey nm) = some v) : (doP (netC nm ow)).runS β t = ((noAns, 6), tk t (nKey nm)) := by
 unfold doP
 rw [if_neg (by rw [netC_fault hn ho]; simp), DP.runS_bind, hasS1 (s := (netC nm ow).nk) (nKey_ok hn) ht h]
 simp only
 rw [if_neg (by simp), if_pos (show (netC nm ow).what = 1 from rfl), if_pos trivial]
 rfl
theorem pbAdd (hw : c.what = 2) (ht : t.asked ≤ 90) (hn : t.own.length ≤ 10) (hr : ((doP c).runS β t).1.2 = 0) :
  nameB c.name = true ∧ nameB c.owner = true ∧ chk c.pa c.pn = 0 ∧ (∃ v, seeB β t.own c.nk = some v) ∧ seeB β t.own c.pk = none ∧
  ∃ t', (doP c).runS β t = ((noAns, 0), t') ∧ t'.own = insC ⟨c.pk, c.owner, false⟩ t.own ∧ t'.asked = t.asked + 2 := by
 by_cases hf : callFault c = 0
 ·obtain ⟨_, f1, f2, f3, _⟩ := callFault_zero hf
  have f2 := f2 (by unfold callOwned; simp [hw])
  have f3 := f3 (by unfold callPf; simp [hw])
  have f4 := (nameB_iff.1 f2).2.2
  cases hnk : seeB β t.own c.nk with
  | none => rw [doS_none hf (by omega) (by omega) hnk] at hr; exact absurd (show (4 : Int) = 0 from hr) (by decide)
  | some v =>
   have e := doS_in (β := β) hf (by omega) (by omega) hnk
   unfold do2P at e
   rw [if_pos hw] at e
   unfold addP at e
   rw [DP.runS_bind] at e
   cases hpk : seeB β t.own c.pk with
   | some u =>
    rw [hasS1 (s := c.pk) (t := tk t c.nk) (pk_ok f1 (p := c.pf) f3) (by show t.asked + 1 ≠ 100; omega) (v := u) hpk] at e
    simp only at e
    rw [if_neg (by simp), if_pos trivial] at e
    rw [e] at hr
    exact absurd (show (6 : Int) = 0 from hr) (by decide)
   | none =>
    rw [hasS0 (s := c.pk) (t := tk t c.nk) (pk_ok f1 (p := c.pf) f3) (by show t.asked + 1 ≠ 100; omega) hpk] at e
    simp only at e
    rw [if_neg (by simp), if_neg (by simp), chgS1 (pk_ok f1 (p := c.pf) f3) (by show c.owner.length ≤ 12; omega) (by show t.own.length < 20; omega)] at e
    exact ⟨f1, f2, f3, ⟨v, rfl⟩, rfl, _, e, rfl, by show t.asked + 1 + 1 = _; omega⟩
 ·rw [doS_fault hf] at hr
  exact absurd hr hf
theorem pbPlace (hw : c.what = 4) (ht : t.asked ≤ 90) (hn : t.own.length ≤ 10) (hK : KeepO β t.own) :
  (∃ f t', f ≠ 0 ∧ (doP c).runS β t = ((noAns, f), t') ∧ t'.own = t.own ∧ t'.asked ≤ t.asked + 3) ∨
  (nameB c.name = true ∧ nameB c.owner = true ∧ isA c.ad = true ∧ (∃ v, seeB β t.own c.nk = some v) ∧ seeB β t.own c.ak = none ∧
   ∃ t', (doP c).runS β t = ((noAns, 0), t') ∧ t'.own = insC ⟨c.ak, c.owner, false⟩ t.own ∧ t'.asked ≤ t.asked + 3) := by
 by_cases hf : callFault c = 0
 ·obtain ⟨_, f1, f2, _, f3⟩ := callFault_zero hf
  have f2 := f2 (by unfold callOwned; simp [hw])
  have f3 := f3 (by unfold callAd; simp [hw])
  have f4 := (nameB_iff.1 f2).2.2
  cases hnk : seeB β t.own c.nk with
  | none => exact .inl ⟨4, _, by decide, doS_none hf (by omega) (by omega) hnk, rfl, by show t.asked + 1 ≤ _; omega⟩
  | some v =>
   have e := doS_in (β := β) hf (by omega) (by omega) hnk
   unfold do2P at e
   rw [if_neg (by omega), if_neg (by omega), if_pos hw] at e
   unfold placeP at e
   obtain ⟨L, hL, _⟩ := hK.1.pfxs f1
   rw [DP.runS_bind, pfxS1 (t := tk t c.nk) (by show t.asked + 1 ≠ 100; omega) (L := L) hL] at e
   simp only at e
   rw [if_neg (by simp), DP.runS_bind] at e
   cases hak : seeB β t.own c.ak with
   | some u =>
    rw [hasS1 (s := c.ak) (t := tsp (tk t c.nk) (loK 112 c.name) (hiK 112 c.name)) (ak_ok f1) (by show t.asked + 1 + 1 ≠ 100; omega) (v := u) hak] at e
    simp only at e
    rw [if_neg (by simp)] at e
    by_cases hc : coveredB c.ad L (0, -1) = false
    ·rw [if_pos hc] at e
     exact .inl ⟨7, _, by decide, e, rfl, by show t.asked + 1 + 1 + 1 ≤ _; omega⟩
    ·rw [if_neg hc, if_pos trivial] at e
     exact .inl ⟨6, _, by decide, e, rfl, by show t.asked + 1 + 1 + 1 ≤ _; omega⟩
   | none =>
    rw [hasS0 (s := c.ak) (t := tsp (tk t c.nk) (loK 112 c.name) (hiK 112 c.name)) (ak_ok f1) (by show t.asked + 1 + 1 ≠ 100; omega) hak] at e
    simp only at e
    rw [if_neg (by simp)] at e
    by_cases hc : coveredB c.ad L (0, -1) = false
    ·rw [if_pos hc] at e
     exact .inl ⟨7, _, by decide, e, rfl, by show t.asked + 1 + 1 + 1 ≤ _; omega⟩
    ·rw [if_neg hc, if_neg (by simp), chgS1 (ak_ok f1) (by show c.owner.length ≤ 12; omega) (by show t.own.length < 20; omega)] at e
     exact .inr ⟨f1, f2, f3, ⟨v, rfl⟩, rfl, _, e, rfl, by show t.asked + 1 + 1 + 1 ≤ _; omega⟩
 ·exact .inl ⟨_, _, hf, doS_fault hf, rfl, by omega⟩
theorem pbWho (hw : c.what = 9) (hf : callFault c = 0) (ht : t.asked ≤ 90) {v u : List UInt8} (hnk : seeB β t.own c.nk = some v) (hak : seeB β t.own c.ak = some u) :
  ∃ t', (doP c).runS β t = ((⟨0, 0, 0, u, []⟩, 0), t') ∧ t'.own = t.own ∧ t'.asked = t.asked + 2 := by
 have f1 := (callFault_zero hf).2.1
 have e := doS_in (β := β) hf (by omega) (by omega) hnk
 unfold do2P at e
 rw [if_neg (by omega), if_neg (by omega), if_neg (by omega), if_neg (by omega), if_neg (by omega), if_neg (by omega), if_neg (by omega)] at e
 have e2 : (whoP c).runS β (tk t c.nk) = ((if ((tk t c.nk).get β c.ak).1.2 = 0 then (.ret (⟨0, 0, 0, ((tk t c.nk).get β c.ak).1.1, []⟩, 0) : DP (PAns × Int)) else if ((tk t c.nk).get β c.ak).1.2 ≠ 4 then noP ((tk t c.nk).get β c.ak).1.2
  else .range (loK 112 c.name) (hiK 112 c.name) fun q => if faultL q.1 (readAll pfxO q.2) ≠ 0 then noP (faultL q.1 (readAll pfxO q.2))
   else if (bestGoO c.ad (-1, []) q.2).1 < 0 then noP 4 else .ret (⟨0, 0, 0, (bestGoO c.ad (-1, []) q.2).2, []⟩, 0))).runS β ((tk t c.nk).get β c.ak).2 := rfl
 rw [e2, get_1 (s := c.ak) (t := tk t c.nk) (ak_ok f1) (by show t.asked + 1 ≠ 100; omega) hak, if_pos rfl] at e
 exact ⟨_, e, rfl, by show t.asked + 1 + 1 = _; omega⟩
theorem pbLeave (hw : c.what = 5) (hf : callFault c = 0) (ht : t.asked ≤ 90) (hn : t.own.length ≤ 10) {v u : List UInt8} (hnk : seeB β t.own c.nk = some v) (hak : seeB β t.own c.ak = some u) :
  ∃ t', (doP c).runS β t = ((noAns, 0), t') ∧ t'.own = insC ⟨c.ak, [], true⟩ t.own ∧ t'.asked = t.asked + 2 := by
 have f1 := (callFault_zero hf).2.1
 have e := doS_in (β := β) hf (by omega) (by omega) hnk
 unfold do2P at e
 rw [if_neg (by omega), if_neg (by omega), if_neg (by omega), if_pos hw] at e
 unfold leaveP at e
 rw [DP.runS_bind, hasS1 (s := c.ak) (t := tk t c.nk) (ak_ok f1) (by show t.asked + 1 ≠ 100; omega) hak] at e
 simp only at e
 rw [if_neg (by simp), if_neg (by simp), chgS1 (ak_ok f1) (by show ([] : List UInt8).length ≤ 12; decide) (by show t.own.length < 20; omega)] at e
 exact ⟨_, e, rfl, by show t.asked + 1 + 1 = _; omega⟩
theorem pbTake (hw : c.what = 3) (hf : callFault c = 0) (ht : t.asked ≤ 90) (hn : t.own.length ≤ 10) (hK : KeepO β t.own) {v u : List UInt8} (hnk : seeB β t.own c.nk = some v) (hpk : seeB β t.own c.pk = some u) :
  (∃ t', (doP c).runS β t = ((noAns, 7), t')) ∨ ∃ t', (doP c).runS β t = ((noAns, 0), t') ∧ t'.own = insC ⟨c.pk, [], true⟩ t.own ∧ t'.asked = t.asked + 4 := by
 obtain ⟨_, f1, _, f3, _⟩ := callFault_zero hf
 have f3 := f3 (by unfold callPf; simp [hw])
 have e := doS_in (β := β) hf (by omega) (by omega) hnk
 unfold do2P at e
 rw [if_neg (by omega), if_pos hw] at e
 unfold takeP at e
 obtain ⟨L, hL, _⟩ := hK.1.pfxs f1
 obtain ⟨M, hM, _⟩ := hK.1.ads f1
 rw [DP.runS_bind, hasS1 (s := c.pk) (t := tk t c.nk) (pk_ok f1 (p := c.pf) f3) (by show t.asked + 1 ≠ 100; omega) hpk] at e
 simp only at e
 rw [if_neg (by simp), if_neg (by simp), DP.runS_bind, pfxS1 (t := tk (tk t c.nk) c.pk) (by show t.asked + 1 + 1 ≠ 100; omega) (L := L) hL] at e
 simp only at e
 rw [if_neg (by simp), DP.runS_bind, adS1 (t := tsp (tk (tk t c.nk) c.pk) (loK 112 c.name) (hiK 112 c.name)) (by show t.asked + 1 + 1 + 1 ≠ 100; omega) (L := M) hM] at e
 simp only at e
 rw [if_neg (by simp)] at e
 by_cases h1 : (withinL c.pf L).length ≠ 0
 ·rw [if_pos h1] at e
  exact .inl ⟨_, e⟩
 ·rw [if_neg h1] at e
  by_cases h2 : (M.any (fun a => inA a c.pf && !coveredB a L c.pf)) = true
  ·rw [if_pos h2] at e
   exact .inl ⟨_, e⟩
  ·rw [if_neg h2, chgS1 (pk_ok f1 (p := c.pf) f3) (by show ([] : List UInt8).length ≤ 12; decide) (by show t.own.length < 20; omega)] at e
   exact .inr ⟨_, e, rfl, by show t.asked + 1 + 1 + 1 + 1 = _; omega⟩
end
theorem turn_back {V : Base} {s : List UInt8} (h : V s = none) (v : List UInt8) : turnV (turnV V ⟨s, v, false⟩) ⟨s, [], true⟩ = V := by
 funext x
 by_cases e : x = s
 ·subst e
  rw [turnV_same _ ⟨x, [], true⟩, h]
  rfl
 ·rw [turnV_other _ ⟨s, [], true⟩ e, turnV_other _ ⟨s, v, false⟩ e]
def hs (g : Dk) (t : Tr) : Hl := ⟨{ g with op := [t] }, [(zz, t.id)]⟩
def baD (g : Dk) : Base := fun s => tell g.F s g.last
def gPut (g : Dk) (l : List Chg) : Dk := Dk.put { g with op := [], lg := { g.lg with B := g.lg.B ++ frame l } } l ((g.lg.B ++ frame l).length : Int)
structure Qt (g : Dk) (i : Nat) : Prop where
 own : OwnI { g with op := [] } i
 good : GoodR g.F g.last
structure PbS (V : Base) (g : Dk) (t : Tr) (i : Nat) (na : Int) (no : Nat) : Prop where
 qt : Qt g i
 sees : t.sees = g.last
 keep : KeepO (baD g) t.own
 ok : ∀ c ∈ t.own, oneOk c = true
 asked : t.asked ≤ na
 len : t.own.length ≤ no
 view : seeB (baD g) t.own = V
section
variable {V V' : Base} {g : Dk} {t : Tr} {i no : Nat} {na : Int}
theorem hs_ask (h : t.sees = g.last) (c : PCall) : (hs g t).ask zz c = (((doP c).runS (baD g) t.st).1.1, ((doP c).runS (baD g) t.st).1.2, hs g (t.put ((doP c).runS (baD g) t.st).2)) := by
 unfold Hl.ask hs
 simp only [findH_one]
 have hf : findT [t] t.id = some t := by rw [findT_cons, if_pos rfl]
 rw [doC_st (g := { g with op := [t] }) (t := t) (by simp) hf c]
 have hb : baseOf { g with op := [t] } t = baD g := by
  unfold baseOf baD
  rw [h]
 rw [hb]
 unfold Dk.set
 simp [setT_cons, setT_nil, Tr.put]
theorem PbS.ask (h : PbS V g t i na no) {c : PCall} {x : PAns × Int} {t' : St} {V' : Base} {na' : Int} (hr : (doP c).runS (baD g) t.st = (x, t')) (hv : seeB (baD g) t'.own = V') (ha : t'.asked ≤ na') :
  PbS V' g (t.put t') i na' (no + 1) := by
 have hk := ord_step (β := baD g) (t := t.st) c h.keep
 have ho := DP.oneChg_own (baD g) (doP c) t.st (doP_one c)
 unfold Wp at hk
 rw [hr] at hk ho
 have hk : KeepO (baD g) t'.own := hk
 refine ⟨h.qt, h.sees, hk, ?_, ha, ?_, hv⟩
 ·intro y hy
  rcases ho with e | ⟨z, e, hz⟩
  ·have hy : y ∈ t'.own := hy
   rw [show t'.own = t.own from e] at hy
   exact h.ok y hy
  ·have hy : y ∈ t'.own := hy
   rw [show t'.own = insC z t.own from e] at hy
   rcases (insC_mem h.keep.2).1 hy with rfl | ⟨hy, _⟩
   ·exact hz
   ·exact h.ok y hy
 ·show t'.own.length ≤ no + 1
  rcases ho with e | ⟨z, e, hz⟩
  ·rw [show t'.own = t.own from e]
   have := h.len
   omega
  ·rw [show t'.own = insC z t.own from e, insC_len h.keep.2]
   have := h.len
   split <;> omega
theorem hs_open (h : Qt g i) (ho : g.op = []) : (⟨g, []⟩ : Hl).open zz = (0, hs { g with ids := g.ids + 1 } (tr0 (g.ids + 1) g.last)) := by
 have e : ({ g with op := [] } : Dk) = g := by
  cases g
  simp only at ho
  subst ho
  rfl
 have hI := h.own
 rw [e] at hI
 unfold Hl.open
 rw [if_neg (by decide), if_neg (by simp [findH_nil])]
 rw [hI.begin]
 simp only
 rw [if_neg (by simp)]
 rfl
theorem PbS.new (h : Qt g i) (ho : OrdV (baD g)) : PbS (baD g) { g with ids := g.ids + 1 } (tr0 (g.ids + 1) g.last) i 0 0 :=
 ⟨⟨⟨rfl, h.own.down, h.own.left, h.own.room, h.own.len⟩, h.good⟩, rfl, ⟨by show OrdV (seeB (baD g) []); rw [seeB_nil]; exact ho, List.Pairwise.nil⟩, fun c hc => (by cases hc), Int.le_refl _, Nat.le_refl _, seeB_nil _⟩
theorem PbS.shut (h : PbS V g t i na no) (hno : no ≤ 20) (hi : i < 100) (hne : t.own ≠ []) : (hs g t).close zz = (g.last + 1, 0, ⟨gPut g t.own, []⟩) := by
 have hf : findT [t] t.id = some t := by rw [findT_cons, if_pos rfl]
 have hea : eraseT [t] t.id = [] := by rw [eraseT_cons, if_pos rfl, eraseT_nil]
 have hB : (g.lg.B.length : Int) ≤ 99000 := by have : (g.lg.B.length : Int) ≤ 763 * i := h.qt.own.len; omega
 unfold Hl.close hs
 simp only [findH_one, eraseH_one]
 rw [commit_own (g := { g with op := [t] }) hf hne (fault_own (by have := h.len; omega) h.keep.2 h.ok) (by rw [h.sees]; exact h.qt.good.noLater) h.qt.own.down h.qt.own.left h.qt.own.room hB]
 simp only [hea]
 rfl
theorem gPut_base (h : PbS V g t i na no) : baD (gPut g t.own) = V := by
 have := tell_app h.qt.good h.keep.2
 have hl : (gPut g t.own).last = g.last + 1 := by
  unfold gPut Dk.put Dk.last
  simp
 unfold baD
 rw [hl]
 exact this.trans h.view
theorem gPut_qt (h : PbS V g t i na no) (hno : no ≤ 20) (hi : i < 100) : Qt (gPut g t.own) (i + 1) := by
 have hB : (g.lg.B.length : Int) ≤ 99000 := by have : (g.lg.B.length : Int) ≤ 763 * i := h.qt.own.len; omega
 have ha := (append_own (lg := g.lg) (fault_own (by have := h.len; omega) h.keep.2 h.ok) h.qt.own.down h.qt.own.left h.qt.own.room hB).2
 have hl : (gPut g t.own).last = g.last + 1 := by
  unfold gPut Dk.put Dk.last
  simp
 refine ⟨⟨rfl, h.qt.own.down, h.qt.own.left, h.qt.own.room, ?_⟩, ?_⟩
 ·show ((g.lg.B ++ frame t.own).length : Int) ≤ 763 * ((i + 1 : Nat) : Int)
  have : (g.lg.B.length : Int) ≤ 763 * i := h.qt.own.len
  omega
 ·rw [hl]
  exact h.qt.good.app h.keep.2
end
def xx : List UInt8 := [120]
def nw : List UInt8 := [110, 101, 119]
def addC (p : Pf) : PCall := ⟨2, xx, p.1, p.2, 0, 0, nw⟩
def placeC (a : Int) : PCall := ⟨4, xx, 0, 0, 0, a, nw⟩
def whoC (a : Int) : PCall := ⟨9, xx, 0, 0, 0, a, []⟩
def leaveC (a : Int) : PCall := ⟨5, xx, 0, 0, 0, a, []⟩
def takeC (p : Pf) : PCall := ⟨3, xx, p.1, p.2, 0, 0, []⟩
theorem isA_fault {w : Int} {a : Int} {ow : List UInt8} (ha : isA a = true) (h9 : w = 9 ∨ w = 5) : callFault ⟨w, xx, 0, 0, 0, a, ow⟩ = 0 := by
 unfold callFault callOwned callPf callAd
 have hn : nameB xx = true := by decide
 rcases h9 with rfl | rfl <;> simp [hn, ha]
theorem take_fault {p : Pf} (hp : chk p.1 p.2 = 0) : callFault (takeC p) = 0 := by
 unfold callFault callOwned callPf callAd takeC
 have hn : nameB xx = true := by decide
 simp [hn, hp]
structure PbJ (V : Base) (p : Pf) (g : Dk) (t : Tr) (i : Nat) (na : Int) (no : Nat) : Prop where
 s : PbS (turnV V ⟨pkOf xx p, nw, false⟩) g t i na no
 no : V (pkOf xx p) = none
 net : ∃ v, V (nKey xx) = some v
 chk : chk p.1 p.2 = 0
section
variable {V : Base} {p : Pf} {g : Dk} {t : Tr} {i no : Nat} {na : Int}
theorem keys_ne {p : Pf} (hp : Go.Proofs.YthleniobcbdepaaGreatDoor.chk p.1 p.2 = 0) : nKey xx ≠ pkOf xx p := fun e => by
 have h1 := keyI_pk (net := xx) (by decide) hp
 rw [← e, keyI_n (by decide)] at h1
 injection h1 with h1
 cases h1
theorem PbJ.netS (h : PbJ V p g t i na no) : ∃ v, seeB (baD g) t.own (nKey xx) = some v := by
 obtain ⟨v, hv⟩ := h.net
 exact ⟨v, by rw [h.s.view, turnV_other _ ⟨pkOf xx p, nw, false⟩ (keys_ne h.chk)]; exact hv⟩
theorem PbJ.pkS (h : PbJ V p g t i na no) : seeB (baD g) t.own (pkOf xx p) = some nw := by
 rw [h.s.view, turnV_same _ ⟨pkOf xx p, nw, false⟩]
 rfl
theorem PbS.add (h : PbS V g t i na no) (hna : na ≤ 90) (hno : no ≤ 10) (hr : ((hs g t).ask zz (addC p)).2.1 = 0) :
  ∃ t', (hs g t).ask zz (addC p) = (noAns, 0, hs g t') ∧ PbJ V p g t' i (na + 2) (no + 1) ∧ t'.own ≠ [] := by
 rw [hs_ask h.sees] at hr ⊢
 have ha := h.asked
 have hl := h.len
 obtain ⟨f1, f2, f3, hnk, hpk, t', e, eo, ea⟩ := pbAdd (β := baD g) (t := t.st) (c := addC p) rfl (by show t.asked ≤ 90; omega) (by show t.own.length ≤ 10; omega) hr
 have eo : t'.own = insC ⟨pkOf xx p, nw, false⟩ t.own := eo
 refine ⟨t.put t', by rw [e], ⟨h.ask e ?_ (by show t'.asked ≤ _; rw [ea]; show t.asked + 2 ≤ _; omega), ?_, ?_, f3⟩, ?_⟩
 ·rw [eo, see_ins (baD g) h.keep.2, h.view]
 ·rw [← h.view]; exact hpk
 ·rw [← h.view]; exact hnk
 ·show t'.own ≠ []
  rw [eo]
  intro q
  have := (insC_mem (c := ⟨pkOf xx p, nw, false⟩) (x := ⟨pkOf xx p, nw, false⟩) h.keep.2).2 (.inl rfl)
  rw [q] at this
  cases this
theorem PbJ.again (h : PbJ V p g t i na no) (hno : no ≤ 20) (hi : i < 100) (hne : t.own ≠ []) :
  ∃ g1, (hs g t).close zz = (g.last + 1, 0, ⟨g1, []⟩) ∧ ∃ g2 t2, (⟨g1, []⟩ : Hl).open zz = (0, hs g2 t2) ∧ PbJ V p g2 t2 (i + 1) 0 0 := by
 have hq := gPut_qt h.s hno hi
 have hb := gPut_base h.s
 have ho : OrdV (baD (gPut g t.own)) := by
  rw [hb, ← h.s.view]
  exact h.s.keep.1
 refine ⟨_, h.s.shut hno hi hne, _, _, hs_open hq rfl, ⟨?_, h.no, h.net, h.chk⟩⟩
 have := PbS.new hq ho
 rw [hb] at this
 exact this
theorem PbJ.place (h : PbJ V p g t i na no) (hna : na ≤ 80) (hno : no ≤ 8) (a : Int) :
  (∃ f t', f ≠ 0 ∧ (hs g t).ask zz (placeC a) = (noAns, f, hs g t') ∧ PbJ V p g t' i (na + 3) (no + 1)) ∨
  ∃ t1 t2 t3, (hs g t).ask zz (placeC a) = (noAns, 0, hs g t1) ∧ (hs g t1).ask zz (whoC a) = (⟨0, 0, 0, nw, []⟩, 0, hs g t2) ∧ (hs g t2).ask zz (leaveC a) = (noAns, 0, hs g t3) ∧ PbJ V p g t3 i (na + 7) (no + 3) := by
 have ha := h.s.asked
 have hl := h.s.len
 rcases pbPlace (β := baD g) (t := t.st) (c := placeC a) rfl (by show t.asked ≤ 90; omega) (by show t.own.length ≤ 10; omega) h.s.keep with ⟨f, t', hf, e, eo, ea⟩ | ⟨f1, f2, f3, ⟨v, hnk⟩, hak, t', e, eo, ea⟩
 ·refine .inl ⟨f, t.put t', hf, by rw [hs_ask h.s.sees, e], ⟨h.s.ask e ?_ (by have : t'.asked ≤ t.asked + 3 := ea; omega), h.no, h.net, h.chk⟩⟩
  rw [eo]; exact h.s.view
 ·have eo : t'.own = insC ⟨akOf xx a, nw, false⟩ t.own := eo
  have hv1 : seeB (baD g) t'.own = turnV (turnV V ⟨pkOf xx p, nw, false⟩) ⟨akOf xx a, nw, false⟩ := by rw [eo, see_ins (baD g) h.s.keep.2, h.s.view]
  have s1 := h.s.ask (na' := na + 3) e hv1 (by have : t'.asked ≤ t.asked + 3 := ea; omega)
  have hne : nKey xx ≠ akOf xx a := fun q => by
   have h1 := keyI_ak (net := xx) (a := a) (by decide) f3
   rw [← q, keyI_n (by decide)] at h1
   injection h1 with h1
   cases h1
  have hnk1 : seeB (baD g) t'.own (nKey xx) = some v := by
   rw [hv1, turnV_other _ ⟨akOf xx a, nw, false⟩ hne, ← h.s.view]
   exact hnk
  have hak1 : seeB (baD g) t'.own (akOf xx a) = some nw := by
   rw [hv1, turnV_same _ ⟨akOf xx a, nw, false⟩]
   rfl
  obtain ⟨u2, e2, eo2, ea2⟩ := pbWho (β := baD g) (t := (t.put t').st) (c := whoC a) rfl (isA_fault f3 (.inl rfl)) (by have := s1.asked; show t'.asked ≤ 90; have : t'.asked ≤ t.asked + 3 := ea; omega) hnk1 hak1
  have eo2 : u2.own = t'.own := eo2
  have hv2 : seeB (baD g) u2.own = turnV (turnV V ⟨pkOf xx p, nw, false⟩) ⟨akOf xx a, nw, false⟩ := by rw [eo2, hv1]
  have ea2 : u2.asked = t'.asked + 2 := ea2
  have ea' : t'.asked ≤ t.asked + 3 := ea
  have s2 := s1.ask (na' := na + 5) e2 hv2 (by omega)
  obtain ⟨u3, e3, eo3, ea3⟩ := pbLeave (β := baD g) (t := ((t.put t').put u2).st) (c := leaveC a) rfl (isA_fault f3 (.inr rfl)) (by show u2.asked ≤ 90; omega) (by have := s2.len; show u2.own.length ≤ 10; have : u2.own.length ≤ no + 1 + 1 := this; omega) (show seeB (baD g) u2.own (nKey xx) = some v by rw [eo2]; exact hnk1) (show seeB (baD g) u2.own (akOf xx a) = some nw by rw [eo2]; exact hak1)
  have eo3 : u3.own = insC ⟨akOf xx a, [], true⟩ u2.own := eo3
  have ea3 : u3.asked = u2.asked + 2 := ea3
  have hak0 : turnV V ⟨pkOf xx p, nw, false⟩ (akOf xx a) = none := by
   rw [← h.s.view]
   exact hak
  have hv3 : seeB (baD g) u3.own = turnV V ⟨pkOf xx p, nw, false⟩ := by rw [eo3, see_ins (baD g) (show RiseC u2.own from s2.keep.2), hv2, turn_back hak0]
  have s3 := s2.ask (na' := na + 7) e3 hv3 (by omega)
  refine .inr ⟨t.put t', (t.put t').put u2, ((t.put t').put u2).put u3, by rw [hs_ask h.s.sees, e], by rw [hs_ask s1.sees, e2], by rw [hs_ask s2.sees, e3], ⟨s3, h.no, h.net, h.chk⟩⟩
theorem PbJ.take (h : PbJ V p g t i na no) (hna : na ≤ 90) (hno : no ≤ 10) (hi : i < 100) :
  (∃ t', (hs g t).ask zz (takeC p) = (noAns, 7, hs g t')) ∨
  ∃ t' g1, (hs g t).ask zz (takeC p) = (noAns, 0, hs g t') ∧ (hs g t').close zz = (g.last + 1, 0, ⟨g1, []⟩) ∧ baD g1 = V := by
 have ha := h.s.asked
 have hl := h.s.len
 obtain ⟨v, hnk⟩ := h.netS
 rcases pbTake (β := baD g) (t := t.st) (c := takeC p) rfl (take_fault h.chk) (by show t.asked ≤ 90; omega) (by show t.own.length ≤ 10; omega) h.s.keep hnk h.pkS with ⟨t', e⟩ | ⟨t', e, eo, ea⟩
 ·exact .inl ⟨t.put t', by rw [hs_ask h.s.sees, e]⟩
 ·have eo : t'.own = insC ⟨pkOf xx p, [], true⟩ t.own := eo
  have ea : t'.asked = t.asked + 4 := ea
  have hv : seeB (baD g) t'.own = V := by rw [eo, see_ins (baD g) h.s.keep.2, h.s.view, turn_back h.no]
  have s1 := h.s.ask (na' := na + 4) e hv (by omega)
  have hne : (t.put t').own ≠ [] := by
   show t'.own ≠ []
   rw [eo]
   intro q
   have := (insC_mem (c := ⟨pkOf xx p, [], true⟩) (x := ⟨pkOf xx p, [], true⟩) h.s.keep.2).2 (.inl rfl)
   rw [q] at this
   cases this
  exact .inr ⟨t.put t', _, by rw [hs_ask h.s.sees, e], s1.shut (by omega) hi hne, gPut_base s1⟩
end
end Go.Proofs.YthleniobcbdepaaGreatDoor
