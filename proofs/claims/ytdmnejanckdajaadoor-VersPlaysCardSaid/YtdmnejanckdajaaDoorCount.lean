/- How many versions there are; what is forgotten: plain mathematics. No conditions. -/
import Derived.Test.YtdmnejanckdajaaDoorVers10
namespace Go.Proofs.YtdmnejanckdajaaDoor
set_option linter.unusedVariables false
set_option linter.unusedSimpArgs false
open Go.RowKit

/-- There are N versions in all. -/
def Count (F : List UInt8 → List Ver) (N : Nat) : Prop := ∃ ks : List (List UInt8), ks.Nodup ∧ (∀ s, F s ≠ [] → s ∈ ks) ∧ N = (ks.map (fun s => (F s).length)).sum
theorem sum_filter (F : List UInt8 → List Ver) : ∀ ks : List (List UInt8), ((ks.filter (fun s => !(F s).isEmpty)).map (fun s => (F s).length)).sum = (ks.map (fun s => (F s).length)).sum
  | [] => rfl
  | s :: ks => by
    have ih := sum_filter F ks
    cases h : F s with
    | nil => rw [List.filter_cons_of_neg (by simp [h]), List.map_cons, List.sum_cons, ih]; simp [h]
    | cons a l => rw [List.filter_cons_of_pos (by simp [h]), List.map_cons, List.sum_cons, ih, List.map_cons, List.sum_cons]
theorem Count.unique {F : List UInt8 → List Ver} {N M : Nat} (h : Count F N) (h' : Count F M) : N = M := by
  obtain ⟨ks, h1, h2, rfl⟩ := h
  obtain ⟨ls, h3, h4, rfl⟩ := h'
  rw [← sum_filter F ks, ← sum_filter F ls]
  have hp : (ks.filter (fun s => !(F s).isEmpty)).Perm (ls.filter (fun s => !(F s).isEmpty)) := by
    rw [List.perm_ext_iff_of_nodup (h1.filter _) (h3.filter _)]
    intro s
    simp only [List.mem_filter, Bool.not_eq_true', List.isEmpty_eq_false_iff]
    exact ⟨fun ⟨_, h⟩ => ⟨h4 s h, h⟩, fun ⟨_, h⟩ => ⟨h2 s h, h⟩⟩
  exact (hp.map _).sum_nat
theorem Count.new : Count (fun _ => []) 0 := ⟨[], by simp, fun s h => absurd rfl h, rfl⟩
theorem sum_upd {F : List UInt8 → List Ver} {s : List UInt8} {L : List Ver} : ∀ {ks : List (List UInt8)}, ks.Nodup → s ∉ ks → (ks.map (fun x => (upd F s L x).length)).sum = (ks.map (fun x => (F x).length)).sum
  | [], _, _ => rfl
  | x :: ks, hn, hs => by
    rw [List.nodup_cons] at hn
    simp only [List.mem_cons, not_or] at hs
    rw [List.map_cons, List.sum_cons, List.map_cons, List.sum_cons, sum_upd hn.2 hs.2, upd_other F L (fun e => hs.1 e.symm)]
theorem Count.upd {F : List UInt8 → List Ver} {N : Nat} (h : Count F N) (s : List UInt8) (L : List Ver) : ∃ M, Count (upd F s L) M ∧ M + (F s).length = N + L.length := by
  obtain ⟨ks, h1, h2, rfl⟩ := h
  have key : ∃ ls : List (List UInt8), ls.Nodup ∧ s ∉ ls ∧ (∀ x, F x ≠ [] → x = s ∨ x ∈ ls) ∧ (ks.map (fun x => (F x).length)).sum = (F s).length + (ls.map (fun x => (F x).length)).sum := by
    by_cases hs : s ∈ ks
    · refine ⟨ks.erase s, h1.erase s, fun h => by rw [h1.mem_erase_iff] at h; exact h.1 rfl, fun x hx => ?_, ?_⟩
      · by_cases e : x = s
        · exact .inl e
        · exact .inr (by rw [h1.mem_erase_iff]; exact ⟨e, h2 x hx⟩)
      · have := ((List.perm_cons_erase hs).map (fun x => (F x).length)).sum_nat
        rw [this, List.map_cons, List.sum_cons]
    · refine ⟨ks, h1, hs, fun x hx => .inr (h2 x hx), ?_⟩
      have : F s = [] := by
        cases e : F s with
        | nil => rfl
        | cons a l => exact absurd (h2 s (by rw [e]; simp)) hs
      rw [this]
      simp
  obtain ⟨ls, k1, k2, k3, k4⟩ := key
  refine ⟨L.length + (ls.map (fun x => (F x).length)).sum, ⟨s :: ls, List.nodup_cons.2 ⟨k2, k1⟩, fun x hx => ?_, ?_⟩, by rw [k4]; omega⟩
  · by_cases e : x = s
    · exact e ▸ List.mem_cons_self
    · rw [upd_other _ _ e] at hx
      rcases k3 x hx with h | h
      · exact absurd h e
      · exact List.mem_cons_of_mem _ h
  · rw [List.map_cons, List.sum_cons, upd_same, sum_upd k1 k2]

/-- What stays of a key's versions. -/
def colL (l : List Ver) (n : Int) : List Ver := match fnd l n l.length with
  | 0 => l
  | k + 1 => match l[k]? with
    | some v => if v.gone then l.drop (k + 1) else l.drop k
    | none => l
def colF (F : List UInt8 → List Ver) (n : Int) : List UInt8 → List Ver := fun s => colL (F s) n
theorem colL_zero {l : List Ver} {n : Int} (h : fnd l n l.length = 0) : colL l n = l := by simp [colL, h]
theorem colL_gone {l : List Ver} {n : Int} {k : Nat} (h : fnd l n l.length = k + 1) (hk : k < l.length) (hg : l[k].gone = true) : colL l n = l.drop (k + 1) := by
  simp only [colL, h, List.getElem?_eq_getElem hk, hg, if_true]
theorem colL_here {l : List Ver} {n : Int} {k : Nat} (h : fnd l n l.length = k + 1) (hk : k < l.length) (hg : l[k].gone = false) : colL l n = l.drop k := by
  simp only [colL, h, List.getElem?_eq_getElem hk, hg, Bool.false_eq_true, if_false]
theorem colL_sub (l : List Ver) (n : Int) : (colL l n).Sublist l := by
  unfold colL
  split
  · exact List.Sublist.refl _
  · split
    · split
      · exact List.drop_sublist _ _
      · exact List.drop_sublist _ _
    · exact List.Sublist.refl _
theorem colL_nil (n : Int) : colL [] n = [] := by simp [colL, fnd]
theorem Good.col {F : List UInt8 → List Ver} {top : Int} {m : Nat} (h : Good F top m) (n : Int) : Good (colF F n) top m :=
  ⟨fun s => Nat.le_trans (colL_sub _ _).length_le (h.len s), fun s v hv => h.num s v ((colL_sub _ _).subset hv), fun s hs => h.key s (fun e => hs (by unfold colF; rw [e, colL_nil])), fun s => (h.rise s).sublist (colL_sub _ _), h.top0⟩
end Go.Proofs.YtdmnejanckdajaaDoor
