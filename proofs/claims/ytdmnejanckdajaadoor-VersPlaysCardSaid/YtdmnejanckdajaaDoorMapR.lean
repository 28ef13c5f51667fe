/- Small laws over any program: ranging over a map, its entries in sight; the map's operations at the operation, for a walk. No conditions. -/
import Derived.Maps.RangeRun
import Derived.Maps.OwnSet
import Derived.Test.YtdmnejanckdajaaDoorMapS
namespace Go.Proofs.YtdmnejanckdajaaDoor
set_option linter.unusedVariables false
set_option linter.unusedSimpArgs false
open Go Go.RowKit Go.MapKept
open Go.ChangeMaps (setBlock heap_setBlock_same heap_setBlock_other)
open Go.Maps (Keyed)

/-- Block r ranges over the map in block b; left is what it has not told. -/
def RangeAt (w : World) (b r : Nat) (es : Array MapEntry) (clock : Nat) (left : List MapEntry) : Prop :=
  ∃ since seen c0, w.heap[r]? = some (.mapIter (some b) since seen c0) ∧ (∀ x ∈ es.toList, x.born < since) ∧ since ≤ c0 ∧ since ≤ clock ∧ left = es.toList.filter (fun x => !seen.contains x.born)
theorem perm_take {l : List MapEntry} (hn : (l.map (·.born)).Nodup) {e : MapEntry} (he : e ∈ l) : List.Perm l (e :: l.filter (fun x => x.born != e.born)) := by
  induction l with
  | nil => cases he
  | cons a r ih =>
    rw [List.map_cons, List.nodup_cons] at hn
    by_cases hae : a.born = e.born
    · have : e = a := by
        rcases List.mem_cons.1 he with h | h
        · exact h
        · exact absurd (List.mem_map.2 ⟨e, h, hae.symm⟩) hn.1
      subst this
      rw [List.filter_cons_of_neg (by simp)]
      have : r.filter (fun x => x.born != e.born) = r := List.filter_eq_self.2 (fun x hx => by simpa using fun h => hn.1 (List.mem_map.2 ⟨x, hx, h⟩))
      rw [this]
    · rw [List.filter_cons_of_pos (by simpa using hae)]
      have he' : e ∈ r := by
        rcases List.mem_cons.1 he with h | h
        · exact absurd (by rw [h]) hae
        · exact h
      exact ((ih hn.2 he').cons a).trans (List.Perm.swap e a _)
section
variable {P : Program} {k : TypeId} {b r : Nat} {es : Array MapEntry} {clock : Nat} {w : World} {left : List MapEntry}
theorem RangeAt.lt (h : RangeAt w b r es clock left) : r < w.heap.size := by
  obtain ⟨_, _, _, h, _⟩ := h
  exact (Array.getElem?_eq_some_iff.1 h).1
theorem RangeAt.keep (h : RangeAt w b r es clock left) {w' : World} (e : w'.heap[r]? = w.heap[r]?) : RangeAt w' b r es clock left := by
  obtain ⟨s, n, c, h1, h2⟩ := h
  exact ⟨s, n, c, e.trans h1, h2⟩
theorem RangeAt.below (h : RangeAt w b r es clock left) {w' : World} {B : Nat} (hb : Below B w w') (hB : r < B) : RangeAt w' b r es clock left := h.keep (hb.block r hB)
theorem RangeAt.alloc (h : RangeAt w b r es clock left) (o : Obj) : RangeAt (w.alloc o) b r es clock left := h.keep (Below.heap_alloc w o r h.lt)
theorem RangeAt.far (h : RangeAt w b r es clock left) {p : Addr} (hp : r ≠ p.block) (u : Value) : RangeAt (w.setCell p u) b r es clock left := h.keep (Below.heap_setCell w p u r hp)
theorem RangeAt.sub (h : RangeAt w b r es clock left) : ∀ x ∈ left, x ∈ es.toList := by
  obtain ⟨s, n, c, _, _, _, _, rfl⟩ := h
  exact fun x hx => (List.mem_filter.1 hx).1
/-- The map has been stored at a key that was told, or lost one. -/
theorem RangeAt.turn (h : RangeAt w b r es clock left) {w' : World} {es' : Array MapEntry} {key : Value} (e : w'.heap[r]? = w.heap[r]?) (hb : ∀ x ∈ es'.toList, ∃ y ∈ es.toList, y.born = x.born)
    (hp : ∀ p : Nat → Bool, (∀ x ∈ es.toList, x.key = key → p x.born = false) → es'.toList.filter (fun x => p x.born) = es.toList.filter (fun x => p x.born)) (hl : ∀ x ∈ left, x.key ≠ key) : RangeAt w' b r es' clock left := by
  obtain ⟨s, n, c, h1, h2, h3, h3', rfl⟩ := h
  refine ⟨s, n, c, e.trans h1, ?_, h3, h3', ?_⟩
  · intro x hx
    obtain ⟨y, hy, hyx⟩ := hb x hx
    rw [← hyx]
    exact h2 y hy
  · refine (hp (fun q => !n.contains q) (fun x hx hk => ?_)).symm
    cases hc : n.contains x.born with
    | true => rfl
    | false => exact absurd hk (hl x (List.mem_filter.2 ⟨hx, by simp only [hc]; rfl⟩))
theorem RangeAt.begin (h : MapAt w P k b es clock) : RangeAt (w.alloc (.mapIter (some b) clock #[] clock)) b w.heap.size es clock es.toList :=
  ⟨clock, #[], clock, heap_alloc_new w _, h.stamped.1, Nat.le_refl _, Nat.le_refl _, (List.filter_eq_self.2 (fun _ _ => by simp)).symm⟩
theorem range_run {t e : TypeId} (h : MapAt w P k b es clock) (ht : P.underlying t = some (.map k e)) : (Instr.range t (.map (some b))).run P w = .ok (.pointer (some ⟨w.heap.size, 0, none⟩)) (w.alloc (.mapIter (some b) clock #[] clock)) :=
  run_range_map w t k e b es clock ht h.hb
/-- The step. -/
theorem RangeAt.next (h : RangeAt w b r es clock left) (m : MapAt w P k b es clock) (hbr : b ≠ r) (ty : TypeId) :
    (left = [] ∧ (Instr.next (.pointer (some ⟨r, 0, none⟩)) false ty).run P w = .ok (.tuple #[.bool false]) w) ∨
    ∃ e left' w', e ∈ left ∧ List.Perm left (e :: left') ∧ (Instr.next (.pointer (some ⟨r, 0, none⟩)) false ty).run P w = .ok (.tuple #[.bool true, e.key, e.val]) w' ∧
      RangeAt w' b r es clock left' ∧ MapAt w' P k b es clock ∧ w.grownBy w' (some r) ∧ w'.heap.size = w.heap.size ∧ (∀ x ∈ left', x.key ≠ e.key) ∧
      (Instr.entry (.pointer (some ⟨r, 0, none⟩))).run P w' = .ok (.tuple #[e.key, e.val]) w' := by
  obtain ⟨s, n, c, h1, h2, h3, h3', rfl⟩ := h
  have hleft : (leftOf es n).toList = es.toList.filter (fun x => !n.contains x.born) := by unfold leftOf; simp
  rcases run_next_at (P := P) w ty r b s c n es clock h1 m.hb h2 h3 with ⟨h0, hrun⟩ | ⟨e, he, w1, hw, hrun⟩
  · refine .inl ⟨?_, hrun⟩
    rw [← hleft]
    exact List.eq_nil_of_length_eq_zero (by simpa using h0)
  · right
    have hb1 : w1.heap = w.heap := by rcases hw with rfl | rfl <;> rfl
    have h1' : w1.heap[r]? = some (.mapIter (some b) s n c) := by rw [hb1]; exact h1
    rw [hleft] at he
    have heE := (List.mem_filter.1 he).1
    have hset := heap_set (o' := .mapIter (some b) s (n.push e.born) clock) h1'
    have hmap : (setBlock w1 r (.mapIter (some b) s (n.push e.born) clock)).heap[b]? = w.heap[b]? := (hset.2 b hbr).trans (by rw [hb1])
    have hnb : ((es.toList.filter (fun x => !n.contains x.born)).map (·.born)).Nodup := (List.filter_sublist.map _).nodup m.stamped.2.1
    have hleft' : (es.toList.filter (fun x => !n.contains x.born)).filter (fun x => x.born != e.born) = es.toList.filter (fun x => !(n.push e.born).contains x.born) := by
      rw [List.filter_filter]
      congr 1
      funext x
      rw [Bool.eq_iff_iff]
      simp [and_comm]
    refine ⟨e, _, _, he, perm_take hnb he, hrun, ⟨s, n.push e.born, clock, hset.1, h2, h3', h3', hleft'⟩, m.keep hmap, ?_, ?_, ?_, run_entry_at _ r b s n es clock e hset.1 (hmap.trans m.hb) heE m.stamped.2.1⟩
    · refine ⟨?_, ?_, ?_, ?_, ?_⟩
      · rcases hw with rfl | rfl <;> rfl
      · rcases hw with rfl | rfl <;> rfl
      · rcases hw with rfl | rfl <;> rfl
      · simp [setBlock, hb1]
      · intro i _ hi
        exact (hset.2 i (fun e => hi (by rw [e]))).trans (by rw [hb1])
    · simp [setBlock, hb1]
    · intro x hx hxe
      have hx1 := (List.mem_filter.1 hx)
      have hx2 := (List.mem_filter.1 hx1.1).1
      have := m.one hx2 heE hxe
      subst this
      simp at hx1
end
end Go.Proofs.YtdmnejanckdajaaDoor
