/- Texts joined: XMapS, XMapR. Each says at its head what it proves; conditions: as said there. -/
import Derived.Maps.RangeRun
import Derived.Maps.OwnSet
import Derived.Test.YtfklhjkgogncdaaD1
/- Small laws over any program: a map's block, its entries in sight: look-up, store, delete, len, range. No conditions. -/
namespace Go.Proofs.Ytfklhjkgogncdaa
set_option linter.unusedVariables false
set_option linter.unusedSimpArgs false
open Go Go.RowKit Go.MapKept
open Go.ChangeMaps (modify_eq_set setBlock heap_setBlock_same heap_setBlock_other)
open Go.Maps (Keyed)

/-- Block b is a map with these entries. -/
structure MapAt (w : World) (P : Program) (k : TypeId) (b : Nat) (es : Array MapEntry) (clock : Nat) : Prop where
  hb : w.heap[b]? = some (.map es clock)
  size : es.size ≤ maxLen
  stamped : Stamped es clock
  keys : ∀ x ∈ es.toList, ∃ l, keyOf P k x.key = some l
/-- The map tells v at a key. -/
def Has (es : Array MapEntry) (key v : Value) : Prop := ∃ x ∈ es.toList, x.key = key ∧ x.val = v
section
variable {P : Program} {k : TypeId} {b : Nat} {es : Array MapEntry} {clock : Nat} {w : World}
theorem entry_one : ∀ {l : List MapEntry}, (l.map (·.key)).Nodup → ∀ {x y : MapEntry}, x ∈ l → y ∈ l → x.key = y.key → x = y
  | [], _, _, _, hx, _, _ => by cases hx
  | a :: r, hn, x, y, hx, hy, h => by
    rw [List.map_cons, List.nodup_cons] at hn
    rcases List.mem_cons.1 hx with ex | hx
    · rcases List.mem_cons.1 hy with ey | hy
      · exact ex.trans ey.symm
      · exact absurd (List.mem_map.2 ⟨y, hy, h.symm.trans (by rw [ex])⟩) hn.1
    · rcases List.mem_cons.1 hy with ey | hy
      · exact absurd (List.mem_map.2 ⟨x, hx, h.trans (by rw [ey])⟩) hn.1
      · exact entry_one hn.2 hx hy h
theorem nodup_inj {α : Type} {l : List α} (h : l.Nodup) {i j : Nat} {hi : i < l.length} {hj : j < l.length} : l[i] = l[j] ↔ i = j := by
  constructor
  · intro e
    rcases Nat.lt_trichotomy i j with q | q | q
    · exact absurd e ((List.pairwise_iff_getElem.1 h) i j hi hj q)
    · exact q
    · exact absurd e.symm ((List.pairwise_iff_getElem.1 h) j i hj hi q)
  · intro e; subst e; rfl
theorem filter_set_off {α : Type} (p : α → Bool) : ∀ (l : List α) (j : Nat) (y : α), (∀ x, l[j]? = some x → p x = false) → p y = false → (l.set j y).filter p = l.filter p
  | [], _, _, _, _ => rfl
  | a :: r, 0, y, h, hy => by rw [List.set_cons_zero, List.filter_cons_of_neg (by simp [hy]), List.filter_cons_of_neg (by simp [h a rfl])]
  | a :: r, j + 1, y, h, hy => by
    rw [List.set_cons_succ, List.filter_cons, List.filter_cons, filter_set_off p r j y (fun x hx => h x (by simpa using hx)) hy]
theorem filter_erase_off {α : Type} (p : α → Bool) : ∀ (l : List α) (j : Nat), (∀ x, l[j]? = some x → p x = false) → (l.eraseIdx j).filter p = l.filter p
  | [], _, _ => rfl
  | a :: r, 0, h => by rw [List.eraseIdx_cons_zero, List.filter_cons_of_neg (by simp [h a rfl])]
  | a :: r, j + 1, h => by
    rw [List.eraseIdx_cons_succ, List.filter_cons, List.filter_cons, filter_erase_off p r j (fun x hx => h x (by simpa using hx))]
theorem MapAt.one (h : MapAt w P k b es clock) {x y : MapEntry} (hx : x ∈ es.toList) (hy : y ∈ es.toList) (e : x.key = y.key) : x = y := entry_one h.stamped.2.2 hx hy e
theorem MapAt.same (h : MapAt w P k b es clock) {key u v : Value} (hu : Has es key u) (hv : Has es key v) : u = v := by
  obtain ⟨x, hx, x1, rfl⟩ := hu
  obtain ⟨y, hy, y1, rfl⟩ := hv
  rw [h.one hx hy (x1.trans y1.symm)]
theorem MapAt.lt (h : MapAt w P k b es clock) : b < w.heap.size := (Array.getElem?_eq_some_iff.1 h.hb).1
theorem MapAt.keep (h : MapAt w P k b es clock) {w' : World} (e : w'.heap[b]? = w.heap[b]?) : MapAt w' P k b es clock := ⟨e.trans h.hb, h.size, h.stamped, h.keys⟩
theorem MapAt.below (h : MapAt w P k b es clock) {w' : World} {B : Nat} (hb : Below B w w') (hB : b < B) : MapAt w' P k b es clock := h.keep (hb.block b hB)
theorem MapAt.alloc (h : MapAt w P k b es clock) (o : Obj) : MapAt (w.alloc o) P k b es clock := h.keep (Below.heap_alloc w o b h.lt)
theorem MapAt.far (h : MapAt w P k b es clock) {p : Addr} (hp : b ≠ p.block) (u : Value) : MapAt (w.setCell p u) P k b es clock := h.keep (Below.heap_setCell w p u b hp)
theorem MapAt.grown (h : MapAt w P k b es clock) {w' : World} {row : Option Nat} (hg : w.grownBy w' row) (hne : some b ≠ row) : MapAt w' P k b es clock := h.keep (hg.block b h.lt hne)
theorem MapAt.new (w : World) : MapAt (w.alloc (.map #[] 0)) P k w.heap.size #[] 0 := ⟨heap_alloc_new w _, by simp, stamped_empty 0, by simp⟩

theorem MapAt.look {t e : TypeId} (h : MapAt w P k b es clock) (K : Keyed P k) (ht : P.underlying t = some (.map k e)) {z : Value} (hz : (zeroValue e).run P w = .ok z w) {key : Value} {kl : Lit} (hkey : keyOf P k key = some kl) (c : Bool) :
    ((∀ v, ¬ Has es key v) ∧ (Instr.lookup t (.map (some b)) key c).run P w = .ok (if c then .tuple #[z, .bool false] else z) w) ∨
    (∃ v, Has es key v ∧ (Instr.lookup t (.map (some b)) key c).run P w = .ok (if c then .tuple #[v, .bool true] else v) w) := by
  rcases K.find w hkey es.toList h.keys with ⟨h1, h2⟩ | ⟨j, e0, h1, h2, h3⟩
  · exact .inl ⟨fun v ⟨x, hx, x1, _⟩ => h2 x hx x1, by simp [Instr.lookup, run_underlying ht, MapKept.run_getObj_map h.hb, K.check w _ hkey, h1, hz, Result.andThen]⟩
  · exact .inr ⟨e0.val, ⟨e0, List.mem_of_getElem? h2, h3, rfl⟩, by simp [Instr.lookup, run_underlying ht, MapKept.run_getObj_map h.hb, K.check w _ hkey, h1, Result.andThen]⟩

theorem MapAt.store {t e : TypeId} (h : MapAt w P k b es clock) (K : Keyed P k) (ht : P.underlying t = some (.map k e)) (hn : es.size < maxLen) {key val : Value} {kl : Lit} (hkey : keyOf P k key = some kl) :
    ∃ es' clock', (Instr.mapUpdate t (.map (some b)) key val).run P w = .ok () (setBlock w b (.map es' clock')) ∧ MapAt (setBlock w b (.map es' clock')) P k b es' clock' ∧
      (∀ key' v', Has es' key' v' ↔ (key' = key ∧ v' = val) ∨ (key' ≠ key ∧ Has es key' v')) ∧ es'.size ≤ es.size + 1 ∧
      ((∃ v, Has es key v) → clock' = clock ∧ (∀ x ∈ es'.toList, ∃ y ∈ es.toList, y.born = x.born) ∧ ∀ p : Nat → Bool, (∀ x ∈ es.toList, x.key = key → p x.born = false) → es'.toList.filter (fun x => p x.born) = es.toList.filter (fun x => p x.born)) := by
  rcases K.find w hkey es.toList h.keys with ⟨h1, h2⟩ | ⟨j, e0, h1, h2, h3⟩
  · refine ⟨es.push ⟨key, val, clock⟩, clock + 1, ?_, ⟨heap_setBlock_same h.hb _, by simp; omega, stamped_push h.stamped h2, ?_⟩, ?_, by simp, ?_⟩
    · simp [Instr.mapUpdate, run_underlying ht, MapKept.run_getObj_map h.hb, K.check w false hkey, h1, MapKept.run_setObj_map _ h.hb, Result.andThen, setBlock]
    · intro x hx
      simp only [Array.toList_push, List.mem_append, List.mem_singleton] at hx
      rcases hx with hx | rfl
      · exact h.keys x hx
      · exact ⟨kl, hkey⟩
    · intro key' v'
      unfold Has
      simp only [Array.toList_push, List.mem_append, List.mem_singleton]
      constructor
      · rintro ⟨x, hx | rfl, x1, x2⟩
        · exact .inr ⟨fun e => h2 x hx (x1.trans e), x, hx, x1, x2⟩
        · exact .inl ⟨x1.symm, x2.symm⟩
      · rintro (⟨rfl, rfl⟩ | ⟨_, x, hx, x1, x2⟩)
        · exact ⟨_, .inr rfl, rfl, rfl⟩
        · exact ⟨x, .inl hx, x1, x2⟩
    · rintro ⟨v, x, hx, x1, _⟩
      exact absurd x1 (h2 x hx)
  · have hj : es[j]? = some e0 := by simpa using h2
    have hjl : j < es.toList.length := (List.getElem?_eq_some_iff.1 h2).1
    have hje : es.toList[j] = e0 := (List.getElem?_eq_some_iff.1 h2).2
    have hkeyf : ∀ e', es[j]? = some e' → ({ e' with key := key, val := val } : MapEntry).key = e'.key := fun e' he' => by rw [hj] at he'; cases he'; exact h3.symm
    have hlist : (es.modify j (fun e' => { e' with key := key, val := val })).toList = es.toList.set j { e0 with val := val } := by
      rw [Array.toList_modify, modify_eq_set _ _ _ _ h2]
      rw [← h3]
    have hset : ∀ x, x ∈ es.toList.set j { e0 with val := val } → x = { e0 with val := val } ∨ (x ∈ es.toList ∧ x.key ≠ key) := by
      intro x hx
      obtain ⟨i, hi, ex⟩ := List.getElem_of_mem hx
      rw [List.getElem_set] at ex
      split at ex
      · exact .inl ex.symm
      · rename_i hne
        have hi' : i < es.toList.length := by simpa using hi
        refine .inr ⟨ex ▸ List.getElem_mem hi', fun e1 => hne ?_⟩
        have hnd := h.stamped.2.2
        have h4 : (es.toList.map (·.key))[i]'(by simpa using hi') = (es.toList.map (·.key))[j]'(by simpa using hjl) := by
          simp only [List.getElem_map]; rw [ex, e1, hje, h3]
        exact ((nodup_inj hnd).1 h4).symm
    refine ⟨es.modify j (fun e' => { e' with key := key, val := val }), clock, ?_, ⟨heap_setBlock_same h.hb _, by simpa using h.size, stamped_modify h.stamped _ _ (fun _ _ => rfl) (fun e' _ he' => hkeyf e' he'), ?_⟩, ?_, by simp, ?_⟩
    · simp [Instr.mapUpdate, run_underlying ht, MapKept.run_getObj_map h.hb, K.check w false hkey, h1, hj, h3, K.stays w hkey, MapKept.run_setObj_map _ h.hb, Result.andThen, setBlock]
    · intro x hx
      rw [hlist] at hx
      rcases hset x hx with rfl | ⟨hx', _⟩
      · exact ⟨kl, by show keyOf P k e0.key = _; rw [h3]; exact hkey⟩
      · exact h.keys x hx'
    · intro key' v'
      unfold Has
      rw [hlist]
      constructor
      · rintro ⟨x, hx, x1, x2⟩
        rcases hset x hx with rfl | ⟨hx', hne⟩
        · exact .inl ⟨x1.symm.trans h3, x2.symm⟩
        · exact .inr ⟨fun e => hne (x1.trans e), x, hx', x1, x2⟩
      · rintro (⟨rfl, rfl⟩ | ⟨hne, x, hx, x1, x2⟩)
        · exact ⟨{ e0 with val := v' }, List.mem_iff_getElem.2 ⟨j, by simpa using hjl, by simp⟩, h3, rfl⟩
        · obtain ⟨i, hi, rfl⟩ := List.getElem_of_mem hx
          have hij : j ≠ i := fun e => hne (by subst e; rw [← x1, hje, h3])
          exact ⟨es.toList[i], List.mem_iff_getElem.2 ⟨i, by simpa using hi, by rw [List.getElem_set_ne hij]⟩, x1, x2⟩
    · intro _
      refine ⟨rfl, ?_, ?_⟩
      · intro x hx
        rw [hlist] at hx
        rcases hset x hx with rfl | ⟨hx', _⟩
        · exact ⟨e0, List.mem_of_getElem? h2, rfl⟩
        · exact ⟨x, hx', rfl⟩
      · intro p hp
        have h5 : p e0.born = false := hp e0 (List.mem_of_getElem? h2) h3
        rw [hlist]
        exact filter_set_off _ _ _ _ (fun x hx => by rw [h2] at hx; cases hx; exact h5) h5

theorem MapAt.drop {t e ty : TypeId} (h : MapAt w P k b es clock) (K : Keyed P k) (ht : P.underlying t = some (.map k e)) {key : Value} {kl : Lit} (hkey : keyOf P k key = some kl) :
    ∃ es', (Builtin.delete_ #[t, k] ty #[.map (some b), key]).run P w = .ok (.tuple #[]) (setBlock w b (.map es' clock)) ∧ MapAt (setBlock w b (.map es' clock)) P k b es' clock ∧
      (∀ key' v', Has es' key' v' ↔ key' ≠ key ∧ Has es key' v') ∧ es'.toList.Sublist es.toList ∧ (∀ p : MapEntry → Bool, (∀ x ∈ es.toList, x.key = key → p x = false) → es'.toList.filter p = es.toList.filter p) := by
  rcases K.find w hkey es.toList h.keys with ⟨h1, h2⟩ | ⟨j, e0, h1, h2, h3⟩
  · refine ⟨es, ?_, ⟨heap_setBlock_same h.hb _, h.size, h.stamped, h.keys⟩, ?_, List.Sublist.refl _, fun _ _ => rfl⟩
    · simp [Builtin.delete_, run_underlying ht, MapKept.run_getObj_map h.hb, K.check w _ hkey, h1, MapKept.run_setObj_map _ h.hb, Result.andThen, setBlock]
    · intro key' v'
      exact ⟨fun ⟨x, hx, x1, x2⟩ => ⟨fun e => h2 x hx (x1.trans e), x, hx, x1, x2⟩, fun q => q.2⟩
  · have hjl : j < es.toList.length := (List.getElem?_eq_some_iff.1 h2).1
    have hje : es.toList[j] = e0 := (List.getElem?_eq_some_iff.1 h2).2
    have hjs : j < es.size := by simpa using hjl
    have hsub : (es.eraseIdxIfInBounds j).toList = es.toList.eraseIdx j := by
      unfold Array.eraseIdxIfInBounds
      rw [dif_pos hjs]
      simp
    have hs : (es.eraseIdxIfInBounds j).toList.Sublist es.toList := by rw [hsub]; exact List.eraseIdx_sublist _ _
    refine ⟨es.eraseIdxIfInBounds j, ?_, ⟨heap_setBlock_same h.hb _, ?_, stamped_erase h.stamped j, fun x hx => h.keys x (hs.subset hx)⟩, ?_, hs, fun p hp => by rw [hsub]; exact filter_erase_off _ _ _ (fun x hx => by rw [h2] at hx; cases hx; exact hp e0 (List.mem_of_getElem? h2) h3)⟩
    · simp [Builtin.delete_, run_underlying ht, MapKept.run_getObj_map h.hb, K.check w _ hkey, h1, MapKept.run_setObj_map _ h.hb, Result.andThen, setBlock]
    · have := hs.length_le
      simp only [Array.length_toList] at this
      exact Nat.le_trans this h.size
    · intro key' v'
      unfold Has
      rw [hsub]
      constructor
      · rintro ⟨x, hx, x1, x2⟩
        obtain ⟨i, hne, hi⟩ := List.mem_eraseIdx_iff_getElem?.1 hx
        refine ⟨fun e => ?_, x, List.mem_of_getElem? hi, x1, x2⟩
        have hxe : x = es.toList[j] := h.one (List.mem_of_getElem? hi) (List.getElem_mem hjl) (by rw [x1, e, hje, h3])
        have hi' := List.getElem?_eq_some_iff.1 hi
        obtain ⟨hi1, hi2⟩ := hi'
        have hnd := h.stamped.2.2
        have h4 : (es.toList.map (·.key))[i]'(by simpa using hi1) = (es.toList.map (·.key))[j]'(by simpa using hjl) := by
          simp only [List.getElem_map]; rw [hi2, hxe]
        exact hne ((nodup_inj hnd).1 h4)
      · rintro ⟨hne, x, hx, x1, x2⟩
        obtain ⟨i, hi, rfl⟩ := List.getElem_of_mem hx
        refine ⟨es.toList[i], List.mem_eraseIdx_iff_getElem?.2 ⟨i, fun e => hne ?_, List.getElem?_eq_getElem hi⟩, x1, x2⟩
        subst e
        rw [← x1, hje, h3]

theorem MapAt.len {t e : TypeId} (h : MapAt w P k b es clock) (ht : P.underlying t = some (.map k e)) (ty : TypeId) : (Builtin.len_ #[t] ty #[.map (some b)]).run P w = .ok (.int .i64 es.size) w := by
  simp [Builtin.len_, run_underlying ht, MapKept.run_getObj_map h.hb, goInt, Result.andThen]
/-- Only block b has turned. -/
theorem grown_setBlock {o : Obj} (h : MapAt w P k b es clock) : w.grownBy (setBlock w b o) (some b) :=
  ⟨rfl, rfl, rfl, by simp [setBlock], fun i _ hi => heap_setBlock_other h.hb _ (fun e => hi (by rw [e]))⟩
theorem below_setBlock {o : Obj} {B : Nat} {W : World} (h : MapAt w P k b es clock) (hB : Below B W w) (hb : B ≤ b) : Below B W (setBlock w b o) :=
  hB.grown (grown_setBlock h) (Nat.le_trans hb (Nat.le_of_lt h.lt)) (fun q hq => by cases hq; exact hb)
end
end Go.Proofs.Ytfklhjkgogncdaa

/- Small laws over any program: ranging over a map, its entries in sight; the map's operations at the operation, for a walk. No conditions. -/
namespace Go.Proofs.Ytfklhjkgogncdaa
set_option linter.unusedVariables false
set_option linter.unusedSimpArgs false
open Go Go.RowKit Go.MapKept
open Go.ChangeMaps (setBlock heap_setBlock_same heap_setBlock_other)
open Go.Maps (Keyed)

/-- Block r ranges over the map in block b; left is what it has not told. -/
def RangeAt (w : World) (b r : Nat) (es : Array MapEntry) (clock : Nat) (left : List MapEntry) : Prop :=
  ∃ since seen c0, w.heap[r]? = some (.mapIter (some b) since seen c0) ∧ (∀ x ∈ es.toList, x.born < since) ∧ since ≤ c0 ∧ since ≤ clock ∧ left = es.toList.filter (fun x => !seen.contains x.born)
theorem perm_take {l : List MapEntry} (hn : (l.map (·.born)).Nodup) {e : MapEntry} (he : e ∈ l) : List.Perm l (e :: l.filter (fun x => x.born != e.born)) := by
  induction l with
  | nil => cases he
  | cons a r ih =>
    rw [List.map_cons, List.nodup_cons] at hn
    by_cases hae : a.born = e.born
    · have : e = a := by
        rcases List.mem_cons.1 he with h | h
        · exact h
        · exact absurd (List.mem_map.2 ⟨e, h, hae.symm⟩) hn.1
      subst this
      rw [List.filter_cons_of_neg (by simp)]
      have : r.filter (fun x => x.born != e.born) = r := List.filter_eq_self.2 (fun x hx => by simpa using fun h => hn.1 (List.mem_map.2 ⟨x, hx, h⟩))
      rw [this]
    · rw [List.filter_cons_of_pos (by simpa using hae)]
      have he' : e ∈ r := by
        rcases List.mem_cons.1 he with h | h
        · exact absurd (by rw [h]) hae
        · exact h
      exact ((ih hn.2 he').cons a).trans (List.Perm.swap e a _)
section
variable {P : Program} {k : TypeId} {b r : Nat} {es : Array MapEntry} {clock : Nat} {w : World} {left : List MapEntry}
theorem RangeAt.lt (h : RangeAt w b r es clock left) : r < w.heap.size := by
  obtain ⟨_, _, _, h, _⟩ := h
  exact (Array.getElem?_eq_some_iff.1 h).1
theorem RangeAt.keep (h : RangeAt w b r es clock left) {w' : World} (e : w'.heap[r]? = w.heap[r]?) : RangeAt w' b r es clock left := by
  obtain ⟨s, n, c, h1, h2⟩ := h
  exact ⟨s, n, c, e.trans h1, h2⟩
theorem RangeAt.below (h : RangeAt w b r es clock left) {w' : World} {B : Nat} (hb : Below B w w') (hB : r < B) : RangeAt w' b r es clock left := h.keep (hb.block r hB)
theorem RangeAt.alloc (h : RangeAt w b r es clock left) (o : Obj) : RangeAt (w.alloc o) b r es clock left := h.keep (Below.heap_alloc w o r h.lt)
theorem RangeAt.far (h : RangeAt w b r es clock left) {p : Addr} (hp : r ≠ p.block) (u : Value) : RangeAt (w.setCell p u) b r es clock left := h.keep (Below.heap_setCell w p u r hp)
theorem RangeAt.sub (h : RangeAt w b r es clock left) : ∀ x ∈ left, x ∈ es.toList := by
  obtain ⟨s, n, c, _, _, _, _, rfl⟩ := h
  exact fun x hx => (List.mem_filter.1 hx).1
/-- The map has been stored at a key that was told, or lost one. -/
theorem RangeAt.turn (h : RangeAt w b r es clock left) {w' : World} {es' : Array MapEntry} {key : Value} (e : w'.heap[r]? = w.heap[r]?) (hb : ∀ x ∈ es'.toList, ∃ y ∈ es.toList, y.born = x.born)
    (hp : ∀ p : Nat → Bool, (∀ x ∈ es.toList, x.key = key → p x.born = false) → es'.toList.filter (fun x => p x.born) = es.toList.filter (fun x => p x.born)) (hl : ∀ x ∈ left, x.key ≠ key) : RangeAt w' b r es' clock left := by
  obtain ⟨s, n, c, h1, h2, h3, h3', rfl⟩ := h
  refine ⟨s, n, c, e.trans h1, ?_, h3, h3', ?_⟩
  · intro x hx
    obtain ⟨y, hy, hyx⟩ := hb x hx
    rw [← hyx]
    exact h2 y hy
  · refine (hp (fun q => !n.contains q) (fun x hx hk => ?_)).symm
    cases hc : n.contains x.born with
    | true => rfl
    | false => exact absurd hk (hl x (List.mem_filter.2 ⟨hx, by simp only [hc]; rfl⟩))
theorem RangeAt.begin (h : MapAt w P k b es clock) : RangeAt (w.alloc (.mapIter (some b) clock #[] clock)) b w.heap.size es clock es.toList :=
  ⟨clock, #[], clock, heap_alloc_new w _, h.stamped.1, Nat.le_refl _, Nat.le_refl _, (List.filter_eq_self.2 (fun _ _ => by simp)).symm⟩
theorem range_run {t e : TypeId} (h : MapAt w P k b es clock) (ht : P.underlying t = some (.map k e)) : (Instr.range t (.map (some b))).run P w = .ok (.pointer (some ⟨w.heap.size, 0, none⟩)) (w.alloc (.mapIter (some b) clock #[] clock)) :=
  run_range_map w t k e b es clock ht h.hb
/-- The step. -/
theorem RangeAt.next (h : RangeAt w b r es clock left) (m : MapAt w P k b es clock) (hbr : b ≠ r) (ty : TypeId) :
    (left = [] ∧ (Instr.next (.pointer (some ⟨r, 0, none⟩)) false ty).run P w = .ok (.tuple #[.bool false]) w) ∨
    ∃ e left' w', e ∈ left ∧ List.Perm left (e :: left') ∧ (Instr.next (.pointer (some ⟨r, 0, none⟩)) false ty).run P w = .ok (.tuple #[.bool true, e.key, e.val]) w' ∧
      RangeAt w' b r es clock left' ∧ MapAt w' P k b es clock ∧ w.grownBy w' (some r) ∧ w'.heap.size = w.heap.size ∧ (∀ x ∈ left', x.key ≠ e.key) ∧
      (Instr.entry (.pointer (some ⟨r, 0, none⟩))).run P w' = .ok (.tuple #[e.key, e.val]) w' := by
  obtain ⟨s, n, c, h1, h2, h3, h3', rfl⟩ := h
  have hleft : (leftOf es n).toList = es.toList.filter (fun x => !n.contains x.born) := by unfold leftOf; simp
  rcases run_next_at (P := P) w ty r b s c n es clock h1 m.hb h2 h3 with ⟨h0, hrun⟩ | ⟨e, he, w1, hw, hrun⟩
  · refine .inl ⟨?_, hrun⟩
    rw [← hleft]
    exact List.eq_nil_of_length_eq_zero (by simpa using h0)
  · right
    have hb1 : w1.heap = w.heap := by rcases hw with rfl | rfl <;> rfl
    have h1' : w1.heap[r]? = some (.mapIter (some b) s n c) := by rw [hb1]; exact h1
    rw [hleft] at he
    have heE := (List.mem_filter.1 he).1
    have hset := heap_set (o' := .mapIter (some b) s (n.push e.born) clock) h1'
    have hmap : (setBlock w1 r (.mapIter (some b) s (n.push e.born) clock)).heap[b]? = w.heap[b]? := (hset.2 b hbr).trans (by rw [hb1])
    have hnb : ((es.toList.filter (fun x => !n.contains x.born)).map (·.born)).Nodup := (List.filter_sublist.map _).nodup m.stamped.2.1
    have hleft' : (es.toList.filter (fun x => !n.contains x.born)).filter (fun x => x.born != e.born) = es.toList.filter (fun x => !(n.push e.born).contains x.born) := by
      rw [List.filter_filter]
      congr 1
      funext x
      rw [Bool.eq_iff_iff]
      simp [and_comm]
    refine ⟨e, _, _, he, perm_take hnb he, hrun, ⟨s, n.push e.born, clock, hset.1, h2, h3', h3', hleft'⟩, m.keep hmap, ?_, ?_, ?_, run_entry_at _ r b s n es clock e hset.1 (hmap.trans m.hb) heE m.stamped.2.1⟩
    · refine ⟨?_, ?_, ?_, ?_, ?_⟩
      · rcases hw with rfl | rfl <;> rfl
      · rcases hw with rfl | rfl <;> rfl
      · rcases hw with rfl | rfl <;> rfl
      · simp [setBlock, hb1]
      · intro i _ hi
        exact (hset.2 i (fun e => hi (by rw [e]))).trans (by rw [hb1])
    · simp [setBlock, hb1]
    · intro x hx hxe
      have hx1 := (List.mem_filter.1 hx)
      have hx2 := (List.mem_filter.1 hx1.1).1
      have := m.one hx2 heE hxe
      subst this
      simp at hx1
end
end Go.Proofs.Ytfklhjkgogncdaa
