/- A map of texts to lists of versions, each list a row of the call's own; small laws over any program. No conditions. -/
import Derived.Test.YtdmnejanckdajaaDoorMapW
import Derived.Test.YtdmnejanckdajaaDoorFr
namespace Go.Proofs.YtdmnejanckdajaaDoor
set_option linter.unusedVariables false
set_option linter.unusedSimpArgs false
open Go Go.RowKit Go.MapKept
open Go.ChangeMaps (setBlock)

structure Ver where
  n : Int
  val : List UInt8
  gone : Bool
abbrev txt (l : List UInt8) : Value := .string ⟨l.toArray⟩
theorem txt_inj {a b : List UInt8} (h : txt a = txt b) : a = b := by
  unfold txt at h
  injection h with h
  injection h with h
  exact List.toArray_inj h
def cellsV : List Ver → List Value
  | [] => []
  | c :: l => .int .i64 c.n :: txt c.val :: .bool c.gone :: cellsV l
theorem cellsV_length : ∀ l, (cellsV l).length = l.length * 3
  | [] => rfl
  | c :: l => by simp [cellsV, cellsV_length l]; omega
theorem cellsV_append : ∀ l m, cellsV (l ++ m) = cellsV l ++ cellsV m
  | [], m => rfl
  | c :: l, m => by simp [cellsV, cellsV_append l m]
theorem cellsV_at : ∀ (l : List Ver) (k : Nat) (h : k < l.length), (cellsV l)[3 * k]? = some (.int .i64 l[k].n) ∧ (cellsV l)[3 * k + 1]? = some (txt l[k].val) ∧ (cellsV l)[3 * k + 2]? = some (.bool l[k].gone)
  | c :: l, 0, _ => by simp [cellsV]
  | c :: l, k + 1, h => by
    have ih := cellsV_at l k (by simpa using h)
    have e1 : 3 * (k + 1) = 3 * k + 1 + 1 + 1 := by omega
    rw [e1]
    simpa [cellsV] using ih
theorem cellsV_one : ∀ (l : List Ver), ∀ u ∈ cellsV l, u.oneCell' = true
  | [], u, h => by simp [cellsV] at h
  | c :: l, u, h => by
    simp only [cellsV, List.mem_cons] at h
    rcases h with rfl | rfl | rfl | h
    · rfl
    · rfl
    · rfl
    · exact cellsV_one l u h
/-- Version number k of a slice. -/
theorem Rd.ver {w : World} {B : Nat} {A : Option Addr} {l : List Ver} (h : Rd w B A (cellsV l)) {k : Nat} (hk : k < l.length) :
    ∃ b off, A = some ⟨b, off, none⟩ ∧ b < B ∧ w.cell? ⟨b, off + k * 3, none⟩ = some (.int .i64 l[k].n) ∧ w.cell? ⟨b, off + k * 3 + 1, none⟩ = some (txt l[k].val) ∧ w.cell? ⟨b, off + k * 3 + 2, none⟩ = some (.bool l[k].gone) := by
  obtain ⟨b, off, e, hb, hc⟩ := h (fun h => by have := cellsV_length l; rw [h] at this; simp at this; omega)
  rw [Nat.mul_comm k 3]
  obtain ⟨h1, h2, h3⟩ := cellsV_at l k hk
  exact ⟨b, off, e, hb, hc _ _ h1, hc _ _ h2, hc _ _ h3⟩
/-- F turned at a key. -/
def upd (F : List UInt8 → List Ver) (s : List UInt8) (L : List Ver) : List UInt8 → List Ver := fun x => if x = s then L else F x
theorem upd_same (F : List UInt8 → List Ver) (s : List UInt8) (L : List Ver) : upd F s L s = L := by simp [upd]
theorem upd_other (F : List UInt8 → List Ver) {s x : List UInt8} (L : List Ver) (h : x ≠ s) : upd F s L x = F x := by simp [upd, h]

/-- Block b maps each text to its versions. -/
structure TabAt (w : World) (P : Program) (k vt : TypeId) (S : Nat → Prop) (b : Nat) (es : Array MapEntry) (clock : Nat) (F : List UInt8 → List Ver) : Prop where
  map : MapAt w P k b es clock
  hb : S b
  keys : ∀ x ∈ es.toList, ∃ s, x.key = txt s
  rows : ∀ s v, Has es (txt s) v → F s ≠ [] ∧ w.ownsRow 0 vt 3 v (F s).length (cellsV (F s))
  tells : ∀ s, F s ≠ [] → ∃ v, Has es (txt s) v
  own : ∀ s v g, Has es (txt s) v → v.ownBlock = some g → S g
  apart : ∀ s s' v v' g, Has es (txt s) v → Has es (txt s') v' → v.ownBlock = some g → v'.ownBlock = some g → s = s'
section
variable {P : Program} {k vt : TypeId} {S : Nat → Prop} {base b : Nat} {es : Array MapEntry} {clock : Nat} {w w' : World} {F : List UInt8 → List Ver}
theorem row_not_map {size n : Nat} {v : Value} {xs : List Value} (h : w.ownsRow base vt size v n xs) (m : MapAt w P k b es clock) : v.ownBlock ≠ some b := by
  intro e
  rcases h.2 with ⟨rfl, _⟩ | ⟨g, cap, cur, rfl, _, hh, _⟩
  · cases e
  · simp [Value.ownBlock] at e
    subst e
    rw [m.hb] at hh
    cases hh
theorem row_keep {size n : Nat} {v : Value} {xs : List Value} (h : w.ownsRow base vt size v n xs) (hk : ∀ g, v.ownBlock = some g → w'.heap[g]? = w.heap[g]?) : w'.ownsRow base vt size v n xs := by
  rcases h.2 with ⟨h3, h4⟩ | ⟨g2, cap, cur, rfl, hb, hh, r⟩
  · exact ⟨h.1, .inl ⟨h3, h4⟩⟩
  · exact ⟨h.1, .inr ⟨g2, cap, cur, rfl, hb, (hk g2 rfl).trans hh, r⟩⟩
theorem row_block {n : Nat} {v : Value} {xs : List Value} {size : Nat} (h : w.ownsRow base vt size v n xs) (hn : n ≠ 0) : ∃ g, v.ownBlock = some g ∧ base ≤ g ∧ g < w.heap.size := by
  rcases h.2 with ⟨_, h4⟩ | ⟨g2, cap, cur, rfl, hb, hh, _⟩
  · exact absurd h4 hn
  · exact ⟨g2, rfl, hb, (Array.getElem?_eq_some_iff.1 hh).1⟩
theorem TabAt.new (w : World) (hb : S w.heap.size) : TabAt (w.alloc (.map #[] 0)) P k vt S w.heap.size #[] 0 (fun _ => []) :=
  ⟨MapAt.new w, hb, by simp, fun s v ⟨x, hx, _⟩ => by simp at hx, fun s h => absurd rfl h, fun s v g ⟨x, hx, _⟩ => by simp at hx, fun s s' v v' g ⟨x, hx, _⟩ => by simp at hx⟩
/-- What is a table's own stands: so does it. -/
theorem TabAt.keep (h : TabAt w P k vt S b es clock F) (hm : w'.heap[b]? = w.heap[b]?) (hr : ∀ s v g, Has es (txt s) v → v.ownBlock = some g → w'.heap[g]? = w.heap[g]?) : TabAt w' P k vt S b es clock F :=
  ⟨h.map.keep hm, h.hb, h.keys, fun s v q => ⟨(h.rows s v q).1, row_keep (h.rows s v q).2 (hr s v · q)⟩, h.tells, h.own, h.apart⟩
theorem TabAt.row_lt (h : TabAt w P k vt S b es clock F) {s : List UInt8} {v : Value} (q : Has es (txt s) v) {g : Nat} (hg : v.ownBlock = some g) : g < w.heap.size := (World.ownsRow.lt (h.rows s v q).2 g hg).2
theorem TabAt.below (h : TabAt w P k vt S b es clock F) (hb : Below w.heap.size w w') : TabAt w' P k vt S b es clock F :=
  h.keep (hb.block b h.map.lt) (fun s v g q hg => hb.block g (h.row_lt q hg))
theorem TabAt.alloc (h : TabAt w P k vt S b es clock F) (o : Obj) : TabAt (w.alloc o) P k vt S b es clock F :=
  h.keep (Below.heap_alloc w o b h.map.lt) (fun s v g q hg => Below.heap_alloc w o g (h.row_lt q hg))
/-- A row's own write does not touch the others. -/
theorem TabAt.turn (h : TabAt w P k vt S b es clock F) {s : List UInt8} {v : Value} {L : List Ver} (q : Has es (txt s) v) (hL : L ≠ []) (hg : w.grownBy w' v.ownBlock) (ho : w'.ownsRow 0 vt 3 v L.length (cellsV L)) :
    TabAt w' P k vt S b es clock (upd F s L) := by
  have hbv : v.ownBlock ≠ some b := row_not_map (h.rows s v q).2 h.map
  refine ⟨h.map.keep (hg.block b h.map.lt (Ne.symm hbv)), h.hb, h.keys, ?_, ?_, h.own, h.apart⟩
  · intro x u hu
    by_cases hx : x = s
    · subst hx
      rw [upd_same]
      rw [h.map.same hu q]
      exact ⟨hL, ho⟩
    · rw [upd_other _ _ hx]
      refine ⟨(h.rows x u hu).1, row_keep (h.rows x u hu).2 (fun g e => hg.block g (h.row_lt hu e) (fun e2 => hx (h.apart x s u v g hu q e e2.symm)))⟩
  · intro x hx
    by_cases hxs : x = s
    · subst hxs
      exact ⟨v, q⟩
    · rw [upd_other _ _ hxs] at hx
      exact h.tells x hx
/-- A row is stored at a key; of the rows that are there only the key's own may have turned. -/
theorem TabAt.store (h : TabAt w P k vt S b es clock F) {s : List UInt8} {row : Option Nat} {v : Value} {L : List Ver} {es' : Array MapEntry} {clock' : Nat} {w1 : World} (hL : L ≠ [])
    (hrow : ∀ g, row = some g → g ≠ b ∧ ∀ x u, x ≠ s → Has es (txt x) u → u.ownBlock ≠ some g)
    (hg : w.grownBy w1 row) (ho : w1.ownsRow 0 vt 3 v L.length (cellsV L)) (hv : ∀ g, v.ownBlock = some g → row = some g ∨ w.heap.size ≤ g) (hvS : ∀ g, v.ownBlock = some g → S g)
    (m : MapAt w' P k b es' clock') (hg2 : w1.grownBy w' (some b)) (hasI : ∀ key' v', Has es' key' v' ↔ (key' = txt s ∧ v' = v) ∨ (key' ≠ txt s ∧ Has es key' v')) : TabAt w' P k vt S b es' clock' (upd F s L) := by
  have m1 : MapAt w1 P k b es clock := h.map.keep (hg.block b h.map.lt (fun e => (hrow b e.symm).1 rfl))
  have hvb : v.ownBlock ≠ some b := row_not_map ho m1
  have ho' : w'.ownsRow 0 vt 3 v L.length (cellsV L) := row_keep ho (fun g e => hg2.block g (World.ownsRow.lt ho g e).2 (fun e2 => hvb (by rw [e, e2])))
  have hold : ∀ x u, x ≠ s → Has es (txt x) u → ∀ g, u.ownBlock = some g → w'.heap[g]? = w.heap[g]? := fun x u hx hu g e => by
    have h1 := (h.row_lt hu e)
    rw [hg2.block g (Nat.lt_of_lt_of_le h1 hg.size) (fun e2 => row_not_map (h.rows x u hu).2 h.map (by rw [e, e2])), hg.block g h1 (fun e2 => (hrow g e2.symm).2 x u hx hu e)]
  have far : ∀ x u, x ≠ s → Has es (txt x) u → ∀ g, u.ownBlock = some g → v.ownBlock ≠ some g := fun x u hx hu g e e2 => by
    rcases hv g e2 with e3 | e3
    · exact (hrow g e3).2 x u hx hu e
    · have := (h.row_lt hu e)
      omega
  refine ⟨m, h.hb, ?_, ?_, ?_, ?_, ?_⟩
  · intro x hx
    rcases (hasI x.key x.val).1 ⟨x, hx, rfl, rfl⟩ with ⟨e, _⟩ | ⟨_, y, hy, e, _⟩
    · exact ⟨s, e⟩
    · obtain ⟨s', e'⟩ := h.keys y hy
      exact ⟨s', by rw [← e, e']⟩
  · intro x u hu
    rcases (hasI _ _).1 hu with ⟨e, rfl⟩ | ⟨e, hu⟩
    · rw [txt_inj e, upd_same]
      exact ⟨hL, ho'⟩
    · have hx : x ≠ s := fun e2 => e (by rw [e2])
      rw [upd_other _ _ hx]
      exact ⟨(h.rows x u hu).1, row_keep (h.rows x u hu).2 (hold x u hx hu)⟩
  · intro x hx
    by_cases hxs : x = s
    · subst hxs
      exact ⟨v, (hasI _ _).2 (.inl ⟨rfl, rfl⟩)⟩
    · rw [upd_other _ _ hxs] at hx
      obtain ⟨u, hu⟩ := h.tells x hx
      exact ⟨u, (hasI _ _).2 (.inr ⟨fun e => hxs (txt_inj e), hu⟩)⟩
  · intro x u g hu e
    rcases (hasI _ _).1 hu with ⟨a1, a2⟩ | ⟨a1, a2⟩
    · subst a2
      exact hvS g e
    · exact h.own x u g a2 e
  · intro x x' u u' g hu hu' e e'
    rcases (hasI _ _).1 hu with ⟨a1, a2⟩ | ⟨a1, a2⟩ <;> rcases (hasI _ _).1 hu' with ⟨b1, b2⟩ | ⟨b1, b2⟩
    · exact txt_inj (a1.trans b1.symm)
    · subst a2
      exact absurd e (far x' u' (fun e2 => b1 (by rw [e2])) b2 g e')
    · subst b2
      exact absurd e' (far x u (fun e2 => a1 (by rw [e2])) a2 g e)
    · exact h.apart x x' u u' g a2 b2 e e'
/-- A key is dropped. -/
theorem TabAt.drop (h : TabAt w P k vt S b es clock F) {s : List UInt8} {es' : Array MapEntry} {clock' : Nat} (m : MapAt w' P k b es' clock') (hg2 : w.grownBy w' (some b)) (hasI : ∀ key' v', Has es' key' v' ↔ key' ≠ txt s ∧ Has es key' v') :
    TabAt w' P k vt S b es' clock' (upd F s []) := by
  refine ⟨m, h.hb, ?_, ?_, ?_, ?_, ?_⟩
  · intro x hx
    obtain ⟨_, y, hy, e, _⟩ := (hasI x.key x.val).1 ⟨x, hx, rfl, rfl⟩
    obtain ⟨s', e'⟩ := h.keys y hy
    exact ⟨s', by rw [← e, e']⟩
  · intro x u hu
    obtain ⟨e, hu⟩ := (hasI _ _).1 hu
    have hx : x ≠ s := fun e2 => e (by rw [e2])
    rw [upd_other _ _ hx]
    exact ⟨(h.rows x u hu).1, row_keep (h.rows x u hu).2 (fun g e => hg2.block g (h.row_lt hu e) (fun e2 => row_not_map (h.rows x u hu).2 h.map (by rw [e, e2])))⟩
  · intro x hx
    by_cases hxs : x = s
    · subst hxs
      rw [upd_same] at hx
      exact absurd rfl hx
    · rw [upd_other _ _ hxs] at hx
      obtain ⟨u, hu⟩ := h.tells x hx
      exact ⟨u, (hasI _ _).2 ⟨fun e => hxs (txt_inj e), hu⟩⟩
  · intro x u g hu
    exact h.own x u g ((hasI _ _).1 hu).2
  · intro x x' u u' g hu hu'
    exact h.apart x x' u u' g ((hasI _ _).1 hu).2 ((hasI _ _).1 hu').2
theorem TabAt.mono {S' : Nat → Prop} (h : TabAt w P k vt S b es clock F) (hs : ∀ g, S g → S' g) : TabAt w P k vt S' b es clock F :=
  ⟨h.map, hs _ h.hb, h.keys, h.rows, h.tells, fun s v g q e => hs g (h.own s v g q e), h.apart⟩
/-- Nothing of S has turned. -/
theorem TabAt.far {T : Nat → Prop} (h : TabAt w P k vt S b es clock F) (f : Fr T w w') (hd : ∀ g, S g → ¬ T g) : TabAt w' P k vt S b es clock F :=
  h.keep (f.block b h.map.lt (hd b h.hb)) (fun s v g q hg => f.block g (h.row_lt q hg) (hd g (h.own s v g q hg)))
theorem TabAt.none (h : TabAt w P k vt S b es clock F) {s : List UInt8} (q : ∀ v, ¬ Has es (txt s) v) : F s = [] := by
  cases e : F s with
  | nil => rfl
  | cons a l =>
    obtain ⟨v, hv⟩ := h.tells s (by rw [e]; simp)
    exact absurd hv (q v)
end
end Go.Proofs.YtdmnejanckdajaaDoor
