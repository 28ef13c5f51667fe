/- Texts joined: XMapW, XTab, XVersK, XElt, XFMap, XFMap2, XStp. Each says at its head what it proves; conditions: as said there. -/
import Derived.Maps.RangeWalk
import Derived.Test.YtfklhjkgogncdaaD2
import Derived.Test.YtfklhjkgogncdaaD1
import Derived.Deep.AppendLies
/- Small laws over any program: the operations on a map at the operation, its entries in sight, for a walk. No conditions. -/
namespace Go.Proofs.Ytfklhjkgogncdaa
set_option linter.unusedVariables false
set_option linter.unusedSimpArgs false
open Go Go.RowKit Go.MapKept
open Go.ChangeMaps (setBlock)
open Go.Maps (Keyed)
section
variable {P : Program} (w : World) {ops : Array Oper} {rest : List Oper} {o : Oper} {a : Act} {Q : Exit → Act → World → Prop}
theorem at_look (hg : o.guard = none) (m x : Operand) (t : TypeId) (c : Bool) (hop : o.op = Op.lookup t m x c) (k e : TypeId) (K : Keyed P k) (ht : P.underlying t = some (.map k e)) {z : Value} (hz : (zeroValue e).run P w = .ok z w)
    {b : Nat} {es : Array MapEntry} {clock : Nat} (hm : a.eval m = .map (some b)) (h : MapAt w P k b es clock) (key : Value) (kl : Lit) (hx : a.eval x = key) (hkey : keyOf P k key = some kl)
    (hN : (∀ v, ¬ Has es key v) → wpList P ops Q rest (a.put o.dst (if c then .tuple #[z, .bool false] else z)) w)
    (hS : ∀ v, Has es key v → wpList P ops Q rest (a.put o.dst (if c then .tuple #[v, .bool true] else v)) w) :
    wpList P ops Q (o :: rest) a w := by
  refine wpList_plain hg fun K' hK' => ?_
  unfold Oper.wp
  rcases h.look K ht hz hkey c with ⟨h1, hrun⟩ | ⟨v, h1, hrun⟩
  · simp only [execOp, hop, hm, hx, Sem.run_bind, hrun, Result.andThen]
    exact hK' _ _ (hN h1)
  · simp only [execOp, hop, hm, hx, Sem.run_bind, hrun, Result.andThen]
    exact hK' _ _ (hS v h1)
theorem at_store (hg : o.guard = none) (m x v : Operand) (t : TypeId) (hop : o.op = Op.mapUpdate t m x v) (k e : TypeId) (K : Keyed P k) (ht : P.underlying t = some (.map k e))
    {b : Nat} {es : Array MapEntry} {clock : Nat} (hm : a.eval m = .map (some b)) (h : MapAt w P k b es clock) (hn : es.size < maxLen) (key val : Value) (kl : Lit) (hx : a.eval x = key) (hv : a.eval v = val) (hkey : keyOf P k key = some kl)
    (hK : ∀ w' es' clock', w' = setBlock w b (.map es' clock') → MapAt w' P k b es' clock' → w.grownBy w' (some b) → w'.heap.size = w.heap.size →
      (∀ key' v', Has es' key' v' ↔ (key' = key ∧ v' = val) ∨ (key' ≠ key ∧ Has es key' v')) → es'.size ≤ es.size + 1 →
      ((∃ v, Has es key v) → clock' = clock ∧ (∀ x ∈ es'.toList, ∃ y ∈ es.toList, y.born = x.born) ∧ ∀ p : Nat → Bool, (∀ x ∈ es.toList, x.key = key → p x.born = false) → es'.toList.filter (fun x => p x.born) = es.toList.filter (fun x => p x.born)) →
      wpList P ops Q rest (a.put o.dst undef) w') :
    wpList P ops Q (o :: rest) a w := by
  refine wpList_plain hg fun K' hK' => ?_
  unfold Oper.wp
  obtain ⟨es', clock', hrun, h1, h2, h3, h4⟩ := h.store K ht hn (val := val) hkey
  simp only [execOp, hop, hm, hx, hv, Sem.run_bind, hrun, Result.andThen]
  exact hK' _ _ (hK _ es' clock' rfl h1 (grown_setBlock h) (by simp [setBlock]) h2 h3 h4)
theorem at_drop (hg : o.guard = none) (m x : Operand) (t k : TypeId) (hop : o.op = Op.call { callee := Callee.builtin Builtin.delete, args := #[m, x], argTypes := #[t, k] }) (e : TypeId) (K : Keyed P k) (ht : P.underlying t = some (.map k e))
    {b : Nat} {es : Array MapEntry} {clock : Nat} (hm : a.eval m = .map (some b)) (h : MapAt w P k b es clock) (key : Value) (kl : Lit) (hx : a.eval x = key) (hkey : keyOf P k key = some kl)
    (hK : ∀ w' es', w' = setBlock w b (.map es' clock) → MapAt w' P k b es' clock → w.grownBy w' (some b) → w'.heap.size = w.heap.size →
      (∀ key' v', Has es' key' v' ↔ key' ≠ key ∧ Has es key' v') → es'.toList.Sublist es.toList → (∀ p : MapEntry → Bool, (∀ x ∈ es.toList, x.key = key → p x = false) → es'.toList.filter p = es.toList.filter p) →
      wpList P ops Q rest (a.put o.dst (.tuple #[])) w') :
    wpList P ops Q (o :: rest) a w := by
  refine wpList_plain hg fun K' hK' => ?_
  unfold Oper.wp
  obtain ⟨es', hrun, h1, h2, h3, h4⟩ := h.drop K ht (ty := o.type) hkey
  simp [execOp, hop, resolve, invoke, builtin, hm, hx, hrun, Result.andThen]
  exact hK' _ _ (hK _ es' rfl h1 (grown_setBlock h) (by simp [setBlock]) h2 h3 h4)
theorem at_size (hg : o.guard = none) (m : Operand) (t : TypeId) (hop : o.op = Op.call { callee := Callee.builtin Builtin.len, args := #[m], argTypes := #[t] }) (k e : TypeId) (ht : P.underlying t = some (.map k e))
    {b : Nat} {es : Array MapEntry} {clock : Nat} (hm : a.eval m = .map (some b)) (h : MapAt w P k b es clock) (hK : wpList P ops Q rest (a.put o.dst (.int .i64 es.size)) w) : wpList P ops Q (o :: rest) a w := by
  refine wpList_plain hg fun K' hK' => ?_
  unfold Oper.wp
  simp [execOp, hop, resolve, invoke, builtin, hm, h.len ht o.type, Result.andThen]
  exact hK' _ _ hK
theorem at_rng (hg : o.guard = none) (m : Operand) (t : TypeId) (hop : o.op = Op.range t m) (k e : TypeId) (ht : P.underlying t = some (.map k e))
    {b : Nat} {es : Array MapEntry} {clock : Nat} (hm : a.eval m = .map (some b)) (h : MapAt w P k b es clock)
    (hK : ∀ w', RangeAt w' b w.heap.size es clock es.toList → MapAt w' P k b es clock → w.grownBy w' none → w'.heap.size = w.heap.size + 1 → wpList P ops Q rest (a.put o.dst (.pointer (some ⟨w.heap.size, 0, none⟩))) w') :
    wpList P ops Q (o :: rest) a w := by
  refine wpList_plain hg fun K' hK' => ?_
  unfold Oper.wp
  simp only [execOp, hop, hm, Sem.run_bind, range_run h ht, Result.andThen]
  exact hK' _ _ (hK _ (RangeAt.begin h) (h.alloc _) (World.grownBy_alloc w _ none) (by simp))
theorem at_step (hg : o.guard = none) (it : Operand) (hop : o.op = Op.next it false) (k : TypeId) {b r : Nat} {es : Array MapEntry} {clock : Nat} {left : List MapEntry} (hit : a.eval it = .pointer (some ⟨r, 0, none⟩))
    (h : RangeAt w b r es clock left) (m : MapAt w P k b es clock) (hbr : b ≠ r)
    (hDone : left = [] → wpList P ops Q rest (a.put o.dst (.tuple #[.bool false])) w)
    (hMore : ∀ e left' w', e ∈ left → List.Perm left (e :: left') → RangeAt w' b r es clock left' → MapAt w' P k b es clock → w.grownBy w' (some r) → w'.heap.size = w.heap.size → (∀ x ∈ left', x.key ≠ e.key) →
      (Instr.entry (.pointer (some ⟨r, 0, none⟩))).run P w' = .ok (.tuple #[e.key, e.val]) w' → wpList P ops Q rest (a.put o.dst (.tuple #[.bool true, e.key, e.val])) w') :
    wpList P ops Q (o :: rest) a w := by
  refine wpList_plain hg fun K' hK' => ?_
  unfold Oper.wp
  rcases h.next m hbr o.type with ⟨h0, hrun⟩ | ⟨e, left', w', h1, h2, hrun, h3, h4, h5, h6, h7, h8⟩
  · simp only [execOp, hop, hit, Sem.run_bind, hrun, Result.andThen]
    exact hK' _ _ (hDone h0)
  · simp only [execOp, hop, hit, Sem.run_bind, hrun, Result.andThen]
    exact hK' _ _ (hMore e left' w' h1 h2 h3 h4 h5 h6 h7 h8)
end
end Go.Proofs.Ytfklhjkgogncdaa

/- A map of texts to lists of versions, each list a row of the call's own; small laws over any program. No conditions. -/
namespace Go.Proofs.Ytfklhjkgogncdaa
set_option linter.unusedVariables false
set_option linter.unusedSimpArgs false
open Go Go.RowKit Go.MapKept
open Go.ChangeMaps (setBlock)

structure Ver where
  n : Int
  val : List UInt8
  gone : Bool
abbrev txt (l : List UInt8) : Value := .string ⟨l.toArray⟩
theorem txt_inj {a b : List UInt8} (h : txt a = txt b) : a = b := by
  unfold txt at h
  injection h with h
  injection h with h
  exact List.toArray_inj h
def cellsV : List Ver → List Value
  | [] => []
  | c :: l => .int .i64 c.n :: txt c.val :: .bool c.gone :: cellsV l
theorem cellsV_length : ∀ l, (cellsV l).length = l.length * 3
  | [] => rfl
  | c :: l => by simp [cellsV, cellsV_length l]; omega
theorem cellsV_append : ∀ l m, cellsV (l ++ m) = cellsV l ++ cellsV m
  | [], m => rfl
  | c :: l, m => by simp [cellsV, cellsV_append l m]
theorem cellsV_at : ∀ (l : List Ver) (k : Nat) (h : k < l.length), (cellsV l)[3 * k]? = some (.int .i64 l[k].n) ∧ (cellsV l)[3 * k + 1]? = some (txt l[k].val) ∧ (cellsV l)[3 * k + 2]? = some (.bool l[k].gone)
  | c :: l, 0, _ => by simp [cellsV]
  | c :: l, k + 1, h => by
    have ih := cellsV_at l k (by simpa using h)
    have e1 : 3 * (k + 1) = 3 * k + 1 + 1 + 1 := by omega
    rw [e1]
    simpa [cellsV] using ih
theorem cellsV_one : ∀ (l : List Ver), ∀ u ∈ cellsV l, u.oneCell' = true
  | [], u, h => by simp [cellsV] at h
  | c :: l, u, h => by
    simp only [cellsV, List.mem_cons] at h
    rcases h with rfl | rfl | rfl | h
    · rfl
    · rfl
    · rfl
    · exact cellsV_one l u h
/-- Version number k of a slice. -/
theorem Rd.ver {w : World} {B : Nat} {A : Option Addr} {l : List Ver} (h : Rd w B A (cellsV l)) {k : Nat} (hk : k < l.length) :
    ∃ b off, A = some ⟨b, off, none⟩ ∧ b < B ∧ w.cell? ⟨b, off + k * 3, none⟩ = some (.int .i64 l[k].n) ∧ w.cell? ⟨b, off + k * 3 + 1, none⟩ = some (txt l[k].val) ∧ w.cell? ⟨b, off + k * 3 + 2, none⟩ = some (.bool l[k].gone) := by
  obtain ⟨b, off, e, hb, hc⟩ := h (fun h => by have := cellsV_length l; rw [h] at this; simp at this; omega)
  rw [Nat.mul_comm k 3]
  obtain ⟨h1, h2, h3⟩ := cellsV_at l k hk
  exact ⟨b, off, e, hb, hc _ _ h1, hc _ _ h2, hc _ _ h3⟩
/-- F turned at a key. -/
def upd (F : List UInt8 → List Ver) (s : List UInt8) (L : List Ver) : List UInt8 → List Ver := fun x => if x = s then L else F x
theorem upd_same (F : List UInt8 → List Ver) (s : List UInt8) (L : List Ver) : upd F s L s = L := by simp [upd]
theorem upd_other (F : List UInt8 → List Ver) {s x : List UInt8} (L : List Ver) (h : x ≠ s) : upd F s L x = F x := by simp [upd, h]

/-- Block b maps each text to its versions. -/
structure TabAt (w : World) (P : Program) (k vt : TypeId) (S : Nat → Prop) (b : Nat) (es : Array MapEntry) (clock : Nat) (F : List UInt8 → List Ver) : Prop where
  map : MapAt w P k b es clock
  hb : S b
  keys : ∀ x ∈ es.toList, ∃ s, x.key = txt s
  rows : ∀ s v, Has es (txt s) v → F s ≠ [] ∧ w.ownsRow 0 vt 3 v (F s).length (cellsV (F s))
  tells : ∀ s, F s ≠ [] → ∃ v, Has es (txt s) v
  own : ∀ s v g, Has es (txt s) v → v.ownBlock = some g → S g
  apart : ∀ s s' v v' g, Has es (txt s) v → Has es (txt s') v' → v.ownBlock = some g → v'.ownBlock = some g → s = s'
section
variable {P : Program} {k vt : TypeId} {S : Nat → Prop} {base b : Nat} {es : Array MapEntry} {clock : Nat} {w w' : World} {F : List UInt8 → List Ver}
theorem row_not_map {size n : Nat} {v : Value} {xs : List Value} (h : w.ownsRow base vt size v n xs) (m : MapAt w P k b es clock) : v.ownBlock ≠ some b := by
  intro e
  rcases h.2 with ⟨rfl, _⟩ | ⟨g, cap, cur, rfl, _, hh, _⟩
  · cases e
  · simp [Value.ownBlock] at e
    subst e
    rw [m.hb] at hh
    cases hh
theorem row_keep {size n : Nat} {v : Value} {xs : List Value} (h : w.ownsRow base vt size v n xs) (hk : ∀ g, v.ownBlock = some g → w'.heap[g]? = w.heap[g]?) : w'.ownsRow base vt size v n xs := by
  rcases h.2 with ⟨h3, h4⟩ | ⟨g2, cap, cur, rfl, hb, hh, r⟩
  · exact ⟨h.1, .inl ⟨h3, h4⟩⟩
  · exact ⟨h.1, .inr ⟨g2, cap, cur, rfl, hb, (hk g2 rfl).trans hh, r⟩⟩
theorem row_block {n : Nat} {v : Value} {xs : List Value} {size : Nat} (h : w.ownsRow base vt size v n xs) (hn : n ≠ 0) : ∃ g, v.ownBlock = some g ∧ base ≤ g ∧ g < w.heap.size := by
  rcases h.2 with ⟨_, h4⟩ | ⟨g2, cap, cur, rfl, hb, hh, _⟩
  · exact absurd h4 hn
  · exact ⟨g2, rfl, hb, (Array.getElem?_eq_some_iff.1 hh).1⟩
theorem TabAt.new (w : World) (hb : S w.heap.size) : TabAt (w.alloc (.map #[] 0)) P k vt S w.heap.size #[] 0 (fun _ => []) :=
  ⟨MapAt.new w, hb, by simp, fun s v ⟨x, hx, _⟩ => by simp at hx, fun s h => absurd rfl h, fun s v g ⟨x, hx, _⟩ => by simp at hx, fun s s' v v' g ⟨x, hx, _⟩ => by simp at hx⟩
/-- What is a table's own stands: so does it. -/
theorem TabAt.keep (h : TabAt w P k vt S b es clock F) (hm : w'.heap[b]? = w.heap[b]?) (hr : ∀ s v g, Has es (txt s) v → v.ownBlock = some g → w'.heap[g]? = w.heap[g]?) : TabAt w' P k vt S b es clock F :=
  ⟨h.map.keep hm, h.hb, h.keys, fun s v q => ⟨(h.rows s v q).1, row_keep (h.rows s v q).2 (hr s v · q)⟩, h.tells, h.own, h.apart⟩
theorem TabAt.row_lt (h : TabAt w P k vt S b es clock F) {s : List UInt8} {v : Value} (q : Has es (txt s) v) {g : Nat} (hg : v.ownBlock = some g) : g < w.heap.size := (World.ownsRow.lt (h.rows s v q).2 g hg).2
theorem TabAt.below (h : TabAt w P k vt S b es clock F) (hb : Below w.heap.size w w') : TabAt w' P k vt S b es clock F :=
  h.keep (hb.block b h.map.lt) (fun s v g q hg => hb.block g (h.row_lt q hg))
theorem TabAt.alloc (h : TabAt w P k vt S b es clock F) (o : Obj) : TabAt (w.alloc o) P k vt S b es clock F :=
  h.keep (Below.heap_alloc w o b h.map.lt) (fun s v g q hg => Below.heap_alloc w o g (h.row_lt q hg))
/-- A row's own write does not touch the others. -/
theorem TabAt.turn (h : TabAt w P k vt S b es clock F) {s : List UInt8} {v : Value} {L : List Ver} (q : Has es (txt s) v) (hL : L ≠ []) (hg : w.grownBy w' v.ownBlock) (ho : w'.ownsRow 0 vt 3 v L.length (cellsV L)) :
    TabAt w' P k vt S b es clock (upd F s L) := by
  have hbv : v.ownBlock ≠ some b := row_not_map (h.rows s v q).2 h.map
  refine ⟨h.map.keep (hg.block b h.map.lt (Ne.symm hbv)), h.hb, h.keys, ?_, ?_, h.own, h.apart⟩
  · intro x u hu
    by_cases hx : x = s
    · subst hx
      rw [upd_same]
      rw [h.map.same hu q]
      exact ⟨hL, ho⟩
    · rw [upd_other _ _ hx]
      refine ⟨(h.rows x u hu).1, row_keep (h.rows x u hu).2 (fun g e => hg.block g (h.row_lt hu e) (fun e2 => hx (h.apart x s u v g hu q e e2.symm)))⟩
  · intro x hx
    by_cases hxs : x = s
    · subst hxs
      exact ⟨v, q⟩
    · rw [upd_other _ _ hxs] at hx
      exact h.tells x hx
/-- A row is stored at a key; of the rows that are there only the key's own may have turned. -/
theorem TabAt.store (h : TabAt w P k vt S b es clock F) {s : List UInt8} {row : Option Nat} {v : Value} {L : List Ver} {es' : Array MapEntry} {clock' : Nat} {w1 : World} (hL : L ≠ [])
    (hrow : ∀ g, row = some g → g ≠ b ∧ ∀ x u, x ≠ s → Has es (txt x) u → u.ownBlock ≠ some g)
    (hg : w.grownBy w1 row) (ho : w1.ownsRow 0 vt 3 v L.length (cellsV L)) (hv : ∀ g, v.ownBlock = some g → row = some g ∨ w.heap.size ≤ g) (hvS : ∀ g, v.ownBlock = some g → S g)
    (m : MapAt w' P k b es' clock') (hg2 : w1.grownBy w' (some b)) (hasI : ∀ key' v', Has es' key' v' ↔ (key' = txt s ∧ v' = v) ∨ (key' ≠ txt s ∧ Has es key' v')) : TabAt w' P k vt S b es' clock' (upd F s L) := by
  have m1 : MapAt w1 P k b es clock := h.map.keep (hg.block b h.map.lt (fun e => (hrow b e.symm).1 rfl))
  have hvb : v.ownBlock ≠ some b := row_not_map ho m1
  have ho' : w'.ownsRow 0 vt 3 v L.length (cellsV L) := row_keep ho (fun g e => hg2.block g (World.ownsRow.lt ho g e).2 (fun e2 => hvb (by rw [e, e2])))
  have hold : ∀ x u, x ≠ s → Has es (txt x) u → ∀ g, u.ownBlock = some g → w'.heap[g]? = w.heap[g]? := fun x u hx hu g e => by
    have h1 := (h.row_lt hu e)
    rw [hg2.block g (Nat.lt_of_lt_of_le h1 hg.size) (fun e2 => row_not_map (h.rows x u hu).2 h.map (by rw [e, e2])), hg.block g h1 (fun e2 => (hrow g e2.symm).2 x u hx hu e)]
  have far : ∀ x u, x ≠ s → Has es (txt x) u → ∀ g, u.ownBlock = some g → v.ownBlock ≠ some g := fun x u hx hu g e e2 => by
    rcases hv g e2 with e3 | e3
    · exact (hrow g e3).2 x u hx hu e
    · have := (h.row_lt hu e)
      omega
  refine ⟨m, h.hb, ?_, ?_, ?_, ?_, ?_⟩
  · intro x hx
    rcases (hasI x.key x.val).1 ⟨x, hx, rfl, rfl⟩ with ⟨e, _⟩ | ⟨_, y, hy, e, _⟩
    · exact ⟨s, e⟩
    · obtain ⟨s', e'⟩ := h.keys y hy
      exact ⟨s', by rw [← e, e']⟩
  · intro x u hu
    rcases (hasI _ _).1 hu with ⟨e, rfl⟩ | ⟨e, hu⟩
    · rw [txt_inj e, upd_same]
      exact ⟨hL, ho'⟩
    · have hx : x ≠ s := fun e2 => e (by rw [e2])
      rw [upd_other _ _ hx]
      exact ⟨(h.rows x u hu).1, row_keep (h.rows x u hu).2 (hold x u hx hu)⟩
  · intro x hx
    by_cases hxs : x = s
    · subst hxs
      exact ⟨v, (hasI _ _).2 (.inl ⟨rfl, rfl⟩)⟩
    · rw [upd_other _ _ hxs] at hx
      obtain ⟨u, hu⟩ := h.tells x hx
      exact ⟨u, (hasI _ _).2 (.inr ⟨fun e => hxs (txt_inj e), hu⟩)⟩
  · intro x u g hu e
    rcases (hasI _ _).1 hu with ⟨a1, a2⟩ | ⟨a1, a2⟩
    · subst a2
      exact hvS g e
    · exact h.own x u g a2 e
  · intro x x' u u' g hu hu' e e'
    rcases (hasI _ _).1 hu with ⟨a1, a2⟩ | ⟨a1, a2⟩ <;> rcases (hasI _ _).1 hu' with ⟨b1, b2⟩ | ⟨b1, b2⟩
    · exact txt_inj (a1.trans b1.symm)
    · subst a2
      exact absurd e (far x' u' (fun e2 => b1 (by rw [e2])) b2 g e')
    · subst b2
      exact absurd e' (far x u (fun e2 => a1 (by rw [e2])) a2 g e)
    · exact h.apart x x' u u' g a2 b2 e e'
/-- A key is dropped. -/
theorem TabAt.drop (h : TabAt w P k vt S b es clock F) {s : List UInt8} {es' : Array MapEntry} {clock' : Nat} (m : MapAt w' P k b es' clock') (hg2 : w.grownBy w' (some b)) (hasI : ∀ key' v', Has es' key' v' ↔ key' ≠ txt s ∧ Has es key' v') :
    TabAt w' P k vt S b es' clock' (upd F s []) := by
  refine ⟨m, h.hb, ?_, ?_, ?_, ?_, ?_⟩
  · intro x hx
    obtain ⟨_, y, hy, e, _⟩ := (hasI x.key x.val).1 ⟨x, hx, rfl, rfl⟩
    obtain ⟨s', e'⟩ := h.keys y hy
    exact ⟨s', by rw [← e, e']⟩
  · intro x u hu
    obtain ⟨e, hu⟩ := (hasI _ _).1 hu
    have hx : x ≠ s := fun e2 => e (by rw [e2])
    rw [upd_other _ _ hx]
    exact ⟨(h.rows x u hu).1, row_keep (h.rows x u hu).2 (fun g e => hg2.block g (h.row_lt hu e) (fun e2 => row_not_map (h.rows x u hu).2 h.map (by rw [e, e2])))⟩
  · intro x hx
    by_cases hxs : x = s
    · subst hxs
      rw [upd_same] at hx
      exact absurd rfl hx
    · rw [upd_other _ _ hxs] at hx
      obtain ⟨u, hu⟩ := h.tells x hx
      exact ⟨u, (hasI _ _).2 ⟨fun e => hxs (txt_inj e), hu⟩⟩
  · intro x u g hu
    exact h.own x u g ((hasI _ _).1 hu).2
  · intro x x' u u' g hu hu'
    exact h.apart x x' u u' g ((hasI _ _).1 hu).2 ((hasI _ _).1 hu').2
theorem TabAt.mono {S' : Nat → Prop} (h : TabAt w P k vt S b es clock F) (hs : ∀ g, S g → S' g) : TabAt w P k vt S' b es clock F :=
  ⟨h.map, hs _ h.hb, h.keys, h.rows, h.tells, fun s v g q e => hs g (h.own s v g q e), h.apart⟩
/-- Nothing of S has turned. -/
theorem TabAt.far {T : Nat → Prop} (h : TabAt w P k vt S b es clock F) (f : Fr T w w') (hd : ∀ g, S g → ¬ T g) : TabAt w' P k vt S b es clock F :=
  h.keep (f.block b h.map.lt (hd b h.hb)) (fun s v g q hg => f.block g (h.row_lt q hg) (hd g (h.own s v g q hg)))
theorem TabAt.none (h : TabAt w P k vt S b es clock F) {s : List UInt8} (q : ∀ v, ¬ Has es (txt s) v) : F s = [] := by
  cases e : F s with
  | nil => rfl
  | cons a l =>
    obtain ⟨v, hv⟩ := h.tells s (by rw [e]; simp)
    exact absurd hv (q v)
end
end Go.Proofs.Ytfklhjkgogncdaa

/- Small laws over any program: a version more on a row of the call's own, a row stored in a map, at a step of a region that draws. No conditions. -/
namespace Go.Proofs.Ytfklhjkgogncdaa
set_option linter.unusedVariables false
set_option linter.unusedSimpArgs false
open Go Go.RowKit Go.MapKept
open Go.ChangeMaps (setBlock)
theorem info_prt {P : Program} {e : TypeId} {z : Value} {a b : Nat} (h : (P.info? e).map (fun i => (i.zero, i.size, i.bytes)) = some (some z, a, b)) : ∃ i, P.info? e = some i ∧ i.zero = some z ∧ i.size = a ∧ i.bytes = b := by
  cases hi : P.info? e with
  | none => rw [hi] at h; simp at h
  | some i =>
    rw [hi] at h
    simp at h
    exact ⟨i, rfl, h.1, h.2.1, h.2.2⟩
section
variable {P : Program} {w : World}
theorem step_append_ver {ops : Array Oper} {o : Oper} {a : Act} {K : Act → World → Prop} {Q : Exit → Act → World → Prop} {E : Prop} (hgd : o.guard = none) (s x : Operand) (t : TypeId)
    (ho : o.op = .call { callee := .builtin .append, args := #[s, x], argTypes := #[t, t] }) (e : TypeId) (ht : P.underlying t = some (.slice e)) (z : Value) (bytes : Nat)
    (hinfo : (P.info? e).map (fun i => (i.zero, i.size, i.bytes)) = some (some z, 3, bytes)) (hzs : z.cells.size = 3) (hby : bytes ≤ 1024)
    (base : Nat) (v : Value) (n : Nat) (xs : List Value) (hs : a.eval s = v) (hown : w.ownsRow base e 3 v n xs)
    (H : Nat) (p : Ver) (hx : a.eval x = .slice (some ⟨H, 0, none⟩) 1 1) (hH : ∀ j u, (cellsV [p])[j]? = some u → w.cell? ⟨H, j, none⟩ = some u) (hlen : n < 1000000000) (hbase : base ≤ w.heap.size)
    (h : ∀ v' w', w'.ownsRow base e 3 v' (n + 1) (xs ++ cellsV [p]) → w.grownBy w' v.ownBlock → (v'.ownBlock = v.ownBlock ∨ v'.ownBlock = some w.heap.size) → K (a.put o.dst v') w') :
    if Region.wanted o (yielded ops a.tmps) = true then Oper.wp P o a w K Q else E := by
  have hw : Region.wanted o (yielded ops a.tmps) = true := by simp [Region.wanted, hgd]
  rw [if_pos hw]
  obtain ⟨i0, hi0, hz0, hz1, hz2⟩ := info_prt hinfo
  obtain ⟨v', w', hr, g1, g2, _, g4⟩ := run_append_own_at (P := P) w base t o.type e i0 z 3 bytes ht hi0 hz0 hz1 hz2 hzs (by decide) v n xs hown ⟨H, 0, none⟩ 1 1 (cellsV [p]) rfl (by
    intro j u' hj
    have := hH j u' hj
    cases j <;> simpa [Addr.add] using this) (cellsV_one _) (by unfold maxLen; omega) (by have := Nat.mul_le_mul (show n + 1 ≤ 10000000000 by omega) hby; omega) hbase
  unfold Oper.wp execOp
  simp only [ho, resolve, invoke, builtin, Sem.run_bind, Sem.run_pure, Result.andThen_ok, List.map_toArray, List.map_cons, List.map_nil, hs, hx, hr]
  exact h v' w' g1 g2 g4
theorem step_store {ops : Array Oper} {o : Oper} {a : Act} {K' : Act → World → Prop} {Q : Exit → Act → World → Prop} {E : Prop} (hgd : o.guard = none) (m x v : Operand) (t : TypeId) (hop : o.op = Op.mapUpdate t m x v) (k e : TypeId) (K : Maps.Keyed P k)
    (ht : P.underlying t = some (.map k e)) {b : Nat} {es : Array MapEntry} {clock : Nat} (hm : a.eval m = .map (some b)) (h : MapAt w P k b es clock) (hn : es.size < maxLen) (key val : Value) (kl : Lit) (hx : a.eval x = key) (hv : a.eval v = val) (hkey : keyOf P k key = some kl)
    (hK : ∀ w' es' clock', MapAt w' P k b es' clock' → w.grownBy w' (some b) → w'.heap.size = w.heap.size →
      (∀ key' v', Has es' key' v' ↔ (key' = key ∧ v' = val) ∨ (key' ≠ key ∧ Has es key' v')) → es'.size ≤ es.size + 1 → K' (a.put o.dst undef) w') :
    if Region.wanted o (yielded ops a.tmps) = true then Oper.wp P o a w K' Q else E := by
  have hw : Region.wanted o (yielded ops a.tmps) = true := by simp [Region.wanted, hgd]
  rw [if_pos hw]
  unfold Oper.wp
  obtain ⟨es', clock', hrun, h1, h2, h3, h4⟩ := h.store K ht hn (val := val) hkey
  simp only [execOp, hop, hm, hx, hv, Sem.run_bind, hrun, Result.andThen]
  exact hK _ es' clock' h1 (grown_setBlock h) (by simp [setBlock]) h2 h3
end
end Go.Proofs.Ytfklhjkgogncdaa

/- Small laws over any program: an element more on a row of the call's own; how much of a map is still to be ranged over. No conditions. -/
namespace Go.Proofs.Ytfklhjkgogncdaa
set_option linter.unusedVariables false
set_option linter.unusedSimpArgs false
open Go Go.RowKit Go.MapKept

/-- How many entries are still to come. -/
def leftN (w : World) (b r : Nat) : Nat := match w.heap[b]?, w.heap[r]? with
  | some (.map es _), some (.mapIter _ _ seen _) => (es.toList.filter (fun x => !seen.contains x.born)).length
  | _, _ => 0
theorem RangeAt.left_eq {P : Program} {k : TypeId} {b r : Nat} {es : Array MapEntry} {clock : Nat} {w : World} {left : List MapEntry} (h : RangeAt w b r es clock left) (m : MapAt w P k b es clock) : leftN w b r = left.length := by
  obtain ⟨s, n, c, h1, _, _, _, rfl⟩ := h
  unfold leftN
  rw [m.hb, h1]
section
variable {α : Type} {enc : α → List Value} {k : Nat}
/-- Cells of elements. -/
def flatE (enc : α → List Value) (l : List α) : List Value := l.flatMap enc
theorem flatE_length (hk : ∀ x, (enc x).length = k) : ∀ l : List α, (flatE enc l).length = l.length * k
  | [] => by simp [flatE]
  | x :: l => by
    have := flatE_length hk l
    unfold flatE at this ⊢
    rw [List.flatMap_cons, List.length_append, this, hk, List.length_cons, Nat.add_mul, Nat.one_mul, Nat.add_comm]
theorem flatE_at (hk : ∀ x, (enc x).length = k) : ∀ (l : List α) (i j : Nat) (hi : i < l.length), j < k → (flatE enc l)[i * k + j]? = (enc l[i])[j]?
  | x :: l, 0, j, _, hj => by
    unfold flatE
    rw [List.flatMap_cons, Nat.zero_mul, Nat.zero_add, List.getElem?_append_left (by rw [hk]; exact hj)]
    rfl
  | x :: l, i + 1, j, hi, hj => by
    have ih := flatE_at hk l i j (by simpa using hi) hj
    unfold flatE at ih ⊢
    rw [List.flatMap_cons, List.getElem?_append_right (by rw [hk, Nat.add_mul]; omega), hk, show (i + 1) * k + j - k = i * k + j by rw [Nat.add_mul]; omega]
    exact ih
theorem flatE_append (l m : List α) : flatE enc (l ++ m) = flatE enc l ++ flatE enc m := by simp [flatE]
theorem flatE_one (h1 : ∀ x, ∀ u ∈ enc x, u.oneCell' = true) (l : List α) : ∀ u ∈ flatE enc l, u.oneCell' = true := by
  intro u hu
  obtain ⟨x, _, hx⟩ := List.mem_flatMap.1 hu
  exact h1 x u hx
/-- Cell number j of element number i. -/
theorem Rd.elt {w : World} {B : Nat} {A : Option Addr} {l : List α} (hk : ∀ x, (enc x).length = k) (h : Rd w B A (flatE enc l)) {i : Nat} (hi : i < l.length) (h0 : 0 < k) :
    ∃ b off, A = some ⟨b, off, none⟩ ∧ b < B ∧ ∀ j u, (enc l[i])[j]? = some u → w.cell? ⟨b, off + (i * k + j), none⟩ = some u := by
  obtain ⟨b, off, e, hb, hc⟩ := h (fun h => by
    have := flatE_length hk l
    rw [h] at this
    have h2 : 0 < l.length * k := Nat.mul_pos (by omega) h0
    simp at this
    omega)
  refine ⟨b, off, e, hb, fun j u hu => hc _ _ ?_⟩
  have hj : j < k := by rw [← hk l[i]]; exact (List.getElem?_eq_some_iff.1 hu).1
  rw [flatE_at hk l i j hi hj]
  exact hu
end
/-- 'out = append(out, x)' of one element, on a row of the call's own. -/
theorem wpList_append_elt {P : Program} {ops : Array Oper} {rest : List Oper} {o : Oper} {a : Act} {Q : Exit → Act → World → Prop} {w1 : World} (hgd : o.guard = none) (s x : Operand) (t : TypeId)
    (ho : o.op = .call { callee := .builtin .append, args := #[s, x], argTypes := #[t, t] }) (e : TypeId) (ht : P.underlying t = some (.slice e)) (z : Value) (k bytes : Nat)
    (hinfo : (P.info? e).map (fun i => (i.zero, i.size, i.bytes)) = some (some z, k, bytes)) (hzs : z.cells.size = k) (hk : 0 < k) (hby : bytes ≤ 1024)
    (base : Nat) (v : Value) (n : Nat) (xs : List Value) (hs : a.eval s = v) (hown : w1.ownsRow base e k v n xs) (cs : Array Value) (hcs : cs.size = k) (h1 : ∀ u ∈ cs.toList, u.oneCell' = true)
    (hx : a.eval x = .slice (some ⟨w1.heap.size, 0, none⟩) 1 1) (hlen : n < 1000000000) (hbase : base ≤ w1.heap.size)
    (h : ∀ v' w', w'.ownsRow base e k v' (n + 1) (xs ++ cs.toList) → w1.grownBy w' v.ownBlock → (v'.ownBlock = v.ownBlock ∨ v'.ownBlock = some (w1.heap.size + 1)) → wpList P ops Q rest (a.put o.dst v') w') :
    wpList P ops Q (o :: rest) a (w1.alloc (.cells cs e)) := by
  obtain ⟨i0, hi0, hz0, hz1, hz2⟩ := info_prt hinfo
  refine wpList_plain hgd fun K' hK' => ?_
  obtain ⟨v', w', hr, g1, g2, _, g4⟩ := run_append_own_at (P := P) (w1.alloc (.cells cs e)) base t o.type e i0 z k bytes ht hi0 hz0 hz1 hz2 hzs hk v n xs (hown.alloc _) ⟨w1.heap.size, 0, none⟩ 1 1 cs.toList (by simp [hcs]) (by
    intro j u' hj
    rw [show ((⟨w1.heap.size, 0, none⟩ : Addr).add j) = ⟨w1.heap.size, 0 + j, none⟩ by unfold Addr.add; split <;> simp_all]
    rw [Nat.zero_add]
    have := (Blk.new w1 e cs).cell j
    rw [this]
    simpa using hj) h1 (by unfold maxLen; omega) (by have := Nat.mul_le_mul (show n + 1 ≤ 10000000000 by omega) hby; omega) (by simp; omega)
  unfold Oper.wp execOp
  simp only [ho, resolve, invoke, builtin, Sem.run_bind, Sem.run_pure, Result.andThen_ok, List.map_toArray, List.map_cons, List.map_nil, hs, hx, hr]
  refine hK' _ _ (h v' w' g1 ((World.grownBy_alloc w1 _ _).trans g2) ?_)
  simpa using g4
end Go.Proofs.Ytfklhjkgogncdaa

/- A map of the call's own that reads as a function: look-up, store, delete, clear, range. Over any program; no conditions. -/
namespace Go.Proofs.Ytfklhjkgogncdaa
set_option linter.unusedVariables false
set_option linter.unusedSimpArgs false
open Go Go.RowKit Go.MapKept
open Go.ChangeMaps (setBlock heap_setBlock_same)
open Go.Maps (Keyed)

/-- Block b is a map that tells f. -/
structure FMap {κ β : Type} (w : World) (P : Program) (k : TypeId) (b : Nat) (es : Array MapEntry) (clock : Nat) (kv : κ → Value) (ev : β → Value) (f : κ → Option β) : Prop where
  map : MapAt w P k b es clock
  keys : ∀ x ∈ es.toList, ∃ s, x.key = kv s
  val : ∀ s v, Has es (kv s) v → ∃ y, f s = some y ∧ v = ev y
  has : ∀ s y, f s = some y → Has es (kv s) (ev y)
/-- f turned at a key. -/
noncomputable def updO {κ β : Type} (f : κ → Option β) (s : κ) (y : Option β) : κ → Option β := fun x => open Classical in if x = s then y else f x
theorem updO_same {κ β : Type} (f : κ → Option β) (s : κ) (y : Option β) : updO f s y s = y := by simp [updO]
theorem updO_other {κ β : Type} (f : κ → Option β) {s x : κ} (y : Option β) (h : x ≠ s) : updO f s y x = f x := by simp [updO, h]
section
variable {κ β : Type} {P : Program} {k : TypeId} {b : Nat} {es : Array MapEntry} {clock : Nat} {w w' : World} {kv : κ → Value} {ev : β → Value} {f : κ → Option β}
theorem FMap.keep (h : FMap w P k b es clock kv ev f) (e : w'.heap[b]? = w.heap[b]?) : FMap w' P k b es clock kv ev f := ⟨h.map.keep e, h.keys, h.val, h.has⟩
theorem FMap.far {T : Nat → Prop} (h : FMap w P k b es clock kv ev f) (g : Fr T w w') (hb : ¬ T b) : FMap w' P k b es clock kv ev f := h.keep (g.block b h.map.lt hb)
theorem FMap.below {B : Nat} (h : FMap w P k b es clock kv ev f) (g : Below B w w') (hb : b < B) : FMap w' P k b es clock kv ev f := h.keep (g.block b hb)
theorem FMap.new (w : World) : FMap (w.alloc (.map #[] 0)) P k w.heap.size #[] 0 kv ev (fun _ => none) :=
  ⟨MapAt.new w, by simp, fun s v ⟨x, hx, _⟩ => by simp at hx, fun s y h => by cases h⟩
theorem FMap.empty (hb : w.heap[b]? = some (.map #[] clock)) : FMap w P k b #[] clock kv ev (fun _ => none) :=
  ⟨⟨hb, by simp, stamped_empty clock, by simp⟩, by simp, fun s v ⟨x, hx, _⟩ => by simp at hx, fun s y h => by cases h⟩
theorem FMap.none_of (h : FMap w P k b es clock kv ev f) {s : κ} (q : ∀ v, ¬ Has es (kv s) v) : f s = none := by
  cases e : f s with
  | none => rfl
  | some y => exact absurd (h.has s y e) (q _)
theorem FMap.look {t e : TypeId} (h : FMap w P k b es clock kv ev f) (K : Keyed P k) (ht : P.underlying t = some (.map k e)) {z : Value} (hz : (zeroValue e).run P w = .ok z w) (s : κ) {kl : Lit} (hkey : keyOf P k (kv s) = some kl) (c : Bool) :
    (f s = none ∧ (Instr.lookup t (.map (some b)) (kv s) c).run P w = .ok (if c then .tuple #[z, .bool false] else z) w) ∨
    (∃ y, f s = some y ∧ (Instr.lookup t (.map (some b)) (kv s) c).run P w = .ok (if c then .tuple #[ev y, .bool true] else ev y) w) := by
  rcases h.map.look K ht hz hkey c with ⟨h1, hrun⟩ | ⟨v, h1, hrun⟩
  · exact .inl ⟨h.none_of h1, hrun⟩
  · obtain ⟨y, hy, rfl⟩ := h.val s v h1
    exact .inr ⟨y, hy, hrun⟩
theorem FMap.store {t e : TypeId} (h : FMap w P k b es clock kv ev f) (K : Keyed P k) (ht : P.underlying t = some (.map k e)) (hn : es.size < maxLen) (kinj : ∀ a b, kv a = kv b → a = b) (s : κ) (y : β) {kl : Lit} (hkey : keyOf P k (kv s) = some kl) :
    ∃ es' clock', (Instr.mapUpdate t (.map (some b)) (kv s) (ev y)).run P w = .ok () (setBlock w b (.map es' clock')) ∧ FMap (setBlock w b (.map es' clock')) P k b es' clock' kv ev (updO f s (some y)) ∧
      w.grownBy (setBlock w b (.map es' clock')) (some b) ∧ (setBlock w b (.map es' clock')).heap.size = w.heap.size ∧ es'.size ≤ es.size + 1 := by
  obtain ⟨es', clock', hrun, h1, h2, h3, h4⟩ := h.map.store K ht hn (val := ev y) hkey
  refine ⟨es', clock', hrun, ⟨h1, ?_, ?_, ?_⟩, grown_setBlock h.map, by simp [setBlock], h3⟩
  · intro x hx
    rcases (h2 x.key x.val).1 ⟨x, hx, rfl, rfl⟩ with ⟨e, _⟩ | ⟨_, z, hz, e, _⟩
    · exact ⟨s, e⟩
    · obtain ⟨s', e'⟩ := h.keys z hz
      exact ⟨s', by rw [← e, e']⟩
  · intro x v hv
    rcases (h2 _ _).1 hv with ⟨e, rfl⟩ | ⟨e, hv⟩
    · rw [kinj _ _ e, updO_same]
      exact ⟨y, rfl, rfl⟩
    · rw [updO_other _ _ (fun q => e (by rw [q]))]
      exact h.val x v hv
  · intro x z hz
    by_cases e : x = s
    · subst e
      rw [updO_same] at hz
      injection hz with hz
      subst hz
      exact (h2 _ _).2 (.inl ⟨rfl, rfl⟩)
    · rw [updO_other _ _ e] at hz
      exact (h2 _ _).2 (.inr ⟨fun q => e (kinj _ _ q), h.has x z hz⟩)
theorem FMap.drop {t e ty : TypeId} (h : FMap w P k b es clock kv ev f) (K : Keyed P k) (ht : P.underlying t = some (.map k e)) (kinj : ∀ a b, kv a = kv b → a = b) (s : κ) {kl : Lit} (hkey : keyOf P k (kv s) = some kl) :
    ∃ es', (Builtin.delete_ #[t, k] ty #[.map (some b), kv s]).run P w = .ok (.tuple #[]) (setBlock w b (.map es' clock)) ∧ FMap (setBlock w b (.map es' clock)) P k b es' clock kv ev (updO f s none) ∧
      w.grownBy (setBlock w b (.map es' clock)) (some b) ∧ (setBlock w b (.map es' clock)).heap.size = w.heap.size := by
  obtain ⟨es', hrun, h1, h2, h3, h4⟩ := h.map.drop K ht (ty := ty) hkey
  refine ⟨es', hrun, ⟨h1, ?_, ?_, ?_⟩, grown_setBlock h.map, by simp [setBlock]⟩
  · intro x hx
    obtain ⟨_, z, hz, e, _⟩ := (h2 x.key x.val).1 ⟨x, hx, rfl, rfl⟩
    obtain ⟨s', e'⟩ := h.keys z hz
    exact ⟨s', by rw [← e, e']⟩
  · intro x v hv
    obtain ⟨e, hv⟩ := (h2 _ _).1 hv
    rw [updO_other _ _ (fun q => e (by rw [q]))]
    exact h.val x v hv
  · intro x z hz
    by_cases e : x = s
    · subst e
      rw [updO_same] at hz
      cases hz
    · rw [updO_other _ _ e] at hz
      exact (h2 _ _).2 ⟨fun q => e (kinj _ _ q), h.has x z hz⟩
theorem FMap.clear {t e ty : TypeId} (h : FMap w P k b es clock kv ev f) (ht : P.underlying t = some (.map k e)) :
    (Builtin.clear_ #[t] ty #[.map (some b)]).run P w = .ok (.tuple #[]) (setBlock w b (.map #[] clock)) ∧ FMap (setBlock w b (.map #[] clock)) P k b #[] clock kv ev (fun _ => none) ∧
      w.grownBy (setBlock w b (.map #[] clock)) (some b) ∧ (setBlock w b (.map #[] clock)).heap.size = w.heap.size := by
  refine ⟨?_, ⟨⟨heap_setBlock_same h.map.hb _, by simp, stamped_empty clock, by simp⟩, by simp, fun s v ⟨x, hx, _⟩ => by simp at hx, fun s y h => by cases h⟩, grown_setBlock h.map, by simp [setBlock]⟩
  simp [Builtin.clear_, run_underlying ht, MapKept.run_getObj_map h.map.hb, MapKept.run_setObj_map _ h.map.hb, Result.andThen, setBlock]
/-- How many entries there are. -/
theorem FMap.count (h : FMap w P k b es clock kv ev f) (kinj : ∀ a b, kv a = kv b → a = b) {l : List κ} (hn : l.Nodup) (hl : ∀ s, s ∈ l ↔ f s ≠ none) : es.size = l.length := by
  have hp : (es.toList.map (·.key)).Perm (l.map kv) := by
    have hn2 : (l.map kv).Nodup := by
      unfold List.Nodup at hn ⊢
      rw [List.pairwise_map]
      exact hn.imp (fun q e => q (kinj _ _ e))
    rw [List.perm_ext_iff_of_nodup h.map.stamped.2.2 hn2]
    intro v
    constructor
    · intro hv
      obtain ⟨x, hx, rfl⟩ := List.mem_map.1 hv
      obtain ⟨s, e⟩ := h.keys x hx
      obtain ⟨y, hy, _⟩ := h.val s x.val ⟨x, hx, e, rfl⟩
      exact List.mem_map.2 ⟨s, (hl s).2 (by rw [hy]; simp), e.symm⟩
    · intro hv
      obtain ⟨s, hs, rfl⟩ := List.mem_map.1 hv
      cases e : f s with
      | none => exact absurd e ((hl s).1 hs)
      | some y =>
        obtain ⟨x, hx, hk, _⟩ := h.has s y e
        exact List.mem_map.2 ⟨x, hx, hk⟩
  have := hp.length_eq
  simpa using this
end
end Go.Proofs.Ytfklhjkgogncdaa

/- A map that reads as a function: look-ups in one row. Over any program; no conditions. -/
namespace Go.Proofs.Ytfklhjkgogncdaa
set_option linter.unusedVariables false
set_option linter.unusedSimpArgs false
open Go Go.RowKit Go.MapKept
open Go.Maps (Keyed)

section
variable {κ β : Type} {P : Program} {k : TypeId} {b : Nat} {es : Array MapEntry} {clock : Nat} {w w' : World} {kv : κ → Value} {ev : β → Value} {f : κ → Option β}
theorem FMap.look_none {t e : TypeId} (h : FMap w P k b es clock kv ev f) (K : Keyed P k) (ht : P.underlying t = some (.map k e)) {z : Value} (hz : (zeroValue e).run P w = .ok z w) {s : κ} (hs : f s = none) {kl : Lit} (hkey : keyOf P k (kv s) = some kl) (c : Bool) :
    (Instr.lookup t (.map (some b)) (kv s) c).run P w = .ok (if c then .tuple #[z, .bool false] else z) w := by
  rcases h.look K ht hz s hkey c with ⟨_, h2⟩ | ⟨y, h1, _⟩
  · exact h2
  · rw [hs] at h1; cases h1
theorem FMap.look_some {t e : TypeId} (h : FMap w P k b es clock kv ev f) (K : Keyed P k) (ht : P.underlying t = some (.map k e)) {z : Value} (hz : (zeroValue e).run P w = .ok z w) {s : κ} {y : β} (hs : f s = some y) {kl : Lit} (hkey : keyOf P k (kv s) = some kl) (c : Bool) :
    (Instr.lookup t (.map (some b)) (kv s) c).run P w = .ok (if c then .tuple #[ev y, .bool true] else ev y) w := by
  rcases h.look K ht hz s hkey c with ⟨h1, _⟩ | ⟨y', h1, h2⟩
  · rw [hs] at h1; cases h1
  · rw [hs] at h1; injection h1 with h1; subst h1; exact h2
theorem FMap.drop2 {t e ty : TypeId} (h : FMap w P k b es clock kv ev f) (K : Keyed P k) (ht : P.underlying t = some (.map k e)) (kinj : ∀ a b, kv a = kv b → a = b) (s : κ) {kl : Lit} (hkey : keyOf P k (kv s) = some kl) :
    ∃ es', (∀ ty, (Builtin.delete_ #[t, k] ty #[.map (some b), kv s]).run P w = .ok (.tuple #[]) (Go.ChangeMaps.setBlock w b (.map es' clock))) ∧ FMap (Go.ChangeMaps.setBlock w b (.map es' clock)) P k b es' clock kv ev (updO f s none) ∧
      w.grownBy (Go.ChangeMaps.setBlock w b (.map es' clock)) (some b) ∧ (Go.ChangeMaps.setBlock w b (.map es' clock)).heap.size = w.heap.size ∧ es'.size ≤ es.size := by
  obtain ⟨es', hrun, h1, h2, h3, h4⟩ := h.map.drop K ht (ty := ty) hkey
  refine ⟨es', fun ty' => hrun, ⟨h1, ?_, ?_, ?_⟩, grown_setBlock h.map, by simp [Go.ChangeMaps.setBlock], by simpa using h3.length_le⟩
  · intro x hx
    obtain ⟨_, z, hz, e, _⟩ := (h2 x.key x.val).1 ⟨x, hx, rfl, rfl⟩
    obtain ⟨s', e'⟩ := h.keys z hz
    exact ⟨s', by rw [← e, e']⟩
  · intro x v hv
    obtain ⟨e, hv⟩ := (h2 _ _).1 hv
    rw [updO_other _ _ (fun q => e (by rw [q]))]
    exact h.val x v hv
  · intro x z hz
    by_cases e : x = s
    · subst e
      rw [updO_same] at hz
      cases hz
    · rw [updO_other _ _ e] at hz
      exact (h2 _ _).2 ⟨fun q => e (kinj _ _ q), h.has x z hz⟩
end
end Go.Proofs.Ytfklhjkgogncdaa

/- Steps of a script in memory. Over any program; no conditions. -/
namespace Go.Proofs.Ytfklhjkgogncdaa
set_option linter.unusedVariables false
set_option linter.unusedSimpArgs false
open Go.RowKit

/-- A step of a script. -/
structure Stp where
  what : Int
  who : Int
  key : List UInt8
  to : List UInt8
  val : List UInt8
  n : Int
instance : Inhabited Stp := ⟨⟨0, 0, [], [], [], 0⟩⟩
def cellsS : List Stp → List Value
  | [] => []
  | s :: l => .int .i64 s.what :: .int .i64 s.who :: txt s.key :: txt s.to :: txt s.val :: .int .i64 s.n :: cellsS l
theorem cellsS_length : ∀ l, (cellsS l).length = l.length * 6
  | [] => rfl
  | s :: l => by simp [cellsS, cellsS_length l]; omega
theorem cellsS_at : ∀ (l : List Stp) (k : Nat) (h : k < l.length), (cellsS l)[6 * k]? = some (.int .i64 l[k].what) ∧ (cellsS l)[6 * k + 1]? = some (.int .i64 l[k].who) ∧ (cellsS l)[6 * k + 2]? = some (txt l[k].key) ∧ (cellsS l)[6 * k + 3]? = some (txt l[k].to) ∧ (cellsS l)[6 * k + 4]? = some (txt l[k].val) ∧ (cellsS l)[6 * k + 5]? = some (.int .i64 l[k].n)
  | s :: l, 0, _ => by simp [cellsS]
  | s :: l, k + 1, h => by
    have ih := cellsS_at l k (by simpa using h)
    have e1 : 6 * (k + 1) = 6 * k + 1 + 1 + 1 + 1 + 1 + 1 := by omega
    rw [e1]
    simpa [cellsS] using ih
/-- A step's numbers and texts are of this machine. -/
def StpOk (s : Stp) : Prop := (Lit.int .i64 s.n).wf = true ∧ (Lit.int .i64 s.who).wf = true ∧ s.key.length ≤ maxLen ∧ s.to.length ≤ maxLen ∧ s.val.length ≤ maxLen
/-- Step number k of a slice. -/
theorem Rd.stp {w : World} {B : Nat} {A : Option Addr} {l : List Stp} (h : Rd w B A (cellsS l)) {k : Nat} (hk : k < l.length) :
    ∃ b off, A = some ⟨b, off, none⟩ ∧ b < B ∧ w.cell? ⟨b, off + k * 6, none⟩ = some (.int .i64 l[k].what) ∧ w.cell? ⟨b, off + k * 6 + 1, none⟩ = some (.int .i64 l[k].who) ∧ w.cell? ⟨b, off + k * 6 + 2, none⟩ = some (txt l[k].key) ∧
      w.cell? ⟨b, off + k * 6 + 3, none⟩ = some (txt l[k].to) ∧ w.cell? ⟨b, off + k * 6 + 4, none⟩ = some (txt l[k].val) ∧ w.cell? ⟨b, off + k * 6 + 5, none⟩ = some (.int .i64 l[k].n) := by
  obtain ⟨b, off, e, hb, hc⟩ := h (fun h => by have := cellsS_length l; rw [h] at this; simp at this; omega)
  rw [Nat.mul_comm k 6]
  obtain ⟨h1, h2, h3, h4, h5, h6⟩ := cellsS_at l k hk
  exact ⟨b, off, e, hb, hc _ _ h1, hc _ _ h2, hc _ _ h3, hc _ _ h4, hc _ _ h5, hc _ _ h6⟩

end Go.Proofs.Ytfklhjkgogncdaa
