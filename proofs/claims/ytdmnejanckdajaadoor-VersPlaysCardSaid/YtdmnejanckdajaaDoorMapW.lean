/- Small laws over any program: the operations on a map at the operation, its entries in sight, for a walk. No conditions. -/
import Derived.Maps.RangeWalk
import Derived.Test.YtdmnejanckdajaaDoorMapR
namespace Go.Proofs.YtdmnejanckdajaaDoor
set_option linter.unusedVariables false
set_option linter.unusedSimpArgs false
open Go Go.RowKit Go.MapKept
open Go.ChangeMaps (setBlock)
open Go.Maps (Keyed)
section
variable {P : Program} (w : World) {ops : Array Oper} {rest : List Oper} {o : Oper} {a : Act} {Q : Exit → Act → World → Prop}
theorem at_look (hg : o.guard = none) (m x : Operand) (t : TypeId) (c : Bool) (hop : o.op = Op.lookup t m x c) (k e : TypeId) (K : Keyed P k) (ht : P.underlying t = some (.map k e)) {z : Value} (hz : (zeroValue e).run P w = .ok z w)
    {b : Nat} {es : Array MapEntry} {clock : Nat} (hm : a.eval m = .map (some b)) (h : MapAt w P k b es clock) (key : Value) (kl : Lit) (hx : a.eval x = key) (hkey : keyOf P k key = some kl)
    (hN : (∀ v, ¬ Has es key v) → wpList P ops Q rest (a.put o.dst (if c then .tuple #[z, .bool false] else z)) w)
    (hS : ∀ v, Has es key v → wpList P ops Q rest (a.put o.dst (if c then .tuple #[v, .bool true] else v)) w) :
    wpList P ops Q (o :: rest) a w := by
  refine wpList_plain hg fun K' hK' => ?_
  unfold Oper.wp
  rcases h.look K ht hz hkey c with ⟨h1, hrun⟩ | ⟨v, h1, hrun⟩
  · simp only [execOp, hop, hm, hx, Sem.run_bind, hrun, Result.andThen]
    exact hK' _ _ (hN h1)
  · simp only [execOp, hop, hm, hx, Sem.run_bind, hrun, Result.andThen]
    exact hK' _ _ (hS v h1)
theorem at_store (hg : o.guard = none) (m x v : Operand) (t : TypeId) (hop : o.op = Op.mapUpdate t m x v) (k e : TypeId) (K : Keyed P k) (ht : P.underlying t = some (.map k e))
    {b : Nat} {es : Array MapEntry} {clock : Nat} (hm : a.eval m = .map (some b)) (h : MapAt w P k b es clock) (hn : es.size < maxLen) (key val : Value) (kl : Lit) (hx : a.eval x = key) (hv : a.eval v = val) (hkey : keyOf P k key = some kl)
    (hK : ∀ w' es' clock', w' = setBlock w b (.map es' clock') → MapAt w' P k b es' clock' → w.grownBy w' (some b) → w'.heap.size = w.heap.size →
      (∀ key' v', Has es' key' v' ↔ (key' = key ∧ v' = val) ∨ (key' ≠ key ∧ Has es key' v')) → es'.size ≤ es.size + 1 →
      ((∃ v, Has es key v) → clock' = clock ∧ (∀ x ∈ es'.toList, ∃ y ∈ es.toList, y.born = x.born) ∧ ∀ p : Nat → Bool, (∀ x ∈ es.toList, x.key = key → p x.born = false) → es'.toList.filter (fun x => p x.born) = es.toList.filter (fun x => p x.born)) →
      wpList P ops Q rest (a.put o.dst undef) w') :
    wpList P ops Q (o :: rest) a w := by
  refine wpList_plain hg fun K' hK' => ?_
  unfold Oper.wp
  obtain ⟨es', clock', hrun, h1, h2, h3, h4⟩ := h.store K ht hn (val := val) hkey
  simp only [execOp, hop, hm, hx, hv, Sem.run_bind, hrun, Result.andThen]
  exact hK' _ _ (hK _ es' clock' rfl h1 (grown_setBlock h) (by simp [setBlock]) h2 h3 h4)
theorem at_drop (hg : o.guard = none) (m x : Operand) (t k : TypeId) (hop : o.op = Op.call { callee := Callee.builtin Builtin.delete, args := #[m, x], argTypes := #[t, k] }) (e : TypeId) (K : Keyed P k) (ht : P.underlying t = some (.map k e))
    {b : Nat} {es : Array MapEntry} {clock : Nat} (hm : a.eval m = .map (some b)) (h : MapAt w P k b es clock) (key : Value) (kl : Lit) (hx : a.eval x = key) (hkey : keyOf P k key = some kl)
    (hK : ∀ w' es', w' = setBlock w b (.map es' clock) → MapAt w' P k b es' clock → w.grownBy w' (some b) → w'.heap.size = w.heap.size →
      (∀ key' v', Has es' key' v' ↔ key' ≠ key ∧ Has es key' v') → es'.toList.Sublist es.toList → (∀ p : MapEntry → Bool, (∀ x ∈ es.toList, x.key = key → p x = false) → es'.toList.filter p = es.toList.filter p) →
      wpList P ops Q rest (a.put o.dst (.tuple #[])) w') :
    wpList P ops Q (o :: rest) a w := by
  refine wpList_plain hg fun K' hK' => ?_
  unfold Oper.wp
  obtain ⟨es', hrun, h1, h2, h3, h4⟩ := h.drop K ht (ty := o.type) hkey
  simp [execOp, hop, resolve, invoke, builtin, hm, hx, hrun, Result.andThen]
  exact hK' _ _ (hK _ es' rfl h1 (grown_setBlock h) (by simp [setBlock]) h2 h3 h4)
theorem at_size (hg : o.guard = none) (m : Operand) (t : TypeId) (hop : o.op = Op.call { callee := Callee.builtin Builtin.len, args := #[m], argTypes := #[t] }) (k e : TypeId) (ht : P.underlying t = some (.map k e))
    {b : Nat} {es : Array MapEntry} {clock : Nat} (hm : a.eval m = .map (some b)) (h : MapAt w P k b es clock) (hK : wpList P ops Q rest (a.put o.dst (.int .i64 es.size)) w) : wpList P ops Q (o :: rest) a w := by
  refine wpList_plain hg fun K' hK' => ?_
  unfold Oper.wp
  simp [execOp, hop, resolve, invoke, builtin, hm, h.len ht o.type, Result.andThen]
  exact hK' _ _ hK
theorem at_rng (hg : o.guard = none) (m : Operand) (t : TypeId) (hop : o.op = Op.range t m) (k e : TypeId) (ht : P.underlying t = some (.map k e))
    {b : Nat} {es : Array MapEntry} {clock : Nat} (hm : a.eval m = .map (some b)) (h : MapAt w P k b es clock)
    (hK : ∀ w', RangeAt w' b w.heap.size es clock es.toList → MapAt w' P k b es clock → w.grownBy w' none → w'.heap.size = w.heap.size + 1 → wpList P ops Q rest (a.put o.dst (.pointer (some ⟨w.heap.size, 0, none⟩))) w') :
    wpList P ops Q (o :: rest) a w := by
  refine wpList_plain hg fun K' hK' => ?_
  unfold Oper.wp
  simp only [execOp, hop, hm, Sem.run_bind, range_run h ht, Result.andThen]
  exact hK' _ _ (hK _ (RangeAt.begin h) (h.alloc _) (World.grownBy_alloc w _ none) (by simp))
theorem at_step (hg : o.guard = none) (it : Operand) (hop : o.op = Op.next it false) (k : TypeId) {b r : Nat} {es : Array MapEntry} {clock : Nat} {left : List MapEntry} (hit : a.eval it = .pointer (some ⟨r, 0, none⟩))
    (h : RangeAt w b r es clock left) (m : MapAt w P k b es clock) (hbr : b ≠ r)
    (hDone : left = [] → wpList P ops Q rest (a.put o.dst (.tuple #[.bool false])) w)
    (hMore : ∀ e left' w', e ∈ left → List.Perm left (e :: left') → RangeAt w' b r es clock left' → MapAt w' P k b es clock → w.grownBy w' (some r) → w'.heap.size = w.heap.size → (∀ x ∈ left', x.key ≠ e.key) →
      (Instr.entry (.pointer (some ⟨r, 0, none⟩))).run P w' = .ok (.tuple #[e.key, e.val]) w' → wpList P ops Q rest (a.put o.dst (.tuple #[.bool true, e.key, e.val])) w') :
    wpList P ops Q (o :: rest) a w := by
  refine wpList_plain hg fun K' hK' => ?_
  unfold Oper.wp
  rcases h.next m hbr o.type with ⟨h0, hrun⟩ | ⟨e, left', w', h1, h2, hrun, h3, h4, h5, h6, h7, h8⟩
  · simp only [execOp, hop, hit, Sem.run_bind, hrun, Result.andThen]
    exact hK' _ _ (hDone h0)
  · simp only [execOp, hop, hit, Sem.run_bind, hrun, Result.andThen]
    exact hK' _ _ (hMore e left' w' h1 h2 h3 h4 h5 h6 h7 h8)
end
end Go.Proofs.YtdmnejanckdajaaDoor
