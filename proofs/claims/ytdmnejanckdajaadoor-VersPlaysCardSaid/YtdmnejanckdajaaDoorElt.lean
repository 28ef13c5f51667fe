/- Small laws over any program: an element more on a row of the call's own; how much of a map is still to be ranged over. No conditions. -/
import Derived.Test.YtdmnejanckdajaaDoorMapW
import Derived.Test.YtdmnejanckdajaaDoorFr
import Derived.Test.YtdmnejanckdajaaDoorVersK
namespace Go.Proofs.YtdmnejanckdajaaDoor
set_option linter.unusedVariables false
set_option linter.unusedSimpArgs false
open Go Go.RowKit Go.MapKept

/-- How many entries are still to come. -/
def leftN (w : World) (b r : Nat) : Nat := match w.heap[b]?, w.heap[r]? with
  | some (.map es _), some (.mapIter _ _ seen _) => (es.toList.filter (fun x => !seen.contains x.born)).length
  | _, _ => 0
theorem RangeAt.left_eq {P : Program} {k : TypeId} {b r : Nat} {es : Array MapEntry} {clock : Nat} {w : World} {left : List MapEntry} (h : RangeAt w b r es clock left) (m : MapAt w P k b es clock) : leftN w b r = left.length := by
  obtain ⟨s, n, c, h1, _, _, _, rfl⟩ := h
  unfold leftN
  rw [m.hb, h1]
section
variable {α : Type} {enc : α → List Value} {k : Nat}
/-- Cells of elements. -/
def flatE (enc : α → List Value) (l : List α) : List Value := l.flatMap enc
theorem flatE_length (hk : ∀ x, (enc x).length = k) : ∀ l : List α, (flatE enc l).length = l.length * k
  | [] => by simp [flatE]
  | x :: l => by
    have := flatE_length hk l
    unfold flatE at this ⊢
    rw [List.flatMap_cons, List.length_append, this, hk, List.length_cons, Nat.add_mul, Nat.one_mul, Nat.add_comm]
theorem flatE_at (hk : ∀ x, (enc x).length = k) : ∀ (l : List α) (i j : Nat) (hi : i < l.length), j < k → (flatE enc l)[i * k + j]? = (enc l[i])[j]?
  | x :: l, 0, j, _, hj => by
    unfold flatE
    rw [List.flatMap_cons, Nat.zero_mul, Nat.zero_add, List.getElem?_append_left (by rw [hk]; exact hj)]
    rfl
  | x :: l, i + 1, j, hi, hj => by
    have ih := flatE_at hk l i j (by simpa using hi) hj
    unfold flatE at ih ⊢
    rw [List.flatMap_cons, List.getElem?_append_right (by rw [hk, Nat.add_mul]; omega), hk, show (i + 1) * k + j - k = i * k + j by rw [Nat.add_mul]; omega]
    exact ih
theorem flatE_append (l m : List α) : flatE enc (l ++ m) = flatE enc l ++ flatE enc m := by simp [flatE]
theorem flatE_one (h1 : ∀ x, ∀ u ∈ enc x, u.oneCell' = true) (l : List α) : ∀ u ∈ flatE enc l, u.oneCell' = true := by
  intro u hu
  obtain ⟨x, _, hx⟩ := List.mem_flatMap.1 hu
  exact h1 x u hx
/-- Cell number j of element number i. -/
theorem Rd.elt {w : World} {B : Nat} {A : Option Addr} {l : List α} (hk : ∀ x, (enc x).length = k) (h : Rd w B A (flatE enc l)) {i : Nat} (hi : i < l.length) (h0 : 0 < k) :
    ∃ b off, A = some ⟨b, off, none⟩ ∧ b < B ∧ ∀ j u, (enc l[i])[j]? = some u → w.cell? ⟨b, off + (i * k + j), none⟩ = some u := by
  obtain ⟨b, off, e, hb, hc⟩ := h (fun h => by
    have := flatE_length hk l
    rw [h] at this
    have h2 : 0 < l.length * k := Nat.mul_pos (by omega) h0
    simp at this
    omega)
  refine ⟨b, off, e, hb, fun j u hu => hc _ _ ?_⟩
  have hj : j < k := by rw [← hk l[i]]; exact (List.getElem?_eq_some_iff.1 hu).1
  rw [flatE_at hk l i j hi hj]
  exact hu
end
/-- 'out = append(out, x)' of one element, on a row of the call's own. -/
theorem wpList_append_elt {P : Program} {ops : Array Oper} {rest : List Oper} {o : Oper} {a : Act} {Q : Exit → Act → World → Prop} {w1 : World} (hgd : o.guard = none) (s x : Operand) (t : TypeId)
    (ho : o.op = .call { callee := .builtin .append, args := #[s, x], argTypes := #[t, t] }) (e : TypeId) (ht : P.underlying t = some (.slice e)) (z : Value) (k bytes : Nat)
    (hinfo : (P.info? e).map (fun i => (i.zero, i.size, i.bytes)) = some (some z, k, bytes)) (hzs : z.cells.size = k) (hk : 0 < k) (hby : bytes ≤ 1024)
    (base : Nat) (v : Value) (n : Nat) (xs : List Value) (hs : a.eval s = v) (hown : w1.ownsRow base e k v n xs) (cs : Array Value) (hcs : cs.size = k) (h1 : ∀ u ∈ cs.toList, u.oneCell' = true)
    (hx : a.eval x = .slice (some ⟨w1.heap.size, 0, none⟩) 1 1) (hlen : n < 1000000000) (hbase : base ≤ w1.heap.size)
    (h : ∀ v' w', w'.ownsRow base e k v' (n + 1) (xs ++ cs.toList) → w1.grownBy w' v.ownBlock → (v'.ownBlock = v.ownBlock ∨ v'.ownBlock = some (w1.heap.size + 1)) → wpList P ops Q rest (a.put o.dst v') w') :
    wpList P ops Q (o :: rest) a (w1.alloc (.cells cs e)) := by
  obtain ⟨i0, hi0, hz0, hz1, hz2⟩ := info_prt hinfo
  refine wpList_plain hgd fun K' hK' => ?_
  obtain ⟨v', w', hr, g1, g2, _, g4⟩ := run_append_own_at (P := P) (w1.alloc (.cells cs e)) base t o.type e i0 z k bytes ht hi0 hz0 hz1 hz2 hzs hk v n xs (hown.alloc _) ⟨w1.heap.size, 0, none⟩ 1 1 cs.toList (by simp [hcs]) (by
    intro j u' hj
    rw [show ((⟨w1.heap.size, 0, none⟩ : Addr).add j) = ⟨w1.heap.size, 0 + j, none⟩ by unfold Addr.add; split <;> simp_all]
    rw [Nat.zero_add]
    have := (Blk.new w1 e cs).cell j
    rw [this]
    simpa using hj) h1 (by unfold maxLen; omega) (by have := Nat.mul_le_mul (show n + 1 ≤ 10000000000 by omega) hby; omega) (by simp; omega)
  unfold Oper.wp execOp
  simp only [ho, resolve, invoke, builtin, Sem.run_bind, Sem.run_pure, Result.andThen_ok, List.map_toArray, List.map_cons, List.map_nil, hs, hx, hr]
  refine hK' _ _ (h v' w' g1 ((World.grownBy_alloc w1 _ _).trans g2) ?_)
  simpa using g4
end Go.Proofs.YtdmnejanckdajaaDoor
