/- Small laws over any program: a version more on a row of the call's own, a row stored in a map, at a step of a region that draws. No conditions. -/
import Derived.Test.YtdmnejanckdajaaDoorTab
import Derived.Deep.AppendLies
namespace Go.Proofs.YtdmnejanckdajaaDoor
set_option linter.unusedVariables false
set_option linter.unusedSimpArgs false
open Go Go.RowKit Go.MapKept
open Go.ChangeMaps (setBlock)
theorem info_prt {P : Program} {e : TypeId} {z : Value} {a b : Nat} (h : (P.info? e).map (fun i => (i.zero, i.size, i.bytes)) = some (some z, a, b)) : ∃ i, P.info? e = some i ∧ i.zero = some z ∧ i.size = a ∧ i.bytes = b := by
  cases hi : P.info? e with
  | none => rw [hi] at h; simp at h
  | some i =>
    rw [hi] at h
    simp at h
    exact ⟨i, rfl, h.1, h.2.1, h.2.2⟩
section
variable {P : Program} {w : World}
theorem step_append_ver {ops : Array Oper} {o : Oper} {a : Act} {K : Act → World → Prop} {Q : Exit → Act → World → Prop} {E : Prop} (hgd : o.guard = none) (s x : Operand) (t : TypeId)
    (ho : o.op = .call { callee := .builtin .append, args := #[s, x], argTypes := #[t, t] }) (e : TypeId) (ht : P.underlying t = some (.slice e)) (z : Value) (bytes : Nat)
    (hinfo : (P.info? e).map (fun i => (i.zero, i.size, i.bytes)) = some (some z, 3, bytes)) (hzs : z.cells.size = 3) (hby : bytes ≤ 1024)
    (base : Nat) (v : Value) (n : Nat) (xs : List Value) (hs : a.eval s = v) (hown : w.ownsRow base e 3 v n xs)
    (H : Nat) (p : Ver) (hx : a.eval x = .slice (some ⟨H, 0, none⟩) 1 1) (hH : ∀ j u, (cellsV [p])[j]? = some u → w.cell? ⟨H, j, none⟩ = some u) (hlen : n < 1000000000) (hbase : base ≤ w.heap.size)
    (h : ∀ v' w', w'.ownsRow base e 3 v' (n + 1) (xs ++ cellsV [p]) → w.grownBy w' v.ownBlock → (v'.ownBlock = v.ownBlock ∨ v'.ownBlock = some w.heap.size) → K (a.put o.dst v') w') :
    if Region.wanted o (yielded ops a.tmps) = true then Oper.wp P o a w K Q else E := by
  have hw : Region.wanted o (yielded ops a.tmps) = true := by simp [Region.wanted, hgd]
  rw [if_pos hw]
  obtain ⟨i0, hi0, hz0, hz1, hz2⟩ := info_prt hinfo
  obtain ⟨v', w', hr, g1, g2, _, g4⟩ := run_append_own_at (P := P) w base t o.type e i0 z 3 bytes ht hi0 hz0 hz1 hz2 hzs (by decide) v n xs hown ⟨H, 0, none⟩ 1 1 (cellsV [p]) rfl (by
    intro j u' hj
    have := hH j u' hj
    cases j <;> simpa [Addr.add] using this) (cellsV_one _) (by unfold maxLen; omega) (by have := Nat.mul_le_mul (show n + 1 ≤ 10000000000 by omega) hby; omega) hbase
  unfold Oper.wp execOp
  simp only [ho, resolve, invoke, builtin, Sem.run_bind, Sem.run_pure, Result.andThen_ok, List.map_toArray, List.map_cons, List.map_nil, hs, hx, hr]
  exact h v' w' g1 g2 g4
theorem step_store {ops : Array Oper} {o : Oper} {a : Act} {K' : Act → World → Prop} {Q : Exit → Act → World → Prop} {E : Prop} (hgd : o.guard = none) (m x v : Operand) (t : TypeId) (hop : o.op = Op.mapUpdate t m x v) (k e : TypeId) (K : Maps.Keyed P k)
    (ht : P.underlying t = some (.map k e)) {b : Nat} {es : Array MapEntry} {clock : Nat} (hm : a.eval m = .map (some b)) (h : MapAt w P k b es clock) (hn : es.size < maxLen) (key val : Value) (kl : Lit) (hx : a.eval x = key) (hv : a.eval v = val) (hkey : keyOf P k key = some kl)
    (hK : ∀ w' es' clock', MapAt w' P k b es' clock' → w.grownBy w' (some b) → w'.heap.size = w.heap.size →
      (∀ key' v', Has es' key' v' ↔ (key' = key ∧ v' = val) ∨ (key' ≠ key ∧ Has es key' v')) → es'.size ≤ es.size + 1 → K' (a.put o.dst undef) w') :
    if Region.wanted o (yielded ops a.tmps) = true then Oper.wp P o a w K' Q else E := by
  have hw : Region.wanted o (yielded ops a.tmps) = true := by simp [Region.wanted, hgd]
  rw [if_pos hw]
  unfold Oper.wp
  obtain ⟨es', clock', hrun, h1, h2, h3, h4⟩ := h.store K ht hn (val := val) hkey
  simp only [execOp, hop, hm, hx, hv, Sem.run_bind, hrun, Result.andThen]
  exact hK _ es' clock' h1 (grown_setBlock h) (by simp [setBlock]) h2 h3
end
end Go.Proofs.YtdmnejanckdajaaDoor
