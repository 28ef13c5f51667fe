/- Small laws over any program: rows of pairs: a copy into a row, an append in room, a clear: each told by the row's new cells. No conditions. -/
import Derived.Test.YtcgeagobndhpjaaDoorKit
import Derived.ArgAppend
import Derived.Laws.CopyOwn
import Derived.Lib.SliceRun
import Derived.Deep.RegionLaw
namespace Go.Proofs.YtcgeagobndhpjaaDoor
set_option linter.unusedVariables false
set_option linter.unusedSimpArgs false
open Go.RowKit

/-- A row whose cells from o on are these. -/
def spl (cur : Array Value) (o : Nat) (cs : List Value) : Array Value := (cur.toList.take o ++ cs ++ cur.toList.drop (o + cs.length)).toArray
theorem spl_list (cur : Array Value) (o : Nat) (cs : List Value) : (spl cur o cs).toList = cur.toList.take o ++ (cs ++ cur.toList.drop (o + cs.length)) := by simp [spl]
theorem spl_size {cur : Array Value} {o : Nat} {cs : List Value} (h : o + cs.length ≤ cur.size) : (spl cur o cs).size = cur.size := by
  simp [spl]; omega
theorem cellsP_take : ∀ (l : List (Int × Int)) (i : Nat), (cellsP l).take (i * 2) = cellsP (l.take i)
  | [], i => by simp [cellsP]
  | p :: l, 0 => by simp [cellsP]
  | p :: l, i + 1 => by
    have e : (i + 1) * 2 = i * 2 + 1 + 1 := by omega
    rw [e]
    simp [cellsP, cellsP_take l i]
theorem cellsP_drop : ∀ (l : List (Int × Int)) (i : Nat), (cellsP l).drop (i * 2) = cellsP (l.drop i)
  | [], i => by simp [cellsP]
  | p :: l, 0 => by simp
  | p :: l, i + 1 => by
    have e : (i + 1) * 2 = i * 2 + 1 + 1 := by omega
    rw [e]
    simp [cellsP, cellsP_drop l i]

theorem take_take_le {α : Type} {L : List α} {a b : Nat} (h : a ≤ b) : L.take a = (L.take b).take a := by
  rw [List.take_take, Nat.min_eq_left h]
theorem ins_room {cur : Array Value} {cs : List Value} {n i : Nat} {u v : Value} (hcur : cur.toList.take n = cs) (hn : cs.length = n) (hi : i ≤ n) (hs : n + 2 ≤ cur.size) :
    (spl (spl cur (i + 2) (cs.drop i)) i [u, v]).toList.take (n + 2) = cs.take i ++ ([u, v] ++ cs.drop i) := by
  have e1 : cur.toList.take i = cs.take i := by rw [← hcur, ← take_take_le hi]
  have l1 : (cur.toList.take (i + 2)).length = i + 2 := by simp; omega
  rw [spl_list, spl_list]
  have e2 : (cur.toList.take (i + 2) ++ (cs.drop i ++ cur.toList.drop (i + 2 + (cs.drop i).length))).take i = cs.take i := by
    rw [List.take_append_of_le_length (by omega), ← take_take_le (by omega), e1]
  have e3 : (cur.toList.take (i + 2) ++ (cs.drop i ++ cur.toList.drop (i + 2 + (cs.drop i).length))).drop (i + [u, v].length) = cs.drop i ++ cur.toList.drop (i + 2 + (cs.drop i).length) :=
    List.drop_left' (by simpa using l1)
  rw [e2, e3]
  have e4 : cs.take i ++ ([u, v] ++ (cs.drop i ++ cur.toList.drop (i + 2 + (cs.drop i).length))) = (cs.take i ++ ([u, v] ++ cs.drop i)) ++ cur.toList.drop (i + 2 + (cs.drop i).length) := by simp
  rw [e4]
  exact List.take_left' (by simp; omega)
theorem ins_grow {R : Array Value} {cs : List Value} {n i : Nat} {u v : Value} (hR : R.toList.take i = cs.take i) (hn : cs.length = n) (hi : i ≤ n) (hs : n + 2 ≤ R.size) :
    (spl (spl R i [u, v]) (i + 2) (cs.drop i)).toList.take (n + 2) = cs.take i ++ ([u, v] ++ cs.drop i) := by
  rw [spl_list, spl_list]
  have e2 : (R.toList.take i ++ ([u, v] ++ R.toList.drop (i + [u, v].length))).take (i + 2) = cs.take i ++ [u, v] := by
    rw [hR, ← List.append_assoc]
    exact List.take_left' (by simp; omega)
  rw [e2]
  have e4 : cs.take i ++ [u, v] ++ (cs.drop i ++ ((R.toList.take i ++ ([u, v] ++ R.toList.drop (i + [u, v].length))).drop (i + 2 + (cs.drop i).length))) = (cs.take i ++ ([u, v] ++ cs.drop i)) ++ ((R.toList.take i ++ ([u, v] ++ R.toList.drop (i + [u, v].length))).drop (i + 2 + (cs.drop i).length)) := by simp
  rw [e4]
  exact List.take_left' (by simp; omega)
theorem del_room {cur : Array Value} {cs : List Value} {n i : Nat} {u v : Value} (hcur : cur.toList.take n = cs) (hn : cs.length = n) (hi : i + 2 ≤ n) :
    (spl (spl cur i (cs.drop (i + 2))) (n - 2) [u, v]).toList.take (n - 2) = cs.take i ++ cs.drop (i + 2) := by
  have e1 : cur.toList.take i = cs.take i := by rw [← hcur, ← take_take_le (by omega)]
  rw [spl_list, spl_list, e1]
  have e2 : (cs.take i ++ (cs.drop (i + 2) ++ cur.toList.drop (i + (cs.drop (i + 2)).length))).take (n - 2) = cs.take i ++ cs.drop (i + 2) := by
    rw [← List.append_assoc]
    exact List.take_left' (by simp; omega)
  rw [e2]
  exact List.take_left' (by simp; omega)

/-- A slice value over a row that holds a list is owned. -/
theorem own_row {w : World} {base g n cap : Nat} {e : TypeId} {cur : Array Value} {l : List (Int × Int)} (hb : base ≤ g) (hg : w.heap[g]? = some (.cells cur e (0, 0))) (hn : l.length = n) (hc : n ≤ cap) (hm : cap ≤ maxLen) (hs : cur.size = cap * 2)
    (ht : cur.toList.take (n * 2) = cellsP l) : OwnP w base e (.slice (some ⟨g, 0, none⟩) n cap) l := by
  subst hn
  exact ⟨cellsP_length l, .inr ⟨g, cap, cur, rfl, hb, hg, hc, hm, hs, ht⟩⟩
theorem OwnP.row {w : World} {base : Nat} {e : TypeId} {v : Value} {l : List (Int × Int)} (h : OwnP w base e v l) (hl : l ≠ []) :
    ∃ g cap cur, v = .slice (some ⟨g, 0, none⟩) l.length cap ∧ base ≤ g ∧ w.heap[g]? = some (.cells cur e (0, 0)) ∧ l.length ≤ cap ∧ cap ≤ maxLen ∧ cur.size = cap * 2 ∧ cur.toList.take (l.length * 2) = cellsP l := by
  rcases h.2 with ⟨_, h2⟩ | h2
  · exact absurd (List.eq_nil_of_length_eq_zero h2) hl
  · exact h2

section
variable {P : Program}
theorem run_copy2 (w : World) (dT sT ty elem : TypeId) (g o dLen dCap : Nat) (a : Addr) (sLen sCap : Nat) (cur : Array Value) (t : TypeId) (cs : List Value)
    (hu : P.underlying dT = some (.slice elem)) (hs : (P.info? elem).map (·.size) = some 2)
    (hg : w.heap[g]? = some (.cells cur t (0, 0))) (hn : cs.length = Nat.min sLen dLen * 2)
    (hsrc : ∀ j v, cs[j]? = some v → w.cell? (a.add j) = some v) (hfit : o + cs.length ≤ cur.size) (h1 : ∀ v ∈ cs, v.oneCell' = true) :
    (Builtin.copy_ #[dT, sT] ty #[.slice (some ⟨g, o, none⟩) dLen dCap, .slice (some a) sLen sCap]).run P w = .ok (goInt (Nat.min sLen dLen)) (w.setRow g (spl cur o cs)) := by
  have hl := run_firstCells_some (P := P) w 2 (Nat.min sLen dLen) a sLen sCap cs hn hsrc
  have hst := run_storeCells_at P g o t cs 0 cur w hg (by simpa using hfit) h1
  cases hq : P.info? elem with
  | none => simp [hq] at hs
  | some i =>
    have hi : i.size = 2 := by simpa [hq] using hs
    simp only [Nat.add_zero] at hst
    simp [Builtin.copy_, run_underlying hu, Builtin.lenOf, sizeOf, typeInfo, hq, hi, hl, hst, spl]
theorem run_append_room2 (w : World) (t ty e : TypeId) (i : TypeInfo) (ht : P.underlying t = some (.slice e)) (hi : P.info? e = some i) (h2 : i.size = 2)
    (g sLen sCap : Nat) (a : Addr) (m c : Nat) (cur : Array Value) (tt : TypeId) (hg : w.heap[g]? = some (.cells cur tt (0, 0))) (cs : List Value) (hl : cs.length = m * 2) (hsrc : ∀ j u, cs[j]? = some u → w.cell? (a.add j) = some u) (h1 : ∀ u ∈ cs, u.oneCell' = true)
    (hroom : sLen + m ≤ sCap) (hfit : sLen * 2 + cs.length ≤ cur.size) :
    (Builtin.append_ #[t, t] ty #[.slice (some ⟨g, 0, none⟩) sLen sCap, .slice (some a) m c]).run P w = .ok (.slice (some ⟨g, 0, none⟩) (sLen + m) sCap) (w.setRow g (spl cur (sLen * 2) cs)) := by
  have hfc := run_firstCells_some (P := P) w 2 m a m c cs hl hsrc
  have hst := run_storeCells_at P g (sLen * 2) tt cs 0 cur w hg (by simpa using hfit) h1
  simp only [Nat.add_zero] at hst
  simp [Builtin.append_, run_underlying ht, sizeOf, typeInfo, hi, h2, Builtin.lenOf, hroom, hfc, Addr.add_lit, hst, spl]
theorem run_clear2 (w : World) (t e ty : TypeId) (ht : P.underlying t = some (.slice e)) (hv : ∀ w, (zeroValue e).run P w = .ok (.agg #[.int .i64 0, .int .i64 0]) w) (g o c : Nat) (cur : Array Value) (tt : TypeId) (hg : w.heap[g]? = some (.cells cur tt (0, 0)))
    (hfit : o + 2 ≤ cur.size) :
    (Builtin.clear_ #[t] ty #[.slice (some ⟨g, o, none⟩) 1 c]).run P w = .ok (.tuple #[]) (w.setRow g (spl cur o [.int .i64 0, .int .i64 0])) := by
  have hzc : (Builtin.zeroCells (Value.agg #[.int .i64 0, .int .i64 0]).cells 1).toList = [.int .i64 0, .int .i64 0] := by first | (simp [Builtin.zeroCells, Value.cells]; done) | kernel_rfl | decide
  have hst := run_storeCells_at P g o tt [.int .i64 0, .int .i64 0] 0 cur w hg (by simpa using hfit) (by intro u hu; simp at hu; rcases hu with rfl | rfl <;> rfl)
  simp only [Nat.add_zero] at hst
  simp [Builtin.clear_, run_underlying ht, hv, hzc, hst, spl]

theorem wpList_copy_run (w : World) {ops : Array Oper} {rest : List Oper} {o : Oper} {a : Act} {Q : Exit → Act → World → Prop} (hgd : o.guard = none) (d s : Operand) (t t' : TypeId)
    (ho : o.op = .call { callee := .builtin .copy, args := #[d, s], argTypes := #[t, t'] }) (v u : Value) (hd : a.eval d = v) (hs : a.eval s = u) {v' : Value} {w' : World}
    (hr : (Builtin.copy_ #[t, t'] o.type #[v, u]).run P w = .ok v' w') (h : wpList P ops Q rest (a.put o.dst v') w') : wpList P ops Q (o :: rest) a w :=
  wpList_plain hgd fun _ hK => by
    unfold Oper.wp execOp
    simp only [ho, resolve, invoke, builtin, Sem.run_bind, Sem.run_pure, Result.andThen_ok, List.map_toArray, List.map_cons, List.map_nil, hd, hs, hr]
    exact hK _ _ h
theorem wpList_append_run (w : World) {ops : Array Oper} {rest : List Oper} {o : Oper} {a : Act} {Q : Exit → Act → World → Prop} (hgd : o.guard = none) (d s : Operand) (t t' : TypeId)
    (ho : o.op = .call { callee := .builtin .append, args := #[d, s], argTypes := #[t, t'] }) (v u : Value) (hd : a.eval d = v) (hs : a.eval s = u) {v' : Value} {w' : World}
    (hr : (Builtin.append_ #[t, t'] o.type #[v, u]).run P w = .ok v' w') (h : wpList P ops Q rest (a.put o.dst v') w') : wpList P ops Q (o :: rest) a w :=
  wpList_plain hgd fun _ hK => by
    unfold Oper.wp execOp
    simp only [ho, resolve, invoke, builtin, Sem.run_bind, Sem.run_pure, Result.andThen_ok, List.map_toArray, List.map_cons, List.map_nil, hd, hs, hr]
    exact hK _ _ h
theorem wpList_clear_run (w : World) {ops : Array Oper} {rest : List Oper} {o : Oper} {a : Act} {Q : Exit → Act → World → Prop} (hgd : o.guard = none) (d : Operand) (t : TypeId)
    (ho : o.op = .call { callee := .builtin .clear, args := #[d], argTypes := #[t] }) (v : Value) (hd : a.eval d = v) {v' : Value} {w' : World}
    (hr : (Builtin.clear_ #[t] o.type #[v]).run P w = .ok v' w') (h : wpList P ops Q rest (a.put o.dst v') w') : wpList P ops Q (o :: rest) a w :=
  wpList_plain hgd fun _ hK => by
    unfold Oper.wp execOp
    simp only [ho, resolve, invoke, builtin, Sem.run_bind, Sem.run_pure, Result.andThen_ok, List.map_toArray, List.map_cons, List.map_nil, hd, hr]
    exact hK _ _ h
theorem step_copy_run {ops : Array Oper} {o : Oper} {a : Act} {w : World} {K : Act → World → Prop} {Q : Exit → Act → World → Prop} {E : Prop}
    (hg : o.guard = none) (d x : Operand) (dT sT : TypeId) (hop : o.op = Op.call { callee := Callee.builtin Builtin.copy, args := #[d, x], argTypes := #[dT, sT] })
    (v u : Value) (hd : a.eval d = v) (hx : a.eval x = u) {v' : Value} {w' : World} (hr : (Builtin.copy_ #[dT, sT] o.type #[v, u]).run P w = .ok v' w') (hK : K (a.put o.dst v') w') :
    if Region.wanted o (yielded ops a.tmps) = true then Oper.wp P o a w K Q else E := by
  have hw : Region.wanted o (yielded ops a.tmps) = true := by simp [Region.wanted, hg]
  rw [if_pos hw]
  unfold Oper.wp
  simp [execOp, hop, resolve, invoke, builtin, hd, hx, hr, Result.andThen]
  exact hK
theorem step_append_run {ops : Array Oper} {o : Oper} {a : Act} {w : World} {K : Act → World → Prop} {Q : Exit → Act → World → Prop} {E : Prop}
    (hg : o.guard = none) (d x : Operand) (dT sT : TypeId) (hop : o.op = Op.call { callee := Callee.builtin Builtin.append, args := #[d, x], argTypes := #[dT, sT] })
    (v u : Value) (hd : a.eval d = v) (hx : a.eval x = u) {v' : Value} {w' : World} (hr : (Builtin.append_ #[dT, sT] o.type #[v, u]).run P w = .ok v' w') (hK : K (a.put o.dst v') w') :
    if Region.wanted o (yielded ops a.tmps) = true then Oper.wp P o a w K Q else E := by
  have hw : Region.wanted o (yielded ops a.tmps) = true := by simp [Region.wanted, hg]
  rw [if_pos hw]
  unfold Oper.wp
  simp [execOp, hop, resolve, invoke, builtin, hd, hx, hr, Result.andThen]
  exact hK
end
end Go.Proofs.YtcgeagobndhpjaaDoor
