/- Contract of code.Encode: whatever the changes. Condition: their texts are no longer than a slice may be. -/
import Derived.Test.YtdcjogofjniogaaDoorCode2
import Derived.Deep.RegionHeld3
import Derived.Deep.AppendLies
import Derived.Maps.AppendAt
import Derived.Deep.DrawnRows
namespace Go.Proofs.YtdcjogofjniogaaDoor
set_option linter.unusedVariables false
set_option linter.unusedSimpArgs false
open Go.RowKit
attribute [local go_sem ↓] Go.wp_at_zero Go.wp_at_succ

section
variable {P : Program} {w : World}
/-- 'append(out, x)' at a step of a region that draws. -/
theorem step_append_one {ops : Array Oper} {o : Oper} {a : Act} {K : Act → World → Prop} {Q : Exit → Act → World → Prop} {E : Prop} (hgd : o.guard = none) (s x : Operand) (t : TypeId)
    (ho : o.op = .call { callee := .builtin .append, args := #[s, x], argTypes := #[t, t] }) (e : TypeId) (ht : P.underlying t = some (.slice e)) (z : Value) (bytes : Nat)
    (hinfo : (P.info? e).map (fun i => (i.zero, i.size, i.bytes)) = some (some z, 1, bytes)) (hzs : z.cells.size = 1) (hby : bytes ≤ 1024)
    (base : Nat) (v : Value) (n : Nat) (xs : List Value) (hs : a.eval s = v) (hown : w.ownsRow base e 1 v n xs)
    (H : Nat) (u : Value) (hx : a.eval x = .slice (some ⟨H, 0, none⟩) 1 1) (hH : w.cell? ⟨H, 0, none⟩ = some u) (h1 : u.oneCell' = true) (hlen : n < 10000000000) (hbase : base ≤ w.heap.size)
    (h : ∀ v' w', w'.ownsRow base e 1 v' (n + 1) (xs ++ [u]) → w.grownBy w' v.ownBlock → (v'.ownBlock = v.ownBlock ∨ v'.ownBlock = some w.heap.size) → K (a.put o.dst v') w') :
    if Region.wanted o (yielded ops a.tmps) = true then Oper.wp P o a w K Q else E := by
  have hw : Region.wanted o (yielded ops a.tmps) = true := by simp [Region.wanted, hgd]
  rw [if_pos hw]
  obtain ⟨i0, hi0, hz0, hz1, hz2⟩ := info_parts hinfo
  obtain ⟨v', w', hr, g1, g2, _, g4⟩ := run_append_own_at (P := P) w base t o.type e i0 z 1 bytes ht hi0 hz0 hz1 hz2 hzs (by decide) v n xs hown ⟨H, 0, none⟩ 1 1 [u] rfl (by
    intro j u' hj
    match j, hj with
    | 0, hj => simp at hj; subst hj; simpa [Addr.add] using hH
    | j + 1, hj => simp at hj) (by intro u' hu; simp at hu; subst hu; exact h1) (by unfold maxLen; omega) (by have := Nat.mul_le_mul (show n + 1 ≤ 10000000000 by omega) hby; omega) hbase
  unfold Oper.wp execOp
  simp only [ho, resolve, invoke, builtin, Sem.run_bind, Sem.run_pure, Result.andThen_ok, List.map_toArray, List.map_cons, List.map_nil, hs, hx, hr]
  exact h v' w' g1 g2 g4
/-- 'append(out, s...)', s a string, at a step of a region that draws. -/
theorem step_append_str {ops : Array Oper} {o : Oper} {a : Act} {K : Act → World → Prop} {Q : Exit → Act → World → Prop} {E : Prop} (hgd : o.guard = none) (s x : Operand) (t u : TypeId)
    (ho : o.op = .call { callee := .builtin .append, args := #[s, x], argTypes := #[t, u] }) (e : TypeId) (ht : P.underlying t = some (.slice e)) (hu : P.underlying u = some .string)
    (hinfo : (P.info? e).map (fun i => (i.zero, i.size, i.bytes)) = some (some (.int .u8 0), 1, 1))
    (base : Nat) (v : Value) (n : Nat) (xs : List Value) (hs : a.eval s = v) (hown : w.ownsRow base e 1 v n xs) (l : List UInt8) (hx : a.eval x = strV l) (hlen : n + l.length < 10000000000) (hbase : base ≤ w.heap.size)
    (h : ∀ v' w', w'.ownsRow base e 1 v' (n + l.length) (xs ++ bytesV l) → w.grownBy w' v.ownBlock → K (a.put o.dst v') w') :
    if Region.wanted o (yielded ops a.tmps) = true then Oper.wp P o a w K Q else E := by
  have hw : Region.wanted o (yielded ops a.tmps) = true := by simp [Region.wanted, hgd]
  rw [if_pos hw]
  obtain ⟨i0, hi0, hz0, hz1, hz2⟩ := info_parts hinfo
  obtain ⟨v', w', hr, g1, g2, _⟩ := Lib.run_append_own_string (P := P) w base t u o.type e i0 ht hu hi0 hz0 hz1 hz2 v n xs hown ⟨l.toArray⟩ (by rw [size_mk]; unfold maxLen; omega) (by rw [size_mk]; omega) hbase
  rw [size_mk, strCells_mk] at g1
  unfold Oper.wp execOp
  simp only [ho, resolve, invoke, builtin, Sem.run_bind, Sem.run_pure, Result.andThen_ok, List.map_toArray, List.map_cons, List.map_nil, hs, hx, hr]
  exact h v' w' g1 g2
end

theorem all_one : ∀ (p : Option Chg) (l : List Chg), riseOk p l = true → ∀ c ∈ l, oneOk c = true
  | _, [], _, c, hc => by cases hc
  | p, d :: l, h, c, hc => by
    simp only [riseOk, Bool.and_eq_true] at h
    rcases List.mem_cons.1 hc with rfl | hc
    · exact h.1.1
    · exact all_one (some d) l h.2 c hc
theorem one_facts {c : Chg} (h : oneOk c = true) : c.key.length ≤ 24 ∧ c.val.length ≤ 12 := by
  simp only [oneOk, Bool.and_eq_true, decide_eq_true_eq] at h
  exact ⟨h.1.1.2, h.1.2⟩
theorem encs_append : ∀ (a b : List Chg), encs (a ++ b) = encs a ++ encs b
  | [], b => rfl
  | c :: a, b => by simp [encs, encs_append a b]
theorem encs_take {l : List Chg} {k : Nat} (h : k < l.length) : encs (l.take (k + 1)) = encs (l.take k) ++ enc1 l[k] := by
  rw [List.take_succ_eq_append_getElem h, encs_append]
  simp [encs]
theorem rise_take : ∀ {p : Option Chg} {l : List Chg}, riseOk p l = true → ∀ k, riseOk p (l.take k) = true
  | _, [], _, k => by simp [riseOk]
  | p, c :: l, h, 0 => by simp [riseOk]
  | p, c :: l, h, k + 1 => by
    rw [riseOk_cons, Bool.and_eq_true, Bool.and_eq_true] at h
    rw [List.take_succ_cons, riseOk_cons, h.1.1, h.1.2, rise_take h.2 k]
    rfl
/-- Bytes that are laid are owned. -/
theorem own_built (w : World) (e : TypeId) (u : Value) {base : Nat} (hb : base ≤ w.heap.size) : (w.alloc (.cells #[u] e)).ownsRow base e 1 (.slice (some ⟨w.heap.size, 0, none⟩) 1 1) 1 [u] :=
  ⟨rfl, .inr ⟨w.heap.size, 1, #[u], rfl, hb, heap_alloc_new w _, Nat.le_refl _, by simp [maxLen], rfl, rfl⟩⟩

theorem own_ne {g H : Nat} {u v : Value} (h : v.ownBlock = u.ownBlock ∨ v.ownBlock = some H) (h1 : some g ≠ u.ownBlock) (h2 : g ≠ H) : some g ≠ v.ownBlock := by
  rcases h with h | h <;> rw [h]
  · exact h1
  · simpa using h2

theorem enc_gone (x : UInt8) {l : List Chg} {k : Nat} (h : k < l.length) (hg : l[k].gone = true) (hk : l[k].key.length ≤ 24) :
    1 + (encs (l.take (k + 1))).length = 1 + (encs (l.take k)).length + 1 + l[k].key.length ∧
    bytesV (x :: encs (l.take (k + 1))) = bytesV (x :: encs (l.take k)) ++ [.int .u8 ((l[k].key.length : Int) + 128)] ++ bytesV l[k].key := by
  rw [encs_take h]
  constructor
  · simp [enc1, hg]; omega
  · have e : (l[k].key.length + 128) % 256 = l[k].key.length + 128 := by omega
    simp [bytesV, enc1, hg, e]
theorem enc_kept (x : UInt8) {l : List Chg} {k : Nat} (h : k < l.length) (hg : l[k].gone = false) (hk : l[k].key.length ≤ 24) (hv : l[k].val.length ≤ 12) :
    1 + (encs (l.take (k + 1))).length = 1 + (encs (l.take k)).length + 1 + l[k].key.length + 1 + l[k].val.length ∧
    bytesV (x :: encs (l.take (k + 1))) = bytesV (x :: encs (l.take k)) ++ [.int .u8 (l[k].key.length : Int)] ++ bytesV l[k].key ++ [.int .u8 (l[k].val.length : Int)] ++ bytesV l[k].val := by
  rw [encs_take h]
  constructor
  · simp [enc1, hg]; omega
  · have e : l[k].key.length % 256 = l[k].key.length := by omega
    have e2 : l[k].val.length % 256 = l[k].val.length := by omega
    simp [bytesV, enc1, hg, e, e2]
theorem u8_small {n : Nat} (h : n < 256) : IntKind.u8.wrap (n : Int) = n := by
  rw [IntKind.wrap_u8]
  omega
theorem own_not_string {w : World} {base n g : Nat} {e : TypeId} {v : Value} {xs : List Value} {k : IntKind} {z : Int} {s : ByteArray} (h : w.ownsRow base e 1 v n xs) (hx : xs[0]? = some (.int k z)) (hc : w.cell? ⟨g, 0, none⟩ = some (.string s)) : some g ≠ v.ownBlock := by
  intro he
  rcases h.2 with ⟨rfl, _⟩ | ⟨g', cap, cur, rfl, _⟩
  · simp [Value.ownBlock] at he
  · have hg : g = g' := by simpa [Value.ownBlock] using he
    subst hg
    have := h.cells (g := g) rfl 0 _ hx
    simp [Addr.add, hc] at this

theorem encode_bad (A : Option Addr) (l : List Chg) (c : Nat) (hm : l.length ≤ maxLen) (hS : Small l) (hf : chgFault l ≠ 0) (w : World) (hl : Rd w w.heap.size A (cellsC l)) :
    Calls Tryd.prog 36 #[.slice A l.length c] w fun e w' => e = .returned (.tuple #[.slice none 0 0, .iface 31 (.int .i64 (chgFault l))]) ∧ Below w.heap.size w w' := by
  have HE := Lib.hid (show errV (chgFault l) = .iface 31 (.int .i64 (chgFault l)) by unfold errV; rw [if_neg hf])
  go_enter Tryd.func36, Tryd.ntmps36
  go_wp2_with fail
  refine (check_any A l c hm hS _ hl).mono ?_
  rintro e w1 ⟨rfl, hb1⟩
  rw [HE.out]
  go_wp2
  go_ret2
  exact ⟨rfl, hb1⟩

set_option maxRecDepth 100000 in
set_option maxHeartbeats 4000000 in
theorem encode_ok (A : Option Addr) (l : List Chg) (c : Nat) (hm : l.length ≤ maxLen) (hS : Small l) (hf : chgFault l = 0) (w : World) (hl : Rd w w.heap.size A (cellsC l)) :
    Calls Tryd.prog 36 #[.slice A l.length c] w fun e w' => ∃ v, e = .returned (.tuple #[v, .nilIface]) ∧ w'.ownsRow w.heap.size 5 1 v (encL l).length (bytesV (encL l)) ∧ Below w.heap.size w w' := by
  have HE := Lib.hid (show errV (chgFault l) = .nilIface by unfold errV; rw [if_pos hf])
  obtain ⟨h20, hrise⟩ := chgFault_zero.1 hf
  have HR := Lib.hid hrise
  clear hrise hf
  have hw : wrap64 (l.length : Int) = l.length := by unfold maxLen at hm; unfold wrap64; omega
  go_enter Tryd.func36, Tryd.ntmps36
  go_wp2_with fail
  refine (check_any A l c hm hS _ hl).mono ?_
  rintro e w1 ⟨rfl, hb1⟩
  rw [HE.out]
  have hs1 := hb1.size
  go_wp2
  go_loopw [5, 7, 8, 20] (fun v _ _ i wr => ∃ k : Nat, k ≤ l.length ∧ i = .int .i64 k ∧ Below w.heap.size w wr ∧ wr.ownsRow w.heap.size 5 1 v (1 + (encs (l.take k)).length) (bytesV (UInt8.ofNat l.length :: encs (l.take k)))) (fun _ _ _ i _ => l.length - (intOf i).toNat)
  case atStart =>
    refine ⟨0, Nat.zero_le _, rfl, hb1.alloc hs1 _, ?_⟩
    have := own_built w1 5 (.int .u8 (l.length : Int)) hs1
    simpa [bytesV, encs, Nat.mod_eq_of_lt (show l.length < 256 by omega)] using this
  case round =>
    obtain ⟨k, hk, rfl, hb, hown⟩ := hrel
    by_cases hlt : k < l.length
    · obtain ⟨b, off, rfl, hbb, c0, c1, c2⟩ := (hl.below hb).chg hlt
      have hs := hb.size
      obtain ⟨hkey, hval⟩ := one_facts (all_one _ _ HR.out l[k] (List.getElem_mem _))
      have htk := encs_take hlt
      rcases hgo : l[k].gone with _ | _
      · rw [hgo] at c2
        go_wp2_with fail
        refine wp_name ?_
        intro w2 hW2
        have hB2 : Blk w2 wr.heap.size 110 #[strV l[k].key, strV l[k].val, .bool false] := by rw [hW2.out]; exact Blk.new _ _ _
        have hbw2 : Below w.heap.size w w2 := by rw [hW2.out]; exact hb.alloc hs _
        have hown2 := hown.alloc (.cells #[strV l[k].key, strV l[k].val, .bool false] 110)
        have hsz2 : w2.heap.size = wr.heap.size + 1 := by rw [hW2.out]; simp
        have hown2 : w2.ownsRow w.heap.size 5 1 u5 (1 + (encs (l.take k)).length) (bytesV (UInt8.ofNat l.length :: encs (l.take k))) := by rw [hW2.out]; exact hown2
        have hne2 : some wr.heap.size ≠ u5.ownBlock := fun h => by have := (hown.lt _ h.symm).2; omega
        have hlenk : (encs (l.take k)).length ≤ 38 * 20 := by have := encs_length (l.take k) none (rise_take HR.out k); have h2 : (l.take k).length ≤ 20 := by simp; omega
                                                              omega
        have x0 := hB2.cell 0
        have x1 := hB2.cell 1
        have x2 := hB2.cell 2
        simp at x0 x1 x2
        have HSZ := Lib.hid hsz2
        clear hW2 c0 c1 c2 hsz2
        go_region_held3 (fun w' => w'.cell? ⟨wr.heap.size, 0, none⟩ = some (strV l[k].key) ∧ w'.cell? ⟨wr.heap.size, 1, none⟩ = some (strV l[k].val) ∧ w'.cell? ⟨wr.heap.size, 2, none⟩ = some (.bool false))
          (first
            | go_keep
            | (go_split_ands; refine ⟨?_, ?_, ?_⟩ <;> (rw [hgrowB.cell_far _ (by simp; have := HSZ.out; omega) hneB]; assumption))
            | (go_split_ands; refine ⟨?_, ?_, ?_⟩ <;> (rw [hgrowA.cell_far _ (by simp; have := HSZ.out; omega) hne2]; assumption)))
          (first
            | (refine step_append_one (by rfl) _ _ 32 (by rfl) 5 Tryd.underlying32 _ 1 infoU8 (by rfl) (by decide) w.heap.size u5 _ _ (by rfl) ((hown2.alloc _).drew) w2.heap.size (.int .u8 (l[k].key.length : Int)) (by rfl) (by simp) (by rfl) (by omega) (by simp; have := HSZ.out; omega) ?_; intro vA wA hownA hgrowA hatA; have hneB := own_ne hatA hne2 (by simp; have := HSZ.out; omega); have hszA := hgrowA.size; simp at hszA)
            | (refine step_append_str (by rfl) _ _ 32 9 (by rfl) 5 Tryd.underlying32 Tryd.underlying9 infoU8 w.heap.size vA _ _ (by rfl) hownA l[k].key (by rfl) (by omega) (by have := HSZ.out; omega) ?_; intro vB wB hownB hgrowB))
        have hbA : Below w.heap.size w wA := ((hbw2.alloc (by have := HSZ.out; omega) _).drew).grown hgrowA (by simp; have := HSZ.out; omega) (fun k hk => (hown2.lt k hk).1)
        have hbB : Below w.heap.size w wB := hbA.grown hgrowB (by have := HSZ.out; omega) (fun k hk => (hownA.lt k hk).1)
        have y0 : wB.cell? ⟨wr.heap.size, 0, none⟩ = some (strV l[k].key) := by first | assumption | (go_split_ands; assumption)
        have y1 : wB.cell? ⟨wr.heap.size, 1, none⟩ = some (strV l[k].val) := by first | assumption | (go_split_ands; assumption)
        have y2 : wB.cell? ⟨wr.heap.size, 2, none⟩ = some (.bool false) := by first | assumption | (go_split_ands; assumption)
        have hszB := hgrowB.size
        have hneC : some wr.heap.size ≠ vB.ownBlock := own_not_string (k := .u8) (z := ((UInt8.ofNat l.length).toNat : Int)) hownB (by simp [bytesV]) y0
        clear hown2 hown hownA hgrowA hgrowB hatA hneB
        go_wp2_with fail
        go_region_held3 (fun w' => w'.cell? ⟨wr.heap.size, 0, none⟩ = some (strV l[k].key) ∧ w'.cell? ⟨wr.heap.size, 1, none⟩ = some (strV l[k].val) ∧ w'.cell? ⟨wr.heap.size, 2, none⟩ = some (.bool false))
          (first
            | go_keep
            | (go_split_ands; refine ⟨?_, ?_, ?_⟩ <;> (rw [hgrowD.cell_far _ (by simp; have := HSZ.out; omega) hneD]; assumption))
            | (go_split_ands; refine ⟨?_, ?_, ?_⟩ <;> (rw [hgrowC.cell_far _ (by simp; have := HSZ.out; omega) hneC]; assumption)))
          (first
            | (refine step_append_one (by rfl) _ _ 32 (by rfl) 5 Tryd.underlying32 _ 1 infoU8 (by rfl) (by decide) w.heap.size vB _ _ (by rfl) ((hownB.alloc _).drew) wB.heap.size (.int .u8 (IntKind.u8.wrap (l[k].val.length : Int))) (by rfl) (by simp) (by rfl) (by omega) (by simp; have := HSZ.out; omega) ?_; intro vC wC hownC hgrowC hatC; have hneD := own_ne hatC hneC (by simp; have := HSZ.out; omega); have hszC := hgrowC.size; simp at hszC)
            | (refine step_append_str (by rfl) _ _ 32 9 (by rfl) 5 Tryd.underlying32 Tryd.underlying9 infoU8 w.heap.size vC _ _ (by rfl) hownC l[k].val (by rfl) (by omega) (by have := HSZ.out; omega) ?_; intro vD wD hownD hgrowD))
        have hbC : Below w.heap.size w wC := ((hbB.alloc (by have := HSZ.out; omega) _).drew).grown hgrowC (by simp; have := HSZ.out; omega) (fun k hk => (hownB.lt k hk).1)
        have hbD : Below w.heap.size w wD := hbC.grown hgrowD (by have := HSZ.out; omega) (fun k hk => (hownC.lt k hk).1)
        obtain ⟨e1, e2⟩ := enc_kept (UInt8.ofNat l.length) hlt hgo (by omega) (by omega)
        rw [u8_small (show l[k].val.length < 256 by omega)] at hownD
        clear hownB hownC hgrowC hgrowD hatC
        have HOD := Lib.hid hownD
        clear hownD
        go_wp2_with fail
        go_roundw
        case rel => exact ⟨k + 1, by omega, by go_num, hbD, by rw [e1, e2]; exact HOD.out⟩
        case measure => simp [intOf]; omega
      · rw [hgo] at c2
        go_wp2_with fail
        refine wp_name ?_
        intro w2 hW2
        have hB2 : Blk w2 wr.heap.size 110 #[strV l[k].key, strV l[k].val, .bool true] := by rw [hW2.out]; exact Blk.new _ _ _
        have hbw2 : Below w.heap.size w w2 := by rw [hW2.out]; exact hb.alloc hs _
        have hown2 := hown.alloc (.cells #[strV l[k].key, strV l[k].val, .bool true] 110)
        have hsz2 : w2.heap.size = wr.heap.size + 1 := by rw [hW2.out]; simp
        have hown2 : w2.ownsRow w.heap.size 5 1 u5 (1 + (encs (l.take k)).length) (bytesV (UInt8.ofNat l.length :: encs (l.take k))) := by rw [hW2.out]; exact hown2
        have hne2 : some wr.heap.size ≠ u5.ownBlock := fun h => by have := (hown.lt _ h.symm).2; omega
        have hlenk : (encs (l.take k)).length ≤ 38 * 20 := by have := encs_length (l.take k) none (rise_take HR.out k); have h2 : (l.take k).length ≤ 20 := by simp; omega
                                                              omega
        have x0 := hB2.cell 0
        have x1 := hB2.cell 1
        have x2 := hB2.cell 2
        simp at x0 x1 x2
        have HSZ := Lib.hid hsz2
        clear hW2 c0 c1 c2 hsz2
        go_region_held3 (fun w' => w'.cell? ⟨wr.heap.size, 0, none⟩ = some (strV l[k].key) ∧ w'.cell? ⟨wr.heap.size, 1, none⟩ = some (strV l[k].val) ∧ w'.cell? ⟨wr.heap.size, 2, none⟩ = some (.bool true))
          (first
            | go_keep
            | (go_split_ands; refine ⟨?_, ?_, ?_⟩ <;> (rw [hgrowB.cell_far _ (by simp; have := HSZ.out; omega) hneB]; assumption))
            | (go_split_ands; refine ⟨?_, ?_, ?_⟩ <;> (rw [hgrowA.cell_far _ (by simp; have := HSZ.out; omega) hne2]; assumption)))
          (first
            | (refine step_append_one (by rfl) _ _ 32 (by rfl) 5 Tryd.underlying32 _ 1 infoU8 (by rfl) (by decide) w.heap.size u5 _ _ (by rfl) ((hown2.alloc _).drew) w2.heap.size (.int .u8 ((l[k].key.length : Int) + 128)) (by rfl) (by simp) (by rfl) (by omega) (by simp; have := HSZ.out; omega) ?_; intro vA wA hownA hgrowA hatA; have hneB := own_ne hatA hne2 (by simp; have := HSZ.out; omega); have hszA := hgrowA.size; simp at hszA)
            | (refine step_append_str (by rfl) _ _ 32 9 (by rfl) 5 Tryd.underlying32 Tryd.underlying9 infoU8 w.heap.size vA _ _ (by rfl) hownA l[k].key (by rfl) (by omega) (by have := HSZ.out; omega) ?_; intro vB wB hownB hgrowB))
        have hbA : Below w.heap.size w wA := ((hbw2.alloc (by have := HSZ.out; omega) _).drew).grown hgrowA (by simp; have := HSZ.out; omega) (fun k hk => (hown2.lt k hk).1)
        have hbB : Below w.heap.size w wB := hbA.grown hgrowB (by have := HSZ.out; omega) (fun k hk => (hownA.lt k hk).1)
        obtain ⟨e1, e2⟩ := enc_gone (UInt8.ofNat l.length) hlt hgo (by omega)
        clear hown2 hown hownA hgrowA hgrowB hatA
        have HOB := Lib.hid hownB
        clear hownB
        go_wp2_with fail
        go_roundw
        case rel => exact ⟨k + 1, by omega, by go_num, hbB, by rw [e1, e2]; exact HOB.out⟩
        case measure => simp [intOf]; omega
    · obtain rfl : k = l.length := by omega
      have HO := Lib.hid hown
      clear hown
      go_wp2
      go_ret2
      have hown := HO.out
      rw [List.take_length] at hown
      refine ⟨_, rfl, ?_, hb⟩
      simp only [encL, List.length_cons]
      rw [Nat.add_comm]
      exact hown
end Go.Proofs.YtdcjogofjniogaaDoor
