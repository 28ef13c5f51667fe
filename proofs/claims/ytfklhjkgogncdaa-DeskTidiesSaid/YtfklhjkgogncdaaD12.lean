/- Texts joined: XCode3, XCode4, XCode5, XCode6, XCode7. Each says at its head what it proves; conditions: as said there. -/
import Derived.Test.YtfklhjkgogncdaaD11
import Derived.Deep.RegionHeld3
import Derived.Deep.AppendLies
import Derived.Maps.AppendAt
import Derived.Deep.DrawnRows
/- Contract of code.Encode: whatever the changes. Condition: their texts are no longer than a slice may be. -/
namespace Go.Proofs.Ytfklhjkgogncdaa
set_option linter.unusedVariables false
set_option linter.unusedSimpArgs false
open Go.RowKit
attribute [local go_sem ↓] Go.wp_at_zero Go.wp_at_succ

section
variable {P : Program} {w : World}
/-- 'append(out, x)' at a step of a region that draws. -/
theorem step_append_one {ops : Array Oper} {o : Oper} {a : Act} {K : Act → World → Prop} {Q : Exit → Act → World → Prop} {E : Prop} (hgd : o.guard = none) (s x : Operand) (t : TypeId)
    (ho : o.op = .call { callee := .builtin .append, args := #[s, x], argTypes := #[t, t] }) (e : TypeId) (ht : P.underlying t = some (.slice e)) (z : Value) (bytes : Nat)
    (hinfo : (P.info? e).map (fun i => (i.zero, i.size, i.bytes)) = some (some z, 1, bytes)) (hzs : z.cells.size = 1) (hby : bytes ≤ 1024)
    (base : Nat) (v : Value) (n : Nat) (xs : List Value) (hs : a.eval s = v) (hown : w.ownsRow base e 1 v n xs)
    (H : Nat) (u : Value) (hx : a.eval x = .slice (some ⟨H, 0, none⟩) 1 1) (hH : w.cell? ⟨H, 0, none⟩ = some u) (h1 : u.oneCell' = true) (hlen : n < 10000000000) (hbase : base ≤ w.heap.size)
    (h : ∀ v' w', w'.ownsRow base e 1 v' (n + 1) (xs ++ [u]) → w.grownBy w' v.ownBlock → (v'.ownBlock = v.ownBlock ∨ v'.ownBlock = some w.heap.size) → K (a.put o.dst v') w') :
    if Region.wanted o (yielded ops a.tmps) = true then Oper.wp P o a w K Q else E := by
  have hw : Region.wanted o (yielded ops a.tmps) = true := by simp [Region.wanted, hgd]
  rw [if_pos hw]
  obtain ⟨i0, hi0, hz0, hz1, hz2⟩ := info_parts hinfo
  obtain ⟨v', w', hr, g1, g2, _, g4⟩ := run_append_own_at (P := P) w base t o.type e i0 z 1 bytes ht hi0 hz0 hz1 hz2 hzs (by decide) v n xs hown ⟨H, 0, none⟩ 1 1 [u] rfl (by
    intro j u' hj
    match j, hj with
    | 0, hj => simp at hj; subst hj; simpa [Addr.add] using hH
    | j + 1, hj => simp at hj) (by intro u' hu; simp at hu; subst hu; exact h1) (by unfold maxLen; omega) (by have := Nat.mul_le_mul (show n + 1 ≤ 10000000000 by omega) hby; omega) hbase
  unfold Oper.wp execOp
  simp only [ho, resolve, invoke, builtin, Sem.run_bind, Sem.run_pure, Result.andThen_ok, List.map_toArray, List.map_cons, List.map_nil, hs, hx, hr]
  exact h v' w' g1 g2 g4
/-- 'append(out, s...)', s a string, at a step of a region that draws. -/
theorem step_append_str {ops : Array Oper} {o : Oper} {a : Act} {K : Act → World → Prop} {Q : Exit → Act → World → Prop} {E : Prop} (hgd : o.guard = none) (s x : Operand) (t u : TypeId)
    (ho : o.op = .call { callee := .builtin .append, args := #[s, x], argTypes := #[t, u] }) (e : TypeId) (ht : P.underlying t = some (.slice e)) (hu : P.underlying u = some .string)
    (hinfo : (P.info? e).map (fun i => (i.zero, i.size, i.bytes)) = some (some (.int .u8 0), 1, 1))
    (base : Nat) (v : Value) (n : Nat) (xs : List Value) (hs : a.eval s = v) (hown : w.ownsRow base e 1 v n xs) (l : List UInt8) (hx : a.eval x = strV l) (hlen : n + l.length < 10000000000) (hbase : base ≤ w.heap.size)
    (h : ∀ v' w', w'.ownsRow base e 1 v' (n + l.length) (xs ++ bytesV l) → w.grownBy w' v.ownBlock → K (a.put o.dst v') w') :
    if Region.wanted o (yielded ops a.tmps) = true then Oper.wp P o a w K Q else E := by
  have hw : Region.wanted o (yielded ops a.tmps) = true := by simp [Region.wanted, hgd]
  rw [if_pos hw]
  obtain ⟨i0, hi0, hz0, hz1, hz2⟩ := info_parts hinfo
  obtain ⟨v', w', hr, g1, g2, _⟩ := Lib.run_append_own_string (P := P) w base t u o.type e i0 ht hu hi0 hz0 hz1 hz2 v n xs hown ⟨l.toArray⟩ (by rw [size_mk]; unfold maxLen; omega) (by rw [size_mk]; omega) hbase
  rw [size_mk, strCells_mk] at g1
  unfold Oper.wp execOp
  simp only [ho, resolve, invoke, builtin, Sem.run_bind, Sem.run_pure, Result.andThen_ok, List.map_toArray, List.map_cons, List.map_nil, hs, hx, hr]
  exact h v' w' g1 g2
end

theorem all_one : ∀ (p : Option Chg) (l : List Chg), riseOk p l = true → ∀ c ∈ l, oneOk c = true
  | _, [], _, c, hc => by cases hc
  | p, d :: l, h, c, hc => by
    simp only [riseOk, Bool.and_eq_true] at h
    rcases List.mem_cons.1 hc with rfl | hc
    · exact h.1.1
    · exact all_one (some d) l h.2 c hc
theorem one_facts {c : Chg} (h : oneOk c = true) : c.key.length ≤ 24 ∧ c.val.length ≤ 12 := by
  simp only [oneOk, Bool.and_eq_true, decide_eq_true_eq] at h
  exact ⟨h.1.1.2, h.1.2⟩
theorem encs_append : ∀ (a b : List Chg), encs (a ++ b) = encs a ++ encs b
  | [], b => rfl
  | c :: a, b => by simp [encs, encs_append a b]
theorem encs_take {l : List Chg} {k : Nat} (h : k < l.length) : encs (l.take (k + 1)) = encs (l.take k) ++ enc1 l[k] := by
  rw [List.take_succ_eq_append_getElem h, encs_append]
  simp [encs]
theorem rise_take : ∀ {p : Option Chg} {l : List Chg}, riseOk p l = true → ∀ k, riseOk p (l.take k) = true
  | _, [], _, k => by simp [riseOk]
  | p, c :: l, h, 0 => by simp [riseOk]
  | p, c :: l, h, k + 1 => by
    rw [riseOk_cons, Bool.and_eq_true, Bool.and_eq_true] at h
    rw [List.take_succ_cons, riseOk_cons, h.1.1, h.1.2, rise_take h.2 k]
    rfl
/-- Bytes that are laid are owned. -/
theorem own_built (w : World) (e : TypeId) (u : Value) {base : Nat} (hb : base ≤ w.heap.size) : (w.alloc (.cells #[u] e)).ownsRow base e 1 (.slice (some ⟨w.heap.size, 0, none⟩) 1 1) 1 [u] :=
  ⟨rfl, .inr ⟨w.heap.size, 1, #[u], rfl, hb, heap_alloc_new w _, Nat.le_refl _, by simp [maxLen], rfl, rfl⟩⟩

theorem own_ne {g H : Nat} {u v : Value} (h : v.ownBlock = u.ownBlock ∨ v.ownBlock = some H) (h1 : some g ≠ u.ownBlock) (h2 : g ≠ H) : some g ≠ v.ownBlock := by
  rcases h with h | h <;> rw [h]
  · exact h1
  · simpa using h2

theorem enc_gone (x : UInt8) {l : List Chg} {k : Nat} (h : k < l.length) (hg : l[k].gone = true) (hk : l[k].key.length ≤ 24) :
    1 + (encs (l.take (k + 1))).length = 1 + (encs (l.take k)).length + 1 + l[k].key.length ∧
    bytesV (x :: encs (l.take (k + 1))) = bytesV (x :: encs (l.take k)) ++ [.int .u8 ((l[k].key.length : Int) + 128)] ++ bytesV l[k].key := by
  rw [encs_take h]
  constructor
  · simp [enc1, hg]; omega
  · have e : (l[k].key.length + 128) % 256 = l[k].key.length + 128 := by omega
    simp [bytesV, enc1, hg, e]
theorem enc_kept (x : UInt8) {l : List Chg} {k : Nat} (h : k < l.length) (hg : l[k].gone = false) (hk : l[k].key.length ≤ 24) (hv : l[k].val.length ≤ 12) :
    1 + (encs (l.take (k + 1))).length = 1 + (encs (l.take k)).length + 1 + l[k].key.length + 1 + l[k].val.length ∧
    bytesV (x :: encs (l.take (k + 1))) = bytesV (x :: encs (l.take k)) ++ [.int .u8 (l[k].key.length : Int)] ++ bytesV l[k].key ++ [.int .u8 (l[k].val.length : Int)] ++ bytesV l[k].val := by
  rw [encs_take h]
  constructor
  · simp [enc1, hg]; omega
  · have e : l[k].key.length % 256 = l[k].key.length := by omega
    have e2 : l[k].val.length % 256 = l[k].val.length := by omega
    simp [bytesV, enc1, hg, e, e2]
theorem u8_small {n : Nat} (h : n < 256) : IntKind.u8.wrap (n : Int) = n := by
  rw [IntKind.wrap_u8]
  omega
theorem own_not_string {w : World} {base n g : Nat} {e : TypeId} {v : Value} {xs : List Value} {k : IntKind} {z : Int} {s : ByteArray} (h : w.ownsRow base e 1 v n xs) (hx : xs[0]? = some (.int k z)) (hc : w.cell? ⟨g, 0, none⟩ = some (.string s)) : some g ≠ v.ownBlock := by
  intro he
  rcases h.2 with ⟨rfl, _⟩ | ⟨g', cap, cur, rfl, _⟩
  · simp [Value.ownBlock] at he
  · have hg : g = g' := by simpa [Value.ownBlock] using he
    subst hg
    have := h.cells (g := g) rfl 0 _ hx
    simp [Addr.add, hc] at this

theorem encode_bad (A : Option Addr) (l : List Chg) (c : Nat) (hm : l.length ≤ maxLen) (hS : Small l) (hf : chgFault l ≠ 0) (w : World) (hl : Rd w w.heap.size A (cellsC l)) :
    Calls Try.prog 50 #[.slice A l.length c] w fun e w' => e = .returned (.tuple #[.slice none 0 0, .iface 61 (.int .i64 (chgFault l))]) ∧ Below w.heap.size w w' := by
  have HE := Lib.hid (show errV (chgFault l) = .iface 61 (.int .i64 (chgFault l)) by unfold errV; rw [if_neg hf])
  go_enter Try.func50, Try.ntmps50
  go_wp2_with fail
  refine (check_any A l c hm hS _ hl).mono ?_
  rintro e w1 ⟨rfl, hb1⟩
  rw [HE.out]
  go_wp2
  go_ret2
  exact ⟨rfl, hb1⟩

set_option maxRecDepth 100000 in
set_option maxHeartbeats 4000000 in
theorem encode_ok (A : Option Addr) (l : List Chg) (c : Nat) (hm : l.length ≤ maxLen) (hS : Small l) (hf : chgFault l = 0) (w : World) (hl : Rd w w.heap.size A (cellsC l)) :
    Calls Try.prog 50 #[.slice A l.length c] w fun e w' => ∃ v, e = .returned (.tuple #[v, .nilIface]) ∧ w'.ownsRow w.heap.size 5 1 v (encL l).length (bytesV (encL l)) ∧ Below w.heap.size w w' := by
  have HE := Lib.hid (show errV (chgFault l) = .nilIface by unfold errV; rw [if_pos hf])
  obtain ⟨h20, hrise⟩ := chgFault_zero.1 hf
  have HR := Lib.hid hrise
  clear hrise hf
  have hw : wrap64 (l.length : Int) = l.length := by unfold maxLen at hm; unfold wrap64; omega
  go_enter Try.func50, Try.ntmps50
  go_wp2_with fail
  refine (check_any A l c hm hS _ hl).mono ?_
  rintro e w1 ⟨rfl, hb1⟩
  rw [HE.out]
  have hs1 := hb1.size
  go_wp2
  go_loopw [5, 7, 8, 20] (fun v _ _ i wr => ∃ k : Nat, k ≤ l.length ∧ i = .int .i64 k ∧ Below w.heap.size w wr ∧ wr.ownsRow w.heap.size 5 1 v (1 + (encs (l.take k)).length) (bytesV (UInt8.ofNat l.length :: encs (l.take k)))) (fun _ _ _ i _ => l.length - (intOf i).toNat)
  case atStart =>
    refine ⟨0, Nat.zero_le _, rfl, hb1.alloc hs1 _, ?_⟩
    have := own_built w1 5 (.int .u8 (l.length : Int)) hs1
    simpa [bytesV, encs, Nat.mod_eq_of_lt (show l.length < 256 by omega)] using this
  case round =>
    obtain ⟨k, hk, rfl, hb, hown⟩ := hrel
    by_cases hlt : k < l.length
    · obtain ⟨b, off, rfl, hbb, c0, c1, c2⟩ := (hl.below hb).chg hlt
      have hs := hb.size
      obtain ⟨hkey, hval⟩ := one_facts (all_one _ _ HR.out l[k] (List.getElem_mem _))
      have htk := encs_take hlt
      rcases hgo : l[k].gone with _ | _
      · rw [hgo] at c2
        go_wp2_with fail
        refine wp_name ?_
        intro w2 hW2
        have hB2 : Blk w2 wr.heap.size 71 #[strV l[k].key, strV l[k].val, .bool false] := by rw [hW2.out]; exact Blk.new _ _ _
        have hbw2 : Below w.heap.size w w2 := by rw [hW2.out]; exact hb.alloc hs _
        have hown2 := hown.alloc (.cells #[strV l[k].key, strV l[k].val, .bool false] 71)
        have hsz2 : w2.heap.size = wr.heap.size + 1 := by rw [hW2.out]; simp
        have hown2 : w2.ownsRow w.heap.size 5 1 u5 (1 + (encs (l.take k)).length) (bytesV (UInt8.ofNat l.length :: encs (l.take k))) := by rw [hW2.out]; exact hown2
        have hne2 : some wr.heap.size ≠ u5.ownBlock := fun h => by have := (hown.lt _ h.symm).2; omega
        have hlenk : (encs (l.take k)).length ≤ 38 * 20 := by have := encs_length (l.take k) none (rise_take HR.out k); have h2 : (l.take k).length ≤ 20 := by simp; omega
                                                              omega
        have x0 := hB2.cell 0
        have x1 := hB2.cell 1
        have x2 := hB2.cell 2
        simp at x0 x1 x2
        have HSZ := Lib.hid hsz2
        clear hW2 c0 c1 c2 hsz2
        go_region_held3 (fun w' => w'.cell? ⟨wr.heap.size, 0, none⟩ = some (strV l[k].key) ∧ w'.cell? ⟨wr.heap.size, 1, none⟩ = some (strV l[k].val) ∧ w'.cell? ⟨wr.heap.size, 2, none⟩ = some (.bool false))
          (first
            | go_keep
            | (go_split_ands; refine ⟨?_, ?_, ?_⟩ <;> (rw [hgrowB.cell_far _ (by simp; have := HSZ.out; omega) hneB]; assumption))
            | (go_split_ands; refine ⟨?_, ?_, ?_⟩ <;> (rw [hgrowA.cell_far _ (by simp; have := HSZ.out; omega) hne2]; assumption)))
          (first
            | (refine step_append_one (by rfl) _ _ 80 (by rfl) 5 Try.underlying80 _ 1 infoU8 (by rfl) (by decide) w.heap.size u5 _ _ (by rfl) ((hown2.alloc _).drew) w2.heap.size (.int .u8 (l[k].key.length : Int)) (by rfl) (by simp) (by rfl) (by omega) (by simp; have := HSZ.out; omega) ?_; intro vA wA hownA hgrowA hatA; have hneB := own_ne hatA hne2 (by simp; have := HSZ.out; omega); have hszA := hgrowA.size; simp at hszA)
            | (refine step_append_str (by rfl) _ _ 80 9 (by rfl) 5 Try.underlying80 Try.underlying9 infoU8 w.heap.size vA _ _ (by rfl) hownA l[k].key (by rfl) (by omega) (by have := HSZ.out; omega) ?_; intro vB wB hownB hgrowB))
        have hbA : Below w.heap.size w wA := ((hbw2.alloc (by have := HSZ.out; omega) _).drew).grown hgrowA (by simp; have := HSZ.out; omega) (fun k hk => (hown2.lt k hk).1)
        have hbB : Below w.heap.size w wB := hbA.grown hgrowB (by have := HSZ.out; omega) (fun k hk => (hownA.lt k hk).1)
        have y0 : wB.cell? ⟨wr.heap.size, 0, none⟩ = some (strV l[k].key) := by first | assumption | (go_split_ands; assumption)
        have y1 : wB.cell? ⟨wr.heap.size, 1, none⟩ = some (strV l[k].val) := by first | assumption | (go_split_ands; assumption)
        have y2 : wB.cell? ⟨wr.heap.size, 2, none⟩ = some (.bool false) := by first | assumption | (go_split_ands; assumption)
        have hszB := hgrowB.size
        have hneC : some wr.heap.size ≠ vB.ownBlock := own_not_string (k := .u8) (z := ((UInt8.ofNat l.length).toNat : Int)) hownB (by simp [bytesV]) y0
        clear hown2 hown hownA hgrowA hgrowB hatA hneB
        go_wp2_with fail
        go_region_held3 (fun w' => w'.cell? ⟨wr.heap.size, 0, none⟩ = some (strV l[k].key) ∧ w'.cell? ⟨wr.heap.size, 1, none⟩ = some (strV l[k].val) ∧ w'.cell? ⟨wr.heap.size, 2, none⟩ = some (.bool false))
          (first
            | go_keep
            | (go_split_ands; refine ⟨?_, ?_, ?_⟩ <;> (rw [hgrowD.cell_far _ (by simp; have := HSZ.out; omega) hneD]; assumption))
            | (go_split_ands; refine ⟨?_, ?_, ?_⟩ <;> (rw [hgrowC.cell_far _ (by simp; have := HSZ.out; omega) hneC]; assumption)))
          (first
            | (refine step_append_one (by rfl) _ _ 80 (by rfl) 5 Try.underlying80 _ 1 infoU8 (by rfl) (by decide) w.heap.size vB _ _ (by rfl) ((hownB.alloc _).drew) wB.heap.size (.int .u8 (IntKind.u8.wrap (l[k].val.length : Int))) (by rfl) (by simp) (by rfl) (by omega) (by simp; have := HSZ.out; omega) ?_; intro vC wC hownC hgrowC hatC; have hneD := own_ne hatC hneC (by simp; have := HSZ.out; omega); have hszC := hgrowC.size; simp at hszC)
            | (refine step_append_str (by rfl) _ _ 80 9 (by rfl) 5 Try.underlying80 Try.underlying9 infoU8 w.heap.size vC _ _ (by rfl) hownC l[k].val (by rfl) (by omega) (by have := HSZ.out; omega) ?_; intro vD wD hownD hgrowD))
        have hbC : Below w.heap.size w wC := ((hbB.alloc (by have := HSZ.out; omega) _).drew).grown hgrowC (by simp; have := HSZ.out; omega) (fun k hk => (hownB.lt k hk).1)
        have hbD : Below w.heap.size w wD := hbC.grown hgrowD (by have := HSZ.out; omega) (fun k hk => (hownC.lt k hk).1)
        obtain ⟨e1, e2⟩ := enc_kept (UInt8.ofNat l.length) hlt hgo (by omega) (by omega)
        rw [u8_small (show l[k].val.length < 256 by omega)] at hownD
        clear hownB hownC hgrowC hgrowD hatC
        have HOD := Lib.hid hownD
        clear hownD
        go_wp2_with fail
        go_roundw
        case rel => exact ⟨k + 1, by omega, by go_num, hbD, by rw [e1, e2]; exact HOD.out⟩
        case measure => simp [intOf]; omega
      · rw [hgo] at c2
        go_wp2_with fail
        refine wp_name ?_
        intro w2 hW2
        have hB2 : Blk w2 wr.heap.size 71 #[strV l[k].key, strV l[k].val, .bool true] := by rw [hW2.out]; exact Blk.new _ _ _
        have hbw2 : Below w.heap.size w w2 := by rw [hW2.out]; exact hb.alloc hs _
        have hown2 := hown.alloc (.cells #[strV l[k].key, strV l[k].val, .bool true] 71)
        have hsz2 : w2.heap.size = wr.heap.size + 1 := by rw [hW2.out]; simp
        have hown2 : w2.ownsRow w.heap.size 5 1 u5 (1 + (encs (l.take k)).length) (bytesV (UInt8.ofNat l.length :: encs (l.take k))) := by rw [hW2.out]; exact hown2
        have hne2 : some wr.heap.size ≠ u5.ownBlock := fun h => by have := (hown.lt _ h.symm).2; omega
        have hlenk : (encs (l.take k)).length ≤ 38 * 20 := by have := encs_length (l.take k) none (rise_take HR.out k); have h2 : (l.take k).length ≤ 20 := by simp; omega
                                                              omega
        have x0 := hB2.cell 0
        have x1 := hB2.cell 1
        have x2 := hB2.cell 2
        simp at x0 x1 x2
        have HSZ := Lib.hid hsz2
        clear hW2 c0 c1 c2 hsz2
        go_region_held3 (fun w' => w'.cell? ⟨wr.heap.size, 0, none⟩ = some (strV l[k].key) ∧ w'.cell? ⟨wr.heap.size, 1, none⟩ = some (strV l[k].val) ∧ w'.cell? ⟨wr.heap.size, 2, none⟩ = some (.bool true))
          (first
            | go_keep
            | (go_split_ands; refine ⟨?_, ?_, ?_⟩ <;> (rw [hgrowB.cell_far _ (by simp; have := HSZ.out; omega) hneB]; assumption))
            | (go_split_ands; refine ⟨?_, ?_, ?_⟩ <;> (rw [hgrowA.cell_far _ (by simp; have := HSZ.out; omega) hne2]; assumption)))
          (first
            | (refine step_append_one (by rfl) _ _ 80 (by rfl) 5 Try.underlying80 _ 1 infoU8 (by rfl) (by decide) w.heap.size u5 _ _ (by rfl) ((hown2.alloc _).drew) w2.heap.size (.int .u8 ((l[k].key.length : Int) + 128)) (by rfl) (by simp) (by rfl) (by omega) (by simp; have := HSZ.out; omega) ?_; intro vA wA hownA hgrowA hatA; have hneB := own_ne hatA hne2 (by simp; have := HSZ.out; omega); have hszA := hgrowA.size; simp at hszA)
            | (refine step_append_str (by rfl) _ _ 80 9 (by rfl) 5 Try.underlying80 Try.underlying9 infoU8 w.heap.size vA _ _ (by rfl) hownA l[k].key (by rfl) (by omega) (by have := HSZ.out; omega) ?_; intro vB wB hownB hgrowB))
        have hbA : Below w.heap.size w wA := ((hbw2.alloc (by have := HSZ.out; omega) _).drew).grown hgrowA (by simp; have := HSZ.out; omega) (fun k hk => (hown2.lt k hk).1)
        have hbB : Below w.heap.size w wB := hbA.grown hgrowB (by have := HSZ.out; omega) (fun k hk => (hownA.lt k hk).1)
        obtain ⟨e1, e2⟩ := enc_gone (UInt8.ofNat l.length) hlt hgo (by omega)
        clear hown2 hown hownA hgrowA hgrowB hatA
        have HOB := Lib.hid hownB
        clear hownB
        go_wp2_with fail
        go_roundw
        case rel => exact ⟨k + 1, by omega, by go_num, hbB, by rw [e1, e2]; exact HOB.out⟩
        case measure => simp [intOf]; omega
    · obtain rfl : k = l.length := by omega
      have HO := Lib.hid hown
      clear hown
      go_wp2
      go_ret2
      have hown := HO.out
      rw [List.take_length] at hown
      refine ⟨_, rfl, ?_, hb⟩
      simp only [encL, List.length_cons]
      rw [Nat.add_comm]
      exact hown
end Go.Proofs.Ytfklhjkgogncdaa

/- Contracts of code.read and code.Decode: whatever the bytes. No conditions. -/
namespace Go.Proofs.Ytfklhjkgogncdaa
set_option linter.unusedVariables false
set_option linter.unusedSimpArgs false
open Go.RowKit

theorem index_str (h : UInt8) (w : World) : (Instr.index 9 (.string ⟨#[h]⟩) (.int .i64 0)).run Try.prog w = .ok (.int .u8 (h.toNat : Int)) w := by kernel_rfl

abbrev shortV : Value := .iface 172 (.agg #[])
abbrev syntaxV : Value := .iface 61 (.int .i64 5)
abbrev doorD (g : Nat) : Deferred := { target := .fn (Fn.func 107) #[.pointer (some ⟨g, 0, none⟩)], args := #[] }

theorem read_results (T : Array Value) (v x : Value) (g : Nat) (w : World) (h2 : T[2]? = some v) (h3 : T[3]? = some (.pointer (some ⟨g, 0, none⟩))) (hB : w.cell? ⟨g, 0, none⟩ = some x) :
    (results Try.f100 T).run Try.prog w = .ok (.tuple #[v, x]) w := by
  have e2 : T.getD 2 undef = v := by simp [Array.getD_eq_getD_getElem?, h2]
  have e3 : T.getD 3 undef = .pointer (some ⟨g, 0, none⟩) := by simp [Array.getD_eq_getD_getElem?, h3]
  simp [results, Try.results100, go_sem, e2, e3, h2, h3, hB]

theorem door_panic (T : Array Value) (v x : Value) (g : Nat) (t : TypeId) (w : World) (R : Ending → World → Prop) (h2 : T[2]? = some v) (h3 : T[3]? = some (.pointer (some ⟨g, 0, none⟩))) (hB : Blk w g t #[x])
    (h : R (.returned (.tuple #[v, syntaxV])) ((w.alloc (.cells #[] 172)).setCell ⟨g, 0, none⟩ syntaxV)) :
    Leaves Try.prog Try.f100 T R [doorD g] (.panicking [{ v := shortV, recovered := false }]) w := by
  refine leaves_cons (f := 107) (args := #[.pointer (some ⟨g, 0, none⟩)]) (by simp) (by simp [go_sem]) ?_
  refine (fn38_panicking g t x [] w hB).mono ?_
  rintro e u' w'' ⟨rfl, rfl, rfl⟩
  have hr := read_results T v syntaxV g ((w.alloc (.cells #[] 172)).setCell ⟨g, 0, none⟩ syntaxV) h2 h3 (((hB.alloc _).setCell 0 syntaxV).cell 0)
  exact ⟨_, hr, h⟩

theorem door_ret (T : Array Value) (v x : Value) (g : Nat) (t : TypeId) (w : World) (R : Ending → World → Prop) (h2 : T[2]? = some v) (h3 : T[3]? = some (.pointer (some ⟨g, 0, none⟩))) (hB : Blk w g t #[x])
    (h : R (.returned (.tuple #[v, x])) (w.alloc (.cells #[] 172))) :
    Leaves Try.prog Try.f100 T R [doorD g] .returning w := by
  refine leaves_cons (f := 107) (args := #[.pointer (some ⟨g, 0, none⟩)]) (by simp) (by simp [go_sem]) ?_
  refine (fn38_idle g w).mono ?_
  rintro e u' w'' ⟨rfl, rfl, rfl⟩
  exact ⟨_, read_results T v x g _ h2 h3 ((hB.alloc _).cell 0), h⟩

/-- What read leaves. -/
def ReadRes (l : List UInt8) (w : World) (e : Ending) (w' : World) : Prop :=
  Below w.heap.size w w' ∧ match decL l with
    | some m => ∃ v, e = .returned (.tuple #[v, .nilIface]) ∧ w'.ownsRow w.heap.size 71 3 v m.length (cellsC m)
    | none => ∃ v, e = .returned (.tuple #[v, syntaxV])
theorem readRes_bad {l : List UInt8} {w w' : World} {v : Value} (h : decL l = none) (hb : Below w.heap.size w w') : ReadRes l w (.returned (.tuple #[v, syntaxV])) w' := by
  refine ⟨hb, ?_⟩
  rw [h]
  exact ⟨v, rfl⟩
theorem readRes_ok {l : List UInt8} {m : List Chg} {w w' : World} {v : Value} (h : decL l = some m) (hb : Below w.heap.size w w') (ho : w'.ownsRow w.heap.size 71 3 v m.length (cellsC m)) : ReadRes l w (.returned (.tuple #[v, .nilIface])) w' := by
  refine ⟨hb, ?_⟩
  rw [h]
  exact ⟨v, rfl, ho⟩

theorem take_one (B g : Nat) (A : Option Addr) (h : UInt8) (t : List UInt8) (c : Nat) (hc : (h :: t).length ≤ c) (hm : (h :: t).length ≤ maxLen) (w : World) (hg : w.cell? ⟨g, 0, none⟩ = some (.slice A (h :: t).length c)) (hz : w.frozen? ⟨g, 0, none⟩ = false) (hr : Rd w B A (bytesV (h :: t))) :
    Calls Try.prog 108 #[.pointer (some ⟨g, 0, none⟩), .int .i64 1] w fun e w' => e = .returned (.string ⟨#[h]⟩) ∧ ∃ A' c', t.length ≤ c' ∧ w' = w.setCell ⟨g, 0, none⟩ (.slice A' t.length c') ∧ Rd w B A' (bytesV t) := by
  have := take_ok B g A (h :: t) c 1 (by simp) hc hm w hg hz hr
  simpa using this
theorem take_none (g : Nat) (A : Option Addr) (c : Nat) (w : World) (hg : w.cell? ⟨g, 0, none⟩ = some (.slice A 0 c)) (hz : w.frozen? ⟨g, 0, none⟩ = false) :
    Calls Try.prog 108 #[.pointer (some ⟨g, 0, none⟩), .int .i64 1] w fun e w' => e = .panicked [{ v := shortV, recovered := false }] ∧ w' = w :=
  take_bad g A [] c 1 (by simp) w (by simpa using hg) hz
/-- A row of the call's own stands where another block's cell is written. -/
theorem own_setCell {w : World} {base size n g : Nat} {e : TypeId} {v u : Value} {xs : List Value} (h : w.ownsRow base e size v n xs) (hg : g < base) : (w.setCell ⟨g, 0, none⟩ u).ownsRow base e size v n xs := by
  refine h.kept (row := some g) ⟨rfl, rfl, rfl, by simp, fun k hk hne => ?_⟩ ?_
  · simp [World.setCell, Array.getElem?_modify]
    intro h; exact absurd (by rw [h]) hne
  · cases hv : v.ownBlock with
    | none => simp
    | some k =>
      have := (h.lt k hv).1
      simp
      omega
end Go.Proofs.Ytfklhjkgogncdaa

/- Contract of code.read: whatever the bytes. Condition: there are no more than a slice may have. -/
namespace Go.Proofs.Ytfklhjkgogncdaa
set_option linter.unusedVariables false
set_option linter.unusedSimpArgs false
open Go.RowKit

theorem calls_name {P : Program} {f : FuncId} {args : Array Value} {w : World} {R : Ending → World → Prop} (h : ∀ W, Hid (W = w) → Calls P f args W R) : Calls P f args w R := h w (Lib.hid rfl)

/-- 'out = append(out, c)': one change more, on a row of the call's own. -/
theorem wpList_append_chg {P : Program} {ops : Array Oper} {rest : List Oper} {o : Oper} {a : Act} {Q : Exit → Act → World → Prop} {w1 : World} {e : TypeId} {p : Chg} (hgd : o.guard = none) (s x : Operand) (t : TypeId)
    (ho : o.op = .call { callee := .builtin .append, args := #[s, x], argTypes := #[t, t] }) (ht : P.underlying t = some (.slice e))
    (hinfo : (P.info? e).map (fun i => (i.zero, i.size, i.bytes)) = some (some (.agg #[.string ⟨#[]⟩, .string ⟨#[]⟩, .bool false]), 3, 40))
    (base : Nat) (v : Value) (l : List Chg) (hs : a.eval s = v) (hown : w1.ownsRow base e 3 v l.length (cellsC l))
    (H : Nat) (hH : w1.heap.size = H) (hx : a.eval x = .slice (some ⟨H, 0, none⟩) 1 1) (hlen : l.length < 1000000000) (hbase : base ≤ w1.heap.size)
    (h : ∀ v' w', w'.ownsRow base e 3 v' (l ++ [p]).length (cellsC (l ++ [p])) → w1.grownBy w' v.ownBlock → Below base w1 w' → wpList P ops Q rest (a.put o.dst v') w') :
    wpList P ops Q (o :: rest) a (w1.alloc (.cells #[strV p.key, strV p.val, .bool p.gone] e)) := by
  subst hH
  obtain ⟨i0, hi0, hz0, hz1, hz2⟩ := info_parts hinfo
  refine wpList_append_own _ hgd s x t ho base e i0 _ 3 40 ht hi0 hz0 hz1 hz2 rfl (by decide) v l.length (cellsC l) hs (World.ownsRow.alloc hown _) ⟨w1.heap.size, 0, none⟩ 1 1 [strV p.key, strV p.val, .bool p.gone] hx rfl ?_ ?_ ?_ ?_ ?_ ?_
  · intro j u hj
    match j, hj with
    | 0, hj => simp at hj; subst hj; simp [Addr.add]
    | 1, hj => simp at hj; subst hj; simp [Addr.add]
    | 2, hj => simp at hj; subst hj; simp [Addr.add]
    | j + 3, hj => simp at hj
  · intro u hu
    simp at hu
    rcases hu with rfl | rfl | rfl <;> rfl
  · unfold maxLen; omega
  · omega
  · simp; omega
  · intro v' w' hown' hgrow _
    refine h v' w' ?_ ?_ ?_
    · rw [cellsC_append, List.length_append]
      exact hown'
    · refine ⟨hgrow.os, hgrow.tape, hgrow.output, by have := hgrow.size; simp at this; omega, fun k hk hne => ?_⟩
      have h1 := hgrow.block k (by simp; omega) hne
      rw [h1]
      exact Below.heap_alloc w1 _ k hk
    · exact ((Below.refl _ _).alloc hbase _).grown hgrow (by simp; omega) (fun k hk => (hown.lt k hk).1)

/-- The state of read: the bytes that are left, the error's box, the changes so far. -/
structure RS (w wr : World) (A : Option Addr) (c : Nat) (r : List UInt8) (v : Value) (outs : List Chg) : Prop where
  hb : Below w.heap.size w wr
  hP : Blk wr w.heap.size 80 #[.slice A r.length c]
  hc : r.length ≤ c
  hm : r.length ≤ maxLen
  hE : Blk wr (w.heap.size + 1) 25 #[.nilIface]
  hr : Rd wr w.heap.size A (bytesV r)
  ho : wr.ownsRow (w.heap.size + 2) 71 3 v outs.length (cellsC outs)
  hs : w.heap.size + 2 ≤ wr.heap.size

section
variable {w wr : World} {A : Option Addr} {c : Nat} {r : List UInt8} {v : Value} {outs : List Chg}
theorem RS.alloc (h : RS w wr A c r v outs) (o : Obj) : RS w (wr.alloc o) A c r v outs :=
  ⟨h.hb.alloc (by have := h.hs; omega) o, h.hP.alloc o, h.hc, h.hm, h.hE.alloc o, h.hr.alloc (by have := h.hs; omega) o, h.ho.alloc o, by have := h.hs; simp; omega⟩
theorem RS.took (h : RS w wr A c r v outs) {A2 : Option Addr} {c2 : Nat} {s : List UInt8} (h1 : s.length ≤ c2) (h2 : s.length ≤ maxLen) (h3 : Rd wr w.heap.size A2 (bytesV s)) :
    RS w (wr.setCell ⟨w.heap.size, 0, none⟩ (.slice A2 s.length c2)) A2 c2 s v outs :=
  ⟨h.hb.setCell (by simp) _, h.hP.setCell 0 _, h1, h2, h.hE.far (by simp) _, h3.keep fun p hp => World.cell?_setCell_far _ _ _ _ (by simp; omega), own_setCell h.ho (by omega), by simpa using h.hs⟩
theorem RS.far (h : RS w wr A c r v outs) {g i : Nat} (hg : w.heap.size + 2 ≤ g) (hv : some g ≠ v.ownBlock) (u : Value) : RS w (wr.setCell ⟨g, i, none⟩ u) A c r v outs := by
  refine ⟨h.hb.setCell (by simp; omega) _, h.hP.far (by simp; omega) _, h.hc, h.hm, h.hE.far (by simp; omega) _, h.hr.keep fun p hp => World.cell?_setCell_far _ _ _ _ (by simp; omega), ?_, by simpa using h.hs⟩
  refine h.ho.kept (row := some g) ⟨rfl, rfl, rfl, by simp, fun k hk hne => ?_⟩ (.inr fun h => hv h.symm)
  simp [World.setCell, Array.getElem?_modify]
  intro h; exact absurd (by rw [h]) hne
theorem RS.byte {x : UInt8} (h : RS w wr A c (x :: r) v outs) :
    Calls Try.prog 108 #[.pointer (some ⟨w.heap.size, 0, none⟩), .int .i64 1] wr fun e w' => e = .returned (.string ⟨#[x]⟩) ∧ ∃ A2 c2, RS w w' A2 c2 r v outs ∧ w' = wr.setCell ⟨w.heap.size, 0, none⟩ (.slice A2 r.length c2) := by
  obtain ⟨p0, pf⟩ := h.hP.one
  refine (take_one w.heap.size w.heap.size A x r c h.hc h.hm wr p0 pf h.hr).mono ?_
  rintro e w2 ⟨rfl, A2, c2, hc2, rfl, hr2⟩
  exact ⟨rfl, A2, c2, h.took hc2 (by have := h.hm; simp at this; omega) hr2, rfl⟩
theorem RS.noByte (h : RS w wr A c [] v outs) :
    Calls Try.prog 108 #[.pointer (some ⟨w.heap.size, 0, none⟩), .int .i64 1] wr fun e w' => e = .panicked [{ v := shortV, recovered := false }] ∧ w' = wr := by
  obtain ⟨p0, pf⟩ := h.hP.one
  exact take_none w.heap.size A c wr (by simpa using p0) pf
theorem RS.many (h : RS w wr A c r v outs) {n : Nat} (hn : n ≤ r.length) :
    Calls Try.prog 108 #[.pointer (some ⟨w.heap.size, 0, none⟩), .int .i64 n] wr fun e w' => e = .returned (strV (r.take n)) ∧ ∃ A2 c2, RS w w' A2 c2 (r.drop n) v outs ∧ w' = wr.setCell ⟨w.heap.size, 0, none⟩ (.slice A2 (r.drop n).length c2) := by
  obtain ⟨p0, pf⟩ := h.hP.one
  refine (take_ok w.heap.size w.heap.size A r c n hn h.hc h.hm wr p0 pf h.hr).mono ?_
  rintro e w2 ⟨rfl, A2, c2, hc2, rfl, hr2⟩
  have hl : (r.drop n).length = r.length - n := by simp
  refine ⟨rfl, A2, c2, ?_, by rw [hl]⟩
  rw [← hl]
  exact h.took (by rw [hl]; exact hc2) (by have := h.hm; rw [hl]; omega) hr2
theorem RS.less (h : RS w wr A c r v outs) {n : Nat} (hn : r.length < n) :
    Calls Try.prog 108 #[.pointer (some ⟨w.heap.size, 0, none⟩), .int .i64 n] wr fun e w' => e = .panicked [{ v := shortV, recovered := false }] ∧ w' = wr := by
  obtain ⟨p0, pf⟩ := h.hP.one
  exact take_bad w.heap.size A r c n hn wr p0 pf
/-- Where the bytes end too early. -/
theorem RS.dies (h : RS w wr A c r v outs) {l : List UInt8} (hd : decL l = none) (T : Array Value) {u : Value} (h2 : T[2]? = some u) (h3 : T[3]? = some (.pointer (some ⟨w.heap.size + 1, 0, none⟩))) :
    Leaves Try.prog Try.f100 T (ReadRes l w) [doorD (w.heap.size + 1)] (.panicking [{ v := shortV, recovered := false }]) wr :=
  door_panic T u _ (w.heap.size + 1) _ wr _ h2 h3 h.hE (readRes_bad hd ((h.hb.alloc (by have := h.hs; omega) _).setCell (by simp) _))
end

theorem RS.below {w wr w4 : World} {A : Option Addr} {c : Nat} {r : List UInt8} {v : Value} {outs : List Chg} (h : RS w wr A c r v outs) (hb : Below wr.heap.size wr w4) : RS w w4 A c r v outs := by
  have hs := h.hs
  have h2 := hb.size
  exact ⟨h.hb.trans (hb.mono (by omega)), h.hP.below hb (by omega), h.hc, h.hm, h.hE.below hb (by omega), h.hr.keep fun p hp => hb.cell (by omega), own_below h.ho hb, by omega⟩
theorem RS.grown {w wr : World} {A : Option Addr} {c : Nat} {r : List UInt8} {v : Value} {outs outs' : List Chg} (h : RS w wr A c r v outs) {w8 : World} {v8 : Value} (hg : wr.grownBy w8 v.ownBlock)
    (ho : w8.ownsRow (w.heap.size + 2) 71 3 v8 outs'.length (cellsC outs')) : RS w w8 A c r v8 outs' := by
  have hs := h.hs
  have hv : ∀ k, v.ownBlock = some k → w.heap.size + 2 ≤ k := fun k hk => (h.ho.lt k hk).1
  have hn : ∀ k, k < w.heap.size + 2 → some k ≠ v.ownBlock := fun k hk e => by have := hv k e.symm; omega
  exact ⟨h.hb.grown hg (by omega) (fun k hk => by have := hv k hk; omega), h.hP.grown hg (hn _ (by omega)), h.hc, h.hm, h.hE.grown hg (hn _ (by omega)), h.hr.keep fun p hp => hg.cell_far p (by omega) (hn _ (by omega)), ho, by have := hg.size; omega⟩
theorem dec_bad {n k : Nat} {t r : List UInt8} {outs : List Chg} (hk : k < n) (h : decN n t = (decN (n - k) r).map fun p => (outs ++ p.1, p.2)) (hd : dec1 r = none) : decN n t = none := by
  obtain ⟨m, hm⟩ : ∃ m, n - k = m + 1 := ⟨n - k - 1, by omega⟩
  rw [h, hm]
  simp [decN, hd]
theorem dec_next {n k : Nat} {t r s : List UInt8} {outs : List Chg} {c : Chg} (hk : k < n) (h : decN n t = (decN (n - k) r).map fun p => (outs ++ p.1, p.2)) (hd : dec1 r = some (c, s)) :
    decN n t = (decN (n - (k + 1)) s).map fun p => ((outs ++ [c]) ++ p.1, p.2) := by
  obtain ⟨m, hm⟩ : ∃ m, n - k = m + 1 := ⟨n - k - 1, by omega⟩
  have e : n - (k + 1) = m := by omega
  rw [h, hm, e]
  simp only [decN, hd]
  cases decN m s <;> simp
theorem dec1_small {b r : List UInt8} {c : Chg} (h : dec1 b = some (c, r)) (hm : b.length ≤ maxLen) : (c.key.length ≤ maxLen ∧ c.val.length ≤ maxLen) ∧ r.length ≤ maxLen := by
  cases b with
  | nil => cases h
  | cons a t =>
    simp only [List.length_cons] at hm
    simp only [dec1] at h
    split at h
    · cases h
    · split at h
      · cases h; simp; omega
      · split at h
        · cases h
        · rename_i v s hd
          have := congrArg List.length hd
          simp at this
          split at h
          · cases h
          · cases h
            simp
            omega
theorem decN_small : ∀ (n : Nat) (b r : List UInt8) (l : List Chg), decN n b = some (l, r) → b.length ≤ maxLen → Small l
  | 0, b, r, l, h, _ => by simp only [decN] at h; cases h; intro c hc; cases hc
  | n + 1, b, r, l, h, hm => by
    simp only [decN] at h
    cases h1 : dec1 b with
    | none => rw [h1] at h; cases h
    | some cr =>
      obtain ⟨c, s⟩ := cr
      rw [h1] at h
      simp only at h
      obtain ⟨g1, g2⟩ := dec1_small h1 hm
      cases h2 : decN n s with
      | none => rw [h2] at h; cases h
      | some lr =>
        obtain ⟨l2, r2⟩ := lr
        rw [h2] at h
        cases h
        have ih := decN_small n s r l2 h2 g2
        intro d hd
        rcases List.mem_cons.1 hd with rfl | hd
        · exact g1
        · exact ih d hd
theorem decL_end {x : UInt8} {t r : List UInt8} {outs : List Chg} (h : decN x.toNat t = (decN 0 r).map fun p => (outs ++ p.1, p.2)) : decN x.toNat t = some (outs, r) := by
  rw [h]
  simp [decN]
theorem decL_eq {x : UInt8} {t r : List UInt8} {outs : List Chg} (h : decN x.toNat t = some (outs, r)) : decL (x :: t) = if r = [] ∧ chgFault outs = 0 then some outs else none := by simp only [decL, h]
theorem decL_bad {x : UInt8} {t : List UInt8} (h : decN x.toNat t = none) : decL (x :: t) = none := by simp [decL, h]
end Go.Proofs.Ytfklhjkgogncdaa

/- Contract of code.read, the walk: whatever the bytes. Condition: there are no more than a slice may have. -/
namespace Go.Proofs.Ytfklhjkgogncdaa
set_option linter.unusedVariables false
set_option linter.unusedSimpArgs false
open Go.RowKit

set_option maxRecDepth 100000 in
set_option maxHeartbeats 8000000 in
theorem read_any (A : Option Addr) (l : List UInt8) (c : Nat) (hm : l.length ≤ maxLen) (hcap : l.length ≤ c) (w : World) (hl : Rd w w.heap.size A (bytesV l)) :
    Calls Try.prog 100 #[.slice A l.length c] w (ReadRes l w) := by
  have hmf : ∀ (fn : Fn) (first cap : Array Value) (w : World), (Instr.makeFunc fn first cap).run Try.prog w = .ok (.func fn first cap) w := fun _ _ _ _ => rfl
  have hix := index_str
  go_enter_defers Try.func100, Try.ntmps100
  go_wp2_with fail
  refine calls_name ?_
  intro w1 hW1
  have S1 : RS w w1 A c l (.slice none 0 0) [] := by
    rw [hW1.out]
    refine ⟨((Below.refl _ _).alloc (Nat.le_refl _) _).alloc (by simp) _, (Blk.new _ _ _).alloc _, hcap, hm, ?_, (hl.alloc (Nat.le_refl _) _).alloc (by simp) _, World.ownsRow_nil _ _ _ _, by simp⟩
    simpa using Blk.new (w.alloc (.cells #[.slice A l.length c] 80)) 25 #[.nilIface]
  clear hW1
  rcases l with _ | ⟨h, t⟩
  · refine S1.noByte.mono ?_
    rintro e w2 ⟨rfl, rfl⟩
    exact S1.dies rfl _ rfl rfl
  · refine S1.byte.mono ?_
    rintro e w2 ⟨rfl, A2, c2, S2, hW2⟩
    clear hW2 S1 hl
    have hh : (h.toNat : Int) ≤ 255 := by have := h.toNat_lt; omega
    go_wp2
    go_loopw [2, 4, 5, 9] (fun v _ _ i wr => ∃ (k : Nat) (outs : List Chg) (A3 : Option Addr) (c3 : Nat) (r : List UInt8), k ≤ h.toNat ∧ i = .int .u8 k ∧ RS w wr A3 c3 r v outs ∧ outs.length = k ∧ decN h.toNat t = (decN (h.toNat - k) r).map fun p => (outs ++ p.1, p.2)) (fun _ _ _ i _ => h.toNat - (intOf i).toNat)
    case atStart => exact ⟨0, [], A2, c2, t, Nat.zero_le _, rfl, S2, rfl, by simp⟩
    case round =>
      obtain ⟨k, outs, A3, c3, r, hk, rfl, S3, hlen, hd⟩ := hrel
      by_cases hlt : k < h.toNat
      · have hltI : (k : Int) < (h.toNat : Int) := by omega
        rcases r with _ | ⟨x, s⟩
        · have hbad := decL_bad (dec_bad hlt hd rfl)
          clear hd
          go_wp2_with fail
          refine S3.noByte.mono ?_
          rintro e w4 ⟨rfl, rfl⟩
          exact S3.dies hbad _ rfl rfl
        · go_wp2_with fail
          refine S3.byte.mono ?_
          rintro e w4 ⟨rfl, A4, c4, S4, hW4⟩
          clear hW4 S3
          have hx : (x.toNat : Int) ≤ 255 := by have := x.toNat_lt; omega
          by_cases hg : 128 ≤ x.toNat
          · have hgI : decide ((128 : Int) ≤ (x.toNat : Int)) = true := by simp; omega
            have hx8 : ((x.toNat % 128 : Nat) : Int) = (x.toNat : Int) % 128 := by omega
            go_wp2_with fail
            refine calls_name ?_
            intro w5 hW5
            have S5 : RS w w5 A4 c4 s u2 outs := by rw [hW5.out]; exact S4.alloc _
            have B5 : Blk w5 w4.heap.size 71 #[.string ⟨#[]⟩, .string ⟨#[]⟩, .bool true] := by rw [hW5.out]; exact Blk.new _ _ _
            have hgc := S4.hs
            have hne : some w4.heap.size ≠ u2.ownBlock := fun e => by have := (S4.ho.lt _ e.symm).2; omega
            clear hW5
            by_cases hn : s.length < x.toNat % 128
            · have hbad := decL_bad (dec_bad hlt hd (by simp [dec1, hn]))
              clear hd
              have hcall := S5.less hn
              rw [hx8] at hcall
              refine hcall.mono ?_
              rintro e w6 ⟨rfl, rfl⟩
              exact S5.dies hbad _ rfl rfl
            · have hcall := S5.many (n := x.toNat % 128) (by omega)
              rw [hx8] at hcall
              refine hcall.mono ?_
              rintro e w6 ⟨rfl, A6, c6, S6, hW6⟩
              have B6 : Blk w6 w4.heap.size 71 #[.string ⟨#[]⟩, .string ⟨#[]⟩, .bool true] := by rw [hW6]; exact B5.far (by simp; omega) _
              clear hW6 hcall S5 B5 hx8
              have S7 := S6.far (i := 0) hgc hne (strV (s.take (x.toNat % 128)))
              have B7 : Blk (w6.setCell ⟨w4.heap.size, 0, none⟩ (strV (s.take (x.toNat % 128)))) w4.heap.size 71 #[strV (s.take (x.toNat % 128)), .string ⟨#[]⟩, .bool true] := B6.setCell 0 (strV (s.take (x.toNat % 128)))
              have y0 : w6.cell? ⟨w4.heap.size, 0, none⟩ = some (.string ⟨#[]⟩) := B6.cell 0
              have y1 : w6.cell? ⟨w4.heap.size, 1, none⟩ = some (.string ⟨#[]⟩) := B6.cell 1
              have y2 : w6.cell? ⟨w4.heap.size, 2, none⟩ = some (.bool true) := B6.cell 2
              have z0 := B6.frozen 0
              go_wp2_with (at_builtin; go_loud (refine wpList_append_chg (p := ⟨s.take (x.toNat % 128), [], true⟩) rfl _ _ 75 rfl Try.underlying75 infoChg (w.heap.size + 2) u2 outs rfl S7.ho w6.heap.size (by simp) rfl (by omega) (by have := S7.hs; simp at this ⊢; omega) ?_); intro v9 w9 hown9 hgrow9 hb9)
              have S9 := S7.grown hgrow9 hown9
              clear hown9 hgrow9 hb9
              go_wp2_with fail
              go_roundw
              case rel => exact ⟨k + 1, outs ++ [⟨s.take (x.toNat % 128), [], true⟩], _, _, _, by omega, by go_num, S9, by simp [hlen], dec_next hlt hd (by simp [dec1, hn, hg])⟩
              case measure => simp [intOf]; omega
          · have hgI : decide ((128 : Int) ≤ (x.toNat : Int)) = false := by simp; omega
            have hx8 : ((x.toNat % 128 : Nat) : Int) = (x.toNat : Int) % 128 := by omega
            go_wp2_with fail
            refine calls_name ?_
            intro w5 hW5
            have S5 : RS w w5 A4 c4 s u2 outs := by rw [hW5.out]; exact S4.alloc _
            have B5 : Blk w5 w4.heap.size 71 #[.string ⟨#[]⟩, .string ⟨#[]⟩, .bool false] := by rw [hW5.out]; exact Blk.new _ _ _
            have hgc := S4.hs
            have hne : some w4.heap.size ≠ u2.ownBlock := fun e => by have := (S4.ho.lt _ e.symm).2; omega
            clear hW5
            by_cases hn : s.length < x.toNat % 128
            · have hbad := decL_bad (dec_bad hlt hd (by simp [dec1, hn]))
              clear hd
              have hcall := S5.less hn
              rw [hx8] at hcall
              refine hcall.mono ?_
              rintro e w6 ⟨rfl, rfl⟩
              exact S5.dies hbad _ rfl rfl
            · have hcall := S5.many (n := x.toNat % 128) (by omega)
              rw [hx8] at hcall
              refine hcall.mono ?_
              rintro e w6 ⟨rfl, A6, c6, S6, hW6⟩
              have B6 : Blk w6 w4.heap.size 71 #[.string ⟨#[]⟩, .string ⟨#[]⟩, .bool false] := by rw [hW6]; exact B5.far (by simp; omega) _
              clear hW6 hcall S5 B5 hx8
              have S7 := S6.far (i := 0) hgc hne (strV (s.take (x.toNat % 128)))
              have B7 : Blk (w6.setCell ⟨w4.heap.size, 0, none⟩ (strV (s.take (x.toNat % 128)))) w4.heap.size 71 #[strV (s.take (x.toNat % 128)), .string ⟨#[]⟩, .bool false] := B6.setCell 0 (strV (s.take (x.toNat % 128)))
              have y0 : w6.cell? ⟨w4.heap.size, 0, none⟩ = some (.string ⟨#[]⟩) := B6.cell 0
              have y1 : w6.cell? ⟨w4.heap.size, 1, none⟩ = some (.string ⟨#[]⟩) := B6.cell 1
              have y2 : w6.cell? ⟨w4.heap.size, 2, none⟩ = some (.bool false) := B6.cell 2
              have z0 := B6.frozen 0
              go_wp2_with fail
              refine calls_name ?_
              intro w7 hW7
              have S7 : RS w w7 A6 c6 (s.drop (x.toNat % 128)) u2 outs := by rw [hW7.out]; exact S7
              have B7 : Blk w7 w4.heap.size 71 #[strV (s.take (x.toNat % 128)), .string ⟨#[]⟩, .bool false] := by rw [hW7.out]; exact B7
              clear hW7 y0 y1 y2 z0 S6 B6
              rcases hdr : s.drop (x.toNat % 128) with _ | ⟨y, q⟩
              · rw [hdr] at S7
                have hbad := decL_bad (dec_bad hlt hd (by simp [dec1, hn, hg, hdr]))
                clear hd
                refine S7.noByte.mono ?_
                rintro e w8 ⟨rfl, rfl⟩
                exact S7.dies hbad _ rfl rfl
              · rw [hdr] at S7
                refine S7.byte.mono ?_
                rintro e w8 ⟨rfl, A8, c8, S8, hW8⟩
                have B8 : Blk w8 w4.heap.size 71 #[strV (s.take (x.toNat % 128)), .string ⟨#[]⟩, .bool false] := by rw [hW8]; exact B7.far (by simp; omega) _
                clear hW8 S7 B7
                have hy : (y.toNat : Int) ≤ 255 := by have := y.toNat_lt; omega
                go_wp2_with fail
                by_cases hq : q.length < y.toNat
                · have hbad := decL_bad (dec_bad hlt hd (by simp [dec1, hn, hg, hdr, hq]))
                  clear hd
                  refine (S8.less hq).mono ?_
                  rintro e wA ⟨rfl, rfl⟩
                  exact S8.dies hbad _ rfl rfl
                · refine (S8.many (n := y.toNat) (by omega)).mono ?_
                  rintro e wA ⟨rfl, AA, cA, SA, hWA⟩
                  have BA : Blk wA w4.heap.size 71 #[strV (s.take (x.toNat % 128)), .string ⟨#[]⟩, .bool false] := by rw [hWA]; exact B8.far (by simp; omega) _
                  clear hWA S8 B8
                  have SB := SA.far (i := 1) hgc hne (strV (q.take y.toNat))
                  have y0 : wA.cell? ⟨w4.heap.size, 0, none⟩ = some (strV (s.take (x.toNat % 128))) := BA.cell 0
                  have y1 : wA.cell? ⟨w4.heap.size, 1, none⟩ = some (.string ⟨#[]⟩) := BA.cell 1
                  have y2 : wA.cell? ⟨w4.heap.size, 2, none⟩ = some (.bool false) := BA.cell 2
                  have z1 := BA.frozen 1
                  go_wp2_with (at_builtin; go_loud (refine wpList_append_chg (p := ⟨s.take (x.toNat % 128), q.take y.toNat, false⟩) rfl _ _ 75 rfl Try.underlying75 infoChg (w.heap.size + 2) u2 outs rfl SB.ho wA.heap.size (by simp) rfl (by omega) (by have := SB.hs; simp at this ⊢; omega) ?_); intro v9 w9 hown9 hgrow9 hb9)
                  have S9 := SB.grown hgrow9 hown9
                  clear hown9 hgrow9 hb9
                  go_wp2_with fail
                  go_roundw
                  case rel => exact ⟨k + 1, outs ++ [⟨s.take (x.toNat % 128), q.take y.toNat, false⟩], _, _, _, by omega, by go_num, S9, by simp [hlen], dec_next hlt hd (by simp [dec1, hn, hg, hdr, hq])⟩
                  case measure => simp [intOf]; omega
      · obtain rfl : k = h.toNat := by omega
        rw [Nat.sub_self] at hd
        have he := decL_eq (decL_end hd)
        have HLEN := Lib.hid hlen
        clear hlen
        have hsm := decN_small _ _ _ _ (decL_end hd) (by simp at hm; omega)
        clear hd
        have hs3 := S3.hs
        obtain ⟨p0, pf⟩ := S3.hP.one
        obtain ⟨e0, ef⟩ := S3.hE.one
        rcases r with _ | ⟨x, s⟩
        · obtain ⟨Ao, co, rfl, hro⟩ := own_form S3.ho
          by_cases hf : chgFault outs = 0
          · have HE := Lib.hid (show errV (chgFault outs) = .nilIface by unfold errV; rw [if_pos hf])
            rw [if_pos ⟨rfl, hf⟩] at he
            go_wp2_with fail
            refine (check_any Ao outs co (by have := h.toNat_lt; have := HLEN.out; unfold maxLen; omega) hsm _ hro).mono ?_
            rintro e w4 ⟨rfl, hb4⟩
            rw [HE.out]
            have S4 := S3.below hb4
            have hs4 := S4.hs
            clear S3 hb4 p0 pf e0 ef hro
            obtain ⟨e0, ef⟩ := S4.hE.one
            go_wp2_with fail
            refine door_ret _ _ .nilIface (w.heap.size + 1) _ _ _ rfl rfl (S4.hE.setCell 0 _) (readRes_ok he ((S4.hb.setCell (by simp) _).alloc (by simp; omega) _) (own_of_base ((own_setCell S4.ho (by omega)).alloc _) (by omega)))
          · have HE := Lib.hid (show errV (chgFault outs) = .iface 61 (.int .i64 (chgFault outs)) by unfold errV; rw [if_neg hf])
            rw [if_neg (fun h => hf h.2)] at he
            go_wp2_with fail
            refine (check_any Ao outs co (by have := h.toNat_lt; have := HLEN.out; unfold maxLen; omega) hsm _ hro).mono ?_
            rintro e w4 ⟨rfl, hb4⟩
            rw [HE.out]
            have S4 := S3.below hb4
            have hs4 := S4.hs
            clear S3 hb4 p0 pf e0 ef hro
            obtain ⟨e0, ef⟩ := S4.hE.one
            go_wp2_with fail
            refine door_ret _ _ syntaxV (w.heap.size + 1) _ _ _ rfl rfl (S4.hE.setCell 0 _) (readRes_bad he ((S4.hb.setCell (by simp) _).alloc (by simp; omega) _))
        · rw [if_neg (by simp)] at he
          have hlenI : (0 : Int) < (s.length : Int) + 1 := by omega
          go_wp2_with fail
          refine door_ret _ _ syntaxV (w.heap.size + 1) _ _ _ rfl rfl (S3.hE.setCell 0 _) (readRes_bad he ((S3.hb.setCell (by simp) _).alloc (by simp; omega) _))
end Go.Proofs.Ytfklhjkgogncdaa

/- Contract of code.Decode: whatever the bytes. Condition: there are no more than a slice may have. -/
namespace Go.Proofs.Ytfklhjkgogncdaa
set_option linter.unusedVariables false
set_option linter.unusedSimpArgs false
open Go.RowKit

/-- What an owned value looks like. -/
theorem own_form2 {w : World} {base size n : Nat} {e : TypeId} {v : Value} {xs : List Value} (h : w.ownsRow base e size v n xs) : ∃ A c, v = .slice A n c ∧ n ≤ c ∧ Rd w w.heap.size A xs := by
  rcases h.2 with ⟨h1, h2⟩ | ⟨g, cap, cur, hv, _, _, hc, _⟩
  · obtain ⟨A, c, h3, h4⟩ := own_form h
    exact ⟨A, c, h3, by omega, h4⟩
  · obtain ⟨A, c, h3, h4⟩ := own_form h
    refine ⟨A, c, h3, ?_, h4⟩
    rw [hv] at h3
    injection h3 with _ _ h3
    omega
/-- Changes that were just laid. -/
theorem rd_newC (w : World) (l : List Chg) (cs : Array Value) (t : TypeId) (g : Nat) (hg : g = w.heap.size) (hcs : cs.toList = cellsC l) : Rd (w.alloc (.cells cs t)) (w.alloc (.cells cs t)).heap.size (some ⟨g, 0, none⟩) (cellsC l) := fun _ => by
  subst hg
  refine ⟨w.heap.size, 0, rfl, by simp, fun j u hj => ?_⟩
  rw [← hcs] at hj
  have := (Blk.new w t cs).cell j
  rw [Nat.zero_add, this]
  simpa using hj

theorem decode_ok (A : Option Addr) (l : List UInt8) (n c : Nat) (hn : n = l.length) (hm : l.length ≤ maxLen) (hcap : l.length ≤ c) {m : List Chg} (hd : decL l = some m) (w : World) (hl : Rd w w.heap.size A (bytesV l)) :
    Calls Try.prog 81 #[.slice A n c] w fun e w' => ∃ v, e = .returned (.tuple #[v, .nilIface]) ∧ w'.ownsRow w.heap.size 71 3 v m.length (cellsC m) ∧ Below w.heap.size w w' := by
  subst hn
  go_enter Try.func81, Try.ntmps81
  go_wp2_with fail
  refine (read_any A l c hm hcap _ hl).mono ?_
  rintro e w1 ⟨hb, hres⟩
  rw [hd] at hres
  obtain ⟨v, rfl, ho⟩ := hres
  go_wp2
  go_ret2
  exact ⟨v, rfl, ho, hb⟩
theorem decode_bad (A : Option Addr) (l : List UInt8) (n c : Nat) (hn : n = l.length) (hm : l.length ≤ maxLen) (hcap : l.length ≤ c) (hd : decL l = none) (w : World) (hl : Rd w w.heap.size A (bytesV l)) :
    Calls Try.prog 81 #[.slice A n c] w fun e w' => e = .returned (.tuple #[.slice none 0 0, syntaxV]) ∧ Below w.heap.size w w' := by
  subst hn
  go_enter Try.func81, Try.ntmps81
  go_wp2_with fail
  refine (read_any A l c hm hcap _ hl).mono ?_
  rintro e w1 ⟨hb, hres⟩
  rw [hd] at hres
  obtain ⟨v, rfl⟩ := hres
  go_wp2
  go_ret2
  exact ⟨rfl, hb⟩
end Go.Proofs.Ytfklhjkgogncdaa
