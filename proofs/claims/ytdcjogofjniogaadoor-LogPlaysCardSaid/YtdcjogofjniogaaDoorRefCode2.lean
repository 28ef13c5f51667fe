/- The reference BytesOf: the bytes of changes that may be. Condition: their texts are no longer than a slice may be. -/
import Derived.Test.YtdcjogofjniogaaDoorRefCode
import Derived.Test.YtdcjogofjniogaaDoorCode3
import Derived.Test.YtdcjogofjniogaaDoorCode7
namespace Go.Proofs.YtdcjogofjniogaaDoor
set_option linter.unusedVariables false
set_option linter.unusedSimpArgs false
open Go.RowKit

/-- 'out = append(out, s...)', s a string, on a row of the call's own. -/
theorem wpList_append_str {P : Program} {w : World} {ops : Array Oper} {rest : List Oper} {o : Oper} {a : Act} {Q : Exit → Act → World → Prop} (hgd : o.guard = none) (s x : Operand) (t u : TypeId)
    (ho : o.op = .call { callee := .builtin .append, args := #[s, x], argTypes := #[t, u] }) (e : TypeId) (ht : P.underlying t = some (.slice e)) (hu : P.underlying u = some .string)
    (hinfo : (P.info? e).map (fun i => (i.zero, i.size, i.bytes)) = some (some (.int .u8 0), 1, 1))
    (base : Nat) (v : Value) (n : Nat) (xs : List Value) (hs : a.eval s = v) (hown : w.ownsRow base e 1 v n xs) (l : List UInt8) (hx : a.eval x = strV l) (hlen : n + l.length < 10000000000) (hbase : base ≤ w.heap.size)
    (h : ∀ v' w', w'.ownsRow base e 1 v' (n + l.length) (xs ++ bytesV l) → Below base w w' → wpList P ops Q rest (a.put o.dst v') w') : wpList P ops Q (o :: rest) a w := by
  obtain ⟨i0, hi0, hz0, hz1, hz2⟩ := info_parts hinfo
  refine Lib.wpList_append_own_string w hgd s x t u ho base e i0 ht hu hi0 hz0 hz1 hz2 v n xs hs hown ⟨l.toArray⟩ hx (by rw [size_mk]; unfold maxLen; omega) (by rw [size_mk]; omega) hbase ?_
  intro v' w' h1 h2 _
  rw [size_mk, strCells_mk] at h1
  exact h v' w' h1 ((Below.refl _ _).grown h2 hbase (fun k hk => (hown.lt k hk).1))

set_option maxRecDepth 100000 in
set_option maxHeartbeats 4000000 in
theorem bytesOf_ok (A : Option Addr) (l : List Chg) (c : Nat) (hf : chgFault l = 0) (w : World) (hl : Rd w w.heap.size A (cellsC l)) :
    Calls Tryd.prog 42 #[.slice A l.length c] w fun e w' => ∃ v, e = .returned v ∧ w'.ownsRow w.heap.size 5 1 v (encL l).length (bytesV (encL l)) ∧ Below w.heap.size w w' := by
  obtain ⟨h20, hrise⟩ := chgFault_zero.1 hf
  have HR := Lib.hid hrise
  clear hrise hf
  go_enter Tryd.func42, Tryd.ntmps42
  go_wp2_with (at_builtin; refine wpList_append_one rfl _ _ 32 rfl Tryd.underlying32 _ 1 infoU8 rfl (by decide) w.heap.size _ 0 [] rfl (World.ownsRow_nil _ _ _ _) rfl rfl (by omega) (Nat.le_refl _) ?_; intro v1 w1 hown1 hb1)
  have hs1 := hb1.size
  go_loopw [3, 4, 5] (fun v i _ wr => ∃ k : Nat, k ≤ l.length ∧ i = .int .i64 k ∧ Below w.heap.size w wr ∧ wr.ownsRow w.heap.size 5 1 v (1 + (encs (l.take k)).length) (bytesV (UInt8.ofNat l.length :: encs (l.take k)))) (fun _ i _ _ => l.length - (intOf i).toNat)
  case atStart =>
    refine ⟨0, Nat.zero_le _, rfl, hb1, ?_⟩
    simpa [bytesV, encs, Nat.mod_eq_of_lt (show l.length < 256 by omega)] using hown1
  case round =>
    obtain ⟨k, hk, rfl, hb, hown⟩ := hrel
    by_cases hlt : k < l.length
    · obtain ⟨b, off, rfl, hbb, c0, c1, c2⟩ := (hl.below hb).chg hlt
      have hs := hb.size
      obtain ⟨hkey, hval⟩ := one_facts (all_one _ _ HR.out l[k] (List.getElem_mem _))
      have hlenk : (encs (l.take k)).length ≤ 38 * 20 := by
        have := encs_length (l.take k) none (rise_take HR.out k)
        have h2 : (l.take k).length ≤ 20 := by simp; omega
        omega
      have hk0i : (0 : Int) ≤ (k : Int) := by omega
      have hk1i : (k : Int) < (l.length : Int) := by omega
      rcases hgo : l[k].gone with _ | _
      · rw [hgo] at c2
        go_wp2_with (at_builtin; first | (refine wpList_append_one rfl _ _ 32 rfl Tryd.underlying32 _ 1 infoU8 rfl (by decide) w.heap.size u3 _ _ rfl hown rfl rfl (by omega) hs ?_; intro v2 w2 hown2 hb2; have hs2 := hb2.size; have x0 := (hb2.cell (p := ⟨b, off + k * 3, none⟩) hbb).trans c0; have x1 := (hb2.cell (p := ⟨b, off + k * 3 + 1, none⟩) hbb).trans c1; have x2 := (hb2.cell (p := ⟨b, off + k * 3 + 2, none⟩) hbb).trans c2) | (refine wpList_append_str rfl _ _ 32 9 rfl 5 Tryd.underlying32 Tryd.underlying9 infoU8 w.heap.size v2 _ _ rfl hown2 l[k].key rfl (by omega) (by omega) ?_; intro v3 w3 hown3 hb3; have hs3 := hb3.size; have y0 := (hb3.cell (p := ⟨b, off + k * 3, none⟩) hbb).trans x0; have y1 := (hb3.cell (p := ⟨b, off + k * 3 + 1, none⟩) hbb).trans x1; have y2 := (hb3.cell (p := ⟨b, off + k * 3 + 2, none⟩) hbb).trans x2; clear hown hown2 c0 c1 c2 x0 x1 x2) | (refine wpList_append_one rfl _ _ 32 rfl Tryd.underlying32 _ 1 infoU8 rfl (by decide) w.heap.size v3 _ _ rfl hown3 rfl rfl (by omega) (by omega) ?_; intro v4 w4 hown4 hb4; have hs4 := hb4.size; have z1 := (hb4.cell (p := ⟨b, off + k * 3 + 1, none⟩) hbb).trans y1) | (refine wpList_append_str rfl _ _ 32 9 rfl 5 Tryd.underlying32 Tryd.underlying9 infoU8 w.heap.size v4 _ _ rfl hown4 l[k].val rfl (by omega) (by omega) ?_; intro v5 w5 hown5 hb5; clear hown3 hown4 y0 y1 y2))
        obtain ⟨e1, e2⟩ := enc_kept (UInt8.ofNat l.length) hlt hgo (by omega) (by omega)
        go_roundw
        case rel => exact ⟨k + 1, by omega, by go_num, hb.trans (hb2.trans (hb3.trans (hb4.trans hb5))), by rw [e1, e2]; exact hown5⟩
        case measure => simp [intOf]; omega
      · rw [hgo] at c2
        go_wp2_with (at_builtin; first | (refine wpList_append_one rfl _ _ 32 rfl Tryd.underlying32 _ 1 infoU8 rfl (by decide) w.heap.size u3 _ _ rfl hown rfl rfl (by omega) hs ?_; intro v2 w2 hown2 hb2; have hs2 := hb2.size; have x0 := (hb2.cell (p := ⟨b, off + k * 3, none⟩) hbb).trans c0; have x1 := (hb2.cell (p := ⟨b, off + k * 3 + 1, none⟩) hbb).trans c1; have x2 := (hb2.cell (p := ⟨b, off + k * 3 + 2, none⟩) hbb).trans c2) | (refine wpList_append_str rfl _ _ 32 9 rfl 5 Tryd.underlying32 Tryd.underlying9 infoU8 w.heap.size v2 _ _ rfl hown2 l[k].key rfl (by omega) (by omega) ?_; intro v3 w3 hown3 hb3; have hs3 := hb3.size; have y0 := (hb3.cell (p := ⟨b, off + k * 3, none⟩) hbb).trans x0; have y1 := (hb3.cell (p := ⟨b, off + k * 3 + 1, none⟩) hbb).trans x1; have y2 := (hb3.cell (p := ⟨b, off + k * 3 + 2, none⟩) hbb).trans x2; clear hown hown2 c0 c1 c2 x0 x1 x2))
        obtain ⟨e1, e2⟩ := enc_gone (UInt8.ofNat l.length) hlt hgo (by omega)
        go_roundw
        case rel => exact ⟨k + 1, by omega, by go_num, hb.trans (hb2.trans hb3), by rw [e1, e2]; exact hown3⟩
        case measure => simp [intOf]; omega
    · obtain rfl : k = l.length := by omega
      have HO := Lib.hid hown
      clear hown
      go_wp2
      go_ret
      have hown := HO.out
      rw [List.take_length] at hown
      refine ⟨_, rfl, ?_, hb⟩
      simp only [encL, List.length_cons]
      rw [Nat.add_comm]
      exact hown
end Go.Proofs.YtdcjogofjniogaaDoor
