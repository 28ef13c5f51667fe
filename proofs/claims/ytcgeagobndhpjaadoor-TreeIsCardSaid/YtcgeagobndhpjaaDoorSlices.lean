/- slices.Clone, Insert, Delete at prefixes; slices.MaxFunc where the lengths ascend. -/
import Derived.Test.YtcgeagobndhpjaaDoorTree
import Derived.Test.YtcgeagobndhpjaaDoorRow2
import Derived.Lib.AppendZerosOnto
import Derived.Lib.Overlaps
import Derived.Laws.Externs
import Derived.Laws.NewBlocks
namespace Go.Proofs.YtcgeagobndhpjaaDoor
set_option linter.unusedVariables false
set_option linter.unusedSimpArgs false
open Go.RowKit

set_option maxRecDepth 100000 in
theorem clonePf_any (A : Option Addr) (l : List Pf) (c : Nat) (hlen : l.length ≤ 1000000) (w : World) (hl : Rd w w.heap.size A (cellsP l)) :
    Calls Tryd.prog 88 #[.slice A l.length c] w (OwnRes 23 w l) := by
  rcases A with _ | ad
  · have h0 : l = [] := by
      rcases l with _ | ⟨s, r⟩
      · rfl
      · obtain ⟨b, off, e, _⟩ := hl (by simp [cellsP])
        cases e
    subst h0
    have q22 : ∀ (w : World) (a : Option Addr) (n c n' c' : Nat), (binOp .eql 51 (.slice a n c) (.slice none n' c')).run Tryd.prog w = .ok (.bool a.isNone) w := fun w a n c n' c' => Lib.run_eql_slice_nil w _ _ a n c n' c' Tryd.underlying51
    go_enter Tryd.func88, Tryd.ntmps88
    go_wp2
    go_ret
    exact ⟨_, rfl, OwnP.nil _ _ _, Below.refl _ _⟩
  · have hl2 := hl.alloc (Nat.le_refl _) (.cells #[] 23)
    have hm := World.ownsRow_made (base := w.heap.size) (e := 23) (size := 2) w #[] 0 (Nat.le_refl _) (by decide) rfl
    have hb0 := (Below.refl w.heap.size w).alloc (Nat.le_refl _) (.cells #[] 23)
    have q22 : ∀ (w : World) (a : Option Addr) (n c n' c' : Nat), (binOp .eql 51 (.slice a n c) (.slice none n' c')).run Tryd.prog w = .ok (.bool a.isNone) w := fun w a n c n' c' => Lib.run_eql_slice_nil w _ _ a n c n' c' Tryd.underlying51
    go_enter Tryd.func88, Tryd.ntmps88
    go_wp2_with (at_builtin; refine wpList_append_rd rfl (.tmp 5) (.tmp 6) 51 rfl 23 Tryd.underlying51 _ 2 16 infoPfx rfl (by decide) w.heap.size _ 0 [] rfl hm w.heap.size (some ad) l.length c _ rfl (by rw [cellsP_length]) hl2 (cellsP_one l) (by unfold maxLen; omega) (by omega) (by simp) ?_; intro v5 w5 hown5 hb5)
    go_ret
    rw [Nat.zero_add, List.nil_append] at hown5
    exact ⟨_, rfl, hown5, hb0.trans hb5⟩

theorem rd_one {w : World} {g : Nat} {p : Pf} {t : TypeId} (h : Blk w g t #[.int .i64 p.1, .int .i64 p.2]) : Rd w w.heap.size (some ⟨g, 0, none⟩) (cellsP [p]) := fun _ =>
  ⟨g, 0, rfl, h.lt, fun j u hj => by
    match j, hj with
    | 0, hj => simp [cellsP] at hj; subst hj; exact h.two.1
    | 1, hj => simp [cellsP] at hj; subst hj; exact h.two.2.1
    | j + 2, hj => simp [cellsP] at hj⟩

set_option maxRecDepth 100000 in
set_option maxHeartbeats 4000000 in
theorem insert_end (v : Value) (l : List Pf) (base g : Nat) (p : Pf) (hlen : l.length ≤ 1000000) (w : World) (hbase : base ≤ w.heap.size) (hown : OwnP w base 23 v l) (hB : Blk w g 23 #[.int .i64 p.1, .int .i64 p.2]) :
    Calls Tryd.prog 87 #[v, .int .i64 l.length, .slice (some ⟨g, 0, none⟩) 1 1] w fun e w' => ∃ v', e = .returned v' ∧ OwnP w' base 23 v' (l ++ [p]) ∧ Below base w w' := by
  have hrp := rd_one hB
  rcases hown.2 with ⟨rfl, h0⟩ | ⟨b, c, cur, rfl, hb, hg, hnc, hcm, _⟩
  · have h0 : l = [] := List.eq_nil_of_length_eq_zero h0
    subst h0
    go_enter Tryd.func87, Tryd.ntmps87
    go_wp2_with (at_builtin; refine wpList_append_rd rfl (.tmp 23) (.tmp 24) 51 rfl 23 Tryd.underlying51 _ 2 16 infoPfx rfl (by decide) base _ 0 [] rfl hown w.heap.size (some ⟨g, 0, none⟩) 1 1 (cellsP [p]) rfl rfl hrp (cellsP_one _) (by unfold maxLen; omega) (by omega) hbase ?_; intro v5 w5 hown5 hb5)
    go_ret
    exact ⟨v5, rfl, hown5, hb5⟩
  · have hC : c ≤ 9223372036854775807 := by unfold maxLen at hcm; omega
    obtain ⟨n, hn⟩ : ∃ n, n = l.length := ⟨_, rfl⟩
    have hown' : w.ownsRow base 23 2 (.slice (some ⟨b, 0, none⟩) n c) n (cellsP l) := by rw [hn]; exact hown
    rw [← hn] at hnc hlen ⊢
    clear hown
    go_enter Tryd.func87, Tryd.ntmps87
    go_wp2_with (at_builtin; refine wpList_append_rd rfl (.tmp 23) (.tmp 24) 51 rfl 23 Tryd.underlying51 _ 2 16 infoPfx rfl (by decide) base _ n (cellsP l) rfl hown' w.heap.size (some ⟨g, 0, none⟩) 1 1 (cellsP [p]) rfl rfl hrp (cellsP_one _) (by unfold maxLen; omega) (by omega) hbase ?_; intro v5 w5 hown5 hb5)
    all_goals (
      go_ret
      refine ⟨v5, rfl, ?_, hb5⟩
      unfold OwnP
      rw [cellsP_append, List.length_append, ← hn]
      exact hown5)

theorem shape_blk {w : World} {g : Nat} {t : TypeId} {cs : Array Value} {fz : Nat × Nat} (h : w.heap[g]? = some (.cells cs t fz)) : w.shape? g = some (t, cs.size) := by
  simp [World.shape?, h]

set_option maxRecDepth 100000 in
set_option maxHeartbeats 4000000 in
theorem insert_room (b n c i g : Nat) (l : List Pf) (p : Pf) (base : Nat) (cur : Array Value) (w : World) (hbase : base ≤ b) (hrow : w.heap[b]? = some (.cells cur 23 (0, 0))) (hn : l.length = n) (hcm : c ≤ maxLen) (hsz : cur.size = c * 2)
    (htake : cur.toList.take (n * 2) = cellsP l) (hi : i < n) (hroom : n + 1 ≤ c) (hlen : n ≤ 1000000) (hB : Blk w g 23 #[.int .i64 p.1, .int .i64 p.2]) (hgb : g ≠ b) :
    Calls Tryd.prog 87 #[.slice (some ⟨b, 0, none⟩) n c, .int .i64 i, .slice (some ⟨g, 0, none⟩) 1 1] w fun e w' => ∃ v', e = .returned v' ∧ OwnP w' base 23 v' (l.take i ++ p :: l.drop i) ∧ Below base w w' := by
  have hcs : (cellsP l).length = n * 2 := by rw [cellsP_length, hn]
  have hcL : (cellsP l).drop (i * 2) = cellsP (l.drop i) := cellsP_drop l i
  have hcT : (cellsP l).take (i * 2) = cellsP (l.take i) := cellsP_take l i
  have h1c : ∀ u ∈ cellsP l, u.oneCell' = true := cellsP_one l
  obtain ⟨cs, hcsd⟩ : ∃ cs, cs = cellsP l := ⟨_, rfl⟩
  rw [← hcsd] at htake hcs hcL hcT h1c
  have hC : c ≤ 9223372036854775807 := by unfold maxLen at hcm; omega
  have hov : ∀ lb cb, (callFunc 116 #[.slice (some ⟨g, 0, none⟩) 1 1, .slice (some ⟨b, (i + 1) * 2, none⟩) lb cb]).run Tryd.prog w = .ok (.value (.bool false)) w := fun lb cb => by
    rw [run_callFunc_extern Tryd.func116 (by kernel_rfl) (by kernel_rfl) (by kernel_rfl) (e := Extern.SlicesOverlaps.overlaps #[51, 51] #[4]) (by kernel_rfl),
      Lib.run_overlaps_apart w 51 4 23 Tryd.underlying51 2 Tryd.sizeOf23 ⟨g, 0, none⟩ ⟨b, (i + 1) * 2, none⟩ 1 1 lb cb hgb 23 23 2 cur.size (shape_blk hB) (shape_blk hrow) (by omega) (hB.frozen 0) (hB.frozen 2)]
    rfl
  have hinfo : (Tryd.prog.info? 23).map (·.size) = some 2 := by kernel_rfl
  have hrowD : w.drew.heap[b]? = some (.cells cur 23 (0, 0)) := hrow
  have hdl : (cs.drop (i * 2)).length = (n - i) * 2 := by rw [List.length_drop, hcs]; omega
  have hcell : ∀ j u, cs[j]? = some u → w.cell? ⟨b, j, none⟩ = some u := fun j u hj => by
    rw [cell_of_row w b j cur _ (0, 0) hrow, ← Array.getElem?_toList]
    rw [← htake, List.getElem?_take] at hj
    split at hj
    · exact hj
    · cases hj
  obtain ⟨W1, hW1⟩ : ∃ W1, W1 = w.drew.setRow b (spl cur ((i + 1) * 2) (cs.drop (i * 2))) := ⟨_, rfl⟩
  have hcp1 : ∀ ty dc sc, (Builtin.copy_ #[51, 51] ty #[.slice (some ⟨b, (i + 1) * 2, none⟩) (n - i) dc, .slice (some ⟨b, i * 2, none⟩) (n + 1 - i) sc]).run Tryd.prog w.drew = .ok (goInt (Nat.min (n + 1 - i) (n - i))) W1 := fun ty dc sc => by
    rw [hW1]
    exact run_copy2 w.drew _ _ ty 23 b ((i + 1) * 2) _ dc ⟨b, i * 2, none⟩ _ sc cur 23 (cs.drop (i * 2)) Tryd.underlying51 hinfo hrowD (by rw [hdl]; simp only [Nat.min_def]; split <;> omega)
      (fun j v hj => by rw [Addr.add_lit]; exact hcell _ _ (by rwa [List.getElem?_drop] at hj)) (by rw [hdl, hsz]; omega) (fun u hu => h1c u (List.mem_of_mem_drop hu))
  have hrow1 : W1.heap[b]? = some (.cells (spl cur ((i + 1) * 2) (cs.drop (i * 2))) 23 (0, 0)) := by rw [hW1]; exact setRow_heap _ b _ _ _ _ hrowD
  have hs1 : (spl cur ((i + 1) * 2) (cs.drop (i * 2))).size = c * 2 := by rw [spl_size (by rw [hdl, hsz]; omega), hsz]
  have hB1 : Blk W1 g 23 #[.int .i64 p.1, .int .i64 p.2] := by rw [hW1]; exact (setRow_other _ b g _ hgb).trans hB
  obtain ⟨W2, hW2⟩ : ∃ W2, W2 = W1.setRow b (spl (spl cur ((i + 1) * 2) (cs.drop (i * 2))) (i * 2) [.int .i64 p.1, .int .i64 p.2]) := ⟨_, rfl⟩
  have hcp2 : ∀ ty dc, (Builtin.copy_ #[51, 51] ty #[.slice (some ⟨b, i * 2, none⟩) (n + 1 - i) dc, .slice (some ⟨g, 0, none⟩) 1 1]).run Tryd.prog W1 = .ok (goInt (Nat.min 1 (n + 1 - i))) W2 := fun ty dc => by
    rw [hW2]
    exact run_copy2 W1 _ _ ty 23 b (i * 2) _ dc ⟨g, 0, none⟩ 1 1 _ 23 [.int .i64 p.1, .int .i64 p.2] Tryd.underlying51 hinfo hrow1 (by simp only [Nat.min_def]; split <;> simp <;> omega)
      (fun j v hj => by rw [Addr.add_lit, Nat.zero_add, hB1.cell]; rw [← hj]; simp) (by rw [hs1]; simp; omega) (by intro u hu; simp at hu; rcases hu with rfl | rfl <;> rfl)
  have hfin : OwnP W2 base 23 (.slice (some ⟨b, 0, none⟩) (n + 1) c) (l.take i ++ p :: l.drop i) := by
    refine own_row hbase (by rw [hW2]; exact setRow_heap _ b _ _ _ _ hrow1) (by simp; omega) hroom hcm (by rw [spl_size (by rw [hs1]; simp; omega), hs1]) ?_
    have := ins_room (u := .int .i64 p.1) (v := .int .i64 p.2) htake hcs (i := i * 2) (by omega) (by rw [hsz]; omega)
    rw [show (i + 1) * 2 = i * 2 + 2 by omega, show (n + 1) * 2 = n * 2 + 2 by omega, this, hcT, hcL, cellsP_append]
    simp [cellsP]
  have hbel : Below base w W2 := by
    rw [hW2, hW1]
    exact below_setRow (below_setRow ((Below.refl _ _).drew) hbase _) hbase _
  have HF := Lib.hid hfin
  have HBl := Lib.hid hbel
  have hw1 : IntKind.i64.wrap ((i : Int) + 1) = (i : Int) + 1 := by rw [IntKind.wrap_i64]; omega
  have hw2 : IntKind.i64.wrap ((n : Int) + 1) = (n : Int) + 1 := by rw [IntKind.wrap_i64]; omega
  have ht1 : ((i : Int) + 1).toNat = i + 1 := by omega
  have ht2 : ((n : Int) + 1).toNat = n + 1 := by omega
  have hz2 : ¬ ((i : Int) = (n : Int)) := by omega
  have hb1 : (0 : Int) ≤ (i : Int) + 1 := by omega
  have hin : i ≤ n := by omega
  have hb3 : (i : Int) ≤ (n : Int) + 1 := by omega
  have hb2 : ¬ (c = i + 1) := by omega
  have hb4 : ¬ (c = i) := by omega
  clear hrow hrowD hrow1 hs1 hB1 htake hcs hcL hcT h1c hcell hdl hfin hbel hW1 hW2
  go_enter Tryd.func87, Tryd.ntmps87
  go_wp2_with (simp only [hov])
  go_region_law (refine step_copy_run rfl _ _ 51 51 rfl _ _ (by simp [Act.eval, Act.put]) (by simp [Act.eval, Act.put]) (hcp1 _ _ _) ?_)
  go_wp2_with (at_builtin; refine wpList_copy_run _ rfl _ _ 51 51 rfl _ _ rfl rfl (hcp2 _ _) ?_)
  go_ret
  exact ⟨_, rfl, HF.out, HBl.out⟩
end Go.Proofs.YtcgeagobndhpjaaDoor
