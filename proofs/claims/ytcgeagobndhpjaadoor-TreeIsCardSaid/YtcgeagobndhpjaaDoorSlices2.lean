/- slices.Insert where there is no room, and whatever there is; slices.Delete of one. At prefixes. -/
import Derived.Test.YtcgeagobndhpjaaDoorSlices
namespace Go.Proofs.YtcgeagobndhpjaaDoor
set_option linter.unusedVariables false
set_option linter.unusedSimpArgs false
open Go.RowKit

set_option maxRecDepth 100000 in
set_option maxHeartbeats 4000000 in
theorem insert_grow (b n c i g : Nat) (l : List Pf) (p : Pf) (base : Nat) (cur : Array Value) (w : World) (hbase : base ≤ w.heap.size) (hrow : w.heap[b]? = some (.cells cur 23 (0, 0))) (hn : l.length = n) (hnc : n ≤ c)
    (htake : cur.toList.take (n * 2) = cellsP l) (hi : i < n) (hroom : c < n + 1) (hlen : n ≤ 1000000) (hB : Blk w g 23 #[.int .i64 p.1, .int .i64 p.2]) :
    Calls Tryd.prog 87 #[.slice (some ⟨b, 0, none⟩) n c, .int .i64 i, .slice (some ⟨g, 0, none⟩) 1 1] w fun e w' => ∃ v', e = .returned v' ∧ OwnP w' base 23 v' (l.take i ++ p :: l.drop i) ∧ Below base w w' := by
  have hcs : (cellsP l).length = n * 2 := by rw [cellsP_length, hn]
  have hcL : (cellsP l).drop (i * 2) = cellsP (l.drop i) := cellsP_drop l i
  have hcT : (cellsP l).take (i * 2) = cellsP (l.take i) := cellsP_take l i
  have h1c : ∀ u ∈ cellsP l, u.oneCell' = true := cellsP_one l
  obtain ⟨cs, hcsd⟩ : ∃ cs, cs = cellsP l := ⟨_, rfl⟩
  rw [← hcsd] at htake hcs hcL hcT h1c
  obtain ⟨i0, hi0, hz0, hzs, hzb⟩ := info_parts infoPfx
  have hinfo : (Tryd.prog.info? 23).map (·.size) = some 2 := by rw [hi0]; simp [hzs]
  have hdl : (cs.drop (i * 2)).length = (n - i) * 2 := by rw [List.length_drop, hcs]; omega
  have htl : (cs.take (i * 2)).length = i * 2 := by rw [List.length_take, hcs]; omega
  have hcell : ∀ j u, cs[j]? = some u → w.cell? ⟨b, j, none⟩ = some u := fun j u hj => by
    rw [cell_of_row w b j cur _ (0, 0) hrow, ← Array.getElem?_toList]
    rw [← htake, List.getElem?_take] at hj
    split at hj
    · exact hj
    · cases hj
  have hold : (Builtin.firstCells i0.size i (.slice (some ⟨b, 0, none⟩) i c)).run Tryd.prog w.drew = .ok (cs.take (i * 2)).toArray w.drew := by
    rw [hzs]
    exact run_firstCells_some w.drew 2 i ⟨b, 0, none⟩ i c (cs.take (i * 2)) (by rw [htl]) (fun j v hj => by
      rw [Addr.add_lit, Nat.zero_add]
      rw [List.getElem?_take] at hj
      split at hj
      · exact hcell j v hj
      · cases hj)
  have hkk : (n : Int) + 1 - (i : Int) = ((n + 1 - i : Nat) : Int) := by omega
  have hik : i + (n + 1 - i) = n + 1 := by omega
  obtain ⟨G, hG⟩ : ∃ G, G = grownCap w (n + 1) c 23 := ⟨_, rfl⟩
  obtain ⟨ROW, hROW⟩ : ∃ ROW : Array Value, ROW = (cs.take (i * 2)).toArray ++ Builtin.zeroCells (Value.agg #[.int .i64 0, .int .i64 0]).cells (n + 1 - i) ++ Builtin.zeroCells (Value.agg #[.int .i64 0, .int .i64 0]).cells (G - (n + 1)) := ⟨_, rfl⟩
  obtain ⟨N, hN⟩ : ∃ N, N = w.heap.size := ⟨_, rfl⟩
  obtain ⟨W1, hW1⟩ : ∃ W1, W1 = w.drew.alloc (.cells ROW 23) := ⟨_, rfl⟩
  have hrz : ∀ ty, (Builtin.append_ #[51, 3] ty #[.slice (some ⟨b, 0, none⟩) i c, .int .i64 ((n : Int) + 1 - (i : Int))]).run Tryd.prog w = .ok (.slice (some ⟨N, 0, none⟩) (n + 1) G) W1 := fun ty => by
    have h := Lib.run_append_grow_zeros w 51 3 ty 23 i0 _ .i64 .i64 Tryd.underlying51 Tryd.underlying3 hi0 hz0 (some ⟨b, 0, none⟩) i c (cs.take (i * 2)) hold (n + 1 - i) (by omega) (by omega) (by omega) (by omega) (by rw [hzb]; omega) (by rw [hzb, hik]; exact growslice_fits hroom (by omega))
    rw [hik] at h
    rw [hkk, hN, hW1, hROW, hG]
    exact h
  have hGn : n + 1 ≤ G := by rw [hG]; exact grownCap_ge w _ _ _
  have hGm : G ≤ maxLen := by rw [hG]; exact grownCap_le_maxLen w (n + 1) c _ (by unfold maxLen; omega)
  have hG63 : G ≤ 9223372036854775807 := by unfold maxLen at hGm; omega
  have hRs : ROW.size = G * 2 := by
    rw [hROW]
    simp only [Array.size_append, List.size_toArray, size_zeroCells, Value.cells, htl]
    show i * 2 + (n + 1 - i) * 2 + (G - (n + 1)) * 2 = G * 2
    omega
  have hRt : ROW.toList.take (i * 2) = cs.take (i * 2) := by
    rw [hROW, Array.toList_append, Array.toList_append, List.append_assoc]
    exact List.take_left' htl
  have hrow1 : W1.heap[N]? = some (.cells ROW 23 (0, 0)) := by rw [hW1, hN]; exact heap_alloc_new w.drew _
  have hB1 : Blk W1 g 23 #[.int .i64 p.1, .int .i64 p.2] := by rw [hW1]; exact Blk.alloc (w := w.drew) hB _
  have hbl1 : Below base w W1 := by rw [hW1]; exact ((Below.refl _ _).drew).alloc hbase _
  have hbw : b < w.heap.size := (Array.getElem?_eq_some_iff.1 hrow).1
  have hNb : b ≠ N := by omega
  have hcell1 : ∀ j u, cs[j]? = some u → W1.cell? ⟨b, j, none⟩ = some u := fun j u hj => by
    rw [hW1]
    exact (World.cell?_alloc_lt w.drew _ ⟨b, j, none⟩ hbw).trans (hcell j u hj)
  obtain ⟨W2, hW2⟩ : ∃ W2, W2 = W1.setRow N (spl ROW (i * 2) [.int .i64 p.1, .int .i64 p.2]) := ⟨_, rfl⟩
  have hcpA : ∀ ty dc, (Builtin.copy_ #[51, 51] ty #[.slice (some ⟨N, i * 2, none⟩) (n + 1 - i) dc, .slice (some ⟨g, 0, none⟩) 1 1]).run Tryd.prog W1 = .ok (goInt (Nat.min 1 (n + 1 - i))) W2 := fun ty dc => by
    rw [hW2]
    exact run_copy2 W1 _ _ ty 23 N (i * 2) _ dc ⟨g, 0, none⟩ 1 1 _ 23 [.int .i64 p.1, .int .i64 p.2] Tryd.underlying51 hinfo hrow1 (by simp only [Nat.min_def]; split <;> simp <;> omega)
      (fun j v hj => by rw [Addr.add_lit, Nat.zero_add, hB1.cell]; rw [← hj]; simp) (by rw [hRs]; simp; omega) (by intro u hu; simp at hu; rcases hu with rfl | rfl <;> rfl)
  have hrow2 : W2.drew.heap[N]? = some (.cells (spl ROW (i * 2) [.int .i64 p.1, .int .i64 p.2]) 23 (0, 0)) := by rw [hW2]; exact setRow_heap _ N _ _ _ _ hrow1
  have hs2 : (spl ROW (i * 2) [Value.int .i64 p.1, Value.int .i64 p.2]).size = G * 2 := by rw [spl_size (by rw [hRs]; simp; omega), hRs]
  obtain ⟨W3, hW3⟩ : ∃ W3, W3 = W2.drew.setRow N (spl (spl ROW (i * 2) [.int .i64 p.1, .int .i64 p.2]) ((i + 1) * 2) (cs.drop (i * 2))) := ⟨_, rfl⟩
  have hcpB : ∀ ty dc sc, (Builtin.copy_ #[51, 51] ty #[.slice (some ⟨N, (i + 1) * 2, none⟩) (n - i) dc, .slice (some ⟨b, i * 2, none⟩) (n - i) sc]).run Tryd.prog W2.drew = .ok (goInt (Nat.min (n - i) (n - i))) W3 := fun ty dc sc => by
    rw [hW3]
    exact run_copy2 W2.drew _ _ ty 23 N ((i + 1) * 2) _ dc ⟨b, i * 2, none⟩ _ sc _ 23 (cs.drop (i * 2)) Tryd.underlying51 hinfo hrow2 (by rw [hdl]; simp only [Nat.min_def]; split <;> omega)
      (fun j v hj => by
        rw [Addr.add_lit]
        have h := hcell1 (i * 2 + j) v (by rwa [List.getElem?_drop] at hj)
        rw [← h, hW2]
        exact cell_setRow_other W1 N _ ⟨b, i * 2 + j, none⟩ hNb) (by rw [hdl, hs2]; omega) (fun u hu => h1c u (List.mem_of_mem_drop hu))
  have hfin : OwnP W3 base 23 (.slice (some ⟨N, 0, none⟩) (n + 1) G) (l.take i ++ p :: l.drop i) := by
    refine own_row (by omega) (by rw [hW3]; exact setRow_heap _ N _ _ _ _ hrow2) (by simp; omega) hGn hGm (by rw [spl_size (by rw [hs2, hdl]; omega), hs2]) ?_
    have := ins_grow (u := .int .i64 p.1) (v := .int .i64 p.2) hRt hcs (i := i * 2) (by omega) (by rw [hRs]; omega)
    rw [show (i + 1) * 2 = i * 2 + 2 by omega, show (n + 1) * 2 = n * 2 + 2 by omega, this, hcT, hcL, cellsP_append]
    simp [cellsP]
  have hbel : Below base w W3 := by
    rw [hW3, hW2]
    exact below_setRow (Below.drew (below_setRow hbl1 (by omega) _)) (by omega) _
  have HF := Lib.hid hfin
  have HBl := Lib.hid hbel
  have hw1 : IntKind.i64.wrap ((i : Int) + 1) = (i : Int) + 1 := by rw [IntKind.wrap_i64]; omega
  have hw2 : IntKind.i64.wrap ((n : Int) + 1) = (n : Int) + 1 := by rw [IntKind.wrap_i64]; omega
  have hw3 : IntKind.i64.wrap ((n : Int) + 1 - (i : Int)) = (n : Int) + 1 - (i : Int) := by rw [IntKind.wrap_i64]; omega
  have ht1 : ((i : Int) + 1).toNat = i + 1 := by omega
  have hz2 : ¬ ((i : Int) = (n : Int)) := by omega
  have hz3 : (c : Int) < (n : Int) + 1 := by omega
  have hb1 : (0 : Int) ≤ (i : Int) + 1 := by omega
  have hin : i ≤ n := by omega
  have hb3 : (i : Int) ≤ (n : Int) + 1 := by omega
  have hb4 : ¬ (c = i) := by omega
  have hg2 : ¬ (G = i + 1) := by omega
  have hg4 : ¬ (G = i) := by omega
  clear hrow hrow1 hrow2 hs2 hB1 htake hcs hcL hcT h1c hcell hcell1 hdl htl hold hkk hik hG hROW hN hRs hRt hbl1 hfin hbel hW1 hW2 hW3 hbw hNb
  go_enter Tryd.func87, Tryd.ntmps87
  go_wp2_with (first
    | (at_builtin; refine wpList_append_run _ rfl _ _ _ _ rfl _ _ rfl rfl (hrz _) ?_)
    | (at_builtin; refine wpList_copy_run _ rfl _ _ 51 51 rfl _ _ rfl rfl (hcpA _ _) ?_))
  go_region_law (refine step_copy_run rfl _ _ 51 51 rfl _ _ (by simp [Act.eval, Act.put]) (by simp [Act.eval, Act.put]) (hcpB _ _ _) ?_)
  go_wp2
  go_ret
  exact ⟨_, rfl, HF.out, HBl.out⟩

theorem insert_any (v : Value) (l : List Pf) (base i g : Nat) (p : Pf) (hlen : l.length ≤ 1000000) (hi : i ≤ l.length) (w : World) (hbase : base ≤ w.heap.size) (hown : OwnP w base 23 v l) (hB : Blk w g 23 #[.int .i64 p.1, .int .i64 p.2]) (hg : v.ownBlock ≠ some g) :
    Calls Tryd.prog 87 #[v, .int .i64 i, .slice (some ⟨g, 0, none⟩) 1 1] w fun e w' => ∃ v', e = .returned v' ∧ OwnP w' base 23 v' (l.take i ++ p :: l.drop i) ∧ Below base w w' := by
  by_cases he : i = l.length
  · have := insert_end v l base g p hlen w hbase hown hB
    subst he
    simpa using this
  · have hne : l ≠ [] := fun e => by subst e; simp at hi; simp at he; omega
    obtain ⟨b, c, cur, rfl, h1, h2, h3, h4, h5, h6⟩ := hown.row hne
    by_cases hr : l.length + 1 ≤ c
    · exact insert_room b l.length c i g l p base cur w h1 h2 rfl h4 h5 h6 (by omega) hr hlen hB (fun e => hg (by subst e; rfl))
    · exact insert_grow b l.length c i g l p base cur w hbase h2 rfl h3 h6 (by omega) (by omega) hlen hB

set_option maxRecDepth 100000 in
set_option maxHeartbeats 4000000 in
theorem delete_one (v : Value) (l : List Pf) (base i : Nat) (hlen : l.length ≤ 1000000) (hi : i < l.length) (w : World) (hown : OwnP w base 23 v l) :
    Calls Tryd.prog 89 #[v, .int .i64 i, .int .i64 ((i : Int) + 1)] w fun e w' => ∃ v', e = .returned v' ∧ OwnP w' base 23 v' (l.take i ++ l.drop (i + 1)) ∧ Below base w w' := by
  have hne : l ≠ [] := fun e => by subst e; simp at hi
  obtain ⟨b, c, cur, rfl, hbase, hrow, hnc, hcm, hsz, htake⟩ := hown.row hne
  obtain ⟨n, hn⟩ : ∃ n, n = l.length := ⟨_, rfl⟩
  rw [← hn] at hi hlen hnc htake ⊢
  have hC : c ≤ 9223372036854775807 := by unfold maxLen at hcm; omega
  have hcs : (cellsP l).length = n * 2 := by rw [cellsP_length, hn]
  have hcL : (cellsP l).drop (i * 2 + 2) = cellsP (l.drop (i + 1)) := by rw [← cellsP_drop l (i + 1)]; congr 1; omega
  have hcT : (cellsP l).take (i * 2) = cellsP (l.take i) := cellsP_take l i
  have h1c : ∀ u ∈ cellsP l, u.oneCell' = true := cellsP_one l
  obtain ⟨cs, hcsd⟩ : ∃ cs, cs = cellsP l := ⟨_, rfl⟩
  rw [← hcsd] at htake hcs hcL hcT h1c
  obtain ⟨i0, hi0, hz0, hzs, hzb⟩ := info_parts infoPfx
  have hdl : (cs.drop (i * 2 + 2)).length = (n - (i + 1)) * 2 := by rw [List.length_drop, hcs]; omega
  have hcell : ∀ j u, cs[j]? = some u → w.cell? ⟨b, j, none⟩ = some u := fun j u hj => by
    rw [cell_of_row w b j cur _ (0, 0) hrow, ← Array.getElem?_toList]
    rw [← htake, List.getElem?_take] at hj
    split at hj
    · exact hj
    · cases hj
  have hrowD : w.drew.heap[b]? = some (.cells cur 23 (0, 0)) := hrow
  obtain ⟨W1, hW1⟩ : ∃ W1, W1 = w.drew.setRow b (spl cur (i * 2) (cs.drop (i * 2 + 2))) := ⟨_, rfl⟩
  obtain ⟨ad, had⟩ : ∃ ad : Addr, ad = (if c = i + 1 then ⟨b, 0, none⟩ else ⟨b, (i + 1) * 2, none⟩) := ⟨_, rfl⟩
  have hap : ∀ ty c', (Builtin.append_ #[51, 51] ty #[.slice (some ⟨b, 0, none⟩) i c, .slice (some ad) (n - (i + 1)) c']).run Tryd.prog w.drew = .ok (.slice (some ⟨b, 0, none⟩) (n - 1) c) W1 := fun ty c' => by
    have h := run_append_room2 (P := Tryd.prog) w.drew 51 ty 23 i0 Tryd.underlying51 hi0 hzs b i c ad (n - (i + 1)) c' cur 23 hrowD (cs.drop (i * 2 + 2)) hdl
      (fun j u hj => by
        have hlt : j < (cs.drop (i * 2 + 2)).length := (List.getElem?_eq_some_iff.1 hj).1
        rw [hdl] at hlt
        rw [had, if_neg (by omega), Addr.add_lit]
        exact hcell _ _ (by rw [List.getElem?_drop] at hj; rw [← hj]; congr 1; omega)) (fun u hu => h1c u (List.mem_of_mem_drop hu)) (by omega) (by rw [hdl, hsz]; omega)
    rw [show i + (n - (i + 1)) = n - 1 by omega] at h
    rw [hW1]
    exact h
  have hrow1 : W1.heap[b]? = some (.cells (spl cur (i * 2) (cs.drop (i * 2 + 2))) 23 (0, 0)) := by rw [hW1]; exact setRow_heap _ b _ _ _ _ hrowD
  have hs1 : (spl cur (i * 2) (cs.drop (i * 2 + 2))).size = c * 2 := by rw [spl_size (by rw [hdl, hsz]; omega), hsz]
  obtain ⟨W2, hW2⟩ : ∃ W2, W2 = W1.setRow b (spl (spl cur (i * 2) (cs.drop (i * 2 + 2))) ((n - 1) * 2) [.int .i64 0, .int .i64 0]) := ⟨_, rfl⟩
  have hcl : ∀ ty c', (Builtin.clear_ #[51] ty #[.slice (some ⟨b, (n - 1) * 2, none⟩) (n - (n - 1)) c']).run Tryd.prog W1 = .ok (.tuple #[]) W2 := fun ty c' => by
    rw [hW2, show n - (n - 1) = 1 by omega]
    exact run_clear2 W1 _ 23 ty Tryd.underlying51 Tryd.zeroValue23 b ((n - 1) * 2) c' _ 23 hrow1 (by rw [hs1]; omega)
  have hfin : OwnP W2 base 23 (.slice (some ⟨b, 0, none⟩) (n - 1) c) (l.take i ++ l.drop (i + 1)) := by
    refine own_row hbase (by rw [hW2]; exact setRow_heap _ b _ _ _ _ hrow1) (by simp; omega) (by omega) hcm (by rw [spl_size (by rw [hs1]; simp; omega), hs1]) ?_
    have := del_room (u := .int .i64 0) (v := .int .i64 0) htake hcs (i := i * 2) (by omega)
    rw [show (n - 1) * 2 = n * 2 - 2 by omega, this, hcT, hcL, cellsP_append]
  have hbel : Below base w W2 := by
    rw [hW2, hW1]
    exact below_setRow (below_setRow ((Below.refl _ _).drew) hbase _) hbase _
  have HF := Lib.hid hfin
  have HBl := Lib.hid hbel
  have ht1 : ((i : Int) + 1).toNat = i + 1 := by omega
  have hb1 : (0 : Int) ≤ (i : Int) + 1 := by omega
  have hin : i ≤ n := by omega
  have hin2 : i + 1 ≤ n := by omega
  have hin3 : (i : Int) + 1 ≤ (n : Int) := by omega
  have hic : i ≤ c := by omega
  have hic2 : i + 1 ≤ c := by omega
  have hz : ¬ ((i : Int) = (i : Int) + 1) := by omega
  have hb4 : ¬ (c = i) := by omega
  have hb5 : ¬ (c = n - 1) := by omega
  have hn1 : n - 1 ≤ n := by omega
  have hn2 : n - 1 ≤ c := by omega
  clear hrow hrowD hrow1 hs1 htake hcs hcL hcT h1c hcell hdl hfin hbel hW1 hW2 hown hn hne
  rcases Classical.em (c = i + 1) with hci | hci
  · rw [if_pos hci] at had
    subst had
    obtain rfl : n = i + 1 := by omega
    subst hci
    simp only [Nat.sub_self, Nat.add_sub_cancel, Nat.add_sub_cancel_left] at hap hcl HF
    clear hb5 hb4 hin hin2 hin3 hic hic2 hn1 hn2
    have hh : (i : Int) ≤ (i : Int) + 1 := by omega
    go_enter Tryd.func89, Tryd.ntmps89
    go_wp2_with fail
    go_region_law (refine step_append_run rfl (.tmp 22) (.tmp 25) 51 51 rfl (.slice (some ⟨b, 0, none⟩) i (i + 1)) (.slice (some ⟨b, 0, none⟩) 0 0) (by simp [Act.eval, Act.put]) (by simp [Act.eval, Act.put]) (hap _ _) ?_)
    go_wp2_with (at_builtin; refine wpList_clear_run _ rfl _ 51 rfl _ rfl (hcl _ _) ?_)
    go_ret
    exact ⟨_, rfl, HF.out, HBl.out⟩
  · rw [if_neg hci] at had
    subst had
    go_enter Tryd.func89, Tryd.ntmps89
    go_wp2_with fail
    go_region_law (refine step_append_run rfl (.tmp 22) (.tmp 25) 51 51 rfl (.slice (some ⟨b, 0, none⟩) i c) (.slice (some ⟨b, (i + 1) * 2, none⟩) (n - (i + 1)) (c - (i + 1))) (by simp [Act.eval, Act.put]) (by simp [Act.eval, Act.put]) (hap _ _) ?_)
    go_wp2_with (at_builtin; refine wpList_clear_run _ rfl _ 51 rfl _ rfl (hcl _ _) ?_)
    go_ret
    exact ⟨_, rfl, HF.out, HBl.out⟩
end Go.Proofs.YtcgeagobndhpjaaDoor
