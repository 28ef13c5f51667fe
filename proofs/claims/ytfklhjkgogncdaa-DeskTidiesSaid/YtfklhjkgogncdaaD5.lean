/- Texts joined: XVers5, XVers6, XVers7, XVers8. Each says at its head what it proves; conditions: as said there. -/
import Derived.Test.YtfklhjkgogncdaaD4
import Derived.Test.YtfklhjkgogncdaaD1
import Derived.Deep.RegionHeld3
import Derived.Deep.DrawnRows
/- Contract of put: a version more, by append. -/
namespace Go.Proofs.Ytfklhjkgogncdaa
set_option linter.unusedVariables false
set_option linter.unusedSimpArgs false
set_option maxRecDepth 100000
open Go.RowKit

theorem put_more (t : Nat) (F : List UInt8 → List Ver) (top : Int) (m b : Nat) (S : Nat → Prop) (es : Array MapEntry) (clock : Nat) (s : List UInt8) (hs : s.length ≤ maxLen) (v : Ver) (hv : v.val.length ≤ maxLen) (hm : m < 1000000) (w : World)
    (hB : Blk w t 99 #[.map (some b), .int .i64 top]) (hM : TabAt w Try.prog 9 116 S b es clock F) (hn : es.size ≤ m) (ht : S t) (hg : Good F top m) (hp : putE s v top = 0)
    (u : Value) (hu : w.ownsRow 0 116 3 u (F s).length (cellsV (F s))) (hhas : Has es (txt s) u ∨ (u = .slice none 0 0 ∧ F s = [] ∧ ∀ v, ¬ Has es (txt s) v)) (hlast : ∀ x, (F s).getLast? = some x → x.n ≠ v.n) :
    Calls Try.prog 79 #[.pointer (some ⟨t, 0, none⟩), txt s, verV v] w fun e w' => e = .returned .nilIface ∧ Fr S w w' ∧ TblAt w' (plus S w) t (upd F s (F s ++ [v])) v.n (m + 1) := by
  obtain ⟨p1, p2, p3, p4, p5⟩ := putE_zero hp
  obtain ⟨kl, hkl⟩ := txt_key s hs
  have hlen := hg.len s
  have hK := fun W => key_any s hs W
  rw [p1] at hK
  have HK := Lib.hid hK
  have hmb : t ≠ b := fun e => by
    have h1 := hM.map.hb
    rw [← e] at h1
    unfold Blk at hB
    rw [hB] at h1
    cases h1
  have htu : some t ≠ u.ownBlock := by
    intro e
    rcases hu.2 with ⟨rfl, _⟩ | ⟨g2, cap, cur, rfl, _, hh, _⟩
    · simp [Value.ownBlock] at e
    · simp [Value.ownBlock] at e
      subst e
      unfold Blk at hB
      rw [hB] at hh
      injection hh with hh
      injection hh with _ hh
      exact absurd hh (by decide)
  have hrow : ∀ g, u.ownBlock = some g → g ≠ b ∧ ∀ x r, x ≠ s → Has es (txt x) r → r.ownBlock ≠ some g := fun g e => by
    rcases hhas with q | ⟨rfl, _, _⟩
    · exact ⟨fun e2 => row_not_map hu hM.map (by rw [e, e2]), fun x r hx q2 e2 => hx (hM.apart x s r u g q2 q e2 e)⟩
    · simp [Value.ownBlock] at e
  have huS : ∀ g, u.ownBlock = some g → S g := fun g e => by
    rcases hhas with q | ⟨rfl, _, _⟩
    · exact hM.own s u g q e
    · simp [Value.ownBlock] at e
  have hadd : addV (F s) v = F s ++ [v] := by
    unfold addV
    split
    · rename_i y hy
      rw [if_neg (hlast y hy)]
    · rename_i hy
      rw [List.getLast?_eq_none_iff.1 hy]
      rfl
  have hgood : Good (upd F s (F s ++ [v])) v.n (m + 1) := by
    have h := hg.put hp
    unfold putV at h
    rwa [hadd] at h
  have hBk := Blk.new w 116 #[.int .i64 v.n, txt v.val, .bool v.gone]
  have hb0 : Below w.heap.size w (w.alloc (.cells #[.int .i64 v.n, txt v.val, .bool v.gone] 116)) := (Below.refl _ _).alloc (Nat.le_refl _) _
  have hB1 := hB.below hb0 hB.lt
  have hM1 := hM.below hb0
  have hu1 := hu.alloc (.cells #[.int .i64 v.n, txt v.val, .bool v.gone] 116)
  have x0 := hBk.cell 0
  have x1 := hBk.cell 1
  have x2 := hBk.cell 2
  have y1 := hB1.cell 1
  have y0 := hB1.cell 0
  simp at x0 x1 x2 y1 y0
  have hlt := hB.lt
  have hsz : (w.alloc (.cells #[.int .i64 v.n, txt v.val, .bool v.gone] 116)).heap.size = w.heap.size + 1 := by simp
  clear hK
  go_enter Try.func79, Try.ntmps79
  go_wp2_with fail
  refine (HK.out _).mono ?_
  rintro e w1 ⟨rfl, rfl⟩
  have hvl : ¬ 12 < v.val.length := by omega
  have hn1 : ¬ v.n < 1 := by omega
  have hn2 : ¬ 1000000 < v.n := by omega
  have hn3 : ¬ v.n < top := by omega
  go_wp2_with fail
  go_quiet (fail)
  generalize hW2 : World.drewN (w.alloc (.cells #[.int .i64 v.n, txt v.val, .bool v.gone] 116)) nq = w2
  have hb2 : Below w.heap.size w w2 := by rw [← hW2]; exact ⟨hb0.os, hb0.tape, hb0.output, hb0.size, hb0.block⟩
  have hsz2 : w2.heap.size = w.heap.size + 1 := by rw [← hW2]; exact hsz
  have hBk2 : Blk w2 w.heap.size 116 #[.int .i64 v.n, txt v.val, .bool v.gone] := by rw [← hW2]; exact hBk
  clear hW2 hBk hb0 hB1 hM1 hu1 x0 x1 x2 y1 y0 hsz
  have hB2 := hB.below hb2 hlt
  have hM2 := hM.below hb2
  have hu2 := own_below hu hb2
  have hBk3 := hBk2.far (p := ⟨t, 1, none⟩) (by simp; omega) (.int .i64 v.n)
  have hB3 : Blk (w2.setCell ⟨t, 1, none⟩ (.int .i64 v.n)) t 99 #[.map (some b), .int .i64 v.n] := hB2.setCell 1 (.int .i64 v.n)
  have hrt : ∀ x r, Has es (txt x) r → r.ownBlock ≠ some t := fun x r q e => by
    rcases (hM2.rows x r q).2.2 with ⟨rfl, _⟩ | ⟨g2, cap, cur, rfl, _, hh, _⟩
    · simp [Value.ownBlock] at e
    · simp [Value.ownBlock] at e
      subst e
      unfold Blk at hB2
      rw [hB2] at hh
      injection hh with hh
      injection hh with _ hh
      exact absurd hh (by decide)
  have hM3 : TabAt (w2.setCell ⟨t, 1, none⟩ (.int .i64 v.n)) Try.prog 9 116 S b es clock F :=
    hM2.keep (Below.heap_setCell w2 ⟨t, 1, none⟩ _ b (fun e => hmb e.symm)) (fun x r g q hg => Below.heap_setCell w2 ⟨t, 1, none⟩ _ g (fun e => hrt x r q (by rw [hg, e])))
  have hu3 : (w2.setCell ⟨t, 1, none⟩ (.int .i64 v.n)).ownsRow 0 116 3 u (F s).length (cellsV (F s)) :=
    row_keep hu2 (fun g e => Below.heap_setCell w2 ⟨t, 1, none⟩ _ g (fun e2 => htu (by rw [e, e2])))
  have hlook : (Instr.lookup 97 (.map (some b)) (txt s) false).run Try.prog (w2.setCell ⟨t, 1, none⟩ (.int .i64 v.n)) = .ok u (w2.setCell ⟨t, 1, none⟩ (.int .i64 v.n)) := by
    rcases hM3.map.look strKey Try.underlying97 (zeroRow _) hkl false with ⟨h1, hrun⟩ | ⟨r, h1, hrun⟩
    · rcases hhas with q | ⟨rfl, _, _⟩
      · exact absurd q (h1 u)
      · simpa using hrun
    · rcases hhas with q | ⟨_, _, q⟩
      · rw [hM3.map.same q h1]
        simpa using hrun
      · exact absurd h1 (q r)
  have y2 := hB2.cell 1
  have yf := hB2.frozen 1
  have y3 := hB2.cell 0
  have z0 := hB3.cell 0
  have x0 := hBk2.cell 0
  simp at y2 y3 x0 z0
  have q0 := hBk3.cell 0
  have q1 := hBk3.cell 1
  have q2 := hBk3.cell 2
  simp at q0 q1 q2
  rcases hu.2 with ⟨rfl, hnil⟩ | ⟨g, cap, cur, rfl, hgb, hgc, _, _, _, _⟩
  · have hl0 : (F s).length = 0 := hnil
    go_wp2_with fail
    have hbu : some b ≠ (Value.slice none 0 0).ownBlock := fun e => row_not_map hu3 hM3.map e.symm
    generalize hW3 : w2.setCell ⟨t, 1, none⟩ (.int .i64 v.n) = w3 at *
    have hsz3 : w3.heap.size = w.heap.size + 1 := by rw [← hW3]; simp [hsz2]
    have hwu : some w.heap.size ≠ (Value.slice none 0 0).ownBlock := fun e => by have := (World.ownsRow.lt hu _ e.symm).2; omega
    go_quiet (fail)
    generalize hW4 : World.drewN w3 nq = w4
    have hM4 : TabAt w4 Try.prog 9 116 S b es clock F := by rw [← hW4]; exact hM3.keep rfl (fun _ _ _ _ _ => rfl)
    have hB4 : Blk w4 t 99 #[.map (some b), .int .i64 v.n] := by rw [← hW4]; exact hB3
    have hu4 : w4.ownsRow 0 116 3 (Value.slice none 0 0) (F s).length (cellsV (F s)) := by rw [← hW4]; exact hu3
    have hsz4 : w4.heap.size = w.heap.size + 1 := by rw [← hW4]; exact hsz3
    have hb4 : Fr S w w4 := by
      rw [← hW4, ← hW3]
      exact ((Fr.of_below hb2).setCell (p := ⟨t, 1, none⟩) (fun _ => ht) (.int .i64 v.n)).drewN _
    have r0 : w4.cell? ⟨w.heap.size, 0, none⟩ = some (.int .i64 v.n) := by rw [← hW4]; exact q0
    have r1 : w4.cell? ⟨w.heap.size, 1, none⟩ = some (txt v.val) := by rw [← hW4]; exact q1
    have r2 : w4.cell? ⟨w.heap.size, 2, none⟩ = some (.bool v.gone) := by rw [← hW4]; exact q2
    have r3 : w4.cell? ⟨t, 0, none⟩ = some (.map (some b)) := by rw [← hW4]; exact z0
    clear hW4 hW3 hM3 hB3 hu3 hlook z0 q0 q1 q2 hsz3 hBk3
    have hH3 : ∀ j u', (cellsV [v])[j]? = some u' → ((w4.alloc (.cells #[.int .i64 v.n, txt v.val, .bool v.gone] 116)).drew).cell? ⟨w4.heap.size, j, none⟩ = some u' := fun j u' hj => by
      have h := (Blk.new w4 116 #[.int .i64 v.n, txt v.val, .bool v.gone]).cell j
      refine Eq.trans h ?_
      simpa [cellsV] using hj
    have hlen9 : (F s).length < 1000000000 := by omega
    have HBASE3 : 0 ≤ ((w4.alloc (.cells #[.int .i64 v.n, txt v.val, .bool v.gone] 116)).drew).heap.size := Nat.zero_le _
    go_wp2_with fail
    generalize hU : Value.slice none 0 0 = U at *
    clear hU
    have hblt : b < w.heap.size := hM.map.lt
    have HSZ := Lib.hid hsz4
    clear hsz4
    go_region_held3 (fun w' => w'.cell? ⟨t, 0, none⟩ = some (.map (some b)) ∧ w'.cell? ⟨w.heap.size, 0, none⟩ = some (.int .i64 v.n) ∧ w'.cell? ⟨w.heap.size, 1, none⟩ = some (txt v.val) ∧ w'.cell? ⟨w.heap.size, 2, none⟩ = some (.bool v.gone))
      (first
        | go_keep
        | (go_split_ands; refine ⟨?_, ?_, ?_, ?_⟩ <;> (rw [hgrowB.cell_far _ (by have := hgrowA.size; simp at this; have := HSZ.out; simp; omega) (by simp; omega)]; assumption))
        | (go_split_ands; refine ⟨?_, ?_, ?_, ?_⟩ <;> (rw [hgrowA.cell_far _ (by simp; have := HSZ.out; omega) (by simp; assumption)]; assumption)))
      (first
        | (go_loud (refine step_append_ver (by rfl) _ _ 113 (by rfl) 116 Try.underlying113 _ 32 infoVer (by rfl) (by decide) 0 U (F s).length (cellsV (F s)) (by rfl) ((hu4.alloc (.cells #[.int .i64 v.n, txt v.val, .bool v.gone] 116)).drew) w4.heap.size v (by rfl) hH3 hlen9 HBASE3 ?_); intro vA wA hownA hgrowA hatA; have hmA := ((hM4.map.alloc (.cells #[.int .i64 v.n, txt v.val, .bool v.gone] 116)).keep (w' := (w4.alloc (.cells #[.int .i64 v.n, txt v.val, .bool v.gone] 116)).drew) rfl).grown hgrowA hbu; obtain ⟨es', clock', hrunB, hmB, hasB, hnB, _⟩ := hmA.store strKey Try.underlying97 (by unfold maxLen; omega) (val := vA) hkl; have hgrowB := grown_setBlock (o := .map es' clock') hmA)
        | fail)
    have hb5 : Fr S w (w4.alloc (.cells #[.int .i64 v.n, txt v.val, .bool v.gone] 116)).drew := (hb4.alloc _).drew
    have hbA : Fr S w wA := hb5.grown hgrowA (fun q hq _ => huS q hq)
    have hbB := hbA.grown hgrowB (fun q hq _ => by cases hq; exact hM4.hb)
    have hM5 : TabAt (w4.alloc (.cells #[.int .i64 v.n, txt v.val, .bool v.gone] 116)).drew Try.prog 9 116 S b es clock F := (hM4.alloc (.cells #[.int .i64 v.n, txt v.val, .bool v.gone] 116)).keep rfl (fun _ _ _ _ _ => rfl)
    have hB5 : Blk (w4.alloc (.cells #[.int .i64 v.n, txt v.val, .bool v.gone] 116)).drew t 99 #[.map (some b), .int .i64 v.n] := hB4.alloc _
    have hB6 := (hB5.grown hgrowA htu).grown hgrowB (by simp; omega)
    have hM6 := (hM5.mono (S' := plus S w) plus.old).store (s := s) (L := F s ++ [v]) (by simp) hrow hgrowA (by rw [cellsV_append, List.length_append]; exact hownA)
      (fun g e => by
        rcases hatA with q | q
        · exact .inl (q.symm.trans e)
        · rw [q] at e; injection e with e; exact .inr (Nat.le_of_eq e))
      (fun g e => by
        rcases hatA with q | q
        · exact .inl (huS g (q.symm.trans e))
        · rw [q] at e; injection e with e; exact .inr (by rw [← e]; exact hb5.size)) hmB hgrowB hasB
    have HG := Lib.hid hgood
    clear hb5 hbA hM5 hB5 hmA hmB hasB hownA hgrowA hgrowB hatA hM4 hB4 hu4 hb4
    go_wp2
    go_ret
    exact ⟨rfl, hbB, ⟨⟨b, es', clock', hB6, hM6, by omega⟩, .inl ht, HG.out⟩⟩
  · have hlpos : 0 < (F s).length := by
      rcases hhas with q | ⟨q, _, _⟩
      · have := (hM.rows s _ q).1
        exact List.length_pos_iff.2 this
      · cases q
    have hlI : (0 : Int) < ((F s).length : Int) := by omega
    have hne : (F s)[(F s).length - 1].n ≠ v.n := hlast _ (by rw [List.getLast?_eq_getElem?, List.getElem?_eq_getElem (by omega)])
    go_wp2_with fail
    have hbu : some b ≠ (Value.slice (some ⟨g, 0, none⟩) (F s).length cap).ownBlock := fun e => row_not_map hu3 hM3.map e.symm
    generalize hW3 : w2.setCell ⟨t, 1, none⟩ (.int .i64 v.n) = w3 at *
    have hsz3 : w3.heap.size = w.heap.size + 1 := by rw [← hW3]; simp [hsz2]
    have hwu : some w.heap.size ≠ (Value.slice (some ⟨g, 0, none⟩) (F s).length cap).ownBlock := fun e => by have := (World.ownsRow.lt hu _ e.symm).2; omega
    obtain ⟨A', c', eA, hrd⟩ := own_form hu3
    injection eA with eA1 eA2 eA3
    subst eA1
    subst eA3
    obtain ⟨g', off', eg, hgb', k0, k1, k2⟩ := hrd.ver (show (F s).length - 1 < (F s).length by omega)
    injection eg with eg
    injection eg with eg1 eg2
    subst eg1
    subst eg2
    simp only [Nat.zero_add] at k0 k1 k2
    have hz1 : ((F s).length : Int) - 1 = (((F s).length - 1 : Nat) : Int) := by omega
    go_quiet (fail)
    generalize hW4 : World.drewN w3 nq = w4
    have hM4 : TabAt w4 Try.prog 9 116 S b es clock F := by rw [← hW4]; exact hM3.keep rfl (fun _ _ _ _ _ => rfl)
    have hB4 : Blk w4 t 99 #[.map (some b), .int .i64 v.n] := by rw [← hW4]; exact hB3
    have hu4 : w4.ownsRow 0 116 3 (Value.slice (some ⟨g, 0, none⟩) (F s).length cap) (F s).length (cellsV (F s)) := by rw [← hW4]; exact hu3
    have hsz4 : w4.heap.size = w.heap.size + 1 := by rw [← hW4]; exact hsz3
    have hb4 : Fr S w w4 := by
      rw [← hW4, ← hW3]
      exact ((Fr.of_below hb2).setCell (p := ⟨t, 1, none⟩) (fun _ => ht) (.int .i64 v.n)).drewN _
    have r0 : w4.cell? ⟨w.heap.size, 0, none⟩ = some (.int .i64 v.n) := by rw [← hW4]; exact q0
    have r1 : w4.cell? ⟨w.heap.size, 1, none⟩ = some (txt v.val) := by rw [← hW4]; exact q1
    have r2 : w4.cell? ⟨w.heap.size, 2, none⟩ = some (.bool v.gone) := by rw [← hW4]; exact q2
    have r3 : w4.cell? ⟨t, 0, none⟩ = some (.map (some b)) := by rw [← hW4]; exact z0
    clear hW4 hW3 hM3 hB3 hu3 hlook z0 q0 q1 q2 hsz3 hBk3
    have hH3 : ∀ j u', (cellsV [v])[j]? = some u' → ((w4.alloc (.cells #[.int .i64 v.n, txt v.val, .bool v.gone] 116)).drew).cell? ⟨w4.heap.size, j, none⟩ = some u' := fun j u' hj => by
      have h := (Blk.new w4 116 #[.int .i64 v.n, txt v.val, .bool v.gone]).cell j
      refine Eq.trans h ?_
      simpa [cellsV] using hj
    have hlen9 : (F s).length < 1000000000 := by omega
    have HBASE3 : 0 ≤ ((w4.alloc (.cells #[.int .i64 v.n, txt v.val, .bool v.gone] 116)).drew).heap.size := Nat.zero_le _
    go_wp2_with fail
    generalize hU : Value.slice (some ⟨g, 0, none⟩) (F s).length cap = U at *
    clear hU
    have hblt : b < w.heap.size := hM.map.lt
    have HSZ := Lib.hid hsz4
    clear hsz4
    go_region_held3 (fun w' => w'.cell? ⟨t, 0, none⟩ = some (.map (some b)) ∧ w'.cell? ⟨w.heap.size, 0, none⟩ = some (.int .i64 v.n) ∧ w'.cell? ⟨w.heap.size, 1, none⟩ = some (txt v.val) ∧ w'.cell? ⟨w.heap.size, 2, none⟩ = some (.bool v.gone))
      (first
        | go_keep
        | (go_split_ands; refine ⟨?_, ?_, ?_, ?_⟩ <;> (rw [hgrowB.cell_far _ (by have := hgrowA.size; simp at this; have := HSZ.out; simp; omega) (by simp; omega)]; assumption))
        | (go_split_ands; refine ⟨?_, ?_, ?_, ?_⟩ <;> (rw [hgrowA.cell_far _ (by simp; have := HSZ.out; omega) (by simp; assumption)]; assumption)))
      (first
        | (go_loud (refine step_append_ver (by rfl) _ _ 113 (by rfl) 116 Try.underlying113 _ 32 infoVer (by rfl) (by decide) 0 U (F s).length (cellsV (F s)) (by rfl) ((hu4.alloc (.cells #[.int .i64 v.n, txt v.val, .bool v.gone] 116)).drew) w4.heap.size v (by rfl) hH3 hlen9 HBASE3 ?_); intro vA wA hownA hgrowA hatA; have hmA := ((hM4.map.alloc (.cells #[.int .i64 v.n, txt v.val, .bool v.gone] 116)).keep (w' := (w4.alloc (.cells #[.int .i64 v.n, txt v.val, .bool v.gone] 116)).drew) rfl).grown hgrowA hbu; obtain ⟨es', clock', hrunB, hmB, hasB, hnB, _⟩ := hmA.store strKey Try.underlying97 (by unfold maxLen; omega) (val := vA) hkl; have hgrowB := grown_setBlock (o := .map es' clock') hmA)
        | fail)
    have hb5 : Fr S w (w4.alloc (.cells #[.int .i64 v.n, txt v.val, .bool v.gone] 116)).drew := (hb4.alloc _).drew
    have hbA : Fr S w wA := hb5.grown hgrowA (fun q hq _ => huS q hq)
    have hbB := hbA.grown hgrowB (fun q hq _ => by cases hq; exact hM4.hb)
    have hM5 : TabAt (w4.alloc (.cells #[.int .i64 v.n, txt v.val, .bool v.gone] 116)).drew Try.prog 9 116 S b es clock F := (hM4.alloc (.cells #[.int .i64 v.n, txt v.val, .bool v.gone] 116)).keep rfl (fun _ _ _ _ _ => rfl)
    have hB5 : Blk (w4.alloc (.cells #[.int .i64 v.n, txt v.val, .bool v.gone] 116)).drew t 99 #[.map (some b), .int .i64 v.n] := hB4.alloc _
    have hB6 := (hB5.grown hgrowA htu).grown hgrowB (by simp; omega)
    have hM6 := (hM5.mono (S' := plus S w) plus.old).store (s := s) (L := F s ++ [v]) (by simp) hrow hgrowA (by rw [cellsV_append, List.length_append]; exact hownA)
      (fun g e => by
        rcases hatA with q | q
        · exact .inl (q.symm.trans e)
        · rw [q] at e; injection e with e; exact .inr (Nat.le_of_eq e))
      (fun g e => by
        rcases hatA with q | q
        · exact .inl (huS g (q.symm.trans e))
        · rw [q] at e; injection e with e; exact .inr (by rw [← e]; exact hb5.size)) hmB hgrowB hasB
    have HG := Lib.hid hgood
    clear hb5 hbA hM5 hB5 hmA hmB hasB hownA hgrowA hgrowB hatA hM4 hB4 hu4 hb4
    go_wp2
    go_ret
    exact ⟨rfl, hbB, ⟨⟨b, es', clock', hB6, hM6, by omega⟩, .inl ht, HG.out⟩⟩
end Go.Proofs.Ytfklhjkgogncdaa

/- Contract of put: the last version anew. -/
namespace Go.Proofs.Ytfklhjkgogncdaa
set_option linter.unusedVariables false
set_option linter.unusedSimpArgs false
set_option maxRecDepth 100000
open Go.RowKit

theorem cellsV_set (l : List Ver) (v : Ver) (h : l ≠ []) : (((cellsV l).set ((l.length - 1) * 3) (.int .i64 v.n)).set ((l.length - 1) * 3 + 1) (txt v.val)).set ((l.length - 1) * 3 + 2) (.bool v.gone) = cellsV (l.dropLast ++ [v]) := by
  obtain ⟨ys, u, rfl⟩ : ∃ ys u, l = ys ++ [u] := ⟨l.dropLast, l.getLast h, (List.dropLast_concat_getLast h).symm⟩
  have h1 := cellsV_length ys
  have h2 : (ys ++ [u]).length - 1 = ys.length := by simp
  rw [h2, List.dropLast_concat, cellsV_append, cellsV_append, ← h1, List.set_append_right _ _ (Nat.le_refl _), List.set_append_right _ _ (by omega), List.set_append_right _ _ (by omega)]
  congr 1
  rw [Nat.sub_self, show (cellsV ys).length + 1 - (cellsV ys).length = 1 by omega, show (cellsV ys).length + 2 - (cellsV ys).length = 2 by omega]
  rfl
theorem put_last (t : Nat) (F : List UInt8 → List Ver) (top : Int) (m b : Nat) (S : Nat → Prop) (es : Array MapEntry) (clock : Nat) (s : List UInt8) (hs : s.length ≤ maxLen) (v : Ver) (hv : v.val.length ≤ maxLen) (hm : m < 1000000) (w : World)
    (hB : Blk w t 99 #[.map (some b), .int .i64 top]) (hM : TabAt w Try.prog 9 116 S b es clock F) (hn : es.size ≤ m) (ht : S t) (hg : Good F top m) (hp : putE s v top = 0)
    (u : Value) (hu : w.ownsRow 0 116 3 u (F s).length (cellsV (F s))) (hhas : Has es (txt s) u) (x : Ver) (hlx : (F s).getLast? = some x) (hxn : x.n = v.n) :
    Calls Try.prog 79 #[.pointer (some ⟨t, 0, none⟩), txt s, verV v] w fun e w' => e = .returned .nilIface ∧ Fr S w w' ∧ TblAt w' (plus S w) t (upd F s ((F s).dropLast ++ [v])) v.n (m + 1) := by
  obtain ⟨p1, p2, p3, p4, p5⟩ := putE_zero hp
  obtain ⟨kl, hkl⟩ := txt_key s hs
  have hlen := hg.len s
  have hK := fun W => key_any s hs W
  rw [p1] at hK
  have HK := Lib.hid hK
  have hmb : t ≠ b := fun e => by
    have h1 := hM.map.hb
    rw [← e] at h1
    unfold Blk at hB
    rw [hB] at h1
    cases h1
  have htu : some t ≠ u.ownBlock := by
    intro e
    rcases hu.2 with ⟨rfl, _⟩ | ⟨g2, cap, cur, rfl, _, hh, _⟩
    · simp [Value.ownBlock] at e
    · simp [Value.ownBlock] at e
      subst e
      unfold Blk at hB
      rw [hB] at hh
      injection hh with hh
      injection hh with _ hh
      exact absurd hh (by decide)
  have hadd : addV (F s) v = (F s).dropLast ++ [v] := by
    unfold addV
    rw [hlx]
    simp only []
    rw [if_pos hxn]
  have hgood : Good (upd F s ((F s).dropLast ++ [v])) v.n (m + 1) := by
    have h := hg.put hp
    unfold putV at h
    rwa [hadd] at h
  have hBk := Blk.new w 116 #[.int .i64 v.n, txt v.val, .bool v.gone]
  have hb0 : Below w.heap.size w (w.alloc (.cells #[.int .i64 v.n, txt v.val, .bool v.gone] 116)) := (Below.refl _ _).alloc (Nat.le_refl _) _
  have hB1 := hB.below hb0 hB.lt
  have hM1 := hM.below hb0
  have hu1 := hu.alloc (.cells #[.int .i64 v.n, txt v.val, .bool v.gone] 116)
  have x0 := hBk.cell 0
  have x1 := hBk.cell 1
  have x2 := hBk.cell 2
  have y1 := hB1.cell 1
  have y0 := hB1.cell 0
  simp at x0 x1 x2 y1 y0
  have hlt := hB.lt
  have hsz : (w.alloc (.cells #[.int .i64 v.n, txt v.val, .bool v.gone] 116)).heap.size = w.heap.size + 1 := by simp
  clear hK
  go_enter Try.func79, Try.ntmps79
  go_wp2_with fail
  refine (HK.out _).mono ?_
  rintro e w1 ⟨rfl, rfl⟩
  have hvl : ¬ 12 < v.val.length := by omega
  have hn1 : ¬ v.n < 1 := by omega
  have hn2 : ¬ 1000000 < v.n := by omega
  have hn3 : ¬ v.n < top := by omega
  go_wp2_with fail
  go_quiet (fail)
  generalize hW2 : World.drewN (w.alloc (.cells #[.int .i64 v.n, txt v.val, .bool v.gone] 116)) nq = w2
  have hb2 : Below w.heap.size w w2 := by rw [← hW2]; exact ⟨hb0.os, hb0.tape, hb0.output, hb0.size, hb0.block⟩
  have hsz2 : w2.heap.size = w.heap.size + 1 := by rw [← hW2]; exact hsz
  have hBk2 : Blk w2 w.heap.size 116 #[.int .i64 v.n, txt v.val, .bool v.gone] := by rw [← hW2]; exact hBk
  clear hW2 hBk hb0 hB1 hM1 hu1 x0 x1 x2 y1 y0 hsz
  have hB2 := hB.below hb2 hlt
  have hM2 := hM.below hb2
  have hu2 := own_below hu hb2
  have hBk3 := hBk2.far (p := ⟨t, 1, none⟩) (by simp; omega) (.int .i64 v.n)
  have hB3 : Blk (w2.setCell ⟨t, 1, none⟩ (.int .i64 v.n)) t 99 #[.map (some b), .int .i64 v.n] := hB2.setCell 1 (.int .i64 v.n)
  have hrt : ∀ x r, Has es (txt x) r → r.ownBlock ≠ some t := fun x r q e => by
    rcases (hM2.rows x r q).2.2 with ⟨rfl, _⟩ | ⟨g2, cap, cur, rfl, _, hh, _⟩
    · simp [Value.ownBlock] at e
    · simp [Value.ownBlock] at e
      subst e
      unfold Blk at hB2
      rw [hB2] at hh
      injection hh with hh
      injection hh with _ hh
      exact absurd hh (by decide)
  have hM3 : TabAt (w2.setCell ⟨t, 1, none⟩ (.int .i64 v.n)) Try.prog 9 116 S b es clock F :=
    hM2.keep (Below.heap_setCell w2 ⟨t, 1, none⟩ _ b (fun e => hmb e.symm)) (fun x r g q hg => Below.heap_setCell w2 ⟨t, 1, none⟩ _ g (fun e => hrt x r q (by rw [hg, e])))
  have hu3 : (w2.setCell ⟨t, 1, none⟩ (.int .i64 v.n)).ownsRow 0 116 3 u (F s).length (cellsV (F s)) :=
    row_keep hu2 (fun g e => Below.heap_setCell w2 ⟨t, 1, none⟩ _ g (fun e2 => htu (by rw [e, e2])))
  have hlook : (Instr.lookup 97 (.map (some b)) (txt s) false).run Try.prog (w2.setCell ⟨t, 1, none⟩ (.int .i64 v.n)) = .ok u (w2.setCell ⟨t, 1, none⟩ (.int .i64 v.n)) := by
    rcases hM3.map.look strKey Try.underlying97 (zeroRow _) hkl false with ⟨h1, hrun⟩ | ⟨r, h1, hrun⟩
    · exact absurd hhas (h1 u)
    · rw [hM3.map.same hhas h1]
      simpa using hrun
  have y2 := hB2.cell 1
  have yf := hB2.frozen 1
  have y3 := hB2.cell 0
  have z0 := hB3.cell 0
  have x0 := hBk2.cell 0
  simp at y2 y3 x0 z0
  have q0 := hBk3.cell 0
  have q1 := hBk3.cell 1
  have q2 := hBk3.cell 2
  simp at q0 q1 q2
  rcases hu.2 with ⟨rfl, hnil⟩ | ⟨g, cap, cur, rfl, hgb, hgc, _, _, _, _⟩
  · exact absurd (List.eq_nil_of_length_eq_zero hnil) (hM.rows s _ hhas).1
  · have hlpos : 0 < (F s).length := by
      exact List.length_pos_iff.2 (hM.rows s _ hhas).1
    have hlI : (0 : Int) < ((F s).length : Int) := by omega
    have hne : (F s)[(F s).length - 1].n = v.n := by
      rw [List.getLast?_eq_getElem?, List.getElem?_eq_getElem (by omega)] at hlx
      injection hlx with hlx
      rw [hlx, hxn]
    go_wp2_with fail
    have hbu : some b ≠ (Value.slice (some ⟨g, 0, none⟩) (F s).length cap).ownBlock := fun e => row_not_map hu3 hM3.map e.symm
    generalize hW3 : w2.setCell ⟨t, 1, none⟩ (.int .i64 v.n) = w3 at *
    have hsz3 : w3.heap.size = w.heap.size + 1 := by rw [← hW3]; simp [hsz2]
    have hwu : some w.heap.size ≠ (Value.slice (some ⟨g, 0, none⟩) (F s).length cap).ownBlock := fun e => by have := (World.ownsRow.lt hu _ e.symm).2; omega
    obtain ⟨A', c', eA, hrd⟩ := own_form hu3
    injection eA with eA1 eA2 eA3
    subst eA1
    subst eA3
    obtain ⟨g', off', eg, hgb', k0, k1, k2⟩ := hrd.ver (show (F s).length - 1 < (F s).length by omega)
    injection eg with eg
    injection eg with eg1 eg2
    subst eg1
    subst eg2
    simp only [Nat.zero_add] at k0 k1 k2
    have hz1 : ((F s).length : Int) - 1 = (((F s).length - 1 : Nat) : Int) := by omega
    have f0 := World.ownsRow.frozenAt hu3 (((F s).length - 1) * 3)
    have f1 := World.ownsRow.frozenAt hu3 (((F s).length - 1) * 3 + 1)
    have f2 := World.ownsRow.frozenAt hu3 (((F s).length - 1) * 3 + 2)
    go_quiet (fail)
    go_wp2_with fail
    have hu5 : (w3.drewN nq).ownsRow 0 116 3 (Value.slice (some ⟨g, 0, none⟩) (F s).length cap) (F s).length (cellsV (F s)) := hu3
    obtain ⟨o1, g1⟩ := World.ownsRow.stored hu5 (((F s).length - 1) * 3) (.int .i64 v.n)
    obtain ⟨o2, g2⟩ := World.ownsRow.stored o1 (((F s).length - 1) * 3 + 1) (txt v.val)
    obtain ⟨o3, g3⟩ := World.ownsRow.stored o2 (((F s).length - 1) * 3 + 2) (.bool v.gone)
    rw [cellsV_set (F s) v (hM.rows s _ hhas).1] at o3
    have hLl : ((F s).dropLast ++ [v]).length = (F s).length := by simp; omega
    have gg := (g1.trans g2).trans g3
    have hM4 : TabAt (w3.drewN nq) Try.prog 9 116 S b es clock F := hM3.keep rfl (fun _ _ _ _ _ => rfl)
    have hM6 := hM4.turn (L := (F s).dropLast ++ [v]) hhas (by simp) gg (by rw [hLl]; exact o3)
    have hB6 := Blk.grown (show Blk (w3.drewN nq) t 99 #[.map (some b), .int .i64 v.n] from hB3) gg htu
    have hb3 : Fr S w (w3.drewN nq) := by
      rw [← hW3]
      exact ((Fr.of_below hb2).setCell (p := ⟨t, 1, none⟩) (fun _ => ht) (.int .i64 v.n)).drewN _
    have hb6 := hb3.grown gg (fun q hq _ => by cases hq; exact hM.own s _ g hhas rfl)
    have hM7 := hM6.mono (S' := plus S w) plus.old
    go_wp2
    go_ret
    exact ⟨rfl, hb6, ⟨⟨b, es, clock, hB6, hM7, by omega⟩, .inl ht, hgood⟩⟩
end Go.Proofs.Ytfklhjkgogncdaa

/- Contract of put, whole. -/
namespace Go.Proofs.Ytfklhjkgogncdaa
set_option linter.unusedVariables false
set_option linter.unusedSimpArgs false
set_option maxRecDepth 100000
open Go.RowKit

theorem TblAt.below {w w' : World} {S : Nat → Prop} {t m : Nat} {F : List UInt8 → List Ver} {top : Int} (h : TblAt w S t F top m) (hb : Below w.heap.size w w') : TblAt w' S t F top m :=
  ⟨by obtain ⟨b, es, c, h1, h2, h3⟩ := h.tab; exact ⟨b, es, c, h1.below hb h1.lt, h2.below hb, h3⟩, h.ht, h.good⟩
theorem TblAt.mono {w : World} {S S' : Nat → Prop} {t m : Nat} {F : List UInt8 → List Ver} {top : Int} (h : TblAt w S t F top m) (hs : ∀ g, S g → S' g) : TblAt w S' t F top m :=
  ⟨by obtain ⟨b, es, c, h1, h2, h3⟩ := h.tab; exact ⟨b, es, c, h1, h2.mono hs, h3⟩, hs _ h.ht, h.good⟩
theorem TblAt.far {w w' : World} {S T : Nat → Prop} {t m : Nat} {F : List UInt8 → List Ver} {top : Int} (h : TblAt w S t F top m) (f : Fr T w w') (hd : ∀ g, S g → ¬ T g) : TblAt w' S t F top m :=
  ⟨by obtain ⟨b, es, c, h1, h2, h3⟩ := h.tab; exact ⟨b, es, c, h1.fr f (hd _ h.ht), h2.far f hd, h3⟩, h.ht, h.good⟩
theorem TblAt.more {w : World} {S : Nat → Prop} {t m : Nat} {F : List UInt8 → List Ver} {top : Int} (h : TblAt w S t F top m) : TblAt w S t F top (m + 1) :=
  ⟨by obtain ⟨b, es, c, h1, h2, h3⟩ := h.tab; exact ⟨b, es, c, h1, h2, by omega⟩, h.ht, ⟨fun s => by have := h.good.len s; omega, h.good.num, h.good.key, h.good.rise, h.good.top0⟩⟩

theorem put_any (t : Nat) (F : List UInt8 → List Ver) (top : Int) (m : Nat) (S : Nat → Prop) (s : List UInt8) (hs : s.length ≤ maxLen) (v : Ver) (hv : v.val.length ≤ maxLen) (hm : m < 1000000) (w : World) (hT : TblAt w S t F top m) :
    Calls Try.prog 79 #[.pointer (some ⟨t, 0, none⟩), txt s, verV v] w fun e w' => e = .returned (faultV (putE s v top)) ∧ Fr S w w' ∧
      TblAt w' (plus S w) t (if putE s v top = 0 then putV F s v else F) (if putE s v top = 0 then v.n else top) (m + 1) := by
  have hT0 := hT
  obtain ⟨⟨b, es, clock, hB, hM, hn⟩, ht, hg⟩ := hT
  by_cases hp : putE s v top = 0
  · simp only [hp, if_true]
    cases hl : (F s).getLast? with
    | none =>
      have hF : F s = [] := List.getLast?_eq_none_iff.1 hl
      refine (put_more t F top m b S es clock s hs v hv hm w hB hM hn ht hg hp (.slice none 0 0) (by rw [hF]; exact World.ownsRow_nil _ _ _ _) (.inr ⟨rfl, hF, fun r q => (hM.rows s r q).1 hF⟩) (by rw [hl]; simp)).mono ?_
      rintro e w' ⟨rfl, h1, h2⟩
      refine ⟨rfl, h1, ?_⟩
      have : putV F s v = upd F s (F s ++ [v]) := by unfold putV addV; rw [hl, hF]; rfl
      rw [this]
      exact h2
    | some x =>
      have hne : F s ≠ [] := fun h => by rw [h] at hl; cases hl
      obtain ⟨u, hu⟩ := hM.tells s hne
      by_cases hx : x.n = v.n
      · refine (put_last t F top m b S es clock s hs v hv hm w hB hM hn ht hg hp u (hM.rows s u hu).2 hu x hl hx).mono ?_
        rintro e w' ⟨rfl, h1, h2⟩
        refine ⟨rfl, h1, ?_⟩
        have : putV F s v = upd F s ((F s).dropLast ++ [v]) := by unfold putV addV; rw [hl]; simp only [if_pos hx]
        rw [this]
        exact h2
      · refine (put_more t F top m b S es clock s hs v hv hm w hB hM hn ht hg hp u (hM.rows s u hu).2 (.inl hu) (fun y hy => by rw [hl] at hy; cases hy; exact hx)).mono ?_
        rintro e w' ⟨rfl, h1, h2⟩
        refine ⟨rfl, h1, ?_⟩
        have : putV F s v = upd F s (F s ++ [v]) := by unfold putV addV; rw [hl]; simp only [if_neg hx]
        rw [this]
        exact h2
  · simp only [if_neg hp]
    refine (put_bad t _ top s hs v hv w hB hp).mono ?_
    rintro e w' ⟨rfl, h1⟩
    exact ⟨rfl, Fr.of_below h1, ((hT0.below h1).more).mono plus.old⟩
end Go.Proofs.Ytfklhjkgogncdaa

/- Contracts of Put and Drop. -/
namespace Go.Proofs.Ytfklhjkgogncdaa
set_option linter.unusedVariables false
set_option linter.unusedSimpArgs false
set_option maxRecDepth 100000
open Go.RowKit

def putF (F : List UInt8 → List Ver) (s : List UInt8) (v : Ver) (top : Int) : List UInt8 → List Ver := if putE s v top = 0 then putV F s v else F
def putT (s : List UInt8) (v : Ver) (top : Int) : Int := if putE s v top = 0 then v.n else top
theorem Put_any (t : Nat) (F : List UInt8 → List Ver) (top : Int) (m : Nat) (S : Nat → Prop) (s : List UInt8) (hs : s.length ≤ maxLen) (l : List UInt8) (hv : l.length ≤ maxLen) (n : Int) (hm : m < 1000000) (w : World) (hT : TblAt w S t F top m) :
    Calls Try.prog 53 #[.pointer (some ⟨t, 0, none⟩), txt s, txt l, .int .i64 n] w fun e w' => e = .returned (faultV (putE s ⟨n, l, false⟩ top)) ∧ Fr S w w' ∧
      TblAt w' (plus S w) t (putF F s ⟨n, l, false⟩ top) (putT s ⟨n, l, false⟩ top) (m + 1) := by
  have HP := Lib.hid (put_any t F top m S s hs ⟨n, l, false⟩ hv hm w hT)
  go_enter Try.func53, Try.ntmps53
  go_wp2_with fail
  refine HP.out.mono ?_
  rintro e w1 ⟨rfl, h1, h2⟩
  have H2 := Lib.hid h2
  clear h2
  go_wp2
  go_ret
  exact ⟨rfl, h1, H2.out⟩
theorem Drop_any (t : Nat) (F : List UInt8 → List Ver) (top : Int) (m : Nat) (S : Nat → Prop) (s : List UInt8) (hs : s.length ≤ maxLen) (n : Int) (hm : m < 1000000) (w : World) (hT : TblAt w S t F top m) :
    Calls Try.prog 52 #[.pointer (some ⟨t, 0, none⟩), txt s, .int .i64 n] w fun e w' => e = .returned (faultV (putE s ⟨n, [], true⟩ top)) ∧ Fr S w w' ∧
      TblAt w' (plus S w) t (putF F s ⟨n, [], true⟩ top) (putT s ⟨n, [], true⟩ top) (m + 1) := by
  have HP := Lib.hid (put_any t F top m S s hs ⟨n, [], true⟩ (by simp) hm w hT)
  go_enter Try.func52, Try.ntmps52
  go_wp2_with fail
  refine HP.out.mono ?_
  rintro e w1 ⟨rfl, h1, h2⟩
  have H2 := Lib.hid h2
  clear h2
  go_wp2
  go_ret
  exact ⟨rfl, h1, H2.out⟩
end Go.Proofs.Ytfklhjkgogncdaa
