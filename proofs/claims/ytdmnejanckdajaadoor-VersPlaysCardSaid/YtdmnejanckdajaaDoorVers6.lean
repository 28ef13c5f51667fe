/- Contract of put: the last version anew. -/
import Derived.Test.YtdmnejanckdajaaDoorVers5
import Derived.Test.YtdmnejanckdajaaDoorCut
import Derived.Deep.RegionHeld3
import Derived.Deep.DrawnRows
namespace Go.Proofs.YtdmnejanckdajaaDoor
set_option linter.unusedVariables false
set_option linter.unusedSimpArgs false
set_option maxRecDepth 100000
open Go.RowKit

theorem cellsV_set (l : List Ver) (v : Ver) (h : l ≠ []) : (((cellsV l).set ((l.length - 1) * 3) (.int .i64 v.n)).set ((l.length - 1) * 3 + 1) (txt v.val)).set ((l.length - 1) * 3 + 2) (.bool v.gone) = cellsV (l.dropLast ++ [v]) := by
  obtain ⟨ys, u, rfl⟩ : ∃ ys u, l = ys ++ [u] := ⟨l.dropLast, l.getLast h, (List.dropLast_concat_getLast h).symm⟩
  have h1 := cellsV_length ys
  have h2 : (ys ++ [u]).length - 1 = ys.length := by simp
  rw [h2, List.dropLast_concat, cellsV_append, cellsV_append, ← h1, List.set_append_right _ _ (Nat.le_refl _), List.set_append_right _ _ (by omega), List.set_append_right _ _ (by omega)]
  congr 1
  rw [Nat.sub_self, show (cellsV ys).length + 1 - (cellsV ys).length = 1 by omega, show (cellsV ys).length + 2 - (cellsV ys).length = 2 by omega]
  rfl
theorem put_last (t : Nat) (F : List UInt8 → List Ver) (top : Int) (m b : Nat) (S : Nat → Prop) (es : Array MapEntry) (clock : Nat) (s : List UInt8) (hs : s.length ≤ maxLen) (v : Ver) (hv : v.val.length ≤ maxLen) (hm : m < 1000000) (w : World)
    (hB : Blk w t 60 #[.map (some b), .int .i64 top]) (hM : TabAt w Tryd.prog 9 63 S b es clock F) (hn : es.size ≤ m) (ht : S t) (hg : Good F top m) (hp : putE s v top = 0)
    (u : Value) (hu : w.ownsRow 0 63 3 u (F s).length (cellsV (F s))) (hhas : Has es (txt s) u) (x : Ver) (hlx : (F s).getLast? = some x) (hxn : x.n = v.n) :
    Calls Tryd.prog 21 #[.pointer (some ⟨t, 0, none⟩), txt s, verV v] w fun e w' => e = .returned .nilIface ∧ Fr S w w' ∧ TblAt w' (plus S w) t (upd F s ((F s).dropLast ++ [v])) v.n (m + 1) := by
  obtain ⟨p1, p2, p3, p4, p5⟩ := putE_zero hp
  obtain ⟨kl, hkl⟩ := txt_key s hs
  have hlen := hg.len s
  have hK := fun W => key_any s hs W
  rw [p1] at hK
  have HK := Lib.hid hK
  have hmb : t ≠ b := fun e => by
    have h1 := hM.map.hb
    rw [← e] at h1
    unfold Blk at hB
    rw [hB] at h1
    cases h1
  have htu : some t ≠ u.ownBlock := by
    intro e
    rcases hu.2 with ⟨rfl, _⟩ | ⟨g2, cap, cur, rfl, _, hh, _⟩
    · simp [Value.ownBlock] at e
    · simp [Value.ownBlock] at e
      subst e
      unfold Blk at hB
      rw [hB] at hh
      injection hh with hh
      injection hh with _ hh
      exact absurd hh (by decide)
  have hadd : addV (F s) v = (F s).dropLast ++ [v] := by
    unfold addV
    rw [hlx]
    simp only []
    rw [if_pos hxn]
  have hgood : Good (upd F s ((F s).dropLast ++ [v])) v.n (m + 1) := by
    have h := hg.put hp
    unfold putV at h
    rwa [hadd] at h
  have hBk := Blk.new w 63 #[.int .i64 v.n, txt v.val, .bool v.gone]
  have hb0 : Below w.heap.size w (w.alloc (.cells #[.int .i64 v.n, txt v.val, .bool v.gone] 63)) := (Below.refl _ _).alloc (Nat.le_refl _) _
  have hB1 := hB.below hb0 hB.lt
  have hM1 := hM.below hb0
  have hu1 := hu.alloc (.cells #[.int .i64 v.n, txt v.val, .bool v.gone] 63)
  have x0 := hBk.cell 0
  have x1 := hBk.cell 1
  have x2 := hBk.cell 2
  have y1 := hB1.cell 1
  have y0 := hB1.cell 0
  simp at x0 x1 x2 y1 y0
  have hlt := hB.lt
  have hsz : (w.alloc (.cells #[.int .i64 v.n, txt v.val, .bool v.gone] 63)).heap.size = w.heap.size + 1 := by simp
  clear hK
  go_enter Tryd.func21, Tryd.ntmps21
  go_wp2_with fail
  refine (HK.out _).mono ?_
  rintro e w1 ⟨rfl, rfl⟩
  have hvl : ¬ 12 < v.val.length := by omega
  have hn1 : ¬ v.n < 1 := by omega
  have hn2 : ¬ 1000000 < v.n := by omega
  have hn3 : ¬ v.n < top := by omega
  go_wp2_with fail
  go_quiet (fail)
  generalize hW2 : World.drewN (w.alloc (.cells #[.int .i64 v.n, txt v.val, .bool v.gone] 63)) nq = w2
  have hb2 : Below w.heap.size w w2 := by rw [← hW2]; exact ⟨hb0.os, hb0.tape, hb0.output, hb0.size, hb0.block⟩
  have hsz2 : w2.heap.size = w.heap.size + 1 := by rw [← hW2]; exact hsz
  have hBk2 : Blk w2 w.heap.size 63 #[.int .i64 v.n, txt v.val, .bool v.gone] := by rw [← hW2]; exact hBk
  clear hW2 hBk hb0 hB1 hM1 hu1 x0 x1 x2 y1 y0 hsz
  have hB2 := hB.below hb2 hlt
  have hM2 := hM.below hb2
  have hu2 := own_below hu hb2
  have hBk3 := hBk2.far (p := ⟨t, 1, none⟩) (by simp; omega) (.int .i64 v.n)
  have hB3 : Blk (w2.setCell ⟨t, 1, none⟩ (.int .i64 v.n)) t 60 #[.map (some b), .int .i64 v.n] := hB2.setCell 1 (.int .i64 v.n)
  have hrt : ∀ x r, Has es (txt x) r → r.ownBlock ≠ some t := fun x r q e => by
    rcases (hM2.rows x r q).2.2 with ⟨rfl, _⟩ | ⟨g2, cap, cur, rfl, _, hh, _⟩
    · simp [Value.ownBlock] at e
    · simp [Value.ownBlock] at e
      subst e
      unfold Blk at hB2
      rw [hB2] at hh
      injection hh with hh
      injection hh with _ hh
      exact absurd hh (by decide)
  have hM3 : TabAt (w2.setCell ⟨t, 1, none⟩ (.int .i64 v.n)) Tryd.prog 9 63 S b es clock F :=
    hM2.keep (Below.heap_setCell w2 ⟨t, 1, none⟩ _ b (fun e => hmb e.symm)) (fun x r g q hg => Below.heap_setCell w2 ⟨t, 1, none⟩ _ g (fun e => hrt x r q (by rw [hg, e])))
  have hu3 : (w2.setCell ⟨t, 1, none⟩ (.int .i64 v.n)).ownsRow 0 63 3 u (F s).length (cellsV (F s)) :=
    row_keep hu2 (fun g e => Below.heap_setCell w2 ⟨t, 1, none⟩ _ g (fun e2 => htu (by rw [e, e2])))
  have hlook : (Instr.lookup 58 (.map (some b)) (txt s) false).run Tryd.prog (w2.setCell ⟨t, 1, none⟩ (.int .i64 v.n)) = .ok u (w2.setCell ⟨t, 1, none⟩ (.int .i64 v.n)) := by
    rcases hM3.map.look strKey Tryd.underlying58 (zeroRow _) hkl false with ⟨h1, hrun⟩ | ⟨r, h1, hrun⟩
    · exact absurd hhas (h1 u)
    · rw [hM3.map.same hhas h1]
      simpa using hrun
  have y2 := hB2.cell 1
  have yf := hB2.frozen 1
  have y3 := hB2.cell 0
  have z0 := hB3.cell 0
  have x0 := hBk2.cell 0
  simp at y2 y3 x0 z0
  have q0 := hBk3.cell 0
  have q1 := hBk3.cell 1
  have q2 := hBk3.cell 2
  simp at q0 q1 q2
  rcases hu.2 with ⟨rfl, hnil⟩ | ⟨g, cap, cur, rfl, hgb, hgc, _, _, _, _⟩
  · exact absurd (List.eq_nil_of_length_eq_zero hnil) (hM.rows s _ hhas).1
  · have hlpos : 0 < (F s).length := by
      exact List.length_pos_iff.2 (hM.rows s _ hhas).1
    have hlI : (0 : Int) < ((F s).length : Int) := by omega
    have hne : (F s)[(F s).length - 1].n = v.n := by
      rw [List.getLast?_eq_getElem?, List.getElem?_eq_getElem (by omega)] at hlx
      injection hlx with hlx
      rw [hlx, hxn]
    go_wp2_with fail
    have hbu : some b ≠ (Value.slice (some ⟨g, 0, none⟩) (F s).length cap).ownBlock := fun e => row_not_map hu3 hM3.map e.symm
    generalize hW3 : w2.setCell ⟨t, 1, none⟩ (.int .i64 v.n) = w3 at *
    have hsz3 : w3.heap.size = w.heap.size + 1 := by rw [← hW3]; simp [hsz2]
    have hwu : some w.heap.size ≠ (Value.slice (some ⟨g, 0, none⟩) (F s).length cap).ownBlock := fun e => by have := (World.ownsRow.lt hu _ e.symm).2; omega
    obtain ⟨A', c', eA, hrd⟩ := own_form hu3
    injection eA with eA1 eA2 eA3
    subst eA1
    subst eA3
    obtain ⟨g', off', eg, hgb', k0, k1, k2⟩ := hrd.ver (show (F s).length - 1 < (F s).length by omega)
    injection eg with eg
    injection eg with eg1 eg2
    subst eg1
    subst eg2
    simp only [Nat.zero_add] at k0 k1 k2
    have hz1 : ((F s).length : Int) - 1 = (((F s).length - 1 : Nat) : Int) := by omega
    have f0 := World.ownsRow.frozenAt hu3 (((F s).length - 1) * 3)
    have f1 := World.ownsRow.frozenAt hu3 (((F s).length - 1) * 3 + 1)
    have f2 := World.ownsRow.frozenAt hu3 (((F s).length - 1) * 3 + 2)
    go_quiet (fail)
    go_wp2_with fail
    have hu5 : (w3.drewN nq).ownsRow 0 63 3 (Value.slice (some ⟨g, 0, none⟩) (F s).length cap) (F s).length (cellsV (F s)) := hu3
    obtain ⟨o1, g1⟩ := World.ownsRow.stored hu5 (((F s).length - 1) * 3) (.int .i64 v.n)
    obtain ⟨o2, g2⟩ := World.ownsRow.stored o1 (((F s).length - 1) * 3 + 1) (txt v.val)
    obtain ⟨o3, g3⟩ := World.ownsRow.stored o2 (((F s).length - 1) * 3 + 2) (.bool v.gone)
    rw [cellsV_set (F s) v (hM.rows s _ hhas).1] at o3
    have hLl : ((F s).dropLast ++ [v]).length = (F s).length := by simp; omega
    have gg := (g1.trans g2).trans g3
    have hM4 : TabAt (w3.drewN nq) Tryd.prog 9 63 S b es clock F := hM3.keep rfl (fun _ _ _ _ _ => rfl)
    have hM6 := hM4.turn (L := (F s).dropLast ++ [v]) hhas (by simp) gg (by rw [hLl]; exact o3)
    have hB6 := Blk.grown (show Blk (w3.drewN nq) t 60 #[.map (some b), .int .i64 v.n] from hB3) gg htu
    have hb3 : Fr S w (w3.drewN nq) := by
      rw [← hW3]
      exact ((Fr.of_below hb2).setCell (p := ⟨t, 1, none⟩) (fun _ => ht) (.int .i64 v.n)).drewN _
    have hb6 := hb3.grown gg (fun q hq _ => by cases hq; exact hM.own s _ g hhas rfl)
    have hM7 := hM6.mono (S' := plus S w) plus.old
    go_wp2
    go_ret
    exact ⟨rfl, hb6, ⟨⟨b, es, clock, hB6, hM7, by omega⟩, .inl ht, hgood⟩⟩
end Go.Proofs.YtdmnejanckdajaaDoor
