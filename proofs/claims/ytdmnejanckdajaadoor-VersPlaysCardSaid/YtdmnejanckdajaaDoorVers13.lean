/- Contract of Collect. -/
import Derived.Test.YtdmnejanckdajaaDoorVers12
import Derived.Deep.RegionHeld3
import Derived.Deep.DrawnRows
namespace Go.Proofs.YtdmnejanckdajaaDoor
set_option linter.unusedVariables false
set_option linter.unusedSimpArgs false
set_option maxRecDepth 100000
open Go.RowKit
open Go.ChangeMaps (setBlock)

theorem cellsV_drop : ∀ (l : List Ver) (k : Nat), cellsV (l.drop k) = (cellsV l).drop (k * 3)
  | l, 0 => by simp
  | [], k + 1 => by simp [cellsV]
  | c :: l, k + 1 => by
    rw [List.drop_succ_cons, cellsV_drop l k, show (k + 1) * 3 = k * 3 + 1 + 1 + 1 by omega]
    simp [cellsV]
theorem Rd.verDrop {w : World} {B : Nat} {b off : Nat} {l : List Ver} (h : Rd w B (some ⟨b, off, none⟩) (cellsV l)) (k : Nat) : Rd w B (some ⟨b, off + k * 3, none⟩) (cellsV (l.drop k)) := fun hn => by
  obtain ⟨b', off', e, hb, hc⟩ := h (fun h => hn (by rw [cellsV_drop, h]; simp))
  injection e with e
  injection e with e1 e2
  subst e1
  subst e2
  refine ⟨b, off + k * 3, rfl, hb, fun j u hu => ?_⟩
  rw [cellsV_drop, List.getElem?_drop] at hu
  rw [show off + k * 3 + j = off + (k * 3 + j) by omega]
  exact hc _ _ hu
theorem cloneV_any (ad : Addr) (l : List Ver) (n c : Nat) (hnl : n = l.length) (hlen : l.length ≤ 1000000) (w : World) (hl : Rd w w.heap.size (some ad) (cellsV l)) :
    Calls Tryd.prog 27 #[.slice (some ad) n c] w fun e w' => ∃ v, e = .returned v ∧ w'.ownsRow w.heap.size 63 3 v l.length (cellsV l) ∧ Below w.heap.size w w' := by
  subst hnl
  have hl2 := hl.alloc (Nat.le_refl _) (.cells #[] 63)
  have hm := World.ownsRow_made (base := w.heap.size) (e := 63) (size := 3) w #[] 0 (Nat.le_refl _) (by decide) rfl
  have hb0 := (Below.refl w.heap.size w).alloc (Nat.le_refl _) (.cells #[] 63)
  have q22 : ∀ (w : World) (a : Option Addr) (n c n' c' : Nat), (binOp .eql 65 (.slice a n c) (.slice none n' c')).run Tryd.prog w = .ok (.bool a.isNone) w := fun w a n c n' c' => Lib.run_eql_slice_nil w _ _ a n c n' c' Tryd.underlying65
  go_enter Tryd.func27, Tryd.ntmps27
  go_wp2_with (at_builtin; refine wpList_append_rd rfl (.tmp 5) (.tmp 6) 65 rfl 63 Tryd.underlying65 _ 3 32 infoVer rfl (by decide) w.heap.size _ 0 [] rfl hm w.heap.size (some ad) l.length c _ rfl (by rw [cellsV_length]) hl2 (cellsV_one l) (by unfold maxLen; omega) (by omega) (by simp) ?_; intro v5 w5 hown5 hb5)
  go_ret
  rw [Nat.zero_add, List.nil_append] at hown5
  exact ⟨_, rfl, hown5, hb0.trans hb5⟩

theorem Below.grownBy {w w' : World} (h : Below w.heap.size w w') : w.grownBy w' none := ⟨h.os, h.tape, h.output, h.size, fun i hi _ => h.block i hi⟩
theorem row_not_iter {w : World} {base size n b r : Nat} {vt : TypeId} {v : Value} {xs : List Value} {es : Array MapEntry} {clock : Nat} {left : List MapEntry} (h : w.ownsRow base vt size v n xs) (m : RangeAt w b r es clock left) : v.ownBlock ≠ some r := by
  intro e
  obtain ⟨_, _, _, hb, _⟩ := m
  rcases h.2 with ⟨rfl, _⟩ | ⟨g, cap, cur, rfl, _, hh, _⟩
  · cases e
  · simp [Value.ownBlock] at e
    subst e
    rw [hb] at hh
    cases hh
theorem map_not_iter {P : Program} {k : TypeId} {w : World} {b r : Nat} {es es' : Array MapEntry} {clock clock' : Nat} {left : List MapEntry} (h : MapAt w P k b es' clock') (m : RangeAt w b r es clock left) : b ≠ r := by
  intro e
  obtain ⟨_, _, _, hb, _⟩ := m
  rw [← e, h.hb] at hb
  cases hb
theorem TabAt.iter {P : Program} {k vt : TypeId} {S : Nat → Prop} {b r : Nat} {es : Array MapEntry} {clock : Nat} {w w' : World} {F : List UInt8 → List Ver} {left : List MapEntry} (h : TabAt w P k vt S b es clock F) (m : RangeAt w b r es clock left) (hg : w.grownBy w' (some r)) : TabAt w' P k vt S b es clock F :=
  h.keep (hg.block b h.map.lt (fun e => by injection e with e; exact map_not_iter h.map m e)) (fun s v g q e => hg.block g (h.row_lt q e) (fun e2 => row_not_iter (h.rows s v q).2 m (by rw [e, e2])))

/-- Of the keys that are still to come nothing was forgotten yet, of the others what nobody sees. -/
structure ColRel (F F' : List UInt8 → List Ver) (n : Int) (left : List MapEntry) (N0 j : Nat) : Prop where
  old : ∀ s, (∃ x ∈ left, x.key = txt s) → F' s = F s
  new : ∀ s, (∀ x ∈ left, x.key ≠ txt s) → F' s = colL (F s) n
  count : ∃ N, Count F' N ∧ j + N = N0
theorem ColRel.start {F : List UInt8 → List Ver} {n : Int} {es : Array MapEntry} {N0 : Nat} (ht : ∀ s, F s ≠ [] → ∃ v, Has es (txt s) v) (hc : Count F N0) : ColRel F F n es.toList N0 0 := by
  refine ⟨fun s _ => rfl, fun s h => ?_, N0, hc, by omega⟩
  by_cases e : F s = []
  · rw [e, colL_nil]
  · obtain ⟨v, x, hx, hk, _⟩ := ht s e
    exact absurd hk (h x hx)
section
variable {F F' : List UInt8 → List Ver} {n : Int} {left left' : List MapEntry} {N0 j : Nat} {e : MapEntry} {s : List UInt8}
theorem ColRel.here (h : ColRel F F' n left N0 j) (hp : List.Perm left (e :: left')) (hs : e.key = txt s) : F' s = F s := h.old s ⟨e, hp.mem_iff.2 List.mem_cons_self, hs⟩
theorem ColRel.skip (h : ColRel F F' n left N0 j) (hp : List.Perm left (e :: left')) (hs : e.key = txt s) (hl : ∀ x ∈ left', x.key ≠ e.key) (hk : colL (F s) n = F s) : ColRel F F' n left' N0 j := by
  refine ⟨fun x ⟨y, hy, hyk⟩ => h.old x ⟨y, hp.mem_iff.2 (List.mem_cons_of_mem _ hy), hyk⟩, fun x hx => ?_, h.count⟩
  by_cases ex : x = s
  · subst ex
    rw [hk]
    exact h.here hp hs
  · refine h.new x (fun y hy => ?_)
    rcases List.mem_cons.1 (hp.mem_iff.1 hy) with rfl | hy
    · rw [hs]
      exact fun e2 => ex (txt_inj e2).symm
    · exact hx y hy
theorem ColRel.turn (h : ColRel F F' n left N0 j) (hp : List.Perm left (e :: left')) (hs : e.key = txt s) (hl : ∀ x ∈ left', x.key ≠ e.key) {kk : Nat} (hk : colL (F s) n = (F s).drop kk) (hkk : kk ≤ (F s).length) : ColRel F (upd F' s ((F s).drop kk)) n left' N0 (j + kk) := by
  have hF := h.here hp hs
  refine ⟨fun x ⟨y, hy, hyk⟩ => ?_, fun x hx => ?_, ?_⟩
  · have ex : x ≠ s := fun ex => hl y hy (by rw [hs, hyk, ex])
    rw [upd_other _ _ ex]
    exact h.old x ⟨y, hp.mem_iff.2 (List.mem_cons_of_mem _ hy), hyk⟩
  · by_cases ex : x = s
    · subst ex
      rw [upd_same, hk]
    · rw [upd_other _ _ ex]
      refine h.new x (fun y hy => ?_)
      rcases List.mem_cons.1 (hp.mem_iff.1 hy) with rfl | hy
      · rw [hs]
        exact fun e2 => ex (txt_inj e2).symm
      · exact hx y hy
  · obtain ⟨N, hc, hN⟩ := h.count
    obtain ⟨M, hM, hMl⟩ := hc.upd s ((F s).drop kk)
    rw [hF, List.length_drop] at hMl
    exact ⟨M, hM, by omega⟩
theorem ColRel.done (h : ColRel F F' n [] N0 j) : F' = colF F n := funext fun s => h.new s (fun x hx => by simp at hx)
theorem ColRel.le (h : ColRel F F' n left N0 j) : j ≤ N0 := by
  obtain ⟨N, _, hN⟩ := h.count
  omega
end
end Go.Proofs.YtdmnejanckdajaaDoor
