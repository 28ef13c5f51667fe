/- Parts of the proof; conditions: as each theorem says. -/
import Derived.Test.YtllimhgfbijbnaaGreatDoorK23
import Derived.Test.YtllimhgfbijbnaaGreatDoorK2
import Derived.Shelf.Strings.Repeat
import Derived.Deep.RegionHeld3
import Derived.Test.YtllimhgfbijbnaaGreatDoorK16
set_option linter.unusedVariables false
set_option linter.unusedSimpArgs false
set_option maxRecDepth 100000
set_option maxHeartbeats 40000000
namespace Go.Proofs.YtllimhgfbijbnaaGreatDoor
open Go.RowKit
open Go.ChangeMaps (setBlock)
theorem repExtra : Go.Proofs.Builder.Extra Tryz.prog layRep_ren where
 sizeBuilder := by kernel_rfl
 liesBuilder := by kernel_rfl
 t5 := Tryz.underlying5
 a5 := Tryz.isAgg5
 z5 := Tryz.sizeOf5
 v5 := Tryz.zeroValue5
 infoByte := by kernel_rfl
 cellsByte := by kernel_rfl
 sizeByte := by kernel_rfl
 neB5 := by decide
def topKey : List UInt8 := [255, 255, 255, 255, 255, 255, 255, 255, 255, 255, 255, 255, 255, 255, 255, 255, 255, 255, 255, 255, 255, 255, 255, 255, 255]
theorem rep_top : Lib.repeatL ((⟨#[255]⟩ : ByteArray).data.toList) 25 = topKey := by decide
theorem repeat_top (w : World) : Calls Tryz.prog 78 #[.string ⟨#[255]⟩, .int .i64 25] w fun e w' => e = .returned (txt topKey) ∧ Below w.heap.size w w' := by
 have h := Any.strings_Repeat layRep repExtra (⟨#[255]⟩ : ByteArray) 25 w (by decide) (by decide)
 change Calls Tryz.prog 78 _ _ _ at h
 rw [rep_top] at h
 exact h
section
variable {w w' : World} {O : Nat → Nat} {d : Nat} {M : Mem} {g : Dk} {id : Int} {k : Nat}
theorem DeskAt.all_s (h : DeskAt w O d M g) (hk : g.all.length ≤ 40000) :
  Calls Tryz.prog 41 #[ptrV d] w fun e w' => ∃ v L, e = .returned v ∧ OwnKV w' w.heap.size v L ∧ RangeIs g.F [] topKey g.last L ∧ L.length ≤ 800000 ∧ Below w.heap.size w w' := by
 have x1 := h.hB.cell 1
 have x2 := h.hB.cell 2
 simp at x1 x2
 have hnum : numB g.last = true := numB_of (by unfold Dk.last; omega)
 have HRep := Hd repeat_top
 have hDB := h.hB
 have HR := Hd (fun w' (hb : Below w.heap.size w w') => show Calls Tryz.prog 77 #[.pointer (some ⟨M.tb, 0, none⟩), txt [], txt topKey, .int .i64 g.last] w' (fun e w2 => ∃ A c L, e = .returned (.tuple #[.slice A L.length c, .nilIface]) ∧ OwnKV w2 w'.heap.size (.slice A L.length c) L ∧ RangeIs g.F [] topKey g.last L ∧ L.length ≤ 800000 ∧ Below w'.heap.size w' w2) from by
  obtain ⟨n, top, hn, _, hT⟩ := (h.below hb).tab
  refine (range_ok M.tb g.F top n (by omega) _ [] topKey g.last w' hT hnum).mono (fun e w2 q => ?_)
  obtain ⟨v, L, q1, q2, q3, q4, q5⟩ := q
  obtain ⟨A, c, hv, _⟩ := q2.rd
  subst hv
  exact ⟨A, c, L, q1, q2, q3, by omega, q5⟩)
 have hkk : ∀ W, Blk W d 133 #[ptrV M.lg, ptrV M.tb, .int .i64 g.last, .int .i64 g.ids, .map (some M.ob), M.ev] → W.cell? ⟨d, 1, none⟩ = some (ptrV M.tb) ∧ W.cell? ⟨d, 2, none⟩ = some (.int .i64 g.last) := fun W e1 => ⟨e1.cell 1, e1.cell 2⟩
 clear h
 go_enter Tryz.func41, Tryz.ntmps41
 go_wp2_with fail
 go_region_held3 (fun W => W.cell? ⟨d, 1, none⟩ = some (ptrV M.tb) ∧ W.cell? ⟨d, 2, none⟩ = some (.int .i64 g.last))
  (first
   | exact hkk _ hDB
   | exact hkk _ (hDB.below hb4 hDB.lt)
   | exact hkk _ ((hDB.below hb4 hDB.lt).below hb5 (hDB.below hb4 hDB.lt).lt))
  ((first
   | (go_at_call 78; refine (HRep.out _).mono ?_; rintro e w4 ⟨rfl, hb4⟩; have hb4 : Below w.heap.size w w4 := ⟨hb4.os, hb4.tape, hb4.output, hb4.size, hb4.block⟩)
   | (go_at_call 77; refine (HR.out _ hb4).mono ?_; rintro e w5 ⟨A5, c5, L, rfl, hK5, hR5, hlen5, hb5⟩)))
 have HB5 := Hd (hb4.trans (hb5.mono hb4.size))
 have HK5 := Hd (own_of_base hK5 hb4.size)
 have HR5 := Hd hR5
 clear hb4 hb5 hK5 hR5
 go_wp2
 go_ret
 exact ⟨_, L, rfl, HK5.out, HR5.out, hlen5, HB5.out⟩
end
section
variable {w w' : World} {S : Nat → Prop} {d : Nat} {g g' : Dk} {id : Int} {k : Nat}
theorem DeskS.drop_s (h : DeskS w S d g k) (hS : ∀ q, w.heap.size ≤ q → S q) (hid : (Lit.int .i64 id).wf = true) (s : List UInt8) (hs : s.length ≤ maxLen) :
  Calls Tryz.prog 115 #[ptrV d, intV id, txt s] w fun e w' => e = .returned (faultV (g.change id ⟨s, [], true⟩).1) ∧ Fr S w w' ∧ DeskS w' S d (g.change id ⟨s, [], true⟩).2 k := by
 have okn := h.ok.change (id := id) ⟨s, [], true⟩
 obtain ⟨⟨O, M, h1, h2⟩, ok⟩ := h
 exact (h2.drop_to ok hid s hs).mono fun e w' q => ⟨q.1, q.2.up h1 hS okn⟩
theorem DeskS.flush_s (h : DeskS w S d g k) (hS : ∀ q, w.heap.size ≤ q → S q) :
  Calls Tryz.prog 59 #[ptrV d] w fun e w' => e = .returned (faultV g.flush.1) ∧ Fr S w w' ∧ DeskS w' S d g.flush.2 k := by
 have okn := h.ok.flush
 obtain ⟨⟨O, M, h1, h2⟩, ok⟩ := h
 exact h2.flush_to.mono fun e w' q => ⟨q.1, q.2.up h1 hS okn⟩
theorem DeskS.fail_s (h : DeskS w S d g k) (hS : ∀ q, w.heap.size ≤ q → S q) (n : Int) (hn : (Lit.int .i64 n).wf = true) :
  Calls Tryz.prog 60 #[ptrV d, intV n] w fun e w' => e = .returned (.tuple #[]) ∧ Fr S w w' ∧ DeskS w' S d (g.fail n) k := by
 have okn := h.ok.fail n
 obtain ⟨⟨O, M, h1, h2⟩, ok⟩ := h
 exact (h2.fail_to n hn).mono fun e w' q => ⟨q.1, q.2.up h1 hS okn⟩
theorem DeskS.crash_s (h : DeskS w S d g k) (hS : ∀ q, w.heap.size ≤ q → S q) (hk : k ≤ 40000) (n : Int) (hn : (Lit.int .i64 n).wf = true) :
  Calls Tryz.prog 61 #[ptrV d, intV n] w fun e w' => e = .returned (.tuple #[]) ∧ Fr S w w' ∧ DeskS w' S d (g.crash n) k := by
 have okn := (h.ok.crash n h.log.2.2).1
 obtain ⟨⟨O, M, h1, h2⟩, ok⟩ := h
 exact (h2.crash_to ok hk n hn).mono fun e w' q => ⟨q.1, q.2.up h1 hS okn⟩
theorem DeskS.safe_s (h : DeskS w S d g k) (hk : k ≤ 40000) :
  Calls Tryz.prog 58 #[ptrV d] w fun e w' => e = .returned (.int .i64 g.ns) ∧ Below w.heap.size w w' := by
 obtain ⟨⟨O, M, h1, h2⟩, ok⟩ := h
 exact h2.safe_s ok (by have := ok.hall.1; omega)
theorem DeskS.all_s (h : DeskS w S d g k) (hk : k ≤ 40000) :
  Calls Tryz.prog 41 #[ptrV d] w fun e w' => ∃ v L, e = .returned v ∧ OwnKV w' w.heap.size v L ∧ RangeIs g.F [] topKey g.last L ∧ L.length ≤ 800000 ∧ Below w.heap.size w w' := by
 obtain ⟨⟨O, M, h1, h2⟩, ok⟩ := h
 exact h2.all_s (by have := ok.hall.1; omega)
end
theorem infoPP : (Tryz.prog.info? 52).map (fun i => (i.zero, i.size, i.bytes)) = some (some (.slice none 0 0), 1, 24) := by kernel_rfl
def WasAt (w : World) (R : Nat → Prop) (v : Value) (Ls : List (List KV)) : Prop :=
 ∃ xs : List Value, w.ownsRow 0 52 1 v Ls.length xs ∧ (∀ q, v.ownBlock = some q → R q) ∧ ∀ i (h : i < Ls.length), ∃ u, xs[i]? = some u ∧ OwnKV w 0 u Ls[i] ∧ ∀ q, u.ownBlock = some q → R q
section
variable {w w' : World} {R R' : Nat → Prop} {v v' u : Value} {Ls : List (List KV)} {L : List KV}
theorem WasAt.fr {T : Nat → Prop} (h : WasAt w R v Ls) (f : Fr T w w') (hd : ∀ q, R q → ¬ T q) : WasAt w' R v Ls := by
 obtain ⟨xs, h1, h2, h3⟩ := h
 refine ⟨xs, own_fr h1 f (fun q e => hd q (h2 q e)), h2, fun i hi => ?_⟩
 obtain ⟨u, q1, q2, q3⟩ := h3 i hi
 exact ⟨u, q1, own_fr q2 f (fun q e => hd q (q3 q e)), q3⟩
theorem WasAt.one (w : World) : WasAt (w.alloc (.cells #[.slice none 0 0] 52)) (fun q => q = w.heap.size) (.slice (some ⟨w.heap.size, 0, none⟩) 1 1) [[]] := by
 refine ⟨[.slice none 0 0], ⟨rfl, .inr ⟨w.heap.size, 1, #[.slice none 0 0], rfl, Nat.zero_le _, heap_alloc_new w _, Nat.le_refl _, by simp [maxLen], rfl, rfl⟩⟩, fun q e => by simp [Value.ownBlock] at e; exact e.symm, fun i hi => ?_⟩
 have : i = 0 := by simp at hi; omega
 subst this
 exact ⟨_, rfl, OwnKV.nil _ _, fun q e => by simp [Value.ownBlock] at e⟩
theorem WasAt.take {A : Option Addr} {c m : Nat} (h : WasAt w R (.slice A Ls.length c) Ls) (hm : m ≤ Ls.length) : WasAt w R (.slice A m c) (Ls.take m) := by
 obtain ⟨xs, h1, h2, h3⟩ := h
 refine ⟨xs.take m, by rw [List.length_take, Nat.min_eq_left hm]; exact own_shrink h1 hm, fun q e => h2 q (by cases A <;> exact e), fun i hi => ?_⟩
 have hi' : i < m := by simp at hi; omega
 obtain ⟨u, q1, q2, q3⟩ := h3 i (by simp at hi; omega)
 refine ⟨u, by rw [List.getElem?_take, if_pos hi']; exact q1, ?_, q3⟩
 rw [List.getElem_take]
 exact q2
theorem WasAt.snoc {xs : List Value} (h1 : w.ownsRow 0 52 1 v Ls.length xs) (h2 : ∀ q, v.ownBlock = some q → R q) (h3 : ∀ i (h : i < Ls.length), ∃ u, xs[i]? = some u ∧ OwnKV w 0 u Ls[i] ∧ ∀ q, u.ownBlock = some q → R q)
  (hu : OwnKV w 0 u L) (huR : ∀ q, u.ownBlock = some q → R q) (ho : w'.ownsRow 0 52 1 v' (Ls.length + 1) (xs ++ [u])) (hv : ∀ q, v'.ownBlock = some q → R q) (hg : w.grownBy w' v.ownBlock) : WasAt w' R v' (Ls ++ [L]) := by
 have hxl : xs.length = Ls.length := by simpa using h1.1
 refine ⟨xs ++ [u], by simpa using ho, hv, fun i hi => ?_⟩
 rcases Nat.lt_or_ge i Ls.length with c | c
 ·obtain ⟨y, q1, q2, q3⟩ := h3 i c
  refine ⟨y, by rw [List.getElem?_append_left (by omega)]; exact q1, ?_, q3⟩
  rw [List.getElem_append_left c]
  exact own_grown q2 h1 (by decide) hg
 ·have hi2 : i = Ls.length := by simp at hi; omega
  subst hi2
  refine ⟨u, by rw [← hxl]; simp, ?_, huR⟩
  rw [List.getElem_append_right (Nat.le_refl _)]
  simp
  exact own_grown hu h1 (by decide) hg
end
section
variable {w w' : World} {b0 d k k' : Nat} {g g' : Dk} {v : Value} {Ls : List (List KV)}
end
end Go.Proofs.YtllimhgfbijbnaaGreatDoor
