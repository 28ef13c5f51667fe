/- Contract of code.read: whatever the bytes. Condition: there are no more than a slice may have. -/
import Derived.Test.YtdcjogofjniogaaDoorCode4
namespace Go.Proofs.YtdcjogofjniogaaDoor
set_option linter.unusedVariables false
set_option linter.unusedSimpArgs false
open Go.RowKit

theorem calls_name {P : Program} {f : FuncId} {args : Array Value} {w : World} {R : Ending → World → Prop} (h : ∀ W, Hid (W = w) → Calls P f args W R) : Calls P f args w R := h w (Lib.hid rfl)

/-- 'out = append(out, c)': one change more, on a row of the call's own. -/
theorem wpList_append_chg {P : Program} {ops : Array Oper} {rest : List Oper} {o : Oper} {a : Act} {Q : Exit → Act → World → Prop} {w1 : World} {e : TypeId} {p : Chg} (hgd : o.guard = none) (s x : Operand) (t : TypeId)
    (ho : o.op = .call { callee := .builtin .append, args := #[s, x], argTypes := #[t, t] }) (ht : P.underlying t = some (.slice e))
    (hinfo : (P.info? e).map (fun i => (i.zero, i.size, i.bytes)) = some (some (.agg #[.string ⟨#[]⟩, .string ⟨#[]⟩, .bool false]), 3, 40))
    (base : Nat) (v : Value) (l : List Chg) (hs : a.eval s = v) (hown : w1.ownsRow base e 3 v l.length (cellsC l))
    (H : Nat) (hH : w1.heap.size = H) (hx : a.eval x = .slice (some ⟨H, 0, none⟩) 1 1) (hlen : l.length < 1000000000) (hbase : base ≤ w1.heap.size)
    (h : ∀ v' w', w'.ownsRow base e 3 v' (l ++ [p]).length (cellsC (l ++ [p])) → w1.grownBy w' v.ownBlock → Below base w1 w' → wpList P ops Q rest (a.put o.dst v') w') :
    wpList P ops Q (o :: rest) a (w1.alloc (.cells #[strV p.key, strV p.val, .bool p.gone] e)) := by
  subst hH
  obtain ⟨i0, hi0, hz0, hz1, hz2⟩ := info_parts hinfo
  refine wpList_append_own _ hgd s x t ho base e i0 _ 3 40 ht hi0 hz0 hz1 hz2 rfl (by decide) v l.length (cellsC l) hs (World.ownsRow.alloc hown _) ⟨w1.heap.size, 0, none⟩ 1 1 [strV p.key, strV p.val, .bool p.gone] hx rfl ?_ ?_ ?_ ?_ ?_ ?_
  · intro j u hj
    match j, hj with
    | 0, hj => simp at hj; subst hj; simp [Addr.add]
    | 1, hj => simp at hj; subst hj; simp [Addr.add]
    | 2, hj => simp at hj; subst hj; simp [Addr.add]
    | j + 3, hj => simp at hj
  · intro u hu
    simp at hu
    rcases hu with rfl | rfl | rfl <;> rfl
  · unfold maxLen; omega
  · omega
  · simp; omega
  · intro v' w' hown' hgrow _
    refine h v' w' ?_ ?_ ?_
    · rw [cellsC_append, List.length_append]
      exact hown'
    · refine ⟨hgrow.os, hgrow.tape, hgrow.output, by have := hgrow.size; simp at this; omega, fun k hk hne => ?_⟩
      have h1 := hgrow.block k (by simp; omega) hne
      rw [h1]
      exact Below.heap_alloc w1 _ k hk
    · exact ((Below.refl _ _).alloc hbase _).grown hgrow (by simp; omega) (fun k hk => (hown.lt k hk).1)

/-- The state of read: the bytes that are left, the error's box, the changes so far. -/
structure RS (w wr : World) (A : Option Addr) (c : Nat) (r : List UInt8) (v : Value) (outs : List Chg) : Prop where
  hb : Below w.heap.size w wr
  hP : Blk wr w.heap.size 32 #[.slice A r.length c]
  hc : r.length ≤ c
  hm : r.length ≤ maxLen
  hE : Blk wr (w.heap.size + 1) 26 #[.nilIface]
  hr : Rd wr w.heap.size A (bytesV r)
  ho : wr.ownsRow (w.heap.size + 2) 110 3 v outs.length (cellsC outs)
  hs : w.heap.size + 2 ≤ wr.heap.size

section
variable {w wr : World} {A : Option Addr} {c : Nat} {r : List UInt8} {v : Value} {outs : List Chg}
theorem RS.alloc (h : RS w wr A c r v outs) (o : Obj) : RS w (wr.alloc o) A c r v outs :=
  ⟨h.hb.alloc (by have := h.hs; omega) o, h.hP.alloc o, h.hc, h.hm, h.hE.alloc o, h.hr.alloc (by have := h.hs; omega) o, h.ho.alloc o, by have := h.hs; simp; omega⟩
theorem RS.took (h : RS w wr A c r v outs) {A2 : Option Addr} {c2 : Nat} {s : List UInt8} (h1 : s.length ≤ c2) (h2 : s.length ≤ maxLen) (h3 : Rd wr w.heap.size A2 (bytesV s)) :
    RS w (wr.setCell ⟨w.heap.size, 0, none⟩ (.slice A2 s.length c2)) A2 c2 s v outs :=
  ⟨h.hb.setCell (by simp) _, h.hP.setCell 0 _, h1, h2, h.hE.far (by simp) _, h3.keep fun p hp => World.cell?_setCell_far _ _ _ _ (by simp; omega), own_setCell h.ho (by omega), by simpa using h.hs⟩
theorem RS.far (h : RS w wr A c r v outs) {g i : Nat} (hg : w.heap.size + 2 ≤ g) (hv : some g ≠ v.ownBlock) (u : Value) : RS w (wr.setCell ⟨g, i, none⟩ u) A c r v outs := by
  refine ⟨h.hb.setCell (by simp; omega) _, h.hP.far (by simp; omega) _, h.hc, h.hm, h.hE.far (by simp; omega) _, h.hr.keep fun p hp => World.cell?_setCell_far _ _ _ _ (by simp; omega), ?_, by simpa using h.hs⟩
  refine h.ho.kept (row := some g) ⟨rfl, rfl, rfl, by simp, fun k hk hne => ?_⟩ (.inr fun h => hv h.symm)
  simp [World.setCell, Array.getElem?_modify]
  intro h; exact absurd (by rw [h]) hne
theorem RS.byte {x : UInt8} (h : RS w wr A c (x :: r) v outs) :
    Calls Tryd.prog 79 #[.pointer (some ⟨w.heap.size, 0, none⟩), .int .i64 1] wr fun e w' => e = .returned (.string ⟨#[x]⟩) ∧ ∃ A2 c2, RS w w' A2 c2 r v outs ∧ w' = wr.setCell ⟨w.heap.size, 0, none⟩ (.slice A2 r.length c2) := by
  obtain ⟨p0, pf⟩ := h.hP.one
  refine (take_one w.heap.size w.heap.size A x r c h.hc h.hm wr p0 pf h.hr).mono ?_
  rintro e w2 ⟨rfl, A2, c2, hc2, rfl, hr2⟩
  exact ⟨rfl, A2, c2, h.took hc2 (by have := h.hm; simp at this; omega) hr2, rfl⟩
theorem RS.noByte (h : RS w wr A c [] v outs) :
    Calls Tryd.prog 79 #[.pointer (some ⟨w.heap.size, 0, none⟩), .int .i64 1] wr fun e w' => e = .panicked [{ v := shortV, recovered := false }] ∧ w' = wr := by
  obtain ⟨p0, pf⟩ := h.hP.one
  exact take_none w.heap.size A c wr (by simpa using p0) pf
theorem RS.many (h : RS w wr A c r v outs) {n : Nat} (hn : n ≤ r.length) :
    Calls Tryd.prog 79 #[.pointer (some ⟨w.heap.size, 0, none⟩), .int .i64 n] wr fun e w' => e = .returned (strV (r.take n)) ∧ ∃ A2 c2, RS w w' A2 c2 (r.drop n) v outs ∧ w' = wr.setCell ⟨w.heap.size, 0, none⟩ (.slice A2 (r.drop n).length c2) := by
  obtain ⟨p0, pf⟩ := h.hP.one
  refine (take_ok w.heap.size w.heap.size A r c n hn h.hc h.hm wr p0 pf h.hr).mono ?_
  rintro e w2 ⟨rfl, A2, c2, hc2, rfl, hr2⟩
  have hl : (r.drop n).length = r.length - n := by simp
  refine ⟨rfl, A2, c2, ?_, by rw [hl]⟩
  rw [← hl]
  exact h.took (by rw [hl]; exact hc2) (by have := h.hm; rw [hl]; omega) hr2
theorem RS.less (h : RS w wr A c r v outs) {n : Nat} (hn : r.length < n) :
    Calls Tryd.prog 79 #[.pointer (some ⟨w.heap.size, 0, none⟩), .int .i64 n] wr fun e w' => e = .panicked [{ v := shortV, recovered := false }] ∧ w' = wr := by
  obtain ⟨p0, pf⟩ := h.hP.one
  exact take_bad w.heap.size A r c n hn wr p0 pf
/-- Where the bytes end too early. -/
theorem RS.dies (h : RS w wr A c r v outs) {l : List UInt8} (hd : decL l = none) (T : Array Value) {u : Value} (h2 : T[2]? = some u) (h3 : T[3]? = some (.pointer (some ⟨w.heap.size + 1, 0, none⟩))) :
    Leaves Tryd.prog Tryd.f64 T (ReadRes l w) [doorD (w.heap.size + 1)] (.panicking [{ v := shortV, recovered := false }]) wr :=
  door_panic T u _ (w.heap.size + 1) _ wr _ h2 h3 h.hE (readRes_bad hd ((h.hb.alloc (by have := h.hs; omega) _).setCell (by simp) _))
end

theorem RS.below {w wr w4 : World} {A : Option Addr} {c : Nat} {r : List UInt8} {v : Value} {outs : List Chg} (h : RS w wr A c r v outs) (hb : Below wr.heap.size wr w4) : RS w w4 A c r v outs := by
  have hs := h.hs
  have h2 := hb.size
  exact ⟨h.hb.trans (hb.mono (by omega)), h.hP.below hb (by omega), h.hc, h.hm, h.hE.below hb (by omega), h.hr.keep fun p hp => hb.cell (by omega), own_below h.ho hb, by omega⟩
theorem RS.grown {w wr : World} {A : Option Addr} {c : Nat} {r : List UInt8} {v : Value} {outs outs' : List Chg} (h : RS w wr A c r v outs) {w8 : World} {v8 : Value} (hg : wr.grownBy w8 v.ownBlock)
    (ho : w8.ownsRow (w.heap.size + 2) 110 3 v8 outs'.length (cellsC outs')) : RS w w8 A c r v8 outs' := by
  have hs := h.hs
  have hv : ∀ k, v.ownBlock = some k → w.heap.size + 2 ≤ k := fun k hk => (h.ho.lt k hk).1
  have hn : ∀ k, k < w.heap.size + 2 → some k ≠ v.ownBlock := fun k hk e => by have := hv k e.symm; omega
  exact ⟨h.hb.grown hg (by omega) (fun k hk => by have := hv k hk; omega), h.hP.grown hg (hn _ (by omega)), h.hc, h.hm, h.hE.grown hg (hn _ (by omega)), h.hr.keep fun p hp => hg.cell_far p (by omega) (hn _ (by omega)), ho, by have := hg.size; omega⟩
theorem dec_bad {n k : Nat} {t r : List UInt8} {outs : List Chg} (hk : k < n) (h : decN n t = (decN (n - k) r).map fun p => (outs ++ p.1, p.2)) (hd : dec1 r = none) : decN n t = none := by
  obtain ⟨m, hm⟩ : ∃ m, n - k = m + 1 := ⟨n - k - 1, by omega⟩
  rw [h, hm]
  simp [decN, hd]
theorem dec_next {n k : Nat} {t r s : List UInt8} {outs : List Chg} {c : Chg} (hk : k < n) (h : decN n t = (decN (n - k) r).map fun p => (outs ++ p.1, p.2)) (hd : dec1 r = some (c, s)) :
    decN n t = (decN (n - (k + 1)) s).map fun p => ((outs ++ [c]) ++ p.1, p.2) := by
  obtain ⟨m, hm⟩ : ∃ m, n - k = m + 1 := ⟨n - k - 1, by omega⟩
  have e : n - (k + 1) = m := by omega
  rw [h, hm, e]
  simp only [decN, hd]
  cases decN m s <;> simp
theorem dec1_small {b r : List UInt8} {c : Chg} (h : dec1 b = some (c, r)) (hm : b.length ≤ maxLen) : (c.key.length ≤ maxLen ∧ c.val.length ≤ maxLen) ∧ r.length ≤ maxLen := by
  cases b with
  | nil => cases h
  | cons a t =>
    simp only [List.length_cons] at hm
    simp only [dec1] at h
    split at h
    · cases h
    · split at h
      · cases h; simp; omega
      · split at h
        · cases h
        · rename_i v s hd
          have := congrArg List.length hd
          simp at this
          split at h
          · cases h
          · cases h
            simp
            omega
theorem decN_small : ∀ (n : Nat) (b r : List UInt8) (l : List Chg), decN n b = some (l, r) → b.length ≤ maxLen → Small l
  | 0, b, r, l, h, _ => by simp only [decN] at h; cases h; intro c hc; cases hc
  | n + 1, b, r, l, h, hm => by
    simp only [decN] at h
    cases h1 : dec1 b with
    | none => rw [h1] at h; cases h
    | some cr =>
      obtain ⟨c, s⟩ := cr
      rw [h1] at h
      simp only at h
      obtain ⟨g1, g2⟩ := dec1_small h1 hm
      cases h2 : decN n s with
      | none => rw [h2] at h; cases h
      | some lr =>
        obtain ⟨l2, r2⟩ := lr
        rw [h2] at h
        cases h
        have ih := decN_small n s r l2 h2 g2
        intro d hd
        rcases List.mem_cons.1 hd with rfl | hd
        · exact g1
        · exact ih d hd
theorem decL_end {x : UInt8} {t r : List UInt8} {outs : List Chg} (h : decN x.toNat t = (decN 0 r).map fun p => (outs ++ p.1, p.2)) : decN x.toNat t = some (outs, r) := by
  rw [h]
  simp [decN]
theorem decL_eq {x : UInt8} {t r : List UInt8} {outs : List Chg} (h : decN x.toNat t = some (outs, r)) : decL (x :: t) = if r = [] ∧ chgFault outs = 0 then some outs else none := by simp only [decL, h]
theorem decL_bad {x : UInt8} {t : List UInt8} (h : decN x.toNat t = none) : decL (x :: t) = none := by simp [decL, h]
end Go.Proofs.YtdcjogofjniogaaDoor
