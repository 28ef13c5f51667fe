/- Texts joined: XDeskS2, XWas, XTdMem, XDeskTidies. Each says at its head what it proves; conditions: as said there. -/
import Derived.Test.YtfklhjkgogncdaaD23
import Derived.Test.YtfklhjkgogncdaaD24
import Derived.Test.YtfklhjkgogncdaaD25
import Derived.Test.YtfklhjkgogncdaaD9
import Derived.Test.YtfklhjkgogncdaaD3
import Derived.Test.YtfklhjkgogncdaaD4
import Derived.Deep.DeepCutAuto
import Derived.Deep.CutBlock
import Derived.Deep.RegionHeld3
/- A desk's other methods, their contracts by sets of blocks. -/
namespace Go.Proofs.Ytfklhjkgogncdaa
set_option linter.unusedVariables false
set_option linter.unusedSimpArgs false
set_option maxRecDepth 100000
open Go.RowKit
open Go.ChangeMaps (setBlock)

section
variable {w w' : World} {S : Nat → Prop} {d : Nat} {g g' : Dk} {id : Int} {k : Nat}
theorem DeskS.drop_s (h : DeskS w S d g k) (hS : ∀ q, w.heap.size ≤ q → S q) (hid : (Lit.int .i64 id).wf = true) (s : List UInt8) (hs : s.length ≤ maxLen) :
    Calls Try.prog 17 #[ptrV d, intV id, txt s] w fun e w' => e = .returned (faultV (g.change id ⟨s, [], true⟩).1) ∧ Fr S w w' ∧ DeskS w' S d (g.change id ⟨s, [], true⟩).2 k := by
  have okn := h.ok.change (id := id) ⟨s, [], true⟩
  obtain ⟨⟨O, M, h1, h2⟩, ok⟩ := h
  exact (h2.drop_to ok hid s hs).mono fun e w' q => ⟨q.1, q.2.up h1 hS okn⟩
theorem DeskS.flush_s (h : DeskS w S d g k) (hS : ∀ q, w.heap.size ≤ q → S q) :
    Calls Try.prog 13 #[ptrV d] w fun e w' => e = .returned (faultV g.flush.1) ∧ Fr S w w' ∧ DeskS w' S d g.flush.2 k := by
  have okn := h.ok.flush
  obtain ⟨⟨O, M, h1, h2⟩, ok⟩ := h
  exact h2.flush_to.mono fun e w' q => ⟨q.1, q.2.up h1 hS okn⟩
theorem DeskS.fail_s (h : DeskS w S d g k) (hS : ∀ q, w.heap.size ≤ q → S q) (n : Int) (hn : (Lit.int .i64 n).wf = true) :
    Calls Try.prog 18 #[ptrV d, intV n] w fun e w' => e = .returned (.tuple #[]) ∧ Fr S w w' ∧ DeskS w' S d (g.fail n) k := by
  have okn := h.ok.fail n
  obtain ⟨⟨O, M, h1, h2⟩, ok⟩ := h
  exact (h2.fail_to n hn).mono fun e w' q => ⟨q.1, q.2.up h1 hS okn⟩
theorem DeskS.crash_s (h : DeskS w S d g k) (hS : ∀ q, w.heap.size ≤ q → S q) (hk : k ≤ 40000) (n : Int) (hn : (Lit.int .i64 n).wf = true) :
    Calls Try.prog 14 #[ptrV d, intV n] w fun e w' => e = .returned (.tuple #[]) ∧ Fr S w w' ∧ DeskS w' S d (g.crash n) k := by
  have okn := (h.ok.crash n h.log.2.2).1
  obtain ⟨⟨O, M, h1, h2⟩, ok⟩ := h
  exact (h2.crash_to ok hk n hn).mono fun e w' q => ⟨q.1, q.2.up h1 hS okn⟩
theorem DeskS.safe_s (h : DeskS w S d g k) (hk : k ≤ 40000) :
    Calls Try.prog 16 #[ptrV d] w fun e w' => e = .returned (.int .i64 g.ns) ∧ Below w.heap.size w w' := by
  obtain ⟨⟨O, M, h1, h2⟩, ok⟩ := h
  exact h2.safe_s ok (by have := ok.hall.1; omega)
theorem DeskS.size_s (h : DeskS w S d g k) (hk : k ≤ 40000) :
    Calls Try.prog 21 #[ptrV d] w fun e w' => ∃ N : Nat, e = .returned (.int .i64 N) ∧ Count g.F N ∧ N ≤ 1000000000000 ∧ Below w.heap.size w w' := by
  obtain ⟨⟨O, M, h1, h2⟩, ok⟩ := h
  exact h2.size_s (by have := ok.hall.1; omega)
theorem DeskS.all_s (h : DeskS w S d g k) (hk : k ≤ 40000) :
    Calls Try.prog 15 #[ptrV d] w fun e w' => ∃ v L, e = .returned v ∧ OwnKV w' w.heap.size v L ∧ RangeIs g.F [] topKey g.last L ∧ L.length ≤ 800000 ∧ Below w.heap.size w w' := by
  obtain ⟨⟨O, M, h1, h2⟩, ok⟩ := h
  exact h2.all_s (by have := ok.hall.1; omega)
/-- What tidying makes. -/
def Dk.tidy (g : Dk) : Dk := { g with F := colF g.F (leastS g.last g.op) }
theorem DeskS.tidy_s (h : DeskS w S d g k) (hS : ∀ q, w.heap.size ≤ q → S q) (hk : k ≤ 40000) :
    Calls Try.prog 20 #[ptrV d] w fun e w' => ∃ N j : Nat, e = .returned (.int .i64 j) ∧ Count g.tidy.F N ∧ Count g.F (j + N) ∧ Fr S w w' ∧ DeskS w' S d g.tidy k := by
  have ok' := h.ok
  obtain ⟨⟨O, M, h1, h2⟩, ok⟩ := h
  have okn : DkOk g.tidy k := ⟨ok.ids, ok.each, ok.many, ok.hall, ok.log, ok.hids, ok.ends⟩
  exact (h2.tidy_to ok (by have := ok.hall.1; omega)).mono fun e w' q => by
    obtain ⟨N, j, q1, q2, q3, q4⟩ := q
    exact ⟨N, j, q1, q2, q3, DeskTo.up (g' := g.tidy) q4 h1 hS okn⟩
end
end Go.Proofs.Ytfklhjkgogncdaa

/- What was there, a row of rows of pairs, beside a desk, in memory. No conditions. -/
namespace Go.Proofs.Ytfklhjkgogncdaa
set_option linter.unusedVariables false
set_option linter.unusedSimpArgs false
set_option maxRecDepth 100000
open Go.RowKit
open Go.ChangeMaps (setBlock)

theorem infoPP : (Try.prog.info? 36).map (fun i => (i.zero, i.size, i.bytes)) = some (some (.slice none 0 0), 1, 24) := by kernel_rfl
/-- A row of rows of pairs, all its blocks in a set. -/
def WasAt (w : World) (R : Nat → Prop) (v : Value) (Ls : List (List KV)) : Prop :=
  ∃ xs : List Value, w.ownsRow 0 36 1 v Ls.length xs ∧ (∀ q, v.ownBlock = some q → R q) ∧ ∀ i (h : i < Ls.length), ∃ u, xs[i]? = some u ∧ OwnKV w 0 u Ls[i] ∧ ∀ q, u.ownBlock = some q → R q
section
variable {w w' : World} {R R' : Nat → Prop} {v v' u : Value} {Ls : List (List KV)} {L : List KV}
theorem WasAt.fr {T : Nat → Prop} (h : WasAt w R v Ls) (f : Fr T w w') (hd : ∀ q, R q → ¬ T q) : WasAt w' R v Ls := by
  obtain ⟨xs, h1, h2, h3⟩ := h
  refine ⟨xs, own_fr h1 f (fun q e => hd q (h2 q e)), h2, fun i hi => ?_⟩
  obtain ⟨u, q1, q2, q3⟩ := h3 i hi
  exact ⟨u, q1, own_fr q2 f (fun q e => hd q (q3 q e)), q3⟩
theorem WasAt.mono (h : WasAt w R v Ls) (hs : ∀ q, R q → R' q) : WasAt w R' v Ls := by
  obtain ⟨xs, h1, h2, h3⟩ := h
  refine ⟨xs, h1, fun q e => hs q (h2 q e), fun i hi => ?_⟩
  obtain ⟨u, q1, q2, q3⟩ := h3 i hi
  exact ⟨u, q1, q2, fun q e => hs q (q3 q e)⟩
theorem WasAt.one (w : World) : WasAt (w.alloc (.cells #[.slice none 0 0] 36)) (fun q => q = w.heap.size) (.slice (some ⟨w.heap.size, 0, none⟩) 1 1) [[]] := by
  refine ⟨[.slice none 0 0], ⟨rfl, .inr ⟨w.heap.size, 1, #[.slice none 0 0], rfl, Nat.zero_le _, heap_alloc_new w _, Nat.le_refl _, by simp [maxLen], rfl, rfl⟩⟩, fun q e => by simp [Value.ownBlock] at e; exact e.symm, fun i hi => ?_⟩
  have : i = 0 := by simp at hi; omega
  subst this
  exact ⟨_, rfl, OwnKV.nil _ _, fun q e => by simp [Value.ownBlock] at e⟩
theorem WasAt.take {A : Option Addr} {c m : Nat} (h : WasAt w R (.slice A Ls.length c) Ls) (hm : m ≤ Ls.length) : WasAt w R (.slice A m c) (Ls.take m) := by
  obtain ⟨xs, h1, h2, h3⟩ := h
  refine ⟨xs.take m, by rw [List.length_take, Nat.min_eq_left hm]; exact own_shrink h1 hm, fun q e => h2 q (by cases A <;> exact e), fun i hi => ?_⟩
  have hi' : i < m := by simp at hi; omega
  obtain ⟨u, q1, q2, q3⟩ := h3 i (by simp at hi; omega)
  refine ⟨u, by rw [List.getElem?_take, if_pos hi']; exact q1, ?_, q3⟩
  rw [List.getElem_take]
  exact q2
/-- Behind an append. -/
theorem WasAt.snoc {xs : List Value} (h1 : w.ownsRow 0 36 1 v Ls.length xs) (h2 : ∀ q, v.ownBlock = some q → R q) (h3 : ∀ i (h : i < Ls.length), ∃ u, xs[i]? = some u ∧ OwnKV w 0 u Ls[i] ∧ ∀ q, u.ownBlock = some q → R q)
    (hu : OwnKV w 0 u L) (huR : ∀ q, u.ownBlock = some q → R q) (ho : w'.ownsRow 0 36 1 v' (Ls.length + 1) (xs ++ [u])) (hv : ∀ q, v'.ownBlock = some q → R q) (hg : w.grownBy w' v.ownBlock) : WasAt w' R v' (Ls ++ [L]) := by
  have hxl : xs.length = Ls.length := by simpa using h1.1
  refine ⟨xs ++ [u], by simpa using ho, hv, fun i hi => ?_⟩
  rcases Nat.lt_or_ge i Ls.length with c | c
  · obtain ⟨y, q1, q2, q3⟩ := h3 i c
    refine ⟨y, by rw [List.getElem?_append_left (by omega)]; exact q1, ?_, q3⟩
    rw [List.getElem_append_left c]
    exact own_grown q2 h1 (by decide) hg
  · have hi2 : i = Ls.length := by simp at hi; omega
    subst hi2
    refine ⟨u, by rw [← hxl]; simp, ?_, huR⟩
    rw [List.getElem_append_right (Nat.le_refl _)]
    simp
    exact own_grown hu h1 (by decide) hg
end
/-- A desk, and beside it what was there. -/
def FgS (w : World) (b0 d : Nat) (g : Dk) (v : Value) (Ls : List (List KV)) (k : Nat) : Prop :=
  ∃ R : Nat → Prop, (∀ q, R q → b0 ≤ q ∧ q < w.heap.size) ∧ b0 ≤ w.heap.size ∧ DeskS w (fun q => b0 ≤ q ∧ ¬ R q) d g k ∧ WasAt w R v Ls
section
variable {w w' : World} {b0 d k k' : Nat} {g g' : Dk} {v : Value} {Ls : List (List KV)}
/-- A call of the desk's. -/
theorem FgS.call {R : Nat → Prop} (hR : ∀ q, R q → b0 ≤ q ∧ q < w.heap.size) (hb : b0 ≤ w.heap.size) (hW : WasAt w R v Ls) (f : Fr (fun q => b0 ≤ q ∧ ¬ R q) w w') (hD : DeskS w' (fun q => b0 ≤ q ∧ ¬ R q) d g' k') : FgS w' b0 d g' v Ls k' :=
  ⟨R, fun q h => ⟨(hR q h).1, by have := (hR q h).2; have := f.size; omega⟩, Nat.le_trans hb f.size, hD, hW.fr f (fun q h e => e.2 h)⟩
theorem FgS.below (h : FgS w b0 d g v Ls k) (hb : Below w.heap.size w w') : FgS w' b0 d g v Ls k := by
  obtain ⟨R, h1, h2, h3, h4⟩ := h
  have hs := hb.size
  exact ⟨R, fun q h => ⟨(h1 q h).1, by have := (h1 q h).2; omega⟩, by omega, h3.below hb, h4.fr (T := fun _ => False) (Fr.of_below hb) (fun _ _ q => q)⟩
/-- New blocks are not the desk's. -/
theorem FgS.aside (h : FgS w b0 d g v Ls k) (hb : Below w.heap.size w w') : ∃ R : Nat → Prop, (∀ q, R q → b0 ≤ q ∧ q < w'.heap.size) ∧ b0 ≤ w'.heap.size ∧ DeskS w' (fun q => b0 ≤ q ∧ ¬ R q) d g k ∧ WasAt w' R v Ls ∧ ∀ q, w.heap.size ≤ q → q < w'.heap.size → R q := by
  obtain ⟨R, h1, h2, h3, h4⟩ := h
  have hs := hb.size
  refine ⟨fun q => R q ∨ (w.heap.size ≤ q ∧ q < w'.heap.size), fun q h => ?_, by omega, ?_, ?_, fun q a b => .inr ⟨a, b⟩⟩
  · rcases h with h | h
    · have := h1 q h; omega
    · omega
  · refine (h3.tight.below hb).mono (fun q hq => ⟨hq.1.1, fun e => ?_⟩)
    rcases e with e | e
    · exact hq.1.2 e
    · have := hq.2; omega
  · exact (h4.fr (T := fun _ => False) (Fr.of_below hb) (fun _ _ q => q)).mono (fun q h => .inl h)
theorem up_of {R : Nat → Prop} (hR : ∀ q, R q → b0 ≤ q ∧ q < w.heap.size) (hb : b0 ≤ w.heap.size) : ∀ q, w.heap.size ≤ q → (fun q => b0 ≤ q ∧ ¬ R q) q := fun q hq => ⟨by omega, fun e => by have := (hR q e).2; omega⟩
theorem FgS.more (h : FgS w b0 d g v Ls k) (hk : k ≤ k') : FgS w b0 d g v Ls k' := by
  obtain ⟨R, h1, h2, h3, h4⟩ := h
  exact ⟨R, h1, h2, h3.more hk, h4⟩
end
end Go.Proofs.Ytfklhjkgogncdaa

/- Rows beside a desk, in memory: of numbers, of texts, of rows. No conditions. -/
namespace Go.Proofs.Ytfklhjkgogncdaa
set_option linter.unusedVariables false
set_option linter.unusedSimpArgs false
set_option maxRecDepth 100000
open Go.RowKit
open Go.ChangeMaps (setBlock)

theorem infoTx : (Try.prog.info? 9).map (fun i => (i.zero, i.size, i.bytes)) = some (some (txt []), 1, 16) := by kernel_rfl
def IntsAt (w : World) (R : Nat → Prop) (v : Value) (l : List Int) : Prop := w.ownsRow 0 3 1 v l.length (l.map (Value.int .i64)) ∧ ∀ q, v.ownBlock = some q → R q
def TxtsAt (w : World) (R : Nat → Prop) (v : Value) (l : List (List UInt8)) : Prop := w.ownsRow 0 9 1 v l.length (l.map txt) ∧ ∀ q, v.ownBlock = some q → R q
def PairsAt (w : World) (R : Nat → Prop) (v : Value) (l : List KV) : Prop := OwnKV w 0 v l ∧ ∀ q, v.ownBlock = some q → R q
/-- The desk, and what is aside. -/
structure Aside (w : World) (b0 d : Nat) (g : Dk) (k : Nat) (R : Nat → Prop) : Prop where
  hR : ∀ q, R q → b0 ≤ q ∧ q < w.heap.size
  hb : b0 ≤ w.heap.size
  desk : DeskS w (fun q => b0 ≤ q ∧ ¬ R q) d g k
section
variable {w w' : World} {b0 d k k' : Nat} {g g' : Dk} {R R' : Nat → Prop} {v v' : Value} {l : List Int} {ts : List (List UInt8)} {L : List KV} {Ls : List (List KV)}
theorem Aside.up (h : Aside w b0 d g k R) : ∀ q, w.heap.size ≤ q → (fun q => b0 ≤ q ∧ ¬ R q) q := up_of h.hR h.hb
theorem Aside.call (h : Aside w b0 d g k R) (f : Fr (fun q => b0 ≤ q ∧ ¬ R q) w w') (hD : DeskS w' (fun q => b0 ≤ q ∧ ¬ R q) d g' k') : Aside w' b0 d g' k' R :=
  ⟨fun q e => ⟨(h.hR q e).1, by have := (h.hR q e).2; have := f.size; omega⟩, Nat.le_trans h.hb f.size, hD⟩
theorem Aside.below (h : Aside w b0 d g k R) (hb : Below w.heap.size w w') : Aside w' b0 d g k R :=
  ⟨fun q e => ⟨(h.hR q e).1, by have := (h.hR q e).2; have := hb.size; omega⟩, Nat.le_trans h.hb hb.size, h.desk.below hb⟩
theorem Aside.more (h : Aside w b0 d g k R) (hk : k ≤ k') : Aside w b0 d g k' R := ⟨h.hR, h.hb, h.desk.more hk⟩
/-- New blocks set aside. -/
def andNew (R : Nat → Prop) (a b : Nat) : Nat → Prop := fun q => R q ∨ (a ≤ q ∧ q < b)
theorem andNew.left {a b : Nat} : ∀ q, R q → andNew R a b q := fun q h => .inl h
theorem andNew_new {a b q : Nat} (h1 : a ≤ q) (h2 : q < b) : andNew R a b q := .inr ⟨h1, h2⟩
theorem Aside.take (h : Aside w b0 d g k R) (hs : w.heap.size ≤ w'.heap.size) (hD : DeskS w' (fun q => (b0 ≤ q ∧ ¬ R q) ∧ q < w.heap.size) d g' k') : Aside w' b0 d g' k' (andNew R w.heap.size w'.heap.size) := by
  refine ⟨fun q e => ?_, Nat.le_trans h.hb hs, hD.mono fun q e => ⟨e.1.1, fun x => ?_⟩⟩
  · rcases e with e | e
    · have := h.hR q e; omega
    · have := h.hb; omega
  · rcases x with x | x
    · exact e.1.2 x
    · have := e.2; omega
theorem Aside.new (h : Aside w b0 d g k R) (hb : Below w.heap.size w w') : Aside w' b0 d g k (andNew R w.heap.size w'.heap.size) := h.take hb.size (h.desk.tight.below hb)
theorem Aside.grown (h : Aside w b0 d g k R) (hg : w.grownBy w' v.ownBlock) (hv : ∀ q, v.ownBlock = some q → R q) : Aside w' b0 d g k (andNew R w.heap.size w'.heap.size) := by
  have hf : Fr (fun q => R q) w w' := (Fr.refl _ _).grown hg (fun q e _ => hv q e)
  exact h.take hg.size (h.desk.tight.far hf (fun q hq e => hq.1.2 e))
theorem grown_new (hs : w.heap.size ≤ w'.heap.size) {x : Nat} (hv : ∀ q, v.ownBlock = some q → R q) {e : TypeId} {n : Nat} {xs : List Value} (ho : w'.ownsRow 0 e 1 v' n xs) (ha : v'.ownBlock = v.ownBlock ∨ v'.ownBlock = some (w.heap.size + x)) : ∀ q, v'.ownBlock = some q → andNew R w.heap.size w'.heap.size q := fun q e => by
  rcases ha with h | h
  · exact .inl (hv q (h.symm.trans e))
  · have := (World.ownsRow.lt ho q e).2
    rw [h] at e
    injection e with e
    exact .inr ⟨by omega, this⟩
-- rows that stand
theorem IntsAt.fr {T : Nat → Prop} (h : IntsAt w R v l) (f : Fr T w w') (hd : ∀ q, R q → ¬ T q) : IntsAt w' R v l := ⟨own_fr h.1 f (fun q e => hd q (h.2 q e)), h.2⟩
theorem IntsAt.below (h : IntsAt w R v l) (hb : Below w.heap.size w w') : IntsAt w' R v l := ⟨own_below h.1 hb, h.2⟩
theorem IntsAt.mono (h : IntsAt w R v l) (hs : ∀ q, R q → R' q) : IntsAt w R' v l := ⟨h.1, fun q e => hs q (h.2 q e)⟩
theorem TxtsAt.fr {T : Nat → Prop} (h : TxtsAt w R v ts) (f : Fr T w w') (hd : ∀ q, R q → ¬ T q) : TxtsAt w' R v ts := ⟨own_fr h.1 f (fun q e => hd q (h.2 q e)), h.2⟩
theorem TxtsAt.below (h : TxtsAt w R v ts) (hb : Below w.heap.size w w') : TxtsAt w' R v ts := ⟨own_below h.1 hb, h.2⟩
theorem TxtsAt.mono (h : TxtsAt w R v ts) (hs : ∀ q, R q → R' q) : TxtsAt w R' v ts := ⟨h.1, fun q e => hs q (h.2 q e)⟩
theorem PairsAt.fr {T : Nat → Prop} (h : PairsAt w R v L) (f : Fr T w w') (hd : ∀ q, R q → ¬ T q) : PairsAt w' R v L := ⟨own_fr h.1 f (fun q e => hd q (h.2 q e)), h.2⟩
theorem PairsAt.below (h : PairsAt w R v L) (hb : Below w.heap.size w w') : PairsAt w' R v L := ⟨own_below h.1 hb, h.2⟩
theorem PairsAt.mono (h : PairsAt w R v L) (hs : ∀ q, R q → R' q) : PairsAt w R' v L := ⟨h.1, fun q e => hs q (h.2 q e)⟩
theorem WasAt.bel (h : WasAt w R v Ls) (hb : Below w.heap.size w w') : WasAt w' R v Ls := h.fr (T := fun _ => False) (Fr.of_below hb) (fun _ _ q => q)
theorem PairsAt.nil (w : World) (R : Nat → Prop) : PairsAt w R (.slice none 0 0) [] := ⟨OwnKV.nil _ _, fun q e => by simp [Value.ownBlock] at e⟩
theorem IntsAt.nil (w : World) (R : Nat → Prop) : IntsAt w R (.slice none 0 0) [] := ⟨World.ownsRow_nil _ _ _ _, fun q e => by simp [Value.ownBlock] at e⟩
theorem TxtsAt.nil (w : World) (R : Nat → Prop) : TxtsAt w R (.slice none 0 0) [] := ⟨World.ownsRow_nil _ _ _ _, fun q e => by simp [Value.ownBlock] at e⟩
theorem WasAt.nil (w : World) (R : Nat → Prop) : WasAt w R (.slice none 0 0) [] := ⟨[], World.ownsRow_nil _ _ _ _, fun q e => by simp [Value.ownBlock] at e, fun i h => by simp at h⟩
/-- A fresh row of pairs set aside. -/
theorem PairsAt.fresh {a : Nat} (h : OwnKV w' a v L) (hR : ∀ q, a ≤ q → q < w'.heap.size → R q) : PairsAt w' R v L := ⟨own_of_base h (Nat.zero_le _), fun q e => hR q (OwnKV.blk h q e).1 (OwnKV.blk h q e).2⟩
-- beside an append to a row of another kind
theorem IntsAt.grown {e2 : TypeId} {n2 s2 : Nat} {v2 : Value} {xs2 : List Value} (h : IntsAt w R v l) (h2 : w.ownsRow 0 e2 s2 v2 n2 xs2) (he : 3 ≠ e2) (hg : w.grownBy w' v2.ownBlock) : IntsAt w' R v l := ⟨own_grown h.1 h2 he hg, h.2⟩
theorem TxtsAt.grown {e2 : TypeId} {n2 s2 : Nat} {v2 : Value} {xs2 : List Value} (h : TxtsAt w R v ts) (h2 : w.ownsRow 0 e2 s2 v2 n2 xs2) (he : 9 ≠ e2) (hg : w.grownBy w' v2.ownBlock) : TxtsAt w' R v ts := ⟨own_grown h.1 h2 he hg, h.2⟩
theorem PairsAt.grown {e2 : TypeId} {n2 s2 : Nat} {v2 : Value} {xs2 : List Value} (h : PairsAt w R v L) (h2 : w.ownsRow 0 e2 s2 v2 n2 xs2) (he : 41 ≠ e2) (hg : w.grownBy w' v2.ownBlock) : PairsAt w' R v L := ⟨own_grown h.1 h2 he hg, h.2⟩
theorem WasAt.grown {e2 : TypeId} {n2 s2 : Nat} {v2 : Value} {xs2 : List Value} (h : WasAt w R v Ls) (h2 : w.ownsRow 0 e2 s2 v2 n2 xs2) (he : 36 ≠ e2) (he2 : 41 ≠ e2) (hg : w.grownBy w' v2.ownBlock) : WasAt w' R v Ls := by
  obtain ⟨xs, q1, q2, q3⟩ := h
  exact ⟨xs, own_grown q1 h2 he hg, q2, fun i hi => by
    obtain ⟨u, u1, u2, u3⟩ := q3 i hi
    exact ⟨u, u1, own_grown u2 h2 he2 hg, u3⟩⟩
-- what a load finds
theorem IntsAt.at {A : Option Addr} {c n : Nat} (h : IntsAt w R (.slice A n c) l) {i : Nat} (hi : i < l.length) : ∃ b off, A = some ⟨b, off, none⟩ ∧ b < w.heap.size ∧ w.cell? ⟨b, off + i, none⟩ = some (.int .i64 l[i]) := by
  obtain ⟨A', c', e, hr⟩ := own_form h.1
  injection e with e1 e2 e3
  subst e1
  obtain ⟨b, off, h1, h2, h3⟩ := hr (fun e => by rw [List.map_eq_nil_iff] at e; rw [e] at hi; simp at hi)
  exact ⟨b, off, h1, h2, h3 i _ (by simp [hi])⟩
theorem TxtsAt.at {A : Option Addr} {c n : Nat} (h : TxtsAt w R (.slice A n c) ts) {i : Nat} (hi : i < ts.length) : ∃ b off, A = some ⟨b, off, none⟩ ∧ b < w.heap.size ∧ w.cell? ⟨b, off + i, none⟩ = some (txt ts[i]) := by
  obtain ⟨A', c', e, hr⟩ := own_form h.1
  injection e with e1 e2 e3
  subst e1
  obtain ⟨b, off, h1, h2, h3⟩ := hr (fun e => by rw [List.map_eq_nil_iff] at e; rw [e] at hi; simp at hi)
  exact ⟨b, off, h1, h2, h3 i _ (by simp [hi])⟩
end
theorem IntsAt.cell {w : World} {R : Nat → Prop} {l : List Int} {b off n c : Nat} (h : IntsAt w R (.slice (some ⟨b, off, none⟩) n c) l) {i : Nat} (hi : i < l.length) : w.cell? ⟨b, off + i, none⟩ = some (.int .i64 l[i]) := by
  obtain ⟨b', off', e, h1, h2⟩ := h.at hi
  injection e with e
  injection e with e1 e2 e3
  subst e1
  subst e2
  exact h2
theorem TxtsAt.cell {w : World} {R : Nat → Prop} {l : List (List UInt8)} {b off n c : Nat} (h : TxtsAt w R (.slice (some ⟨b, off, none⟩) n c) l) {i : Nat} (hi : i < l.length) : w.cell? ⟨b, off + i, none⟩ = some (txt l[i]) := by
  obtain ⟨b', off', e, h1, h2⟩ := h.at hi
  injection e with e
  injection e with e1 e2 e3
  subst e1
  subst e2
  exact h2
theorem WasAt.at {w : World} {R : Nat → Prop} {A : Option Addr} {c n : Nat} {Ls : List (List KV)} (h : WasAt w R (.slice A n c) Ls) {i : Nat} (hi : i < Ls.length) : ∃ b off, A = some ⟨b, off, none⟩ ∧ b < w.heap.size ∧ ∃ Aj cj, w.cell? ⟨b, off + i, none⟩ = some (.slice Aj Ls[i].length cj) ∧ OwnKV w 0 (.slice Aj Ls[i].length cj) Ls[i] := by
  obtain ⟨xs, h1, _, h2⟩ := h
  obtain ⟨u, u1, u2, _⟩ := h2 i hi
  obtain ⟨Aj, cj, hu, _⟩ := u2.rd
  subst hu
  obtain ⟨A', c', e, hr⟩ := own_form h1
  injection e with e1 e2 e3
  subst e1
  obtain ⟨b, off, q1, q2, q3⟩ := hr (fun e => by rw [e] at u1; cases u1)
  exact ⟨b, off, q1, q2, Aj, cj, q3 i _ u1, u2⟩
theorem WasAt.cell {w : World} {R : Nat → Prop} {b off c n : Nat} {Ls : List (List KV)} (h : WasAt w R (.slice (some ⟨b, off, none⟩) n c) Ls) {i : Nat} (hi : i < Ls.length) : ∃ Aj cj, w.cell? ⟨b, off + i, none⟩ = some (.slice Aj Ls[i].length cj) ∧ OwnKV w 0 (.slice Aj Ls[i].length cj) Ls[i] := by
  obtain ⟨b', off', e, h1, h2⟩ := h.at hi
  injection e with e
  injection e with e1 e2 e3
  subst e1
  subst e2
  exact h2
theorem Dk.tidy_tidy {g : Dk} {top : Int} {m : Nat} (h : Good g.F top m) : g.tidy.tidy = g.tidy := by
  unfold Dk.tidy
  show ({ g with F := colF (colF g.F (leastS g.last g.op)) (leastS g.last g.op) } : Dk) = _
  rw [colF_col h]
theorem Told.after {g2 g3 : Dk} {top : Int} {m : Nat} {ids : List Int} {key lo hi : List UInt8} {gs : List (List UInt8)} {Ls : List (List KV)} (h : Told g2 ids key lo hi gs Ls ids.length) (hA : Ask g2 g3) (hg : Good g3.F top m) {j : Nat} (hj : j < ids.length) :
    (∃ h' : j < gs.length, gotW g3.tidy.F (vw g3.tidy.op ids[j]) key = gs[j]) ∧ ∃ h' : j < Ls.length, ∀ L, RangeW g3.tidy.F (vw g3.tidy.op ids[j]) lo hi L → L = Ls[j] := by
  have hv : ∀ p, vw g2.op ids[j] = some p → leastS g3.last g3.op ≤ p.1 := fun p e => by rw [hA.least]; exact vw_least e
  have e1 : vw g3.tidy.op ids[j] = vw g2.op ids[j] := hA.view _
  have e2 : g3.tidy.F = colF g2.F (leastS g3.last g3.op) := by show colF g3.F _ = _; rw [hA.F]
  rw [hA.F] at hg
  rw [e1, e2]
  refine ⟨?_, by rw [h.len]; exact hj, fun L hL => rangeW_col hg hv (h.rs j hj (by rw [h.len]; exact hj)) hL⟩
  obtain ⟨h', q⟩ := h.got hj
  exact ⟨h', by rw [gotW_col hg hv, q]⟩
theorem all_same {g2 g3 : Dk} {top : Int} {m : Nat} {L L' : List KV} (hA : Ask g2 g3) (hg : Good g3.F top m) (h : RangeIs g2.F [] topKey g2.last L) (h' : RangeIs g3.tidy.F [] topKey g3.tidy.last L') : L' = L := by
  have e2 : g3.tidy.F = colF g2.F (leastS g3.last g3.op) := by show colF g3.F _ = _; rw [hA.F]
  have e3 : g3.tidy.last = g2.last := hA.last
  rw [hA.F] at hg
  rw [e2, e3] at h'
  exact h'.ext h (fun s _ => tell_colF hg (by rw [hA.least]; exact (leastT_le _ _).1) s)
theorem WasAt.form {w : World} {R : Nat → Prop} {v : Value} {Ls : List (List KV)} (h : WasAt w R v Ls) : ∃ A c, v = .slice A Ls.length c := by
  obtain ⟨xs, h1, _⟩ := h
  obtain ⟨A, c, e, _⟩ := own_form h1
  exact ⟨A, c, e⟩
/-- The desk among what was asked. -/
structure TdT (w : World) (b0 d : Nat) (g0 g : Dk) (R : Nat → Prop) (vo : Value) (ids : List Int) (va : Value) (La : List KV) (vg : Value) (gs : List (List UInt8)) (vr : Value) (Ls : List (List KV)) : Prop where
  desk : Aside w b0 d g 100 R
  ints : IntsAt w R vo ids
  all : PairsAt w R va La
  txts : TxtsAt w R vg gs
  was : WasAt w R vr Ls
  ask : Ask g0 g
section
variable {w w' : World} {b0 d : Nat} {g0 g g' : Dk} {R R' : Nat → Prop} {vo va vg vr v5 u : Value} {ids : List Int} {La L : List KV} {gs : List (List UInt8)} {Ls : List (List KV)}
theorem TdT.call (h : TdT w b0 d g0 g R vo ids va La vg gs vr Ls) (f : Fr (fun q => b0 ≤ q ∧ ¬ R q) w w') (hD : DeskS w' (fun q => b0 ≤ q ∧ ¬ R q) d g' 100) (hA : Ask g g') : TdT w' b0 d g0 g' R vo ids va La vg gs vr Ls :=
  ⟨h.desk.call f hD, h.ints.fr f (fun q a e => e.2 a), h.all.fr f (fun q a e => e.2 a), h.txts.fr f (fun q a e => e.2 a), h.was.fr f (fun q a e => e.2 a), h.ask.trans hA⟩
theorem TdT.take (h : TdT w b0 d g0 g R vo ids va La vg gs vr Ls) (f : Fr (fun q => b0 ≤ q ∧ ¬ R q) w w') (hD : DeskS w' (fun q => (b0 ≤ q ∧ ¬ R q) ∧ q < w.heap.size) d g' 100) (hA : Ask g g') : TdT w' b0 d g0 g' (andNew R w.heap.size w'.heap.size) vo ids va La vg gs vr Ls :=
  ⟨h.desk.take f.size hD, (h.ints.fr f (fun q a e => e.2 a)).mono andNew.left, (h.all.fr f (fun q a e => e.2 a)).mono andNew.left, (h.txts.fr f (fun q a e => e.2 a)).mono andNew.left, (h.was.fr f (fun q a e => e.2 a)).mono andNew.left, h.ask.trans hA⟩
theorem TdT.below (h : TdT w b0 d g0 g R vo ids va La vg gs vr Ls) (hb : Below w.heap.size w w') : TdT w' b0 d g0 g R vo ids va La vg gs vr Ls :=
  ⟨h.desk.below hb, h.ints.below hb, h.all.below hb, h.txts.below hb, h.was.bel hb, h.ask⟩
theorem TdT.txt1 (h : TdT w b0 d g0 g R vo ids va La vg gs vr Ls) {s : List UInt8} (ho : w'.ownsRow 0 9 1 v5 (gs.length + 1) (gs.map txt ++ [txt s])) (hg : w.grownBy w' vg.ownBlock) (ha : v5.ownBlock = vg.ownBlock ∨ v5.ownBlock = some (w.heap.size + 1)) :
    TdT w' b0 d g0 g (andNew R w.heap.size w'.heap.size) vo ids va La v5 (gs ++ [s]) vr Ls :=
  ⟨h.desk.grown hg h.txts.2, (h.ints.grown h.txts.1 (by decide) hg).mono andNew.left, (h.all.grown h.txts.1 (by decide) hg).mono andNew.left, ⟨by simpa using ho, grown_new hg.size h.txts.2 ho ha⟩, (h.was.grown h.txts.1 (by decide) (by decide) hg).mono andNew.left, h.ask⟩
theorem TdT.was1 (h : TdT w b0 d g0 g R vo ids va La vg gs vr Ls) {xs : List Value} (h1 : w.ownsRow 0 36 1 vr Ls.length xs) (h2 : ∀ q, vr.ownBlock = some q → R q) (h3 : ∀ i (h : i < Ls.length), ∃ u, xs[i]? = some u ∧ OwnKV w 0 u Ls[i] ∧ ∀ q, u.ownBlock = some q → R q)
    (hu : PairsAt w R u L) (ho : w'.ownsRow 0 36 1 v5 (Ls.length + 1) (xs ++ [u])) (hg : w.grownBy w' vr.ownBlock) (ha : v5.ownBlock = vr.ownBlock ∨ v5.ownBlock = some (w.heap.size + 1)) :
    TdT w' b0 d g0 g (andNew R w.heap.size w'.heap.size) vo ids va La vg gs v5 (Ls ++ [L]) :=
  ⟨h.desk.grown hg h2, (h.ints.grown h1 (by decide) hg).mono andNew.left, (h.all.grown h1 (by decide) hg).mono andNew.left, (h.txts.grown h1 (by decide) hg).mono andNew.left,
    WasAt.snoc h1 (fun q e => .inl (h2 q e)) (fun i hi => by obtain ⟨y, a1, a2, a3⟩ := h3 i hi; exact ⟨y, a1, a2, fun q e => .inl (a3 q e)⟩) hu.1 (fun q e => .inl (hu.2 q e)) ho (grown_new hg.size h2 ho ha) hg, h.ask⟩
theorem TdT.tidied {w w' : World} {b0 d : Nat} {g0 g g' : Dk} {R : Nat → Prop} {vo va vg vr : Value} {ids : List Int} {La : List KV} {gs : List (List UInt8)} {Ls : List (List KV)} (h : TdT w b0 d g0 g R vo ids va La vg gs vr Ls) (f : Fr (fun q => b0 ≤ q ∧ ¬ R q) w w') (hD : DeskS w' (fun q => b0 ≤ q ∧ ¬ R q) d g' 100) : TdT w' b0 d g' g' R vo ids va La vg gs vr Ls :=
  ⟨h.desk.call f hD, h.ints.fr f (fun q a e => e.2 a), h.all.fr f (fun q a e => e.2 a), h.txts.fr f (fun q a e => e.2 a), h.was.fr f (fun q a e => e.2 a), Ask.refl _⟩
end
end Go.Proofs.Ytfklhjkgogncdaa

/- The law DeskTidies: the walk of its own text, by the contracts of package desk. Any steps, any key, any ends. No conditions. -/
namespace Go.Proofs.Ytfklhjkgogncdaa
set_option linter.unusedVariables false
set_option linter.unusedSimpArgs false
set_option maxRecDepth 100000
open Go.RowKit

theorem td_zero : faultV 0 = .nilIface := rfl
theorem td_fault {x y : Int} (h : y = x) (hx : x ≠ 0) : faultV y = .iface 61 (.int .i64 x) := by rw [h]; unfold faultV; rw [if_neg hx]
theorem td_rd {w : World} {base : Nat} {A : Option Addr} {c n : Nat} {L : List KV} (h : OwnKV w base (.slice A n c) L) : Rd w w.heap.size A (flatE encKV L) := by
  obtain ⟨A', c', e, h1⟩ := h.rd
  injection e with e1 e2 e3
  subst e1
  exact h1
set_option maxHeartbeats 40000000 in
theorem deskTidies_walk (A : Option Addr) (l : List Stp) (c : Nat) (hm : l.length ≤ maxLen) (hS : ∀ s ∈ l, StpOk s) (key : List UInt8) (hkey : key.length ≤ maxLen) (low : List UInt8) (hlow : low.length ≤ maxLen) (high : List UInt8) (hhigh : high.length ≤ maxLen)
    (w : World) (hl : Rd w w.heap.size A (cellsS l)) :
    Calls Try.prog 5 #[.slice A l.length c, txt key, txt low, txt high] w fun e w' => e = .returned (.bool true) ∧ Below w.heap.size w w' := by
  have HS := Lib.hid hS
  clear hS
  go_enter Try.func5, Try.ntmps5
  go_wp2_with fail
  refine (deskNew_ok 100000 (by decide) w).mono ?_
  rintro e w1 ⟨d, rfl, hd0, hD1, hb1⟩
  have HD1 := Lib.hid hD1
  clear hD1
  go_upto_block 0 with fail
  go_cut [11] (fun i wx => ∃ (g : Dk), Hid (DeskS wx (fun q => w.heap.size ≤ q) d g 4 ∧ TdI g 2) ∧ Below w.heap.size w wx)
  case first =>
    as_aux_lemma =>
      go_wp2
      go_loopw [11] (fun i wr => ∃ (k : Nat) (g : Dk), i = .int .i64 k ∧ k ≤ 2 ∧ Hid (DeskS wr (fun q => w.heap.size ≤ q) d g (2 * k) ∧ TdI g k) ∧ Below w.heap.size w wr) (fun i _ => 40 - (intOf i).toNat)
      case atStart => exact ⟨0, _, by go_num, by omega, Lib.hid ⟨HD1.out, TdI.new⟩, hb1⟩
      case round =>
        obtain ⟨k, g, rfl, hk1, hDI, hb⟩ := hrel
        by_cases hlt : k < 2
        · have hI : (k : Int) < 2 := by omega
          have hI2 : (0 : Int) ≤ (k : Int) := by omega
          obtain ⟨g1, g2, g3, p1, p2, p3, hT3⟩ := hDI.out.2.round (by omega) (by obtain ⟨m, _, top, ht, hg⟩ := hDI.out.1.good; exact NoLater.of hg (by rw [← hDI.out.2.last]; exact ht))
          have HT3 := Lib.hid hT3
          have HP2 := Lib.hid p2
          have HP3 := Lib.hid p3
          have hidw : (Lit.int .i64 ((k : Int) + 1)).wf = true := wf_i64 (by omega)
          have hsw := hb.size
          have HC1 := hDI.out.1.begin_s (fun q hq => by omega) (by omega)
          rw [p1] at HC1
          simp only [td_zero] at HC1
          have HC1 := Lib.hid HC1
          have HB0 := Lib.hid hb
          clear hDI hb p1 p2 p3 hT3
          go_wp2_with fail
          refine HC1.out.mono ?_
          rintro e w2 ⟨rfl, f2, hD2⟩
          have hs2 := f2.size
          have HB2 := Lib.hid (HB0.out.trans (f2.below hsw (fun _ h => h)))
          have HC2 := hD2.put_s (fun q hq => by omega) hidw [107] [118] (by decide) (by decide)
          rw [HP2.out] at HC2
          simp only [td_zero] at HC2
          have HC2 := Lib.hid HC2
          clear hD2 f2
          go_wp2_with fail
          refine HC2.out.mono ?_
          rintro e w3 ⟨rfl, f3, hD3⟩
          have hs3 := f3.size
          have HB3 := Lib.hid (HB2.out.trans (f3.below (by omega) (fun _ h => h)))
          have HC3 := hD3.commit_s (fun q hq => by omega) (by omega) hidw
          rw [HP3.out] at HC3
          simp only [td_zero] at HC3
          have HC3 := Lib.hid HC3
          clear hD3 f3
          go_wp2_with fail
          refine HC3.out.mono ?_
          rintro e w4 ⟨rfl, f4, hD4⟩
          have HB4 := Lib.hid (HB3.out.trans (f4.below (by omega) (fun _ h => h)))
          have HR4 := Lib.hid (⟨hD4.more (by omega), HT3.out⟩ : DeskS w4 (fun q => w.heap.size ≤ q) d g3 (2 * (k + 1)) ∧ TdI g3 (k + 1))
          clear hD4 f4
          go_wp2
          go_roundw
          case rel => exact ⟨k + 1, _, by go_num, by omega, HR4, HB4.out⟩
          case measure => simp [intOf]; omega
        · have hk2 : k = 2 := by omega
          subst hk2
          go_wp2
          go_meet
          case rel => exact ⟨g, hDI, hb⟩
  case rest =>
    obtain ⟨g, hDI, hb⟩ := hcut
    have HC1 := Lib.hid (hDI.out.1.tidy_s (fun q hq => by have := hb.size; omega) (by omega))
    have HT := Lib.hid hDI.out.2
    have hsw := hb.size
    have HB0 := Lib.hid hb
    clear hb hDI
    go_wp2_with fail
    refine HC1.out.mono ?_
    rintro e w2 ⟨N, j, rfl, hN, hj, f2, hD2⟩
    have hs2 := f2.size
    obtain ⟨rfl, rfl⟩ := HT.out.tidied hN hj
    have HB2 := Lib.hid (HB0.out.trans (f2.below hsw (fun _ h => h)))
    have HN := Lib.hid hN
    have HC2 := Lib.hid (hD2.size_s (by omega))
    have HD2 := Lib.hid hD2
    clear hD2 f2 hN hj
    go_wp2_with fail
    refine HC2.out.mono ?_
    rintro e w3 ⟨N3, rfl, hN3, _, hb3⟩
    obtain rfl : N3 = 1 := hN3.unique HN.out
    have hs3 := hb3.size
    have HB3 := Lib.hid (HB2.out.trans (hb3.mono (by omega)))
    have hA3 : Aside w3 w.heap.size d g.tidy 4 (fun _ => False) := ⟨fun q e => e.elim, by omega, (HD2.out.below hb3).mono (fun q hq => ⟨hq, fun e => e⟩)⟩
    have hJ3 : TdJ g.tidy [] := ⟨fun t ht => (by rw [show g.tidy.op = g.op from rfl, HT.out.own.op] at ht; cases ht), List.Pairwise.nil, fun x hx => (by cases hx)⟩
    have HA3 := Lib.hid (⟨hA3, IntsAt.nil _ _, hJ3⟩ : Aside w3 w.heap.size d g.tidy 4 (fun _ => False) ∧ IntsAt w3 (fun _ => False) (.slice none 0 0) [] ∧ TdJ g.tidy [])
    clear hA3 hJ3 hN3 hb3 HC1 HC2
    go_upto_block 2 with fail
    go_cut [18, 19] (fun vo i wx => ∃ (g' : Dk) (ids : List Int) (R : Nat → Prop), ids.length ≤ 60 ∧ Hid (Aside wx w.heap.size d g' 100 R ∧ IntsAt wx R vo ids ∧ TdJ g' ids) ∧ Below w.heap.size w wx)
    case first =>
      go_wp2
      go_loopw [18, 19] (fun vo i wr => ∃ (k : Nat) (g' : Dk) (ids : List Int) (R : Nat → Prop), i = .int .i64 k ∧ k ≤ l.length ∧ k ≤ 60 ∧ ids.length ≤ k ∧ Hid (Aside wr w.heap.size d g' (4 + k) R ∧ IntsAt wr R vo ids ∧ TdJ g' ids) ∧ Below w.heap.size w wr) (fun _ i _ => 60 - (intOf i).toNat)
      case atStart => exact ⟨0, _, [], _, by go_num, by omega, by omega, by simp, HA3, HB3.out⟩
      case round =>
        obtain ⟨k, g', ids, R, rfl, hk1, hk2, hil, hFI, hb⟩ := hrel
        by_cases hlt1 : k < l.length
        · by_cases hlt2 : k < 60
          · obtain ⟨b0, of0, rfl, hbb0, c0, c1, c2, c3, c4, c5⟩ := (hl.below hb).stp hlt1
            obtain ⟨s1, s2, s3, s4, s5⟩ := HS.out l[k] (List.getElem_mem _)
            have hI : (k : Int) < (l.length : Int) := by omega
            have hI2 : (0 : Int) ≤ (k : Int) := by omega
            have hI3 : (k : Int) < 60 := by omega
            have HB := Lib.hid hb
            have hbsz := hb.size
            clear hb
            go_upto_region 20 with fail
            have hbs : Below wr.heap.size wr (wr.alloc (.cells #[.int .i64 l[k].what, .int .i64 l[k].who, .string ⟨l[k].key.toArray⟩, .string ⟨l[k].to.toArray⟩, .string ⟨l[k].val.toArray⟩, .int .i64 l[k].n] 29)) := (Below.refl _ _).alloc (Nat.le_refl _) _
            have hBx := Blk.new wr 29 #[.int .i64 l[k].what, .int .i64 l[k].who, .string ⟨l[k].key.toArray⟩, .string ⟨l[k].to.toArray⟩, .string ⟨l[k].val.toArray⟩, .int .i64 l[k].n]
            have hRn : ∀ q, wr.heap.size ≤ q → q < (wr.alloc (.cells #[.int .i64 l[k].what, .int .i64 l[k].who, .string ⟨l[k].key.toArray⟩, .string ⟨l[k].to.toArray⟩, .string ⟨l[k].val.toArray⟩, .int .i64 l[k].n] 29)).heap.size → andNew R wr.heap.size (wr.alloc (.cells #[.int .i64 l[k].what, .int .i64 l[k].who, .string ⟨l[k].key.toArray⟩, .string ⟨l[k].to.toArray⟩, .string ⟨l[k].val.toArray⟩, .int .i64 l[k].n] 29)).heap.size q := fun q a b => .inr ⟨a, b⟩
            have hA := hFI.out.1.new hbs
            have hV := (hFI.out.2.1.below hbs).mono (andNew.left (R := R) (a := wr.heap.size) (b := (wr.alloc (.cells #[.int .i64 l[k].what, .int .i64 l[k].who, .string ⟨l[k].key.toArray⟩, .string ⟨l[k].to.toArray⟩, .string ⟨l[k].val.toArray⟩, .int .i64 l[k].n] 29)).heap.size))
            have HJ := Lib.hid hFI.out.2.2
            have HBa := Lib.hid (HB.out.trans (hbs.mono hbsz))
            have hRbox := hRn wr.heap.size (Nat.le_refl _) (by simp)
            generalize hg0 : andNew R wr.heap.size (wr.alloc (.cells #[.int .i64 l[k].what, .int .i64 l[k].who, .string ⟨l[k].key.toArray⟩, .string ⟨l[k].to.toArray⟩, .string ⟨l[k].val.toArray⟩, .int .i64 l[k].n] 29)).heap.size = R1 at *
            generalize hg1 : wr.heap.size = bx at *
            generalize hW3 : wr.alloc (.cells #[.int .i64 l[k].what, .int .i64 l[k].who, .string ⟨l[k].key.toArray⟩, .string ⟨l[k].to.toArray⟩, .string ⟨l[k].val.toArray⟩, .int .i64 l[k].n] 29) = wa at *
            obtain ⟨Aw, cw, hvw, _⟩ := own_form hV.1
            subst hvw
            have hsa : w.heap.size ≤ wa.heap.size := hA.hb
            have hids : (0 : Int) ≤ g'.ids := hA.desk.ok.hids.1
            have HIDS := Lib.hid hids
            have z0 := hBx.cell 0
            have z1 := hBx.cell 1
            have z2 := hBx.cell 2
            have z4 := hBx.cell 4
            simp at z0 z1 z2 z4
            have HA := Lib.hid hA
            have HV := Lib.hid hV
            have HUP := Lib.hid hA.up
            clear hW3 hbs hRn hg0 hg1 hbsz hA hV hFI hBx HB c0 c1 c2 c3 c4 c5 hids
            by_cases e0 : l[k].what = 0
            · have f0 : (l[k].what == 0) = true := by simpa using e0
              as_aux_lemma =>
                clear e0
                have HC := Lib.hid (HA.out.desk.begin_s HUP.out (by omega))
                have HCC := Lib.hid (HJ.out.begin HIDS.out)
                go_wp2_with fail
                refine HC.out.mono ?_
                rintro e w3 ⟨rfl, h3, hD3⟩
                have hs3' := h3.size
                have HB3' := Lib.hid (HBa.out.trans (h3.below hsa (fun _ h => h.1)))
                have hA3 := (HA.out.call h3 hD3).more (k' := 4 + (k + 1)) (by omega)
                have hV3 := HV.out.fr h3 (fun q h e => e.2 h)
                rcases HCC.out with ⟨x, hx0, q1, q2⟩ | ⟨q1, q2, q3⟩
                · have hfx := td_fault q1 hx0
                  have HR3 := Lib.hid (show Aside w3 w.heap.size d g'.begin.2.2 (4 + (k + 1)) R1 ∧ IntsAt w3 R1 (.slice Aw ids.length cw) ids ∧ TdJ g'.begin.2.2 ids from ⟨hA3, hV3, q2⟩)
                  rw [hfx]
                  clear h3 hD3 hA3 hV3 q1 q2 hfx HCC HC
                  go_wp2
                  go_roundw
                  case rel => exact ⟨k + 1, _, ids, R1, by go_num, by omega, by omega, by omega, HR3, HB3'.out⟩
                  case measure => simp [intOf]; omega
                · have hfx : faultV g'.begin.2.1 = .nilIface := by rw [q1]; rfl
                  have HJ3 := Lib.hid q3
                  have HA3' := Lib.hid hA3
                  have HV3' := Lib.hid hV3
                  have hone : ∀ u ∈ (#[Value.int .i64 (g'.ids + 1)] : Array Value).toList, u.oneCell' = true := by
                    intro u hu
                    simp at hu
                    subst hu
                    rfl
                  have hown := hV3.1
                  have hrow := hV3.2
                  have hlen : ids.length < 1000000000 := by omega
                  rw [hfx, q2]
                  clear h3 hD3 hA3 hV3 q1 q2 q3 hfx HCC HC
                  go_wp2_with (at_builtin; go_must (refine wpList_append_elt rfl _ _ 50 rfl 3 Try.underlying50 _ 1 8 infoI rfl (by decide) (by decide) 0 _ ids.length (ids.map (Value.int .i64)) rfl hown #[.int .i64 (g'.ids + 1)] rfl hone rfl hlen (Nat.zero_le _) ?_); intro v5 w5 hown5 hg5 hat5)
                  have hA5 := HA3'.out.grown hg5 hrow
                  have hV5 : IntsAt w5 (andNew R1 w3.heap.size w5.heap.size) v5 (ids ++ [g'.ids + 1]) := ⟨by simpa using hown5, grown_new hg5.size hrow hown5 hat5⟩
                  have HR5 := Lib.hid (show Aside w5 w.heap.size d g'.begin.2.2 (4 + (k + 1)) (andNew R1 w3.heap.size w5.heap.size) ∧ IntsAt w5 (andNew R1 w3.heap.size w5.heap.size) v5 (ids ++ [g'.ids + 1]) ∧ TdJ g'.begin.2.2 (ids ++ [g'.ids + 1]) from ⟨hA5, hV5, HJ3.out⟩)
                  have HB5 := Lib.hid (HB3'.out.grown hg5 (by omega) (fun q e => (HA3'.out.hR q (hrow q e)).1))
                  have hil5 : (ids ++ [g'.ids + 1]).length ≤ k + 1 := by simp; omega
                  clear hown5 hg5 hat5 hA5 hV5 hown hrow
                  go_wp2
                  go_roundw
                  case rel => exact ⟨k + 1, _, _, _, by go_num, by omega, by omega, hil5, HR5, HB5.out⟩
                  case measure => simp [intOf]; omega
            · have f0 : (l[k].what == 0) = false := by simpa using e0
              by_cases e1 : l[k].what = 1
              · have f1 : (l[k].what == 1) = true := by simpa using e1
                as_aux_lemma =>
                  clear e0 e1
                  have HC := Lib.hid (HA.out.desk.put_s HUP.out s2 l[k].key l[k].val s3 s5)
                  go_wp2_with fail
                  refine HC.out.mono ?_
                  rintro e w3 ⟨rfl, h3, hD3⟩
                  have HB3' := Lib.hid (HBa.out.trans (h3.below hsa (fun _ h => h.1)))
                  have HR3 := Lib.hid (show Aside w3 w.heap.size d ((g'.change l[k].who ⟨l[k].key, l[k].val, false⟩).2) (4 + (k + 1)) R1 ∧ IntsAt w3 R1 (.slice Aw ids.length cw) ids ∧ TdJ ((g'.change l[k].who ⟨l[k].key, l[k].val, false⟩).2) ids from ⟨(HA.out.call h3 hD3).more (by omega), HV.out.fr h3 (fun q h e => e.2 h), HJ.out.change _ _⟩)
                  clear h3 hD3
                  go_wp2
                  go_roundw
                  case rel => exact ⟨k + 1, _, ids, R1, by go_num, by omega, by omega, by omega, HR3, HB3'.out⟩
                  case measure => simp [intOf]; omega
              · have f1 : (l[k].what == 1) = false := by simpa using e1
                by_cases e2 : l[k].what = 2
                · have f2 : (l[k].what == 2) = true := by simpa using e2
                  as_aux_lemma =>
                    clear e0 e1 e2
                    have HC := Lib.hid (HA.out.desk.put_s HUP.out s2 l[k].key l[k].val s3 s5)
                    go_wp2_with fail
                    refine HC.out.mono ?_
                    rintro e w3 ⟨rfl, h3, hD3⟩
                    have HB3' := Lib.hid (HBa.out.trans (h3.below hsa (fun _ h => h.1)))
                    have HR3 := Lib.hid (show Aside w3 w.heap.size d ((g'.change l[k].who ⟨l[k].key, l[k].val, false⟩).2) (4 + (k + 1)) R1 ∧ IntsAt w3 R1 (.slice Aw ids.length cw) ids ∧ TdJ ((g'.change l[k].who ⟨l[k].key, l[k].val, false⟩).2) ids from ⟨(HA.out.call h3 hD3).more (by omega), HV.out.fr h3 (fun q h e => e.2 h), HJ.out.change _ _⟩)
                    clear h3 hD3
                    go_wp2
                    go_roundw
                    case rel => exact ⟨k + 1, _, ids, R1, by go_num, by omega, by omega, by omega, HR3, HB3'.out⟩
                    case measure => simp [intOf]; omega
                · have f2 : (l[k].what == 2) = false := by simpa using e2
                  by_cases e3 : l[k].what = 3
                  · have f3 : (l[k].what == 3) = true := by simpa using e3
                    as_aux_lemma =>
                      clear e0 e1 e2 e3
                      have HC := Lib.hid (HA.out.desk.put_s HUP.out s2 l[k].key l[k].val s3 s5)
                      go_wp2_with fail
                      refine HC.out.mono ?_
                      rintro e w3 ⟨rfl, h3, hD3⟩
                      have HB3' := Lib.hid (HBa.out.trans (h3.below hsa (fun _ h => h.1)))
                      have HR3 := Lib.hid (show Aside w3 w.heap.size d ((g'.change l[k].who ⟨l[k].key, l[k].val, false⟩).2) (4 + (k + 1)) R1 ∧ IntsAt w3 R1 (.slice Aw ids.length cw) ids ∧ TdJ ((g'.change l[k].who ⟨l[k].key, l[k].val, false⟩).2) ids from ⟨(HA.out.call h3 hD3).more (by omega), HV.out.fr h3 (fun q h e => e.2 h), HJ.out.change _ _⟩)
                      clear h3 hD3
                      go_wp2
                      go_roundw
                      case rel => exact ⟨k + 1, _, ids, R1, by go_num, by omega, by omega, by omega, HR3, HB3'.out⟩
                      case measure => simp [intOf]; omega
                  · have f3 : (l[k].what == 3) = false := by simpa using e3
                    by_cases e4 : l[k].what = 4
                    · have f4 : (l[k].what == 4) = true := by simpa using e4
                      as_aux_lemma =>
                        clear e0 e1 e2 e3 e4
                        have HC := Lib.hid (HA.out.desk.put_s HUP.out s2 l[k].key l[k].val s3 s5)
                        go_wp2_with fail
                        refine HC.out.mono ?_
                        rintro e w3 ⟨rfl, h3, hD3⟩
                        have HB3' := Lib.hid (HBa.out.trans (h3.below hsa (fun _ h => h.1)))
                        have HR3 := Lib.hid (show Aside w3 w.heap.size d ((g'.change l[k].who ⟨l[k].key, l[k].val, false⟩).2) (4 + (k + 1)) R1 ∧ IntsAt w3 R1 (.slice Aw ids.length cw) ids ∧ TdJ ((g'.change l[k].who ⟨l[k].key, l[k].val, false⟩).2) ids from ⟨(HA.out.call h3 hD3).more (by omega), HV.out.fr h3 (fun q h e => e.2 h), HJ.out.change _ _⟩)
                        clear h3 hD3
                        go_wp2
                        go_roundw
                        case rel => exact ⟨k + 1, _, ids, R1, by go_num, by omega, by omega, by omega, HR3, HB3'.out⟩
                        case measure => simp [intOf]; omega
                    · have f4 : (l[k].what == 4) = false := by simpa using e4
                      by_cases e5 : l[k].what = 5
                      · have f5 : (l[k].what == 5) = true := by simpa using e5
                        as_aux_lemma =>
                          clear e0 e1 e2 e3 e4 e5
                          have HC := Lib.hid (HA.out.desk.drop_s HUP.out s2 l[k].key s3)
                          go_wp2_with fail
                          refine HC.out.mono ?_
                          rintro e w3 ⟨rfl, h3, hD3⟩
                          have HB3' := Lib.hid (HBa.out.trans (h3.below hsa (fun _ h => h.1)))
                          have HR3 := Lib.hid (show Aside w3 w.heap.size d ((g'.change l[k].who ⟨l[k].key, [], true⟩).2) (4 + (k + 1)) R1 ∧ IntsAt w3 R1 (.slice Aw ids.length cw) ids ∧ TdJ ((g'.change l[k].who ⟨l[k].key, [], true⟩).2) ids from ⟨(HA.out.call h3 hD3).more (by omega), HV.out.fr h3 (fun q h e => e.2 h), HJ.out.change _ _⟩)
                          clear h3 hD3
                          go_wp2
                          go_roundw
                          case rel => exact ⟨k + 1, _, ids, R1, by go_num, by omega, by omega, by omega, HR3, HB3'.out⟩
                          case measure => simp [intOf]; omega
                      · have f5 : (l[k].what == 5) = false := by simpa using e5
                        by_cases e6 : l[k].what = 6
                        · have f6 : (l[k].what == 6) = true := by simpa using e6
                          as_aux_lemma =>
                            clear e0 e1 e2 e3 e4 e5 e6
                            have HC := Lib.hid (HA.out.desk.commit_s HUP.out (by omega) s2)
                            go_wp2_with fail
                            refine HC.out.mono ?_
                            rintro e w3 ⟨rfl, h3, hD3⟩
                            have HB3' := Lib.hid (HBa.out.trans (h3.below hsa (fun _ h => h.1)))
                            have HR3 := Lib.hid (show Aside w3 w.heap.size d ((g'.commit l[k].who).2.2) (4 + (k + 1)) R1 ∧ IntsAt w3 R1 (.slice Aw ids.length cw) ids ∧ TdJ ((g'.commit l[k].who).2.2) ids from ⟨(HA.out.call h3 hD3).more (by omega), HV.out.fr h3 (fun q h e => e.2 h), HJ.out.commit _⟩)
                            clear h3 hD3
                            go_wp2
                            go_roundw
                            case rel => exact ⟨k + 1, _, ids, R1, by go_num, by omega, by omega, by omega, HR3, HB3'.out⟩
                            case measure => simp [intOf]; omega
                        · have f6 : (l[k].what == 6) = false := by simpa using e6
                          by_cases e7 : l[k].what = 7
                          · have f7 : (l[k].what == 7) = true := by simpa using e7
                            as_aux_lemma =>
                              clear e0 e1 e2 e3 e4 e5 e6 e7
                              have HC := Lib.hid (HA.out.desk.commit_s HUP.out (by omega) s2)
                              go_wp2_with fail
                              refine HC.out.mono ?_
                              rintro e w3 ⟨rfl, h3, hD3⟩
                              have HB3' := Lib.hid (HBa.out.trans (h3.below hsa (fun _ h => h.1)))
                              have HR3 := Lib.hid (show Aside w3 w.heap.size d ((g'.commit l[k].who).2.2) (4 + (k + 1)) R1 ∧ IntsAt w3 R1 (.slice Aw ids.length cw) ids ∧ TdJ ((g'.commit l[k].who).2.2) ids from ⟨(HA.out.call h3 hD3).more (by omega), HV.out.fr h3 (fun q h e => e.2 h), HJ.out.commit _⟩)
                              clear h3 hD3
                              go_wp2
                              go_roundw
                              case rel => exact ⟨k + 1, _, ids, R1, by go_num, by omega, by omega, by omega, HR3, HB3'.out⟩
                              case measure => simp [intOf]; omega
                          · have f7 : (l[k].what == 7) = false := by simpa using e7
                            as_aux_lemma =>
                              clear e0 e1 e2 e3 e4 e5 e6 e7
                              have HR3 := Lib.hid (show Aside wa w.heap.size d g' (4 + (k + 1)) R1 ∧ IntsAt wa R1 (.slice Aw ids.length cw) ids ∧ TdJ g' ids from ⟨HA.out.more (by omega), HV.out, HJ.out⟩)
                              go_wp2
                              go_roundw
                              case rel => exact ⟨k + 1, _, ids, R1, by go_num, by omega, by omega, by omega, HR3, HBa.out⟩
                              case measure => simp [intOf]; omega
          · have d60 : decide ((k : Int) < 60) = false := decide_eq_false (by omega)
            go_wp2
            go_meet
            case rel => exact ⟨g', ids, R, by omega, Lib.hid ⟨hFI.out.1.more (by omega), hFI.out.2⟩, hb⟩
        · go_wp2
          go_meet
          case rel => exact ⟨g', ids, R, by omega, Lib.hid ⟨hFI.out.1.more (by omega), hFI.out.2⟩, hb⟩
    case rest =>
      obtain ⟨g2, ids, R, hil, hFI, hb⟩ := hcut
      obtain ⟨Ao, co, hvo, _⟩ := own_form hFI.out.2.1.1
      subst hvo
      have HC3 := Lib.hid (hFI.out.1.desk.all_s (by omega))
      have HFI := Lib.hid hFI.out
      have HB4 := Lib.hid hb
      have hsw4 := hb.size
      clear hb hFI HT HB0 HB2 HB3 HN HD2 HA3
      go_wp2_with fail
      refine HC3.out.mono ?_
      rintro e w5 ⟨va, La, rfl, hOa, hRa, hLa, hb5⟩
      obtain ⟨Aa, ca, hva, _⟩ := hOa.rd
      subst hva
      have hT5 : TdT w5 w.heap.size d g2 g2 (andNew R wc.heap.size w5.heap.size) (.slice Ao ids.length co) ids (.slice Aa La.length ca) La (.slice none 0 0) [] (.slice none 0 0) [] :=
        ⟨HFI.out.1.new hb5, (HFI.out.2.1.below hb5).mono andNew.left, PairsAt.fresh hOa (fun q a b => .inr ⟨a, b⟩), TxtsAt.nil _ _, WasAt.nil _ _, Ask.refl _⟩
      have HT5 := Lib.hid hT5
      have HJ := Lib.hid HFI.out.2.2
      have hgids : g2.ids ≤ 100 := HFI.out.1.desk.ok.hids.2
      have HGI := Lib.hid hgids
      have HGood := Lib.hid HFI.out.1.desk.good
      have HB5 := Lib.hid (HB4.out.trans (hb5.mono hsw4))
      have HRa := Lib.hid hRa
      clear hOa hRa hb5 hT5 hgids HC3 HFI HB4
      go_upto_block 5 with fail
      go_cut [24, 25, 26] (fun vg vr _ wx => ∃ (g3 : Dk) (gs : List (List UInt8)) (Ls : List (List KV)) (R3 : Nat → Prop), Hid (TdT wx w.heap.size d g2 g3 R3 (.slice Ao ids.length co) ids (.slice Aa La.length ca) La vg gs vr Ls ∧ AskN g3 ids 0 ∧ Told g2 ids key low high gs Ls ids.length) ∧ Below w.heap.size w wx)
      case first =>
        go_wp2
        go_loopw [24, 25, 26] (fun vg vr i wr => ∃ (k : Nat) (g3 : Dk) (gs : List (List UInt8)) (Ls : List (List KV)) (R3 : Nat → Prop), i = .int .i64 k ∧ k ≤ ids.length ∧ Hid (TdT wr w.heap.size d g2 g3 R3 (.slice Ao ids.length co) ids (.slice Aa La.length ca) La vg gs vr Ls ∧ AskN g3 (ids.take k) 0 ∧ Told g2 ids key low high gs Ls k) ∧ Below w.heap.size w wr) (fun _ _ i _ => 60 - (intOf i).toNat)
        case atStart => exact ⟨0, _, _, _, _, by go_num, by omega, Lib.hid ⟨HT5.out, AskN.start HJ.out, Told.nil⟩, HB5.out⟩
        case round =>
          obtain ⟨k, g3, gs, Ls, R3, rfl, hk1, hFI, hb⟩ := hrel
          by_cases hlt : k < ids.length
          · have hI : (k : Int) < (ids.length : Int) := by omega
            have hI2 : (0 : Int) ≤ (k : Int) := by omega
            obtain ⟨bo, oo, rfl, hbo, c0⟩ := hFI.out.1.ints.at hlt
            obtain ⟨Ag, cg, hvg, _⟩ := own_form hFI.out.1.txts.1
            subst hvg
            obtain ⟨Aw, cw, hvw⟩ := hFI.out.1.was.form
            subst hvw
            have hids := HJ.out.le ids[k] (List.getElem_mem _)
            have hidw : (Lit.int .i64 ids[k]).wf = true := wf_i64 (by have := HGI.out; omega)
            have hnot := rise_notin HJ.out.rise hlt
            have HC := Lib.hid (hFI.out.1.desk.desk.get_s hFI.out.1.desk.up (by omega) hidw key hkey)
            have HG := Lib.hid (hFI.out.1.ask.get_told hFI.out.2.1 (by omega) hnot key)
            have HN1 := Lib.hid (AskN.get hFI.out.2.1 hnot key)
            have HAG := Lib.hid (Ask.get hFI.out.1.desk.desk.ok.ids ids[k] key)
            have HNOT := Lib.hid hnot
            have HFI := Lib.hid hFI.out
            have hsr := hb.size
            have HB := Lib.hid hb
            have hglen : gs.length = k := hFI.out.2.2.glen hk1
            have hllen : Ls.length = k := hFI.out.2.2.len
            have hlenT : gs.length < 1000000000 := by omega
            have hlenL : Ls.length < 1000000000 := by omega
            clear hFI hb hnot hids hglen hllen
            go_wp2_with fail
            refine HC.out.mono ?_
            rintro e w3 ⟨rfl, h3, hD3⟩
            have hT3 := HFI.out.1.call h3 hD3 HAG.out
            have HB3 := Lib.hid (HB.out.trans (h3.below hsr (fun _ h => h.1)))
            have hs3 : w.heap.size ≤ w3.heap.size := hT3.desk.hb
            have HT3 := Lib.hid hT3
            have hownT := hT3.txts.1
            have hrowT := hT3.txts.2
            clear h3 hD3 hT3 HC
            rcases HG.out with ⟨q1, q2⟩ | ⟨x, hx0, q1, q2⟩
            · have hfx : faultV (g3.get ids[k] key).2.1 = .nilIface := by rw [q1]; rfl
              rw [hfx, q2]
              clear hfx q1 q2 HG
              as_aux_lemma =>
                have hone : ∀ u ∈ (#[txt (gotW g2.F (vw g2.op ids[k]) key)] : Array Value).toList, u.oneCell' = true := by
                  intro u hu
                  simp at hu
                  subst hu
                  rfl
                go_wp2_with (at_builtin; go_must (refine wpList_append_elt rfl _ _ 51 rfl 9 Try.underlying51 _ 1 16 infoTx rfl (by decide) (by decide) 0 _ gs.length (gs.map txt) rfl hownT #[txt (gotW g2.F (vw g2.op ids[k]) key)] rfl hone rfl hlenT (Nat.zero_le _) ?_); intro v5 w5 hown5 hg5 hat5; have c1 := (HT3.out.txt1 (s := gotW g2.F (vw g2.op ids[k]) key) hown5 hg5 hat5).ints.cell hlt)
                have hT5' := HT3.out.txt1 (s := gotW g2.F (vw g2.op ids[k]) key) hown5 hg5 hat5
                have HB5' := Lib.hid (HB3.out.grown hg5 hs3 (fun q e => (HT3.out.desk.hR q (hrowT q e)).1))
                have hs5 : w.heap.size ≤ w5.heap.size := hT5'.desk.hb
                have HC2 := Lib.hid (hT5'.desk.desk.range_s (by omega) hidw low high hlow hhigh)
                have HAR := Lib.hid (Ask.range hT5'.desk.desk.ok.ids ids[k] low high)
                have HT5' := Lib.hid hT5'
                clear hown5 hg5 hat5 hownT hrowT hT5' hone c0
                go_wp2_with fail
                refine HC2.out.mono ?_
                rintro e w6 ⟨v6, L6, rfl, hO6, hR6, _, h6, hD6⟩
                obtain ⟨A6, c6, hv6, _⟩ := hO6.rd
                subst hv6
                have hT6 := HT5'.out.take h6 hD6 HAR.out
                have hP6 : PairsAt w6 _ (.slice A6 L6.length c6) L6 := PairsAt.fresh hO6 (fun q a b => andNew_new (R := andNew R3 w3.heap.size w5.heap.size) a b)
                have HB6 := Lib.hid (HB5'.out.trans (h6.below hs5 (fun _ h => h.1)))
                have hs6 : w.heap.size ≤ w6.heap.size := hT6.desk.hb
                obtain ⟨p1, p2⟩ := HT5'.out.ask.range_told HN1.out (by omega) hR6
                have HP1 := Lib.hid p1
                have HT6 := Lib.hid hT6
                have HP6 := Lib.hid hP6
                obtain ⟨xs, x1, x2, x3⟩ := hT6.was
                have HX2 := Lib.hid x2
                have HX3 := Lib.hid x3
                clear hO6 hR6 h6 hD6 hT6 hP6 p1 x2 x3 HC2
                rcases p2 with q | ⟨x2, hx2, q, hnil⟩
                · have hfx2 : faultV (Dk.range (g3.get ids[k] key).2.2 ids[k] low high).1 = .nilIface := by rw [q]; rfl
                  rw [hfx2]
                  clear hfx2 q
                  have hone2 : ∀ u ∈ (#[.slice A6 L6.length c6] : Array Value).toList, u.oneCell' = true := by
                    intro u hu
                    simp at hu
                    subst hu
                    rfl
                  go_wp2_with (at_builtin; go_must (refine wpList_append_elt rfl _ _ 46 rfl 36 Try.underlying46 _ 1 24 infoPP rfl (by decide) (by decide) 0 _ Ls.length xs rfl x1 #[.slice A6 L6.length c6] rfl hone2 rfl hlenL (Nat.zero_le _) ?_); intro v7 w7 hown7 hg7 hat7)
                  have hT7 := HT6.out.was1 x1 HX2.out HX3.out (HP6.out) hown7 hg7 hat7
                  have HB7 := Lib.hid (HB6.out.grown hg7 hs6 (fun q e => (HT6.out.desk.hR q (HX2.out q e)).1))
                  have hN7 := AskM.range HN1.out HNOT.out low high
                  rw [← take_snoc hlt] at hN7
                  have HR7 := Lib.hid (⟨hT7, hN7, HFI.out.2.2.snoc hlt rfl HP1.out⟩ : TdT w7 w.heap.size d g2 _ _ (.slice (some ⟨bo, oo, none⟩) ids.length co) ids (.slice Aa La.length ca) La v5 _ v7 _ ∧ AskN _ (ids.take (k + 1)) 0 ∧ Told g2 ids key low high _ _ (k + 1))
                  clear hown7 hg7 hat7 hT7 hN7 x1 hone2
                  go_wp2
                  go_roundw
                  case rel => exact ⟨k + 1, _, _, _, _, by go_num, by omega, HR7, HB7.out⟩
                  case measure => simp [intOf]; omega
                · have hfx2 := td_fault q hx2
                  subst hnil
                  rw [hfx2]
                  clear hfx2 q hx2
                  have hone2 : ∀ u ∈ (#[.slice none 0 0] : Array Value).toList, u.oneCell' = true := by
                    intro u hu
                    simp at hu
                    subst hu
                    rfl
                  go_wp2_with (at_builtin; go_must (refine wpList_append_elt rfl _ _ 46 rfl 36 Try.underlying46 _ 1 24 infoPP rfl (by decide) (by decide) 0 _ Ls.length xs rfl x1 #[.slice none 0 0] rfl hone2 rfl hlenL (Nat.zero_le _) ?_); intro v7 w7 hown7 hg7 hat7)
                  have hT7 := HT6.out.was1 x1 HX2.out HX3.out (PairsAt.nil _ _) hown7 hg7 hat7
                  have HB7 := Lib.hid (HB6.out.grown hg7 hs6 (fun q e => (HT6.out.desk.hR q (HX2.out q e)).1))
                  have hN7 := AskM.range HN1.out HNOT.out low high
                  rw [← take_snoc hlt] at hN7
                  have HR7 := Lib.hid (⟨hT7, hN7, HFI.out.2.2.snoc hlt rfl HP1.out⟩ : TdT w7 w.heap.size d g2 _ _ (.slice (some ⟨bo, oo, none⟩) ids.length co) ids (.slice Aa La.length ca) La v5 _ v7 _ ∧ AskN _ (ids.take (k + 1)) 0 ∧ Told g2 ids key low high _ _ (k + 1))
                  clear hown7 hg7 hat7 hT7 hN7 x1 hone2
                  go_wp2
                  go_roundw
                  case rel => exact ⟨k + 1, _, _, _, _, by go_num, by omega, HR7, HB7.out⟩
                  case measure => simp [intOf]; omega
            · have hfx := td_fault q1 hx0
              have HQ2 := Lib.hid q2
              rw [hfx]
              clear hfx q1 q2 hx0 HG
              as_aux_lemma =>
                have hone : ∀ u ∈ (#[txt noneT] : Array Value).toList, u.oneCell' = true := by
                  intro u hu
                  simp at hu
                  subst hu
                  rfl
                go_wp2_with (at_builtin; go_must (refine wpList_append_elt rfl _ _ 51 rfl 9 Try.underlying51 _ 1 16 infoTx rfl (by decide) (by decide) 0 _ gs.length (gs.map txt) rfl hownT #[txt noneT] rfl hone rfl hlenT (Nat.zero_le _) ?_); intro v5 w5 hown5 hg5 hat5; have c1 := (HT3.out.txt1 (s := noneT) hown5 hg5 hat5).ints.cell hlt)
                have hT5' := HT3.out.txt1 (s := noneT) hown5 hg5 hat5
                have HB5' := Lib.hid (HB3.out.grown hg5 hs3 (fun q e => (HT3.out.desk.hR q (hrowT q e)).1))
                have hs5 : w.heap.size ≤ w5.heap.size := hT5'.desk.hb
                have HC2 := Lib.hid (hT5'.desk.desk.range_s (by omega) hidw low high hlow hhigh)
                have HAR := Lib.hid (Ask.range hT5'.desk.desk.ok.ids ids[k] low high)
                have HT5' := Lib.hid hT5'
                clear hown5 hg5 hat5 hownT hrowT hT5' hone c0
                go_wp2_with fail
                refine HC2.out.mono ?_
                rintro e w6 ⟨v6, L6, rfl, hO6, hR6, _, h6, hD6⟩
                obtain ⟨A6, c6, hv6, _⟩ := hO6.rd
                subst hv6
                have hT6 := HT5'.out.take h6 hD6 HAR.out
                have hP6 : PairsAt w6 _ (.slice A6 L6.length c6) L6 := PairsAt.fresh hO6 (fun q a b => andNew_new (R := andNew R3 w3.heap.size w5.heap.size) a b)
                have HB6 := Lib.hid (HB5'.out.trans (h6.below hs5 (fun _ h => h.1)))
                have hs6 : w.heap.size ≤ w6.heap.size := hT6.desk.hb
                obtain ⟨p1, p2⟩ := HT5'.out.ask.range_told HN1.out (by omega) hR6
                have HP1 := Lib.hid p1
                have HT6 := Lib.hid hT6
                have HP6 := Lib.hid hP6
                obtain ⟨xs, x1, x2, x3⟩ := hT6.was
                have HX2 := Lib.hid x2
                have HX3 := Lib.hid x3
                clear hO6 hR6 h6 hD6 hT6 hP6 p1 x2 x3 HC2
                rcases p2 with q | ⟨x2, hx2, q, hnil⟩
                · have hfx2 : faultV (Dk.range (g3.get ids[k] key).2.2 ids[k] low high).1 = .nilIface := by rw [q]; rfl
                  rw [hfx2]
                  clear hfx2 q
                  have hone2 : ∀ u ∈ (#[.slice A6 L6.length c6] : Array Value).toList, u.oneCell' = true := by
                    intro u hu
                    simp at hu
                    subst hu
                    rfl
                  go_wp2_with (at_builtin; go_must (refine wpList_append_elt rfl _ _ 46 rfl 36 Try.underlying46 _ 1 24 infoPP rfl (by decide) (by decide) 0 _ Ls.length xs rfl x1 #[.slice A6 L6.length c6] rfl hone2 rfl hlenL (Nat.zero_le _) ?_); intro v7 w7 hown7 hg7 hat7)
                  have hT7 := HT6.out.was1 x1 HX2.out HX3.out (HP6.out) hown7 hg7 hat7
                  have HB7 := Lib.hid (HB6.out.grown hg7 hs6 (fun q e => (HT6.out.desk.hR q (HX2.out q e)).1))
                  have hN7 := AskM.range HN1.out HNOT.out low high
                  rw [← take_snoc hlt] at hN7
                  have HR7 := Lib.hid (⟨hT7, hN7, HFI.out.2.2.snoc hlt HQ2.out.symm HP1.out⟩ : TdT w7 w.heap.size d g2 _ _ (.slice (some ⟨bo, oo, none⟩) ids.length co) ids (.slice Aa La.length ca) La v5 _ v7 _ ∧ AskN _ (ids.take (k + 1)) 0 ∧ Told g2 ids key low high _ _ (k + 1))
                  clear hown7 hg7 hat7 hT7 hN7 x1 hone2
                  go_wp2
                  go_roundw
                  case rel => exact ⟨k + 1, _, _, _, _, by go_num, by omega, HR7, HB7.out⟩
                  case measure => simp [intOf]; omega
                · have hfx2 := td_fault q hx2
                  subst hnil
                  rw [hfx2]
                  clear hfx2 q hx2
                  have hone2 : ∀ u ∈ (#[.slice none 0 0] : Array Value).toList, u.oneCell' = true := by
                    intro u hu
                    simp at hu
                    subst hu
                    rfl
                  go_wp2_with (at_builtin; go_must (refine wpList_append_elt rfl _ _ 46 rfl 36 Try.underlying46 _ 1 24 infoPP rfl (by decide) (by decide) 0 _ Ls.length xs rfl x1 #[.slice none 0 0] rfl hone2 rfl hlenL (Nat.zero_le _) ?_); intro v7 w7 hown7 hg7 hat7)
                  have hT7 := HT6.out.was1 x1 HX2.out HX3.out (PairsAt.nil _ _) hown7 hg7 hat7
                  have HB7 := Lib.hid (HB6.out.grown hg7 hs6 (fun q e => (HT6.out.desk.hR q (HX2.out q e)).1))
                  have hN7 := AskM.range HN1.out HNOT.out low high
                  rw [← take_snoc hlt] at hN7
                  have HR7 := Lib.hid (⟨hT7, hN7, HFI.out.2.2.snoc hlt HQ2.out.symm HP1.out⟩ : TdT w7 w.heap.size d g2 _ _ (.slice (some ⟨bo, oo, none⟩) ids.length co) ids (.slice Aa La.length ca) La v5 _ v7 _ ∧ AskN _ (ids.take (k + 1)) 0 ∧ Told g2 ids key low high _ _ (k + 1))
                  clear hown7 hg7 hat7 hT7 hN7 x1 hone2
                  go_wp2
                  go_roundw
                  case rel => exact ⟨k + 1, _, _, _, _, by go_num, by omega, HR7, HB7.out⟩
                  case measure => simp [intOf]; omega
          · have hke : k = ids.length := by omega
            subst hke
            go_wp2
            go_meet
            case rel => exact ⟨g3, gs, Ls, R3, Lib.hid ⟨hFI.out.1, by have := hFI.out.2.1; rwa [List.take_length] at this, hFI.out.2.2⟩, hb⟩
      case rest =>
        obtain ⟨g3, gs, Ls, R3, hFI, hb⟩ := hcut
        have HTold := Lib.hid hFI.out.2.2
        have HAgain := Lib.hid (AskN.again hFI.out.2.1)
        have HAsk := Lib.hid hFI.out.1.ask
        have HG3 := Lib.hid (show ∃ m top, Good g3.F top m from by obtain ⟨m, _, top, _, h⟩ := hFI.out.1.desk.desk.good; exact ⟨m, top, h⟩)
        obtain ⟨Ag, cg, hvg, _⟩ := own_form hFI.out.1.txts.1
        subst hvg
        obtain ⟨Aw, cw, hvw⟩ := hFI.out.1.was.form
        subst hvw
        have HC := Lib.hid (hFI.out.1.desk.desk.size_s (by omega))
        have hsw3 := hb.size
        have HB6 := Lib.hid hb
        have HT6 := Lib.hid hFI.out.1
        clear hFI hb
        go_wp2_with fail
        refine HC.out.mono ?_
        rintro e w6 ⟨N0, rfl, hN0, hN0b, hb6⟩
        have HT7 := Lib.hid (HT6.out.below hb6)
        have hs6 := hb6.size
        have HB7 := Lib.hid (HB6.out.trans (hb6.mono hsw3))
        have HC := Lib.hid (HT7.out.desk.desk.tidy_s HT7.out.desk.up (by omega))
        have HN0 := Lib.hid hN0
        clear hN0 hb6 HT6 HB6
        go_wp2_with fail
        refine HC.out.mono ?_
        rintro e w7 ⟨N, j, rfl, hN, hj, f7, hD7⟩
        have hN0e : N0 = j + N := HN0.out.unique hj
        have HN0E := Lib.hid hN0e
        have HT8 := Lib.hid (HT7.out.tidied f7 hD7)
        have HB8 := Lib.hid (HB7.out.trans (f7.below (by omega) (fun _ h => h.1)))
        have hs7 : w.heap.size ≤ w7.heap.size := HT8.out.desk.hb
        have HN := Lib.hid hN
        have HC := HT8.out.desk.desk.tidy_s HT8.out.desk.up (by omega)
        rw [show g3.tidy.tidy = g3.tidy from by obtain ⟨m, top, h⟩ := HG3.out; exact Dk.tidy_tidy h] at HC
        have HC := Lib.hid HC
        clear hN hj f7 hD7 hN0e HT7 HB7
        go_wp2_with fail
        refine HC.out.mono ?_
        rintro e w8 ⟨N2, j2, rfl, hN2, hj2, f8, hD8⟩
        have hj20 : j2 = 0 := by
          have h1 := hN2.unique HN.out
          have h2 := hj2.unique HN.out
          omega
        subst hj20
        have HT9 := Lib.hid (HT8.out.tidied f8 hD8)
        have HB9 := Lib.hid (HB8.out.trans (f8.below hs7 (fun _ h => h.1)))
        have hs8 : w.heap.size ≤ w8.heap.size := HT9.out.desk.hb
        have HC := Lib.hid (HT9.out.desk.desk.all_s (by omega))
        have hLam : La.length ≤ maxLen := by unfold maxLen; omega
        clear hN2 hj2 f8 hD8 HT8 HB8
        go_wp2_with fail
        refine HC.out.mono ?_
        rintro e w9 ⟨v9, L9, rfl, hO9, hR9, _, hb9⟩
        obtain rfl : L9 = La := by obtain ⟨m, top, h⟩ := HG3.out; exact all_same HAsk.out h HRa.out hR9
        obtain ⟨A9, c9, hv9, _⟩ := hO9.rd
        subst hv9
        have HT10 := Lib.hid (HT9.out.below hb9)
        have hs9 := hb9.size
        have HB10 := Lib.hid (HB9.out.trans (hb9.mono hs8))
        have HP := Lib.hid (pairs_same A9 Aa L9 c9 ca hLam w9 (td_rd hO9) (td_rd HT10.out.all.1))
        clear hO9 hR9 hb9 HT9 HB9
        go_wp2_with fail
        refine HP.out.mono ?_
        rintro e w10 ⟨rfl, hb10⟩
        have HT11 := Lib.hid (HT10.out.below hb10)
        have hs10 := hb10.size
        have HB11 := Lib.hid (HB10.out.trans (hb10.mono (by omega)))
        have HC := Lib.hid (HT11.out.desk.desk.size_s (by omega))
        have hj0 : ¬ ((j : Int) < 0) := by omega
        have hsub : (N0 : Int) - (j : Int) = (N : Int) := by have := HN0E.out; omega
        clear hb10 HT10 HB10
        go_wp2_with fail
        refine HC.out.mono ?_
        rintro e w11 ⟨N3, rfl, hN3, hN3b, hb11⟩
        obtain rfl : N3 = N := hN3.unique HN.out
        have HT12 := Lib.hid (HT11.out.below hb11)
        have HB12 := Lib.hid (HB11.out.trans (hb11.mono (by omega)))
        have hnw : (IntKind.i64).wrap ((N0 : Int) - (j : Int)) = (N3 : Int) := by rw [hsub]; exact IntWalk.i64_in _ (by omega)
        clear hb11 hN3 HT11 HB11
        go_upto_block 7 with fail
        go_wp2
        go_loopw [34] (fun i wr => ∃ (k : Nat) (g4 : Dk) (R4 : Nat → Prop), i = .int .i64 k ∧ k ≤ ids.length ∧ Hid (TdT wr w.heap.size d g3.tidy g4 R4 (.slice Ao ids.length co) ids (.slice Aa L9.length ca) L9 (.slice Ag gs.length cg) gs (.slice Aw Ls.length cw) Ls ∧ AskN g4 (ids.take k) 2) ∧ Below w.heap.size w wr) (fun i _ => 60 - (intOf i).toNat)
        case atStart => exact ⟨0, _, _, by go_num, by omega, Lib.hid ⟨HT12.out, HAgain.out⟩, HB12.out⟩
        case round =>
          obtain ⟨k, g4, R4, rfl, hk1, hFI, hb⟩ := hrel
          by_cases hlt : k < ids.length
          · have hI : (k : Int) < (ids.length : Int) := by omega
            have hI2 : (0 : Int) ≤ (k : Int) := by omega
            obtain ⟨bo, oo, rfl, hbo, c0⟩ := hFI.out.1.ints.at hlt
            obtain ⟨mg, topg, hgg⟩ := HG3.out
            obtain ⟨⟨hgl, hgk⟩, hll, hLk⟩ := HTold.out.after HAsk.out hgg hlt
            obtain ⟨bg, og, rfl, hbg, _⟩ := hFI.out.1.txts.at hgl
            obtain ⟨bw, ow, rfl, hbw, _⟩ := hFI.out.1.was.at hll
            have hids := HJ.out.le ids[k] (List.getElem_mem _)
            have hidw : (Lit.int .i64 ids[k]).wf = true := wf_i64 (by have := HGI.out; omega)
            have hnot := rise_notin HJ.out.rise hlt
            have HC := Lib.hid (hFI.out.1.desk.desk.get_s hFI.out.1.desk.up (by omega) hidw key hkey)
            have HG := hFI.out.1.ask.get_told hFI.out.2 (by omega) hnot key
            rw [hgk] at HG
            have HG := Lib.hid HG
            have HN1 := Lib.hid (AskN.get hFI.out.2 hnot key)
            have HAG := Lib.hid (Ask.get hFI.out.1.desk.desk.ok.ids ids[k] key)
            have HNOT := Lib.hid hnot
            have HLK := Lib.hid hLk
            have HFI := Lib.hid hFI.out
            have hsr := hb.size
            have HB := Lib.hid hb
            have hIg : (k : Int) < (gs.length : Int) := by omega
            have hIl : (k : Int) < (Ls.length : Int) := by omega
            have hllen : Ls.length = ids.length := HTold.out.len
            have HLl := Lib.hid hllen
            clear hFI hb hnot hids hllen hgk hLk hgg
            go_wp2_with fail
            refine HC.out.mono ?_
            rintro e w3 ⟨rfl, h3, hD3⟩
            have hT3 := HFI.out.1.call h3 hD3 HAG.out
            have HB3 := Lib.hid (HB.out.trans (h3.below hsr (fun _ h => h.1)))
            have hs3 : w.heap.size ≤ w3.heap.size := hT3.desk.hb
            have c1 := hT3.ints.cell hlt
            have HC2 := Lib.hid (hT3.desk.desk.range_s (by omega) hidw low high hlow hhigh)
            have HAR := Lib.hid (Ask.range hT3.desk.desk.ok.ids ids[k] low high)
            have HT3 := Lib.hid hT3
            clear h3 hD3 hT3 HC c0
            rcases HG.out with ⟨q1, q2⟩ | ⟨x, hx0, q1, q2⟩
            · have hfx : faultV (g4.get ids[k] key).2.1 = .nilIface := by rw [q1]; rfl
              rw [hfx, q2]
              clear hfx q1 q2 HG
              as_aux_lemma =>
                go_wp2_with fail
                refine HC2.out.mono ?_
                rintro e w6 ⟨v6, L6, rfl, hO6, hR6, _, h6, hD6⟩
                obtain ⟨A6, c6, hv6, _⟩ := hO6.rd
                subst hv6
                have hT6 := HT3.out.take h6 hD6 HAR.out
                have HB6 := Lib.hid (HB3.out.trans (h6.below hs3 (fun _ h => h.1)))
                have hs6 : w.heap.size ≤ w6.heap.size := hT6.desk.hb
                obtain ⟨p1, p2⟩ := HT3.out.ask.range_told HN1.out (by omega) hR6
                obtain rfl := HLK.out _ p1
                have hN6 := AskM.range HN1.out HNOT.out low high
                rw [← take_snoc hlt] at hN6
                have HN6 := Lib.hid hN6
                obtain ⟨Aj, cj, cw0, hOj⟩ := hT6.was.cell hll
                have HT6 := Lib.hid hT6
                have HO6 := Lib.hid hO6
                have HOj := Lib.hid hOj
                have hLm : Ls[k].length ≤ maxLen := by unfold maxLen; omega
                clear hR6 h6 hD6 hT6 p1 hN6 HC2 hO6 hOj
                rcases p2 with q | ⟨x2, hx2, q, hnil⟩
                · have hfx2 : faultV (Dk.range (g4.get ids[k] key).2.2 ids[k] low high).1 = .nilIface := by rw [q]; rfl
                  have HPS := Lib.hid (pairs_same A6 Aj Ls[k] c6 cj hLm w6 (td_rd HO6.out) (td_rd HOj.out))
                  rw [hfx2]
                  clear hfx2 q
                  go_wp2_with fail
                  refine HPS.out.mono ?_
                  rintro e w7 ⟨rfl, hb7⟩
                  have HT7 := Lib.hid (HT6.out.below hb7)
                  have cg7 := HT7.out.txts.cell hgl
                  have HB7 := Lib.hid (HB6.out.trans (hb7.mono hs6))
                  have HR7 := Lib.hid (⟨HT7.out, HN6.out⟩ : TdT w7 w.heap.size d g3.tidy _ _ _ ids _ _ _ gs _ Ls ∧ AskN _ (ids.take (k + 1)) 2)
                  clear hb7 cw0 c1
                  go_wp2
                  go_roundw
                  case rel => exact ⟨k + 1, _, _, by go_num, by omega, HR7, HB7.out⟩
                  case measure => simp [intOf]; omega
                · have hfx2 := td_fault q hx2
                  have hl0 : Ls[k].length = 0 := by rw [hnil]; rfl
                  have hOj' := HOj.out
                  rw [hnil] at hOj'
                  have HPS := Lib.hid (pairs_same none Aj [] 0 cj (by simp) w6 (td_rd (OwnKV.nil w6 0)) (td_rd hOj'))
                  simp only [List.length_nil] at HPS
                  rw [hl0] at cw0
                  rw [hfx2]
                  clear hfx2 q hx2 hOj'
                  go_wp2_with fail
                  refine HPS.out.mono ?_
                  rintro e w7 ⟨rfl, hb7⟩
                  have HT7 := Lib.hid (HT6.out.below hb7)
                  have cg7 := HT7.out.txts.cell hgl
                  have HB7 := Lib.hid (HB6.out.trans (hb7.mono hs6))
                  have HR7 := Lib.hid (⟨HT7.out, HN6.out⟩ : TdT w7 w.heap.size d g3.tidy _ _ _ ids _ _ _ gs _ Ls ∧ AskN _ (ids.take (k + 1)) 2)
                  clear hb7 cw0 c1
                  go_wp2
                  go_roundw
                  case rel => exact ⟨k + 1, _, _, by go_num, by omega, HR7, HB7.out⟩
                  case measure => simp [intOf]; omega
            · have hfx := td_fault q1 hx0
              have HQ2 := Lib.hid q2
              rw [hfx]
              clear hfx q1 q2 hx0 HG
              as_aux_lemma =>
                go_wp2_with fail
                refine HC2.out.mono ?_
                rintro e w6 ⟨v6, L6, rfl, hO6, hR6, _, h6, hD6⟩
                obtain ⟨A6, c6, hv6, _⟩ := hO6.rd
                subst hv6
                have hT6 := HT3.out.take h6 hD6 HAR.out
                have HB6 := Lib.hid (HB3.out.trans (h6.below hs3 (fun _ h => h.1)))
                have hs6 : w.heap.size ≤ w6.heap.size := hT6.desk.hb
                obtain ⟨p1, p2⟩ := HT3.out.ask.range_told HN1.out (by omega) hR6
                obtain rfl := HLK.out _ p1
                have hN6 := AskM.range HN1.out HNOT.out low high
                rw [← take_snoc hlt] at hN6
                have HN6 := Lib.hid hN6
                obtain ⟨Aj, cj, cw0, hOj⟩ := hT6.was.cell hll
                have HT6 := Lib.hid hT6
                have HO6 := Lib.hid hO6
                have HOj := Lib.hid hOj
                have hLm : Ls[k].length ≤ maxLen := by unfold maxLen; omega
                clear hR6 h6 hD6 hT6 p1 hN6 HC2 hO6 hOj
                rcases p2 with q | ⟨x2, hx2, q, hnil⟩
                · have hfx2 : faultV (Dk.range (g4.get ids[k] key).2.2 ids[k] low high).1 = .nilIface := by rw [q]; rfl
                  have HPS := Lib.hid (pairs_same A6 Aj Ls[k] c6 cj hLm w6 (td_rd HO6.out) (td_rd HOj.out))
                  rw [hfx2]
                  clear hfx2 q
                  go_wp2_with fail
                  refine HPS.out.mono ?_
                  rintro e w7 ⟨rfl, hb7⟩
                  have HT7 := Lib.hid (HT6.out.below hb7)
                  have cg7 := HT7.out.txts.cell hgl
                  rw [← HQ2.out.symm] at cg7
                  have cg7 : w7.cell? ⟨bg, og + k, none⟩ = some (.string { data := #[110, 111, 110, 101] }) := cg7
                  have HB7 := Lib.hid (HB6.out.trans (hb7.mono hs6))
                  have HR7 := Lib.hid (⟨HT7.out, HN6.out⟩ : TdT w7 w.heap.size d g3.tidy _ _ _ ids _ _ _ gs _ Ls ∧ AskN _ (ids.take (k + 1)) 2)
                  clear hb7 cw0 c1
                  go_wp2
                  go_roundw
                  case rel => exact ⟨k + 1, _, _, by go_num, by omega, HR7, HB7.out⟩
                  case measure => simp [intOf]; omega
                · have hfx2 := td_fault q hx2
                  have hl0 : Ls[k].length = 0 := by rw [hnil]; rfl
                  have hOj' := HOj.out
                  rw [hnil] at hOj'
                  have HPS := Lib.hid (pairs_same none Aj [] 0 cj (by simp) w6 (td_rd (OwnKV.nil w6 0)) (td_rd hOj'))
                  simp only [List.length_nil] at HPS
                  rw [hl0] at cw0
                  rw [hfx2]
                  clear hfx2 q hx2 hOj'
                  go_wp2_with fail
                  refine HPS.out.mono ?_
                  rintro e w7 ⟨rfl, hb7⟩
                  have HT7 := Lib.hid (HT6.out.below hb7)
                  have cg7 := HT7.out.txts.cell hgl
                  rw [← HQ2.out.symm] at cg7
                  have cg7 : w7.cell? ⟨bg, og + k, none⟩ = some (.string { data := #[110, 111, 110, 101] }) := cg7
                  have HB7 := Lib.hid (HB6.out.trans (hb7.mono hs6))
                  have HR7 := Lib.hid (⟨HT7.out, HN6.out⟩ : TdT w7 w.heap.size d g3.tidy _ _ _ ids _ _ _ gs _ Ls ∧ AskN _ (ids.take (k + 1)) 2)
                  clear hb7 cw0 c1
                  go_wp2
                  go_roundw
                  case rel => exact ⟨k + 1, _, _, by go_num, by omega, HR7, HB7.out⟩
                  case measure => simp [intOf]; omega
          · have hke : k = ids.length := by omega
            subst hke
            go_wp2
            go_ret
            exact ⟨rfl, hb⟩
end Go.Proofs.Ytfklhjkgogncdaa
