/- Texts joined: XDeskS2, XWas, XDeskForgets. Each says at its head what it proves; conditions: as said there. -/
import Derived.Test.YtfklhjkgogncdaaC23
import Derived.Test.YtfklhjkgogncdaaC24
import Derived.Test.YtfklhjkgogncdaaC25
import Derived.Test.YtfklhjkgogncdaaC9
import Derived.Test.YtfklhjkgogncdaaC3
import Derived.Test.YtfklhjkgogncdaaC4
import Derived.Deep.DeepCutAuto
import Derived.Deep.CutBlock
import Derived.Deep.RegionHeld3
/- A desk's other methods, their contracts by sets of blocks. -/
namespace Go.Proofs.Ytfklhjkgogncdaa
set_option linter.unusedVariables false
set_option linter.unusedSimpArgs false
set_option maxRecDepth 100000
open Go.RowKit
open Go.ChangeMaps (setBlock)

section
variable {w w' : World} {S : Nat → Prop} {d : Nat} {g g' : Dk} {id : Int} {k : Nat}
theorem DeskS.drop_s (h : DeskS w S d g k) (hS : ∀ q, w.heap.size ≤ q → S q) (hid : (Lit.int .i64 id).wf = true) (s : List UInt8) (hs : s.length ≤ maxLen) :
    Calls Try.prog 17 #[ptrV d, intV id, txt s] w fun e w' => e = .returned (faultV (g.change id ⟨s, [], true⟩).1) ∧ Fr S w w' ∧ DeskS w' S d (g.change id ⟨s, [], true⟩).2 k := by
  have okn := h.ok.change (id := id) ⟨s, [], true⟩
  obtain ⟨⟨O, M, h1, h2⟩, ok⟩ := h
  exact (h2.drop_to ok hid s hs).mono fun e w' q => ⟨q.1, q.2.up h1 hS okn⟩
theorem DeskS.flush_s (h : DeskS w S d g k) (hS : ∀ q, w.heap.size ≤ q → S q) :
    Calls Try.prog 13 #[ptrV d] w fun e w' => e = .returned (faultV g.flush.1) ∧ Fr S w w' ∧ DeskS w' S d g.flush.2 k := by
  have okn := h.ok.flush
  obtain ⟨⟨O, M, h1, h2⟩, ok⟩ := h
  exact h2.flush_to.mono fun e w' q => ⟨q.1, q.2.up h1 hS okn⟩
theorem DeskS.fail_s (h : DeskS w S d g k) (hS : ∀ q, w.heap.size ≤ q → S q) (n : Int) (hn : (Lit.int .i64 n).wf = true) :
    Calls Try.prog 18 #[ptrV d, intV n] w fun e w' => e = .returned (.tuple #[]) ∧ Fr S w w' ∧ DeskS w' S d (g.fail n) k := by
  have okn := h.ok.fail n
  obtain ⟨⟨O, M, h1, h2⟩, ok⟩ := h
  exact (h2.fail_to n hn).mono fun e w' q => ⟨q.1, q.2.up h1 hS okn⟩
theorem DeskS.crash_s (h : DeskS w S d g k) (hS : ∀ q, w.heap.size ≤ q → S q) (hk : k ≤ 40000) (n : Int) (hn : (Lit.int .i64 n).wf = true) :
    Calls Try.prog 14 #[ptrV d, intV n] w fun e w' => e = .returned (.tuple #[]) ∧ Fr S w w' ∧ DeskS w' S d (g.crash n) k := by
  have okn := (h.ok.crash n h.log.2.2).1
  obtain ⟨⟨O, M, h1, h2⟩, ok⟩ := h
  exact (h2.crash_to ok hk n hn).mono fun e w' q => ⟨q.1, q.2.up h1 hS okn⟩
theorem DeskS.safe_s (h : DeskS w S d g k) (hk : k ≤ 40000) :
    Calls Try.prog 16 #[ptrV d] w fun e w' => e = .returned (.int .i64 g.ns) ∧ Below w.heap.size w w' := by
  obtain ⟨⟨O, M, h1, h2⟩, ok⟩ := h
  exact h2.safe_s ok (by have := ok.hall.1; omega)
theorem DeskS.size_s (h : DeskS w S d g k) (hk : k ≤ 40000) :
    Calls Try.prog 21 #[ptrV d] w fun e w' => ∃ N : Nat, e = .returned (.int .i64 N) ∧ Count g.F N ∧ N ≤ 1000000000000 ∧ Below w.heap.size w w' := by
  obtain ⟨⟨O, M, h1, h2⟩, ok⟩ := h
  exact h2.size_s (by have := ok.hall.1; omega)
theorem DeskS.all_s (h : DeskS w S d g k) (hk : k ≤ 40000) :
    Calls Try.prog 15 #[ptrV d] w fun e w' => ∃ v L, e = .returned v ∧ OwnKV w' w.heap.size v L ∧ RangeIs g.F [] topKey g.last L ∧ L.length ≤ 800000 ∧ Below w.heap.size w w' := by
  obtain ⟨⟨O, M, h1, h2⟩, ok⟩ := h
  exact h2.all_s (by have := ok.hall.1; omega)
/-- What tidying makes. -/
def Dk.tidy (g : Dk) : Dk := { g with F := colF g.F (leastS g.last g.op) }
theorem DeskS.tidy_s (h : DeskS w S d g k) (hS : ∀ q, w.heap.size ≤ q → S q) (hk : k ≤ 40000) :
    Calls Try.prog 20 #[ptrV d] w fun e w' => ∃ N j : Nat, e = .returned (.int .i64 j) ∧ Count g.tidy.F N ∧ Count g.F (j + N) ∧ Fr S w w' ∧ DeskS w' S d g.tidy k := by
  have ok' := h.ok
  obtain ⟨⟨O, M, h1, h2⟩, ok⟩ := h
  have okn : DkOk g.tidy k := ⟨ok.ids, ok.each, ok.many, ok.hall, ok.log, ok.hids, ok.ends⟩
  exact (h2.tidy_to ok (by have := ok.hall.1; omega)).mono fun e w' q => by
    obtain ⟨N, j, q1, q2, q3, q4⟩ := q
    exact ⟨N, j, q1, q2, q3, DeskTo.up (g' := g.tidy) q4 h1 hS okn⟩
end
end Go.Proofs.Ytfklhjkgogncdaa

/- What was there, a row of rows of pairs, beside a desk, in memory. No conditions. -/
namespace Go.Proofs.Ytfklhjkgogncdaa
set_option linter.unusedVariables false
set_option linter.unusedSimpArgs false
set_option maxRecDepth 100000
open Go.RowKit
open Go.ChangeMaps (setBlock)

theorem infoPP : (Try.prog.info? 36).map (fun i => (i.zero, i.size, i.bytes)) = some (some (.slice none 0 0), 1, 24) := by kernel_rfl
/-- A row of rows of pairs, all its blocks in a set. -/
def WasAt (w : World) (R : Nat → Prop) (v : Value) (Ls : List (List KV)) : Prop :=
  ∃ xs : List Value, w.ownsRow 0 36 1 v Ls.length xs ∧ (∀ q, v.ownBlock = some q → R q) ∧ ∀ i (h : i < Ls.length), ∃ u, xs[i]? = some u ∧ OwnKV w 0 u Ls[i] ∧ ∀ q, u.ownBlock = some q → R q
section
variable {w w' : World} {R R' : Nat → Prop} {v v' u : Value} {Ls : List (List KV)} {L : List KV}
theorem WasAt.fr {T : Nat → Prop} (h : WasAt w R v Ls) (f : Fr T w w') (hd : ∀ q, R q → ¬ T q) : WasAt w' R v Ls := by
  obtain ⟨xs, h1, h2, h3⟩ := h
  refine ⟨xs, own_fr h1 f (fun q e => hd q (h2 q e)), h2, fun i hi => ?_⟩
  obtain ⟨u, q1, q2, q3⟩ := h3 i hi
  exact ⟨u, q1, own_fr q2 f (fun q e => hd q (q3 q e)), q3⟩
theorem WasAt.mono (h : WasAt w R v Ls) (hs : ∀ q, R q → R' q) : WasAt w R' v Ls := by
  obtain ⟨xs, h1, h2, h3⟩ := h
  refine ⟨xs, h1, fun q e => hs q (h2 q e), fun i hi => ?_⟩
  obtain ⟨u, q1, q2, q3⟩ := h3 i hi
  exact ⟨u, q1, q2, fun q e => hs q (q3 q e)⟩
theorem WasAt.one (w : World) : WasAt (w.alloc (.cells #[.slice none 0 0] 36)) (fun q => q = w.heap.size) (.slice (some ⟨w.heap.size, 0, none⟩) 1 1) [[]] := by
  refine ⟨[.slice none 0 0], ⟨rfl, .inr ⟨w.heap.size, 1, #[.slice none 0 0], rfl, Nat.zero_le _, heap_alloc_new w _, Nat.le_refl _, by simp [maxLen], rfl, rfl⟩⟩, fun q e => by simp [Value.ownBlock] at e; exact e.symm, fun i hi => ?_⟩
  have : i = 0 := by simp at hi; omega
  subst this
  exact ⟨_, rfl, OwnKV.nil _ _, fun q e => by simp [Value.ownBlock] at e⟩
theorem WasAt.take {A : Option Addr} {c m : Nat} (h : WasAt w R (.slice A Ls.length c) Ls) (hm : m ≤ Ls.length) : WasAt w R (.slice A m c) (Ls.take m) := by
  obtain ⟨xs, h1, h2, h3⟩ := h
  refine ⟨xs.take m, by rw [List.length_take, Nat.min_eq_left hm]; exact own_shrink h1 hm, fun q e => h2 q (by cases A <;> exact e), fun i hi => ?_⟩
  have hi' : i < m := by simp at hi; omega
  obtain ⟨u, q1, q2, q3⟩ := h3 i (by simp at hi; omega)
  refine ⟨u, by rw [List.getElem?_take, if_pos hi']; exact q1, ?_, q3⟩
  rw [List.getElem_take]
  exact q2
/-- Behind an append. -/
theorem WasAt.snoc {xs : List Value} (h1 : w.ownsRow 0 36 1 v Ls.length xs) (h2 : ∀ q, v.ownBlock = some q → R q) (h3 : ∀ i (h : i < Ls.length), ∃ u, xs[i]? = some u ∧ OwnKV w 0 u Ls[i] ∧ ∀ q, u.ownBlock = some q → R q)
    (hu : OwnKV w 0 u L) (huR : ∀ q, u.ownBlock = some q → R q) (ho : w'.ownsRow 0 36 1 v' (Ls.length + 1) (xs ++ [u])) (hv : ∀ q, v'.ownBlock = some q → R q) (hg : w.grownBy w' v.ownBlock) : WasAt w' R v' (Ls ++ [L]) := by
  have hxl : xs.length = Ls.length := by simpa using h1.1
  refine ⟨xs ++ [u], by simpa using ho, hv, fun i hi => ?_⟩
  rcases Nat.lt_or_ge i Ls.length with c | c
  · obtain ⟨y, q1, q2, q3⟩ := h3 i c
    refine ⟨y, by rw [List.getElem?_append_left (by omega)]; exact q1, ?_, q3⟩
    rw [List.getElem_append_left c]
    exact own_grown q2 h1 (by decide) hg
  · have hi2 : i = Ls.length := by simp at hi; omega
    subst hi2
    refine ⟨u, by rw [← hxl]; simp, ?_, huR⟩
    rw [List.getElem_append_right (Nat.le_refl _)]
    simp
    exact own_grown hu h1 (by decide) hg
end
/-- A desk, and beside it what was there. -/
def FgS (w : World) (b0 d : Nat) (g : Dk) (v : Value) (Ls : List (List KV)) (k : Nat) : Prop :=
  ∃ R : Nat → Prop, (∀ q, R q → b0 ≤ q ∧ q < w.heap.size) ∧ b0 ≤ w.heap.size ∧ DeskS w (fun q => b0 ≤ q ∧ ¬ R q) d g k ∧ WasAt w R v Ls
section
variable {w w' : World} {b0 d k k' : Nat} {g g' : Dk} {v : Value} {Ls : List (List KV)}
/-- A call of the desk's. -/
theorem FgS.call {R : Nat → Prop} (hR : ∀ q, R q → b0 ≤ q ∧ q < w.heap.size) (hb : b0 ≤ w.heap.size) (hW : WasAt w R v Ls) (f : Fr (fun q => b0 ≤ q ∧ ¬ R q) w w') (hD : DeskS w' (fun q => b0 ≤ q ∧ ¬ R q) d g' k') : FgS w' b0 d g' v Ls k' :=
  ⟨R, fun q h => ⟨(hR q h).1, by have := (hR q h).2; have := f.size; omega⟩, Nat.le_trans hb f.size, hD, hW.fr f (fun q h e => e.2 h)⟩
theorem FgS.below (h : FgS w b0 d g v Ls k) (hb : Below w.heap.size w w') : FgS w' b0 d g v Ls k := by
  obtain ⟨R, h1, h2, h3, h4⟩ := h
  have hs := hb.size
  exact ⟨R, fun q h => ⟨(h1 q h).1, by have := (h1 q h).2; omega⟩, by omega, h3.below hb, h4.fr (T := fun _ => False) (Fr.of_below hb) (fun _ _ q => q)⟩
/-- New blocks are not the desk's. -/
theorem FgS.aside (h : FgS w b0 d g v Ls k) (hb : Below w.heap.size w w') : ∃ R : Nat → Prop, (∀ q, R q → b0 ≤ q ∧ q < w'.heap.size) ∧ b0 ≤ w'.heap.size ∧ DeskS w' (fun q => b0 ≤ q ∧ ¬ R q) d g k ∧ WasAt w' R v Ls ∧ ∀ q, w.heap.size ≤ q → q < w'.heap.size → R q := by
  obtain ⟨R, h1, h2, h3, h4⟩ := h
  have hs := hb.size
  refine ⟨fun q => R q ∨ (w.heap.size ≤ q ∧ q < w'.heap.size), fun q h => ?_, by omega, ?_, ?_, fun q a b => .inr ⟨a, b⟩⟩
  · rcases h with h | h
    · have := h1 q h; omega
    · omega
  · refine (h3.tight.below hb).mono (fun q hq => ⟨hq.1.1, fun e => ?_⟩)
    rcases e with e | e
    · exact hq.1.2 e
    · have := hq.2; omega
  · exact (h4.fr (T := fun _ => False) (Fr.of_below hb) (fun _ _ q => q)).mono (fun q h => .inl h)
theorem up_of {R : Nat → Prop} (hR : ∀ q, R q → b0 ≤ q ∧ q < w.heap.size) (hb : b0 ≤ w.heap.size) : ∀ q, w.heap.size ≤ q → (fun q => b0 ≤ q ∧ ¬ R q) q := fun q hq => ⟨by omega, fun e => by have := (hR q e).2; omega⟩
theorem FgS.more (h : FgS w b0 d g v Ls k) (hk : k ≤ k') : FgS w b0 d g v Ls k' := by
  obtain ⟨R, h1, h2, h3, h4⟩ := h
  exact ⟨R, h1, h2, h3.more hk, h4⟩
end
end Go.Proofs.Ytfklhjkgogncdaa

/- The law DeskForgets: the walk of its own text, by the contracts of package desk. Any steps. No conditions. -/
namespace Go.Proofs.Ytfklhjkgogncdaa
set_option linter.unusedVariables false
set_option linter.unusedSimpArgs false
set_option maxRecDepth 100000
open Go.RowKit

def fc : Chg := ⟨[107], [49], false⟩
def fG1 : Dk := stB (Dk.new 3000) 1 [tr0 1 0]
def fG2 : Dk := stB (Dk.new 3000) 1 [⟨1, 0, 0, [], [], [fc]⟩]
def fG3 : Dk := ⟨⟨-1, false, 3000, frame [fc], 0⟩, appF (fun _ => []) [fc] 1, [[fc]], 0, 1, [], [((frame [fc]).length : Int)]⟩
def fG4 : Dk := ⟨⟨-1, false, 3000, frame [fc], (frame [fc]).length⟩, appF (fun _ => []) [fc] 1, [[fc]], 1, 1, [], [((frame [fc]).length : Int)]⟩
theorem fact1' : (Dk.new 3000).begin = (1, 0, fG1) := by
  rw [begin_of (by simp [Dk.new]) rfl]
  rfl
theorem fact2' : fG1.change 1 ⟨[107], [49], false⟩ = (0, fG2) := by
  unfold Dk.change fG1
  rw [show (stB (Dk.new 3000) 1 [tr0 1 0]).op = [tr0 1 0] from rfl, findT_cons, if_pos (show (tr0 1 0).id = 1 from rfl)]
  simp only
  rw [if_neg (by decide), if_neg (by decide)]
  rfl
theorem fact3' : fG2.commit 1 = (1, 0, fG3) := by
  unfold Dk.commit fG2
  rw [show (stB (Dk.new 3000) 1 [⟨1, 0, 0, [], [], [fc]⟩]).op = [⟨1, 0, 0, [], [], [fc]⟩] from rfl, findT_cons, if_pos rfl]
  simp only
  have hF : NoLater (stB (Dk.new 3000) 1 [⟨1, 0, 0, [], [], [fc]⟩]).F 0 := fun s v hv => by cases hv
  have ha : (Dk.new 3000).lg.append [fc] = (0, ⟨-1, false, 3000, frame [fc], 0⟩) := by rfl
  rw [if_neg (NoLater.clash (t := ⟨1, 0, 0, [], [], [fc]⟩) hF), if_neg (by simp), show (stB (Dk.new 3000) 1 [⟨1, 0, 0, [], [], [fc]⟩]).lg = (Dk.new 3000).lg from rfl, ha, if_pos rfl]
  rfl
theorem fact4' : fG3.flush = (0, fG4) := by
  unfold Dk.flush fG3 Lg.sync
  rfl
theorem putF_one (s : List UInt8) (v : Ver) : putV (fun _ => []) s v = upd (fun _ => []) s [v] := rfl
theorem tell_one' (s x : List UInt8) (n : Int) (key : List UInt8) : tell (upd (fun _ => []) s [⟨n, x, false⟩]) key n = if key = s then some x else none := by
  by_cases h : key = s
  · subst h
    simp [tell, upd, fnd]
  · rw [if_neg h]
    exact tell_nil (by rw [upd_other _ _ h])
theorem fact_range {L : List KV} (h : RangeIs (appF (fun _ => []) [fc] 1) [] topKey 1 L) : L = [([107], [49])] := by
  refine Rise.ext h.rise (List.pairwise_singleton _ _) (fun x => ?_)
  obtain ⟨s, v⟩ := x
  rw [h.mem, List.mem_singleton]
  have e : appF (fun _ => []) [fc] 1 = upd (fun _ => []) [107] [⟨1, [49], false⟩] := rfl
  rw [e, tell_one']
  constructor
  · rintro ⟨_, q⟩
    by_cases c : s = [107]
    · rw [if_pos c] at q
      injection q with q
      rw [c, q]
    · rw [if_neg c] at q
      cases q
  · intro q
    injection q with q1 q2
    subst q1
    subst q2
    exact ⟨by decide, by simp⟩
theorem fault_zero' : faultV 0 = .nilIface := rfl
theorem fault_eight : faultV 8 = .iface 61 (.int .i64 8) := rfl
theorem rd_of {w : World} {base : Nat} {A : Option Addr} {c : Nat} {L : List KV} (h : OwnKV w base (.slice A L.length c) L) : Rd w w.heap.size A (flatE encKV L) := by
  obtain ⟨A', c', e, h1⟩ := h.rd
  injection e with e1 e2 e3
  subst e1
  exact h1
set_option maxHeartbeats 40000000 in
theorem deskForgets_walk (A : Option Addr) (l : List Stp) (c : Nat) (hm : l.length ≤ maxLen) (hS : ∀ s ∈ l, StpOk s) (w : World) (hl : Rd w w.heap.size A (cellsS l)) :
    Calls Try.prog 4 #[.slice A l.length c] w fun e w' => e = .returned (.bool true) ∧ Below w.heap.size w w' := by
  have HS := Lib.hid hS
  clear hS
  go_enter Try.func4, Try.ntmps4
  go_wp2_with fail
  refine (deskNew_ok 3000 (by decide) w).mono ?_
  rintro e w1 ⟨d0, rfl, hd0, hD1, hb1⟩
  have hs1 := hb1.size
  have hw1 : (Lit.int .i64 1).wf = true := by decide
  have HC1 := hD1.begin_s (fun q hq => by omega) (by omega)
  rw [fact1'] at HC1
  simp only [fault_zero'] at HC1
  have HC1 := Lib.hid HC1
  have HB1 := Lib.hid hb1
  clear hD1 hb1
  go_wp2_with fail
  refine HC1.out.mono ?_
  rintro e w2 ⟨rfl, f2, hD2⟩
  have hs2 := f2.size
  have HB2 := Lib.hid (HB1.out.trans (f2.below hs1 (fun _ h => h)))
  have HC2 := hD2.put_s (id := 1) (fun q hq => by omega) hw1 [107] [49] (by decide) (by decide)
  rw [fact2'] at HC2
  simp only [fault_zero'] at HC2
  have HC2 := Lib.hid HC2
  clear hD2 f2
  go_wp2_with fail
  refine HC2.out.mono ?_
  rintro e w3 ⟨rfl, f3, hD3⟩
  have hs3 := f3.size
  have HB3 := Lib.hid (HB2.out.trans (f3.below (by omega) (fun _ h => h)))
  have HC3 := hD3.commit_s (id := 1) (fun q hq => by omega) (by omega) hw1
  rw [fact3'] at HC3
  simp only [fault_zero'] at HC3
  have HC3 := Lib.hid HC3
  clear hD3 f3
  go_wp2_with fail
  refine HC3.out.mono ?_
  rintro e w4 ⟨rfl, f4, hD4⟩
  have hs4 := f4.size
  have HB4 := Lib.hid (HB3.out.trans (f4.below (by omega) (fun _ h => h)))
  have HC4 := hD4.flush_s (fun q hq => by omega)
  rw [fact4'] at HC4
  simp only [fault_zero'] at HC4
  have HC4 := Lib.hid HC4
  clear hD4 f4
  go_wp2_with fail
  refine HC4.out.mono ?_
  rintro e w5 ⟨rfl, f5, hD5⟩
  have hs5 := f5.size
  have HB5 := Lib.hid (HB4.out.trans (f5.below (by omega) (fun _ h => h)))
  obtain ⟨j, hj1, hj2, hja⟩ := (hD5.ok.crash 0 hD5.log.2.2).2
  have hjone : j = 1 := by
    have : fG4.all.length = 1 := rfl
    have : fG4.ns = 1 := rfl
    omega
  have hall6 : (fG4.crash 0).all = [[fc]] := by rw [hja, hjone]; rfl
  have HLast6 := Lib.hid (show (fG4.crash 0).last = 1 by unfold Dk.last; rw [hall6]; rfl)
  have HNs6 := Lib.hid (show ((fG4.crash 0).ns : Int) = 1 by show (((fG4.crash 0).all.length : Nat) : Int) = 1; rw [hall6]; rfl)
  have HF6 := Lib.hid (show (fG4.crash 0).F = appF (fun _ => []) [fc] 1 by show replay (fun _ => []) 0 (fG4.crash 0).all = _; rw [hall6]; rfl)
  have HC5 := Lib.hid (hD5.crash_s (fun q hq => by omega) (by omega) 0 (by decide))
  clear hD5 f5 hja hj1 hj2 hjone hall6
  go_wp2_with fail
  refine HC5.out.mono ?_
  rintro e w6 ⟨rfl, f6, hD6⟩
  have hs6 := f6.size
  have HB6 := Lib.hid (HB5.out.trans (f6.below (by omega) (fun _ h => h)))
  have HC6 := Lib.hid (hD6.all_s (by omega))
  have HD6 := Lib.hid hD6
  clear hD6 f6
  go_wp2_with fail
  refine HC6.out.mono ?_
  rintro e w7 ⟨v7, L7, rfl, hO7, hR7, _, hb7⟩
  rw [HLast6.out, HF6.out] at hR7
  obtain rfl := fact_range hR7
  obtain ⟨A7, c7, hv7, _⟩ := hO7.rd
  subst hv7
  have HB7 := Lib.hid (HB6.out.trans (hb7.mono (by omega)))
  have hs7 := hb7.size
  have HC7 := (HD6.out.below hb7).safe_s (by omega)
  rw [HNs6.out] at HC7
  have HC7 := Lib.hid HC7
  clear hO7 hR7 hb7
  simp only [List.length_cons, List.length_nil]
  go_wp2_with fail
  refine HC7.out.mono ?_
  rintro e w8 ⟨rfl, hb8⟩
  have hs8 := hb8.size
  have HB8 := Lib.hid (HB7.out.trans (hb8.mono (by omega)))
  clear hb8
  go_wp2_with fail
  refine (deskNew_ok 3000 (by decide) w8).mono ?_
  rintro e w9 ⟨d, rfl, hd1, hD9, hb9⟩
  have hs9 := hb9.size
  have HB9 := Lib.hid (HB8.out.trans (hb9.mono (by omega)))
  have hD9' : DeskS w9 (fun q => w.heap.size ≤ q) d (Dk.new 3000) 0 := hD9.mono (fun q hq => by omega)
  have HD9 := Lib.hid hD9'
  clear hD9 hb9 hD9'
  go_upto_block 0 with fail
  have hba : Below w9.heap.size w9 (w9.alloc (.cells #[.slice none 0 0] 36)) := (Below.refl _ _).alloc (Nat.le_refl _) _
  have hF0 : FgS (w9.alloc (.cells #[.slice none 0 0] 36)) w.heap.size d (Dk.new 3000) (.slice (some ⟨w9.heap.size, 0, none⟩) 1 1) [[]] 0 :=
    ⟨fun q => q = w9.heap.size, fun q e => by subst e; simp; omega, by simp; omega, (HD9.out.tight.below hba).mono (fun q hq => ⟨hq.1, by have := hq.2; omega⟩), WasAt.one w9⟩
  have HF0 := Lib.hid (⟨hF0, FgI.new 3000⟩ : FgS (w9.alloc (.cells #[.slice none 0 0] 36)) w.heap.size d (Dk.new 3000) (.slice (some ⟨w9.heap.size, 0, none⟩) 1 1) [[]] 0 ∧ FgI topKey (Dk.new 3000) [[]])
  have HBa := Lib.hid (HB9.out.trans (hba.mono (by omega)))
  generalize hWa : w9.alloc (.cells #[.slice none 0 0] 36) = wi at *
  clear hWa hba hF0
  clear HC1 HC2 HC3 HC4 HC5 HC6 HC7 HB1 HB2 HB3 HB4 HB5 HB6 HB7 HB8 HB9 HD6 HD9 HLast6 HNs6 HF6
  go_wp2
  go_loopw [12, 13] (fun v i wr => ∃ (k : Nat) (g : Dk) (was : List (List KV)), i = .int .i64 k ∧ k ≤ l.length ∧ k ≤ 60 ∧ Hid (FgS wr w.heap.size d g v was k ∧ FgI topKey g was) ∧ Below w.heap.size w wr) (fun _ i _ => 60 - (intOf i).toNat)
  case atStart => exact ⟨0, _, _, by go_num, by omega, by omega, HF0, HBa.out⟩
  case round =>
    obtain ⟨k, g, was, rfl, hk1, hk2, hFI, hb⟩ := hrel
    by_cases hlt1 : k < l.length
    · by_cases hlt2 : k < 60
      · obtain ⟨b0, of0, rfl, hbb0, c0, c1, c2, c3, c4, c5⟩ := (hl.below hb).stp hlt1
        obtain ⟨s1, s2, s3, s4, s5⟩ := HS.out l[k] (List.getElem_mem _)
        have hI : (k : Int) < (l.length : Int) := by omega
        have hI2 : (0 : Int) ≤ (k : Int) := by omega
        have hI3 : (k : Int) < 60 := by omega
        have HB := Lib.hid hb
        have hbsz := hb.size
        clear hb
        go_upto_region 20 with fail
        have hbs : Below wr.heap.size wr (wr.alloc (.cells #[.int .i64 l[k].what, .int .i64 l[k].who, .string ⟨l[k].key.toArray⟩, .string ⟨l[k].to.toArray⟩, .string ⟨l[k].val.toArray⟩, .int .i64 l[k].n] 29)) := (Below.refl _ _).alloc (Nat.le_refl _) _
        have hBx := Blk.new wr 29 #[.int .i64 l[k].what, .int .i64 l[k].who, .string ⟨l[k].key.toArray⟩, .string ⟨l[k].to.toArray⟩, .string ⟨l[k].val.toArray⟩, .int .i64 l[k].n]
        obtain ⟨R, hR, hb0, hD, hW, hbox⟩ := hFI.out.1.aside hbs
        have hRbox := hbox wr.heap.size (Nat.le_refl _) (by simp)
        have HBa := Lib.hid (HB.out.trans (hbs.mono hbsz))
        generalize hg0 : wr.heap.size = bx at *
        generalize hW3 : wr.alloc (.cells #[.int .i64 l[k].what, .int .i64 l[k].who, .string ⟨l[k].key.toArray⟩, .string ⟨l[k].to.toArray⟩, .string ⟨l[k].val.toArray⟩, .int .i64 l[k].n] 29) = wa at *
        clear hW3 hbs hbox hg0 hbsz
        have HC := Lib.hid (hD.safe_s (by omega))
        have HD0 := Lib.hid hD
        clear hD
        go_wp2_with fail
        refine HC.out.mono ?_
        rintro e w2 ⟨rfl, hb2⟩
        have hBx2 := hBx.below hb2 hBx.lt
        have hR2 : ∀ q, R q → w.heap.size ≤ q ∧ q < w2.heap.size := fun q h => ⟨(hR q h).1, by have := (hR q h).2; have := hb2.size; omega⟩
        have hb02 : w.heap.size ≤ w2.heap.size := Nat.le_trans hb0 hb2.size
        have hD2 := HD0.out.below hb2
        have hW2 := hW.fr (T := fun _ => False) (Fr.of_below hb2) (fun _ _ q => q)
        have HB2 := Lib.hid (HBa.out.trans (hb2.mono hb0))
        obtain ⟨xsw, hxw1, hxw2, hxw3⟩ := hW2
        obtain ⟨Aw, cw, hvw, hrdw⟩ := own_form hxw1
        subst hvw
        have hW2 : WasAt w2 R (.slice Aw was.length cw) was := ⟨xsw, hxw1, hxw2, hxw3⟩
        have z0 := hBx2.cell 0
        have z1 := hBx2.cell 1
        have z2 := hBx2.cell 2
        have z4 := hBx2.cell 4
        have z5 := hBx2.cell 5
        simp at z0 z1 z2 z4 z5
        have HFI := Lib.hid hFI.out.2
        have hlw := hFI.out.2.len
        have HLW := Lib.hid hlw
        have hgall : g.all.length ≤ 60 := by have := hD2.ok.hall.1; omega
        have HD2 := Lib.hid hD2
        have HW2 := Lib.hid hW2
        have HUP := Lib.hid (up_of hR2 hb02)
        clear hD2 hW2 hxw1 hxw3 hxw2 hrdw hFI HC HD0 hBx hR hb0 hW HB HBa hb2 c0 c1 c2 c3 c4 c5 hBx2 hlw HF0
        go_upto_block 2 with fail
        go_cut [12, 16, 17, 18, 19, 20, 100, 104, 117, 125, 148, 161, 167] (fun v _ _ _ _ _ _ _ _ _ _ _ _ wx => ∃ (g' : Dk) (was' : List (List KV)), Hid (FgS wx w.heap.size d g' v was' (k + 1) ∧ FgI topKey g' was' ∧ g.ns ≤ g'.ns) ∧ Below w.heap.size w wx)
        case first =>
          by_cases e0 : l[k].what = 0
          · have f0 : (l[k].what == 0) = true := by simpa using e0
            as_aux_lemma =>
              clear e0
              have HC := Lib.hid (HD2.out.begin_s HUP.out (by omega))
              go_wp2_with fail
              refine HC.out.mono ?_
              rintro e w3 ⟨rfl, h3, hD3⟩
              have HB3 := Lib.hid (HB2.out.trans (h3.below hb02 (fun _ h => h.1)))
              have HR3 := Lib.hid (show FgS w3 w.heap.size d (g.begin.2.2) (.slice Aw was.length cw) was (k + 1) ∧ FgI topKey (g.begin.2.2) was ∧ g.ns ≤ (g.begin.2.2).ns from ⟨(FgS.call hR2 hb02 HW2.out h3 hD3).more (by omega), HFI.out.same (begin_keeps g).1 (begin_keeps g).2.1, Nat.le_of_eq (begin_keeps g).2.2.symm⟩)
              clear h3 hD3
              go_wp2
              go_meet
              exact ⟨_, _, HR3, HB3.out⟩
          · have f0 : (l[k].what == 0) = false := by simpa using e0
            by_cases e1 : l[k].what = 1
            · have f1 : (l[k].what == 1) = true := by simpa using e1
              as_aux_lemma =>
                clear e0 e1
                have HC := Lib.hid (HD2.out.put_s HUP.out s2 l[k].key l[k].val s3 s5)
                go_wp2_with fail
                refine HC.out.mono ?_
                rintro e w3 ⟨rfl, h3, hD3⟩
                have HB3 := Lib.hid (HB2.out.trans (h3.below hb02 (fun _ h => h.1)))
                have HR3 := Lib.hid (show FgS w3 w.heap.size d ((g.change l[k].who ⟨l[k].key, l[k].val, false⟩).2) (.slice Aw was.length cw) was (k + 1) ∧ FgI topKey ((g.change l[k].who ⟨l[k].key, l[k].val, false⟩).2) was ∧ g.ns ≤ ((g.change l[k].who ⟨l[k].key, l[k].val, false⟩).2).ns from ⟨(FgS.call hR2 hb02 HW2.out h3 hD3).more (by omega), HFI.out.same (change_keeps g _ _).1 (change_keeps g _ _).2.1, Nat.le_of_eq (change_keeps g _ _).2.2.symm⟩)
                clear h3 hD3
                go_wp2
                go_meet
                exact ⟨_, _, HR3, HB3.out⟩
            · have f1 : (l[k].what == 1) = false := by simpa using e1
              by_cases e2 : l[k].what = 2
              · have f2 : (l[k].what == 2) = true := by simpa using e2
                as_aux_lemma =>
                  clear e0 e1 e2
                  have HC := Lib.hid (HD2.out.put_s HUP.out s2 l[k].key l[k].val s3 s5)
                  go_wp2_with fail
                  refine HC.out.mono ?_
                  rintro e w3 ⟨rfl, h3, hD3⟩
                  have HB3 := Lib.hid (HB2.out.trans (h3.below hb02 (fun _ h => h.1)))
                  have HR3 := Lib.hid (show FgS w3 w.heap.size d ((g.change l[k].who ⟨l[k].key, l[k].val, false⟩).2) (.slice Aw was.length cw) was (k + 1) ∧ FgI topKey ((g.change l[k].who ⟨l[k].key, l[k].val, false⟩).2) was ∧ g.ns ≤ ((g.change l[k].who ⟨l[k].key, l[k].val, false⟩).2).ns from ⟨(FgS.call hR2 hb02 HW2.out h3 hD3).more (by omega), HFI.out.same (change_keeps g _ _).1 (change_keeps g _ _).2.1, Nat.le_of_eq (change_keeps g _ _).2.2.symm⟩)
                  clear h3 hD3
                  go_wp2
                  go_meet
                  exact ⟨_, _, HR3, HB3.out⟩
              · have f2 : (l[k].what == 2) = false := by simpa using e2
                by_cases e3 : l[k].what = 3
                · have f3 : (l[k].what == 3) = true := by simpa using e3
                  as_aux_lemma =>
                    clear e0 e1 e2 e3
                    have HC := Lib.hid (HD2.out.put_s HUP.out s2 l[k].key l[k].val s3 s5)
                    go_wp2_with fail
                    refine HC.out.mono ?_
                    rintro e w3 ⟨rfl, h3, hD3⟩
                    have HB3 := Lib.hid (HB2.out.trans (h3.below hb02 (fun _ h => h.1)))
                    have HR3 := Lib.hid (show FgS w3 w.heap.size d ((g.change l[k].who ⟨l[k].key, l[k].val, false⟩).2) (.slice Aw was.length cw) was (k + 1) ∧ FgI topKey ((g.change l[k].who ⟨l[k].key, l[k].val, false⟩).2) was ∧ g.ns ≤ ((g.change l[k].who ⟨l[k].key, l[k].val, false⟩).2).ns from ⟨(FgS.call hR2 hb02 HW2.out h3 hD3).more (by omega), HFI.out.same (change_keeps g _ _).1 (change_keeps g _ _).2.1, Nat.le_of_eq (change_keeps g _ _).2.2.symm⟩)
                    clear h3 hD3
                    go_wp2
                    go_meet
                    exact ⟨_, _, HR3, HB3.out⟩
                · have f3 : (l[k].what == 3) = false := by simpa using e3
                  by_cases e4 : l[k].what = 4
                  · have f4 : (l[k].what == 4) = true := by simpa using e4
                    as_aux_lemma =>
                      clear e0 e1 e2 e3 e4
                      have HC := Lib.hid (HD2.out.put_s HUP.out s2 l[k].key l[k].val s3 s5)
                      go_wp2_with fail
                      refine HC.out.mono ?_
                      rintro e w3 ⟨rfl, h3, hD3⟩
                      have HB3 := Lib.hid (HB2.out.trans (h3.below hb02 (fun _ h => h.1)))
                      have HR3 := Lib.hid (show FgS w3 w.heap.size d ((g.change l[k].who ⟨l[k].key, l[k].val, false⟩).2) (.slice Aw was.length cw) was (k + 1) ∧ FgI topKey ((g.change l[k].who ⟨l[k].key, l[k].val, false⟩).2) was ∧ g.ns ≤ ((g.change l[k].who ⟨l[k].key, l[k].val, false⟩).2).ns from ⟨(FgS.call hR2 hb02 HW2.out h3 hD3).more (by omega), HFI.out.same (change_keeps g _ _).1 (change_keeps g _ _).2.1, Nat.le_of_eq (change_keeps g _ _).2.2.symm⟩)
                      clear h3 hD3
                      go_wp2
                      go_meet
                      exact ⟨_, _, HR3, HB3.out⟩
                  · have f4 : (l[k].what == 4) = false := by simpa using e4
                    by_cases e5 : l[k].what = 5
                    · have f5 : (l[k].what == 5) = true := by simpa using e5
                      as_aux_lemma =>
                        clear e0 e1 e2 e3 e4 e5
                        have HC := Lib.hid (HD2.out.drop_s HUP.out s2 l[k].key s3)
                        go_wp2_with fail
                        refine HC.out.mono ?_
                        rintro e w3 ⟨rfl, h3, hD3⟩
                        have HB3 := Lib.hid (HB2.out.trans (h3.below hb02 (fun _ h => h.1)))
                        have HR3 := Lib.hid (show FgS w3 w.heap.size d ((g.change l[k].who ⟨l[k].key, [], true⟩).2) (.slice Aw was.length cw) was (k + 1) ∧ FgI topKey ((g.change l[k].who ⟨l[k].key, [], true⟩).2) was ∧ g.ns ≤ ((g.change l[k].who ⟨l[k].key, [], true⟩).2).ns from ⟨(FgS.call hR2 hb02 HW2.out h3 hD3).more (by omega), HFI.out.same (change_keeps g _ _).1 (change_keeps g _ _).2.1, Nat.le_of_eq (change_keeps g _ _).2.2.symm⟩)
                        clear h3 hD3
                        go_wp2
                        go_meet
                        exact ⟨_, _, HR3, HB3.out⟩
                    · have f5 : (l[k].what == 5) = false := by simpa using e5
                      by_cases e6 : l[k].what = 6
                      · have f6 : (l[k].what == 6) = true := by simpa using e6
                        as_aux_lemma =>
                          clear e0 e1 e2 e3 e4 e5 e6
                          have HC := Lib.hid (HD2.out.commit_s HUP.out (by omega) s2)
                          have HCC := Lib.hid (commit_cases g l[k].who k HD2.out.ok)
                          go_wp2_with fail
                          refine HC.out.mono ?_
                          rintro e w3 ⟨rfl, h3, hD3⟩
                          have hs3 := h3.size
                          have HB3 := Lib.hid (HB2.out.trans (h3.below hb02 (fun _ h => h.1)))
                          have hFS3 := FgS.call hR2 hb02 HW2.out h3 hD3
                          have HLast : g.last = ((was.length : Int) - 1) := by unfold Dk.last; have := HLW.out; omega
                          rcases HCC.out with ⟨x, hx0, q1, q2, q3, q4⟩ | ⟨q1, q0, q00, q2, q3, q4⟩ | ⟨q1, q00, q4, lc, q2, q3⟩
                          · have hfx : faultV (g.commit l[k].who).2.1 = .iface 61 (.int .i64 x) := by rw [q1]; unfold faultV; rw [if_neg hx0]
                            have HR3 := Lib.hid (show FgS w3 w.heap.size d (g.commit l[k].who).2.2 (.slice Aw was.length cw) was (k + 1) ∧ FgI topKey (g.commit l[k].who).2.2 was ∧ g.ns ≤ (g.commit l[k].who).2.2.ns from ⟨hFS3, HFI.out.same q2 q3, Nat.le_of_eq q4.symm⟩)
                            rw [hfx]
                            clear hFS3 hD3 h3 q1 q2 q3 q4 hfx HLast HCC HC
                            go_wp2
                            go_meet
                            exact ⟨_, _, HR3, HB3.out⟩
                          · have hfx : faultV (g.commit l[k].who).2.1 = .nilIface := by rw [q1]; rfl
                            have HR3 := Lib.hid (show FgS w3 w.heap.size d (g.commit l[k].who).2.2 (.slice Aw was.length cw) was (k + 1) ∧ FgI topKey (g.commit l[k].who).2.2 was ∧ g.ns ≤ (g.commit l[k].who).2.2.ns from ⟨hFS3, HFI.out.same q2 q3, Nat.le_of_eq q4.symm⟩)
                            have hne : ((g.commit l[k].who).1 == (was.length : Int)) = false := by simp; omega
                            rw [hfx]
                            clear hFS3 hD3 h3 q1 q2 q3 q4 hfx HLast HCC HC q0 q00
                            go_wp2
                            go_meet
                            exact ⟨_, _, HR3, HB3.out⟩
                          · have hfx : faultV (g.commit l[k].who).2.1 = .nilIface := by rw [q1]; rfl
                            have heq : (g.commit l[k].who).1 = (was.length : Int) := by omega
                            have heq2 : ((was.length : Int) == (was.length : Int)) = true := by simp
                            rw [hfx, heq]
                            have HQ2 := Lib.hid q2
                            have HQ3 := Lib.hid q3
                            have HNS := Lib.hid (Nat.le_of_eq q4.symm)
                            have HCA := Lib.hid (hD3.all_s (by omega))
                            have HFS3 := Lib.hid hFS3
                            clear hFS3 hD3 h3 q1 q2 q3 q4 hfx heq HLast HCC HC q00
                            go_wp2_with fail
                            refine HCA.out.mono ?_
                            rintro e w4 ⟨v4, L4, rfl, hO4, hR4, _, hb4⟩
                            have HI4 := Lib.hid (HFI.out.more HQ2.out HQ3.out hR4)
                            obtain ⟨A4, c4, hv4, _⟩ := hO4.rd
                            subst hv4
                            obtain ⟨R4, r1, r2, r3, r4, r5⟩ := HFS3.out.aside hb4
                            obtain ⟨xs4, x1, x2, x3⟩ := r4
                            have HB4 := Lib.hid (HB3.out.trans (hb4.mono (by omega)))
                            have hOb := OwnKV.blk hO4
                            have hO40 : OwnKV w4 0 (.slice A4 L4.length c4) L4 := own_of_base hO4 (Nat.zero_le _)
                            have hu4 : ∀ q, (Value.slice A4 L4.length c4).ownBlock = some q → R4 q := fun q e => r5 q (hOb q e).1 (hOb q e).2
                            have hone : ∀ u ∈ (#[Value.slice A4 L4.length c4] : Array Value).toList, u.oneCell' = true := by
                              intro u hu
                              simp at hu
                              subst hu
                              rfl
                            have hwl : was.length < 1000000000 := by have := HLW.out; omega
                            have HO40 := Lib.hid hO40
                            have HX3 := Lib.hid x3
                            clear hb4 hO4 hR4 hO40 x3 hOb
                            go_wp2_with (at_builtin; go_must (refine wpList_append_elt rfl _ _ 46 rfl 36 Try.underlying46 _ 1 24 infoPP rfl (by decide) (by decide) 0 _ was.length xs4 rfl x1 #[.slice A4 L4.length c4] rfl hone rfl hwl (Nat.zero_le _) ?_); intro v5 w5 hown5 hg5 hat5)
                            have hs45 := hg5.size
                            have hw5b : ∀ q, v5.ownBlock = some q → R4 q ∨ (w4.heap.size ≤ q ∧ q < w5.heap.size) := fun q e => by
                              rcases hat5 with h | h
                              · exact .inl (x2 q (h.symm.trans e))
                              · have := (World.ownsRow.lt hown5 q e).2
                                rw [h] at e
                                injection e with e
                                exact .inr ⟨by omega, this⟩
                            have hW5 : WasAt w5 (fun q => R4 q ∨ (w4.heap.size ≤ q ∧ q < w5.heap.size)) v5 (was ++ [L4]) :=
                              WasAt.snoc x1 (fun q e => .inl (x2 q e)) (fun i hi => by obtain ⟨u, a1, a2, a3⟩ := HX3.out i hi; exact ⟨u, a1, a2, fun q e => .inl (a3 q e)⟩) HO40.out (fun q e => .inl (hu4 q e)) hown5 hw5b hg5
                            have hf5 : Fr (fun q => R4 q) w4 w5 := (Fr.refl _ _).grown hg5 (fun q e _ => x2 q e)
                            have hD5 : DeskS w5 (fun q => w.heap.size ≤ q ∧ ¬ (R4 q ∨ (w4.heap.size ≤ q ∧ q < w5.heap.size))) d (g.commit l[k].who).2.2 (k + 1) :=
                              (r3.tight.far hf5 (fun q hq e => hq.1.2 e)).mono (fun q hq => ⟨hq.1.1, fun e => by rcases e with e | e; exact hq.1.2 e; have := hq.2; omega⟩)
                            have HR5 := Lib.hid (show FgS w5 w.heap.size d (g.commit l[k].who).2.2 v5 (was ++ [L4]) (k + 1) ∧ FgI topKey (g.commit l[k].who).2.2 (was ++ [L4]) ∧ g.ns ≤ (g.commit l[k].who).2.2.ns from ⟨⟨_, fun q h => by rcases h with h | h; have := r1 q h; omega; omega, by omega, hD5, hW5⟩, HI4.out, HNS.out⟩)
                            have HB5 := Lib.hid (HB4.out.grown hg5 r2 (fun q e => (r1 q (x2 q e)).1))
                            clear hD5 hW5 hf5 hw5b r3 hown5 hg5 hat5
                            go_meet
                            exact ⟨_, _, HR5, HB5.out⟩
                      · have f6 : (l[k].what == 6) = false := by simpa using e6
                        by_cases e7 : l[k].what = 7
                        · have f7 : (l[k].what == 7) = true := by simpa using e7
                          as_aux_lemma =>
                            clear e0 e1 e2 e3 e4 e5 e6 e7
                            have HC := Lib.hid (HD2.out.commit_s HUP.out (by omega) s2)
                            have HCC := Lib.hid (commit_cases g l[k].who k HD2.out.ok)
                            go_wp2_with fail
                            refine HC.out.mono ?_
                            rintro e w3 ⟨rfl, h3, hD3⟩
                            have hs3 := h3.size
                            have HB3 := Lib.hid (HB2.out.trans (h3.below hb02 (fun _ h => h.1)))
                            have hFS3 := FgS.call hR2 hb02 HW2.out h3 hD3
                            have HLast : g.last = ((was.length : Int) - 1) := by unfold Dk.last; have := HLW.out; omega
                            rcases HCC.out with ⟨x, hx0, q1, q2, q3, q4⟩ | ⟨q1, q0, q00, q2, q3, q4⟩ | ⟨q1, q00, q4, lc, q2, q3⟩
                            · have hfx : faultV (g.commit l[k].who).2.1 = .iface 61 (.int .i64 x) := by rw [q1]; unfold faultV; rw [if_neg hx0]
                              have HR3 := Lib.hid (show FgS w3 w.heap.size d (g.commit l[k].who).2.2 (.slice Aw was.length cw) was (k + 1) ∧ FgI topKey (g.commit l[k].who).2.2 was ∧ g.ns ≤ (g.commit l[k].who).2.2.ns from ⟨hFS3, HFI.out.same q2 q3, Nat.le_of_eq q4.symm⟩)
                              rw [hfx]
                              clear hFS3 hD3 h3 q1 q2 q3 q4 hfx HLast HCC HC
                              go_wp2
                              go_meet
                              exact ⟨_, _, HR3, HB3.out⟩
                            · have hfx : faultV (g.commit l[k].who).2.1 = .nilIface := by rw [q1]; rfl
                              have HR3 := Lib.hid (show FgS w3 w.heap.size d (g.commit l[k].who).2.2 (.slice Aw was.length cw) was (k + 1) ∧ FgI topKey (g.commit l[k].who).2.2 was ∧ g.ns ≤ (g.commit l[k].who).2.2.ns from ⟨hFS3, HFI.out.same q2 q3, Nat.le_of_eq q4.symm⟩)
                              have hne : ((g.commit l[k].who).1 == (was.length : Int)) = false := by simp; omega
                              rw [hfx]
                              clear hFS3 hD3 h3 q1 q2 q3 q4 hfx HLast HCC HC q0 q00
                              go_wp2
                              go_meet
                              exact ⟨_, _, HR3, HB3.out⟩
                            · have hfx : faultV (g.commit l[k].who).2.1 = .nilIface := by rw [q1]; rfl
                              have heq : (g.commit l[k].who).1 = (was.length : Int) := by omega
                              have heq2 : ((was.length : Int) == (was.length : Int)) = true := by simp
                              rw [hfx, heq]
                              have HQ2 := Lib.hid q2
                              have HQ3 := Lib.hid q3
                              have HNS := Lib.hid (Nat.le_of_eq q4.symm)
                              have HCA := Lib.hid (hD3.all_s (by omega))
                              have HFS3 := Lib.hid hFS3
                              clear hFS3 hD3 h3 q1 q2 q3 q4 hfx heq HLast HCC HC q00
                              go_wp2_with fail
                              refine HCA.out.mono ?_
                              rintro e w4 ⟨v4, L4, rfl, hO4, hR4, _, hb4⟩
                              have HI4 := Lib.hid (HFI.out.more HQ2.out HQ3.out hR4)
                              obtain ⟨A4, c4, hv4, _⟩ := hO4.rd
                              subst hv4
                              obtain ⟨R4, r1, r2, r3, r4, r5⟩ := HFS3.out.aside hb4
                              obtain ⟨xs4, x1, x2, x3⟩ := r4
                              have HB4 := Lib.hid (HB3.out.trans (hb4.mono (by omega)))
                              have hOb := OwnKV.blk hO4
                              have hO40 : OwnKV w4 0 (.slice A4 L4.length c4) L4 := own_of_base hO4 (Nat.zero_le _)
                              have hu4 : ∀ q, (Value.slice A4 L4.length c4).ownBlock = some q → R4 q := fun q e => r5 q (hOb q e).1 (hOb q e).2
                              have hone : ∀ u ∈ (#[Value.slice A4 L4.length c4] : Array Value).toList, u.oneCell' = true := by
                                intro u hu
                                simp at hu
                                subst hu
                                rfl
                              have hwl : was.length < 1000000000 := by have := HLW.out; omega
                              have HO40 := Lib.hid hO40
                              have HX3 := Lib.hid x3
                              clear hb4 hO4 hR4 hO40 x3 hOb
                              go_wp2_with (at_builtin; go_must (refine wpList_append_elt rfl _ _ 46 rfl 36 Try.underlying46 _ 1 24 infoPP rfl (by decide) (by decide) 0 _ was.length xs4 rfl x1 #[.slice A4 L4.length c4] rfl hone rfl hwl (Nat.zero_le _) ?_); intro v5 w5 hown5 hg5 hat5)
                              have hs45 := hg5.size
                              have hw5b : ∀ q, v5.ownBlock = some q → R4 q ∨ (w4.heap.size ≤ q ∧ q < w5.heap.size) := fun q e => by
                                rcases hat5 with h | h
                                · exact .inl (x2 q (h.symm.trans e))
                                · have := (World.ownsRow.lt hown5 q e).2
                                  rw [h] at e
                                  injection e with e
                                  exact .inr ⟨by omega, this⟩
                              have hW5 : WasAt w5 (fun q => R4 q ∨ (w4.heap.size ≤ q ∧ q < w5.heap.size)) v5 (was ++ [L4]) :=
                                WasAt.snoc x1 (fun q e => .inl (x2 q e)) (fun i hi => by obtain ⟨u, a1, a2, a3⟩ := HX3.out i hi; exact ⟨u, a1, a2, fun q e => .inl (a3 q e)⟩) HO40.out (fun q e => .inl (hu4 q e)) hown5 hw5b hg5
                              have hf5 : Fr (fun q => R4 q) w4 w5 := (Fr.refl _ _).grown hg5 (fun q e _ => x2 q e)
                              have hD5 : DeskS w5 (fun q => w.heap.size ≤ q ∧ ¬ (R4 q ∨ (w4.heap.size ≤ q ∧ q < w5.heap.size))) d (g.commit l[k].who).2.2 (k + 1) :=
                                (r3.tight.far hf5 (fun q hq e => hq.1.2 e)).mono (fun q hq => ⟨hq.1.1, fun e => by rcases e with e | e; exact hq.1.2 e; have := hq.2; omega⟩)
                              have HR5 := Lib.hid (show FgS w5 w.heap.size d (g.commit l[k].who).2.2 v5 (was ++ [L4]) (k + 1) ∧ FgI topKey (g.commit l[k].who).2.2 (was ++ [L4]) ∧ g.ns ≤ (g.commit l[k].who).2.2.ns from ⟨⟨_, fun q h => by rcases h with h | h; have := r1 q h; omega; omega, by omega, hD5, hW5⟩, HI4.out, HNS.out⟩)
                              have HB5 := Lib.hid (HB4.out.grown hg5 r2 (fun q e => (r1 q (x2 q e)).1))
                              clear hD5 hW5 hf5 hw5b r3 hown5 hg5 hat5
                              go_meet
                              exact ⟨_, _, HR5, HB5.out⟩
                        · have f7 : (l[k].what == 7) = false := by simpa using e7
                          by_cases e9 : l[k].what = 9
                          · have f9 : (l[k].what == 9) = true := by simpa using e9
                            as_aux_lemma =>
                              clear e0 e1 e2 e3 e4 e5 e6 e7 e9
                              have HC := Lib.hid (HD2.out.flush_s HUP.out)
                              have HCC := Lib.hid (flush_cases g k HD2.out.ok)
                              have hnsle := HD2.out.ok.ns_le
                              go_wp2_with fail
                              refine HC.out.mono ?_
                              rintro e w3 ⟨rfl, h3, hD3⟩
                              have hs3 := h3.size
                              have HB3 := Lib.hid (HB2.out.trans (h3.below hb02 (fun _ h => h.1)))
                              have hFS3 := FgS.call hR2 hb02 HW2.out h3 hD3
                              obtain ⟨q2, q3, hq⟩ := HCC.out
                              rcases hq with ⟨q1, q4⟩ | ⟨q1, q4⟩
                              · have hfx : faultV g.flush.1 = .nilIface := by rw [q1]; rfl
                                have HR3 := Lib.hid (show FgS w3 w.heap.size d g.flush.2 (.slice Aw was.length cw) was (k + 1) ∧ FgI topKey g.flush.2 was ∧ g.ns ≤ g.flush.2.ns from ⟨hFS3.more (by omega), HFI.out.same q2 q3, by rw [q4]; exact hnsle⟩)
                                have HCS := hD3.safe_s (by omega)
                                rw [q4] at HCS
                                have HCS := Lib.hid HCS
                                have HD3 := Lib.hid hD3
                                have HQ2 := Lib.hid q2
                                rw [hfx]
                                clear hFS3 hD3 h3 q1 q2 q3 q4 hfx HCC HC
                                go_wp2_with fail
                                refine HCS.out.mono ?_
                                rintro e w4 ⟨rfl, hb4⟩
                                have HCT := (HD3.out.below hb4).top_s
                                rw [show g.flush.2.last = (g.all.length : Int) by unfold Dk.last; rw [HQ2.out]] at HCT
                                have HCT := Lib.hid HCT
                                have HR4 := Lib.hid (show FgS w4 w.heap.size d g.flush.2 (.slice Aw was.length cw) was (k + 1) ∧ FgI topKey g.flush.2 was ∧ g.ns ≤ g.flush.2.ns from ⟨HR3.out.1.below hb4, HR3.out.2⟩)
                                have HB4 := Lib.hid (HB3.out.trans (hb4.mono (by omega)))
                                clear hb4
                                go_wp2_with fail
                                refine HCT.out.mono ?_
                                rintro e w5 ⟨rfl, rfl⟩
                                go_wp2
                                go_meet
                                exact ⟨_, _, HR4, HB4.out⟩
                              · have hfx : faultV g.flush.1 = .iface 61 (.int .i64 8) := by rw [q1]; rfl
                                have HR3 := Lib.hid (show FgS w3 w.heap.size d g.flush.2 (.slice Aw was.length cw) was (k + 1) ∧ FgI topKey g.flush.2 was ∧ g.ns ≤ g.flush.2.ns from ⟨hFS3.more (by omega), HFI.out.same q2 q3, Nat.le_of_eq q4.symm⟩)
                                rw [hfx]
                                clear hFS3 hD3 h3 q1 q2 q3 q4 hfx HCC HC
                                go_wp2
                                go_meet
                                exact ⟨_, _, HR3, HB3.out⟩
                          · have f9 : (l[k].what == 9) = false := by simpa using e9
                            by_cases e10 : l[k].what = 10
                            · have f10 : (l[k].what == 10) = true := by simpa using e10
                              as_aux_lemma =>
                                clear e0 e1 e2 e3 e4 e5 e6 e7 e9 e10
                                have HC := Lib.hid (HD2.out.fail_s HUP.out l[k].n s1)
                                go_wp2_with fail
                                refine HC.out.mono ?_
                                rintro e w3 ⟨rfl, h3, hD3⟩
                                have HB3 := Lib.hid (HB2.out.trans (h3.below hb02 (fun _ h => h.1)))
                                have HR3 := Lib.hid (show FgS w3 w.heap.size d (g.fail l[k].n) (.slice Aw was.length cw) was (k + 1) ∧ FgI topKey (g.fail l[k].n) was ∧ g.ns ≤ (g.fail l[k].n).ns from ⟨(FgS.call hR2 hb02 HW2.out h3 hD3).more (by omega), HFI.out.same rfl rfl, Nat.le_refl _⟩)
                                clear h3 hD3
                                go_wp2
                                go_meet
                                exact ⟨_, _, HR3, HB3.out⟩
                            · have f10 : (l[k].what == 10) = false := by simpa using e10
                              by_cases e11 : l[k].what = 11
                              · have f11 : (l[k].what == 11) = true := by simpa using e11
                                as_aux_lemma =>
                                  clear e0 e1 e2 e3 e4 e5 e6 e7 e9 e10 e11
                                  have HC := Lib.hid (HD2.out.crash_s HUP.out (by omega) l[k].n s1)
                                  obtain ⟨j, hj1, hj2, hja⟩ := (HD2.out.ok.crash l[k].n HD2.out.log.2.2).2
                                  have hlwn := HLW.out
                                  have hjl : j < was.length := by omega
                                  have HLast := Lib.hid (show (g.crash l[k].n).last = (j : Int) by unfold Dk.last; rw [hja]; simp; omega)
                                  have HNs := Lib.hid (show (g.crash l[k].n).ns = j by show (g.crash l[k].n).all.length = j; rw [hja]; simp; omega)
                                  have HI := Lib.hid (HFI.out.cut (g' := g.crash l[k].n) hj2 hja rfl)
                                  have HJ1 := Lib.hid hj1
                                  have hj1I : (g.ns : Int) ≤ (j : Int) := by omega
                                  clear hja hj1 hlwn
                                  go_wp2_with fail
                                  refine HC.out.mono ?_
                                  rintro e w3 ⟨rfl, h3, hD3⟩
                                  have hs3 := h3.size
                                  have HB3 := Lib.hid (HB2.out.trans (h3.below hb02 (fun _ h => h.1)))
                                  have HFS3 := Lib.hid (FgS.call hR2 hb02 HW2.out h3 hD3)
                                  have HCT := hD3.top_s
                                  rw [HLast.out] at HCT
                                  have HCT := Lib.hid HCT
                                  have HCS := hD3.safe_s (by omega)
                                  rw [HNs.out] at HCS
                                  have HCS := Lib.hid HCS
                                  clear hD3 h3 HC
                                  go_wp2_with fail
                                  refine HCT.out.mono ?_
                                  rintro e w4 ⟨rfl, rfl⟩
                                  have hjI : ¬ ((j : Int) < (g.ns : Int)) := by omega
                                  have hjl2 : ¬ ((was.length : Int) ≤ (j : Int)) := by omega
                                  go_wp2_with fail
                                  refine HCS.out.mono ?_
                                  rintro e w5 ⟨rfl, hb5⟩
                                  have hs5 := hb5.size
                                  have HB5 := Lib.hid (HB3.out.trans (hb5.mono (by omega)))
                                  obtain ⟨R5, r1, r2, r3, r4⟩ := HFS3.out.below hb5
                                  obtain ⟨xs5, x1, x2, x3⟩ := r4
                                  obtain ⟨uj, u1, u2, u3⟩ := x3 j hjl
                                  obtain ⟨Aj, cj, huj, hrdj⟩ := u2.rd
                                  subst huj
                                  obtain ⟨Aw2, cw2, hvw2, hcapw, _, hrdw2⟩ := own_form3 x1
                                  injection hvw2 with hv1 hv2 hv3
                                  subst hv1
                                  subst hv3
                                  obtain ⟨bw, ow, rfl, hbw, hcw⟩ := hrdw2 (fun e => by rw [e] at u1; cases u1)
                                  have c0 := hcw j _ u1
                                  have HFS5 := Lib.hid (show FgS w5 w.heap.size d (g.crash l[k].n) (.slice (some ⟨bw, ow, none⟩) (j + 1) cw) (was.take (j + 1)) k from ⟨R5, r1, r2, r3, WasAt.take ⟨xs5, x1, x2, x3⟩ (by omega)⟩)
                                  have HTold := Lib.hid (show ∀ L, RangeIs (g.crash l[k].n).F [] topKey (g.crash l[k].n).last L → L = was[j] from fun L hL => by
                                    have hal : (g.crash l[k].n).all.length = j := HNs.out
                                    have h := HI.out.told hL (by rw [hal]; simp; omega)
                                    rw [← h, List.getElem_take]
                                    simp [hal])
                                  have HAd := Lib.hid (show Calls Try.prog 15 #[ptrV d] w5.drew (fun e w' => ∃ A c, e = .returned (.slice A was[j].length c) ∧ OwnKV w' w5.heap.size (.slice A was[j].length c) was[j] ∧ was[j].length ≤ 800000 ∧ Below w5.heap.size w5 w') from
                                    ((r3.below (w' := w5.drew) ⟨rfl, rfl, rfl, Nat.le_refl _, fun _ _ => rfl⟩).all_s (by omega)).mono (fun e w' q => by
                                      obtain ⟨v, L, q1, q2, q3, q4, q5⟩ := q
                                      obtain rfl := HTold.out L q3
                                      obtain ⟨A, c, hv, _⟩ := q2.rd
                                      subst hv
                                      exact ⟨A, c, q1, q2, q4, q5.os, q5.tape, q5.output, q5.size, q5.block⟩))
                                  have HU2 := Lib.hid u2
                                  have HRJ := Lib.hid hrdj
                                  have HX1 := Lib.hid x1
                                  have HR3' := Lib.hid r3
                                  have hjcap : j + 1 ≤ cw := by omega
                                  clear hb5 u1 u2 u3 x1 x2 x3 hrdw2 hcw hrdj r3 hj2 hs3
                                  go_wp2_with fail
                                  go_region_held3 (fun W => W.cell? ⟨bw, ow + j, none⟩ = some (.slice Aj was[j].length cj))
                                    (first
                                      | exact c0
                                      | (rw [hb6.cell hbw]; exact c0)
                                      | (rw [hb7.cell (Nat.lt_of_lt_of_le hbw hb6.size), hb6.cell hbw]; exact c0))
                                    ((first
                                      | (go_at_call 15; refine HAd.out.mono ?_; rintro e w6 ⟨A6, c6, rfl, hO6, hl6, hb6⟩)
                                      | (go_at_call 19; refine (pairs_same A6 Aj was[j] c6 cj (by unfold maxLen; omega) w6 (rd_of hO6) (rd_of (own_below HU2.out hb6))).mono ?_; rintro e w7 ⟨rfl, hb7⟩)))
                                  have hb67 : Below w5.heap.size w5 w7 := hb6.trans (hb7.mono hb6.size)
                                  have hw5b := HB5.out.size
                                  have HB7 := Lib.hid (HB5.out.trans (hb67.mono hw5b))
                                  have HR7 := Lib.hid (show FgS w7 w.heap.size d (g.crash l[k].n) (.slice (some ⟨bw, ow, none⟩) (j + 1) cw) (was.take (j + 1)) (k + 1) ∧ FgI topKey (g.crash l[k].n) (was.take (j + 1)) ∧ g.ns ≤ (g.crash l[k].n).ns from ⟨(HFS5.out.below hb67).more (by omega), HI.out, by rw [HNs.out]; exact HJ1.out⟩)
                                  clear hl6 hb6 hb7 hb67 hO6 c0 hw5b
                                  go_upto_region 50 with fail
                                  have hj60 : (j : Int) ≤ 1000 := by have := HLW.out; omega
                                  have hjc : (j : Int) + 1 ≤ (cw : Int) := by omega
                                  clear HTold HAd hjcap hjl2 hcapw hjI hj1I
                                  go_wp2
                                  go_meet
                                  exact ⟨_, _, HR7, HB7.out⟩
                              · have f11 : (l[k].what == 11) = false := by simpa using e11
                                as_aux_lemma =>
                                  clear e0 e1 e2 e3 e4 e5 e6 e7 e9 e10 e11
                                  have HR3 := Lib.hid (show FgS w2 w.heap.size d g (.slice Aw was.length cw) was (k + 1) ∧ FgI topKey g was ∧ g.ns ≤ g.ns from ⟨FgS.more ⟨R, hR2, hb02, HD2.out, HW2.out⟩ (by omega), HFI.out, Nat.le_refl _⟩)
                                  go_wp2
                                  go_meet
                                  exact ⟨_, _, HR3, HB2.out⟩
        case rest =>
          as_aux_lemma =>
            obtain ⟨g', was', hR', hB'⟩ := hcut
            obtain ⟨hFS, hFI', hns⟩ := hR'.out
            have hsz := hFS
            obtain ⟨R', r1, r2, r3, r4⟩ := hFS
            obtain ⟨xs', x1, x2, x3⟩ := r4
            obtain ⟨A', c', hv', _⟩ := own_form x1
            subst hv'
            have hlw' := hFI'.len
            have hgall' : g'.all.length ≤ 61 := by have := r3.ok.hall.1; omega
            have HCS := Lib.hid (r3.safe_s (by omega))
            have hw1 : (1 : Int) ≤ (was'.length : Int) := by omega
            have hw2 : (was'.length : Int) ≤ 100 := by omega
            have HLW' := Lib.hid (show g'.last = (was'.length : Int) - 1 by unfold Dk.last; omega)
            have HNS := Lib.hid hns
            have hnsI : ¬ ((g'.ns : Int) < (g.ns : Int)) := by omega
            have HR3 := Lib.hid r3
            have HF' := Lib.hid hFI'
            have HSZ := Lib.hid hsz
            have HB' := Lib.hid hB'
            have hwcs : w.heap.size ≤ wc.heap.size := hB'.size
            clear hR' r1 r2 r3 x1 x2 x3 hFI' hlw' hns hsz hB' hgall'
            go_wp2_with fail
            refine HCS.out.mono ?_
            rintro e w4 ⟨rfl, hb4⟩
            have HCT := (HR3.out.below hb4).top_s
            rw [HLW'.out] at HCT
            have HCT := Lib.hid HCT
            have HFS4 := Lib.hid (⟨HSZ.out.below hb4, HF'.out⟩ : FgS w4 w.heap.size d g' (.slice A' was'.length c') was' (k + 1) ∧ FgI topKey g' was')
            have HB4 := Lib.hid (HB'.out.trans (hb4.mono hwcs))
            clear hb4
            go_wp2_with fail
            refine HCT.out.mono ?_
            rintro e w5 ⟨rfl, rfl⟩
            go_wp2
            go_roundw
            case rel => exact ⟨k + 1, g', was', by go_num, by omega, by omega, HFS4, HB4.out⟩
            case measure => simp [intOf]; omega
      · have d60 : decide ((k : Int) < 60) = false := decide_eq_false (by omega)
        clear HF0
        go_wp2
        go_ret
        exact ⟨rfl, hb⟩
    · clear HF0
      go_wp2
      go_ret
      exact ⟨rfl, hb⟩
end Go.Proofs.Ytfklhjkgogncdaa
