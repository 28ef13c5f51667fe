/- Small laws over any program: regions that draw their order with calls that make memory; slices that read as lists. No conditions. -/
import Derived.WalkKit
import Derived.WalkLawsBesides
import Derived.WalkSpells
import Derived.Outline
import Derived.Deep.QuietTactic
import Derived.BigQuiet
import Derived.Lib.Hide
import Derived.Deep.AppendLies
import Derived.Maps.AppendAt
import Derived.OwnWalk
namespace Go.Proofs.YtemokelgafndpaaGreatDoor
set_option linter.unusedVariables false
set_option linter.unusedSimpArgs false
open Go.RowKit

/-- The worlds that are as W was below block B. -/
def BelW (B : Nat) (W : World) := { x : World // Below B W x }
instance belNonempty (B : Nat) (W : World) : Nonempty (BelW B W) := ⟨⟨W, Below.refl _ _⟩⟩

section
variable {P : Program}
theorem wp_region_bel (B : Nat) (W : World) {id : Nat} {Q : Exit → Act → World → Prop} {a : Act} {w : World} {l : List Oper} (hm : P.follows .mixedOrders = true) (hB : Region.lexB .any l.toArray = true)
    (hw : Below B W w) (h : wpQuiet P l.toArray (fun w' => ∃ x : BelW B W, w' = x.1) (fun a' => ∀ w', Below B W w' → Q .normal a' w') l a) : (Code.region id l.toArray true).wp P Q a w := by
  refine wp_region_quiet (C := fun w' => ∃ x : BelW B W, w' = x.1) hm hB ⟨⟨_, hw.drew⟩, rfl⟩ ?_
  have hq : (fun a' => ∀ w', (∃ x : BelW B W, w' = x.1) → Q .normal a' w') = (fun a' => ∀ w', Below B W w' → Q .normal a' w') := by
    funext a'
    refine propext ⟨fun h w' hb => h w' ⟨⟨w', hb⟩, rfl⟩, fun h w' hb => ?_⟩
    obtain ⟨x, rfl⟩ := hb
    exact h _ x.2
  rw [hq]
  simpa using h

theorem Calls.bel_of {f : FuncId} {args : Array Value} {B : Nat} {W : World} {x : BelW B W} {v : Value} (hB : B ≤ W.heap.size)
    (h : Calls P f args x.1 fun e w' => e = .returned v ∧ Below x.1.heap.size x.1 w') : Calls P f args x.1 fun e w'' => e = .returned v ∧ ∃ y : BelW B W, w'' = y.1 :=
  h.mono fun _ w' ⟨he, hb⟩ => ⟨he, ⟨w', x.2.trans (hb.mono (Nat.le_trans hB x.2.size))⟩, rfl⟩

theorem Calls.bel_same {f : FuncId} {args : Array Value} {B : Nat} {W : World} {x : BelW B W} {v : Value}
    (h : Calls P f args x.1 fun e w' => e = .returned v ∧ x.1 = w') : Calls P f args x.1 fun e w'' => e = .returned v ∧ ∃ y : BelW B W, w'' = y.1 :=
  h.mono fun _ w' ⟨he, hb⟩ => ⟨he, x, hb.symm⟩

theorem BelW.cell {B : Nat} {W : World} {a : Addr} {v : Value} (h : W.cell? a = some v) (hb : a.block < B) (x : BelW B W) : x.1.cell? a = some v := (x.2.cell hb).trans h
end

/-- Cells of a list of pairs of ints. -/
def cellsP : List (Int × Int) → List Value
  | [] => []
  | p :: l => .int .i64 p.1 :: .int .i64 p.2 :: cellsP l

theorem cellsP_length : ∀ l, (cellsP l).length = l.length * 2
  | [] => rfl
  | p :: l => by simp [cellsP, cellsP_length l]; omega
theorem cellsP_append : ∀ l m, cellsP (l ++ m) = cellsP l ++ cellsP m
  | [], m => rfl
  | p :: l, m => by simp [cellsP, cellsP_append l m]
theorem cellsP_at : ∀ (l : List (Int × Int)) (k : Nat) (h : k < l.length), (cellsP l)[2 * k]? = some (.int .i64 l[k].1) ∧ (cellsP l)[2 * k + 1]? = some (.int .i64 l[k].2)
  | p :: l, 0, _ => by simp [cellsP]
  | p :: l, k + 1, h => by
    have ih := cellsP_at l k (by simpa using h)
    have e1 : 2 * (k + 1) = 2 * k + 1 + 1 := by omega
    rw [e1]
    simpa [cellsP] using ih
theorem cellsP_one : ∀ (l : List (Int × Int)), ∀ u ∈ cellsP l, u.oneCell' = true
  | [], u, h => by simp [cellsP] at h
  | p :: l, u, h => by
    simp only [cellsP, List.mem_cons] at h
    rcases h with rfl | rfl | h
    · rfl
    · rfl
    · exact cellsP_one l u h

/-- A slice (its address) reads as these cells, all below block B. -/
def Rd (w : World) (B : Nat) (A : Option Addr) (xs : List Value) : Prop :=
  xs ≠ [] → ∃ b off, A = some ⟨b, off, none⟩ ∧ b < B ∧ ∀ j u, xs[j]? = some u → w.cell? ⟨b, off + j, none⟩ = some u

section
variable {w w' : World} {B B' : Nat} {A : Option Addr} {xs : List Value}
theorem Rd.nil : Rd w B A [] := fun h => absurd rfl h
theorem Rd.keep (h : Rd w B A xs) (hk : ∀ p : Addr, p.block < B → w'.cell? p = w.cell? p) : Rd w' B A xs := fun hn => by
  obtain ⟨b, off, e, hb, hc⟩ := h hn
  exact ⟨b, off, e, hb, fun j u hu => (hk _ hb).trans (hc j u hu)⟩
theorem Rd.more (h : Rd w B A xs) (hB : B ≤ B') : Rd w B' A xs := fun hn => by
  obtain ⟨b, off, e, hb, hc⟩ := h hn
  exact ⟨b, off, e, by omega, hc⟩
theorem Rd.below (h : Rd w B A xs) (hb : Below B w w') : Rd w' B A xs := h.keep fun _ hp => hb.cell hp
theorem Rd.alloc (h : Rd w B A xs) (hB : B ≤ w.heap.size) (o : Obj) : Rd (w.alloc o) B A xs := h.keep fun p hp => World.cell?_alloc_lt w o p (by omega)
theorem Rd.of_own {base : Nat} {e : TypeId} {size n c : Nat} (h : w.ownsRow base e size (.slice A n c) n xs) : Rd w w.heap.size A xs := by
  intro hn
  rcases h.2 with ⟨h1, h2⟩ | ⟨g, cap, cur, hv, hg, hh, _, _, hs, ht⟩
  · have : xs.length = 0 := by rw [h.1, h2]; simp
    exact absurd (List.eq_nil_of_length_eq_zero this) hn
  · have hA : A = some ⟨g, 0, none⟩ := by injection hv
    subst hA
    refine ⟨g, 0, rfl, (Array.getElem?_eq_some_iff.1 hh).1, fun j u hu => ?_⟩
    have := h.cells (g := g) rfl j u hu
    rwa [show ((⟨g, 0, none⟩ : Addr).add j) = ⟨g, 0 + j, none⟩ by unfold Addr.add; split <;> simp_all] at this
theorem own_form {base : Nat} {e : TypeId} {size n : Nat} {v : Value} (h : w.ownsRow base e size v n xs) : ∃ A c, v = .slice A n c ∧ Rd w w.heap.size A xs := by
  rcases h.2 with ⟨h1, h2⟩ | ⟨g, cap, cur, hv, _⟩
  · subst h2
    have hx : xs = [] := List.eq_nil_of_length_eq_zero (by simpa using h.1)
    subst hx
    exact ⟨none, 0, h1, Rd.nil⟩
  · exact ⟨_, cap, hv, Rd.of_own (hv ▸ h)⟩
/-- Element number k of a slice of pairs. -/
theorem Rd.pair {l : List (Int × Int)} (h : Rd w B A (cellsP l)) {k : Nat} (hk : k < l.length) :
    ∃ b off, A = some ⟨b, off, none⟩ ∧ b < B ∧ w.cell? ⟨b, off + k * 2, none⟩ = some (.int .i64 l[k].1) ∧ w.cell? ⟨b, off + k * 2 + 1, none⟩ = some (.int .i64 l[k].2) := by
  obtain ⟨b, off, e, hb, hc⟩ := h (fun h => by have := cellsP_length l; rw [h] at this; simp at this; omega)
  rw [Nat.mul_comm k 2]
  exact ⟨b, off, e, hb, hc _ _ (cellsP_at l k hk).1, hc _ _ (cellsP_at l k hk).2⟩
end

/-- A box of two cells that was just laid. -/
theorem new2 (w : World) (u v : Value) (t : TypeId) : (w.alloc (.cells #[u, v] t)).cell? ⟨w.heap.size, 0, none⟩ = some u ∧ (w.alloc (.cells #[u, v] t)).cell? ⟨w.heap.size, 1, none⟩ = some v :=
  ⟨World.cell?_alloc_at _ _ _ _ rfl, World.cell?_alloc_at _ _ _ _ rfl⟩
theorem keep2 {B : Nat} {w w' : World} {g : Nat} {u v : Value} (hb : Below B w w') (h : w.cell? ⟨g, 0, none⟩ = some u ∧ w.cell? ⟨g, 1, none⟩ = some v) (hg : g < B) :
    w'.cell? ⟨g, 0, none⟩ = some u ∧ w'.cell? ⟨g, 1, none⟩ = some v := ⟨(hb.cell hg).trans h.1, (hb.cell hg).trans h.2⟩
/-- Element number k of a slice of ints. -/
theorem Rd.int {w : World} {B : Nat} {A : Option Addr} {l : List Int} (h : Rd w B A (l.map (Value.int .i64))) {k : Nat} (hk : k < l.length) :
    ∃ b off, A = some ⟨b, off, none⟩ ∧ b < B ∧ w.cell? ⟨b, off + k, none⟩ = some (.int .i64 l[k]) := by
  obtain ⟨b, off, e, hb, hc⟩ := h (fun h => by have := congrArg List.length h; simp at this; subst this; simp at hk)
  exact ⟨b, off, e, hb, hc k _ (by rw [List.getElem?_map, List.getElem?_eq_getElem hk]; rfl)⟩
theorem own_below {w w' : World} {base : Nat} {e : TypeId} {size : Nat} {v : Value} {n : Nat} {xs : List Value} (h : w.ownsRow base e size v n xs) (hb : Below w.heap.size w w') : w'.ownsRow base e size v n xs :=
  h.kept (row := none) ⟨hb.os, hb.tape, hb.output, hb.size, fun k hk _ => hb.block k hk⟩ (by cases v.ownBlock <;> simp)
theorem own_of_base {w : World} {base base' : Nat} {e : TypeId} {size : Nat} {v : Value} {n : Nat} {xs : List Value} (h : w.ownsRow base e size v n xs) (hb : base' ≤ base) : w.ownsRow base' e size v n xs := by
  refine ⟨h.1, ?_⟩
  rcases h.2 with h2 | ⟨g, cap, cur, hv, hg, r⟩
  · exact .inl h2
  · exact .inr ⟨g, cap, cur, hv, by omega, r⟩
theorem new22 (w : World) (u v u' v' : Value) (t t' : TypeId) : (((w.alloc (.cells #[u, v] t)).alloc (.cells #[u', v'] t')).cell? ⟨w.heap.size, 0, none⟩ = some u ∧ ((w.alloc (.cells #[u, v] t)).alloc (.cells #[u', v'] t')).cell? ⟨w.heap.size, 1, none⟩ = some v) ∧
    (((w.alloc (.cells #[u, v] t)).alloc (.cells #[u', v'] t')).cell? ⟨w.heap.size + 1, 0, none⟩ = some u' ∧ ((w.alloc (.cells #[u, v] t)).alloc (.cells #[u', v'] t')).cell? ⟨w.heap.size + 1, 1, none⟩ = some v') := by
  refine ⟨keep2 (B := w.heap.size + 1) ((Below.refl _ _).alloc (by simp) _) (new2 w u v t) (by omega), ?_⟩
  simp
theorem bel2 {B : Nat} {W : World} {g : Nat} {u v : Value} (h : W.cell? ⟨g, 0, none⟩ = some u ∧ W.cell? ⟨g, 1, none⟩ = some v) (hg : g < B) :
    (∀ x : BelW B W, x.1.cell? ⟨g, 0, none⟩ = some u) ∧ (∀ x : BelW B W, x.1.cell? ⟨g, 1, none⟩ = some v) := ⟨BelW.cell h.1 hg, BelW.cell h.2 hg⟩
/-- Block g is just these cells, none frozen. -/
def Blk (w : World) (g : Nat) (t : TypeId) (cs : Array Value) : Prop := w.heap[g]? = some (.cells cs t (0, 0))
section
variable {w w' : World} {g : Nat} {t : TypeId} {cs : Array Value}
theorem Blk.lt (h : Blk w g t cs) : g < w.heap.size := (Array.getElem?_eq_some_iff.1 h).1
theorem Blk.cell (h : Blk w g t cs) (i : Nat) : w.cell? ⟨g, i, none⟩ = cs[i]? := cell_of_row w g i cs t (0, 0) h
theorem Blk.frozen (h : Blk w g t cs) (i : Nat) : w.frozen? ⟨g, i, none⟩ = false := by
  unfold Blk at h
  simp [World.frozen?, h]
theorem Blk.new (w : World) (t : TypeId) (cs : Array Value) : Blk (w.alloc (.cells cs t)) w.heap.size t cs := heap_alloc_new w _
theorem Blk.alloc (h : Blk w g t cs) (o : Obj) : Blk (w.alloc o) g t cs := (Below.heap_alloc w o g h.lt).trans h
theorem Blk.setCell (h : Blk w g t cs) (i : Nat) (u : Value) : Blk (w.setCell ⟨g, i, none⟩ u) g t (cs.setIfInBounds i u) := by
  unfold Blk at h ⊢
  simp [World.setCell, Array.getElem?_modify, h]
theorem Blk.far (h : Blk w g t cs) {p : Addr} (hp : g ≠ p.block) (u : Value) : Blk (w.setCell p u) g t cs := (Below.heap_setCell w p u g hp).trans h
theorem Blk.below {B : Nat} (h : Blk w g t cs) (hb : Below B w w') (hg : g < B) : Blk w' g t cs := (hb.block g hg).trans h
theorem Blk.grown {row : Option Nat} (h : Blk w g t cs) (hb : w.grownBy w' row) (hg : some g ≠ row) : Blk w' g t cs := (hb.block g h.lt hg).trans h
/-- The facts that a walk wants of a block of two cells. -/
theorem Blk.two {u v : Value} (h : Blk w g t #[u, v]) : w.cell? ⟨g, 0, none⟩ = some u ∧ w.cell? ⟨g, 1, none⟩ = some v ∧ w.frozen? ⟨g, 0, none⟩ = false ∧ w.frozen? ⟨g, 1, none⟩ = false :=
  ⟨h.cell 0, h.cell 1, h.frozen 0, h.frozen 1⟩
theorem Blk.one {u : Value} (h : Blk w g t #[u]) : w.cell? ⟨g, 0, none⟩ = some u ∧ w.frozen? ⟨g, 0, none⟩ = false := ⟨h.cell 0, h.frozen 0⟩
end
/-- The slice value owns a list of pairs. -/
def OwnP (w : World) (base : Nat) (e : TypeId) (v : Value) (l : List (Int × Int)) : Prop := w.ownsRow base e 2 v l.length (cellsP l)
theorem OwnP.below {w w' : World} {base : Nat} {e : TypeId} {v : Value} {l : List (Int × Int)} (h : OwnP w base e v l) (hb : Below w.heap.size w w') : OwnP w' base e v l := own_below h hb
theorem OwnP.alloc {w : World} {base : Nat} {e : TypeId} {v : Value} {l : List (Int × Int)} (h : OwnP w base e v l) (o : Obj) : OwnP (w.alloc o) base e v l := World.ownsRow.alloc h o
theorem OwnP.nil (w : World) (base : Nat) (e : TypeId) : OwnP w base e (.slice none 0 0) [] := World.ownsRow_nil _ _ _ _
theorem OwnP.block {w : World} {base : Nat} {e : TypeId} {v : Value} {l : List (Int × Int)} (h : OwnP w base e v l) : ∀ k, v.ownBlock = some k → base ≤ k := fun k hk => (World.ownsRow.lt h k hk).1
theorem OwnP.form {w : World} {base : Nat} {e : TypeId} {v : Value} {l : List (Int × Int)} (h : OwnP w base e v l) : ∃ A c, v = .slice A l.length c ∧ Rd w w.heap.size A (cellsP l) := by
  rcases h.2 with ⟨h1, h2⟩ | ⟨g, cap, cur, hv, _⟩
  · have : l = [] := List.eq_nil_of_length_eq_zero h2
    subst this
    exact ⟨none, 0, h1, Rd.nil⟩
  · exact ⟨_, cap, hv, Rd.of_own (hv ▸ h)⟩

/-- 'out = append(out, p)': one pair more, on a row of the call's own. -/
theorem wpList_append_pair {P : Program} {ops : Array Oper} {rest : List Oper} {o : Oper} {a : Act} {Q : Exit → Act → World → Prop} {w1 : World} {e : TypeId} {p : Int × Int} (hgd : o.guard = none) (s x : Operand) (t : TypeId)
    (ho : o.op = .call { callee := .builtin .append, args := #[s, x], argTypes := #[t, t] }) (ht : P.underlying t = some (.slice e))
    (hinfo : (P.info? e).map (fun i => (i.zero, i.size, i.bytes)) = some (some (.agg #[.int .i64 0, .int .i64 0]), 2, 16))
    (base : Nat) (v : Value) (l : List (Int × Int)) (hs : a.eval s = v) (hown : OwnP w1 base e v l)
    (hx : a.eval x = .slice (some ⟨w1.heap.size, 0, none⟩) 1 1) (hlen : l.length < 1000000000000) (hbase : base ≤ w1.heap.size)
    (h : ∀ v' w', OwnP w' base e v' (l ++ [p]) → Below base w1 w' → wpList P ops Q rest (a.put o.dst v') w') :
    wpList P ops Q (o :: rest) a (w1.alloc (.cells #[.int .i64 p.1, .int .i64 p.2] e)) := by
  obtain ⟨i0, hi0, hz0, hz1, hz2⟩ := info_parts hinfo
  refine wpList_append_own _ hgd s x t ho base e i0 _ 2 16 ht hi0 hz0 hz1 hz2 rfl (by decide) v l.length (cellsP l) hs (World.ownsRow.alloc hown _) ⟨w1.heap.size, 0, none⟩ 1 1 [.int .i64 p.1, .int .i64 p.2] hx rfl ?_ ?_ ?_ ?_ ?_ ?_
  · intro j u hj
    match j, hj with
    | 0, hj => simp at hj; subst hj; simp [Addr.add]
    | 1, hj => simp at hj; subst hj; simp [Addr.add]
    | j + 2, hj => simp at hj
  · intro u hu
    simp at hu
    rcases hu with rfl | rfl <;> rfl
  · unfold maxLen; omega
  · omega
  · simp; omega
  · intro v' w' hown' hgrow _
    refine h v' w' ?_ ?_
    · unfold OwnP
      rw [cellsP_append, List.length_append]
      exact hown'
    · exact ((Below.refl _ _).alloc hbase _).grown hgrow (by simp; omega) (fun k hk => hown.block k hk)

/-- 'out = append(out, xs...)', xs whatever reads as a list (nil, empty or not). -/
theorem wpList_append_rd {P : Program} {ops : Array Oper} {rest : List Oper} {o : Oper} {a : Act} {Q : Exit → Act → World → Prop} {w : World} (hgd : o.guard = none) (s x : Operand) (t : TypeId)
    (ho : o.op = .call { callee := .builtin .append, args := #[s, x], argTypes := #[t, t] }) (e : TypeId) (ht : P.underlying t = some (.slice e)) (z : Value) (size bytes : Nat)
    (hinfo : (P.info? e).map (fun i => (i.zero, i.size, i.bytes)) = some (some z, size, bytes)) (hzs : z.cells.size = size) (hsz : 0 < size)
    (base : Nat) (v : Value) (n : Nat) (xs : List Value) (hs : a.eval s = v) (hown : w.ownsRow base e size v n xs)
    (B : Nat) (A : Option Addr) (m c : Nat) (news : List Value) (hx : a.eval x = .slice A m c) (hl : news.length = m * size) (hr : Rd w B A news) (h1 : ∀ u ∈ news, u.oneCell' = true)
    (h63 : n + m ≤ maxLen) (hbytes : (n + m) * bytes ≤ 140737488355328) (hbase : base ≤ w.heap.size)
    (h : ∀ v' w', w'.ownsRow base e size v' (n + m) (xs ++ news) → Below base w w' → wpList P ops Q rest (a.put o.dst v') w') :
    wpList P ops Q (o :: rest) a w := by
  obtain ⟨i0, hi0, hz0, hz1, hz2⟩ := info_parts hinfo
  have main : ∀ ad, A = some ad → (∀ j u, news[j]? = some u → w.cell? (ad.add j) = some u) → wpList P ops Q (o :: rest) a w := fun ad hA hc => by
    subst hA
    exact wpList_append_own _ hgd s x t ho base e i0 _ size bytes ht hi0 hz0 hz1 hz2 hzs hsz v n xs hs hown ad m c news hx hl hc h1 h63 hbytes hbase
      (fun v' w' g1 g2 _ => h v' w' g1 ((Below.refl _ _).grown g2 hbase (fun k hk => (hown.lt k hk).1)))
  by_cases hn : news = []
  · subst hn
    have hm : m = 0 := by
      rcases Nat.eq_zero_or_pos m with h0 | h0
      · exact h0
      · have := Nat.mul_pos h0 hsz; rw [← hl] at this; simp at this
    subst hm
    rcases A with _ | ad
    · refine wpList_plain hgd fun K hK => ?_
      unfold Oper.wp execOp
      have hrun : (Builtin.append_ #[t, t] o.type #[v, .slice none 0 c]).run P w = .ok v w := by
        rcases hown.2 with ⟨rfl, rfl⟩ | ⟨g, cap, cur, rfl, _, _, hnc, _⟩
        · simp [Builtin.append_, run_underlying ht, sizeOf, typeInfo, hi0, Builtin.lenOf, Builtin.firstCells]
        · simp [Builtin.append_, run_underlying ht, sizeOf, typeInfo, hi0, Builtin.lenOf, Builtin.firstCells, hnc, storeCells]
      simp only [ho, resolve, invoke, builtin, Sem.run_bind, Sem.run_pure, Result.andThen_ok, List.map_toArray, List.map_cons, List.map_nil, hs, hx, hrun]
      exact hK _ _ (h v w (by simpa using hown) (Below.refl _ _))
    · exact main ad rfl (fun j u hu => by simp at hu)
  · obtain ⟨b, off, rfl, hb, hc⟩ := hr hn
    exact main _ rfl (fun j u hu => by
      have := hc j u hu
      rwa [show ((⟨b, off, none⟩ : Addr).add j) = ⟨b, off + j, none⟩ by unfold Addr.add; split <;> simp_all])

/-- 'out = append(out, x)', x of one cell, on a row of the call's own. -/
theorem wpList_append_one {P : Program} {ops : Array Oper} {rest : List Oper} {o : Oper} {a : Act} {Q : Exit → Act → World → Prop} {w1 : World} {e : TypeId} {u : Value} (hgd : o.guard = none) (s x : Operand) (t : TypeId)
    (ho : o.op = .call { callee := .builtin .append, args := #[s, x], argTypes := #[t, t] }) (ht : P.underlying t = some (.slice e)) (z : Value) (bytes : Nat)
    (hinfo : (P.info? e).map (fun i => (i.zero, i.size, i.bytes)) = some (some z, 1, bytes)) (hzs : z.cells.size = 1) (hby : bytes ≤ 1024)
    (base : Nat) (v : Value) (n : Nat) (xs : List Value) (hs : a.eval s = v) (hown : w1.ownsRow base e 1 v n xs)
    (hx : a.eval x = .slice (some ⟨w1.heap.size, 0, none⟩) 1 1) (h1 : u.oneCell' = true) (hlen : n < 10000000000) (hbase : base ≤ w1.heap.size)
    (h : ∀ v' w', w'.ownsRow base e 1 v' (n + 1) (xs ++ [u]) → Below base w1 w' → wpList P ops Q rest (a.put o.dst v') w') :
    wpList P ops Q (o :: rest) a (w1.alloc (.cells #[u] e)) := by
  obtain ⟨i0, hi0, hz0, hz1, hz2⟩ := info_parts hinfo
  refine wpList_append_own _ hgd s x t ho base e i0 _ 1 bytes ht hi0 hz0 hz1 hz2 hzs (by decide) v n xs hs (hown.alloc _) ⟨w1.heap.size, 0, none⟩ 1 1 [u] hx rfl ?_ ?_ ?_ ?_ ?_ ?_
  · intro j u' hj
    match j, hj with
    | 0, hj => simp at hj; subst hj; simp [Addr.add]
    | j + 1, hj => simp at hj
  · intro u' hu
    simp at hu
    subst hu
    exact h1
  · unfold maxLen; omega
  · have := Nat.mul_le_mul (show n + 1 ≤ 10000000000 by omega) hby; omega
  · simp; omega
  · intro v' w' hown' hgrow _
    exact h v' w' hown' (((Below.refl _ _).alloc hbase _).grown hgrow (by simp; omega) (fun k hk => (hown.lt k hk).1))
def OwnRes (e : TypeId) (w : World) (l : List (Int × Int)) (en : Ending) (w' : World) : Prop := ∃ v, en = .returned v ∧ OwnP w' w.heap.size e v l ∧ Below w.heap.size w w'
end Go.Proofs.YtemokelgafndpaaGreatDoor
