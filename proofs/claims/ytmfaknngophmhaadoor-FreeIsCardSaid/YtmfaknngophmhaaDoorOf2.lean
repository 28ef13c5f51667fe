/- cover.Of: who ranges over the blocks: any span. -/
import Derived.Test.YtmfaknngophmhaaDoorOf
import Derived.Test.YtmfaknngophmhaaDoorTreeB
namespace Go.Proofs.YtmfaknngophmhaaDoor
set_option linter.unusedVariables false
set_option linter.unusedSimpArgs false
open Go.RowKit Go.Shelf
attribute [local go_sem] Oper.semAt_some wide_fn wide_depth

theorem cover_len (x hi : Int) : (cover x hi).length ≤ (hi + 1 - x).toNat := by
  by_cases h : x ≤ hi
  · have := last_ge x (blkN x hi)
    have ih := cover_len (lastA x (blkN x hi) + 1) hi
    rw [cover_step h]
    simp only [List.length_cons]
    omega
  · rw [cover_end h]
    simp
termination_by (hi + 1 - x).toNat
decreasing_by
  have := last_ge x (blkN x hi)
  omega

theorem is_lit (n : Int) (b : Bool) (h : isA n = b) (w : World) : Calls Tryd.prog 48 #[.int .i64 n] w fun e w' => e = .returned (.bool b) ∧ w' = w := by
  rw [← h]; exact (is_any n w).mono fun e w' q => ⟨q.1, q.2.symm⟩

set_option maxRecDepth 100000 in
theorem blocks_in (n : Nat) (x hi : Int) (w : World) :
    CallsIn Fence.wide n Tryd.prog 60 #[.agg #[.int .i64 x, .int .i64 hi]] w fun e w' => e = .returned (.func (.func 81) #[] #[.pointer (some ⟨w.heap.size, 0, none⟩)]) ∧ w' = w.alloc (.cells #[.int .i64 x, .int .i64 hi] 26) := by
  refine callsIn_of_wp Tryd.func60 rfl trivial ?_ rfl
  simp only [Tryd.ntmps60, List.size_toArray, List.length_cons, List.length_nil, Nat.reduceAdd, Nat.reduceSub, Array.replicate_succ, Array.replicate_zero, List.push_toArray, List.append_toArray, List.nil_append, List.cons_append]
  gi_wp2
  go_ret
  exact ⟨rfl, rfl⟩

theorem blocks_stops (n : Nat) (hn : 1 ≤ n) (Bn n₀ : Nat) (x hi : Int) (h0 : 0 ≤ x) (h1 : x ≤ hi + 1) (h2 : hi ≤ 4294967295) (w : World) (hn₀ : n₀ ≤ w.heap.size) (hg : 1 < n₀) (hBk : Blk w Bn 26 #[.int .i64 x, .int .i64 hi]) (ht : TabVar w) :
    SeqStopsK Fence.wide n Tryd.prog 81 #[.pointer (some ⟨Bn, 0, none⟩)] (fun p : Pf => #[.agg #[.int .i64 p.1, .int .i64 p.2]]) (KpB Bn n₀) (fun ys => ys = cover x hi) (fun pre => pre <+: cover x hi) (cover x hi).length w := fun l J Jx W hW hJ _ hY hs =>
  blocks1_in n hn l Bn n₀ x hi h0 h1 h2 J Jx hY W hJ hg (hBk.below hW hBk.lt) (ht.belowB (hW.mono hn₀) hg) hs

theorem blk_own {β : Type} (g : Nat) (t : TypeId) (cs : Array Value) : Own (fun (_ : β) W => Blk W g t cs) := fun s X Y row hs hg hrow =>
  hs.grown hg (fun e' => by obtain ⟨o, ho, hc⟩ := hrow g e'.symm; rw [show X.heap[g]? = _ from hs] at ho; cases ho; cases hc)
theorem own_ne {w : World} {base g : Nat} {e t : TypeId} {size n : Nat} {v : Value} {xs : List Value} {cs : Array Value} (h : w.ownsRow base e size v n xs) (hb : Blk w g t cs) (hte : t ≠ e) : some g ≠ v.ownBlock := by
  rcases h.2 with ⟨rfl, _⟩ | ⟨g', cap, cur, rfl, _, hh, _⟩
  · intro e; cases e
  · intro e
    have : g = g' := by simpa [Value.ownBlock] using e
    subst this
    rw [show w.heap[g]? = _ from hb] at hh
    injection hh with hh
    injection hh with _ hh _
    exact hte hh
theorem kpB_b {S Bn n₁ : Nat} (hBn : Bn < S) (hn : n₁ ≤ S) : ∀ (W : World) (l : Nat) (o o' : Obj), S ≤ l → W.heap[l]? = some o → o.isCells = false → o.isWalk = false → KpB Bn n₁ W (W.putObj l o') := fun W l o o' hl ho hc hw =>
  ⟨World.putObj_heap_other (by omega), (Below.refl n₁ W).grown (grownBy_putObj' W l o') (Nat.le_trans hn (Nat.le_trans hl (Nat.le_of_lt (Array.getElem?_eq_some_iff.1 ho).1))) (fun k e => by cases e; omega)⟩
theorem cells_two (W : World) (u v : Value) (t : TypeId) : ∀ j x, [u, v][j]? = some x → (W.alloc (.cells #[u, v] t)).cell? ((⟨W.heap.size, 0, none⟩ : Addr).add j) = some x := fun j x hj => by
  match j, hj with
  | 0, hj => simp at hj; subst hj; simp [Addr.add]
  | 1, hj => simp at hj; subst hj; simp [Addr.add]
  | j + 2, hj => simp at hj

set_option maxRecDepth 100000 in
set_option maxHeartbeats 4000000 in
theorem of_in (n : Nat) (hn : 3 ≤ n) (x hi : Int) (h0 : 0 ≤ x) (h1 : x ≤ hi) (h2 : hi ≤ 4294967295) (w : World) (ht : TabVar w) :
    CallsIn Fence.wide n Tryd.prog 21 #[.agg #[.int .i64 x, .int .i64 hi]] w fun e W' => ∃ v, e = .returned (.tuple #[v, .nilIface]) ∧ OwnP W' w.heap.size 46 v (cover x hi) ∧ Below w.heap.size w W' := by
  have h1n : 1 ≤ n := by omega
  obtain ⟨i0, hi0, hz0, hz1, hz2⟩ := info_parts infoPfx
  have HX : Hid (isA x = true) := Lib.hid (isA_true.2 ⟨h0, by omega⟩)
  have HY : Hid (isA hi = true) := Lib.hid (isA_true.2 ⟨by omega, h2⟩)
  have hlenc : (cover x hi).length ≤ 4294967296 := by have := cover_len x hi; omega
  have hgt := ht.lt
  refine callsIn_of_wp_marks Tryd.func21 rfl trivial ?_ rfl
  simp only [Tryd.ntmps21, List.size_toArray, List.length_cons, List.length_nil, Nat.reduceAdd, Nat.reduceSub, Array.replicate_succ, Array.replicate_zero, List.push_toArray, List.append_toArray, List.nil_append, List.cons_append]
  gi_wp2_with (first
    | (gi_at_call 48; refine (callsIn_wide.2 (is_lit x true HX.out _)).mono ?_; rintro e w' ⟨rfl, rfl⟩)
    | (gi_at_call 48; refine (callsIn_wide.2 (is_lit hi true HY.out _)).mono ?_; rintro e w' ⟨rfl, rfl⟩)
    | (gi_at_call 60; refine (blocks_in _ _ _ _).mono ?_; rintro e w' ⟨rfl, rfl⟩))
  have bO := (Boxed.new (w.alloc (.cells #[.int .i64 x, .int .i64 hi] 26)) 43 (.slice none 0 0)).alloc (.cells #[.int .i64 x, .int .i64 hi] 26)
  have bB := Blk.new ((w.alloc (.cells #[.int .i64 x, .int .i64 hi] 26)).alloc (.cells #[.slice none 0 0] 43)) 26 #[.int .i64 x, .int .i64 hi]
  simp only [World.size_alloc] at bO bB
  have hB0 : Below w.heap.size w (((w.alloc (.cells #[.int .i64 x, .int .i64 hi] 26)).alloc (.cells #[.slice none 0 0] 43)).alloc (.cells #[.int .i64 x, .int .i64 hi] 26)) := (((Below.refl _ w).alloc (Nat.le_refl _) _).alloc (by simp) _).alloc (by simp; omega) _
  have hsz : (((w.alloc (.cells #[.int .i64 x, .int .i64 hi] 26)).alloc (.cells #[.slice none 0 0] 43)).alloc (.cells #[.int .i64 x, .int .i64 hi] 26)).heap.size = w.heap.size + 3 := by simp
  obtain ⟨W0, hW0⟩ : ∃ W0, ((w.alloc (.cells #[.int .i64 x, .int .i64 hi] 26)).alloc (.cells #[.slice none 0 0] 43)).alloc (.cells #[.int .i64 x, .int .i64 hi] 26) = W0 := ⟨_, rfl⟩
  rw [hW0] at bO bB hB0 hsz ⊢
  clear hW0
  refine wpIn_rangeFunc_ownH rfl h1n (gf := 81) (lb := #[.pointer (some ⟨w.heap.size + 1 + 1, 0, none⟩)]) rfl trivial (enters_of Tryd.func81 (by kernel_rfl) rfl)
    (blocks_stops (n - 1) (by omega) (w.heap.size + 1 + 1) w.heap.size x hi h0 (by omega) h2 W0 (by omega) hgt bB (ht.belowB hB0 hgt))
    (fun h k => KpB.trans h k) (kpB_b (by omega) (by omega)) (Below.refl _ _) (fun _ => rfl)
    (fun pre W => ((∃ v, Boxed W (w.heap.size + 1) 43 v ∧ W.ownsRow w.heap.size 46 2 v pre.length (cellsP pre) ∧ True) ∧ Blk W (w.heap.size + 1 + 1) 26 #[.int .i64 x, .int .i64 hi]) ∧ Below w.heap.size w W)
    (fun _ _ _ => False)
    (OwnFrom.and (OwnFrom.and (Own.from (holdsRow_own w.heap.size (w.heap.size + 1) 43 46 2 (fun pre => pre.length) (fun pre => cellsP pre) (fun _ _ => True)) _) (Own.from (blk_own _ _ _) _)) (ownFrom_below (Nat.le_refl _) (by omega)))
    (fun _ _ _ _ _ hs _ _ => hs)
    ⟨⟨⟨_, bO, World.ownsRow_nil _ _ _ _, trivial⟩, bB⟩, hB0⟩
    (fun p a' W => ∃ Bx, w.heap.size + 1 + 1 < Bx ∧ Blk W Bx 46 #[.int .i64 p.1, .int .i64 p.2] ∧ a' = { tmps := #[.agg #[.int .i64 x, .int .i64 hi], .pointer (some ⟨w.heap.size, 0, none⟩), .slice none 0 0, .nilIface, .pointer (some ⟨w.heap.size + 1, 0, none⟩), .pointer (some ⟨Bx, 0, none⟩), .pointer (some ⟨w.heap.size, 0, none⟩), .int .i64 x, .bool true, .bool false, .bool false, .pointer (some ⟨w.heap.size, 1, none⟩), .int .i64 hi, .bool true, .bool false, .bool false, undef, .pointer (some ⟨w.heap.size, 0, none⟩), .int .i64 x, .pointer (some ⟨w.heap.size, 1, none⟩), .int .i64 hi, .bool (decide (hi < x)), undef, .agg #[.int .i64 x, .int .i64 hi], .func (.func 81) #[] #[.pointer (some ⟨w.heap.size + 1 + 1, 0, none⟩)], .agg #[.int .i64 p.1, .int .i64 p.2], undef, undef, undef, undef, undef], defers := [] })
    (fun p a' _ X Y row hs hg hr => by obtain ⟨Bx, q1, q2, q3⟩ := hs; exact ⟨Bx, q1, blk_own Bx _ _ () X Y row q2 hg (fun r e => (hr r e).2), q3⟩)
    ?assign ?body ?done ?stop
  case assign =>
    rintro l pre p W K ⟨⟨⟨v, hv, hrow, _⟩, hb⟩, hB⟩ hK
    gi_wp2
    exact hK _ _ ((KeepsOthers.alloc _ _).from _) ⟨Below.heap_alloc W _ _ hb.lt, (Below.refl _ W).alloc hB.size _⟩ ⟨⟨⟨v, hv.alloc _, hrow.alloc _, trivial⟩, hb.alloc _⟩, hB.alloc hB.size _⟩ ⟨W.heap.size, hb.lt, Blk.new W _ _, rfl⟩
  case body =>
    rintro l pre p a' W hl ⟨r, hr⟩ ⟨⟨⟨v, hv, hrow, _⟩, hb⟩, hB⟩ ⟨Bx, hBx, hp, rfl⟩ hlt
    have hc := hv.cell
    obtain ⟨p0, p1, _⟩ := hp.two
    have hWs := hB.size
    gi_wp2_with (gi_at_builtin; refine wpListIn_append_own _ rfl _ _ 43 rfl w.heap.size 46 i0 _ 2 16 Tryd.underlying43 hi0 hz0 hz1 hz2 rfl (by decide) _ _ _ rfl (hrow.alloc _) ⟨W.heap.size, 0, none⟩ 1 1 [.int .i64 p.1, .int .i64 p.2] rfl rfl (cells_two _ _ _ _) (by intro u hu; simp at hu; rcases hu with rfl | rfl <;> rfl) (by unfold maxLen; omega) (by omega) (by simp; omega) ?_; intro v' w1 hown' hgrow _; obtain ⟨g', cap', rfl⟩ := ownsRow_succ hown'; obtain ⟨hv1, hv2, hr2, hk2, hb2⟩ := hv.appended (by decide) hrow hB.size (by omega) hown' hgrow; have hc1 := hv1.cell; have hf1 := hv1.frozen)
    have hBn : (w1.setCell ⟨w.heap.size + 1, 0, none⟩ (.slice (some ⟨g', 0, none⟩) (pre.length + 1) cap')).heap[w.heap.size + 1 + 1]? = W.heap[w.heap.size + 1 + 1]? :=
      (Below.heap_setCell w1 _ _ _ (by simp)).trans ((hgrow.block _ (by simp; have := hb.lt; omega) (own_ne hrow hb (by decide))).trans (Below.heap_alloc W _ _ hb.lt))
    exact ⟨hk2.from _, ⟨hBn, hb2⟩, ⟨⟨_, hv2, by rw [List.length_append, cellsP_append]; exact hr2, trivial⟩, hBn.trans hb⟩, hB.trans hb2⟩
  case done =>
    rintro D ys W hD rfl ⟨⟨⟨v, hv, hrow, _⟩, hb⟩, hB⟩ hK
    have hc := hv.cell
    gi_wp2
    refine ⟨by simp, .inl ⟨_, _, rfl, run_takeDeferred hK, ?_⟩⟩
    exact ⟨_, results_tmp2 rfl _ _ _, v, rfl, ownsRow_putObj hrow _ hK rfl, hB.trans (belowK_b (w := w) (Nat.le_refl _) W D _ _ (by omega) hK rfl rfl)⟩
  case stop =>
    rintro D c pre W _ _ h _
    exact h.elim
end Go.Proofs.YtmfaknngophmhaaDoor
