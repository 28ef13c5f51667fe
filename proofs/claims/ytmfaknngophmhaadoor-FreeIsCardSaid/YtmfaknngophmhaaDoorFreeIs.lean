/- The law FreeIs: the walk. Any prefix, any list, any length. -/
import Derived.Test.YtmfaknngophmhaaDoorFreeIs1
import Derived.Test.YtmfaknngophmhaaDoorFreeIs2
import Derived.Test.YtmfaknngophmhaaDoorFreeIs3
import Derived.Test.YtmfaknngophmhaaDoorFreeIs4
namespace Go.Proofs.YtmfaknngophmhaaDoor
set_option linter.unusedVariables false
set_option linter.unusedSimpArgs false
open Go.RowKit

theorem freeIs_go (p : Pf) (A : Option Addr) (l : List Pf) (c : Nat) (n : Int) (hm : l.length ≤ maxLen) (w : World) (hg : ErrVar w) (ht : TabVar w) (hl : Rd w w.heap.size A (cellsP l)) :
    Calls Tryd.prog 5 #[.agg #[.int .i64 p.1, .int .i64 p.2], .slice A l.length c, .int .i64 n] w fun e w' => e = .returned (.bool true) ∧ Below w.heap.size w w' := by
  -- behind the best one's place, where the length may be
  have h4 : ∀ f, (f = 0 ∨ f = 3) → freeFault p l = 0 → greatFault p l n = 0 → blocksFault p l = f → ∀ bi, BestIs (frB p l) n f bi → ∀ s0 w0, FI4 p A l c n w 0 f bi 0 false s0 w0 → (tailN 2 (tailN 2 (tailN 8 (tailN 9 (Tryd.f5.body.getD .skip))))).wp Tryd.prog (bodyPost Tryd.prog Tryd.f5 fun e w' => e = .returned (.bool true) ∧ Below w.heap.size w w') s0 w0 := fun f hf3 he hv hbf bi hbi s0 w0 h0 => by
    have hfil : (frB p l).filter (fitB n) = greatL p l n := by rw [frB_zero he]; rfl
    cases hgr : greatL p l n with
    | nil =>
      refine freeIs_5b p A l c n hm w hg ht hl f bi hv hgr _ s0 w0 h0 fun s1 w1 h1 => ?_
      rcases hf3 with rfl | rfl
      · have hb := bestIs_none hbi (by rw [hfil, hgr])
        subst hb
        exact freeIs_6b p A l c n hm w hg ht hl hv hgr (bestFault_none (fitF_zero.2 ⟨hbf, hv⟩) hgr) s1 w1 h1
      · exact freeIs_6c p A l c n hm w hg ht hl bi hv hgr (by rw [bestFault_fit (by unfold fitF; rw [hbf]; simp)]; unfold fitF; rw [hbf]; rfl) s1 w1 h1
    | cons b r =>
      refine freeIs_5c p A l c n hm w hg ht hl f bi b r hv hgr _ s0 w0 h0 fun s1 w1 h1 => ?_
      rcases hf3 with rfl | rfl
      · obtain ⟨j, hj, rfl, hbest⟩ := bestIs_some hbi (by rw [hfil, hgr]; simp)
        rw [hfil] at hbest
        exact freeIs_6e p A l c n hm w hg ht hl b r j hj hv hgr (bestFault_ok (fitF_zero.2 ⟨hbf, hv⟩) (by rw [hgr]; simp)) hbest s1 w1 h1
      · exact freeIs_6d p A l c n hm w hg ht hl bi b r hv hgr (by rw [bestFault_fit (by unfold fitF; rw [hbf]; simp)]; unfold fitF; rw [hbf]; rfl) s1 w1 h1
  have h4x : ∀ e f, e ≠ 0 → f ≠ 0 → greatFault p l n = e → bestFault p l n = f → ∀ bi, BestIs (frB p l) n f bi → ∀ s0 w0, FI4 p A l c n w e f bi 0 false s0 w0 → (tailN 2 (tailN 2 (tailN 8 (tailN 9 (Tryd.f5.body.getD .skip))))).wp Tryd.prog (bodyPost Tryd.prog Tryd.f5 fun e w' => e = .returned (.bool true) ∧ Below w.heap.size w w') s0 w0 := fun e f he0 hf0 he hbf bi hbi s0 w0 h0 =>
    freeIs_5a p A l c n hm w hg ht hl e f bi he he0 _ s0 w0 h0 fun s1 w1 h1 => freeIs_6a p A l c n hm w hg ht hl e f bi he he0 hf0 hbf s1 w1 h1
  have h3x : ∀ e f, e ≠ 0 → f ≠ 0 → greatFault p l n = e → bestFault p l n = f → ∀ s0 w0, FI3 p A l c n w e f 0 0 false s0 w0 → (tailN 2 (tailN 8 (tailN 9 (Tryd.f5.body.getD .skip)))).wp Tryd.prog (bodyPost Tryd.prog Tryd.f5 fun e w' => e = .returned (.bool true) ∧ Below w.heap.size w w') s0 w0 := fun e f he0 hf0 he hbf s0 w0 h0 =>
    freeIs_4b p A l c n hm w hg ht hl e f hf0 _ s0 w0 h0 (h4x e f he0 hf0 he hbf)
  have bf : fitF p l n ≠ 0 → ∀ k, fitF p l n = k → bestFault p l n = k := fun h k hk => by rw [bestFault_fit h, hk]
  by_cases he : freeFault p l = 0
  · refine freeIs_1a p A l c n hm w hg ht hl he _ fun s1 w1 q1 => ?_
    by_cases h2 : (blocksL p l).length ≤ 200
    · have hbf : blocksFault p l = 0 := blocksFault_zero.2 ⟨he, h2⟩
      refine freeIs_2a p A l c n hm w hg ht hl hbf _ s1 w1 q1 fun s2 w2 q2 => ?_
      by_cases hn1 : n < p.2
      · have hgf := greatFault_out (n := n) he (.inl hn1)
        have hff : fitF p l n = 1 := by unfold fitF; rw [if_neg (by simp [hbf])]; exact hgf
        exact freeIs_3c0 p A l c n hm w hg ht hl hn1 _ s2 w2 q2 (h3x 1 1 (by decide) (by decide) hgf (bf (by rw [hff]; decide) 1 hff))
      · by_cases hn2 : n ≤ 32
        · refine freeIs_3b0 p A l c n hm w hg ht hl (by omega) hn2 _ s2 w2 q2 fun s3 w3 q3 => ?_
          exact freeIs_4a p A l c n hm w hg ht hl (by rw [frB_zero he]; exact h2) _ s3 w3 q3 (h4 0 (.inl rfl) he (greatFault_zero.2 ⟨he, by omega, hn2⟩) hbf)
        · have hgf := greatFault_out (n := n) he (.inr (by omega))
          have hff : fitF p l n = 1 := by unfold fitF; rw [if_neg (by simp [hbf])]; exact hgf
          exact freeIs_3d0 p A l c n hm w hg ht hl hn1 (by omega) _ s2 w2 q2 (h3x 1 1 (by decide) (by decide) hgf (bf (by rw [hff]; decide) 1 hff))
    · have hbf := blocksFault_full he (by omega)
      have hff : fitF p l n = 3 := by unfold fitF; rw [hbf]; rfl
      refine freeIs_2b p A l c n hm w hg ht hl he (by omega) _ s1 w1 q1 fun s2 w2 q2 => ?_
      by_cases hn1 : n < p.2
      · exact freeIs_3c3 p A l c n hm w hg ht hl hn1 _ s2 w2 q2 (h3x 1 3 (by decide) (by decide) (greatFault_out he (.inl hn1)) (bf (by rw [hff]; decide) 3 hff))
      · by_cases hn2 : n ≤ 32
        · refine freeIs_3b3 p A l c n hm w hg ht hl (by omega) hn2 _ s2 w2 q2 fun s3 w3 q3 => ?_
          exact freeIs_4b p A l c n hm w hg ht hl 0 3 (by decide) _ s3 w3 q3 (h4 3 (.inr rfl) he (greatFault_zero.2 ⟨he, by omega, hn2⟩) hbf)
        · exact freeIs_3d3 p A l c n hm w hg ht hl hn1 (by omega) _ s2 w2 q2 (h3x 1 3 (by decide) (by decide) (greatFault_out he (.inr (by omega))) (bf (by rw [hff]; decide) 3 hff))
  · have hff : fitF p l n = freeFault p l := by unfold fitF; rw [blocksFault_free he, if_pos he]
    refine freeIs_1b p A l c n hm w hg ht hl he _ fun s1 w1 q1 => ?_
    refine freeIs_2c p A l c n hm w hg ht hl he _ s1 w1 q1 fun s2 w2 q2 => ?_
    exact freeIs_3a p A l c n hm w hg ht hl _ _ he he _ s2 w2 q2 (h3x _ _ he he (greatFault_free he) (bf (by rw [hff]; exact he) _ hff))
theorem freeIs_walk (x y : Int) (A : Option Addr) (l : List Pf) (c : Nat) (hm : l.length ≤ maxLen) (n : Int) (wn : (Lit.int .i64 n).wf = true) (w : World) (hg : ErrVar w) (ht : TabVar w) (hl : Rd w w.heap.size A (cellsP l)) :
    Calls Tryd.prog 5 #[.agg #[.int .i64 x, .int .i64 y], .slice A l.length c, .int .i64 n] w fun e w' => e = .returned (.bool true) ∧ Below w.heap.size w w' :=
  freeIs_go (x, y) A l c n hm w hg ht hl
end Go.Proofs.YtmfaknngophmhaaDoor
