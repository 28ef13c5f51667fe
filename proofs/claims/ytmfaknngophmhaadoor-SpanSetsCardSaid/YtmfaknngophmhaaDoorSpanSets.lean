/- The law SpanSets: the walk. Any lists, any number. -/
import Derived.Test.YtmfaknngophmhaaDoorSpanSets1
import Derived.Test.YtmfaknngophmhaaDoorSpanSets2
import Derived.Test.YtmfaknngophmhaaDoorSpanSets3
import Derived.Test.YtmfaknngophmhaaDoorSpanSets4
namespace Go.Proofs.YtmfaknngophmhaaDoor
set_option linter.unusedVariables false
set_option linter.unusedSimpArgs false
open Go.RowKit

theorem spanSets_walk (A : Option Addr) (l : List Sp) (c : Nat) (hm : l.length ≤ maxLen) (B : Option Addr) (a : List Sp) (d : Nat) (hma : a.length ≤ maxLen) (C : Option Addr) (b : List Sp) (g : Nat) (hmb : b.length ≤ maxLen) (x : Int) (wx : (Lit.int .i64 x).wf = true) (w : World) (hg : ErrVar w) (hl : Rd w w.heap.size A (cellsP l)) (ha : Rd w w.heap.size B (cellsP a)) (hb : Rd w w.heap.size C (cellsP b)) :
    Calls Tryd.prog 3 #[.slice A l.length c, .slice B a.length d, .slice C b.length g, .int .i64 x] w fun e w' => e = .returned (.bool true) ∧ Below w.heap.size w w' := by
  have h7 : ∀ s0 w0, SSmid A l c B a d C b g x w (twoFault a b) s0 w0 → (tailN 1 (tailN 8 (tailN 5 (tailN 3 (tailN 6 (tailN 1 (tailN 3 (Tryd.f3.body.getD .skip)))))))).wp Tryd.prog (bodyPost Tryd.prog Tryd.f3 fun e w' => e = .returned (.bool true) ∧ Below w.heap.size w w') s0 w0 := fun s0 w0 h0 => by
    by_cases ht : twoFault a b = 0
    · rw [ht] at h0
      exact spanSets_7b A l c B a d C b g x hm hma hmb w hg hl ha hb ht s0 w0 h0
    · exact spanSets_7a A l c B a d C b g x hm hma hmb w hg hl ha hb ht s0 w0 h0
  have h6 : ∀ s0 w0, SSmid A l c B a d C b g x w (setFault a) s0 w0 → (tailN 8 (tailN 5 (tailN 3 (tailN 6 (tailN 1 (tailN 3 (Tryd.f3.body.getD .skip))))))).wp Tryd.prog (bodyPost Tryd.prog Tryd.f3 fun e w' => e = .returned (.bool true) ∧ Below w.heap.size w w') s0 w0 := fun s0 w0 h0 => by
    by_cases hs : setFault a = 0
    · rw [hs] at h0
      exact spanSets_6a A l c B a d C b g x hm hma hmb w hg hl ha hb hs _ s0 w0 h0 h7
    · exact spanSets_6b A l c B a d C b g x hm hma hmb w hg hl ha hb hs _ s0 w0 h0 (fun a' w' q => h7 a' w' (by rw [show twoFault a b = setFault a by unfold twoFault; rw [if_pos (by simpa using hs)]]; exact q))
  have h5 : ∀ s0 w0, SSmid A l c B a d C b g x w (setFault a) s0 w0 → (tailN 5 (tailN 3 (tailN 6 (tailN 1 (tailN 3 (Tryd.f3.body.getD .skip)))))).wp Tryd.prog (bodyPost Tryd.prog Tryd.f3 fun e w' => e = .returned (.bool true) ∧ Below w.heap.size w w') s0 w0 := fun s0 w0 h0 => by
    by_cases hs : setFault a = 0
    · rw [hs] at h0 h6
      cases hx : isA x
      · exact spanSets_5b A l c B a d C b g x hm hma hmb w hg hl ha hb hs hx _ s0 w0 h0 h6
      · exact spanSets_5c A l c B a d C b g x hm hma hmb w hg hl ha hb hs hx _ s0 w0 h0 h6
    · exact spanSets_5a A l c B a d C b g x hm hma hmb w hg hl ha hb hs _ s0 w0 h0 h6
  have h4 : ∀ s0 w0, SSmid A l c B a d C b g x w (setFault a) s0 w0 → (tailN 3 (tailN 6 (tailN 1 (tailN 3 (Tryd.f3.body.getD .skip))))).wp Tryd.prog (bodyPost Tryd.prog Tryd.f3 fun e w' => e = .returned (.bool true) ∧ Below w.heap.size w w') s0 w0 := fun s0 w0 h0 => by
    by_cases hs : setFault a = 0
    · rw [hs] at h0 h5
      exact spanSets_4a A l c B a d C b g x hm hma hmb w hg hl ha hb hs _ s0 w0 h0 h5
    · exact spanSets_4b A l c B a d C b g x hm hma hmb w hg hl ha hb hs _ s0 w0 h0 h5
  have h3 : ∀ kk s0 w0, SSmid A l c B a d C b g x w kk s0 w0 → (tailN 6 (tailN 1 (tailN 3 (Tryd.f3.body.getD .skip)))).wp Tryd.prog (bodyPost Tryd.prog Tryd.f3 fun e w' => e = .returned (.bool true) ∧ Below w.heap.size w w') s0 w0 := fun kk s0 w0 h0 => spanSets_3 kk A l c B a d C b g x hm hma hmb w hg hl ha hb _ s0 w0 h0 h4
  have h2 : ∀ s0 w0, SSmid A l c B a d C b g x w (makeFault l) s0 w0 → (tailN 1 (tailN 3 (Tryd.f3.body.getD .skip))).wp Tryd.prog (bodyPost Tryd.prog Tryd.f3 fun e w' => e = .returned (.bool true) ∧ Below w.heap.size w w') s0 w0 := fun s0 w0 h0 => by
    by_cases ht : makeFault l = 0
    · rw [ht] at h0
      exact spanSets_2a A l c B a d C b g x hm hma hmb w hg hl ha hb ht _ s0 w0 h0 (h3 0)
    · exact spanSets_2b A l c B a d C b g x hm hma hmb w hg hl ha hb ht _ s0 w0 h0 (h3 _)
  refine spanSets_1a A l c B a d C b g x hm hma hmb w hg hl ha hb _ fun s1 w1 h1 => ?_
  exact spanSets_1b A l c B a d C b g x hm hma hmb w hg hl ha hb _ (Lib.hid (nextF_start l)) _ s1 w1 h1 h2
end Go.Proofs.YtmfaknngophmhaaDoor
