/- Contract of put, whole. -/
import Derived.Test.YtdmnejanckdajaaDoorVers6
namespace Go.Proofs.YtdmnejanckdajaaDoor
set_option linter.unusedVariables false
set_option linter.unusedSimpArgs false
set_option maxRecDepth 100000
open Go.RowKit

theorem TblAt.below {w w' : World} {S : Nat → Prop} {t m : Nat} {F : List UInt8 → List Ver} {top : Int} (h : TblAt w S t F top m) (hb : Below w.heap.size w w') : TblAt w' S t F top m :=
  ⟨by obtain ⟨b, es, c, h1, h2, h3⟩ := h.tab; exact ⟨b, es, c, h1.below hb h1.lt, h2.below hb, h3⟩, h.ht, h.good⟩
theorem TblAt.mono {w : World} {S S' : Nat → Prop} {t m : Nat} {F : List UInt8 → List Ver} {top : Int} (h : TblAt w S t F top m) (hs : ∀ g, S g → S' g) : TblAt w S' t F top m :=
  ⟨by obtain ⟨b, es, c, h1, h2, h3⟩ := h.tab; exact ⟨b, es, c, h1, h2.mono hs, h3⟩, hs _ h.ht, h.good⟩
theorem TblAt.far {w w' : World} {S T : Nat → Prop} {t m : Nat} {F : List UInt8 → List Ver} {top : Int} (h : TblAt w S t F top m) (f : Fr T w w') (hd : ∀ g, S g → ¬ T g) : TblAt w' S t F top m :=
  ⟨by obtain ⟨b, es, c, h1, h2, h3⟩ := h.tab; exact ⟨b, es, c, h1.fr f (hd _ h.ht), h2.far f hd, h3⟩, h.ht, h.good⟩
theorem TblAt.more {w : World} {S : Nat → Prop} {t m : Nat} {F : List UInt8 → List Ver} {top : Int} (h : TblAt w S t F top m) : TblAt w S t F top (m + 1) :=
  ⟨by obtain ⟨b, es, c, h1, h2, h3⟩ := h.tab; exact ⟨b, es, c, h1, h2, by omega⟩, h.ht, ⟨fun s => by have := h.good.len s; omega, h.good.num, h.good.key, h.good.rise, h.good.top0⟩⟩

theorem put_any (t : Nat) (F : List UInt8 → List Ver) (top : Int) (m : Nat) (S : Nat → Prop) (s : List UInt8) (hs : s.length ≤ maxLen) (v : Ver) (hv : v.val.length ≤ maxLen) (hm : m < 1000000) (w : World) (hT : TblAt w S t F top m) :
    Calls Tryd.prog 21 #[.pointer (some ⟨t, 0, none⟩), txt s, verV v] w fun e w' => e = .returned (faultV (putE s v top)) ∧ Fr S w w' ∧
      TblAt w' (plus S w) t (if putE s v top = 0 then putV F s v else F) (if putE s v top = 0 then v.n else top) (m + 1) := by
  have hT0 := hT
  obtain ⟨⟨b, es, clock, hB, hM, hn⟩, ht, hg⟩ := hT
  by_cases hp : putE s v top = 0
  · simp only [hp, if_true]
    cases hl : (F s).getLast? with
    | none =>
      have hF : F s = [] := List.getLast?_eq_none_iff.1 hl
      refine (put_more t F top m b S es clock s hs v hv hm w hB hM hn ht hg hp (.slice none 0 0) (by rw [hF]; exact World.ownsRow_nil _ _ _ _) (.inr ⟨rfl, hF, fun r q => (hM.rows s r q).1 hF⟩) (by rw [hl]; simp)).mono ?_
      rintro e w' ⟨rfl, h1, h2⟩
      refine ⟨rfl, h1, ?_⟩
      have : putV F s v = upd F s (F s ++ [v]) := by unfold putV addV; rw [hl, hF]; rfl
      rw [this]
      exact h2
    | some x =>
      have hne : F s ≠ [] := fun h => by rw [h] at hl; cases hl
      obtain ⟨u, hu⟩ := hM.tells s hne
      by_cases hx : x.n = v.n
      · refine (put_last t F top m b S es clock s hs v hv hm w hB hM hn ht hg hp u (hM.rows s u hu).2 hu x hl hx).mono ?_
        rintro e w' ⟨rfl, h1, h2⟩
        refine ⟨rfl, h1, ?_⟩
        have : putV F s v = upd F s ((F s).dropLast ++ [v]) := by unfold putV addV; rw [hl]; simp only [if_pos hx]
        rw [this]
        exact h2
      · refine (put_more t F top m b S es clock s hs v hv hm w hB hM hn ht hg hp u (hM.rows s u hu).2 (.inl hu) (fun y hy => by rw [hl] at hy; cases hy; exact hx)).mono ?_
        rintro e w' ⟨rfl, h1, h2⟩
        refine ⟨rfl, h1, ?_⟩
        have : putV F s v = upd F s (F s ++ [v]) := by unfold putV addV; rw [hl]; simp only [if_neg hx]
        rw [this]
        exact h2
  · simp only [if_neg hp]
    refine (put_bad t _ top s hs v hv w hB hp).mono ?_
    rintro e w' ⟨rfl, h1⟩
    exact ⟨rfl, Fr.of_below h1, ((hT0.below h1).more).mono plus.old⟩
end Go.Proofs.YtdmnejanckdajaaDoor
