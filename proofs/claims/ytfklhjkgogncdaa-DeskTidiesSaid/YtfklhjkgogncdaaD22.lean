/- Texts joined: XSortC. Each says at its head what it proves; conditions: as said there. -/
import Derived.Test.YtfklhjkgogncdaaD8
import Derived.Test.YtfklhjkgogncdaaLaySortC
import Derived.Test.YtfklhjkgogncdaaD10
/- slices.SortFunc at changes, by their keys, as Commit calls it. -/
namespace Go.Proofs.Ytfklhjkgogncdaa
set_option linter.unusedVariables false
set_option linter.unusedSimpArgs false
set_option maxRecDepth 100000
open Go.RowKit Go.Sort Go.Shelf

def encC (c : Chg) : List Value := [txt c.key, txt c.val, .bool c.gone]
theorem encC_len (c : Chg) : (encC c).length = 3 := rfl
theorem encC_one (c : Chg) : ∀ u ∈ encC c, u.oneCell' = true := by
  intro u hu
  simp [encC] at hu
  rcases hu with rfl | rfl | rfl <;> rfl
theorem infoC : (Try.prog.info? 71).map (fun i => (i.zero, i.size, i.bytes)) = some (some (.agg #[.string ⟨#[]⟩, .string ⟨#[]⟩, .bool false]), 3, 40) := by kernel_rfl
theorem cellsC_flat : ∀ l : List Chg, cellsC l = flatE encC l
  | [] => rfl
  | c :: l => by
    have ih := cellsC_flat l
    unfold flatE at ih ⊢
    rw [List.flatMap_cons, ← ih]
    rfl
/-- A slice value owns a list of changes. -/
def OwnC (w : World) (base : Nat) (v : Value) (l : List Chg) : Prop := w.ownsRow base 71 3 v l.length (flatE encC l)
theorem OwnC.nil (w : World) (base : Nat) : OwnC w base (.slice none 0 0) [] := World.ownsRow_nil _ _ _ _
theorem OwnC.rd {w : World} {base : Nat} {v : Value} {l : List Chg} (h : OwnC w base v l) : ∃ A c, v = .slice A l.length c ∧ Rd w w.heap.size A (flatE encC l) := own_form h
def cfC (x y : Chg) : Int := if lessB x.key y.key then -1 else 1
theorem ltC (x y : Chg) : ltOf cfC x y = lessB x.key y.key := by
  unfold ltOf cfC
  cases lessB x.key y.key <;> simp
theorem swoC : SWO (ltOf cfC) where
  irrefl x := by rw [ltC, lessB_irrefl]
  trans x y z h1 h2 := by rw [ltC] at *; exact lessB_trans h1 h2
  ntrans x y z h1 h2 := by
    rw [ltC] at *
    cases h : lessB x.key z.key with
    | false => rfl
    | true =>
      rcases lessB_total x.key y.key with q | q | q
      · rw [q] at h1; cases h1
      · rw [q] at h; rw [h] at h2; cases h2
      · have := lessB_trans q h
        rw [this] at h2
        cases h2

theorem cmpC (x y : Chg) (W : World) : Calls Try.prog 29 #[.agg #[txt x.key, txt x.val, .bool x.gone], .agg #[txt y.key, txt y.val, .bool y.gone]] W fun e w' => e = .returned (.int .i64 (cfC x y)) ∧ ∃ q os', w' = grow (W.drewN q) os' := by
  obtain ⟨x1, x2, x3⟩ := x
  obtain ⟨y1, y2, y3⟩ := y
  have hl := lessB_eq' x1 y1
  have hR : cfC ⟨x1, x2, x3⟩ ⟨y1, y2, y3⟩ = if lessB x1 y1 then -1 else 1 := rfl
  rw [hR, ← hl]
  clear hl hR
  cases h : Op.bytesLess x1 y1
  · go_enter Try.func29, Try.ntmps29
    go_wp2
    all_goals first | go_quiet (fail) | skip
    all_goals go_wp2
    all_goals go_ret
    all_goals exact ⟨rfl, 0, _, by rw [alloc_eq_grow, alloc_eq_grow, grow_grow]; rfl⟩
  · go_enter Try.func29, Try.ntmps29
    go_wp2
    all_goals first | go_quiet (fail) | skip
    all_goals go_wp2
    all_goals go_ret
    all_goals exact ⟨rfl, 0, _, by rw [alloc_eq_grow, alloc_eq_grow, grow_grow]; rfl⟩

/-- slices.SortFunc on a row of the call's own: the same pairs, by their keys. -/
theorem sortC_any (v : Value) (l : List Chg) (base : Nat) (hlen : l.length ≤ 1000000) (w : World) (hown : OwnC w base v l) :
    Calls Try.prog 28 #[v, .func (.func 29) #[] #[]] w fun e w' => e = .returned (.tuple #[]) ∧ ∃ L, OwnC w' base v L ∧ L.Perm l ∧ L.Pairwise (fun x y => lessB y.key x.key = false) ∧ Below base w w' := by
  by_cases h : l = []
  · subst h
    obtain ⟨A, c, rfl, _⟩ := hown.rd
    have hcon := AnyF.slices_SortFunc_none laySortC A c (.func (.func 29) #[] #[]) w
    change Calls Try.prog 28 _ _ _ at hcon
    refine hcon.mono ?_
    rintro e w' ⟨rfl, rfl⟩
    exact ⟨rfl, [], hown, List.Perm.refl _, List.Pairwise.nil, Below.refl _ _⟩
  · obtain ⟨d, rfl⟩ : ∃ d : Array Chg, d.toList = l := ⟨l.toArray, by simp⟩
    unfold OwnC at hown
    rw [Array.length_toList] at hown hlen
    have hform : ∃ g c, v = .slice (some ⟨g, 0, none⟩) d.size c ∧ base ≤ g ∧ g < w.heap.size := by
      rcases hown.2 with ⟨_, h0⟩ | ⟨g, cap, cur, e0, hb, hg, _⟩
      · exact absurd (List.eq_nil_of_length_eq_zero (show d.toList.length = 0 by simpa using h0)) h
      · exact ⟨g, cap, e0, hb, (Array.getElem?_eq_some_iff.1 hg).1⟩
    obtain ⟨g, c, rfl, hb, hg⟩ := hform
    have hcon := AnyQ.slices_SortFunc laySortC 3 Try.isAgg71 Try.sizeOf71 encC (fun _ => rfl) encC_one cfC swoC 29 #[] g 0 c d w
      (fun _ _ => by kernel_rfl) (fun _ _ _ _ x y => cmpC x y _) (holds_ownE (by decide) encC_len hown rfl) hg (by omega)
    change Calls Try.prog 28 _ _ _ at hcon
    refine hcon.mono ?_
    rintro e w' ⟨rfl, d', n, os, hp, hs, rfl⟩
    refine ⟨rfl, d'.toList, ?_, ?_, ?_, (Below.refl _ _).grown (grown_sortedE hg) (by omega) (fun k hk => by injection hk with hk; omega)⟩
    · unfold OwnC
      rw [Array.length_toList, hp.1]
      exact own_sortedE (by decide) encC_len hown hp.1
    · have := hp.2.2
      rw [show d.size = d'.size from hp.1.symm] at this
      have e1 : d'.extract 0 d'.size = d' := by simp
      have e2 : d.extract 0 d'.size = d := by rw [hp.1]; simp
      rw [e1, e2] at this
      exact this
    · rw [List.pairwise_iff_getElem]
      intro i j hi hj hij
      have := hs i j (Nat.zero_le _) hij (by rw [← hp.1]; simpa using hj)
      rw [ltC, getElem!_pos d' i (by simpa using hi), getElem!_pos d' j (by simpa using hj)] at this
      simpa using this
end Go.Proofs.Ytfklhjkgogncdaa
