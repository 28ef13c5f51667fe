/- Texts joined: XSortP, XSortD. Each says at its head what it proves; conditions: as said there. -/
import Derived.Test.YtfklhjkgogncdaaD6
import Derived.Test.YtfklhjkgogncdaaD4
import Derived.Test.YtfklhjkgogncdaaLaySortP
import Derived.Shelf.SlSortCmp.NoneTotal
/- slices.SortFunc at pairs, by their keys. -/
namespace Go.Proofs.Ytfklhjkgogncdaa
set_option linter.unusedVariables false
set_option linter.unusedSimpArgs false
set_option maxRecDepth 100000
open Go.RowKit Go.Sort Go.Shelf

theorem lessB_eq' : ∀ (x y : List UInt8), Op.bytesLess x y = lessB x y
  | _, [] => by simp [Op.bytesLess, lessB]
  | [], _ :: _ => by simp [Op.bytesLess, lessB]
  | a :: x, b :: y => by simp [Op.bytesLess, lessB, lessB_eq' x y]
def cfKV (x y : KV) : Int := if lessB x.1 y.1 then -1 else 1
theorem ltKV (x y : KV) : ltOf cfKV x y = lessB x.1 y.1 := by
  unfold ltOf cfKV
  cases lessB x.1 y.1 <;> simp
theorem swoKV : SWO (ltOf cfKV) where
  irrefl x := by rw [ltKV, lessB_irrefl]
  trans x y z h1 h2 := by rw [ltKV] at *; exact lessB_trans h1 h2
  ntrans x y z h1 h2 := by
    rw [ltKV] at *
    cases h : lessB x.1 z.1 with
    | false => rfl
    | true =>
      rcases lessB_total x.1 y.1 with q | q | q
      · rw [q] at h1; cases h1
      · rw [q] at h; rw [h] at h2; cases h2
      · have := lessB_trans q h
        rw [this] at h2
        cases h2

theorem cmpKV (x y : KV) (W : World) : Calls Try.prog 58 #[.agg #[txt x.1, txt x.2], .agg #[txt y.1, txt y.2]] W fun e w' => e = .returned (.int .i64 (cfKV x y)) ∧ ∃ q os', w' = grow (W.drewN q) os' := by
  obtain ⟨x1, x2⟩ := x
  obtain ⟨y1, y2⟩ := y
  have hl := lessB_eq' x1 y1
  have hR : cfKV (x1, x2) (y1, y2) = if lessB x1 y1 then -1 else 1 := rfl
  rw [hR, ← hl]
  clear hl hR
  cases h : Op.bytesLess x1 y1
  · go_enter Try.func58, Try.ntmps58
    go_wp2
    all_goals first | go_quiet (fail) | skip
    all_goals go_wp2
    all_goals go_ret
    all_goals exact ⟨rfl, 0, _, by rw [alloc_eq_grow, alloc_eq_grow, grow_grow]; rfl⟩
  · go_enter Try.func58, Try.ntmps58
    go_wp2
    all_goals first | go_quiet (fail) | skip
    all_goals go_wp2
    all_goals go_ret
    all_goals exact ⟨rfl, 0, _, by rw [alloc_eq_grow, alloc_eq_grow, grow_grow]; rfl⟩

/-- slices.SortFunc on a row of the call's own: the same pairs, by their keys. -/
theorem sortKV_any (v : Value) (l : List KV) (base : Nat) (hlen : l.length ≤ 1000000) (w : World) (hown : OwnKV w base v l) :
    Calls Try.prog 57 #[v, .func (.func 58) #[] #[]] w fun e w' => e = .returned (.tuple #[]) ∧ ∃ L, OwnKV w' base v L ∧ L.Perm l ∧ L.Pairwise (fun x y => lessB y.1 x.1 = false) ∧ Below base w w' := by
  by_cases h : l = []
  · subst h
    obtain ⟨A, c, rfl, _⟩ := hown.rd
    have hcon := AnyF.slices_SortFunc_none laySortP A c (.func (.func 58) #[] #[]) w
    change Calls Try.prog 57 _ _ _ at hcon
    refine hcon.mono ?_
    rintro e w' ⟨rfl, rfl⟩
    exact ⟨rfl, [], hown, List.Perm.refl _, List.Pairwise.nil, Below.refl _ _⟩
  · obtain ⟨d, rfl⟩ : ∃ d : Array KV, d.toList = l := ⟨l.toArray, by simp⟩
    unfold OwnKV at hown
    rw [Array.length_toList] at hown hlen
    have hform : ∃ g c, v = .slice (some ⟨g, 0, none⟩) d.size c ∧ base ≤ g ∧ g < w.heap.size := by
      rcases hown.2 with ⟨_, h0⟩ | ⟨g, cap, cur, e0, hb, hg, _⟩
      · exact absurd (List.eq_nil_of_length_eq_zero (show d.toList.length = 0 by simpa using h0)) h
      · exact ⟨g, cap, e0, hb, (Array.getElem?_eq_some_iff.1 hg).1⟩
    obtain ⟨g, c, rfl, hb, hg⟩ := hform
    have hcon := AnyQ.slices_SortFunc laySortP 2 Try.isAgg41 Try.sizeOf41 encKV (fun _ => rfl) encKV_one cfKV swoKV 58 #[] g 0 c d w
      (fun _ _ => by kernel_rfl) (fun _ _ _ _ x y => cmpKV x y _) (holds_ownE (by decide) encKV_len hown rfl) hg (by omega)
    change Calls Try.prog 57 _ _ _ at hcon
    refine hcon.mono ?_
    rintro e w' ⟨rfl, d', n, os, hp, hs, rfl⟩
    refine ⟨rfl, d'.toList, ?_, ?_, ?_, (Below.refl _ _).grown (grown_sortedE hg) (by omega) (fun k hk => by injection hk with hk; omega)⟩
    · unfold OwnKV
      rw [Array.length_toList, hp.1]
      exact own_sortedE (by decide) encKV_len hown hp.1
    · have := hp.2.2
      rw [show d.size = d'.size from hp.1.symm] at this
      have e1 : d'.extract 0 d'.size = d' := by simp
      have e2 : d.extract 0 d'.size = d := by rw [hp.1]; simp
      rw [e1, e2] at this
      exact this
    · rw [List.pairwise_iff_getElem]
      intro i j hi hj hij
      have := hs i j (Nat.zero_le _) hij (by rw [← hp.1]; simpa using hj)
      rw [ltKV, getElem!_pos d' i (by simpa using hi), getElem!_pos d' j (by simpa using hj)] at this
      simpa using this
end Go.Proofs.Ytfklhjkgogncdaa

/- slices.SortFunc at pairs, by their keys, as desk.sorted calls it. -/
namespace Go.Proofs.Ytfklhjkgogncdaa
set_option linter.unusedVariables false
set_option linter.unusedSimpArgs false
set_option maxRecDepth 100000
open Go.RowKit Go.Sort Go.Shelf

theorem cmpKVd (x y : KV) (W : World) : Calls Try.prog 59 #[.agg #[txt x.1, txt x.2], .agg #[txt y.1, txt y.2]] W fun e w' => e = .returned (.int .i64 (cfKV x y)) ∧ ∃ q os', w' = grow (W.drewN q) os' := by
  obtain ⟨x1, x2⟩ := x
  obtain ⟨y1, y2⟩ := y
  have hl := lessB_eq' x1 y1
  have hR : cfKV (x1, x2) (y1, y2) = if lessB x1 y1 then -1 else 1 := rfl
  rw [hR, ← hl]
  clear hl hR
  cases h : Op.bytesLess x1 y1
  · go_enter Try.func59, Try.ntmps59
    go_wp2
    all_goals first | go_quiet (fail) | skip
    all_goals go_wp2
    all_goals go_ret
    all_goals exact ⟨rfl, 0, _, by rw [alloc_eq_grow, alloc_eq_grow, grow_grow]; rfl⟩
  · go_enter Try.func59, Try.ntmps59
    go_wp2
    all_goals first | go_quiet (fail) | skip
    all_goals go_wp2
    all_goals go_ret
    all_goals exact ⟨rfl, 0, _, by rw [alloc_eq_grow, alloc_eq_grow, grow_grow]; rfl⟩

/-- slices.SortFunc on a row of the call's own: the same pairs, by their keys. -/
theorem sortKVd_any (v : Value) (l : List KV) (base : Nat) (hlen : l.length ≤ 1000000) (w : World) (hown : OwnKV w base v l) :
    Calls Try.prog 57 #[v, .func (.func 59) #[] #[]] w fun e w' => e = .returned (.tuple #[]) ∧ ∃ L, OwnKV w' base v L ∧ L.Perm l ∧ L.Pairwise (fun x y => lessB y.1 x.1 = false) ∧ Below base w w' := by
  by_cases h : l = []
  · subst h
    obtain ⟨A, c, rfl, _⟩ := hown.rd
    have hcon := AnyF.slices_SortFunc_none laySortP A c (.func (.func 59) #[] #[]) w
    change Calls Try.prog 57 _ _ _ at hcon
    refine hcon.mono ?_
    rintro e w' ⟨rfl, rfl⟩
    exact ⟨rfl, [], hown, List.Perm.refl _, List.Pairwise.nil, Below.refl _ _⟩
  · obtain ⟨d, rfl⟩ : ∃ d : Array KV, d.toList = l := ⟨l.toArray, by simp⟩
    unfold OwnKV at hown
    rw [Array.length_toList] at hown hlen
    have hform : ∃ g c, v = .slice (some ⟨g, 0, none⟩) d.size c ∧ base ≤ g ∧ g < w.heap.size := by
      rcases hown.2 with ⟨_, h0⟩ | ⟨g, cap, cur, e0, hb, hg, _⟩
      · exact absurd (List.eq_nil_of_length_eq_zero (show d.toList.length = 0 by simpa using h0)) h
      · exact ⟨g, cap, e0, hb, (Array.getElem?_eq_some_iff.1 hg).1⟩
    obtain ⟨g, c, rfl, hb, hg⟩ := hform
    have hcon := AnyQ.slices_SortFunc laySortP 2 Try.isAgg41 Try.sizeOf41 encKV (fun _ => rfl) encKV_one cfKV swoKV 59 #[] g 0 c d w
      (fun _ _ => by kernel_rfl) (fun _ _ _ _ x y => cmpKVd x y _) (holds_ownE (by decide) encKV_len hown rfl) hg (by omega)
    change Calls Try.prog 57 _ _ _ at hcon
    refine hcon.mono ?_
    rintro e w' ⟨rfl, d', n, os, hp, hs, rfl⟩
    refine ⟨rfl, d'.toList, ?_, ?_, ?_, (Below.refl _ _).grown (grown_sortedE hg) (by omega) (fun k hk => by injection hk with hk; omega)⟩
    · unfold OwnKV
      rw [Array.length_toList, hp.1]
      exact own_sortedE (by decide) encKV_len hown hp.1
    · have := hp.2.2
      rw [show d.size = d'.size from hp.1.symm] at this
      have e1 : d'.extract 0 d'.size = d' := by simp
      have e2 : d.extract 0 d'.size = d := by rw [hp.1]; simp
      rw [e1, e2] at this
      exact this
    · rw [List.pairwise_iff_getElem]
      intro i j hi hj hij
      have := hs i j (Nat.zero_le _) hij (by rw [← hp.1]; simpa using hj)
      rw [ltKV, getElem!_pos d' i (by simpa using hi), getElem!_pos d' j (by simpa using hj)] at this
      simpa using this
end Go.Proofs.Ytfklhjkgogncdaa
