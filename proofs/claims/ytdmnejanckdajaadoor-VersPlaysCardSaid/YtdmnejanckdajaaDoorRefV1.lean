/- The reference's table in memory; contracts of KeyFault and Seen. No conditions. -/
import Derived.Test.YtdmnejanckdajaaDoorRefVMath
import Derived.Test.YtdmnejanckdajaaDoorVers15
namespace Go.Proofs.YtdmnejanckdajaaDoor
set_option linter.unusedVariables false
set_option linter.unusedSimpArgs false
set_option maxRecDepth 100000
open Go.RowKit

def encR (x : KVer) : List Value := [txt x.1, txt x.2.val, .int .i64 x.2.n, .bool x.2.gone]
theorem encR_len (x : KVer) : (encR x).length = 4 := rfl
theorem encR_one (x : KVer) : ∀ u ∈ encR x, u.oneCell' = true := by
  intro u hu
  simp [encR] at hu
  rcases hu with rfl | rfl | rfl | rfl <;> rfl
theorem infoR : (Tryd.prog.info? 49).map (fun i => (i.zero, i.size, i.bytes)) = some (some (.agg #[.string ⟨#[]⟩, .string ⟨#[]⟩, .int .i64 0, .bool false]), 4, 48) := by kernel_rfl
/-- Version number k of a slice. -/
theorem Rd.kver {w : World} {B : Nat} {A : Option Addr} {l : List KVer} (h : Rd w B A (flatE encR l)) {k : Nat} (hk : k < l.length) :
    ∃ b off, A = some ⟨b, off, none⟩ ∧ b < B ∧ w.cell? ⟨b, off + k * 4, none⟩ = some (txt l[k].1) ∧ w.cell? ⟨b, off + k * 4 + 1, none⟩ = some (txt l[k].2.val) ∧ w.cell? ⟨b, off + k * 4 + 2, none⟩ = some (.int .i64 l[k].2.n) ∧ w.cell? ⟨b, off + k * 4 + 3, none⟩ = some (.bool l[k].2.gone) := by
  obtain ⟨b, off, e, hb, hc⟩ := Rd.elt encR_len h hk (by decide)
  exact ⟨b, off, e, hb, hc 0 _ rfl, hc 1 _ rfl, hc 2 _ rfl, hc 3 _ rfl⟩
/-- The reference's table. -/
structure RTbl (w : World) (S : Nat → Prop) (m : Nat) (L : List KVer) (top : Int) : Prop where
  row : ∃ v, Blk w m 46 #[v, .int .i64 top] ∧ w.ownsRow 0 49 4 v L.length (flatE encR L) ∧ ∀ g, v.ownBlock = some g → S g
  hm : S m
section
variable {w w' : World} {S : Nat → Prop} {m : Nat} {L : List KVer} {top : Int}
theorem RTbl.lt (h : RTbl w S m L top) : m < w.heap.size := by obtain ⟨⟨v, h1, _⟩, _⟩ := h; exact h1.lt
theorem RTbl.far {T : Nat → Prop} (h : RTbl w S m L top) (f : Fr T w w') (hd : ∀ g, S g → ¬ T g) : RTbl w' S m L top := by
  obtain ⟨⟨v, h1, h2, h3⟩, hm⟩ := h
  exact ⟨⟨v, h1.fr f (hd m hm), own_fr h2 f (fun g e => hd g (h3 g e)), h3⟩, hm⟩
theorem RTbl.below (h : RTbl w S m L top) (hb : Below w.heap.size w w') : RTbl w' S m L top := h.far (T := fun _ => False) (Fr.of_below hb) (fun _ _ q => q)
theorem RTbl.drew (h : RTbl w S m L top) : RTbl w.drew S m L top := h.below (Below.refl _ _).drew
theorem RTbl.mono {S' : Nat → Prop} (h : RTbl w S m L top) (hs : ∀ g, S g → S' g) : RTbl w S' m L top := by
  obtain ⟨⟨v, h1, h2, h3⟩, hm⟩ := h
  exact ⟨⟨v, h1, h2, fun g e => hs g (h3 g e)⟩, hs m hm⟩
theorem RTbl.tight (h : RTbl w S m L top) : RTbl w (fun g => S g ∧ g < w.heap.size) m L top := by
  have hlt := h.lt
  obtain ⟨⟨v, h1, h2, h3⟩, hm⟩ := h
  exact ⟨⟨v, h1, h2, fun g e => ⟨h3 g e, (World.ownsRow.lt h2 g e).2⟩⟩, hm, hlt⟩
end

def kfE (s v : List UInt8) : Int := if keyB s = false ∨ 12 < v.length then 2 else 0
theorem keyFault_any (s v : List UInt8) (w : World) :
    Calls Tryd.prog 28 #[txt s, txt v] w fun e w' => e = .returned (.int .i64 (kfE s v)) ∧ w' = w := by
  by_cases h0 : s.length < 1
  · have hR := Lib.hid (show kfE s v = 2 by unfold kfE; rw [if_pos (.inl (by have : s = [] := List.eq_nil_of_length_eq_zero (by omega); subst this; rfl))])
    go_enter Tryd.func28, Tryd.ntmps28
    go_wp2
    go_ret
    exact ⟨by rw [hR.out]; rfl, rfl⟩
  · have hn : s ≠ [] := fun e => h0 (by rw [e]; simp)
    by_cases h1 : 24 < s.length
    · have hR := Lib.hid (show kfE s v = 2 by unfold kfE; rw [if_pos (.inl (by unfold keyB; simp; intro _; omega))])
      go_enter Tryd.func28, Tryd.ntmps28
      go_wp2
      go_ret
      exact ⟨by rw [hR.out]; rfl, rfl⟩
    · have hk : keyB s = true := by unfold keyB; simp; exact ⟨hn, by omega⟩
      by_cases h2 : 12 < v.length
      · have hR := Lib.hid (show kfE s v = 2 by unfold kfE; rw [if_pos (.inr h2)])
        go_enter Tryd.func28, Tryd.ntmps28
        go_wp2
        go_ret
        exact ⟨by rw [hR.out]; rfl, rfl⟩
      · have hR := Lib.hid (show kfE s v = 0 by unfold kfE; rw [if_neg (by rw [hk]; simp; omega)])
        go_enter Tryd.func28, Tryd.ntmps28
        go_wp2
        go_ret
        exact ⟨by rw [hR.out]; rfl, rfl⟩

/-- The best of the first k. -/
def SeenTo (L : List KVer) (s : List UInt8) (n : Int) (k : Nat) (r : Int) : Prop := SeenIs (L.take k) s n r
theorem seen_skip {L : List KVer} {s : List UInt8} {n r : Int} {k : Nat} (h : SeenTo L s n k r) (hk : k < L.length) (hno : L[k].1 = s → n < L[k].2.n ∨ (L[k].2.n ≤ n ∧ ∃ (i : Nat) (hi : i < L.length), r = (i : Int) ∧ L[k].2.n ≤ L[i].2.n)) : SeenTo L s n (k + 1) r := by
  unfold SeenTo SeenIs at *
  rw [List.take_succ_eq_append_getElem hk]
  rcases h with ⟨rfl, h1⟩ | ⟨i, hi, rfl, h1, h2, h3⟩
  · refine .inl ⟨rfl, fun v hv => ?_⟩
    rcases List.mem_append.1 hv with hv | hv
    · exact h1 v hv
    · simp at hv
      rcases hno (by rw [← hv]) with q | ⟨_, i, hi, q, _⟩
      · rw [← hv] at q
        exact q
      · omega
  · have hi' : i < k := by simp at hi; omega
    refine .inr ⟨i, by simp; omega, rfl, ?_, ?_, fun v hv hvn => ?_⟩
    · rw [List.getElem_append_left hi]
      exact h1
    · rw [List.getElem_append_left hi]
      exact h2
    · rw [List.getElem_append_left hi]
      rcases List.mem_append.1 hv with hv | hv
      · exact h3 v hv hvn
      · simp at hv
        rcases hno (by rw [← hv]) with q | ⟨_, i', hi2, q, q2⟩
        · rw [← hv] at q
          simp only at q
          omega
        · obtain rfl : i = i' := by omega
          rw [List.getElem_take]
          rw [← hv] at q2
          exact q2
theorem seen_take {L : List KVer} {s : List UInt8} {n r : Int} {k : Nat} (h : SeenTo L s n k r) (hk : k < L.length) (h1 : L[k].1 = s) (h2 : L[k].2.n ≤ n) (h3 : r = -1 ∨ ∃ (i : Nat) (hi : i < L.length), r = (i : Int) ∧ L[i].2.n < L[k].2.n) : SeenTo L s n (k + 1) (k : Int) := by
  unfold SeenTo SeenIs at *
  rw [List.take_succ_eq_append_getElem hk]
  refine .inr ⟨k, by simp; omega, rfl, ?_, ?_, fun v hv hvn => ?_⟩
  · rw [List.getElem_append_right (by simp; omega)]
    simp
    exact h1
  · rw [List.getElem_append_right (by simp; omega)]
    simp
    exact h2
  · rw [List.getElem_append_right (by simp; omega)]
    simp
    rcases List.mem_append.1 hv with hv | hv
    · rcases h with ⟨rfl, q1⟩ | ⟨i, hi, rfl, q1, q2, q3⟩
      · have := q1 v hv
        omega
      · have := q3 v hv hvn
        rcases h3 with h3 | ⟨i', hi', e, h4⟩
        · omega
        · obtain rfl : i = i' := by omega
          rw [List.getElem_take] at this
          omega
    · simp at hv
      rw [← hv]
      simp
end Go.Proofs.YtdmnejanckdajaaDoor
