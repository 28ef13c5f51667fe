/- Rows of pairs in memory; what a range of a table tells: plain mathematics. No conditions. -/
import Derived.Test.YtdmnejanckdajaaDoorVers2
import Derived.Test.YtdmnejanckdajaaDoorElt
import Derived.Test.YtdmnejanckdajaaDoorOrd
namespace Go.Proofs.YtdmnejanckdajaaDoor
set_option linter.unusedVariables false
set_option linter.unusedSimpArgs false
open Go.RowKit

def encKV (p : KV) : List Value := [txt p.1, txt p.2]
theorem encKV_len (p : KV) : (encKV p).length = 2 := rfl
theorem encKV_one (p : KV) : ∀ u ∈ encKV p, u.oneCell' = true := by
  intro u hu
  simp [encKV] at hu
  rcases hu with rfl | rfl <;> rfl
theorem infoKV : (Tryd.prog.info? 69).map (fun i => (i.zero, i.size, i.bytes)) = some (some (.agg #[.string ⟨#[]⟩, .string ⟨#[]⟩]), 2, 32) := by kernel_rfl
/-- A slice value owns a list of pairs. -/
def OwnKV (w : World) (base : Nat) (v : Value) (l : List KV) : Prop := w.ownsRow base 69 2 v l.length (flatE encKV l)
theorem OwnKV.nil (w : World) (base : Nat) : OwnKV w base (.slice none 0 0) [] := World.ownsRow_nil _ _ _ _
theorem OwnKV.rd {w : World} {base : Nat} {v : Value} {l : List KV} (h : OwnKV w base v l) : ∃ A c, v = .slice A l.length c ∧ Rd w w.heap.size A (flatE encKV l) := own_form h
/-- Pair number k of a slice. -/
theorem Rd.kv {w : World} {B : Nat} {A : Option Addr} {l : List KV} (h : Rd w B A (flatE encKV l)) {k : Nat} (hk : k < l.length) :
    ∃ b off, A = some ⟨b, off, none⟩ ∧ b < B ∧ w.cell? ⟨b, off + k * 2, none⟩ = some (txt l[k].1) ∧ w.cell? ⟨b, off + k * 2 + 1, none⟩ = some (txt l[k].2) := by
  obtain ⟨b, off, e, hb, hc⟩ := Rd.elt encKV_len h hk (by decide)
  exact ⟨b, off, e, hb, hc 0 _ rfl, hc 1 _ rfl⟩

/-- Between. -/
def inB (lo hi s : List UInt8) : Bool := !lessB s lo && lessB s hi
/-- What a range of a table tells. -/
structure RangeIs (F : List UInt8 → List Ver) (lo hi : List UInt8) (n : Int) (L : List KV) : Prop where
  rise : Rise Prod.fst L
  mem : ∀ s v, (s, v) ∈ L ↔ inB lo hi s = true ∧ tell F s n = some v
theorem RangeIs.ext {F F' : List UInt8 → List Ver} {lo hi : List UInt8} {n n' : Int} {L L' : List KV} (h : RangeIs F lo hi n L) (h' : RangeIs F' lo hi n' L') (e : ∀ s, inB lo hi s = true → tell F s n = tell F' s n') : L = L' := by
  refine Rise.ext h.rise h'.rise (fun x => ?_)
  obtain ⟨s, v⟩ := x
  rw [h.mem, h'.mem]
  constructor
  · rintro ⟨h1, h2⟩
    exact ⟨h1, by rw [← e s h1]; exact h2⟩
  · rintro ⟨h1, h2⟩
    exact ⟨h1, by rw [e s h1]; exact h2⟩
theorem tell_nil {F : List UInt8 → List Ver} {s : List UInt8} {n : Int} (h : F s = []) : tell F s n = none := by simp [tell, h, fnd]

/-- What has been collected while 'left' is still to come. -/
structure RngRel (F : List UInt8 → List Ver) (lo hi : List UInt8) (n : Int) (es : Array MapEntry) (left : List MapEntry) (out : List KV) : Prop where
  nodup : (out.map Prod.fst).Nodup
  mem : ∀ s v, (s, v) ∈ out ↔ inB lo hi s = true ∧ tell F s n = some v ∧ ∀ x ∈ left, x.key ≠ txt s
  len : out.length + left.length ≤ es.size
section
variable {F : List UInt8 → List Ver} {lo hi : List UInt8} {n : Int} {es : Array MapEntry} {left left' : List MapEntry} {out : List KV}
theorem RngRel.start (ht : ∀ s, F s ≠ [] → ∃ v, Has es (txt s) v) : RngRel F lo hi n es es.toList [] := by
  refine ⟨by simp, fun s v => ⟨fun h => by simp at h, fun ⟨_, h2, h3⟩ => ?_⟩, by simp⟩
  by_cases h : F s = []
  · rw [tell_nil h] at h2
    cases h2
  · obtain ⟨v, x, hx, hk, _⟩ := ht s h
    exact absurd hk (h3 x hx)
theorem RngRel.skip (h : RngRel F lo hi n es left out) {e : MapEntry} {s : List UInt8} (hp : List.Perm left (e :: left')) (hs : e.key = txt s) (hno : inB lo hi s = true → tell F s n = none) : RngRel F lo hi n es left' out := by
  refine ⟨h.nodup, fun s' v => ?_, by have := h.len; have := hp.length_eq; simp at this; omega⟩
  rw [h.mem]
  constructor
  · rintro ⟨h1, h2, h3⟩
    exact ⟨h1, h2, fun x hx => h3 x (hp.mem_iff.2 (List.mem_cons_of_mem _ hx))⟩
  · rintro ⟨h1, h2, h3⟩
    refine ⟨h1, h2, fun x hx => ?_⟩
    rcases List.mem_cons.1 (hp.mem_iff.1 hx) with rfl | hx
    · intro e2
      rw [hs] at e2
      have := txt_inj e2
      subst this
      rw [hno h1] at h2
      cases h2
    · exact h3 x hx
theorem RngRel.add (h : RngRel F lo hi n es left out) {e : MapEntry} {s v : List UInt8} (hp : List.Perm left (e :: left')) (hs : e.key = txt s) (hin : inB lo hi s = true) (hv : tell F s n = some v) (hl : ∀ x ∈ left', x.key ≠ e.key) :
    RngRel F lo hi n es left' (out ++ [(s, v)]) := by
  refine ⟨?_, fun s' v' => ?_, by have := h.len; have := hp.length_eq; simp at this ⊢; omega⟩
  · rw [List.map_append, List.nodup_append]
    refine ⟨h.nodup, by simp, ?_⟩
    intro a ha b hb
    simp at hb
    subst hb
    intro e2
    subst e2
    obtain ⟨⟨s1, v1⟩, h1, h2⟩ := List.mem_map.1 ha
    simp only at h2
    subst h2
    exact ((h.mem _ _).1 h1).2.2 e (hp.mem_iff.2 List.mem_cons_self) hs
  · rw [List.mem_append, List.mem_singleton, h.mem]
    constructor
    · rintro (⟨h1, h2, h3⟩ | h1)
      · exact ⟨h1, h2, fun x hx => h3 x (hp.mem_iff.2 (List.mem_cons_of_mem _ hx))⟩
      · injection h1 with h1 h2
        subst h1
        subst h2
        exact ⟨hin, hv, fun x hx => by rw [← hs]; exact hl x hx⟩
    · rintro ⟨h1, h2, h3⟩
      by_cases e2 : s' = s
      · subst e2
        rw [hv] at h2
        injection h2 with h2
        exact .inr (by rw [h2])
      · refine .inl ⟨h1, h2, fun x hx => ?_⟩
        rcases List.mem_cons.1 (hp.mem_iff.1 hx) with rfl | hx
        · intro e3
          rw [hs] at e3
          exact e2 (txt_inj e3).symm
        · exact h3 x hx
theorem RngRel.done (h : RngRel F lo hi n es [] out) {L : List KV} (hp : L.Perm out) (hs : L.Pairwise (fun x y => lessB y.1 x.1 = false)) : RangeIs F lo hi n L := by
  refine ⟨Rise.of_sorted hs ((hp.map _).nodup_iff.2 h.nodup), fun s v => ?_⟩
  rw [hp.mem_iff, h.mem]
  simp
end
end Go.Proofs.YtdmnejanckdajaaDoor
