/- Texts joined: XDesk14. Each says at its head what it proves; conditions: as said there. -/
import Derived.Test.YtfklhjkgogncdaaD24
import Derived.Test.YtfklhjkgogncdaaLayRep
import Derived.Shelf.Strings.Repeat
import Derived.Deep.RegionHeld3
/- Contract of All. -/
namespace Go.Proofs.Ytfklhjkgogncdaa
set_option linter.unusedVariables false
set_option linter.unusedSimpArgs false
set_option maxRecDepth 100000
open Go.RowKit
open Go.ChangeMaps (setBlock)

theorem repExtra : Go.Proofs.Builder.Extra Try.prog layRep_ren where
  sizeBuilder := by kernel_rfl
  liesBuilder := by kernel_rfl
  t5 := Try.underlying5
  a5 := Try.isAgg5
  z5 := Try.sizeOf5
  v5 := Try.zeroValue5
  infoByte := by kernel_rfl
  cellsByte := by kernel_rfl
  sizeByte := by kernel_rfl
  neB5 := by decide
/-- A text behind all keys. -/
def topKey : List UInt8 := [255, 255, 255, 255, 255, 255, 255, 255, 255, 255, 255, 255, 255, 255, 255, 255, 255, 255, 255, 255, 255, 255, 255, 255, 255]
theorem rep_top : Lib.repeatL ((⟨#[255]⟩ : ByteArray).data.toList) 25 = topKey := by decide
theorem repeat_top (w : World) : Calls Try.prog 41 #[.string ⟨#[255]⟩, .int .i64 25] w fun e w' => e = .returned (txt topKey) ∧ Below w.heap.size w w' := by
  have h := Any.strings_Repeat layRep repExtra (⟨#[255]⟩ : ByteArray) 25 w (by decide) (by decide)
  change Calls Try.prog 41 _ _ _ at h
  rw [rep_top] at h
  exact h
section
variable {w w' : World} {O : Nat → Nat} {d : Nat} {M : Mem} {g : Dk} {id : Int} {k : Nat}
theorem DeskAt.all_s (h : DeskAt w O d M g) (hk : g.all.length ≤ 40000) :
    Calls Try.prog 15 #[ptrV d] w fun e w' => ∃ v L, e = .returned v ∧ OwnKV w' w.heap.size v L ∧ RangeIs g.F [] topKey g.last L ∧ L.length ≤ 800000 ∧ Below w.heap.size w w' := by
  have x1 := h.hB.cell 1
  have x2 := h.hB.cell 2
  simp at x1 x2
  have hnum : numB g.last = true := numB_of (by unfold Dk.last; omega)
  have HRep := Lib.hid repeat_top
  have hDB := h.hB
  have HR := Lib.hid (fun w' (hb : Below w.heap.size w w') => show Calls Try.prog 36 #[.pointer (some ⟨M.tb, 0, none⟩), txt [], txt topKey, .int .i64 g.last] w' (fun e w2 => ∃ A c L, e = .returned (.tuple #[.slice A L.length c, .nilIface]) ∧ OwnKV w2 w'.heap.size (.slice A L.length c) L ∧ RangeIs g.F [] topKey g.last L ∧ L.length ≤ 800000 ∧ Below w'.heap.size w' w2) from by
    obtain ⟨n, top, hn, _, hT⟩ := (h.below hb).tab
    refine (range_ok M.tb g.F top n (by omega) _ [] topKey g.last w' hT hnum).mono (fun e w2 q => ?_)
    obtain ⟨v, L, q1, q2, q3, q4, q5⟩ := q
    obtain ⟨A, c, hv, _⟩ := q2.rd
    subst hv
    exact ⟨A, c, L, q1, q2, q3, by omega, q5⟩)
  have hkk : ∀ W, Blk W d 60 #[ptrV M.lg, ptrV M.tb, .int .i64 g.last, .int .i64 g.ids, .map (some M.ob), M.ev] → W.cell? ⟨d, 1, none⟩ = some (ptrV M.tb) ∧ W.cell? ⟨d, 2, none⟩ = some (.int .i64 g.last) := fun W e1 => ⟨e1.cell 1, e1.cell 2⟩
  clear h
  go_enter Try.func15, Try.ntmps15
  go_wp2_with fail
  go_region_held3 (fun W => W.cell? ⟨d, 1, none⟩ = some (ptrV M.tb) ∧ W.cell? ⟨d, 2, none⟩ = some (.int .i64 g.last))
    (first
      | exact hkk _ hDB
      | exact hkk _ (hDB.below hb4 hDB.lt)
      | exact hkk _ ((hDB.below hb4 hDB.lt).below hb5 (hDB.below hb4 hDB.lt).lt))
    ((first
      | (go_at_call 41; refine (HRep.out _).mono ?_; rintro e w4 ⟨rfl, hb4⟩; have hb4 : Below w.heap.size w w4 := ⟨hb4.os, hb4.tape, hb4.output, hb4.size, hb4.block⟩)
      | (go_at_call 36; refine (HR.out _ hb4).mono ?_; rintro e w5 ⟨A5, c5, L, rfl, hK5, hR5, hlen5, hb5⟩)))
  have HB5 := Lib.hid (hb4.trans (hb5.mono hb4.size))
  have HK5 := Lib.hid (own_of_base hK5 hb4.size)
  have HR5 := Lib.hid hR5
  clear hb4 hb5 hK5 hR5
  go_wp2
  go_ret
  exact ⟨_, L, rfl, HK5.out, HR5.out, hlen5, HB5.out⟩
end
end Go.Proofs.Ytfklhjkgogncdaa
