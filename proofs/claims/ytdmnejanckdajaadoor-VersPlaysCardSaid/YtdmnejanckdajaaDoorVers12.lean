/- Contract of Touched. -/
import Derived.Test.YtdmnejanckdajaaDoorVers11
namespace Go.Proofs.YtdmnejanckdajaaDoor
set_option linter.unusedVariables false
set_option linter.unusedSimpArgs false
set_option maxRecDepth 100000
open Go.RowKit

/-- Is there a version behind a number? -/
def Touch (F : List UInt8 → List Ver) (lo hi : List UInt8) (n : Int) : Prop := ∃ s, inB lo hi s = true ∧ lastB (F s) n = true
def TouchIs (F : List UInt8 → List Ver) (lo hi : List UInt8) (n : Int) (r : Bool) : Prop := r = true ↔ Touch F lo hi n
/-- Whoever is touched is still to come. -/
def TchRel (F : List UInt8 → List Ver) (lo hi : List UInt8) (n : Int) (left : List MapEntry) : Prop := ∀ s, inB lo hi s = true → lastB (F s) n = true → ∃ x ∈ left, x.key = txt s
theorem TchRel.skip {F : List UInt8 → List Ver} {lo hi : List UInt8} {n : Int} {left left' : List MapEntry} (h : TchRel F lo hi n left) {e : MapEntry} {s : List UInt8} (hp : List.Perm left (e :: left')) (hs : e.key = txt s) (hno : inB lo hi s = true → lastB (F s) n = false) : TchRel F lo hi n left' := by
  intro s' h1 h2
  obtain ⟨x, hx, hk⟩ := h s' h1 h2
  rcases List.mem_cons.1 (hp.mem_iff.1 hx) with rfl | hx
  · rw [hs] at hk
    have := txt_inj hk
    subst this
    rw [hno h1] at h2
    cases h2
  · exact ⟨x, hx, hk⟩

theorem touched_ok (t : Nat) (F : List UInt8 → List Ver) (top : Int) (m : Nat) (hm : m ≤ 1000000) (S : Nat → Prop) (lo hi : List UInt8) (n : Int) (w : World) (hT : TblAt w S t F top m) (h0 : numB n = true) :
    Calls Tryd.prog 20 #[.pointer (some ⟨t, 0, none⟩), txt lo, txt hi, .int .i64 n] w fun e w' => ∃ r, e = .returned (.tuple #[.bool r, .nilIface]) ∧ TouchIs F lo hi n r ∧ Below w.heap.size w w' := by
  obtain ⟨⟨b, es, clock, hB, hM, hn⟩, ht, hg⟩ := hT
  have hx := hB.cell 0
  simp at hx
  have hnum := number_any n w
  rw [h0] at hnum
  have HN := Lib.hid hnum
  clear hnum
  go_enter Tryd.func20, Tryd.ntmps20
  go_wp2_with fail
  refine HN.out.mono ?_
  rintro e w1 ⟨rfl, rfl⟩
  have hblt := hM.map.lt
  go_wp2_with (first | (at_range; refine at_rng _ rfl _ _ rfl 9 65 Tryd.underlying58 rfl hM.map ?_; intro w2 hR2 hM2 hg2 hs2; go_frame))
  have hb2 : Below w1.heap.size w1 w2 := (Below.refl _ _).grown hg2 (Nat.le_refl _) (fun k hk => by cases hk)
  generalize hH : w1.heap.size = H at *
  go_loopw [10] (fun _ wr => ∃ (left : List MapEntry), RangeAt wr b H es clock left ∧ Below H w1 wr ∧ TchRel F lo hi n left ∧ H + 1 ≤ wr.heap.size)
    (fun _ wr => leftN wr b H)
  case atStart =>
    refine ⟨es.toList, hR2, hb2, fun s h1 h2 => ?_, by omega⟩
    have hne : F s ≠ [] := fun e => by rw [e] at h2; cases h2
    obtain ⟨v, x, hx, hk, _⟩ := hM.tells s hne
    exact ⟨x, hx, hk⟩
  case round =>
    obtain ⟨left, hR, hb, hrel, hsz⟩ := hrel
    have hM3 : TabAt wr Tryd.prog 9 63 S b es clock F := hM.below (by rw [hH]; exact hb)
    have HLN := Lib.hid (hR.left_eq hM3.map)
    rcases hR.next hM3.map (by omega) 0 with ⟨h0, hrun⟩ | ⟨⟨ek, ev, eb⟩, left', w', h1, h2, hrun, h3, h4, h5, h6, h7, h8⟩
    · subst h0
      have HS := Lib.hid (show TouchIs F lo hi n false from ⟨fun h => (by cases h), fun ⟨s, q1, q2⟩ => by obtain ⟨x, hx, _⟩ := hrel s q1 q2; simp at hx⟩)
      clear hM3 hrel
      go_wp2
      go_ret2
      exact ⟨false, rfl, HS.out, by rw [hH]; exact hb⟩
    · obtain ⟨s, hs⟩ := hM.keys _ (hR.sub _ h1)
      have hhas : Has es (txt s) ev := ⟨_, hR.sub _ h1, hs, rfl⟩
      simp only at hs h7 h8 hrun
      subst hs
      have hb' : Below H w1 w' := hb.grown h5 (by omega) (fun k hk => by injection hk with hk; omega)
      have h6' : H + 1 ≤ w'.heap.size := by omega
      clear h6
      obtain ⟨hne, hrow⟩ := hM3.rows s ev hhas
      have hrow' := own_below (hM.rows s ev hhas).2 (by rw [hH]; exact hb')
      have hlen := hg.len s
      obtain ⟨A, c, rfl, hrd⟩ := own_form hrow'
      have hl0 : 0 < (F s).length := List.length_pos_iff.2 hne
      obtain ⟨g, off, rfl, hgb, c0, c1, c2⟩ := hrd.ver (show (F s).length - 1 < (F s).length by omega)
      have hF := Lib.hid (lastB_at hl0 n)
      have hz1 : ((F s).length : Int) - 1 = (((F s).length - 1 : Nat) : Int) := by omega
      have hlI : (0 : Int) < ((F s).length : Int) := by omega
      have hLO := Lib.hid (lessB_eq' s lo)
      have hHI := Lib.hid (lessB_eq' s hi)
      have hrel_skip := hrel.skip (s := s) h2 rfl
      clear hrow hrow' hrd
      rcases hlo : Op.bytesLess s lo with _ | _
      · rcases hhi : Op.bytesLess s hi with _ | _
        · have HS := Lib.hid (hrel_skip (fun h => by have := hHI.out; rw [hhi] at this; simp [inB, ← this] at h))
          clear hrel_skip hrel hM hM3
          go_wp2
          go_roundw
          case rel => exact ⟨left', h3, hb', HS.out, h6'⟩
          case measure => rw [h3.left_eq h4, HLN.out, h2.length_eq]; simp
        · have hin : Hid (inB lo hi s = true) := Lib.hid (by
            have q1 := hLO.out
            have q2 := hHI.out
            rw [hlo] at q1
            rw [hhi] at q2
            simp [inB, ← q1, ← q2])
          by_cases hlt : n < (F s)[(F s).length - 1].n
          · have HS := Lib.hid (show TouchIs F lo hi n true from ⟨fun _ => ⟨s, hin.out, by rw [hF.out]; exact decide_eq_true hlt⟩, fun _ => rfl⟩)
            clear hrel_skip hrel hM hM3
            go_wp2
            go_ret2
            exact ⟨true, rfl, HS.out, by rw [hH]; exact hb'⟩
          · have HS := Lib.hid (hrel_skip (fun _ => by rw [hF.out]; exact decide_eq_false hlt))
            clear hrel_skip hrel hM hM3
            go_wp2
            go_roundw
            case rel => exact ⟨left', h3, hb', HS.out, h6'⟩
            case measure => rw [h3.left_eq h4, HLN.out, h2.length_eq]; simp
      · have HS := Lib.hid (hrel_skip (fun h => by have := hLO.out; rw [hlo] at this; simp [inB, ← this] at h))
        clear hrel_skip hrel hM hM3
        go_wp2
        go_roundw
        case rel => exact ⟨left', h3, hb', HS.out, h6'⟩
        case measure => rw [h3.left_eq h4, HLN.out, h2.length_eq]; simp

theorem touched_bad (t : Value) (lo hi : Value) (n : Int) (w : World) (h0 : numB n = false) :
    Calls Tryd.prog 20 #[t, lo, hi, .int .i64 n] w fun e w' => e = .returned (.tuple #[.bool false, .iface 31 (.int .i64 1)]) ∧ w' = w := by
  have hnum := number_any n w
  rw [h0] at hnum
  have HN := Lib.hid hnum
  clear hnum
  go_enter Tryd.func20, Tryd.ntmps20
  go_wp2_with fail
  refine HN.out.mono ?_
  rintro e w1 ⟨rfl, rfl⟩
  go_wp2
  go_ret2
  exact ⟨rfl, rfl⟩
end Go.Proofs.YtdmnejanckdajaaDoor
