/- Contract of Range: the loop. -/
import Derived.Test.YtdmnejanckdajaaDoorVers8
import Derived.Test.YtdmnejanckdajaaDoorSortP
namespace Go.Proofs.YtdmnejanckdajaaDoor
set_option linter.unusedVariables false
set_option linter.unusedSimpArgs false
set_option maxRecDepth 100000
open Go.RowKit

theorem own_far {w w' : World} {base size n r : Nat} {e : TypeId} {v : Value} {xs : List Value} (h : w.ownsRow base e size v n xs) (hg : w.grownBy w' (some r)) (hr : r < base) : w'.ownsRow base e size v n xs :=
  h.kept hg (by
    cases hv : v.ownBlock with
    | none => exact .inl rfl
    | some g =>
      have := (World.ownsRow.lt h g hv).1
      exact .inr (fun e => by injection e with e; omega))
theorem tell_at {F : List UInt8 → List Ver} {s : List UInt8} {n : Int} {k : Nat} (h : fnd (F s) n (F s).length = k + 1) (hk : k < (F s).length) : tell F s n = if (F s)[k].gone then none else some (F s)[k].val := by
  simp only [tell, h, List.getElem?_eq_getElem hk]
theorem tell_zero {F : List UInt8 → List Ver} {s : List UInt8} {n : Int} (h : fnd (F s) n (F s).length = 0) : tell F s n = none := by
  simp only [tell, h]

theorem range_ok (t : Nat) (F : List UInt8 → List Ver) (top : Int) (m : Nat) (hm : m ≤ 1000000) (S : Nat → Prop) (lo hi : List UInt8) (n : Int) (w : World) (hT : TblAt w S t F top m) (h0 : numB n = true) :
    Calls Tryd.prog 10 #[.pointer (some ⟨t, 0, none⟩), txt lo, txt hi, .int .i64 n] w fun e w' => ∃ v L, e = .returned (.tuple #[v, .nilIface]) ∧ OwnKV w' w.heap.size v L ∧ RangeIs F lo hi n L ∧ L.length ≤ m ∧ Below w.heap.size w w' := by
  obtain ⟨⟨b, es, clock, hB, hM, hn⟩, ht, hg⟩ := hT
  have hx := hB.cell 0
  simp at hx
  have hnum := number_any n w
  rw [h0] at hnum
  have HN := Lib.hid hnum
  clear hnum
  go_enter Tryd.func10, Tryd.ntmps10
  go_wp2_with fail
  refine HN.out.mono ?_
  rintro e w1 ⟨rfl, rfl⟩
  have hblt := hM.map.lt
  go_wp2_with (first | (at_range; refine at_rng _ rfl _ _ rfl 9 65 Tryd.underlying58 rfl hM.map ?_; intro w2 hR2 hM2 hg2 hs2; go_frame))
  have hb2 : Below w1.heap.size w1 w2 := (Below.refl _ _).grown hg2 (Nat.le_refl _) (fun k hk => by cases hk)
  generalize hH : w1.heap.size = H at *
  go_loopw [10] (fun o wr => ∃ (left : List MapEntry) (out : List KV), OwnKV wr (H + 1) o out ∧ RangeAt wr b H es clock left ∧ Below H w1 wr ∧ RngRel F lo hi n es left out ∧ H + 1 ≤ wr.heap.size)
    (fun _ wr => leftN wr b H)
  case atStart => exact ⟨es.toList, [], OwnKV.nil _ _, hR2, hb2, RngRel.start hM.tells, by omega⟩
  case round =>
    obtain ⟨left, out, hown, hR, hb, hrel, hsz⟩ := hrel
    have hM3 : TabAt wr Tryd.prog 9 63 S b es clock F := hM.below (by rw [hH]; exact hb)
    have hln := hR.left_eq hM3.map
    have HLN := Lib.hid hln
    clear hln
    rcases hR.next hM3.map (by omega) 0 with ⟨h0, hrun⟩ | ⟨⟨ek, ev, eb⟩, left', w', h1, h2, hrun, h3, h4, h5, h6, h7, h8⟩
    · subst h0
      have hol : out.length ≤ 1000000 := by have := hrel.len; omega
      have HS := Lib.hid (sortKV_any u10 out (H + 1) hol wr hown)
      clear hown hM3
      go_wp2_with fail
      refine HS.out.mono ?_
      rintro e w3 ⟨rfl, L, hown3, hp, hsrt, hb3⟩
      have HL := Lib.hid (hrel.done hp hsrt)
      have hll : L.length ≤ m := by have := hrel.len; rw [hp.length_eq]; omega
      go_wp2
      go_ret2
      exact ⟨u10, L, rfl, own_of_base hown3 (by omega), HL.out, hll, by rw [hH]; exact hb.trans (hb3.mono (by omega))⟩
    · obtain ⟨s, hs⟩ := hM.keys _ (hR.sub _ h1)
      have hhas : Has es (txt s) ev := ⟨_, hR.sub _ h1, hs, rfl⟩
      simp only at hs h7 h8 hrun
      subst hs
      obtain ⟨hne, hrow⟩ := hM3.rows s ev hhas
      have hb' : Below H w1 w' := hb.grown h5 (by omega) (fun k hk => by injection hk with hk; omega)
      have hown' := own_far hown h5 (by omega)
      have h6' : H + 1 ≤ w'.heap.size := by omega
      clear h6
      have hrow' := own_below (hM.rows s ev hhas).2 (by rw [hH]; exact hb')
      have hlen := hg.len s
      obtain ⟨A, c, rfl, hrd⟩ := own_form hrow'
      have hf := find_any A (F s) c n (by omega) w' hrd
      have hLO := Lib.hid (lessB_eq' s lo)
      have hHI := Lib.hid (lessB_eq' s hi)
      generalize hk : fnd (F s) n (F s).length = k at hf
      have hkle := fnd_le (F s) n (F s).length
      rw [hk] at hkle
      have HK := Lib.hid hk
      clear hk
      rcases hlo : Op.bytesLess s lo with _ | _
      · rcases hhi : Op.bytesLess s hi with _ | _
        · have HS := Lib.hid (hrel.skip (s := s) h2 rfl (fun h => by have := hHI.out; rw [hhi] at this; simp [inB, ← this] at h))
          have HF := Lib.hid hf
          clear hf hrel hM hM3 hrow hrow' hown
          go_wp2_with fail
          refine HF.out.mono ?_
          rintro e w3 ⟨rfl, rfl⟩
          go_wp2
          go_roundw
          case rel => exact ⟨left', out, hown', h3, hb', HS.out, by omega⟩
          case measure => rw [h3.left_eq h4, HLN.out, h2.length_eq]; simp
        · cases k with
          | zero =>
            have HS := Lib.hid (hrel.skip (s := s) h2 rfl (fun _ => tell_zero HK.out))
            have HF := Lib.hid hf
            clear hf hrel hM hM3 hrow hrow' hown
            go_wp2_with fail
            refine HF.out.mono ?_
            rintro e w3 ⟨rfl, rfl⟩
            go_wp2
            go_roundw
            case rel => exact ⟨left', out, hown', h3, hb', HS.out, by omega⟩
            case measure => rw [h3.left_eq h4, HLN.out, h2.length_eq]; simp
          | succ k =>
            have hkl' : k < (F s).length := by omega
            obtain ⟨g, off, rfl, hgb, c0, c1, c2⟩ := hrd.ver hkl'
            have e0 : (((k + 1 : Nat) : Int) - 1) = (k : Int) := by omega
            rw [e0] at hf
            have htell := tell_at HK.out hkl'
            by_cases hgone : (F s)[k].gone = true
            · rw [hgone] at c2
              rw [if_pos hgone] at htell
              have HT := Lib.hid htell
              clear htell
              have HS := Lib.hid (hrel.skip (s := s) h2 rfl (fun _ => HT.out))
              have HF := Lib.hid hf
              clear hf hrel hM hM3 hrow hrow' hown
              go_wp2_with fail
              refine HF.out.mono ?_
              rintro e w3 ⟨rfl, rfl⟩
              go_wp2
              go_roundw
              case rel => exact ⟨left', out, hown', h3, hb', HS.out, by omega⟩
              case measure => rw [h3.left_eq h4, HLN.out, h2.length_eq]; simp
            · rw [Bool.not_eq_true] at hgone
              rw [hgone] at c2
              rw [if_neg (by rw [hgone]; simp)] at htell
              have hin : inB lo hi s = true := by
                have q1 := hLO.out
                have q2 := hHI.out
                rw [hlo] at q1
                rw [hhi] at q2
                simp [inB, ← q1, ← q2]
              have HS := Lib.hid (hrel.add (s := s) h2 rfl hin htell h7)
              have hol : out.length < 1000000000 := by have := hrel.len; omega
              have HF := Lib.hid hf
              clear hf hrel hM hM3 hrow hrow' hown htell hin
              have h1c := encKV_one (s, (F s)[k].val)
              go_wp2_with fail
              refine HF.out.mono ?_
              rintro e w3 ⟨rfl, rfl⟩
              go_wp2_with (at_builtin; go_must (refine wpList_append_elt rfl _ _ 35 rfl 69 Tryd.underlying35 _ 2 32 infoKV rfl (by decide) (by decide) (H + 1) _ out.length (flatE encKV out) rfl hown' #[txt s, txt (F s)[k].val] rfl h1c rfl hol (by omega) ?_); intro v4 w4 hown4 hg4 hat4)
              have hne4 : ∀ q, u10.ownBlock = some q → H + 1 ≤ q := fun q hq => (World.ownsRow.lt hown' q hq).1
              have hblk : w4.heap[H]? = w3.heap[H]? := hg4.block H h3.lt (fun e => by have := hne4 H e.symm; omega)
              have h34 := h3.keep hblk
              have h44 := h4.grown hg4 (fun e => by have := hne4 b e.symm; omega)
              have hb4 := hb'.grown hg4 (by omega) (fun q hq => by have := hne4 q hq; omega)
              have hsz4 : H + 1 ≤ w4.heap.size := Nat.le_trans h6' hg4.size
              clear hblk
              go_roundw
              case rel => exact ⟨left', out ++ [(s, (F s)[k].val)], by unfold OwnKV; rw [flatE_append, List.length_append]; exact hown4, h34, hb4, HS.out, hsz4⟩
              case measure => rw [h34.left_eq h44, HLN.out, h2.length_eq]; simp
      · have HS := Lib.hid (hrel.skip (s := s) h2 rfl (fun h => by have := hLO.out; rw [hlo] at this; simp [inB, ← this] at h))
        have HF := Lib.hid hf
        clear hf hrel hM hM3 hrow hrow' hown
        go_wp2_with fail
        refine HF.out.mono ?_
        rintro e w3 ⟨rfl, rfl⟩
        go_wp2
        go_roundw
        case rel => exact ⟨left', out, hown', h3, hb', HS.out, by omega⟩
        case measure => rw [h3.left_eq h4, HLN.out, h2.length_eq]; simp
end Go.Proofs.YtdmnejanckdajaaDoor
