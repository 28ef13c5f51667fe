/- Contract of Collect: the walk. -/
import Derived.Test.YtdmnejanckdajaaDoorVers13
namespace Go.Proofs.YtdmnejanckdajaaDoor
set_option linter.unusedVariables false
set_option linter.unusedSimpArgs false
set_option maxRecDepth 100000
open Go.RowKit
open Go.ChangeMaps (setBlock)

theorem own_form3v {w : World} {base size n : Nat} {e : TypeId} {v : Value} {xs : List Value} (h : w.ownsRow base e size v n xs) : ∃ A c, v = .slice A n c ∧ n ≤ c ∧ (A = none → n = 0 ∧ c = 0) ∧ Rd w w.heap.size A xs := by
  rcases h.2 with ⟨h1, h2⟩ | ⟨g, cap, cur, hv, _, _, hc, _⟩
  · subst h2
    have hx : xs = [] := List.eq_nil_of_length_eq_zero (by simpa using h.1)
    subst hx
    exact ⟨none, 0, h1, Nat.le_refl _, fun _ => ⟨rfl, rfl⟩, Rd.nil⟩
  · exact ⟨_, cap, hv, hc, fun e => (by cases e), Rd.of_own (hv ▸ h)⟩
theorem nodup_le : ∀ {l m : List Nat}, l.Nodup → (∀ x ∈ l, x ∈ m) → l.length ≤ m.length
  | [], _, _, _ => Nat.zero_le _
  | x :: l, m, hn, hs => by
    rw [List.nodup_cons] at hn
    have hx := hs x List.mem_cons_self
    have := nodup_le (m := m.erase x) hn.2 (fun y hy => (List.mem_erase_of_ne (fun (e : y = x) => hn.1 (by rw [← e]; exact hy))).2 (hs y (List.mem_cons_of_mem _ hy)))
    rw [List.length_erase_of_mem hx] at this
    have := List.length_pos_of_mem hx
    rw [List.length_cons]
    omega
theorem size_born {es es' : Array MapEntry} (hn : (es'.toList.map (·.born)).Nodup) (h : ∀ x ∈ es'.toList, ∃ y ∈ es.toList, y.born = x.born) : es'.size ≤ es.size := by
  have := nodup_le (m := es.toList.map (·.born)) hn (fun x hx => by
    obtain ⟨a, ha, rfl⟩ := List.mem_map.1 hx
    obtain ⟨y, hy, e⟩ := h a ha
    exact List.mem_map.2 ⟨y, hy, e⟩)
  simpa using this
set_option maxHeartbeats 4000000 in
theorem collect_ok (t : Nat) (F : List UInt8 → List Ver) (top : Int) (m : Nat) (hm : m ≤ 1000000) (S : Nat → Prop) (n : Int) (w : World) (hT : TblAt w S t F top m) (h0 : numB n = true) :
    Calls Tryd.prog 11 #[.pointer (some ⟨t, 0, none⟩), .int .i64 n] w fun e w' => ∃ N j : Nat, e = .returned (.tuple #[.int .i64 j, .nilIface]) ∧ Count (colF F n) N ∧ Count F (j + N) ∧ Fr S w w' ∧ TblAt w' (plus S w) t (colF F n) top m := by
  obtain ⟨⟨b, es, clock, hB, hM, hn⟩, ht, hg⟩ := hT
  have hx := hB.cell 0
  simp at hx
  have hnum := number_any n w
  rw [h0] at hnum
  have HN := Lib.hid hnum
  clear hnum
  have hsum := hM.sum_le hn hg hm
  have hcnt := hM.count
  have hmb : t ≠ b := fun e => by
    have h1 := hM.map.hb
    rw [← e] at h1
    unfold Blk at hB
    rw [hB] at h1
    cases h1
  generalize hN0 : sumE es.toList = N0 at *
  clear hN0
  go_enter Tryd.func11, Tryd.ntmps11
  go_wp2_with fail
  refine HN.out.mono ?_
  rintro e w1 ⟨rfl, rfl⟩
  have hblt := hM.map.lt
  go_wp2_with (first | (at_range; refine at_rng _ rfl _ _ rfl 9 65 Tryd.underlying58 rfl hM.map ?_; intro w2 hR2 hM2 hg2 hs2; go_frame))
  have hb2 : Below w1.heap.size w1 w2 := (Below.refl _ _).grown hg2 (Nat.le_refl _) (fun k hk => by cases hk)
  have hf2 : Fr S w1 w2 := Fr.of_below hb2
  have hB2 := hB.below hb2 hB.lt
  have hMM2 := (hM.below hb2).mono (S' := plus S w1) plus.old
  generalize hH : w1.heap.size = H at *
  have htH : t < H := by rw [← hH]; exact hB.lt
  have HST := Lib.hid (ColRel.start (n := n) hM.tells hcnt)
  clear hb2 hg2 hM2
  go_loopw [6] (fun o wr => ∃ (es' : Array MapEntry) (clock' : Nat) (left : List MapEntry) (F' : List UInt8 → List Ver) (j : Nat), o = .int .i64 j ∧ ColRel F F' n left N0 j ∧ TabAt wr Tryd.prog 9 63 (plus S w1) b es' clock' F' ∧ es'.size ≤ m ∧
      RangeAt wr b H es' clock' left ∧ Fr S w1 wr ∧ Blk wr t 60 #[.map (some b), .int .i64 top] ∧ H + 1 ≤ wr.heap.size)
    (fun _ wr => leftN wr b H)
  case atStart => exact ⟨es, clock, es.toList, F, 0, rfl, HST.out, hMM2, hn, hR2, hf2, hB2, by omega⟩
  case round =>
    obtain ⟨es', clock', left, F', j, rfl, hcol, hM3, hn', hR, hf, hB3, hsz⟩ := hrel
    have hbr := map_not_iter hM3.map hR
    have HLN := Lib.hid (hR.left_eq hM3.map)
    have hjle := hcol.le
    rcases hR.next hM3.map hbr 0 with ⟨h0, hrun⟩ | ⟨⟨ek, ev, eb⟩, left', w', h1, h2, hrun, h3, h4, h5, h6, h7, h8⟩
    · subst h0
      have HD := Lib.hid hcol.done
      have HC := Lib.hid hcol.count
      have HM3 := Lib.hid hM3
      clear hcol hM3 hR
      go_wp2
      go_ret2
      obtain ⟨N, hN1, hN2⟩ := HC.out
      exact ⟨N, j, rfl, by rw [← HD.out]; exact hN1, by rw [hN2]; exact hcnt, hf, ⟨b, es', clock', hB3, by rw [← HD.out]; exact HM3.out, hn'⟩, .inl ht, hg.col n⟩
    · obtain ⟨s, hs⟩ := hM3.keys _ (hR.sub _ h1)
      have hhas : Has es' (txt s) ev := ⟨_, hR.sub _ h1, hs, rfl⟩
      simp only at hs h7 h8 hrun
      subst hs
      have hM4 := hM3.iter hR h5
      have hB4 := hB3.grown h5 (fun e => by injection e with e; omega)
      have hf4 := hf.grown h5 (fun q hq hlt => by injection hq with hq; omega)
      have h6' : H + 1 ≤ w'.heap.size := by omega
      have hFs := hcol.here h2 rfl
      have hrow' := (hM4.rows s ev hhas).2
      rw [hFs] at hrow'
      clear h6 h5 hf
      have hlen := hg.len s
      obtain ⟨kl, hkl⟩ := hM4.map.keys _ (hR.sub _ h1)
      simp only at hkl
      have x0 := hB4.cell 0
      simp at x0
      obtain ⟨A, c, rfl, hc, hA, hrd⟩ := own_form3v hrow'
      have hf := find_any A (F s) c n (by omega) w' hrd
      generalize hk : fnd (F s) n (F s).length = k at hf
      have hkle := fnd_le (F s) n (F s).length
      rw [hk] at hkle
      have HK := Lib.hid hk
      clear hk
      cases k with
      | zero =>
        have HF := Lib.hid hf
        have HCol := Lib.hid (hcol.skip (s := s) h2 rfl h7 (colL_zero HK.out))
        clear hf hcol hM3 hrow' hrd
        go_wp2_with fail
        refine HF.out.mono ?_
        rintro e w3 ⟨rfl, rfl⟩
        go_wp2
        go_roundw
        case rel => exact ⟨es', clock', left', F', j, rfl, HCol.out, hM4, hn', h3, hf4, hB4, h6'⟩
        case measure => rw [h3.left_eq h4, HLN.out, h2.length_eq]; simp
      | succ k =>
        have hkl' : k < (F s).length := by omega
        obtain ⟨g, off, rfl, hgb, c0, c1, c2⟩ := hrd.ver hkl'
        have e0 : (((k + 1 : Nat) : Int) - 1) = (k : Int) := by omega
        rw [e0] at hf
        have HF := Lib.hid hf
        clear hf e0
        by_cases hgone : (F s)[k].gone = true
        · rw [hgone] at c2
          have HCL0 := Lib.hid (colL_gone HK.out hkl' hgone)
          obtain ⟨kk, hkk⟩ : ∃ kk : Nat, (k : Int) + 1 = (kk : Int) := ⟨k + 1, rfl⟩
          have HCL : Hid (colL (F s) n = (F s).drop kk) := Lib.hid (by rw [HCL0.out]; congr 1; omega)
          have hkk2 : kk ≤ (F s).length := by omega
          by_cases hend : kk = (F s).length
          · have HCol := Lib.hid (hcol.turn (s := s) h2 rfl h7 HCL.out (by omega))
            have hj2 : (j : Int) + (kk : Int) ≤ 1000000000000 := by have := HCol.out.le; omega
            have hdn : (F s).drop kk = [] := by rw [hend]; simp
            rw [hdn] at HCol
            have hI5 : ((kk : Int) == ((F s).length : Int)) = true := by rw [beq_iff_eq]; omega
            obtain ⟨es2, hrunB, hmB, hasB, hsubB, hfiltB⟩ := hM4.map.drop strKey Tryd.underlying58 (ty := 0) hkl
            have hgrowB := grown_setBlock (o := .map es2 clock') hM4.map
            have hRB := h3.turn (key := txt s) (hgrowB.block H h3.lt (fun e => by injection e with e; exact hbr e.symm)) (fun x hx => ⟨x, hsubB.subset hx, rfl⟩) (fun p hp => hfiltB (fun x => p x.born) hp) h7
            have hBB := hB4.grown hgrowB (by intro e; injection e with e; exact hmb e)
            have hsB : es2.size ≤ m := by have := hsubB.length_le; simp only [Array.length_toList] at this; omega
            have hTB := hM4.drop hmB hgrowB hasB
            have hfB := hf4.grown hgrowB (fun q hq hlt => by injection hq with hq; subst hq; exact hM4.hb.elim id (fun h => by omega))
            have hszB : H + 1 ≤ (setBlock w' b (.map es2 clock')).heap.size := by have := hgrowB.size; omega
            clear hcol hM3 hrow' HCL hasB hgrowB hfiltB hM4 hend
            go_wp2_with fail
            refine HF.out.mono ?_
            rintro e w3 ⟨rfl, rfl⟩
            go_wp2
            go_roundw
            case rel => exact ⟨es2, clock', left', _, _, by go_num, HCol.out, hTB, hsB, hRB, hfB, hBB, hszB⟩
            case measure => rw [hRB.left_eq hmB, HLN.out, h2.length_eq]; simp
          · have hI1 : (kk : Int) ≤ (c : Int) := by omega
            have hI2 : (0 : Int) ≤ (kk : Int) := by omega
            have hI3 : ¬ c = kk := by omega
            have hI6 : (kk : Int) ≤ ((F s).length : Int) := by omega
            have hI4 : (kk : Int) < ((F s).length : Int) := by omega
            have hI5 : ((kk : Int) == ((F s).length : Int)) = false := by rw [beq_eq_false_iff_ne]; omega
            have hLne : (F s).drop kk ≠ [] := by intro e; have := congrArg List.length e; simp at this; omega
            have hrdd := hrd.verDrop kk
            have HCol := Lib.hid (hcol.turn (s := s) h2 rfl h7 HCL.out (by omega))
            have hj2 : (j : Int) + (kk : Int) ≤ 1000000000000 := by have := HCol.out.le; omega
            have HCl := Lib.hid (fun (W : World) (hW : Rd W W.heap.size (some ⟨g, off + kk * 3, none⟩) (cellsV ((F s).drop kk))) => cloneV_any ⟨g, off + kk * 3, none⟩ ((F s).drop kk) ((F s).length - kk) (c - kk) (by simp) (by simp; omega) W hW)
            clear hcol hM3 hrow' HCL
            go_wp2_with fail
            refine HF.out.mono ?_
            rintro e w3 ⟨rfl, rfl⟩
            go_wp2_with fail
            have hblt4 : b < w3.heap.size := hM4.map.lt
            have htlt4 := hB4.lt
            go_region_held3 (fun w' => w'.cell? ⟨t, 0, none⟩ = some (.map (some b)))
              (first
                | go_keep
                | (rw [hgrowB.cell_far _ (by exact Nat.lt_of_lt_of_le htlt4 hbA'.size) (by simp; omega)]; assumption)
                | (rw [hbA.cell (by simp; omega)]; assumption))
              (first
                | (go_at_call 27; refine (HCl.out _ (by exact hrdd.keep (fun _ _ => rfl))).mono ?_; rintro e wA ⟨vA, rfl, hownA, hbA⟩; have hbA' : Below w3.heap.size w3 wA := ((Below.refl _ _).drew).trans hbA; have hMA := hM4.below hbA'; obtain ⟨es2, clock2, hrunB, hmB, hasB, hnB, hsmB⟩ := hMA.map.store strKey Tryd.underlying58 (by unfold maxLen; omega) (val := vA) hkl; have hgrowB := grown_setBlock (o := .map es2 clock2) hMA.map)
                | fail)
            obtain ⟨rfl, hbornB, hfiltB⟩ := hsmB ⟨_, hhas⟩
            have hRB := ((h3.below hbA' h3.lt).turn (key := txt s) (hgrowB.block H (Nat.lt_of_lt_of_le h3.lt hbA'.size) (fun e => by injection e with e; exact hbr e.symm)) hbornB hfiltB h7)
            have hBB := (hB4.below hbA' hB4.lt).grown hgrowB (by intro e; injection e with e; exact hmb e)
            have hsB : es2.size ≤ m := Nat.le_trans (size_born hmB.stamped.2.1 hbornB) hn'
            have hTB := hM4.store (s := s) (row := none) hLne (fun g e => by cases e) (Below.grownBy hbA') (own_of_base hownA (Nat.zero_le _)) (fun g e => .inr (World.ownsRow.lt hownA g e).1) (fun g e => .inr (by have := (World.ownsRow.lt hownA g e).1; simp at this; have := hf4.size; omega)) hmB hgrowB hasB
            have hfB := (hf4.bel hbA').grown hgrowB (fun q hq hlt => by injection hq with hq; subst hq; exact hM4.hb.elim id (fun h => by omega))
            have hszB : H + 1 ≤ (setBlock wA b (.map es2 clock2)).heap.size := by have := hgrowB.size; have := hbA'.size; omega
            clear hownA hbA hMA hasB hgrowB hbornB hfiltB hM4 hnB
            go_wp2
            go_roundw
            case rel => exact ⟨es2, clock2, left', _, _, by go_num, HCol.out, hTB, hsB, hRB, hfB, hBB, hszB⟩
            case measure => rw [hRB.left_eq hmB, HLN.out, h2.length_eq]; simp
        · rw [Bool.not_eq_true] at hgone
          rw [hgone] at c2
          have HCL := Lib.hid (colL_here HK.out hkl' hgone)
          have hI1 : (k : Int) ≤ (c : Int) := by omega
          have hI2 : (0 : Int) ≤ (k : Int) := by omega
          have hI3 : ¬ c = k := by omega
          have hI6 : (k : Int) ≤ ((F s).length : Int) := by omega
          have hI4 : (k : Int) < ((F s).length : Int) := by omega
          have hI5 : ((k : Int) == ((F s).length : Int)) = false := by rw [beq_eq_false_iff_ne]; omega
          have hLne : (F s).drop k ≠ [] := by intro e; have := congrArg List.length e; simp at this; omega
          have hrdd := hrd.verDrop k
          have HCol := Lib.hid (hcol.turn (s := s) h2 rfl h7 HCL.out (by omega))
          have hj2 : (j : Int) + (k : Int) ≤ 1000000000000 := by have := HCol.out.le; omega
          have HCl := Lib.hid (fun (W : World) (hW : Rd W W.heap.size (some ⟨g, off + k * 3, none⟩) (cellsV ((F s).drop k))) => cloneV_any ⟨g, off + k * 3, none⟩ ((F s).drop k) ((F s).length - k) (c - k) (by simp) (by simp; omega) W hW)
          clear hcol hM3 hrow' HCL
          go_wp2_with fail
          refine HF.out.mono ?_
          rintro e w3 ⟨rfl, rfl⟩
          go_wp2_with fail
          have hblt4 : b < w3.heap.size := hM4.map.lt
          have htlt4 := hB4.lt
          go_region_held3 (fun w' => w'.cell? ⟨t, 0, none⟩ = some (.map (some b)))
            (first
              | go_keep
              | (rw [hgrowB.cell_far _ (by exact Nat.lt_of_lt_of_le htlt4 hbA'.size) (by simp; omega)]; assumption)
              | (rw [hbA.cell (by simp; omega)]; assumption))
            (first
              | (go_at_call 27; refine (HCl.out _ (by exact hrdd.keep (fun _ _ => rfl))).mono ?_; rintro e wA ⟨vA, rfl, hownA, hbA⟩; have hbA' : Below w3.heap.size w3 wA := ((Below.refl _ _).drew).trans hbA; have hMA := hM4.below hbA'; obtain ⟨es2, clock2, hrunB, hmB, hasB, hnB, hsmB⟩ := hMA.map.store strKey Tryd.underlying58 (by unfold maxLen; omega) (val := vA) hkl; have hgrowB := grown_setBlock (o := .map es2 clock2) hMA.map)
              | fail)
          obtain ⟨rfl, hbornB, hfiltB⟩ := hsmB ⟨_, hhas⟩
          have hRB := ((h3.below hbA' h3.lt).turn (key := txt s) (hgrowB.block H (Nat.lt_of_lt_of_le h3.lt hbA'.size) (fun e => by injection e with e; exact hbr e.symm)) hbornB hfiltB h7)
          have hBB := (hB4.below hbA' hB4.lt).grown hgrowB (by intro e; injection e with e; exact hmb e)
          have hsB : es2.size ≤ m := Nat.le_trans (size_born hmB.stamped.2.1 hbornB) hn'
          have hTB := hM4.store (s := s) (row := none) hLne (fun g e => by cases e) (Below.grownBy hbA') (own_of_base hownA (Nat.zero_le _)) (fun g e => .inr (World.ownsRow.lt hownA g e).1) (fun g e => .inr (by have := (World.ownsRow.lt hownA g e).1; simp at this; have := hf4.size; omega)) hmB hgrowB hasB
          have hfB := (hf4.bel hbA').grown hgrowB (fun q hq hlt => by injection hq with hq; subst hq; exact hM4.hb.elim id (fun h => by omega))
          have hszB : H + 1 ≤ (setBlock wA b (.map es2 clock2)).heap.size := by have := hgrowB.size; have := hbA'.size; omega
          clear hownA hbA hMA hasB hgrowB hbornB hfiltB hM4 hnB
          go_wp2
          go_roundw
          case rel => exact ⟨es2, clock2, left', _, _, by go_num, HCol.out, hTB, hsB, hRB, hfB, hBB, hszB⟩
          case measure => rw [hRB.left_eq hmB, HLN.out, h2.length_eq]; simp
end Go.Proofs.YtdmnejanckdajaaDoor
