/- Contract of code.read, the walk: whatever the bytes. Condition: there are no more than a slice may have. -/
import Derived.Test.YtdcjogofjniogaaDoorCode5
namespace Go.Proofs.YtdcjogofjniogaaDoor
set_option linter.unusedVariables false
set_option linter.unusedSimpArgs false
open Go.RowKit

set_option maxRecDepth 100000 in
set_option maxHeartbeats 8000000 in
theorem read_any (A : Option Addr) (l : List UInt8) (c : Nat) (hm : l.length ≤ maxLen) (hcap : l.length ≤ c) (w : World) (hl : Rd w w.heap.size A (bytesV l)) :
    Calls Tryd.prog 64 #[.slice A l.length c] w (ReadRes l w) := by
  have hmf : ∀ (fn : Fn) (first cap : Array Value) (w : World), (Instr.makeFunc fn first cap).run Tryd.prog w = .ok (.func fn first cap) w := fun _ _ _ _ => rfl
  have hix := index_str
  go_enter_defers Tryd.func64, Tryd.ntmps64
  go_wp2_with fail
  refine calls_name ?_
  intro w1 hW1
  have S1 : RS w w1 A c l (.slice none 0 0) [] := by
    rw [hW1.out]
    refine ⟨((Below.refl _ _).alloc (Nat.le_refl _) _).alloc (by simp) _, (Blk.new _ _ _).alloc _, hcap, hm, ?_, (hl.alloc (Nat.le_refl _) _).alloc (by simp) _, World.ownsRow_nil _ _ _ _, by simp⟩
    simpa using Blk.new (w.alloc (.cells #[.slice A l.length c] 32)) 26 #[.nilIface]
  clear hW1
  rcases l with _ | ⟨h, t⟩
  · refine S1.noByte.mono ?_
    rintro e w2 ⟨rfl, rfl⟩
    exact S1.dies rfl _ rfl rfl
  · refine S1.byte.mono ?_
    rintro e w2 ⟨rfl, A2, c2, S2, hW2⟩
    clear hW2 S1 hl
    have hh : (h.toNat : Int) ≤ 255 := by have := h.toNat_lt; omega
    go_wp2
    go_loopw [2, 4, 5, 9] (fun v _ _ i wr => ∃ (k : Nat) (outs : List Chg) (A3 : Option Addr) (c3 : Nat) (r : List UInt8), k ≤ h.toNat ∧ i = .int .u8 k ∧ RS w wr A3 c3 r v outs ∧ outs.length = k ∧ decN h.toNat t = (decN (h.toNat - k) r).map fun p => (outs ++ p.1, p.2)) (fun _ _ _ i _ => h.toNat - (intOf i).toNat)
    case atStart => exact ⟨0, [], A2, c2, t, Nat.zero_le _, rfl, S2, rfl, by simp⟩
    case round =>
      obtain ⟨k, outs, A3, c3, r, hk, rfl, S3, hlen, hd⟩ := hrel
      by_cases hlt : k < h.toNat
      · have hltI : (k : Int) < (h.toNat : Int) := by omega
        rcases r with _ | ⟨x, s⟩
        · have hbad := decL_bad (dec_bad hlt hd rfl)
          clear hd
          go_wp2_with fail
          refine S3.noByte.mono ?_
          rintro e w4 ⟨rfl, rfl⟩
          exact S3.dies hbad _ rfl rfl
        · go_wp2_with fail
          refine S3.byte.mono ?_
          rintro e w4 ⟨rfl, A4, c4, S4, hW4⟩
          clear hW4 S3
          have hx : (x.toNat : Int) ≤ 255 := by have := x.toNat_lt; omega
          by_cases hg : 128 ≤ x.toNat
          · have hgI : decide ((128 : Int) ≤ (x.toNat : Int)) = true := by simp; omega
            have hx8 : ((x.toNat % 128 : Nat) : Int) = (x.toNat : Int) % 128 := by omega
            go_wp2_with fail
            refine calls_name ?_
            intro w5 hW5
            have S5 : RS w w5 A4 c4 s u2 outs := by rw [hW5.out]; exact S4.alloc _
            have B5 : Blk w5 w4.heap.size 110 #[.string ⟨#[]⟩, .string ⟨#[]⟩, .bool true] := by rw [hW5.out]; exact Blk.new _ _ _
            have hgc := S4.hs
            have hne : some w4.heap.size ≠ u2.ownBlock := fun e => by have := (S4.ho.lt _ e.symm).2; omega
            clear hW5
            by_cases hn : s.length < x.toNat % 128
            · have hbad := decL_bad (dec_bad hlt hd (by simp [dec1, hn]))
              clear hd
              have hcall := S5.less hn
              rw [hx8] at hcall
              refine hcall.mono ?_
              rintro e w6 ⟨rfl, rfl⟩
              exact S5.dies hbad _ rfl rfl
            · have hcall := S5.many (n := x.toNat % 128) (by omega)
              rw [hx8] at hcall
              refine hcall.mono ?_
              rintro e w6 ⟨rfl, A6, c6, S6, hW6⟩
              have B6 : Blk w6 w4.heap.size 110 #[.string ⟨#[]⟩, .string ⟨#[]⟩, .bool true] := by rw [hW6]; exact B5.far (by simp; omega) _
              clear hW6 hcall S5 B5 hx8
              have S7 := S6.far (i := 0) hgc hne (strV (s.take (x.toNat % 128)))
              have B7 : Blk (w6.setCell ⟨w4.heap.size, 0, none⟩ (strV (s.take (x.toNat % 128)))) w4.heap.size 110 #[strV (s.take (x.toNat % 128)), .string ⟨#[]⟩, .bool true] := B6.setCell 0 (strV (s.take (x.toNat % 128)))
              have y0 : w6.cell? ⟨w4.heap.size, 0, none⟩ = some (.string ⟨#[]⟩) := B6.cell 0
              have y1 : w6.cell? ⟨w4.heap.size, 1, none⟩ = some (.string ⟨#[]⟩) := B6.cell 1
              have y2 : w6.cell? ⟨w4.heap.size, 2, none⟩ = some (.bool true) := B6.cell 2
              have z0 := B6.frozen 0
              go_wp2_with (at_builtin; go_loud (refine wpList_append_chg (p := ⟨s.take (x.toNat % 128), [], true⟩) rfl _ _ 36 rfl Tryd.underlying36 infoChg (w.heap.size + 2) u2 outs rfl S7.ho w6.heap.size (by simp) rfl (by omega) (by have := S7.hs; simp at this ⊢; omega) ?_); intro v9 w9 hown9 hgrow9 hb9)
              have S9 := S7.grown hgrow9 hown9
              clear hown9 hgrow9 hb9
              go_wp2_with fail
              go_roundw
              case rel => exact ⟨k + 1, outs ++ [⟨s.take (x.toNat % 128), [], true⟩], _, _, _, by omega, by go_num, S9, by simp [hlen], dec_next hlt hd (by simp [dec1, hn, hg])⟩
              case measure => simp [intOf]; omega
          · have hgI : decide ((128 : Int) ≤ (x.toNat : Int)) = false := by simp; omega
            have hx8 : ((x.toNat % 128 : Nat) : Int) = (x.toNat : Int) % 128 := by omega
            go_wp2_with fail
            refine calls_name ?_
            intro w5 hW5
            have S5 : RS w w5 A4 c4 s u2 outs := by rw [hW5.out]; exact S4.alloc _
            have B5 : Blk w5 w4.heap.size 110 #[.string ⟨#[]⟩, .string ⟨#[]⟩, .bool false] := by rw [hW5.out]; exact Blk.new _ _ _
            have hgc := S4.hs
            have hne : some w4.heap.size ≠ u2.ownBlock := fun e => by have := (S4.ho.lt _ e.symm).2; omega
            clear hW5
            by_cases hn : s.length < x.toNat % 128
            · have hbad := decL_bad (dec_bad hlt hd (by simp [dec1, hn]))
              clear hd
              have hcall := S5.less hn
              rw [hx8] at hcall
              refine hcall.mono ?_
              rintro e w6 ⟨rfl, rfl⟩
              exact S5.dies hbad _ rfl rfl
            · have hcall := S5.many (n := x.toNat % 128) (by omega)
              rw [hx8] at hcall
              refine hcall.mono ?_
              rintro e w6 ⟨rfl, A6, c6, S6, hW6⟩
              have B6 : Blk w6 w4.heap.size 110 #[.string ⟨#[]⟩, .string ⟨#[]⟩, .bool false] := by rw [hW6]; exact B5.far (by simp; omega) _
              clear hW6 hcall S5 B5 hx8
              have S7 := S6.far (i := 0) hgc hne (strV (s.take (x.toNat % 128)))
              have B7 : Blk (w6.setCell ⟨w4.heap.size, 0, none⟩ (strV (s.take (x.toNat % 128)))) w4.heap.size 110 #[strV (s.take (x.toNat % 128)), .string ⟨#[]⟩, .bool false] := B6.setCell 0 (strV (s.take (x.toNat % 128)))
              have y0 : w6.cell? ⟨w4.heap.size, 0, none⟩ = some (.string ⟨#[]⟩) := B6.cell 0
              have y1 : w6.cell? ⟨w4.heap.size, 1, none⟩ = some (.string ⟨#[]⟩) := B6.cell 1
              have y2 : w6.cell? ⟨w4.heap.size, 2, none⟩ = some (.bool false) := B6.cell 2
              have z0 := B6.frozen 0
              go_wp2_with fail
              refine calls_name ?_
              intro w7 hW7
              have S7 : RS w w7 A6 c6 (s.drop (x.toNat % 128)) u2 outs := by rw [hW7.out]; exact S7
              have B7 : Blk w7 w4.heap.size 110 #[strV (s.take (x.toNat % 128)), .string ⟨#[]⟩, .bool false] := by rw [hW7.out]; exact B7
              clear hW7 y0 y1 y2 z0 S6 B6
              rcases hdr : s.drop (x.toNat % 128) with _ | ⟨y, q⟩
              · rw [hdr] at S7
                have hbad := decL_bad (dec_bad hlt hd (by simp [dec1, hn, hg, hdr]))
                clear hd
                refine S7.noByte.mono ?_
                rintro e w8 ⟨rfl, rfl⟩
                exact S7.dies hbad _ rfl rfl
              · rw [hdr] at S7
                refine S7.byte.mono ?_
                rintro e w8 ⟨rfl, A8, c8, S8, hW8⟩
                have B8 : Blk w8 w4.heap.size 110 #[strV (s.take (x.toNat % 128)), .string ⟨#[]⟩, .bool false] := by rw [hW8]; exact B7.far (by simp; omega) _
                clear hW8 S7 B7
                have hy : (y.toNat : Int) ≤ 255 := by have := y.toNat_lt; omega
                go_wp2_with fail
                by_cases hq : q.length < y.toNat
                · have hbad := decL_bad (dec_bad hlt hd (by simp [dec1, hn, hg, hdr, hq]))
                  clear hd
                  refine (S8.less hq).mono ?_
                  rintro e wA ⟨rfl, rfl⟩
                  exact S8.dies hbad _ rfl rfl
                · refine (S8.many (n := y.toNat) (by omega)).mono ?_
                  rintro e wA ⟨rfl, AA, cA, SA, hWA⟩
                  have BA : Blk wA w4.heap.size 110 #[strV (s.take (x.toNat % 128)), .string ⟨#[]⟩, .bool false] := by rw [hWA]; exact B8.far (by simp; omega) _
                  clear hWA S8 B8
                  have SB := SA.far (i := 1) hgc hne (strV (q.take y.toNat))
                  have y0 : wA.cell? ⟨w4.heap.size, 0, none⟩ = some (strV (s.take (x.toNat % 128))) := BA.cell 0
                  have y1 : wA.cell? ⟨w4.heap.size, 1, none⟩ = some (.string ⟨#[]⟩) := BA.cell 1
                  have y2 : wA.cell? ⟨w4.heap.size, 2, none⟩ = some (.bool false) := BA.cell 2
                  have z1 := BA.frozen 1
                  go_wp2_with (at_builtin; go_loud (refine wpList_append_chg (p := ⟨s.take (x.toNat % 128), q.take y.toNat, false⟩) rfl _ _ 36 rfl Tryd.underlying36 infoChg (w.heap.size + 2) u2 outs rfl SB.ho wA.heap.size (by simp) rfl (by omega) (by have := SB.hs; simp at this ⊢; omega) ?_); intro v9 w9 hown9 hgrow9 hb9)
                  have S9 := SB.grown hgrow9 hown9
                  clear hown9 hgrow9 hb9
                  go_wp2_with fail
                  go_roundw
                  case rel => exact ⟨k + 1, outs ++ [⟨s.take (x.toNat % 128), q.take y.toNat, false⟩], _, _, _, by omega, by go_num, S9, by simp [hlen], dec_next hlt hd (by simp [dec1, hn, hg, hdr, hq])⟩
                  case measure => simp [intOf]; omega
      · obtain rfl : k = h.toNat := by omega
        rw [Nat.sub_self] at hd
        have he := decL_eq (decL_end hd)
        have HLEN := Lib.hid hlen
        clear hlen
        have hsm := decN_small _ _ _ _ (decL_end hd) (by simp at hm; omega)
        clear hd
        have hs3 := S3.hs
        obtain ⟨p0, pf⟩ := S3.hP.one
        obtain ⟨e0, ef⟩ := S3.hE.one
        rcases r with _ | ⟨x, s⟩
        · obtain ⟨Ao, co, rfl, hro⟩ := own_form S3.ho
          by_cases hf : chgFault outs = 0
          · have HE := Lib.hid (show errV (chgFault outs) = .nilIface by unfold errV; rw [if_pos hf])
            rw [if_pos ⟨rfl, hf⟩] at he
            go_wp2_with fail
            refine (check_any Ao outs co (by have := h.toNat_lt; have := HLEN.out; unfold maxLen; omega) hsm _ hro).mono ?_
            rintro e w4 ⟨rfl, hb4⟩
            rw [HE.out]
            have S4 := S3.below hb4
            have hs4 := S4.hs
            clear S3 hb4 p0 pf e0 ef hro
            obtain ⟨e0, ef⟩ := S4.hE.one
            go_wp2_with fail
            refine door_ret _ _ .nilIface (w.heap.size + 1) _ _ _ rfl rfl (S4.hE.setCell 0 _) (readRes_ok he ((S4.hb.setCell (by simp) _).alloc (by simp; omega) _) (own_of_base ((own_setCell S4.ho (by omega)).alloc _) (by omega)))
          · have HE := Lib.hid (show errV (chgFault outs) = .iface 31 (.int .i64 (chgFault outs)) by unfold errV; rw [if_neg hf])
            rw [if_neg (fun h => hf h.2)] at he
            go_wp2_with fail
            refine (check_any Ao outs co (by have := h.toNat_lt; have := HLEN.out; unfold maxLen; omega) hsm _ hro).mono ?_
            rintro e w4 ⟨rfl, hb4⟩
            rw [HE.out]
            have S4 := S3.below hb4
            have hs4 := S4.hs
            clear S3 hb4 p0 pf e0 ef hro
            obtain ⟨e0, ef⟩ := S4.hE.one
            go_wp2_with fail
            refine door_ret _ _ syntaxV (w.heap.size + 1) _ _ _ rfl rfl (S4.hE.setCell 0 _) (readRes_bad he ((S4.hb.setCell (by simp) _).alloc (by simp; omega) _))
        · rw [if_neg (by simp)] at he
          have hlenI : (0 : Int) < (s.length : Int) + 1 := by omega
          go_wp2_with fail
          refine door_ret _ _ syntaxV (w.heap.size + 1) _ _ _ rfl rfl (S3.hE.setCell 0 _) (readRes_bad he ((S3.hb.setCell (by simp) _).alloc (by simp; omega) _))
end Go.Proofs.YtdcjogofjniogaaDoor
