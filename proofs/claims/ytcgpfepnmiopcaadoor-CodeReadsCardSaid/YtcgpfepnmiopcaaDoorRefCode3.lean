/- The reference ChangesOf: whatever the bytes. Condition: there are no more than a slice may have. -/
import Derived.Test.YtcgpfepnmiopcaaDoorRefCode2
namespace Go.Proofs.YtcgpfepnmiopcaaDoor
set_option linter.unusedVariables false
set_option linter.unusedSimpArgs false
open Go.RowKit

/-- What ChangesOf leaves. -/
def OfRes (l : List UInt8) (w : World) (e : Ending) (w' : World) : Prop :=
  Below w.heap.size w w' ∧ match decL l with
    | some m => ∃ v, e = .returned (.tuple #[v, .int .i64 0]) ∧ w'.ownsRow w.heap.size 40 3 v m.length (cellsC m)
    | none => e = .returned (.tuple #[.slice none 0 0, .int .i64 5])
theorem ofRes_bad {l : List UInt8} {w w' : World} (h : decL l = none) (hb : Below w.heap.size w w') : OfRes l w (.returned (.tuple #[.slice none 0 0, .int .i64 5])) w' := by
  refine ⟨hb, ?_⟩
  rw [h]
theorem ofRes_ok {l : List UInt8} {m : List Chg} {w w' : World} {v : Value} (h : decL l = some m) (hb : Below w.heap.size w w') (ho : w'.ownsRow w.heap.size 40 3 v m.length (cellsC m)) : OfRes l w (.returned (.tuple #[v, .int .i64 0])) w' := by
  refine ⟨hb, ?_⟩
  rw [h]
  exact ⟨v, rfl, ho⟩
/-- A row of the call's own stands where another block's cell is written. -/
theorem own_far {w : World} {base size n g i : Nat} {e : TypeId} {v u : Value} {xs : List Value} (h : w.ownsRow base e size v n xs) (hv : some g ≠ v.ownBlock) : (w.setCell ⟨g, i, none⟩ u).ownsRow base e size v n xs := by
  refine h.kept (row := some g) ⟨rfl, rfl, rfl, by simp, fun k hk hne => ?_⟩ (.inr fun h => hv h.symm)
  simp [World.setCell, Array.getElem?_modify]
  intro h; exact absurd (by rw [h]) hne
/-- The state of ChangesOf: the changes so far. -/
structure OS (w wr : World) (v : Value) (outs : List Chg) : Prop where
  hb : Below w.heap.size w wr
  ho : wr.ownsRow w.heap.size 40 3 v outs.length (cellsC outs)
theorem OS.hs {w wr : World} {v : Value} {outs : List Chg} (h : OS w wr v outs) : w.heap.size ≤ wr.heap.size := h.hb.size
theorem OS.alloc {w wr : World} {v : Value} {outs : List Chg} (h : OS w wr v outs) (o : Obj) : OS w (wr.alloc o) v outs := ⟨h.hb.alloc h.hs o, h.ho.alloc o⟩
theorem OS.far {w wr : World} {v : Value} {outs : List Chg} (h : OS w wr v outs) {g i : Nat} (hg : w.heap.size ≤ g) (hv : some g ≠ v.ownBlock) (u : Value) : OS w (wr.setCell ⟨g, i, none⟩ u) v outs := ⟨h.hb.setCell hg u, own_far h.ho hv⟩
theorem OS.grown {w wr w8 : World} {v v8 : Value} {outs outs' : List Chg} (h : OS w wr v outs) (hg : wr.grownBy w8 v.ownBlock) (ho : w8.ownsRow w.heap.size 40 3 v8 outs'.length (cellsC outs')) : OS w w8 v8 outs' :=
  ⟨h.hb.grown hg h.hs (fun k hk => (h.ho.lt k hk).1), ho⟩
/-- A piece in the midst. -/
theorem Rd.mid {w : World} {B : Nat} {b off : Nat} {l : List UInt8} (h : Rd w B (some ⟨b, off, none⟩) (bytesV l)) (lo n : Nat) : Rd w B (some ⟨b, off + lo, none⟩) (bytesV ((l.drop lo).take n)) := (h.bytesDrop lo).bytesTake n

set_option maxRecDepth 100000 in
set_option maxHeartbeats 8000000 in
theorem changesOf_any (A : Option Addr) (l : List UInt8) (c : Nat) (hm : l.length ≤ 9223372036854775807) (hcap : l.length ≤ c) (w : World) (hl : Rd w w.heap.size A (bytesV l)) :
    Calls Tryd.prog 12 #[.slice A l.length c] w (OfRes l w) := by
  rcases l with _ | ⟨h, t⟩
  · go_enter Tryd.func12, Tryd.ntmps12
    go_wp2
    go_ret2
    exact ofRes_bad rfl (Below.refl _ _)
  · obtain ⟨l, hl0⟩ : ∃ l, l = h :: t := ⟨_, rfl⟩
    have hlen0 : 0 < l.length := by rw [hl0]; simp
    have HL := Lib.hid hl0
    rw [← hl0] at hm hcap hl ⊢
    obtain ⟨b, off, rfl, hbb, g0⟩ := hl.byte hlen0
    have hh0 : l[0] = h := by simp [hl0]
    rw [hh0] at g0
    simp only [Nat.add_zero] at g0
    have hh : (h.toNat : Int) ≤ 255 := by have := h.toNat_lt; omega
    have hdr1 : l.drop 1 = t := by rw [hl0]; rfl
    have HD1 := Lib.hid hdr1
    clear hh0 hl0 hdr1
    have hl1 : ¬ ((l.length : Int) < 1) := by omega
    go_enter Tryd.func12, Tryd.ntmps12
    go_wp2
    go_loopw [4, 5, 6, 7, 8, 9] (fun v a i _ _ _ wr => ∃ (k at' : Nat) (outs : List Chg), k ≤ h.toNat ∧ i = .int .i64 k ∧ a = .int .i64 at' ∧ 1 ≤ at' ∧ at' ≤ 1 + 400 * k ∧ at' ≤ l.length ∧ Below w.heap.size w wr ∧ wr.ownsRow w.heap.size 40 3 v outs.length (cellsC outs) ∧ outs.length = k ∧ decN h.toNat t = (decN (h.toNat - k) (l.drop at')).map fun p => (outs ++ p.1, p.2)) (fun _ _ i _ _ _ _ => h.toNat - (intOf i).toNat)
    case atStart => exact ⟨0, 1, [], Nat.zero_le _, rfl, rfl, Nat.le_refl _, by omega, by omega, Below.refl _ _, World.ownsRow_nil _ _ _ _, rfl, by rw [HD1.out]; simp⟩
    case round =>
      obtain ⟨k, at', outs, hk, rfl, rfl, ha1, ha4, hal, hb, hown, hlen, hd⟩ := hrel
      have hs := hb.size
      have haB : (at' : Int) ≤ 102001 := by omega
      have hlr := hl.below hb
      have gr := (hb.cell (p := ⟨b, off, none⟩) hbb).trans g0
      by_cases hlt : k < h.toNat
      · have hltI : (k : Int) < (h.toNat : Int) := by omega
        rcases Nat.lt_or_ge at' l.length with hat | hat
        · obtain ⟨b', off', hA, _, gx⟩ := hlr.byte hat
          obtain ⟨rfl, rfl⟩ : b = b' ∧ off = off' := by simpa using hA
          obtain ⟨x, hx⟩ : ∃ x, x = l[at'] := ⟨_, rfl⟩
          rw [← hx] at gx
          have hdrop : l.drop at' = x :: l.drop (at' + 1) := by rw [List.drop_eq_getElem_cons hat, ← hx]
          rw [hdrop] at hd
          have HX := Lib.hid hx
          clear hx hA hdrop
          have hatI : ¬ ((l.length : Int) ≤ (at' : Int)) := by omega
          have hat0 : (0 : Int) ≤ (at' : Int) := by omega
          have hat1 : (at' : Int) < (l.length : Int) := by omega
          have hxI : (x.toNat : Int) ≤ 255 := by have := x.toNat_lt; omega
          obtain ⟨n, hn⟩ : ∃ n, n = x.toNat % 128 := ⟨_, rfl⟩
          have hn8 : (x.toNat : Int) % 128 = (n : Int) := by omega
          have hn0 : (0 : Int) ≤ (n : Int) := by omega
          have hslen : (l.drop (at' + 1)).length = l.length - (at' + 1) := by simp
          have hnl : n ≤ 127 := by omega
          have HN := Lib.hid hn
          clear hn
          rcases Nat.lt_or_ge l.length (at' + 1 + n) with hend | hend
          · have hbad := decL_bad (dec_bad hlt hd (by simp only [dec1]; rw [if_pos (by rw [hslen, ← HN.out]; omega)]))
            rw [← HL.out] at hbad
            clear hd
            have hendI : (l.length : Int) < (at' : Int) + 1 + (n : Int) := by omega
            by_cases hg : 128 ≤ x.toNat
            · have hgI : decide ((127 : Int) < (x.toNat : Int)) = true := decide_eq_true (by omega)
              go_wp2
              go_ret2
              exact ofRes_bad hbad (hb.alloc hs _)
            · have hgI : decide ((127 : Int) < (x.toNat : Int)) = false := decide_eq_false (by omega)
              go_wp2
              go_ret2
              exact ofRes_bad hbad (hb.alloc hs _)
          · have hendI : ¬ ((l.length : Int) < (at' : Int) + 1 + (n : Int)) := by omega
            have hendC : (at' : Int) + 1 + (n : Int) ≤ (c : Int) := by omega
            have hle2 : (at' : Int) + 1 ≤ (at' : Int) + 1 + (n : Int) := by omega
            have SO : OS w wr u4 outs := ⟨hb, hown⟩
            have hne : some wr.heap.size ≠ u4.ownBlock := fun e => by have := (hown.lt _ e.symm).2; omega
            have hbn : ¬ b = wr.heap.size := by omega
            have hbl : b < wr.heap.size := by omega
            clear hown hb
            rcases Nat.eq_or_lt_of_le (show at' + 1 ≤ c by omega) with hce | hce
            · subst hce
              obtain rfl : n = 0 := by omega
              have hlat : l.length = at' + 1 := by omega
              have HLN := Lib.hid hlat
              have hn88 : (x.toNat : Int) % 128 = 0 := by omega
              have hnil : l.drop (at' + 1) = [] := List.drop_eq_nil_of_le (by omega)
              rw [hnil] at hd
              have hE1 : ¬ ((l.length : Int) < (at' : Int) + 1) := by omega
              have hE2 : (l.length : Int) ≤ (at' : Int) + 1 := by omega
              have hE3 : decide ((l.length : Int) ≤ (at' : Int) + 1) = true := decide_eq_true hE2
              clear hn8 hn0 hnl hendI hendC hle2 hlat hnil
              by_cases hg : 128 ≤ x.toNat
              · have hgI : decide ((127 : Int) < (x.toNat : Int)) = true := decide_eq_true (by omega)
                have hdec : dec1 [x] = some (⟨[], [], true⟩, []) := by simp [dec1, ← HN.out, hg]
                have hnil2 : l.drop (at' + 1) = [] := List.drop_eq_nil_of_le (by have := HLN.out; omega)
                have HD2 := Lib.hid (show decN h.toNat t = (decN (h.toNat - (k + 1)) (l.drop (at' + 1))).map fun p => ((outs ++ [⟨[], [], true⟩]) ++ p.1, p.2) by rw [hnil2]; exact dec_next hlt hd hdec)
                clear hd hnil2 hdec
                have hcv := run_str (P := Tryd.prog) (w := wr.alloc (.cells #[.string ⟨#[]⟩, .string ⟨#[]⟩, .bool true] 40)) (B := 0) 23 9 5 Tryd.underlying23 Tryd.underlying5 Tryd.underlying9 (A := some ⟨b, off, none⟩) (l := []) 0 Rd.nil (m := 0) rfl
                go_wp2_with (at_builtin; refine wpList_append_chg (p := ⟨[], [], true⟩) rfl _ _ 22 rfl Tryd.underlying22 infoChg w.heap.size u4 outs rfl (SO.alloc _).ho (wr.heap.size + 1) (by simp) rfl (by omega) (by simp; omega) ?_; intro v9 w9 hown9 hgrow9 hb9)
                have S9 := (SO.alloc _).grown hgrow9 hown9
                clear hown9 hgrow9 hb9
                go_roundw
                case rel => exact ⟨k + 1, at' + 1, outs ++ [⟨[], [], true⟩], by omega, by go_num, by go_num, by omega, by omega, by have := HLN.out; omega, S9.hb, S9.ho, by simp [hlen], HD2.out⟩
                case measure => simp [intOf]; omega
              · have hgI : decide ((127 : Int) < (x.toNat : Int)) = false := decide_eq_false (by omega)
                have hbad := decL_bad (dec_bad hlt hd (by simp [dec1, ← HN.out, hg]))
                rw [← HL.out] at hbad
                clear hd
                have hcv := run_str (P := Tryd.prog) (w := wr.alloc (.cells #[.string ⟨#[]⟩, .string ⟨#[]⟩, .bool false] 40)) (B := 0) 23 9 5 Tryd.underlying23 Tryd.underlying5 Tryd.underlying9 (A := some ⟨b, off, none⟩) (l := []) 0 Rd.nil (m := 0) rfl
                go_wp2
                go_ret2
                exact ofRes_bad hbad (SO.alloc _).hb
            · have hcne : ¬ c = at' + 1 := by omega
              have HLN := Lib.hid hend
              by_cases hg : 128 ≤ x.toNat
              · have hgI : decide ((127 : Int) < (x.toNat : Int)) = true := decide_eq_true (by omega)
                have hdec : dec1 (x :: l.drop (at' + 1)) = some (⟨(l.drop (at' + 1)).take n, [], true⟩, l.drop (at' + 1 + n)) := by
                  simp only [dec1]
                  rw [if_neg (by rw [hslen, ← HN.out]; omega), if_pos hg, ← HN.out, List.drop_drop]
                have HD2 := Lib.hid (dec_next hlt hd hdec)
                clear hd hdec
                have hcv := run_str (P := Tryd.prog) (w := wr.alloc (.cells #[.string ⟨#[]⟩, .string ⟨#[]⟩, .bool true] 40)) 23 9 5 Tryd.underlying23 Tryd.underlying5 Tryd.underlying9 (c - (at' + 1)) ((hlr.alloc hs _).mid (at' + 1) n) (m := n) (by rw [List.length_take, hslen]; omega)
                go_wp2_with (at_builtin; refine wpList_append_chg (p := ⟨(l.drop (at' + 1)).take n, [], true⟩) rfl _ _ 22 rfl Tryd.underlying22 infoChg w.heap.size u4 outs rfl (SO.alloc _).ho (wr.heap.size + 1) (by simp) rfl (by omega) (by simp; omega) ?_; intro v9 w9 hown9 hgrow9 hb9)
                have S9 := (SO.alloc _).grown hgrow9 hown9
                clear hown9 hgrow9 hb9
                go_roundw
                case rel => exact ⟨k + 1, at' + 1 + n, outs ++ [⟨(l.drop (at' + 1)).take n, [], true⟩], by omega, by go_num, by go_num, by omega, by omega, by have := HLN.out; omega, S9.hb, S9.ho, by simp [hlen], HD2.out⟩
                case measure => simp [intOf]; omega
              · have hgI : decide ((127 : Int) < (x.toNat : Int)) = false := decide_eq_false (by omega)
                have hcv := run_str (P := Tryd.prog) (w := wr.alloc (.cells #[.string ⟨#[]⟩, .string ⟨#[]⟩, .bool false] 40)) 23 9 5 Tryd.underlying23 Tryd.underlying5 Tryd.underlying9 (c - (at' + 1)) ((hlr.alloc hs _).mid (at' + 1) n) (m := n) (by rw [List.length_take, hslen]; omega)
                rcases Nat.lt_or_ge (at' + 1 + n) l.length with hat2 | hat2
                · obtain ⟨b', off', hA, _, gy⟩ := hlr.byte hat2
                  obtain ⟨rfl, rfl⟩ : b = b' ∧ off = off' := by simpa using hA
                  obtain ⟨y, hy⟩ : ∃ y, y = l[at' + 1 + n] := ⟨_, rfl⟩
                  rw [← hy] at gy
                  have hdrop2 : l.drop (at' + 1 + n) = y :: l.drop (at' + 1 + n + 1) := by rw [List.drop_eq_getElem_cons hat2, ← hy]
                  have hyI : (y.toNat : Int) ≤ 255 := by have := y.toNat_lt; omega
                  have hy0 : (0 : Int) ≤ (y.toNat : Int) := by omega
                  have hs2len : (l.drop (at' + 1 + n + 1)).length = l.length - (at' + 1 + n + 1) := by simp
                  have hatI2 : ¬ ((l.length : Int) ≤ (at' : Int) + 1 + (n : Int)) := by omega
                  have hatI3 : (at' : Int) + 1 + (n : Int) < (l.length : Int) := by omega
                  have hatI4 : (0 : Int) ≤ (at' : Int) + 1 + (n : Int) := by omega
                  have hatI5 : decide ((l.length : Int) ≤ (at' : Int) + 1 + (n : Int)) = false := decide_eq_false hatI2
                  clear hy hA
                  rcases Nat.lt_or_ge l.length (at' + 1 + n + 1 + y.toNat) with hend2 | hend2
                  · have hbad := decL_bad (dec_bad hlt hd (by
                      simp only [dec1]
                      rw [if_neg (by rw [hslen, ← HN.out]; omega), if_neg hg, ← HN.out, List.drop_drop, hdrop2]
                      simp only
                      rw [if_pos (by rw [hs2len]; omega)]))
                    rw [← HL.out] at hbad
                    have hE2 : decide ((l.length : Int) < (at' : Int) + 1 + (n : Int) + 1 + (y.toNat : Int)) = true := decide_eq_true (by omega)
                    clear hd hdrop2
                    go_wp2
                    go_ret2
                    exact ofRes_bad hbad (SO.alloc _).hb
                  · have hdec : dec1 (x :: l.drop (at' + 1)) = some (⟨(l.drop (at' + 1)).take n, (l.drop (at' + 1 + n + 1)).take y.toNat, false⟩, l.drop (at' + 1 + n + 1 + y.toNat)) := by
                      simp only [dec1]
                      rw [if_neg (by rw [hslen, ← HN.out]; omega), if_neg hg, ← HN.out, List.drop_drop, hdrop2]
                      simp only
                      rw [if_neg (by rw [hs2len]; omega), List.drop_drop]
                    have HD2 := Lib.hid (dec_next hlt hd hdec)
                    clear hd hdec hdrop2
                    have hE2 : decide ((l.length : Int) < (at' : Int) + 1 + (n : Int) + 1 + (y.toNat : Int)) = false := decide_eq_false (by omega)
                    have hE3 : (at' : Int) + 1 + (n : Int) + 1 ≤ (at' : Int) + 1 + (n : Int) + 1 + (y.toNat : Int) := by omega
                    have hE4 : (at' : Int) + 1 + (n : Int) + 1 + (y.toNat : Int) ≤ (c : Int) := by omega
                    have hE5 : (0 : Int) ≤ (at' : Int) + 1 + (n : Int) + 1 := by omega
                    have HEND := Lib.hid hend2
                    rcases Nat.eq_or_lt_of_le (show at' + 1 + n + 1 ≤ c by omega) with hc2 | hc2
                    · have hy00 : y.toNat = 0 := by omega
                      subst hc2
                      rw [hy00] at HD2
                      have hcv1 := run_str (P := Tryd.prog) (w := wr.alloc (.cells #[.string ⟨#[]⟩, .string ⟨#[]⟩, .bool false] 40)) 23 9 5 Tryd.underlying23 Tryd.underlying5 Tryd.underlying9 (at' + 1 + n - at') ((hlr.alloc hs _).mid (at' + 1) n) (m := n) (by rw [List.length_take, hslen]; omega)
                      have hcv2 := run_str (P := Tryd.prog) (w := wr.alloc (.cells #[strV ((l.drop (at' + 1)).take n), .string ⟨#[]⟩, .bool false] 40)) (B := 0) 23 9 5 Tryd.underlying23 Tryd.underlying5 Tryd.underlying9 (A := some ⟨b, off, none⟩) (l := []) 0 Rd.nil (m := 0) rfl
                      go_wp2_with (at_builtin; refine wpList_append_chg (p := ⟨(l.drop (at' + 1)).take n, (l.drop (at' + 1 + n + 1)).take 0, false⟩) rfl _ _ 22 rfl Tryd.underlying22 infoChg w.heap.size u4 outs rfl (SO.alloc _).ho (wr.heap.size + 1) (by simp) rfl (by omega) (by simp; omega) ?_; intro v9 w9 hown9 hgrow9 hb9)
                      have S9 := (SO.alloc _).grown hgrow9 hown9
                      clear hown9 hgrow9 hb9
                      go_roundw
                      case rel => exact ⟨k + 1, at' + 1 + n + 1 + 0, outs ++ [⟨(l.drop (at' + 1)).take n, (l.drop (at' + 1 + n + 1)).take 0, false⟩], by omega, by go_num, by go_num, by omega, by omega, by have := HEND.out; omega, S9.hb, S9.ho, by simp [hlen], HD2.out⟩
                      case measure => simp [intOf]; omega
                    · have hcne2 : ¬ c = at' + 1 + n + 1 := by omega
                      have hcv2 := run_str (P := Tryd.prog) (w := wr.alloc (.cells #[strV ((l.drop (at' + 1)).take n), .string ⟨#[]⟩, .bool false] 40)) 23 9 5 Tryd.underlying23 Tryd.underlying5 Tryd.underlying9 (c - (at' + 1 + n + 1)) ((hlr.alloc hs _).mid (at' + 1 + n + 1) y.toNat) (m := y.toNat) (by rw [List.length_take, hs2len]; omega)
                      go_wp2_with (at_builtin; refine wpList_append_chg (p := ⟨(l.drop (at' + 1)).take n, (l.drop (at' + 1 + n + 1)).take y.toNat, false⟩) rfl _ _ 22 rfl Tryd.underlying22 infoChg w.heap.size u4 outs rfl (SO.alloc _).ho (wr.heap.size + 1) (by simp) rfl (by omega) (by simp; omega) ?_; intro v9 w9 hown9 hgrow9 hb9)
                      have S9 := (SO.alloc _).grown hgrow9 hown9
                      clear hown9 hgrow9 hb9
                      go_roundw
                      case rel => exact ⟨k + 1, at' + 1 + n + 1 + y.toNat, outs ++ [⟨(l.drop (at' + 1)).take n, (l.drop (at' + 1 + n + 1)).take y.toNat, false⟩], by omega, by go_num, by go_num, by omega, by omega, by have := HEND.out; omega, S9.hb, S9.ho, by simp [hlen], HD2.out⟩
                      case measure => simp [intOf]; omega
                · have hbad := decL_bad (dec_bad hlt hd (by
                    simp only [dec1]
                    rw [if_neg (by rw [hslen, ← HN.out]; omega), if_neg hg, ← HN.out, List.drop_drop, List.drop_eq_nil_of_le hat2]))
                  rw [← HL.out] at hbad
                  clear hd
                  have hE2 : decide ((l.length : Int) ≤ (at' : Int) + 1 + (n : Int)) = true := decide_eq_true (by omega)
                  go_wp2
                  go_ret2
                  exact ofRes_bad hbad (SO.alloc _).hb
        · obtain rfl : at' = l.length := by omega
          have hbad := decL_bad (dec_bad hlt hd (by rw [List.drop_length]; rfl))
          rw [← HL.out] at hbad
          clear hd
          go_wp2
          go_ret2
          exact ofRes_bad hbad hb
      · obtain rfl : k = h.toNat := by omega
        rw [Nat.sub_self] at hd
        have he := decL_eq (decL_end hd)
        have hsm := decN_small _ _ _ _ (decL_end hd) (by have := congrArg List.length HL.out; simp at this; unfold maxLen; omega)
        rw [← HL.out] at he
        clear hd
        have HLEN := Lib.hid hlen
        clear hlen
        have hoo : outs.length ≤ 255 := by have := HLEN.out; have := h.toNat_lt; omega
        rcases Nat.lt_or_ge at' l.length with hat | hat
        · rw [if_neg (by intro e; have := congrArg List.length e.1; simp at this; omega)] at he
          have hneI : ((at' : Int) != (l.length : Int)) = true := by simp; omega
          go_wp2_with fail
          go_ret2
          exact ofRes_bad he hb
        · obtain rfl : at' = l.length := by omega
          rw [List.drop_length] at he
          obtain ⟨Ao, co, rfl, hro⟩ := own_form hown
          by_cases hf : chgFault outs = 0
          · have HE := Lib.hid hf
            rw [if_pos ⟨rfl, hf⟩] at he
            clear hf
            go_wp2_with fail
            refine (changesFault_any Ao outs co (by unfold maxLen; omega) hsm _ hro).mono ?_
            rintro e w4 ⟨rfl, hb4⟩
            rw [HE.out]
            have ho4 := own_below hown hb4
            have hbw4 := hb.trans (hb4.mono hs)
            clear hown hb4
            go_wp2_with fail
            go_ret2
            exact ofRes_ok he hbw4 ho4
          · have hneF : (chgFault outs != 0) = true := by simpa using hf
            rw [if_neg (fun h => hf h.2)] at he
            go_wp2_with fail
            refine (changesFault_any Ao outs co (by unfold maxLen; omega) hsm _ hro).mono ?_
            rintro e w4 ⟨rfl, hb4⟩
            have hbw4 := hb.trans (hb4.mono hs)
            clear hown hb4
            go_wp2_with fail
            go_ret2
            exact ofRes_bad he hbw4
end Go.Proofs.YtcgpfepnmiopcaaDoor
