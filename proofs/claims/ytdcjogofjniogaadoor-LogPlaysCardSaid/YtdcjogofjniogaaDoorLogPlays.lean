/- The law LogPlays: the walk of its own text, by the contracts of both logs. Any number, any lists, any steps. Condition: errors.errorType is laid. -/
import Derived.Test.YtdcjogofjniogaaDoorPlay
import Derived.Test.YtdcjogofjniogaaDoorSteps
import Derived.Test.YtdcjogofjniogaaDoorLogSafe
import Derived.Test.YtdcjogofjniogaaDoorErrLaw
import Derived.Test.YtdcjogofjniogaaDoorHand
import Derived.Deep.RegionHeld3
import Derived.Deep.RegionLaw
import Derived.Deep.DeepCutAuto
import Derived.Deep.CutBlock
namespace Go.Proofs.YtdcjogofjniogaaDoor
set_option linter.unusedVariables false
set_option linter.unusedSimpArgs false
open Go.RowKit

set_option maxRecDepth 100000 in
set_option maxHeartbeats 40000000 in
theorem logPlays_walk (room : Int) (hroom : (Lit.int .i64 room).wf = true) (A : Option Addr) (ls : List (List Chg)) (c : Nat) (hm : ls.length ≤ maxLen) (hml : ∀ x ∈ ls, x.length ≤ maxLen ∧ Small x) (B : Option Addr) (l : List Stp) (d : Nat) (hmb : l.length ≤ maxLen) (hSl : ∀ s ∈ l, (Lit.int .i64 s.n).wf = true)
    (w : World) (hg : ErrVar w) (hl : RdLL w w.heap.size A ls) (hlb : Rd w w.heap.size B (cellsS l)) :
    Calls Tryd.prog 4 #[.int .i64 room, .slice A ls.length c, .slice B l.length d] w fun e w' => e = .returned (.bool true) ∧ Below w.heap.size w w' := by
  have HML := Lib.hid hml
  have HSL := Lib.hid hSl
  have HG := Lib.hid hg
  have hwl : wrap64 (l.length : Int) = l.length := by unfold maxLen at hmb; unfold wrap64; omega
  have hwls : wrap64 (ls.length : Int) = ls.length := by unfold maxLen at hm; unfold wrap64; omega
  clear hml hSl hg hroom
  go_enter Tryd.func4, Tryd.ntmps4
  go_wp2_with fail
  by_cases hr : room < 0 ∨ 100000 < room
  · refine (new_bad room hr w).mono ?_
    rintro e w6 ⟨rfl, rfl⟩
    rcases hr with hr | hr
    · have dr : decide (room < 0) = true := decide_eq_true hr
      go_wp2_with fail
      refine (error_same 1 (by decide) w6 HG.out).mono ?_
      rintro e w7 ⟨rfl, hb7⟩
      go_wp2
      go_ret
      exact ⟨rfl, hb7⟩
    · have dr : decide (room < 0) = false := decide_eq_false (by omega)
      have dr2 : decide ((100000 : Int) < room) = true := decide_eq_true hr
      go_wp2_with fail
      refine (error_same 1 (by decide) w6 HG.out).mono ?_
      rintro e w7 ⟨rfl, hb7⟩
      go_wp2
      go_ret
      exact ⟨rfl, hb7⟩
  refine (new_ok room (by omega) w w.heap.size (Nat.le_refl _)).mono ?_
  rintro e w1 ⟨rfl, h1, hb1⟩
  have dr1 : decide (room < 0) = false := decide_eq_false (by omega)
  have dr2 : decide ((100000 : Int) < room) = false := decide_eq_false (by omega)
  have hRR := Lib.hid (show 0 ≤ room ∧ room ≤ 100000 by omega)
  go_wp2_with fail
  refine (refNew_ok room hRR.out w1 w.heap.size hb1.size).mono ?_
  rintro e w2 ⟨rfl, h2, hb2⟩
  have hbw := hb1.trans (hb2.mono hb1.size)
  have hP0 : Play w2 w.heap.size w.heap.size w1.heap.size room [] [] 0 := ⟨_, _, _, _, -1, -1, false, 0, h1.below hb2, h2, (fun k hk => by simp [Value.ownBlock] at hk), ⟨(by simp), (by simp), (by simp [frames]), [], (by simp [frames]), trivial, fun _ => rfl⟩, fun _ => rfl⟩
  obtain ⟨g, hgg⟩ : ∃ g, g = w.heap.size := ⟨_, rfl⟩
  obtain ⟨m, hmm⟩ : ∃ m, m = w1.heap.size := ⟨_, rfl⟩
  have hP1 : Play w2 w.heap.size g m room [] [] 0 := by rw [hgg, hmm]; exact hP0
  rw [← hmm]
  rw [show (Value.pointer (some ⟨w.heap.size, 0, none⟩)) = Value.pointer (some ⟨g, 0, none⟩) by rw [hgg]]
  clear h1 h2 hb1 hb2 hP0 hgg hmm hr
  go_wp2_with fail
  go_loopw [10, 11, 12, 13, 14, 15, 16] (fun i _ _ _ _ _ _ wr => ∃ (k : Nat) (ls : List (List Chg)) (B : List UInt8) (safe : Nat), k ≤ l.length ∧ i = .int .i64 k ∧ Play wr w.heap.size g m room ls B safe ∧ Below w.heap.size w wr) (fun i _ _ _ _ _ _ _ => l.length - (intOf i).toNat)
  case atStart => exact ⟨0, [], [], 0, Nat.zero_le _, rfl, hP1, hbw⟩
  case round =>
    obtain ⟨k, lsx, Bx, safex, hk, rfl, hP, hb⟩ := hrel
    have hb0r := hb.size
    by_cases hlt : k < l.length
    · have dlt : decide ((k : Int) < (l.length : Int)) = true := decide_eq_true (by omega)
      by_cases h40 : k < 40
      · have d40 : decide ((k : Int) < 40) = true := decide_eq_true (by omega)
        obtain ⟨b, off, rfl, hbb, c0, c1, c2, c3, c4, c5⟩ := (hlb.below hb).stp hlt
        have hk0 : (0 : Int) ≤ (k : Int) := by omega
        have hk1 : (k : Int) < (l.length : Int) := by omega
        go_upto_block 2 with fail
        go_cut [12, 49] (fun ok _ wx => ok = .bool true ∧ ∃ (ls : List (List Chg)) (B : List UInt8) (safe : Nat), Play wx w.heap.size g m room ls B safe ∧ Below w.heap.size w wx)
        case first =>
          by_cases hw0 : l[k].what = 0
          · have e0 : (l[k].what == 0) = true := by simpa using hw0
            by_cases hn0 : 0 ≤ l[k].n
            · have d1 : decide ((0 : Int) ≤ l[k].n) = true := decide_eq_true hn0
              by_cases hn1 : l[k].n < (ls.length : Int)
              · obtain ⟨m0, hm0⟩ : ∃ m0 : Nat, l[k].n = (m0 : Int) := ⟨l[k].n.toNat, by omega⟩
                have hml2 : m0 < ls.length := by omega
                obtain ⟨bm, om, Cm, cm, hAm, hbm, cmm, hrm⟩ := hl.at hml2
                subst hAm
                have cm2 := (hb.cell (p := ⟨bm, om + m0, none⟩) hbm).trans cmm
                have hbm2 : bm < wr.heap.size := by omega
                have dm0 : (0 : Int) ≤ (m0 : Int) := by omega
                have dm1 : (m0 : Int) < (ls.length : Int) := by omega
                have dm2 : decide ((m0 : Int) < (ls.length : Int)) = true := decide_eq_true dm1
                have HRM := Lib.hid hrm
                rw [hm0] at c5 d1
                clear hn0 hn1 hrm cmm
                go_wp2_with fail
                refine calls_name ?_
                intro w2 hW2
                have hb2 : Below wr.heap.size wr w2 := by rw [hW2.out]; exact (Below.refl _ _).alloc (Nat.le_refl _) _
                have hBs : Blk w2 wr.heap.size 35 #[.int .i64 0, .int .i64 l[k].who, strV l[k].key, strV l[k].to, strV l[k].val, .int .i64 m0] := by rw [hW2.out]; exact Blk.new _ _ _
                obtain ⟨va, vla, vea, vba, la, la2, da, nsa, hPA2⟩ := hP.below hb2
                have hB2 := hb.trans (hb2.mono hb0r)
                have hz2 := hb2.size
                clear hW2 hb2 hP
                refine (hPA2.append Cm ls[m0] cm (HML.out ls[m0] (List.getElem_mem _)).1 (HML.out ls[m0] (List.getElem_mem _)).2 (HRM.out.below hB2)).mono ?_
                rintro e w3 ⟨n3, rfl, hB3, hs3, hQ3⟩
                have hBw3 := hB2.trans hB3
                go_wp2_with fail
                refine (hQ3 _ (Below.refl _ _)).mono ?_
                rintro e w4 ⟨rfl, hB4', ls4, B4, safe4, hP4⟩
                have hB4 := hB2.trans hB4'
                clear hPA2 hQ3 hB3
                go_wp2_with fail
                refine (error_any n3 n3 w4 (HG.out.below hB4)).mono ?_
                rintro e w5 ⟨rfl, hb5⟩
                have hP5 := hP4.below hb5
                have hB5 := hB4.trans (hb5.mono hB4.size)
                have hnn : (n3 == n3) = true := by simp
                rw [hnn]
                clear hP4 hb5 hnn
                go_wp2_with fail
                go_meet
                exact ⟨rfl, _, _, _, hP5, hB5⟩
              · have d2 : decide (l[k].n < (ls.length : Int)) = false := decide_eq_false hn1
                go_wp2_with fail
                refine calls_name ?_
                intro w2 hW2
                have hb2 : Below wr.heap.size wr w2 := by rw [hW2.out]; exact (Below.refl _ _).alloc (Nat.le_refl _) _
                have hBs : Blk w2 wr.heap.size 35 #[.int .i64 0, .int .i64 l[k].who, strV l[k].key, strV l[k].to, strV l[k].val, .int .i64 l[k].n] := by rw [hW2.out]; exact Blk.new _ _ _
                obtain ⟨va, vla, vea, vba, la, la2, da, nsa, hPA2⟩ := hP.below hb2
                have hB2 := hb.trans (hb2.mono hb0r)
                have hz2 := hb2.size
                clear hW2 hb2 hP
                refine (hPA2.append none [] 0 (by simp) (fun x hx => by (cases hx)) Rd.nil).mono ?_
                rintro e w3 ⟨n3, rfl, hB3, hs3, hQ3⟩
                have hBw3 := hB2.trans hB3
                go_wp2_with fail
                refine (hQ3 _ (Below.refl _ _)).mono ?_
                rintro e w4 ⟨rfl, hB4', ls4, B4, safe4, hP4⟩
                have hB4 := hB2.trans hB4'
                clear hPA2 hQ3 hB3
                go_wp2_with fail
                refine (error_any n3 n3 w4 (HG.out.below hB4)).mono ?_
                rintro e w5 ⟨rfl, hb5⟩
                have hP5 := hP4.below hb5
                have hB5 := hB4.trans (hb5.mono hB4.size)
                have hnn : (n3 == n3) = true := by simp
                rw [hnn]
                clear hP4 hb5 hnn
                go_wp2_with fail
                go_meet
                exact ⟨rfl, _, _, _, hP5, hB5⟩
            · have d1 : decide ((0 : Int) ≤ l[k].n) = false := decide_eq_false hn0
              go_wp2_with fail
              refine calls_name ?_
              intro w2 hW2
              have hb2 : Below wr.heap.size wr w2 := by rw [hW2.out]; exact (Below.refl _ _).alloc (Nat.le_refl _) _
              have hBs : Blk w2 wr.heap.size 35 #[.int .i64 0, .int .i64 l[k].who, strV l[k].key, strV l[k].to, strV l[k].val, .int .i64 l[k].n] := by rw [hW2.out]; exact Blk.new _ _ _
              obtain ⟨va, vla, vea, vba, la, la2, da, nsa, hPA2⟩ := hP.below hb2
              have hB2 := hb.trans (hb2.mono hb0r)
              have hz2 := hb2.size
              clear hW2 hb2 hP
              refine (hPA2.append none [] 0 (by simp) (fun x hx => by (cases hx)) Rd.nil).mono ?_
              rintro e w3 ⟨n3, rfl, hB3, hs3, hQ3⟩
              have hBw3 := hB2.trans hB3
              go_wp2_with fail
              refine (hQ3 _ (Below.refl _ _)).mono ?_
              rintro e w4 ⟨rfl, hB4', ls4, B4, safe4, hP4⟩
              have hB4 := hB2.trans hB4'
              clear hPA2 hQ3 hB3
              go_wp2_with fail
              refine (error_any n3 n3 w4 (HG.out.below hB4)).mono ?_
              rintro e w5 ⟨rfl, hb5⟩
              have hP5 := hP4.below hb5
              have hB5 := hB4.trans (hb5.mono hB4.size)
              have hnn : (n3 == n3) = true := by simp
              rw [hnn]
              clear hP4 hb5 hnn
              go_wp2_with fail
              go_meet
              exact ⟨rfl, _, _, _, hP5, hB5⟩
          · have e0 : (l[k].what == 0) = false := by simpa using hw0
            by_cases hw1 : l[k].what = 1
            · have e1 : (l[k].what == 1) = true := by simpa using hw1
              by_cases hn0 : 0 ≤ l[k].n
              · have d1 : decide ((0 : Int) ≤ l[k].n) = true := decide_eq_true hn0
                by_cases hn1 : l[k].n < (ls.length : Int)
                · obtain ⟨m0, hm0⟩ : ∃ m0 : Nat, l[k].n = (m0 : Int) := ⟨l[k].n.toNat, by omega⟩
                  have hml2 : m0 < ls.length := by omega
                  obtain ⟨bm, om, Cm, cm, hAm, hbm, cmm, hrm⟩ := hl.at hml2
                  subst hAm
                  have cm2 := (hb.cell (p := ⟨bm, om + m0, none⟩) hbm).trans cmm
                  have hbm2 : bm < wr.heap.size := by omega
                  have dm0 : (0 : Int) ≤ (m0 : Int) := by omega
                  have dm1 : (m0 : Int) < (ls.length : Int) := by omega
                  have dm2 : decide ((m0 : Int) < (ls.length : Int)) = true := decide_eq_true dm1
                  have HRM := Lib.hid hrm
                  rw [hm0] at c5 d1
                  clear hn0 hn1 hrm cmm
                  go_wp2_with fail
                  refine calls_name ?_
                  intro w2 hW2
                  have hb2 : Below wr.heap.size wr w2 := by rw [hW2.out]; exact (Below.refl _ _).alloc (Nat.le_refl _) _
                  have hBs : Blk w2 wr.heap.size 35 #[.int .i64 1, .int .i64 l[k].who, strV l[k].key, strV l[k].to, strV l[k].val, .int .i64 m0] := by rw [hW2.out]; exact Blk.new _ _ _
                  obtain ⟨va, vla, vea, vba, la, la2, da, nsa, hPA2⟩ := hP.below hb2
                  have hB2 := hb.trans (hb2.mono hb0r)
                  have hz2 := hb2.size
                  clear hW2 hb2 hP
                  refine (hPA2.append Cm ls[m0] cm (HML.out ls[m0] (List.getElem_mem _)).1 (HML.out ls[m0] (List.getElem_mem _)).2 (HRM.out.below hB2)).mono ?_
                  rintro e w3 ⟨n3, rfl, hB3, hs3, hQ3⟩
                  have hBw3 := hB2.trans hB3
                  go_wp2_with fail
                  refine (hQ3 _ (Below.refl _ _)).mono ?_
                  rintro e w4 ⟨rfl, hB4', ls4, B4, safe4, hP4⟩
                  have hB4 := hB2.trans hB4'
                  clear hPA2 hQ3 hB3
                  go_wp2_with fail
                  refine (error_any n3 n3 w4 (HG.out.below hB4)).mono ?_
                  rintro e w5 ⟨rfl, hb5⟩
                  have hP5 := hP4.below hb5
                  have hB5 := hB4.trans (hb5.mono hB4.size)
                  have hnn : (n3 == n3) = true := by simp
                  rw [hnn]
                  clear hP4 hb5 hnn
                  go_wp2_with fail
                  go_meet
                  exact ⟨rfl, _, _, _, hP5, hB5⟩
                · have d2 : decide (l[k].n < (ls.length : Int)) = false := decide_eq_false hn1
                  go_wp2_with fail
                  refine calls_name ?_
                  intro w2 hW2
                  have hb2 : Below wr.heap.size wr w2 := by rw [hW2.out]; exact (Below.refl _ _).alloc (Nat.le_refl _) _
                  have hBs : Blk w2 wr.heap.size 35 #[.int .i64 1, .int .i64 l[k].who, strV l[k].key, strV l[k].to, strV l[k].val, .int .i64 l[k].n] := by rw [hW2.out]; exact Blk.new _ _ _
                  obtain ⟨va, vla, vea, vba, la, la2, da, nsa, hPA2⟩ := hP.below hb2
                  have hB2 := hb.trans (hb2.mono hb0r)
                  have hz2 := hb2.size
                  clear hW2 hb2 hP
                  refine (hPA2.append none [] 0 (by simp) (fun x hx => by (cases hx)) Rd.nil).mono ?_
                  rintro e w3 ⟨n3, rfl, hB3, hs3, hQ3⟩
                  have hBw3 := hB2.trans hB3
                  go_wp2_with fail
                  refine (hQ3 _ (Below.refl _ _)).mono ?_
                  rintro e w4 ⟨rfl, hB4', ls4, B4, safe4, hP4⟩
                  have hB4 := hB2.trans hB4'
                  clear hPA2 hQ3 hB3
                  go_wp2_with fail
                  refine (error_any n3 n3 w4 (HG.out.below hB4)).mono ?_
                  rintro e w5 ⟨rfl, hb5⟩
                  have hP5 := hP4.below hb5
                  have hB5 := hB4.trans (hb5.mono hB4.size)
                  have hnn : (n3 == n3) = true := by simp
                  rw [hnn]
                  clear hP4 hb5 hnn
                  go_wp2_with fail
                  go_meet
                  exact ⟨rfl, _, _, _, hP5, hB5⟩
              · have d1 : decide ((0 : Int) ≤ l[k].n) = false := decide_eq_false hn0
                go_wp2_with fail
                refine calls_name ?_
                intro w2 hW2
                have hb2 : Below wr.heap.size wr w2 := by rw [hW2.out]; exact (Below.refl _ _).alloc (Nat.le_refl _) _
                have hBs : Blk w2 wr.heap.size 35 #[.int .i64 1, .int .i64 l[k].who, strV l[k].key, strV l[k].to, strV l[k].val, .int .i64 l[k].n] := by rw [hW2.out]; exact Blk.new _ _ _
                obtain ⟨va, vla, vea, vba, la, la2, da, nsa, hPA2⟩ := hP.below hb2
                have hB2 := hb.trans (hb2.mono hb0r)
                have hz2 := hb2.size
                clear hW2 hb2 hP
                refine (hPA2.append none [] 0 (by simp) (fun x hx => by (cases hx)) Rd.nil).mono ?_
                rintro e w3 ⟨n3, rfl, hB3, hs3, hQ3⟩
                have hBw3 := hB2.trans hB3
                go_wp2_with fail
                refine (hQ3 _ (Below.refl _ _)).mono ?_
                rintro e w4 ⟨rfl, hB4', ls4, B4, safe4, hP4⟩
                have hB4 := hB2.trans hB4'
                clear hPA2 hQ3 hB3
                go_wp2_with fail
                refine (error_any n3 n3 w4 (HG.out.below hB4)).mono ?_
                rintro e w5 ⟨rfl, hb5⟩
                have hP5 := hP4.below hb5
                have hB5 := hB4.trans (hb5.mono hB4.size)
                have hnn : (n3 == n3) = true := by simp
                rw [hnn]
                clear hP4 hb5 hnn
                go_wp2_with fail
                go_meet
                exact ⟨rfl, _, _, _, hP5, hB5⟩
            · have e1 : (l[k].what == 1) = false := by simpa using hw1
              by_cases hw2 : l[k].what = 2
              · have e2 : (l[k].what == 2) = true := by simpa using hw2
                by_cases hn0 : 0 ≤ l[k].n
                · have d1 : decide ((0 : Int) ≤ l[k].n) = true := decide_eq_true hn0
                  by_cases hn1 : l[k].n < (ls.length : Int)
                  · obtain ⟨m0, hm0⟩ : ∃ m0 : Nat, l[k].n = (m0 : Int) := ⟨l[k].n.toNat, by omega⟩
                    have hml2 : m0 < ls.length := by omega
                    obtain ⟨bm, om, Cm, cm, hAm, hbm, cmm, hrm⟩ := hl.at hml2
                    subst hAm
                    have cm2 := (hb.cell (p := ⟨bm, om + m0, none⟩) hbm).trans cmm
                    have hbm2 : bm < wr.heap.size := by omega
                    have dm0 : (0 : Int) ≤ (m0 : Int) := by omega
                    have dm1 : (m0 : Int) < (ls.length : Int) := by omega
                    have dm2 : decide ((m0 : Int) < (ls.length : Int)) = true := decide_eq_true dm1
                    have HRM := Lib.hid hrm
                    rw [hm0] at c5 d1
                    clear hn0 hn1 hrm cmm
                    go_wp2_with fail
                    refine calls_name ?_
                    intro w2 hW2
                    have hb2 : Below wr.heap.size wr w2 := by rw [hW2.out]; exact (Below.refl _ _).alloc (Nat.le_refl _) _
                    have hBs : Blk w2 wr.heap.size 35 #[.int .i64 2, .int .i64 l[k].who, strV l[k].key, strV l[k].to, strV l[k].val, .int .i64 m0] := by rw [hW2.out]; exact Blk.new _ _ _
                    obtain ⟨va, vla, vea, vba, la, la2, da, nsa, hPA2⟩ := hP.below hb2
                    have hB2 := hb.trans (hb2.mono hb0r)
                    have hz2 := hb2.size
                    clear hW2 hb2 hP
                    refine (hPA2.append Cm ls[m0] cm (HML.out ls[m0] (List.getElem_mem _)).1 (HML.out ls[m0] (List.getElem_mem _)).2 (HRM.out.below hB2)).mono ?_
                    rintro e w3 ⟨n3, rfl, hB3, hs3, hQ3⟩
                    have hBw3 := hB2.trans hB3
                    go_wp2_with fail
                    refine (hQ3 _ (Below.refl _ _)).mono ?_
                    rintro e w4 ⟨rfl, hB4', ls4, B4, safe4, hP4⟩
                    have hB4 := hB2.trans hB4'
                    clear hPA2 hQ3 hB3
                    go_wp2_with fail
                    refine (error_any n3 n3 w4 (HG.out.below hB4)).mono ?_
                    rintro e w5 ⟨rfl, hb5⟩
                    have hP5 := hP4.below hb5
                    have hB5 := hB4.trans (hb5.mono hB4.size)
                    have hnn : (n3 == n3) = true := by simp
                    rw [hnn]
                    clear hP4 hb5 hnn
                    go_wp2_with fail
                    go_meet
                    exact ⟨rfl, _, _, _, hP5, hB5⟩
                  · have d2 : decide (l[k].n < (ls.length : Int)) = false := decide_eq_false hn1
                    go_wp2_with fail
                    refine calls_name ?_
                    intro w2 hW2
                    have hb2 : Below wr.heap.size wr w2 := by rw [hW2.out]; exact (Below.refl _ _).alloc (Nat.le_refl _) _
                    have hBs : Blk w2 wr.heap.size 35 #[.int .i64 2, .int .i64 l[k].who, strV l[k].key, strV l[k].to, strV l[k].val, .int .i64 l[k].n] := by rw [hW2.out]; exact Blk.new _ _ _
                    obtain ⟨va, vla, vea, vba, la, la2, da, nsa, hPA2⟩ := hP.below hb2
                    have hB2 := hb.trans (hb2.mono hb0r)
                    have hz2 := hb2.size
                    clear hW2 hb2 hP
                    refine (hPA2.append none [] 0 (by simp) (fun x hx => by (cases hx)) Rd.nil).mono ?_
                    rintro e w3 ⟨n3, rfl, hB3, hs3, hQ3⟩
                    have hBw3 := hB2.trans hB3
                    go_wp2_with fail
                    refine (hQ3 _ (Below.refl _ _)).mono ?_
                    rintro e w4 ⟨rfl, hB4', ls4, B4, safe4, hP4⟩
                    have hB4 := hB2.trans hB4'
                    clear hPA2 hQ3 hB3
                    go_wp2_with fail
                    refine (error_any n3 n3 w4 (HG.out.below hB4)).mono ?_
                    rintro e w5 ⟨rfl, hb5⟩
                    have hP5 := hP4.below hb5
                    have hB5 := hB4.trans (hb5.mono hB4.size)
                    have hnn : (n3 == n3) = true := by simp
                    rw [hnn]
                    clear hP4 hb5 hnn
                    go_wp2_with fail
                    go_meet
                    exact ⟨rfl, _, _, _, hP5, hB5⟩
                · have d1 : decide ((0 : Int) ≤ l[k].n) = false := decide_eq_false hn0
                  go_wp2_with fail
                  refine calls_name ?_
                  intro w2 hW2
                  have hb2 : Below wr.heap.size wr w2 := by rw [hW2.out]; exact (Below.refl _ _).alloc (Nat.le_refl _) _
                  have hBs : Blk w2 wr.heap.size 35 #[.int .i64 2, .int .i64 l[k].who, strV l[k].key, strV l[k].to, strV l[k].val, .int .i64 l[k].n] := by rw [hW2.out]; exact Blk.new _ _ _
                  obtain ⟨va, vla, vea, vba, la, la2, da, nsa, hPA2⟩ := hP.below hb2
                  have hB2 := hb.trans (hb2.mono hb0r)
                  have hz2 := hb2.size
                  clear hW2 hb2 hP
                  refine (hPA2.append none [] 0 (by simp) (fun x hx => by (cases hx)) Rd.nil).mono ?_
                  rintro e w3 ⟨n3, rfl, hB3, hs3, hQ3⟩
                  have hBw3 := hB2.trans hB3
                  go_wp2_with fail
                  refine (hQ3 _ (Below.refl _ _)).mono ?_
                  rintro e w4 ⟨rfl, hB4', ls4, B4, safe4, hP4⟩
                  have hB4 := hB2.trans hB4'
                  clear hPA2 hQ3 hB3
                  go_wp2_with fail
                  refine (error_any n3 n3 w4 (HG.out.below hB4)).mono ?_
                  rintro e w5 ⟨rfl, hb5⟩
                  have hP5 := hP4.below hb5
                  have hB5 := hB4.trans (hb5.mono hB4.size)
                  have hnn : (n3 == n3) = true := by simp
                  rw [hnn]
                  clear hP4 hb5 hnn
                  go_wp2_with fail
                  go_meet
                  exact ⟨rfl, _, _, _, hP5, hB5⟩
              · have e2 : (l[k].what == 2) = false := by simpa using hw2
                by_cases hw3 : l[k].what = 3
                · have e3 : (l[k].what == 3) = true := by simpa using hw3
                  go_wp2_with fail
                  refine calls_name ?_
                  intro w2 hW2
                  have hb2 : Below wr.heap.size wr w2 := by rw [hW2.out]; exact (Below.refl _ _).alloc (Nat.le_refl _) _
                  have hBs : Blk w2 wr.heap.size 35 #[.int .i64 3, .int .i64 l[k].who, strV l[k].key, strV l[k].to, strV l[k].val, .int .i64 l[k].n] := by rw [hW2.out]; exact Blk.new _ _ _
                  obtain ⟨va, vla, vea, vba, la, la2, da, nsa, hPA2⟩ := hP.below hb2
                  have hB2 := hb.trans (hb2.mono hb0r)
                  have hz2 := hb2.size
                  clear hW2 hb2 hP
                  refine hPA2.sync.mono ?_
                  rintro e w3 ⟨n3, rfl, hB3, hs3, hQ3⟩
                  have hBw3 := hB2.trans hB3
                  go_wp2_with fail
                  refine (hQ3 _ (Below.refl _ _)).mono ?_
                  rintro e w4 ⟨rfl, hB4', ls4, B4, safe4, hP4⟩
                  have hB4 := hB2.trans hB4'
                  clear hPA2 hQ3 hB3
                  go_wp2_with fail
                  refine (error_any n3 n3 w4 (HG.out.below hB4)).mono ?_
                  rintro e w5 ⟨rfl, hb5⟩
                  have hP5 := hP4.below hb5
                  have hB5 := hB4.trans (hb5.mono hB4.size)
                  have hnn : (n3 == n3) = true := by simp
                  rw [hnn]
                  clear hP4 hb5 hnn
                  go_wp2_with fail
                  go_meet
                  exact ⟨rfl, _, _, _, hP5, hB5⟩
                · have e3 : (l[k].what == 3) = false := by simpa using hw3
                  by_cases hw4 : l[k].what = 4
                  · have e4 : (l[k].what == 4) = true := by simpa using hw4
                    have hwf := (HSL.out l[k] (List.getElem_mem _))
                    by_cases hn0 : l[k].n < 0
                    · have d1 : decide (l[k].n < 0) = true := decide_eq_true hn0
                      go_wp2_with fail
                      refine calls_name ?_
                      intro w2 hW2
                      have hb2 : Below wr.heap.size wr w2 := by rw [hW2.out]; exact (Below.refl _ _).alloc (Nat.le_refl _) _
                      have hBs : Blk w2 wr.heap.size 35 #[.int .i64 4, .int .i64 l[k].who, strV l[k].key, strV l[k].to, strV l[k].val, .int .i64 l[k].n] := by rw [hW2.out]; exact Blk.new _ _ _
                      obtain ⟨va, vla, vea, vba, la, la2, da, nsa, hPA2⟩ := hP.below hb2
                      have hB2 := hb.trans (hb2.mono hb0r)
                      have hz2 := hb2.size
                      clear hW2 hb2 hP
                      have s5 : w2.cell? ⟨wr.heap.size, 5, none⟩ = some (.int .i64 l[k].n) := hBs.cell 5
                      refine (hPA2.fail _ hwf).mono ?_
                      rintro e w3 ⟨rfl, hK3, hne3, hm3, hc3, hf3, _, hP3⟩
                      have HP3 := Lib.hid (hP3 hn0)
                      have hBs3 := hK3.2.2.2 _ _ _ (by decide) (by decide) hBs
                      have s5b : w3.cell? ⟨wr.heap.size, 5, none⟩ = some (.int .i64 l[k].n) := hBs3.cell 5
                      have hnn := hne3 _ _ _ (by decide) hBs3
                      have s5c : (w3.setCell ⟨m, 5, none⟩ (.int .i64 l[k].n)).cell? ⟨wr.heap.size, 5, none⟩ = some (.int .i64 l[k].n) := (hBs3.far (p := ⟨m, 5, none⟩) hnn _).cell 5
                      go_wp2_with fail
                      go_meet
                      exact ⟨rfl, _, _, _, HP3.out.1, hB2.trans HP3.out.2⟩
                    · have d1 : decide (l[k].n < 0) = false := decide_eq_false hn0
                      go_wp2_with fail
                      refine calls_name ?_
                      intro w2 hW2
                      have hb2 : Below wr.heap.size wr w2 := by rw [hW2.out]; exact (Below.refl _ _).alloc (Nat.le_refl _) _
                      have hBs : Blk w2 wr.heap.size 35 #[.int .i64 4, .int .i64 l[k].who, strV l[k].key, strV l[k].to, strV l[k].val, .int .i64 l[k].n] := by rw [hW2.out]; exact Blk.new _ _ _
                      obtain ⟨va, vla, vea, vba, la, la2, da, nsa, hPA2⟩ := hP.below hb2
                      have hB2 := hb.trans (hb2.mono hb0r)
                      have hz2 := hb2.size
                      clear hW2 hb2 hP
                      have s5 : w2.cell? ⟨wr.heap.size, 5, none⟩ = some (.int .i64 l[k].n) := hBs.cell 5
                      refine (hPA2.fail _ hwf).mono ?_
                      rintro e w3 ⟨rfl, hK3, hne3, hm3, hc3, hf3, hP3, _⟩
                      have HP3 := Lib.hid (hP3 (by omega))
                      have hBs3 := hK3.2.2.2 _ _ _ (by decide) (by decide) hBs
                      have s5b : w3.cell? ⟨wr.heap.size, 5, none⟩ = some (.int .i64 l[k].n) := hBs3.cell 5
                      have hnn := hne3 _ _ _ (by decide) hBs3
                      have s5c : (w3.setCell ⟨m, 5, none⟩ (.int .i64 l[k].n)).cell? ⟨wr.heap.size, 5, none⟩ = some (.int .i64 l[k].n) := (hBs3.far (p := ⟨m, 5, none⟩) hnn _).cell 5
                      go_wp2_with fail
                      go_meet
                      exact ⟨rfl, _, _, _, HP3.out.1, hB2.trans HP3.out.2⟩
                  · have e4 : (l[k].what == 4) = false := by simpa using hw4
                    by_cases hw5 : l[k].what = 5
                    · have e5 : (l[k].what == 5) = true := by simpa using hw5
                      have hwf := (HSL.out l[k] (List.getElem_mem _))
                      go_wp2_with fail
                      refine calls_name ?_
                      intro w2 hW2
                      have hb2 : Below wr.heap.size wr w2 := by rw [hW2.out]; exact (Below.refl _ _).alloc (Nat.le_refl _) _
                      have hBs : Blk w2 wr.heap.size 35 #[.int .i64 5, .int .i64 l[k].who, strV l[k].key, strV l[k].to, strV l[k].val, .int .i64 l[k].n] := by rw [hW2.out]; exact Blk.new _ _ _
                      obtain ⟨va, vla, vea, vba, la, la2, da, nsa, hPA2⟩ := hP.below hb2
                      have hB2 := hb.trans (hb2.mono hb0r)
                      have hz2 := hb2.size
                      clear hW2 hb2 hP
                      have s5 : w2.cell? ⟨wr.heap.size, 5, none⟩ = some (.int .i64 l[k].n) := hBs.cell 5
                      refine (hPA2.crash _ hwf).mono ?_
                      rintro e w3 ⟨rfl, hK3, hs3, hQ3⟩
                      have s5b : w3.cell? ⟨wr.heap.size, 5, none⟩ = some (.int .i64 l[k].n) := (hK3.2.2.2 _ _ _ (by decide) (by decide) hBs).cell 5
                      have hB3 := hK3.1
                      go_wp2_with fail
                      refine (hQ3 _ (Below.refl _ _)).mono ?_
                      rintro e w4 ⟨rfl, hB4', ls4, B4, safe4, hP4⟩
                      have hB4 := hB2.trans hB4'
                      clear hPA2 hQ3 hB3
                      go_wp2_with fail
                      go_meet
                      exact ⟨rfl, _, _, _, hP4, hB4⟩
                    · have e5 : (l[k].what == 5) = false := by simpa using hw5
                      go_wp2_with fail
                      go_meet
                      exact ⟨rfl, _, _, _, hP.below ((Below.refl _ _).alloc (Nat.le_refl _) _), hb.trans (((Below.refl _ _).alloc (Nat.le_refl _) _).mono hb0r)⟩
        case rest =>
          obtain ⟨rfl, lsx, Bx, safex, ⟨v6, vl6, ve6, vb6, left6, left26, down6, ns6, hPA⟩, hBc⟩ := hcut
          obtain ⟨A1, c1, A3, c3, y1, hr1, y3, hr3, y4, hmw, hll, hBl, hsl, hlm, hpl⟩ := hPA.view
          have HPD : Hid (PlayAt wc.drew _ _ _ _ _ _ _ _ _ _ _ _ _ _ _) := Lib.hid (hPA.below ((Below.refl _ _).drew))
          have y1d : wc.drew.cell? ⟨m, 1, none⟩ = some (.slice A1 lsx.length c1) := y1
          have HR1 : Hid (RdLL wc.drew wc.drew.heap.size A1 lsx) := Lib.hid (hr1.below ((Below.refl wc.heap.size _).drew))
          have HR3 : Hid (Rd wc.drew wc.drew.heap.size A3 (bytesV Bx)) := Lib.hid (hr3.below ((Below.refl wc.heap.size _).drew))
          have HLM := Lib.hid hlm
          have HPL := Lib.hid hpl
          clear hr1 hr3 hlm hpl hPA
          go_wp2_with fail
          go_region_held3 (fun w' : World => w'.cell? ⟨m, 1, none⟩ = some (.slice A1 lsx.length c1)) (first | exact y1d | go_keep | (rw [hb6.cell hmw]; assumption) | (rw [hb7.cell hm6]; assumption)) (first | (go_at_call 20; refine HPD.out.hL.read_ok.mono ?_; rintro e w6 ⟨vo, rfl, hoo, hb6⟩; obtain ⟨Ar, cr, rfl, hcr, hro⟩ := hoo.rd; rw [HPL.out] at hro ⊢; have hro := Lib.hid hro; have hm6 : m < w6.heap.size := Nat.lt_of_lt_of_le hmw hb6.size; clear hoo hcr) | (go_at_call 19; refine (lists_same2 Ar _ lsx _ _ cr _ (by first | rfl | (exact rfl) | simp) (by first | rfl | (exact rfl) | simp) (by omega) HLM.out _ hro.out ((HR1.out.below hb6).more hb6.size)).mono ?_; rintro e w7 ⟨rfl, hb7⟩))
          have hm7 : m < w7.heap.size := Nat.lt_of_lt_of_le hm6 hb7.size
          have hb7w : Below wc.drew.heap.size wc.drew w7 := hb6.trans (hb7.mono hb6.size)
          have HP7 := Lib.hid (HPD.out.below hb7w)
          have HPE : Hid (PlayAt w7.drew _ _ _ _ _ _ _ _ _ _ _ _ _ _ _) := Lib.hid (HP7.out.below ((Below.refl _ _).drew))
          have hr3e : Rd w7.drew w7.drew.heap.size A3 (bytesV Bx) := ((HR3.out.below hb7w).more hb7w.size).below ((Below.refl w7.heap.size _).drew)
          have HR3E := Lib.hid hr3e
          have hcm7 := run_str (P := Tryd.prog) (w := w7.drew) 32 9 5 Tryd.underlying32 Tryd.underlying5 Tryd.underlying9 c3 hr3e rfl
          have y3e : w7.drew.cell? ⟨m, 3, none⟩ = some (.slice A3 Bx.length c3) := (hb7w.cell (p := ⟨m, 3, none⟩) hmw).trans y3
          have y4e : w7.drew.cell? ⟨m, 4, none⟩ = some (.int .i64 safex) := (hb7w.cell (p := ⟨m, 4, none⟩) hmw).trans y4
          have hB7 : Below w.heap.size w w7 := hBc.trans (((Below.refl wc.heap.size _).drew.trans hb7w).mono hBc.size)
          clear hr3e hb6 hb7 HPD HR1 HLM hro y1 y1d y3 y4
          go_upto_region 33 with fail
          go_cut [144] (fun c wx => c = .bool false ∧ ∃ (ls : List (List Chg)) (B : List UInt8) (safe : Nat), Play wx w.heap.size g m room ls B safe ∧ Below w.heap.size w wx)
          case first =>
            have hS7 : w7.drew.cell? ⟨m, 3, none⟩ = some (.slice A3 Bx.length c3) ∧ w7.drew.cell? ⟨m, 4, none⟩ = some (.int .i64 safex) ∧ (convert 32 9 (.slice A3 Bx.length c3)).run Tryd.prog w7.drew = .ok (strV Bx) w7.drew := ⟨y3e, y4e, hcm7⟩
            refine wp_region_held_drew (S := fun w' : World => w'.cell? ⟨m, 3, none⟩ = some (.slice A3 Bx.length c3) ∧ w'.cell? ⟨m, 4, none⟩ = some (.int .i64 safex) ∧ (convert 32 9 (.slice A3 Bx.length c3)).run Tryd.prog w' = .ok (strV Bx) w') (by kernel_rfl) hS7 (fun hS => ?_)
            refine hand_take 0 (v := ?_) rfl (by kernel_rfl) (by kernel_rfl) (by kernel_rfl) (fun _ _ _ h => h) (Or.inl ⟨by rfl, ?_⟩) (by assumption) ?_
            rotate_left
            (intro w hSw; (try dsimp only at hSw); go_simp)
            all_goals (try with_reducible rfl)
            all_goals (try simp only [Act.put, List.setIfInBounds_toArray, List.set_cons_zero, List.set_cons_succ])
            refine hand_take 1 (v := ?_) rfl (by kernel_rfl) (by kernel_rfl) (by kernel_rfl) (fun _ _ _ h => h) (Or.inl ⟨by rfl, ?_⟩) (by assumption) ?_
            rotate_left
            (intro w hSw; (try dsimp only at hSw); go_simp)
            all_goals (try with_reducible rfl)
            all_goals (try simp only [Act.put, List.setIfInBounds_toArray, List.set_cons_zero, List.set_cons_succ])
            refine hand_take 2 (v := ?_) rfl (by kernel_rfl) (by kernel_rfl) (by kernel_rfl) (fun _ _ _ h => h) (Or.inl ⟨by rfl, ?_⟩) (by assumption) ?_
            rotate_left
            (intro w hSw; (try dsimp only at hSw); go_simp)
            all_goals (try with_reducible rfl)
            all_goals (try simp only [Act.put, List.setIfInBounds_toArray, List.set_cons_zero, List.set_cons_succ])
            refine hand_take 3 (v := ?_) rfl (by kernel_rfl) (by kernel_rfl) (by kernel_rfl) (fun _ _ _ h => h) (Or.inl ⟨by rfl, ?_⟩) (by assumption) ?_
            rotate_left
            (intro w hSw; (try dsimp only at hSw); go_simp)
            all_goals (try with_reducible rfl)
            all_goals (try simp only [Act.put, List.setIfInBounds_toArray, List.set_cons_zero, List.set_cons_succ])
            refine hand_take 4 (v := ?_) rfl (by kernel_rfl) (by kernel_rfl) (by kernel_rfl) (fun _ _ _ h => h) (Or.inl ⟨by rfl, ?_⟩) (by assumption) ?_
            rotate_left
            (intro w hSw; (try dsimp only at hSw); go_simp)
            all_goals (try with_reducible rfl)
            all_goals (try simp only [Act.put, List.setIfInBounds_toArray, List.set_cons_zero, List.set_cons_succ])
            refine hand_take 5 (v := ?_) rfl (by kernel_rfl) (by kernel_rfl) (by kernel_rfl) (fun _ _ _ h => h) (Or.inl ⟨by rfl, ?_⟩) (by assumption) ?_
            rotate_left
            (intro w hSw; (try dsimp only at hSw); go_simp)
            all_goals (try with_reducible rfl)
            all_goals (try simp only [Act.put, List.setIfInBounds_toArray, List.set_cons_zero, List.set_cons_succ])
            refine hand_take 6 (v := ?_) rfl (by kernel_rfl) (by kernel_rfl) (by kernel_rfl) (fun _ _ _ h => h) (Or.inl ⟨by rfl, ?_⟩) (by assumption) ?_
            rotate_left
            (intro w hSw; (try dsimp only at hSw); go_simp)
            all_goals (try with_reducible rfl)
            all_goals (try simp only [Act.put, List.setIfInBounds_toArray, List.set_cons_zero, List.set_cons_succ])
            refine hand_take 7 (v := ?_) rfl (by kernel_rfl) (by kernel_rfl) (by kernel_rfl) (fun _ _ _ h => h) (Or.inl ⟨by rfl, ?_⟩) (by assumption) ?_
            rotate_left
            (intro w hSw; (try dsimp only at hSw); go_simp)
            all_goals (try with_reducible rfl)
            all_goals (try simp only [Act.put, List.setIfInBounds_toArray, List.set_cons_zero, List.set_cons_succ])
            refine hand_take 10 (v := ?_) rfl (by kernel_rfl) (by kernel_rfl) (by kernel_rfl) (fun _ _ _ h => h) (Or.inl ⟨by rfl, ?_⟩) (by assumption) ?_
            rotate_left
            (intro w hSw; (try dsimp only at hSw); go_simp)
            all_goals (try with_reducible rfl)
            all_goals (try simp only [Act.put, List.setIfInBounds_toArray, List.set_cons_zero, List.set_cons_succ])
            refine hand_take 11 (v := ?_) rfl (by kernel_rfl) (by kernel_rfl) (by kernel_rfl) (fun _ _ _ h => h) (Or.inl ⟨by rfl, ?_⟩) (by assumption) ?_
            rotate_left
            (intro w hSw; (try dsimp only at hSw); go_simp)
            all_goals (try with_reducible rfl)
            all_goals (try simp only [Act.put, List.setIfInBounds_toArray, List.set_cons_zero, List.set_cons_succ])
            refine hand_take 12 (v := ?_) rfl (by kernel_rfl) (by kernel_rfl) (by kernel_rfl) (fun _ _ _ h => h) (Or.inl ⟨by rfl, ?_⟩) (by assumption) ?_
            rotate_left
            (intro w hSw; (try dsimp only at hSw); go_simp)
            all_goals (try with_reducible rfl)
            all_goals (try simp only [Act.put, List.setIfInBounds_toArray, List.set_cons_zero, List.set_cons_succ])
            refine hand_take 13 (v := ?_) rfl (by kernel_rfl) (by kernel_rfl) (by kernel_rfl) (fun _ _ _ h => h) (Or.inl ⟨by rfl, ?_⟩) (by assumption) ?_
            rotate_left
            (intro w hSw; (try dsimp only at hSw); go_simp)
            all_goals (try with_reducible rfl)
            all_goals (try simp only [Act.put, List.setIfInBounds_toArray, List.set_cons_zero, List.set_cons_succ])
            refine hand_take 14 (v := ?_) rfl (by kernel_rfl) (by kernel_rfl) (by kernel_rfl) (fun _ _ _ h => h) (Or.inl ⟨by rfl, ?_⟩) (by assumption) ?_
            rotate_left
            (intro w hSw; (try dsimp only at hSw); go_simp)
            all_goals (try with_reducible rfl)
            all_goals (try simp only [Act.put, List.setIfInBounds_toArray, List.set_cons_zero, List.set_cons_succ])
            refine hand_one 8 (by kernel_rfl) rfl (fun K hK => ?_)
            go_simp
            refine HPE.out.hL.bytes_ok.mono ?_
            rintro e w8 ⟨vb8, rfl, ho8, hb8⟩
            obtain ⟨A8, c8, rfl, hr8⟩ := own_form ho8
            have hcv8 := run_str (P := Tryd.prog) (w := w8) 32 9 5 Tryd.underlying32 Tryd.underlying5 Tryd.underlying9 c8 hr8 rfl
            have hcm8 := run_str (P := Tryd.prog) (w := w8) 32 9 5 Tryd.underlying32 Tryd.underlying5 Tryd.underlying9 c3 (HR3E.out.below hb8) rfl
            have y3f := (hb8.cell (p := ⟨m, 3, none⟩) hm7).trans y3e
            have y4f := (hb8.cell (p := ⟨m, 4, none⟩) hm7).trans y4e
            refine hK.out _ _ ⟨y3f, y4f, hcm8⟩ (fun hS8 => ?_)
            clear hS hS7 hK ho8 hr8
            refine hand_more (S' := fun w' : World => (w'.cell? ⟨m, 3, none⟩ = some (.slice A3 Bx.length c3) ∧ w'.cell? ⟨m, 4, none⟩ = some (.int .i64 safex) ∧ (convert 32 9 (.slice A3 Bx.length c3)).run Tryd.prog w' = .ok (strV Bx) w') ∧ (convert 32 9 (.slice A8 Bx.length c8)).run Tryd.prog w' = .ok (strV Bx) w') (fun _ h => h.1) _ _ _ _ ?_
            have hS9 : (w8.cell? ⟨m, 3, none⟩ = some (.slice A3 Bx.length c3) ∧ w8.cell? ⟨m, 4, none⟩ = some (.int .i64 safex) ∧ (convert 32 9 (.slice A3 Bx.length c3)).run Tryd.prog w8 = .ok (strV Bx) w8) ∧ (convert 32 9 (.slice A8 Bx.length c8)).run Tryd.prog w8 = .ok (strV Bx) w8 := ⟨hS8, hcv8⟩
            refine hand_take 9 (v := ?_) rfl (by kernel_rfl) (by kernel_rfl) (by kernel_rfl) (fun _ _ _ h => h) (Or.inl ⟨by rfl, ?_⟩) (by assumption) ?_
            rotate_left
            (intro w hSw; (try dsimp only at hSw); go_simp)
            all_goals (try with_reducible rfl)
            all_goals (try simp only [Act.put, List.setIfInBounds_toArray, List.set_cons_zero, List.set_cons_succ])
            refine hand_take 15 (v := ?_) rfl (by kernel_rfl) (by kernel_rfl) (by kernel_rfl) (fun _ _ _ h => h) (Or.inl ⟨by rfl, ?_⟩) (by assumption) ?_
            rotate_left
            (intro w hSw; (try dsimp only at hSw); go_simp)
            all_goals (try with_reducible rfl)
            all_goals (try simp only [Act.put, List.setIfInBounds_toArray, List.set_cons_zero, List.set_cons_succ])
            refine hand_take 16 (v := ?_) rfl (by kernel_rfl) (by kernel_rfl) (by kernel_rfl) (fun _ _ _ h => h) (Or.inl ⟨by rfl, ?_⟩) (by assumption) ?_
            rotate_left
            (intro w hSw; (try dsimp only at hSw); go_simp)
            all_goals (try with_reducible rfl)
            all_goals (try simp only [Act.put, List.setIfInBounds_toArray, List.set_cons_zero, List.set_cons_succ])
            refine hand_take 17 (v := ?_) rfl (by kernel_rfl) (by kernel_rfl) (by kernel_rfl) (fun _ _ _ h => h) (Or.inl ⟨by rfl, ?_⟩) (by assumption) ?_
            rotate_left
            (intro w hSw; (try dsimp only at hSw); go_simp)
            all_goals (try with_reducible rfl)
            all_goals (try simp only [Act.put, List.setIfInBounds_toArray, List.set_cons_zero, List.set_cons_succ])
            refine hand_take 18 (v := ?_) rfl (by kernel_rfl) (by kernel_rfl) (by kernel_rfl) (fun _ _ _ h => h) (Or.inl ⟨by rfl, ?_⟩) (by assumption) ?_
            rotate_left
            (intro w hSw; (try dsimp only at hSw); go_simp)
            all_goals (try with_reducible rfl)
            all_goals (try simp only [Act.put, List.setIfInBounds_toArray, List.set_cons_zero, List.set_cons_succ])
            refine hand_take 20 (v := ?_) rfl (by kernel_rfl) (by kernel_rfl) (by kernel_rfl) (fun _ _ _ h => h) (Or.inl ⟨by rfl, ?_⟩) (by assumption) ?_
            rotate_left
            (intro w hSw; (try dsimp only at hSw); go_simp)
            all_goals (try with_reducible rfl)
            all_goals (try simp only [Act.put, List.setIfInBounds_toArray, List.set_cons_zero, List.set_cons_succ])
            refine hand_take 21 (v := ?_) rfl (by kernel_rfl) (by kernel_rfl) (by kernel_rfl) (fun _ _ _ h => h) (Or.inl ⟨by rfl, ?_⟩) (by assumption) ?_
            rotate_left
            (intro w hSw; (try dsimp only at hSw); go_simp)
            all_goals (try with_reducible rfl)
            all_goals (try simp only [Act.put, List.setIfInBounds_toArray, List.set_cons_zero, List.set_cons_succ])
            refine hand_take 22 (v := ?_) rfl (by kernel_rfl) (by kernel_rfl) (by kernel_rfl) (fun _ _ _ h => h) (Or.inl ⟨by rfl, ?_⟩) (by assumption) ?_
            rotate_left
            (intro w hSw; (try dsimp only at hSw); go_simp)
            all_goals (try with_reducible rfl)
            all_goals (try simp only [Act.put, List.setIfInBounds_toArray, List.set_cons_zero, List.set_cons_succ])
            refine hand_take 23 (v := ?_) rfl (by kernel_rfl) (by kernel_rfl) (by kernel_rfl) (fun _ _ _ h => h) (Or.inl ⟨by rfl, ?_⟩) (by assumption) ?_
            rotate_left
            (intro w hSw; (try dsimp only at hSw); go_simp)
            all_goals (try with_reducible rfl)
            all_goals (try simp only [Act.put, List.setIfInBounds_toArray, List.set_cons_zero, List.set_cons_succ])
            refine hand_one 19 (by kernel_rfl) rfl (fun K hK => ?_)
            go_simp
            refine (HPE.out.hL.below hb8).safe_ok.mono ?_
            rintro e w9 ⟨rfl, rfl⟩
            refine hK.out _ _ hS9 (fun hS10 => ?_)
            clear hK
            refine hand_take 24 (v := ?_) rfl (by kernel_rfl) (by kernel_rfl) (by kernel_rfl) (fun _ _ _ h => h) (Or.inl ⟨by rfl, ?_⟩) (by assumption) ?_
            rotate_left
            (intro w hSw; (try dsimp only at hSw); go_simp)
            all_goals (try with_reducible rfl)
            all_goals (try simp only [Act.put, List.setIfInBounds_toArray, List.set_cons_zero, List.set_cons_succ])
            refine hand_take 25 (v := ?_) rfl (by kernel_rfl) (by kernel_rfl) (by kernel_rfl) (fun _ _ _ h => h) (Or.inl ⟨by rfl, ?_⟩) (by assumption) ?_
            rotate_left
            (intro w hSw; (try dsimp only at hSw); go_simp)
            all_goals (try with_reducible rfl)
            all_goals (try simp only [Act.put, List.setIfInBounds_toArray, List.set_cons_zero, List.set_cons_succ])
            refine wpAnyH_done (by kernel_rfl) ?_ _
            go_wp2_with fail
            go_meet
            exact ⟨rfl, _, _, _, ⟨_, _, _, _, _, _, _, _, HPE.out.below hb8⟩, hB7.trans ((((Below.refl w7.heap.size _).drew).trans hb8).mono hB7.size)⟩
          case rest =>
            obtain ⟨rfl, lsy, By, safey, hPy, hBy⟩ := hcut
            go_wp2_with fail
            go_roundw
            case rel => first | exact ⟨k + 1, lsy, By, safey, by omega, by go_num, hPy, hBy⟩ | ((repeat apply Exists.intro); exact ⟨⟨k + 1, lsy, By, safey, by omega, by go_num, hPy, hBy⟩, rfl⟩)
            case measure => simp [intOf]; omega
      · have d40 : decide ((k : Int) < 40) = false := decide_eq_false (by omega)
        go_wp2
        go_ret
        exact ⟨rfl, hb⟩
    · have dlt : decide ((k : Int) < (l.length : Int)) = false := decide_eq_false (by omega)
      go_wp2
      go_ret
      exact ⟨rfl, hb⟩
end Go.Proofs.YtdcjogofjniogaaDoor
