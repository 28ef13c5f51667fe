/- The law VersPlays: the walk of its own text, by the contracts of package vers and of the reference. Any steps. Condition: errors.errorType is laid. -/
import Derived.Test.YtdmnejanckdajaaDoorDuo
import Derived.Test.YtdmnejanckdajaaDoorErrEq
import Derived.Test.YtdmnejanckdajaaDoorStp
import Derived.Test.YtdmnejanckdajaaDoorSamePr
import Derived.Deep.RegionHeld3
import Derived.Deep.DrawnRows
import Derived.Deep.DeepCutAuto
import Derived.Deep.CutBlock
namespace Go.Proofs.YtdmnejanckdajaaDoor
set_option linter.unusedVariables false
set_option linter.unusedSimpArgs false
set_option maxRecDepth 100000
open Go.RowKit

theorem Duo.more {b0 t m n : Nat} {w : World} {F : List UInt8 → List Ver} {top : Int} {L : List KVer} (h : Duo b0 w t m F top L n) : Duo b0 w t m F top L (n + 1) := by
  obtain ⟨S1, S2, h1, h2, h3, h4, h5⟩ := h
  exact ⟨S1, S2, h1.more, h2, h3, by omega, h5⟩
set_option maxHeartbeats 40000000 in
theorem versPlays_walk (A : Option Addr) (l : List Stp) (c : Nat) (hm : l.length ≤ maxLen) (hS : ∀ s ∈ l, StpOk s) (w : World) (hg : ErrVar w) (hl : Rd w w.heap.size A (cellsS l)) :
    Calls Tryd.prog 4 #[.slice A l.length c] w fun e w' => e = .returned (.bool true) ∧ Below w.heap.size w w' := by
  have HS := Lib.hid hS
  have hwl : wrap64 (l.length : Int) = l.length := by unfold maxLen at hm; unfold wrap64; omega
  clear hS
  go_enter Tryd.func4, Tryd.ntmps4
  go_wp2_with fail
  refine (new_any w).mono ?_
  rintro e w1 ⟨t, rfl, ht0, hB0, hM0, hne0, hbw1⟩
  have hT0 : TblAt w1 (fun g => w.heap.size ≤ g) t (fun _ => []) 0 0 := ⟨⟨w.heap.size, #[], 0, hB0, hM0, by simp⟩, ht0, Good.new⟩
  have hbA : Below w1.heap.size w1 (w1.alloc (.cells #[.slice none 0 0, .int .i64 0] 46)) := (Below.refl _ _).alloc (Nat.le_refl _) _
  have hD0 : Duo w.heap.size (w1.alloc (.cells #[.slice none 0 0, .int .i64 0] 46)) t w1.heap.size (fun _ => []) 0 [] 0 :=
    ⟨_, fun q => q = w1.heap.size, hT0.tight.below hbA, ⟨⟨_, Blk.new _ _ _, World.ownsRow_nil _ _ _ _, fun g e => by simp [Value.ownBlock] at e⟩, rfl⟩, Mdl.new, Nat.le_refl _, fun q h1 h2 => by have := h1.2; omega, fun q h1 => by have := h1.1; have := h1.2; simp; omega, fun q h1 => by subst h1; have := hbw1.size; simp; omega⟩
  have hbB := hbw1.trans (hbA.mono hbw1.size)
  have HD0 := Lib.hid hD0
  clear hT0 hB0 hM0 hD0 hbA hne0 ht0
  generalize hmm : w1.heap.size = m at *
  go_wp2
  generalize hW2 : w1.alloc (.cells #[.slice none 0 0, .int .i64 0] 46) = w2 at *
  clear hW2 hbw1 hmm
  go_loopw [5] (fun i wr => ∃ (k : Nat) (F : List UInt8 → List Ver) (top : Int) (L : List KVer), i = .int .i64 k ∧ k ≤ l.length ∧ k ≤ 40 ∧ Duo w.heap.size wr t m F top L k ∧ Below w.heap.size w wr) (fun i _ => 40 - (intOf i).toNat)
  case atStart => exact ⟨0, _, _, _, rfl, by omega, by omega, HD0.out, hbB⟩
  case round =>
    obtain ⟨k, F, top, L, rfl, hk1, hk2, hD, hb⟩ := hrel
    by_cases hlt1 : k < l.length
    · by_cases hlt2 : k < 40
      · obtain ⟨b0, of0, rfl, hbb0, c0, c1, c2, c3, c4, c5⟩ := (hl.below hb).stp hlt1
        obtain ⟨s1, s2, s3, s4, s5⟩ := HS.out l[k] (List.getElem_mem _)
        have hI : (k : Int) < (l.length : Int) := by omega
        have hI2 : (0 : Int) ≤ (k : Int) := by omega
        have hI3 : (k : Int) < 40 := by omega
        have HDr := Lib.hid hD
        clear hD
        go_upto_block 2 with fail
        have hbs : Below wr.heap.size wr (wr.alloc (.cells #[.int .i64 l[k].what, .int .i64 l[k].who, txt l[k].key, txt l[k].to, txt l[k].val, .int .i64 l[k].n] 33)) := (Below.refl _ _).alloc (Nat.le_refl _) _
        have hBx := Blk.new wr 33 #[.int .i64 l[k].what, .int .i64 l[k].who, txt l[k].key, txt l[k].to, txt l[k].val, .int .i64 l[k].n]
        obtain ⟨S1, S2, hT0, hR0, hMd, hLn, hd, h1, h2⟩ := HDr.out
        have hg1 : ∀ q, S1 q → q ≠ wr.heap.size := fun q h => by have := h1 q h; omega
        have hg2 : ¬ S2 wr.heap.size := fun h => by have := h2 _ h; omega
        have hT := hT0.below hbs
        have hR := hR0.below hbs
        have hb3 := hb.trans (hbs.mono hb.size)
        have hszw : wr.heap.size < (wr.alloc (.cells #[.int .i64 l[k].what, .int .i64 l[k].who, txt l[k].key, txt l[k].to, txt l[k].val, .int .i64 l[k].n] 33)).heap.size := by simp
        have hgw : w.heap.size ≤ wr.heap.size := hb.size
        clear hT0 hR0
        generalize hg0 : wr.heap.size = g at *
        generalize hW3 : wr.alloc (.cells #[.int .i64 l[k].what, .int .i64 l[k].who, txt l[k].key, txt l[k].to, txt l[k].val, .int .i64 l[k].n] 33) = w3 at *
        have hb0 : w.heap.size ≤ w3.heap.size := by omega
        replace h1 : ∀ q, S1 q → w.heap.size ≤ q ∧ q < w3.heap.size := fun q h => by have := h1 q h; omega
        replace h2 : ∀ q, S2 q → w.heap.size ≤ q ∧ q < w3.heap.size := fun q h => by have := h2 q h; omega
        have hg1' : ∀ q, S1 q → q ≠ g := hg1
        clear hW3 hbs HDr hg0 c0 c1 c2 c3 c4 c5
        go_cut [7, 72, 95, 112] (fun ok _ _ _ wx => ok = .bool true ∧ ∃ (F : List UInt8 → List Ver) (top : Int) (L : List KVer), Duo w.heap.size wx t m F top L (k + 1) ∧ Below w.heap.size w wx ∧ Blk wx g 33 #[.int .i64 l[k].what, .int .i64 l[k].who, txt l[k].key, txt l[k].to, txt l[k].val, .int .i64 l[k].n])
        case first =>
          by_cases e0 : l[k].what = 0
          · have f0 : (l[k].what == 0) = true := by simpa using e0
            as_aux_lemma =>
              clear e0
              have y0 : w3.cell? ⟨g, 0, none⟩ = some (.int .i64 l[k].what) := hBx.cell 0
              have y2 : w3.cell? ⟨g, 2, none⟩ = some (txt l[k].key) := hBx.cell 2
              have y3 : w3.cell? ⟨g, 3, none⟩ = some (txt l[k].to) := hBx.cell 3
              have y4 : w3.cell? ⟨g, 4, none⟩ = some (txt l[k].val) := hBx.cell 4
              have y5 : w3.cell? ⟨g, 5, none⟩ = some (.int .i64 l[k].n) := hBx.cell 5
              go_wp2_with fail
              refine (refPut_any m L top (by omega) S2 l[k].key ⟨l[k].n, l[k].val, false⟩ w3 hR).mono ?_
              rintro e w4 ⟨rfl, hf4, hR4⟩
              have hT4 := hT.far hf4 hd
              have hBx4 := hBx.fr hf4 hg2
              have hs4 := hf4.size
              have hbw4 := hf4.below (B := w.heap.size) hb0 (fun q h => (h2 q h).1)
              have HR4 := Lib.hid hR4
              clear y0 y2 y3 y4 y5
              clear hR4
              have y0 : w4.cell? ⟨g, 0, none⟩ = some (.int .i64 l[k].what) := hBx4.cell 0
              have y2 : w4.cell? ⟨g, 2, none⟩ = some (txt l[k].key) := hBx4.cell 2
              have y3 : w4.cell? ⟨g, 3, none⟩ = some (txt l[k].to) := hBx4.cell 3
              have y4 : w4.cell? ⟨g, 4, none⟩ = some (txt l[k].val) := hBx4.cell 4
              have y5 : w4.cell? ⟨g, 5, none⟩ = some (.int .i64 l[k].n) := hBx4.cell 5
              go_wp2_with fail
              refine (Put_any t F top k S1 l[k].key s3 l[k].val s5 l[k].n (by omega) w4 hT4).mono ?_
              rintro e w5 ⟨rfl, hf5, hT5⟩
              have hDu := Duo.join hd h1 h2 hb0 HR4.out hs4 (Below.refl _ _) hf5 hT5 (hMd.putL hT.good l[k].key ⟨l[k].n, l[k].val, false⟩) (by have := putL_len L l[k].key ⟨l[k].n, l[k].val, false⟩ top; omega)
              have hBx5 := hBx4.fr hf5 (fun q => hg1' g q rfl)
              have hb5 : Below w.heap.size w w5 := (hb3.trans hbw4).trans (hf5.below (by omega) (fun q h => (h1 q h).1))
              have HDU := Lib.hid hDu
              have hE5 := hg.below hb5
              clear y0 y2 y3 y4 y5
              clear hDu hT5 hf5 hf4 hbw4 HR4 hT4 hT hR
              go_wp2_with fail
              refine (error_eq _ w5 hE5).mono ?_
              rintro e w6 ⟨rfl, hb6⟩
              have hb6' := hb5.trans (hb6.mono hb5.size)
              have hBx6 := hBx5.below hb6 hBx5.lt
              clear hE5
              go_wp2_with fail
              go_meet
              exact ⟨rfl, _, _, _, HDU.out.below hb6, hb6', hBx6⟩
          · have f0 : (l[k].what == 0) = false := by simpa using e0
            by_cases e1 : l[k].what = 1
            · have f1 : (l[k].what == 1) = true := by simpa using e1
              as_aux_lemma =>
                clear e0 e1
                have y0 : w3.cell? ⟨g, 0, none⟩ = some (.int .i64 l[k].what) := hBx.cell 0
                have y2 : w3.cell? ⟨g, 2, none⟩ = some (txt l[k].key) := hBx.cell 2
                have y3 : w3.cell? ⟨g, 3, none⟩ = some (txt l[k].to) := hBx.cell 3
                have y4 : w3.cell? ⟨g, 4, none⟩ = some (txt l[k].val) := hBx.cell 4
                have y5 : w3.cell? ⟨g, 5, none⟩ = some (.int .i64 l[k].n) := hBx.cell 5
                go_wp2_with fail
                refine (refPut_any m L top (by omega) S2 l[k].key ⟨l[k].n, l[k].val, false⟩ w3 hR).mono ?_
                rintro e w4 ⟨rfl, hf4, hR4⟩
                have hT4 := hT.far hf4 hd
                have hBx4 := hBx.fr hf4 hg2
                have hs4 := hf4.size
                have hbw4 := hf4.below (B := w.heap.size) hb0 (fun q h => (h2 q h).1)
                have HR4 := Lib.hid hR4
                clear y0 y2 y3 y4 y5
                clear hR4
                have y0 : w4.cell? ⟨g, 0, none⟩ = some (.int .i64 l[k].what) := hBx4.cell 0
                have y2 : w4.cell? ⟨g, 2, none⟩ = some (txt l[k].key) := hBx4.cell 2
                have y3 : w4.cell? ⟨g, 3, none⟩ = some (txt l[k].to) := hBx4.cell 3
                have y4 : w4.cell? ⟨g, 4, none⟩ = some (txt l[k].val) := hBx4.cell 4
                have y5 : w4.cell? ⟨g, 5, none⟩ = some (.int .i64 l[k].n) := hBx4.cell 5
                go_wp2_with fail
                refine (Put_any t F top k S1 l[k].key s3 l[k].val s5 l[k].n (by omega) w4 hT4).mono ?_
                rintro e w5 ⟨rfl, hf5, hT5⟩
                have hDu := Duo.join hd h1 h2 hb0 HR4.out hs4 (Below.refl _ _) hf5 hT5 (hMd.putL hT.good l[k].key ⟨l[k].n, l[k].val, false⟩) (by have := putL_len L l[k].key ⟨l[k].n, l[k].val, false⟩ top; omega)
                have hBx5 := hBx4.fr hf5 (fun q => hg1' g q rfl)
                have hb5 : Below w.heap.size w w5 := (hb3.trans hbw4).trans (hf5.below (by omega) (fun q h => (h1 q h).1))
                have HDU := Lib.hid hDu
                have hE5 := hg.below hb5
                clear y0 y2 y3 y4 y5
                clear hDu hT5 hf5 hf4 hbw4 HR4 hT4 hT hR
                go_wp2_with fail
                refine (error_eq _ w5 hE5).mono ?_
                rintro e w6 ⟨rfl, hb6⟩
                have hb6' := hb5.trans (hb6.mono hb5.size)
                have hBx6 := hBx5.below hb6 hBx5.lt
                clear hE5
                go_wp2_with fail
                go_meet
                exact ⟨rfl, _, _, _, HDU.out.below hb6, hb6', hBx6⟩
            · have f1 : (l[k].what == 1) = false := by simpa using e1
              by_cases e2 : l[k].what = 2
              · have f2 : (l[k].what == 2) = true := by simpa using e2
                as_aux_lemma =>
                  clear e0 e1 e2
                  have y0 : w3.cell? ⟨g, 0, none⟩ = some (.int .i64 l[k].what) := hBx.cell 0
                  have y2 : w3.cell? ⟨g, 2, none⟩ = some (txt l[k].key) := hBx.cell 2
                  have y3 : w3.cell? ⟨g, 3, none⟩ = some (txt l[k].to) := hBx.cell 3
                  have y4 : w3.cell? ⟨g, 4, none⟩ = some (txt l[k].val) := hBx.cell 4
                  have y5 : w3.cell? ⟨g, 5, none⟩ = some (.int .i64 l[k].n) := hBx.cell 5
                  go_wp2_with fail
                  refine (refPut_any m L top (by omega) S2 l[k].key ⟨l[k].n, l[k].val, false⟩ w3 hR).mono ?_
                  rintro e w4 ⟨rfl, hf4, hR4⟩
                  have hT4 := hT.far hf4 hd
                  have hBx4 := hBx.fr hf4 hg2
                  have hs4 := hf4.size
                  have hbw4 := hf4.below (B := w.heap.size) hb0 (fun q h => (h2 q h).1)
                  have HR4 := Lib.hid hR4
                  clear y0 y2 y3 y4 y5
                  clear hR4
                  have y0 : w4.cell? ⟨g, 0, none⟩ = some (.int .i64 l[k].what) := hBx4.cell 0
                  have y2 : w4.cell? ⟨g, 2, none⟩ = some (txt l[k].key) := hBx4.cell 2
                  have y3 : w4.cell? ⟨g, 3, none⟩ = some (txt l[k].to) := hBx4.cell 3
                  have y4 : w4.cell? ⟨g, 4, none⟩ = some (txt l[k].val) := hBx4.cell 4
                  have y5 : w4.cell? ⟨g, 5, none⟩ = some (.int .i64 l[k].n) := hBx4.cell 5
                  go_wp2_with fail
                  refine (Put_any t F top k S1 l[k].key s3 l[k].val s5 l[k].n (by omega) w4 hT4).mono ?_
                  rintro e w5 ⟨rfl, hf5, hT5⟩
                  have hDu := Duo.join hd h1 h2 hb0 HR4.out hs4 (Below.refl _ _) hf5 hT5 (hMd.putL hT.good l[k].key ⟨l[k].n, l[k].val, false⟩) (by have := putL_len L l[k].key ⟨l[k].n, l[k].val, false⟩ top; omega)
                  have hBx5 := hBx4.fr hf5 (fun q => hg1' g q rfl)
                  have hb5 : Below w.heap.size w w5 := (hb3.trans hbw4).trans (hf5.below (by omega) (fun q h => (h1 q h).1))
                  have HDU := Lib.hid hDu
                  have hE5 := hg.below hb5
                  clear y0 y2 y3 y4 y5
                  clear hDu hT5 hf5 hf4 hbw4 HR4 hT4 hT hR
                  go_wp2_with fail
                  refine (error_eq _ w5 hE5).mono ?_
                  rintro e w6 ⟨rfl, hb6⟩
                  have hb6' := hb5.trans (hb6.mono hb5.size)
                  have hBx6 := hBx5.below hb6 hBx5.lt
                  clear hE5
                  go_wp2_with fail
                  go_meet
                  exact ⟨rfl, _, _, _, HDU.out.below hb6, hb6', hBx6⟩
              · have f2 : (l[k].what == 2) = false := by simpa using e2
                by_cases e3 : l[k].what = 3
                · have f3 : (l[k].what == 3) = true := by simpa using e3
                  as_aux_lemma =>
                    clear e3
                    clear e0 e1 e2
                    have y0 : w3.cell? ⟨g, 0, none⟩ = some (.int .i64 l[k].what) := hBx.cell 0
                    have y2 : w3.cell? ⟨g, 2, none⟩ = some (txt l[k].key) := hBx.cell 2
                    have y3 : w3.cell? ⟨g, 3, none⟩ = some (txt l[k].to) := hBx.cell 3
                    have y4 : w3.cell? ⟨g, 4, none⟩ = some (txt l[k].val) := hBx.cell 4
                    have y5 : w3.cell? ⟨g, 5, none⟩ = some (.int .i64 l[k].n) := hBx.cell 5
                    go_wp2_with fail
                    refine (refPut_any m L top (by omega) S2 l[k].key ⟨l[k].n, [], true⟩ w3 hR).mono ?_
                    rintro e w4 ⟨rfl, hf4, hR4⟩
                    have hT4 := hT.far hf4 hd
                    have hBx4 := hBx.fr hf4 hg2
                    have hs4 := hf4.size
                    have hbw4 := hf4.below (B := w.heap.size) hb0 (fun q h => (h2 q h).1)
                    have HR4 := Lib.hid hR4
                    clear y0 y2 y3 y4 y5
                    clear hR4
                    have y0 : w4.cell? ⟨g, 0, none⟩ = some (.int .i64 l[k].what) := hBx4.cell 0
                    have y2 : w4.cell? ⟨g, 2, none⟩ = some (txt l[k].key) := hBx4.cell 2
                    have y3 : w4.cell? ⟨g, 3, none⟩ = some (txt l[k].to) := hBx4.cell 3
                    have y4 : w4.cell? ⟨g, 4, none⟩ = some (txt l[k].val) := hBx4.cell 4
                    have y5 : w4.cell? ⟨g, 5, none⟩ = some (.int .i64 l[k].n) := hBx4.cell 5
                    go_wp2_with fail
                    refine (Drop_any t F top k S1 l[k].key s3 l[k].n (by omega) w4 hT4).mono ?_
                    rintro e w5 ⟨rfl, hf5, hT5⟩
                    have hDu := Duo.join hd h1 h2 hb0 HR4.out hs4 (Below.refl _ _) hf5 hT5 (hMd.putL hT.good l[k].key ⟨l[k].n, [], true⟩) (by have := putL_len L l[k].key ⟨l[k].n, [], true⟩ top; omega)
                    have hBx5 := hBx4.fr hf5 (fun q => hg1' g q rfl)
                    have hb5 : Below w.heap.size w w5 := (hb3.trans hbw4).trans (hf5.below (by omega) (fun q h => (h1 q h).1))
                    have HDU := Lib.hid hDu
                    have hE5 := hg.below hb5
                    clear y0 y2 y3 y4 y5
                    clear hDu hT5 hf5 hf4 hbw4 HR4 hT4 hT hR
                    go_wp2_with fail
                    refine (error_eq _ w5 hE5).mono ?_
                    rintro e w6 ⟨rfl, hb6⟩
                    have hb6' := hb5.trans (hb6.mono hb5.size)
                    have hBx6 := hBx5.below hb6 hBx5.lt
                    clear hE5
                    go_wp2_with fail
                    go_meet
                    exact ⟨rfl, _, _, _, HDU.out.below hb6, hb6', hBx6⟩
                · have f3 : (l[k].what == 3) = false := by simpa using e3
                  by_cases e4 : l[k].what = 4
                  · have f4 : (l[k].what == 4) = true := by simpa using e4
                    as_aux_lemma =>
                      clear e4
                      clear e0 e1 e2 e3
                      have HMd := Lib.hid hMd
                      by_cases hn : numB l[k].n = true
                      · obtain ⟨n1, n2⟩ := numB_ok hn
                        have y0 : w3.cell? ⟨g, 0, none⟩ = some (.int .i64 l[k].what) := hBx.cell 0
                        have y2 : w3.cell? ⟨g, 2, none⟩ = some (txt l[k].key) := hBx.cell 2
                        have y3 : w3.cell? ⟨g, 3, none⟩ = some (txt l[k].to) := hBx.cell 3
                        have y4 : w3.cell? ⟨g, 4, none⟩ = some (txt l[k].val) := hBx.cell 4
                        have y5 : w3.cell? ⟨g, 5, none⟩ = some (.int .i64 l[k].n) := hBx.cell 5
                        have d1 : ¬ l[k].n < 0 := by omega
                        have d2 : ¬ 1000000 < l[k].n := by omega
                        have hri : ∀ s, Rising (F s) := hT.good.rise
                        go_wp2_with fail
                        refine (refCollect_any m L F top (by omega) hMd hri S2 l[k].n w3 hR).mono ?_
                        rintro e w4 ⟨rfl, hf4, hR4⟩
                        have hT4 := hT.far hf4 hd
                        have hBx4 := hBx.fr hf4 hg2
                        have hs4 := hf4.size
                        have hbw4 := hf4.below (B := w.heap.size) hb0 (fun q h => (h2 q h).1)
                        have HR4 := Lib.hid hR4
                        have HCC := Lib.hid (HMd.out.col hri l[k].n)
                        have HC1 := Lib.hid (HMd.out.count hri)
                        have HC2 := Lib.hid (HCC.out.count (hT.good.col l[k].n).rise)
                        have hfl : (L.filter (keepC F l[k].n)).length ≤ L.length := List.length_filter_le _ _
                        have HRI := Lib.hid hri
                        clear y0 y2 y3 y4 y5
                        clear hR4 hri
                        have y0 : w4.cell? ⟨g, 0, none⟩ = some (.int .i64 l[k].what) := hBx4.cell 0
                        have y2 : w4.cell? ⟨g, 2, none⟩ = some (txt l[k].key) := hBx4.cell 2
                        have y3 : w4.cell? ⟨g, 3, none⟩ = some (txt l[k].to) := hBx4.cell 3
                        have y4 : w4.cell? ⟨g, 4, none⟩ = some (txt l[k].val) := hBx4.cell 4
                        have y5 : w4.cell? ⟨g, 5, none⟩ = some (.int .i64 l[k].n) := hBx4.cell 5
                        go_wp2_with fail
                        refine (collect_ok t F top k (by omega) S1 l[k].n w4 hT4 hn).mono ?_
                        rintro e w5 ⟨N, j, rfl, hcN, hcJ, hf5, hT5⟩
                        have hNN : N = (L.filter (keepC F l[k].n)).length := hcN.unique HC2.out
                        have hJJ : j + N = L.length := hcJ.unique HC1.out
                        have hjk : (L.length : Int) - ((L.filter (keepC F l[k].n)).length : Int) = (j : Int) := by omega
                        have hDu := Duo.join hd h1 h2 hb0 HR4.out hs4 (Below.refl _ _) hf5 hT5 HCC.out (by omega)
                        have hBx5 := hBx4.fr hf5 (fun q => hg1' g q rfl)
                        have hb5 : Below w.heap.size w w5 := (hb3.trans hbw4).trans (hf5.below (by omega) (fun q h => (h1 q h).1))
                        have HDU := Lib.hid hDu.more
                        have hE5 := hg.below hb5
                        clear y0 y2 y3 y4 y5
                        clear hDu hT5 hf5 hf4 hbw4 HR4 hT4 hT hR hNN hJJ hcN hcJ hfl hMd
                        go_wp2_with fail
                        refine (error_nil0 w5 hE5).mono ?_
                        rintro e w6 ⟨rfl, hb6⟩
                        have hb6' := hb5.trans (hb6.mono hb5.size)
                        have hBx6 := hBx5.below hb6 hBx5.lt
                        have ejj : ((j : Int) == (j : Int)) = true := by simp
                        clear hE5
                        go_wp2_with fail
                        go_meet
                        exact ⟨rfl, _, _, _, HDU.out.below hb6, hb6', hBx6⟩
                      · rw [Bool.not_eq_true] at hn
                        have hnb := numB_bad hn
                        have y0 : w3.cell? ⟨g, 0, none⟩ = some (.int .i64 l[k].what) := hBx.cell 0
                        have y2 : w3.cell? ⟨g, 2, none⟩ = some (txt l[k].key) := hBx.cell 2
                        have y3 : w3.cell? ⟨g, 3, none⟩ = some (txt l[k].to) := hBx.cell 3
                        have y4 : w3.cell? ⟨g, 4, none⟩ = some (txt l[k].val) := hBx.cell 4
                        have y5 : w3.cell? ⟨g, 5, none⟩ = some (.int .i64 l[k].n) := hBx.cell 5
                        have hE3 := hg.below hb3
                        have HDU : Hid (Duo w.heap.size w3 t m F top L (k + 1)) := Lib.hid (Duo.more ⟨S1, S2, hT, hR, hMd, hLn, hd, h1, h2⟩)
                        clear hT hR hMd
                        by_cases n1 : l[k].n < 0
                        all_goals
                          go_wp2_with fail
                          refine (collect_bad _ l[k].n w3 hn).mono ?_
                          rintro e w5 ⟨rfl, rfl⟩
                          go_wp2_with fail
                          refine (error_same 1 (by decide) w5 hE3).mono ?_
                          rintro e w6 ⟨rfl, hb6⟩
                          have hb6' := hb3.trans (hb6.mono hb3.size)
                          have hBx6 := hBx.below hb6 hBx.lt
                          go_wp2_with fail
                          go_meet
                          exact ⟨rfl, _, _, _, HDU.out.below hb6, hb6', hBx6⟩
                  · have f4 : (l[k].what == 4) = false := by simpa using e4
                    as_aux_lemma =>
                      clear e0 e1 e2 e3 e4
                      have y0 : w3.cell? ⟨g, 0, none⟩ = some (.int .i64 l[k].what) := hBx.cell 0
                      have y2 : w3.cell? ⟨g, 2, none⟩ = some (txt l[k].key) := hBx.cell 2
                      have y3 : w3.cell? ⟨g, 3, none⟩ = some (txt l[k].to) := hBx.cell 3
                      have y4 : w3.cell? ⟨g, 4, none⟩ = some (txt l[k].val) := hBx.cell 4
                      have y5 : w3.cell? ⟨g, 5, none⟩ = some (.int .i64 l[k].n) := hBx.cell 5
                      have hE3 := hg.below hb3
                      have hri : ∀ s, Rising (F s) := hT.good.rise
                      have HDU : Hid (Duo w.heap.size w3 t m F top L (k + 1)) := Lib.hid (Duo.more ⟨S1, S2, hT, hR, hMd, hLn, hd, h1, h2⟩)
                      have HRG := Lib.hid (refGet_any m L F top (by omega) hMd hri S2 l[k].key l[k].n w3 hR)
                      have HTG := Lib.hid hT
                      clear hT hR hMd hri
                      go_wp2_with fail
                      refine HRG.out.mono ?_
                      rintro e w4 ⟨rfl, hb4⟩
                      have hBx4 := hBx.below hb4 hBx.lt
                      have hb4' := hb3.trans (hb4.mono hb3.size)
                      have hT4 := HTG.out.below hb4
                      have hE4 := hg.below hb4'
                      generalize hgv : getV F l[k].key l[k].n = gv at *
                      have HGV := Lib.hid hgv
                      have HG := Lib.hid (get_any t F top k S1 l[k].key s3 l[k].n (by omega) w4 hT4)
                      clear y0 y2 y3 y4 y5
                      clear hgv hT4
                      have y0 : w4.cell? ⟨g, 0, none⟩ = some (.int .i64 l[k].what) := hBx4.cell 0
                      have y2 : w4.cell? ⟨g, 2, none⟩ = some (txt l[k].key) := hBx4.cell 2
                      have y3 : w4.cell? ⟨g, 3, none⟩ = some (txt l[k].to) := hBx4.cell 3
                      have y4 : w4.cell? ⟨g, 4, none⟩ = some (txt l[k].val) := hBx4.cell 4
                      have y5 : w4.cell? ⟨g, 5, none⟩ = some (.int .i64 l[k].n) := hBx4.cell 5
                      go_wp2_with fail
                      refine HG.out.mono ?_
                      rintro e w5 ⟨rfl, rfl⟩
                      rw [HGV.out]
                      go_wp2_with fail
                      refine (error_eq gv.2 w5 hE4).mono ?_
                      rintro e w6 ⟨rfl, hb6⟩
                      have hb6' := hb4'.trans (hb6.mono hb4'.size)
                      have hBx6 := hBx4.below hb6 hBx4.lt
                      have hss : (gv.1 == gv.1) = true := by simp
                      go_wp2_with fail
                      go_meet
                      exact ⟨rfl, _, _, _, (HDU.out.below hb4).below hb6, hb6', hBx6⟩
        case rest =>
          as_aux_lemma =>
            obtain ⟨rfl, F, top, L, hDx, hbx, hBx0⟩ := hcut
            have HDX := Lib.hid hDx
            obtain ⟨S1, S2, hT, hR, hMd, hLn, hd, h1, h2⟩ := hDx
            have hEx := hg.below hbx
            have HMd := Lib.hid hMd
            have HRI : Hid (∀ s, Rising (F s)) := Lib.hid hT.good.rise
            have HCN := Lib.hid (HMd.out.count HRI.out)
            have HT := Lib.hid hT
            have HRR := Lib.hid hR
            have hT1 := hT.lt
            obtain ⟨⟨vR, hBR, hrR, _⟩, _⟩ := hR
            obtain ⟨AR, cR, rfl, _⟩ := own_form hrR
            have hmlt := hBR.lt
            have m0 : wc.cell? ⟨m, 0, none⟩ = some (.slice AR L.length cR) := hBR.cell 0
            have m1 : wc.cell? ⟨m, 1, none⟩ = some (.int .i64 top) := hBR.cell 1
            have tpe : (top != top) = false := by simp
            have lle : ((L.length : Int) != (L.length : Int)) = false := by simp
            have hbox := hBx0
            clear hMd hT hBR hrR
            go_wp2_with fail
            go_region_held3 (fun w' => w'.cell? ⟨m, 0, none⟩ = some (.slice AR L.length cR) ∧ w'.cell? ⟨m, 1, none⟩ = some (.int .i64 top))
              (first
                | go_keep
                | (go_split_ands; refine ⟨?_, ?_⟩ <;> (rw [hbZ.cell (by simp; omega)]; assumption)))
              (first
                | (go_at_call 14; refine (Top_any t F top (k + 1) S1 _ (by first | exact HT.out.drew | exact HT.out)).mono ?_; rintro e wA ⟨rfl, rfl⟩)
                | (go_at_call 12; refine (Size_any t F top (k + 1) (by omega) S1 _ (by first | exact HT.out.drew | exact HT.out | exact HT.out.drew.drew)).mono ?_; rintro e wS ⟨N, rfl, hcN, hN, hbZ⟩; obtain rfl := hcN.unique HCN.out)
                | fail)
            have hbS : Below wc.heap.size wc wS := by
              first
                | exact ((Below.refl _ _).drew).trans hbZ
                | exact (((Below.refl _ _).drew).drew).trans hbZ
                | exact hbZ
            have hBS := hbox.below hbS hbox.lt
            have HTS := Lib.hid (HT.out.below hbS)
            have HRS := Lib.hid (HRR.out.below hbS)
            clear hbZ m0 m1 tpe lle hcN hbox hBx0
            by_cases hn : numB l[k].n = true
            · obtain ⟨n1, n2⟩ := numB_ok hn
              have d1 : ¬ l[k].n < 0 := by omega
              have d2 : ¬ 1000000 < l[k].n := by omega
              have y0 : wS.cell? ⟨g, 0, none⟩ = some (.int .i64 l[k].what) := hBS.cell 0
              have y2 : wS.cell? ⟨g, 2, none⟩ = some (txt l[k].key) := hBS.cell 2
              have y3 : wS.cell? ⟨g, 3, none⟩ = some (txt l[k].to) := hBS.cell 3
              have y4 : wS.cell? ⟨g, 4, none⟩ = some (txt l[k].val) := hBS.cell 4
              have y5 : wS.cell? ⟨g, 5, none⟩ = some (.int .i64 l[k].n) := hBS.cell 5
              go_wp2_with fail
              refine (refRange_any m L F top (by omega) HMd.out HRI.out S2 l[k].key l[k].to l[k].n wS HRS.out).mono ?_
              rintro e wa ⟨v1, L1, rfl, ho1, hr1, hl1, hba⟩
              have hBa := hBS.below hba hBS.lt
              have hba' := hbS.trans (hba.mono hbS.size)
              have HR1 := Lib.hid hr1
              have HTa := Lib.hid (HTS.out.below hba)
              have HRa := Lib.hid (HRS.out.below hba)
              obtain ⟨A1, c1, rfl, _⟩ := ho1.rd
              clear y0 y2 y3 y4 y5
              clear hr1 hba
              have y0 : wa.cell? ⟨g, 0, none⟩ = some (.int .i64 l[k].what) := hBa.cell 0
              have y2 : wa.cell? ⟨g, 2, none⟩ = some (txt l[k].key) := hBa.cell 2
              have y3 : wa.cell? ⟨g, 3, none⟩ = some (txt l[k].to) := hBa.cell 3
              have y4 : wa.cell? ⟨g, 4, none⟩ = some (txt l[k].val) := hBa.cell 4
              have y5 : wa.cell? ⟨g, 5, none⟩ = some (.int .i64 l[k].n) := hBa.cell 5
              go_wp2_with fail
              refine (refTouched_any m L F top (by omega) HMd.out HRI.out S2 l[k].key l[k].to l[k].n wa HRa.out).mono ?_
              rintro e wb ⟨r1, rfl, ht1, hbb⟩
              have hBb := hBa.below hbb hBa.lt
              have hbb' := hba'.trans (hbb.mono hba'.size)
              have HT1 := Lib.hid ht1
              have HTb := Lib.hid (HTa.out.below hbb)
              have HRb := Lib.hid (HRa.out.below hbb)
              have ho2 := own_below ho1 hbb
              clear y0 y2 y3 y4 y5
              clear ht1 hbb ho1
              have y0 : wb.cell? ⟨g, 0, none⟩ = some (.int .i64 l[k].what) := hBb.cell 0
              have y2 : wb.cell? ⟨g, 2, none⟩ = some (txt l[k].key) := hBb.cell 2
              have y3 : wb.cell? ⟨g, 3, none⟩ = some (txt l[k].to) := hBb.cell 3
              have y4 : wb.cell? ⟨g, 4, none⟩ = some (txt l[k].val) := hBb.cell 4
              have y5 : wb.cell? ⟨g, 5, none⟩ = some (.int .i64 l[k].n) := hBb.cell 5
              go_wp2_with fail
              refine (range_ok t F top (k + 1) (by omega) S1 l[k].key l[k].to l[k].n wb HTb.out hn).mono ?_
              rintro e wc ⟨v2, L2, rfl, ho3, hr2, _, hbc⟩
              obtain rfl : L2 = L1 := hr2.ext HR1.out (fun _ _ => rfl)
              have hBc := hBb.below hbc hBb.lt
              have hbc' := hbb'.trans (hbc.mono hbb'.size)
              have HTc := Lib.hid (HTb.out.below hbc)
              have HRc := Lib.hid (HRb.out.below hbc)
              have ho4 := own_below ho2 hbc
              have hEc := hEx.below hbc'
              obtain ⟨A2, c2, rfl, _⟩ := ho3.rd
              clear y0 y2 y3 y4 y5
              clear hr2 hbc ho2
              go_wp2_with fail
              refine (error_nil0 wc hEc).mono ?_
              rintro e wd ⟨rfl, hbd⟩
              have hBd := hBc.below hbd hBc.lt
              have hbd' := hbc'.trans (hbd.mono hbc'.size)
              have HTd := Lib.hid (HTc.out.below hbd)
              have HRd := Lib.hid (HRc.out.below hbd)
              have ho5 := own_below ho4 hbd
              have ho6 := own_below ho3 hbd
              obtain ⟨A1', c1', ea1, hq1⟩ := OwnKV.rd ho5
              obtain ⟨A2', c2', ea2, hq2⟩ := OwnKV.rd ho6
              injection ea1 with ea1 _ ea3
              injection ea2 with ea4 _ ea6
              subst ea1 ea3 ea4 ea6
              clear hbd ho3 ho4 hEc
              go_wp2_with fail
              refine (pairs_same _ _ L2 _ _ (by unfold maxLen; omega) wd hq2 hq1).mono ?_
              rintro e we ⟨rfl, hbe⟩
              have hBe := hBd.below hbe hBd.lt
              have hbe' := hbd'.trans (hbe.mono hbd'.size)
              have HTe := Lib.hid (HTd.out.below hbe)
              have HRe := Lib.hid (HRd.out.below hbe)
              clear hbe ho5 ho6 hq1 hq2
              have y0 : we.cell? ⟨g, 0, none⟩ = some (.int .i64 l[k].what) := hBe.cell 0
              have y2 : we.cell? ⟨g, 2, none⟩ = some (txt l[k].key) := hBe.cell 2
              have y3 : we.cell? ⟨g, 3, none⟩ = some (txt l[k].to) := hBe.cell 3
              have y4 : we.cell? ⟨g, 4, none⟩ = some (txt l[k].val) := hBe.cell 4
              have y5 : we.cell? ⟨g, 5, none⟩ = some (.int .i64 l[k].n) := hBe.cell 5
              go_wp2_with fail
              refine (touched_ok t F top (k + 1) (by omega) S1 l[k].key l[k].to l[k].n we HTe.out hn).mono ?_
              rintro e wf ⟨r2, rfl, ht2, hbf⟩
              obtain rfl : r2 = r1 := ht2.unique HT1.out
              have hbf' := hbe'.trans (hbf.mono hbe'.size)
              have hEf := hEx.below hbf'
              clear y0 y2 y3 y4 y5
              clear ht2
              go_wp2_with fail
              refine (error_nil0 wf hEf).mono ?_
              rintro e wg ⟨rfl, hbg⟩
              have hbg' := hbf'.trans (hbg.mono hbf'.size)
              have hrr : (r2 != r2) = false := by simp
              clear hEf hbf hbg
              go_wp2
              go_roundw
              case rel => exact ⟨k + 1, F, top, L, by go_num, by omega, by omega, HDX.out.below hbg', hbx.trans (hbg'.mono hbx.size)⟩
              case measure => simp [intOf]; omega
            · rw [Bool.not_eq_true] at hn
              have hnb := numB_bad hn
              by_cases n1 : l[k].n < 0
              all_goals
                have y0 : wS.cell? ⟨g, 0, none⟩ = some (.int .i64 l[k].what) := hBS.cell 0
                have y2 : wS.cell? ⟨g, 2, none⟩ = some (txt l[k].key) := hBS.cell 2
                have y3 : wS.cell? ⟨g, 3, none⟩ = some (txt l[k].to) := hBS.cell 3
                have y4 : wS.cell? ⟨g, 4, none⟩ = some (txt l[k].val) := hBS.cell 4
                have y5 : wS.cell? ⟨g, 5, none⟩ = some (.int .i64 l[k].n) := hBS.cell 5
                go_wp2_with fail
                refine (range_bad _ _ _ l[k].n wS hn).mono ?_
                rintro e wc2 ⟨rfl, rfl⟩
                have hEc := hEx.below hbS
                go_wp2_with fail
                refine (error_same 1 (by decide) wc2 hEc).mono ?_
                rintro e wd ⟨rfl, hbd⟩
                have hBd := hBS.below hbd hBS.lt
                have hbd' := hbS.trans (hbd.mono hbS.size)
                clear hbd hEc
                go_wp2_with fail
                refine (pairs_same none none [] 0 0 (by unfold maxLen; simp) wd Rd.nil Rd.nil).mono ?_
                rintro e we ⟨rfl, hbe⟩
                have hBe := hBd.below hbe hBd.lt
                have hbe' := hbd'.trans (hbe.mono hbd'.size)
                clear hbe
                clear y0 y2 y3 y4 y5
                have y0 : we.cell? ⟨g, 0, none⟩ = some (.int .i64 l[k].what) := hBe.cell 0
                have y2 : we.cell? ⟨g, 2, none⟩ = some (txt l[k].key) := hBe.cell 2
                have y3 : we.cell? ⟨g, 3, none⟩ = some (txt l[k].to) := hBe.cell 3
                have y4 : we.cell? ⟨g, 4, none⟩ = some (txt l[k].val) := hBe.cell 4
                have y5 : we.cell? ⟨g, 5, none⟩ = some (.int .i64 l[k].n) := hBe.cell 5
                go_wp2_with fail
                refine (touched_bad _ _ _ l[k].n we hn).mono ?_
                rintro e wf ⟨rfl, rfl⟩
                have hEf := hEx.below hbe'
                go_wp2_with fail
                refine (error_same 1 (by decide) wf hEf).mono ?_
                rintro e wg ⟨rfl, hbg⟩
                have hbg' := hbe'.trans (hbg.mono hbe'.size)
                clear hEf hbg
                go_wp2
                go_roundw
                case rel => exact ⟨k + 1, F, top, L, by go_num, by omega, by omega, HDX.out.below hbg', hbx.trans (hbg'.mono hbx.size)⟩
                case measure => simp [intOf]; omega
      · have d40 : decide ((k : Int) < 40) = false := decide_eq_false (by omega)
        clear hD
        go_wp2
        go_ret
        exact ⟨rfl, hb⟩
    · clear hD
      go_wp2
      go_ret
      exact ⟨rfl, hb⟩
end Go.Proofs.YtdmnejanckdajaaDoor
