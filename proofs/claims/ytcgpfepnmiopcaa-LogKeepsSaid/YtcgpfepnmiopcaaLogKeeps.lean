/- The law LogKeeps: the walk of its own text, by the contracts of package log. Any lists, any steps. No conditions. -/
import Derived.Test.YtcgpfepnmiopcaaSteps
namespace Go.Proofs.Ytcgpfepnmiopcaa
set_option linter.unusedVariables false
set_option linter.unusedSimpArgs false
open Go.RowKit

def oneC : List Chg := [⟨[107], [118], false⟩]
theorem oneC_ok : chgFault oneC = 0 := by decide
theorem oneC_small : Small oneC := by
  intro c hc
  simp [oneC] at hc
  subst hc
  simp [maxLen]
theorem oneC_crash : parse (([] ++ frame oneC).take (crashN 6 ([] ++ frame oneC).length 0)) = ([], 0) := by
  have e : ([] ++ frame oneC).take (crashN 6 ([] ++ frame oneC).length 0) = [0, 5, 1, 1, 107, 1] := by decide
  rw [e, parse_step, if_pos (by decide)]

set_option maxRecDepth 100000 in
set_option maxHeartbeats 40000000 in
theorem logKeeps_walk (A : Option Addr) (ls : List (List Chg)) (c : Nat) (hm : ls.length ≤ maxLen) (hml : ∀ x ∈ ls, x.length ≤ maxLen ∧ Small x) (B : Option Addr) (l : List Stp) (d : Nat) (hmb : l.length ≤ maxLen) (hSl : ∀ s ∈ l, (Lit.int .i64 s.n).wf = true)
    (w : World) (hl : RdLL w w.heap.size A ls) (hlb : Rd w w.heap.size B (cellsS l)) :
    Calls Try.prog 3 #[.slice A ls.length c, .slice B l.length d] w fun e w' => e = .returned (.bool true) ∧ Below w.heap.size w w' := by
  have HML := Lib.hid hml
  have HSL := Lib.hid hSl
  have hwl : wrap64 (l.length : Int) = l.length := by unfold maxLen at hmb; unfold wrap64; omega
  have hwls : wrap64 (ls.length : Int) = ls.length := by unfold maxLen at hm; unfold wrap64; omega
  clear hml hSl
  go_enter Try.func3, Try.ntmps3
  go_wp2_with fail
  refine (new_ok 3000 (by omega) w w.heap.size (Nat.le_refl _)).mono ?_
  rintro e w1 ⟨rfl, h1, hbw1⟩
  have hs1 := hbw1.size
  go_wp2_with fail
  refine calls_name ?_
  intro w2 hW2
  have hb12 : Below w1.heap.size w1 w2 := by rw [hW2.out]; exact (Below.refl _ _).alloc (Nat.le_refl _) _
  have h2 := h1.below hb12
  have hrl : Rd w2 w2.heap.size (some ⟨w1.heap.size, 0, none⟩) (cellsC oneC) := by rw [hW2.out]; exact rd_newC w1 oneC _ _ w1.heap.size rfl rfl
  have hbw2 := hbw1.trans (hb12.mono hs1)
  clear hW2 hb12 h1
  refine (h2.append_on (some ⟨w1.heap.size, 0, none⟩) oneC 1 (by simp [oneC, maxLen]) oneC_small oneC_ok hrl (by decide) (by decide)).mono ?_
  rintro e w3 ⟨rfl, v3, h3, hk3, hf3⟩
  have hK3 := Keep.of_LK h2 hk3
  have hbw3 := hbw2.trans hK3.1
  clear h2 hk3 hf3 hK3 hrl
  go_wp2_with fail
  refine (h3.crash 6 (by decide)).mono ?_
  rintro e w4 ⟨rfl, v4, h4, hk4, hf4⟩
  have hK4 := Keep.of_LK h3 hk4
  have hbw4 := hbw3.trans hK4.1
  rw [oneC_crash] at h4
  have h4' : LogAt w4 w.heap.size w.heap.size v4 (-1) false 3000 [] 0 := h4
  clear h3 hk4 hf4 hK4 h4
  go_wp2_with fail
  refine h4'.read_ok.mono ?_
  rintro e w5 ⟨vo, rfl, ho, hb5⟩
  obtain ⟨Ar, cr, rfl, _, _⟩ := ho.rd
  have hpe : (parse []).1.length = 0 := rfl
  rw [hpe]
  have h5 := h4'.below hb5
  have hbw5 := hbw4.trans (hb5.mono hbw4.size)
  clear ho hb5 h4' hpe
  go_wp2_with fail
  refine h5.bytes_ok.mono ?_
  rintro e w6 ⟨vb, rfl, ho, hb6⟩
  obtain ⟨Ab, cb, rfl, _⟩ := own_form ho
  have h6 := h5.below hb6
  have hbw6 := hbw5.trans (hb6.mono hbw5.size)
  clear ho hb6 h5
  have hL6 : Logged w6 w.heap.size w.heap.size 3000 [] 0 := ⟨v4, -1, false, [], 0, h6, fun x hx => by (cases hx), Nat.le_refl _, rfl, [], rfl, trivial, fun _ => rfl⟩
  clear h6
  go_wp2_with fail
  go_loopw [8, 9, 10, 11, 12, 13, 14, 15, 58, 89, 97, 103] (fun v8 v9 i _ _ _ _ _ _ _ _ _ wr => ∃ (k : Nat) (all : List (List Chg)) (ns : Nat) (As : Option Addr) (cs : Nat), k ≤ l.length ∧ i = .int .i64 k ∧ v8 = .slice As ns cs ∧ AllAt wr w.heap.size v9 all ∧ Logged wr w.heap.size w.heap.size 3000 all ns ∧ Below w.heap.size w wr) (fun _ _ i _ _ _ _ _ _ _ _ _ _ => l.length - (intOf i).toNat)
  case atStart => exact ⟨0, [], 0, none, 0, Nat.zero_le _, rfl, rfl, AllAt.nil _ _, hL6, hbw6⟩
  case round =>
    obtain ⟨k, all, ns, As, cs, hk, rfl, rfl, hA, hL, hb⟩ := hrel
    have hb0r := hL.hb
    obtain ⟨Aa, ca, rfl, hca, hraa⟩ := hA.rd hb0r
    clear hraa
    by_cases hlt : k < l.length
    · have dlt : decide ((k : Int) < (l.length : Int)) = true := decide_eq_true (by omega)
      by_cases h40 : k < 40
      · have d40 : decide ((k : Int) < 40) = true := decide_eq_true (by omega)
        obtain ⟨b, off, rfl, hbb, c0, c1, c2, c3, c4, c5⟩ := (hlb.below hb).stp hlt
        have hk0 : (0 : Int) ≤ (k : Int) := by omega
        have hk1 : (k : Int) < (l.length : Int) := by omega
        by_cases hw0 : l[k].what = 0
        · rw [hw0] at c0
          by_cases hn0 : 0 ≤ l[k].n
          · have d1 : decide ((0 : Int) ≤ l[k].n) = true := decide_eq_true hn0
            by_cases hn1 : l[k].n < (ls.length : Int)
            · obtain ⟨m, hm⟩ : ∃ m : Nat, l[k].n = (m : Int) := ⟨l[k].n.toNat, by omega⟩
              rw [hm] at c5
              have hml2 : m < ls.length := by omega
              obtain ⟨bm, om, Cm, cm, hAm, hbm, cmm, hrm⟩ := hl.at hml2
              subst hAm
              have cm1 := (hb.cell (p := ⟨bm, om + m, none⟩) hbm).trans cmm
              have hbmn : ¬ bm = wr.heap.size := by have := hb.size; omega
              have hbml : bm < wr.heap.size := by have := hb.size; omega
              have dm0 : (0 : Int) ≤ (m : Int) := by omega
              have dm1 : (m : Int) < (ls.length : Int) := by omega
              clear d1 hn0 hn1 hm
              go_wp2_with fail
              refine calls_name ?_
              intro w1 hW1
              have hbs : Below wr.heap.size wr w1 := by rw [hW1.out]; exact (Below.refl _ _).alloc (Nat.le_refl _) _
              have hBs : Blk w1 wr.heap.size 38 #[.int .i64 0, .int .i64 l[k].who, strV l[k].key, strV l[k].to, strV l[k].val, .int .i64 (m : Int)] := by rw [hW1.out]; exact Blk.new _ _ _
              have hK0 := Keep.of_below hbs hb0r
              have hL1 := hL.below hbs
              have hA1 := hA.keep hK0
              have hB1 := hb.trans hK0.1
              have hs5 : w1.cell? ⟨wr.heap.size, 5, none⟩ = some (.int .i64 (m : Int)) := hBs.cell 5
              clear hW1 hbs hL hA
              refine (hL1.append Cm ls[m] cm (HML.out ls[m] (List.getElem_mem _)).1 (HML.out ls[m] (List.getElem_mem _)).2 ((hrm.below hB1).more hB1.size)).mono ?_
              rintro e w2 ⟨hK2, hcase⟩
              have hA2 := hA1.keep hK2
              have hB2 := hB1.trans hK2.1
              have hBs2 := hK2.2.2.2 38 wr.heap.size _ (by decide) (by decide) hBs
              have hs52 : w2.cell? ⟨wr.heap.size, 5, none⟩ = some (.int .i64 (m : Int)) := hBs2.cell 5
              have cm2 := (hB2.cell (p := ⟨bm, om + m, none⟩) hbm).trans cmm
              clear hA1 hL1 hs5 hK2 hK0
              rcases hcase with ⟨hf, rfl, hL2⟩ | ⟨ke, rfl, hL2⟩
              · obtain ⟨xs, g1, g2⟩ := hA2
                have hb02 := hL2.hb
                obtain ⟨hq1, hq2, _⟩ := hL2.hn
                have hxl : xs.length = all.length := by simpa using g1.1
                have HG2 := Lib.hid g2
                have HG1 := Lib.hid g1
                have HL2 := Lib.hid hL2
                have hal : all.length ≤ 100000 := by simp at hq2; omega
                clear g1 g2 hL2 hq1 hq2
                go_wp2_with (at_builtin; refine wpList_append_one2 rfl _ _ 22 rfl Try.underlying22 _ 24 infoSl rfl (by decide) w.heap.size (.slice Aa all.length ca) all.length xs rfl HG1.out rfl rfl (by omega) hb02 ?_; intro v3 w3 hown3 hgrow3 hb3)
                have hL3 := HL2.out.grown HG1.out hgrow3
                have hA3 := AllAt.snoc (v := v3) HG2.out hxl (hrm.below hB2) hown3 hb3
                have hB3 := hB2.trans hb3
                obtain ⟨A3, c3, hv3, _, _⟩ := hA3.rd hL3.hb
                subst hv3
                clear hgrow3 hown3 hb3
                have hb0 := hL3.hb
                obtain ⟨AAx, cax, hvx, hcx, hrx⟩ := hA3.rd hb0
                obtain ⟨hn1, hn2, hn3⟩ := hL3.hn
                injection hvx with hvx1 hvx2 hvx3
                subst hvx1
                subst hvx3
                clear hvx2
                have HN3 := Lib.hid hn3
                have HLL := Lib.hid hL3
                have HAA := Lib.hid hA3
                clear hn3
                refine HLL.out.read.mono ?_
                rintro e u1 ⟨vo, rfl, ho, hbu⟩
                obtain ⟨Ar, cr, rfl, _, hro⟩ := ho.rd
                have hK1 := Keep.of_below hbu hb0
                have hL1 := HLL.out.below hbu
                have hA1 := HAA.out.keep hK1
                have hB1 := hB3.trans hK1.1
                have hrx1 := (hrx.below hbu).more hbu.size
                clear hrx ho hbu hK1
                go_wp2_with fail
                refine (lists_same2 Ar _ (all ++ [ls[m]]) _ _ cr _ (by first | rfl | (exact rfl) | simp) (by first | rfl | (exact rfl) | simp) (by omega) (fun x hx => by have := (chgFault_zero.1 (HN3.out x hx)).1; unfold maxLen; omega) u1 hro hrx1).mono ?_
                rintro e u2 ⟨rfl, hbu2⟩
                have hK2 := Keep.of_below hbu2 hL1.hb
                have hL2 := hL1.below hbu2
                have hA2 := hA1.keep hK2
                have hB2 := hB1.trans hK2.1
                clear hro hrx1 hbu2 hK2 hL1 hA1 hB1
                go_wp2
                go_roundw
                case rel => exact ⟨k + 1, (all ++ [ls[m]]), ns, As, cs, by omega, by go_num, rfl, by first | exact hA2 | (have h := hA2; rw [List.length_append] at h; exact h), hL2, hB2⟩
                case measure => simp [intOf]; omega
              · go_wp2_with fail
                have hb0 := hL2.hb
                obtain ⟨AAx, cax, hvx, hcx, hrx⟩ := hA2.rd hb0
                obtain ⟨hn1, hn2, hn3⟩ := hL2.hn
                injection hvx with hvx1 hvx2 hvx3
                subst hvx1
                subst hvx3
                clear hvx2
                have HN3 := Lib.hid hn3
                have HLL := Lib.hid hL2
                have HAA := Lib.hid hA2
                clear hn3
                refine HLL.out.read.mono ?_
                rintro e u1 ⟨vo, rfl, ho, hbu⟩
                obtain ⟨Ar, cr, rfl, _, hro⟩ := ho.rd
                have hK1 := Keep.of_below hbu hb0
                have hL1 := HLL.out.below hbu
                have hA1 := HAA.out.keep hK1
                have hB1 := hB2.trans hK1.1
                have hrx1 := (hrx.below hbu).more hbu.size
                clear hrx ho hbu hK1
                go_wp2_with fail
                refine (lists_same2 Ar _ all _ _ cr _ (by first | rfl | (exact rfl) | simp) (by first | rfl | (exact rfl) | simp) (by omega) (fun x hx => by have := (chgFault_zero.1 (HN3.out x hx)).1; unfold maxLen; omega) u1 hro hrx1).mono ?_
                rintro e u2 ⟨rfl, hbu2⟩
                have hK2 := Keep.of_below hbu2 hL1.hb
                have hL2 := hL1.below hbu2
                have hA2 := hA1.keep hK2
                have hB2 := hB1.trans hK2.1
                clear hro hrx1 hbu2 hK2 hL1 hA1 hB1
                go_wp2
                go_roundw
                case rel => exact ⟨k + 1, all, ns, As, cs, by omega, by go_num, rfl, by first | exact hA2 | (have h := hA2; rw [List.length_append] at h; exact h), hL2, hB2⟩
                case measure => simp [intOf]; omega
            · have d2 : decide (l[k].n < (ls.length : Int)) = false := decide_eq_false hn1
              go_wp2_with fail
              refine calls_name ?_
              intro w1 hW1
              have hbs : Below wr.heap.size wr w1 := by rw [hW1.out]; exact (Below.refl _ _).alloc (Nat.le_refl _) _
              have hK0 := Keep.of_below hbs hb0r
              have hL1 := hL.below hbs
              have hA1 := hA.keep hK0
              have hB1 := hb.trans hK0.1
              clear hW1 hbs hL hA
              have hb0 := hL1.hb
              obtain ⟨AAx, cax, hvx, hcx, hrx⟩ := hA1.rd hb0
              obtain ⟨hn1, hn2, hn3⟩ := hL1.hn
              injection hvx with hvx1 hvx2 hvx3
              subst hvx1
              subst hvx3
              clear hvx2
              have HN3 := Lib.hid hn3
              have HLL := Lib.hid hL1
              have HAA := Lib.hid hA1
              clear hn3
              refine HLL.out.read.mono ?_
              rintro e u1 ⟨vo, rfl, ho, hbu⟩
              obtain ⟨Ar, cr, rfl, _, hro⟩ := ho.rd
              have hK1 := Keep.of_below hbu hb0
              have hL1 := HLL.out.below hbu
              have hA1 := HAA.out.keep hK1
              have hB1 := hB1.trans hK1.1
              have hrx1 := (hrx.below hbu).more hbu.size
              clear hrx ho hbu hK1
              go_wp2_with fail
              refine (lists_same2 Ar _ all _ _ cr _ (by first | rfl | (exact rfl) | simp) (by first | rfl | (exact rfl) | simp) (by omega) (fun x hx => by have := (chgFault_zero.1 (HN3.out x hx)).1; unfold maxLen; omega) u1 hro hrx1).mono ?_
              rintro e u2 ⟨rfl, hbu2⟩
              have hK2 := Keep.of_below hbu2 hL1.hb
              have hL2 := hL1.below hbu2
              have hA2 := hA1.keep hK2
              have hB2 := hB1.trans hK2.1
              clear hro hrx1 hbu2 hK2 hL1 hA1 hB1
              go_wp2
              go_roundw
              case rel => exact ⟨k + 1, all, ns, As, cs, by omega, by go_num, rfl, by first | exact hA2 | (have h := hA2; rw [List.length_append] at h; exact h), hL2, hB2⟩
              case measure => simp [intOf]; omega
          · have d1 : decide ((0 : Int) ≤ l[k].n) = false := decide_eq_false hn0
            go_wp2_with fail
            refine calls_name ?_
            intro w1 hW1
            have hbs : Below wr.heap.size wr w1 := by rw [hW1.out]; exact (Below.refl _ _).alloc (Nat.le_refl _) _
            have hK0 := Keep.of_below hbs hb0r
            have hL1 := hL.below hbs
            have hA1 := hA.keep hK0
            have hB1 := hb.trans hK0.1
            clear hW1 hbs hL hA
            have hb0 := hL1.hb
            obtain ⟨AAx, cax, hvx, hcx, hrx⟩ := hA1.rd hb0
            obtain ⟨hn1, hn2, hn3⟩ := hL1.hn
            injection hvx with hvx1 hvx2 hvx3
            subst hvx1
            subst hvx3
            clear hvx2
            have HN3 := Lib.hid hn3
            have HLL := Lib.hid hL1
            have HAA := Lib.hid hA1
            clear hn3
            refine HLL.out.read.mono ?_
            rintro e u1 ⟨vo, rfl, ho, hbu⟩
            obtain ⟨Ar, cr, rfl, _, hro⟩ := ho.rd
            have hK1 := Keep.of_below hbu hb0
            have hL1 := HLL.out.below hbu
            have hA1 := HAA.out.keep hK1
            have hB1 := hB1.trans hK1.1
            have hrx1 := (hrx.below hbu).more hbu.size
            clear hrx ho hbu hK1
            go_wp2_with fail
            refine (lists_same2 Ar _ all _ _ cr _ (by first | rfl | (exact rfl) | simp) (by first | rfl | (exact rfl) | simp) (by omega) (fun x hx => by have := (chgFault_zero.1 (HN3.out x hx)).1; unfold maxLen; omega) u1 hro hrx1).mono ?_
            rintro e u2 ⟨rfl, hbu2⟩
            have hK2 := Keep.of_below hbu2 hL1.hb
            have hL2 := hL1.below hbu2
            have hA2 := hA1.keep hK2
            have hB2 := hB1.trans hK2.1
            clear hro hrx1 hbu2 hK2 hL1 hA1 hB1
            go_wp2
            go_roundw
            case rel => exact ⟨k + 1, all, ns, As, cs, by omega, by go_num, rfl, by first | exact hA2 | (have h := hA2; rw [List.length_append] at h; exact h), hL2, hB2⟩
            case measure => simp [intOf]; omega
        · have e0 : (l[k].what == 0) = false := by simpa using hw0
          by_cases hw1 : l[k].what = 1
          · rw [hw1] at c0
            by_cases hn0 : 0 ≤ l[k].n
            · have d1 : decide ((0 : Int) ≤ l[k].n) = true := decide_eq_true hn0
              by_cases hn1 : l[k].n < (ls.length : Int)
              · obtain ⟨m, hm⟩ : ∃ m : Nat, l[k].n = (m : Int) := ⟨l[k].n.toNat, by omega⟩
                rw [hm] at c5
                have hml2 : m < ls.length := by omega
                obtain ⟨bm, om, Cm, cm, hAm, hbm, cmm, hrm⟩ := hl.at hml2
                subst hAm
                have cm1 := (hb.cell (p := ⟨bm, om + m, none⟩) hbm).trans cmm
                have hbmn : ¬ bm = wr.heap.size := by have := hb.size; omega
                have hbml : bm < wr.heap.size := by have := hb.size; omega
                have dm0 : (0 : Int) ≤ (m : Int) := by omega
                have dm1 : (m : Int) < (ls.length : Int) := by omega
                clear d1 hn0 hn1 hm
                go_wp2_with fail
                refine calls_name ?_
                intro w1 hW1
                have hbs : Below wr.heap.size wr w1 := by rw [hW1.out]; exact (Below.refl _ _).alloc (Nat.le_refl _) _
                have hBs : Blk w1 wr.heap.size 38 #[.int .i64 1, .int .i64 l[k].who, strV l[k].key, strV l[k].to, strV l[k].val, .int .i64 (m : Int)] := by rw [hW1.out]; exact Blk.new _ _ _
                have hK0 := Keep.of_below hbs hb0r
                have hL1 := hL.below hbs
                have hA1 := hA.keep hK0
                have hB1 := hb.trans hK0.1
                have hs5 : w1.cell? ⟨wr.heap.size, 5, none⟩ = some (.int .i64 (m : Int)) := hBs.cell 5
                clear hW1 hbs hL hA
                refine (hL1.append Cm ls[m] cm (HML.out ls[m] (List.getElem_mem _)).1 (HML.out ls[m] (List.getElem_mem _)).2 ((hrm.below hB1).more hB1.size)).mono ?_
                rintro e w2 ⟨hK2, hcase⟩
                have hA2 := hA1.keep hK2
                have hB2 := hB1.trans hK2.1
                have hBs2 := hK2.2.2.2 38 wr.heap.size _ (by decide) (by decide) hBs
                have hs52 : w2.cell? ⟨wr.heap.size, 5, none⟩ = some (.int .i64 (m : Int)) := hBs2.cell 5
                have cm2 := (hB2.cell (p := ⟨bm, om + m, none⟩) hbm).trans cmm
                clear hA1 hL1 hs5 hK2 hK0
                rcases hcase with ⟨hf, rfl, hL2⟩ | ⟨ke, rfl, hL2⟩
                · obtain ⟨xs, g1, g2⟩ := hA2
                  have hb02 := hL2.hb
                  obtain ⟨hq1, hq2, _⟩ := hL2.hn
                  have hxl : xs.length = all.length := by simpa using g1.1
                  have HG2 := Lib.hid g2
                  have HG1 := Lib.hid g1
                  have HL2 := Lib.hid hL2
                  have hal : all.length ≤ 100000 := by simp at hq2; omega
                  clear g1 g2 hL2 hq1 hq2
                  go_wp2_with (at_builtin; refine wpList_append_one2 rfl _ _ 22 rfl Try.underlying22 _ 24 infoSl rfl (by decide) w.heap.size (.slice Aa all.length ca) all.length xs rfl HG1.out rfl rfl (by omega) hb02 ?_; intro v3 w3 hown3 hgrow3 hb3)
                  have hL3 := HL2.out.grown HG1.out hgrow3
                  have hA3 := AllAt.snoc (v := v3) HG2.out hxl (hrm.below hB2) hown3 hb3
                  have hB3 := hB2.trans hb3
                  obtain ⟨A3, c3, hv3, _, _⟩ := hA3.rd hL3.hb
                  subst hv3
                  clear hgrow3 hown3 hb3
                  have hb0 := hL3.hb
                  obtain ⟨AAx, cax, hvx, hcx, hrx⟩ := hA3.rd hb0
                  obtain ⟨hn1, hn2, hn3⟩ := hL3.hn
                  injection hvx with hvx1 hvx2 hvx3
                  subst hvx1
                  subst hvx3
                  clear hvx2
                  have HN3 := Lib.hid hn3
                  have HLL := Lib.hid hL3
                  have HAA := Lib.hid hA3
                  clear hn3
                  refine HLL.out.read.mono ?_
                  rintro e u1 ⟨vo, rfl, ho, hbu⟩
                  obtain ⟨Ar, cr, rfl, _, hro⟩ := ho.rd
                  have hK1 := Keep.of_below hbu hb0
                  have hL1 := HLL.out.below hbu
                  have hA1 := HAA.out.keep hK1
                  have hB1 := hB3.trans hK1.1
                  have hrx1 := (hrx.below hbu).more hbu.size
                  clear hrx ho hbu hK1
                  go_wp2_with fail
                  refine (lists_same2 Ar _ (all ++ [ls[m]]) _ _ cr _ (by first | rfl | (exact rfl) | simp) (by first | rfl | (exact rfl) | simp) (by omega) (fun x hx => by have := (chgFault_zero.1 (HN3.out x hx)).1; unfold maxLen; omega) u1 hro hrx1).mono ?_
                  rintro e u2 ⟨rfl, hbu2⟩
                  have hK2 := Keep.of_below hbu2 hL1.hb
                  have hL2 := hL1.below hbu2
                  have hA2 := hA1.keep hK2
                  have hB2 := hB1.trans hK2.1
                  clear hro hrx1 hbu2 hK2 hL1 hA1 hB1
                  go_wp2
                  go_roundw
                  case rel => exact ⟨k + 1, (all ++ [ls[m]]), ns, As, cs, by omega, by go_num, rfl, by first | exact hA2 | (have h := hA2; rw [List.length_append] at h; exact h), hL2, hB2⟩
                  case measure => simp [intOf]; omega
                · go_wp2_with fail
                  have hb0 := hL2.hb
                  obtain ⟨AAx, cax, hvx, hcx, hrx⟩ := hA2.rd hb0
                  obtain ⟨hn1, hn2, hn3⟩ := hL2.hn
                  injection hvx with hvx1 hvx2 hvx3
                  subst hvx1
                  subst hvx3
                  clear hvx2
                  have HN3 := Lib.hid hn3
                  have HLL := Lib.hid hL2
                  have HAA := Lib.hid hA2
                  clear hn3
                  refine HLL.out.read.mono ?_
                  rintro e u1 ⟨vo, rfl, ho, hbu⟩
                  obtain ⟨Ar, cr, rfl, _, hro⟩ := ho.rd
                  have hK1 := Keep.of_below hbu hb0
                  have hL1 := HLL.out.below hbu
                  have hA1 := HAA.out.keep hK1
                  have hB1 := hB2.trans hK1.1
                  have hrx1 := (hrx.below hbu).more hbu.size
                  clear hrx ho hbu hK1
                  go_wp2_with fail
                  refine (lists_same2 Ar _ all _ _ cr _ (by first | rfl | (exact rfl) | simp) (by first | rfl | (exact rfl) | simp) (by omega) (fun x hx => by have := (chgFault_zero.1 (HN3.out x hx)).1; unfold maxLen; omega) u1 hro hrx1).mono ?_
                  rintro e u2 ⟨rfl, hbu2⟩
                  have hK2 := Keep.of_below hbu2 hL1.hb
                  have hL2 := hL1.below hbu2
                  have hA2 := hA1.keep hK2
                  have hB2 := hB1.trans hK2.1
                  clear hro hrx1 hbu2 hK2 hL1 hA1 hB1
                  go_wp2
                  go_roundw
                  case rel => exact ⟨k + 1, all, ns, As, cs, by omega, by go_num, rfl, by first | exact hA2 | (have h := hA2; rw [List.length_append] at h; exact h), hL2, hB2⟩
                  case measure => simp [intOf]; omega
              · have d2 : decide (l[k].n < (ls.length : Int)) = false := decide_eq_false hn1
                go_wp2_with fail
                refine calls_name ?_
                intro w1 hW1
                have hbs : Below wr.heap.size wr w1 := by rw [hW1.out]; exact (Below.refl _ _).alloc (Nat.le_refl _) _
                have hK0 := Keep.of_below hbs hb0r
                have hL1 := hL.below hbs
                have hA1 := hA.keep hK0
                have hB1 := hb.trans hK0.1
                clear hW1 hbs hL hA
                have hb0 := hL1.hb
                obtain ⟨AAx, cax, hvx, hcx, hrx⟩ := hA1.rd hb0
                obtain ⟨hn1, hn2, hn3⟩ := hL1.hn
                injection hvx with hvx1 hvx2 hvx3
                subst hvx1
                subst hvx3
                clear hvx2
                have HN3 := Lib.hid hn3
                have HLL := Lib.hid hL1
                have HAA := Lib.hid hA1
                clear hn3
                refine HLL.out.read.mono ?_
                rintro e u1 ⟨vo, rfl, ho, hbu⟩
                obtain ⟨Ar, cr, rfl, _, hro⟩ := ho.rd
                have hK1 := Keep.of_below hbu hb0
                have hL1 := HLL.out.below hbu
                have hA1 := HAA.out.keep hK1
                have hB1 := hB1.trans hK1.1
                have hrx1 := (hrx.below hbu).more hbu.size
                clear hrx ho hbu hK1
                go_wp2_with fail
                refine (lists_same2 Ar _ all _ _ cr _ (by first | rfl | (exact rfl) | simp) (by first | rfl | (exact rfl) | simp) (by omega) (fun x hx => by have := (chgFault_zero.1 (HN3.out x hx)).1; unfold maxLen; omega) u1 hro hrx1).mono ?_
                rintro e u2 ⟨rfl, hbu2⟩
                have hK2 := Keep.of_below hbu2 hL1.hb
                have hL2 := hL1.below hbu2
                have hA2 := hA1.keep hK2
                have hB2 := hB1.trans hK2.1
                clear hro hrx1 hbu2 hK2 hL1 hA1 hB1
                go_wp2
                go_roundw
                case rel => exact ⟨k + 1, all, ns, As, cs, by omega, by go_num, rfl, by first | exact hA2 | (have h := hA2; rw [List.length_append] at h; exact h), hL2, hB2⟩
                case measure => simp [intOf]; omega
            · have d1 : decide ((0 : Int) ≤ l[k].n) = false := decide_eq_false hn0
              go_wp2_with fail
              refine calls_name ?_
              intro w1 hW1
              have hbs : Below wr.heap.size wr w1 := by rw [hW1.out]; exact (Below.refl _ _).alloc (Nat.le_refl _) _
              have hK0 := Keep.of_below hbs hb0r
              have hL1 := hL.below hbs
              have hA1 := hA.keep hK0
              have hB1 := hb.trans hK0.1
              clear hW1 hbs hL hA
              have hb0 := hL1.hb
              obtain ⟨AAx, cax, hvx, hcx, hrx⟩ := hA1.rd hb0
              obtain ⟨hn1, hn2, hn3⟩ := hL1.hn
              injection hvx with hvx1 hvx2 hvx3
              subst hvx1
              subst hvx3
              clear hvx2
              have HN3 := Lib.hid hn3
              have HLL := Lib.hid hL1
              have HAA := Lib.hid hA1
              clear hn3
              refine HLL.out.read.mono ?_
              rintro e u1 ⟨vo, rfl, ho, hbu⟩
              obtain ⟨Ar, cr, rfl, _, hro⟩ := ho.rd
              have hK1 := Keep.of_below hbu hb0
              have hL1 := HLL.out.below hbu
              have hA1 := HAA.out.keep hK1
              have hB1 := hB1.trans hK1.1
              have hrx1 := (hrx.below hbu).more hbu.size
              clear hrx ho hbu hK1
              go_wp2_with fail
              refine (lists_same2 Ar _ all _ _ cr _ (by first | rfl | (exact rfl) | simp) (by first | rfl | (exact rfl) | simp) (by omega) (fun x hx => by have := (chgFault_zero.1 (HN3.out x hx)).1; unfold maxLen; omega) u1 hro hrx1).mono ?_
              rintro e u2 ⟨rfl, hbu2⟩
              have hK2 := Keep.of_below hbu2 hL1.hb
              have hL2 := hL1.below hbu2
              have hA2 := hA1.keep hK2
              have hB2 := hB1.trans hK2.1
              clear hro hrx1 hbu2 hK2 hL1 hA1 hB1
              go_wp2
              go_roundw
              case rel => exact ⟨k + 1, all, ns, As, cs, by omega, by go_num, rfl, by first | exact hA2 | (have h := hA2; rw [List.length_append] at h; exact h), hL2, hB2⟩
              case measure => simp [intOf]; omega
          · have e1 : (l[k].what == 1) = false := by simpa using hw1
            by_cases hw2 : l[k].what = 2
            · rw [hw2] at c0
              by_cases hn0 : 0 ≤ l[k].n
              · have d1 : decide ((0 : Int) ≤ l[k].n) = true := decide_eq_true hn0
                by_cases hn1 : l[k].n < (ls.length : Int)
                · obtain ⟨m, hm⟩ : ∃ m : Nat, l[k].n = (m : Int) := ⟨l[k].n.toNat, by omega⟩
                  rw [hm] at c5
                  have hml2 : m < ls.length := by omega
                  obtain ⟨bm, om, Cm, cm, hAm, hbm, cmm, hrm⟩ := hl.at hml2
                  subst hAm
                  have cm1 := (hb.cell (p := ⟨bm, om + m, none⟩) hbm).trans cmm
                  have hbmn : ¬ bm = wr.heap.size := by have := hb.size; omega
                  have hbml : bm < wr.heap.size := by have := hb.size; omega
                  have dm0 : (0 : Int) ≤ (m : Int) := by omega
                  have dm1 : (m : Int) < (ls.length : Int) := by omega
                  clear d1 hn0 hn1 hm
                  go_wp2_with fail
                  refine calls_name ?_
                  intro w1 hW1
                  have hbs : Below wr.heap.size wr w1 := by rw [hW1.out]; exact (Below.refl _ _).alloc (Nat.le_refl _) _
                  have hBs : Blk w1 wr.heap.size 38 #[.int .i64 2, .int .i64 l[k].who, strV l[k].key, strV l[k].to, strV l[k].val, .int .i64 (m : Int)] := by rw [hW1.out]; exact Blk.new _ _ _
                  have hK0 := Keep.of_below hbs hb0r
                  have hL1 := hL.below hbs
                  have hA1 := hA.keep hK0
                  have hB1 := hb.trans hK0.1
                  have hs5 : w1.cell? ⟨wr.heap.size, 5, none⟩ = some (.int .i64 (m : Int)) := hBs.cell 5
                  clear hW1 hbs hL hA
                  refine (hL1.append Cm ls[m] cm (HML.out ls[m] (List.getElem_mem _)).1 (HML.out ls[m] (List.getElem_mem _)).2 ((hrm.below hB1).more hB1.size)).mono ?_
                  rintro e w2 ⟨hK2, hcase⟩
                  have hA2 := hA1.keep hK2
                  have hB2 := hB1.trans hK2.1
                  have hBs2 := hK2.2.2.2 38 wr.heap.size _ (by decide) (by decide) hBs
                  have hs52 : w2.cell? ⟨wr.heap.size, 5, none⟩ = some (.int .i64 (m : Int)) := hBs2.cell 5
                  have cm2 := (hB2.cell (p := ⟨bm, om + m, none⟩) hbm).trans cmm
                  clear hA1 hL1 hs5 hK2 hK0
                  rcases hcase with ⟨hf, rfl, hL2⟩ | ⟨ke, rfl, hL2⟩
                  · obtain ⟨xs, g1, g2⟩ := hA2
                    have hb02 := hL2.hb
                    obtain ⟨hq1, hq2, _⟩ := hL2.hn
                    have hxl : xs.length = all.length := by simpa using g1.1
                    have HG2 := Lib.hid g2
                    have HG1 := Lib.hid g1
                    have HL2 := Lib.hid hL2
                    have hal : all.length ≤ 100000 := by simp at hq2; omega
                    clear g1 g2 hL2 hq1 hq2
                    go_wp2_with (at_builtin; refine wpList_append_one2 rfl _ _ 22 rfl Try.underlying22 _ 24 infoSl rfl (by decide) w.heap.size (.slice Aa all.length ca) all.length xs rfl HG1.out rfl rfl (by omega) hb02 ?_; intro v3 w3 hown3 hgrow3 hb3)
                    have hL3 := HL2.out.grown HG1.out hgrow3
                    have hA3 := AllAt.snoc (v := v3) HG2.out hxl (hrm.below hB2) hown3 hb3
                    have hB3 := hB2.trans hb3
                    obtain ⟨A3, c3, hv3, _, _⟩ := hA3.rd hL3.hb
                    subst hv3
                    clear hgrow3 hown3 hb3
                    have hb0 := hL3.hb
                    obtain ⟨AAx, cax, hvx, hcx, hrx⟩ := hA3.rd hb0
                    obtain ⟨hn1, hn2, hn3⟩ := hL3.hn
                    injection hvx with hvx1 hvx2 hvx3
                    subst hvx1
                    subst hvx3
                    clear hvx2
                    have HN3 := Lib.hid hn3
                    have HLL := Lib.hid hL3
                    have HAA := Lib.hid hA3
                    clear hn3
                    refine HLL.out.read.mono ?_
                    rintro e u1 ⟨vo, rfl, ho, hbu⟩
                    obtain ⟨Ar, cr, rfl, _, hro⟩ := ho.rd
                    have hK1 := Keep.of_below hbu hb0
                    have hL1 := HLL.out.below hbu
                    have hA1 := HAA.out.keep hK1
                    have hB1 := hB3.trans hK1.1
                    have hrx1 := (hrx.below hbu).more hbu.size
                    clear hrx ho hbu hK1
                    go_wp2_with fail
                    refine (lists_same2 Ar _ (all ++ [ls[m]]) _ _ cr _ (by first | rfl | (exact rfl) | simp) (by first | rfl | (exact rfl) | simp) (by omega) (fun x hx => by have := (chgFault_zero.1 (HN3.out x hx)).1; unfold maxLen; omega) u1 hro hrx1).mono ?_
                    rintro e u2 ⟨rfl, hbu2⟩
                    have hK2 := Keep.of_below hbu2 hL1.hb
                    have hL2 := hL1.below hbu2
                    have hA2 := hA1.keep hK2
                    have hB2 := hB1.trans hK2.1
                    clear hro hrx1 hbu2 hK2 hL1 hA1 hB1
                    go_wp2
                    go_roundw
                    case rel => exact ⟨k + 1, (all ++ [ls[m]]), ns, As, cs, by omega, by go_num, rfl, by first | exact hA2 | (have h := hA2; rw [List.length_append] at h; exact h), hL2, hB2⟩
                    case measure => simp [intOf]; omega
                  · go_wp2_with fail
                    have hb0 := hL2.hb
                    obtain ⟨AAx, cax, hvx, hcx, hrx⟩ := hA2.rd hb0
                    obtain ⟨hn1, hn2, hn3⟩ := hL2.hn
                    injection hvx with hvx1 hvx2 hvx3
                    subst hvx1
                    subst hvx3
                    clear hvx2
                    have HN3 := Lib.hid hn3
                    have HLL := Lib.hid hL2
                    have HAA := Lib.hid hA2
                    clear hn3
                    refine HLL.out.read.mono ?_
                    rintro e u1 ⟨vo, rfl, ho, hbu⟩
                    obtain ⟨Ar, cr, rfl, _, hro⟩ := ho.rd
                    have hK1 := Keep.of_below hbu hb0
                    have hL1 := HLL.out.below hbu
                    have hA1 := HAA.out.keep hK1
                    have hB1 := hB2.trans hK1.1
                    have hrx1 := (hrx.below hbu).more hbu.size
                    clear hrx ho hbu hK1
                    go_wp2_with fail
                    refine (lists_same2 Ar _ all _ _ cr _ (by first | rfl | (exact rfl) | simp) (by first | rfl | (exact rfl) | simp) (by omega) (fun x hx => by have := (chgFault_zero.1 (HN3.out x hx)).1; unfold maxLen; omega) u1 hro hrx1).mono ?_
                    rintro e u2 ⟨rfl, hbu2⟩
                    have hK2 := Keep.of_below hbu2 hL1.hb
                    have hL2 := hL1.below hbu2
                    have hA2 := hA1.keep hK2
                    have hB2 := hB1.trans hK2.1
                    clear hro hrx1 hbu2 hK2 hL1 hA1 hB1
                    go_wp2
                    go_roundw
                    case rel => exact ⟨k + 1, all, ns, As, cs, by omega, by go_num, rfl, by first | exact hA2 | (have h := hA2; rw [List.length_append] at h; exact h), hL2, hB2⟩
                    case measure => simp [intOf]; omega
                · have d2 : decide (l[k].n < (ls.length : Int)) = false := decide_eq_false hn1
                  go_wp2_with fail
                  refine calls_name ?_
                  intro w1 hW1
                  have hbs : Below wr.heap.size wr w1 := by rw [hW1.out]; exact (Below.refl _ _).alloc (Nat.le_refl _) _
                  have hK0 := Keep.of_below hbs hb0r
                  have hL1 := hL.below hbs
                  have hA1 := hA.keep hK0
                  have hB1 := hb.trans hK0.1
                  clear hW1 hbs hL hA
                  have hb0 := hL1.hb
                  obtain ⟨AAx, cax, hvx, hcx, hrx⟩ := hA1.rd hb0
                  obtain ⟨hn1, hn2, hn3⟩ := hL1.hn
                  injection hvx with hvx1 hvx2 hvx3
                  subst hvx1
                  subst hvx3
                  clear hvx2
                  have HN3 := Lib.hid hn3
                  have HLL := Lib.hid hL1
                  have HAA := Lib.hid hA1
                  clear hn3
                  refine HLL.out.read.mono ?_
                  rintro e u1 ⟨vo, rfl, ho, hbu⟩
                  obtain ⟨Ar, cr, rfl, _, hro⟩ := ho.rd
                  have hK1 := Keep.of_below hbu hb0
                  have hL1 := HLL.out.below hbu
                  have hA1 := HAA.out.keep hK1
                  have hB1 := hB1.trans hK1.1
                  have hrx1 := (hrx.below hbu).more hbu.size
                  clear hrx ho hbu hK1
                  go_wp2_with fail
                  refine (lists_same2 Ar _ all _ _ cr _ (by first | rfl | (exact rfl) | simp) (by first | rfl | (exact rfl) | simp) (by omega) (fun x hx => by have := (chgFault_zero.1 (HN3.out x hx)).1; unfold maxLen; omega) u1 hro hrx1).mono ?_
                  rintro e u2 ⟨rfl, hbu2⟩
                  have hK2 := Keep.of_below hbu2 hL1.hb
                  have hL2 := hL1.below hbu2
                  have hA2 := hA1.keep hK2
                  have hB2 := hB1.trans hK2.1
                  clear hro hrx1 hbu2 hK2 hL1 hA1 hB1
                  go_wp2
                  go_roundw
                  case rel => exact ⟨k + 1, all, ns, As, cs, by omega, by go_num, rfl, by first | exact hA2 | (have h := hA2; rw [List.length_append] at h; exact h), hL2, hB2⟩
                  case measure => simp [intOf]; omega
              · have d1 : decide ((0 : Int) ≤ l[k].n) = false := decide_eq_false hn0
                go_wp2_with fail
                refine calls_name ?_
                intro w1 hW1
                have hbs : Below wr.heap.size wr w1 := by rw [hW1.out]; exact (Below.refl _ _).alloc (Nat.le_refl _) _
                have hK0 := Keep.of_below hbs hb0r
                have hL1 := hL.below hbs
                have hA1 := hA.keep hK0
                have hB1 := hb.trans hK0.1
                clear hW1 hbs hL hA
                have hb0 := hL1.hb
                obtain ⟨AAx, cax, hvx, hcx, hrx⟩ := hA1.rd hb0
                obtain ⟨hn1, hn2, hn3⟩ := hL1.hn
                injection hvx with hvx1 hvx2 hvx3
                subst hvx1
                subst hvx3
                clear hvx2
                have HN3 := Lib.hid hn3
                have HLL := Lib.hid hL1
                have HAA := Lib.hid hA1
                clear hn3
                refine HLL.out.read.mono ?_
                rintro e u1 ⟨vo, rfl, ho, hbu⟩
                obtain ⟨Ar, cr, rfl, _, hro⟩ := ho.rd
                have hK1 := Keep.of_below hbu hb0
                have hL1 := HLL.out.below hbu
                have hA1 := HAA.out.keep hK1
                have hB1 := hB1.trans hK1.1
                have hrx1 := (hrx.below hbu).more hbu.size
                clear hrx ho hbu hK1
                go_wp2_with fail
                refine (lists_same2 Ar _ all _ _ cr _ (by first | rfl | (exact rfl) | simp) (by first | rfl | (exact rfl) | simp) (by omega) (fun x hx => by have := (chgFault_zero.1 (HN3.out x hx)).1; unfold maxLen; omega) u1 hro hrx1).mono ?_
                rintro e u2 ⟨rfl, hbu2⟩
                have hK2 := Keep.of_below hbu2 hL1.hb
                have hL2 := hL1.below hbu2
                have hA2 := hA1.keep hK2
                have hB2 := hB1.trans hK2.1
                clear hro hrx1 hbu2 hK2 hL1 hA1 hB1
                go_wp2
                go_roundw
                case rel => exact ⟨k + 1, all, ns, As, cs, by omega, by go_num, rfl, by first | exact hA2 | (have h := hA2; rw [List.length_append] at h; exact h), hL2, hB2⟩
                case measure => simp [intOf]; omega
            · have e2 : (l[k].what == 2) = false := by simpa using hw2
              by_cases hw3 : l[k].what = 3
              · rw [hw3] at c0
                go_wp2_with fail
                refine calls_name ?_
                intro w1 hW1
                have hbs : Below wr.heap.size wr w1 := by rw [hW1.out]; exact (Below.refl _ _).alloc (Nat.le_refl _) _
                have hBs : Blk w1 wr.heap.size 38 #[.int .i64 3, .int .i64 l[k].who, strV l[k].key, strV l[k].to, strV l[k].val, .int .i64 l[k].n] := by rw [hW1.out]; exact Blk.new _ _ _
                have hK0 := Keep.of_below hbs hb0r
                have hL1 := hL.below hbs
                have hA1 := hA.keep hK0
                have hB1 := hb.trans hK0.1
                have hs5 : w1.cell? ⟨wr.heap.size, 5, none⟩ = some (.int .i64 l[k].n) := hBs.cell 5
                clear hW1 hbs hL hA
                refine hL1.sync.mono ?_
                rintro e w2 ⟨hK2, hcase⟩
                have hA2 := hA1.keep hK2
                have hB2 := hB1.trans hK2.1
                clear hA1 hL1 hs5 hK2 hK0 hBs
                rcases hcase with ⟨rfl, hL2⟩ | ⟨rfl, hL2⟩
                · obtain ⟨xs, g1, g2⟩ := hA2
                  have hb02 := hL2.hb
                  obtain ⟨_, hq2, _⟩ := hL2.hn
                  have hxl : xs.length = all.length := by simpa using g1.1
                  obtain ⟨Ay, cy, hvy, _, hry⟩ := own_form2 g1
                  injection hvy with hy1 hy2 hy3
                  subst hy1
                  subst hy3
                  have hone := AllAt.one hxl g2
                  have HA2 : Hid (AllAt w2 w.heap.size (.slice Aa all.length ca) all) := Lib.hid ⟨xs, g1, g2⟩
                  have HL2 := Lib.hid hL2
                  clear g1 g2 hL2
                  go_wp2_with (at_builtin; refine wpList_append_rd rfl _ _ 22 rfl 32 Try.underlying22 _ 1 24 infoSl rfl (by decide) w2.heap.size _ 0 [] rfl (World.ownsRow_nil _ _ _ _) w2.heap.size Aa all.length ca xs rfl (by rw [hxl]; omega) hry hone (by unfold maxLen; omega) (by omega) (Nat.le_refl _) ?_; intro v3 w3 hown3 hb3; obtain ⟨A3, c3, hv3, _⟩ := own_form hown3; subst hv3; have hK3 := Keep.of_below hb3 hb02; have hL3 := HL2.out.below hb3; have hA3 := HA2.out.keep hK3; have hB3 := hB2.trans hK3.1)
                  clear hown3 hb3 hone hry
                  have hb0 := hL3.hb
                  obtain ⟨AAx, cax, hvx, hcx, hrx⟩ := hA3.rd hb0
                  obtain ⟨hn1, hn2, hn3⟩ := hL3.hn
                  injection hvx with hvx1 hvx2 hvx3
                  subst hvx1
                  subst hvx3
                  clear hvx2
                  have HN3 := Lib.hid hn3
                  have HLL := Lib.hid hL3
                  have HAA := Lib.hid hA3
                  clear hn3
                  refine HLL.out.read.mono ?_
                  rintro e u1 ⟨vo, rfl, ho, hbu⟩
                  obtain ⟨Ar, cr, rfl, _, hro⟩ := ho.rd
                  have hK1 := Keep.of_below hbu hb0
                  have hL1 := HLL.out.below hbu
                  have hA1 := HAA.out.keep hK1
                  have hB1 := hB3.trans hK1.1
                  have hrx1 := (hrx.below hbu).more hbu.size
                  clear hrx ho hbu hK1
                  go_wp2_with fail
                  refine (lists_same2 Ar _ all _ _ cr _ (by first | rfl | (exact rfl) | simp) (by first | rfl | (exact rfl) | simp) (by omega) (fun x hx => by have := (chgFault_zero.1 (HN3.out x hx)).1; unfold maxLen; omega) u1 hro hrx1).mono ?_
                  rintro e u2 ⟨rfl, hbu2⟩
                  have hK2 := Keep.of_below hbu2 hL1.hb
                  have hL2 := hL1.below hbu2
                  have hA2 := hA1.keep hK2
                  have hB2 := hB1.trans hK2.1
                  clear hro hrx1 hbu2 hK2 hL1 hA1 hB1
                  go_wp2
                  go_roundw
                  case rel => exact ⟨k + 1, all, all.length, A3, c3, by omega, by go_num, rfl, by first | exact hA2 | (have h := hA2; rw [List.length_append] at h; exact h), hL2, hB2⟩
                  case measure => simp [intOf]; omega
                · go_wp2_with fail
                  have hb0 := hL2.hb
                  obtain ⟨AAx, cax, hvx, hcx, hrx⟩ := hA2.rd hb0
                  obtain ⟨hn1, hn2, hn3⟩ := hL2.hn
                  injection hvx with hvx1 hvx2 hvx3
                  subst hvx1
                  subst hvx3
                  clear hvx2
                  have HN3 := Lib.hid hn3
                  have HLL := Lib.hid hL2
                  have HAA := Lib.hid hA2
                  clear hn3
                  refine HLL.out.read.mono ?_
                  rintro e u1 ⟨vo, rfl, ho, hbu⟩
                  obtain ⟨Ar, cr, rfl, _, hro⟩ := ho.rd
                  have hK1 := Keep.of_below hbu hb0
                  have hL1 := HLL.out.below hbu
                  have hA1 := HAA.out.keep hK1
                  have hB1 := hB2.trans hK1.1
                  have hrx1 := (hrx.below hbu).more hbu.size
                  clear hrx ho hbu hK1
                  go_wp2_with fail
                  refine (lists_same2 Ar _ all _ _ cr _ (by first | rfl | (exact rfl) | simp) (by first | rfl | (exact rfl) | simp) (by omega) (fun x hx => by have := (chgFault_zero.1 (HN3.out x hx)).1; unfold maxLen; omega) u1 hro hrx1).mono ?_
                  rintro e u2 ⟨rfl, hbu2⟩
                  have hK2 := Keep.of_below hbu2 hL1.hb
                  have hL2 := hL1.below hbu2
                  have hA2 := hA1.keep hK2
                  have hB2 := hB1.trans hK2.1
                  clear hro hrx1 hbu2 hK2 hL1 hA1 hB1
                  go_wp2
                  go_roundw
                  case rel => exact ⟨k + 1, all, ns, As, cs, by omega, by go_num, rfl, by first | exact hA2 | (have h := hA2; rw [List.length_append] at h; exact h), hL2, hB2⟩
                  case measure => simp [intOf]; omega
              · have e3 : (l[k].what == 3) = false := by simpa using hw3
                by_cases hw4 : l[k].what = 4
                · rw [hw4] at c0
                  go_wp2_with fail
                  refine calls_name ?_
                  intro w1 hW1
                  have hbs : Below wr.heap.size wr w1 := by rw [hW1.out]; exact (Below.refl _ _).alloc (Nat.le_refl _) _
                  have hBs : Blk w1 wr.heap.size 38 #[.int .i64 4, .int .i64 l[k].who, strV l[k].key, strV l[k].to, strV l[k].val, .int .i64 l[k].n] := by rw [hW1.out]; exact Blk.new _ _ _
                  have hK0 := Keep.of_below hbs hb0r
                  have hL1 := hL.below hbs
                  have hA1 := hA.keep hK0
                  have hB1 := hb.trans hK0.1
                  have hs5 : w1.cell? ⟨wr.heap.size, 5, none⟩ = some (.int .i64 l[k].n) := hBs.cell 5
                  clear hW1 hbs hL hA
                  refine (hL1.fail _ (HSL.out l[k] (List.getElem_mem _))).mono ?_
                  rintro e w2 ⟨rfl, hK2, hL2⟩
                  have hA2 := hA1.keep hK2
                  have hB2 := hB1.trans hK2.1
                  clear hA1 hL1 hs5 hK2 hK0 hBs
                  go_wp2_with fail
                  have hb0 := hL2.hb
                  obtain ⟨AAx, cax, hvx, hcx, hrx⟩ := hA2.rd hb0
                  obtain ⟨hn1, hn2, hn3⟩ := hL2.hn
                  injection hvx with hvx1 hvx2 hvx3
                  subst hvx1
                  subst hvx3
                  clear hvx2
                  have HN3 := Lib.hid hn3
                  have HLL := Lib.hid hL2
                  have HAA := Lib.hid hA2
                  clear hn3
                  refine HLL.out.read.mono ?_
                  rintro e u1 ⟨vo, rfl, ho, hbu⟩
                  obtain ⟨Ar, cr, rfl, _, hro⟩ := ho.rd
                  have hK1 := Keep.of_below hbu hb0
                  have hL1 := HLL.out.below hbu
                  have hA1 := HAA.out.keep hK1
                  have hB1 := hB2.trans hK1.1
                  have hrx1 := (hrx.below hbu).more hbu.size
                  clear hrx ho hbu hK1
                  go_wp2_with fail
                  refine (lists_same2 Ar _ all _ _ cr _ (by first | rfl | (exact rfl) | simp) (by first | rfl | (exact rfl) | simp) (by omega) (fun x hx => by have := (chgFault_zero.1 (HN3.out x hx)).1; unfold maxLen; omega) u1 hro hrx1).mono ?_
                  rintro e u2 ⟨rfl, hbu2⟩
                  have hK2 := Keep.of_below hbu2 hL1.hb
                  have hL2 := hL1.below hbu2
                  have hA2 := hA1.keep hK2
                  have hB2 := hB1.trans hK2.1
                  clear hro hrx1 hbu2 hK2 hL1 hA1 hB1
                  go_wp2
                  go_roundw
                  case rel => exact ⟨k + 1, all, ns, As, cs, by omega, by go_num, rfl, by first | exact hA2 | (have h := hA2; rw [List.length_append] at h; exact h), hL2, hB2⟩
                  case measure => simp [intOf]; omega
                · have e4 : (l[k].what == 4) = false := by simpa using hw4
                  by_cases hw5 : l[k].what = 5
                  · rw [hw5] at c0
                    go_wp2_with fail
                    refine calls_name ?_
                    intro w1 hW1
                    have hbs : Below wr.heap.size wr w1 := by rw [hW1.out]; exact (Below.refl _ _).alloc (Nat.le_refl _) _
                    have hBs : Blk w1 wr.heap.size 38 #[.int .i64 5, .int .i64 l[k].who, strV l[k].key, strV l[k].to, strV l[k].val, .int .i64 l[k].n] := by rw [hW1.out]; exact Blk.new _ _ _
                    have hK0 := Keep.of_below hbs hb0r
                    have hL1 := hL.below hbs
                    have hA1 := hA.keep hK0
                    have hB1 := hb.trans hK0.1
                    have hs5 : w1.cell? ⟨wr.heap.size, 5, none⟩ = some (.int .i64 l[k].n) := hBs.cell 5
                    clear hW1 hbs hL hA
                    refine (hL1.crash _ (HSL.out l[k] (List.getElem_mem _))).mono ?_
                    rintro e w2 ⟨rfl, hK2, kk, hk1, hk2, hL2⟩
                    have hA2 := hA1.keep hK2
                    have hB2 := hB1.trans hK2.1
                    clear hA1 hL1 hs5 hK2 hK0 hBs
                    go_wp2_with fail
                    refine hL2.read.mono ?_
                    rintro e w3 ⟨vo, rfl, ho, hb3⟩
                    obtain ⟨Ar, cr, rfl, _, _⟩ := ho.rd
                    have hlk : (all.take kk).length = kk := by simp; omega
                    rw [hlk]
                    have hK3 := Keep.of_below hb3 hL2.hb
                    have hL3 := hL2.below hb3
                    have hA3 := (hA2.keep hK3).shrink hk2
                    have hB3 := hB2.trans hK3.1
                    have hb03 := hL3.hb
                    obtain ⟨_, hq2, _⟩ := hL3.hn
                    have dk1 : decide ((kk : Int) < (ns : Int)) = false := decide_eq_false (by omega)
                    have dk2 : decide ((all.length : Int) < (kk : Int)) = false := decide_eq_false (by omega)
                    have dk3 : (kk : Int) ≤ (ca : Int) := by omega
                    have dk0 : (0 : Int) ≤ (kk : Int) := by omega
                    obtain ⟨xs, g1, g2⟩ := hA3
                    have hxl : xs.length = kk := by rw [← hlk]; simpa using g1.1
                    obtain ⟨Ay, cy, hvy, _, hry⟩ := own_form2 g1
                    injection hvy with hy1 hy2 hy3
                    subst hy1
                    subst hy3
                    clear hy2
                    have hone := AllAt.one (hxl.trans hlk.symm) g2
                    have HA3 : Hid (AllAt w3 w.heap.size (.slice Aa kk ca) (all.take kk)) := Lib.hid ⟨xs, g1, g2⟩
                    have HL3 := Lib.hid hL3
                    have HLK := Lib.hid hlk
                    have hkb : kk ≤ 100000 := by rw [hlk] at hq2; exact hq2
                    clear g1 g2 hL3 hL2 hA2 ho hb3 hK3 hlk hq2
                    go_wp2_with (at_builtin; refine wpList_append_rd rfl _ _ 22 rfl 32 Try.underlying22 _ 1 24 infoSl rfl (by decide) w3.heap.size _ 0 [] rfl (World.ownsRow_nil _ _ _ _) w3.heap.size Aa kk ca xs rfl (by rw [hxl]; omega) hry hone (by unfold maxLen; omega) (by omega) (Nat.le_refl _) ?_; intro v4 w4 hown4 hb4; obtain ⟨A4, c4, hv4, _⟩ := own_form hown4; subst hv4; have hK4 := Keep.of_below hb4 hb03; have hL4 := HL3.out.below hb4; have hA4 := HA3.out.keep hK4; have hB4 := hB3.trans hK4.1)
                    clear hown4 hb4 hone hry
                    have hA4' : AllAt w4 w.heap.size (.slice Aa (all.take kk).length ca) (all.take kk) := by rw [HLK.out]; exact hA4
                    have hb0 := hL4.hb
                    obtain ⟨AAx, cax, hvx, hcx, hrx⟩ := hA4'.rd hb0
                    obtain ⟨hn1, hn2, hn3⟩ := hL4.hn
                    injection hvx with hvx1 hvx2 hvx3
                    subst hvx1
                    subst hvx3
                    clear hvx2
                    have HN3 := Lib.hid hn3
                    have HLL := Lib.hid hL4
                    have HAA := Lib.hid hA4'
                    clear hn3
                    refine HLL.out.read.mono ?_
                    rintro e u1 ⟨vo, rfl, ho, hbu⟩
                    obtain ⟨Ar, cr, rfl, _, hro⟩ := ho.rd
                    have hK1 := Keep.of_below hbu hb0
                    have hL1 := HLL.out.below hbu
                    have hA1 := HAA.out.keep hK1
                    have hB1 := hB4.trans hK1.1
                    have hrx1 := (hrx.below hbu).more hbu.size
                    clear hrx ho hbu hK1
                    go_wp2_with fail
                    refine (lists_same2 Ar _ (all.take kk) _ _ cr _ (by first | rfl | (exact HLK.out.symm) | simp) (by first | rfl | (exact HLK.out.symm) | simp) (by omega) (fun x hx => by have := (chgFault_zero.1 (HN3.out x hx)).1; unfold maxLen; omega) u1 hro hrx1).mono ?_
                    rintro e u2 ⟨rfl, hbu2⟩
                    have hK2 := Keep.of_below hbu2 hL1.hb
                    have hL2 := hL1.below hbu2
                    have hA2 := hA1.keep hK2
                    have hB2 := hB1.trans hK2.1
                    clear hro hrx1 hbu2 hK2 hL1 hA1 hB1
                    go_wp2
                    go_roundw
                    case rel => exact ⟨k + 1, (all.take kk), kk, A4, c4, by omega, by go_num, rfl, by first | exact hA2 | (have h := hA2; rw [HLK.out] at h; exact h), hL2, hB2⟩
                    case measure => simp [intOf]; omega
                  · have e5 : (l[k].what == 5) = false := by simpa using hw5
                    go_wp2_with fail
                    refine calls_name ?_
                    intro w1 hW1
                    have hbs : Below wr.heap.size wr w1 := by rw [hW1.out]; exact (Below.refl _ _).alloc (Nat.le_refl _) _
                    have hK0 := Keep.of_below hbs hb0r
                    have hL1 := hL.below hbs
                    have hA1 := hA.keep hK0
                    have hB1 := hb.trans hK0.1
                    clear hW1 hbs hL hA
                    have hb0 := hL1.hb
                    obtain ⟨AAx, cax, hvx, hcx, hrx⟩ := hA1.rd hb0
                    obtain ⟨hn1, hn2, hn3⟩ := hL1.hn
                    injection hvx with hvx1 hvx2 hvx3
                    subst hvx1
                    subst hvx3
                    clear hvx2
                    have HN3 := Lib.hid hn3
                    have HLL := Lib.hid hL1
                    have HAA := Lib.hid hA1
                    clear hn3
                    refine HLL.out.read.mono ?_
                    rintro e u1 ⟨vo, rfl, ho, hbu⟩
                    obtain ⟨Ar, cr, rfl, _, hro⟩ := ho.rd
                    have hK1 := Keep.of_below hbu hb0
                    have hL1 := HLL.out.below hbu
                    have hA1 := HAA.out.keep hK1
                    have hB1 := hB1.trans hK1.1
                    have hrx1 := (hrx.below hbu).more hbu.size
                    clear hrx ho hbu hK1
                    go_wp2_with fail
                    refine (lists_same2 Ar _ all _ _ cr _ (by first | rfl | (exact rfl) | simp) (by first | rfl | (exact rfl) | simp) (by omega) (fun x hx => by have := (chgFault_zero.1 (HN3.out x hx)).1; unfold maxLen; omega) u1 hro hrx1).mono ?_
                    rintro e u2 ⟨rfl, hbu2⟩
                    have hK2 := Keep.of_below hbu2 hL1.hb
                    have hL2 := hL1.below hbu2
                    have hA2 := hA1.keep hK2
                    have hB2 := hB1.trans hK2.1
                    clear hro hrx1 hbu2 hK2 hL1 hA1 hB1
                    go_wp2
                    go_roundw
                    case rel => exact ⟨k + 1, all, ns, As, cs, by omega, by go_num, rfl, by first | exact hA2 | (have h := hA2; rw [List.length_append] at h; exact h), hL2, hB2⟩
                    case measure => simp [intOf]; omega
      · have d40 : decide ((k : Int) < 40) = false := decide_eq_false (by omega)
        go_wp2
        go_ret
        exact ⟨rfl, hb⟩
    · have dlt : decide ((k : Int) < (l.length : Int)) = false := decide_eq_false (by omega)
      go_wp2
      go_ret
      exact ⟨rfl, hb⟩
end Go.Proofs.Ytcgpfepnmiopcaa
