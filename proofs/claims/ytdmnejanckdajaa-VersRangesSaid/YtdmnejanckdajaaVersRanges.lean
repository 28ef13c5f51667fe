/- The law VersRanges: the walk of its own text, by the contracts of package vers. Any steps, any keys, any number. No conditions. -/
import Derived.Test.YtdmnejanckdajaaVers10
import Derived.Test.YtdmnejanckdajaaStp
import Derived.Deep.RegionHeld3
import Derived.Deep.DrawnRows
import Derived.StillTailTactics
namespace Go.Proofs.Ytdmnejanckdajaa
set_option linter.unusedVariables false
set_option linter.unusedSimpArgs false
open Go.RowKit

theorem tell_one (s x : List UInt8) (n : Int) (key : List UInt8) : tell (upd (fun _ => []) s [⟨n, x, false⟩]) key n = if key = s then some x else none := by
  by_cases h : key = s
  · subst h
    simp [tell, upd, fnd]
  · rw [if_neg h]
    exact tell_nil (by rw [upd_other _ _ h])
def fact1 : List UInt8 → List Ver := upd (fun _ => []) [97] [⟨3, [120], false⟩]
theorem fact1_range : RangeIs fact1 [97] [98] 3 [([97], [120])] := by
  refine ⟨by unfold Rise; simp, fun s v => ?_⟩
  unfold fact1
  rw [tell_one]
  constructor
  · intro h
    simp at h
    obtain ⟨rfl, rfl⟩ := h
    exact ⟨by decide, by simp⟩
  · rintro ⟨_, h⟩
    by_cases e : s = [97]
    · rw [if_pos e] at h
      injection h with h
      subst e
      subst h
      simp
    · rw [if_neg e] at h
      cases h
theorem fact1_put : putF (fun _ => []) [97] ⟨3, [120], false⟩ 0 = fact1 := by
  have h : putE [97] ⟨3, [120], false⟩ 0 = 0 := by decide
  unfold putF fact1
  rw [if_pos h]
  rfl
theorem fact1_err : putE [97] ⟨3, [120], false⟩ 0 = 0 := by decide

def hereB (L : List KV) (key : List UInt8) (k : Nat) : Bool := (L.take k).any (fun p => p.1 == key)
theorem hereB_step {L : List KV} {key : List UInt8} {k : Nat} (hk : k < L.length) : hereB L key (k + 1) = (hereB L key k || L[k].1 == key) := by
  unfold hereB
  rw [List.take_succ_eq_append_getElem hk, List.any_append]
  simp
theorem hereB_all {F : List UInt8 → List Ver} {lo hi key : List UInt8} {n : Int} {L : List KV} (h : RangeIs F lo hi n L) (hin : inB lo hi key = true) : hereB L key L.length = (tell F key n).isSome := by
  unfold hereB
  rw [List.take_length, Bool.eq_iff_iff, List.any_eq_true]
  constructor
  · rintro ⟨⟨s, v⟩, h1, h2⟩
    simp at h2
    subst h2
    rw [((h.mem _ _).1 h1).2]
    rfl
  · intro h1
    obtain ⟨v, hv⟩ := Option.isSome_iff_exists.1 h1
    exact ⟨(key, v), (h.mem _ _).2 ⟨hin, hv⟩, by simp⟩
theorem getV_some {F : List UInt8 → List Ver} {s v : List UInt8} {n : Int} (h0 : numB n = true) (h : tell F s n = some v) : getV F s n = (v, 0) := by simp [getV, h0, h]
theorem getV_none {F : List UInt8 → List Ver} {s : List UInt8} {n : Int} (h0 : numB n = true) (h : tell F s n = none) : getV F s n = ([], 4) := by simp [getV, h0, h]

theorem Below.drewN' {B : Nat} {a w : World} (h : Below B a w) {n : Nat} : Below B a (w.drewN n) := ⟨h.os, h.tape, h.output, h.size, h.block⟩

set_option maxRecDepth 100000 in
set_option maxHeartbeats 4000000 in
theorem versRanges_walk (A : Option Addr) (l : List Stp) (c : Nat) (hm : l.length ≤ maxLen) (hS : ∀ s ∈ l, StpOk s) (lo : List UInt8) (hlo : lo.length ≤ maxLen) (hi : List UInt8) (hhi : hi.length ≤ maxLen) (at' : Int) (hwf : (Lit.int .i64 at').wf = true) (key : List UInt8) (hkey : key.length ≤ maxLen)
    (w : World) (hl : Rd w w.heap.size A (cellsS l)) :
    Calls Try.prog 3 #[.slice A l.length c, txt lo, txt hi, .int .i64 at', txt key] w fun e w' => e = .returned (.bool true) ∧ Below w.heap.size w w' := by
  have HS := Lib.hid hS
  have hwl : wrap64 (l.length : Int) = l.length := by unfold maxLen at hm; unfold wrap64; omega
  clear hS hwf
  go_enter Try.func3, Try.ntmps3
  go_wp2_with fail
  refine (new_any w).mono ?_
  rintro e w1 ⟨t0, rfl, ht0, hB0, hM0, hne0, hbw1⟩
  have hT0 : TblAt w1 (fun g => w.heap.size ≤ g) t0 (fun _ => []) 0 0 := ⟨⟨w.heap.size, #[], 0, hB0, hM0, by simp⟩, ht0, Good.new⟩
  have HT0 := Lib.hid hT0
  clear hT0 hB0 hM0
  go_wp2_with fail
  refine (Put_any t0 (fun _ => []) 0 0 _ [97] (by decide) [120] (by decide) 3 (by decide) w1 HT0.out).mono ?_
  rintro e w2 ⟨rfl, hf2, hT2⟩
  rw [fact1_put] at hT2
  rw [fact1_err, show faultV 0 = Value.nilIface from rfl]
  have hT2' := hT2.mono (S' := fun g => w.heap.size ≤ g) (fun g hg => by have := hbw1.size; rcases hg with hg | hg <;> omega)
  have hb2 : Below w.heap.size w w2 := hbw1.trans (hf2.below hbw1.size (fun _ h => h))
  have HT2 := Lib.hid hT2'
  clear hT2 hT2' hf2
  go_wp2_with fail
  refine (range_ok t0 fact1 _ 1 (by decide) _ [97] [98] 3 w2 HT2.out (by decide)).mono ?_
  rintro e w3 ⟨vf, L, rfl, hown3, hrng3, _, hb3⟩
  obtain rfl : L = [([97], [120])] := hrng3.ext fact1_range (fun _ _ => rfl)
  obtain ⟨Af, cf, rfl, hrd3⟩ := hown3.rd
  obtain ⟨bf, of', rfl, hbf, k0, k1⟩ := hrd3.kv (k := 0) (by decide)
  have hb3' : Below w.heap.size w w3 := hb2.trans (hb3.mono hb2.size)
  clear hrng3 hown3 hrd3 HT2 HT0
  simp only [Nat.zero_mul, Nat.add_zero] at k0 k1
  go_wp2_with fail
  refine (new_any w3).mono ?_
  rintro e w4 ⟨t1, rfl, ht1, hB1, hM1, hne1, hbw4⟩
  have hT4 : TblAt w4 (fun g => w.heap.size ≤ g) t1 (fun _ => []) 0 0 := (TblAt.mono (S := fun g => w3.heap.size ≤ g) ⟨⟨w3.heap.size, #[], 0, hB1, hM1, by simp⟩, ht1, Good.new⟩ (fun g hg => by have := hb3'.size; omega))
  have hb4 : Below w.heap.size w w4 := hb3'.trans (hbw4.mono hb3'.size)
  clear hB1 hM1 hbw4 k0 k1
  go_wp2
  go_loopw [15] (fun i wr => ∃ (k : Nat) (F : List UInt8 → List Ver) (top : Int), i = .int .i64 k ∧ k ≤ l.length ∧ k ≤ 40 ∧ TblAt wr (fun g => w.heap.size ≤ g) t1 F top k ∧ Below w.heap.size w wr) (fun i _ => 40 - (intOf i).toNat)
  case atStart => exact ⟨0, _, _, rfl, by omega, by omega, hT4, hb4⟩
  case round =>
    obtain ⟨k, F, top, rfl, hk1, hk2, hT, hb⟩ := hrel
    have HT := Lib.hid hT
    clear hT hT4
    by_cases hlt : k < l.length ∧ k < 40
    · obtain ⟨hlt, hlt2⟩ := hlt
      obtain ⟨b0, of0, rfl, hbb, c0, c1, c2, c3, c4, c5⟩ := (hl.below hb).stp hlt
      obtain ⟨s1, s2, s3, s4, s5⟩ := HS.out l[k] (List.getElem_mem _)
      have hI : (k : Int) < (l.length : Int) := by omega
      have hI2 : (0 : Int) ≤ (k : Int) := by omega
      have hI3 : (k : Int) < 40 := by omega
      by_cases hw : l[k].what = 0
      · rw [hw] at c0
        go_wp2_with fail
        go_still_tail 11, (by kernel_rfl)
        go_wp2_with fail
        refine (Drop_any t1 F top k _ l[k].key s3 l[k].n (by omega) _ HT.out.drew).mono ?_
        rintro e w5 ⟨rfl, hf5, hT5⟩
        have hq := tbl_step hb.drew hf5 hT5
        have HQ := Lib.hid hq
        clear hq hf5 hT5
        go_wp2
        go_roundw
        case rel => exact ⟨k + 1, _, _, by go_num, by omega, by omega, HQ.out.1, HQ.out.2⟩
        case measure => simp [intOf]; omega
      · have hw' : (l[k].what == 0) = false := by simpa using hw
        go_wp2_with fail
        go_still_tail 16, (by kernel_rfl)
        go_wp2_with fail
        refine (Put_any t1 F top k _ l[k].key s3 l[k].val s5 l[k].n (by omega) _ HT.out.drew).mono ?_
        rintro e w5 ⟨rfl, hf5, hT5⟩
        have hq := tbl_step hb.drew hf5 hT5
        have HQ := Lib.hid hq
        clear hq hf5 hT5
        go_wp2
        go_roundw
        case rel => exact ⟨k + 1, _, _, by go_num, by omega, by omega, HQ.out.1, HQ.out.2⟩
        case measure => simp [intOf]; omega
    · have hbr := hb
      obtain ⟨hg1, hg2⟩ : Good F top k ∧ True := ⟨HT.out.good, trivial⟩
      have HG := Lib.hid hg1
      clear hg1 hg2
      by_cases h0 : numB at' = true
      · by_cases hlt1 : k < l.length
        all_goals
          go_wp2_with fail
          refine (range_ok t1 F top k (by omega) _ lo hi at' wr HT.out h0).mono ?_
          rintro e w5 ⟨vr, L, rfl, hown5, hrng5, hLl, hb5⟩
          have hb5' : Below w.heap.size w w5 := hbr.trans (hb5.mono hbr.size)
          have hT5 := HT.out.below hb5
          obtain ⟨Ar, cr, rfl, hrd⟩ := hown5.rd
          have HT5 := Lib.hid hT5
          have HR := Lib.hid hrng5
          clear hown5 hT5 hrng5
          go_wp2
          go_loopw [18, 19] (fun h i wr => ∃ j : Nat, i = .int .i64 j ∧ j ≤ L.length ∧ h = .bool (hereB L key j) ∧ Below w5.heap.size w5 wr) (fun _ i _ => L.length - (intOf i).toNat)
          case atStart => exact ⟨0, rfl, by omega, rfl, Below.refl _ _⟩
          case round =>
            obtain ⟨j, rfl, hj1, rfl, hb6⟩ := hrel
            have hT6 := HT5.out.below hb6
            by_cases hj : j < L.length
            · obtain ⟨bq, oq, rfl, hbq, k0, k1⟩ := (hrd.below hb6).kv hj
              obtain ⟨hin, htl⟩ := (HR.out.mem L[j].1 L[j].2).1 (List.getElem_mem _)
              obtain ⟨hl24, _⟩ := tell_some HG.out htl
              have hG := get_any t1 F top k _ L[j].1 (by unfold maxLen; omega) at' (by omega) wr hT6
              rw [getV_some h0 htl] at hG
              have HGet : Hid (Calls Try.prog 8 #[.pointer (some ⟨t1, 0, none⟩), txt L[j].1, .int .i64 at'] wr fun e w' => e = .returned (.tuple #[txt L[j].2, .nilIface]) ∧ w' = wr) := Lib.hid hG
              have q1 : Op.bytesLess L[j].1 lo = false := by rw [lessB_eq']; simp [inB] at hin; exact hin.1
              have q2 : Op.bytesLess L[j].1 hi = true := by rw [lessB_eq']; simp [inB] at hin; exact hin.2
              have HST := Lib.hid (hereB_step (key := key) hj)
              have hI1 : (j : Int) < (L.length : Int) := by omega
              have hI2 : (0 : Int) ≤ (j : Int) := by omega
              clear hG htl hin hT6
              generalize hhb : hereB L key j = hb0 at *
              have HHB := Lib.hid hhb
              clear hhb
              by_cases hj0 : 0 < j
              · have g0 : decide ((0 : Int) < (j : Int)) = true := decide_eq_true (by omega)
                obtain ⟨bq2, oq2, eq2, hbq2, k2, k3⟩ := (hrd.below hb6).kv (k := j - 1) (by omega)
                injection eq2 with eq2
                injection eq2 with eq3 eq4
                subst eq3
                subst eq4
                have hz1 : ((j : Int) - 1) = ((j - 1 : Nat) : Int) := by omega
                have hris := (List.pairwise_iff_getElem.1 HR.out.rise) (j - 1) j (by omega) hj (by omega)
                have q3 : Op.bytesLess L[j].1 L[j - 1].1 = false := by rw [lessB_eq']; exact lessB_asymm hris
                have q4 : (L[j].1 == L[j - 1].1) = false := by rw [beq_eq_false_iff_ne]; exact fun e => lessB_ne hris e.symm
                clear hris
                go_wp2_with fail
                refine HGet.out.mono ?_
                rintro e w7 ⟨rfl, rfl⟩
                go_wp2_with fail
                go_quiet (fail)
                go_wp2
                all_goals
                  go_roundw
                  case rel => exact ⟨j + 1, by go_num, by omega, by rw [HST.out]; simp_all, Below.drewN' hb6⟩
                  case measure => simp [intOf]; omega
              · have g0 : decide ((0 : Int) < (j : Int)) = false := decide_eq_false (by omega)
                go_wp2_with fail
                refine HGet.out.mono ?_
                rintro e w7 ⟨rfl, rfl⟩
                go_wp2_with fail
                go_quiet (fail)
                go_wp2
                all_goals
                  go_roundw
                  case rel => exact ⟨j + 1, by go_num, by omega, by rw [HST.out]; simp_all, Below.drewN' hb6⟩
                  case measure => simp [intOf]; omega
            · have hjl : j = L.length := by omega
              have HJ : Hid (inB lo hi key = true → hereB L key j = (tell F key at').isSome) := Lib.hid (fun h => by rw [hjl]; exact hereB_all HR.out h)
              generalize hereB L key j = hb0 at *
              have hbF := fun (w8 : World) (h8 : Below wr.heap.size wr w8) => (hb5'.trans (hb6.mono hb5'.size)).trans (h8.mono (Nat.le_trans hb5'.size hb6.size))
              have HBF := Lib.hid hbF
              have HR2 := Lib.hid (range_ok t1 F top k (by omega) _ lo hi 0 wr hT6 (by decide))
              have hG2 := get_any t1 F top k _ key hkey at' (by omega) wr hT6
              have hL1 := lessB_eq' key lo
              have hL2 := lessB_eq' key hi
              have hge : ¬ j < L.length := by omega
              clear hbF hT6 hjl
              rcases htl : tell F key at' with _ | v
              · rw [getV_none h0 htl] at hG2
                have HG2 : Hid (Calls Try.prog 8 #[.pointer (some ⟨t1, 0, none⟩), txt key, .int .i64 at'] wr fun e w' => e = .returned (.tuple #[txt [], .iface 46 (.int .i64 4)]) ∧ w' = wr) := Lib.hid hG2
                have HJ2 : Hid (inB lo hi key = true → hb0 = false) := Lib.hid (fun h => by rw [HJ.out h, htl]; rfl)
                clear hG2 HJ htl
                rcases q1 : Op.bytesLess key lo with _ | _
                · rcases q2 : Op.bytesLess key hi with _ | _
                  · clear hL1 hL2
                    go_wp2_with fail
                    refine HG2.out.mono ?_
                    rintro e w7 ⟨rfl, rfl⟩
                    go_wp2_with fail
                    refine HR2.out.mono ?_
                    rintro e w8 ⟨vn, N, rfl, hown8, hrng8, _, hb8⟩
                    obtain rfl := hrng8.nought HG.out
                    obtain ⟨An, cn, rfl, _⟩ := hown8.rd
                    have hbz := HBF.out _ hb8
                    clear hown8 hrng8 hb8
                    go_wp2
                    all_goals go_ret
                    all_goals exact ⟨rfl, hbz⟩
                  · obtain rfl : hb0 = false := HJ2.out (by rw [q1] at hL1; rw [q2] at hL2; simp [inB, ← hL1, ← hL2])
                    clear hL1 hL2
                    go_wp2_with fail
                    refine HG2.out.mono ?_
                    rintro e w7 ⟨rfl, rfl⟩
                    go_wp2_with fail
                    refine HR2.out.mono ?_
                    rintro e w8 ⟨vn, N, rfl, hown8, hrng8, _, hb8⟩
                    obtain rfl := hrng8.nought HG.out
                    obtain ⟨An, cn, rfl, _⟩ := hown8.rd
                    have hbz := HBF.out _ hb8
                    clear hown8 hrng8 hb8
                    go_wp2
                    all_goals go_ret
                    all_goals exact ⟨rfl, hbz⟩
                · clear hL1 hL2
                  go_wp2_with fail
                  refine HG2.out.mono ?_
                  rintro e w7 ⟨rfl, rfl⟩
                  go_wp2_with fail
                  refine HR2.out.mono ?_
                  rintro e w8 ⟨vn, N, rfl, hown8, hrng8, _, hb8⟩
                  obtain rfl := hrng8.nought HG.out
                  obtain ⟨An, cn, rfl, _⟩ := hown8.rd
                  have hbz := HBF.out _ hb8
                  clear hown8 hrng8 hb8
                  go_wp2
                  all_goals go_ret
                  all_goals exact ⟨rfl, hbz⟩
              · rw [getV_some h0 htl] at hG2
                have HG2 : Hid (Calls Try.prog 8 #[.pointer (some ⟨t1, 0, none⟩), txt key, .int .i64 at'] wr fun e w' => e = .returned (.tuple #[txt v, .nilIface]) ∧ w' = wr) := Lib.hid hG2
                have HJ2 : Hid (inB lo hi key = true → hb0 = true) := Lib.hid (fun h => by rw [HJ.out h, htl]; rfl)
                clear hG2 HJ htl
                rcases q1 : Op.bytesLess key lo with _ | _
                · rcases q2 : Op.bytesLess key hi with _ | _
                  · clear hL1 hL2
                    go_wp2_with fail
                    refine HG2.out.mono ?_
                    rintro e w7 ⟨rfl, rfl⟩
                    go_wp2_with fail
                    refine HR2.out.mono ?_
                    rintro e w8 ⟨vn, N, rfl, hown8, hrng8, _, hb8⟩
                    obtain rfl := hrng8.nought HG.out
                    obtain ⟨An, cn, rfl, _⟩ := hown8.rd
                    have hbz := HBF.out _ hb8
                    clear hown8 hrng8 hb8
                    go_wp2
                    all_goals go_ret
                    all_goals exact ⟨rfl, hbz⟩
                  · obtain rfl : hb0 = true := HJ2.out (by rw [q1] at hL1; rw [q2] at hL2; simp [inB, ← hL1, ← hL2])
                    clear hL1 hL2
                    go_wp2_with fail
                    refine HG2.out.mono ?_
                    rintro e w7 ⟨rfl, rfl⟩
                    go_wp2_with fail
                    refine HR2.out.mono ?_
                    rintro e w8 ⟨vn, N, rfl, hown8, hrng8, _, hb8⟩
                    obtain rfl := hrng8.nought HG.out
                    obtain ⟨An, cn, rfl, _⟩ := hown8.rd
                    have hbz := HBF.out _ hb8
                    clear hown8 hrng8 hb8
                    go_wp2
                    all_goals go_ret
                    all_goals exact ⟨rfl, hbz⟩
                · clear hL1 hL2
                  go_wp2_with fail
                  refine HG2.out.mono ?_
                  rintro e w7 ⟨rfl, rfl⟩
                  go_wp2_with fail
                  refine HR2.out.mono ?_
                  rintro e w8 ⟨vn, N, rfl, hown8, hrng8, _, hb8⟩
                  obtain rfl := hrng8.nought HG.out
                  obtain ⟨An, cn, rfl, _⟩ := hown8.rd
                  have hbz := HBF.out _ hb8
                  clear hown8 hrng8 hb8
                  go_wp2
                  all_goals go_ret
                  all_goals exact ⟨rfl, hbz⟩
      · rw [Bool.not_eq_true] at h0
        have hret : at' < 0 ∨ 1000000 < at' := by
          unfold numB at h0
          simp at h0
          omega
        by_cases hlt1 : k < l.length
        all_goals
          go_wp2_with fail
          refine (range_bad _ _ _ at' wr h0).mono ?_
          rintro e w5 ⟨rfl, rfl⟩
          go_wp2
          all_goals go_ret
          all_goals exact ⟨by first | rfl | (congr 2; simp; omega), hbr⟩
end Go.Proofs.Ytdmnejanckdajaa
