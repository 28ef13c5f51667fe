/- The reference's AddrOf, TextOf, PrefixOf. Conditions: texts of at most 10^11 bytes. -/
import Derived.Test.YtfeeilpkfjfnaaaGreatDoorRefText3
import Derived.Test.YtfeeilpkfjfnaaaGreatDoorAddrT4
import Derived.Test.YtfeeilpkfjfnaaaGreatDoorRefAddr
namespace Go.Proofs.YtfeeilpkfjfnaaaGreatDoor
set_option linter.unusedVariables false
set_option linter.unusedSimpArgs false
open Go.RowKit

def AddrOfV (s : List UInt8) : Value := match addrT s with
  | some a => .tuple #[.int .i64 (a : Int), .int .i64 0]
  | none => .tuple #[.int .i64 0, .int .i64 5]
theorem addrOfV_no {s : List UInt8} (h : (splitL 46 s).length ≠ 4) : AddrOfV s = .tuple #[.int .i64 0, .int .i64 5] := by
  unfold AddrOfV addrT
  rw [addrW_fold, if_neg h]
theorem addrOfV_fold {s : List UInt8} (h : (splitL 46 s).length = 4) : AddrOfV s = match foldA 0 (splitL 46 s) with
    | some a => .tuple #[.int .i64 (a : Int), .int .i64 0]
    | none => .tuple #[.int .i64 0, .int .i64 5] := by
  unfold AddrOfV addrT
  rw [addrW_fold, if_pos h]
set_option maxRecDepth 100000 in
set_option maxHeartbeats 2000000 in
theorem addrOf_any (s : List UInt8) (hs : s.length ≤ 100000000000) (w : World) :
    Calls Tryz.prog 4 #[txt s] w fun e w' => e = .returned (AddrOfV s) ∧ Below w.heap.size w w' := by
  have hpl : ∀ p ∈ splitL 46 s, p.length ≤ maxLen := fun p hp => by have := pieces_len hp; unfold maxLen; omega
  have hcount : (splitL 46 s).length ≤ s.length + 1 := by rw [splitL_length]; have := count_len 46 s; omega
  have hsp := refSplit_txt s 46 hs w
  by_cases h4 : (splitL 46 s).length = 4
  · have hv := addrOfV_fold h4
    generalize hps : splitL 46 s = ps at *
    have HV := Lib.hid hv
    have HP4 := Lib.hid h4
    have HPL := Lib.hid hpl
    clear hv h4 hpl hps hcount
    go_enter Tryz.func4, Tryz.ntmps4
    go_wp2_with fail
    refine hsp.mono ?_
    rintro e w1 ⟨A, cap, rfl, hb1, hrd⟩
    clear hsp
    have h4 := HP4.out
    go_wp2
    clear h4
    go_loopw [5, 6, 7] (fun x i _ wr => ∃ (k a : Nat), k ≤ 4 ∧ i = .int .i64 (k : Int) ∧ x = .int .i64 (a : Int) ∧ a < 256 ^ k ∧ Hid (foldA a (ps.drop k) = foldA 0 ps) ∧ w1 = wr) (fun _ i _ _ => 4 - (intOf i).toNat)
    case atStart => exact ⟨0, 0, by omega, rfl, rfl, by decide, Lib.hid (by simp), rfl⟩
    case round =>
      obtain ⟨k, a, hk, rfl, rfl, ha, HF, rfl⟩ := hrel
      by_cases hlt : k < 4
      · have hkl : k < ps.length := by rw [HP4.out]; exact hlt
        obtain ⟨b, off, rfl, hbl, hcl⟩ := hrd.txt hkl
        have hpl := HPL.out ps[k] (List.getElem_mem hkl)
        have hfd := fold_drop (a := a) hkl
        rw [HF.out] at hfd
        have ha2 : a < 16777216 := Nat.lt_of_lt_of_le ha (Nat.le_trans (Nat.pow_le_pow_right (by decide) (show k ≤ 3 by omega)) (by decide))
        have h4 := HP4.out
        cases hm : smallM 255 ps[k] with
        | none =>
          rw [hm] at hfd
          have HFD := Lib.hid hfd
          have hno := smallS_none (show 255 ≤ 999 by decide) hm
          obtain ⟨hr0, hr1⟩ := smallS_range ps[k]
          clear hfd hm
          have HSM := Lib.hid (refSmall_txt ps[k] hpl)
          generalize ps[k] = p at *
          generalize smallS p = n at *
          go_wp2_with fail
          refine (HSM.out _).mono ?_
          rintro e w2 ⟨rfl, rfl⟩
          rcases hno with hno | hno
          · go_wp2
            go_ret2
            exact ⟨by rw [HV.out, HFD.out]; rfl, hb1⟩
          · have hn0 : decide (n < 0) = false := by simp; omega
            go_wp2
            go_ret2
            exact ⟨by rw [HV.out, HFD.out]; rfl, hb1⟩
        | some n =>
          rw [hm] at hfd
          have HFD := Lib.hid hfd
          obtain ⟨he, hn⟩ := smallS_some (show 255 ≤ 999 by decide) hm
          clear hfd hm
          have HSM := Lib.hid (refSmall_txt ps[k] hpl)
          rw [he] at HSM
          generalize ps[k] = p at *
          clear he
          go_wp2_with fail
          refine (HSM.out _).mono ?_
          rintro e w2 ⟨rfl, rfl⟩
          go_wp2
          go_roundw
          case rel =>
            refine ⟨k + 1, a * 256 + n, by omega, by go_num, by go_num, ?_, Lib.hid HFD.out.symm, by first | rfl | trivial⟩
            rw [Nat.pow_succ]; omega
          case measure => simp [intOf]; omega
      · obtain rfl : k = 4 := by omega
        go_wp2
        go_ret2
        refine ⟨?_, hb1⟩
        have hd : ps.drop 4 = [] := List.drop_eq_nil_of_le (by rw [HP4.out]; exact Nat.le_refl _)
        rw [HV.out, ← HF.out, hd]
        rfl
  · have hv := addrOfV_no h4
    have h4' : (((splitL 46 s).length : Int) != 4) = true := by rw [bne_iff_ne]; omega
    generalize splitL 46 s = ps at *
    have HV := Lib.hid hv
    clear hv h4 hpl
    go_enter Tryz.func4, Tryz.ntmps4
    go_wp2_with fail
    refine hsp.mono ?_
    rintro e w1 ⟨A, cap, rfl, hb1, hrd⟩
    clear hsp
    go_wp2
    go_ret2
    exact ⟨by rw [HV.out]; rfl, hb1⟩
/-- A text of an address. -/
theorem mk_app (x y : List UInt8) : (⟨x.toArray⟩ : ByteArray) ++ ⟨y.toArray⟩ = ⟨(x ++ y).toArray⟩ := ByteArray.mk_append_mk x y
theorem textT_parts (a : Nat) (ha : a < 4294967296) : Lib.decDigits (a / 16777216) ++ [46] ++ Lib.decDigits (a / 65536 % 256) ++ [46] ++ Lib.decDigits (a / 256 % 256) ++ [46] ++ Lib.decDigits (a % 256) = textT a := by
  rw [textT_eq, show a / 16777216 % 256 = a / 16777216 by omega]
  simp
set_option maxRecDepth 100000 in
set_option maxHeartbeats 2000000 in
theorem textOf_any (a : Nat) (ha : a < 4294967296) (w : World) :
    Calls Tryz.prog 8 #[.int .i64 (a : Int)] w fun e w' => e = .returned (txt (textT a)) ∧ w = w' := by
  have ht := textT_parts a ha
  have l1 := decDigits_len (u := a / 16777216) (by omega)
  have l2 := decDigits_len (u := a / 65536 % 256) (by omega)
  have l3 := decDigits_len (u := a / 256 % 256) (by omega)
  have l4 := decDigits_len (u := a % 256) (by omega)
  have d1 := dec_any (a / 16777216) (by omega)
  have d2 := dec_any (a / 65536 % 256) (by omega)
  have d3 := dec_any (a / 256 % 256) (by omega)
  have d4 := dec_any (a % 256) (by omega)
  have e1 : ((a : Int) / 16777216) = ((a / 16777216 : Nat) : Int) := by omega
  have e2 : ((a : Int) / 65536 % 256) = ((a / 65536 % 256 : Nat) : Int) := by omega
  have e3 : ((a : Int) / 256 % 256) = ((a / 256 % 256 : Nat) : Int) := by omega
  have e4 : ((a : Int) % 256) = ((a % 256 : Nat) : Int) := by omega
  rw [← e1] at d1
  rw [← e2] at d2
  rw [← e3] at d3
  rw [← e4] at d4
  have D1 := Lib.hid d1
  have D2 := Lib.hid d2
  have D3 := Lib.hid d3
  have D4 := Lib.hid d4
  clear e1 e2 e3 e4 d1 d2 d3 d4
  generalize Lib.decDigits (a / 16777216) = x1 at *
  generalize Lib.decDigits (a / 65536 % 256) = x2 at *
  generalize Lib.decDigits (a / 256 % 256) = x3 at *
  generalize Lib.decDigits (a % 256) = x4 at *
  have HT := Lib.hid ht
  have q1 : ¬ (9223372036854775807 < x1.length + 1) := by omega
  have q2 : ¬ (9223372036854775807 < x1.length + 1 + x2.length) := by omega
  have q3 : ¬ (9223372036854775807 < x1.length + 1 + x2.length + 1) := by omega
  have q4 : ¬ (9223372036854775807 < x1.length + 1 + x2.length + 1 + x3.length) := by omega
  have q5 : ¬ (9223372036854775807 < x1.length + 1 + x2.length + 1 + x3.length + 1) := by omega
  have q6 : ¬ (9223372036854775807 < x1.length + 1 + x2.length + 1 + x3.length + 1 + x4.length) := by omega
  clear ht l1 l2 l3 l4
  go_enter Tryz.func8, Tryz.ntmps8
  go_wp2_with fail
  refine (D1.out _).mono ?_
  rintro e w1 ⟨rfl, rfl⟩
  go_wp2_with fail
  refine (D2.out _).mono ?_
  rintro e w1 ⟨rfl, rfl⟩
  go_wp2_with fail
  refine (D3.out _).mono ?_
  rintro e w1 ⟨rfl, rfl⟩
  go_wp2_with fail
  refine (D4.out _).mono ?_
  rintro e w1 ⟨rfl, rfl⟩
  go_wp2
  go_ret
  refine ⟨?_, rfl⟩
  rw [← HT.out]
  show Ending.returned (.string ((⟨x1.toArray⟩ : ByteArray) ++ ⟨[46].toArray⟩ ++ ⟨x2.toArray⟩ ++ ⟨[46].toArray⟩ ++ ⟨x3.toArray⟩ ++ ⟨[46].toArray⟩ ++ ⟨x4.toArray⟩)) = _
  simp only [mk_app]
end Go.Proofs.YtfeeilpkfjfnaaaGreatDoor
