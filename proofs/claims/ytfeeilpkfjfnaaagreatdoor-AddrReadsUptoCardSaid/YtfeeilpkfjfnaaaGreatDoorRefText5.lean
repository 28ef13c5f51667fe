/- The reference's PrefixOf. Conditions: texts of at most 10^11 bytes. -/
import Derived.Test.YtfeeilpkfjfnaaaGreatDoorRefText4
namespace Go.Proofs.YtfeeilpkfjfnaaaGreatDoor
set_option linter.unusedVariables false
set_option linter.unusedSimpArgs false
open Go.RowKit

theorem splitL_single {c : UInt8} {y z : List UInt8} (h : splitL c y = [z]) : z = y := by
  by_cases q : c ∈ y
  · obtain ⟨a, b, rfl, ha⟩ := List.eq_append_cons_of_mem q
    rw [splitL_cons b ha] at h
    injection h with _ h2
    exact absurd h2 (splitL_ne c b)
  · rw [splitL_none q] at h
    injection h with h1
    exact h1.symm
/-- A prefix of two texts: the fault, the address, the length. -/
def pfxK (x y : List UInt8) : Int × Int × Int := match addrT x, smallM 32 y with
  | some a, some n => if chk (a : Int) (n : Int) = 0 then (0, (a : Int), (n : Int)) else (chk a n, 0, 0)
  | _, _ => (5, 0, 0)
theorem pfxK_none1 {x y : List UInt8} (h : addrT x = none) : pfxK x y = (5, 0, 0) := by unfold pfxK; rw [h]
theorem pfxK_none2 {x y : List UInt8} (h : smallM 32 y = none) : pfxK x y = (5, 0, 0) := by
  unfold pfxK; rw [h]
  cases addrT x <;> rfl
theorem pfxK_ok {x y : List UInt8} {a n : Nat} (h1 : addrT x = some a) (h2 : smallM 32 y = some n) (h : chk (a : Int) (n : Int) = 0) : pfxK x y = (0, (a : Int), (n : Int)) := by
  unfold pfxK; rw [h1, h2]
  simp only
  rw [if_pos h]
theorem pfxK_bad {x y : List UInt8} {a n : Nat} (h1 : addrT x = some a) (h2 : smallM 32 y = some n) (h : chk (a : Int) (n : Int) ≠ 0) : pfxK x y = (chk a n, 0, 0) := by
  unfold pfxK; rw [h1, h2]
  simp only
  rw [if_neg h]
theorem ppW_K (x y : List UInt8) : ppW x y = .tuple #[.agg #[.int .i64 (pfxK x y).2.1, .int .i64 (pfxK x y).2.2], if (pfxK x y).1 = 0 then .nilIface else .iface 24 (.int .i64 (pfxK x y).1)] := by
  cases h1 : addrT x with
  | none => rw [ppW_none1 h1, pfxK_none1 h1]; rfl
  | some a =>
    cases h2 : smallM 32 y with
    | none => rw [ppW_none2 h2, pfxK_none2 h2]; rfl
    | some n =>
      by_cases h : chk (a : Int) (n : Int) = 0
      · rw [ppW_ok h1 h2 h, pfxK_ok h1 h2 h]; rfl
      · rw [ppW_bad h1 h2 h, pfxK_bad h1 h2 h, if_neg h]
def pfxS (s : List UInt8) : Int × Int × Int := pfxK (Lib.cut s [47]).1 (Lib.cut s [47]).2.1
theorem pfxS_two {s x y : List UInt8} (h : splitL 47 s = [x, y]) : pfxS s = pfxK x y := by
  unfold pfxS
  rcases cut_split (c := 47) s with ⟨z, h1, h2⟩ | ⟨a, b, h1, h2⟩
  · rw [h] at h1; simp at h1
  · rw [h] at h2
    injection h2 with e1 e2
    have e3 := splitL_single e2.symm
    rw [h1, e1, e3]
theorem pfxS_no {s : List UInt8} (h : (splitL 47 s).length ≠ 2) : pfxS s = (5, 0, 0) := by
  unfold pfxS
  apply pfxK_none2
  rcases cut_split (c := 47) s with ⟨z, h1, h2⟩ | ⟨a, b, h1, h2⟩
  · rw [h2]; exact smallM_nil 32
  · rw [h1]
    rw [h2] at h
    have h3 : (splitL 47 b).length ≠ 1 := fun q => h (by simp [q])
    have h4 : 0 < (splitL 47 b).length := List.length_pos_iff.2 (splitL_ne 47 b)
    exact smallM_mem (by decide) (splitL_mem (by omega : 1 < (splitL 47 b).length))
def PrefixOfV (k : Int × Int × Int) : Value := .tuple #[.agg #[.int .i64 k.2.1, .int .i64 k.2.2], .int .i64 k.1]
theorem list_two {l : List (List UInt8)} (h : l.length = 2) : ∃ x y, l = [x, y] := by
  match l, h with
  | [x, y], _ => exact ⟨x, y, rfl⟩
set_option maxRecDepth 100000 in
set_option maxHeartbeats 4000000 in
theorem prefixOf_any (s : List UInt8) (hs : s.length ≤ 100000000000) (w : World) :
    Calls Tryz.prog 10 #[txt s] w fun e w' => e = .returned (PrefixOfV (pfxS s)) ∧ Below w.heap.size w w' := by
  have hsp : ∀ w : World, _ := fun w => refSplit_txt s 47 hs w
  have HSP := Lib.hid hsp
  clear hsp
  by_cases h2 : (splitL 47 s).length = 2
  · obtain ⟨x, y, hxy⟩ := list_two h2
    have hK := pfxS_two hxy
    have hx := pieces_len (c := 47) (s := s) (p := x) (by rw [hxy]; simp)
    have hy := pieces_len (c := 47) (s := s) (p := y) (by rw [hxy]; simp)
    rw [hxy] at HSP
    have HK := Lib.hid hK
    clear h2 hxy hK
    go_enter Tryz.func10, Tryz.ntmps10
    go_wp2_with fail
    refine (HSP.out _).mono ?_
    rintro e w1 ⟨A, cap, rfl, hb1, hrd⟩
    have hk1 := (Blk.new w 23 #[.int .i64 0, .int .i64 0]).below hb1 (by simp)
    have hB1 : Below w.heap.size w w1 := ((Below.refl _ _).alloc (Nat.le_refl _) _).trans (hb1.mono (by simp))
    have hz1 : w.heap.size + 1 ≤ w1.heap.size := by have := hb1.size; simpa using this
    clear hb1
    obtain ⟨b, off, rfl, hbl, hc0⟩ := hrd.txt (k := 0) (by simp)
    obtain ⟨b', off', he, hbl', hc1⟩ := hrd.txt (k := 1) (by simp)
    simp only [Option.some.injEq, Addr.mk.injEq, and_true] at he
    obtain ⟨rfl, rfl⟩ := he
    simp only [List.getElem_cons_zero, List.getElem_cons_succ, Nat.add_zero] at hc0 hc1
    go_wp2_with fail
    refine (addrOf_any x (by omega) _).mono ?_
    rintro e w2 ⟨rfl, hb2⟩
    have hk2 := hk1.below hb2 (by omega)
    have hB2 := hB1.trans (hb2.mono (by omega))
    have hc2 := (hb2.cell (p := ⟨b, off + 1, none⟩) hbl).trans hc1
    have hz2 := hb2.size
    clear hb2 hc0 hc1 hk1 hB1
    cases hax : addrT x with
    | none =>
      have hv : AddrOfV x = .tuple #[.int .i64 0, .int .i64 5] := by unfold AddrOfV; rw [hax]
      rw [hv]
      go_wp2_with fail
      refine (refSmall_txt y (by unfold maxLen; omega) _).mono ?_
      rintro e w3 ⟨rfl, rfl⟩
      obtain ⟨c0, c1, f0, f1⟩ := hk2.two
      generalize smallS y = sm at *
      go_wp2
      refine bodyPost_ret (v := PrefixOfV (5, 0, 0)) (by simp [PrefixOfV, results, Tryz.results10, go_sem, c0, c1]) rfl ⟨by rw [HK.out, pfxK_none1 hax], ?_⟩
      exact (hB2.setCell (by simp) _).setCell (by simp) _
    | some a =>
      have hv : AddrOfV x = .tuple #[.int .i64 (a : Int), .int .i64 0] := by unfold AddrOfV; rw [hax]
      rw [hv]
      cases hsm : smallM 32 y with
      | none =>
        have hno := smallS_none (show 32 ≤ 999 by decide) hsm
        go_wp2_with fail
        refine (refSmall_txt y (by unfold maxLen; omega) _).mono ?_
        rintro e w3 ⟨rfl, rfl⟩
        obtain ⟨c0, c1, f0, f1⟩ := hk2.two
        have HKE := Lib.hid (pfxK_none2 (x := x) hsm)
        generalize smallS y = sm at *
        rcases hno with hno | hno
        · go_wp2
          refine bodyPost_ret (v := PrefixOfV (5, 0, 0)) (by simp [PrefixOfV, results, Tryz.results10, go_sem, c0, c1]) rfl ⟨by rw [HK.out, HKE.out], ?_⟩
          exact (hB2.setCell (by simp) _).setCell (by simp) _
        · have hn0 : decide (sm < 0) = false := by simp; omega
          have hn1 : decide (32 < sm) = true := by simp; omega
          go_wp2
          refine bodyPost_ret (v := PrefixOfV (5, 0, 0)) (by simp [PrefixOfV, results, Tryz.results10, go_sem, c0, c1]) rfl ⟨by rw [HK.out, HKE.out], ?_⟩
          exact (hB2.setCell (by simp) _).setCell (by simp) _
      | some m =>
        obtain ⟨he, hm⟩ := smallS_some (show 32 ≤ 999 by decide) hsm
        have HSM := Lib.hid (refSmall_txt y (show y.length ≤ maxLen by unfold maxLen; omega))
        rw [he] at HSM
        clear he
        go_wp2_with fail
        refine (HSM.out _).mono ?_
        rintro e w3 ⟨rfl, rfl⟩
        go_wp2_with fail
        refine (fault_any (a : Int) (m : Int) _).mono ?_
        rintro e w4 ⟨rfl, hb4⟩
        obtain ⟨c0, c1, f0, f1⟩ := ((hk2.alloc (.cells #[.int .i64 (a : Int), .int .i64 (m : Int)] 23)).below hb4 (by simp; omega)).two
        obtain ⟨d0, d1, _, _⟩ := ((Blk.new w2 23 #[.int .i64 (a : Int), .int .i64 (m : Int)]).below hb4 (by simp)).two
        have hB4 : Below w.heap.size w w4 := (hB2.alloc (by omega) _).trans (hb4.mono (by simp; omega))
        by_cases hk : chk (a : Int) (m : Int) = 0
        · rw [hk]
          have HKE := Lib.hid (pfxK_ok hax hsm hk)
          clear hk
          go_wp2
          refine bodyPost_ret (v := PrefixOfV (0, (a : Int), (m : Int))) (by simp [PrefixOfV, results, Tryz.results10, go_sem, c0, c1]) rfl ⟨by rw [HK.out, HKE.out], ?_⟩
          exact (hB4.setCell (by simp) _).setCell (by simp) _
        · have HKE := Lib.hid (pfxK_bad hax hsm hk)
          have hk' : (chk (a : Int) (m : Int) != 0) = true := by simpa using hk
          generalize chk (a : Int) (m : Int) = kk at *
          clear hk
          go_wp2
          refine bodyPost_ret (v := PrefixOfV (kk, 0, 0)) (by simp [PrefixOfV, results, Tryz.results10, go_sem, c0, c1]) rfl ⟨by rw [HK.out, HKE.out], ?_⟩
          exact (hB4.setCell (by simp) _).setCell (by simp) _
  · have hK := pfxS_no h2
    have h2' : (((splitL 47 s).length : Int) != 2) = true := by rw [bne_iff_ne]; omega
    have HK := Lib.hid hK
    have hcount : (splitL 47 s).length ≤ s.length + 1 := by rw [splitL_length]; have := count_len 47 s; omega
    generalize splitL 47 s = ps at *
    clear h2 hK
    go_enter Tryz.func10, Tryz.ntmps10
    go_wp2_with fail
    refine (HSP.out _).mono ?_
    rintro e w1 ⟨A, cap, rfl, hb1, hrd⟩
    obtain ⟨c0, c1, f0, f1⟩ := ((Blk.new w 23 #[.int .i64 0, .int .i64 0]).below hb1 (by simp)).two
    have hB1 : Below w.heap.size w w1 := ((Below.refl _ _).alloc (Nat.le_refl _) _).trans (hb1.mono (by simp))
    go_wp2
    refine bodyPost_ret (v := PrefixOfV (5, 0, 0)) (by simp [PrefixOfV, results, Tryz.results10, go_sem, c0, c1]) rfl ⟨by rw [HK.out], ?_⟩
    exact (hB1.setCell (by simp) _).setCell (by simp) _
end Go.Proofs.YtfeeilpkfjfnaaaGreatDoor
