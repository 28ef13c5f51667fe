/- plot.number, ReadAddr, ReadPrefix: any text as a key. Conditions: the library's bound on a text's length; its variables as TxtV says. -/
import Derived.Test.YtemokelgafndpaaGreatDoorPlot2
import Derived.Test.YtemokelgafndpaaGreatDoorLayPI
import Derived.Test.YtemokelgafndpaaGreatDoorAddr
namespace Go.Proofs.YtemokelgafndpaaGreatDoor
set_option linter.unusedVariables false
set_option linter.unusedSimpArgs false
open Go.RowKit

theorem hexV_some : ∀ (l : List UInt8) (a : Nat), (∀ b ∈ l, (hexV1 b).isSome = true) → ∃ v, hexV a l = some v
  | [], a, _ => ⟨a, rfl⟩
  | b :: l, a, h => by
    obtain ⟨d, hd⟩ := Option.isSome_iff_exists.1 (h b List.mem_cons_self)
    obtain ⟨v, hv⟩ := hexV_some l (a * 16 + d) fun c hc => h c (List.mem_cons_of_mem _ hc)
    exact ⟨v, by unfold hexV; rw [hd]; exact hv⟩
theorem hexV_none : ∀ (l : List UInt8) (a : Nat) (b : UInt8), b ∈ l → hexV1 b = none → hexV a l = none
  | c :: l, a, b, hb, h => by
    unfold hexV
    rcases List.mem_cons.1 hb with rfl | hb
    · rw [h]
    · cases hexV1 c with
      | none => rfl
      | some d => exact hexV_none l _ b hb h
theorem hexV1_none {c : UInt8} (h : hexV1 c = none) : ¬ (48 ≤ c.toNat ∧ c.toNat ≤ 57) ∧ ¬ (97 ≤ c.toNat ∧ c.toNat ≤ 102) := by
  unfold hexV1 at h
  split at h
  · cases h
  · split at h
    · cases h
    · constructor <;> assumption
theorem hexV1_some {c : UInt8} (h : (hexV1 c).isSome = true) : (48 ≤ c.toNat ∧ c.toNat ≤ 57) ∨ (97 ≤ c.toNat ∧ c.toNat ≤ 102) := by
  unfold hexV1 at h
  split at h
  · exact .inl ‹_›
  · split at h
    · exact .inr ‹_›
    · cases h
def NumV (o : Option Nat) : Value := match o with
  | some v => .tuple #[.int .i64 (v : Int), .bool true]
  | none => .tuple #[.int .i64 0, .bool false]
set_option maxRecDepth 100000 in
set_option maxHeartbeats 4000000 in
theorem number16 (s : ByteArray) (h1 : 1 ≤ s.size) (h8 : s.size ≤ 8) (w : World) :
    Calls Tryz.prog 29 #[.string s, .int .i64 16] w fun e w' => e = .returned (NumV (hexV 0 s.data.toList)) ∧ Below w.heap.size w w' := by
  obtain ⟨cap, W, hcv, hbW, hzW, hcell⟩ := bytes_conv s w
  have HC := Lib.hid hcell
  have HP := Lib.hid (fun hx w => parseInt16 s h1 h8 hx w)
  clear hcell
  go_enter Tryz.func29, Tryz.ntmps29
  go_wp2
  clear hcv
  go_loopw [7, 13] (fun _ i wr => ∃ k : Nat, k ≤ s.size ∧ i = .int .i64 (k : Int) ∧ Hid (∀ j (h : j < s.size), j < k → (hexV1 s[j]).isSome = true) ∧ W = wr) (fun _ i _ => s.size - (intOf i).toNat)
  case atStart => exact ⟨0, Nat.zero_le _, rfl, Lib.hid (fun j _ h => by omega), rfl⟩
  case round =>
    obtain ⟨k, hk, rfl, HD, rfl⟩ := hrel
    by_cases hlt : k < s.size
    · have hc := HC.out k hlt
      have HM := Lib.hid (byte_mem1 s k hlt)
      cases hv : hexV1 s[k] with
      | none =>
        obtain ⟨n1, n2⟩ := hexV1_none hv
        have HN := Lib.hid (hexV_none _ 0 _ HM.out hv)
        clear hv
        generalize s[k] = c at *
        by_cases d1 : (c.toNat : Int) < 48
        · have d3 : decide ((c.toNat : Int) < 97) = true := by simp; omega
          go_wp2
          go_ret2
          exact ⟨by rw [HN.out]; rfl, hbW⟩
        · have d2 : decide ((57 : Int) < c.toNat) = true := by simp; omega
          by_cases d3 : (c.toNat : Int) < 97
          · go_wp2
            go_ret2
            exact ⟨by rw [HN.out]; rfl, hbW⟩
          · have d4 : decide ((102 : Int) < c.toNat) = true := by simp; omega
            go_wp2
            go_ret2
            exact ⟨by rw [HN.out]; rfl, hbW⟩
      | some d =>
        have hs : (hexV1 s[k]).isSome = true := by rw [hv]; rfl
        have HS := Lib.hid hs
        rcases hexV1_some hs with ⟨q1, q2⟩ | ⟨q1, q2⟩
        · clear hv hs
          have d1 : decide ((s[k].toNat : Int) < 48) = false := by simp; omega
          have d2 : decide ((57 : Int) < s[k].toNat) = false := by simp; omega
          go_wp2
          go_roundw
          case rel =>
            refine ⟨k + 1, by omega, by go_num, Lib.hid (fun j hj hjk => ?_), by first | rfl | trivial⟩
            rcases Nat.lt_succ_iff_lt_or_eq.1 hjk with h | h
            · exact HD.out j hj h
            · subst h; exact HS.out
          case measure => simp [intOf]; omega
        · clear hv hs
          have d1 : decide ((s[k].toNat : Int) < 48) = false := by simp; omega
          have d2 : decide ((57 : Int) < s[k].toNat) = true := by simp; omega
          have d3 : decide ((s[k].toNat : Int) < 97) = false := by simp; omega
          have d4 : decide ((102 : Int) < s[k].toNat) = false := by simp; omega
          go_wp2
          go_roundw
          case rel =>
            refine ⟨k + 1, by omega, by go_num, Lib.hid (fun j hj hjk => ?_), by first | rfl | trivial⟩
            rcases Nat.lt_succ_iff_lt_or_eq.1 hjk with h | h
            · exact HD.out j hj h
            · subst h; exact HS.out
          case measure => simp [intOf]; omega
    · obtain rfl : k = s.size := by omega
      go_wp2_with fail
      refine (HP.out (fun j hj => HD.out j hj hj) _).mono ?_
      rintro e w2 ⟨⟨v, hv, rfl⟩, hb2⟩
      have HV := Lib.hid hv
      clear hv
      go_wp2_with fail
      go_quiet (fail)
      go_wp2
      go_ret2
      exact ⟨by rw [HV.out]; rfl, below_drewN (hbW.trans (hb2.mono hbW.size)) _⟩
theorem parse2_all : ∀ i, i < 10 → ∀ j, j < 10 → Lib.parseIntB 64 [UInt8.ofNat (48 + i), UInt8.ofNat (48 + j)] = .ok ((10 * i + j : Nat) : Int) := by decide
theorem parse2 {a b : UInt8} {n : Nat} (h : dec2 a b = some n) : Lib.parseIntB 64 [a, b] = .ok (n : Int) := by
  unfold dec2 at h
  split at h
  · rename_i q
    injection h with h
    have e1 : UInt8.ofNat (48 + (a.toNat - 48)) = a := by
      apply UInt8.toNat_inj.1
      rw [show 48 + (a.toNat - 48) = a.toNat by omega]; simp
    have e2 : UInt8.ofNat (48 + (b.toNat - 48)) = b := by
      apply UInt8.toNat_inj.1
      rw [show 48 + (b.toNat - 48) = b.toNat by omega]; simp
    have := parse2_all (a.toNat - 48) (by omega) (b.toNat - 48) (by omega)
    rw [e1, e2, h] at this
    exact this
  · cases h
theorem list2 (s : ByteArray) (h : s.size = 2) : s.data.toList = [s[0]'(by omega), s[1]'(by omega)] := by
  have hl : s.data.toList.length = 2 := by rw [size_list]; exact h
  apply List.ext_getElem
  · simp [hl]
  · intro i h1 h2
    match i, h1, h2 with
    | 0, _, _ => rfl
    | 1, _, _ => rfl
theorem parseInt10 (s : ByteArray) (h2 : s.size = 2) {n : Nat} (hd : dec2 (s[0]'(by omega)) (s[1]'(by omega)) = some n) (w : World) :
    Calls Tryz.prog 44 #[.string s, .int .i64 10, .int .i64 64] w fun e w' => e = .returned (.tuple #[.int .i64 (n : Int), .nilIface]) ∧ Below w.heap.size w w' := by
  refine (Any.strconv_ParseInt_10_at64_ok layPI s (by omega) (n : Int) (by rw [list2 s h2]; exact parse2 hd) w).mono fun e w' q => ⟨q.1, ?_⟩
  rcases q.2 with q2 | ⟨t, q2⟩
  · rw [q2]; exact Below.refl _ _
  · rw [q2]; exact Lib.bytesWorld_below _ _ _
def digB (b : UInt8) : Bool := decide (48 ≤ b.toNat ∧ b.toNat ≤ 57)
theorem dec2_some {a b : UInt8} (h1 : digB a = true) (h2 : digB b = true) : ∃ n, dec2 a b = some n := by
  unfold digB at h1 h2
  simp only [decide_eq_true_eq] at h1 h2
  exact ⟨_, by unfold dec2; rw [if_pos ⟨h1, h2⟩]⟩
theorem dec2_none {a b : UInt8} (h : digB a = false ∨ digB b = false) : dec2 a b = none := by
  unfold digB at h
  simp only [decide_eq_false_iff_not] at h
  unfold dec2
  rw [if_neg]
  rintro ⟨q1, q2⟩
  rcases h with h | h
  · exact h q1
  · exact h q2
set_option maxRecDepth 100000 in
set_option maxHeartbeats 4000000 in
theorem number10 (s : ByteArray) (h2 : s.size = 2) (w : World) :
    Calls Tryz.prog 29 #[.string s, .int .i64 10] w fun e w' => e = .returned (NumV (dec2 (s[0]'(by omega)) (s[1]'(by omega)))) ∧ Below w.heap.size w w' := by
  obtain ⟨cap, W, hcv, hbW, hzW, hcell⟩ := bytes_conv s w
  have HC := Lib.hid hcell
  have HP := Lib.hid (fun n hd w => parseInt10 s h2 (n := n) hd w)
  have hno : ∀ k (h : k < s.size), digB s[k] = false → dec2 (s[0]'(by omega)) (s[1]'(by omega)) = none := fun k h q => by
    have h3 : k = 0 ∨ k = 1 := by omega
    rcases h3 with rfl | rfl
    · exact dec2_none (.inl q)
    · exact dec2_none (.inr q)
  have HNO := Lib.hid hno
  have HYES := Lib.hid (fun (h : ∀ j (h : j < s.size), digB s[j] = true) => dec2_some (h 0 (by omega)) (h 1 (by omega)))
  obtain ⟨V, hV⟩ : ∃ V, V = NumV (dec2 (s[0]'(by omega)) (s[1]'(by omega))) := ⟨_, rfl⟩
  rw [← hV]
  have HV := Lib.hid hV
  clear hcell hno hV
  go_enter Tryz.func29, Tryz.ntmps29
  go_wp2
  clear hcv
  go_loopw [7, 13] (fun _ i wr => ∃ k : Nat, k ≤ s.size ∧ i = .int .i64 (k : Int) ∧ Hid (∀ j (h : j < s.size), j < k → digB s[j] = true) ∧ W = wr) (fun _ i _ => s.size - (intOf i).toNat)
  case atStart => exact ⟨0, Nat.zero_le _, rfl, Lib.hid (fun j _ h => by omega), rfl⟩
  case round =>
    obtain ⟨k, hk, rfl, HD, rfl⟩ := hrel
    by_cases hlt : k < s.size
    · have hc := HC.out k hlt
      cases hs : digB s[k] with
      | false =>
        have HN := Lib.hid (HNO.out k hlt hs)
        have q : ¬ (48 ≤ s[k].toNat ∧ s[k].toNat ≤ 57) := by unfold digB at hs; simpa using hs
        clear hs
        generalize s[k] = c at *
        by_cases d1 : (c.toNat : Int) < 48
        · go_wp2
          go_ret2
          exact ⟨by rw [HV.out, HN.out]; rfl, hbW⟩
        · have d2 : decide ((57 : Int) < c.toNat) = true := by simp; omega
          go_wp2
          go_ret2
          exact ⟨by rw [HV.out, HN.out]; rfl, hbW⟩
      | true =>
        have HS := Lib.hid hs
        have q : 48 ≤ s[k].toNat ∧ s[k].toNat ≤ 57 := by unfold digB at hs; simpa using hs
        have d1 : decide ((s[k].toNat : Int) < 48) = false := by simp; omega
        have d2 : decide ((57 : Int) < s[k].toNat) = false := by simp; omega
        clear hs q
        go_wp2
        go_roundw
        case rel =>
          refine ⟨k + 1, by omega, by go_num, Lib.hid (fun j hj hjk => ?_), by first | rfl | trivial⟩
          rcases Nat.lt_succ_iff_lt_or_eq.1 hjk with h | h
          · exact HD.out j hj h
          · subst h; exact HS.out
        case measure => simp [intOf]; omega
    · obtain rfl : k = s.size := by omega
      obtain ⟨n, hn⟩ := HYES.out (fun j hj => HD.out j hj hj)
      have HN := Lib.hid hn
      clear hn
      go_wp2_with fail
      refine (HP.out n HN.out _).mono ?_
      rintro e w2 ⟨rfl, hb2⟩
      go_wp2_with fail
      go_quiet (fail)
      go_wp2
      go_ret2
      exact ⟨by rw [HV.out, HN.out]; rfl, below_drewN (hbW.trans (hb2.mono hbW.size)) _⟩
theorem name_txt (s : List UInt8) (hs : s.length ≤ 100000000000) (w : World) :
    Calls Tryz.prog 7 #[txt s] w fun e w' => e = .returned (NameV (nameB s)) ∧ Below w.heap.size w w' := by
  have h := name_any ⟨s.toArray⟩ (by rw [data_size]; exact hs) w
  rw [data_toList] at h
  exact h
theorem nameV_yes {l : List UInt8} (h : nameB l = true) : NameV (nameB l) = .nilIface := by unfold NameV; rw [if_pos h]
theorem nameV_no {l : List UInt8} (h : ¬ nameB l = true) : NameV (nameB l) = .iface 24 (.int .i64 5) := by unfold NameV; rw [if_neg h]
end Go.Proofs.YtemokelgafndpaaGreatDoor
