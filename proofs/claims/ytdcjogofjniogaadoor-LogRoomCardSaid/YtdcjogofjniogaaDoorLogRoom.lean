/- The law LogRoom: the walk of its own text, by the contracts of package log. Any number, any lists, any steps. Condition: errors.errorType is laid. -/
import Derived.Test.YtdcjogofjniogaaDoorSteps
import Derived.Test.YtdcjogofjniogaaDoorLogSafe
import Derived.Test.YtdcjogofjniogaaDoorErrLaw
namespace Go.Proofs.YtdcjogofjniogaaDoor
set_option linter.unusedVariables false
set_option linter.unusedSimpArgs false
open Go.RowKit

/-- A log with these bytes. -/
def LG (w : World) (b0 g : Nat) (room : Int) (B : List UInt8) (safe : Nat) : Prop := ∃ v left down, LogAt w b0 g v left down room B safe
section
variable {w w' : World} {b0 g : Nat} {room : Int} {B : List UInt8} {safe : Nat}
theorem LG.below (h : LG w b0 g room B safe) (hb : Below w.heap.size w w') : LG w' b0 g room B safe := by
  obtain ⟨v, left, down, h⟩ := h
  exact ⟨v, left, down, h.below hb⟩
theorem LG.append (h : LG w b0 g room B safe) (A : Option Addr) (l : List Chg) (c : Nat) (hm : l.length ≤ maxLen) (hS : Small l) (hl : Rd w w.heap.size A (cellsC l)) :
    Calls Tryd.prog 8 #[.pointer (some ⟨g, 0, none⟩), .slice A l.length c] w fun e w' => Keep b0 w w' ∧ ∃ B' safe', LG w' b0 g room B' safe' ∧
      (e = .returned .nilIface ∨ (∃ k, e = .returned (.iface 31 (.int .i64 k)) ∧ k ≠ 0 ∧ (k = 3 ∨ k = 2 → B' = B))) := by
  obtain ⟨v, left, down, h1⟩ := h
  by_cases hf : chgFault l = 0
  · by_cases hr : room < (B.length : Int) + 2 + ((encL l).length : Int)
    · exact (h1.append_full A l c hm hS hf hl hr).mono fun e w' q => ⟨Keep.of_below q.2 h1.hb, B, safe, ⟨v, left, down, h1.below q.2⟩, .inr ⟨3, q.1, by decide, fun _ => rfl⟩⟩
    · cases down with
      | true => exact (h1.append_down A l c hm hS hf hl hr).mono fun e w' q => ⟨Keep.of_below q.2 h1.hb, B, safe, ⟨v, left, true, h1.below q.2⟩, .inr ⟨8, q.1, by decide, fun _ => rfl⟩⟩
      | false =>
        by_cases h0 : left = 0
        · subst h0
          refine (h1.append_off A l c hm hS hf hl hr).mono fun e w' q => ?_
          obtain ⟨q1, v', q2, q3, q4⟩ := q
          exact ⟨Keep.of_LK h1 q3, _, safe, ⟨v', -1, true, q2⟩, .inr ⟨8, q1, by decide, fun h => by omega⟩⟩
        · refine (h1.append_on A l c hm hS hf hl hr h0).mono fun e w' q => ?_
          obtain ⟨q1, v', q2, q3, q4⟩ := q
          exact ⟨Keep.of_LK h1 q3, _, safe, ⟨v', leftS left, false, q2⟩, .inl q1⟩
  · exact (h1.append_bad A l c hm hS hf hl).mono fun e w' q => ⟨Keep.of_below q.2 h1.hb, B, safe, ⟨v, left, down, h1.below q.2⟩, .inr ⟨chgFault l, q.1, hf, fun _ => rfl⟩⟩
theorem LG.sync (h : LG w b0 g room B safe) :
    Calls Tryd.prog 11 #[.pointer (some ⟨g, 0, none⟩)] w fun e w' => (e = .returned .nilIface ∨ e = .returned (.iface 31 (.int .i64 8))) ∧ Keep b0 w w' ∧ ∃ B' safe', LG w' b0 g room B' safe' := by
  obtain ⟨v, left, down, h1⟩ := h
  cases down with
  | true => exact h1.sync_down.mono fun e w' q => by rw [q.2]; exact ⟨.inr q.1, Keep.of_below (Below.refl _ _) h1.hb, B, safe, v, left, true, h1⟩
  | false =>
    by_cases h0 : left = 0
    · subst h0
      exact h1.sync_off.mono fun e w' q => ⟨.inr q.1, Keep.of_LK h1 q.2.2, B, safe, v, -1, true, q.2.1⟩
    · exact (h1.sync_on h0).mono fun e w' q => ⟨.inl q.1, Keep.of_LK h1 q.2.2, B, B.length, v, leftS left, false, q.2.1⟩
theorem LG.fail (h : LG w b0 g room B safe) (n : Int) (hn : (Lit.int .i64 n).wf = true) :
    Calls Tryd.prog 12 #[.pointer (some ⟨g, 0, none⟩), .int .i64 n] w fun e w' => e = .returned (.tuple #[]) ∧ Keep b0 w w' ∧ ∃ B' safe', LG w' b0 g room B' safe' := by
  obtain ⟨v, left, down, h1⟩ := h
  exact (h1.fail n hn).mono fun e w' q => ⟨q.1, Keep.of_LK h1 q.2.2, B, safe, v, _, down, q.2.1⟩
theorem LG.crash (h : LG w b0 g room B safe) (n : Int) (hn : (Lit.int .i64 n).wf = true) :
    Calls Tryd.prog 13 #[.pointer (some ⟨g, 0, none⟩), .int .i64 n] w fun e w' => e = .returned (.tuple #[]) ∧ Keep b0 w w' ∧ ∃ B' safe', LG w' b0 g room B' safe' := by
  obtain ⟨v, left, down, h1⟩ := h
  refine (h1.crash n hn).mono fun e w' q => ?_
  obtain ⟨q1, v', q2, q3, q4⟩ := q
  exact ⟨q1, Keep.of_LK h1 q3, _, _, v', -1, false, q2⟩
end

set_option maxRecDepth 100000 in
set_option maxHeartbeats 40000000 in
theorem logRoom_walk (room : Int) (hroom : (Lit.int .i64 room).wf = true) (A : Option Addr) (ls : List (List Chg)) (c : Nat) (hm : ls.length ≤ maxLen) (hml : ∀ x ∈ ls, x.length ≤ maxLen ∧ Small x) (B : Option Addr) (l : List Stp) (d : Nat) (hmb : l.length ≤ maxLen) (hSl : ∀ s ∈ l, (Lit.int .i64 s.n).wf = true)
    (w : World) (hg : ErrVar w) (hl : RdLL w w.heap.size A ls) (hlb : Rd w w.heap.size B (cellsS l)) :
    Calls Tryd.prog 3 #[.int .i64 room, .slice A ls.length c, .slice B l.length d] w fun e w' => e = .returned (.bool true) ∧ Below w.heap.size w w' := by
  have HML := Lib.hid hml
  have HSL := Lib.hid hSl
  have HG := Lib.hid hg
  have hwl : wrap64 (l.length : Int) = l.length := by unfold maxLen at hmb; unfold wrap64; omega
  have hwls : wrap64 (ls.length : Int) = ls.length := by unfold maxLen at hm; unfold wrap64; omega
  clear hml hSl hg hroom
  go_enter Tryd.func3, Tryd.ntmps3
  go_wp2_with fail
  refine (new_ok 3 (by omega) w w.heap.size (Nat.le_refl _)).mono ?_
  rintro e w1 ⟨rfl, h1, hbw1⟩
  go_wp2_with fail
  refine (h1.append_on none [] 0 (by simp) (fun x hx => by (cases hx)) (by decide) Rd.nil (by decide) (by decide)).mono ?_
  rintro e w2 ⟨rfl, v2, h2, hk2, hf2⟩
  have hbw2 := hbw1.trans (Keep.of_LK h1 hk2).1
  clear hk2 hf2 h1
  go_wp2_with fail
  refine (h2.append_full none [] 0 (by simp) (fun x hx => by (cases hx)) (by decide) Rd.nil (by decide)).mono ?_
  rintro e w3 ⟨rfl, hb3⟩
  have h3 := h2.below hb3
  have hbw3 := hbw2.trans (hb3.mono hbw2.size)
  clear hb3 h2
  go_wp2_with fail
  refine (error_same 3 (by decide) w3 (HG.out.below hbw3)).mono ?_
  rintro e w4 ⟨rfl, hb4⟩
  have h4 := h3.below hb4
  have hbw4 := hbw3.trans (hb4.mono hbw3.size)
  clear hb4 h3
  go_wp2_with fail
  refine h4.bytes_ok.mono ?_
  rintro e w5 ⟨vb, rfl, ho5, hb5⟩
  obtain ⟨Ab, cb, rfl, _⟩ := own_form ho5
  have hln : ([] ++ frame []).length = 3 := by decide
  rw [hln]
  have hbw5 := hbw4.trans (hb5.mono hbw4.size)
  clear ho5 hb5 h4 hln
  go_wp2_with fail
  by_cases hr : room < 0 ∨ 100000 < room
  · refine (new_bad room hr w5).mono ?_
    rintro e w6 ⟨rfl, rfl⟩
    rcases hr with hr | hr
    · have dr : decide (room < 0) = true := decide_eq_true hr
      go_wp2
      go_ret
      exact ⟨rfl, hbw5⟩
    · have dr : decide (room < 0) = false := decide_eq_false (by omega)
      have dr2 : decide ((100000 : Int) < room) = true := decide_eq_true hr
      go_wp2
      go_ret
      exact ⟨rfl, hbw5⟩
  refine (new_ok room (by omega) w5 w.heap.size hbw5.size).mono ?_
  rintro e w6 ⟨rfl, h6, hb6⟩
  have hbw6 := hbw5.trans (hb6.mono hbw5.size)
  obtain ⟨g, hgg⟩ : ∃ g, g = w5.heap.size := ⟨_, rfl⟩
  rw [← hgg] at h6 ⊢
  clear hb6 hgg
  have hL6 : LG w6 w.heap.size g room [] 0 := ⟨_, _, _, h6⟩
  clear h6 hr
  go_wp2_with fail
  go_loopw [12, 13, 14, 15, 16, 17, 76, 112, 116, 122] (fun i _ _ _ _ _ _ _ _ _ wr => ∃ (k : Nat) (B : List UInt8) (safe : Nat), k ≤ l.length ∧ i = .int .i64 k ∧ LG wr w.heap.size g room B safe ∧ Below w.heap.size w wr) (fun i _ _ _ _ _ _ _ _ _ _ => l.length - (intOf i).toNat)
  case atStart => exact ⟨0, [], 0, Nat.zero_le _, rfl, hL6, hbw6⟩
  case round =>
    obtain ⟨k, B, safe, hk, rfl, hL, hb⟩ := hrel
    have hb0r := hb.size
    by_cases hlt : k < l.length
    · have dlt : decide ((k : Int) < (l.length : Int)) = true := decide_eq_true (by omega)
      by_cases h40 : k < 40
      · have d40 : decide ((k : Int) < 40) = true := decide_eq_true (by omega)
        obtain ⟨b, off, rfl, hbb, c0, c1, c2, c3, c4, c5⟩ := (hlb.below hb).stp hlt
        have hk0 : (0 : Int) ≤ (k : Int) := by omega
        have hk1 : (k : Int) < (l.length : Int) := by omega
        go_wp2_with fail
        refine calls_name ?_
        intro w1 hW1
        have hbs : Below wr.heap.size wr w1 := by rw [hW1.out]; exact (Below.refl _ _).alloc (Nat.le_refl _) _
        have hBs : Blk w1 wr.heap.size 35 #[.int .i64 l[k].what, .int .i64 l[k].who, strV l[k].key, strV l[k].to, strV l[k].val, .int .i64 l[k].n] := by rw [hW1.out]; exact Blk.new _ _ _
        have hL1 := hL.below hbs
        have hB1 := hb.trans (hbs.mono hb0r)
        clear hW1 hbs hL
        obtain ⟨v1, l1, d1', h1⟩ := hL1
        refine h1.bytes_ok.mono ?_
        rintro e w2 ⟨vb, rfl, ho2, hb2⟩
        obtain ⟨Ab2, cb2, rfl, hr2⟩ := own_form ho2
        have hcv2 := run_str (P := Tryd.prog) (w := w2) 32 9 5 Tryd.underlying32 Tryd.underlying5 Tryd.underlying9 cb2 hr2 rfl
        have hL2 : LG w2 w.heap.size g room B safe := ⟨_, _, _, h1.below hb2⟩
        have hB2 := hB1.trans (hb2.mono hB1.size)
        have hBs2 := hBs.below hb2 hBs.lt
        have s0 : w2.cell? ⟨wr.heap.size, 0, none⟩ = some (.int .i64 l[k].what) := hBs2.cell 0
        have s5 : w2.cell? ⟨wr.heap.size, 5, none⟩ = some (.int .i64 l[k].n) := hBs2.cell 5
        clear h1 ho2 hr2 hb2 hBs hBs2 hB1
        by_cases hw0 : l[k].what = 0
        · rw [hw0] at s0
          by_cases hn0 : 0 ≤ l[k].n
          · have d1 : decide ((0 : Int) ≤ l[k].n) = true := decide_eq_true hn0
            by_cases hn1 : l[k].n < (ls.length : Int)
            · obtain ⟨m, hm⟩ : ∃ m : Nat, l[k].n = (m : Int) := ⟨l[k].n.toNat, by omega⟩
              rw [hm] at s5
              have hml2 : m < ls.length := by omega
              obtain ⟨bm, om, Cm, cm, hAm, hbm, cmm, hrm⟩ := hl.at hml2
              subst hAm
              have cm2 := (hB2.cell (p := ⟨bm, om + m, none⟩) hbm).trans cmm
              have dm0 : (0 : Int) ≤ (m : Int) := by omega
              have dm1 : (m : Int) < (ls.length : Int) := by omega
              clear d1 hn0 hn1 hm
              go_wp2_with fail
              refine (hL2.append Cm ls[m] cm (HML.out ls[m] (List.getElem_mem _)).1 (HML.out ls[m] (List.getElem_mem _)).2 ((hrm.below hB2).more hB2.size)).mono ?_
              rintro e w3 ⟨hK3, B3, safe3, hL3, hcase⟩
              have hB3 := hB2.trans hK3.1
              clear hL2 hK3
              rcases hcase with rfl | ⟨ke, rfl, hk0, hkB⟩
              · go_wp2_with fail
                refine (error_nil 3 w3 (HG.out.below hB3)).mono ?_
                rintro e w4 ⟨rfl, hb4⟩
                have hL4 := hL3.below (hb4)
                have hB4 := hB3.trans (hb4.mono hB3.size)
                clear hb4 hL3
                go_wp2_with fail
                refine (error_nil 2 w4 (HG.out.below hB4)).mono ?_
                rintro e w5 ⟨rfl, hb5⟩
                have hL5 := hL4.below (hb5)
                have hB5 := hB4.trans (hb5.mono hB4.size)
                clear hb5 hL4
                go_wp2_with fail
                obtain ⟨vt, lt, dt, HLt⟩ := hL5
                have hrt := HLt.hr
                have hst := HLt.hs
                have dt1 : decide (room < (B3.length : Int)) = false := decide_eq_false (by omega)
                have dt2 : decide (B3.length < safe3) = false := decide_eq_false (by omega)
                have HLH := Lib.hid HLt
                clear HLt hrt hst
                refine HLH.out.bytes_ok.mono ?_
                rintro e u1 ⟨vb1, rfl, ho1, hbu1⟩
                obtain ⟨Ab1, cb1, rfl, _⟩ := own_form ho1
                have HL1 := Lib.hid (HLH.out.below hbu1)
                have hBu1 := hB5.trans (hbu1.mono hB5.size)
                clear ho1 hbu1
                go_wp2_with fail
                refine HL1.out.safe_ok.mono ?_
                rintro e u2 ⟨rfl, rfl⟩
                go_wp2_with fail
                refine HL1.out.bytes_ok.mono ?_
                rintro e u3 ⟨vb3, rfl, ho3, hbu3⟩
                obtain ⟨Ab3, cb3, rfl, _⟩ := own_form ho3
                have hL3 : LG u3 w.heap.size g room B3 safe3 := ⟨_, _, _, HL1.out.below hbu3⟩
                have hBu3 := hBu1.trans (hbu3.mono hBu1.size)
                clear ho3 hbu3
                go_wp2
                go_roundw
                case rel => exact ⟨k + 1, B3, safe3, by omega, by go_num, hL3, hBu3⟩
                case measure => simp [intOf]; omega
              · go_wp2_with fail
                refine (error_num ke 3 hk0 w3 (HG.out.below hB3)).mono ?_
                rintro e w4 ⟨rfl, hb4⟩
                have hL4 := hL3.below (hb4)
                have hB4 := hB3.trans (hb4.mono hB3.size)
                clear hb4 hL3
                go_wp2_with fail
                refine (error_num ke 2 hk0 w4 (HG.out.below hB4)).mono ?_
                rintro e w5 ⟨rfl, hb5⟩
                have hL5 := hL4.below (hb5)
                have hB5 := hB4.trans (hb5.mono hB4.size)
                clear hb5 hL4
                by_cases hk3 : ke = 3 ∨ ke = 2
                · obtain rfl := hkB hk3
                  have hor : (ke == 3 || ke == 2) = true := by simpa using hk3
                  obtain ⟨v5, l5, d5, hL5'⟩ := hL5
                  have H5 := Lib.hid hL5'
                  clear hL5' hkB
                  rcases hk3 with rfl | rfl
                  · go_wp2_with fail
                    refine H5.out.bytes_ok.mono ?_
                    rintro e w6 ⟨v6, rfl, ho6, hb6⟩
                    obtain ⟨A6, c6, rfl, hr6⟩ := own_form ho6
                    have hcv6 := run_str (P := Tryd.prog) (w := w6) 32 9 5 Tryd.underlying32 Tryd.underlying5 Tryd.underlying9 c6 hr6 rfl
                    have hL6 : LG w6 w.heap.size g room B3 safe3 := ⟨_, _, _, H5.out.below hb6⟩
                    have hB6 := hB5.trans (hb6.mono hB5.size)
                    clear ho6 hb6 hr6
                    go_wp2_with fail
                    obtain ⟨vt, lt, dt, HLt⟩ := hL6
                    have hrt := HLt.hr
                    have hst := HLt.hs
                    have dt1 : decide (room < (B3.length : Int)) = false := decide_eq_false (by omega)
                    have dt2 : decide (B3.length < safe3) = false := decide_eq_false (by omega)
                    have HLH := Lib.hid HLt
                    clear HLt hrt hst
                    refine HLH.out.bytes_ok.mono ?_
                    rintro e u1 ⟨vb1, rfl, ho1, hbu1⟩
                    obtain ⟨Ab1, cb1, rfl, _⟩ := own_form ho1
                    have HL1 := Lib.hid (HLH.out.below hbu1)
                    have hBu1 := hB6.trans (hbu1.mono hB6.size)
                    clear ho1 hbu1
                    go_wp2_with fail
                    refine HL1.out.safe_ok.mono ?_
                    rintro e u2 ⟨rfl, rfl⟩
                    go_wp2_with fail
                    refine HL1.out.bytes_ok.mono ?_
                    rintro e u3 ⟨vb3, rfl, ho3, hbu3⟩
                    obtain ⟨Ab3, cb3, rfl, _⟩ := own_form ho3
                    have hL3 : LG u3 w.heap.size g room B3 safe3 := ⟨_, _, _, HL1.out.below hbu3⟩
                    have hBu3 := hBu1.trans (hbu3.mono hBu1.size)
                    clear ho3 hbu3
                    go_wp2
                    go_roundw
                    case rel => exact ⟨k + 1, B3, safe3, by omega, by go_num, hL3, hBu3⟩
                    case measure => simp [intOf]; omega
                  · go_wp2_with fail
                    refine H5.out.bytes_ok.mono ?_
                    rintro e w6 ⟨v6, rfl, ho6, hb6⟩
                    obtain ⟨A6, c6, rfl, hr6⟩ := own_form ho6
                    have hcv6 := run_str (P := Tryd.prog) (w := w6) 32 9 5 Tryd.underlying32 Tryd.underlying5 Tryd.underlying9 c6 hr6 rfl
                    have hL6 : LG w6 w.heap.size g room B3 safe3 := ⟨_, _, _, H5.out.below hb6⟩
                    have hB6 := hB5.trans (hb6.mono hB5.size)
                    clear ho6 hb6 hr6
                    go_wp2_with fail
                    obtain ⟨vt, lt, dt, HLt⟩ := hL6
                    have hrt := HLt.hr
                    have hst := HLt.hs
                    have dt1 : decide (room < (B3.length : Int)) = false := decide_eq_false (by omega)
                    have dt2 : decide (B3.length < safe3) = false := decide_eq_false (by omega)
                    have HLH := Lib.hid HLt
                    clear HLt hrt hst
                    refine HLH.out.bytes_ok.mono ?_
                    rintro e u1 ⟨vb1, rfl, ho1, hbu1⟩
                    obtain ⟨Ab1, cb1, rfl, _⟩ := own_form ho1
                    have HL1 := Lib.hid (HLH.out.below hbu1)
                    have hBu1 := hB6.trans (hbu1.mono hB6.size)
                    clear ho1 hbu1
                    go_wp2_with fail
                    refine HL1.out.safe_ok.mono ?_
                    rintro e u2 ⟨rfl, rfl⟩
                    go_wp2_with fail
                    refine HL1.out.bytes_ok.mono ?_
                    rintro e u3 ⟨vb3, rfl, ho3, hbu3⟩
                    obtain ⟨Ab3, cb3, rfl, _⟩ := own_form ho3
                    have hL3 : LG u3 w.heap.size g room B3 safe3 := ⟨_, _, _, HL1.out.below hbu3⟩
                    have hBu3 := hBu1.trans (hbu3.mono hBu1.size)
                    clear ho3 hbu3
                    go_wp2
                    go_roundw
                    case rel => exact ⟨k + 1, B3, safe3, by omega, by go_num, hL3, hBu3⟩
                    case measure => simp [intOf]; omega
                · have k3 : (ke == 3) = false := by simp; omega
                  have k2 : (ke == 2) = false := by simp; omega
                  clear hkB
                  go_wp2_with fail
                  obtain ⟨vt, lt, dt, HLt⟩ := hL5
                  have hrt := HLt.hr
                  have hst := HLt.hs
                  have dt1 : decide (room < (B3.length : Int)) = false := decide_eq_false (by omega)
                  have dt2 : decide (B3.length < safe3) = false := decide_eq_false (by omega)
                  have HLH := Lib.hid HLt
                  clear HLt hrt hst
                  refine HLH.out.bytes_ok.mono ?_
                  rintro e u1 ⟨vb1, rfl, ho1, hbu1⟩
                  obtain ⟨Ab1, cb1, rfl, _⟩ := own_form ho1
                  have HL1 := Lib.hid (HLH.out.below hbu1)
                  have hBu1 := hB5.trans (hbu1.mono hB5.size)
                  clear ho1 hbu1
                  go_wp2_with fail
                  refine HL1.out.safe_ok.mono ?_
                  rintro e u2 ⟨rfl, rfl⟩
                  go_wp2_with fail
                  refine HL1.out.bytes_ok.mono ?_
                  rintro e u3 ⟨vb3, rfl, ho3, hbu3⟩
                  obtain ⟨Ab3, cb3, rfl, _⟩ := own_form ho3
                  have hL3 : LG u3 w.heap.size g room B3 safe3 := ⟨_, _, _, HL1.out.below hbu3⟩
                  have hBu3 := hBu1.trans (hbu3.mono hBu1.size)
                  clear ho3 hbu3
                  go_wp2
                  go_roundw
                  case rel => exact ⟨k + 1, B3, safe3, by omega, by go_num, hL3, hBu3⟩
                  case measure => simp [intOf]; omega
            · have d2 : decide (l[k].n < (ls.length : Int)) = false := decide_eq_false hn1
              go_wp2_with fail
              obtain ⟨vt, lt, dt, HLt⟩ := hL2
              have hrt := HLt.hr
              have hst := HLt.hs
              have dt1 : decide (room < (B.length : Int)) = false := decide_eq_false (by omega)
              have dt2 : decide (B.length < safe) = false := decide_eq_false (by omega)
              have HLH := Lib.hid HLt
              clear HLt hrt hst
              refine HLH.out.bytes_ok.mono ?_
              rintro e u1 ⟨vb1, rfl, ho1, hbu1⟩
              obtain ⟨Ab1, cb1, rfl, _⟩ := own_form ho1
              have HL1 := Lib.hid (HLH.out.below hbu1)
              have hBu1 := hB2.trans (hbu1.mono hB2.size)
              clear ho1 hbu1
              go_wp2_with fail
              refine HL1.out.safe_ok.mono ?_
              rintro e u2 ⟨rfl, rfl⟩
              go_wp2_with fail
              refine HL1.out.bytes_ok.mono ?_
              rintro e u3 ⟨vb3, rfl, ho3, hbu3⟩
              obtain ⟨Ab3, cb3, rfl, _⟩ := own_form ho3
              have hL3 : LG u3 w.heap.size g room B safe := ⟨_, _, _, HL1.out.below hbu3⟩
              have hBu3 := hBu1.trans (hbu3.mono hBu1.size)
              clear ho3 hbu3
              go_wp2
              go_roundw
              case rel => exact ⟨k + 1, B, safe, by omega, by go_num, hL3, hBu3⟩
              case measure => simp [intOf]; omega
          · have d1 : decide ((0 : Int) ≤ l[k].n) = false := decide_eq_false hn0
            go_wp2_with fail
            obtain ⟨vt, lt, dt, HLt⟩ := hL2
            have hrt := HLt.hr
            have hst := HLt.hs
            have dt1 : decide (room < (B.length : Int)) = false := decide_eq_false (by omega)
            have dt2 : decide (B.length < safe) = false := decide_eq_false (by omega)
            have HLH := Lib.hid HLt
            clear HLt hrt hst
            refine HLH.out.bytes_ok.mono ?_
            rintro e u1 ⟨vb1, rfl, ho1, hbu1⟩
            obtain ⟨Ab1, cb1, rfl, _⟩ := own_form ho1
            have HL1 := Lib.hid (HLH.out.below hbu1)
            have hBu1 := hB2.trans (hbu1.mono hB2.size)
            clear ho1 hbu1
            go_wp2_with fail
            refine HL1.out.safe_ok.mono ?_
            rintro e u2 ⟨rfl, rfl⟩
            go_wp2_with fail
            refine HL1.out.bytes_ok.mono ?_
            rintro e u3 ⟨vb3, rfl, ho3, hbu3⟩
            obtain ⟨Ab3, cb3, rfl, _⟩ := own_form ho3
            have hL3 : LG u3 w.heap.size g room B safe := ⟨_, _, _, HL1.out.below hbu3⟩
            have hBu3 := hBu1.trans (hbu3.mono hBu1.size)
            clear ho3 hbu3
            go_wp2
            go_roundw
            case rel => exact ⟨k + 1, B, safe, by omega, by go_num, hL3, hBu3⟩
            case measure => simp [intOf]; omega
        · have e0 : (l[k].what == 0) = false := by simpa using hw0
          by_cases hw1 : l[k].what = 1
          · rw [hw1] at s0
            by_cases hn0 : 0 ≤ l[k].n
            · have d1 : decide ((0 : Int) ≤ l[k].n) = true := decide_eq_true hn0
              by_cases hn1 : l[k].n < (ls.length : Int)
              · obtain ⟨m, hm⟩ : ∃ m : Nat, l[k].n = (m : Int) := ⟨l[k].n.toNat, by omega⟩
                rw [hm] at s5
                have hml2 : m < ls.length := by omega
                obtain ⟨bm, om, Cm, cm, hAm, hbm, cmm, hrm⟩ := hl.at hml2
                subst hAm
                have cm2 := (hB2.cell (p := ⟨bm, om + m, none⟩) hbm).trans cmm
                have dm0 : (0 : Int) ≤ (m : Int) := by omega
                have dm1 : (m : Int) < (ls.length : Int) := by omega
                clear d1 hn0 hn1 hm
                go_wp2_with fail
                refine (hL2.append Cm ls[m] cm (HML.out ls[m] (List.getElem_mem _)).1 (HML.out ls[m] (List.getElem_mem _)).2 ((hrm.below hB2).more hB2.size)).mono ?_
                rintro e w3 ⟨hK3, B3, safe3, hL3, hcase⟩
                have hB3 := hB2.trans hK3.1
                clear hL2 hK3
                rcases hcase with rfl | ⟨ke, rfl, hk0, hkB⟩
                · go_wp2_with fail
                  refine (error_nil 3 w3 (HG.out.below hB3)).mono ?_
                  rintro e w4 ⟨rfl, hb4⟩
                  have hL4 := hL3.below (hb4)
                  have hB4 := hB3.trans (hb4.mono hB3.size)
                  clear hb4 hL3
                  go_wp2_with fail
                  refine (error_nil 2 w4 (HG.out.below hB4)).mono ?_
                  rintro e w5 ⟨rfl, hb5⟩
                  have hL5 := hL4.below (hb5)
                  have hB5 := hB4.trans (hb5.mono hB4.size)
                  clear hb5 hL4
                  go_wp2_with fail
                  obtain ⟨vt, lt, dt, HLt⟩ := hL5
                  have hrt := HLt.hr
                  have hst := HLt.hs
                  have dt1 : decide (room < (B3.length : Int)) = false := decide_eq_false (by omega)
                  have dt2 : decide (B3.length < safe3) = false := decide_eq_false (by omega)
                  have HLH := Lib.hid HLt
                  clear HLt hrt hst
                  refine HLH.out.bytes_ok.mono ?_
                  rintro e u1 ⟨vb1, rfl, ho1, hbu1⟩
                  obtain ⟨Ab1, cb1, rfl, _⟩ := own_form ho1
                  have HL1 := Lib.hid (HLH.out.below hbu1)
                  have hBu1 := hB5.trans (hbu1.mono hB5.size)
                  clear ho1 hbu1
                  go_wp2_with fail
                  refine HL1.out.safe_ok.mono ?_
                  rintro e u2 ⟨rfl, rfl⟩
                  go_wp2_with fail
                  refine HL1.out.bytes_ok.mono ?_
                  rintro e u3 ⟨vb3, rfl, ho3, hbu3⟩
                  obtain ⟨Ab3, cb3, rfl, _⟩ := own_form ho3
                  have hL3 : LG u3 w.heap.size g room B3 safe3 := ⟨_, _, _, HL1.out.below hbu3⟩
                  have hBu3 := hBu1.trans (hbu3.mono hBu1.size)
                  clear ho3 hbu3
                  go_wp2
                  go_roundw
                  case rel => exact ⟨k + 1, B3, safe3, by omega, by go_num, hL3, hBu3⟩
                  case measure => simp [intOf]; omega
                · go_wp2_with fail
                  refine (error_num ke 3 hk0 w3 (HG.out.below hB3)).mono ?_
                  rintro e w4 ⟨rfl, hb4⟩
                  have hL4 := hL3.below (hb4)
                  have hB4 := hB3.trans (hb4.mono hB3.size)
                  clear hb4 hL3
                  go_wp2_with fail
                  refine (error_num ke 2 hk0 w4 (HG.out.below hB4)).mono ?_
                  rintro e w5 ⟨rfl, hb5⟩
                  have hL5 := hL4.below (hb5)
                  have hB5 := hB4.trans (hb5.mono hB4.size)
                  clear hb5 hL4
                  by_cases hk3 : ke = 3 ∨ ke = 2
                  · obtain rfl := hkB hk3
                    have hor : (ke == 3 || ke == 2) = true := by simpa using hk3
                    obtain ⟨v5, l5, d5, hL5'⟩ := hL5
                    have H5 := Lib.hid hL5'
                    clear hL5' hkB
                    rcases hk3 with rfl | rfl
                    · go_wp2_with fail
                      refine H5.out.bytes_ok.mono ?_
                      rintro e w6 ⟨v6, rfl, ho6, hb6⟩
                      obtain ⟨A6, c6, rfl, hr6⟩ := own_form ho6
                      have hcv6 := run_str (P := Tryd.prog) (w := w6) 32 9 5 Tryd.underlying32 Tryd.underlying5 Tryd.underlying9 c6 hr6 rfl
                      have hL6 : LG w6 w.heap.size g room B3 safe3 := ⟨_, _, _, H5.out.below hb6⟩
                      have hB6 := hB5.trans (hb6.mono hB5.size)
                      clear ho6 hb6 hr6
                      go_wp2_with fail
                      obtain ⟨vt, lt, dt, HLt⟩ := hL6
                      have hrt := HLt.hr
                      have hst := HLt.hs
                      have dt1 : decide (room < (B3.length : Int)) = false := decide_eq_false (by omega)
                      have dt2 : decide (B3.length < safe3) = false := decide_eq_false (by omega)
                      have HLH := Lib.hid HLt
                      clear HLt hrt hst
                      refine HLH.out.bytes_ok.mono ?_
                      rintro e u1 ⟨vb1, rfl, ho1, hbu1⟩
                      obtain ⟨Ab1, cb1, rfl, _⟩ := own_form ho1
                      have HL1 := Lib.hid (HLH.out.below hbu1)
                      have hBu1 := hB6.trans (hbu1.mono hB6.size)
                      clear ho1 hbu1
                      go_wp2_with fail
                      refine HL1.out.safe_ok.mono ?_
                      rintro e u2 ⟨rfl, rfl⟩
                      go_wp2_with fail
                      refine HL1.out.bytes_ok.mono ?_
                      rintro e u3 ⟨vb3, rfl, ho3, hbu3⟩
                      obtain ⟨Ab3, cb3, rfl, _⟩ := own_form ho3
                      have hL3 : LG u3 w.heap.size g room B3 safe3 := ⟨_, _, _, HL1.out.below hbu3⟩
                      have hBu3 := hBu1.trans (hbu3.mono hBu1.size)
                      clear ho3 hbu3
                      go_wp2
                      go_roundw
                      case rel => exact ⟨k + 1, B3, safe3, by omega, by go_num, hL3, hBu3⟩
                      case measure => simp [intOf]; omega
                    · go_wp2_with fail
                      refine H5.out.bytes_ok.mono ?_
                      rintro e w6 ⟨v6, rfl, ho6, hb6⟩
                      obtain ⟨A6, c6, rfl, hr6⟩ := own_form ho6
                      have hcv6 := run_str (P := Tryd.prog) (w := w6) 32 9 5 Tryd.underlying32 Tryd.underlying5 Tryd.underlying9 c6 hr6 rfl
                      have hL6 : LG w6 w.heap.size g room B3 safe3 := ⟨_, _, _, H5.out.below hb6⟩
                      have hB6 := hB5.trans (hb6.mono hB5.size)
                      clear ho6 hb6 hr6
                      go_wp2_with fail
                      obtain ⟨vt, lt, dt, HLt⟩ := hL6
                      have hrt := HLt.hr
                      have hst := HLt.hs
                      have dt1 : decide (room < (B3.length : Int)) = false := decide_eq_false (by omega)
                      have dt2 : decide (B3.length < safe3) = false := decide_eq_false (by omega)
                      have HLH := Lib.hid HLt
                      clear HLt hrt hst
                      refine HLH.out.bytes_ok.mono ?_
                      rintro e u1 ⟨vb1, rfl, ho1, hbu1⟩
                      obtain ⟨Ab1, cb1, rfl, _⟩ := own_form ho1
                      have HL1 := Lib.hid (HLH.out.below hbu1)
                      have hBu1 := hB6.trans (hbu1.mono hB6.size)
                      clear ho1 hbu1
                      go_wp2_with fail
                      refine HL1.out.safe_ok.mono ?_
                      rintro e u2 ⟨rfl, rfl⟩
                      go_wp2_with fail
                      refine HL1.out.bytes_ok.mono ?_
                      rintro e u3 ⟨vb3, rfl, ho3, hbu3⟩
                      obtain ⟨Ab3, cb3, rfl, _⟩ := own_form ho3
                      have hL3 : LG u3 w.heap.size g room B3 safe3 := ⟨_, _, _, HL1.out.below hbu3⟩
                      have hBu3 := hBu1.trans (hbu3.mono hBu1.size)
                      clear ho3 hbu3
                      go_wp2
                      go_roundw
                      case rel => exact ⟨k + 1, B3, safe3, by omega, by go_num, hL3, hBu3⟩
                      case measure => simp [intOf]; omega
                  · have k3 : (ke == 3) = false := by simp; omega
                    have k2 : (ke == 2) = false := by simp; omega
                    clear hkB
                    go_wp2_with fail
                    obtain ⟨vt, lt, dt, HLt⟩ := hL5
                    have hrt := HLt.hr
                    have hst := HLt.hs
                    have dt1 : decide (room < (B3.length : Int)) = false := decide_eq_false (by omega)
                    have dt2 : decide (B3.length < safe3) = false := decide_eq_false (by omega)
                    have HLH := Lib.hid HLt
                    clear HLt hrt hst
                    refine HLH.out.bytes_ok.mono ?_
                    rintro e u1 ⟨vb1, rfl, ho1, hbu1⟩
                    obtain ⟨Ab1, cb1, rfl, _⟩ := own_form ho1
                    have HL1 := Lib.hid (HLH.out.below hbu1)
                    have hBu1 := hB5.trans (hbu1.mono hB5.size)
                    clear ho1 hbu1
                    go_wp2_with fail
                    refine HL1.out.safe_ok.mono ?_
                    rintro e u2 ⟨rfl, rfl⟩
                    go_wp2_with fail
                    refine HL1.out.bytes_ok.mono ?_
                    rintro e u3 ⟨vb3, rfl, ho3, hbu3⟩
                    obtain ⟨Ab3, cb3, rfl, _⟩ := own_form ho3
                    have hL3 : LG u3 w.heap.size g room B3 safe3 := ⟨_, _, _, HL1.out.below hbu3⟩
                    have hBu3 := hBu1.trans (hbu3.mono hBu1.size)
                    clear ho3 hbu3
                    go_wp2
                    go_roundw
                    case rel => exact ⟨k + 1, B3, safe3, by omega, by go_num, hL3, hBu3⟩
                    case measure => simp [intOf]; omega
              · have d2 : decide (l[k].n < (ls.length : Int)) = false := decide_eq_false hn1
                go_wp2_with fail
                obtain ⟨vt, lt, dt, HLt⟩ := hL2
                have hrt := HLt.hr
                have hst := HLt.hs
                have dt1 : decide (room < (B.length : Int)) = false := decide_eq_false (by omega)
                have dt2 : decide (B.length < safe) = false := decide_eq_false (by omega)
                have HLH := Lib.hid HLt
                clear HLt hrt hst
                refine HLH.out.bytes_ok.mono ?_
                rintro e u1 ⟨vb1, rfl, ho1, hbu1⟩
                obtain ⟨Ab1, cb1, rfl, _⟩ := own_form ho1
                have HL1 := Lib.hid (HLH.out.below hbu1)
                have hBu1 := hB2.trans (hbu1.mono hB2.size)
                clear ho1 hbu1
                go_wp2_with fail
                refine HL1.out.safe_ok.mono ?_
                rintro e u2 ⟨rfl, rfl⟩
                go_wp2_with fail
                refine HL1.out.bytes_ok.mono ?_
                rintro e u3 ⟨vb3, rfl, ho3, hbu3⟩
                obtain ⟨Ab3, cb3, rfl, _⟩ := own_form ho3
                have hL3 : LG u3 w.heap.size g room B safe := ⟨_, _, _, HL1.out.below hbu3⟩
                have hBu3 := hBu1.trans (hbu3.mono hBu1.size)
                clear ho3 hbu3
                go_wp2
                go_roundw
                case rel => exact ⟨k + 1, B, safe, by omega, by go_num, hL3, hBu3⟩
                case measure => simp [intOf]; omega
            · have d1 : decide ((0 : Int) ≤ l[k].n) = false := decide_eq_false hn0
              go_wp2_with fail
              obtain ⟨vt, lt, dt, HLt⟩ := hL2
              have hrt := HLt.hr
              have hst := HLt.hs
              have dt1 : decide (room < (B.length : Int)) = false := decide_eq_false (by omega)
              have dt2 : decide (B.length < safe) = false := decide_eq_false (by omega)
              have HLH := Lib.hid HLt
              clear HLt hrt hst
              refine HLH.out.bytes_ok.mono ?_
              rintro e u1 ⟨vb1, rfl, ho1, hbu1⟩
              obtain ⟨Ab1, cb1, rfl, _⟩ := own_form ho1
              have HL1 := Lib.hid (HLH.out.below hbu1)
              have hBu1 := hB2.trans (hbu1.mono hB2.size)
              clear ho1 hbu1
              go_wp2_with fail
              refine HL1.out.safe_ok.mono ?_
              rintro e u2 ⟨rfl, rfl⟩
              go_wp2_with fail
              refine HL1.out.bytes_ok.mono ?_
              rintro e u3 ⟨vb3, rfl, ho3, hbu3⟩
              obtain ⟨Ab3, cb3, rfl, _⟩ := own_form ho3
              have hL3 : LG u3 w.heap.size g room B safe := ⟨_, _, _, HL1.out.below hbu3⟩
              have hBu3 := hBu1.trans (hbu3.mono hBu1.size)
              clear ho3 hbu3
              go_wp2
              go_roundw
              case rel => exact ⟨k + 1, B, safe, by omega, by go_num, hL3, hBu3⟩
              case measure => simp [intOf]; omega
          · have e1 : (l[k].what == 1) = false := by simpa using hw1
            by_cases hw2 : l[k].what = 2
            · rw [hw2] at s0
              by_cases hn0 : 0 ≤ l[k].n
              · have d1 : decide ((0 : Int) ≤ l[k].n) = true := decide_eq_true hn0
                by_cases hn1 : l[k].n < (ls.length : Int)
                · obtain ⟨m, hm⟩ : ∃ m : Nat, l[k].n = (m : Int) := ⟨l[k].n.toNat, by omega⟩
                  rw [hm] at s5
                  have hml2 : m < ls.length := by omega
                  obtain ⟨bm, om, Cm, cm, hAm, hbm, cmm, hrm⟩ := hl.at hml2
                  subst hAm
                  have cm2 := (hB2.cell (p := ⟨bm, om + m, none⟩) hbm).trans cmm
                  have dm0 : (0 : Int) ≤ (m : Int) := by omega
                  have dm1 : (m : Int) < (ls.length : Int) := by omega
                  clear d1 hn0 hn1 hm
                  go_wp2_with fail
                  refine (hL2.append Cm ls[m] cm (HML.out ls[m] (List.getElem_mem _)).1 (HML.out ls[m] (List.getElem_mem _)).2 ((hrm.below hB2).more hB2.size)).mono ?_
                  rintro e w3 ⟨hK3, B3, safe3, hL3, hcase⟩
                  have hB3 := hB2.trans hK3.1
                  clear hL2 hK3
                  rcases hcase with rfl | ⟨ke, rfl, hk0, hkB⟩
                  · go_wp2_with fail
                    refine (error_nil 3 w3 (HG.out.below hB3)).mono ?_
                    rintro e w4 ⟨rfl, hb4⟩
                    have hL4 := hL3.below (hb4)
                    have hB4 := hB3.trans (hb4.mono hB3.size)
                    clear hb4 hL3
                    go_wp2_with fail
                    refine (error_nil 2 w4 (HG.out.below hB4)).mono ?_
                    rintro e w5 ⟨rfl, hb5⟩
                    have hL5 := hL4.below (hb5)
                    have hB5 := hB4.trans (hb5.mono hB4.size)
                    clear hb5 hL4
                    go_wp2_with fail
                    obtain ⟨vt, lt, dt, HLt⟩ := hL5
                    have hrt := HLt.hr
                    have hst := HLt.hs
                    have dt1 : decide (room < (B3.length : Int)) = false := decide_eq_false (by omega)
                    have dt2 : decide (B3.length < safe3) = false := decide_eq_false (by omega)
                    have HLH := Lib.hid HLt
                    clear HLt hrt hst
                    refine HLH.out.bytes_ok.mono ?_
                    rintro e u1 ⟨vb1, rfl, ho1, hbu1⟩
                    obtain ⟨Ab1, cb1, rfl, _⟩ := own_form ho1
                    have HL1 := Lib.hid (HLH.out.below hbu1)
                    have hBu1 := hB5.trans (hbu1.mono hB5.size)
                    clear ho1 hbu1
                    go_wp2_with fail
                    refine HL1.out.safe_ok.mono ?_
                    rintro e u2 ⟨rfl, rfl⟩
                    go_wp2_with fail
                    refine HL1.out.bytes_ok.mono ?_
                    rintro e u3 ⟨vb3, rfl, ho3, hbu3⟩
                    obtain ⟨Ab3, cb3, rfl, _⟩ := own_form ho3
                    have hL3 : LG u3 w.heap.size g room B3 safe3 := ⟨_, _, _, HL1.out.below hbu3⟩
                    have hBu3 := hBu1.trans (hbu3.mono hBu1.size)
                    clear ho3 hbu3
                    go_wp2
                    go_roundw
                    case rel => exact ⟨k + 1, B3, safe3, by omega, by go_num, hL3, hBu3⟩
                    case measure => simp [intOf]; omega
                  · go_wp2_with fail
                    refine (error_num ke 3 hk0 w3 (HG.out.below hB3)).mono ?_
                    rintro e w4 ⟨rfl, hb4⟩
                    have hL4 := hL3.below (hb4)
                    have hB4 := hB3.trans (hb4.mono hB3.size)
                    clear hb4 hL3
                    go_wp2_with fail
                    refine (error_num ke 2 hk0 w4 (HG.out.below hB4)).mono ?_
                    rintro e w5 ⟨rfl, hb5⟩
                    have hL5 := hL4.below (hb5)
                    have hB5 := hB4.trans (hb5.mono hB4.size)
                    clear hb5 hL4
                    by_cases hk3 : ke = 3 ∨ ke = 2
                    · obtain rfl := hkB hk3
                      have hor : (ke == 3 || ke == 2) = true := by simpa using hk3
                      obtain ⟨v5, l5, d5, hL5'⟩ := hL5
                      have H5 := Lib.hid hL5'
                      clear hL5' hkB
                      rcases hk3 with rfl | rfl
                      · go_wp2_with fail
                        refine H5.out.bytes_ok.mono ?_
                        rintro e w6 ⟨v6, rfl, ho6, hb6⟩
                        obtain ⟨A6, c6, rfl, hr6⟩ := own_form ho6
                        have hcv6 := run_str (P := Tryd.prog) (w := w6) 32 9 5 Tryd.underlying32 Tryd.underlying5 Tryd.underlying9 c6 hr6 rfl
                        have hL6 : LG w6 w.heap.size g room B3 safe3 := ⟨_, _, _, H5.out.below hb6⟩
                        have hB6 := hB5.trans (hb6.mono hB5.size)
                        clear ho6 hb6 hr6
                        go_wp2_with fail
                        obtain ⟨vt, lt, dt, HLt⟩ := hL6
                        have hrt := HLt.hr
                        have hst := HLt.hs
                        have dt1 : decide (room < (B3.length : Int)) = false := decide_eq_false (by omega)
                        have dt2 : decide (B3.length < safe3) = false := decide_eq_false (by omega)
                        have HLH := Lib.hid HLt
                        clear HLt hrt hst
                        refine HLH.out.bytes_ok.mono ?_
                        rintro e u1 ⟨vb1, rfl, ho1, hbu1⟩
                        obtain ⟨Ab1, cb1, rfl, _⟩ := own_form ho1
                        have HL1 := Lib.hid (HLH.out.below hbu1)
                        have hBu1 := hB6.trans (hbu1.mono hB6.size)
                        clear ho1 hbu1
                        go_wp2_with fail
                        refine HL1.out.safe_ok.mono ?_
                        rintro e u2 ⟨rfl, rfl⟩
                        go_wp2_with fail
                        refine HL1.out.bytes_ok.mono ?_
                        rintro e u3 ⟨vb3, rfl, ho3, hbu3⟩
                        obtain ⟨Ab3, cb3, rfl, _⟩ := own_form ho3
                        have hL3 : LG u3 w.heap.size g room B3 safe3 := ⟨_, _, _, HL1.out.below hbu3⟩
                        have hBu3 := hBu1.trans (hbu3.mono hBu1.size)
                        clear ho3 hbu3
                        go_wp2
                        go_roundw
                        case rel => exact ⟨k + 1, B3, safe3, by omega, by go_num, hL3, hBu3⟩
                        case measure => simp [intOf]; omega
                      · go_wp2_with fail
                        refine H5.out.bytes_ok.mono ?_
                        rintro e w6 ⟨v6, rfl, ho6, hb6⟩
                        obtain ⟨A6, c6, rfl, hr6⟩ := own_form ho6
                        have hcv6 := run_str (P := Tryd.prog) (w := w6) 32 9 5 Tryd.underlying32 Tryd.underlying5 Tryd.underlying9 c6 hr6 rfl
                        have hL6 : LG w6 w.heap.size g room B3 safe3 := ⟨_, _, _, H5.out.below hb6⟩
                        have hB6 := hB5.trans (hb6.mono hB5.size)
                        clear ho6 hb6 hr6
                        go_wp2_with fail
                        obtain ⟨vt, lt, dt, HLt⟩ := hL6
                        have hrt := HLt.hr
                        have hst := HLt.hs
                        have dt1 : decide (room < (B3.length : Int)) = false := decide_eq_false (by omega)
                        have dt2 : decide (B3.length < safe3) = false := decide_eq_false (by omega)
                        have HLH := Lib.hid HLt
                        clear HLt hrt hst
                        refine HLH.out.bytes_ok.mono ?_
                        rintro e u1 ⟨vb1, rfl, ho1, hbu1⟩
                        obtain ⟨Ab1, cb1, rfl, _⟩ := own_form ho1
                        have HL1 := Lib.hid (HLH.out.below hbu1)
                        have hBu1 := hB6.trans (hbu1.mono hB6.size)
                        clear ho1 hbu1
                        go_wp2_with fail
                        refine HL1.out.safe_ok.mono ?_
                        rintro e u2 ⟨rfl, rfl⟩
                        go_wp2_with fail
                        refine HL1.out.bytes_ok.mono ?_
                        rintro e u3 ⟨vb3, rfl, ho3, hbu3⟩
                        obtain ⟨Ab3, cb3, rfl, _⟩ := own_form ho3
                        have hL3 : LG u3 w.heap.size g room B3 safe3 := ⟨_, _, _, HL1.out.below hbu3⟩
                        have hBu3 := hBu1.trans (hbu3.mono hBu1.size)
                        clear ho3 hbu3
                        go_wp2
                        go_roundw
                        case rel => exact ⟨k + 1, B3, safe3, by omega, by go_num, hL3, hBu3⟩
                        case measure => simp [intOf]; omega
                    · have k3 : (ke == 3) = false := by simp; omega
                      have k2 : (ke == 2) = false := by simp; omega
                      clear hkB
                      go_wp2_with fail
                      obtain ⟨vt, lt, dt, HLt⟩ := hL5
                      have hrt := HLt.hr
                      have hst := HLt.hs
                      have dt1 : decide (room < (B3.length : Int)) = false := decide_eq_false (by omega)
                      have dt2 : decide (B3.length < safe3) = false := decide_eq_false (by omega)
                      have HLH := Lib.hid HLt
                      clear HLt hrt hst
                      refine HLH.out.bytes_ok.mono ?_
                      rintro e u1 ⟨vb1, rfl, ho1, hbu1⟩
                      obtain ⟨Ab1, cb1, rfl, _⟩ := own_form ho1
                      have HL1 := Lib.hid (HLH.out.below hbu1)
                      have hBu1 := hB5.trans (hbu1.mono hB5.size)
                      clear ho1 hbu1
                      go_wp2_with fail
                      refine HL1.out.safe_ok.mono ?_
                      rintro e u2 ⟨rfl, rfl⟩
                      go_wp2_with fail
                      refine HL1.out.bytes_ok.mono ?_
                      rintro e u3 ⟨vb3, rfl, ho3, hbu3⟩
                      obtain ⟨Ab3, cb3, rfl, _⟩ := own_form ho3
                      have hL3 : LG u3 w.heap.size g room B3 safe3 := ⟨_, _, _, HL1.out.below hbu3⟩
                      have hBu3 := hBu1.trans (hbu3.mono hBu1.size)
                      clear ho3 hbu3
                      go_wp2
                      go_roundw
                      case rel => exact ⟨k + 1, B3, safe3, by omega, by go_num, hL3, hBu3⟩
                      case measure => simp [intOf]; omega
                · have d2 : decide (l[k].n < (ls.length : Int)) = false := decide_eq_false hn1
                  go_wp2_with fail
                  obtain ⟨vt, lt, dt, HLt⟩ := hL2
                  have hrt := HLt.hr
                  have hst := HLt.hs
                  have dt1 : decide (room < (B.length : Int)) = false := decide_eq_false (by omega)
                  have dt2 : decide (B.length < safe) = false := decide_eq_false (by omega)
                  have HLH := Lib.hid HLt
                  clear HLt hrt hst
                  refine HLH.out.bytes_ok.mono ?_
                  rintro e u1 ⟨vb1, rfl, ho1, hbu1⟩
                  obtain ⟨Ab1, cb1, rfl, _⟩ := own_form ho1
                  have HL1 := Lib.hid (HLH.out.below hbu1)
                  have hBu1 := hB2.trans (hbu1.mono hB2.size)
                  clear ho1 hbu1
                  go_wp2_with fail
                  refine HL1.out.safe_ok.mono ?_
                  rintro e u2 ⟨rfl, rfl⟩
                  go_wp2_with fail
                  refine HL1.out.bytes_ok.mono ?_
                  rintro e u3 ⟨vb3, rfl, ho3, hbu3⟩
                  obtain ⟨Ab3, cb3, rfl, _⟩ := own_form ho3
                  have hL3 : LG u3 w.heap.size g room B safe := ⟨_, _, _, HL1.out.below hbu3⟩
                  have hBu3 := hBu1.trans (hbu3.mono hBu1.size)
                  clear ho3 hbu3
                  go_wp2
                  go_roundw
                  case rel => exact ⟨k + 1, B, safe, by omega, by go_num, hL3, hBu3⟩
                  case measure => simp [intOf]; omega
              · have d1 : decide ((0 : Int) ≤ l[k].n) = false := decide_eq_false hn0
                go_wp2_with fail
                obtain ⟨vt, lt, dt, HLt⟩ := hL2
                have hrt := HLt.hr
                have hst := HLt.hs
                have dt1 : decide (room < (B.length : Int)) = false := decide_eq_false (by omega)
                have dt2 : decide (B.length < safe) = false := decide_eq_false (by omega)
                have HLH := Lib.hid HLt
                clear HLt hrt hst
                refine HLH.out.bytes_ok.mono ?_
                rintro e u1 ⟨vb1, rfl, ho1, hbu1⟩
                obtain ⟨Ab1, cb1, rfl, _⟩ := own_form ho1
                have HL1 := Lib.hid (HLH.out.below hbu1)
                have hBu1 := hB2.trans (hbu1.mono hB2.size)
                clear ho1 hbu1
                go_wp2_with fail
                refine HL1.out.safe_ok.mono ?_
                rintro e u2 ⟨rfl, rfl⟩
                go_wp2_with fail
                refine HL1.out.bytes_ok.mono ?_
                rintro e u3 ⟨vb3, rfl, ho3, hbu3⟩
                obtain ⟨Ab3, cb3, rfl, _⟩ := own_form ho3
                have hL3 : LG u3 w.heap.size g room B safe := ⟨_, _, _, HL1.out.below hbu3⟩
                have hBu3 := hBu1.trans (hbu3.mono hBu1.size)
                clear ho3 hbu3
                go_wp2
                go_roundw
                case rel => exact ⟨k + 1, B, safe, by omega, by go_num, hL3, hBu3⟩
                case measure => simp [intOf]; omega
            · have e2 : (l[k].what == 2) = false := by simpa using hw2
              by_cases hw3 : l[k].what = 3
              · rw [hw3] at s0
                go_wp2_with fail
                refine (hL2.sync).mono ?_
                rintro e w3 ⟨hq3, hK3, B3, safe3, hL3⟩
                have hB3 := hB2.trans hK3.1
                clear hL2 hK3
                rcases hq3 with rfl | rfl
                · go_wp2_with fail
                  obtain ⟨vt, lt, dt, HLt⟩ := hL3
                  have hrt := HLt.hr
                  have hst := HLt.hs
                  have dt1 : decide (room < (B3.length : Int)) = false := decide_eq_false (by omega)
                  have dt2 : decide (B3.length < safe3) = false := decide_eq_false (by omega)
                  have HLH := Lib.hid HLt
                  clear HLt hrt hst
                  refine HLH.out.bytes_ok.mono ?_
                  rintro e u1 ⟨vb1, rfl, ho1, hbu1⟩
                  obtain ⟨Ab1, cb1, rfl, _⟩ := own_form ho1
                  have HL1 := Lib.hid (HLH.out.below hbu1)
                  have hBu1 := hB3.trans (hbu1.mono hB3.size)
                  clear ho1 hbu1
                  go_wp2_with fail
                  refine HL1.out.safe_ok.mono ?_
                  rintro e u2 ⟨rfl, rfl⟩
                  go_wp2_with fail
                  refine HL1.out.bytes_ok.mono ?_
                  rintro e u3 ⟨vb3, rfl, ho3, hbu3⟩
                  obtain ⟨Ab3, cb3, rfl, _⟩ := own_form ho3
                  have hL3 : LG u3 w.heap.size g room B3 safe3 := ⟨_, _, _, HL1.out.below hbu3⟩
                  have hBu3 := hBu1.trans (hbu3.mono hBu1.size)
                  clear ho3 hbu3
                  go_wp2
                  go_roundw
                  case rel => exact ⟨k + 1, B3, safe3, by omega, by go_num, hL3, hBu3⟩
                  case measure => simp [intOf]; omega
                · go_wp2_with fail
                  obtain ⟨vt, lt, dt, HLt⟩ := hL3
                  have hrt := HLt.hr
                  have hst := HLt.hs
                  have dt1 : decide (room < (B3.length : Int)) = false := decide_eq_false (by omega)
                  have dt2 : decide (B3.length < safe3) = false := decide_eq_false (by omega)
                  have HLH := Lib.hid HLt
                  clear HLt hrt hst
                  refine HLH.out.bytes_ok.mono ?_
                  rintro e u1 ⟨vb1, rfl, ho1, hbu1⟩
                  obtain ⟨Ab1, cb1, rfl, _⟩ := own_form ho1
                  have HL1 := Lib.hid (HLH.out.below hbu1)
                  have hBu1 := hB3.trans (hbu1.mono hB3.size)
                  clear ho1 hbu1
                  go_wp2_with fail
                  refine HL1.out.safe_ok.mono ?_
                  rintro e u2 ⟨rfl, rfl⟩
                  go_wp2_with fail
                  refine HL1.out.bytes_ok.mono ?_
                  rintro e u3 ⟨vb3, rfl, ho3, hbu3⟩
                  obtain ⟨Ab3, cb3, rfl, _⟩ := own_form ho3
                  have hL3 : LG u3 w.heap.size g room B3 safe3 := ⟨_, _, _, HL1.out.below hbu3⟩
                  have hBu3 := hBu1.trans (hbu3.mono hBu1.size)
                  clear ho3 hbu3
                  go_wp2
                  go_roundw
                  case rel => exact ⟨k + 1, B3, safe3, by omega, by go_num, hL3, hBu3⟩
                  case measure => simp [intOf]; omega
              · have e3 : (l[k].what == 3) = false := by simpa using hw3
                by_cases hw4 : l[k].what = 4
                · rw [hw4] at s0
                  go_wp2_with fail
                  refine (hL2.fail _ (HSL.out l[k] (List.getElem_mem _))).mono ?_
                  rintro e w3 ⟨hq3, hK3, B3, safe3, hL3⟩
                  have hB3 := hB2.trans hK3.1
                  clear hL2 hK3
                  subst hq3
                  go_wp2_with fail
                  obtain ⟨vt, lt, dt, HLt⟩ := hL3
                  have hrt := HLt.hr
                  have hst := HLt.hs
                  have dt1 : decide (room < (B3.length : Int)) = false := decide_eq_false (by omega)
                  have dt2 : decide (B3.length < safe3) = false := decide_eq_false (by omega)
                  have HLH := Lib.hid HLt
                  clear HLt hrt hst
                  refine HLH.out.bytes_ok.mono ?_
                  rintro e u1 ⟨vb1, rfl, ho1, hbu1⟩
                  obtain ⟨Ab1, cb1, rfl, _⟩ := own_form ho1
                  have HL1 := Lib.hid (HLH.out.below hbu1)
                  have hBu1 := hB3.trans (hbu1.mono hB3.size)
                  clear ho1 hbu1
                  go_wp2_with fail
                  refine HL1.out.safe_ok.mono ?_
                  rintro e u2 ⟨rfl, rfl⟩
                  go_wp2_with fail
                  refine HL1.out.bytes_ok.mono ?_
                  rintro e u3 ⟨vb3, rfl, ho3, hbu3⟩
                  obtain ⟨Ab3, cb3, rfl, _⟩ := own_form ho3
                  have hL3 : LG u3 w.heap.size g room B3 safe3 := ⟨_, _, _, HL1.out.below hbu3⟩
                  have hBu3 := hBu1.trans (hbu3.mono hBu1.size)
                  clear ho3 hbu3
                  go_wp2
                  go_roundw
                  case rel => exact ⟨k + 1, B3, safe3, by omega, by go_num, hL3, hBu3⟩
                  case measure => simp [intOf]; omega
                · have e4 : (l[k].what == 4) = false := by simpa using hw4
                  by_cases hw5 : l[k].what = 5
                  · rw [hw5] at s0
                    go_wp2_with fail
                    refine (hL2.crash _ (HSL.out l[k] (List.getElem_mem _))).mono ?_
                    rintro e w3 ⟨hq3, hK3, B3, safe3, hL3⟩
                    have hB3 := hB2.trans hK3.1
                    clear hL2 hK3
                    subst hq3
                    go_wp2_with fail
                    obtain ⟨vt, lt, dt, HLt⟩ := hL3
                    have hrt := HLt.hr
                    have hst := HLt.hs
                    have dt1 : decide (room < (B3.length : Int)) = false := decide_eq_false (by omega)
                    have dt2 : decide (B3.length < safe3) = false := decide_eq_false (by omega)
                    have HLH := Lib.hid HLt
                    clear HLt hrt hst
                    refine HLH.out.bytes_ok.mono ?_
                    rintro e u1 ⟨vb1, rfl, ho1, hbu1⟩
                    obtain ⟨Ab1, cb1, rfl, _⟩ := own_form ho1
                    have HL1 := Lib.hid (HLH.out.below hbu1)
                    have hBu1 := hB3.trans (hbu1.mono hB3.size)
                    clear ho1 hbu1
                    go_wp2_with fail
                    refine HL1.out.safe_ok.mono ?_
                    rintro e u2 ⟨rfl, rfl⟩
                    go_wp2_with fail
                    refine HL1.out.bytes_ok.mono ?_
                    rintro e u3 ⟨vb3, rfl, ho3, hbu3⟩
                    obtain ⟨Ab3, cb3, rfl, _⟩ := own_form ho3
                    have hL3 : LG u3 w.heap.size g room B3 safe3 := ⟨_, _, _, HL1.out.below hbu3⟩
                    have hBu3 := hBu1.trans (hbu3.mono hBu1.size)
                    clear ho3 hbu3
                    go_wp2
                    go_roundw
                    case rel => exact ⟨k + 1, B3, safe3, by omega, by go_num, hL3, hBu3⟩
                    case measure => simp [intOf]; omega
                  · have e5 : (l[k].what == 5) = false := by simpa using hw5
                    go_wp2_with fail
                    obtain ⟨vt, lt, dt, HLt⟩ := hL2
                    have hrt := HLt.hr
                    have hst := HLt.hs
                    have dt1 : decide (room < (B.length : Int)) = false := decide_eq_false (by omega)
                    have dt2 : decide (B.length < safe) = false := decide_eq_false (by omega)
                    have HLH := Lib.hid HLt
                    clear HLt hrt hst
                    refine HLH.out.bytes_ok.mono ?_
                    rintro e u1 ⟨vb1, rfl, ho1, hbu1⟩
                    obtain ⟨Ab1, cb1, rfl, _⟩ := own_form ho1
                    have HL1 := Lib.hid (HLH.out.below hbu1)
                    have hBu1 := hB2.trans (hbu1.mono hB2.size)
                    clear ho1 hbu1
                    go_wp2_with fail
                    refine HL1.out.safe_ok.mono ?_
                    rintro e u2 ⟨rfl, rfl⟩
                    go_wp2_with fail
                    refine HL1.out.bytes_ok.mono ?_
                    rintro e u3 ⟨vb3, rfl, ho3, hbu3⟩
                    obtain ⟨Ab3, cb3, rfl, _⟩ := own_form ho3
                    have hL3 : LG u3 w.heap.size g room B safe := ⟨_, _, _, HL1.out.below hbu3⟩
                    have hBu3 := hBu1.trans (hbu3.mono hBu1.size)
                    clear ho3 hbu3
                    go_wp2
                    go_roundw
                    case rel => exact ⟨k + 1, B, safe, by omega, by go_num, hL3, hBu3⟩
                    case measure => simp [intOf]; omega
      · have d40 : decide ((k : Int) < 40) = false := decide_eq_false (by omega)
        go_wp2
        go_ret
        exact ⟨rfl, hb⟩
    · have dlt : decide ((k : Int) < (l.length : Int)) = false := decide_eq_false (by omega)
      go_wp2
      go_ret
      exact ⟨rfl, hb⟩
end Go.Proofs.YtdcjogofjniogaaDoor
