/- Contract of the reference's Insert. No conditions. -/
import Derived.Test.YtdmnejanckdajaaDoorRefV4
namespace Go.Proofs.YtdmnejanckdajaaDoor
set_option linter.unusedVariables false
set_option linter.unusedSimpArgs false
set_option maxRecDepth 100000
open Go.RowKit

def insKV (p : KV) : List KV → List KV
  | [] => [p]
  | q :: l => if lessB p.1 q.1 then p :: q :: l else q :: insKV p l
theorem insKV_mem (p x : KV) : ∀ l, x ∈ insKV p l ↔ x = p ∨ x ∈ l
  | [] => by simp [insKV]
  | q :: l => by
    unfold insKV
    split
    · simp
    · simp only [List.mem_cons, insKV_mem p x l]
      constructor
      · rintro (h | h | h)
        · exact .inr (.inl h)
        · exact .inl h
        · exact .inr (.inr h)
      · rintro (h | h | h)
        · exact .inr (.inl h)
        · exact .inl h
        · exact .inr (.inr h)
theorem insKV_len (p : KV) : ∀ l, (insKV p l).length = l.length + 1
  | [] => rfl
  | q :: l => by
    unfold insKV
    split
    · simp
    · simp [insKV_len p l]
theorem insKV_rise (p : KV) : ∀ {l : List KV}, Rise Prod.fst l → (∀ x ∈ l, x.1 ≠ p.1) → Rise Prod.fst (insKV p l)
  | [], _, _ => by unfold Rise; simp [insKV]
  | q :: l, h, hn => by
    have h' := List.pairwise_cons.1 h
    unfold insKV
    split
    · rename_i hl
      unfold Rise
      rw [List.pairwise_cons]
      refine ⟨fun x hx => ?_, h⟩
      rcases List.mem_cons.1 hx with rfl | hx
      · exact hl
      · exact lessB_trans hl (h'.1 x hx)
    · rename_i hl
      unfold Rise
      rw [List.pairwise_cons]
      refine ⟨fun x hx => ?_, insKV_rise p h'.2 (fun x hx => hn x (List.mem_cons_of_mem _ hx))⟩
      rcases (insKV_mem p x l).1 hx with rfl | hx
      · exact lessB_of (by simpa using hl) (hn q List.mem_cons_self)
      · exact h'.1 x hx
/-- After i rounds. -/
def InsRel (p : KV) (l : List KV) (i : Nat) (out : List KV) (done : Bool) : Prop := match done with
  | true => out ++ l.drop i = insKV p l
  | false => out ++ insKV p (l.drop i) = insKV p l
theorem ins_done {p : KV} {l : List KV} {i : Nat} {out : List KV} (h : InsRel p l i out true) (hi : i < l.length) : InsRel p l (i + 1) (out ++ [l[i]]) true := by
  unfold InsRel at *
  simp only at *
  rw [← h, List.append_assoc, List.singleton_append, List.drop_eq_getElem_cons hi]
theorem ins_put {p : KV} {l : List KV} {i : Nat} {out : List KV} (h : InsRel p l i out false) (hi : i < l.length) (hl : lessB p.1 l[i].1 = true) : InsRel p l (i + 1) (out ++ [p] ++ [l[i]]) true := by
  unfold InsRel at *
  simp only at *
  rw [← h, List.drop_eq_getElem_cons hi, insKV, if_pos hl]
  simp
theorem ins_skip {p : KV} {l : List KV} {i : Nat} {out : List KV} (h : InsRel p l i out false) (hi : i < l.length) (hl : lessB p.1 l[i].1 = false) : InsRel p l (i + 1) (out ++ [l[i]]) false := by
  unfold InsRel at *
  simp only at *
  rw [← h, List.drop_eq_getElem_cons hi, insKV, if_neg (by rw [hl]; simp)]
  simp
theorem ins_end {p : KV} {l : List KV} {out : List KV} {done : Bool} (h : InsRel p l l.length out done) : (if done then out else out ++ [p]) = insKV p l := by
  unfold InsRel at h
  cases done
  · simpa [insKV] using h
  · simpa using h

theorem Rd.kvAt {w : World} {B b off : Nat} {l : List KV} (h : Rd w B (some ⟨b, off, none⟩) (flatE encKV l)) {k : Nat} (hk : k < l.length) :
    w.cell? ⟨b, off + k * 2, none⟩ = some (txt l[k].1) ∧ w.cell? ⟨b, off + k * 2 + 1, none⟩ = some (txt l[k].2) := by
  obtain ⟨b', off', e, hb, c⟩ := h.kv hk
  injection e with e
  injection e with e1 e2
  subst e1 e2
  exact c
set_option maxHeartbeats 8000000 in
theorem insert_any (A : Option Addr) (l : List KV) (c : Nat) (p : KV) (hL : l.length ≤ 1000000) (w : World) (hl : Rd w w.heap.size A (flatE encKV l)) :
    Calls Tryd.prog 30 #[.slice A l.length c, .agg #[txt p.1, txt p.2]] w fun e w' => ∃ v, e = .returned v ∧ OwnKV w' w.heap.size v (insKV p l) ∧ Below w.heap.size w w' := by
  obtain ⟨ps, pv⟩ := p
  have hBk := Blk.new w 69 #[txt ps, txt pv]
  have hb0 : Below w.heap.size w (w.alloc (.cells #[txt ps, txt pv] 69)) := (Below.refl _ _).alloc (Nat.le_refl _) _
  have hrd := hl.below hb0
  have hszw : (w.alloc (.cells #[txt ps, txt pv] 69)).heap.size = w.heap.size + 1 := by simp
  have hin : InsRel (ps, pv) l 0 [] false := by unfold InsRel; simp
  have HIN := Lib.hid hin
  clear hin
  go_enter Tryd.func30, Tryd.ntmps30
  go_wp2
  generalize hW1 : w.alloc (.cells #[txt ps, txt pv] 69) = w1 at *
  have hH : w.heap.size < w1.heap.size := by omega
  have hbx : w1.cell? ⟨w.heap.size, 0, none⟩ = some (txt ps) ∧ w1.cell? ⟨w.heap.size, 1, none⟩ = some (txt pv) := ⟨hBk.cell 0, hBk.cell 1⟩
  clear hszw hW1 hl hBk
  generalize hH1 : w1.heap.size = H1 at *
  go_loopw [5, 6, 7] (fun o d i wr => ∃ (k : Nat) (done : Bool) (out : List KV), k ≤ l.length ∧ i = .int .i64 k ∧ d = .bool done ∧ InsRel (ps, pv) l k out done ∧ out.length ≤ 2 * k ∧ OwnKV wr H1 o out ∧ Below H1 w1 wr ∧ H1 ≤ wr.heap.size) (fun _ _ i _ => l.length - (intOf i).toNat)
  case atStart => exact ⟨0, false, [], Nat.zero_le _, rfl, rfl, HIN.out, by simp, OwnKV.nil _ _, Below.refl _ _, Nat.le_of_eq hH1.symm⟩
  case round =>
    obtain ⟨k, done, out, hk, rfl, rfl, hrel, hol, hown, hb, hsz⟩ := hrel
    have b0 := (hb.cell (p := ⟨w.heap.size, 0, none⟩) hH).trans hbx.1
    have b1 := (hb.cell (p := ⟨w.heap.size, 1, none⟩) hH).trans hbx.2
    by_cases hlt : k < l.length
    · obtain ⟨b, off, rfl, hbb, _⟩ := hrd.kv hlt
      have hrdk := hrd
      obtain ⟨c0, c1⟩ := (hrd.below (hb.mono (by omega))).kvAt hlt
      have hI1 : (0 : Int) ≤ (k : Int) := by omega
      have hI2 : (k : Int) < (l.length : Int) := by omega
      have hLE := Lib.hid (lessB_eq' ps l[k].1)
      cases done
      · rcases q1 : Op.bytesLess ps l[k].1 with _ | _
        · have HR := Lib.hid (ins_skip hrel hlt (by have := hLE.out; rw [q1] at this; exact this.symm))
          go_wp2_with fail
          go_quiet (fail)
          have hownq : OwnKV (wr.drewN nq) H1 u5 out := hown
          have hbq : Below H1 w1 (wr.drewN nq) := Below.drewN' hb
          have hszq : H1 ≤ (wr.drewN nq).heap.size := hsz
          generalize wr.drewN nq = w3 at *
          have c0' : w3.cell? ⟨b, off + k * 2, none⟩ = some (txt l[k].1) := (hrdk.below (hbq.mono (by omega))).kvAt hlt |>.1
          have c1' : w3.cell? ⟨b, off + k * 2 + 1, none⟩ = some (txt l[k].2) := (hrdk.below (hbq.mono (by omega))).kvAt hlt |>.2
          have b0' : w3.cell? ⟨w.heap.size, 0, none⟩ = some (txt ps) := (hbq.cell (p := ⟨w.heap.size, 0, none⟩) hH).trans hbx.1
          have b1' : w3.cell? ⟨w.heap.size, 1, none⟩ = some (txt pv) := (hbq.cell (p := ⟨w.heap.size, 1, none⟩) hH).trans hbx.2
          have h1c := encKV_one l[k]
          have holn : out.length < 1000000000 := by omega
          clear hown hb hsz b0 b1 c0 c1 hrel
          go_wp2_with (at_builtin; refine wpList_append_elt rfl (.tmp 30) (.tmp 35) 35 rfl 69 Tryd.underlying35 _ 2 32 infoKV rfl (by decide) (by decide) H1 u5 out.length (flatE encKV out) (by rfl) hownq #[txt l[k].1, txt l[k].2] rfl h1c rfl holn hszq ?_; intro v4 w4 hown4 hg4 hat4)
          have hb4 : Below H1 w1 w4 := hbq.grown hg4 hszq (fun q hq => (World.ownsRow.lt hownq q hq).1)
          have hsz4 : H1 ≤ w4.heap.size := Nat.le_trans hszq hg4.size
          go_wp2
          go_roundw
          case rel => exact ⟨k + 1, false, _, by omega, by go_num, rfl, HR.out, by simp; omega, by unfold OwnKV; rw [flatE_append, List.length_append]; exact hown4, hb4, hsz4⟩
          case measure => simp [intOf]; omega
        · have HR := Lib.hid (ins_put hrel hlt (by have := hLE.out; rw [q1] at this; exact this.symm))
          go_wp2_with fail
          go_quiet (fail)
          have hownq : OwnKV (wr.drewN nq) H1 u5 out := hown
          have hbq : Below H1 w1 (wr.drewN nq) := Below.drewN' hb
          have hszq : H1 ≤ (wr.drewN nq).heap.size := hsz
          generalize wr.drewN nq = w3 at *
          have c0' : w3.cell? ⟨b, off + k * 2, none⟩ = some (txt l[k].1) := (hrdk.below (hbq.mono (by omega))).kvAt hlt |>.1
          have c1' : w3.cell? ⟨b, off + k * 2 + 1, none⟩ = some (txt l[k].2) := (hrdk.below (hbq.mono (by omega))).kvAt hlt |>.2
          have b0' : w3.cell? ⟨w.heap.size, 0, none⟩ = some (txt ps) := (hbq.cell (p := ⟨w.heap.size, 0, none⟩) hH).trans hbx.1
          have b1' : w3.cell? ⟨w.heap.size, 1, none⟩ = some (txt pv) := (hbq.cell (p := ⟨w.heap.size, 1, none⟩) hH).trans hbx.2
          have h1c := encKV_one l[k]
          have holn : out.length < 1000000000 := by omega
          clear hown hb hsz b0 b1 c0 c1 hrel
          have h1p := encKV_one (ps, pv)
          go_wp2_with (first
            | (at_builtin; refine wpList_append_elt rfl (.tmp 26) (.tmp 28) 35 rfl 69 Tryd.underlying35 _ 2 32 infoKV rfl (by decide) (by decide) H1 u5 out.length (flatE encKV out) (by rfl) hownq #[txt ps, txt pv] rfl h1p rfl holn hszq ?_; intro v4 w4 hown4 hg4 hat4; have hb4 : Below H1 w1 w4 := hbq.grown hg4 hszq (fun q hq => (World.ownsRow.lt hownq q hq).1); have hsz4 : H1 ≤ w4.heap.size := Nat.le_trans hszq hg4.size; have c0s : w4.cell? ⟨b, off + k * 2, none⟩ = some (txt l[k].1) := ((hrdk.below (hb4.mono (by omega))).kvAt hlt).1; have c1s : w4.cell? ⟨b, off + k * 2 + 1, none⟩ = some (txt l[k].2) := ((hrdk.below (hb4.mono (by omega))).kvAt hlt).2)
            | (at_builtin; refine wpList_append_elt rfl (.tmp 30) (.tmp 35) 35 rfl 69 Tryd.underlying35 _ 2 32 infoKV rfl (by decide) (by decide) H1 v4 (out.length + 1) (flatE encKV out ++ [txt ps, txt pv]) (by rfl) hown4 #[txt l[k].1, txt l[k].2] rfl h1c rfl (by omega) hsz4 ?_; intro v5 w5 hown5 hg5 hat5))
          have hb5 : Below H1 w1 w5 := hb4.grown hg5 hsz4 (fun q hq => (World.ownsRow.lt hown4 q hq).1)
          have hsz5 : H1 ≤ w5.heap.size := Nat.le_trans hsz4 hg5.size
          go_wp2
          go_roundw
          case rel => exact ⟨k + 1, true, _, by omega, by go_num, rfl, HR.out, by simp; omega, by unfold OwnKV; rw [flatE_append, List.length_append, flatE_append, List.length_append]; exact hown5, hb5, hsz5⟩
          case measure => simp [intOf]; omega
      · have HR := Lib.hid (ins_done hrel hlt)
        go_wp2_with fail
        go_quiet (fail)
        have hownq : OwnKV (wr.drewN nq) H1 u5 out := hown
        have hbq : Below H1 w1 (wr.drewN nq) := Below.drewN' hb
        have hszq : H1 ≤ (wr.drewN nq).heap.size := hsz
        generalize wr.drewN nq = w3 at *
        have c0' : w3.cell? ⟨b, off + k * 2, none⟩ = some (txt l[k].1) := (hrdk.below (hbq.mono (by omega))).kvAt hlt |>.1
        have c1' : w3.cell? ⟨b, off + k * 2 + 1, none⟩ = some (txt l[k].2) := (hrdk.below (hbq.mono (by omega))).kvAt hlt |>.2
        have b0' : w3.cell? ⟨w.heap.size, 0, none⟩ = some (txt ps) := (hbq.cell (p := ⟨w.heap.size, 0, none⟩) hH).trans hbx.1
        have b1' : w3.cell? ⟨w.heap.size, 1, none⟩ = some (txt pv) := (hbq.cell (p := ⟨w.heap.size, 1, none⟩) hH).trans hbx.2
        have h1c := encKV_one l[k]
        have holn : out.length < 1000000000 := by omega
        clear hown hb hsz b0 b1 c0 c1 hrel
        go_wp2_with (at_builtin; refine wpList_append_elt rfl (.tmp 30) (.tmp 35) 35 rfl 69 Tryd.underlying35 _ 2 32 infoKV rfl (by decide) (by decide) H1 u5 out.length (flatE encKV out) (by rfl) hownq #[txt l[k].1, txt l[k].2] rfl h1c rfl holn hszq ?_; intro v4 w4 hown4 hg4 hat4)
        have hb4 : Below H1 w1 w4 := hbq.grown hg4 hszq (fun q hq => (World.ownsRow.lt hownq q hq).1)
        have hsz4 : H1 ≤ w4.heap.size := Nat.le_trans hszq hg4.size
        go_wp2
        go_roundw
        case rel => exact ⟨k + 1, true, _, by omega, by go_num, rfl, HR.out, by simp; omega, by unfold OwnKV; rw [flatE_append, List.length_append]; exact hown4, hb4, hsz4⟩
        case measure => simp [intOf]; omega
    · obtain rfl : k = l.length := by omega
      have HE := Lib.hid (ins_end hrel)
      clear hrel
      have holn : out.length < 1000000000 := by omega
      cases done
      · have h1p := encKV_one (ps, pv)
        go_wp2_with (at_builtin; refine wpList_append_elt rfl (.tmp 39) (.tmp 41) 35 rfl 69 Tryd.underlying35 _ 2 32 infoKV rfl (by decide) (by decide) H1 u5 out.length (flatE encKV out) (by rfl) hown #[txt ps, txt pv] rfl h1p rfl holn hsz ?_; intro v4 w4 hown4 hg4 hat4)
        have hb4 : Below H1 w1 w4 := hb.grown hg4 hsz (fun q hq => (World.ownsRow.lt hown q hq).1)
        go_wp2
        go_ret
        refine ⟨v4, rfl, ?_, hb0.trans (hb4.mono (by omega))⟩
        rw [← HE.out]
        unfold OwnKV
        simp only [Bool.false_eq_true, if_false]
        rw [flatE_append, List.length_append]
        exact own_of_base hown4 (by omega)
      · go_wp2
        go_ret
        refine ⟨u5, rfl, ?_, hb0.trans (hb.mono (by omega))⟩
        rw [← HE.out]
        exact own_of_base hown (by omega)
end Go.Proofs.YtdmnejanckdajaaDoor
