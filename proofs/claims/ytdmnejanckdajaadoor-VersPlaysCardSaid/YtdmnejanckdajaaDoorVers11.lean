/- Contracts of Top, Size. -/
import Derived.Test.YtdmnejanckdajaaDoorCount
namespace Go.Proofs.YtdmnejanckdajaaDoor
set_option linter.unusedVariables false
set_option linter.unusedSimpArgs false
set_option maxRecDepth 100000
open Go.RowKit

theorem Top_any (t : Nat) (F : List UInt8 → List Ver) (top : Int) (m : Nat) (S : Nat → Prop) (w : World) (hT : TblAt w S t F top m) :
    Calls Tryd.prog 14 #[.pointer (some ⟨t, 0, none⟩)] w fun e w' => e = .returned (.int .i64 top) ∧ w' = w := by
  obtain ⟨⟨b, es, clock, hB, hM, hn⟩, ht, hg⟩ := hT
  have hx := hB.cell 1
  simp at hx
  go_enter Tryd.func14, Tryd.ntmps14
  go_wp2
  go_ret
  exact ⟨rfl, rfl⟩

/-- Has a key a version behind a number? -/
def lastB (l : List Ver) (n : Int) : Bool := match l.getLast? with
  | some v => decide (n < v.n)
  | none => false
theorem lastB_nil (n : Int) : lastB [] n = false := rfl
theorem lastB_at {l : List Ver} (h : 0 < l.length) (n : Int) : lastB l n = decide (n < l[l.length - 1].n) := by
  unfold lastB
  rw [List.getLast?_eq_getElem?, List.getElem?_eq_getElem (by omega)]
/-- Length of a slice. -/
def lenV : Value → Nat
  | .slice _ n _ => n
  | _ => 0
def untxt : Value → List UInt8
  | .string ⟨a⟩ => a.toList
  | _ => []
theorem untxt_txt (s : List UInt8) : untxt (txt s) = s := by simp [untxt, txt]
def sumE (l : List MapEntry) : Nat := (l.map (fun x => lenV x.val)).sum
theorem sumE_perm {l : List MapEntry} {e : MapEntry} {r : List MapEntry} (h : List.Perm l (e :: r)) : sumE l = lenV e.val + sumE r := by
  unfold sumE
  rw [(h.map _).sum_nat, List.map_cons, List.sum_cons]
theorem lenV_row {w : World} {base size n : Nat} {e : TypeId} {v : Value} {xs : List Value} (h : w.ownsRow base e size v n xs) : lenV v = n := by
  rcases h.2 with ⟨rfl, h4⟩ | ⟨g2, cap, cur, rfl, _⟩
  · exact h4.symm
  · rfl
theorem TabAt.count {w : World} {P : Program} {k vt : TypeId} {S : Nat → Prop} {b : Nat} {es : Array MapEntry} {clock : Nat} {F : List UInt8 → List Ver} (h : TabAt w P k vt S b es clock F) : Count F (sumE es.toList) := by
  refine ⟨es.toList.map (fun x => untxt x.key), ?_, fun s hs => ?_, ?_⟩
  · unfold List.Nodup
    have hn := h.map.stamped.2.2
    unfold List.Nodup at hn
    rw [List.pairwise_map] at hn ⊢
    refine hn.imp_of_mem (fun {x y} hx hy hxy e => hxy ?_)
    obtain ⟨s1, e1⟩ := h.keys x hx
    obtain ⟨s2, e2⟩ := h.keys y hy
    rw [e1, e2, untxt_txt, untxt_txt] at e
    rw [e1, e2, e]
  · obtain ⟨v, x, hx, hk, _⟩ := h.tells s hs
    exact List.mem_map.2 ⟨x, hx, by rw [hk, untxt_txt]⟩
  · unfold sumE
    rw [List.map_map]
    congr 1
    apply List.map_congr_left
    intro x hx
    obtain ⟨s1, e1⟩ := h.keys x hx
    have := (h.rows s1 x.val ⟨x, hx, e1, rfl⟩).2
    simp only [Function.comp, e1, untxt_txt]
    exact lenV_row this
theorem sum_le {c : Nat} : ∀ {l : List MapEntry}, (∀ x ∈ l, lenV x.val ≤ c) → sumE l ≤ l.length * c
  | [], _ => Nat.zero_le _
  | x :: l, h => by
    have := sum_le (fun y hy => h y (List.mem_cons_of_mem _ hy))
    have h1 := h x List.mem_cons_self
    unfold sumE at this ⊢
    rw [List.map_cons, List.sum_cons, List.length_cons, Nat.add_mul]
    omega
theorem TabAt.sum_le {w : World} {P : Program} {k vt : TypeId} {S : Nat → Prop} {b : Nat} {es : Array MapEntry} {clock : Nat} {F : List UInt8 → List Ver} {top : Int} {m : Nat} (h : TabAt w P k vt S b es clock F) (hn : es.size ≤ m) (hg : Good F top m) (hm : m ≤ 1000000) : sumE es.toList ≤ 1000000000000 := by
  have h1 : sumE es.toList ≤ es.toList.length * m := Go.Proofs.YtdmnejanckdajaaDoor.sum_le (fun x hx => by
    obtain ⟨s1, e1⟩ := h.keys x hx
    rw [lenV_row (h.rows s1 x.val ⟨x, hx, e1, rfl⟩).2]
    exact hg.len s1)
  have h2 : es.toList.length * m ≤ 1000000 * 1000000 := Nat.mul_le_mul (by simp; omega) hm
  omega

theorem Size_any (t : Nat) (F : List UInt8 → List Ver) (top : Int) (m : Nat) (hm : m ≤ 1000000) (S : Nat → Prop) (w : World) (hT : TblAt w S t F top m) :
    Calls Tryd.prog 12 #[.pointer (some ⟨t, 0, none⟩)] w fun e w' => ∃ N : Nat, e = .returned (.int .i64 N) ∧ Count F N ∧ N ≤ 1000000000000 ∧ Below w.heap.size w w' := by
  obtain ⟨⟨b, es, clock, hB, hM, hn⟩, ht, hg⟩ := hT
  have hx := hB.cell 0
  simp at hx
  have hblt := hM.map.lt
  have hsum := hM.sum_le hn hg hm
  go_enter Tryd.func12, Tryd.ntmps12
  go_wp2_with (first | (at_range; refine at_rng _ rfl _ _ rfl 9 65 Tryd.underlying58 rfl hM.map ?_; intro w2 hR2 hM2 hg2 hs2; go_frame))
  have hb2 : Below w.heap.size w w2 := (Below.refl _ _).grown hg2 (Nat.le_refl _) (fun k hk => by cases hk)
  generalize hH : w.heap.size = H at *
  go_loopw [3] (fun o wr => ∃ (left : List MapEntry) (j : Nat), o = .int .i64 j ∧ j + sumE left = sumE es.toList ∧ RangeAt wr b H es clock left ∧ Below H w wr ∧ H + 1 ≤ wr.heap.size)
    (fun _ wr => leftN wr b H)
  case atStart => exact ⟨es.toList, 0, rfl, by omega, hR2, hb2, by omega⟩
  case round =>
    obtain ⟨left, j, rfl, hj, hR, hb, hsz⟩ := hrel
    have hM3 : TabAt wr Tryd.prog 9 63 S b es clock F := hM.below (by rw [hH]; exact hb)
    have HLN := Lib.hid (hR.left_eq hM3.map)
    rcases hR.next hM3.map (by omega) 0 with ⟨h0, hrun⟩ | ⟨⟨ek, ev, eb⟩, left', w', h1, h2, hrun, h3, h4, h5, h6, h7, h8⟩
    · subst h0
      have HJ := Lib.hid (show j = sumE es.toList by simpa [sumE] using hj)
      clear hj hM3
      go_wp2
      go_ret
      exact ⟨_, rfl, by rw [HJ.out]; exact hM.count, by have := HJ.out; omega, by rw [hH]; exact hb⟩
    · obtain ⟨s, hs⟩ := hM.keys _ (hR.sub _ h1)
      have hhas : Has es (txt s) ev := ⟨_, hR.sub _ h1, hs, rfl⟩
      simp only at hs h7 h8 hrun
      subst hs
      obtain ⟨A, c, rfl, _⟩ := own_form (hM3.rows s ev hhas).2
      have hb' : Below H w w' := hb.grown h5 (by omega) (fun k hk => by injection hk with hk; omega)
      have h6' : H + 1 ≤ w'.heap.size := by omega
      have hpe := sumE_perm h2
      simp only [lenV] at hpe
      have HJ := Lib.hid (show j + (F s).length + sumE left' = sumE es.toList by omega)
      have hlen := hg.len s
      have hjb : (j : Int) + ((F s).length : Int) ≤ 1000000000000 := by omega
      clear h6 hpe hj hM3
      go_wp2
      go_roundw
      case rel => exact ⟨left', j + (F s).length, by go_num, HJ.out, h3, hb', h6'⟩
      case measure => rw [h3.left_eq h4, HLN.out, h2.length_eq]; simp
end Go.Proofs.YtdmnejanckdajaaDoor
