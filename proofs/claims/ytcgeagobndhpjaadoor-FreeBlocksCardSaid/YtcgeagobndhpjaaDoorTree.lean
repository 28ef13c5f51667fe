/- Contracts of package tree: those, tops, Check, checked, Above, Below. -/
import Derived.Test.YtcgeagobndhpjaaDoorAddr
import Derived.Test.YtcgeagobndhpjaaDoorTreeMath
namespace Go.Proofs.YtcgeagobndhpjaaDoor
set_option linter.unusedVariables false
set_option linter.unusedSimpArgs false
open Go.RowKit

theorem infoPfx : (Tryd.prog.info? 23).map (fun i => (i.zero, i.size, i.bytes)) = some (some (.agg #[.int .i64 0, .int .i64 0]), 2, 16) := by kernel_rfl

theorem takeFilter_snoc {α : Type} (f : α → Bool) (l : List α) (k : Nat) (h : k < l.length) : (l.take (k + 1)).filter f = (l.take k).filter f ++ (if f l[k] then [l[k]] else []) := by
  rw [List.take_succ_eq_append_getElem h, List.filter_append]
  congr 1
  by_cases hf : f l[k] <;> simp [List.filter, hf]


set_option maxHeartbeats 400000 in
theorem those_any (f : Int × Int → Bool) (A : Option Addr) (l : List (Int × Int)) (c kf : Nat) (cap : Value) (w : World) (hl : Rd w w.heap.size A (cellsP l)) (hlen : l.length ≤ 1000000)
    (eg : ∀ args w, (callFunc kf args).run Tryd.prog w = .ok (.enter kf args) w)
    (hkeep : ∀ x : World, Below w.heap.size w x → ∀ p ∈ l, Calls Tryd.prog kf #[.agg #[.int .i64 p.1, .int .i64 p.2], cap] x fun e w' => e = .returned (.bool (f p)) ∧ Below x.heap.size x w') :
    Calls Tryd.prog 90 #[.slice A l.length c, .func (.func kf) #[] #[cap]] w (OwnRes 23 w (l.filter f)) := by
  have HK := Lib.hid hkeep
  clear hkeep
  go_enter Tryd.func90, Tryd.ntmps90
  go_wp2
  go_loopw [5, 7, 10] (fun v _ i wr => ∃ k : Nat, k ≤ l.length ∧ i = .int .i64 k ∧ Below w.heap.size w wr ∧ OwnP wr w.heap.size 23 v ((l.take k).filter f)) (fun _ _ i _ => l.length - (intOf i).toNat)
  case atStart => exact ⟨0, Nat.zero_le _, rfl, Below.refl _ _, OwnP.nil _ _ _⟩
  case round =>
    obtain ⟨k, hk, rfl, hb, hown⟩ := hrel
    by_cases hlt : k < l.length
    · obtain ⟨b, off, rfl, hbb, c0, c1⟩ := (hl.below hb).pair hlt
      have hfl : ((l.take k).filter f).length ≤ k := Nat.le_trans (List.length_filter_le _ _) (List.length_take_le _ _)
      have hsz := hb.size
      go_wp2_with fail
      refine (HK.out _ (hb.alloc hb.size _) l[k] (List.getElem_mem _)).mono ?_
      rintro e w1 ⟨rfl, hb1⟩
      obtain ⟨d0, d1⟩ := keep2 hb1 (new2 wr _ _ _) (by simp)
      have hown1 := (hown.alloc _).below hb1
      have hb' := (hb.alloc hb.size _).trans (hb1.mono (by simp; omega))
      have hsz1 := hb'.size
      have hsn := takeFilter_snoc f l k hlt
      have HS := Lib.hid hsn
      clear hsn hb1 hown
      by_cases hf : f l[k] = true
      · go_wp2_with (at_builtin; go_loud (refine wpList_append_pair (p := l[k]) rfl _ _ 51 rfl Tryd.underlying51 infoPfx w.heap.size _ _ rfl hown1 rfl (by omega) hsz1 ?_); intro v2 w2 hown2 hb2)
        go_roundw
        case rel => exact ⟨k + 1, by omega, by go_num, hb'.trans hb2, by rw [HS.out, if_pos hf]; exact hown2⟩
        case measure => simp [intOf]; omega
      · go_wp2
        go_roundw
        case rel => exact ⟨k + 1, by omega, by go_num, hb', by rw [HS.out, if_neg hf, List.append_nil]; exact hown1⟩
        case measure => simp [intOf]; omega
    · obtain rfl : k = l.length := by omega
      go_wp2
      go_ret
      exact ⟨_, rfl, by simpa using hown, hb⟩

theorem order_any (p q : Pf) (hp : chkP p = 0) (hq : chkP q = 0) (w : World) :
    Calls Tryd.prog 84 #[.agg #[.int .i64 p.1, .int .i64 p.2], .agg #[.int .i64 q.1, .int .i64 q.2]] w fun e w' => e = .returned (.int .i64 (ordP p q)) ∧ Below w.heap.size w w' := by
  obtain ⟨_, _, _, _, _⟩ := chk_zero.1 hp
  obtain ⟨_, _, _, _, _⟩ := chk_zero.1 hq
  clear hp hq
  by_cases h : p.1 = q.1
  · have e : ordP p q = p.2 - q.2 := by simp [ordP, h]
    have h' : (p.1 != q.1) = false := by simpa using h
    rw [e]
    clear e h
    go_enter Tryd.func84, Tryd.ntmps84
    go_wp2
    go_ret
    exact ⟨rfl, ((Below.refl _ _).alloc (Nat.le_refl _) _).alloc (by simp) _⟩
  · have e : ordP p q = p.1 - q.1 := by simp [ordP, h]
    have h' : (p.1 != q.1) = true := by simpa using h
    rw [e]
    clear e h
    go_enter Tryd.func84, Tryd.ntmps84
    go_wp2
    go_ret
    exact ⟨rfl, ((Below.refl _ _).alloc (Nat.le_refl _) _).alloc (by simp) _⟩

def FaultV (k : Int) : Value := if k = 0 then .nilIface else .iface 25 (.int .i64 k)

theorem treeGo_bad {l : List Pf} {k : Nat} (hlen : l.length ≤ 60) (h : k < l.length) (hg : treeGo none l = treeGo (prevOf l k) (l.drop k)) (hb : chkP l[k] ≠ 0) : FaultV (treeFault l) = .iface 25 (.int .i64 (chkP l[k])) := by
  unfold treeFault
  rw [if_neg (by omega), hg, treeGo_step l k h, if_pos hb]
  unfold FaultV
  rw [if_neg hb]
theorem treeGo_shape {l : List Pf} {k : Nat} (hlen : l.length ≤ 60) (h : k < l.length) (hg : treeGo none l = treeGo (prevOf l k) (l.drop k)) (hc : chkP l[k] = 0) (hb : badOrd (prevOf l k) l[k] = true) : FaultV (treeFault l) = .iface 25 (.int .i64 2) := by
  unfold treeFault
  rw [if_neg (by omega), hg, treeGo_step l k h, if_neg (by simp [hc]), if_pos hb]
  rfl
theorem treeGo_next {l : List Pf} {k : Nat} (h : k < l.length) (hg : treeGo none l = treeGo (prevOf l k) (l.drop k)) (hc : chkP l[k] = 0) (hb : badOrd (prevOf l k) l[k] = false) : treeGo none l = treeGo (prevOf l (k + 1)) (l.drop (k + 1)) := by
  rw [hg, treeGo_step l k h, if_neg (by simp [hc]), if_neg (by simp [hb])]
theorem treeGo_end {l : List Pf} (hlen : l.length ≤ 60) (hg : treeGo none l = treeGo (prevOf l l.length) (l.drop l.length)) : FaultV (treeFault l) = .nilIface := by
  unfold treeFault
  rw [if_neg (by omega), hg, List.drop_length]
  rfl
theorem take_all {l : List Pf} {k : Nat} (h : k < l.length) (hv : ∀ p ∈ l.take k, chkP p = 0) (hc : chkP l[k] = 0) : ∀ p ∈ l.take (k + 1), chkP p = 0 := by
  intro p hp
  rw [List.take_succ_eq_append_getElem h, List.mem_append] at hp
  rcases hp with hp | hp
  · exact hv p hp
  · simp at hp; subst hp; exact hc

set_option maxHeartbeats 800000 in
theorem treeCheck_any (A : Option Addr) (l : List Pf) (c : Nat) (hm : l.length ≤ maxLen) (w : World) (hl : Rd w w.heap.size A (cellsP l)) :
    Calls Tryd.prog 34 #[.slice A l.length c] w fun e w' => e = .returned (FaultV (treeFault l)) ∧ Below w.heap.size w w' := by
  unfold maxLen at hm
  by_cases h60 : l.length ≤ 60
  · go_enter Tryd.func34, Tryd.ntmps34
    go_wp2
    go_loopw [3, 4, 5, 12] (fun _ _ _ i wr => ∃ k : Nat, k ≤ l.length ∧ i = .int .i64 k ∧ Below w.heap.size w wr ∧ treeGo none l = treeGo (prevOf l k) (l.drop k) ∧ ∀ p ∈ l.take k, chkP p = 0) (fun _ _ _ i _ => l.length - (intOf i).toNat)
    case atStart => exact ⟨0, Nat.zero_le _, rfl, Below.refl _ _, rfl, by simp⟩
    case round =>
      obtain ⟨k, hk, rfl, hb, hg, hv⟩ := hrel
      by_cases hlt : k < l.length
      · obtain ⟨b, off, rfl, hbb, c0, c1⟩ := (hl.below hb).pair hlt
        have hs := hb.size
        by_cases hc : chkP l[k] = 0
        · rcases Nat.eq_zero_or_pos k with h0 | h0
          · subst h0
            simp only [Nat.zero_mul, Nat.add_zero] at c0 c1
            have HN := Lib.hid (treeGo_next hlt hg hc rfl)
            have HV := Lib.hid (take_all hlt hv hc)
            clear hg hv
            go_wp2_with fail
            refine (check_ok _ _ hc _).mono ?_
            rintro e w1 ⟨rfl, hb1⟩
            have hb2 := (hb.alloc hb.size _).trans (hb1.mono (by simp; omega))
            clear hb1 hc
            go_wp2_with fail
            refine wp_region_bel w.heap.size w (by kernel_rfl) (by kernel_rfl) hb2 ?_
            repeat (go_big_quiet_step (fail))
            refine wpQuiet_nil ?_
            intro w2 hb3
            go_wp2
            go_roundw
            case rel => exact ⟨1, by omega, by go_num, hb3, HN.out, HV.out⟩
            case measure => simp [intOf]; omega
          · obtain ⟨j, rfl⟩ : ∃ j, k = j + 1 := ⟨k - 1, by omega⟩
            obtain ⟨b', off', he, _, d0, d1⟩ := (hl.below hb).pair (k := j) (by omega)
            obtain ⟨rfl, rfl⟩ : b = b' ∧ off = off' := by simpa using he
            clear he
            have hj : chkP l[j] = 0 := hv _ (List.mem_take_iff_getElem.2 ⟨j, by omega, rfl⟩)
            have hprev : prevOf l (j + 1) = some l[j] := by simp [prevOf]
            have hr := ordP_range hj hc
            by_cases ho : 0 ≤ ordP l[j] l[j + 1]
            · have HS := Lib.hid (treeGo_shape h60 hlt hg hc (by rw [hprev]; simpa [badOrd] using ho))
              clear hg hv hprev
              go_wp2_with fail
              refine (check_ok _ _ hc _).mono ?_
              rintro e w1 ⟨rfl, hb1⟩
              have hb2 := (hb.alloc hb.size (.cells #[.int .i64 l[j + 1].1, .int .i64 l[j + 1].2] 23)).trans (hb1.mono (by simp; omega))
              obtain ⟨e0, e1, _⟩ := ((Blk.new wr 23 #[.int .i64 l[j + 1].1, .int .i64 l[j + 1].2]).below hb1 (by simp)).two
              have hs1 := hb1.size
              simp only [World.size_alloc] at hs1
              obtain ⟨k0, k1⟩ := bel2 (B := w1.heap.size) (W := w1) ⟨e0, e1⟩ (by omega)
              have k2 : ∀ x : BelW w1.heap.size w1, x.1.cell? ⟨b, off + j * 2, none⟩ = some (.int .i64 l[j].1) := BelW.cell ((hb1.cell (by simp; omega)).trans ((World.cell?_alloc_lt wr _ _ (by simp; omega)).trans d0)) (by simp; omega)
              have k3 : ∀ x : BelW w1.heap.size w1, x.1.cell? ⟨b, off + j * 2 + 1, none⟩ = some (.int .i64 l[j].2) := BelW.cell ((hb1.cell (by simp; omega)).trans ((World.cell?_alloc_lt wr _ _ (by simp; omega)).trans d1)) (by simp; omega)
              clear hb1 c0 c1 d0 d1 e0 e1
              go_wp2_with fail
              refine wp_region_bel w1.heap.size w1 (by kernel_rfl) (by kernel_rfl) (Below.refl _ _) ?_
              repeat (go_big_quiet_step ((go_at_call 84; exact Calls.bel_of (Nat.le_refl _) (order_any _ _ hj hc _))))
              refine wpQuiet_nil ?_
              intro w2 hb3
              clear k0 k1 k2 k3
              go_wp2
              go_ret
              exact ⟨by rw [HS.out]; rfl, hb2.trans (hb3.mono (by omega))⟩
            · have HN := Lib.hid (treeGo_next hlt hg hc (by rw [hprev]; simpa [badOrd] using ho))
              have HV := Lib.hid (take_all hlt hv hc)
              clear hg hv hprev
              go_wp2_with fail
              refine (check_ok _ _ hc _).mono ?_
              rintro e w1 ⟨rfl, hb1⟩
              have hb2 := (hb.alloc hb.size (.cells #[.int .i64 l[j + 1].1, .int .i64 l[j + 1].2] 23)).trans (hb1.mono (by simp; omega))
              obtain ⟨e0, e1, _⟩ := ((Blk.new wr 23 #[.int .i64 l[j + 1].1, .int .i64 l[j + 1].2]).below hb1 (by simp)).two
              have hs1 := hb1.size
              simp only [World.size_alloc] at hs1
              obtain ⟨k0, k1⟩ := bel2 (B := w1.heap.size) (W := w1) ⟨e0, e1⟩ (by omega)
              have k2 : ∀ x : BelW w1.heap.size w1, x.1.cell? ⟨b, off + j * 2, none⟩ = some (.int .i64 l[j].1) := BelW.cell ((hb1.cell (by simp; omega)).trans ((World.cell?_alloc_lt wr _ _ (by simp; omega)).trans d0)) (by simp; omega)
              have k3 : ∀ x : BelW w1.heap.size w1, x.1.cell? ⟨b, off + j * 2 + 1, none⟩ = some (.int .i64 l[j].2) := BelW.cell ((hb1.cell (by simp; omega)).trans ((World.cell?_alloc_lt wr _ _ (by simp; omega)).trans d1)) (by simp; omega)
              clear hb1 c0 c1 d0 d1 e0 e1
              go_wp2_with fail
              refine wp_region_bel w1.heap.size w1 (by kernel_rfl) (by kernel_rfl) (Below.refl _ _) ?_
              repeat (go_big_quiet_step ((go_at_call 84; exact Calls.bel_of (Nat.le_refl _) (order_any _ _ hj hc _))))
              refine wpQuiet_nil ?_
              intro w2 hb3
              clear k0 k1 k2 k3
              go_wp2
              go_roundw
              case rel => exact ⟨j + 1 + 1, by omega, by go_num, hb2.trans (hb3.mono (by omega)), HN.out, HV.out⟩
              case measure => simp [intOf]; omega
        · have HB := Lib.hid (treeGo_bad h60 hlt hg hc)
          clear hg hv
          go_wp2_with fail
          refine (check_bad _ _ hc _).mono ?_
          rintro e w1 ⟨rfl, hb1⟩
          go_wp2
          go_ret
          exact ⟨by rw [HB.out]; rfl, (hb.alloc hb.size _).trans (hb1.mono (by simp; omega))⟩
      · obtain rfl : k = l.length := by omega
        have HE := Lib.hid (treeGo_end h60 hg)
        clear hg hv
        go_wp2
        go_ret
        exact ⟨by rw [HE.out]; rfl, hb⟩
  · have e : FaultV (treeFault l) = .iface 25 (.int .i64 3) := by unfold treeFault; rw [if_pos (by omega)]; rfl
    rw [e]
    clear e
    go_enter Tryd.func34, Tryd.ntmps34
    go_wp2
    go_ret
    exact ⟨rfl, Below.refl _ _⟩

set_option maxHeartbeats 800000 in
theorem tops_any (A : Option Addr) (l : List Pf) (c : Nat) (hlen : l.length ≤ 1000000) (hval : ∀ p ∈ l, chkP p = 0) (w : World) (hl : Rd w w.heap.size A (cellsP l)) :
    Calls Tryd.prog 95 #[.slice A l.length c] w (OwnRes 23 w (tops l)) := by
  have HV := Lib.hid hval
  clear hval
  go_enter Tryd.func95, Tryd.ntmps95
  go_wp2
  go_loopw [3, 5, 6, 9] (fun v _ _ i wr => ∃ (k : Nat) (O : List Pf), k ≤ l.length ∧ i = .int .i64 k ∧ Below w.heap.size w wr ∧ OwnP wr w.heap.size 23 v O ∧ O.length ≤ k ∧ (∀ p ∈ O, p ∈ l) ∧ O ++ topsGo O.getLast? (l.drop k) = topsGo none l) (fun _ _ _ i _ => l.length - (intOf i).toNat)
  case atStart => exact ⟨0, [], Nat.zero_le _, rfl, Below.refl _ _, OwnP.nil _ _ _, by simp, by simp, rfl⟩
  case round =>
    obtain ⟨k, O, hk, rfl, hb, hown, hO, hOl, hg⟩ := hrel
    by_cases hlt : k < l.length
    · obtain ⟨b, off, rfl, hbb, c0, c1⟩ := (hl.below hb).pair hlt
      have hs := hb.size
      have hck := HV.out l[k] (List.getElem_mem _)
      by_cases hO0 : O = []
      · subst hO0
        have HG := Lib.hid (show [l[k]] ++ topsGo (some l[k]) (l.drop (k + 1)) = topsGo none l by rw [← hg]; exact (topsGo_keep0 hlt).symm)
        clear hg hOl
        obtain ⟨Av, cv, hv, _⟩ := hown.form
        simp only [List.length_nil] at hv
        subst hv
        have hown' := hown.alloc (.cells #[.int .i64 l[k].1, .int .i64 l[k].2] 23)
        have hb' := hb.alloc hs (.cells #[.int .i64 l[k].1, .int .i64 l[k].2] 23)
        obtain ⟨k0, k1⟩ := bel2 (B := wr.heap.size + 1) (new2 wr (.int .i64 l[k].1) (.int .i64 l[k].2) 23) (by omega)
        go_wp2_with fail
        refine wp_region_bel (wr.heap.size + 1) _ (by kernel_rfl) (by kernel_rfl) (Below.refl _ _) ?_
        repeat (go_big_quiet_step (fail))
        refine wpQuiet_nil ?_
        intro w2 hb2
        have hb3 := hb'.trans (hb2.mono (by omega))
        have hs3 := hb3.size
        have hown2 := hown'.below (by simpa using hb2)
        obtain ⟨e0, e1, _⟩ := ((Blk.new wr 23 #[.int .i64 l[k].1, .int .i64 l[k].2]).below hb2 (by omega)).two
        clear k0 k1 hb2 hown hown'
        go_wp2_with (at_builtin; refine wpList_append_pair (p := l[k]) rfl _ _ 51 rfl Tryd.underlying51 infoPfx w.heap.size _ _ rfl hown2 rfl (by simp) hs3 ?_; intro v4 w4 hown4 hb4)
        go_roundw
        case rel => exact ⟨k + 1, [l[k]], by omega, by go_num, hb3.trans hb4, hown4, by simp, by intro p hp; simp at hp; subst hp; exact List.getElem_mem _, HG.out⟩
        case measure => simp [intOf]; omega
      · obtain ⟨O', q, rfl⟩ : ∃ O' q, O = O' ++ [q] := ⟨O.dropLast, O.getLast hO0, (List.dropLast_concat_getLast hO0).symm⟩
        have hcq := HV.out q (hOl q (by simp))
        obtain ⟨Av, cv, hv, hr⟩ := hown.form
        have hL : (O' ++ [q]).length = O'.length + 1 := by simp
        rw [hL] at hv
        subst hv
        obtain ⟨b2, off2, rfl, hbb2, d0, d1⟩ := hr.pair (k := O'.length) (by simp)
        have hlast : (O' ++ [q])[O'.length]'(by simp) = q := by simp
        rw [hlast] at d0 d1
        rw [List.getLast?_append, List.getLast?_singleton, Option.some_or] at hg
        rw [hL] at hO
        have hne0 : ((O'.length : Int) + 1 == 0) = false := by rw [beq_eq_false_iff_ne]; omega
        have hown' := hown.alloc (.cells #[.int .i64 l[k].1, .int .i64 l[k].2] 23)
        have hb' := hb.alloc hs (.cells #[.int .i64 l[k].1, .int .i64 l[k].2] 23)
        obtain ⟨k0, k1⟩ := bel2 (B := wr.heap.size + 1) (new2 wr (.int .i64 l[k].1) (.int .i64 l[k].2) 23) (by omega)
        have k2 : ∀ x : BelW (wr.heap.size + 1) (wr.alloc (.cells #[.int .i64 l[k].1, .int .i64 l[k].2] 23)), x.1.cell? ⟨b2, off2 + O'.length * 2, none⟩ = some (.int .i64 q.1) := BelW.cell ((World.cell?_alloc_lt wr _ _ (by simp; omega)).trans d0) (by simp; omega)
        have k3 : ∀ x : BelW (wr.heap.size + 1) (wr.alloc (.cells #[.int .i64 l[k].1, .int .i64 l[k].2] 23)), x.1.cell? ⟨b2, off2 + O'.length * 2 + 1, none⟩ = some (.int .i64 q.2) := BelW.cell ((World.cell?_alloc_lt wr _ _ (by simp; omega)).trans d1) (by simp; omega)
        clear d0 d1 hr hlast
        by_cases hin : inP l[k].1 l[k].2 q.1 q.2 = true
        · have HG := Lib.hid (show O' ++ [q] ++ topsGo (O' ++ [q]).getLast? (l.drop (k + 1)) = topsGo none l by rw [List.getLast?_append, List.getLast?_singleton, Option.some_or, ← hg, topsGo_drop hlt hin])
          have HOL := Lib.hid hOl
          clear hg hOl hL hown hO0
          go_wp2_with fail
          refine wp_region_bel (wr.heap.size + 1) _ (by kernel_rfl) (by kernel_rfl) (Below.refl _ _) ?_
          repeat (go_big_quiet_step ((go_at_call 80; exact Calls.bel_of (by simp) (in_any _ _ _ _ hck hcq _))))
          refine wpQuiet_nil ?_
          intro w2 hb2
          have hb3 := hb'.trans (hb2.mono (by omega))
          have hown2 := hown'.below (by simpa using hb2)
          clear k0 k1 k2 k3 hb2
          go_wp2
          go_roundw
          case rel => exact ⟨k + 1, O' ++ [q], by omega, by go_num, hb3, hown2, by simp; omega, HOL.out, HG.out⟩
          case measure => simp [intOf]; omega
        · have hin' : inP l[k].1 l[k].2 q.1 q.2 = false := by simpa using hin
          have HG := Lib.hid (show O' ++ [q] ++ [l[k]] ++ topsGo (O' ++ [q] ++ [l[k]]).getLast? (l.drop (k + 1)) = topsGo none l by rw [List.getLast?_append, List.getLast?_singleton, Option.some_or, ← hg, topsGo_keep hlt hin']; simp)
          have HOL := Lib.hid hOl
          have HL := Lib.hid hL
          clear hg hOl hL hown hO0 hin
          go_wp2_with fail
          refine wp_region_bel (wr.heap.size + 1) _ (by kernel_rfl) (by kernel_rfl) (Below.refl _ _) ?_
          repeat (go_big_quiet_step ((go_at_call 80; exact Calls.bel_of (by simp) (in_any _ _ _ _ hck hcq _))))
          refine wpQuiet_nil ?_
          intro w2 hb2
          have hb3 := hb'.trans (hb2.mono (by omega))
          have hs3 := hb3.size
          have hown2 := hown'.below (by simpa using hb2)
          obtain ⟨e0, e1, _⟩ := ((Blk.new wr 23 #[.int .i64 l[k].1, .int .i64 l[k].2]).below hb2 (by omega)).two
          clear k0 k1 k2 k3 hb2
          go_wp2_with (at_builtin; refine wpList_append_pair (p := l[k]) rfl _ _ 51 rfl Tryd.underlying51 infoPfx w.heap.size _ _ rfl hown2 rfl (by rw [HL.out]; omega) hs3 ?_; intro v4 w4 hown4 hb4)
          go_roundw
          case rel => exact ⟨k + 1, O' ++ [q] ++ [l[k]], by omega, by go_num, hb3.trans hb4, hown4, by simp; omega, by intro p hp; rcases List.mem_append.1 hp with hp | hp; exact HOL.out p hp; simp at hp; subst hp; exact List.getElem_mem _, HG.out⟩
          case measure => simp [intOf]; omega
    · obtain rfl : k = l.length := by omega
      have hO' : O = tops l := by
        rw [List.drop_length] at hg
        cases hq : O.getLast? <;> rw [hq] at hg <;> simpa [topsGo, tops] using hg
      have HO := Lib.hid hO'
      clear hg hO'
      go_wp2
      go_ret
      exact ⟨_, rfl, HO.out ▸ hown, hb⟩

set_option maxHeartbeats 800000 in
theorem search_any (A : Option Addr) (l : List Pf) (c : Nat) (p : Pf) (hlen : l.length ≤ 60) (hval : ∀ p ∈ l, chkP p = 0) (hp : chkP p = 0) (hpw : l.Pairwise (fun p q => ordP p q < 0)) (w : World) (hl : Rd w w.heap.size A (cellsP l)) :
    Calls Tryd.prog 115 #[.slice A l.length c, .agg #[.int .i64 p.1, .int .i64 p.2], .func (.func 84) #[] #[]] w fun e w' => e = .returned (.tuple #[.int .i64 (atOf l p), .bool (decide (p ∈ l))]) ∧ Below w.heap.size w w' := by
  have HV := Lib.hid hval
  have HW := Lib.hid (List.pairwise_iff_getElem.1 hpw)
  have HPW := Lib.hid hpw
  clear hval hpw
  go_enter Tryd.func115, Tryd.ntmps115
  go_wp2
  have hB0 := Blk.new w 23 #[.int .i64 p.1, .int .i64 p.2]
  have hb0 := (Below.refl w.heap.size w).alloc (Nat.le_refl _) (.cells #[.int .i64 p.1, .int .i64 p.2] 23)
  go_loopw [9, 10, 11] (fun vi vj _ wr => ∃ i j : Nat, vi = .int .i64 i ∧ vj = .int .i64 j ∧ i ≤ j ∧ j ≤ l.length ∧ Below (w.heap.size + 1) (w.alloc (.cells #[.int .i64 p.1, .int .i64 p.2] 23)) wr ∧
      (∀ k (h : k < l.length), k < i → ordP l[k] p < 0) ∧ (∀ k (h : k < l.length), j ≤ k → 0 ≤ ordP l[k] p)) (fun vi vj _ _ => (intOf vj - intOf vi).toNat)
  case atStart => exact ⟨0, l.length, rfl, rfl, by omega, by omega, Below.refl _ _, fun k h hk => by omega, fun k h hk => by omega⟩
  case round =>
    obtain ⟨i, j, rfl, rfl, h1, h2, hb, g1, g2⟩ := hrel
    have hs := hb.size
    simp only [World.size_alloc] at hs
    have hB := hB0.below hb (by omega)
    obtain ⟨d0, d1, _⟩ := hB.two
    obtain ⟨k0, k1⟩ := bel2 (B := wr.heap.size) (W := wr) ⟨d0, d1⟩ (by omega)
    have G1 := Lib.hid g1
    have G2 := Lib.hid g2
    clear g1 g2
    by_cases hij : i < j
    · go_wp2
      obtain ⟨h, hh⟩ : ∃ h : Nat, ((i : Int) + (j : Int)) / 2 = (h : Int) := ⟨(i + j) / 2, by omega⟩
      have hh1 : i ≤ h := by omega
      have hh2 : h < j := by omega
      rw [hh]
      clear hh
      obtain ⟨b, off, rfl, hbb, c0, c1⟩ := ((hl.alloc (Nat.le_refl _) _).below (hb.mono (by omega))).pair (k := h) (by omega)
      have k2 : ∀ x : BelW wr.heap.size wr, x.1.cell? ⟨b, off + h * 2, none⟩ = some (.int .i64 l[h].1) := BelW.cell c0 (by simp; omega)
      have k3 : ∀ x : BelW wr.heap.size wr, x.1.cell? ⟨b, off + h * 2 + 1, none⟩ = some (.int .i64 l[h].2) := BelW.cell c1 (by simp; omega)
      have hck := HV.out l[h] (List.getElem_mem _)
      refine wp_region_bel wr.heap.size wr (by kernel_rfl) (by kernel_rfl) (Below.refl _ _) ?_
      repeat (go_big_quiet_step ((go_at_call 84; exact Calls.bel_of (Nat.le_refl _) (order_any _ _ hck hp _))))
      refine wpQuiet_nil ?_
      intro w2 hb2
      have hb3 := hb.trans (hb2.mono (by omega))
      clear k0 k1 k2 k3 c0 c1 d0 d1 hb2
      by_cases ho : ordP l[h] p < 0
      · go_wp2
        go_roundw
        case rel => exact ⟨h + 1, j, by go_num, rfl, by omega, h2, hb3, fun k hk hlt => by
            by_cases e : k = h
            · subst e; exact ho
            · exact ordP_trans (HW.out k h hk (by omega) (by omega)) ho, G2.out⟩
        case measure => simp [intOf]; omega
      · go_wp2
        go_roundw
        case rel => exact ⟨i, h, rfl, rfl, by omega, by omega, hb3, G1.out, fun k hk hle => by
            by_cases e : k = h
            · subst e; omega
            · have h3 := HW.out h k (by omega) hk (by omega)
              refine Int.not_lt.1 fun hlt => ?_
              exact absurd (ordP_trans h3 hlt) ho⟩
        case measure => simp [intOf]; omega
    · obtain rfl : i = j := by omega
      have hat := atOf_eq l p i h2 G1.out (fun h => G2.out i h (Nat.le_refl _))
      have hmem := mem_at HPW.out G1.out (fun h => G2.out i h (Nat.le_refl _))
      have HAT := Lib.hid hat
      have HMEM := Lib.hid hmem
      clear hat hmem
      by_cases hi : i < l.length
      · obtain ⟨b, off, rfl, hbb, c0, c1⟩ := ((hl.alloc (Nat.le_refl _) _).below (hb.mono (by omega))).pair (k := i) hi
        have k2 : ∀ x : BelW wr.heap.size wr, x.1.cell? ⟨b, off + i * 2, none⟩ = some (.int .i64 l[i].1) := BelW.cell c0 (by simp; omega)
        have k3 : ∀ x : BelW wr.heap.size wr, x.1.cell? ⟨b, off + i * 2 + 1, none⟩ = some (.int .i64 l[i].2) := BelW.cell c1 (by simp; omega)
        have hck := HV.out l[i] (List.getElem_mem _)
        have hd : decide (p ∈ l) = (ordP l[i] p == 0) := by
          rw [Bool.eq_iff_iff]
          simp [HMEM.out, hi]
        have HD := Lib.hid hd
        clear hd
        go_wp2_with fail
        refine wp_region_bel wr.heap.size wr (by kernel_rfl) (by kernel_rfl) (Below.refl _ _) ?_
        repeat (go_big_quiet_step ((go_at_call 84; exact Calls.bel_of (Nat.le_refl _) (order_any _ _ hck hp _))))
        refine wpQuiet_nil ?_
        intro w2 hb2
        clear k0 k1 k2 k3 c0 c1 d0 d1
        go_wp2
        go_ret2
        exact ⟨by rw [HAT.out, HD.out]; rfl, hb0.trans ((hb.mono (by omega)).trans (hb2.mono (by omega)))⟩
      · have hd : decide (p ∈ l) = false := by simp [HMEM.out, hi]
        have HD := Lib.hid hd
        clear hd
        have hlf : decide ((i : Int) < (l.length : Int)) = false := by simp; omega
        go_wp2_with fail
        refine wp_region_bel wr.heap.size wr (by kernel_rfl) (by kernel_rfl) (Below.refl _ _) ?_
        repeat (go_big_quiet_step (fail))
        refine wpQuiet_nil ?_
        intro w2 hb2
        clear k0 k1 d0 d1
        go_wp2
        go_ret2
        exact ⟨by rw [HAT.out, HD.out]; rfl, hb0.trans ((hb.mono (by omega)).trans (hb2.mono (by omega)))⟩

theorem index64 (a n b m : Int) (w : World) : (Instr.index 111 (.agg #[.int .i64 a, .int .i64 n, .int .i64 b, .int .i64 m]) (.int .i64 0)).run Tryd.prog w = .ok (.agg #[.int .i64 a, .int .i64 n]) w ∧
    (Instr.index 111 (.agg #[.int .i64 a, .int .i64 n, .int .i64 b, .int .i64 m]) (.int .i64 1)).run Tryd.prog w = .ok (.agg #[.int .i64 b, .int .i64 m]) w := ⟨by kernel_rfl, by kernel_rfl⟩

def withinFault (p q : Pf) : Int := if chkP p ≠ 0 then chkP p else chkP q
def WithinV (p q : Pf) : Value := if withinFault p q = 0 then .tuple #[.bool (inQ p q), .nilIface] else .tuple #[.bool false, .iface 25 (.int .i64 (withinFault p q))]

set_option maxHeartbeats 400000 in
theorem within_any (p q : Pf) (w : World) :
    Calls Tryd.prog 28 #[.agg #[.int .i64 p.1, .int .i64 p.2], .agg #[.int .i64 q.1, .int .i64 q.2]] w fun e w' => e = .returned (WithinV p q) ∧ Below w.heap.size w w' := by
  have i0 := fun w => (index64 p.1 p.2 q.1 q.2 w).1
  have i1 := fun w => (index64 p.1 p.2 q.1 q.2 w).2
  go_enter Tryd.func28, Tryd.ntmps28
  go_wp2
  have hB1 := (Blk.new w 23 #[.int .i64 p.1, .int .i64 p.2]).alloc (.cells #[.int .i64 q.1, .int .i64 q.2] 23)
  have hB2 := Blk.new (w.alloc (.cells #[.int .i64 p.1, .int .i64 p.2] 23)) 23 #[.int .i64 q.1, .int .i64 q.2]
  have hb0 := ((Below.refl w.heap.size w).alloc (Nat.le_refl _) (.cells #[.int .i64 p.1, .int .i64 p.2] 23)).alloc (by simp) (.cells #[.int .i64 q.1, .int .i64 q.2] 23)
  simp only [World.size_alloc] at hB2
  go_loopw [7, 8, 12] (fun _ _ i wr => ∃ k : Nat, k ≤ 2 ∧ i = .int .i64 k ∧ Below (w.heap.size + 2) ((w.alloc (.cells #[.int .i64 p.1, .int .i64 p.2] 23)).alloc (.cells #[.int .i64 q.1, .int .i64 q.2] 23)) wr ∧ (0 < k → chkP p = 0) ∧ (1 < k → chkP q = 0)) (fun _ _ i _ => 2 - (intOf i).toNat)
  case atStart => exact ⟨0, by omega, rfl, Below.refl _ _, by omega, by omega⟩
  case round =>
    obtain ⟨k, hk, rfl, hb, v1, v2⟩ := hrel
    have hs := hb.size
    simp only [World.size_alloc] at hs
    obtain ⟨c0, c1, _⟩ := (hB1.below hb (by omega)).two
    obtain ⟨d0, d1, _⟩ := (hB2.below hb (by omega)).two
    rcases show k = 0 ∨ k = 1 ∨ k = 2 by omega with rfl | rfl | rfl
    · by_cases hc : chkP p = 0
      · go_wp2_with (go_at_call 77; refine (check_ok _ _ hc _).mono ?_; rintro e w1 ⟨rfl, hb1⟩)
        go_roundw
        case rel => exact ⟨1, by omega, by go_num, (hb.alloc (by omega) _).trans (hb1.mono (by simp; omega)), fun _ => hc, by omega⟩
        case measure => simp [intOf]
      · have HW := Lib.hid (show WithinV p q = .tuple #[.bool false, .iface 25 (.int .i64 (chkP p))] by simp [WithinV, withinFault, hc])
        go_wp2_with (go_at_call 77; refine (check_bad _ _ hc _).mono ?_; rintro e w1 ⟨rfl, hb1⟩)
        go_ret2
        exact ⟨by rw [HW.out]; rfl, hb0.trans (((hb.alloc (by omega) _).trans (hb1.mono (by simp; omega))).mono (by omega))⟩
    · have hp := v1 (by omega)
      by_cases hc : chkP q = 0
      · go_wp2_with (go_at_call 77; refine (check_ok _ _ hc _).mono ?_; rintro e w1 ⟨rfl, hb1⟩)
        go_roundw
        case rel => exact ⟨2, by omega, by go_num, (hb.alloc (by omega) _).trans (hb1.mono (by simp; omega)), fun _ => hp, fun _ => hc⟩
        case measure => simp [intOf]
      · have HW := Lib.hid (show WithinV p q = .tuple #[.bool false, .iface 25 (.int .i64 (chkP q))] by simp [WithinV, withinFault, hp, hc])
        go_wp2_with (go_at_call 77; refine (check_bad _ _ hc _).mono ?_; rintro e w1 ⟨rfl, hb1⟩)
        go_ret2
        exact ⟨by rw [HW.out]; rfl, hb0.trans (((hb.alloc (by omega) _).trans (hb1.mono (by simp; omega))).mono (by omega))⟩
    · have hp := v1 (by omega)
      have hq := v2 (by omega)
      have HW := Lib.hid (show WithinV p q = .tuple #[.bool (inP p.1 p.2 q.1 q.2), .nilIface] by simp [WithinV, withinFault, hp, hq, inQ])
      go_wp2_with (go_at_call 80; refine (in_any _ _ _ _ hp hq _).mono ?_; rintro e w1 ⟨rfl, hb1⟩)
      go_ret2
      exact ⟨by rw [HW.out]; rfl, hb0.trans ((hb.mono (by omega)).trans (hb1.mono (by omega)))⟩

theorem aboveF_any (p q : Pf) (hp : chkP p = 0) (hq : chkP q = 0) (w : World) (g : Nat) (hB : Blk w g 23 #[.int .i64 p.1, .int .i64 p.2]) :
    Calls Tryd.prog 94 #[.agg #[.int .i64 q.1, .int .i64 q.2], .pointer (some ⟨g, 0, none⟩)] w fun e w' => e = .returned (.bool (aboveOf p q)) ∧ Below w.heap.size w w' := by
  obtain ⟨a, n⟩ := q
  obtain ⟨b, m⟩ := p
  simp only at *
  obtain ⟨c0, c1, _⟩ := (hB.alloc (.cells #[.int .i64 a, .int .i64 n] 23)).two
  by_cases h1 : a = b
  · subst h1
    by_cases h2 : n = m
    · subst h2
      have e : aboveOf (a, n) (a, n) = false := by simp [aboveOf]
      rw [e]
      clear e
      go_enter Tryd.func94, Tryd.ntmps94
      go_wp2
      go_ret
      exact ⟨rfl, (Below.refl _ _).alloc (Nat.le_refl _) _⟩
    · have e : aboveOf (a, m) (a, n) = inP a m a n := by simp [aboveOf, h2, inQ]
      have h2' : (n == m) = false := by simpa using h2
      rw [e]
      clear e h2
      go_enter Tryd.func94, Tryd.ntmps94
      go_wp2_with (go_at_call 80; refine (in_any _ _ _ _ hp hq _).mono ?_; rintro e w1 ⟨rfl, hb1⟩)
      go_ret
      exact ⟨rfl, ((Below.refl _ _).alloc (Nat.le_refl _) _).trans (hb1.mono (by simp))⟩
  · have e : aboveOf (b, m) (a, n) = inP b m a n := by simp [aboveOf, h1, inQ]
    have h1' : (a == b) = false := by simpa using h1
    rw [e]
    clear e h1
    go_enter Tryd.func94, Tryd.ntmps94
    go_wp2_with (go_at_call 80; refine (in_any _ _ _ _ hp hq _).mono ?_; rintro e w1 ⟨rfl, hb1⟩)
    go_ret
    exact ⟨rfl, ((Below.refl _ _).alloc (Nat.le_refl _) _).trans (hb1.mono (by simp))⟩
theorem belowF_any (p q : Pf) (hp : chkP p = 0) (hq : chkP q = 0) (w : World) (g : Nat) (hB : Blk w g 23 #[.int .i64 p.1, .int .i64 p.2]) :
    Calls Tryd.prog 96 #[.agg #[.int .i64 q.1, .int .i64 q.2], .pointer (some ⟨g, 0, none⟩)] w fun e w' => e = .returned (.bool (belowOf p q)) ∧ Below w.heap.size w w' := by
  obtain ⟨a, n⟩ := q
  obtain ⟨b, m⟩ := p
  simp only at *
  obtain ⟨c0, c1, _⟩ := (hB.alloc (.cells #[.int .i64 a, .int .i64 n] 23)).two
  by_cases h1 : a = b
  · subst h1
    by_cases h2 : n = m
    · subst h2
      have e : belowOf (a, n) (a, n) = false := by simp [belowOf]
      rw [e]
      clear e
      go_enter Tryd.func96, Tryd.ntmps96
      go_wp2
      go_ret
      exact ⟨rfl, (Below.refl _ _).alloc (Nat.le_refl _) _⟩
    · have e : belowOf (a, m) (a, n) = inP a n a m := by simp [belowOf, h2, inQ]
      have h2' : (n == m) = false := by simpa using h2
      rw [e]
      clear e h2
      go_enter Tryd.func96, Tryd.ntmps96
      go_wp2_with (go_at_call 80; refine (in_any _ _ _ _ hq hp _).mono ?_; rintro e w1 ⟨rfl, hb1⟩)
      go_ret
      exact ⟨rfl, ((Below.refl _ _).alloc (Nat.le_refl _) _).trans (hb1.mono (by simp))⟩
  · have e : belowOf (b, m) (a, n) = inP a n b m := by simp [belowOf, h1, inQ]
    have h1' : (a == b) = false := by simpa using h1
    rw [e]
    clear e h1
    go_enter Tryd.func96, Tryd.ntmps96
    go_wp2_with (go_at_call 80; refine (in_any _ _ _ _ hq hp _).mono ?_; rintro e w1 ⟨rfl, hb1⟩)
    go_ret
    exact ⟨rfl, ((Below.refl _ _).alloc (Nat.le_refl _) _).trans (hb1.mono (by simp))⟩

def treeFault2 (l : List Pf) (p : Pf) : Int := if treeFault l ≠ 0 then treeFault l else chkP p
theorem treeFault2_zero {l : List Pf} {p : Pf} : treeFault2 l p = 0 ↔ treeFault l = 0 ∧ chkP p = 0 := by
  unfold treeFault2; split <;> simp_all

theorem checked_ok (A : Option Addr) (l : List Pf) (c : Nat) (p : Pf) (hf : treeFault2 l p = 0) (w : World) (hl : Rd w w.heap.size A (cellsP l)) :
    Calls Tryd.prog 86 #[.slice A l.length c, .agg #[.int .i64 p.1, .int .i64 p.2]] w fun e w' => e = .returned (.tuple #[.int .i64 (atOf l p), .bool (decide (p ∈ l)), .nilIface]) ∧ Below w.heap.size w w' := by
  obtain ⟨ht, hp⟩ := treeFault2_zero.1 hf
  obtain ⟨g1, g2, g3⟩ := tree_good ht
  have HT := Lib.hid (show FaultV (treeFault l) = .nilIface by rw [ht]; rfl)
  have G2 := Lib.hid g2
  have G3 := Lib.hid g3
  clear hf ht g2 g3
  go_enter Tryd.func86, Tryd.ntmps86
  go_wp2_with fail
  refine (treeCheck_any A l c (by unfold maxLen; omega) _ ((hl.alloc (Nat.le_refl _) _).more (by simp))).mono ?_
  rintro e w1 ⟨rfl, hb1⟩
  rw [HT.out]
  have hs1 := hb1.size
  simp only [World.size_alloc] at hs1
  have hB1 := (Blk.new w 23 #[.int .i64 p.1, .int .i64 p.2]).below hb1 (by simp)
  have hl1 := (hl.alloc (Nat.le_refl _) (.cells #[.int .i64 p.1, .int .i64 p.2] 23)).below (hb1.mono (by simp))
  have hbw1 := ((Below.refl w.heap.size w).alloc (Nat.le_refl _) (.cells #[.int .i64 p.1, .int .i64 p.2] 23)).trans (hb1.mono (by simp))
  clear hb1
  obtain ⟨c0, c1, _⟩ := hB1.two
  go_wp2_with fail
  refine (check_ok _ _ hp _).mono ?_
  rintro e w2 ⟨rfl, hb2⟩
  have hB2 := hB1.below hb2 (by omega)
  have hl2 := hl1.below (hb2.mono (by omega))
  have hbw2 := hbw1.trans (hb2.mono (by omega))
  have hs2 := hb2.size
  clear hb2 c0 c1
  obtain ⟨c0, c1, _⟩ := hB2.two
  go_wp2_with fail
  refine (search_any A l c p g1 G2.out hp G3.out _ (hl2.more (by omega))).mono ?_
  rintro e w3 ⟨rfl, hb3⟩
  go_wp2
  go_ret3
  exact ⟨rfl, hbw2.trans (hb3.mono (by omega))⟩

theorem checked_bad (A : Option Addr) (l : List Pf) (c : Nat) (p : Pf) (hm : l.length ≤ maxLen) (hf : treeFault2 l p ≠ 0) (w : World) (hl : Rd w w.heap.size A (cellsP l)) :
    Calls Tryd.prog 86 #[.slice A l.length c, .agg #[.int .i64 p.1, .int .i64 p.2]] w fun e w' => e = .returned (.tuple #[.int .i64 0, .bool false, .iface 25 (.int .i64 (treeFault2 l p))]) ∧ Below w.heap.size w w' := by
  by_cases ht : treeFault l = 0
  · have hp : chkP p ≠ 0 := fun h => hf (treeFault2_zero.2 ⟨ht, h⟩)
    have HE := Lib.hid (show treeFault2 l p = chkP p by unfold treeFault2; rw [if_neg (by simpa using ht)])
    have HT := Lib.hid (show FaultV (treeFault l) = .nilIface by rw [ht]; rfl)
    clear ht hf
    go_enter Tryd.func86, Tryd.ntmps86
    go_wp2_with fail
    refine (treeCheck_any A l c hm _ ((hl.alloc (Nat.le_refl _) _).more (by simp))).mono ?_
    rintro e w1 ⟨rfl, hb1⟩
    rw [HT.out]
    have hs1 := hb1.size
    simp only [World.size_alloc] at hs1
    have hB1 := (Blk.new w 23 #[.int .i64 p.1, .int .i64 p.2]).below hb1 (by simp)
    have hbw1 := ((Below.refl w.heap.size w).alloc (Nat.le_refl _) (.cells #[.int .i64 p.1, .int .i64 p.2] 23)).trans (hb1.mono (by simp))
    clear hb1
    obtain ⟨c0, c1, _⟩ := hB1.two
    go_wp2_with fail
    refine (check_bad _ _ hp _).mono ?_
    rintro e w2 ⟨rfl, hb2⟩
    go_wp2
    go_ret3
    exact ⟨by rw [HE.out]; rfl, hbw1.trans (hb2.mono (by omega))⟩
  · have HE := Lib.hid (show treeFault2 l p = treeFault l by unfold treeFault2; rw [if_pos (by simpa using ht)])
    have HT := Lib.hid (show FaultV (treeFault l) = .iface 25 (.int .i64 (treeFault l)) by unfold FaultV; rw [if_neg ht])
    clear ht hf
    go_enter Tryd.func86, Tryd.ntmps86
    go_wp2_with fail
    refine (treeCheck_any A l c hm _ ((hl.alloc (Nat.le_refl _) _).more (by simp))).mono ?_
    rintro e w1 ⟨rfl, hb1⟩
    rw [HT.out]
    go_wp2
    go_ret3
    exact ⟨by rw [HE.out]; rfl, ((Below.refl w.heap.size w).alloc (Nat.le_refl _) (.cells #[.int .i64 p.1, .int .i64 p.2] 23)).trans (hb1.mono (by simp))⟩

def OwnRes2 (e : TypeId) (w : World) (l : List (Int × Int)) (en : Ending) (w' : World) : Prop := ∃ v, en = .returned (.tuple #[v, .nilIface]) ∧ OwnP w' w.heap.size e v l ∧ Below w.heap.size w w'

theorem above_bad (A : Option Addr) (l : List Pf) (c : Nat) (p : Pf) (hm : l.length ≤ maxLen) (hf : treeFault2 l p ≠ 0) (w : World) (hl : Rd w w.heap.size A (cellsP l)) :
    Calls Tryd.prog 43 #[.slice A l.length c, .agg #[.int .i64 p.1, .int .i64 p.2]] w fun e w' => e = .returned (.tuple #[.slice none 0 0, .iface 25 (.int .i64 (treeFault2 l p))]) ∧ Below w.heap.size w w' := by
  go_enter Tryd.func43, Tryd.ntmps43
  go_wp2_with fail
  refine (checked_bad A l c p hm hf _ ((hl.alloc (Nat.le_refl _) _).more (by simp))).mono ?_
  rintro e w1 ⟨rfl, hb1⟩
  go_wp2
  go_ret2
  exact ⟨rfl, ((Below.refl w.heap.size w).alloc (Nat.le_refl _) (.cells #[.int .i64 p.1, .int .i64 p.2] 23)).trans (hb1.mono (by simp))⟩

theorem above_ok (A : Option Addr) (l : List Pf) (c : Nat) (p : Pf) (hf : treeFault2 l p = 0) (w : World) (hl : Rd w w.heap.size A (cellsP l)) :
    Calls Tryd.prog 43 #[.slice A l.length c, .agg #[.int .i64 p.1, .int .i64 p.2]] w (OwnRes2 23 w (l.filter (aboveOf p))) := by
  obtain ⟨ht, hp⟩ := treeFault2_zero.1 hf
  obtain ⟨g1, g2, _⟩ := tree_good ht
  have HF := Lib.hid hf
  have G2 := Lib.hid g2
  clear ht hf g2
  have eg : ∀ args w, (callFunc 94 args).run Tryd.prog w = .ok (.enter 94 args) w := fun _ _ => by kernel_rfl
  have EG := Lib.hid eg
  clear eg
  go_enter Tryd.func43, Tryd.ntmps43
  go_wp2_with fail
  refine (checked_ok A l c p HF.out _ ((hl.alloc (Nat.le_refl _) _).more (by simp))).mono ?_
  rintro e w1 ⟨rfl, hb1⟩
  have hs1 := hb1.size
  simp only [World.size_alloc] at hs1
  have hB1 := (Blk.new w 23 #[.int .i64 p.1, .int .i64 p.2]).below hb1 (by simp)
  have hl1 := (hl.alloc (Nat.le_refl _) (.cells #[.int .i64 p.1, .int .i64 p.2] 23)).below (hb1.mono (by simp))
  have hbw1 := ((Below.refl w.heap.size w).alloc (Nat.le_refl _) (.cells #[.int .i64 p.1, .int .i64 p.2] 23)).trans (hb1.mono (by simp))
  clear hb1
  go_wp2_with fail
  refine (those_any (aboveOf p) A l c _ _ w1 (hl1.more (by omega)) (by omega) EG.out (fun x hx q hq => aboveF_any p q hp (G2.out q hq) x w.heap.size (hB1.below hx (by omega)))).mono ?_
  rintro e w2 ⟨v, rfl, hown, hb2⟩
  go_wp2
  go_ret2
  exact ⟨v, rfl, own_of_base hown (by omega), hbw1.trans (hb2.mono (by omega))⟩

theorem below_bad (A : Option Addr) (l : List Pf) (c : Nat) (p : Pf) (hm : l.length ≤ maxLen) (hf : treeFault2 l p ≠ 0) (w : World) (hl : Rd w w.heap.size A (cellsP l)) :
    Calls Tryd.prog 44 #[.slice A l.length c, .agg #[.int .i64 p.1, .int .i64 p.2]] w fun e w' => e = .returned (.tuple #[.slice none 0 0, .iface 25 (.int .i64 (treeFault2 l p))]) ∧ Below w.heap.size w w' := by
  go_enter Tryd.func44, Tryd.ntmps44
  go_wp2_with fail
  refine (checked_bad A l c p hm hf _ ((hl.alloc (Nat.le_refl _) _).more (by simp))).mono ?_
  rintro e w1 ⟨rfl, hb1⟩
  go_wp2
  go_ret2
  exact ⟨rfl, ((Below.refl w.heap.size w).alloc (Nat.le_refl _) (.cells #[.int .i64 p.1, .int .i64 p.2] 23)).trans (hb1.mono (by simp))⟩

theorem below_ok (A : Option Addr) (l : List Pf) (c : Nat) (p : Pf) (hf : treeFault2 l p = 0) (w : World) (hl : Rd w w.heap.size A (cellsP l)) :
    Calls Tryd.prog 44 #[.slice A l.length c, .agg #[.int .i64 p.1, .int .i64 p.2]] w (OwnRes2 23 w (tops (l.filter (belowOf p)))) := by
  obtain ⟨ht, hp⟩ := treeFault2_zero.1 hf
  obtain ⟨g1, g2, _⟩ := tree_good ht
  have HF := Lib.hid hf
  have G2 := Lib.hid g2
  clear ht hf g2
  have eg : ∀ args w, (callFunc 96 args).run Tryd.prog w = .ok (.enter 96 args) w := fun _ _ => by kernel_rfl
  have EG := Lib.hid eg
  clear eg
  go_enter Tryd.func44, Tryd.ntmps44
  go_wp2_with fail
  refine (checked_ok A l c p HF.out _ ((hl.alloc (Nat.le_refl _) _).more (by simp))).mono ?_
  rintro e w1 ⟨rfl, hb1⟩
  have hs1 := hb1.size
  simp only [World.size_alloc] at hs1
  have hB1 := (Blk.new w 23 #[.int .i64 p.1, .int .i64 p.2]).below hb1 (by simp)
  have hl1 := (hl.alloc (Nat.le_refl _) (.cells #[.int .i64 p.1, .int .i64 p.2] 23)).below (hb1.mono (by simp))
  have hbw1 := ((Below.refl w.heap.size w).alloc (Nat.le_refl _) (.cells #[.int .i64 p.1, .int .i64 p.2] 23)).trans (hb1.mono (by simp))
  clear hb1
  go_wp2_with fail
  refine (those_any (belowOf p) A l c _ _ w1 (hl1.more (by omega)) (by omega) EG.out (fun x hx q hq => belowF_any p q hp (G2.out q hq) x w.heap.size (hB1.below hx (by omega)))).mono ?_
  rintro e w2 ⟨v, rfl, hown, hb2⟩
  obtain ⟨A2, c2, rfl, hr2⟩ := hown.form
  have hs2 := hb2.size
  have hfl := List.length_filter_le (belowOf p) l
  go_wp2_with fail
  refine (tops_any A2 (l.filter (belowOf p)) c2 (by omega) (fun q hq => G2.out q (List.mem_filter.1 hq).1) w2 hr2).mono ?_
  rintro e w3 ⟨v, rfl, hown3, hb3⟩
  go_wp2
  go_ret2
  exact ⟨v, rfl, own_of_base hown3 (by omega), hbw1.trans ((hb2.mono (by omega)).trans (hb3.mono (by omega)))⟩

theorem within_ok (p q : Pf) (hp : chkP p = 0) (hq : chkP q = 0) (w : World) :
    Calls Tryd.prog 28 #[.agg #[.int .i64 p.1, .int .i64 p.2], .agg #[.int .i64 q.1, .int .i64 q.2]] w fun e w' => e = .returned (.tuple #[.bool (inQ p q), .nilIface]) ∧ Below w.heap.size w w' :=
  (within_any p q w).mono fun e w' h => ⟨by rw [h.1]; simp [WithinV, withinFault, hp, hq], h.2⟩
end Go.Proofs.YtcgeagobndhpjaaDoor
