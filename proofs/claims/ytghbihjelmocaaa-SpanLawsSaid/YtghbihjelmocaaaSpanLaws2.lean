/- The law SpanLaws: the walk of its own text, by the contracts of package span. Any two lists, any number. -/
import Derived.Test.YtghbihjelmocaaaSpanLaws
namespace Go.Proofs.Ytghbihjelmocaaa
set_option linter.unusedVariables false
open Go.RowKit

theorem has_lit (A : Option Addr) (l : List Sp) (c : Nat) (x : Int) (i : Bool) (hf : setFault l = 0) (hx : isA x = true) (hi : memS l x = i) (w : World) (hl : Rd w w.heap.size A (cellsP l)) :
    Calls Try.prog 18 #[.slice A l.length c, .int .i64 x] w fun e w' => e = .returned (.tuple #[.bool i, .nilIface]) ∧ Below w.heap.size w w' :=
  (has_ok A l c x hf hx w hl).mono fun e w' h => ⟨by rw [h.1, hi], h.2⟩
theorem hasFault_bad {l : List Sp} {x : Int} (hf : setFault l = 0) (hx : ¬ isA x = true) : hasFault l x = 1 := by
  have : isA x = false := by simpa using hx
  unfold hasFault
  rw [if_neg (by simp [hf]), this]
  rfl
theorem has_out (A : Option Addr) (l : List Sp) (c : Nat) (x : Int) (hf : setFault l = 0) (hx : ¬ isA x = true) (hm : l.length ≤ maxLen) (w : World) (hl : Rd w w.heap.size A (cellsP l)) :
    Calls Try.prog 18 #[.slice A l.length c, .int .i64 x] w fun e w' => e = .returned (.tuple #[.bool false, .iface 22 (.int .i64 1)]) ∧ Below w.heap.size w w' :=
  (has_bad A l c x hm (by rw [hasFault_bad hf hx]; decide) w hl).mono fun e w' h => ⟨by rw [h.1, hasFault_bad hf hx], h.2⟩
theorem rd_one (w : World) (x y : Int) : Rd (w.alloc (.cells #[.int .i64 x, .int .i64 y] 35)) (w.alloc (.cells #[.int .i64 x, .int .i64 y] 35)).heap.size (some ⟨w.heap.size, 0, none⟩) (cellsP [(x, y)]) := fun _ => by
  refine ⟨w.heap.size, 0, rfl, by simp, fun j u hj => ?_⟩
  match j, hj with
  | 0, hj => simp [cellsP] at hj; subst hj; simp
  | 1, hj => simp [cellsP] at hj; subst hj; simp
  | j + 2, hj => simp [cellsP] at hj

set_option maxRecDepth 100000 in
set_option maxHeartbeats 8000000 in
/-- The part behind the first three calls, all of which went well. -/
theorem spanLaws_walk (A : Option Addr) (a : List Sp) (c : Nat) (hma : a.length ≤ maxLen) (B : Option Addr) (b : List Sp) (d : Nat) (hmb : b.length ≤ maxLen) (x : Int) (_wx : (Lit.int .i64 x).wf = true) (w : World) (hl : Rd w w.heap.size A (cellsP a)) (hr : Rd w w.heap.size B (cellsP b)) :
    Calls Try.prog 7 #[.slice A a.length c, .slice B b.length d, .int .i64 x] w fun e w' => e = .returned (.bool true) ∧ Below w.heap.size w w' := by
  go_enter Try.func7, Try.ntmps7
  go_wp2_with fail
  have hb1 := ((Below.refl w.heap.size w).alloc (Nat.le_refl _) (.cells #[.int .i64 1, .int .i64 3] 35)).alloc (by simp) (.cells #[.int .i64 4, .int .i64 9] 35)
  have hs1 := hb1.size
  have rd1 := ((rd_one w 1 3).alloc (Nat.le_refl _) (.cells #[.int .i64 4, .int .i64 9] 35)).more (by simp : _ ≤ ((w.alloc (.cells #[.int .i64 1, .int .i64 3] 35)).alloc (.cells #[.int .i64 4, .int .i64 9] 35)).heap.size)
  have rd2 := rd_one (w.alloc (.cells #[.int .i64 1, .int .i64 3] 35)) 4 9
  rw [World.size_alloc] at rd2
  refine (union_all (some ⟨w.heap.size, 0, none⟩) (some ⟨w.heap.size + 1, 0, none⟩) [(1, 3)] [(4, 9)] 1 1 (by decide) (by decide) _ rd1 (by simpa using rd2)).mono ?_
  intro e w2 hR
  obtain ⟨v2, rfl, hown2, hb2⟩ := hR.ok (R' := [(1, 9)]) (by decide) (by decide)
  obtain ⟨A2, c2, rfl, hr2⟩ := hown2.form
  have hb3 := hb1.trans (hb2.mono hs1)
  have hs3 := hb3.size
  clear hR hown2 hb1 hb2 rd1 rd2 hs1
  go_wp2_with fail
  have rd3 := rd_one w2 1 9
  have hb4 := hb3.alloc hs3 (.cells #[.int .i64 1, .int .i64 9] 35)
  have hs4 := hb4.size
  refine (spans_same A2 (some ⟨w2.heap.size, 0, none⟩) [(1, 9)] [(1, 9)] c2 1 (by decide) rfl _ ((hr2.alloc (Nat.le_refl _) _).more (by simp)) rd3).mono ?_
  rintro e w5 ⟨rfl, hb5⟩
  have hb6 := hb4.trans (hb5.mono hs4)
  have hs6 := hb6.size
  clear rd3 hb3 hb4 hb5 hs3 hs4 hr2
  go_wp2_with fail
  refine (union_all A B a b c d hma hmb _ ((hl.below hb6).more hs6) ((hr.below hb6).more hs6)).mono ?_
  intro e w7 hRu
  obtain ⟨vu, eu, rfl, hb7, hU⟩ := hRu.cases
  have hb8 := hb6.trans (hb7.mono hs6)
  have hs8 := hb8.size
  clear hRu hb7
  go_wp2_with fail
  refine (meet_all A B a b c d hma hmb _ ((hl.below hb8).more hs8) ((hr.below hb8).more hs8)).mono ?_
  intro e w9 hRm
  obtain ⟨vm, em, rfl, hb9, hM⟩ := hRm.cases
  have hb10 := hb8.trans (hb9.mono hs8)
  have hs10 := hb10.size
  have hs89 := hb9.size
  clear hRm
  have HU := Lib.hid hU
  clear hU
  go_wp2_with fail
  refine (minus_all A B a b c d hma hmb _ ((hl.below hb10).more hs10) ((hr.below hb10).more hs10)).mono ?_
  intro e w11 hRd
  obtain ⟨vd, ed, rfl, hb11, hD⟩ := hRd.cases
  have hb12 := hb10.trans (hb11.mono hs10)
  have hs12 := hb12.size
  have hs1011 := hb11.size
  clear hRd
  rcases HU.out with ⟨hu0, rfl, hownU⟩ | ⟨_, rfl, rfl⟩
  · rcases hM with ⟨hm0, rfl, hownM⟩ | ⟨_, rfl, rfl⟩
    · rcases hD with ⟨hd0, rfl, hownD⟩ | ⟨_, rfl, rfl⟩
      · have hownU2 := (hownU.below hb9).below (hb11.mono (by omega))
        obtain ⟨sa, sb, lu⟩ := opFault_zero hu0
        obtain ⟨_, _, lm⟩ := opFault_zero hm0
        obtain ⟨_, _, ld⟩ := opFault_zero hd0
        have hownM2 := hownM.below hb11
        obtain ⟨U, hUe⟩ : ∃ U, U = norm (a ++ b) := ⟨_, rfl⟩
        obtain ⟨M, hMe⟩ : ∃ M, M = common a b := ⟨_, rfl⟩
        obtain ⟨D, hDe⟩ : ∃ D, D = common a (others b) := ⟨_, rfl⟩
        have SU : setFault U = 0 := by rw [hUe]; exact union_set sa sb lu
        have SM : setFault M = 0 := by rw [hMe]; exact meet_set sa sb lm
        have SD : setFault D = 0 := by rw [hDe]; exact minus_set sa sb ld
        have EU := Lib.hid (show norm (b ++ a) = U by rw [hUe]; exact union_comm sa sb)
        have EM := Lib.hid (show common b a = M by rw [hMe]; exact meet_comm sa sb)
        have ED := Lib.hid (show norm (M ++ D) = a by rw [hMe, hDe]; exact parts_all sa sb lm ld)
        have CN := Lib.hid (show cntS U + cntS M = cntS a + cntS b by rw [hUe, hMe]; exact counts sa sb lu lm)
        have MU := Lib.hid (show memS U x = (memS a x || memS b x) by rw [hUe]; exact union_mem sa sb x)
        have MM := Lib.hid (show memS M x = (memS a x && memS b x) by rw [hMe]; exact meet_mem sa sb x)
        have MD := Lib.hid (show memS D x = (memS a x && !memS b x) by rw [hDe]; exact minus_mem sa sb x)
        rw [← hUe] at hownU2 lu
        rw [← hMe] at hownM2 lm
        rw [← hDe] at hownD ld
        have la := (set_good sa).1
        have lb := (set_good sb).1
        have GA := Lib.hid sa
        have GB := Lib.hid sb
        have GU := Lib.hid SU
        have GM := Lib.hid SM
        have GD := Lib.hid SD
        obtain ⟨AU, cU, rfl, hrU⟩ := hownU2.form
        obtain ⟨AM, cM, rfl, hrM⟩ := hownM2.form
        obtain ⟨AD, cD, rfl, hrD⟩ := hownD.form
        have hla := (hl.below hb12).more hs12
        have hrb := (hr.below hb12).more hs12
        clear hUe hMe hDe sa sb SU SM SD hownU hownU2 hownM hownM2 hownD HU hu0 hm0 hd0 hb9 hb11 hb10 hb8 hb6 hs89 hs1011 hs10 hs8 hs6 hl hr
        go_wp2_with fail
        refine (union_all B A b a d c hmb hma _ hrb hla).mono ?_
        intro e w13x hR
        obtain ⟨v13, rfl, hown13, hb13y⟩ := hR.ok (R' := U) (opFault_of GB.out GA.out (by rw [EU.out]; exact lu)) EU.out
        clear hR
        have hla13 := (hla.below hb13y).more hb13y.size
        have hrb13 := (hrb.below hb13y).more hb13y.size
        have hrU13 := (hrU.below hb13y).more hb13y.size
        have hrM13 := (hrM.below hb13y).more hb13y.size
        have hrD13 := (hrD.below hb13y).more hb13y.size
        have hbz13 := hb12.trans (hb13y.mono hs12)
        have hsz13 := hbz13.size
        clear hla hrb hrU hrM hrD hb12 hs12
        have hla := hla13
        clear hla13
        have hrb := hrb13
        clear hrb13
        have hrU := hrU13
        clear hrU13
        have hrM := hrM13
        clear hrM13
        have hrD := hrD13
        clear hrD13
        obtain ⟨AV, cV, rfl, hrV⟩ := hown13.form
        clear hown13
        clear hb13y
        go_wp2_with fail
        refine (meet_all B A b a d c hmb hma _ hrb hla).mono ?_
        intro e w14x hR
        obtain ⟨v14, rfl, hown14, hb14y⟩ := hR.ok (R' := M) (opFault_of GB.out GA.out (by rw [EM.out]; exact lm)) EM.out
        clear hR
        have hla14 := (hla.below hb14y).more hb14y.size
        have hrb14 := (hrb.below hb14y).more hb14y.size
        have hrU14 := (hrU.below hb14y).more hb14y.size
        have hrM14 := (hrM.below hb14y).more hb14y.size
        have hrD14 := (hrD.below hb14y).more hb14y.size
        have hrV14 := (hrV.below hb14y).more hb14y.size
        have hbz14 := hbz13.trans (hb14y.mono hsz13)
        have hsz14 := hbz14.size
        clear hla hrb hrU hrM hrD hrV hbz13 hsz13
        have hla := hla14
        clear hla14
        have hrb := hrb14
        clear hrb14
        have hrU := hrU14
        clear hrU14
        have hrM := hrM14
        clear hrM14
        have hrD := hrD14
        clear hrD14
        have hrV := hrV14
        clear hrV14
        obtain ⟨AW, cW, rfl, hrW⟩ := hown14.form
        clear hown14
        clear hb14y
        go_wp2_with fail
        refine (union_all AM AD M D cM cD (by unfold maxLen; omega) (by unfold maxLen; omega) _ hrM hrD).mono ?_
        intro e w15x hR
        obtain ⟨v15, rfl, hown15, hb15y⟩ := hR.ok (R' := a) (opFault_of GM.out GD.out (by rw [ED.out]; exact la)) ED.out
        clear hR
        have hla15 := (hla.below hb15y).more hb15y.size
        have hrb15 := (hrb.below hb15y).more hb15y.size
        have hrU15 := (hrU.below hb15y).more hb15y.size
        have hrM15 := (hrM.below hb15y).more hb15y.size
        have hrD15 := (hrD.below hb15y).more hb15y.size
        have hrV15 := (hrV.below hb15y).more hb15y.size
        have hrW15 := (hrW.below hb15y).more hb15y.size
        have hbz15 := hbz14.trans (hb15y.mono hsz14)
        have hsz15 := hbz15.size
        clear hla hrb hrU hrM hrD hrV hrW hbz14 hsz14
        have hla := hla15
        clear hla15
        have hrb := hrb15
        clear hrb15
        have hrU := hrU15
        clear hrU15
        have hrM := hrM15
        clear hrM15
        have hrD := hrD15
        clear hrD15
        have hrV := hrV15
        clear hrV15
        have hrW := hrW15
        clear hrW15
        obtain ⟨AL, cL, rfl, hrL⟩ := hown15.form
        clear hown15
        clear hb15y
        go_wp2_with fail
        refine (spans_same AU AV U U cU cV (by unfold maxLen; omega) rfl _ hrU hrV).mono ?_
        rintro e w16x ⟨rfl, hb16y⟩
        have hla16 := (hla.below hb16y).more hb16y.size
        have hrb16 := (hrb.below hb16y).more hb16y.size
        have hrU16 := (hrU.below hb16y).more hb16y.size
        have hrM16 := (hrM.below hb16y).more hb16y.size
        have hrD16 := (hrD.below hb16y).more hb16y.size
        have hrV16 := (hrV.below hb16y).more hb16y.size
        have hrW16 := (hrW.below hb16y).more hb16y.size
        have hrL16 := (hrL.below hb16y).more hb16y.size
        have hbz16 := hbz15.trans (hb16y.mono hsz15)
        have hsz16 := hbz16.size
        clear hla hrb hrU hrM hrD hrV hrW hrL hbz15 hsz15
        have hla := hla16
        clear hla16
        have hrb := hrb16
        clear hrb16
        have hrU := hrU16
        clear hrU16
        have hrM := hrM16
        clear hrM16
        have hrD := hrD16
        clear hrD16
        have hrV := hrV16
        clear hrV16
        have hrW := hrW16
        clear hrW16
        have hrL := hrL16
        clear hrL16
        clear hb16y
        go_wp2_with fail
        refine (spans_same AM AW M M cM cW (by unfold maxLen; omega) rfl _ hrM hrW).mono ?_
        rintro e w17x ⟨rfl, hb17y⟩
        have hla17 := (hla.below hb17y).more hb17y.size
        have hrb17 := (hrb.below hb17y).more hb17y.size
        have hrU17 := (hrU.below hb17y).more hb17y.size
        have hrM17 := (hrM.below hb17y).more hb17y.size
        have hrD17 := (hrD.below hb17y).more hb17y.size
        have hrV17 := (hrV.below hb17y).more hb17y.size
        have hrW17 := (hrW.below hb17y).more hb17y.size
        have hrL17 := (hrL.below hb17y).more hb17y.size
        have hbz17 := hbz16.trans (hb17y.mono hsz16)
        have hsz17 := hbz17.size
        clear hla hrb hrU hrM hrD hrV hrW hrL hbz16 hsz16
        have hla := hla17
        clear hla17
        have hrb := hrb17
        clear hrb17
        have hrU := hrU17
        clear hrU17
        have hrM := hrM17
        clear hrM17
        have hrD := hrD17
        clear hrD17
        have hrV := hrV17
        clear hrV17
        have hrW := hrW17
        clear hrW17
        have hrL := hrL17
        clear hrL17
        clear hb17y
        go_wp2_with fail
        refine (spans_same AL A a a cL c (by unfold maxLen; omega) rfl _ hrL hla).mono ?_
        rintro e w18x ⟨rfl, hb18y⟩
        have hla18 := (hla.below hb18y).more hb18y.size
        have hrb18 := (hrb.below hb18y).more hb18y.size
        have hrU18 := (hrU.below hb18y).more hb18y.size
        have hrM18 := (hrM.below hb18y).more hb18y.size
        have hrD18 := (hrD.below hb18y).more hb18y.size
        have hrV18 := (hrV.below hb18y).more hb18y.size
        have hrW18 := (hrW.below hb18y).more hb18y.size
        have hrL18 := (hrL.below hb18y).more hb18y.size
        have hbz18 := hbz17.trans (hb18y.mono hsz17)
        have hsz18 := hbz18.size
        clear hla hrb hrU hrM hrD hrV hrW hrL hbz17 hsz17
        have hla := hla18
        clear hla18
        have hrb := hrb18
        clear hrb18
        have hrU := hrU18
        clear hrU18
        have hrM := hrM18
        clear hrM18
        have hrD := hrD18
        clear hrD18
        have hrV := hrV18
        clear hrV18
        have hrW := hrW18
        clear hrW18
        have hrL := hrL18
        clear hrL18
        clear hb18y
        clear hrV hrW hrL
        have bU := cntS_bound U (set_val GU.out)
        have bM := cntS_bound M (set_val GM.out)
        have bA := cntS_bound a (set_val GA.out)
        have bB := cntS_bound b (set_val GB.out)
        obtain ⟨nU, hnU⟩ : ∃ n, n = cntS U := ⟨_, rfl⟩
        obtain ⟨nM, hnM⟩ : ∃ n, n = cntS M := ⟨_, rfl⟩
        obtain ⟨nA, hnA⟩ : ∃ n, n = cntS a := ⟨_, rfl⟩
        obtain ⟨nB, hnB⟩ : ∃ n, n = cntS b := ⟨_, rfl⟩
        have hCN : nU + nM = nA + nB := by rw [hnU, hnM, hnA, hnB]; exact CN.out
        rw [← hnU] at bU
        rw [← hnM] at bM
        rw [← hnA] at bA
        rw [← hnB] at bB
        have NU := Lib.hid hnU
        have NM := Lib.hid hnM
        have NA := Lib.hid hnA
        have NB := Lib.hid hnB
        have hne : (nU + nM != nA + nB) = false := by rw [hCN]; simp
        clear hnU hnM hnA hnB hCN
        go_wp2_with fail
        refine (count_ok AU U cU GU.out _ hrU).mono ?_
        rintro e w19x ⟨rfl, hb19y⟩
        rw [← NU.out]
        have hla19 := (hla.below hb19y).more hb19y.size
        have hrb19 := (hrb.below hb19y).more hb19y.size
        have hrU19 := (hrU.below hb19y).more hb19y.size
        have hrM19 := (hrM.below hb19y).more hb19y.size
        have hrD19 := (hrD.below hb19y).more hb19y.size
        have hbz19 := hbz18.trans (hb19y.mono hsz18)
        have hsz19 := hbz19.size
        clear hla hrb hrU hrM hrD hbz18 hsz18
        have hla := hla19
        clear hla19
        have hrb := hrb19
        clear hrb19
        have hrU := hrU19
        clear hrU19
        have hrM := hrM19
        clear hrM19
        have hrD := hrD19
        clear hrD19
        clear hb19y
        go_wp2_with fail
        refine (count_ok AM M cM GM.out _ hrM).mono ?_
        rintro e w20x ⟨rfl, hb20y⟩
        rw [← NM.out]
        have hla20 := (hla.below hb20y).more hb20y.size
        have hrb20 := (hrb.below hb20y).more hb20y.size
        have hrU20 := (hrU.below hb20y).more hb20y.size
        have hrM20 := (hrM.below hb20y).more hb20y.size
        have hrD20 := (hrD.below hb20y).more hb20y.size
        have hbz20 := hbz19.trans (hb20y.mono hsz19)
        have hsz20 := hbz20.size
        clear hla hrb hrU hrM hrD hbz19 hsz19
        have hla := hla20
        clear hla20
        have hrb := hrb20
        clear hrb20
        have hrU := hrU20
        clear hrU20
        have hrM := hrM20
        clear hrM20
        have hrD := hrD20
        clear hrD20
        clear hb20y
        go_wp2_with fail
        refine (count_ok A a c GA.out _ hla).mono ?_
        rintro e w21x ⟨rfl, hb21y⟩
        rw [← NA.out]
        have hla21 := (hla.below hb21y).more hb21y.size
        have hrb21 := (hrb.below hb21y).more hb21y.size
        have hrU21 := (hrU.below hb21y).more hb21y.size
        have hrM21 := (hrM.below hb21y).more hb21y.size
        have hrD21 := (hrD.below hb21y).more hb21y.size
        have hbz21 := hbz20.trans (hb21y.mono hsz20)
        have hsz21 := hbz21.size
        clear hla hrb hrU hrM hrD hbz20 hsz20
        have hla := hla21
        clear hla21
        have hrb := hrb21
        clear hrb21
        have hrU := hrU21
        clear hrU21
        have hrM := hrM21
        clear hrM21
        have hrD := hrD21
        clear hrD21
        clear hb21y
        go_wp2_with fail
        refine (count_ok B b d GB.out _ hrb).mono ?_
        rintro e w22x ⟨rfl, hb22y⟩
        rw [← NB.out]
        have hla22 := (hla.below hb22y).more hb22y.size
        have hrb22 := (hrb.below hb22y).more hb22y.size
        have hrU22 := (hrU.below hb22y).more hb22y.size
        have hrM22 := (hrM.below hb22y).more hb22y.size
        have hrD22 := (hrD.below hb22y).more hb22y.size
        have hbz22 := hbz21.trans (hb22y.mono hsz21)
        have hsz22 := hbz22.size
        clear hla hrb hrU hrM hrD hbz21 hsz21
        have hla := hla22
        clear hla22
        have hrb := hrb22
        clear hrb22
        have hrU := hrU22
        clear hrU22
        have hrM := hrM22
        clear hrM22
        have hrD := hrD22
        clear hrD22
        clear hb22y
        by_cases hx : isA x = true
        · have HX := Lib.hid hx
          clear hx
          obtain ⟨ia, hia⟩ : ∃ i, i = memS a x := ⟨_, rfl⟩
          obtain ⟨ib, hib⟩ : ∃ i, i = memS b x := ⟨_, rfl⟩
          have IA := Lib.hid hia.symm
          have IB := Lib.hid hib.symm
          have IU := Lib.hid (show memS U x = (ia || ib) by rw [MU.out, hia, hib])
          have IM := Lib.hid (show memS M x = (ia && ib) by rw [MM.out, hia, hib])
          have ID := Lib.hid (show memS D x = (ia && !ib) by rw [MD.out, hia, hib])
          clear hia hib
          cases ia <;> cases ib
          · go_wp2_with fail
            refine (has_lit A a c x _ GA.out HX.out IA.out _ hla).mono ?_
            rintro e w23x ⟨rfl, hb23y⟩
            have hla23 := (hla.below hb23y).more hb23y.size
            have hrb23 := (hrb.below hb23y).more hb23y.size
            have hrU23 := (hrU.below hb23y).more hb23y.size
            have hrM23 := (hrM.below hb23y).more hb23y.size
            have hrD23 := (hrD.below hb23y).more hb23y.size
            have hbz23 := hbz22.trans (hb23y.mono hsz22)
            have hsz23 := hbz23.size
            clear hla hrb hrU hrM hrD hbz22 hsz22
            have hla := hla23
            clear hla23
            have hrb := hrb23
            clear hrb23
            have hrU := hrU23
            clear hrU23
            have hrM := hrM23
            clear hrM23
            have hrD := hrD23
            clear hrD23
            clear hb23y
            go_wp2_with fail
            refine (has_lit B b d x _ GB.out HX.out IB.out _ hrb).mono ?_
            rintro e w24x ⟨rfl, hb24y⟩
            have hla24 := (hla.below hb24y).more hb24y.size
            have hrb24 := (hrb.below hb24y).more hb24y.size
            have hrU24 := (hrU.below hb24y).more hb24y.size
            have hrM24 := (hrM.below hb24y).more hb24y.size
            have hrD24 := (hrD.below hb24y).more hb24y.size
            have hbz24 := hbz23.trans (hb24y.mono hsz23)
            have hsz24 := hbz24.size
            clear hla hrb hrU hrM hrD hbz23 hsz23
            have hla := hla24
            clear hla24
            have hrb := hrb24
            clear hrb24
            have hrU := hrU24
            clear hrU24
            have hrM := hrM24
            clear hrM24
            have hrD := hrD24
            clear hrD24
            clear hb24y
            go_wp2_with fail
            refine (has_lit AU U cU x _ GU.out HX.out IU.out _ hrU).mono ?_
            rintro e w25x ⟨rfl, hb25y⟩
            have hla25 := (hla.below hb25y).more hb25y.size
            have hrb25 := (hrb.below hb25y).more hb25y.size
            have hrU25 := (hrU.below hb25y).more hb25y.size
            have hrM25 := (hrM.below hb25y).more hb25y.size
            have hrD25 := (hrD.below hb25y).more hb25y.size
            have hbz25 := hbz24.trans (hb25y.mono hsz24)
            have hsz25 := hbz25.size
            clear hla hrb hrU hrM hrD hbz24 hsz24
            have hla := hla25
            clear hla25
            have hrb := hrb25
            clear hrb25
            have hrU := hrU25
            clear hrU25
            have hrM := hrM25
            clear hrM25
            have hrD := hrD25
            clear hrD25
            clear hb25y
            go_wp2_with fail
            refine (has_lit AM M cM x _ GM.out HX.out IM.out _ hrM).mono ?_
            rintro e w26x ⟨rfl, hb26y⟩
            have hla26 := (hla.below hb26y).more hb26y.size
            have hrb26 := (hrb.below hb26y).more hb26y.size
            have hrU26 := (hrU.below hb26y).more hb26y.size
            have hrM26 := (hrM.below hb26y).more hb26y.size
            have hrD26 := (hrD.below hb26y).more hb26y.size
            have hbz26 := hbz25.trans (hb26y.mono hsz25)
            have hsz26 := hbz26.size
            clear hla hrb hrU hrM hrD hbz25 hsz25
            have hla := hla26
            clear hla26
            have hrb := hrb26
            clear hrb26
            have hrU := hrU26
            clear hrU26
            have hrM := hrM26
            clear hrM26
            have hrD := hrD26
            clear hrD26
            clear hb26y
            go_wp2_with fail
            refine (has_lit AD D cD x _ GD.out HX.out ID.out _ hrD).mono ?_
            rintro e w27x ⟨rfl, hb27y⟩
            have hla27 := (hla.below hb27y).more hb27y.size
            have hrb27 := (hrb.below hb27y).more hb27y.size
            have hrU27 := (hrU.below hb27y).more hb27y.size
            have hrM27 := (hrM.below hb27y).more hb27y.size
            have hrD27 := (hrD.below hb27y).more hb27y.size
            have hbz27 := hbz26.trans (hb27y.mono hsz26)
            have hsz27 := hbz27.size
            clear hla hrb hrU hrM hrD hbz26 hsz26
            have hla := hla27
            clear hla27
            have hrb := hrb27
            clear hrb27
            have hrU := hrU27
            clear hrU27
            have hrM := hrM27
            clear hrM27
            have hrD := hrD27
            clear hrD27
            clear hb27y
            go_wp2
            go_ret
            exact ⟨rfl, hbz27⟩
          · go_wp2_with fail
            refine (has_lit A a c x _ GA.out HX.out IA.out _ hla).mono ?_
            rintro e w23x ⟨rfl, hb23y⟩
            have hla23 := (hla.below hb23y).more hb23y.size
            have hrb23 := (hrb.below hb23y).more hb23y.size
            have hrU23 := (hrU.below hb23y).more hb23y.size
            have hrM23 := (hrM.below hb23y).more hb23y.size
            have hrD23 := (hrD.below hb23y).more hb23y.size
            have hbz23 := hbz22.trans (hb23y.mono hsz22)
            have hsz23 := hbz23.size
            clear hla hrb hrU hrM hrD hbz22 hsz22
            have hla := hla23
            clear hla23
            have hrb := hrb23
            clear hrb23
            have hrU := hrU23
            clear hrU23
            have hrM := hrM23
            clear hrM23
            have hrD := hrD23
            clear hrD23
            clear hb23y
            go_wp2_with fail
            refine (has_lit B b d x _ GB.out HX.out IB.out _ hrb).mono ?_
            rintro e w24x ⟨rfl, hb24y⟩
            have hla24 := (hla.below hb24y).more hb24y.size
            have hrb24 := (hrb.below hb24y).more hb24y.size
            have hrU24 := (hrU.below hb24y).more hb24y.size
            have hrM24 := (hrM.below hb24y).more hb24y.size
            have hrD24 := (hrD.below hb24y).more hb24y.size
            have hbz24 := hbz23.trans (hb24y.mono hsz23)
            have hsz24 := hbz24.size
            clear hla hrb hrU hrM hrD hbz23 hsz23
            have hla := hla24
            clear hla24
            have hrb := hrb24
            clear hrb24
            have hrU := hrU24
            clear hrU24
            have hrM := hrM24
            clear hrM24
            have hrD := hrD24
            clear hrD24
            clear hb24y
            go_wp2_with fail
            refine (has_lit AU U cU x _ GU.out HX.out IU.out _ hrU).mono ?_
            rintro e w25x ⟨rfl, hb25y⟩
            have hla25 := (hla.below hb25y).more hb25y.size
            have hrb25 := (hrb.below hb25y).more hb25y.size
            have hrU25 := (hrU.below hb25y).more hb25y.size
            have hrM25 := (hrM.below hb25y).more hb25y.size
            have hrD25 := (hrD.below hb25y).more hb25y.size
            have hbz25 := hbz24.trans (hb25y.mono hsz24)
            have hsz25 := hbz25.size
            clear hla hrb hrU hrM hrD hbz24 hsz24
            have hla := hla25
            clear hla25
            have hrb := hrb25
            clear hrb25
            have hrU := hrU25
            clear hrU25
            have hrM := hrM25
            clear hrM25
            have hrD := hrD25
            clear hrD25
            clear hb25y
            go_wp2_with fail
            refine (has_lit AM M cM x _ GM.out HX.out IM.out _ hrM).mono ?_
            rintro e w26x ⟨rfl, hb26y⟩
            have hla26 := (hla.below hb26y).more hb26y.size
            have hrb26 := (hrb.below hb26y).more hb26y.size
            have hrU26 := (hrU.below hb26y).more hb26y.size
            have hrM26 := (hrM.below hb26y).more hb26y.size
            have hrD26 := (hrD.below hb26y).more hb26y.size
            have hbz26 := hbz25.trans (hb26y.mono hsz25)
            have hsz26 := hbz26.size
            clear hla hrb hrU hrM hrD hbz25 hsz25
            have hla := hla26
            clear hla26
            have hrb := hrb26
            clear hrb26
            have hrU := hrU26
            clear hrU26
            have hrM := hrM26
            clear hrM26
            have hrD := hrD26
            clear hrD26
            clear hb26y
            go_wp2_with fail
            refine (has_lit AD D cD x _ GD.out HX.out ID.out _ hrD).mono ?_
            rintro e w27x ⟨rfl, hb27y⟩
            have hla27 := (hla.below hb27y).more hb27y.size
            have hrb27 := (hrb.below hb27y).more hb27y.size
            have hrU27 := (hrU.below hb27y).more hb27y.size
            have hrM27 := (hrM.below hb27y).more hb27y.size
            have hrD27 := (hrD.below hb27y).more hb27y.size
            have hbz27 := hbz26.trans (hb27y.mono hsz26)
            have hsz27 := hbz27.size
            clear hla hrb hrU hrM hrD hbz26 hsz26
            have hla := hla27
            clear hla27
            have hrb := hrb27
            clear hrb27
            have hrU := hrU27
            clear hrU27
            have hrM := hrM27
            clear hrM27
            have hrD := hrD27
            clear hrD27
            clear hb27y
            go_wp2
            go_ret
            exact ⟨rfl, hbz27⟩
          · go_wp2_with fail
            refine (has_lit A a c x _ GA.out HX.out IA.out _ hla).mono ?_
            rintro e w23x ⟨rfl, hb23y⟩
            have hla23 := (hla.below hb23y).more hb23y.size
            have hrb23 := (hrb.below hb23y).more hb23y.size
            have hrU23 := (hrU.below hb23y).more hb23y.size
            have hrM23 := (hrM.below hb23y).more hb23y.size
            have hrD23 := (hrD.below hb23y).more hb23y.size
            have hbz23 := hbz22.trans (hb23y.mono hsz22)
            have hsz23 := hbz23.size
            clear hla hrb hrU hrM hrD hbz22 hsz22
            have hla := hla23
            clear hla23
            have hrb := hrb23
            clear hrb23
            have hrU := hrU23
            clear hrU23
            have hrM := hrM23
            clear hrM23
            have hrD := hrD23
            clear hrD23
            clear hb23y
            go_wp2_with fail
            refine (has_lit B b d x _ GB.out HX.out IB.out _ hrb).mono ?_
            rintro e w24x ⟨rfl, hb24y⟩
            have hla24 := (hla.below hb24y).more hb24y.size
            have hrb24 := (hrb.below hb24y).more hb24y.size
            have hrU24 := (hrU.below hb24y).more hb24y.size
            have hrM24 := (hrM.below hb24y).more hb24y.size
            have hrD24 := (hrD.below hb24y).more hb24y.size
            have hbz24 := hbz23.trans (hb24y.mono hsz23)
            have hsz24 := hbz24.size
            clear hla hrb hrU hrM hrD hbz23 hsz23
            have hla := hla24
            clear hla24
            have hrb := hrb24
            clear hrb24
            have hrU := hrU24
            clear hrU24
            have hrM := hrM24
            clear hrM24
            have hrD := hrD24
            clear hrD24
            clear hb24y
            go_wp2_with fail
            refine (has_lit AU U cU x _ GU.out HX.out IU.out _ hrU).mono ?_
            rintro e w25x ⟨rfl, hb25y⟩
            have hla25 := (hla.below hb25y).more hb25y.size
            have hrb25 := (hrb.below hb25y).more hb25y.size
            have hrU25 := (hrU.below hb25y).more hb25y.size
            have hrM25 := (hrM.below hb25y).more hb25y.size
            have hrD25 := (hrD.below hb25y).more hb25y.size
            have hbz25 := hbz24.trans (hb25y.mono hsz24)
            have hsz25 := hbz25.size
            clear hla hrb hrU hrM hrD hbz24 hsz24
            have hla := hla25
            clear hla25
            have hrb := hrb25
            clear hrb25
            have hrU := hrU25
            clear hrU25
            have hrM := hrM25
            clear hrM25
            have hrD := hrD25
            clear hrD25
            clear hb25y
            go_wp2_with fail
            refine (has_lit AM M cM x _ GM.out HX.out IM.out _ hrM).mono ?_
            rintro e w26x ⟨rfl, hb26y⟩
            have hla26 := (hla.below hb26y).more hb26y.size
            have hrb26 := (hrb.below hb26y).more hb26y.size
            have hrU26 := (hrU.below hb26y).more hb26y.size
            have hrM26 := (hrM.below hb26y).more hb26y.size
            have hrD26 := (hrD.below hb26y).more hb26y.size
            have hbz26 := hbz25.trans (hb26y.mono hsz25)
            have hsz26 := hbz26.size
            clear hla hrb hrU hrM hrD hbz25 hsz25
            have hla := hla26
            clear hla26
            have hrb := hrb26
            clear hrb26
            have hrU := hrU26
            clear hrU26
            have hrM := hrM26
            clear hrM26
            have hrD := hrD26
            clear hrD26
            clear hb26y
            go_wp2_with fail
            refine (has_lit AD D cD x _ GD.out HX.out ID.out _ hrD).mono ?_
            rintro e w27x ⟨rfl, hb27y⟩
            have hla27 := (hla.below hb27y).more hb27y.size
            have hrb27 := (hrb.below hb27y).more hb27y.size
            have hrU27 := (hrU.below hb27y).more hb27y.size
            have hrM27 := (hrM.below hb27y).more hb27y.size
            have hrD27 := (hrD.below hb27y).more hb27y.size
            have hbz27 := hbz26.trans (hb27y.mono hsz26)
            have hsz27 := hbz27.size
            clear hla hrb hrU hrM hrD hbz26 hsz26
            have hla := hla27
            clear hla27
            have hrb := hrb27
            clear hrb27
            have hrU := hrU27
            clear hrU27
            have hrM := hrM27
            clear hrM27
            have hrD := hrD27
            clear hrD27
            clear hb27y
            go_wp2
            go_ret
            exact ⟨rfl, hbz27⟩
          · go_wp2_with fail
            refine (has_lit A a c x _ GA.out HX.out IA.out _ hla).mono ?_
            rintro e w23x ⟨rfl, hb23y⟩
            have hla23 := (hla.below hb23y).more hb23y.size
            have hrb23 := (hrb.below hb23y).more hb23y.size
            have hrU23 := (hrU.below hb23y).more hb23y.size
            have hrM23 := (hrM.below hb23y).more hb23y.size
            have hrD23 := (hrD.below hb23y).more hb23y.size
            have hbz23 := hbz22.trans (hb23y.mono hsz22)
            have hsz23 := hbz23.size
            clear hla hrb hrU hrM hrD hbz22 hsz22
            have hla := hla23
            clear hla23
            have hrb := hrb23
            clear hrb23
            have hrU := hrU23
            clear hrU23
            have hrM := hrM23
            clear hrM23
            have hrD := hrD23
            clear hrD23
            clear hb23y
            go_wp2_with fail
            refine (has_lit B b d x _ GB.out HX.out IB.out _ hrb).mono ?_
            rintro e w24x ⟨rfl, hb24y⟩
            have hla24 := (hla.below hb24y).more hb24y.size
            have hrb24 := (hrb.below hb24y).more hb24y.size
            have hrU24 := (hrU.below hb24y).more hb24y.size
            have hrM24 := (hrM.below hb24y).more hb24y.size
            have hrD24 := (hrD.below hb24y).more hb24y.size
            have hbz24 := hbz23.trans (hb24y.mono hsz23)
            have hsz24 := hbz24.size
            clear hla hrb hrU hrM hrD hbz23 hsz23
            have hla := hla24
            clear hla24
            have hrb := hrb24
            clear hrb24
            have hrU := hrU24
            clear hrU24
            have hrM := hrM24
            clear hrM24
            have hrD := hrD24
            clear hrD24
            clear hb24y
            go_wp2_with fail
            refine (has_lit AU U cU x _ GU.out HX.out IU.out _ hrU).mono ?_
            rintro e w25x ⟨rfl, hb25y⟩
            have hla25 := (hla.below hb25y).more hb25y.size
            have hrb25 := (hrb.below hb25y).more hb25y.size
            have hrU25 := (hrU.below hb25y).more hb25y.size
            have hrM25 := (hrM.below hb25y).more hb25y.size
            have hrD25 := (hrD.below hb25y).more hb25y.size
            have hbz25 := hbz24.trans (hb25y.mono hsz24)
            have hsz25 := hbz25.size
            clear hla hrb hrU hrM hrD hbz24 hsz24
            have hla := hla25
            clear hla25
            have hrb := hrb25
            clear hrb25
            have hrU := hrU25
            clear hrU25
            have hrM := hrM25
            clear hrM25
            have hrD := hrD25
            clear hrD25
            clear hb25y
            go_wp2_with fail
            refine (has_lit AM M cM x _ GM.out HX.out IM.out _ hrM).mono ?_
            rintro e w26x ⟨rfl, hb26y⟩
            have hla26 := (hla.below hb26y).more hb26y.size
            have hrb26 := (hrb.below hb26y).more hb26y.size
            have hrU26 := (hrU.below hb26y).more hb26y.size
            have hrM26 := (hrM.below hb26y).more hb26y.size
            have hrD26 := (hrD.below hb26y).more hb26y.size
            have hbz26 := hbz25.trans (hb26y.mono hsz25)
            have hsz26 := hbz26.size
            clear hla hrb hrU hrM hrD hbz25 hsz25
            have hla := hla26
            clear hla26
            have hrb := hrb26
            clear hrb26
            have hrU := hrU26
            clear hrU26
            have hrM := hrM26
            clear hrM26
            have hrD := hrD26
            clear hrD26
            clear hb26y
            go_wp2_with fail
            refine (has_lit AD D cD x _ GD.out HX.out ID.out _ hrD).mono ?_
            rintro e w27x ⟨rfl, hb27y⟩
            have hla27 := (hla.below hb27y).more hb27y.size
            have hrb27 := (hrb.below hb27y).more hb27y.size
            have hrU27 := (hrU.below hb27y).more hb27y.size
            have hrM27 := (hrM.below hb27y).more hb27y.size
            have hrD27 := (hrD.below hb27y).more hb27y.size
            have hbz27 := hbz26.trans (hb27y.mono hsz26)
            have hsz27 := hbz27.size
            clear hla hrb hrU hrM hrD hbz26 hsz26
            have hla := hla27
            clear hla27
            have hrb := hrb27
            clear hrb27
            have hrU := hrU27
            clear hrU27
            have hrM := hrM27
            clear hrM27
            have hrD := hrD27
            clear hrD27
            clear hb27y
            go_wp2
            go_ret
            exact ⟨rfl, hbz27⟩
        · have HX := Lib.hid hx
          clear hx
          go_wp2_with fail
          refine (has_out A a c x GA.out HX.out (by unfold maxLen; omega) _ hla).mono ?_
          rintro e w23x ⟨rfl, hb23y⟩
          have hla23 := (hla.below hb23y).more hb23y.size
          have hrb23 := (hrb.below hb23y).more hb23y.size
          have hrU23 := (hrU.below hb23y).more hb23y.size
          have hrM23 := (hrM.below hb23y).more hb23y.size
          have hrD23 := (hrD.below hb23y).more hb23y.size
          have hbz23 := hbz22.trans (hb23y.mono hsz22)
          have hsz23 := hbz23.size
          clear hla hrb hrU hrM hrD hbz22 hsz22
          have hla := hla23
          clear hla23
          have hrb := hrb23
          clear hrb23
          have hrU := hrU23
          clear hrU23
          have hrM := hrM23
          clear hrM23
          have hrD := hrD23
          clear hrD23
          clear hb23y
          go_wp2_with fail
          refine (has_out B b d x GB.out HX.out (by unfold maxLen; omega) _ hrb).mono ?_
          rintro e w24x ⟨rfl, hb24y⟩
          have hla24 := (hla.below hb24y).more hb24y.size
          have hrb24 := (hrb.below hb24y).more hb24y.size
          have hrU24 := (hrU.below hb24y).more hb24y.size
          have hrM24 := (hrM.below hb24y).more hb24y.size
          have hrD24 := (hrD.below hb24y).more hb24y.size
          have hbz24 := hbz23.trans (hb24y.mono hsz23)
          have hsz24 := hbz24.size
          clear hla hrb hrU hrM hrD hbz23 hsz23
          have hla := hla24
          clear hla24
          have hrb := hrb24
          clear hrb24
          have hrU := hrU24
          clear hrU24
          have hrM := hrM24
          clear hrM24
          have hrD := hrD24
          clear hrD24
          clear hb24y
          go_wp2
          go_ret
          exact ⟨rfl, hbz24⟩
      · clear HU hm0 hownM hu0 hownU
        go_wp2
        go_ret
        exact ⟨rfl, hb12⟩
    · clear HU hD hu0 hownU
      go_wp2
      go_ret
      exact ⟨rfl, hb12⟩
  · clear HU hM hD
    go_wp2
    go_ret
    exact ⟨rfl, hb12⟩
end Go.Proofs.Ytghbihjelmocaaa
