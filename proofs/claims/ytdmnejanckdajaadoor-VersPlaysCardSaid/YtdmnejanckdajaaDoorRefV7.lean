/- Contract of the reference's Collect. No conditions. -/
import Derived.Test.YtdmnejanckdajaaDoorRefV6
import Derived.Deep.DeepCutAuto
import Derived.Deep.CutBlock
namespace Go.Proofs.YtdmnejanckdajaaDoor
set_option linter.unusedVariables false
set_option linter.unusedSimpArgs false
set_option maxRecDepth 100000
open Go.RowKit

theorem mem_drop_iff {l : List Ver} (h : Rising l) {j d : Nat} (hj : j < l.length) : l[j] ∈ l.drop d ↔ d ≤ j := by
  constructor
  · intro hm
    obtain ⟨i, hi, e⟩ := List.getElem_of_mem hm
    rw [List.getElem_drop] at e
    rw [List.length_drop] at hi
    rcases Nat.lt_trichotomy (d + i) j with q | q | q
    · have := h.lt q hj
      rw [e] at this
      omega
    · omega
    · have := h.lt q (by omega)
      rw [e] at this
      omega
  · intro hd
    have : l[j] = (l.drop d)[j - d]'(by rw [List.length_drop]; omega) := by
      rw [List.getElem_drop]
      congr 1
      omega
    rw [this]
    exact List.getElem_mem _
theorem colL_mem {l : List Ver} (h : Rising l) {v : Ver} (hv : v ∈ l) (n : Int) : v ∈ colL l n ↔ n < v.n ∨ (v.n ≤ n ∧ (∀ u ∈ l, u.n ≤ n → u.n ≤ v.n) ∧ v.gone = false) := by
  obtain ⟨j, hj, rfl⟩ := List.getElem_of_mem hv
  have hle := fnd_le l n l.length
  have hji := fnd_iff h n j hj
  have hmax : (l[j].n ≤ n ∧ ∀ u ∈ l, u.n ≤ n → u.n ≤ l[j].n) ↔ j + 1 = fnd l n l.length := by
    constructor
    · rintro ⟨h1, h2⟩
      have hjf := hji.2 h1
      rcases Nat.lt_or_ge (j + 1) (fnd l n l.length) with q | q
      · have hjl : j + 1 < l.length := by omega
        have a1 := (fnd_iff h n (j + 1) hjl).1 q
        have a2 := h2 _ (List.getElem_mem hjl) a1
        have := h.lt (show j < j + 1 by omega) hjl
        omega
      · omega
    · intro e
      refine ⟨hji.1 (by omega), fun u hu hun => ?_⟩
      obtain ⟨i, hi, rfl⟩ := List.getElem_of_mem hu
      have := (fnd_iff h n i hi).2 hun
      rcases Nat.lt_or_ge i j with c | c
      · exact Int.le_of_lt (h.lt c hj)
      · obtain rfl : i = j := by omega
        exact Int.le_refl _
  cases hf : fnd l n l.length with
  | zero =>
    rw [colL_zero hf]
    rw [hf] at hji
    have : n < l[j].n := by omega
    exact ⟨fun _ => .inl this, fun _ => List.getElem_mem _⟩
  | succ k =>
    have hk : k < l.length := by omega
    rw [hf] at hji hmax
    by_cases hg : l[k].gone = true
    · rw [colL_gone hf hk hg, mem_drop_iff h hj]
      constructor
      · intro q
        exact .inl (by omega)
      · rintro (q | ⟨q1, q2, q3⟩)
        · omega
        · have := hmax.1 ⟨q1, q2⟩
          obtain rfl : j = k := by omega
          rw [hg] at q3
          cases q3
    · rw [Bool.not_eq_true] at hg
      rw [colL_here hf hk hg, mem_drop_iff h hj]
      constructor
      · intro q
        by_cases c : l[j].n ≤ n
        · obtain rfl : j = k := by omega
          exact .inr ⟨c, (hmax.2 rfl).2, hg⟩
        · exact .inl (by omega)
      · rintro (q | ⟨q1, q2, _⟩)
        · omega
        · have := hmax.1 ⟨q1, q2⟩
          omega
/-- What stays. -/
def keepC (F : List UInt8 → List Ver) (n : Int) (x : KVer) : Bool := (colL (F x.1) n).any (fun u => u.n == x.2.n)
theorem keepC_iff {F : List UInt8 → List Ver} (hr : ∀ s, Rising (F s)) {n : Int} {x : KVer} (hx : x.2 ∈ F x.1) : keepC F n x = true ↔ x.2 ∈ colL (F x.1) n := by
  unfold keepC
  rw [List.any_eq_true]
  constructor
  · rintro ⟨u, hu, e⟩
    simp at e
    rw [← rising_one (hr x.1) ((colL_sub _ _).subset hu) hx e]
    exact hu
  · exact fun h => ⟨x.2, h, by simp⟩
theorem Mdl.col {L : List KVer} {F : List UInt8 → List Ver} (h : Mdl L F) (hr : ∀ s, Rising (F s)) (n : Int) : Mdl (L.filter (keepC F n)) (colF F n) := by
  refine ⟨fun s v => ?_, h.one.sublist List.filter_sublist⟩
  rw [List.mem_filter]
  unfold colF
  constructor
  · rintro ⟨h1, h2⟩
    exact (keepC_iff hr ((h.mem s v).1 h1)).1 h2
  · intro h1
    have h2 := (colL_sub _ _).subset h1
    exact ⟨(h.mem s v).2 h2, (keepC_iff hr (x := (s, v)) h2).2 h1⟩
theorem keep_at {L : List KVer} {F : List UInt8 → List Ver} (h : Mdl L F) (hr : ∀ s, Rising (F s)) {n : Int} {k : Nat} (hk : k < L.length) :
    keepC F n L[k] = true ↔ n < L[k].2.n ∨ ((L[k].2.n ≤ n ∧ ∀ v, (L[k].1, v) ∈ L → v.n ≤ n → v.n ≤ L[k].2.n) ∧ L[k].2.gone = false) := by
  have hx : L[k].2 ∈ F L[k].1 := (h.mem _ _).1 (List.getElem_mem _)
  rw [keepC_iff hr hx, colL_mem (hr _) hx]
  constructor
  · rintro (q | ⟨q1, q2, q3⟩)
    · exact .inl q
    · exact .inr ⟨⟨q1, fun v hv => q2 v ((h.mem _ _).1 hv)⟩, q3⟩
  · rintro (q | ⟨⟨q1, q2⟩, q3⟩)
    · exact .inl q
    · exact .inr ⟨q1, fun v hv => q2 v ((h.mem _ _).2 hv), q3⟩

set_option maxHeartbeats 8000000 in
theorem refCollect_any (m : Nat) (L : List KVer) (F : List UInt8 → List Ver) (top : Int) (hL : L.length ≤ 1000000) (hM : Mdl L F) (hr : ∀ s, Rising (F s)) (S : Nat → Prop) (n : Int) (w : World) (hT : RTbl w S m L top) :
    Calls Tryd.prog 16 #[.pointer (some ⟨m, 0, none⟩), .int .i64 n] w fun e w' => e = .returned (.int .i64 ((L.length : Int) - ((L.filter (keepC F n)).length : Int))) ∧ Fr S w w' ∧ RTbl w' (plus S w) m (L.filter (keepC F n)) top := by
  have HM := Lib.hid hM
  have HRR := Lib.hid hr
  have HT := Lib.hid hT
  clear hM hr
  obtain ⟨⟨v, hB, hrow, hS⟩, hmS⟩ := hT
  have hx := hB.cell 0
  simp at hx
  have hlt := hB.lt
  obtain ⟨A, c, rfl, hrd⟩ := own_form hrow
  clear hrow
  go_enter Tryd.func16, Tryd.ntmps16
  go_wp2
  go_loopw [5, 6] (fun rest i wr => ∃ (k : Nat), k ≤ L.length ∧ i = .int .i64 k ∧ wr.ownsRow w.heap.size 49 4 rest ((L.take k).filter (keepC F n)).length (flatE encR ((L.take k).filter (keepC F n))) ∧ Below w.heap.size w wr ∧ w.heap.size ≤ wr.heap.size) (fun _ i _ => L.length - (intOf i).toNat)
  case atStart => exact ⟨0, Nat.zero_le _, rfl, World.ownsRow_nil _ _ _ _, Below.refl _ _, Nat.le_refl _⟩
  case round =>
    obtain ⟨k, hk, rfl, hown, hb, hsz⟩ := hrel
    have x0 : wr.cell? ⟨m, 0, none⟩ = some (.slice A L.length c) := (hb.cell (p := ⟨m, 0, none⟩) hlt).trans hx
    by_cases hlt2 : k < L.length
    · obtain ⟨b, off, rfl, hbb, c0, c1, c2, c3⟩ := (hrd.below hb).kver hlt2
      have hI1 : (0 : Int) ≤ (k : Int) := by omega
      have hI2 : (k : Int) < (L.length : Int) := by omega
      obtain ⟨gb, hgb⟩ : ∃ gb, L[k].2.gone = gb := ⟨_, rfl⟩
      rw [hgb] at c3
      have HGB := Lib.hid hgb
      clear hgb
      have HKA := Lib.hid (keep_at HM.out HRR.out (n := n) hlt2)
      have hbw : Below wr.heap.size wr (wr.alloc (.cells #[txt L[k].1, txt L[k].2.val, .int .i64 L[k].2.n, .bool gb] 49)) := (Below.refl _ _).alloc (Nat.le_refl _) _
      have hBk := Blk.new wr 49 #[txt L[k].1, txt L[k].2.val, .int .i64 L[k].2.n, .bool gb]
      have HO := Lib.hid (show (wr.alloc (.cells #[txt L[k].1, txt L[k].2.val, .int .i64 L[k].2.n, .bool gb] 49)).ownsRow w.heap.size 49 4 u5 ((L.take k).filter (keepC F n)).length (flatE encR ((L.take k).filter (keepC F n))) from own_below hown hbw)
      have hbx := hb.trans (hbw.mono hsz)
      have hTy := (HT.out.below hb).below hbw
      have HSN := Lib.hid (seen_any m L top hL S L[k].1 n _ hTy)
      clear hTy hown
      by_cases hn : n < L[k].2.n
      · go_upto_region 7 with fail
        generalize hWX : (wr.alloc (.cells #[txt L[k].1, txt L[k].2.val, .int .i64 L[k].2.n, .bool gb] 49)) = w3 at *
        have z0 : w3.cell? ⟨wr.heap.size, 0, none⟩ = some (txt L[k].1) := hBk.cell 0
        have z1 : w3.cell? ⟨wr.heap.size, 1, none⟩ = some (txt L[k].2.val) := hBk.cell 1
        have z2 : w3.cell? ⟨wr.heap.size, 2, none⟩ = some (.int .i64 L[k].2.n) := hBk.cell 2
        have z3 : w3.cell? ⟨wr.heap.size, 3, none⟩ = some (.bool gb) := hBk.cell 3
        clear hWX hbw hBk
        have hkp : (L.take (k + 1)).filter (keepC F n) = (L.take k).filter (keepC F n) ++ [L[k]] := by
          rw [List.take_succ_eq_append_getElem hlt2, List.filter_append, List.filter_cons_of_pos (by exact HKA.out.2 (.inl hn))]
          rfl
        have HKP := Lib.hid hkp
        have hfl : ((L.take k).filter (keepC F n)).length < 1000000000 := by have := List.length_filter_le (keepC F n) (L.take k); simp at this; omega
        have h1c : ∀ u ∈ [txt L[k].1, txt L[k].2.val, .int .i64 L[k].2.n, .bool gb], u.oneCell' = true := by intro u hu; simp at hu; rcases hu with rfl | rfl | rfl | rfl <;> rfl
        have hOX := HO.out
        have hsx : w.heap.size ≤ w3.heap.size := hbx.size
        clear hkp
        go_wp2_with (at_builtin; refine wpList_append_elt rfl _ _ 44 rfl 49 Tryd.underlying44 _ 4 48 infoR rfl (by decide) (by decide) w.heap.size u5 _ _ (by rfl) hOX #[txt L[k].1, txt L[k].2.val, .int .i64 L[k].2.n, .bool gb] rfl h1c (by rfl) hfl hsx ?_; intro v4 w4 hown4 hg4 hat4)
        have hb4 : Below w.heap.size w w4 := hbx.grown hg4 hsx (fun q hq => (World.ownsRow.lt hOX q hq).1)
        go_wp2
        go_roundw
        case rel => exact ⟨k + 1, by omega, by go_num, by rw [HKP.out, List.length_append, flatE_append]; have e : flatE encR [L[k]] = [txt L[k].1, txt L[k].2.val, .int .i64 L[k].2.n, .bool gb] := (by rw [← HGB.out]; rfl); rw [e]; exact hown4, hb4, hb4.size⟩
        case measure => simp [intOf]; omega
      · go_wp2_with fail
        refine HSN.out.mono ?_
        rintro e w3 ⟨r, rfl, hsr, hb3⟩
        have hbz := hbx.trans (hb3.mono hbx.size)
        have hO3 := own_below HO.out hb3
        have hsh := seen_here HM.out hlt2 hsr
        have z0 : w3.cell? ⟨wr.heap.size, 0, none⟩ = some (txt L[k].1) := (hb3.cell (p := ⟨wr.heap.size, 0, none⟩) (by simp)).trans (hBk.cell 0)
        have z1 : w3.cell? ⟨wr.heap.size, 1, none⟩ = some (txt L[k].2.val) := (hb3.cell (p := ⟨wr.heap.size, 1, none⟩) (by simp)).trans (hBk.cell 1)
        have z2 : w3.cell? ⟨wr.heap.size, 2, none⟩ = some (.int .i64 L[k].2.n) := (hb3.cell (p := ⟨wr.heap.size, 2, none⟩) (by simp)).trans (hBk.cell 2)
        have z3 : w3.cell? ⟨wr.heap.size, 3, none⟩ = some (.bool gb) := (hb3.cell (p := ⟨wr.heap.size, 3, none⟩) (by simp)).trans (hBk.cell 3)
        clear hsr
        by_cases hrk : r = (k : Int)
        · have HMX := Lib.hid (hsh.1 hrk)
          subst hrk
          clear hsh
          cases gb
          · have hkp : (L.take (k + 1)).filter (keepC F n) = (L.take k).filter (keepC F n) ++ [L[k]] := by
              rw [List.take_succ_eq_append_getElem hlt2, List.filter_append, List.filter_cons_of_pos (by exact HKA.out.2 (.inr ⟨HMX.out, HGB.out⟩))]
              rfl
            have HKP := Lib.hid hkp
            have hfl : ((L.take k).filter (keepC F n)).length < 1000000000 := by have := List.length_filter_le (keepC F n) (L.take k); simp at this; omega
            have h1c : ∀ u ∈ [txt L[k].1, txt L[k].2.val, .int .i64 L[k].2.n, .bool false], u.oneCell' = true := by intro u hu; simp at hu; rcases hu with rfl | rfl | rfl | rfl <;> rfl
            have hOX := hO3
            have hsx : w.heap.size ≤ w3.heap.size := hbz.size
            clear hkp
            go_wp2_with (at_builtin; refine wpList_append_elt rfl _ _ 44 rfl 49 Tryd.underlying44 _ 4 48 infoR rfl (by decide) (by decide) w.heap.size u5 _ _ (by rfl) hOX #[txt L[k].1, txt L[k].2.val, .int .i64 L[k].2.n, .bool false] rfl h1c (by rfl) hfl hsx ?_; intro v4 w4 hown4 hg4 hat4)
            have hb4 : Below w.heap.size w w4 := hbz.grown hg4 hsx (fun q hq => (World.ownsRow.lt hOX q hq).1)
            go_wp2
            go_roundw
            case rel => exact ⟨k + 1, by omega, by go_num, by rw [HKP.out, List.length_append, flatE_append]; have e : flatE encR [L[k]] = [txt L[k].1, txt L[k].2.val, .int .i64 L[k].2.n, .bool false] := (by rw [← HGB.out]; rfl); rw [e]; exact hown4, hb4, hb4.size⟩
            case measure => simp [intOf]; omega
          · have hkp : (L.take (k + 1)).filter (keepC F n) = (L.take k).filter (keepC F n) := by
              rw [List.take_succ_eq_append_getElem hlt2, List.filter_append, List.filter_cons_of_neg (by intro h; rcases HKA.out.1 h with q | ⟨_, q⟩; omega; rw [HGB.out] at q; cases q)]
              simp
            have HKP := Lib.hid hkp
            clear hkp
            go_wp2
            go_roundw
            case rel => exact ⟨k + 1, by omega, by go_num, by rw [HKP.out]; exact hO3, hbz, hbz.size⟩
            case measure => simp [intOf]; omega
        · have hrk' : (r == (k : Int)) = false := by simpa using hrk
          have HNM : Hid (¬ (L[k].2.n ≤ n ∧ ∀ v, (L[k].1, v) ∈ L → v.n ≤ n → v.n ≤ L[k].2.n)) := Lib.hid (fun h => hrk (hsh.2 h))
          clear hsh hrk
          have hkp : (L.take (k + 1)).filter (keepC F n) = (L.take k).filter (keepC F n) := by
            rw [List.take_succ_eq_append_getElem hlt2, List.filter_append, List.filter_cons_of_neg (by intro h; rcases HKA.out.1 h with q | ⟨q, _⟩; omega; exact HNM.out q)]
            simp
          have HKP := Lib.hid hkp
          clear hkp
          go_wp2
          go_roundw
          case rel => exact ⟨k + 1, by omega, by go_num, by rw [HKP.out]; exact hO3, hbz, hbz.size⟩
          case measure => simp [intOf]; omega
    · obtain rfl : k = L.length := by omega
      rw [List.take_length] at hown
      have hBm : Blk wr m 46 #[.slice A L.length c, .int .i64 top] := hB.below hb hlt
      have zf := hBm.frozen 0
      have hfl : (L.filter (keepC F n)).length ≤ L.length := List.length_filter_le _ _
      obtain ⟨A5, c5, rfl, _⟩ := own_form hown
      have hflI : ((L.filter (keepC F n)).length : Int) ≤ (L.length : Int) := by omega
      go_wp2
      go_ret
      refine ⟨rfl, ((Fr.of_below hb).mono (S' := S) (fun _ _ q => q)).setCell (fun _ => hmS) _, ⟨⟨_, hBm.setCell 0 _, ?_, fun g e => .inr (World.ownsRow.lt hown g e).1⟩, .inl hmS⟩⟩
      exact row_fr (own_of_base hown (Nat.zero_le _)) (fun g e => Below.heap_setCell wr ⟨m, 0, none⟩ _ g (by have := (World.ownsRow.lt hown g e).1; simp; omega))
end Go.Proofs.YtdmnejanckdajaaDoor
