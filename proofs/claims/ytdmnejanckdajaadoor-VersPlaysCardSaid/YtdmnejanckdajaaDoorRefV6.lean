/- Contract of the reference's Range. No conditions. -/
import Derived.Test.YtdmnejanckdajaaDoorRefV5
namespace Go.Proofs.YtdmnejanckdajaaDoor
set_option linter.unusedVariables false
set_option linter.unusedSimpArgs false
set_option maxRecDepth 100000
open Go.RowKit

/-- What place j tells of a range. -/
def Pick (L : List KVer) (lo hi : List UInt8) (n : Int) (j : Nat) (hj : j < L.length) : Prop :=
  inB lo hi L[j].1 = true ∧ L[j].2.gone = false ∧ L[j].2.n ≤ n ∧ ∀ v, (L[j].1, v) ∈ L → v.n ≤ n → v.n ≤ L[j].2.n
structure RR (L : List KVer) (lo hi : List UInt8) (n : Int) (k : Nat) (out : List KV) : Prop where
  rise : Rise Prod.fst out
  mem : ∀ s x, (s, x) ∈ out ↔ ∃ (j : Nat) (hj : j < L.length), j < k ∧ Pick L lo hi n j hj ∧ s = L[j].1 ∧ x = L[j].2.val
section
variable {L : List KVer} {lo hi : List UInt8} {n : Int} {k : Nat} {out : List KV} {F : List UInt8 → List Ver}
theorem RR.start : RR L lo hi n 0 [] := ⟨by unfold Rise; simp, fun s x => ⟨fun h => by simp at h, fun ⟨j, _, h, _⟩ => by omega⟩⟩
theorem RR.skip (h : RR L lo hi n k out) (hk : k < L.length) (hn : ¬ Pick L lo hi n k hk) : RR L lo hi n (k + 1) out := by
  refine ⟨h.rise, fun s x => ?_⟩
  rw [h.mem]
  constructor
  · rintro ⟨j, hj, h1, h2⟩
    exact ⟨j, hj, by omega, h2⟩
  · rintro ⟨j, hj, h1, h2, h3⟩
    rcases Nat.lt_or_ge j k with q | q
    · exact ⟨j, hj, q, h2, h3⟩
    · obtain rfl : j = k := by omega
      exact absurd h2 hn
theorem RR.add (h : RR L lo hi n k out) (hM : Mdl L F) (hk : k < L.length) (hp : Pick L lo hi n k hk) : RR L lo hi n (k + 1) (insKV (L[k].1, L[k].2.val) out) := by
  refine ⟨insKV_rise _ h.rise (fun y hy e => ?_), fun s x => ?_⟩
  · obtain ⟨s, x⟩ := y
    obtain ⟨j, hj, h1, h2, h3, _⟩ := (h.mem s x).1 hy
    simp only at e
    rw [h3] at e
    have a1 := hp.2.2.2 L[j].2 (by rw [← e]; exact List.getElem_mem _) h2.2.2.1
    have a2 := h2.2.2.2 L[k].2 (by rw [e]; exact List.getElem_mem _) hp.2.2.1
    have := hM.place hj hk e (by omega)
    omega
  · rw [insKV_mem, h.mem]
    constructor
    · rintro (e | ⟨j, hj, h1, h2⟩)
      · injection e with e1 e2
        exact ⟨k, hk, by omega, hp, e1, e2⟩
      · exact ⟨j, hj, by omega, h2⟩
    · rintro ⟨j, hj, h1, h2, h3, h4⟩
      rcases Nat.lt_or_ge j k with q | q
      · exact .inr ⟨j, hj, q, h2, h3, h4⟩
      · obtain rfl : j = k := by omega
        exact .inl (by rw [h3, h4])
theorem RR.done (h : RR L lo hi n L.length out) (hM : Mdl L F) (hr : ∀ s, Rising (F s)) : RangeIs F lo hi n out := by
  refine ⟨h.rise, fun s x => ?_⟩
  rw [h.mem]
  constructor
  · rintro ⟨j, hj, _, ⟨h1, h2, h3, h4⟩, rfl, rfl⟩
    refine ⟨h1, ?_⟩
    obtain ⟨q, hq, hf, hv⟩ := hM.seen (hr _) hj rfl h3 h4
    rw [tell_eq, tellL_at hf hq, hv, if_neg (by rw [h2]; simp)]
  · rintro ⟨h1, h2⟩
    rw [tell_eq] at h2
    cases hf : fnd (F s) n (F s).length with
    | zero => rw [tellL_zero hf] at h2; cases h2
    | succ q =>
      have hle := fnd_le (F s) n (F s).length
      have hq : q < (F s).length := by omega
      rw [tellL_at hf hq] at h2
      obtain ⟨j, hj, e⟩ := List.getElem_of_mem ((hM.mem s _).2 (List.getElem_mem hq))
      have hg : (F s)[q].gone = false := by
        cases hg : (F s)[q].gone with
        | false => rfl
        | true => rw [hg] at h2; simp at h2
      rw [hg] at h2
      simp at h2
      refine ⟨j, hj, hj, ⟨by rw [e]; exact h1, by rw [e]; exact hg, by rw [e]; exact fnd_last n _ (Nat.le_refl _) q hf hq, fun v hv hvn => ?_⟩, by rw [e], by rw [e]; exact h2.symm⟩
      rw [e] at hv ⊢
      obtain ⟨i, hi2, e2⟩ := List.getElem_of_mem ((hM.mem s v).1 hv)
      have := (fnd_iff (hr s) n i hi2).2 (by rw [e2]; exact hvn)
      rcases Nat.lt_or_ge i q with c | c
      · have := (hr s).lt c hq
        rw [e2] at this
        exact Int.le_of_lt this
      · obtain rfl : i = q := by omega
        rw [e2]
        exact Int.le_refl _
theorem seen_here (hM : Mdl L F) {r : Int} (hk : k < L.length) (h : SeenIs L L[k].1 n r) : r = (k : Int) ↔ L[k].2.n ≤ n ∧ ∀ v, (L[k].1, v) ∈ L → v.n ≤ n → v.n ≤ L[k].2.n := by
  constructor
  · intro e
    rcases h with ⟨h1, _⟩ | ⟨i, hi, h1, h2, h3, h4⟩
    · omega
    · obtain rfl : i = k := by omega
      exact ⟨h3, h4⟩
  · rintro ⟨h1, h2⟩
    rcases h with ⟨rfl, h3⟩ | ⟨i, hi, rfl, h3, h4, h5⟩
    · have := h3 L[k].2 (List.getElem_mem _)
      omega
    · have a1 := h5 L[k].2 (List.getElem_mem _) h1
      have a2 := h2 L[i].2 (by rw [← h3]; exact List.getElem_mem _) h4
      rw [hM.place hi hk h3 (by omega)]
end

set_option maxHeartbeats 8000000 in
theorem refRange_any (m : Nat) (L : List KVer) (F : List UInt8 → List Ver) (top : Int) (hL : L.length ≤ 1000000) (hM : Mdl L F) (hr : ∀ s, Rising (F s)) (S : Nat → Prop) (lo hi : List UInt8) (n : Int) (w : World) (hT : RTbl w S m L top) :
    Calls Tryd.prog 18 #[.pointer (some ⟨m, 0, none⟩), txt lo, txt hi, .int .i64 n] w fun e w' => ∃ v out, e = .returned v ∧ OwnKV w' w.heap.size v out ∧ RangeIs F lo hi n out ∧ out.length ≤ L.length ∧ Below w.heap.size w w' := by
  have HM := Lib.hid hM
  have HRR := Lib.hid hr
  have HT := Lib.hid hT
  clear hM hr
  obtain ⟨⟨v, hB, hrow, _⟩, _⟩ := hT
  have hx := hB.cell 0
  simp at hx
  have hlt := hB.lt
  obtain ⟨A, c, rfl, hrd⟩ := own_form hrow
  clear hrow
  go_enter Tryd.func18, Tryd.ntmps18
  go_wp2
  go_loopw [9, 10] (fun o i wr => ∃ (k : Nat) (out : List KV), k ≤ L.length ∧ i = .int .i64 k ∧ RR L lo hi n k out ∧ out.length ≤ k ∧ OwnKV wr w.heap.size o out ∧ Below w.heap.size w wr ∧ w.heap.size ≤ wr.heap.size) (fun _ i _ => L.length - (intOf i).toNat)
  case atStart => exact ⟨0, [], Nat.zero_le _, rfl, RR.start, by simp, OwnKV.nil _ _, Below.refl _ _, Nat.le_refl _⟩
  case round =>
    obtain ⟨k, out, hk, rfl, hrel, hol, hown, hb, hsz⟩ := hrel
    have x0 : wr.cell? ⟨m, 0, none⟩ = some (.slice A L.length c) := (hb.cell (p := ⟨m, 0, none⟩) hlt).trans hx
    by_cases hlt2 : k < L.length
    · obtain ⟨b, off, rfl, hbb, c0, c1, c2, c3⟩ := (hrd.below hb).kver hlt2
      have hI1 : (0 : Int) ≤ (k : Int) := by omega
      have hI2 : (k : Int) < (L.length : Int) := by omega
      obtain ⟨gb, hgb⟩ : ∃ gb, L[k].2.gone = gb := ⟨_, rfl⟩
      rw [hgb] at c3
      have HGB := Lib.hid hgb
      clear hgb
      have hLO := Lib.hid (lessB_eq' L[k].1 lo)
      have hHI := Lib.hid (lessB_eq' L[k].1 hi)
      have hbw : Below wr.heap.size wr (wr.alloc (.cells #[txt L[k].1, txt L[k].2.val, .int .i64 L[k].2.n, .bool gb] 49)) := (Below.refl _ _).alloc (Nat.le_refl _) _
      have hBk := Blk.new wr 49 #[txt L[k].1, txt L[k].2.val, .int .i64 L[k].2.n, .bool gb]
      have HO := Lib.hid (show OwnKV (wr.alloc (.cells #[txt L[k].1, txt L[k].2.val, .int .i64 L[k].2.n, .bool gb] 49)) w.heap.size u9 out from own_below hown hbw)
      have hbx := hb.trans (hbw.mono hsz)
      have HST := Lib.hid hrel
      have hTx := HT.out.below hb
      have hTy := hTx.below hbw
      have HSN := Lib.hid (seen_any m L top hL S L[k].1 n _ hTy)
      clear hTx hTy hrel hown
      rcases q1 : Op.bytesLess L[k].1 lo with _ | _
      · rcases q2 : Op.bytesLess L[k].1 hi with _ | _
        · have HS := Lib.hid (HST.out.skip hlt2 (fun h => by have := h.1; have e2 := hHI.out; rw [q2] at e2; simp [inB, ← e2] at this))
          go_wp2
          go_roundw
          case rel => exact ⟨k + 1, out, by omega, by go_num, HS.out, by omega, HO.out, hbx, hbx.size⟩
          case measure => simp [intOf]; omega
        · have hin : Hid (inB lo hi L[k].1 = true) := Lib.hid (by have e1 := hLO.out; have e2 := hHI.out; rw [q1] at e1; rw [q2] at e2; simp [inB, ← e1, ← e2])
          cases gb
          · go_wp2_with fail
            refine HSN.out.mono ?_
            rintro e w3 ⟨r, rfl, hsr, hb3⟩
            have hbz := hbx.trans (hb3.mono hbx.size)
            have hO3 : OwnKV w3 w.heap.size u9 out := own_below HO.out hb3
            have hsh := seen_here HM.out hlt2 hsr
            clear hsr
            by_cases hrk : r = (k : Int)
            · have hp := HST.out.add HM.out hlt2 ⟨hin.out, HGB.out, hsh.1 hrk⟩
              have HS := Lib.hid hp
              subst hrk
              obtain ⟨A3, c4, rfl, hrd3⟩ := hO3.rd
              have z0 : w3.cell? ⟨wr.heap.size, 0, none⟩ = some (txt L[k].1) := (hb3.cell (p := ⟨wr.heap.size, 0, none⟩) (by simp)).trans (hBk.cell 0)
              have z1 : w3.cell? ⟨wr.heap.size, 1, none⟩ = some (txt L[k].2.val) := (hb3.cell (p := ⟨wr.heap.size, 1, none⟩) (by simp)).trans (hBk.cell 1)
              have HINS := Lib.hid (insert_any A3 out c4 (L[k].1, L[k].2.val) (by omega) w3 hrd3)
              clear hp hsh hO3
              go_wp2_with fail
              refine HINS.out.mono ?_
              rintro e w4 ⟨v4, rfl, hO4, hb4⟩
              have hb4' := hbz.trans (hb4.mono hbz.size)
              have hO4' : OwnKV w4 w.heap.size v4 (insKV (L[k].1, L[k].2.val) out) := own_of_base hO4 hbz.size
              clear hO4 hrd3
              go_wp2
              go_roundw
              case rel => exact ⟨k + 1, _, by omega, by go_num, HS.out, by rw [insKV_len]; omega, hO4', hb4', hb4'.size⟩
              case measure => simp [intOf]; omega
            · have HS := Lib.hid (HST.out.skip hlt2 (fun h => hrk (hsh.2 h.2.2)))
              have hrk' : (r == (k : Int)) = false := by simpa using hrk
              clear hsh
              go_wp2
              go_roundw
              case rel => exact ⟨k + 1, out, by omega, by go_num, HS.out, by omega, hO3, hbz, hbz.size⟩
              case measure => simp [intOf]; omega
          · have HS := Lib.hid (HST.out.skip hlt2 (fun h => by have := h.2.1; rw [HGB.out] at this; cases this))
            go_wp2
            go_roundw
            case rel => exact ⟨k + 1, out, by omega, by go_num, HS.out, by omega, HO.out, hbx, hbx.size⟩
            case measure => simp [intOf]; omega
      · have HS := Lib.hid (HST.out.skip hlt2 (fun h => by have := h.1; have e2 := hLO.out; rw [q1] at e2; simp [inB, ← e2] at this))
        go_wp2
        go_roundw
        case rel => exact ⟨k + 1, out, by omega, by go_num, HS.out, by omega, HO.out, hbx, hbx.size⟩
        case measure => simp [intOf]; omega
    · obtain rfl : k = L.length := by omega
      have HD := Lib.hid (hrel.done HM.out HRR.out)
      clear hrel
      go_wp2
      go_ret
      exact ⟨_, out, rfl, hown, HD.out, hol, hb⟩
end Go.Proofs.YtdmnejanckdajaaDoor
