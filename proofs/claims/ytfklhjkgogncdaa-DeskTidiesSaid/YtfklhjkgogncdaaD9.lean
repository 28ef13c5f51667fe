/- Texts joined: XVers9, XVers10, XCount, XVers11, XVers12, XVers13, XVers14, XStay, XVers15, XDeskMath, XDkMath, XDkOk, XVersChg, XOwnMath, XFgMath, XTdMath. Each says at its head what it proves; conditions: as said there. -/
import Derived.Test.YtfklhjkgogncdaaD5
import Derived.Test.YtfklhjkgogncdaaD8
import Derived.Deep.RegionHeld3
import Derived.Deep.DrawnRows
import Derived.Test.YtfklhjkgogncdaaD3
import Derived.Test.YtfklhjkgogncdaaD7
/- Contract of Range: the loop. -/
namespace Go.Proofs.Ytfklhjkgogncdaa
set_option linter.unusedVariables false
set_option linter.unusedSimpArgs false
set_option maxRecDepth 100000
open Go.RowKit

theorem own_far {w w' : World} {base size n r : Nat} {e : TypeId} {v : Value} {xs : List Value} (h : w.ownsRow base e size v n xs) (hg : w.grownBy w' (some r)) (hr : r < base) : w'.ownsRow base e size v n xs :=
  h.kept hg (by
    cases hv : v.ownBlock with
    | none => exact .inl rfl
    | some g =>
      have := (World.ownsRow.lt h g hv).1
      exact .inr (fun e => by injection e with e; omega))
theorem tell_at {F : List UInt8 → List Ver} {s : List UInt8} {n : Int} {k : Nat} (h : fnd (F s) n (F s).length = k + 1) (hk : k < (F s).length) : tell F s n = if (F s)[k].gone then none else some (F s)[k].val := by
  simp only [tell, h, List.getElem?_eq_getElem hk]
theorem tell_zero {F : List UInt8 → List Ver} {s : List UInt8} {n : Int} (h : fnd (F s) n (F s).length = 0) : tell F s n = none := by
  simp only [tell, h]

theorem range_ok (t : Nat) (F : List UInt8 → List Ver) (top : Int) (m : Nat) (hm : m ≤ 1000000) (S : Nat → Prop) (lo hi : List UInt8) (n : Int) (w : World) (hT : TblAt w S t F top m) (h0 : numB n = true) :
    Calls Try.prog 36 #[.pointer (some ⟨t, 0, none⟩), txt lo, txt hi, .int .i64 n] w fun e w' => ∃ v L, e = .returned (.tuple #[v, .nilIface]) ∧ OwnKV w' w.heap.size v L ∧ RangeIs F lo hi n L ∧ L.length ≤ m ∧ Below w.heap.size w w' := by
  obtain ⟨⟨b, es, clock, hB, hM, hn⟩, ht, hg⟩ := hT
  have hx := hB.cell 0
  simp at hx
  have hnum := number_any n w
  rw [h0] at hnum
  have HN := Lib.hid hnum
  clear hnum
  go_enter Try.func36, Try.ntmps36
  go_wp2_with fail
  refine HN.out.mono ?_
  rintro e w1 ⟨rfl, rfl⟩
  have hblt := hM.map.lt
  go_wp2_with (first | (at_range; refine at_rng _ rfl _ _ rfl 9 113 Try.underlying97 rfl hM.map ?_; intro w2 hR2 hM2 hg2 hs2; go_frame))
  have hb2 : Below w1.heap.size w1 w2 := (Below.refl _ _).grown hg2 (Nat.le_refl _) (fun k hk => by cases hk)
  generalize hH : w1.heap.size = H at *
  go_loopw [10] (fun o wr => ∃ (left : List MapEntry) (out : List KV), OwnKV wr (H + 1) o out ∧ RangeAt wr b H es clock left ∧ Below H w1 wr ∧ RngRel F lo hi n es left out ∧ H + 1 ≤ wr.heap.size)
    (fun _ wr => leftN wr b H)
  case atStart => exact ⟨es.toList, [], OwnKV.nil _ _, hR2, hb2, RngRel.start hM.tells, by omega⟩
  case round =>
    obtain ⟨left, out, hown, hR, hb, hrel, hsz⟩ := hrel
    have hM3 : TabAt wr Try.prog 9 116 S b es clock F := hM.below (by rw [hH]; exact hb)
    have hln := hR.left_eq hM3.map
    have HLN := Lib.hid hln
    clear hln
    rcases hR.next hM3.map (by omega) 0 with ⟨h0, hrun⟩ | ⟨⟨ek, ev, eb⟩, left', w', h1, h2, hrun, h3, h4, h5, h6, h7, h8⟩
    · subst h0
      have hol : out.length ≤ 1000000 := by have := hrel.len; omega
      have HS := Lib.hid (sortKV_any u10 out (H + 1) hol wr hown)
      clear hown hM3
      go_wp2_with fail
      refine HS.out.mono ?_
      rintro e w3 ⟨rfl, L, hown3, hp, hsrt, hb3⟩
      have HL := Lib.hid (hrel.done hp hsrt)
      have hll : L.length ≤ m := by have := hrel.len; rw [hp.length_eq]; omega
      go_wp2
      go_ret2
      exact ⟨u10, L, rfl, own_of_base hown3 (by omega), HL.out, hll, by rw [hH]; exact hb.trans (hb3.mono (by omega))⟩
    · obtain ⟨s, hs⟩ := hM.keys _ (hR.sub _ h1)
      have hhas : Has es (txt s) ev := ⟨_, hR.sub _ h1, hs, rfl⟩
      simp only at hs h7 h8 hrun
      subst hs
      obtain ⟨hne, hrow⟩ := hM3.rows s ev hhas
      have hb' : Below H w1 w' := hb.grown h5 (by omega) (fun k hk => by injection hk with hk; omega)
      have hown' := own_far hown h5 (by omega)
      have h6' : H + 1 ≤ w'.heap.size := by omega
      clear h6
      have hrow' := own_below (hM.rows s ev hhas).2 (by rw [hH]; exact hb')
      have hlen := hg.len s
      obtain ⟨A, c, rfl, hrd⟩ := own_form hrow'
      have hf := find_any A (F s) c n (by omega) w' hrd
      have hLO := Lib.hid (lessB_eq' s lo)
      have hHI := Lib.hid (lessB_eq' s hi)
      generalize hk : fnd (F s) n (F s).length = k at hf
      have hkle := fnd_le (F s) n (F s).length
      rw [hk] at hkle
      have HK := Lib.hid hk
      clear hk
      rcases hlo : Op.bytesLess s lo with _ | _
      · rcases hhi : Op.bytesLess s hi with _ | _
        · have HS := Lib.hid (hrel.skip (s := s) h2 rfl (fun h => by have := hHI.out; rw [hhi] at this; simp [inB, ← this] at h))
          have HF := Lib.hid hf
          clear hf hrel hM hM3 hrow hrow' hown
          go_wp2_with fail
          refine HF.out.mono ?_
          rintro e w3 ⟨rfl, rfl⟩
          go_wp2
          go_roundw
          case rel => exact ⟨left', out, hown', h3, hb', HS.out, by omega⟩
          case measure => rw [h3.left_eq h4, HLN.out, h2.length_eq]; simp
        · cases k with
          | zero =>
            have HS := Lib.hid (hrel.skip (s := s) h2 rfl (fun _ => tell_zero HK.out))
            have HF := Lib.hid hf
            clear hf hrel hM hM3 hrow hrow' hown
            go_wp2_with fail
            refine HF.out.mono ?_
            rintro e w3 ⟨rfl, rfl⟩
            go_wp2
            go_roundw
            case rel => exact ⟨left', out, hown', h3, hb', HS.out, by omega⟩
            case measure => rw [h3.left_eq h4, HLN.out, h2.length_eq]; simp
          | succ k =>
            have hkl' : k < (F s).length := by omega
            obtain ⟨g, off, rfl, hgb, c0, c1, c2⟩ := hrd.ver hkl'
            have e0 : (((k + 1 : Nat) : Int) - 1) = (k : Int) := by omega
            rw [e0] at hf
            have htell := tell_at HK.out hkl'
            by_cases hgone : (F s)[k].gone = true
            · rw [hgone] at c2
              rw [if_pos hgone] at htell
              have HT := Lib.hid htell
              clear htell
              have HS := Lib.hid (hrel.skip (s := s) h2 rfl (fun _ => HT.out))
              have HF := Lib.hid hf
              clear hf hrel hM hM3 hrow hrow' hown
              go_wp2_with fail
              refine HF.out.mono ?_
              rintro e w3 ⟨rfl, rfl⟩
              go_wp2
              go_roundw
              case rel => exact ⟨left', out, hown', h3, hb', HS.out, by omega⟩
              case measure => rw [h3.left_eq h4, HLN.out, h2.length_eq]; simp
            · rw [Bool.not_eq_true] at hgone
              rw [hgone] at c2
              rw [if_neg (by rw [hgone]; simp)] at htell
              have hin : inB lo hi s = true := by
                have q1 := hLO.out
                have q2 := hHI.out
                rw [hlo] at q1
                rw [hhi] at q2
                simp [inB, ← q1, ← q2]
              have HS := Lib.hid (hrel.add (s := s) h2 rfl hin htell h7)
              have hol : out.length < 1000000000 := by have := hrel.len; omega
              have HF := Lib.hid hf
              clear hf hrel hM hM3 hrow hrow' hown htell hin
              have h1c := encKV_one (s, (F s)[k].val)
              go_wp2_with fail
              refine HF.out.mono ?_
              rintro e w3 ⟨rfl, rfl⟩
              go_wp2_with (at_builtin; go_must (refine wpList_append_elt rfl _ _ 36 rfl 41 Try.underlying36 _ 2 32 infoKV rfl (by decide) (by decide) (H + 1) _ out.length (flatE encKV out) rfl hown' #[txt s, txt (F s)[k].val] rfl h1c rfl hol (by omega) ?_); intro v4 w4 hown4 hg4 hat4)
              have hne4 : ∀ q, u10.ownBlock = some q → H + 1 ≤ q := fun q hq => (World.ownsRow.lt hown' q hq).1
              have hblk : w4.heap[H]? = w3.heap[H]? := hg4.block H h3.lt (fun e => by have := hne4 H e.symm; omega)
              have h34 := h3.keep hblk
              have h44 := h4.grown hg4 (fun e => by have := hne4 b e.symm; omega)
              have hb4 := hb'.grown hg4 (by omega) (fun q hq => by have := hne4 q hq; omega)
              have hsz4 : H + 1 ≤ w4.heap.size := Nat.le_trans h6' hg4.size
              clear hblk
              go_roundw
              case rel => exact ⟨left', out ++ [(s, (F s)[k].val)], by unfold OwnKV; rw [flatE_append, List.length_append]; exact hown4, h34, hb4, HS.out, hsz4⟩
              case measure => rw [h34.left_eq h44, HLN.out, h2.length_eq]; simp
      · have HS := Lib.hid (hrel.skip (s := s) h2 rfl (fun h => by have := hLO.out; rw [hlo] at this; simp [inB, ← this] at h))
        have HF := Lib.hid hf
        clear hf hrel hM hM3 hrow hrow' hown
        go_wp2_with fail
        refine HF.out.mono ?_
        rintro e w3 ⟨rfl, rfl⟩
        go_wp2
        go_roundw
        case rel => exact ⟨left', out, hown', h3, hb', HS.out, by omega⟩
        case measure => rw [h3.left_eq h4, HLN.out, h2.length_eq]; simp
end Go.Proofs.Ytfklhjkgogncdaa

/- Contract of Range, whole. -/
namespace Go.Proofs.Ytfklhjkgogncdaa
set_option linter.unusedVariables false
set_option linter.unusedSimpArgs false
set_option maxRecDepth 100000
open Go.RowKit

theorem range_bad (t : Value) (lo hi : Value) (n : Int) (w : World) (h0 : numB n = false) :
    Calls Try.prog 36 #[t, lo, hi, .int .i64 n] w fun e w' => e = .returned (.tuple #[.slice none 0 0, .iface 61 (.int .i64 1)]) ∧ w' = w := by
  have hnum := number_any n w
  rw [h0] at hnum
  have HN := Lib.hid hnum
  clear hnum
  go_enter Try.func36, Try.ntmps36
  go_wp2_with fail
  refine HN.out.mono ?_
  rintro e w1 ⟨rfl, rfl⟩
  go_wp2
  go_ret2
  exact ⟨rfl, rfl⟩
theorem Below.drewN' {B : Nat} {a w : World} (h : Below B a w) {n : Nat} : Below B a (w.drewN n) := ⟨h.os, h.tape, h.output, h.size, h.block⟩
theorem TblAt.drew {w : World} {S : Nat → Prop} {t m : Nat} {F : List UInt8 → List Ver} {top : Int} (h : TblAt w S t F top m) : TblAt w.drew S t F top m :=
  h.far (T := fun _ => False) ((Fr.refl _ _).drew) (fun _ _ q => q)
/-- One call more on a table of the law's own. -/
theorem tbl_step {w wr w' : World} {t m : Nat} {F : List UInt8 → List Ver} {top : Int} (hb : Below w.heap.size w wr) (hf : Fr (fun g => w.heap.size ≤ g) wr w') (hT : TblAt w' (plus (fun g => w.heap.size ≤ g) wr) t F top m) :
    TblAt w' (fun g => w.heap.size ≤ g) t F top m ∧ Below w.heap.size w w' :=
  ⟨hT.mono (fun g hg => by have := hb.size; rcases hg with hg | hg <;> omega), hb.trans (hf.below hb.size (fun _ h => h))⟩
theorem tell_some {F : List UInt8 → List Ver} {top : Int} {m : Nat} (hg : Good F top m) {s v : List UInt8} {n : Int} (h : tell F s n = some v) : s.length ≤ 24 ∧ s ≠ [] := by
  by_cases e : F s = []
  · rw [tell_nil e] at h; cases h
  · exact ⟨(hg.key s e).2, (hg.key s e).1⟩
theorem fnd_none {l : List Ver} {n : Int} (h : ∀ v ∈ l, n < v.n) : ∀ m, m ≤ l.length → fnd l n m = 0
  | 0, _ => rfl
  | m + 1, hm => by
    rw [fnd_step (by omega), if_pos (h _ (List.getElem_mem _))]
    exact fnd_none h m (by omega)
theorem tell_nought {F : List UInt8 → List Ver} {top : Int} {m : Nat} (hg : Good F top m) (s : List UInt8) : tell F s 0 = none :=
  tell_zero (fnd_none (fun v hv => by have := hg.num s v hv; omega) _ (Nat.le_refl _))
theorem RangeIs.nought {F : List UInt8 → List Ver} {top : Int} {m : Nat} (hg : Good F top m) {lo hi : List UInt8} {L : List KV} (h : RangeIs F lo hi 0 L) : L = [] := by
  cases L with
  | nil => rfl
  | cons p L =>
    have := ((h.mem p.1 p.2).1 (by simp)).2
    rw [tell_nought hg] at this
    cases this
theorem numB_of {n : Int} (h : 0 ≤ n ∧ n ≤ 1000000) : numB n = true := by simp [numB, h]
end Go.Proofs.Ytfklhjkgogncdaa

/- How many versions there are; what is forgotten: plain mathematics. No conditions. -/
namespace Go.Proofs.Ytfklhjkgogncdaa
set_option linter.unusedVariables false
set_option linter.unusedSimpArgs false
open Go.RowKit

/-- There are N versions in all. -/
def Count (F : List UInt8 → List Ver) (N : Nat) : Prop := ∃ ks : List (List UInt8), ks.Nodup ∧ (∀ s, F s ≠ [] → s ∈ ks) ∧ N = (ks.map (fun s => (F s).length)).sum
theorem sum_filter (F : List UInt8 → List Ver) : ∀ ks : List (List UInt8), ((ks.filter (fun s => !(F s).isEmpty)).map (fun s => (F s).length)).sum = (ks.map (fun s => (F s).length)).sum
  | [] => rfl
  | s :: ks => by
    have ih := sum_filter F ks
    cases h : F s with
    | nil => rw [List.filter_cons_of_neg (by simp [h]), List.map_cons, List.sum_cons, ih]; simp [h]
    | cons a l => rw [List.filter_cons_of_pos (by simp [h]), List.map_cons, List.sum_cons, ih, List.map_cons, List.sum_cons]
theorem Count.unique {F : List UInt8 → List Ver} {N M : Nat} (h : Count F N) (h' : Count F M) : N = M := by
  obtain ⟨ks, h1, h2, rfl⟩ := h
  obtain ⟨ls, h3, h4, rfl⟩ := h'
  rw [← sum_filter F ks, ← sum_filter F ls]
  have hp : (ks.filter (fun s => !(F s).isEmpty)).Perm (ls.filter (fun s => !(F s).isEmpty)) := by
    rw [List.perm_ext_iff_of_nodup (h1.filter _) (h3.filter _)]
    intro s
    simp only [List.mem_filter, Bool.not_eq_true', List.isEmpty_eq_false_iff]
    exact ⟨fun ⟨_, h⟩ => ⟨h4 s h, h⟩, fun ⟨_, h⟩ => ⟨h2 s h, h⟩⟩
  exact (hp.map _).sum_nat
theorem Count.new : Count (fun _ => []) 0 := ⟨[], by simp, fun s h => absurd rfl h, rfl⟩
theorem sum_upd {F : List UInt8 → List Ver} {s : List UInt8} {L : List Ver} : ∀ {ks : List (List UInt8)}, ks.Nodup → s ∉ ks → (ks.map (fun x => (upd F s L x).length)).sum = (ks.map (fun x => (F x).length)).sum
  | [], _, _ => rfl
  | x :: ks, hn, hs => by
    rw [List.nodup_cons] at hn
    simp only [List.mem_cons, not_or] at hs
    rw [List.map_cons, List.sum_cons, List.map_cons, List.sum_cons, sum_upd hn.2 hs.2, upd_other F L (fun e => hs.1 e.symm)]
theorem Count.upd {F : List UInt8 → List Ver} {N : Nat} (h : Count F N) (s : List UInt8) (L : List Ver) : ∃ M, Count (upd F s L) M ∧ M + (F s).length = N + L.length := by
  obtain ⟨ks, h1, h2, rfl⟩ := h
  have key : ∃ ls : List (List UInt8), ls.Nodup ∧ s ∉ ls ∧ (∀ x, F x ≠ [] → x = s ∨ x ∈ ls) ∧ (ks.map (fun x => (F x).length)).sum = (F s).length + (ls.map (fun x => (F x).length)).sum := by
    by_cases hs : s ∈ ks
    · refine ⟨ks.erase s, h1.erase s, fun h => by rw [h1.mem_erase_iff] at h; exact h.1 rfl, fun x hx => ?_, ?_⟩
      · by_cases e : x = s
        · exact .inl e
        · exact .inr (by rw [h1.mem_erase_iff]; exact ⟨e, h2 x hx⟩)
      · have := ((List.perm_cons_erase hs).map (fun x => (F x).length)).sum_nat
        rw [this, List.map_cons, List.sum_cons]
    · refine ⟨ks, h1, hs, fun x hx => .inr (h2 x hx), ?_⟩
      have : F s = [] := by
        cases e : F s with
        | nil => rfl
        | cons a l => exact absurd (h2 s (by rw [e]; simp)) hs
      rw [this]
      simp
  obtain ⟨ls, k1, k2, k3, k4⟩ := key
  refine ⟨L.length + (ls.map (fun x => (F x).length)).sum, ⟨s :: ls, List.nodup_cons.2 ⟨k2, k1⟩, fun x hx => ?_, ?_⟩, by rw [k4]; omega⟩
  · by_cases e : x = s
    · exact e ▸ List.mem_cons_self
    · rw [upd_other _ _ e] at hx
      rcases k3 x hx with h | h
      · exact absurd h e
      · exact List.mem_cons_of_mem _ h
  · rw [List.map_cons, List.sum_cons, upd_same, sum_upd k1 k2]

/-- What stays of a key's versions. -/
def colL (l : List Ver) (n : Int) : List Ver := match fnd l n l.length with
  | 0 => l
  | k + 1 => match l[k]? with
    | some v => if v.gone then l.drop (k + 1) else l.drop k
    | none => l
def colF (F : List UInt8 → List Ver) (n : Int) : List UInt8 → List Ver := fun s => colL (F s) n
theorem colL_zero {l : List Ver} {n : Int} (h : fnd l n l.length = 0) : colL l n = l := by simp [colL, h]
theorem colL_gone {l : List Ver} {n : Int} {k : Nat} (h : fnd l n l.length = k + 1) (hk : k < l.length) (hg : l[k].gone = true) : colL l n = l.drop (k + 1) := by
  simp only [colL, h, List.getElem?_eq_getElem hk, hg, if_true]
theorem colL_here {l : List Ver} {n : Int} {k : Nat} (h : fnd l n l.length = k + 1) (hk : k < l.length) (hg : l[k].gone = false) : colL l n = l.drop k := by
  simp only [colL, h, List.getElem?_eq_getElem hk, hg, Bool.false_eq_true, if_false]
theorem colL_sub (l : List Ver) (n : Int) : (colL l n).Sublist l := by
  unfold colL
  split
  · exact List.Sublist.refl _
  · split
    · split
      · exact List.drop_sublist _ _
      · exact List.drop_sublist _ _
    · exact List.Sublist.refl _
theorem colL_nil (n : Int) : colL [] n = [] := by simp [colL, fnd]
theorem Good.col {F : List UInt8 → List Ver} {top : Int} {m : Nat} (h : Good F top m) (n : Int) : Good (colF F n) top m :=
  ⟨fun s => Nat.le_trans (colL_sub _ _).length_le (h.len s), fun s v hv => h.num s v ((colL_sub _ _).subset hv), fun s hs => h.key s (fun e => hs (by unfold colF; rw [e, colL_nil])), fun s => (h.rise s).sublist (colL_sub _ _), h.top0⟩
end Go.Proofs.Ytfklhjkgogncdaa

/- Contracts of Top, Size. -/
namespace Go.Proofs.Ytfklhjkgogncdaa
set_option linter.unusedVariables false
set_option linter.unusedSimpArgs false
set_option maxRecDepth 100000
open Go.RowKit

/-- Has a key a version behind a number? -/
def lastB (l : List Ver) (n : Int) : Bool := match l.getLast? with
  | some v => decide (n < v.n)
  | none => false
theorem lastB_nil (n : Int) : lastB [] n = false := rfl
theorem lastB_at {l : List Ver} (h : 0 < l.length) (n : Int) : lastB l n = decide (n < l[l.length - 1].n) := by
  unfold lastB
  rw [List.getLast?_eq_getElem?, List.getElem?_eq_getElem (by omega)]
/-- Length of a slice. -/
def lenV : Value → Nat
  | .slice _ n _ => n
  | _ => 0
def untxt : Value → List UInt8
  | .string ⟨a⟩ => a.toList
  | _ => []
theorem untxt_txt (s : List UInt8) : untxt (txt s) = s := by simp [untxt, txt]
def sumE (l : List MapEntry) : Nat := (l.map (fun x => lenV x.val)).sum
theorem sumE_perm {l : List MapEntry} {e : MapEntry} {r : List MapEntry} (h : List.Perm l (e :: r)) : sumE l = lenV e.val + sumE r := by
  unfold sumE
  rw [(h.map _).sum_nat, List.map_cons, List.sum_cons]
theorem lenV_row {w : World} {base size n : Nat} {e : TypeId} {v : Value} {xs : List Value} (h : w.ownsRow base e size v n xs) : lenV v = n := by
  rcases h.2 with ⟨rfl, h4⟩ | ⟨g2, cap, cur, rfl, _⟩
  · exact h4.symm
  · rfl
theorem TabAt.count {w : World} {P : Program} {k vt : TypeId} {S : Nat → Prop} {b : Nat} {es : Array MapEntry} {clock : Nat} {F : List UInt8 → List Ver} (h : TabAt w P k vt S b es clock F) : Count F (sumE es.toList) := by
  refine ⟨es.toList.map (fun x => untxt x.key), ?_, fun s hs => ?_, ?_⟩
  · unfold List.Nodup
    have hn := h.map.stamped.2.2
    unfold List.Nodup at hn
    rw [List.pairwise_map] at hn ⊢
    refine hn.imp_of_mem (fun {x y} hx hy hxy e => hxy ?_)
    obtain ⟨s1, e1⟩ := h.keys x hx
    obtain ⟨s2, e2⟩ := h.keys y hy
    rw [e1, e2, untxt_txt, untxt_txt] at e
    rw [e1, e2, e]
  · obtain ⟨v, x, hx, hk, _⟩ := h.tells s hs
    exact List.mem_map.2 ⟨x, hx, by rw [hk, untxt_txt]⟩
  · unfold sumE
    rw [List.map_map]
    congr 1
    apply List.map_congr_left
    intro x hx
    obtain ⟨s1, e1⟩ := h.keys x hx
    have := (h.rows s1 x.val ⟨x, hx, e1, rfl⟩).2
    simp only [Function.comp, e1, untxt_txt]
    exact lenV_row this
theorem sum_le {c : Nat} : ∀ {l : List MapEntry}, (∀ x ∈ l, lenV x.val ≤ c) → sumE l ≤ l.length * c
  | [], _ => Nat.zero_le _
  | x :: l, h => by
    have := sum_le (fun y hy => h y (List.mem_cons_of_mem _ hy))
    have h1 := h x List.mem_cons_self
    unfold sumE at this ⊢
    rw [List.map_cons, List.sum_cons, List.length_cons, Nat.add_mul]
    omega
theorem TabAt.sum_le {w : World} {P : Program} {k vt : TypeId} {S : Nat → Prop} {b : Nat} {es : Array MapEntry} {clock : Nat} {F : List UInt8 → List Ver} {top : Int} {m : Nat} (h : TabAt w P k vt S b es clock F) (hn : es.size ≤ m) (hg : Good F top m) (hm : m ≤ 1000000) : sumE es.toList ≤ 1000000000000 := by
  have h1 : sumE es.toList ≤ es.toList.length * m := Go.Proofs.Ytfklhjkgogncdaa.sum_le (fun x hx => by
    obtain ⟨s1, e1⟩ := h.keys x hx
    rw [lenV_row (h.rows s1 x.val ⟨x, hx, e1, rfl⟩).2]
    exact hg.len s1)
  have h2 : es.toList.length * m ≤ 1000000 * 1000000 := Nat.mul_le_mul (by simp; omega) hm
  omega

theorem Size_any (t : Nat) (F : List UInt8 → List Ver) (top : Int) (m : Nat) (hm : m ≤ 1000000) (S : Nat → Prop) (w : World) (hT : TblAt w S t F top m) :
    Calls Try.prog 45 #[.pointer (some ⟨t, 0, none⟩)] w fun e w' => ∃ N : Nat, e = .returned (.int .i64 N) ∧ Count F N ∧ N ≤ 1000000000000 ∧ Below w.heap.size w w' := by
  obtain ⟨⟨b, es, clock, hB, hM, hn⟩, ht, hg⟩ := hT
  have hx := hB.cell 0
  simp at hx
  have hblt := hM.map.lt
  have hsum := hM.sum_le hn hg hm
  go_enter Try.func45, Try.ntmps45
  go_wp2_with (first | (at_range; refine at_rng _ rfl _ _ rfl 9 113 Try.underlying97 rfl hM.map ?_; intro w2 hR2 hM2 hg2 hs2; go_frame))
  have hb2 : Below w.heap.size w w2 := (Below.refl _ _).grown hg2 (Nat.le_refl _) (fun k hk => by cases hk)
  generalize hH : w.heap.size = H at *
  go_loopw [3] (fun o wr => ∃ (left : List MapEntry) (j : Nat), o = .int .i64 j ∧ j + sumE left = sumE es.toList ∧ RangeAt wr b H es clock left ∧ Below H w wr ∧ H + 1 ≤ wr.heap.size)
    (fun _ wr => leftN wr b H)
  case atStart => exact ⟨es.toList, 0, rfl, by omega, hR2, hb2, by omega⟩
  case round =>
    obtain ⟨left, j, rfl, hj, hR, hb, hsz⟩ := hrel
    have hM3 : TabAt wr Try.prog 9 116 S b es clock F := hM.below (by rw [hH]; exact hb)
    have HLN := Lib.hid (hR.left_eq hM3.map)
    rcases hR.next hM3.map (by omega) 0 with ⟨h0, hrun⟩ | ⟨⟨ek, ev, eb⟩, left', w', h1, h2, hrun, h3, h4, h5, h6, h7, h8⟩
    · subst h0
      have HJ := Lib.hid (show j = sumE es.toList by simpa [sumE] using hj)
      clear hj hM3
      go_wp2
      go_ret
      exact ⟨_, rfl, by rw [HJ.out]; exact hM.count, by have := HJ.out; omega, by rw [hH]; exact hb⟩
    · obtain ⟨s, hs⟩ := hM.keys _ (hR.sub _ h1)
      have hhas : Has es (txt s) ev := ⟨_, hR.sub _ h1, hs, rfl⟩
      simp only at hs h7 h8 hrun
      subst hs
      obtain ⟨A, c, rfl, _⟩ := own_form (hM3.rows s ev hhas).2
      have hb' : Below H w w' := hb.grown h5 (by omega) (fun k hk => by injection hk with hk; omega)
      have h6' : H + 1 ≤ w'.heap.size := by omega
      have hpe := sumE_perm h2
      simp only [lenV] at hpe
      have HJ := Lib.hid (show j + (F s).length + sumE left' = sumE es.toList by omega)
      have hlen := hg.len s
      have hjb : (j : Int) + ((F s).length : Int) ≤ 1000000000000 := by omega
      clear h6 hpe hj hM3
      go_wp2
      go_roundw
      case rel => exact ⟨left', j + (F s).length, by go_num, HJ.out, h3, hb', h6'⟩
      case measure => rw [h3.left_eq h4, HLN.out, h2.length_eq]; simp
end Go.Proofs.Ytfklhjkgogncdaa

/- Contract of Touched. -/
namespace Go.Proofs.Ytfklhjkgogncdaa
set_option linter.unusedVariables false
set_option linter.unusedSimpArgs false
set_option maxRecDepth 100000
open Go.RowKit

/-- Is there a version behind a number? -/
def Touch (F : List UInt8 → List Ver) (lo hi : List UInt8) (n : Int) : Prop := ∃ s, inB lo hi s = true ∧ lastB (F s) n = true
def TouchIs (F : List UInt8 → List Ver) (lo hi : List UInt8) (n : Int) (r : Bool) : Prop := r = true ↔ Touch F lo hi n
/-- Whoever is touched is still to come. -/
def TchRel (F : List UInt8 → List Ver) (lo hi : List UInt8) (n : Int) (left : List MapEntry) : Prop := ∀ s, inB lo hi s = true → lastB (F s) n = true → ∃ x ∈ left, x.key = txt s
theorem TchRel.skip {F : List UInt8 → List Ver} {lo hi : List UInt8} {n : Int} {left left' : List MapEntry} (h : TchRel F lo hi n left) {e : MapEntry} {s : List UInt8} (hp : List.Perm left (e :: left')) (hs : e.key = txt s) (hno : inB lo hi s = true → lastB (F s) n = false) : TchRel F lo hi n left' := by
  intro s' h1 h2
  obtain ⟨x, hx, hk⟩ := h s' h1 h2
  rcases List.mem_cons.1 (hp.mem_iff.1 hx) with rfl | hx
  · rw [hs] at hk
    have := txt_inj hk
    subst this
    rw [hno h1] at h2
    cases h2
  · exact ⟨x, hx, hk⟩

theorem touched_ok (t : Nat) (F : List UInt8 → List Ver) (top : Int) (m : Nat) (hm : m ≤ 1000000) (S : Nat → Prop) (lo hi : List UInt8) (n : Int) (w : World) (hT : TblAt w S t F top m) (h0 : numB n = true) :
    Calls Try.prog 47 #[.pointer (some ⟨t, 0, none⟩), txt lo, txt hi, .int .i64 n] w fun e w' => ∃ r, e = .returned (.tuple #[.bool r, .nilIface]) ∧ TouchIs F lo hi n r ∧ Below w.heap.size w w' := by
  obtain ⟨⟨b, es, clock, hB, hM, hn⟩, ht, hg⟩ := hT
  have hx := hB.cell 0
  simp at hx
  have hnum := number_any n w
  rw [h0] at hnum
  have HN := Lib.hid hnum
  clear hnum
  go_enter Try.func47, Try.ntmps47
  go_wp2_with fail
  refine HN.out.mono ?_
  rintro e w1 ⟨rfl, rfl⟩
  have hblt := hM.map.lt
  go_wp2_with (first | (at_range; refine at_rng _ rfl _ _ rfl 9 113 Try.underlying97 rfl hM.map ?_; intro w2 hR2 hM2 hg2 hs2; go_frame))
  have hb2 : Below w1.heap.size w1 w2 := (Below.refl _ _).grown hg2 (Nat.le_refl _) (fun k hk => by cases hk)
  generalize hH : w1.heap.size = H at *
  go_loopw [10] (fun _ wr => ∃ (left : List MapEntry), RangeAt wr b H es clock left ∧ Below H w1 wr ∧ TchRel F lo hi n left ∧ H + 1 ≤ wr.heap.size)
    (fun _ wr => leftN wr b H)
  case atStart =>
    refine ⟨es.toList, hR2, hb2, fun s h1 h2 => ?_, by omega⟩
    have hne : F s ≠ [] := fun e => by rw [e] at h2; cases h2
    obtain ⟨v, x, hx, hk, _⟩ := hM.tells s hne
    exact ⟨x, hx, hk⟩
  case round =>
    obtain ⟨left, hR, hb, hrel, hsz⟩ := hrel
    have hM3 : TabAt wr Try.prog 9 116 S b es clock F := hM.below (by rw [hH]; exact hb)
    have HLN := Lib.hid (hR.left_eq hM3.map)
    rcases hR.next hM3.map (by omega) 0 with ⟨h0, hrun⟩ | ⟨⟨ek, ev, eb⟩, left', w', h1, h2, hrun, h3, h4, h5, h6, h7, h8⟩
    · subst h0
      have HS := Lib.hid (show TouchIs F lo hi n false from ⟨fun h => (by cases h), fun ⟨s, q1, q2⟩ => by obtain ⟨x, hx, _⟩ := hrel s q1 q2; simp at hx⟩)
      clear hM3 hrel
      go_wp2
      go_ret2
      exact ⟨false, rfl, HS.out, by rw [hH]; exact hb⟩
    · obtain ⟨s, hs⟩ := hM.keys _ (hR.sub _ h1)
      have hhas : Has es (txt s) ev := ⟨_, hR.sub _ h1, hs, rfl⟩
      simp only at hs h7 h8 hrun
      subst hs
      have hb' : Below H w1 w' := hb.grown h5 (by omega) (fun k hk => by injection hk with hk; omega)
      have h6' : H + 1 ≤ w'.heap.size := by omega
      clear h6
      obtain ⟨hne, hrow⟩ := hM3.rows s ev hhas
      have hrow' := own_below (hM.rows s ev hhas).2 (by rw [hH]; exact hb')
      have hlen := hg.len s
      obtain ⟨A, c, rfl, hrd⟩ := own_form hrow'
      have hl0 : 0 < (F s).length := List.length_pos_iff.2 hne
      obtain ⟨g, off, rfl, hgb, c0, c1, c2⟩ := hrd.ver (show (F s).length - 1 < (F s).length by omega)
      have hF := Lib.hid (lastB_at hl0 n)
      have hz1 : ((F s).length : Int) - 1 = (((F s).length - 1 : Nat) : Int) := by omega
      have hlI : (0 : Int) < ((F s).length : Int) := by omega
      have hLO := Lib.hid (lessB_eq' s lo)
      have hHI := Lib.hid (lessB_eq' s hi)
      have hrel_skip := hrel.skip (s := s) h2 rfl
      clear hrow hrow' hrd
      rcases hlo : Op.bytesLess s lo with _ | _
      · rcases hhi : Op.bytesLess s hi with _ | _
        · have HS := Lib.hid (hrel_skip (fun h => by have := hHI.out; rw [hhi] at this; simp [inB, ← this] at h))
          clear hrel_skip hrel hM hM3
          go_wp2
          go_roundw
          case rel => exact ⟨left', h3, hb', HS.out, h6'⟩
          case measure => rw [h3.left_eq h4, HLN.out, h2.length_eq]; simp
        · have hin : Hid (inB lo hi s = true) := Lib.hid (by
            have q1 := hLO.out
            have q2 := hHI.out
            rw [hlo] at q1
            rw [hhi] at q2
            simp [inB, ← q1, ← q2])
          by_cases hlt : n < (F s)[(F s).length - 1].n
          · have HS := Lib.hid (show TouchIs F lo hi n true from ⟨fun _ => ⟨s, hin.out, by rw [hF.out]; exact decide_eq_true hlt⟩, fun _ => rfl⟩)
            clear hrel_skip hrel hM hM3
            go_wp2
            go_ret2
            exact ⟨true, rfl, HS.out, by rw [hH]; exact hb'⟩
          · have HS := Lib.hid (hrel_skip (fun _ => by rw [hF.out]; exact decide_eq_false hlt))
            clear hrel_skip hrel hM hM3
            go_wp2
            go_roundw
            case rel => exact ⟨left', h3, hb', HS.out, h6'⟩
            case measure => rw [h3.left_eq h4, HLN.out, h2.length_eq]; simp
      · have HS := Lib.hid (hrel_skip (fun h => by have := hLO.out; rw [hlo] at this; simp [inB, ← this] at h))
        clear hrel_skip hrel hM hM3
        go_wp2
        go_roundw
        case rel => exact ⟨left', h3, hb', HS.out, h6'⟩
        case measure => rw [h3.left_eq h4, HLN.out, h2.length_eq]; simp

theorem touched_bad (t : Value) (lo hi : Value) (n : Int) (w : World) (h0 : numB n = false) :
    Calls Try.prog 47 #[t, lo, hi, .int .i64 n] w fun e w' => e = .returned (.tuple #[.bool false, .iface 61 (.int .i64 1)]) ∧ w' = w := by
  have hnum := number_any n w
  rw [h0] at hnum
  have HN := Lib.hid hnum
  clear hnum
  go_enter Try.func47, Try.ntmps47
  go_wp2_with fail
  refine HN.out.mono ?_
  rintro e w1 ⟨rfl, rfl⟩
  go_wp2
  go_ret2
  exact ⟨rfl, rfl⟩
end Go.Proofs.Ytfklhjkgogncdaa

/- Contract of Collect. -/
namespace Go.Proofs.Ytfklhjkgogncdaa
set_option linter.unusedVariables false
set_option linter.unusedSimpArgs false
set_option maxRecDepth 100000
open Go.RowKit
open Go.ChangeMaps (setBlock)

theorem cellsV_drop : ∀ (l : List Ver) (k : Nat), cellsV (l.drop k) = (cellsV l).drop (k * 3)
  | l, 0 => by simp
  | [], k + 1 => by simp [cellsV]
  | c :: l, k + 1 => by
    rw [List.drop_succ_cons, cellsV_drop l k, show (k + 1) * 3 = k * 3 + 1 + 1 + 1 by omega]
    simp [cellsV]
theorem Rd.verDrop {w : World} {B : Nat} {b off : Nat} {l : List Ver} (h : Rd w B (some ⟨b, off, none⟩) (cellsV l)) (k : Nat) : Rd w B (some ⟨b, off + k * 3, none⟩) (cellsV (l.drop k)) := fun hn => by
  obtain ⟨b', off', e, hb, hc⟩ := h (fun h => hn (by rw [cellsV_drop, h]; simp))
  injection e with e
  injection e with e1 e2
  subst e1
  subst e2
  refine ⟨b, off + k * 3, rfl, hb, fun j u hu => ?_⟩
  rw [cellsV_drop, List.getElem?_drop] at hu
  rw [show off + k * 3 + j = off + (k * 3 + j) by omega]
  exact hc _ _ hu
theorem cloneV_any (ad : Addr) (l : List Ver) (n c : Nat) (hnl : n = l.length) (hlen : l.length ≤ 1000000) (w : World) (hl : Rd w w.heap.size (some ad) (cellsV l)) :
    Calls Try.prog 67 #[.slice (some ad) n c] w fun e w' => ∃ v, e = .returned v ∧ w'.ownsRow w.heap.size 116 3 v l.length (cellsV l) ∧ Below w.heap.size w w' := by
  subst hnl
  have hl2 := hl.alloc (Nat.le_refl _) (.cells #[] 116)
  have hm := World.ownsRow_made (base := w.heap.size) (e := 116) (size := 3) w #[] 0 (Nat.le_refl _) (by decide) rfl
  have hb0 := (Below.refl w.heap.size w).alloc (Nat.le_refl _) (.cells #[] 116)
  have q22 : ∀ (w : World) (a : Option Addr) (n c n' c' : Nat), (binOp .eql 113 (.slice a n c) (.slice none n' c')).run Try.prog w = .ok (.bool a.isNone) w := fun w a n c n' c' => Lib.run_eql_slice_nil w _ _ a n c n' c' Try.underlying113
  go_enter Try.func67, Try.ntmps67
  go_wp2_with (at_builtin; refine wpList_append_rd rfl (.tmp 5) (.tmp 6) 113 rfl 116 Try.underlying113 _ 3 32 infoVer rfl (by decide) w.heap.size _ 0 [] rfl hm w.heap.size (some ad) l.length c _ rfl (by rw [cellsV_length]) hl2 (cellsV_one l) (by unfold maxLen; omega) (by omega) (by simp) ?_; intro v5 w5 hown5 hb5)
  go_ret
  rw [Nat.zero_add, List.nil_append] at hown5
  exact ⟨_, rfl, hown5, hb0.trans hb5⟩

theorem Below.grownBy {w w' : World} (h : Below w.heap.size w w') : w.grownBy w' none := ⟨h.os, h.tape, h.output, h.size, fun i hi _ => h.block i hi⟩
theorem row_not_iter {w : World} {base size n b r : Nat} {vt : TypeId} {v : Value} {xs : List Value} {es : Array MapEntry} {clock : Nat} {left : List MapEntry} (h : w.ownsRow base vt size v n xs) (m : RangeAt w b r es clock left) : v.ownBlock ≠ some r := by
  intro e
  obtain ⟨_, _, _, hb, _⟩ := m
  rcases h.2 with ⟨rfl, _⟩ | ⟨g, cap, cur, rfl, _, hh, _⟩
  · cases e
  · simp [Value.ownBlock] at e
    subst e
    rw [hb] at hh
    cases hh
theorem map_not_iter {P : Program} {k : TypeId} {w : World} {b r : Nat} {es es' : Array MapEntry} {clock clock' : Nat} {left : List MapEntry} (h : MapAt w P k b es' clock') (m : RangeAt w b r es clock left) : b ≠ r := by
  intro e
  obtain ⟨_, _, _, hb, _⟩ := m
  rw [← e, h.hb] at hb
  cases hb
theorem TabAt.iter {P : Program} {k vt : TypeId} {S : Nat → Prop} {b r : Nat} {es : Array MapEntry} {clock : Nat} {w w' : World} {F : List UInt8 → List Ver} {left : List MapEntry} (h : TabAt w P k vt S b es clock F) (m : RangeAt w b r es clock left) (hg : w.grownBy w' (some r)) : TabAt w' P k vt S b es clock F :=
  h.keep (hg.block b h.map.lt (fun e => by injection e with e; exact map_not_iter h.map m e)) (fun s v g q e => hg.block g (h.row_lt q e) (fun e2 => row_not_iter (h.rows s v q).2 m (by rw [e, e2])))

/-- Of the keys that are still to come nothing was forgotten yet, of the others what nobody sees. -/
structure ColRel (F F' : List UInt8 → List Ver) (n : Int) (left : List MapEntry) (N0 j : Nat) : Prop where
  old : ∀ s, (∃ x ∈ left, x.key = txt s) → F' s = F s
  new : ∀ s, (∀ x ∈ left, x.key ≠ txt s) → F' s = colL (F s) n
  count : ∃ N, Count F' N ∧ j + N = N0
theorem ColRel.start {F : List UInt8 → List Ver} {n : Int} {es : Array MapEntry} {N0 : Nat} (ht : ∀ s, F s ≠ [] → ∃ v, Has es (txt s) v) (hc : Count F N0) : ColRel F F n es.toList N0 0 := by
  refine ⟨fun s _ => rfl, fun s h => ?_, N0, hc, by omega⟩
  by_cases e : F s = []
  · rw [e, colL_nil]
  · obtain ⟨v, x, hx, hk, _⟩ := ht s e
    exact absurd hk (h x hx)
section
variable {F F' : List UInt8 → List Ver} {n : Int} {left left' : List MapEntry} {N0 j : Nat} {e : MapEntry} {s : List UInt8}
theorem ColRel.here (h : ColRel F F' n left N0 j) (hp : List.Perm left (e :: left')) (hs : e.key = txt s) : F' s = F s := h.old s ⟨e, hp.mem_iff.2 List.mem_cons_self, hs⟩
theorem ColRel.skip (h : ColRel F F' n left N0 j) (hp : List.Perm left (e :: left')) (hs : e.key = txt s) (hl : ∀ x ∈ left', x.key ≠ e.key) (hk : colL (F s) n = F s) : ColRel F F' n left' N0 j := by
  refine ⟨fun x ⟨y, hy, hyk⟩ => h.old x ⟨y, hp.mem_iff.2 (List.mem_cons_of_mem _ hy), hyk⟩, fun x hx => ?_, h.count⟩
  by_cases ex : x = s
  · subst ex
    rw [hk]
    exact h.here hp hs
  · refine h.new x (fun y hy => ?_)
    rcases List.mem_cons.1 (hp.mem_iff.1 hy) with rfl | hy
    · rw [hs]
      exact fun e2 => ex (txt_inj e2).symm
    · exact hx y hy
theorem ColRel.turn (h : ColRel F F' n left N0 j) (hp : List.Perm left (e :: left')) (hs : e.key = txt s) (hl : ∀ x ∈ left', x.key ≠ e.key) {kk : Nat} (hk : colL (F s) n = (F s).drop kk) (hkk : kk ≤ (F s).length) : ColRel F (upd F' s ((F s).drop kk)) n left' N0 (j + kk) := by
  have hF := h.here hp hs
  refine ⟨fun x ⟨y, hy, hyk⟩ => ?_, fun x hx => ?_, ?_⟩
  · have ex : x ≠ s := fun ex => hl y hy (by rw [hs, hyk, ex])
    rw [upd_other _ _ ex]
    exact h.old x ⟨y, hp.mem_iff.2 (List.mem_cons_of_mem _ hy), hyk⟩
  · by_cases ex : x = s
    · subst ex
      rw [upd_same, hk]
    · rw [upd_other _ _ ex]
      refine h.new x (fun y hy => ?_)
      rcases List.mem_cons.1 (hp.mem_iff.1 hy) with rfl | hy
      · rw [hs]
        exact fun e2 => ex (txt_inj e2).symm
      · exact hx y hy
  · obtain ⟨N, hc, hN⟩ := h.count
    obtain ⟨M, hM, hMl⟩ := hc.upd s ((F s).drop kk)
    rw [hF, List.length_drop] at hMl
    exact ⟨M, hM, by omega⟩
theorem ColRel.done (h : ColRel F F' n [] N0 j) : F' = colF F n := funext fun s => h.new s (fun x hx => by simp at hx)
theorem ColRel.le (h : ColRel F F' n left N0 j) : j ≤ N0 := by
  obtain ⟨N, _, hN⟩ := h.count
  omega
end
end Go.Proofs.Ytfklhjkgogncdaa

/- Contract of Collect: the walk. -/
namespace Go.Proofs.Ytfklhjkgogncdaa
set_option linter.unusedVariables false
set_option linter.unusedSimpArgs false
set_option maxRecDepth 100000
open Go.RowKit
open Go.ChangeMaps (setBlock)

theorem own_form3v {w : World} {base size n : Nat} {e : TypeId} {v : Value} {xs : List Value} (h : w.ownsRow base e size v n xs) : ∃ A c, v = .slice A n c ∧ n ≤ c ∧ (A = none → n = 0 ∧ c = 0) ∧ Rd w w.heap.size A xs := by
  rcases h.2 with ⟨h1, h2⟩ | ⟨g, cap, cur, hv, _, _, hc, _⟩
  · subst h2
    have hx : xs = [] := List.eq_nil_of_length_eq_zero (by simpa using h.1)
    subst hx
    exact ⟨none, 0, h1, Nat.le_refl _, fun _ => ⟨rfl, rfl⟩, Rd.nil⟩
  · exact ⟨_, cap, hv, hc, fun e => (by cases e), Rd.of_own (hv ▸ h)⟩
theorem nodup_le : ∀ {l m : List Nat}, l.Nodup → (∀ x ∈ l, x ∈ m) → l.length ≤ m.length
  | [], _, _, _ => Nat.zero_le _
  | x :: l, m, hn, hs => by
    rw [List.nodup_cons] at hn
    have hx := hs x List.mem_cons_self
    have := nodup_le (m := m.erase x) hn.2 (fun y hy => (List.mem_erase_of_ne (fun (e : y = x) => hn.1 (by rw [← e]; exact hy))).2 (hs y (List.mem_cons_of_mem _ hy)))
    rw [List.length_erase_of_mem hx] at this
    have := List.length_pos_of_mem hx
    rw [List.length_cons]
    omega
theorem size_born {es es' : Array MapEntry} (hn : (es'.toList.map (·.born)).Nodup) (h : ∀ x ∈ es'.toList, ∃ y ∈ es.toList, y.born = x.born) : es'.size ≤ es.size := by
  have := nodup_le (m := es.toList.map (·.born)) hn (fun x hx => by
    obtain ⟨a, ha, rfl⟩ := List.mem_map.1 hx
    obtain ⟨y, hy, e⟩ := h a ha
    exact List.mem_map.2 ⟨y, hy, e⟩)
  simpa using this
set_option maxHeartbeats 4000000 in
theorem collect_ok (t : Nat) (F : List UInt8 → List Ver) (top : Int) (m : Nat) (hm : m ≤ 1000000) (S : Nat → Prop) (n : Int) (w : World) (hT : TblAt w S t F top m) (h0 : numB n = true) :
    Calls Try.prog 44 #[.pointer (some ⟨t, 0, none⟩), .int .i64 n] w fun e w' => ∃ N j : Nat, e = .returned (.tuple #[.int .i64 j, .nilIface]) ∧ Count (colF F n) N ∧ Count F (j + N) ∧ Fr S w w' ∧ TblAt w' (plus S w) t (colF F n) top m := by
  obtain ⟨⟨b, es, clock, hB, hM, hn⟩, ht, hg⟩ := hT
  have hx := hB.cell 0
  simp at hx
  have hnum := number_any n w
  rw [h0] at hnum
  have HN := Lib.hid hnum
  clear hnum
  have hsum := hM.sum_le hn hg hm
  have hcnt := hM.count
  have hmb : t ≠ b := fun e => by
    have h1 := hM.map.hb
    rw [← e] at h1
    unfold Blk at hB
    rw [hB] at h1
    cases h1
  generalize hN0 : sumE es.toList = N0 at *
  clear hN0
  go_enter Try.func44, Try.ntmps44
  go_wp2_with fail
  refine HN.out.mono ?_
  rintro e w1 ⟨rfl, rfl⟩
  have hblt := hM.map.lt
  go_wp2_with (first | (at_range; refine at_rng _ rfl _ _ rfl 9 113 Try.underlying97 rfl hM.map ?_; intro w2 hR2 hM2 hg2 hs2; go_frame))
  have hb2 : Below w1.heap.size w1 w2 := (Below.refl _ _).grown hg2 (Nat.le_refl _) (fun k hk => by cases hk)
  have hf2 : Fr S w1 w2 := Fr.of_below hb2
  have hB2 := hB.below hb2 hB.lt
  have hMM2 := (hM.below hb2).mono (S' := plus S w1) plus.old
  generalize hH : w1.heap.size = H at *
  have htH : t < H := by rw [← hH]; exact hB.lt
  have HST := Lib.hid (ColRel.start (n := n) hM.tells hcnt)
  clear hb2 hg2 hM2
  go_loopw [6] (fun o wr => ∃ (es' : Array MapEntry) (clock' : Nat) (left : List MapEntry) (F' : List UInt8 → List Ver) (j : Nat), o = .int .i64 j ∧ ColRel F F' n left N0 j ∧ TabAt wr Try.prog 9 116 (plus S w1) b es' clock' F' ∧ es'.size ≤ m ∧
      RangeAt wr b H es' clock' left ∧ Fr S w1 wr ∧ Blk wr t 99 #[.map (some b), .int .i64 top] ∧ H + 1 ≤ wr.heap.size)
    (fun _ wr => leftN wr b H)
  case atStart => exact ⟨es, clock, es.toList, F, 0, rfl, HST.out, hMM2, hn, hR2, hf2, hB2, by omega⟩
  case round =>
    obtain ⟨es', clock', left, F', j, rfl, hcol, hM3, hn', hR, hf, hB3, hsz⟩ := hrel
    have hbr := map_not_iter hM3.map hR
    have HLN := Lib.hid (hR.left_eq hM3.map)
    have hjle := hcol.le
    rcases hR.next hM3.map hbr 0 with ⟨h0, hrun⟩ | ⟨⟨ek, ev, eb⟩, left', w', h1, h2, hrun, h3, h4, h5, h6, h7, h8⟩
    · subst h0
      have HD := Lib.hid hcol.done
      have HC := Lib.hid hcol.count
      have HM3 := Lib.hid hM3
      clear hcol hM3 hR
      go_wp2
      go_ret2
      obtain ⟨N, hN1, hN2⟩ := HC.out
      exact ⟨N, j, rfl, by rw [← HD.out]; exact hN1, by rw [hN2]; exact hcnt, hf, ⟨b, es', clock', hB3, by rw [← HD.out]; exact HM3.out, hn'⟩, .inl ht, hg.col n⟩
    · obtain ⟨s, hs⟩ := hM3.keys _ (hR.sub _ h1)
      have hhas : Has es' (txt s) ev := ⟨_, hR.sub _ h1, hs, rfl⟩
      simp only at hs h7 h8 hrun
      subst hs
      have hM4 := hM3.iter hR h5
      have hB4 := hB3.grown h5 (fun e => by injection e with e; omega)
      have hf4 := hf.grown h5 (fun q hq hlt => by injection hq with hq; omega)
      have h6' : H + 1 ≤ w'.heap.size := by omega
      have hFs := hcol.here h2 rfl
      have hrow' := (hM4.rows s ev hhas).2
      rw [hFs] at hrow'
      clear h6 h5 hf
      have hlen := hg.len s
      obtain ⟨kl, hkl⟩ := hM4.map.keys _ (hR.sub _ h1)
      simp only at hkl
      have x0 := hB4.cell 0
      simp at x0
      obtain ⟨A, c, rfl, hc, hA, hrd⟩ := own_form3v hrow'
      have hf := find_any A (F s) c n (by omega) w' hrd
      generalize hk : fnd (F s) n (F s).length = k at hf
      have hkle := fnd_le (F s) n (F s).length
      rw [hk] at hkle
      have HK := Lib.hid hk
      clear hk
      cases k with
      | zero =>
        have HF := Lib.hid hf
        have HCol := Lib.hid (hcol.skip (s := s) h2 rfl h7 (colL_zero HK.out))
        clear hf hcol hM3 hrow' hrd
        go_wp2_with fail
        refine HF.out.mono ?_
        rintro e w3 ⟨rfl, rfl⟩
        go_wp2
        go_roundw
        case rel => exact ⟨es', clock', left', F', j, rfl, HCol.out, hM4, hn', h3, hf4, hB4, h6'⟩
        case measure => rw [h3.left_eq h4, HLN.out, h2.length_eq]; simp
      | succ k =>
        have hkl' : k < (F s).length := by omega
        obtain ⟨g, off, rfl, hgb, c0, c1, c2⟩ := hrd.ver hkl'
        have e0 : (((k + 1 : Nat) : Int) - 1) = (k : Int) := by omega
        rw [e0] at hf
        have HF := Lib.hid hf
        clear hf e0
        by_cases hgone : (F s)[k].gone = true
        · rw [hgone] at c2
          have HCL0 := Lib.hid (colL_gone HK.out hkl' hgone)
          obtain ⟨kk, hkk⟩ : ∃ kk : Nat, (k : Int) + 1 = (kk : Int) := ⟨k + 1, rfl⟩
          have HCL : Hid (colL (F s) n = (F s).drop kk) := Lib.hid (by rw [HCL0.out]; congr 1; omega)
          have hkk2 : kk ≤ (F s).length := by omega
          by_cases hend : kk = (F s).length
          · have HCol := Lib.hid (hcol.turn (s := s) h2 rfl h7 HCL.out (by omega))
            have hj2 : (j : Int) + (kk : Int) ≤ 1000000000000 := by have := HCol.out.le; omega
            have hdn : (F s).drop kk = [] := by rw [hend]; simp
            rw [hdn] at HCol
            have hI5 : ((kk : Int) == ((F s).length : Int)) = true := by rw [beq_iff_eq]; omega
            obtain ⟨es2, hrunB, hmB, hasB, hsubB, hfiltB⟩ := hM4.map.drop strKey Try.underlying97 (ty := 0) hkl
            have hgrowB := grown_setBlock (o := .map es2 clock') hM4.map
            have hRB := h3.turn (key := txt s) (hgrowB.block H h3.lt (fun e => by injection e with e; exact hbr e.symm)) (fun x hx => ⟨x, hsubB.subset hx, rfl⟩) (fun p hp => hfiltB (fun x => p x.born) hp) h7
            have hBB := hB4.grown hgrowB (by intro e; injection e with e; exact hmb e)
            have hsB : es2.size ≤ m := by have := hsubB.length_le; simp only [Array.length_toList] at this; omega
            have hTB := hM4.drop hmB hgrowB hasB
            have hfB := hf4.grown hgrowB (fun q hq hlt => by injection hq with hq; subst hq; exact hM4.hb.elim id (fun h => by omega))
            have hszB : H + 1 ≤ (setBlock w' b (.map es2 clock')).heap.size := by have := hgrowB.size; omega
            clear hcol hM3 hrow' HCL hasB hgrowB hfiltB hM4 hend
            go_wp2_with fail
            refine HF.out.mono ?_
            rintro e w3 ⟨rfl, rfl⟩
            go_wp2
            go_roundw
            case rel => exact ⟨es2, clock', left', _, _, by go_num, HCol.out, hTB, hsB, hRB, hfB, hBB, hszB⟩
            case measure => rw [hRB.left_eq hmB, HLN.out, h2.length_eq]; simp
          · have hI1 : (kk : Int) ≤ (c : Int) := by omega
            have hI2 : (0 : Int) ≤ (kk : Int) := by omega
            have hI3 : ¬ c = kk := by omega
            have hI6 : (kk : Int) ≤ ((F s).length : Int) := by omega
            have hI4 : (kk : Int) < ((F s).length : Int) := by omega
            have hI5 : ((kk : Int) == ((F s).length : Int)) = false := by rw [beq_eq_false_iff_ne]; omega
            have hLne : (F s).drop kk ≠ [] := by intro e; have := congrArg List.length e; simp at this; omega
            have hrdd := hrd.verDrop kk
            have HCol := Lib.hid (hcol.turn (s := s) h2 rfl h7 HCL.out (by omega))
            have hj2 : (j : Int) + (kk : Int) ≤ 1000000000000 := by have := HCol.out.le; omega
            have HCl := Lib.hid (fun (W : World) (hW : Rd W W.heap.size (some ⟨g, off + kk * 3, none⟩) (cellsV ((F s).drop kk))) => cloneV_any ⟨g, off + kk * 3, none⟩ ((F s).drop kk) ((F s).length - kk) (c - kk) (by simp) (by simp; omega) W hW)
            clear hcol hM3 hrow' HCL
            go_wp2_with fail
            refine HF.out.mono ?_
            rintro e w3 ⟨rfl, rfl⟩
            go_wp2_with fail
            have hblt4 : b < w3.heap.size := hM4.map.lt
            have htlt4 := hB4.lt
            go_region_held3 (fun w' => w'.cell? ⟨t, 0, none⟩ = some (.map (some b)))
              (first
                | go_keep
                | (rw [hgrowB.cell_far _ (by exact Nat.lt_of_lt_of_le htlt4 hbA'.size) (by simp; omega)]; assumption)
                | (rw [hbA.cell (by simp; omega)]; assumption))
              (first
                | (go_at_call 67; refine (HCl.out _ (by exact hrdd.keep (fun _ _ => rfl))).mono ?_; rintro e wA ⟨vA, rfl, hownA, hbA⟩; have hbA' : Below w3.heap.size w3 wA := ((Below.refl _ _).drew).trans hbA; have hMA := hM4.below hbA'; obtain ⟨es2, clock2, hrunB, hmB, hasB, hnB, hsmB⟩ := hMA.map.store strKey Try.underlying97 (by unfold maxLen; omega) (val := vA) hkl; have hgrowB := grown_setBlock (o := .map es2 clock2) hMA.map)
                | fail)
            obtain ⟨rfl, hbornB, hfiltB⟩ := hsmB ⟨_, hhas⟩
            have hRB := ((h3.below hbA' h3.lt).turn (key := txt s) (hgrowB.block H (Nat.lt_of_lt_of_le h3.lt hbA'.size) (fun e => by injection e with e; exact hbr e.symm)) hbornB hfiltB h7)
            have hBB := (hB4.below hbA' hB4.lt).grown hgrowB (by intro e; injection e with e; exact hmb e)
            have hsB : es2.size ≤ m := Nat.le_trans (size_born hmB.stamped.2.1 hbornB) hn'
            have hTB := hM4.store (s := s) (row := none) hLne (fun g e => by cases e) (Below.grownBy hbA') (own_of_base hownA (Nat.zero_le _)) (fun g e => .inr (World.ownsRow.lt hownA g e).1) (fun g e => .inr (by have := (World.ownsRow.lt hownA g e).1; simp at this; have := hf4.size; omega)) hmB hgrowB hasB
            have hfB := (hf4.bel hbA').grown hgrowB (fun q hq hlt => by injection hq with hq; subst hq; exact hM4.hb.elim id (fun h => by omega))
            have hszB : H + 1 ≤ (setBlock wA b (.map es2 clock2)).heap.size := by have := hgrowB.size; have := hbA'.size; omega
            clear hownA hbA hMA hasB hgrowB hbornB hfiltB hM4 hnB
            go_wp2
            go_roundw
            case rel => exact ⟨es2, clock2, left', _, _, by go_num, HCol.out, hTB, hsB, hRB, hfB, hBB, hszB⟩
            case measure => rw [hRB.left_eq hmB, HLN.out, h2.length_eq]; simp
        · rw [Bool.not_eq_true] at hgone
          rw [hgone] at c2
          have HCL := Lib.hid (colL_here HK.out hkl' hgone)
          have hI1 : (k : Int) ≤ (c : Int) := by omega
          have hI2 : (0 : Int) ≤ (k : Int) := by omega
          have hI3 : ¬ c = k := by omega
          have hI6 : (k : Int) ≤ ((F s).length : Int) := by omega
          have hI4 : (k : Int) < ((F s).length : Int) := by omega
          have hI5 : ((k : Int) == ((F s).length : Int)) = false := by rw [beq_eq_false_iff_ne]; omega
          have hLne : (F s).drop k ≠ [] := by intro e; have := congrArg List.length e; simp at this; omega
          have hrdd := hrd.verDrop k
          have HCol := Lib.hid (hcol.turn (s := s) h2 rfl h7 HCL.out (by omega))
          have hj2 : (j : Int) + (k : Int) ≤ 1000000000000 := by have := HCol.out.le; omega
          have HCl := Lib.hid (fun (W : World) (hW : Rd W W.heap.size (some ⟨g, off + k * 3, none⟩) (cellsV ((F s).drop k))) => cloneV_any ⟨g, off + k * 3, none⟩ ((F s).drop k) ((F s).length - k) (c - k) (by simp) (by simp; omega) W hW)
          clear hcol hM3 hrow' HCL
          go_wp2_with fail
          refine HF.out.mono ?_
          rintro e w3 ⟨rfl, rfl⟩
          go_wp2_with fail
          have hblt4 : b < w3.heap.size := hM4.map.lt
          have htlt4 := hB4.lt
          go_region_held3 (fun w' => w'.cell? ⟨t, 0, none⟩ = some (.map (some b)))
            (first
              | go_keep
              | (rw [hgrowB.cell_far _ (by exact Nat.lt_of_lt_of_le htlt4 hbA'.size) (by simp; omega)]; assumption)
              | (rw [hbA.cell (by simp; omega)]; assumption))
            (first
              | (go_at_call 67; refine (HCl.out _ (by exact hrdd.keep (fun _ _ => rfl))).mono ?_; rintro e wA ⟨vA, rfl, hownA, hbA⟩; have hbA' : Below w3.heap.size w3 wA := ((Below.refl _ _).drew).trans hbA; have hMA := hM4.below hbA'; obtain ⟨es2, clock2, hrunB, hmB, hasB, hnB, hsmB⟩ := hMA.map.store strKey Try.underlying97 (by unfold maxLen; omega) (val := vA) hkl; have hgrowB := grown_setBlock (o := .map es2 clock2) hMA.map)
              | fail)
          obtain ⟨rfl, hbornB, hfiltB⟩ := hsmB ⟨_, hhas⟩
          have hRB := ((h3.below hbA' h3.lt).turn (key := txt s) (hgrowB.block H (Nat.lt_of_lt_of_le h3.lt hbA'.size) (fun e => by injection e with e; exact hbr e.symm)) hbornB hfiltB h7)
          have hBB := (hB4.below hbA' hB4.lt).grown hgrowB (by intro e; injection e with e; exact hmb e)
          have hsB : es2.size ≤ m := Nat.le_trans (size_born hmB.stamped.2.1 hbornB) hn'
          have hTB := hM4.store (s := s) (row := none) hLne (fun g e => by cases e) (Below.grownBy hbA') (own_of_base hownA (Nat.zero_le _)) (fun g e => .inr (World.ownsRow.lt hownA g e).1) (fun g e => .inr (by have := (World.ownsRow.lt hownA g e).1; simp at this; have := hf4.size; omega)) hmB hgrowB hasB
          have hfB := (hf4.bel hbA').grown hgrowB (fun q hq hlt => by injection hq with hq; subst hq; exact hM4.hb.elim id (fun h => by omega))
          have hszB : H + 1 ≤ (setBlock wA b (.map es2 clock2)).heap.size := by have := hgrowB.size; have := hbA'.size; omega
          clear hownA hbA hMA hasB hgrowB hbornB hfiltB hM4 hnB
          go_wp2
          go_roundw
          case rel => exact ⟨es2, clock2, left', _, _, by go_num, HCol.out, hTB, hsB, hRB, hfB, hBB, hszB⟩
          case measure => rw [hRB.left_eq hmB, HLN.out, h2.length_eq]; simp
end Go.Proofs.Ytfklhjkgogncdaa

/- What is forgotten nobody sees: plain mathematics of versions. No conditions. -/
namespace Go.Proofs.Ytfklhjkgogncdaa
set_option linter.unusedVariables false
set_option linter.unusedSimpArgs false
open Go.RowKit

def Rising (l : List Ver) : Prop := l.Pairwise (fun x y => x.n < y.n)
/-- What a list of versions tells at a number. -/
def tellL (l : List Ver) (n : Int) : Option (List UInt8) := match fnd l n l.length with
  | 0 => none
  | k + 1 => match l[k]? with
    | some v => if v.gone then none else some v.val
    | none => none
theorem tell_eq (F : List UInt8 → List Ver) (s : List UInt8) (n : Int) : tell F s n = tellL (F s) n := rfl
theorem fnd_up {l : List Ver} (n : Int) : ∀ m, m ≤ l.length → ∀ i, fnd l n m ≤ i → (hi : i < m) → (h : i < l.length) → n < l[i].n
  | 0, _, i, _, hi, _ => by omega
  | m + 1, hm, i, h1, hi, h => by
    rw [fnd_step (by omega)] at h1
    by_cases c : n < l[m].n
    · rw [if_pos c] at h1
      rcases Nat.lt_or_ge i m with h2 | h2
      · exact fnd_up n m (by omega) i h1 h2 h
      · obtain rfl : i = m := by omega
        exact c
    · rw [if_neg c] at h1
      omega
theorem fnd_last {l : List Ver} (n : Int) : ∀ m, m ≤ l.length → ∀ k, fnd l n m = k + 1 → (h : k < l.length) → l[k].n ≤ n
  | 0, _, k, h, _ => by simp [fnd] at h
  | m + 1, hm, k, h, hk => by
    rw [fnd_step (by omega)] at h
    by_cases c : n < l[m].n
    · rw [if_pos c] at h
      exact fnd_last n m (by omega) k h hk
    · rw [if_neg c] at h
      obtain rfl : k = m := by omega
      omega
theorem Rising.lt {l : List Ver} (h : Rising l) {i j : Nat} (hi : i < j) (hj : j < l.length) : (l[i]'(by omega)).n < l[j].n := (List.pairwise_iff_getElem.1 h) i j (by omega) hj hi
/-- fnd is the number of versions up to n. -/
theorem fnd_iff {l : List Ver} (h : Rising l) (n : Int) (i : Nat) (hi : i < l.length) : i < fnd l n l.length ↔ l[i].n ≤ n := by
  constructor
  · intro h1
    obtain ⟨k, hk⟩ : ∃ k, fnd l n l.length = k + 1 := ⟨fnd l n l.length - 1, by omega⟩
    have hkl : k < l.length := by have := fnd_le l n l.length; omega
    have h2 := fnd_last n l.length (Nat.le_refl _) k hk hkl
    rcases Nat.lt_or_ge i k with h3 | h3
    · have := h.lt h3 hkl
      omega
    · obtain rfl : i = k := by omega
      exact h2
  · intro h1
    rcases Nat.lt_or_ge i (fnd l n l.length) with h2 | h2
    · exact h2
    · have := fnd_up n l.length (Nat.le_refl _) i h2 hi hi
      omega
theorem fnd_uniq {l : List Ver} (h : Rising l) {n : Int} {k : Nat} (hk : k ≤ l.length) (hu : ∀ i (hi : i < l.length), i < k ↔ l[i].n ≤ n) : fnd l n l.length = k := by
  have hle := fnd_le l n l.length
  rcases Nat.lt_trichotomy (fnd l n l.length) k with h1 | h1 | h1
  · have hi : fnd l n l.length < l.length := by omega
    have := (fnd_iff h n _ hi).2 ((hu _ hi).1 h1)
    omega
  · exact h1
  · have hi : k < l.length := by omega
    have := (hu _ hi).2 ((fnd_iff h n _ hi).1 h1)
    omega
theorem Rising.drop {l : List Ver} (h : Rising l) (d : Nat) : Rising (l.drop d) := List.Pairwise.sublist (List.drop_sublist _ _) h
theorem fnd_drop {l : List Ver} (h : Rising l) {n : Int} {d : Nat} (hd : d ≤ fnd l n l.length) : fnd (l.drop d) n (l.drop d).length = fnd l n l.length - d := by
  have hle := fnd_le l n l.length
  refine fnd_uniq (h.drop d) (by rw [List.length_drop]; omega) (fun i hi => ?_)
  rw [List.length_drop] at hi
  rw [List.getElem_drop, ← fnd_iff h n (d + i) (by omega)]
  omega
theorem fnd_mono {l : List Ver} (h : Rising l) {a b : Int} (hab : a ≤ b) : fnd l a l.length ≤ fnd l b l.length := by
  rcases Nat.lt_or_ge (fnd l b l.length) (fnd l a l.length) with h1 | h1
  · have hle := fnd_le l a l.length
    have hi : fnd l b l.length < l.length := by omega
    have := (fnd_iff h a _ hi).1 h1
    have := (fnd_iff h b _ hi).2 (by omega)
    omega
  · exact h1
theorem tellL_zero {l : List Ver} {n : Int} (h : fnd l n l.length = 0) : tellL l n = none := by simp only [tellL, h]
theorem tellL_at {l : List Ver} {n : Int} {k : Nat} (h : fnd l n l.length = k + 1) (hk : k < l.length) : tellL l n = if l[k].gone then none else some l[k].val := by
  simp only [tellL, h, List.getElem?_eq_getElem hk]
/-- Behind a Collect at a number all later ones tell what they told. -/
theorem tell_col {l : List Ver} (h : Rising l) {a b : Int} (hab : a ≤ b) : tellL (colL l a) b = tellL l b := by
  have hle := fnd_le l a l.length
  have hleb := fnd_le l b l.length
  have hm := fnd_mono h hab
  cases hk : fnd l a l.length with
  | zero => rw [colL_zero hk]
  | succ k =>
    have hkl : k < l.length := by omega
    obtain ⟨q, hq⟩ : ∃ q, fnd l b l.length = q + 1 := ⟨fnd l b l.length - 1, by omega⟩
    have hql : q < l.length := by omega
    by_cases hg : l[k].gone = true
    · rw [colL_gone hk hkl hg]
      have hd := fnd_drop h (n := b) (d := k + 1) (by omega)
      rcases Nat.lt_or_ge k q with h1 | h1
      · rw [tellL_at hq hql, tellL_at (k := q - (k + 1)) (by rw [hd]; omega) (by rw [List.length_drop]; omega)]
        have e : (l.drop (k + 1))[q - (k + 1)]'(by rw [List.length_drop]; omega) = l[q] := by
          rw [List.getElem_drop]
          congr 1
          omega
        rw [e]
      · obtain rfl : q = k := by omega
        rw [tellL_at hq hql, if_pos hg, tellL_zero (by rw [hd]; omega)]
    · rw [Bool.not_eq_true] at hg
      rw [colL_here hk hkl hg]
      have hd := fnd_drop h (n := b) (d := k) (by omega)
      rw [tellL_at hq hql, tellL_at (k := q - k) (by rw [hd]; omega) (by rw [List.length_drop]; omega)]
      have e : (l.drop k)[q - k]'(by rw [List.length_drop]; omega) = l[q] := by
        rw [List.getElem_drop]
        congr 1
        omega
      rw [e]
theorem col_col {l : List Ver} (h : Rising l) (a : Int) : colL (colL l a) a = colL l a := by
  have hle := fnd_le l a l.length
  cases hk : fnd l a l.length with
  | zero => rw [colL_zero hk, colL_zero hk]
  | succ k =>
    have hkl : k < l.length := by omega
    by_cases hg : l[k].gone = true
    · rw [colL_gone hk hkl hg]
      exact colL_zero (by rw [fnd_drop h (by omega)]; omega)
    · rw [Bool.not_eq_true] at hg
      rw [colL_here hk hkl hg]
      have := fnd_drop h (n := a) (d := k) (by omega)
      have e : (l.drop k)[0]'(by rw [List.length_drop]; omega) = l[k] := by rw [List.getElem_drop]; rfl
      rw [colL_here (k := 0) (by rw [this]; omega) (by rw [List.length_drop]; omega) (by rw [e]; exact hg), List.drop_zero]
theorem colF_col {F : List UInt8 → List Ver} {top : Int} {m : Nat} (h : Good F top m) (a : Int) : colF (colF F a) a = colF F a := funext fun s => col_col (h.rise s) a
theorem tell_colF {F : List UInt8 → List Ver} {top : Int} {m : Nat} (h : Good F top m) {a b : Int} (hab : a ≤ b) (s : List UInt8) : tell (colF F a) s b = tell F s b := tell_col (h.rise s) hab
/-- What is put later changes nothing that was told. -/
theorem fnd_snoc (l : List Ver) (v : Ver) (n : Int) : ∀ m, m ≤ l.length → fnd (l ++ [v]) n m = fnd l n m
  | 0, _ => rfl
  | m + 1, hm => by
    rw [fnd_step (l := l ++ [v]) (by simp; omega), fnd_step (l := l) (by omega), List.getElem_append_left (by omega), fnd_snoc l v n m (by omega)]
theorem tell_snoc (l : List Ver) (v : Ver) {n : Int} (h : n < v.n) : tellL (l ++ [v]) n = tellL l n := by
  have hf : fnd (l ++ [v]) n (l ++ [v]).length = fnd l n l.length := by
    rw [List.length_append, List.length_singleton, fnd_step (by simp)]
    rw [if_pos (by simpa using h), fnd_snoc l v n _ (Nat.le_refl _)]
  have hle := fnd_le l n l.length
  cases hk : fnd l n l.length with
  | zero => rw [tellL_zero hk, tellL_zero (by rw [hf]; exact hk)]
  | succ k =>
    rw [tellL_at (l := l) hk (by omega), tellL_at (l := l ++ [v]) (k := k) (by rw [hf]; exact hk) (by simp; omega), List.getElem_append_left (by omega)]
theorem tell_put {F : List UInt8 → List Ver} {top : Int} {m : Nat} (h : Good F top m) (s : List UInt8) (v : Ver) {n : Int} (hn : n < v.n) (ht : top < v.n) (x : List UInt8) : tell (putV F s v) x n = tell F x n := by
  rw [tell_eq, tell_eq]
  unfold putV
  by_cases e : x = s
  · subst e
    rw [upd_same]
    have ha : addV (F x) v = F x ++ [v] := by
      unfold addV
      split
      · rename_i u hu
        have := h.num x u (List.mem_of_getLast? hu)
        rw [if_neg (by omega)]
      · rename_i hu
        rw [List.getLast?_eq_none_iff.1 hu]
        rfl
    rw [ha]
    exact tell_snoc _ _ hn
  · rw [upd_other _ _ e]
end Go.Proofs.Ytfklhjkgogncdaa

/- Contracts of package vers for the walks of laws. -/
namespace Go.Proofs.Ytfklhjkgogncdaa
set_option linter.unusedVariables false
set_option linter.unusedSimpArgs false
set_option maxRecDepth 100000
open Go.RowKit

theorem getV_some' {F : List UInt8 → List Ver} {s v : List UInt8} {n : Int} (h0 : numB n = true) (h : tell F s n = some v) : getV F s n = (v, 0) := by simp [getV, h0, h]
theorem getV_none' {F : List UInt8 → List Ver} {s : List UInt8} {n : Int} (h0 : numB n = true) (h : tell F s n = none) : getV F s n = ([], 4) := by simp [getV, h0, h]
section
variable {t : Nat} {F : List UInt8 → List Ver} {top : Int} {m : Nat} {S : Nat → Prop} {w w' : World}
theorem TblAt.lt (h : TblAt w S t F top m) : t < w.heap.size := by
  obtain ⟨⟨b, es, c, h1, h2, h3⟩, _, _⟩ := h
  exact h1.lt
/-- All of a table's blocks are there. -/
theorem TblAt.tight (h : TblAt w S t F top m) : TblAt w (fun g => S g ∧ g < w.heap.size) t F top m := by
  have hlt := h.lt
  obtain ⟨⟨b, es, c, h1, h2, h3⟩, ht, hg⟩ := h
  exact ⟨⟨b, es, c, h1, ⟨h2.map, ⟨h2.hb, h2.map.lt⟩, h2.keys, h2.rows, h2.tells, fun s v g q e => ⟨h2.own s v g q e, h2.row_lt q e⟩, h2.apart⟩, h3⟩, ⟨ht, hlt⟩, hg⟩
theorem get_some (hT : TblAt w S t F top m) (hm : m ≤ 1000000) {s v : List UInt8} {n : Int} (hs : s.length ≤ maxLen) (h0 : numB n = true) (h : tell F s n = some v) :
    Calls Try.prog 35 #[.pointer (some ⟨t, 0, none⟩), txt s, .int .i64 n] w fun e w' => e = .returned (.tuple #[txt v, .nilIface]) ∧ w' = w := by
  have := get_any t F top m S s hs n hm w hT
  rw [getV_some' h0 h] at this
  exact this
theorem get_none (hT : TblAt w S t F top m) (hm : m ≤ 1000000) {s : List UInt8} {n : Int} (hs : s.length ≤ maxLen) (h0 : numB n = true) (h : tell F s n = none) :
    Calls Try.prog 35 #[.pointer (some ⟨t, 0, none⟩), txt s, .int .i64 n] w fun e w' => e = .returned (.tuple #[txt [], .iface 61 (.int .i64 4)]) ∧ w' = w := by
  have := get_any t F top m S s hs n hm w hT
  rw [getV_none' h0 h] at this
  exact this
/-- What is told: a value and an error. -/
def TellV (o : Option (List UInt8)) (x e : Value) : Prop := match o with
  | some v => x = txt v ∧ e = .nilIface
  | none => x = txt [] ∧ e = .iface 61 (.int .i64 4)
theorem get_tell (hT : TblAt w S t F top m) (hm : m ≤ 1000000) {s : List UInt8} {n : Int} (hs : s.length ≤ maxLen) (h0 : numB n = true) {x e : Value} (h : TellV (tell F s n) x e) :
    Calls Try.prog 35 #[.pointer (some ⟨t, 0, none⟩), txt s, .int .i64 n] w fun y w' => y = .returned (.tuple #[x, e]) ∧ w' = w := by
  unfold TellV at h
  split at h
  · rename_i v hv
    obtain ⟨rfl, rfl⟩ := h
    exact get_some hT hm hs h0 hv
  · rename_i hv
    obtain ⟨rfl, rfl⟩ := h
    exact get_none hT hm hs h0 hv
theorem OwnKV.fr {T : Nat → Prop} {base : Nat} {v : Value} {l : List KV} (h : OwnKV w base v l) (f : Fr T w w') (hd : ∀ g, base ≤ g → g < w.heap.size → ¬ T g) : OwnKV w' base v l :=
  own_fr h f (fun g e => hd g (World.ownsRow.lt h g e).1 (World.ownsRow.lt h g e).2)
theorem OwnKV.fr' {T : Nat → Prop} {base : Nat} {v : Value} {l : List KV} (h : OwnKV w base v l) (f : Fr T w w') (hd : ∀ g, v.ownBlock = some g → ¬ T g) : OwnKV w' base v l := own_fr h f hd
theorem OwnKV.blk {base : Nat} {v : Value} {l : List KV} (h : OwnKV w base v l) : ∀ g, v.ownBlock = some g → base ≤ g ∧ g < w.heap.size := World.ownsRow.lt h
end
end Go.Proofs.Ytfklhjkgogncdaa

/- Transactions, plain mathematics: what one does and sees. No conditions. -/
namespace Go.Proofs.Ytfklhjkgogncdaa
set_option linter.unusedVariables false
set_option linter.unusedSimpArgs false
open Go.RowKit

/-- A transaction that is open. -/
structure Tr where
  id : Int
  sees : Int
  asked : Int
  keys : List (List UInt8)
  spans : List (List UInt8 × List UInt8)
  own : List Chg
/-- A change of a key, among one's own. -/
def findO (own : List Chg) (s : List UInt8) : Option Chg := own.find? (fun c => c.key == s)
/-- One's own changes with one more. -/
def insC (c : Chg) : List Chg → List Chg
  | [] => [c]
  | x :: l => if lessB c.key x.key then c :: x :: l else if c.key = x.key then c :: l else x :: insC c l
def RiseC (l : List Chg) : Prop := Rise Chg.key l
theorem insC_mem {c x : Chg} : ∀ {l : List Chg}, RiseC l → (x ∈ insC c l ↔ x = c ∨ (x ∈ l ∧ x.key ≠ c.key))
  | [], _ => by simp [insC]
  | y :: l, h => by
    have h' := List.pairwise_cons.1 h
    unfold insC
    split
    · rename_i hl
      simp only [List.mem_cons]
      constructor
      · rintro (e | e | e)
        · exact .inl e
        · subst e
          exact .inr ⟨.inl rfl, (lessB_ne hl).symm⟩
        · exact .inr ⟨.inr e, (lessB_ne (lessB_trans hl (h'.1 x e))).symm⟩
      · rintro (e | ⟨e | e, _⟩)
        · exact .inl e
        · exact .inr (.inl e)
        · exact .inr (.inr e)
    · rename_i hl
      split
      · rename_i he
        simp only [List.mem_cons]
        constructor
        · rintro (e | e)
          · exact .inl e
          · exact .inr ⟨.inr e, by rw [he]; exact (lessB_ne (h'.1 x e)).symm⟩
        · rintro (e | ⟨e | e, q⟩)
          · exact .inl e
          · subst e
            exact absurd he.symm q
          · exact .inr e
      · rename_i he
        simp only [List.mem_cons, insC_mem (c := c) (x := x) h'.2]
        constructor
        · rintro (e | e | ⟨e, q⟩)
          · subst e
            exact .inr ⟨.inl rfl, fun q => he q.symm⟩
          · exact .inl e
          · exact .inr ⟨.inr e, q⟩
        · rintro (e | ⟨e | e, q⟩)
          · exact .inr (.inl e)
          · exact .inl e
          · exact .inr (.inr ⟨e, q⟩)
theorem insC_rise {c : Chg} : ∀ {l : List Chg}, RiseC l → RiseC (insC c l)
  | [], _ => by unfold RiseC Rise; simp [insC]
  | y :: l, h => by
    have h' := List.pairwise_cons.1 h
    unfold insC
    split
    · rename_i hl
      unfold RiseC Rise
      rw [List.pairwise_cons]
      refine ⟨fun x hx => ?_, h⟩
      rcases List.mem_cons.1 hx with rfl | hx
      · exact hl
      · exact lessB_trans hl (h'.1 x hx)
    · rename_i hl
      split
      · rename_i he
        unfold RiseC Rise
        rw [List.pairwise_cons]
        exact ⟨fun x hx => by rw [he]; exact h'.1 x hx, h'.2⟩
      · rename_i he
        unfold RiseC Rise
        rw [List.pairwise_cons]
        refine ⟨fun x hx => ?_, insC_rise h'.2⟩
        rcases (insC_mem h'.2).1 hx with rfl | ⟨hx, _⟩
        · exact lessB_of (by simpa using hl) (fun e => he e.symm)
        · exact h'.1 x hx
theorem findO_iff {l : List Chg} (h : RiseC l) {s : List UInt8} {c : Chg} : findO l s = some c ↔ c ∈ l ∧ c.key = s := by
  unfold findO
  constructor
  · intro e
    exact ⟨List.mem_of_find?_eq_some e, by simpa using List.find?_some e⟩
  · rintro ⟨h1, rfl⟩
    cases e : l.find? (fun x => x.key == c.key) with
    | none =>
      have := List.find?_eq_none.1 e c h1
      simp at this
    | some y =>
      have h2 := List.mem_of_find?_eq_some e
      have h3 : y.key = c.key := by simpa using List.find?_some e
      obtain ⟨i, hi, rfl⟩ := List.getElem_of_mem h1
      obtain ⟨j, hj, rfl⟩ := List.getElem_of_mem h2
      have hp := List.pairwise_iff_getElem.1 h
      rcases Nat.lt_trichotomy i j with q | q | q
      · have := hp i j hi hj q
        rw [h3, lessB_irrefl] at this
        cases this
      · subst q
        rfl
      · have := hp j i hj hi q
        rw [h3, lessB_irrefl] at this
        cases this
theorem findO_none {l : List Chg} {s : List UInt8} : findO l s = none ↔ ∀ c ∈ l, c.key ≠ s := by
  unfold findO
  rw [List.find?_eq_none]
  simp
theorem findO_ins {l : List Chg} (h : RiseC l) (c : Chg) : findO (insC c l) = updO (findO l) c.key (some c) := by
  funext s
  by_cases e : s = c.key
  · subst e
    rw [updO_same]
    exact (findO_iff (insC_rise h)).2 ⟨(insC_mem h).2 (.inl rfl), rfl⟩
  · rw [updO_other _ _ e]
    cases hf : findO l s with
    | none =>
      rw [findO_none] at hf ⊢
      intro x hx
      rcases (insC_mem h).1 hx with rfl | ⟨hx, _⟩
      · exact fun q => e q.symm
      · exact hf x hx
    | some y =>
      obtain ⟨h1, h2⟩ := (findO_iff h).1 hf
      exact (findO_iff (insC_rise h)).2 ⟨(insC_mem h).2 (.inr ⟨h1, fun q => e (h2.symm.trans q)⟩), h2⟩
theorem insC_len {c : Chg} : ∀ {l : List Chg}, RiseC l → (insC c l).length = if findO l c.key = none then l.length + 1 else l.length
  | [], _ => rfl
  | y :: l, h => by
    have h' := List.pairwise_cons.1 h
    unfold insC
    split
    · rename_i hl
      rw [if_pos]
      · simp
      · rw [findO_none]
        intro x hx
        rcases List.mem_cons.1 hx with rfl | hx
        · exact (lessB_ne hl).symm
        · exact (lessB_ne (lessB_trans hl (h'.1 x hx))).symm
    · rename_i hl
      split
      · rename_i he
        rw [if_neg]
        · simp
        · intro q
          rw [findO_none] at q
          exact q y List.mem_cons_self he.symm
      · rename_i he
        have ih := insC_len (c := c) h'.2
        have hf : findO (y :: l) c.key = findO l c.key := by
          unfold findO
          rw [List.find?_cons_of_neg (by simp; exact fun q => he q.symm)]
        rw [List.length_cons, ih, hf, List.length_cons]
        split <;> rfl
/-- What a transaction sees of a key. -/
def over (F : List UInt8 → List Ver) (own : List Chg) (n : Int) (s : List UInt8) : Option (List UInt8) := match findO own s with
  | some c => if c.gone then none else some c.val
  | none => tell F s n
/-- What it is told of a range. -/
structure OverIs (F : List UInt8 → List Ver) (own : List Chg) (lo hi : List UInt8) (n : Int) (L : List KV) : Prop where
  rise : Rise Prod.fst L
  mem : ∀ s v, (s, v) ∈ L ↔ inB lo hi s = true ∧ over F own n s = some v
theorem OverIs.ext {F F' : List UInt8 → List Ver} {own own' : List Chg} {lo hi : List UInt8} {n n' : Int} {L L' : List KV} (h : OverIs F own lo hi n L) (h' : OverIs F' own' lo hi n' L') (e : ∀ s, inB lo hi s = true → over F own n s = over F' own' n' s) : L = L' := by
  refine Rise.ext h.rise h'.rise (fun x => ?_)
  obtain ⟨s, v⟩ := x
  rw [h.mem, h'.mem]
  constructor
  · rintro ⟨h1, h2⟩
    exact ⟨h1, by rw [← e s h1]; exact h2⟩
  · rintro ⟨h1, h2⟩
    exact ⟨h1, by rw [e s h1]; exact h2⟩
/-- Something that a transaction asked for, or changed, was changed since. -/
def Clash (F : List UInt8 → List Ver) (t : Tr) : Prop :=
  (∃ s ∈ t.keys, lastB (F s) t.sees = true) ∨ (∃ c ∈ t.own, lastB (F c.key) t.sees = true) ∨ ∃ p ∈ t.spans, Touch F p.1 p.2 t.sees
/-- Changes put at a number. -/
def appF (F : List UInt8 → List Ver) (l : List Chg) (n : Int) : List UInt8 → List Ver := l.foldl (fun F c => putV F c.key ⟨n, c.val, c.gone⟩) F
def findT (l : List Tr) (id : Int) : Option Tr := l.find? (fun t => t.id == id)
end Go.Proofs.Ytfklhjkgogncdaa

/- A desk as the document has it, plain mathematics: what each method makes of it. No conditions. -/
namespace Go.Proofs.Ytfklhjkgogncdaa
set_option linter.unusedVariables false
set_option linter.unusedSimpArgs false
open Go.RowKit

/-- A desk: its log, its versions, the lists that were committed, how many of them are safe, the last id, the open transactions, how many bytes the log had behind each commit. -/
structure Dk where
  lg : Lg
  F : List UInt8 → List Ver
  all : List (List Chg)
  ns : Nat
  ids : Int
  op : List Tr
  ends : List Int
/-- The last number. -/
def Dk.last (g : Dk) : Int := g.all.length
def eraseT (l : List Tr) (id : Int) : List Tr := l.filter (fun t => !(t.id == id))
def setT (l : List Tr) (u : Tr) : List Tr := l.map (fun t => if t.id = u.id then u else t)
theorem findT_mem {l : List Tr} {id : Int} {t : Tr} (h : findT l id = some t) : t ∈ l ∧ t.id = id := ⟨List.mem_of_find?_eq_some h, by simpa using List.find?_some h⟩
theorem findT_none {l : List Tr} {id : Int} : findT l id = none ↔ ∀ t ∈ l, t.id ≠ id := by
  unfold findT
  rw [List.find?_eq_none]
  simp
theorem findT_iff {l : List Tr} (hn : (l.map Tr.id).Nodup) {id : Int} {t : Tr} : findT l id = some t ↔ t ∈ l ∧ t.id = id := by
  constructor
  · exact findT_mem
  · rintro ⟨h1, rfl⟩
    cases e : findT l t.id with
    | none => exact absurd rfl (findT_none.1 e t h1)
    | some u =>
      obtain ⟨h2, h3⟩ := findT_mem e
      clear e
      induction l with
      | nil => cases h1
      | cons a l ih =>
        rw [List.map_cons, List.nodup_cons] at hn
        rcases List.mem_cons.1 h1 with e1 | h1
        · rcases List.mem_cons.1 h2 with e2 | h2
          · rw [e1, e2]
          · exact absurd (List.mem_map.2 ⟨u, h2, by rw [h3, e1]⟩) hn.1
        · rcases List.mem_cons.1 h2 with e2 | h2
          · exact absurd (List.mem_map.2 ⟨t, h1, by rw [← h3, e2]⟩) hn.1
          · exact ih hn.2 h1 h2
theorem setT_ids (l : List Tr) (u : Tr) : (setT l u).map Tr.id = l.map Tr.id := by
  unfold setT
  rw [List.map_map]
  apply List.map_congr_left
  intro t _
  simp only [Function.comp]
  split
  · rename_i h
    exact h.symm
  · rfl
theorem findT_set_same {l : List Tr} {u t : Tr} (h : findT l u.id = some t) : findT (setT l u) u.id = some u := by
  unfold findT setT at *
  induction l with
  | nil => cases h
  | cons a l ih =>
    rw [List.map_cons]
    by_cases e : a.id = u.id
    · rw [if_pos e, List.find?_cons_of_pos (by simp)]
    · rw [if_neg e, List.find?_cons_of_neg (by simpa using e)]
      rw [List.find?_cons_of_neg (by simpa using e)] at h
      exact ih h
theorem findT_set_other {l : List Tr} {u : Tr} {id : Int} (h : id ≠ u.id) : findT (setT l u) id = findT l id := by
  unfold findT setT
  induction l with
  | nil => rfl
  | cons a l ih =>
    rw [List.map_cons]
    by_cases e : a.id = u.id
    · rw [if_pos e, List.find?_cons_of_neg (by simpa using h.symm), List.find?_cons_of_neg (by simpa using fun q => h (q.symm.trans e)), ih]
    · rw [if_neg e]
      by_cases e2 : a.id = id
      · rw [List.find?_cons_of_pos (by simpa using e2), List.find?_cons_of_pos (by simpa using e2)]
      · rw [List.find?_cons_of_neg (by simpa using e2), List.find?_cons_of_neg (by simpa using e2), ih]
theorem findT_erase_same (l : List Tr) (id : Int) : findT (eraseT l id) id = none := by
  rw [findT_none]
  intro t ht
  have := (List.mem_filter.1 ht).2
  simpa using this
theorem findT_erase_other {l : List Tr} {id id' : Int} (h : id' ≠ id) : findT (eraseT l id) id' = findT l id' := by
  unfold findT eraseT
  rw [List.find?_filter]
  congr 1
  funext t
  by_cases e : t.id = id'
  · simp [e, h]
  · simp [e]
/-- Nothing is between a text and the next one. -/
theorem lessB_succ : ∀ (s key : List UInt8), lessB s (key ++ [0]) = true ↔ lessB s key = true ∨ s = key
  | [], [] => by simp [lessB]
  | [], b :: y => by simp [lessB]
  | a :: x, [] => by
    have h : ¬ a < 0 := by rw [UInt8.lt_iff_toNat_lt]; simp
    have h2 := @lessB_nil x
    simp [lessB, h, h2]
  | a :: x, b :: y => by
    have ih := lessB_succ x y
    simp only [List.cons_append, lessB, Bool.or_eq_true, decide_eq_true_eq, Bool.and_eq_true, beq_iff_eq, List.cons.injEq, ih]
    constructor
    · rintro (h | ⟨h, h2 | h2⟩)
      · exact .inl (.inl h)
      · exact .inl (.inr ⟨h, h2⟩)
      · exact .inr ⟨h, h2⟩
    · rintro ((h | ⟨h, h2⟩) | ⟨h, h2⟩)
      · exact .inl h
      · exact .inr ⟨h, .inl h2⟩
      · exact .inr ⟨h, .inr h2⟩
theorem inB_succ (key s : List UInt8) : inB key (key ++ [0]) s = true ↔ s = key := by
  unfold inB
  rw [Bool.and_eq_true, Bool.not_eq_true', lessB_succ]
  constructor
  · rintro ⟨h1, h2 | h2⟩
    · rw [h1] at h2; cases h2
    · exact h2
  · rintro rfl
    exact ⟨lessB_irrefl _, .inr rfl⟩
/-- What a transaction gets. -/
def getO (F : List UInt8 → List Ver) (own : List Chg) (n : Int) (s : List UInt8) : List UInt8 × Int := match over F own n s with
  | some v => (v, 0)
  | none => ([], 4)
def Dk.begin (g : Dk) : Int × Int × Dk :=
  if g.op.length = 8 then (0, 3, g) else if g.lg.down then (0, 8, g)
  else (g.ids + 1, 0, { g with ids := g.ids + 1, op := g.op ++ [⟨g.ids + 1, g.last, 0, [], [], []⟩] })
def Dk.get (g : Dk) (id : Int) (key : List UInt8) : List UInt8 × Int × Dk := match findT g.op id with
  | none => ([], 4, g)
  | some t => if keyB key = false then ([], 2, g) else if t.asked = 100 then ([], 3, g)
    else ((getO g.F t.own t.sees key).1, (getO g.F t.own t.sees key).2, { g with op := setT g.op { t with asked := t.asked + 1, keys := t.keys ++ [key] } })
def Dk.range (g : Dk) (id : Int) (lo hi : List UInt8) : Int × Dk := match findT g.op id with
  | none => (4, g)
  | some t => if t.asked = 100 then (3, g) else (0, { g with op := setT g.op { t with asked := t.asked + 1, spans := t.spans ++ [(lo, hi)] } })
/-- What a range tells. -/
def RangeO (g : Dk) (id : Int) (lo hi : List UInt8) (L : List KV) : Prop := match findT g.op id with
  | none => L = []
  | some t => if t.asked = 100 then L = [] else OverIs g.F t.own lo hi t.sees L
def Dk.change (g : Dk) (id : Int) (c : Chg) : Int × Dk := match findT g.op id with
  | none => (4, g)
  | some t => if keyB c.key = false ∨ 12 < c.val.length then (2, g) else if findO t.own c.key = none ∧ t.own.length = 20 then (3, g)
    else (0, { g with op := setT g.op { t with own := insC c t.own } })
/-- Changes committed. -/
def Dk.put (g : Dk) (l : List Chg) (e : Int) : Dk := { g with F := appF g.F l (g.last + 1), all := g.all ++ [l], ends := g.ends ++ [e] }
noncomputable def Dk.commit (g : Dk) (id : Int) : Int × Int × Dk := match findT g.op id with
  | none => (0, 4, g)
  | some t => open Classical in
    if Clash g.F t then (0, 6, { g with op := eraseT g.op id })
    else if t.own = [] then (t.sees, 0, { g with op := eraseT g.op id })
    else if (g.lg.append t.own).1 = 0 then
      (g.last + 1, 0, Dk.put { g with lg := (g.lg.append t.own).2, op := eraseT g.op id } t.own ((g.lg.append t.own).2.B.length : Int))
    else (0, (g.lg.append t.own).1, { g with op := eraseT g.op id, lg := (g.lg.append t.own).2 })
def Dk.abort (g : Dk) (id : Int) : Int × Dk := match findT g.op id with
  | none => (4, g)
  | some t => (0, { g with op := eraseT g.op id })
def Dk.flush (g : Dk) : Int × Dk := (g.lg.sync.1, { g with lg := g.lg.sync.2, ns := if g.lg.sync.1 = 0 then g.all.length else g.ns })
def Dk.fail (g : Dk) (n : Int) : Dk := { g with lg := g.lg.fail n }
/-- Lists put anew, from a number on. -/
def replay (F : List UInt8 → List Ver) (n : Int) : List (List Chg) → (List UInt8 → List Ver)
  | [] => F
  | l :: ls => replay (appF F l (n + 1)) (n + 1) ls
theorem replay_snoc (F : List UInt8 → List Ver) (n : Int) (l : List Chg) : ∀ ls : List (List Chg), replay F n (ls ++ [l]) = appF (replay F n ls) l (n + ls.length + 1)
  | [] => by simp [replay]
  | m :: ls => by
    have ih := replay_snoc (appF F m (n + 1)) (n + 1) l ls
    rw [List.cons_append, replay, ih, replay, List.length_cons]
    congr 1
    push_cast
    omega
def Dk.crash (g : Dk) (keep : Int) : Dk :=
  { lg := g.lg.crash keep, F := replay (fun _ => []) 0 (parse (g.lg.crash keep).B).1, all := (parse (g.lg.crash keep).B).1, ns := (parse (g.lg.crash keep).B).1.length, ids := g.ids, op := [], ends := (parse (g.lg.crash keep).B).1.map (fun _ => 0) }
def leastS (last : Int) (l : List Tr) : Int := l.foldl (fun m t => if t.sees < m then t.sees else m) last
def safeN (ends : List Int) (safe : Int) : Nat := (ends.takeWhile (fun e => decide (e ≤ safe))).length
/-- Bytes behind each commit. -/
def EndsOk (ends : List Int) (all : List (List Chg)) (ns : Nat) : Prop :=
  ends.length = all.length ∧ ∀ i (h : i < ends.length), ends[i] ≤ ((frames (all.take (i + 1))).length : Int) ∧ (ns ≤ i → ends[i] = ((frames (all.take (i + 1))).length : Int))
/-- Numbers and lists as they may be, k steps on. -/
structure DkOk (g : Dk) (k : Nat) : Prop where
  ids : (g.op.map Tr.id).Nodup
  each : ∀ t ∈ g.op, 1 ≤ t.id ∧ t.id ≤ g.ids ∧ 0 ≤ t.sees ∧ t.sees ≤ g.last
  many : g.op.length ≤ 8
  hall : g.all.length ≤ k ∧ ∀ l ∈ g.all, l ≠ []
  log : LInv g.lg.down g.lg.B g.lg.safe g.all g.ns
  hids : 0 ≤ g.ids ∧ g.ids ≤ k
  ends : EndsOk g.ends g.all g.ns
end Go.Proofs.Ytfklhjkgogncdaa

/- What the desk's methods keep in order: plain mathematics. No conditions. -/
namespace Go.Proofs.Ytfklhjkgogncdaa
set_option linter.unusedVariables false
set_option linter.unusedSimpArgs false
open Go.RowKit

section
variable {g : Dk} {k : Nat}
theorem DkOk.more (h : DkOk g k) {k' : Nat} (hk : k ≤ k') : DkOk g k' :=
  ⟨h.ids, h.each, h.many, ⟨Nat.le_trans h.hall.1 hk, h.hall.2⟩, h.log, ⟨h.hids.1, by have := h.hids.2; omega⟩, h.ends⟩
theorem DkOk.pos (h : DkOk g k) : ∀ t ∈ g.op, 1 ≤ t.id := fun t ht => (h.each t ht).1
theorem DkOk.set (h : DkOk g k) {t t' : Tr} (ht : findT g.op t'.id = some t) (hs : t'.sees = t.sees) : DkOk { g with op := setT g.op t' } k := by
  refine ⟨by rw [setT_ids]; exact h.ids, ?_, by simpa [setT] using h.many, h.hall, h.log, h.hids, h.ends⟩
  intro u hu
  obtain ⟨h1, h2⟩ := findT_mem ht
  obtain ⟨x, hx, rfl⟩ := List.mem_map.1 hu
  by_cases e : x.id = t'.id
  · rw [if_pos e]
    have := h.each t h1
    rw [h2] at this
    rw [hs]
    exact this
  · rw [if_neg e]
    exact h.each x hx
theorem DkOk.close (h : DkOk g k) (id : Int) : DkOk { g with op := eraseT g.op id } k := by
  refine ⟨?_, fun t ht => h.each t (List.mem_filter.1 ht).1, Nat.le_trans (List.length_filter_le _ _) h.many, h.hall, h.log, h.hids, h.ends⟩
  exact h.ids.sublist (List.filter_sublist.map _)
theorem DkOk.open (h : DkOk g k) (hn : g.op.length ≠ 8) : DkOk { g with ids := g.ids + 1, op := g.op ++ [⟨g.ids + 1, g.last, 0, [], [], []⟩] } (k + 1) := by
  have hi := h.hids
  refine ⟨?_, ?_, by have := h.many; simp; omega, ⟨by have := h.hall.1; show g.all.length ≤ k + 1; omega, h.hall.2⟩, h.log, ?_, h.ends⟩
  · rw [List.map_append, List.nodup_append]
    refine ⟨h.ids, by simp, ?_⟩
    intro a ha b hb e
    simp at hb
    subst hb
    subst e
    obtain ⟨t, ht, e⟩ := List.mem_map.1 ha
    have := (h.each t ht).2.1
    omega
  · intro t ht
    rcases List.mem_append.1 ht with ht | ht
    · have := h.each t ht
      refine ⟨this.1, ?_, this.2.2⟩
      show t.id ≤ g.ids + 1
      omega
    · simp at ht
      subst ht
      refine ⟨?_, ?_, ?_, Int.le_refl _⟩
      · show 1 ≤ g.ids + 1; omega
      · exact Int.le_refl _
      · show 0 ≤ g.last; unfold Dk.last; omega
  · show 0 ≤ g.ids + 1 ∧ g.ids + 1 ≤ ((k + 1 : Nat) : Int)
    omega
theorem EndsOk.more {ends : List Int} {all : List (List Chg)} {ns ns' : Nat} (h : EndsOk ends all ns) (hn : ns ≤ ns') : EndsOk ends all ns' :=
  ⟨h.1, fun i hi => ⟨(h.2 i hi).1, fun q => (h.2 i hi).2 (by omega)⟩⟩
theorem append_zero {lg : Lg} {l : List Chg} (h : (lg.append l).1 = 0) : chgFault l = 0 ∧ lg.down = false ∧ (lg.append l).2 = { lg with left := leftS lg.left, B := lg.B ++ frame l } := by
  unfold Lg.append at h ⊢
  split at h
  · rename_i e; exact absurd h e
  · rename_i e
    split at h
    · cases h
    · split at h
      · cases h
      · split at h
        · cases h
        · rename_i e1 e2 e3
          rw [if_neg e, if_neg e1, if_neg e2, if_neg e3]
          exact ⟨by simpa using e, by simpa using e2, rfl⟩
theorem append_keeps {lg : Lg} {l : List Chg} {all : List (List Chg)} {ns : Nat} (h : LInv lg.down lg.B lg.safe all ns) (hn : (lg.append l).1 ≠ 0) : LInv (lg.append l).2.down (lg.append l).2.B (lg.append l).2.safe all ns := by
  unfold Lg.append at hn ⊢
  split
  · exact h
  · rename_i e
    rw [if_neg e] at hn
    split
    · exact h
    · rename_i e1
      rw [if_neg e1] at hn
      split
      · exact h
      · rename_i e2
        rw [if_neg e2] at hn
        split
        · have hd : lg.down = false := by simpa using e2
          rw [hd] at h
          exact h.half (by simpa using e)
        · rename_i e3
          rw [if_neg e3] at hn
          exact absurd rfl hn
theorem DkOk.refused (h : DkOk g k) {l : List Chg} (hn : (g.lg.append l).1 ≠ 0) : DkOk { g with lg := (g.lg.append l).2 } k :=
  ⟨h.ids, h.each, h.many, h.hall, append_keeps h.log hn, h.hids, h.ends⟩
theorem frames_one_len (all : List (List Chg)) (l : List Chg) : (frames (all ++ [l])).length = (frames all).length + (frame l).length := by rw [frames_append, frames_one, List.length_append]
theorem DkOk.put (h : DkOk g k) {l : List Chg} (hl : l ≠ []) (hz : (g.lg.append l).1 = 0) : DkOk (Dk.put { g with lg := (g.lg.append l).2 } l ((g.lg.append l).2.B.length : Int)) (k + 1) := by
  obtain ⟨h1, h2, h3⟩ := append_zero hz
  have hL := h.log
  rw [h2] at hL
  rw [h3]
  refine ⟨h.ids, ?_, h.many, ?_, ?_, ?_, ?_⟩
  · intro t ht
    have := h.each t ht
    refine ⟨this.1, this.2.1, this.2.2.1, ?_⟩
    show t.sees ≤ ((g.all ++ [l]).length : Int)
    have h4 := this.2.2.2
    unfold Dk.last at h4
    simp
    omega
  · refine ⟨?_, ?_⟩
    · show (g.all ++ [l]).length ≤ k + 1
      have := h.hall.1
      simp
      omega
    · intro x hx
      rcases List.mem_append.1 hx with hx | hx
      · exact h.hall.2 x hx
      · simp at hx; subst hx; exact hl
  · show LInv g.lg.down (g.lg.B ++ frame l) g.lg.safe (g.all ++ [l]) g.ns
    rw [h2]
    exact hL.append h1
  · have := h.hids
    exact ⟨this.1, by show g.ids ≤ ((k + 1 : Nat) : Int); omega⟩
  · obtain ⟨e1, e2⟩ := h.ends
    show EndsOk (g.ends ++ [((g.lg.B ++ frame l).length : Int)]) (g.all ++ [l]) g.ns
    refine ⟨by simp [e1], fun i hi => ?_⟩
    rcases Nat.lt_or_ge i g.ends.length with q | q
    · rw [List.getElem_append_left q, List.take_append_of_le_length (by omega)]
      exact e2 i q
    · have hi' : i = g.ends.length := by simp at hi; omega
      subst hi'
      have : (frames ((g.all ++ [l]).take (g.ends.length + 1))) = g.lg.B ++ frame l := by
        obtain ⟨_, _, _, t, h5, _, h6⟩ := hL
        rw [h6 rfl] at h5
        rw [List.take_of_length_le (by simp [e1]), frames_append, frames_one, h5]
        simp
      rw [this]
      simp
theorem DkOk.flush (h : DkOk g k) : DkOk g.flush.2 k := by
  obtain ⟨h1, h2, h3, h4⟩ := h.log
  have hns := h2
  unfold Dk.flush Lg.sync
  by_cases hd : g.lg.down = true
  · rw [if_pos hd]
    exact ⟨h.ids, h.each, h.many, h.hall, h.log, h.hids, h.ends⟩
  · have hd' : g.lg.down = false := by simpa using hd
    rw [if_neg hd]
    by_cases hz : g.lg.left = 0
    · rw [if_pos hz]
      exact ⟨h.ids, h.each, h.many, h.hall, h.log.down, h.hids, h.ends⟩
    · rw [if_neg hz]
      have hL := h.log
      rw [hd'] at hL
      refine ⟨h.ids, h.each, h.many, h.hall, ?_, h.hids, h.ends.more hns⟩
      show LInv g.lg.down g.lg.B g.lg.B.length g.all g.all.length
      rw [hd']
      exact hL.sync
theorem DkOk.fail (h : DkOk g k) (n : Int) : DkOk (g.fail n) k := ⟨h.ids, h.each, h.many, h.hall, h.log, h.hids, h.ends⟩
/-- What a crash leaves. -/
theorem DkOk.crash (h : DkOk g k) (keep : Int) (hs : g.lg.safe ≤ g.lg.B.length) : DkOk (g.crash keep) k ∧ ∃ j, g.ns ≤ j ∧ j ≤ g.all.length ∧ (g.crash keep).all = g.all.take j := by
  obtain ⟨j, j1, j2, hL⟩ := h.log.crash hs keep
  have hall : (g.crash keep).all = g.all.take j := hL.parsed
  have hB : LInv false (g.crash keep).lg.B (g.crash keep).lg.safe (g.all.take j) j := hL
  have hj : (g.all.take j).length = j := by simp; omega
  refine ⟨⟨by simp [Dk.crash], by simp [Dk.crash], by simp [Dk.crash], ?_, ?_, h.hids, ?_⟩, j, j1, j2, hall⟩
  · rw [hall]
    refine ⟨by have := h.hall.1; omega, fun l hl => h.hall.2 l (List.mem_of_mem_take hl)⟩
  · have hns : (g.crash keep).ns = j := by
      show ((g.crash keep).all).length = j
      rw [hall, hj]
    rw [hall, hns]
    exact hB
  · refine ⟨by show List.length (List.map _ _) = _; rw [List.length_map]; rfl, fun i hi => ?_⟩
    have e : (g.crash keep).ends[i] = 0 := by simp [Dk.crash]
    rw [e]
    refine ⟨by omega, fun q => ?_⟩
    have : i < (g.crash keep).ns := by simpa [Dk.crash] using hi
    omega
theorem frame_pos (l : List Chg) : 0 < (frame l).length := by simp [frame]
theorem frames_mono (all : List (List Chg)) {i j : Nat} (h : i ≤ j) : (frames (all.take i)).length ≤ (frames (all.take j)).length := by
  have : all.take j = all.take i ++ (all.take j).drop i := by
    have e := List.take_append_drop i (all.take j)
    rw [List.take_take, Nat.min_eq_left h] at e
    exact e.symm
  rw [this, frames_append, List.length_append]
  omega
theorem frames_lt (all : List (List Chg)) {i j : Nat} (h : i < j) (hj : j ≤ all.length) : (frames (all.take i)).length < (frames (all.take j)).length := by
  have h1 := frames_mono all (show i + 1 ≤ j by omega)
  have h2 : all.take (i + 1) = all.take i ++ [all[i]] := by rw [List.take_succ_eq_append_getElem]
  rw [h2, frames_one_len] at h1
  have := frame_pos all[i]
  omega
/-- How many are safe. -/
theorem DkOk.ends_at (h : DkOk g k) (i : Nat) (hi : i < g.ends.length) : g.ends[i] ≤ (g.lg.safe : Int) ↔ i < g.ns := by
  obtain ⟨e1, e2⟩ := h.ends
  obtain ⟨h1, h2, h3, h4⟩ := h.log
  obtain ⟨q1, q2⟩ := e2 i hi
  constructor
  · intro q
    rcases Nat.lt_or_ge i g.ns with c | c
    · exact c
    · have := q2 c
      have h5 := frames_lt g.all (show g.ns < i + 1 by omega) (by omega)
      omega
  · intro q
    have h5 := frames_mono g.all (show i + 1 ≤ g.ns by omega)
    omega
theorem DkOk.ns_le (h : DkOk g k) : g.ns ≤ g.all.length := h.log.2.1
end
end Go.Proofs.Ytfklhjkgogncdaa

/- Contract of Changed. -/
namespace Go.Proofs.Ytfklhjkgogncdaa
set_option linter.unusedVariables false
set_option linter.unusedSimpArgs false
set_option maxRecDepth 100000
open Go.RowKit

theorem Changed_any (t : Nat) (F : List UInt8 → List Ver) (top : Int) (m : Nat) (hm : m ≤ 1000000) (S : Nat → Prop) (s : List UInt8) (hs : s.length ≤ maxLen) (n : Int) (w : World) (hT : TblAt w S t F top m) :
    Calls Try.prog 46 #[.pointer (some ⟨t, 0, none⟩), txt s, .int .i64 n] w fun e w' => e = .returned (.bool (lastB (F s) n)) ∧ Below w.heap.size w w' := by
  obtain ⟨⟨b, es, clock, hB, hM, hn⟩, ht, hg⟩ := hT
  obtain ⟨kl, hkl⟩ := txt_key s hs
  have hx := hB.cell 0
  simp at hx
  have hlen := hg.len s
  rcases hM.map.look strKey Try.underlying97 (zeroRow w) hkl false with ⟨h1, hrun⟩ | ⟨v, h1, hrun⟩
  · have hF := Lib.hid (show lastB (F s) n = false by rw [hM.none h1]; rfl)
    simp only [Bool.false_eq_true, if_false] at hrun
    go_enter Try.func46, Try.ntmps46
    go_wp2
    first
      | (go_ret; exact ⟨by rw [hF.out]; rfl, Below.refl _ _⟩)
      | (go_quiet (fail); go_wp2; go_ret; exact ⟨by rw [hF.out]; rfl, Below.drewN' (Below.refl _ _)⟩)
  · obtain ⟨hne, hrow⟩ := hM.rows s v h1
    obtain ⟨A, c, rfl, hrd⟩ := own_form hrow
    have hl0 : 0 < (F s).length := List.length_pos_iff.2 hne
    obtain ⟨g, off, rfl, hgb, c0, c1, c2⟩ := hrd.ver (show (F s).length - 1 < (F s).length by omega)
    have hF := Lib.hid (lastB_at hl0 n)
    have hz1 : ((F s).length : Int) - 1 = (((F s).length - 1 : Nat) : Int) := by omega
    simp only [Bool.false_eq_true, if_false] at hrun
    have hlI : (0 : Int) < ((F s).length : Int) := by omega
    go_enter Try.func46, Try.ntmps46
    go_wp2
    first
      | (go_ret; exact ⟨by rw [hF.out]; rfl, Below.refl _ _⟩)
      | (go_quiet (fail); go_wp2; go_ret; exact ⟨by rw [hF.out]; rfl, Below.drewN' (Below.refl _ _)⟩)

end Go.Proofs.Ytfklhjkgogncdaa

/- What DeskOwn's calls make of a desk: plain mathematics. No conditions. -/
namespace Go.Proofs.Ytfklhjkgogncdaa
set_option linter.unusedVariables false
set_option linter.unusedSimpArgs false
open Go.RowKit

theorem findT_cons (t : Tr) (l : List Tr) (id : Int) : findT (t :: l) id = if t.id = id then some t else findT l id := by
  unfold findT
  by_cases h : t.id = id
  · rw [List.find?_cons_of_pos (by simpa using h), if_pos h]
  · rw [List.find?_cons_of_neg (by simpa using h), if_neg h]
theorem setT_cons (t u : Tr) (l : List Tr) : setT (t :: l) u = (if t.id = u.id then u else t) :: setT l u := rfl
theorem setT_nil (u : Tr) : setT [] u = [] := rfl
theorem eraseT_cons (t : Tr) (l : List Tr) (id : Int) : eraseT (t :: l) id = if t.id = id then eraseT l id else t :: eraseT l id := by
  unfold eraseT
  by_cases h : t.id = id
  · rw [List.filter_cons_of_neg (by simpa using h), if_pos h]
  · rw [List.filter_cons_of_pos (by simpa using h), if_neg h]
theorem eraseT_nil (id : Int) : eraseT [] id = [] := rfl
/-- No version is behind a number. -/
def NoLater (F : List UInt8 → List Ver) (n : Int) : Prop := ∀ s, ∀ v ∈ F s, v.n ≤ n
theorem NoLater.of {F : List UInt8 → List Ver} {top n : Int} {m : Nat} (h : Good F top m) (ht : top ≤ n) : NoLater F n := fun s v hv => by have := (h.num s v hv).2.1; omega
theorem NoLater.last {F : List UInt8 → List Ver} {n : Int} (h : NoLater F n) (s : List UInt8) : lastB (F s) n = false := by
  unfold lastB
  split
  · rename_i v hv
    have := h s v (List.mem_of_getLast? hv)
    simp
    omega
  · rfl
theorem NoLater.clash {F : List UInt8 → List Ver} {t : Tr} (h : NoLater F t.sees) : ¬ Clash F t := by
  rintro (⟨s, _, h2⟩ | ⟨c, _, h2⟩ | ⟨p, _, s, _, h2⟩)
  · rw [h.last] at h2; cases h2
  · rw [h.last] at h2; cases h2
  · rw [h.last] at h2; cases h2
theorem one_fault {c : Chg} (h : oneOk c = true) : chgFault [c] = 0 := by
  unfold chgFault
  rw [if_neg (by simp), if_pos]
  simp [riseOk, h]
theorem oneOk_put {s v : List UInt8} (hk : keyB s = true) (hv : v.length ≤ 12) : oneOk ⟨s, v, false⟩ = true := by
  unfold keyB at hk
  unfold oneOk
  simp at hk
  have h1 : 1 ≤ s.length := List.length_pos_iff.2 hk.1
  simp [h1, hk.2, hv]
theorem append_one {lg : Lg} {c : Chg} (h : oneOk c = true) (hd : lg.down = false) (hl : lg.left = -1) (hr : lg.room = 100000) (hB : (lg.B.length : Int) ≤ 99000) :
    lg.append [c] = (0, { lg with B := lg.B ++ frame [c] }) ∧ ((lg.B ++ frame [c]).length : Int) ≤ lg.B.length + 763 := by
  have hf := one_fault h
  have he := encL_length hf
  refine ⟨?_, ?_⟩
  · unfold Lg.append
    rw [if_neg (by rw [hf]; simp), if_neg (by rw [hr]; omega), if_neg (by rw [hd]; simp), if_neg (by rw [hl]; decide)]
    unfold leftS
    rw [hl, if_neg (by decide)]
  · rw [List.length_append, frame_length]
    push_cast
    omega
def tr0 (id sees : Int) : Tr := ⟨id, sees, 0, [], [], []⟩
/-- A desk that is up, nothing open. -/
structure OwnI (g : Dk) (i : Nat) : Prop where
  op : g.op = []
  down : g.lg.down = false
  left : g.lg.left = -1
  room : g.lg.room = 100000
  len : (g.lg.B.length : Int) ≤ 763 * i
theorem begin_of {g : Dk} (hn : g.op.length ≠ 8) (hd : g.lg.down = false) : g.begin = (g.ids + 1, 0, { g with ids := g.ids + 1, op := g.op ++ [tr0 (g.ids + 1) g.last] }) := by
  unfold Dk.begin
  rw [if_neg hn, if_neg (by rw [hd]; simp)]
  rfl
theorem OwnI.begin {g : Dk} {i : Nat} (h : OwnI g i) : g.begin = (g.ids + 1, 0, { g with ids := g.ids + 1, op := [tr0 (g.ids + 1) g.last] }) := by
  rw [begin_of (by rw [h.op]; simp) h.down, h.op]
  rfl
/-- What a Commit of one change makes. -/
theorem commit_one {g : Dk} {id : Int} {t : Tr} {c : Chg} (ht : findT g.op id = some t) (hc : t.own = [c]) (ho : oneOk c = true) (hF : NoLater g.F t.sees) (hd : g.lg.down = false) (hl : g.lg.left = -1) (hr : g.lg.room = 100000) (hB : (g.lg.B.length : Int) ≤ 99000) :
    g.commit id = (g.last + 1, 0, Dk.put { g with lg := { g.lg with B := g.lg.B ++ frame [c] }, op := eraseT g.op id } [c] ((g.lg.B ++ frame [c]).length : Int)) := by
  obtain ⟨ha, _⟩ := append_one ho hd hl hr hB
  unfold Dk.commit
  rw [ht]
  simp only
  rw [if_neg hF.clash, if_neg (by rw [hc]; simp), hc, ha, if_pos rfl]
theorem commit_none' {g : Dk} {id : Int} {t : Tr} (ht : findT g.op id = some t) (hc : t.own = []) (hF : NoLater g.F t.sees) : g.commit id = (t.sees, 0, { g with op := eraseT g.op id }) := by
  unfold Dk.commit
  rw [ht]
  simp only
  rw [if_neg hF.clash, if_pos hc]
/-- One round: a transaction of one change. -/
theorem OwnI.round {g : Dk} {i : Nat} (h : OwnI g i) (hi : i < 45) (hF : NoLater g.F g.last) (s v : List UInt8) :
    OwnI (((g.begin.2.2.change (g.ids + 1) ⟨s, v, false⟩).2).commit (g.ids + 1)).2.2 (i + 1) := by
  have hB : (g.lg.B.length : Int) ≤ 99000 := by have := h.len; omega
  rw [h.begin]
  simp only
  have hf : findT [tr0 (g.ids + 1) g.last] (g.ids + 1) = some (tr0 (g.ids + 1) g.last) := by rw [findT_cons, if_pos (show (tr0 (g.ids + 1) g.last).id = g.ids + 1 from rfl)]
  by_cases hk : keyB s = false ∨ 12 < v.length
  · have e : Dk.change { g with ids := g.ids + 1, op := [tr0 (g.ids + 1) g.last] } (g.ids + 1) ⟨s, v, false⟩ = (2, { g with ids := g.ids + 1, op := [tr0 (g.ids + 1) g.last] }) := by
      unfold Dk.change
      simp only [hf]
      rw [if_pos hk]
    rw [e, commit_none' hf rfl hF]
    refine ⟨?_, h.down, h.left, h.room, by have := h.len; show (g.lg.B.length : Int) ≤ 763 * ((i + 1 : Nat) : Int); omega⟩
    show eraseT [tr0 (g.ids + 1) g.last] (g.ids + 1) = []
    rw [eraseT_cons, if_pos (show (tr0 (g.ids + 1) g.last).id = g.ids + 1 from rfl), eraseT_nil]
  · have hk1 : keyB s = true := by
      cases e : keyB s with
      | true => rfl
      | false => exact absurd (.inl e) hk
    have hk2 : v.length ≤ 12 := by
      rcases Nat.lt_or_ge 12 v.length with c | c
      · exact absurd (.inr c) hk
      · exact c
    have e : Dk.change { g with ids := g.ids + 1, op := [tr0 (g.ids + 1) g.last] } (g.ids + 1) ⟨s, v, false⟩ = (0, { g with ids := g.ids + 1, op := [⟨g.ids + 1, g.last, 0, [], [], [⟨s, v, false⟩]⟩] }) := by
      unfold Dk.change
      simp only [hf]
      rw [if_neg hk, if_neg (by simp [tr0])]
      simp [setT_cons, setT_nil, tr0, insC]
    rw [e]
    simp only
    rw [commit_one (g := { g with ids := g.ids + 1, op := [⟨g.ids + 1, g.last, 0, [], [], [⟨s, v, false⟩]⟩] }) (t := ⟨g.ids + 1, g.last, 0, [], [], [⟨s, v, false⟩]⟩) (by show findT [_] _ = _; rw [findT_cons, if_pos rfl]) rfl (oneOk_put hk1 hk2) hF h.down h.left h.room hB]
    have ha := (append_one (lg := g.lg) (oneOk_put hk1 hk2) h.down h.left h.room hB).2
    refine ⟨?_, h.down, h.left, h.room, ?_⟩
    · show eraseT [_] (g.ids + 1) = []
      rw [eraseT_cons, if_pos rfl, eraseT_nil]
    · show ((g.lg.B ++ frame _).length : Int) ≤ 763 * ((i + 1 : Nat) : Int)
      have := h.len
      omega
theorem tell_new {F : List UInt8 → List Ver} {top : Int} {m : Nat} (h : Good F top m) (s : List UInt8) (v : Ver) (ht : top < v.n) : tell (putV F s v) s v.n = if v.gone then none else some v.val := by
  have ha : addV (F s) v = F s ++ [v] := by
    unfold addV
    split
    · rename_i u hu
      have := (h.num s u (List.mem_of_getLast? hu)).2.1
      rw [if_neg (by omega)]
    · rename_i hu
      rw [List.getLast?_eq_none_iff.1 hu]
      rfl
  have hF : putV F s v s = F s ++ [v] := by unfold putV; rw [upd_same, ha]
  have hfn : fnd (putV F s v s) v.n (putV F s v s).length = (F s).length + 1 := by
    rw [hF, List.length_append, List.length_singleton, fnd_step (by simp)]
    rw [if_neg]
    rw [List.getElem_append_right (Nat.le_refl _)]
    simp
  rw [tell_at hfn (by rw [hF]; simp)]
  have : (putV F s v s)[(F s).length]'(by rw [hF]; simp) = v := by simp [hF]
  rw [this]
/-- The range of one key that one changed oneself. -/
theorem range_one {F : List UInt8 → List Ver} {key value : List UInt8} {n : Int} {L : List KV} (h : OverIs F [⟨key, value, false⟩] key (key ++ [0]) n L) : L = [(key, value)] := by
  have ho : over F [⟨key, value, false⟩] n key = some value := by simp [over, findO]
  refine Rise.ext h.rise (List.pairwise_singleton _ _) (fun x => ?_)
  obtain ⟨s, v⟩ := x
  rw [h.mem, inB_succ, List.mem_singleton]
  constructor
  · rintro ⟨rfl, q⟩
    rw [ho] at q
    injection q with q
    rw [q]
  · intro q
    injection q with q1 q2
    subst q1
    subst q2
    exact ⟨rfl, ho⟩
/-- A desk with other open transactions. -/
def stB (g : Dk) (ids : Int) (op : List Tr) : Dk := ⟨g.lg, g.F, g.all, g.ns, ids, op, g.ends⟩
theorem OwnI.begin1 {g : Dk} {i : Nat} (h : OwnI g i) : g.begin = (g.ids + 1, 0, stB g (g.ids + 1) [tr0 (g.ids + 1) g.last]) := h.begin
theorem stB_begin {g : Dk} {ids : Int} {op : List Tr} (hn : op.length ≠ 8) (hd : g.lg.down = false) : (stB g ids op).begin = (ids + 1, 0, stB g (ids + 1) (op ++ [tr0 (ids + 1) g.last])) := begin_of hn hd
section
variable {g : Dk} {i a b L n : Int} {ta tb : Tr} {key value : List UInt8} {ks : List (List UInt8)} {sp : List (List UInt8 × List UInt8)} {own : List Chg}
theorem find_first (h : ta.id = a) (l : List Tr) : findT (ta :: l) a = some ta := by rw [findT_cons, if_pos h]
theorem find_second (h : ta.id ≠ b) (h2 : tb.id = b) (l : List Tr) : findT (ta :: tb :: l) b = some tb := by rw [findT_cons, if_neg h, findT_cons, if_pos h2]
theorem stB_get2_bad (h : ta.id ≠ b) (h2 : tb.id = b) (hk : keyB key = false) : (stB g i [ta, tb]).get b key = ([], 2, stB g i [ta, tb]) := by
  unfold Dk.get
  rw [show (stB g i [ta, tb]).op = [ta, tb] from rfl, find_second h h2]
  simp only
  rw [if_pos hk]
theorem stB_get2 (h : ta.id ≠ b) (hk : keyB key = true) (hn : n ≠ 100) : (stB g i [ta, ⟨b, L, n, ks, sp, own⟩]).get b key = ((getO g.F own L key).1, (getO g.F own L key).2, stB g i [ta, ⟨b, L, n + 1, ks ++ [key], sp, own⟩]) := by
  unfold Dk.get
  rw [show (stB g i [ta, ⟨b, L, n, ks, sp, own⟩]).op = [ta, ⟨b, L, n, ks, sp, own⟩] from rfl, find_second h rfl]
  simp only
  rw [if_neg (by rw [hk]; simp), if_neg hn]
  simp [setT_cons, setT_nil, h, stB]
theorem stB_get1 {ta' : List Tr} (h : ∀ t ∈ ta', t.id ≠ a) (hk : keyB key = true) (hn : n ≠ 100) : (stB g i (⟨a, L, n, ks, sp, own⟩ :: ta')).get a key = ((getO g.F own L key).1, (getO g.F own L key).2, stB g i (⟨a, L, n + 1, ks ++ [key], sp, own⟩ :: ta')) := by
  unfold Dk.get
  rw [show (stB g i (⟨a, L, n, ks, sp, own⟩ :: ta')).op = ⟨a, L, n, ks, sp, own⟩ :: ta' from rfl, find_first rfl]
  simp only
  rw [if_neg (by rw [hk]; simp), if_neg hn, setT_cons, if_pos rfl]
  have : setT ta' ⟨a, L, n + 1, ks ++ [key], sp, own⟩ = ta' := by
    unfold setT
    conv => rhs; rw [← List.map_id ta']
    apply List.map_congr_left
    intro t ht
    rw [if_neg (h t ht)]
    rfl
  rw [this]
  rfl
theorem stB_put1_bad (hb : keyB key = false ∨ 12 < value.length) (h : ta.id = a) (l : List Tr) : (stB g i (ta :: l)).change a ⟨key, value, false⟩ = (2, stB g i (ta :: l)) := by
  unfold Dk.change
  rw [show (stB g i (ta :: l)).op = ta :: l from rfl, find_first h]
  simp only
  rw [if_pos hb]
theorem stB_put1 (hb : ¬ (keyB key = false ∨ 12 < value.length)) (h : tb.id ≠ a) : (stB g i [⟨a, L, n, ks, sp, []⟩, tb]).change a ⟨key, value, false⟩ = (0, stB g i [⟨a, L, n, ks, sp, [⟨key, value, false⟩]⟩, tb]) := by
  unfold Dk.change
  rw [show (stB g i [⟨a, L, n, ks, sp, []⟩, tb]).op = [⟨a, L, n, ks, sp, []⟩, tb] from rfl, find_first rfl]
  simp only
  rw [if_neg hb, if_neg (by simp), setT_cons, if_pos rfl, setT_cons, if_neg h, setT_nil]
  rfl
theorem stB_range1 (h : tb.id ≠ a) (hn : n ≠ 100) (lo hi : List UInt8) : (stB g i [⟨a, L, n, ks, sp, own⟩, tb]).range a lo hi = (0, stB g i [⟨a, L, n + 1, ks, sp ++ [(lo, hi)], own⟩, tb]) := by
  unfold Dk.range
  rw [show (stB g i [⟨a, L, n, ks, sp, own⟩, tb]).op = [⟨a, L, n, ks, sp, own⟩, tb] from rfl, find_first rfl]
  simp only
  rw [if_neg hn, setT_cons, if_pos rfl, setT_cons, if_neg h, setT_nil]
  rfl
theorem stB_rangeO (hn : n ≠ 100) {lo hi : List UInt8} {l : List KV} (h : RangeO (stB g i [⟨a, L, n, ks, sp, own⟩, tb]) a lo hi l) : OverIs g.F own lo hi L l := by
  unfold RangeO at h
  rw [show (stB g i [⟨a, L, n, ks, sp, own⟩, tb]).op = [⟨a, L, n, ks, sp, own⟩, tb] from rfl, find_first rfl] at h
  simp only at h
  rwa [if_neg hn] at h
/-- The desk behind a commit of one change. -/
def putOne (g : Dk) (c : Chg) : Dk := ⟨{ g.lg with B := g.lg.B ++ frame [c] }, putV g.F c.key ⟨g.last + 1, c.val, c.gone⟩, g.all ++ [[c]], g.ns, g.ids, g.op, g.ends ++ [((g.lg.B ++ frame [c]).length : Int)]⟩
theorem putOne_last (c : Chg) : (putOne g c).last = g.last + 1 := by
  unfold Dk.last putOne
  simp
theorem stB_commit1 {c : Chg} (h : tb.id ≠ a) (ho : oneOk c = true) (hF : NoLater g.F L) (hd : g.lg.down = false) (hl : g.lg.left = -1) (hr : g.lg.room = 100000) (hB : (g.lg.B.length : Int) ≤ 99000) :
    (stB g i [⟨a, L, n, ks, sp, [c]⟩, tb]).commit a = (g.last + 1, 0, stB (putOne g c) i [tb]) := by
  rw [commit_one (g := stB g i [⟨a, L, n, ks, sp, [c]⟩, tb]) (t := ⟨a, L, n, ks, sp, [c]⟩) (find_first rfl _) rfl ho hF hd hl hr hB]
  have : eraseT [⟨a, L, n, ks, sp, [c]⟩, tb] a = [tb] := by rw [eraseT_cons, if_pos rfl, eraseT_cons, if_neg h, eraseT_nil]
  unfold Dk.put
  simp only [show (stB g i [⟨a, L, n, ks, sp, [c]⟩, tb]).op = [⟨a, L, n, ks, sp, [c]⟩, tb] from rfl, this]
  rfl
theorem getO_nil (F : List UInt8 → List Ver) (n : Int) (s : List UInt8) : getO F [] n s = match tell F s n with | some v => (v, 0) | none => ([], 4) := rfl
theorem getO_same {F F' : List UInt8 → List Ver} {n n' : Int} {s : List UInt8} (h : tell F s n = tell F' s n') : getO F [] n s = getO F' [] n' s := by rw [getO_nil, getO_nil, h]
theorem getO_one (F : List UInt8 → List Ver) (n : Int) (key value : List UInt8) : getO F [⟨key, value, false⟩] n key = (value, 0) := by simp [getO, over, findO]
end
end Go.Proofs.Ytfklhjkgogncdaa

/- What is there at each number: plain mathematics. No conditions. -/
namespace Go.Proofs.Ytfklhjkgogncdaa
set_option linter.unusedVariables false
set_option linter.unusedSimpArgs false
open Go.RowKit

def noF : List UInt8 → List Ver := fun _ => []
/-- What is there at each number. -/
structure FgI (hi : List UInt8) (g : Dk) (was : List (List KV)) : Prop where
  len : was.length = g.all.length + 1
  each : ∀ i (h : i < was.length), RangeIs (replay (fun _ => []) 0 (g.all.take i)) [] hi i was[i]
  F : g.F = replay (fun _ => []) 0 g.all
section
variable {hi : List UInt8} {g g' : Dk} {was : List (List KV)}
theorem tell_noF (s : List UInt8) (n : Int) : tell (fun _ => []) s n = none := tell_nil rfl
theorem FgI.new (room : Int) : FgI hi ((⟨⟨-1, false, room, [], 0⟩, fun _ => [], [], 0, 0, [], []⟩ : Dk)) [[]] := by
  refine ⟨rfl, fun i h => ?_, rfl⟩
  have : i = 0 := by simp at h; omega
  subst this
  refine ⟨List.Pairwise.nil, fun s v => ?_⟩
  show (s, v) ∈ [] ↔ _ ∧ tell (replay (fun _ => []) 0 []) s _ = some v
  rw [show replay (fun _ => []) 0 ([] : List (List Chg)) = fun _ => [] from rfl, tell_noF]
  simp
theorem FgI.same (h : FgI hi g was) (ha : g'.all = g.all) (hF : g'.F = g.F) : FgI hi g' was := ⟨by rw [ha]; exact h.len, by rw [ha]; exact h.each, by rw [hF, ha]; exact h.F⟩
theorem FgI.more (h : FgI hi g was) {l : List Chg} (ha : g'.all = g.all ++ [l]) (hF : g'.F = appF g.F l (g.last + 1)) {L : List KV} (hL : RangeIs g'.F [] hi g'.last L) : FgI hi g' (was ++ [L]) := by
  have hFF : g'.F = replay (fun _ => []) 0 g'.all := by
    rw [hF, ha, replay_snoc, ← h.F]
    unfold Dk.last
    simp
  refine ⟨by rw [ha]; simp [h.len], fun i hi' => ?_, hFF⟩
  rcases Nat.lt_or_ge i was.length with c | c
  · rw [List.getElem_append_left c, ha, List.take_append_of_le_length (by have := h.len; omega)]
    exact h.each i c
  · have hi2 : i = was.length := by simp at hi'; omega
    subst hi2
    have hl := h.len
    have e : g'.all.take was.length = g'.all := List.take_of_length_le (by rw [ha]; simp; omega)
    rw [e, ← hFF]
    have e2 : g'.last = (was.length : Int) := by unfold Dk.last; rw [ha, hl]; simp
    rw [← e2]
    simpa using hL
theorem FgI.cut (h : FgI hi g was) {j : Nat} (hj : j ≤ g.all.length) (ha : g'.all = g.all.take j) (hF : g'.F = replay (fun _ => []) 0 g'.all) : FgI hi g' (was.take (j + 1)) := by
  have hl := h.len
  refine ⟨by rw [ha]; simp; omega, fun i hi' => ?_, hF⟩
  have hij : i ≤ j := by simp at hi'; omega
  rw [List.getElem_take, ha, List.take_take, Nat.min_eq_left hij]
  exact h.each i (by simp at hi'; omega)
theorem FgI.told (h : FgI hi g was) {L : List KV} (hL : RangeIs g.F [] hi g.last L) (hw : g.all.length < was.length) : was[g.all.length] = L := by
  have h1 := h.each _ hw
  rw [List.take_length, ← h.F] at h1
  exact h1.ext hL (fun _ _ => rfl)
end
/-- What a Commit may make. -/
theorem commit_cases (g : Dk) (id : Int) (k : Nat) (ok : DkOk g k) : (∃ x, x ≠ 0 ∧ (g.commit id).2.1 = x ∧ (g.commit id).2.2.all = g.all ∧ (g.commit id).2.2.F = g.F ∧ (g.commit id).2.2.ns = g.ns) ∨
    ((g.commit id).2.1 = 0 ∧ 0 ≤ (g.commit id).1 ∧ (g.commit id).1 ≤ g.last ∧ (g.commit id).2.2.all = g.all ∧ (g.commit id).2.2.F = g.F ∧ (g.commit id).2.2.ns = g.ns) ∨
    ((g.commit id).2.1 = 0 ∧ (g.commit id).1 = g.last + 1 ∧ (g.commit id).2.2.ns = g.ns ∧ ∃ l, (g.commit id).2.2.all = g.all ++ [l] ∧ (g.commit id).2.2.F = appF g.F l (g.last + 1)) := by
  cases ht : findT g.op id with
  | none =>
    left
    have e : g.commit id = (0, 4, g) := by unfold Dk.commit; rw [ht]
    rw [e]
    exact ⟨4, by decide, rfl, rfl, rfl, rfl⟩
  | some t =>
    by_cases hc : Clash g.F t
    · left
      have e : g.commit id = (0, 6, { g with op := eraseT g.op id }) := by unfold Dk.commit; rw [ht]; simp only; rw [if_pos hc]
      rw [e]
      exact ⟨6, by decide, rfl, rfl, rfl, rfl⟩
    · by_cases ho : t.own = []
      · right; left
        have e : g.commit id = (t.sees, 0, { g with op := eraseT g.op id }) := by unfold Dk.commit; rw [ht]; simp only; rw [if_neg hc, if_pos ho]
        rw [e]
        have := ok.each t (findT_mem ht).1
        exact ⟨rfl, this.2.2.1, this.2.2.2, rfl, rfl, rfl⟩
      · by_cases hz : (g.lg.append t.own).1 = 0
        · right; right
          have e : g.commit id = (g.last + 1, 0, Dk.put { g with lg := (g.lg.append t.own).2, op := eraseT g.op id } t.own ((g.lg.append t.own).2.B.length : Int)) := by unfold Dk.commit; rw [ht]; simp only; rw [if_neg hc, if_neg ho, if_pos hz]
          rw [e]
          exact ⟨rfl, rfl, rfl, t.own, rfl, rfl⟩
        · left
          have e : g.commit id = (0, (g.lg.append t.own).1, { g with op := eraseT g.op id, lg := (g.lg.append t.own).2 }) := by unfold Dk.commit; rw [ht]; simp only; rw [if_neg hc, if_neg ho, if_neg hz]
          rw [e]
          exact ⟨_, hz, rfl, rfl, rfl, rfl⟩
theorem begin_keeps (g : Dk) : g.begin.2.2.all = g.all ∧ g.begin.2.2.F = g.F ∧ g.begin.2.2.ns = g.ns := by
  unfold Dk.begin
  split
  · exact ⟨rfl, rfl, rfl⟩
  · split <;> exact ⟨rfl, rfl, rfl⟩
theorem change_keeps (g : Dk) (id : Int) (c : Chg) : (g.change id c).2.all = g.all ∧ (g.change id c).2.F = g.F ∧ (g.change id c).2.ns = g.ns := by
  unfold Dk.change
  split
  · exact ⟨rfl, rfl, rfl⟩
  · split
    · exact ⟨rfl, rfl, rfl⟩
    · split <;> exact ⟨rfl, rfl, rfl⟩
theorem flush_cases (g : Dk) (k : Nat) (ok : DkOk g k) : g.flush.2.all = g.all ∧ g.flush.2.F = g.F ∧ ((g.flush.1 = 0 ∧ g.flush.2.ns = g.all.length) ∨ (g.flush.1 = 8 ∧ g.flush.2.ns = g.ns)) := by
  refine ⟨rfl, rfl, ?_⟩
  unfold Dk.flush
  have h : g.lg.sync.1 = 0 ∨ g.lg.sync.1 = 8 := by
    unfold Lg.sync
    split
    · exact .inr rfl
    · split
      · exact .inr rfl
      · exact .inl rfl
  rcases h with h | h
  · left
    exact ⟨h, by simp [h]⟩
  · right
    exact ⟨h, by simp [h]⟩
end Go.Proofs.Ytfklhjkgogncdaa

/- What DeskTidies' calls make of a desk: plain mathematics. No conditions. -/
namespace Go.Proofs.Ytfklhjkgogncdaa
set_option linter.unusedVariables false
set_option linter.unusedSimpArgs false
open Go.RowKit

def kc : Chg := ⟨[107], [118], false⟩
def tF : Nat → (List UInt8 → List Ver)
  | 0 => fun _ => []
  | i + 1 => putV (tF i) [107] ⟨i + 1, [118], false⟩
/-- The desk behind so many first rounds. -/
structure TdI (g : Dk) (i : Nat) : Prop where
  own : OwnI g i
  ids : g.ids = i
  last : g.last = i
  F : g.F = tF i
theorem kc_ok : oneOk kc = true := by decide
theorem TdI.round {g : Dk} {i : Nat} (h : TdI g i) (hi : i < 45) (hF : NoLater g.F i) :
    ∃ g1 g2 g3, g.begin = ((i : Int) + 1, 0, g1) ∧ g1.change ((i : Int) + 1) ⟨[107], [118], false⟩ = (0, g2) ∧ g2.commit ((i : Int) + 1) = ((i : Int) + 1, 0, g3) ∧ TdI g3 (i + 1) := by
  have hb := h.own.begin1
  rw [h.ids, h.last] at hb
  have hB : (g.lg.B.length : Int) ≤ 99000 := by have := h.own.len; omega
  have hf : findT [tr0 ((i : Int) + 1) i] ((i : Int) + 1) = some (tr0 ((i : Int) + 1) i) := by rw [findT_cons, if_pos (show (tr0 ((i : Int) + 1) i).id = (i : Int) + 1 from rfl)]
  have e : Dk.change (stB g ((i : Int) + 1) [tr0 ((i : Int) + 1) i]) ((i : Int) + 1) ⟨[107], [118], false⟩ = (0, stB g ((i : Int) + 1) [⟨(i : Int) + 1, i, 0, [], [], [kc]⟩]) := by
    unfold Dk.change
    rw [show (stB g ((i : Int) + 1) [tr0 ((i : Int) + 1) i]).op = [tr0 ((i : Int) + 1) i] from rfl]
    simp only [hf]
    rw [if_neg (by decide), if_neg (by simp [tr0])]
    simp [setT_cons, setT_nil, tr0, insC, stB, kc]
  have hc := commit_one (g := stB g ((i : Int) + 1) [⟨(i : Int) + 1, i, 0, [], [], [kc]⟩]) (id := (i : Int) + 1) (t := ⟨(i : Int) + 1, i, 0, [], [], [kc]⟩) (by show findT [_] _ = _; rw [findT_cons, if_pos rfl]) rfl kc_ok hF h.own.down h.own.left h.own.room hB
  have hl : (stB g ((i : Int) + 1) [⟨(i : Int) + 1, i, 0, [], [], [kc]⟩]).last = (i : Int) := h.last
  rw [hl] at hc
  refine ⟨_, _, _, hb, e, hc, ?_, ?_, ?_, ?_⟩
  · have ha := (append_one (lg := g.lg) kc_ok h.own.down h.own.left h.own.room hB).2
    refine ⟨?_, h.own.down, h.own.left, h.own.room, ?_⟩
    · show eraseT [_] ((i : Int) + 1) = []
      rw [eraseT_cons, if_pos rfl, eraseT_nil]
    · show ((g.lg.B ++ frame _).length : Int) ≤ 763 * ((i + 1 : Nat) : Int)
      have := h.own.len
      omega
  · show (i : Int) + 1 = ((i + 1 : Nat) : Int)
    push_cast
    rfl
  · show (((g.all ++ [_]).length : Nat) : Int) = ((i + 1 : Nat) : Int)
    have := h.last
    unfold Dk.last at this
    simp
    omega
  · show appF g.F [kc] ((stB g ((i : Int) + 1) [⟨(i : Int) + 1, i, 0, [], [], [kc]⟩]).last + 1) = tF (i + 1)
    rw [hl, h.F]
    rfl
theorem TdI.new : TdI (⟨⟨-1, false, 100000, [], 0⟩, fun _ => [], [], 0, 0, [], []⟩ : Dk) 0 := ⟨⟨rfl, rfl, rfl, rfl, by simp⟩, rfl, rfl, rfl⟩
theorem tF2 : tF 2 [107] = [⟨1, [118], false⟩, ⟨2, [118], false⟩] := by
  simp [tF, putV, upd, addV]
theorem tF_other {s : List UInt8} (h : s ≠ [107]) : ∀ i, tF i s = []
  | 0 => rfl
  | i + 1 => by
    show putV (tF i) [107] _ s = []
    unfold putV
    rw [upd_other _ _ h, tF_other h i]
theorem tF2_count : Count (tF 2) 2 := by
  refine ⟨[[107]], by simp, fun s hs => ?_, by simp [tF2]⟩
  by_cases e : s = [107]
  · simp [e]
  · exact absurd (tF_other e 2) hs
theorem colF2_at : colF (tF 2) 2 [107] = [⟨2, [118], false⟩] := by
  unfold colF
  rw [tF2]
  rfl
theorem colF2_count : Count (colF (tF 2) 2) 1 := by
  refine ⟨[[107]], by simp, fun s hs => ?_, by simp [colF2_at]⟩
  by_cases e : s = [107]
  · simp [e]
  · exact absurd (by unfold colF; rw [tF_other e 2, colL_nil]) hs
theorem TdI.tidied {g : Dk} (h : TdI g 2) {N j : Nat} (h1 : Count (colF g.F (leastS g.last g.op)) N) (h2 : Count g.F (j + N)) : j = 1 ∧ N = 1 := by
  have e : leastS g.last g.op = 2 := by rw [h.own.op, h.last]; rfl
  rw [e, h.F] at h1
  rw [h.F] at h2
  have := h1.unique colF2_count
  have := h2.unique tF2_count
  omega
/-- The desk among the steps: nothing was asked. -/
structure TdJ (g : Dk) (ids : List Int) : Prop where
  zero : ∀ t ∈ g.op, t.asked = 0
  rise : ids.Pairwise (· < ·)
  le : ∀ x ∈ ids, 1 ≤ x ∧ x ≤ g.ids
section
variable {g g' : Dk} {ids : List Int}
theorem TdJ.begin (h : TdJ g ids) (h0 : 0 ≤ g.ids) : (∃ x, x ≠ 0 ∧ g.begin.2.1 = x ∧ TdJ g.begin.2.2 ids) ∨ (g.begin.2.1 = 0 ∧ g.begin.1 = g.ids + 1 ∧ TdJ g.begin.2.2 (ids ++ [g.ids + 1])) := by
  unfold Dk.begin
  split
  · exact .inl ⟨3, by decide, rfl, h⟩
  · split
    · exact .inl ⟨8, by decide, rfl, h⟩
    · refine .inr ⟨rfl, rfl, ?_, ?_, ?_⟩
      · intro t ht
        rcases List.mem_append.1 ht with ht | ht
        · exact h.zero t ht
        · simp at ht
          subst ht
          rfl
      · rw [List.pairwise_append]
        refine ⟨h.rise, by simp, fun a ha b hb => ?_⟩
        simp at hb
        have := (h.le a ha).2
        omega
      · intro x hx
        rcases List.mem_append.1 hx with hx | hx
        · have := h.le x hx
          refine ⟨this.1, ?_⟩
          show x ≤ g.ids + 1
          omega
        · simp at hx
          subst hx
          refine ⟨by omega, Int.le_refl _⟩
theorem TdJ.change (h : TdJ g ids) (id : Int) (c : Chg) : TdJ (g.change id c).2 ids := by
  unfold Dk.change
  split
  · exact h
  · rename_i t ht
    split
    · exact h
    · split
      · exact h
      · refine ⟨fun u hu => ?_, h.rise, h.le⟩
        obtain ⟨x, hx, rfl⟩ := List.mem_map.1 hu
        split
        · exact h.zero t (findT_mem ht).1
        · exact h.zero x hx
theorem TdJ.close {id : Int} (h : TdJ g ids) (hop : g'.op = eraseT g.op id) (hi : g'.ids = g.ids) : TdJ g' ids :=
  ⟨fun t ht => by rw [hop] at ht; exact h.zero t (List.mem_filter.1 ht).1, h.rise, by rw [hi]; exact h.le⟩
theorem TdJ.commit (h : TdJ g ids) (id : Int) : TdJ (g.commit id).2.2 ids := by
  unfold Dk.commit
  split
  · exact h
  · split
    · exact h.close rfl rfl
    · split
      · exact h.close rfl rfl
      · split
        · exact h.close rfl rfl
        · exact h.close rfl rfl
end
/-- What one sees of a transaction. -/
def vw (l : List Tr) (id : Int) : Option (Int × List Chg) := (findT l id).map (fun t => (t.sees, t.own))
/-- The same desk, asked more. -/
structure Ask (g0 g : Dk) : Prop where
  F : g.F = g0.F
  all : g.all = g0.all
  ids : g.ids = g0.ids
  view : ∀ id, vw g.op id = vw g0.op id
  sees : g.op.map Tr.sees = g0.op.map Tr.sees
theorem Ask.refl (g : Dk) : Ask g g := ⟨rfl, rfl, rfl, fun _ => rfl, rfl⟩
theorem Ask.trans {a b c : Dk} (h : Ask a b) (k : Ask b c) : Ask a c := ⟨k.F.trans h.F, k.all.trans h.all, k.ids.trans h.ids, fun id => (k.view id).trans (h.view id), k.sees.trans h.sees⟩
theorem Ask.last {a b : Dk} (h : Ask a b) : b.last = a.last := by unfold Dk.last; rw [h.all]
theorem leastS_map (last : Int) (l : List Tr) : leastS last l = (l.map Tr.sees).foldl (fun m x => if x < m then x else m) last := by
  unfold leastS
  rw [List.foldl_map]
theorem Ask.least {a b : Dk} (h : Ask a b) : leastS b.last b.op = leastS a.last a.op := by rw [leastS_map, leastS_map, h.sees, h.last]
theorem leastT_le : ∀ (l : List Tr) (last : Int), leastS last l ≤ last ∧ ∀ t ∈ l, leastS last l ≤ t.sees
  | [], last => ⟨Int.le_refl _, fun t ht => by cases ht⟩
  | t :: l, last => by
    obtain ⟨h1, h2⟩ := leastT_le l (if t.sees < last then t.sees else last)
    have e : leastS last (t :: l) = leastS (if t.sees < last then t.sees else last) l := rfl
    rw [e]
    refine ⟨?_, fun u hu => ?_⟩
    · split at h1 <;> rename_i c
      · rw [if_pos c]; omega
      · rw [if_neg c]; exact h1
    · rcases List.mem_cons.1 hu with rfl | hu
      · split at h1 <;> rename_i c
        · rw [if_pos c]; exact h1
        · rw [if_neg c]; omega
      · exact h2 u hu
theorem vw_set {l : List Tr} {u t : Tr} (ht : findT l u.id = some t) (hs : u.sees = t.sees) (ho : u.own = t.own) (id : Int) : vw (setT l u) id = vw l id := by
  unfold vw
  by_cases e : id = u.id
  · subst e
    rw [findT_set_same ht, ht]
    simp [hs, ho]
  · rw [findT_set_other e]
theorem sees_set {l : List Tr} (hn : (l.map Tr.id).Nodup) {u t : Tr} (ht : findT l u.id = some t) (hs : u.sees = t.sees) : (setT l u).map Tr.sees = l.map Tr.sees := by
  unfold setT
  rw [List.map_map]
  apply List.map_congr_left
  intro x hx
  simp only [Function.comp]
  split
  · rename_i e
    have := (findT_iff hn).2 ⟨hx, e⟩
    rw [ht] at this
    injection this with this
    rw [hs, this]
  · rfl
theorem Ask.set {g : Dk} (hn : (g.op.map Tr.id).Nodup) {u t : Tr} (ht : findT g.op u.id = some t) (hs : u.sees = t.sees) (ho : u.own = t.own) : Ask g { g with op := setT g.op u } :=
  ⟨rfl, rfl, rfl, fun id => vw_set ht hs ho id, sees_set hn ht hs⟩
theorem Ask.get {g : Dk} (hn : (g.op.map Tr.id).Nodup) (id : Int) (key : List UInt8) : Ask g (g.get id key).2.2 := by
  unfold Dk.get
  split
  · exact Ask.refl _
  · rename_i t ht
    split
    · exact Ask.refl _
    · split
      · exact Ask.refl _
      · exact Ask.set hn (u := { t with asked := t.asked + 1, keys := t.keys ++ [key] }) (t := t) (by show findT g.op t.id = _; rw [(findT_mem ht).2]; exact ht) rfl rfl
theorem Ask.range {g : Dk} (hn : (g.op.map Tr.id).Nodup) (id : Int) (lo hi : List UInt8) : Ask g (g.range id lo hi).2 := by
  unfold Dk.range
  split
  · exact Ask.refl _
  · rename_i t ht
    split
    · exact Ask.refl _
    · exact Ask.set hn (u := { t with asked := t.asked + 1, spans := t.spans ++ [(lo, hi)] }) (t := t) (by show findT g.op t.id = _; rw [(findT_mem ht).2]; exact ht) rfl rfl
/-- How often was asked: by those of a list twice more. -/
def AskN (g : Dk) (s : List Int) (a : Int) : Prop := ∀ t ∈ g.op, (t.id ∉ s → t.asked ≤ a) ∧ (t.id ∈ s → t.asked ≤ a + 2)
def AskM (g : Dk) (s : List Int) (id a : Int) : Prop := ∀ t ∈ g.op, (t.id ∉ s → t.id ≠ id → t.asked ≤ a) ∧ (t.id ∈ s → t.asked ≤ a + 2) ∧ (t.id = id → t.asked ≤ a + 1)
section
variable {g : Dk} {s : List Int} {a id : Int}
theorem AskN.get (h : AskN g s a) (hs : id ∉ s) (key : List UInt8) : AskM (g.get id key).2.2 s id a := by
  have h0 : AskM g s id a := fun t ht => ⟨fun q _ => (h t ht).1 q, (h t ht).2, fun q => by have := (h t ht).1 (by rw [q]; exact hs); omega⟩
  unfold Dk.get
  split
  · exact h0
  · rename_i t ht
    split
    · exact h0
    · split
      · exact h0
      · intro u hu
        obtain ⟨x, hx, rfl⟩ := List.mem_map.1 hu
        obtain ⟨t1, t2⟩ := findT_mem ht
        split
        · have := (h t t1).1 (by rw [t2]; exact hs)
          refine ⟨fun _ q => absurd t2 q, fun q => absurd (t2 ▸ q) hs, fun _ => ?_⟩
          show t.asked + 1 ≤ a + 1
          omega
        · exact h0 x hx
theorem AskM.range (h : AskM g s id a) (hs : id ∉ s) (lo hi : List UInt8) : AskN (g.range id lo hi).2 (s ++ [id]) a := by
  have h0 : AskN g (s ++ [id]) a := fun t ht => by
    obtain ⟨h1, h2, h3⟩ := h t ht
    refine ⟨fun q => ?_, fun q => ?_⟩
    · rw [List.mem_append, not_or, List.mem_singleton] at q
      exact h1 q.1 q.2
    · rcases List.mem_append.1 q with q | q
      · exact h2 q
      · have := h3 (by simpa using q)
        omega
  unfold Dk.range
  split
  · exact h0
  · rename_i t ht
    split
    · exact h0
    · intro u hu
      obtain ⟨x, hx, rfl⟩ := List.mem_map.1 hu
      obtain ⟨t1, t2⟩ := findT_mem ht
      split
      · have := (h t t1).2.2 t2
        refine ⟨fun q => absurd (show t.id ∈ s ++ [id] by rw [t2]; simp) q, fun _ => ?_⟩
        show t.asked + 1 ≤ a + 2
        omega
      · exact h0 x hx
end
def noneT : List UInt8 := [110, 111, 110, 101]
/-- What is told of a key. -/
def gotW (F : List UInt8 → List Ver) (v : Option (Int × List Chg)) (key : List UInt8) : List UInt8 := match v with
  | none => noneT
  | some p => if keyB key = false then noneT else match over F p.2 p.1 key with
    | some x => x
    | none => noneT
def RangeW (F : List UInt8 → List Ver) (v : Option (Int × List Chg)) (lo hi : List UInt8) (L : List KV) : Prop := match v with
  | none => L = []
  | some p => OverIs F p.2 lo hi p.1 L
section
variable {g : Dk} {s : List Int} {a id : Int}
theorem get_told (h : AskN g s a) (ha : a ≤ 50) (hs : id ∉ s) (key : List UInt8) : ((g.get id key).2.1 = 0 ∧ (g.get id key).1 = gotW g.F (vw g.op id) key) ∨ (∃ x, x ≠ 0 ∧ (g.get id key).2.1 = x ∧ gotW g.F (vw g.op id) key = noneT) := by
  unfold Dk.get vw gotW
  cases ht : findT g.op id with
  | none => exact .inr ⟨4, by decide, rfl, rfl⟩
  | some t =>
    simp only [Option.map_some]
    obtain ⟨t1, t2⟩ := findT_mem ht
    have := (h t t1).1 (by rw [t2]; exact hs)
    by_cases hk : keyB key = false
    · rw [if_pos hk, if_pos hk]
      exact .inr ⟨2, by decide, rfl, rfl⟩
    · rw [if_neg hk, if_neg hk, if_neg (show ¬ t.asked = 100 by omega)]
      unfold getO
      cases over g.F t.own t.sees key with
      | some x => exact .inl ⟨rfl, rfl⟩
      | none => exact .inr ⟨4, by decide, rfl, rfl⟩
theorem range_told (h : AskM g s id a) (ha : a ≤ 50) {lo hi : List UInt8} {L : List KV} (hL : RangeO g id lo hi L) : RangeW g.F (vw g.op id) lo hi L ∧ ((g.range id lo hi).1 ≠ 0 → L = []) := by
  unfold RangeO at hL
  unfold vw RangeW Dk.range
  cases ht : findT g.op id with
  | none =>
    rw [ht] at hL
    exact ⟨hL, fun _ => hL⟩
  | some t =>
    rw [ht] at hL
    simp only [Option.map_some] at hL ⊢
    obtain ⟨t1, t2⟩ := findT_mem ht
    have := (h t t1).2.2 t2
    rw [if_neg (show ¬ t.asked = 100 by omega)] at hL ⊢
    exact ⟨hL, fun q => absurd rfl q⟩
end
theorem Ask.get_told {g0 g : Dk} {s : List Int} {a id : Int} (hA : Ask g0 g) (h : AskN g s a) (ha : a ≤ 50) (hs : id ∉ s) (key : List UInt8) : ((g.get id key).2.1 = 0 ∧ (g.get id key).1 = gotW g0.F (vw g0.op id) key) ∨ (∃ x, x ≠ 0 ∧ (g.get id key).2.1 = x ∧ gotW g0.F (vw g0.op id) key = noneT) := by
  rw [← hA.F, ← hA.view]
  exact Proofs.Ytfklhjkgogncdaa.get_told h ha hs key
theorem Ask.range_told {g0 g : Dk} {s : List Int} {a id : Int} (hA : Ask g0 g) (h : AskM g s id a) (ha : a ≤ 50) {lo hi : List UInt8} {L : List KV} (hL : RangeO g id lo hi L) : RangeW g0.F (vw g0.op id) lo hi L ∧ (((g.range id lo hi).1 = 0) ∨ ∃ x, x ≠ 0 ∧ (g.range id lo hi).1 = x ∧ L = []) := by
  obtain ⟨h1, h2⟩ := Proofs.Ytfklhjkgogncdaa.range_told h ha hL
  rw [hA.F, hA.view] at h1
  refine ⟨h1, ?_⟩
  by_cases e : (g.range id lo hi).1 = 0
  · exact .inl e
  · exact .inr ⟨_, e, rfl, h2 e⟩
section
variable {F : List UInt8 → List Ver} {top a : Int} {m : Nat} {v : Option (Int × List Chg)}
theorem over_col (hg : Good F top m) {n : Int} (h : a ≤ n) (own : List Chg) (s : List UInt8) : over (colF F a) own n s = over F own n s := by
  unfold over
  rw [tell_colF hg h]
theorem gotW_col (hg : Good F top m) (hv : ∀ p, v = some p → a ≤ p.1) (key : List UInt8) : gotW (colF F a) v key = gotW F v key := by
  unfold gotW
  cases v with
  | none => rfl
  | some p => simp only; rw [over_col hg (hv p rfl)]
theorem rangeW_col (hg : Good F top m) (hv : ∀ p, v = some p → a ≤ p.1) {lo hi : List UInt8} {L L' : List KV} (h : RangeW F v lo hi L) (h' : RangeW (colF F a) v lo hi L') : L' = L := by
  unfold RangeW at h h'
  cases v with
  | none => exact h'.trans h.symm
  | some p => exact h'.ext h (fun s _ => over_col hg (hv p rfl) p.2 s)
theorem vw_least {l : List Tr} {last id : Int} {p : Int × List Chg} (h : vw l id = some p) : leastS last l ≤ p.1 := by
  unfold vw at h
  cases ht : findT l id with
  | none => rw [ht] at h; cases h
  | some t =>
    rw [ht] at h
    simp only [Option.map_some, Option.some.injEq] at h
    rw [← h]
    exact (leastT_le l last).2 t (findT_mem ht).1
end
/-- What the open ones were told, so far. -/
structure Told (g : Dk) (ids : List Int) (key lo hi : List UInt8) (gs : List (List UInt8)) (Ls : List (List KV)) (i : Nat) : Prop where
  gs : gs = (ids.take i).map (fun id => gotW g.F (vw g.op id) key)
  len : Ls.length = i
  rs : ∀ j (h : j < ids.length) (h' : j < Ls.length), RangeW g.F (vw g.op ids[j]) lo hi Ls[j]
section
variable {g : Dk} {ids : List Int} {key lo hi : List UInt8} {gs : List (List UInt8)} {Ls : List (List KV)} {i : Nat}
theorem Told.nil : Told g ids key lo hi [] [] 0 := ⟨rfl, rfl, fun j _ h => by simp at h⟩
theorem Told.glen (h : Told g ids key lo hi gs Ls i) (hi' : i ≤ ids.length) : gs.length = i := by rw [h.gs]; simp; omega
theorem Told.snoc (h : Told g ids key lo hi gs Ls i) (hi' : i < ids.length) {x : List UInt8} {L : List KV} (hx : x = gotW g.F (vw g.op ids[i]) key) (hL : RangeW g.F (vw g.op ids[i]) lo hi L) : Told g ids key lo hi (gs ++ [x]) (Ls ++ [L]) (i + 1) := by
  refine ⟨?_, by simp [h.len], fun j h1 h2 => ?_⟩
  · rw [List.take_succ_eq_append_getElem hi', List.map_append, ← h.gs, hx]
    rfl
  · rcases Nat.lt_or_ge j Ls.length with c | c
    · rw [List.getElem_append_left c]
      exact h.rs j h1 c
    · have e : j = Ls.length := by simp at h2; omega
      have e2 : j = i := by rw [e, h.len]
      subst e2
      rw [List.getElem_append_right c]
      simpa using hL
theorem Told.got (h : Told g ids key lo hi gs Ls ids.length) {j : Nat} (hj : j < ids.length) : ∃ h' : j < gs.length, gs[j] = gotW g.F (vw g.op ids[j]) key := by
  have hl := h.glen (Nat.le_refl _)
  refine ⟨by omega, ?_⟩
  have e := h.gs
  rw [List.take_length] at e
  subst e
  simp
end
theorem rise_notin {ids : List Int} (h : ids.Pairwise (· < ·)) {i : Nat} (hi : i < ids.length) : ids[i] ∉ ids.take i := by
  intro q
  obtain ⟨j, hj, e⟩ := List.getElem_of_mem q
  rw [List.getElem_take] at e
  have hji : j < i := by simp at hj; omega
  have := (List.pairwise_iff_getElem.1 h) j i (by omega) hi hji
  omega
theorem AskN.start {g : Dk} {ids : List Int} (h : TdJ g ids) : AskN g [] 0 := fun t ht => ⟨fun _ => by have := h.zero t ht; omega, fun q => by cases q⟩
theorem AskN.again {g : Dk} {ids : List Int} (h : AskN g ids 0) : AskN g [] 2 := fun t ht => ⟨fun _ => by
  by_cases e : t.id ∈ ids
  · exact (h t ht).2 e
  · have := (h t ht).1 e; omega, fun q => by cases q⟩
theorem take_snoc {ids : List Int} {i : Nat} (hi : i < ids.length) : ids.take (i + 1) = ids.take i ++ [ids[i]] := List.take_succ_eq_append_getElem hi
end Go.Proofs.Ytfklhjkgogncdaa
