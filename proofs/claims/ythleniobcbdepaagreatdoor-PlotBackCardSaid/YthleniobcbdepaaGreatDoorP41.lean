/- Parts of the proof; conditions: as each theorem says. -/
import Derived.Test.YthleniobcbdepaaGreatDoorP38
import Derived.Test.YthleniobcbdepaaGreatDoorP40
set_option linter.unusedVariables false
set_option linter.unusedSimpArgs false
namespace Go.Proofs.YthleniobcbdepaaGreatDoor
open Go.RowKit
open Go.ChangeMaps (setBlock)
section
variable {B : Nat} {w : World} {T : Nat → Prop} {d : Nat} {g : Dk} {id : Int} {k : Nat}
theorem DeskS.abort_s {S : Nat → Prop} (h : DeskS w S d g k) (hS : ∀ q, w.heap.size ≤ q → S q) (hid : (Lit.int .i64 id).wf = true) :
  Calls Tryz.prog 25 #[ptrV d, intV id] w fun e w' => e = .returned (faultV (g.abort id).1) ∧ Fr S w w' ∧ DeskS w' S d (g.abort id).2 k := by
 have okn : DkOk (g.abort id).2 k := by
  unfold Dk.abort
  cases findT g.op id with
  | none => exact h.ok
  | some t => exact h.ok.close id
 obtain ⟨⟨O, M, h1, h2⟩, ok⟩ := h
 exact (h2.abort_to hid).mono fun e w' q => ⟨q.1, q.2.up h1 hS okn⟩
theorem DK.abort (h : DK B w T d g k) (hid : (Lit.int .i64 id).wf = true) :
  Calls Tryz.prog 25 #[ptrV d, intV id] w fun e w' => e = .returned (faultV (g.abort id).1) ∧ ∃ T', DKto B w T d w' T' (g.abort id).2 k :=
 (h.plus.abort_s (fun q e => .inr e) hid).mono fun e w' q => ⟨q.1, h.to q.2.1 q.2.2⟩
end
theorem mapStr : Tryz.prog.underlying 61 = some (.map 9 3) := Tryz.underlying61
def Hl.new (room : Int) : Hl := ⟨Dk.new room, []⟩
theorem hallNew_ok (room : Int) (hr : 0 ≤ room ∧ room ≤ 100000) {B : Nat} (w : World) (hB : B ≤ w.heap.size) (hV : GV B w) :
  Calls Tryz.prog 6 #[.int .i64 room] w fun e w' => ∃ a T, e = .returned (.tuple #[ptrV a, .nilIface]) ∧ HK B w' T a (Hl.new room) 0 ∧ (∀ q, T q → w.heap.size ≤ q) ∧ Below w.heap.size w w' := by
 have HD := Lib.hid (deskNew_ok room hr w)
 have HGV := Lib.hid hV
 clear hV
 go_enter Tryz.func6, Tryz.ntmps6
 go_wp2_with fail
 refine HD.out.mono ?_
 rintro e w1 ⟨d, rfl, hd, hS, hb1⟩
 have HS := Lib.hid hS.tight
 have HB1 := Lib.hid hb1
 clear hS hb1
 have hmk := run_makeMap (P := Tryz.prog) 61 w1
 go_wp2
 go_ret2
 have hs1 := HB1.out.size
 have h1 : ∀ (W : World) (o : Obj), (W.alloc o).heap.size = W.heap.size + 1 := fun W o => by simp
 have hb2 : Below w1.heap.size w1 (w1.alloc (.map #[] 0)) := (Below.refl _ _).alloc (Nat.le_refl _) _
 have hb3 : Below w1.heap.size w1 ((w1.alloc (.map #[] 0)).alloc (.cells #[ptrV d, .map (some w1.heap.size)] 63)) := hb2.alloc (by simp only [h1]; omega) _
 have hBk := Blk.new (w1.alloc (.map #[] 0)) 63 #[ptrV d, .map (some w1.heap.size)]
 have hF := (FMap.new (P := Tryz.prog) (k := 9) (kv := txt) (ev := intV) w1).below (w' := (w1.alloc (.map #[] 0)).alloc (.cells #[ptrV d, .map (some w1.heap.size)] 63)) (B := w1.heap.size + 1) (by have := (Below.refl (w1.heap.size + 1) (w1.alloc (.map #[] 0))).alloc (by simp) (.cells #[ptrV d, .map (some w1.heap.size)] 63); exact this) (by omega)
 rw [h1] at hBk
 have hsz : ((w1.alloc (.map #[] 0)).alloc (.cells #[ptrV d, .map (some w1.heap.size)] 63)).heap.size = w1.heap.size + 2 := by simp only [h1]
 generalize hW : (w1.alloc (.map #[] 0)).alloc (.cells #[ptrV d, .map (some w1.heap.size)] 63) = w3 at *
 have hbA : Below w.heap.size w w3 := HB1.out.trans (hb3.mono hs1)
 have D : DK B w3 (fun q => w.heap.size ≤ q ∧ q < w1.heap.size) d (Dk.new room) 0 :=
  ⟨HS.out.below hb3, fun q e => by have := e.2; omega, fun q e => by have := e.1; omega, by omega, HGV.out.on (hbA.mono hB)⟩
 refine ⟨w1.heap.size + 1, fun q => w.heap.size ≤ q ∧ q < w3.heap.size, by simp [hW], ⟨⟨d, w1.heap.size, _, #[], 0, D, hBk, hF, by omega, by omega, by omega, by omega, fun q e => ⟨e.1, by have := e.2; omega⟩, by omega⟩, ⟨by simp [Hl.new], by simp [Hl.new], by simp [Hl.new]⟩, fun q e => e.2, fun q e => by have := e.1; omega⟩, fun q e => e.1, hbA⟩
section
variable {B : Nat} {w : World} {T : Nat → Prop} {a : Nat} {h : Hl} {k : Nat}
theorem begin_zero {g : Dk} (h : g.begin.2.1 = 0) : g.begin.1 = g.ids + 1 := by
 unfold Dk.begin at h ⊢
 split
 ·rename_i q; rw [if_pos q] at h; exact absurd h (by simp)
 ·rename_i q
  rw [if_neg q] at h
  split
  ·rename_i q2; rw [if_pos q2] at h; exact absurd h (by simp)
  ·rfl
theorem HlOk.add {d : Dk} (o : HlOk h k) {who : List UInt8} {id : Int} (hn : findH h.op who = none) (hid : (Lit.int .i64 id).wf = true) : HlOk ⟨d, h.op ++ [(who, id)]⟩ (k + 1) := by
 refine ⟨?_, fun p hp => ?_, by have := o.len; simp; omega⟩
 ·show ((h.op ++ [(who, id)]).map Prod.fst).Nodup
  rw [List.map_append, List.nodup_append]
  refine ⟨o.nod, by simp, ?_⟩
  intro x hx y hy e
  simp at hy
  subst hy
  subst e
  exact findH_none.1 hn hx
 ·rcases List.mem_append.1 hp with hp | hp
  ·exact o.ids p hp
  ·simp at hp
   subst hp
   exact hid
theorem HlOk.del {d : Dk} (o : HlOk h k) (who : List UInt8) : HlOk ⟨d, eraseH h.op who⟩ k :=
 ⟨o.nod.sublist (List.filter_sublist.map _), fun p hp => o.ids p (List.mem_filter.1 hp).1, Nat.le_trans (List.length_filter_le _ _) o.len⟩
theorem hall_count {d m : Nat} {es : Array MapEntry} {clock : Nat} (o : HlOk h k) (hF : FMap w Tryz.prog 9 m es clock txt intV (findH h.op)) : es.size = h.op.length := by
 have := hF.count txtV_inj o.nod (fun s => by
  constructor
  ·intro hs e
   exact findH_none.1 e hs
  ·intro hs
   cases e : findH h.op s with
   | none => exact absurd e hs
   | some id => exact List.mem_map.2 ⟨(s, id), findH_mem e, rfl⟩)
 simpa using this
theorem len_max {s : List UInt8} (h : s.length ≤ 9223372036854775807) : s.length ≤ maxLen := by unfold maxLen; omega
set_option maxHeartbeats 2000000 in
theorem HK.open_h (o : HK B w T a h k) (hk : k ≤ 30000) (who : List UInt8) (hw : who.length ≤ 9223372036854775807) :
  Calls Tryz.prog 8 #[ptrV a, txt who] w fun e w' => e = .returned (faultV (h.open who).1) ∧ ∃ T', HKto B w T a w' T' (h.open who).2 (k + 1) := by
 have HNM := Lib.hid (name_txt who hw w)
 have HO := Lib.hid o
 clear o
 go_enter Tryz.func8, Tryz.ntmps8
 go_wp2_with fail
 refine HNM.out.mono ?_
 rintro e w1 ⟨rfl, hb1⟩
 have hR1 := (HO.out.refl.bel hb1).more (show k ≤ k + 1 by omega)
 have HR1 := Lib.hid hR1
 have HT0 := Lib.hid (HO.out.refl.bel hb1)
 clear hR1 hb1 HO HNM
 cases hn : nameB who with
 | false =>
  have HR := Lib.hid (show h.open who = (5, h) by unfold Hl.open; rw [if_pos hn])
  rw [show NameV false = .iface 50 (.int .i64 5) from rfl]
  clear hn
  go_wp2
  go_ret
  exact ⟨by rw [HR.out]; rfl, T, by rw [HR.out]; exact HR1.out⟩
 | true =>
  rw [show NameV true = .nilIface from rfl]
  have ho1 := HT0.out.hk
  have HOK := Lib.hid ho1.ok
  obtain ⟨d, m, To, es, clock, q1, q2, q3, q4, q5, q6, q7, q8, q9⟩ := ho1.ex
  have e0 := q2.cell 0
  have e1 := q2.cell 1
  simp at e0 e1
  obtain ⟨kl, hkl⟩ := txt_key who (len_max hw)
  rcases q3.look strKey mapStr (zeroInt w1) who hkl true with ⟨hf, hrun⟩ | ⟨id, hf, hrun⟩
  ·simp only [if_true] at hrun
   have HF := Lib.hid hf
   have hV : h.open who = if h.d.begin.2.1 ≠ 0 then (h.d.begin.2.1, { h with d := h.d.begin.2.2 }) else (0, ⟨h.d.begin.2.2, h.op ++ [(who, h.d.begin.1)]⟩) := by
    unfold Hl.open; rw [if_neg (by rw [hn]; simp), if_neg (by rw [hf]; simp)]
   have HV := Lib.hid hV
   have HBG := Lib.hid (q1.begin (by omega))
   have HBZ := Lib.hid (begin_zero (g := h.d))
   have HIDS := Lib.hid (show 0 ≤ h.d.ids ∧ h.d.ids ≤ (k : Int) from q1.s.ok.hids)
   have HQ2 := Lib.hid q2
   have HQ3 := Lib.hid q3
   have HQ := Lib.hid (show ¬ To a ∧ ¬ To m ∧ T a ∧ T m ∧ (∀ q, To q → T q) ∧ a ≠ m from ⟨q4, q5, q6, q7, q8, q9⟩)
   clear hn hf q1 q2 q3 q4 q5 q6 q7 q8 q9 ho1 hV
   generalize h.d.begin = r at *
   go_wp2_with fail
   refine HBG.out.mono ?_
   rintro e w2 ⟨rfl, To2, hD2⟩
   obtain ⟨q4, q5, q6, q7, q8, q9⟩ := HQ.out
   obtain ⟨T2, hH2, t1, t2, t3⟩ := HT0.out.hk.desk HQ2.out HQ3.out q4 q5 q6 q7 q8 q9 hD2 (by omega)
   have HH2 := Lib.hid hH2
   have HD2 := Lib.hid hD2
   have HB2 := Lib.hid (HQ2.out.fr hD2.fr q4)
   have HM2 := Lib.hid (HQ3.out.far hD2.fr q5)
   have HQ2' := Lib.hid (show ¬ To2 a ∧ ¬ To2 m ∧ T2 a ∧ T2 m ∧ (∀ q, To2 q → T2 q) ∧ a ≠ m from ⟨hD2.outs HQ2.out.lt q4, hD2.outs HQ3.out.map.lt q5, t1, t2, t3, q9⟩)
   clear hrun e0 e1 hD2 hH2 q4 q5 q6 q7 q8 q9 t1 t2 t3 HBG
   obtain ⟨id, f, g2⟩ := r
   dsimp only at HV HBZ
   by_cases hz : f ≠ 0
   ·have HR := Lib.hid (show h.open who = (f, ⟨g2, h.op⟩) by rw [HV.out, if_pos hz])
    have HFN := Lib.hid (show faultV f = .iface 50 (.int .i64 f) by unfold faultV; rw [if_neg hz])
    rw [HFN.out]
    clear hz
    go_wp2
    go_ret
    exact ⟨by rw [HR.out, HFN.out]; rfl, T2, by rw [HR.out]; exact HT0.out.step HH2.out⟩
   ·obtain rfl : f = 0 := Decidable.not_not.1 hz
    have HR := Lib.hid (show h.open who = (0, ⟨g2, h.op ++ [(who, id)]⟩) by rw [HV.out, if_neg (by simp)])
    rw [show faultV 0 = .nilIface from rfl]
    have hid : (Lit.int .i64 id).wf = true := wf_i64 (by rw [HBZ.out rfl]; have := HIDS.out; omega)
    have e0 := HB2.out.cell 0
    have e1 := HB2.out.cell 1
    simp at e0 e1
    obtain ⟨es', clock', hrun, s1, s2, s3, s4⟩ := HM2.out.store strKey mapStr (by have := hall_count (d := d) HOK.out HM2.out; have := HOK.out.len; unfold maxLen; omega) txtV_inj who id hkl
    have HOK2 := Lib.hid (HOK.out.add (d := g2) HF.out hid)
    rw [← findH_add HF.out] at s1
    have HS1 := Lib.hid s1
    have HS2 := Lib.hid s2
    have HS3 := Lib.hid s3
    clear hz hid s1 s2 s3 s4
    go_wp2
    go_ret
    obtain ⟨q4, q5, q6, q7, q8, q9⟩ := HQ2'.out
    have hX := HH2.out.hk.turn (k := k + 1) HD2.out.dk HB2.out HM2.out q4 q5 q6 q7 q8 q9 HS2.out HS3.out HS1.out HOK2.out
    exact ⟨by rw [HR.out]; rfl, T2, by rw [HR.out]; exact HT0.out.step (HH2.out.step hX.1)⟩
  ·simp only [if_true] at hrun
   have HR := Lib.hid (show h.open who = (6, h) by unfold Hl.open; rw [if_neg (by rw [hn]; simp), if_pos (by rw [hf]; rfl)])
   clear hn hf q1 q2 q3 ho1
   go_wp2
   go_ret
   exact ⟨by rw [HR.out]; rfl, T, by rw [HR.out]; exact HR1.out⟩
set_option maxHeartbeats 2000000 in
theorem HK.close_h (o : HK B w T a h k) (hk : k ≤ 30000) (who : List UInt8) (hw : who.length ≤ 9223372036854775807) :
  Calls Tryz.prog 10 #[ptrV a, txt who] w fun e w' => e = .returned (.tuple #[.int .i64 (h.close who).1, faultV (h.close who).2.1]) ∧ ∃ T', HKto B w T a w' T' (h.close who).2.2 (k + 1) := by
 have HO := Lib.hid o
 have HOK := Lib.hid o.ok
 obtain ⟨d, m, To, es, clock, q1, q2, q3, q4, q5, q6, q7, q8, q9⟩ := o.ex
 have e0 := q2.cell 0
 have e1 := q2.cell 1
 simp at e0 e1
 obtain ⟨kl, hkl⟩ := txt_key who (len_max hw)
 rcases q3.look strKey mapStr (zeroInt w) who hkl true with ⟨hf, hrun⟩ | ⟨id, hf, hrun⟩
 ·simp only [if_true] at hrun
  have HR := Lib.hid (show h.close who = (0, 4, h) by unfold Hl.close; rw [hf])
  clear o hf q1 q2 q3
  go_enter Tryz.func10, Tryz.ntmps10
  go_wp2
  go_ret2
  exact ⟨by rw [HR.out]; rfl, T, by rw [HR.out]; exact HO.out.refl.more (by omega)⟩
 ·simp only [if_true] at hrun
  have HR := Lib.hid (show h.close who = ((h.d.commit id).1, (h.d.commit id).2.1, ⟨(h.d.commit id).2.2, eraseH h.op who⟩) by unfold Hl.close; rw [hf])
  obtain ⟨es', hdel, s1, s2, s3⟩ := q3.drop (ty := 0) strKey mapStr txtV_inj who hkl
  rw [← findH_erase] at s1
  obtain ⟨hX, hD, hBk⟩ := HO.out.turn q1 q2 q3 q4 q5 q6 q7 q8 q9 s2 s3 s1 (HOK.out.del who)
  have hid := HOK.out.ids _ (findH_mem hf)
  have HC := Lib.hid (hD.commit (id := id) (by omega) hid)
  have HX := Lib.hid hX
  have HBK := Lib.hid hBk
  have HM := Lib.hid s1
  have HQ := Lib.hid (show ¬ To a ∧ ¬ To m ∧ T a ∧ T m ∧ (∀ q, To q → T q) ∧ a ≠ m from ⟨q4, q5, q6, q7, q8, q9⟩)
  have f0 := hBk.cell 0
  have f1 := hBk.cell 1
  simp at f0 f1
  clear o hf q1 q2 q3 q4 q5 q6 q7 q8 q9 hX hD hBk s1 s2 s3
  go_enter Tryz.func10, Tryz.ntmps10
  go_wp2_with fail
  refine HC.out.mono ?_
  rintro e w2 ⟨rfl, To2, hD2⟩
  obtain ⟨q4, q5, q6, q7, q8, q9⟩ := HQ.out
  obtain ⟨T2, hH2, t1, t2, t3⟩ := HX.out.hk.desk HBK.out HM.out q4 q5 q6 q7 q8 q9 hD2 (by omega)
  have HH2 := Lib.hid (HX.out.step hH2)
  clear hD2 hH2 q4 q5 q6 q7 q8 q9 t1 t2 t3 HC f0 f1 e0 e1 hrun hdel
  go_wp2
  go_ret2
  exact ⟨by rw [HR.out]; rfl, T2, by rw [HR.out]; exact HH2.out⟩
theorem HK.all_h (o : HK B w T a h k) (hk : k ≤ 30000) :
  Calls Tryz.prog 14 #[ptrV a] w fun e w' => ∃ v L, e = .returned v ∧ OwnKV w' w.heap.size v L ∧ RangeIs h.d.F [] topKey h.d.last L ∧ L.length ≤ 800000 ∧ Below w.heap.size w w' := by
 obtain ⟨d, m, To, es, clock, q1, q2, _⟩ := o.ex
 have e0 := q2.cell 0
 simp at e0
 have HC := Lib.hid (q1.s.all_s (by omega))
 clear q1 q2 o
 go_enter Tryz.func14, Tryz.ntmps14
 go_wp2_with fail
 refine HC.out.mono ?_
 rintro e w2 ⟨v, L, rfl, h1, h2, h3, h4⟩
 have HR := Lib.hid (show OwnKV w2 w.heap.size v L ∧ RangeIs h.d.F [] topKey h.d.last L ∧ L.length ≤ 800000 ∧ Below w.heap.size w w2 from ⟨h1, h2, h3, h4⟩)
 clear h1 h2 h3 h4 HC
 go_wp2
 go_ret
 exact ⟨v, L, rfl, HR.out⟩
end
end Go.Proofs.YthleniobcbdepaaGreatDoor

namespace Go.Proofs.YthleniobcbdepaaGreatDoor
open Go.RowKit
theorem HK.noLater {B : Nat} {w : World} {T : Nat → Prop} {a : Nat} {h : Hl} {k : Nat} (o : HK B w T a h k) : NoLater h.d.F h.d.last := by
 obtain ⟨d, m, To, es, clock, q1, _⟩ := o.ex
 obtain ⟨m, _, top, ht, hg⟩ := q1.s.good
 exact NoLater.of hg ht
def zz : List UInt8 := [122]
theorem findH_one (who : List UInt8) (id : Int) : findH [(who, id)] who = some id := by
 unfold findH
 rw [List.find?_cons_of_pos (by simp)]
 rfl
theorem eraseH_one (who : List UInt8) (id : Int) : eraseH [(who, id)] who = [] := by
 unfold eraseH
 rw [List.filter_cons_of_neg (by simp)]
 rfl
structure AloneR (h : Hl) (c : PCall) (i : Nat) (a : PAns) (f n id : Int) (gB gD g1 g2 : Dk) : Prop where
 no : f ≠ 0 → a = noAns
 once0 : f = 0 → h.once c = (a, n, 0, ⟨g2, []⟩)
 once1 : f ≠ 0 → h.once c = (noAns, 0, f, ⟨g1, []⟩)
 op : h.open zz = (0, ⟨gB, [(zz, id)]⟩)
 ask : (⟨gB, [(zz, id)]⟩ : Hl).ask zz c = (a, f, ⟨gD, [(zz, id)]⟩)
 close : (⟨gD, [(zz, id)]⟩ : Hl).close zz = (n, 0, ⟨g2, []⟩)
 quit : (⟨gD, [(zz, id)]⟩ : Hl).quit zz = (0, ⟨g1, []⟩)
 o1 : OwnI g1 (i + 1)
 o2 : OwnI g2 (i + 1)
theorem alone_r {h : Hl} {i : Nat} (hop : h.op = []) (hI : OwnI h.d i) (hi : i < 100) (hF : NoLater h.d.F h.d.last) (c : PCall) : ∃ a f n id gB gD g1 g2, AloneR h c i a f n id gB gD g1 g2 := by
 obtain ⟨hb, g1, g2, n, h1, h2, h3, h4⟩ := alone_do hI hi hF c
 have hno := h.d.begin.2.2.doC_no (h.d.ids + 1) c
 rw [hb] at h1 h3 hno
 simp only at h1 h3 hno
 generalize hgB : ({ h.d with ids := h.d.ids + 1, op := [tr0 (h.d.ids + 1) h.d.last] } : Dk) = gB at *
 have ho : h.once c = ((onceD gB (h.d.ids + 1) c).1, (onceD gB (h.d.ids + 1) c).2.1, (onceD gB (h.d.ids + 1) c).2.2.1, ⟨(onceD gB (h.d.ids + 1) c).2.2.2, []⟩) := by
  unfold Hl.once
  rw [hb, hop]
  simp
 have hw : onceD gB (h.d.ids + 1) c = if (gB.doC (h.d.ids + 1) c).2.1 ≠ 0 then (noAns, 0, (gB.doC (h.d.ids + 1) c).2.1, ((gB.doC (h.d.ids + 1) c).2.2.abort (h.d.ids + 1)).2) else if ((gB.doC (h.d.ids + 1) c).2.2.commit (h.d.ids + 1)).2.1 ≠ 0 then (noAns, 0, ((gB.doC (h.d.ids + 1) c).2.2.commit (h.d.ids + 1)).2.1, ((gB.doC (h.d.ids + 1) c).2.2.commit (h.d.ids + 1)).2.2) else ((gB.doC (h.d.ids + 1) c).1, ((gB.doC (h.d.ids + 1) c).2.2.commit (h.d.ids + 1)).1, 0, ((gB.doC (h.d.ids + 1) c).2.2.commit (h.d.ids + 1)).2.2) := rfl
 refine ⟨(gB.doC (h.d.ids + 1) c).1, (gB.doC (h.d.ids + 1) c).2.1, n, h.d.ids + 1, gB, (gB.doC (h.d.ids + 1) c).2.2, g1, g2, ⟨hno, fun hf => ?_, fun hf => ?_, ?_, ?_, ?_, ?_, h2, h4⟩⟩
 ·rw [ho, hw, if_neg (by rw [hf]; simp), h3, if_neg (by simp)]
 ·rw [ho, hw, if_pos hf, h1]
 ·unfold Hl.open
  rw [if_neg (by decide), hop, if_neg (by simp [findH_nil]), hb, if_neg (by simp)]
  rfl
 ·unfold Hl.ask
  simp only [findH_one]
 ·unfold Hl.close
  simp only [findH_one, h3, eraseH_one]
 ·unfold Hl.quit
  simp only [findH_one, h1, eraseH_one]
def netC (nm ow : List UInt8) : PCall := ⟨1, nm, 0, 0, 0, 0, ow⟩
theorem netC_fault {nm ow : List UInt8} (hn : nameB nm = true) (ho : nameB ow = true) : callFault (netC nm ow) = 0 := by
 unfold callFault netC
 rw [if_neg (by simp), if_neg (by simp [hn]), if_neg (by simp [ho]), if_neg (by simp [callPf]), if_neg (by simp [callAd])]
theorem nKey_ok {nm : List UInt8} (hn : nameB nm = true) : keyB (nKey nm) = true := by
 have := (nameB_iff.1 hn).2
 unfold keyB nKey
 simp
 omega
theorem net_run {nm ow : List UInt8} (hn : nameB nm = true) (ho : nameB ow = true) {β : Base} {t : St} (ht : t.asked ≠ 100) (hown : t.own.length < 20) (hβ : seeB β t.own (nKey nm) = none) (hf : findO t.own (nKey nm) = none) :
  (doP (netC nm ow)).runS β t = ((noAns, 0), ⟨t.asked + 1, t.keys ++ [nKey nm], t.spans, insC ⟨nKey nm, ow, false⟩ t.own⟩) := by
 have hk := nKey_ok hn
 have hol := (nameB_iff.1 ho).2.2
 have hg : t.get β (nKey nm) = (([], 4), { t with asked := t.asked + 1, keys := t.keys ++ [nKey nm] }) := by
  unfold St.get
  rw [if_neg (by rw [hk]; simp), if_neg ht]
  unfold getB
  rw [hβ]
 unfold doP
 rw [if_neg (by rw [netC_fault hn ho]; simp), DP.runS_bind]
 have h1 : (hasP (netC nm ow).nk).runS β t = ((false, 0), { t with asked := t.asked + 1, keys := t.keys ++ [nKey nm] }) := by
  have e : (hasP (netC nm ow).nk).runS β t = (DP.ret (decide ((t.get β (nKey nm)).1.2 = 0), if (t.get β (nKey nm)).1.2 = 4 then 0 else (t.get β (nKey nm)).1.2) : DP (Bool × Int)).runS β (t.get β (nKey nm)).2 := rfl
  rw [e, hg]
  rfl
 rw [h1]
 simp only
 rw [if_neg (by simp), if_pos (show (netC nm ow).what = 1 from rfl), if_neg (by simp)]
 have hc : St.change { t with asked := t.asked + 1, keys := t.keys ++ [nKey nm] } ⟨nKey nm, ow, false⟩ = (0, ⟨t.asked + 1, t.keys ++ [nKey nm], t.spans, insC ⟨nKey nm, ow, false⟩ t.own⟩) := by
  unfold St.change
  rw [if_neg (by simp [hk]; omega), if_neg (by simp; intro _; omega)]
 have e2 : (chgP ⟨(netC nm ow).nk, (netC nm ow).owner, false⟩ noAns).runS β { t with asked := t.asked + 1, keys := t.keys ++ [nKey nm] } = (DP.ret (if (St.change { t with asked := t.asked + 1, keys := t.keys ++ [nKey nm] } ⟨nKey nm, ow, false⟩).1 = 0 then noAns else noAns, (St.change { t with asked := t.asked + 1, keys := t.keys ++ [nKey nm] } ⟨nKey nm, ow, false⟩).1) : DP (PAns × Int)).runS β (St.change { t with asked := t.asked + 1, keys := t.keys ++ [nKey nm] } ⟨nKey nm, ow, false⟩).2 := rfl
 rw [e2, hc]
 rfl
def gIds (g : Dk) : Dk := { g with ids := g.ids + 1, op := [] }
def gNext (g : Dk) (x : Chg) : Dk := Dk.put { g with ids := g.ids + 1, op := [], lg := { g.lg with B := g.lg.B ++ frame [x] } } [x] ((g.lg.B ++ frame [x]).length : Int)
def st0 : St := ⟨0, [], [], []⟩
noncomputable def aloneRun (g : Dk) (c : PCall) : (PAns × Int) × St := (doP c).runS (fun s => tell g.F s g.last) st0
theorem once_full {h : Hl} {i : Nat} (hop : h.op = []) (hI : OwnI h.d i) (hi : i < 100) (hF : NoLater h.d.F h.d.last) (c : PCall) :
  ((aloneRun h.d c).1.2 ≠ 0 → h.once c = (noAns, 0, (aloneRun h.d c).1.2, ⟨gIds h.d, []⟩)) ∧
  ((aloneRun h.d c).1.2 = 0 → (aloneRun h.d c).2.own = [] → h.once c = ((aloneRun h.d c).1.1, h.d.last, 0, ⟨gIds h.d, []⟩)) ∧
  ∀ x, (aloneRun h.d c).1.2 = 0 → (aloneRun h.d c).2.own = [x] → h.once c = ((aloneRun h.d c).1.1, h.d.last + 1, 0, ⟨gNext h.d x, []⟩) := by
 have hB : (h.d.lg.B.length : Int) ≤ 99000 := by have := hI.len; omega
 have hft : findT [tr0 (h.d.ids + 1) h.d.last] (h.d.ids + 1) = some (tr0 (h.d.ids + 1) h.d.last) := by rw [findT_cons, if_pos (show (tr0 (h.d.ids + 1) h.d.last).id = h.d.ids + 1 from rfl)]
 have hd := doC_st (g := { h.d with ids := h.d.ids + 1, op := [tr0 (h.d.ids + 1) h.d.last] }) (t := tr0 (h.d.ids + 1) h.d.last) (by simp) hft c
 have hone := (doP c).oneChg_own (fun s => tell h.d.F s h.d.last) st0 (doP_one c)
 have hrun : (doP c).runS (baseOf { h.d with ids := h.d.ids + 1, op := [tr0 (h.d.ids + 1) h.d.last] } (tr0 (h.d.ids + 1) h.d.last)) (tr0 (h.d.ids + 1) h.d.last).st = aloneRun h.d c := rfl
 rw [hrun] at hd
 have hone' : (aloneRun h.d c).2.own = st0.own ∨ ∃ x, (aloneRun h.d c).2.own = insC x st0.own ∧ oneOk x = true := hone
 clear hrun hone
 generalize aloneRun h.d c = r at *
 have hset : (Dk.set { h.d with ids := h.d.ids + 1, op := [tr0 (h.d.ids + 1) h.d.last] } ((tr0 (h.d.ids + 1) h.d.last).put r.2)) = { h.d with ids := h.d.ids + 1, op := [(tr0 (h.d.ids + 1) h.d.last).put r.2] } := by
  unfold Dk.set
  simp [setT_cons, setT_nil, Tr.put, tr0]
 rw [hset] at hd
 have hft2 : findT [(tr0 (h.d.ids + 1) h.d.last).put r.2] (h.d.ids + 1) = some ((tr0 (h.d.ids + 1) h.d.last).put r.2) := by rw [findT_cons, if_pos (show ((tr0 (h.d.ids + 1) h.d.last).put r.2).id = h.d.ids + 1 from rfl)]
 have hea : eraseT [(tr0 (h.d.ids + 1) h.d.last).put r.2] (h.d.ids + 1) = [] := by rw [eraseT_cons, if_pos (show ((tr0 (h.d.ids + 1) h.d.last).put r.2).id = h.d.ids + 1 from rfl), eraseT_nil]
 have ho : h.once c = ((onceD { h.d with ids := h.d.ids + 1, op := [tr0 (h.d.ids + 1) h.d.last] } (h.d.ids + 1) c).1, (onceD { h.d with ids := h.d.ids + 1, op := [tr0 (h.d.ids + 1) h.d.last] } (h.d.ids + 1) c).2.1, (onceD { h.d with ids := h.d.ids + 1, op := [tr0 (h.d.ids + 1) h.d.last] } (h.d.ids + 1) c).2.2.1, ⟨(onceD { h.d with ids := h.d.ids + 1, op := [tr0 (h.d.ids + 1) h.d.last] } (h.d.ids + 1) c).2.2.2, []⟩) := by
  unfold Hl.once
  rw [hI.begin, hop]
  simp
 unfold onceD at ho
 rw [hd] at ho
 simp only at ho
 refine ⟨fun hf => ?_, fun hf hown => ?_, fun x hf hown => ?_⟩
 ·rw [ho, if_pos hf]
  simp only
  unfold Dk.abort
  simp only [hft2, hea]
  rfl
 ·rw [ho, if_neg (by rw [hf]; simp)]
  rw [commit_none' (g := { h.d with ids := h.d.ids + 1, op := [(tr0 (h.d.ids + 1) h.d.last).put r.2] }) hft2 hown hF]
  simp only
  rw [if_neg (by simp)]
  simp only [hea]
  rfl
 ·rcases hone' with e | ⟨y, e, hy⟩
  ·rw [hown] at e; cases e
  ·rw [hown] at e
   injection e with e
   subst e
   rw [ho, if_neg (by rw [hf]; simp)]
   rw [commit_one (g := { h.d with ids := h.d.ids + 1, op := [(tr0 (h.d.ids + 1) h.d.last).put r.2] }) hft2 hown hy hF hI.down hI.left hI.room hB]
   simp only
   rw [if_neg (by simp)]
   simp only [hea]
   rfl
theorem gNext_own {g : Dk} {i : Nat} {x : Chg} (hI : OwnI g i) (hi : i < 100) (hx : oneOk x = true) : OwnI (gNext g x) (i + 1) := by
 have hB : (g.lg.B.length : Int) ≤ 99000 := by have := hI.len; omega
 have ha := (append_one (lg := g.lg) hx hI.down hI.left hI.room hB).2
 refine ⟨rfl, hI.down, hI.left, hI.room, ?_⟩
 show ((g.lg.B ++ frame [x]).length : Int) ≤ 763 * ((i + 1 : Nat) : Int)
 have := hI.len
 omega
theorem ownI_new : OwnI (Hl.new 100000).d 0 := ⟨rfl, rfl, rfl, rfl, by simp [Hl.new, Dk.new]⟩
theorem once_net {nm ow : List UInt8} (hn : nameB nm = true) (ho : nameB ow = true) : (Hl.new 100000).once (netC nm ow) = (noAns, 1, 0, ⟨gNext (Dk.new 100000) ⟨nKey nm, ow, false⟩, []⟩) := by
 have hF : NoLater (Hl.new 100000).d.F (Hl.new 100000).d.last := fun s v hv => by cases hv
 have hβ0 : seeB (fun s => tell (Hl.new 100000).d.F s (Hl.new 100000).d.last) st0.own (nKey nm) = none := (tell_nil (F := (Hl.new 100000).d.F) rfl : tell (Hl.new 100000).d.F (nKey nm) (Hl.new 100000).d.last = none)
 have hr : aloneRun (Hl.new 100000).d (netC nm ow) = _ := net_run (nm := nm) (ow := ow) hn ho (β := fun s => tell (Hl.new 100000).d.F s (Hl.new 100000).d.last) (t := st0) (by decide) (by decide) hβ0 rfl
 have := (once_full (h := Hl.new 100000) rfl ownI_new (by decide) hF (netC nm ow)).2.2 ⟨nKey nm, ow, false⟩ (by rw [hr]) (by rw [hr]; rfl)
 rw [this, hr]
 rfl
end Go.Proofs.YthleniobcbdepaaGreatDoor
