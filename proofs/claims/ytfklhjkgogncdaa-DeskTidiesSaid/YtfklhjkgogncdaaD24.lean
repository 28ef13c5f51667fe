/- Texts joined: XDesk7, XDesk12, XDesk13. Each says at its head what it proves; conditions: as said there. -/
import Derived.Test.YtfklhjkgogncdaaD21
import Derived.Test.YtfklhjkgogncdaaD9
import Derived.Deep.DeepCutAuto
import Derived.Deep.CutBlock
import Derived.Deep.RegionHeld3
import Derived.StillTail
import Derived.StillTailTactics
/- Contract of clash. -/
namespace Go.Proofs.Ytfklhjkgogncdaa
set_option linter.unusedVariables false
set_option linter.unusedSimpArgs false
set_option maxRecDepth 100000
open Go.RowKit
open Go.ChangeMaps (setBlock)

/-- Of those with a property some one is still to come. -/
def ClRel {κ : Type} (kv : κ → Value) (P : κ → Prop) (left : List MapEntry) : Prop := ∀ s, P s → ∃ x ∈ left, x.key = kv s
theorem ClRel.skip {κ : Type} {kv : κ → Value} {P : κ → Prop} {left left' : List MapEntry} (h : ClRel kv P left) {e : MapEntry} {s : κ} (kinj : ∀ a b, kv a = kv b → a = b) (hp : List.Perm left (e :: left')) (hs : e.key = kv s) (hno : ¬ P s) : ClRel kv P left' := by
  intro s' h1
  obtain ⟨x, hx, hk⟩ := h s' h1
  rcases List.mem_cons.1 (hp.mem_iff.1 hx) with rfl | hx
  · rw [hs] at hk
    have := kinj _ _ hk
    subst this
    exact absurd h1 hno
  · exact ⟨x, hx, hk⟩
theorem ClRel.start {κ β : Type} {kv : κ → Value} {ev : β → Value} {f : κ → Option β} {P : κ → Prop} {w : World} {Pg : Program} {k : TypeId} {b : Nat} {es : Array MapEntry} {clock : Nat} (h : FMap w Pg k b es clock kv ev f) (hP : ∀ s, P s → f s ≠ none) : ClRel kv P es.toList := by
  intro s hs
  cases e : f s with
  | none => exact absurd e (hP s hs)
  | some y =>
    obtain ⟨x, hx, hk, _⟩ := h.has s y e
    exact ⟨x, hx, hk⟩
theorem ClRel.done {κ : Type} {kv : κ → Value} {P : κ → Prop} (h : ClRel kv P []) : ∀ s, ¬ P s := fun s hs => by
  obtain ⟨x, hx, _⟩ := h s hs
  cases hx
section
variable {w w' : World} {O : Nat → Nat} {d : Nat} {M : Mem} {g : Dk} {id : Int} {k : Nat} {S : Nat → Prop} {bk : Nat} {t : Tr}
theorem DeskAt.changed (h : DeskAt w O d M g) (hk : g.all.length ≤ 40000) (s : List UInt8) (hs : s.length ≤ maxLen) (n : Int) :
    Calls Try.prog 46 #[.pointer (some ⟨M.tb, 0, none⟩), txt s, .int .i64 n] w fun e w' => e = .returned (.bool (lastB (g.F s) n)) ∧ Below w.heap.size w w' := by
  obtain ⟨m, top, hm, _, hT⟩ := h.tab
  exact Changed_any M.tb g.F top m (by omega) _ s hs n w hT
theorem DeskAt.touched (h : DeskAt w O d M g) (hk : g.all.length ≤ 40000) (lo hi : List UInt8) (n : Int) (hn : numB n = true) :
    Calls Try.prog 47 #[.pointer (some ⟨M.tb, 0, none⟩), txt lo, txt hi, .int .i64 n] w fun e w' => ∃ r, e = .returned (.tuple #[.bool r, .nilIface]) ∧ TouchIs g.F lo hi n r ∧ Below w.heap.size w w' := by
  obtain ⟨m, top, hm, _, hT⟩ := h.tab
  exact touched_ok M.tb g.F top m (by omega) _ lo hi n w hT hn
/-- Keys of a map are texts that may be. -/
theorem key_short {w : World} {b : Nat} {es : Array MapEntry} {clock : Nat} (m : MapAt w Try.prog 9 b es clock) {x : MapEntry} (hx : x ∈ es.toList) {s : List UInt8} (hs : x.key = txt s) : s.length ≤ maxLen := by
  obtain ⟨kl, hkl⟩ := m.keys x hx
  rw [hs] at hkl
  unfold keyOf at hkl
  simp only [Try.underlying9, mapKey] at hkl
  split at hkl
  · rename_i h
    simpa [ByteArray.size] using h
  · cases hkl
set_option maxHeartbeats 4000000 in
theorem clash_ok (h : DeskAt w O d M g) (hk : g.all.length ≤ 40000) (hT : TrAt w S bk t) (hn : numB t.sees = true) :
    Calls Try.prog 27 #[ptrV d, ptrV bk] w fun e w' => ∃ r : Bool, e = .returned (.bool r) ∧ (r = true ↔ Clash g.F t) ∧ Below w.heap.size w w' := by
  obtain ⟨⟨kb, sb, ob, ek, ck, es, cs, eo, co, hB, hF1, hF2, hF3, s1, s2, s3, n1, n2, n3, l1, l2⟩, hS, hrise, hown, hask⟩ := hT
  have x2 := hB.cell 2
  simp at x2
  have H := Lib.hid h
  have HB := Lib.hid hB
  have HN := Lib.hid hn
  have H2 := Lib.hid hF2
  have H3 := Lib.hid hF3
  clear h hB hn hF2 hF3
  have H1 := Lib.hid hF1
  clear hF1
  go_enter Try.func27, Try.ntmps27
  have R1 := Lib.hid (ClRel.start (P := (fun s => s ∈ t.keys ∧ lastB (g.F s) t.sees = true)) H1.out (fun s hs => by simp [keysF, hs.1]))
  have hm0 := H1.out.map
  go_wp2_with (first | (at_range; refine at_rng _ rfl _ _ rfl 9 3 Try.underlying64 rfl hm0 ?_; intro w2 hR2 hM2 hg2 hs2; go_frame))
  have hb2 : Below w.heap.size w w2 := (Below.refl _ _).grown hg2 (Nat.le_refl _) (fun k hk => by cases hk)
  have hH0 : w.heap.size ≤ w.heap.size := Nat.le_refl _
  generalize hH : w.heap.size = B0 at *
  have HH := Lib.hid hH
  clear hH
  generalize hQ : B0 = Q1 at hR2 hs2 hH0 ⊢
  have hQB : B0 ≤ Q1 := Nat.le_of_eq hQ
  clear hQ hH0 hm0 hM2
  go_loopw [5] (fun _ wr => ∃ left : List MapEntry, RangeAt wr kb Q1 ek ck left ∧ Below B0 w wr ∧ Hid (ClRel txt (fun s => s ∈ t.keys ∧ lastB (g.F s) t.sees = true) left) ∧ Q1 + 1 ≤ wr.heap.size) (fun _ wr => leftN wr kb Q1)
  case atStart => exact ⟨ek.toList, hR2, hb2, R1, by omega⟩
  case round =>
    obtain ⟨left, hR, hb, hrel, hsz⟩ := hrel
    clear hb2 hR2
    have hlt := H1.out.map.lt
    rw [HH.out] at hlt
    have hM3 := H1.out.below hb hlt
    have HLN := Lib.hid (hR.left_eq hM3.map)
    rcases hR.next hM3.map (by omega) 0 with ⟨h0, hrun⟩ | ⟨⟨ek1, ev1, eb1⟩, left', w', h1, h2, hrun, h3, h4, h5, h6, h7, h8⟩
    · subst h0
      have HD1 := Lib.hid hrel.out.done
      clear hM3 hrel hR hsz HLN hlt
      have R2 := Lib.hid (ClRel.start (P := (fun s => findO t.own s ≠ none ∧ lastB (g.F s) t.sees = true)) H3.out (fun s hs => hs.1))
      have hm0 := (H3.out.below hb (by rw [← HH.out]; exact H3.out.map.lt)).map
      have z0 := (HB.out.below hb (by rw [← HH.out]; exact HB.out.lt)).cell 4
      simp at z0
      go_wp2_with (first | (at_range; refine at_rng _ rfl _ _ rfl 9 71 Try.underlying66 rfl hm0 ?_; intro w2 hR2 hM2 hg2 hs2; go_frame))
      have hb2 : Below B0 w w2 := hb.grown hg2 (by have := HH.out; have := hb.size; omega) (fun k hk => by cases hk)
      have hQB : B0 ≤ wr.heap.size := by have := HH.out; have := hb.size; omega
      generalize hQ : wr.heap.size = Q2 at *
      clear hQ hm0 hM2 hb z0
      go_loopw [6] (fun _ wr => ∃ left : List MapEntry, RangeAt wr ob Q2 eo co left ∧ Below B0 w wr ∧ Hid (ClRel txt (fun s => findO t.own s ≠ none ∧ lastB (g.F s) t.sees = true) left) ∧ Q2 + 1 ≤ wr.heap.size) (fun _ wr => leftN wr ob Q2)
      case atStart => exact ⟨eo.toList, hR2, hb2, R2, by omega⟩
      case round =>
        obtain ⟨left, hR, hb, hrel, hsz⟩ := hrel
        clear hb2 hR2
        have hlt := H3.out.map.lt
        rw [HH.out] at hlt
        have hM3 := H3.out.below hb hlt
        have HLN := Lib.hid (hR.left_eq hM3.map)
        rcases hR.next hM3.map (by omega) 0 with ⟨h0, hrun⟩ | ⟨⟨ek1, ev1, eb1⟩, left', w', h1, h2, hrun, h3, h4, h5, h6, h7, h8⟩
        · subst h0
          have HD2 := Lib.hid hrel.out.done
          clear hM3 hrel hR hsz HLN hlt
          have R3 := Lib.hid (ClRel.start (P := (fun p => p ∈ t.spans ∧ Touch g.F p.1 p.2 t.sees)) H2.out (fun s hs => by simp [spansF, hs.1]))
          have hm0 := (H2.out.below hb (by rw [← HH.out]; exact H2.out.map.lt)).map
          have z0 := (HB.out.below hb (by rw [← HH.out]; exact HB.out.lt)).cell 3
          simp at z0
          go_wp2_with (first | (at_range; refine at_rng _ rfl _ _ rfl 86 3 Try.underlying65 rfl hm0 ?_; intro w2 hR2 hM2 hg2 hs2; go_frame))
          have hb2 : Below B0 w w2 := hb.grown hg2 (by have := HH.out; have := hb.size; omega) (fun k hk => by cases hk)
          have hQB : B0 ≤ wr.heap.size := by have := HH.out; have := hb.size; omega
          generalize hQ : wr.heap.size = Q3 at *
          clear hQ hm0 hM2 hb z0
          go_loopw [7, 8, 9] (fun _ _ _ wr => ∃ left : List MapEntry, RangeAt wr sb Q3 es cs left ∧ Below B0 w wr ∧ Hid (ClRel spanV (fun p => p ∈ t.spans ∧ Touch g.F p.1 p.2 t.sees) left) ∧ Q3 + 1 ≤ wr.heap.size) (fun _ _ _ wr => leftN wr sb Q3)
          case atStart => exact ⟨es.toList, hR2, hb2, R3, by omega⟩
          case round =>
            obtain ⟨left, hR, hb, hrel, hsz⟩ := hrel
            clear hb2 hR2
            have hlt := H2.out.map.lt
            rw [HH.out] at hlt
            have hM3 := H2.out.below hb hlt
            have HLN := Lib.hid (hR.left_eq hM3.map)
            rcases hR.next hM3.map (by omega) 0 with ⟨h0, hrun⟩ | ⟨⟨ek1, ev1, eb1⟩, left', w', h1, h2, hrun, h3, h4, h5, h6, h7, h8⟩
            · subst h0
              have HD3 := Lib.hid hrel.out.done
              clear hM3 hrel hR hsz HLN hlt
              go_wp2
              go_ret
              exact ⟨false, rfl, ⟨fun q => by (cases q), fun q => by
                rcases q with ⟨s, h1, h2⟩ | ⟨c, h1, h2⟩ | ⟨p, h1, h2⟩
                · exact absurd ⟨h1, h2⟩ (HD1.out s)
                · exact absurd ⟨by rw [(findO_iff hrise).2 ⟨h1, rfl⟩]; simp, h2⟩ (HD2.out c.key)
                · exact absurd ⟨h1, h2⟩ (HD3.out p)⟩, by rw [HH.out]; exact hb⟩
            · obtain ⟨s, hs⟩ := H2.out.keys _ (hR.sub _ h1)
              obtain ⟨y, hy, _⟩ := H2.out.val s ev1 ⟨_, hR.sub _ h1, hs, rfl⟩
              simp only at hs h7 h8 hrun
              subst hs
              have hmem : s ∈ t.spans := (by unfold spansF at hy; split at hy; assumption; cases hy)
              have hb' : Below B0 w w' := hb.grown h5 (by have := HH.out; have := hb.size; omega) (fun k hk => by injection hk with hk; omega)
              have hsk := hrel.out.skip (s := s) spanV_inj h2 rfl
              have h6' : Q3 + 1 ≤ w'.heap.size := by omega
              have HX := Lib.hid (⟨h3, h4, hb'⟩ : RangeAt w' sb Q3 es cs left' ∧ MapAt w' Try.prog 86 sb es cs ∧ Below B0 w w')
              obtain ⟨lo, hi⟩ := s
              have HS := Lib.hid h2.length_eq
              clear hrel hM3 hR h1 h2 h3 h4 h5 h6 h7 hb hlt hb'
              go_wp2_with fail
              generalize hWA : w'.alloc (.cells #[.string ⟨lo.toArray⟩, .string ⟨hi.toArray⟩] 86) = wa
              have hbk := Blk.new w' 86 #[txt lo, txt hi]
              have hba := (Below.refl w'.heap.size w').alloc (Nat.le_refl _) (.cells #[txt lo, txt hi] 86)
              rw [show w'.alloc (.cells #[txt lo, txt hi] 86) = wa from hWA] at hbk hba
              clear hWA
              have hbw : Below w.heap.size w wa := by rw [HH.out]; exact HX.out.2.2.trans (hba.mono (by have := HX.out.2.2.size; have := HH.out; omega))
              have hbd : Below w.heap.size w wa.drew := ⟨hbw.os, hbw.tape, hbw.output, hbw.size, hbw.block⟩
              have DD := H.out.below hbw
              have B2 := HB.out.below hbw HB.out.lt
              have x1 := DD.hB.cell 1
              have x0 := B2.cell 0
              have y0 := hbk.cell 0
              have y1 := hbk.cell 1
              simp at x1 x0 y0 y1
              have HC := Lib.hid ((H.out.below hbd).touched hk lo hi t.sees HN.out)
              have HBW := Lib.hid hbw
              have HBA := Lib.hid hba
              have hDB := DD.hB
              have hkk : ∀ W, Blk W d 60 #[ptrV M.lg, ptrV M.tb, .int .i64 g.last, .int .i64 g.ids, .map (some M.ob), M.ev] → Blk W bk 68 #[.int .i64 t.sees, .int .i64 t.asked, .map (some kb), .map (some sb), .map (some ob)] → Blk W w'.heap.size 86 #[txt lo, txt hi] → W.cell? ⟨d, 1, none⟩ = some (ptrV M.tb) ∧ W.cell? ⟨bk, 0, none⟩ = some (.int .i64 t.sees) ∧ W.cell? ⟨w'.heap.size, 0, none⟩ = some (txt lo) ∧ W.cell? ⟨w'.heap.size, 1, none⟩ = some (txt hi) := fun W e1 e2 e3 => ⟨e1.cell 1, e2.cell 0, e3.cell 0, e3.cell 1⟩
              clear DD hbd hbw hba
              by_cases hch : Touch g.F lo hi t.sees
              · have HRES := Lib.hid (show Clash g.F t from .inr (.inr ⟨(lo, hi), hmem, hch⟩))
                have HCC := Lib.hid (show Calls Try.prog 47 #[.pointer (some ⟨M.tb, 0, none⟩), txt lo, txt hi, .int .i64 t.sees] wa.drew (fun e w' => e = .returned (.tuple #[.bool true, .nilIface]) ∧ Below wa.heap.size wa w') from HC.out.mono (fun e w' q => by obtain ⟨r, h1, h2, h3⟩ := q; rw [h2.2 hch] at h1; exact ⟨h1, ⟨h3.os, h3.tape, h3.output, h3.size, h3.block⟩⟩))
                clear hch hsk hmem hy HC
                go_region_held3 (fun W => W.cell? ⟨d, 1, none⟩ = some (ptrV M.tb) ∧ W.cell? ⟨bk, 0, none⟩ = some (.int .i64 t.sees) ∧ W.cell? ⟨w'.heap.size, 0, none⟩ = some (txt lo) ∧ W.cell? ⟨w'.heap.size, 1, none⟩ = some (txt hi))
                  (first
                    | exact hkk _ hDB B2 hbk
                    | exact hkk _ (hDB.below hb4 hDB.lt) (B2.below hb4 B2.lt) (hbk.below hb4 hbk.lt))
                  ((go_at_call 47; refine HCC.out.mono ?_; rintro e w4 ⟨rfl, hb4⟩))
                all_goals have HB4 := Lib.hid hb4
                all_goals clear hb4
                all_goals go_wp2
                all_goals go_ret
                all_goals exact ⟨true, rfl, ⟨fun _ => HRES.out, fun _ => rfl⟩, HBW.out.trans (HB4.out.mono HBW.out.size)⟩
              · have HSK := Lib.hid (hsk (fun q => hch q.2))
                have HCC := Lib.hid (show Calls Try.prog 47 #[.pointer (some ⟨M.tb, 0, none⟩), txt lo, txt hi, .int .i64 t.sees] wa.drew (fun e w' => e = .returned (.tuple #[.bool false, .nilIface]) ∧ Below wa.heap.size wa w') from HC.out.mono (fun e w' q => by obtain ⟨r, h1, h2, h3⟩ := q; have : r = false := (by cases r with | true => exact absurd (h2.1 rfl) hch | false => rfl); rw [this] at h1; exact ⟨h1, ⟨h3.os, h3.tape, h3.output, h3.size, h3.block⟩⟩))
                clear hch hsk hmem hy HC
                go_region_held3 (fun W => W.cell? ⟨d, 1, none⟩ = some (ptrV M.tb) ∧ W.cell? ⟨bk, 0, none⟩ = some (.int .i64 t.sees) ∧ W.cell? ⟨w'.heap.size, 0, none⟩ = some (txt lo) ∧ W.cell? ⟨w'.heap.size, 1, none⟩ = some (txt hi))
                  (first
                    | exact hkk _ hDB B2 hbk
                    | exact hkk _ (hDB.below hb4 hDB.lt) (B2.below hb4 B2.lt) (hbk.below hb4 hbk.lt))
                  ((go_at_call 47; refine HCC.out.mono ?_; rintro e w4 ⟨rfl, hb4⟩))
                all_goals have HB4 := Lib.hid hb4
                all_goals clear hb4
                all_goals go_wp2
                all_goals go_roundw
                all_goals first | exact ⟨left', (HX.out.1.below HBA.out (by omega)).below HB4.out (by have := HBA.out.size; omega), by rw [← HH.out]; exact HBW.out.trans (HB4.out.mono HBW.out.size), HSK, by have := HB4.out.size; have := HBA.out.size; omega⟩ | (rw [((HX.out.1.below HBA.out (by omega)).below HB4.out (by have := HBA.out.size; omega)).left_eq ((HX.out.2.1.keep (HBA.out.block _ HX.out.2.1.lt)).keep (HB4.out.block _ (Nat.lt_of_lt_of_le HX.out.2.1.lt HBA.out.size))), HLN.out, HS.out]; simp)
        · obtain ⟨s, hs⟩ := H3.out.keys _ (hR.sub _ h1)
          obtain ⟨y, hy, _⟩ := H3.out.val s ev1 ⟨_, hR.sub _ h1, hs, rfl⟩
          have hshort := key_short H3.out.map (hR.sub _ h1) hs
          simp only at hs h7 h8 hrun
          subst hs
          have hmem := hy
          have hb' : Below B0 w w' := hb.grown h5 (by have := HH.out; have := hb.size; omega) (fun k hk => by injection hk with hk; omega)
          have hsk := hrel.out.skip (s := s) txtV_inj h2 rfl
          have h6' : Q2 + 1 ≤ w'.heap.size := by omega
          have HX := Lib.hid (⟨h3, h4, hb'⟩ : RangeAt w' ob Q2 eo co left' ∧ MapAt w' Try.prog 9 ob eo co ∧ Below B0 w w')
          have hbd : Below w.heap.size w w'.drew := by rw [HH.out]; exact ⟨hb'.os, hb'.tape, hb'.output, hb'.size, hb'.block⟩
          have DD := H.out.below hbd
          have x1 : w'.cell? ⟨d, 1, none⟩ = _ := DD.hB.cell 1
          have x0 : w'.cell? ⟨bk, 0, none⟩ = _ := (HB.out.below hbd HB.out.lt).cell 0
          simp at x1 x0
          have HC := Lib.hid (DD.changed hk s hshort t.sees)
          have HS := Lib.hid h2.length_eq
          clear hrel hM3 hR h1 h2 h3 h4 h5 h6 h7 DD hbd hb hlt
          by_cases hch : lastB (g.F s) t.sees = true
          · have HRES := Lib.hid (show Clash g.F t from .inr (.inl ⟨y, ((findO_iff hrise).1 hmem).1, by rw [((findO_iff hrise).1 hmem).2]; exact hch⟩))
            have HCH := Lib.hid hch
            clear hch hsk hmem hy
            go_wp2_with fail
            go_still_tail 9, (by kernel_rfl)
            go_wp2_with fail
            refine HC.out.mono ?_
            rw [HCH.out]
            rintro e w3 ⟨rfl, hb3⟩
            have hb3 : Below w'.heap.size w' w3 := ⟨hb3.os, hb3.tape, hb3.output, hb3.size, hb3.block⟩
            have HB3 := Lib.hid hb3
            clear hb3
            go_wp2
            go_ret
            exact ⟨true, rfl, ⟨fun _ => HRES.out, fun _ => rfl⟩, by rw [HH.out]; exact HX.out.2.2.trans (HB3.out.mono (by have := HX.out.2.2.size; have := HH.out; omega))⟩
          · have hch' : lastB (g.F s) t.sees = false := by simpa using hch
            have HSK := Lib.hid (hsk (fun q => by rw [hch'] at q; cases q.2))
            have HCH := Lib.hid hch'
            clear hch hch' hsk hmem hy
            go_wp2_with fail
            go_still_tail 9, (by kernel_rfl)
            go_wp2_with fail
            refine HC.out.mono ?_
            rw [HCH.out]
            rintro e w3 ⟨rfl, hb3⟩
            have hb3 : Below w'.heap.size w' w3 := ⟨hb3.os, hb3.tape, hb3.output, hb3.size, hb3.block⟩
            have HB3 := Lib.hid hb3
            clear hb3
            go_wp2
            go_roundw
            case rel => exact ⟨left', HX.out.1.below HB3.out (by omega), HX.out.2.2.trans (HB3.out.mono (by have := HX.out.2.2.size; have := HH.out; omega)), HSK, by have := HB3.out.size; omega⟩
            case measure => rw [(HX.out.1.below HB3.out (by omega)).left_eq (HX.out.2.1.keep (HB3.out.block _ HX.out.2.1.lt)), HLN.out, HS.out]; simp
    · obtain ⟨s, hs⟩ := H1.out.keys _ (hR.sub _ h1)
      obtain ⟨y, hy, _⟩ := H1.out.val s ev1 ⟨_, hR.sub _ h1, hs, rfl⟩
      have hshort := key_short H1.out.map (hR.sub _ h1) hs
      simp only at hs h7 h8 hrun
      subst hs
      have hmem : s ∈ t.keys := (by unfold keysF at hy; split at hy; assumption; cases hy)
      have hb' : Below B0 w w' := hb.grown h5 (by have := HH.out; have := hb.size; omega) (fun k hk => by injection hk with hk; omega)
      have hsk := hrel.out.skip (s := s) txtV_inj h2 rfl
      have h6' : Q1 + 1 ≤ w'.heap.size := by omega
      have HX := Lib.hid (⟨h3, h4, hb'⟩ : RangeAt w' kb Q1 ek ck left' ∧ MapAt w' Try.prog 9 kb ek ck ∧ Below B0 w w')
      have hbd : Below w.heap.size w w'.drew := by rw [HH.out]; exact ⟨hb'.os, hb'.tape, hb'.output, hb'.size, hb'.block⟩
      have DD := H.out.below hbd
      have x1 : w'.cell? ⟨d, 1, none⟩ = _ := DD.hB.cell 1
      have x0 : w'.cell? ⟨bk, 0, none⟩ = _ := (HB.out.below hbd HB.out.lt).cell 0
      simp at x1 x0
      have HC := Lib.hid (DD.changed hk s hshort t.sees)
      have HS := Lib.hid h2.length_eq
      clear hrel hM3 hR h1 h2 h3 h4 h5 h6 h7 DD hbd hb hlt
      by_cases hch : lastB (g.F s) t.sees = true
      · have HRES := Lib.hid (show Clash g.F t from .inl ⟨s, hmem, hch⟩)
        have HCH := Lib.hid hch
        clear hch hsk hmem hy
        go_wp2_with fail
        go_still_tail 9, (by kernel_rfl)
        go_wp2_with fail
        refine HC.out.mono ?_
        rw [HCH.out]
        rintro e w3 ⟨rfl, hb3⟩
        have hb3 : Below w'.heap.size w' w3 := ⟨hb3.os, hb3.tape, hb3.output, hb3.size, hb3.block⟩
        have HB3 := Lib.hid hb3
        clear hb3
        go_wp2
        go_ret
        exact ⟨true, rfl, ⟨fun _ => HRES.out, fun _ => rfl⟩, by rw [HH.out]; exact HX.out.2.2.trans (HB3.out.mono (by have := HX.out.2.2.size; have := HH.out; omega))⟩
      · have hch' : lastB (g.F s) t.sees = false := by simpa using hch
        have HSK := Lib.hid (hsk (fun q => by rw [hch'] at q; cases q.2))
        have HCH := Lib.hid hch'
        clear hch hch' hsk hmem hy
        go_wp2_with fail
        go_still_tail 9, (by kernel_rfl)
        go_wp2_with fail
        refine HC.out.mono ?_
        rw [HCH.out]
        rintro e w3 ⟨rfl, hb3⟩
        have hb3 : Below w'.heap.size w' w3 := ⟨hb3.os, hb3.tape, hb3.output, hb3.size, hb3.block⟩
        have HB3 := Lib.hid hb3
        clear hb3
        go_wp2
        go_roundw
        case rel => exact ⟨left', HX.out.1.below HB3.out (by omega), HX.out.2.2.trans (HB3.out.mono (by have := HX.out.2.2.size; have := HH.out; omega)), HSK, by have := HB3.out.size; omega⟩
        case measure => rw [(HX.out.1.below HB3.out (by omega)).left_eq (HX.out.2.1.keep (HB3.out.block _ HX.out.2.1.lt)), HLN.out, HS.out]; simp
end
end Go.Proofs.Ytfklhjkgogncdaa

/- Contract of Range. -/
namespace Go.Proofs.Ytfklhjkgogncdaa
set_option linter.unusedVariables false
set_option linter.unusedSimpArgs false
set_option maxRecDepth 100000
open Go.RowKit
open Go.ChangeMaps (setBlock)

theorem updO_updO {κ β : Type} (f : κ → Option β) (s : κ) (x y : Option β) : updO (updO f s x) s y = updO f s y := by
  funext z
  by_cases e : z = s
  · rw [e, updO_same, updO_same]
  · rw [updO_other _ _ e, updO_other _ _ e, updO_other _ _ e]
section
variable {w w' : World} {O : Nat → Nat} {d : Nat} {M : Mem} {g : Dk} {id : Int} {k : Nat}
theorem DeskAt.range_bad (h : DeskAt w O d M g) (hid : (Lit.int .i64 id).wf = true) (lo hi : Value) (hb : findT g.op id = none) :
    Calls Try.prog 11 #[ptrV d, intV id, lo, hi] w fun e w' => e = .returned (.tuple #[.slice none 0 0, .iface 61 (.int .i64 4)]) ∧ w' = w := by
  have HO := Lib.hid (h.of_none hid hb)
  clear h
  go_enter Try.func11, Try.ntmps11
  go_wp2_with fail
  refine HO.out.mono ?_
  rintro e w1 ⟨rfl, rfl⟩
  go_wp2
  go_ret2
  exact ⟨rfl, rfl⟩
theorem DeskAt.range_full (h : DeskAt w O d M g) (hid : (Lit.int .i64 id).wf = true) (lo hi : Value) {t : Tr} (ht : findT g.op id = some t) (hf : t.asked = 100) :
    Calls Try.prog 11 #[ptrV d, intV id, lo, hi] w fun e w' => e = .returned (.tuple #[.slice none 0 0, .iface 61 (.int .i64 3)]) ∧ w' = w := by
  obtain ⟨kb, sb, ob, hB⟩ := h.tr_cells ht
  rw [hf] at hB
  have HA := Lib.hid (ask_full hB)
  have HO := Lib.hid (h.of_some hid ht)
  clear h hB
  go_enter Try.func11, Try.ntmps11
  go_wp2_with fail
  refine HO.out.mono ?_
  rintro e w1 ⟨rfl, rfl⟩
  go_wp2_with fail
  refine HA.out.mono ?_
  rintro e w1 ⟨rfl, rfl⟩
  go_wp2
  go_ret2
  exact ⟨rfl, rfl⟩
set_option maxHeartbeats 4000000 in
theorem DeskAt.range_on (h : DeskAt w O d M g) (ok : DkOk g k) (hk : k ≤ 40000) (hid : (Lit.int .i64 id).wf = true) (lo hi : List UInt8) (hlo : lo.length ≤ maxLen) (hhi : hi.length ≤ maxLen) {t : Tr} (ht : findT g.op id = some t) (hf : t.asked ≠ 100) :
    Calls Try.prog 11 #[ptrV d, intV id, txt lo, txt hi] w fun e w' => ∃ v L, e = .returned (.tuple #[v, .nilIface]) ∧ OwnKV w' w.heap.size v L ∧ OverIs g.F t.own lo hi t.sees L ∧ L.length ≤ 1000000 ∧
      DeskIn w O d { g with op := setT g.op { t with asked := t.asked + 1, spans := t.spans ++ [(lo, hi)] } } w' := by
  obtain ⟨kb, sb, ob, hB⟩ := h.tr_cells ht
  obtain ⟨ha1, ha2, hrise, hown⟩ := h.tr_asked ht
  have HO := Lib.hid (h.of_some hid ht)
  have HA := Lib.hid (ask_ok (show 0 ≤ t.asked ∧ t.asked < 100 by omega) hB)
  have HN := Lib.hid (DeskAt.sees_ok ok (by omega) ht)
  have hl40 : g.all.length ≤ 40000 := by have := ok.hall.1; omega
  have HSP := Lib.hid (fun w' hB1 hf hs => span_store h ok ht (show t.asked < 100 by omega) (lo, hi) hlo hhi (kb := kb) (sb := sb) (ob := ob) w' hB hB1 hf hs)
  have hbs := hB.lt
  clear h hB
  go_enter Try.func11, Try.ntmps11
  go_wp2_with fail
  refine HO.out.mono ?_
  rintro e w1 ⟨rfl, rfl⟩
  go_wp2_with fail
  refine HA.out.mono ?_
  rintro e w2 ⟨rfl, hB2, hf2, hsz2⟩
  have y3 := hB2.cell 3
  simp at y3
  have z3 : w2.drew.cell? ⟨M.bk id, 3, none⟩ = _ := y3
  obtain ⟨es', clock', eo, co, hst, hB3, hF3, D3, I3⟩ := HSP.out w2 hB2 hf2 hsz2
  go_wp2_with fail
  have HI3 := Lib.hid I3
  have hsz3 : (setBlock w2 sb (.map es' clock')).heap.size = w1.heap.size := by simp [setBlock]; exact hsz2
  generalize hW3 : setBlock w2 sb (.map es' clock') = w3 at *
  have hbd : Below w3.heap.size w3 w3.drew := ⟨rfl, rfl, rfl, Nat.le_refl _, fun _ _ => rfl⟩
  obtain ⟨n, top, hn, _, hT⟩ := (D3.below hbd).tab
  have HGD := Lib.hid hT.good
  have hn8 : n ≤ 800000 := by have : n ≤ 20 * g.all.length := hn; omega
  have HR := Lib.hid (show Calls Try.prog 36 #[.pointer (some ⟨M.tb, 0, none⟩), txt lo, txt hi, .int .i64 t.sees] w3.drew (fun e w' => ∃ A c L, e = .returned (.tuple #[.slice A L.length c, .nilIface]) ∧ OwnKV w' w3.heap.size (.slice A L.length c) L ∧ RangeIs g.F lo hi t.sees L ∧ L.length ≤ n ∧ Below w3.heap.size w3 w') from
    (range_ok M.tb g.F top n (by omega) _ lo hi t.sees w3.drew hT HN.out).mono (fun e w' q => by
      obtain ⟨v, L, q1, q2, q3, q4, q5⟩ := q
      obtain ⟨A, c, hv, _⟩ := q2.rd
      subst hv
      exact ⟨A, c, L, q1, q2, q3, q4, q5.os, q5.tape, q5.output, q5.size, q5.block⟩))
  have hDB := D3.hB
  have x1 := hDB.cell 1
  have x0 := hB3.cell 0
  simp at x1 x0
  have hkk : ∀ W, Blk W d 60 #[ptrV M.lg, ptrV M.tb, .int .i64 g.last, .int .i64 g.ids, .map (some M.ob), M.ev] → Blk W (M.bk id) 68 #[.int .i64 t.sees, .int .i64 (t.asked + 1), .map (some kb), .map (some sb), .map (some ob)] → W.cell? ⟨d, 1, none⟩ = some (ptrV M.tb) ∧ W.cell? ⟨M.bk id, 0, none⟩ = some (.int .i64 t.sees) := fun W e1 e2 => ⟨e1.cell 1, e2.cell 0⟩
  have HF3 := Lib.hid hF3
  clear hT hbd D3 I3 hF3 hst hW3 z3 y3 hB2 hf2 hsz2
  go_region_held3 (fun W => W.cell? ⟨d, 1, none⟩ = some (ptrV M.tb) ∧ W.cell? ⟨M.bk id, 0, none⟩ = some (.int .i64 t.sees))
    (first
      | exact hkk _ hDB hB3
      | exact hkk _ (hDB.below hb4 hDB.lt) (hB3.below hb4 hB3.lt))
    ((go_at_call 36; refine HR.out.mono ?_; rintro e w4 ⟨A4, c4, L, rfl, hK4, hR4, hlen4, hb4⟩))
  have hB4 := hB3.below hb4 hB3.lt
  have HF4 := Lib.hid (HF3.out.below hb4 HF3.out.map.lt)
  have x4 := hB4.cell 4
  simp at x4
  have hmk := run_makeMap (P := Try.prog) 88 w4
  go_wp2_with fail
  obtain ⟨A9, c9, e9, hrd⟩ := hK4.rd
  injection e9 with e91 e92 e93
  subst e91
  subst e93
  have hM0 : FMap (w4.alloc (.map #[] 0)) Try.prog 9 w4.heap.size #[] 0 txt txt (mapF (L.take 0)) := by
    rw [show mapF (L.take 0) = fun _ => none from rfl]
    exact FMap.new w4
  have hb5 : Below w4.heap.size w4 (w4.alloc (.map #[] 0)) := (Below.refl _ _).alloc (Nat.le_refl _) _
  have hshort : ∀ j (h : j < L.length), L[j].1.length ≤ 24 := fun j h => by
    have := (hR4.mem L[j].1 L[j].2).1 (List.getElem_mem h)
    exact (tell_some HGD.out this.2).1
  have HSH := Lib.hid hshort
  have HR4 := Lib.hid hR4
  have HK4 := Lib.hid hK4
  have HB4 := Lib.hid hB4
  have HB34 := Lib.hid hb4
  clear hshort hR4 hK4 hmk hB4 x4 hkk hDB x1 x0 hB3
  generalize hW5 : w4.alloc (.map #[] 0) = w5 at *
  clear hW5
  have hbk4 := HB4.out.lt
  have hob4 := HF4.out.map.lt
  have hw34 := HB34.out.size
  generalize hH : w4.heap.size = B4 at *
  have HH := Lib.hid hH
  clear hH
  go_loopw [16, 60] (fun _ i wr => ∃ (j : Nat) (esm : Array MapEntry) (cm : Nat), j ≤ L.length ∧ i = .int .i64 j ∧ FMap wr Try.prog 9 B4 esm cm txt txt (mapF (L.take j)) ∧ esm.size ≤ j ∧ Below B4 w4 wr ∧ B4 + 1 ≤ wr.heap.size) (fun _ i _ => L.length - (intOf i).toNat)
  case atStart => exact ⟨0, #[], 0, by omega, by go_num, hM0, by simp, hb5, hM0.map.lt⟩
  case round =>
    obtain ⟨j, esm, cm, hj, rfl, hM, hes, hb, hszr⟩ := hrel
    by_cases hjl : j < L.length
    · have hjI : (j : Int) < (L.length : Int) := by omega
      obtain ⟨b, off, rfl, hbB, c0, c1⟩ := hrd.kv hjl
      rw [← hb.cell (p := ⟨b, off + j * 2, none⟩) hbB] at c0
      rw [← hb.cell (p := ⟨b, off + j * 2 + 1, none⟩) hbB] at c1
      have hks := HSH.out j hjl
      have hstep := mapF_step L hjl
      obtain ⟨p1, hp1⟩ : ∃ p1, p1 = L[j].1 := ⟨_, rfl⟩
      obtain ⟨p2, hp2⟩ : ∃ p2, p2 = L[j].2 := ⟨_, rfl⟩
      rw [← hp1, ← hp2] at hstep
      rw [← hp1] at c0 hks
      rw [← hp2] at c1
      have HST := Lib.hid hstep
      clear hp1 hp2 hstep hM0 hb5 hrd
      have hbk0 := Blk.new wr 41 #[txt p1, txt p2]
      have hba := (Below.refl wr.heap.size wr).alloc (Nat.le_refl _) (.cells #[txt p1, txt p2] 41)
      have HBK0 := Lib.hid hbk0
      have HBA0 := Lib.hid hba
      clear hbk0 hba
      go_upto_region 15 with fail
      generalize hWA : wr.alloc (.cells #[.string ⟨p1.toArray⟩, .string ⟨p2.toArray⟩] 41) = wa
      have hbk : Blk wa wr.heap.size 41 #[txt p1, txt p2] := by rw [← hWA]; exact HBK0.out
      have hba : Below wr.heap.size wr wa := by rw [← hWA]; exact HBA0.out
      clear hWA HBK0 HBA0
      have y0 := hbk.cell 0
      have y1 := hbk.cell 1
      simp at y0 y1
      obtain ⟨kl, hkl⟩ := txt_key p1 (by unfold maxLen; omega)
      have hMa := hM.below hba hM.map.lt
      obtain ⟨es2, cl2, hst, hM2, hg2, hsz2', hle2⟩ := hMa.store strKey Try.underlying88 (by unfold maxLen; omega) txtV_inj p1 p2 hkl
      rw [← HST.out] at hM2
      have HM2 := Lib.hid hM2
      have HB2 := Lib.hid ((hb.trans (hba.mono (by omega))).grown hg2 (by have := hba.size; omega) (fun q hq => by injection hq with hq; omega))
      have HSZ2 := Lib.hid (show B4 + 1 ≤ (setBlock wa B4 (.map es2 cl2)).heap.size by have := hba.size; omega)
      clear hM2 hg2 hMa hM hb hba hbk c0 c1
      go_wp2
      go_roundw
      case rel => exact ⟨j + 1, es2, cl2, by omega, by go_num, HM2.out, by omega, HB2.out, HSZ2.out⟩
      case measure => simp [intOf]; omega
    · have hjI : ¬ (j : Int) < (L.length : Int) := by omega
      obtain rfl : j = L.length := by omega
      rw [List.take_length] at hM
      have x4 := (HB4.out.below hb hbk4).cell 4
      simp at x4
      have hm0 := (HF4.out.below hb hob4).map
      clear hM0 hb5 hrd
      go_wp2_with (first | (at_range; refine at_rng _ rfl _ _ rfl 9 71 Try.underlying66 rfl hm0 ?_; intro w6 hR6 hM6 hg6 hs6; go_frame))
      have hb6 : Below B4 w4 w6 := hb.grown hg6 (by omega) (fun k hk => by cases hk)
      have hMM : FMap w6 Try.prog 9 B4 esm cm txt txt (mapF L) := hM.keep (hg6.block _ hM.map.lt (fun e => by cases e))
      have hRel0 := Lib.hid (OvRel.start (f0 := mapF L) (lo := lo) (hi := hi) HF4.out)
      have hcnt := Lib.hid (own_count (k := 0) HF4.out hrise)
      clear hM hb hm0 hM6 hg6 x4
      generalize hQ : wr.heap.size = H2 at *
      clear hQ
      go_loopw [17, 18] (fun _ _ wq => ∃ (left : List MapEntry) (f : List UInt8 → Option (List UInt8)) (esq : Array MapEntry) (cq : Nat), RangeAt wq ob H2 eo co left ∧ FMap wq Try.prog 9 B4 esq cq txt txt f ∧ esq.size + left.length ≤ L.length + eo.size ∧ Below B4 w4 wq ∧ H2 + 1 ≤ wq.heap.size ∧ Hid (OvRel (mapF L) t.own lo hi left f)) (fun _ _ wq => leftN wq ob H2)
      case atStart => exact ⟨eo.toList, mapF L, esm, cm, hR6, hMM, by simp; omega, hb6, by omega, hRel0⟩
      case round =>
        obtain ⟨left, f, esq, cq, hR, hMq, hsq, hb, hszq, hrel⟩ := hrel
        clear hMM hR6 hb6 hRel0
        have hMo := (HF4.out.below hb hob4).map
        have HLN := Lib.hid (hR.left_eq hMo)
        rcases hR.next hMo (by omega) 0 with ⟨h0, hrun⟩ | ⟨⟨ek1, ev1, eb1⟩, left', w', h1, h2, hrun, h3, h4, h5, h6, h7, h8⟩
        · subst h0
          have HS := Lib.hid (sorted_ok B4 esq cq f (by have := hcnt.out; have := hown.1; simp at hsq; omega) wr hMq)
          clear hMq hR hMo
          go_wp2_with fail
          refine HS.out.mono ?_
          rintro e w7 ⟨v, L', rfl, hO7, g1, g2, g3, hb7⟩
          have HOV := Lib.hid (hrel.out.over HR4.out g1 g2)
          have HO7 := Lib.hid (own_of_base hO7 (show w1.heap.size ≤ wr.heap.size by omega))
          have HI7 := Lib.hid (((HI3.out.below HB34.out).below (by rw [HH.out]; exact hb)).below hb7)
          have HL7 := Lib.hid (show L'.length ≤ 1000000 by have := hcnt.out; have := hown.1; simp at hsq; omega)
          obtain ⟨A7, c7, hv7, _⟩ := hO7.rd
          subst hv7
          clear hO7 g1 g2 g3 hb7 hrel hb hsq
          go_wp2
          go_ret2
          exact ⟨_, L', rfl, HO7.out, HOV.out, HL7.out, HI7.out⟩
        · obtain ⟨s, hs⟩ := HF4.out.keys _ (hR.sub _ h1)
          obtain ⟨⟨ck, cv, cg⟩, hc, hv⟩ := HF4.out.val s ev1 ⟨_, hR.sub _ h1, hs, rfl⟩
          have hshort := key_short HF4.out.map (hR.sub _ h1) hs
          simp only at hs hv h7 h8 hrun
          subst hs
          subst hv
          have hlt := hMq.map.lt
          have hMw := hMq.keep (h5.block B4 hlt (fun e => by injection e with e; omega))
          have hb' : Below B4 w4 w' := hb.grown h5 (by omega) (fun k hk => by injection hk with hk; omega)
          have hsz' : H2 + 1 ≤ w'.heap.size := by omega
          have HP := Lib.hid h2.length_eq
          have hle := h2.length_eq
          simp at hle
          have HLO := Lib.hid (lessB_eq' s lo)
          have HHI := Lib.hid (lessB_eq' s hi)
          have HREL := Lib.hid (hrel.out)
          have HP2 := Lib.hid h2
          have HC := Lib.hid hc
          have H7 := Lib.hid h7
          clear hrel hR hMo hMq hb h5 h1 h2 h7 h6 hc
          have HX := Lib.hid (⟨h3, h4, hb'⟩ : RangeAt w' ob H2 eo co left' ∧ MapAt w' Try.prog 9 ob eo co ∧ Below B4 w4 w')
          clear h3 h4 hb'
          rcases hlo' : Op.bytesLess s lo with _ | _
          · rcases hhi' : Op.bytesLess s hi with _ | _
            · have HSK := Lib.hid (HREL.out.skip (s := s) HP2.out rfl (by have := HHI.out; rw [hhi'] at this; simp [inB, ← this]))
              have HMA := Lib.hid (fun o => hMw.below ((Below.refl w'.heap.size w').alloc (Nat.le_refl _) o) hMw.map.lt)
              clear hMw
              go_wp2
              go_roundw
              case rel => exact ⟨left', f, esq, cq, HX.out.1.alloc _, HMA.out _, by omega, HX.out.2.2.alloc (by omega) _, by simp; omega, HSK⟩
              case measure => rw [(HX.out.1.alloc _).left_eq (HX.out.2.1.alloc _), HLN.out, HP.out]; simp
            · have hin : inB lo hi s = true := by
                have q1 := HLO.out
                have q2 := HHI.out
                rw [hlo'] at q1
                rw [hhi'] at q2
                simp [inB, ← q1, ← q2]
              have HTN := Lib.hid (HREL.out.turn (s := s) HP2.out rfl hin HC.out H7.out)
              obtain ⟨kl, hkl⟩ := txt_key s hshort
              clear hin
              cases cg
              · have hbx := (Below.refl w'.heap.size w').alloc (Nat.le_refl _) (.cells #[.string ⟨ck.toArray⟩, .string ⟨cv.toArray⟩, .bool false] 71)
                have hMa := hMw.below hbx hMw.map.lt
                obtain ⟨es2, hdel, hMd, hgd, hsd, hled⟩ := hMa.drop2 (ty := 0) strKey Try.underlying88 txtV_inj s hkl
                have hbk := (Blk.new w' 71 #[.string ⟨ck.toArray⟩, .string ⟨cv.toArray⟩, .bool false]).grown hgd (fun e => by injection e with e; omega)
                have y1 := hbk.cell 1
                have y2 := hbk.cell 2
                simp at y1 y2
                clear hbk
                have hRa := (HX.out.1.alloc (.cells #[.string ⟨ck.toArray⟩, .string ⟨cv.toArray⟩, .bool false] 71)).keep (hgd.block H2 (by simp; omega) (fun e => by injection e with e; omega))
                have hMoa := (HX.out.2.1.alloc (.cells #[.string ⟨ck.toArray⟩, .string ⟨cv.toArray⟩, .bool false] 71)).keep (hgd.block ob (Nat.lt_of_lt_of_le HX.out.2.1.lt hbx.size) (fun e => by injection e with e; omega))
                have hbd := (HX.out.2.2.alloc (by omega) (.cells #[.string ⟨ck.toArray⟩, .string ⟨cv.toArray⟩, .bool false] 71)).grown hgd (by simp; omega) (fun q hq => by injection hq with hq; omega)
                obtain ⟨es3, cl3, hst3, hM3, hg3, hs3, hle3⟩ := hMd.store strKey Try.underlying88 (by unfold maxLen; have := hown.1; have := hcnt.out; omega) txtV_inj s cv hkl
                rw [updO_updO] at hM3
                have HR3 := Lib.hid (hRa.keep (hg3.block H2 hRa.lt (fun e => by injection e with e; omega)))
                have HM3 := Lib.hid (hMoa.keep (hg3.block ob hMoa.lt (fun e => by injection e with e; omega)))
                have HB3' := Lib.hid (hbd.grown hg3 (by have := hbd.size; simp at hsd; omega) (fun q hq => by injection hq with hq; omega))
                have HF3' := Lib.hid hM3
                have HSZ3 := Lib.hid hs3
                have HSD := Lib.hid hsd
                clear hRa hMoa hbd hM3 hg3 hs3 hMd hgd hsd hMa hbx hMw
                go_wp2
                go_roundw
                case rel => exact ⟨left', _, es3, cl3, HR3.out, HF3'.out, by omega, HB3'.out, by rw [HSZ3.out, HSD.out]; simp; omega, HTN⟩
                case measure => rw [HR3.out.left_eq HM3.out, HLN.out, HP.out]; simp
              · have hbx := (Below.refl w'.heap.size w').alloc (Nat.le_refl _) (.cells #[.string ⟨ck.toArray⟩, .string ⟨cv.toArray⟩, .bool true] 71)
                have hMa := hMw.below hbx hMw.map.lt
                obtain ⟨es2, hdel, hMd, hgd, hsd, hled⟩ := hMa.drop2 (ty := 0) strKey Try.underlying88 txtV_inj s hkl
                have hbk := (Blk.new w' 71 #[.string ⟨ck.toArray⟩, .string ⟨cv.toArray⟩, .bool true]).grown hgd (fun e => by injection e with e; omega)
                have y1 := hbk.cell 1
                have y2 := hbk.cell 2
                simp at y1 y2
                clear hbk
                have hRa := (HX.out.1.alloc (.cells #[.string ⟨ck.toArray⟩, .string ⟨cv.toArray⟩, .bool true] 71)).keep (hgd.block H2 (by simp; omega) (fun e => by injection e with e; omega))
                have hMoa := (HX.out.2.1.alloc (.cells #[.string ⟨ck.toArray⟩, .string ⟨cv.toArray⟩, .bool true] 71)).keep (hgd.block ob (Nat.lt_of_lt_of_le HX.out.2.1.lt hbx.size) (fun e => by injection e with e; omega))
                have hbd := (HX.out.2.2.alloc (by omega) (.cells #[.string ⟨ck.toArray⟩, .string ⟨cv.toArray⟩, .bool true] 71)).grown hgd (by simp; omega) (fun q hq => by injection hq with hq; omega)
                have HR3 := Lib.hid hRa
                have HM3 := Lib.hid hMoa
                have HB3' := Lib.hid hbd
                have HF3' := Lib.hid hMd
                have HSD := Lib.hid hsd
                clear hRa hMoa hbd hMd hgd hsd hMa hbx hMw
                go_wp2
                go_roundw
                case rel => exact ⟨left', _, es2, cq, HR3.out, HF3'.out, by omega, HB3'.out, by rw [HSD.out]; simp; omega, HTN⟩
                case measure => rw [HR3.out.left_eq HM3.out, HLN.out, HP.out]; simp
          · have HSK := Lib.hid (HREL.out.skip (s := s) HP2.out rfl (by have := HLO.out; rw [hlo'] at this; simp [inB, ← this]))
            have HMA := Lib.hid (fun o => hMw.below ((Below.refl w'.heap.size w').alloc (Nat.le_refl _) o) hMw.map.lt)
            clear hMw
            go_wp2
            go_roundw
            case rel => exact ⟨left', f, esq, cq, HX.out.1.alloc _, HMA.out _, by omega, HX.out.2.2.alloc (by omega) _, by simp; omega, HSK⟩
            case measure => rw [(HX.out.1.alloc _).left_eq (HX.out.2.1.alloc _), HLN.out, HP.out]; simp
end
end Go.Proofs.Ytfklhjkgogncdaa

/- Contracts of Safe, Size, Tidy. -/
namespace Go.Proofs.Ytfklhjkgogncdaa
set_option linter.unusedVariables false
set_option linter.unusedSimpArgs false
set_option maxRecDepth 100000
open Go.RowKit
open Go.ChangeMaps (setBlock)

theorem leastS_le : ∀ (l : List Tr) (last : Int), leastS last l ≤ last ∧ ∀ t ∈ l, leastS last l ≤ t.sees
  | [], last => ⟨Int.le_refl _, fun t ht => by cases ht⟩
  | u :: l, last => by
    obtain ⟨h1, h2⟩ := leastS_le l (if u.sees < last then u.sees else last)
    have e : leastS last (u :: l) = leastS (if u.sees < last then u.sees else last) l := rfl
    rw [e]
    by_cases c : u.sees < last
    · rw [if_pos c] at h1 h2 ⊢
      refine ⟨by omega, fun t ht => ?_⟩
      rcases List.mem_cons.1 ht with rfl | ht
      · exact h1
      · exact h2 t ht
    · rw [if_neg c] at h1 h2 ⊢
      refine ⟨h1, fun t ht => ?_⟩
      rcases List.mem_cons.1 ht with rfl | ht
      · omega
      · exact h2 t ht
theorem leastS_at : ∀ (l : List Tr) (last : Int), leastS last l = last ∨ ∃ t ∈ l, leastS last l = t.sees
  | [], last => .inl rfl
  | u :: l, last => by
    have e : leastS last (u :: l) = leastS (if u.sees < last then u.sees else last) l := rfl
    rw [e]
    rcases leastS_at l (if u.sees < last then u.sees else last) with h | ⟨t, ht, h⟩
    · rw [h]
      split
      · exact .inr ⟨u, List.mem_cons_self, rfl⟩
      · exact .inl rfl
    · exact .inr ⟨t, List.mem_cons_of_mem _ ht, h⟩
theorem leastS_spec {l : List Tr} {last m : Int} (h1 : m ≤ last) (h2 : ∀ t ∈ l, m ≤ t.sees) (h3 : m = last ∨ ∃ t ∈ l, m = t.sees) : m = leastS last l := by
  obtain ⟨q1, q2⟩ := leastS_le l last
  have q3 := leastS_at l last
  have a : m ≤ leastS last l := by
    rcases q3 with q3 | ⟨t, ht, q3⟩
    · omega
    · have := h2 t ht; omega
  have b : leastS last l ≤ m := by
    rcases h3 with h3 | ⟨t, ht, h3⟩
    · omega
    · have := q2 t ht; omega
  omega
section
variable {w w' : World} {O : Nat → Nat} {d : Nat} {M : Mem} {g : Dk} {id : Int} {k : Nat}
theorem DeskAt.safe_s (h : DeskAt w O d M g) (ok : DkOk g k) (hk4 : g.all.length ≤ 40000) :
    Calls Try.prog 16 #[ptrV d] w fun e w' => e = .returned (.int .i64 g.ns) ∧ Below w.heap.size w w' := by
  obtain ⟨A, c, hv, hrd⟩ := own_form h.ends
  have HEL := Lib.hid ok.ends.1
  have hns := ok.ns_le
  have HE := Lib.hid (fun i hi => ok.ends_at i hi)
  have H := Lib.hid h
  have HV := Lib.hid hv
  have hk := ok.hall.1
  clear h hv
  go_enter Try.func16, Try.ntmps16
  go_wp2_with fail
  go_loopw [3] (fun i wr => ∃ j : Nat, i = .int .i64 j ∧ j ≤ g.ns ∧ Below w.heap.size w wr) (fun i _ => g.ns - (intOf i).toNat)
  case atStart => exact ⟨0, by go_num, by omega, Below.refl _ _⟩
  case round =>
    obtain ⟨j, rfl, hj, hb⟩ := hrel
    have D := H.out.below hb
    have x5 := D.hB.cell 5
    have x0 := D.hB.cell 0
    simp at x5 x0
    rw [HV.out] at x5
    have HSf := Lib.hid (fun q => show Calls Try.prog 42 #[.pointer (some ⟨M.lg, 0, none⟩)] (wr.drewN q) (fun e w' => e = .returned (.int .i64 g.lg.safe) ∧ w' = wr.drewN q) from
      (D.below (w' := wr.drewN q) ⟨rfl, rfl, rfl, Nat.le_refl _, fun _ _ => rfl⟩).log.safe_ok)
    have HB := Lib.hid hb
    clear D hb
    by_cases hjn : j < g.ends.length
    · have hjI : (j : Int) < (g.ends.length : Int) := by omega
      have hd1 : decide ((j : Int) < (g.ends.length : Int)) = true := decide_eq_true hjI
      obtain ⟨b, off, rfl, hbB, hc⟩ := hrd (fun e => by have h9 : (g.ends.map (Value.int .i64)).length = 0 := (by rw [e]; rfl); rw [List.length_map] at h9; omega)
      have c0 := hc j (.int .i64 g.ends[j]) (by simp [hjn])
      rw [← HB.out.cell (p := ⟨b, off + j, none⟩) hbB] at c0
      have hiff := HE.out j hjn
      by_cases hlt : j < g.ns
      · have hle : g.ends[j] ≤ (g.lg.safe : Int) := hiff.2 hlt
        have hd2 : decide (g.ends[j] ≤ (g.lg.safe : Int)) = true := decide_eq_true hle
        clear hiff
        go_wp2_with fail
        go_quiet ((go_at_call 42; exact Calls.quiet_of_same ((HSf.out _).mono fun e w' h => ⟨h.1, h.2⟩)))
        go_wp2
        go_roundw
        case rel => exact ⟨j + 1, by go_num, by omega, Below.drewN' HB.out⟩
        case measure => simp [intOf]; omega
      · have hle : ¬ g.ends[j] ≤ (g.lg.safe : Int) := fun q => hlt (hiff.1 q)
        have hd2 : decide (g.ends[j] ≤ (g.lg.safe : Int)) = false := decide_eq_false hle
        have hjs := Lib.hid (show j = g.ns by omega)
        clear hiff
        go_wp2_with fail
        go_quiet ((go_at_call 42; exact Calls.quiet_of_same ((HSf.out _).mono fun e w' h => ⟨h.1, h.2⟩)))
        go_wp2
        go_ret
        exact ⟨by rw [← hjs.out]; rfl, Below.drewN' HB.out⟩
    · have hjI : ¬ (j : Int) < (g.ends.length : Int) := by omega
      have hd1 : decide ((j : Int) < (g.ends.length : Int)) = false := decide_eq_false hjI
      have hjs := Lib.hid (show j = g.ns by have := HEL.out; omega)
      go_wp2_with fail
      go_quiet (fail)
      go_wp2
      go_ret
      exact ⟨by rw [← hjs.out]; rfl, Below.drewN' HB.out⟩
theorem DeskAt.size_s (h : DeskAt w O d M g) (hk : g.all.length ≤ 40000) :
    Calls Try.prog 21 #[ptrV d] w fun e w' => ∃ N : Nat, e = .returned (.int .i64 N) ∧ Count g.F N ∧ N ≤ 1000000000000 ∧ Below w.heap.size w w' := by
  obtain ⟨n, top, hn, _, hT⟩ := h.tab
  have HS := Lib.hid (Size_any M.tb g.F top n (by omega) _ w hT)
  have x1 := h.hB.cell 1
  simp at x1
  clear h hT
  go_enter Try.func21, Try.ntmps21
  go_wp2_with fail
  refine HS.out.mono ?_
  rintro e w1 ⟨N, rfl, h1, h2, h3⟩
  have H1 := Lib.hid h1
  have H3 := Lib.hid h3
  clear h1 h3
  go_wp2
  go_ret
  exact ⟨N, rfl, H1.out, h2, H3.out⟩
set_option maxHeartbeats 1000000 in
theorem DeskAt.tidy_to (h : DeskAt w O d M g) (ok : DkOk g k) (hk : g.all.length ≤ 40000) :
    Calls Try.prog 20 #[ptrV d] w fun e w' => ∃ N j : Nat, e = .returned (.int .i64 j) ∧ Count (colF g.F (leastS g.last g.op)) N ∧ Count g.F (j + N) ∧ DeskTo w O d { g with F := colF g.F (leastS g.last g.op) } w' := by
  obtain ⟨eo, co, hF⟩ := h.op
  have hm0 := hF.map
  have hoblt := hm0.lt
  have x2 := h.hB.cell 2
  have x4 := h.hB.cell 4
  simp at x2 x4
  have HF := Lib.hid hF
  have H := Lib.hid h
  have HO := Lib.hid ok
  have hL : 0 ≤ g.last ∧ g.last ≤ 40000 := by unfold Dk.last; omega
  obtain ⟨hL1, hL2⟩ := hL
  clear h hF ok
  go_enter Try.func20, Try.ntmps20
  go_wp2_with (first | (at_range; refine at_rng _ rfl _ _ rfl 3 63 Try.underlying58 rfl hm0 ?_; intro w2 hR2 hM2 hg2 hs2; go_frame))
  have hb2 : Below w.heap.size w w2 := (Below.refl _ _).grown hg2 (Nat.le_refl _) (fun k hk => by cases hk)
  clear hm0 hM2
  generalize hQ : w.heap.size = B0 at *
  have HH := Lib.hid hQ
  clear hQ
  go_loopw [3, 5] (fun v _ wr => ∃ (left : List MapEntry) (m : Int), v = .int .i64 m ∧ 0 ≤ m ∧ m ≤ g.last ∧ RangeAt wr M.ob B0 eo co left ∧ Below B0 w wr ∧ B0 + 1 ≤ wr.heap.size ∧ Hid ((m = g.last ∨ ∃ t ∈ g.op, m = t.sees) ∧ ∀ t ∈ g.op, (∀ x ∈ left, x.key ≠ intV t.id) → m ≤ t.sees)) (fun _ _ wr => leftN wr M.ob B0)
  case atStart =>
    refine ⟨eo.toList, g.last, rfl, hL1, Int.le_refl _, hR2, hb2, by omega, Lib.hid ⟨.inl rfl, fun t ht hx => ?_⟩⟩
    have hf := (findT_iff HO.out.ids).2 ⟨ht, rfl⟩
    obtain ⟨x, hx1, hx2, _⟩ := HF.out.has t.id (M.bk t.id) (by simp [hf])
    exact absurd hx2 (hx x hx1)
  case round =>
    obtain ⟨left, m, rfl, hm0, hmL, hR, hb, hsz, hrel⟩ := hrel
    have hM3 := HF.out.below hb hoblt
    have HLN := Lib.hid (hR.left_eq hM3.map)
    rcases hR.next hM3.map (by omega) 0 with ⟨h0, hrun⟩ | ⟨⟨ek1, ev1, eb1⟩, left', w', h1, h2, hrun, h3, h4, h5, h6, h7, h8⟩
    · subst h0
      have hmin : m = leastS g.last g.op := leastS_spec hmL (fun t ht => hrel.out.2 t ht (fun x hx => by cases hx)) hrel.out.1
      have D := H.out.below (by rw [HH.out]; exact hb)
      obtain ⟨n, top, hn, htop, hT⟩ := D.tab
      have HC := Lib.hid (collect_ok M.tb g.F top n (by omega) _ m wr hT (numB_of (by omega)))
      have x1 := D.hB.cell 1
      simp at x1
      have HD := Lib.hid D
      have HBW := Lib.hid (show Below w.heap.size w wr by rw [HH.out]; exact hb)
      have HMI := Lib.hid hmin
      clear hM3 hR hT D hrel hb hmin
      go_wp2_with fail
      refine HC.out.mono ?_
      rintro e w5 ⟨N, j, rfl, c1, c2, f5, hT5⟩
      have HDT := Lib.hid (DeskTo.trans (fun q e => .inl e) (Fr.of_below HBW.out) (DeskTo.of (HD.out.turn_tab f5 hn htop hT5) HD.out.bound (by decide) f5))
      have H1 := Lib.hid c1
      have H2 := Lib.hid c2
      clear c1 c2 f5 hT5
      go_wp2
      go_ret
      rw [← HMI.out]
      exact ⟨N, j, rfl, H1.out, H2.out, HDT.out⟩
    · obtain ⟨i, hi⟩ := HF.out.keys _ (hR.sub _ h1)
      obtain ⟨y, hy, hv⟩ := HF.out.val i ev1 ⟨_, hR.sub _ h1, hi, rfl⟩
      cases hf : findT g.op i with
      | none => rw [hf] at hy; cases hy
      | some t =>
        rw [hf] at hy
        simp at hy
        subst hy
        obtain ⟨htm, hti⟩ := findT_mem hf
        simp only at hi hv h7 h8 hrun
        subst hi
        subst hv
        have hb' : Below B0 w w' := hb.grown h5 (by omega) (fun k hk => by injection hk with hk; omega)
        have hbw : Below w.heap.size w w' := by rw [HH.out]; exact hb'
        obtain ⟨kb, sb, ob, hB⟩ := (H.out.below hbw).tr_cells hf
        have x0 := hB.cell 0
        simp at x0
        have hsee := HO.out.each t htm
        have HREL := Lib.hid (show ((if t.sees < m then t.sees else m) = g.last ∨ ∃ u ∈ g.op, (if t.sees < m then t.sees else m) = u.sees) ∧ ∀ u ∈ g.op, (∀ x ∈ left', x.key ≠ intV u.id) → (if t.sees < m then t.sees else m) ≤ u.sees from by
          refine ⟨?_, fun u hu hx => ?_⟩
          · split
            · exact .inr ⟨t, htm, rfl⟩
            · exact hrel.out.1
          · by_cases e : u.id = i
            · have hfu := (findT_iff HO.out.ids).2 ⟨hu, e⟩
              rw [hf] at hfu
              injection hfu with hfu
              subst hfu
              split <;> omega
            · have := hrel.out.2 u hu (fun x hx2 => by
                rcases List.mem_cons.1 (h2.mem_iff.1 hx2) with rfl | hx3
                · intro q
                  exact e (intV_inj _ _ q).symm
                · exact hx x hx3)
              split <;> omega)
        obtain ⟨_, _, hs0, hs1⟩ := hsee
        have h6' : B0 + 1 ≤ w'.heap.size := by omega
        have HP := Lib.hid h2.length_eq
        clear hrel hM3 hR hb h1 h2 h5 h7 h6 hB hbw hf htm hti
        by_cases hlt : t.sees < m
        · rw [if_pos hlt] at HREL
          go_wp2
          go_roundw
          case rel => exact ⟨left', t.sees, by go_num, by omega, by omega, h3, hb', h6', HREL⟩
          case measure => rw [h3.left_eq h4, HLN.out, HP.out]; simp
        · rw [if_neg hlt] at HREL
          go_wp2
          go_roundw
          case rel => exact ⟨left', m, by go_num, by omega, by omega, h3, hb', h6', HREL⟩
          case measure => rw [h3.left_eq h4, HLN.out, HP.out]; simp
end
end Go.Proofs.Ytfklhjkgogncdaa
