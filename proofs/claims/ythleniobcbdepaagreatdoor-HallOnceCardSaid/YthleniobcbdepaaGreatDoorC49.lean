/- Texts joined: XOrdDo, XPwk15, XHall2, XHall3, XAnsS, XHallOnce. Each says at its head what it proves; conditions: as said there. -/
import Derived.Test.YthleniobcbdepaaGreatDoorC45
import Derived.Test.YthleniobcbdepaaGreatDoorC37
import Derived.Test.YthleniobcbdepaaGreatDoorC41
import Derived.Test.YthleniobcbdepaaGreatDoorC10
/- A call keeps what is in order: plain mathematics of programs over a transaction. No conditions. -/
namespace Go.Proofs.YthleniobcbdepaaGreatDoor
set_option linter.unusedVariables false
set_option linter.unusedSimpArgs false
open Go.RowKit

/-- What a program tells and leaves. -/
def Wp (β : Base) (p : DP (PAns × Int)) (t : St) (Q : PAns → Int → List Chg → Prop) : Prop := Q (p.runS β t).1.1 (p.runS β t).1.2 (p.runS β t).2.own
section
variable {β : Base} {t : St} {Q : PAns → Int → List Chg → Prop}
theorem Wp.no (e : Int) (h : Q noAns e t.own) : Wp β (noP e) t Q := h
theorem Wp.ret (a : PAns) (e : Int) (h : Q a e t.own) : Wp β (.ret (a, e)) t Q := h
theorem Wp.ite {b : Prop} [Decidable b] {p q : DP (PAns × Int)} (h1 : b → Wp β p t Q) (h2 : ¬ b → Wp β q t Q) : Wp β (if b then p else q) t Q := by
  by_cases h : b
  · rw [if_pos h]; exact h1 h
  · rw [if_neg h]; exact h2 h
theorem Wp.chg (c : Chg) (a : PAns) (h1 : ∀ e, e ≠ 0 → Q noAns e t.own) (h2 : keyB c.key = true → c.val.length ≤ 12 → Q a 0 (insC c t.own)) : Wp β (chgP c a) t Q := by
  show Q (if (t.change c).1 = 0 then a else noAns) (t.change c).1 (t.change c).2.own
  unfold St.change
  split
  · exact h1 2 (by decide)
  · rename_i hk
    split
    · exact h1 3 (by decide)
    · refine h2 ?_ (Nat.le_of_not_lt (fun q => hk (.inr q)))
      cases e : keyB c.key with
      | true => rfl
      | false => exact absurd (.inl e) hk
theorem Wp.has (s : List UInt8) (f : Bool × Int → DP (PAns × Int))
    (H : ∀ (b : Bool) (e : Int) (t' : St), t'.own = t.own → (e = 0 → b = true → seeB β t.own s ≠ none) → (e = 0 → b = false → seeB β t.own s = none) → Wp β (f (b, e)) t' Q) : Wp β ((hasP s).bind f) t Q := by
  refine H (decide ((t.get β s).1.2 = 0)) (if (t.get β s).1.2 = 4 then 0 else (t.get β s).1.2) (t.get β s).2 (St.get_own β t s) ?_ ?_
  · intro he hb
    have hb := of_decide_eq_true hb
    unfold St.get at hb
    split at hb
    · exact absurd hb (by simp)
    · split at hb
      · exact absurd hb (by simp)
      · unfold getB at hb
        split at hb
        · rename_i v hv; rw [hv]; simp
        · exact absurd hb (by simp)
  · intro he hb
    have hb := of_decide_eq_false hb
    unfold St.get at hb he
    split at hb
    · rename_i q; rw [if_pos q] at he; exact absurd he (by simp)
    · rename_i q
      rw [if_neg q] at he
      split at hb
      · rename_i q2; rw [if_pos q2] at he; exact absurd he (by simp)
      · unfold getB at hb
        split at hb
        · exact absurd rfl hb
        · rename_i hv; exact hv
theorem Wp.mono {p : DP (PAns × Int)} {Q' : PAns → Int → List Chg → Prop} (h : Wp β p t Q) (k : ∀ a e own, Q a e own → Q' a e own) : Wp β p t Q' := k _ _ _ h
end
/-- Calls that may be. -/
theorem callFault_zero {c : PCall} (h : callFault c = 0) : (1 ≤ c.what ∧ c.what ≤ 9) ∧ nameB c.name = true ∧ (callOwned c.what = true → nameB c.owner = true) ∧ (callPf c.what = true → chk c.pa c.pn = 0) ∧ (callAd c.what = true → isA c.ad = true) := by
  unfold callFault at h
  split at h
  · exact absurd h (by decide)
  · rename_i h1
    split at h
    · exact absurd h (by decide)
    · rename_i h2
      split at h
      · exact absurd h (by decide)
      · rename_i h3
        refine ⟨by omega, by cases e : nameB c.name with | true => rfl | false => exact absurd e h2, fun q => ?_, fun q => ?_, fun q => ?_⟩
        · cases e : nameB c.owner with
          | true => rfl
          | false => exact absurd ⟨q, e⟩ h3
        · rw [if_pos q] at h; exact h
        · by_cases h4 : callPf c.what = true
          · exfalso
            unfold callPf at h4
            unfold callAd at q
            simp at h4 q
            omega
          · rw [if_neg h4] at h
            cases e : isA c.ad with
            | true => rfl
            | false => rw [if_pos ⟨q, e⟩] at h; exact absurd h (by decide)
theorem pf_nat {p : Pf} (h : chk p.1 p.2 = 0) : ((p.1.toNat : Int) = p.1) ∧ ((p.2.toNat : Int) = p.2) := by
  have := chk_zero.1 h
  omega
theorem keyI_pk {net : List UInt8} (hn : nameB net = true) {p : Pf} (h : chk p.1 p.2 = 0) : keyI (pkOf net p) = ⟨2, net, p.1.toNat, p.2.toNat, 0⟩ := by
  unfold pkOf
  exact keyI_p hn (by rw [(pf_nat h).1, (pf_nat h).2]; exact h)
/-- In order, and one's own rising. -/
def KeepO (β : Base) (own : List Chg) : Prop := OrdV (seeB β own) ∧ RiseC own
def NetIn (V : Base) (net : List UInt8) : Prop := ∃ s', V s' ≠ none ∧ (keyI s').kind = 1 ∧ (keyI s').net = net
section
variable {β : Base} {own : List Chg}
theorem KeepO.net (h : KeepO β own) {net v : List UInt8} (hn : nameB net = true) (hv : nameB v = true) : KeepO β (insC ⟨nKey net, v, false⟩ own) :=
  ⟨by rw [see_ins β h.2]; exact h.1.put _ _ (by rw [keyI_n hn]; simp) hv (.inl (by rw [keyI_n hn])) (fun q => by rw [keyI_n hn] at q; cases q), insC_rise h.2⟩
theorem KeepO.pfx (h : KeepO β own) {net v : List UInt8} (hn : nameB net = true) (hv : nameB v = true) {p : Pf} (hp : chk p.1 p.2 = 0) (hN : NetIn (seeB β own) net) : KeepO β (insC ⟨pkOf net p, v, false⟩ own) :=
  ⟨by
    rw [see_ins β h.2]
    refine h.1.put _ _ (by rw [keyI_pk hn hp]; simp) hv (.inr ?_) (fun q => by rw [keyI_pk hn hp] at q; cases q)
    rw [keyI_pk hn hp]
    exact hN, insC_rise h.2⟩
end
section
variable {β : Base} {t : St} (c : PCall)
end
end Go.Proofs.YthleniobcbdepaaGreatDoor

/- plot.do at any call; plot.Do. Conditions: as said. -/
namespace Go.Proofs.YthleniobcbdepaaGreatDoor
set_option linter.unusedVariables false
set_option linter.unusedSimpArgs false
open Go.RowKit

section
variable {B : Nat} {w : World} {T : Nat → Prop} {d : Nat} {g : Dk} {id : Int} {k : Nat}
theorem DK.do_any (h : DK B w T d g k) (hk : k ≤ 40000) (hid : (Lit.int .i64 id).wf = true) (c : PCall) (hc : CallOk c) (hf : callFault c = 0) (h1 : c.what ≠ 1) :
    Calls Tryz.prog 43 #[workV d id c] w (DoR B w T d k (g.do2 id c)) := by
  obtain ⟨⟨w1, w2⟩, hn, how, hpf, had⟩ := callFault_zero hf
  obtain ⟨what, nm, pa, pn, ln, ad, ow⟩ := c
  simp only at w1 w2 hn how hpf had h1
  rcases (show what = 2 ∨ what = 3 ∨ what = 4 ∨ what = 5 ∨ what = 6 ∨ what = 7 ∨ what = 8 ∨ what = 9 by omega) with rfl | rfl | rfl | rfl | rfl | rfl | rfl | rfl
  · exact h.do_2 hk hid nm ow pa pn ln ad hc hn (how (by decide)) (hpf (by decide))
  · exact h.do_3 hk hid nm ow pa pn ln ad hc hn (hpf (by decide))
  · exact h.do_4 hk hid nm ow pa pn ln ad hc hn (how (by decide)) (had (by decide))
  · exact h.do_5 hk hid nm ow pa pn ln ad hc hn (had (by decide))
  · exact h.do_6 hk hid nm ow pa pn ln ad hc hn (hpf (by decide))
  · exact h.do_7 hk hid nm ow pa pn ln ad hc hn (hpf (by decide))
  · exact h.do_8 hk hid nm ow pa pn ln ad hc hn
  · exact h.do_9 hk hid nm ow pa pn ln ad hc hn (had (by decide))
theorem nk_len {c : PCall} (hn : nameB c.name = true) : c.nk.length ≤ 100 := by
  have h8 := (nameB_iff.1 hn).2.2
  unfold PCall.nk nKey
  simp only [List.length_append, List.length_cons, List.length_nil]
  omega
theorem nk_any (net : List UInt8) (hn : nameB net = true) (w : World) :
    Calls Tryz.prog 41 #[txt net] w fun e w' => e = .returned (txt (nKey net)) ∧ Below w.heap.size w w' :=
  (netKey_any net (by have h8 := (nameB_iff.1 hn).2.2; omega) w).mono fun e w' q => ⟨q.1, by rw [← q.2]; exact Below.refl _ _⟩
set_option maxRecDepth 100000 in
set_option maxHeartbeats 4000000 in
theorem DK.doC (h : DK B w T d g k) (hk : k ≤ 40000) (hid : (Lit.int .i64 id).wf = true) (c : PCall) (hc : CallW c) :
    Calls Tryz.prog 23 #[ptrV d, intV id, CallV c] w fun e w' => ∃ v, e = .returned (.tuple #[AnsV v (g.doC id c).1, faultV (g.doC id c).2.1]) ∧ OwnP w' w.heap.size 24 v (g.doC id c).1.list ∧ ∃ T', (∀ q, v.ownBlock = some q → ¬ T' q) ∧ DKto B w T d w' T' (g.doC id c).2.2 k := by
  have hD1 := h.refl.alloc (.cells #[.int .i64 c.what, txt c.name, .int .i64 c.pa, .int .i64 c.pn, .int .i64 c.len, .int .i64 c.ad, txt c.owner] 26)
  have hC1 := Loc.new h 26 #[.int .i64 c.what, txt c.name, .int .i64 c.pa, .int .i64 c.pn, .int .i64 c.len, .int .i64 c.ad, txt c.owner]
  have hD2 := hD1.alloc (.cells #[.int .i64 0, .int .i64 0, .int .i64 0, .string { data := #[] }, .slice none 0 0] 34)
  have hC2 := hC1.alloc (.cells #[.int .i64 0, .int .i64 0, .int .i64 0, .string { data := #[] }, .slice none 0 0] 34)
  have hR2 := Loc.new hD1.dk 34 #[.int .i64 0, .int .i64 0, .int .i64 0, .string { data := #[] }, .slice none 0 0]
  rw [World.size_alloc] at hR2
  have HC := Lib.hid hc
  have HCK := Lib.hid (fun W => checkC_any c hc W)
  have HNO := Lib.hid (g.doC_no id c)
  clear hc
  unfold CallV at HCK
  unfold CallV
  go_enter Tryz.func23, Tryz.ntmps23
  go_upto_region 1 with fail
  refine wp_name (fun w2 HW => ?_)
  rw [← HW.out] at hD2 hC2 hR2
  clear HW hD1 hC1
  have z0 := hR2.blk.cell 0; have z1 := hR2.blk.cell 1; have z2 := hR2.blk.cell 2; have z3 := hR2.blk.cell 3; have z4 := hR2.blk.cell 4; have u0 := hR2.blk.frozen 0; have u1 := hR2.blk.frozen 1; have u2 := hR2.blk.frozen 2; have u3 := hR2.blk.frozen 3; have u4 := hR2.blk.frozen 4
  have x0 := hC2.blk.cell 0; have x1 := hC2.blk.cell 1; have x2 := hC2.blk.cell 2; have x3 := hC2.blk.cell 3; have x4 := hC2.blk.cell 4; have x5 := hC2.blk.cell 5; have x6 := hC2.blk.cell 6
  simp at z0 z1 z2 z3 z4 x0 x1 x2 x3 x4 x5 x6
  go_wp2_with fail
  refine (HCK.out _).mono ?_
  rintro e w3 ⟨rfl, hb3⟩
  have hD3 := hD2.bel hb3
  have hC3 := hC2.bel hb3
  have hR3 := hR2.bel hb3
  clear hD2 hC2 hR2 hb3 HCK z0 z1 z2 z3 z4 u0 u1 u2 u3 u4 x0 x1 x2 x3 x4 x5 x6
  by_cases hf : callFault c ≠ 0
  · have HR := Lib.hid (show g.doC id c = (noAns, callFault c, g) by unfold Dk.doC; rw [if_pos hf])
    have HF := Lib.hid (fault_num hf)
    rw [HF.out]
    clear hf
    have z0 := hR3.blk.cell 0; have z1 := hR3.blk.cell 1; have z2 := hR3.blk.cell 2; have z3 := hR3.blk.cell 3; have z4 := hR3.blk.cell 4; have u0 := hR3.blk.frozen 0; have u1 := hR3.blk.frozen 1; have u2 := hR3.blk.frozen 2; have u3 := hR3.blk.frozen 3; have u4 := hR3.blk.frozen 4
    have x0 := hC3.blk.cell 0; have x1 := hC3.blk.cell 1; have x2 := hC3.blk.cell 2; have x3 := hC3.blk.cell 3; have x4 := hC3.blk.cell 4; have x5 := hC3.blk.cell 5; have x6 := hC3.blk.cell 6
    simp at z0 z1 z2 z3 z4 x0 x1 x2 x3 x4 x5 x6
    go_wp2
    refine bodyPost_ret (v := .tuple #[AnsV (.slice none 0 0) noAns, .iface 50 (.int .i64 (callFault c))]) (by simp [AnsV, noAns, results, Tryz.results23, go_sem, z0, z1, z2, z3, z4, u0, u1, u2, u3, u4]) rfl ?_
    refine ⟨.slice none 0 0, by rw [HR.out]; exact congrArg (fun x => Ending.returned (.tuple #[AnsV (.slice none 0 0) noAns, x])) HF.out.symm, by rw [HR.out]; exact OwnP.nil _ _ _, T, own_none, ?_⟩
    rw [HR.out]
    (repeat' (first | exact hD3 | refine DKto.set ?_ ?_ ?_ _ | exact hR3.out)) <;> simp
  have hf : callFault c = 0 := Decidable.not_not.1 hf
  rw [show faultV (callFault c) = .nilIface by rw [hf]; rfl]
  obtain ⟨hwh, hn, how, hpf, had⟩ := callFault_zero hf
  have HN := Lib.hid hn
  have HO := Lib.hid how
  have HCO := Lib.hid (HC.out.ok hn)
  have HZ := Lib.hid hf
  have HV := Lib.hid (show g.doC id c = if (g.has id c.nk).2.1 ≠ 0 then (noAns, (g.has id c.nk).2.1, (g.has id c.nk).2.2) else if c.what = 1 then (if (g.has id c.nk).1 then (noAns, 6, (g.has id c.nk).2.2) else (g.has id c.nk).2.2.chg id ⟨c.nk, c.owner, false⟩ noAns) else if (g.has id c.nk).1 = false then (noAns, 4, (g.has id c.nk).2.2) else (g.has id c.nk).2.2.do2 id c by unfold Dk.doC; rw [if_neg (by rw [hf]; simp)]; rfl)
  have HPK := Lib.hid (fun (W : World) => nk_any c.name HN.out W)
  have HKL := Lib.hid (show c.nk.length ≤ maxLen by have := nk_len HN.out; unfold maxLen; omega)
  have HOL := Lib.hid (show c.owner.length ≤ maxLen by have := HC.out.owner; unfold maxLen; omega)
  have HHAS := Lib.hid (fun W T' (q : DK B W T' d g k) => q.has hk hid c c.nk HKL.out)
  unfold workV at HHAS
  rw [show nKey c.name = c.nk from rfl] at HPK
  generalize g.has id c.nk = rh at *
  generalize c.nk = key at *
  clear hf hn how hpf had hwh
  have hX4 := Loc.new hD3.dk 96 #[ptrV d, intV id, .int .i64 c.what, txt c.name, .int .i64 c.pa, .int .i64 c.pn, .int .i64 c.len, .int .i64 c.ad, txt c.owner]
  have hD4 := hD3.alloc (.cells #[ptrV d, intV id, .int .i64 c.what, txt c.name, .int .i64 c.pa, .int .i64 c.pn, .int .i64 c.len, .int .i64 c.ad, txt c.owner] 96)
  have hC4 := hC3.alloc (.cells #[ptrV d, intV id, .int .i64 c.what, txt c.name, .int .i64 c.pa, .int .i64 c.pn, .int .i64 c.len, .int .i64 c.ad, txt c.owner] 96)
  have hR4 := hR3.alloc (.cells #[ptrV d, intV id, .int .i64 c.what, txt c.name, .int .i64 c.pa, .int .i64 c.pn, .int .i64 c.len, .int .i64 c.ad, txt c.owner] 96)
  have HBX := Lib.hid (show w.heap.size + 1 < w3.heap.size from hR3.blk.lt)
  have z0 := hR3.blk.cell 0; have z1 := hR3.blk.cell 1; have z2 := hR3.blk.cell 2; have z3 := hR3.blk.cell 3; have z4 := hR3.blk.cell 4; have u0 := hR3.blk.frozen 0; have u1 := hR3.blk.frozen 1; have u2 := hR3.blk.frozen 2; have u3 := hR3.blk.frozen 3; have u4 := hR3.blk.frozen 4
  have x0 := hC3.blk.cell 0; have x1 := hC3.blk.cell 1; have x2 := hC3.blk.cell 2; have x3 := hC3.blk.cell 3; have x4 := hC3.blk.cell 4; have x5 := hC3.blk.cell 5; have x6 := hC3.blk.cell 6
  simp at z0 z1 z2 z3 z4 x0 x1 x2 x3 x4 x5 x6
  go_upto_region 5 with fail
  refine wp_name (fun w4 HW => ?_)
  rw [← HW.out] at hD4 hC4 hR4 hX4
  clear HW hD3 hC3 hR3 z0 z1 z2 z3 z4 u0 u1 u2 u3 u4 x0 x1 x2 x3 x4 x5 x6
  generalize w3.heap.size = bx at *
  have hks : ∀ W : World, Blk W bx 96 #[ptrV d, intV id, .int .i64 c.what, txt c.name, .int .i64 c.pa, .int .i64 c.pn, .int .i64 c.len, .int .i64 c.ad, txt c.owner] → Blk W w.heap.size 26 #[.int .i64 c.what, txt c.name, .int .i64 c.pa, .int .i64 c.pn, .int .i64 c.len, .int .i64 c.ad, txt c.owner] → W.cell? ⟨bx, 0, none⟩ = some (ptrV d) ∧ W.cell? ⟨bx, 1, none⟩ = some (intV id) ∧ W.cell? ⟨bx, 2, none⟩ = some (.int .i64 c.what) ∧ W.cell? ⟨bx, 3, none⟩ = some (txt c.name) ∧ W.cell? ⟨bx, 4, none⟩ = some (.int .i64 c.pa) ∧ W.cell? ⟨bx, 5, none⟩ = some (.int .i64 c.pn) ∧ W.cell? ⟨bx, 6, none⟩ = some (.int .i64 c.len) ∧ W.cell? ⟨bx, 7, none⟩ = some (.int .i64 c.ad) ∧ W.cell? ⟨bx, 8, none⟩ = some (txt c.owner) ∧ W.cell? ⟨w.heap.size, 0, none⟩ = some (.int .i64 c.what) ∧ W.cell? ⟨w.heap.size, 1, none⟩ = some (txt c.name) ∧ W.cell? ⟨w.heap.size, 2, none⟩ = some (.int .i64 c.pa) ∧ W.cell? ⟨w.heap.size, 3, none⟩ = some (.int .i64 c.pn) ∧ W.cell? ⟨w.heap.size, 4, none⟩ = some (.int .i64 c.len) ∧ W.cell? ⟨w.heap.size, 5, none⟩ = some (.int .i64 c.ad) ∧ W.cell? ⟨w.heap.size, 6, none⟩ = some (txt c.owner) := fun W a b => ⟨a.cell 0, a.cell 1, a.cell 2, a.cell 3, a.cell 4, a.cell 5, a.cell 6, a.cell 7, a.cell 8, b.cell 0, b.cell 1, b.cell 2, b.cell 3, b.cell 4, b.cell 5, b.cell 6⟩
  have hXd : Blk w4.drew bx 96 #[ptrV d, intV id, .int .i64 c.what, txt c.name, .int .i64 c.pa, .int .i64 c.pn, .int .i64 c.len, .int .i64 c.ad, txt c.owner] := hX4.blk
  have hCd : Blk w4.drew w.heap.size 26 #[.int .i64 c.what, txt c.name, .int .i64 c.pa, .int .i64 c.pn, .int .i64 c.len, .int .i64 c.ad, txt c.owner] := hC4.blk
  go_region_held3 (fun W => W.cell? ⟨bx, 0, none⟩ = some (ptrV d) ∧ W.cell? ⟨bx, 1, none⟩ = some (intV id) ∧ W.cell? ⟨bx, 2, none⟩ = some (.int .i64 c.what) ∧ W.cell? ⟨bx, 3, none⟩ = some (txt c.name) ∧ W.cell? ⟨bx, 4, none⟩ = some (.int .i64 c.pa) ∧ W.cell? ⟨bx, 5, none⟩ = some (.int .i64 c.pn) ∧ W.cell? ⟨bx, 6, none⟩ = some (.int .i64 c.len) ∧ W.cell? ⟨bx, 7, none⟩ = some (.int .i64 c.ad) ∧ W.cell? ⟨bx, 8, none⟩ = some (txt c.owner) ∧ W.cell? ⟨w.heap.size, 0, none⟩ = some (.int .i64 c.what) ∧ W.cell? ⟨w.heap.size, 1, none⟩ = some (txt c.name) ∧ W.cell? ⟨w.heap.size, 2, none⟩ = some (.int .i64 c.pa) ∧ W.cell? ⟨w.heap.size, 3, none⟩ = some (.int .i64 c.pn) ∧ W.cell? ⟨w.heap.size, 4, none⟩ = some (.int .i64 c.len) ∧ W.cell? ⟨w.heap.size, 5, none⟩ = some (.int .i64 c.ad) ∧ W.cell? ⟨w.heap.size, 6, none⟩ = some (txt c.owner))
    (first
      | with_reducible exact hks _ hXd hCd
      | with_reducible exact hks _ hX5.blk hC5.blk
      | with_reducible exact hks _ hX6.blk hC6.blk)
    ((first
      | (go_at_call 41; refine (HPK.out _).mono ?_; rintro e w5 ⟨rfl, hb5⟩; have hD5 := hD4.drew.bel hb5; have hX5 := hX4.bel (w2 := w5) ⟨hb5.os, hb5.tape, hb5.output, hb5.size, hb5.block⟩; have hR5 := hR4.bel (w2 := w5) ⟨hb5.os, hb5.tape, hb5.output, hb5.size, hb5.block⟩; have hC5 := hC4.bel (w2 := w5) ⟨hb5.os, hb5.tape, hb5.output, hb5.size, hb5.block⟩)
      | (go_at_call 40; refine (HHAS.out _ _ hD5.dk).mono ?_; rintro e w6 ⟨rfl, T6, hD56⟩; have hD6 := hD5.step hD56; have hX6 := hX5.step hD56; have hR6 := hR5.step hD56; have hC6 := hC5.step hD56)))
  clear hD4 hX4 hR4 hC4 hD5 hX5 hR5 hC5 hD56 hb5 hXd hCd
  obtain ⟨b, f, g1⟩ := rh
  dsimp only at HV hD6
  by_cases hf : f ≠ 0
  · have HR := Lib.hid (show g.doC id c = (noAns, f, g1) by rw [HV.out, if_pos hf])
    have HF := Lib.hid (fault_num hf)
    rw [HF.out]
    clear hf HV
    have z0 := hR6.blk.cell 0; have z1 := hR6.blk.cell 1; have z2 := hR6.blk.cell 2; have z3 := hR6.blk.cell 3; have z4 := hR6.blk.cell 4; have u0 := hR6.blk.frozen 0; have u1 := hR6.blk.frozen 1; have u2 := hR6.blk.frozen 2; have u3 := hR6.blk.frozen 3; have u4 := hR6.blk.frozen 4
    have x0 := hC6.blk.cell 0; have x1 := hC6.blk.cell 1; have x2 := hC6.blk.cell 2; have x3 := hC6.blk.cell 3; have x4 := hC6.blk.cell 4; have x5 := hC6.blk.cell 5; have x6 := hC6.blk.cell 6
    have y0 := hX6.blk.cell 0; have y1 := hX6.blk.cell 1; have y2 := hX6.blk.cell 2; have y3 := hX6.blk.cell 3; have y4 := hX6.blk.cell 4; have y5 := hX6.blk.cell 5; have y6 := hX6.blk.cell 6; have y7 := hX6.blk.cell 7; have y8 := hX6.blk.cell 8
    simp at z0 z1 z2 z3 z4 x0 x1 x2 x3 x4 x5 x6 y0 y1 y2 y3 y4 y5 y6 y7 y8
    go_wp2
    refine bodyPost_ret (v := .tuple #[AnsV (.slice none 0 0) noAns, .iface 50 (.int .i64 f)]) (by simp [AnsV, noAns, results, Tryz.results23, go_sem, z0, z1, z2, z3, z4, u0, u1, u2, u3, u4]) rfl ?_
    refine ⟨.slice none 0 0, by rw [HR.out]; exact congrArg (fun x => Ending.returned (.tuple #[AnsV (.slice none 0 0) noAns, x])) HF.out.symm, by rw [HR.out]; exact OwnP.nil _ _ _, T6, own_none, ?_⟩
    rw [HR.out]
    (repeat' (first | exact hD6 | refine DKto.set ?_ ?_ ?_ _ | exact hR6.out)) <;> simp
  obtain rfl : f = 0 := Decidable.not_not.1 hf
  rw [show faultV 0 = .nilIface from rfl]
  clear hf HHAS
  by_cases h1 : c.what = 1
  · have h1b : (c.what == 1) = true := by simpa using h1
    cases b with
    | true =>
      have HR := Lib.hid (show g.doC id c = (noAns, 6, g1) by rw [HV.out, if_neg (by simp), if_pos h1]; rfl)
      clear HV h1
      have z0 := hR6.blk.cell 0; have z1 := hR6.blk.cell 1; have z2 := hR6.blk.cell 2; have z3 := hR6.blk.cell 3; have z4 := hR6.blk.cell 4; have u0 := hR6.blk.frozen 0; have u1 := hR6.blk.frozen 1; have u2 := hR6.blk.frozen 2; have u3 := hR6.blk.frozen 3; have u4 := hR6.blk.frozen 4
      have x0 := hC6.blk.cell 0; have x1 := hC6.blk.cell 1; have x2 := hC6.blk.cell 2; have x3 := hC6.blk.cell 3; have x4 := hC6.blk.cell 4; have x5 := hC6.blk.cell 5; have x6 := hC6.blk.cell 6
      have y0 := hX6.blk.cell 0; have y1 := hX6.blk.cell 1; have y2 := hX6.blk.cell 2; have y3 := hX6.blk.cell 3; have y4 := hX6.blk.cell 4; have y5 := hX6.blk.cell 5; have y6 := hX6.blk.cell 6; have y7 := hX6.blk.cell 7; have y8 := hX6.blk.cell 8
      simp at z0 z1 z2 z3 z4 x0 x1 x2 x3 x4 x5 x6 y0 y1 y2 y3 y4 y5 y6 y7 y8
      go_wp2
      refine bodyPost_ret (v := .tuple #[AnsV (.slice none 0 0) noAns, .iface 50 (.int .i64 6)]) (by simp [AnsV, noAns, results, Tryz.results23, go_sem, z0, z1, z2, z3, z4, u0, u1, u2, u3, u4]) rfl ?_
      refine ⟨.slice none 0 0, by rw [HR.out]; exact rfl, by rw [HR.out]; exact OwnP.nil _ _ _, T6, own_none, ?_⟩
      rw [HR.out]
      (repeat' (first | exact hD6 | refine DKto.set ?_ ?_ ?_ _ | exact hR6.out)) <;> simp
    | false =>
      have HR := Lib.hid (show g.doC id c = g1.chg id ⟨key, c.owner, false⟩ noAns by rw [HV.out, if_neg (by simp), if_pos h1]; rfl)
      clear HV h1
      have HPU := Lib.hid (fun W T' (q : DK B W T' d g1 k) => q.put hid key c.owner HKL.out HOL.out)
      have HEQ := Lib.hid (show g1.chg id ⟨key, c.owner, false⟩ noAns = (noAns, (g1.change id ⟨key, c.owner, false⟩).1, (g1.change id ⟨key, c.owner, false⟩).2) by unfold Dk.chg; simp)
      generalize g1.change id ⟨key, c.owner, false⟩ = r3 at *
      have z0 := hR6.blk.cell 0; have z1 := hR6.blk.cell 1; have z2 := hR6.blk.cell 2; have z3 := hR6.blk.cell 3; have z4 := hR6.blk.cell 4; have u0 := hR6.blk.frozen 0; have u1 := hR6.blk.frozen 1; have u2 := hR6.blk.frozen 2; have u3 := hR6.blk.frozen 3; have u4 := hR6.blk.frozen 4
      have x0 := hC6.blk.cell 0; have x1 := hC6.blk.cell 1; have x2 := hC6.blk.cell 2; have x3 := hC6.blk.cell 3; have x4 := hC6.blk.cell 4; have x5 := hC6.blk.cell 5; have x6 := hC6.blk.cell 6
      have y0 := hX6.blk.cell 0; have y1 := hX6.blk.cell 1; have y2 := hX6.blk.cell 2; have y3 := hX6.blk.cell 3; have y4 := hX6.blk.cell 4; have y5 := hX6.blk.cell 5; have y6 := hX6.blk.cell 6; have y7 := hX6.blk.cell 7; have y8 := hX6.blk.cell 8
      simp at z0 z1 z2 z3 z4 x0 x1 x2 x3 x4 x5 x6 y0 y1 y2 y3 y4 y5 y6 y7 y8
      go_upto_region 11 with fail
      clear z0 z1 z2 z3 z4 u0 u1 u2 u3 u4 x0 x1 x2 x3 x4 x5 x6 y0 y1 y2 y3 y4 y5 y6 y7 y8
      have hXd : Blk w6.drew bx 96 #[ptrV d, intV id, .int .i64 c.what, txt c.name, .int .i64 c.pa, .int .i64 c.pn, .int .i64 c.len, .int .i64 c.ad, txt c.owner] := hX6.blk
      have hCd : Blk w6.drew w.heap.size 26 #[.int .i64 c.what, txt c.name, .int .i64 c.pa, .int .i64 c.pn, .int .i64 c.len, .int .i64 c.ad, txt c.owner] := hC6.blk
      have hwn : bx ≠ w.heap.size + 1 := by have := HBX.out; omega
      have hcn : w.heap.size ≠ w.heap.size + 1 := by omega
      go_region_held3 (fun W => W.cell? ⟨bx, 0, none⟩ = some (ptrV d) ∧ W.cell? ⟨bx, 1, none⟩ = some (intV id) ∧ W.cell? ⟨bx, 2, none⟩ = some (.int .i64 c.what) ∧ W.cell? ⟨bx, 3, none⟩ = some (txt c.name) ∧ W.cell? ⟨bx, 4, none⟩ = some (.int .i64 c.pa) ∧ W.cell? ⟨bx, 5, none⟩ = some (.int .i64 c.pn) ∧ W.cell? ⟨bx, 6, none⟩ = some (.int .i64 c.len) ∧ W.cell? ⟨bx, 7, none⟩ = some (.int .i64 c.ad) ∧ W.cell? ⟨bx, 8, none⟩ = some (txt c.owner) ∧ W.cell? ⟨w.heap.size, 0, none⟩ = some (.int .i64 c.what) ∧ W.cell? ⟨w.heap.size, 1, none⟩ = some (txt c.name) ∧ W.cell? ⟨w.heap.size, 2, none⟩ = some (.int .i64 c.pa) ∧ W.cell? ⟨w.heap.size, 3, none⟩ = some (.int .i64 c.pn) ∧ W.cell? ⟨w.heap.size, 4, none⟩ = some (.int .i64 c.len) ∧ W.cell? ⟨w.heap.size, 5, none⟩ = some (.int .i64 c.ad) ∧ W.cell? ⟨w.heap.size, 6, none⟩ = some (txt c.owner))
        (first
          | with_reducible exact hks _ hXd hCd
          | with_reducible exact hks _ hX7.blk hC7.blk
          | with_reducible exact hks _ hX8.blk hC8.blk
          | with_reducible exact hks _ (hX8.blk.far5 hwn _ _ _ _ _) (hC8.blk.far5 hcn _ _ _ _ _))
        ((first
          | (go_at_call 41; refine (HPK.out _).mono ?_; rintro e w7 ⟨rfl, hb7⟩; have hD7 := hD6.drew.bel hb7; have hX7 := hX6.bel (w2 := w7) ⟨hb7.os, hb7.tape, hb7.output, hb7.size, hb7.block⟩; have hR7 := hR6.bel (w2 := w7) ⟨hb7.os, hb7.tape, hb7.output, hb7.size, hb7.block⟩; have hC7 := hC6.bel (w2 := w7) ⟨hb7.os, hb7.tape, hb7.output, hb7.size, hb7.block⟩)
          | (go_at_call 42; refine (HPU.out _ _ hD7.dk).mono ?_; rintro e w8 ⟨rfl, T8, hD78⟩; have hD8 := hD7.step hD78; have hX8 := hX7.step hD78; have hR8 := hR7.step hD78; have hC8 := hC7.step hD78; have z0 := hR8.blk.cell 0; have z1 := hR8.blk.cell 1; have z2 := hR8.blk.cell 2; have z3 := hR8.blk.cell 3; have z4 := hR8.blk.cell 4; have u0 := hR8.blk.frozen 0; have u1 := hR8.blk.frozen 1; have u2 := hR8.blk.frozen 2; have u3 := hR8.blk.frozen 3; have u4 := hR8.blk.frozen 4; have x0 := hC8.blk.cell 0; have x1 := hC8.blk.cell 1; have x2 := hC8.blk.cell 2; have x3 := hC8.blk.cell 3; have x4 := hC8.blk.cell 4; have x5 := hC8.blk.cell 5; have x6 := hC8.blk.cell 6; simp at z0 z1 z2 z3 z4 x0 x1 x2 x3 x4 x5 x6)))
      clear hD6 hX6 hR6 hC6 hD7 hX7 hR7 hC7 hD78 hb7 hXd hCd
      go_wp2
      refine bodyPost_ret (v := .tuple #[AnsV (.slice none 0 0) noAns, faultV r3.1]) (by simp [AnsV, noAns, results, Tryz.results23, go_sem, z0, z1, z2, z3, z4, u0, u1, u2, u3, u4]) rfl ?_
      refine ⟨.slice none 0 0, by rw [HR.out, HEQ.out], by rw [HR.out, HEQ.out]; exact OwnP.nil _ _ _, T8, own_none, ?_⟩
      rw [HR.out, HEQ.out]
      (repeat' (first | exact hD8 | refine DKto.set ?_ ?_ ?_ _ | exact hR8.out)) <;> simp
  · have h1b : (c.what == 1) = false := by simpa using h1
    cases b with
    | false =>
      have HR := Lib.hid (show g.doC id c = (noAns, 4, g1) by rw [HV.out, if_neg (by simp), if_neg h1]; rfl)
      clear HV h1
      have z0 := hR6.blk.cell 0; have z1 := hR6.blk.cell 1; have z2 := hR6.blk.cell 2; have z3 := hR6.blk.cell 3; have z4 := hR6.blk.cell 4; have u0 := hR6.blk.frozen 0; have u1 := hR6.blk.frozen 1; have u2 := hR6.blk.frozen 2; have u3 := hR6.blk.frozen 3; have u4 := hR6.blk.frozen 4
      have x0 := hC6.blk.cell 0; have x1 := hC6.blk.cell 1; have x2 := hC6.blk.cell 2; have x3 := hC6.blk.cell 3; have x4 := hC6.blk.cell 4; have x5 := hC6.blk.cell 5; have x6 := hC6.blk.cell 6
      have y0 := hX6.blk.cell 0; have y1 := hX6.blk.cell 1; have y2 := hX6.blk.cell 2; have y3 := hX6.blk.cell 3; have y4 := hX6.blk.cell 4; have y5 := hX6.blk.cell 5; have y6 := hX6.blk.cell 6; have y7 := hX6.blk.cell 7; have y8 := hX6.blk.cell 8
      simp at z0 z1 z2 z3 z4 x0 x1 x2 x3 x4 x5 x6 y0 y1 y2 y3 y4 y5 y6 y7 y8
      go_wp2
      refine bodyPost_ret (v := .tuple #[AnsV (.slice none 0 0) noAns, .iface 50 (.int .i64 4)]) (by simp [AnsV, noAns, results, Tryz.results23, go_sem, z0, z1, z2, z3, z4, u0, u1, u2, u3, u4]) rfl ?_
      refine ⟨.slice none 0 0, by rw [HR.out]; exact rfl, by rw [HR.out]; exact OwnP.nil _ _ _, T6, own_none, ?_⟩
      rw [HR.out]
      (repeat' (first | exact hD6 | refine DKto.set ?_ ?_ ?_ _ | exact hR6.out)) <;> simp
    | true =>
      have HV2 := Lib.hid (show g.doC id c = g1.do2 id c by rw [HV.out, if_neg (by simp), if_neg h1]; rfl)
      have HDO := Lib.hid (hD6.dk.do_any hk hid c HCO.out HZ.out h1)
      clear HV h1
      rw [HV2.out] at HNO
      generalize g1.do2 id c = r at *
      unfold workV at HDO
      have z0 := hR6.blk.cell 0; have z1 := hR6.blk.cell 1; have z2 := hR6.blk.cell 2; have z3 := hR6.blk.cell 3; have z4 := hR6.blk.cell 4; have u0 := hR6.blk.frozen 0; have u1 := hR6.blk.frozen 1; have u2 := hR6.blk.frozen 2; have u3 := hR6.blk.frozen 3; have u4 := hR6.blk.frozen 4
      have x0 := hC6.blk.cell 0; have x1 := hC6.blk.cell 1; have x2 := hC6.blk.cell 2; have x3 := hC6.blk.cell 3; have x4 := hC6.blk.cell 4; have x5 := hC6.blk.cell 5; have x6 := hC6.blk.cell 6
      have y0 := hX6.blk.cell 0; have y1 := hX6.blk.cell 1; have y2 := hX6.blk.cell 2; have y3 := hX6.blk.cell 3; have y4 := hX6.blk.cell 4; have y5 := hX6.blk.cell 5; have y6 := hX6.blk.cell 6; have y7 := hX6.blk.cell 7; have y8 := hX6.blk.cell 8
      simp at z0 z1 z2 z3 z4 x0 x1 x2 x3 x4 x5 x6 y0 y1 y2 y3 y4 y5 y6 y7 y8
      go_wp2_with fail
      refine HDO.out.mono ?_
      rintro e w7 ⟨A7, n7, c7, a7, T7, rfl, ha7, hD67⟩
      have HS67 := Lib.hid (show w.heap.size ≤ w6.heap.size from hD6.size)
      have HS6 := Lib.hid (show w.heap.size + 1 < w6.heap.size from hR6.blk.lt)
      have hD7 := hD6.step hD67
      have hR7 := hR6.step hD67
      clear hD6 hX6 hR6 hC6 hD67 HDO z0 z1 z2 z3 z4 u0 u1 u2 u3 u4 x0 x1 x2 x3 x4 x5 x6 y0 y1 y2 y3 y4 y5 y6 y7 y8
      obtain ⟨a, f, g2⟩ := r
      dsimp only at hD7 ha7 HV2
      unfold AnsV
      by_cases hf : f ≠ 0
      · have HF := Lib.hid (fault_num hf)
        have hno : a = noAns := HNO.out hf
        subst hno
        have hD8 := hD7.alloc (.cells #[.int .i64 a7.pa, .int .i64 a7.pn, .int .i64 a7.ad, txt a7.owner, .slice A7 n7 c7] 34)
        have hR8 := hR7.alloc (.cells #[.int .i64 a7.pa, .int .i64 a7.pn, .int .i64 a7.ad, txt a7.owner, .slice A7 n7 c7] 34)
        rw [HF.out]
        clear hf hD7 hR7 ha7
        have z0 := hR8.blk.cell 0; have z1 := hR8.blk.cell 1; have z2 := hR8.blk.cell 2; have z3 := hR8.blk.cell 3; have z4 := hR8.blk.cell 4; have u0 := hR8.blk.frozen 0; have u1 := hR8.blk.frozen 1; have u2 := hR8.blk.frozen 2; have u3 := hR8.blk.frozen 3; have u4 := hR8.blk.frozen 4
        simp at z0 z1 z2 z3 z4
        go_wp2
        refine bodyPost_ret (v := .tuple #[AnsV (.slice none 0 0) noAns, .iface 50 (.int .i64 f)]) (by simp [AnsV, noAns, results, Tryz.results23, go_sem, z0, z1, z2, z3, z4, u0, u1, u2, u3, u4]) rfl ?_
        refine ⟨.slice none 0 0, by rw [HV2.out]; exact congrArg (fun x => Ending.returned (.tuple #[AnsV (.slice none 0 0) noAns, x])) HF.out.symm, by rw [HV2.out]; exact OwnP.nil _ _ _, T7, own_none, ?_⟩
        rw [HV2.out]
        (repeat' (first | exact hD8 | refine DKto.set ?_ ?_ ?_ _ | exact hR8.out)) <;> simp
      obtain rfl : f = 0 := Decidable.not_not.1 hf
      obtain ⟨rfl, how, hnt⟩ := ha7 rfl
      have hnb : (Value.slice A7 n7 c7).ownBlock ≠ some (w.heap.size + 1) := fun q => by
        have h1 := (World.ownsRow.lt how _ q).1
        have h2 := HS6.out
        omega
      have HOW := Lib.hid (how.alloc (.cells #[.int .i64 a7.pa, .int .i64 a7.pn, .int .i64 a7.ad, txt a7.owner, .slice A7 n7 c7] 34))
      have HNB := Lib.hid hnb
      have HNT := Lib.hid hnt
      have hD8 := hD7.alloc (.cells #[.int .i64 a7.pa, .int .i64 a7.pn, .int .i64 a7.ad, txt a7.owner, .slice A7 n7 c7] 34)
      have hR8 := hR7.alloc (.cells #[.int .i64 a7.pa, .int .i64 a7.pn, .int .i64 a7.ad, txt a7.owner, .slice A7 n7 c7] 34)
      rw [show faultV 0 = .nilIface from rfl]
      clear hf hD7 hR7 hnb how hnt
      have z0 := hR8.blk.cell 0; have z1 := hR8.blk.cell 1; have z2 := hR8.blk.cell 2; have z3 := hR8.blk.cell 3; have z4 := hR8.blk.cell 4; have u0 := hR8.blk.frozen 0; have u1 := hR8.blk.frozen 1; have u2 := hR8.blk.frozen 2; have u3 := hR8.blk.frozen 3; have u4 := hR8.blk.frozen 4
      simp at z0 z1 z2 z3 z4
      go_wp2
      refine bodyPost_ret (v := .tuple #[AnsV (.slice A7 n7 c7) a7, .nilIface]) (by simp [AnsV, noAns, results, Tryz.results23, go_sem, z0, z1, z2, z3, z4, u0, u1, u2, u3, u4]) rfl ?_
      refine ⟨.slice A7 n7 c7, by rw [HV2.out]; rfl, ?_, T7, HNT.out, ?_⟩
      · rw [HV2.out]
        exact own_fr (S := fun q => q = w.heap.size + 1) (own_of_base HOW.out HS67.out) (Fr.setCell (Fr.setCell (Fr.setCell (Fr.setCell (Fr.setCell (Fr.refl (fun q => q = w.heap.size + 1) _) (p := ⟨w.heap.size + 1, 0, none⟩) (fun _ => rfl) _) (p := ⟨w.heap.size + 1, 1, none⟩) (fun _ => rfl) _) (p := ⟨w.heap.size + 1, 2, none⟩) (fun _ => rfl) _) (p := ⟨w.heap.size + 1, 3, none⟩) (fun _ => rfl) _) (p := ⟨w.heap.size + 1, 4, none⟩) (fun _ => rfl) _) (fun g e1 e2 => HNB.out (by rw [← e2]; exact e1))
      · rw [HV2.out]
        (repeat' (first | exact hD8 | refine DKto.set ?_ ?_ ?_ _ | exact hR8.out)) <;> simp
end
end Go.Proofs.YthleniobcbdepaaGreatDoor

/- hall.Ask. Conditions: as said. -/
namespace Go.Proofs.YthleniobcbdepaaGreatDoor
set_option linter.unusedVariables false
set_option linter.unusedSimpArgs false
open Go.RowKit

section
variable {B : Nat} {w : World} {T : Nat → Prop} {a : Nat} {h : Hl} {k : Nat}
set_option maxRecDepth 100000 in
set_option maxHeartbeats 4000000 in
theorem HK.ask_h (o : HK B w T a h k) (hk : k ≤ 30000) (who : List UInt8) (hw : who.length ≤ 9223372036854775807) (c : PCall) (hc : CallW c) :
    Calls Tryz.prog 9 #[ptrV a, txt who, CallV c] w fun e w' => ∃ v, e = .returned (.tuple #[AnsV v (h.ask who c).1, faultV (h.ask who c).2.1]) ∧ OwnP w' w.heap.size 24 v (h.ask who c).1.list ∧ ∃ T', (∀ q, v.ownBlock = some q → ¬ T' q) ∧ HKto B w T a w' T' (h.ask who c).2.2 k := by
  have HO := Lib.hid o
  have HOK := Lib.hid o.ok
  obtain ⟨d, m, To, es, clock, q1, q2, q3, q4, q5, q6, q7, q8, q9⟩ := o.ex
  have hD1 := q1.refl.alloc (.cells #[.int .i64 c.what, txt c.name, .int .i64 c.pa, .int .i64 c.pn, .int .i64 c.len, .int .i64 c.ad, txt c.owner] 26)
  have hC1 := Loc.new q1 26 #[.int .i64 c.what, txt c.name, .int .i64 c.pa, .int .i64 c.pn, .int .i64 c.len, .int .i64 c.ad, txt c.owner]
  have hA1 : Loc (w.alloc (.cells #[.int .i64 c.what, txt c.name, .int .i64 c.pa, .int .i64 c.pn, .int .i64 c.len, .int .i64 c.ad, txt c.owner] 26)) To a 63 #[ptrV d, .map (some m)] := (Loc.mk q2 q4).alloc _
  have hD2 := hD1.alloc (.cells #[.int .i64 0, .int .i64 0, .int .i64 0, .string { data := #[] }, .slice none 0 0] 34)
  have hC2 := hC1.alloc (.cells #[.int .i64 0, .int .i64 0, .int .i64 0, .string { data := #[] }, .slice none 0 0] 34)
  have hA2 := hA1.alloc (.cells #[.int .i64 0, .int .i64 0, .int .i64 0, .string { data := #[] }, .slice none 0 0] 34)
  have hR2 := Loc.new hD1.dk 34 #[.int .i64 0, .int .i64 0, .int .i64 0, .string { data := #[] }, .slice none 0 0]
  rw [World.size_alloc] at hR2
  have hM2 := q3.below (((Below.refl w.heap.size w).alloc (Nat.le_refl _) (.cells #[.int .i64 c.what, txt c.name, .int .i64 c.pa, .int .i64 c.pn, .int .i64 c.len, .int .i64 c.ad, txt c.owner] 26)).alloc (by simp) (.cells #[.int .i64 0, .int .i64 0, .int .i64 0, .string { data := #[] }, .slice none 0 0] 34)) q3.map.lt
  have HQ2 := Lib.hid q2
  have HQ3 := Lib.hid q3
  have HQ := Lib.hid (show ¬ To a ∧ ¬ To m ∧ T a ∧ T m ∧ (∀ q, To q → T q) ∧ a ≠ m from ⟨q4, q5, q6, q7, q8, q9⟩)
  have HAW := Lib.hid (show a ≠ w.heap.size + 1 by have := q2.lt; omega)
  clear o q1 q2 q3 q4 q5 q6 q7 q8 q9 hD1 hC1 hA1
  unfold CallV
  go_enter Tryz.func9, Tryz.ntmps9
  go_upto_region 1 with fail
  refine wp_name (fun w2 HW => ?_)
  rw [← HW.out] at hD2 hC2 hR2 hA2 hM2
  clear HW
  obtain ⟨kl, hkl⟩ := txt_key who (len_max hw)
  rcases hM2.look strKey mapStr (zeroInt w2) who hkl true with ⟨hf, hrun⟩ | ⟨id, hf, hrun⟩
  · simp only [if_true] at hrun
    have HR := Lib.hid (show h.ask who c = (noAns, 4, h) by unfold Hl.ask; rw [hf])
    clear hf hM2
    have h0 := hA2.blk.cell 0; have h1 := hA2.blk.cell 1
    simp at h0 h1
    have z0 := hR2.blk.cell 0; have z1 := hR2.blk.cell 1; have z2 := hR2.blk.cell 2; have z3 := hR2.blk.cell 3; have z4 := hR2.blk.cell 4; have u0 := hR2.blk.frozen 0; have u1 := hR2.blk.frozen 1; have u2 := hR2.blk.frozen 2; have u3 := hR2.blk.frozen 3; have u4 := hR2.blk.frozen 4
    simp at z0 z1 z2 z3 z4
    go_wp2
    refine bodyPost_ret (v := .tuple #[AnsV (.slice none 0 0) noAns, .iface 50 (.int .i64 4)]) (by simp [AnsV, noAns, results, Tryz.results9, go_sem, z0, z1, z2, z3, z4, u0, u1, u2, u3, u4]) rfl ?_
    refine ⟨.slice none 0 0, by rw [HR.out]; rfl, by rw [HR.out]; exact OwnP.nil _ _ _, fun q => T q ∨ To q, own_none, ?_⟩
    rw [HR.out]
    refine HO.out.deskX (To1 := To) HQ2.out HQ3.out HQ.out (by omega) ?_
    (repeat' (first | exact hD2 | refine DKto.set ?_ ?_ ?_ _ | exact hR2.out)) <;> simp
  · simp only [if_true] at hrun
    have HR := Lib.hid (show h.ask who c = ((h.d.doC id c).1, (h.d.doC id c).2.1, ⟨(h.d.doC id c).2.2, h.op⟩) by unfold Hl.ask; rw [hf])
    have hid := HOK.out.ids _ (findH_mem hf)
    have HDO := Lib.hid (fun W T' (q : DK B W T' d h.d k) => q.doC (by omega) hid c hc)
    unfold CallV at HDO
    unfold AnsV at HDO
    generalize h.d.doC id c = r at *
    clear hf hM2 hid hc
    have h0 := hA2.blk.cell 0; have h1 := hA2.blk.cell 1
    simp at h0 h1
    go_upto_region 4 with fail
    clear h0 h1 hrun hkl
    have hks : ∀ W : World, Blk W a 63 #[ptrV d, .map (some m)] → Blk W w.heap.size 26 #[.int .i64 c.what, txt c.name, .int .i64 c.pa, .int .i64 c.pn, .int .i64 c.len, .int .i64 c.ad, txt c.owner] → W.cell? ⟨a, 0, none⟩ = some (ptrV d) ∧ W.cell? ⟨w.heap.size, 0, none⟩ = some (.int .i64 c.what) ∧ W.cell? ⟨w.heap.size, 1, none⟩ = some (txt c.name) ∧ W.cell? ⟨w.heap.size, 2, none⟩ = some (.int .i64 c.pa) ∧ W.cell? ⟨w.heap.size, 3, none⟩ = some (.int .i64 c.pn) ∧ W.cell? ⟨w.heap.size, 4, none⟩ = some (.int .i64 c.len) ∧ W.cell? ⟨w.heap.size, 5, none⟩ = some (.int .i64 c.ad) ∧ W.cell? ⟨w.heap.size, 6, none⟩ = some (txt c.owner) := fun W a b => ⟨a.cell 0, b.cell 0, b.cell 1, b.cell 2, b.cell 3, b.cell 4, b.cell 5, b.cell 6⟩
    have hAd : Blk w2.drew a 63 #[ptrV d, .map (some m)] := hA2.blk
    have hCd : Blk w2.drew w.heap.size 26 #[.int .i64 c.what, txt c.name, .int .i64 c.pa, .int .i64 c.pn, .int .i64 c.len, .int .i64 c.ad, txt c.owner] := hC2.blk
    have hcn : w.heap.size ≠ w.heap.size + 1 := by omega
    have han := HAW.out
    go_region_held3 (fun W => W.cell? ⟨a, 0, none⟩ = some (ptrV d) ∧ W.cell? ⟨w.heap.size, 0, none⟩ = some (.int .i64 c.what) ∧ W.cell? ⟨w.heap.size, 1, none⟩ = some (txt c.name) ∧ W.cell? ⟨w.heap.size, 2, none⟩ = some (.int .i64 c.pa) ∧ W.cell? ⟨w.heap.size, 3, none⟩ = some (.int .i64 c.pn) ∧ W.cell? ⟨w.heap.size, 4, none⟩ = some (.int .i64 c.len) ∧ W.cell? ⟨w.heap.size, 5, none⟩ = some (.int .i64 c.ad) ∧ W.cell? ⟨w.heap.size, 6, none⟩ = some (txt c.owner))
      (first
        | with_reducible exact hks _ hAd hCd
        | with_reducible exact hks _ hA3.blk hC3.blk
        | with_reducible exact hks _ (hA3.blk.far5 han _ _ _ _ _) (hC3.blk.far5 hcn _ _ _ _ _))
      ((first | (go_at_call 23; refine (HDO.out _ _ hD2.drew.dk).mono ?_; rintro e w3 ⟨v3, rfl, how3, T3, hnt3, hD23⟩; obtain ⟨A3, c3, rfl, _⟩ := how3.form; have HOW := Lib.hid how3; have HNT := Lib.hid hnt3; have hD3 := hD2.drew.step hD23; have hC3 := (hC2.bel (w2 := w2.drew) ((Below.refl _ _).drew)).step hD23; have hR3 := (hR2.bel (w2 := w2.drew) ((Below.refl _ _).drew)).step hD23; have hA3 := (hA2.bel (w2 := w2.drew) ((Below.refl _ _).drew)).step hD23; have z0 := hR3.blk.cell 0; have z1 := hR3.blk.cell 1; have z2 := hR3.blk.cell 2; have z3 := hR3.blk.cell 3; have z4 := hR3.blk.cell 4; have u0 := hR3.blk.frozen 0; have u1 := hR3.blk.frozen 1; have u2 := hR3.blk.frozen 2; have u3 := hR3.blk.frozen 3; have u4 := hR3.blk.frozen 4; simp at z0 z1 z2 z3 z4)))
    go_wp2
    refine bodyPost_ret (v := .tuple #[AnsV (.slice A3 r.1.list.length c3) r.1, faultV r.2.1]) (by simp [AnsV, noAns, results, Tryz.results9, go_sem, z0, z1, z2, z3, z4, u0, u1, u2, u3, u4]) rfl ?_
    refine ⟨.slice A3 r.1.list.length c3, by rw [HR.out], ?_, fun q => T q ∨ T3 q, fun q e => not_or.2 ⟨fun e2 => by have h1 := (World.ownsRow.lt HOW.out _ e).1; have h2 := HO.out.lt q e2; have h3 : w.heap.size ≤ w2.drew.heap.size := hD2.size; omega, HNT.out q e⟩, ?_⟩
    · rw [HR.out]
      have hnb : (Value.slice A3 r.1.list.length c3).ownBlock ≠ some (w.heap.size + 1) := fun q => by
        have h1 := (World.ownsRow.lt HOW.out _ q).1
        have h2 := hR2.blk.lt
        have h3 : w2.drew.heap.size = w2.heap.size := rfl
        omega
      exact own_fr (S := fun q => q = w.heap.size + 1) (own_of_base HOW.out (show w.heap.size ≤ w2.drew.heap.size from hD2.size)) (Fr.setCell (Fr.setCell (Fr.setCell (Fr.setCell (Fr.setCell (Fr.refl (fun q => q = w.heap.size + 1) _) (p := ⟨w.heap.size + 1, 0, none⟩) (fun _ => rfl) _) (p := ⟨w.heap.size + 1, 1, none⟩) (fun _ => rfl) _) (p := ⟨w.heap.size + 1, 2, none⟩) (fun _ => rfl) _) (p := ⟨w.heap.size + 1, 3, none⟩) (fun _ => rfl) _) (p := ⟨w.heap.size + 1, 4, none⟩) (fun _ => rfl) _) (fun g e1 e2 => hnb (by rw [← e2]; exact e1))
    rw [HR.out]
    refine HO.out.deskX (To1 := T3) HQ2.out HQ3.out HQ.out (by omega) ?_
    (repeat' (first | exact hD3 | refine DKto.set ?_ ?_ ?_ _ | exact hR3.out)) <;> simp
end
end Go.Proofs.YthleniobcbdepaaGreatDoor

/- hall: join, Once. Conditions: as said. -/
namespace Go.Proofs.YthleniobcbdepaaGreatDoor
set_option linter.unusedVariables false
set_option linter.unusedSimpArgs false
open Go.RowKit

set_option maxRecDepth 100000 in
theorem join_first (b : Nat) (x : Int) (hx : x ≠ 0) (w : World) (h0 : w.cell? ⟨b, 0, none⟩ = some (.iface 50 (.int .i64 x))) :
    Calls Tryz.prog 24 #[.slice (some ⟨b, 0, none⟩) 2 2] w fun e w' => e = .returned (.iface 50 (.int .i64 x)) ∧ w = w' := by
  go_enter Tryz.func24, Tryz.ntmps24
  go_wp2
  refine wp_loop_rounds 3 ?_
  rw [rounds_succ]
  go_wp2
  go_ret
  exact ⟨rfl, rfl⟩
theorem fault_shape (x : Int) : faultV x = .nilIface ∨ faultV x = .iface 50 (.int .i64 x) := by
  unfold faultV
  by_cases h : x = 0
  · exact .inl (if_pos h)
  · exact .inr (if_neg h)
section
variable {B : Nat} {w : World} {T : Nat → Prop} {a : Nat} {h : Hl} {k : Nat}
set_option maxRecDepth 100000 in
set_option maxHeartbeats 4000000 in
theorem HK.once_h (o : HK B w T a h k) (hk : k ≤ 30000) (c : PCall) (hc : CallW c) :
    Calls Tryz.prog 7 #[ptrV a, CallV c] w fun e w' => ∃ v, e = .returned (.tuple #[AnsV v (h.once c).1, .int .i64 (h.once c).2.1, faultV (h.once c).2.2.1]) ∧ OwnP w' w.heap.size 24 v (h.once c).1.list ∧ ∃ T', (∀ q, v.ownBlock = some q → ¬ T' q) ∧ HKto B w T a w' T' (h.once c).2.2.2 (k + 2) := by
  have HO := Lib.hid o
  have HOK := Lib.hid o.ok
  obtain ⟨d, m, To, es, clock, q1, q2, q3, q4, q5, q6, q7, q8, q9⟩ := o.ex
  have hD1 := q1.refl.alloc (.cells #[.int .i64 c.what, txt c.name, .int .i64 c.pa, .int .i64 c.pn, .int .i64 c.len, .int .i64 c.ad, txt c.owner] 26)
  have hC1 := Loc.new q1 26 #[.int .i64 c.what, txt c.name, .int .i64 c.pa, .int .i64 c.pn, .int .i64 c.len, .int .i64 c.ad, txt c.owner]
  have hA1 : Loc (w.alloc (.cells #[.int .i64 c.what, txt c.name, .int .i64 c.pa, .int .i64 c.pn, .int .i64 c.len, .int .i64 c.ad, txt c.owner] 26)) To a 63 #[ptrV d, .map (some m)] := (Loc.mk q2 q4).alloc _
  have hD2 := hD1.alloc (.cells #[.int .i64 0, .int .i64 0, .int .i64 0, .string { data := #[] }, .slice none 0 0] 34)
  have hC2 := hC1.alloc (.cells #[.int .i64 0, .int .i64 0, .int .i64 0, .string { data := #[] }, .slice none 0 0] 34)
  have hA2 := hA1.alloc (.cells #[.int .i64 0, .int .i64 0, .int .i64 0, .string { data := #[] }, .slice none 0 0] 34)
  have hR2 := Loc.new hD1.dk 34 #[.int .i64 0, .int .i64 0, .int .i64 0, .string { data := #[] }, .slice none 0 0]
  rw [World.size_alloc] at hR2
  have hM2 := q3.below (((Below.refl w.heap.size w).alloc (Nat.le_refl _) (.cells #[.int .i64 c.what, txt c.name, .int .i64 c.pa, .int .i64 c.pn, .int .i64 c.len, .int .i64 c.ad, txt c.owner] 26)).alloc (by simp) (.cells #[.int .i64 0, .int .i64 0, .int .i64 0, .string { data := #[] }, .slice none 0 0] 34)) q3.map.lt
  have HQ2 := Lib.hid q2
  have HQ3 := Lib.hid q3
  have HQ := Lib.hid (show ¬ To a ∧ ¬ To m ∧ T a ∧ T m ∧ (∀ q, To q → T q) ∧ a ≠ m from ⟨q4, q5, q6, q7, q8, q9⟩)
  have HAW := Lib.hid (show a ≠ w.heap.size + 1 by have := q2.lt; omega)
  clear o q1 q2 q3 q4 q5 q6 q7 q8 q9 hD1 hC1 hA1
  unfold CallV
  go_enter Tryz.func7, Tryz.ntmps7
  go_upto_region 1 with fail
  refine wp_name (fun w2 HW => ?_)
  rw [← HW.out] at hD2 hC2 hR2 hA2 hM2
  clear HW
  clear hM2
  have HBG := Lib.hid (hD2.dk.begin (by omega))
  have HBZ := Lib.hid (begin_zero (g := h.d))
  have HIDS := Lib.hid (show 0 ≤ h.d.ids ∧ h.d.ids ≤ (k : Int) from hD2.dk.s.ok.hids)
  have HV := Lib.hid (show h.once c = if h.d.begin.2.1 ≠ 0 then (noAns, 0, h.d.begin.2.1, ⟨h.d.begin.2.2, h.op⟩) else ((onceD h.d.begin.2.2 h.d.begin.1 c).1, (onceD h.d.begin.2.2 h.d.begin.1 c).2.1, (onceD h.d.begin.2.2 h.d.begin.1 c).2.2.1, ⟨(onceD h.d.begin.2.2 h.d.begin.1 c).2.2.2, h.op⟩) from rfl)
  generalize h.d.begin = rb at *
  have h0 := hA2.blk.cell 0; have h1 := hA2.blk.cell 1
  simp at h0 h1
  go_wp2_with fail
  refine HBG.out.mono ?_
  rintro e w3 ⟨rfl, T3, hD23⟩
  have hD3 := hD2.step hD23; have hC3 := hC2.step hD23; have hR3 := hR2.step hD23; have hA3 := hA2.step hD23
  clear hD2 hC2 hR2 hA2 hD23 HBG h0 h1
  obtain ⟨id, f, g1⟩ := rb
  dsimp only at HV HBZ hD3
  by_cases hz : f ≠ 0
  · have HR := Lib.hid (show h.once c = (noAns, 0, f, ⟨g1, h.op⟩) by rw [HV.out, if_pos hz])
    have HF := Lib.hid (show faultV f = .iface 50 (.int .i64 f) by unfold faultV; rw [if_neg hz])
    rw [HF.out]
    clear hz HV
    have z0 := hR3.blk.cell 0; have z1 := hR3.blk.cell 1; have z2 := hR3.blk.cell 2; have z3 := hR3.blk.cell 3; have z4 := hR3.blk.cell 4; have u0 := hR3.blk.frozen 0; have u1 := hR3.blk.frozen 1; have u2 := hR3.blk.frozen 2; have u3 := hR3.blk.frozen 3; have u4 := hR3.blk.frozen 4
    simp at z0 z1 z2 z3 z4
    go_wp2
    refine bodyPost_ret (v := .tuple #[AnsV (.slice none 0 0) noAns, .int .i64 0, .iface 50 (.int .i64 f)]) (by simp [AnsV, noAns, results, Tryz.results7, go_sem, z0, z1, z2, z3, z4, u0, u1, u2, u3, u4]) rfl ?_
    refine ⟨.slice none 0 0, by rw [HR.out]; exact congrArg (fun x => Ending.returned (.tuple #[AnsV (.slice none 0 0) noAns, .int .i64 0, x])) HF.out.symm, by rw [HR.out]; exact OwnP.nil _ _ _, fun q => T q ∨ T3 q, own_none, ?_⟩
    rw [HR.out]
    refine HO.out.deskX (To1 := T3) HQ2.out HQ3.out HQ.out (by omega) ?_
    refine DKto.more (k1 := (k + 1)) ?_ (by omega)
    (repeat' (first | exact hD3 | refine DKto.set ?_ ?_ ?_ _ | exact hR3.out)) <;> simp
  obtain rfl : f = 0 := Decidable.not_not.1 hz
  rw [show faultV 0 = .nilIface from rfl]
  have hid : (Lit.int .i64 id).wf = true := wf_i64 (by rw [HBZ.out rfl]; have := HIDS.out; omega)
  have HV2 := Lib.hid (show h.once c = ((onceD g1 id c).1, (onceD g1 id c).2.1, (onceD g1 id c).2.2.1, ⟨(onceD g1 id c).2.2.2, h.op⟩) by rw [HV.out, if_neg (by simp)])
  have HW := Lib.hid (show onceD g1 id c = if (g1.doC id c).2.1 ≠ 0 then (noAns, 0, (g1.doC id c).2.1, ((g1.doC id c).2.2.abort id).2) else if ((g1.doC id c).2.2.commit id).2.1 ≠ 0 then (noAns, 0, ((g1.doC id c).2.2.commit id).2.1, ((g1.doC id c).2.2.commit id).2.2) else ((g1.doC id c).1, ((g1.doC id c).2.2.commit id).1, 0, ((g1.doC id c).2.2.commit id).2.2) from rfl)
  have HDO := Lib.hid (fun W T' (q : DK B W T' d g1 (k + 1)) => q.doC (by omega) hid c hc)
  have HNO := Lib.hid (g1.doC_no id c)
  have HID := Lib.hid hid
  unfold CallV at HDO
  unfold AnsV at HDO
  generalize g1.doC id c = r at *
  clear hz hid hc HV
  have h0 := hA3.blk.cell 0; have h1 := hA3.blk.cell 1
  simp at h0 h1
  go_upto_region 4 with fail
  clear h0 h1
  have hks : ∀ W : World, Blk W a 63 #[ptrV d, .map (some m)] → Blk W w.heap.size 26 #[.int .i64 c.what, txt c.name, .int .i64 c.pa, .int .i64 c.pn, .int .i64 c.len, .int .i64 c.ad, txt c.owner] → W.cell? ⟨a, 0, none⟩ = some (ptrV d) ∧ W.cell? ⟨w.heap.size, 0, none⟩ = some (.int .i64 c.what) ∧ W.cell? ⟨w.heap.size, 1, none⟩ = some (txt c.name) ∧ W.cell? ⟨w.heap.size, 2, none⟩ = some (.int .i64 c.pa) ∧ W.cell? ⟨w.heap.size, 3, none⟩ = some (.int .i64 c.pn) ∧ W.cell? ⟨w.heap.size, 4, none⟩ = some (.int .i64 c.len) ∧ W.cell? ⟨w.heap.size, 5, none⟩ = some (.int .i64 c.ad) ∧ W.cell? ⟨w.heap.size, 6, none⟩ = some (txt c.owner) := fun W a b => ⟨a.cell 0, b.cell 0, b.cell 1, b.cell 2, b.cell 3, b.cell 4, b.cell 5, b.cell 6⟩
  have hAd : Blk w3.drew a 63 #[ptrV d, .map (some m)] := hA3.blk
  have hCd : Blk w3.drew w.heap.size 26 #[.int .i64 c.what, txt c.name, .int .i64 c.pa, .int .i64 c.pn, .int .i64 c.len, .int .i64 c.ad, txt c.owner] := hC3.blk
  have hcn : w.heap.size ≠ w.heap.size + 1 := by omega
  have han := HAW.out
  go_region_held3 (fun W => W.cell? ⟨a, 0, none⟩ = some (ptrV d) ∧ W.cell? ⟨w.heap.size, 0, none⟩ = some (.int .i64 c.what) ∧ W.cell? ⟨w.heap.size, 1, none⟩ = some (txt c.name) ∧ W.cell? ⟨w.heap.size, 2, none⟩ = some (.int .i64 c.pa) ∧ W.cell? ⟨w.heap.size, 3, none⟩ = some (.int .i64 c.pn) ∧ W.cell? ⟨w.heap.size, 4, none⟩ = some (.int .i64 c.len) ∧ W.cell? ⟨w.heap.size, 5, none⟩ = some (.int .i64 c.ad) ∧ W.cell? ⟨w.heap.size, 6, none⟩ = some (txt c.owner))
    (first
      | with_reducible exact hks _ hAd hCd
      | with_reducible exact hks _ hA4.blk hC4.blk
      | with_reducible exact hks _ (hA4.blk.far5 han _ _ _ _ _) (hC4.blk.far5 hcn _ _ _ _ _))
    ((first | (go_at_call 23; refine (HDO.out _ _ hD3.drew.dk).mono ?_; rintro e w4 ⟨v4, rfl, how4, T4, hnt4, hD34⟩; obtain ⟨A4, c4, rfl, _⟩ := how4.form; have HOW := Lib.hid how4; have HNT := Lib.hid hnt4; have hD4 := hD3.drew.step hD34; have hC4 := (hC3.bel (w2 := w3.drew) ((Below.refl _ _).drew)).step hD34; have hR4 := (hR3.bel (w2 := w3.drew) ((Below.refl _ _).drew)).step hD34; have hA4 := (hA3.bel (w2 := w3.drew) ((Below.refl _ _).drew)).step hD34; have z0 := hR4.blk.cell 0; have z1 := hR4.blk.cell 1; have z2 := hR4.blk.cell 2; have z3 := hR4.blk.cell 3; have z4 := hR4.blk.cell 4; have u0 := hR4.blk.frozen 0; have u1 := hR4.blk.frozen 1; have u2 := hR4.blk.frozen 2; have u3 := hR4.blk.frozen 3; have u4 := hR4.blk.frozen 4; simp at z0 z1 z2 z3 z4)))
  go_upto_region 5 with fail
  refine wp_name (fun w5 HW5 => ?_)
  have hD5 : DKto B w To d w5 T4 r.2.2 (k + 1) := by
    rw [HW5.out]
    (repeat' (first | exact hD4 | refine DKto.set ?_ ?_ ?_ _ | exact hR4.out)) <;> simp
  have hA5 : Loc w5 T4 a 63 #[ptrV d, .map (some m)] := by rw [HW5.out]; exact ⟨hA4.blk.far5 HAW.out _ _ _ _ _, hA4.out⟩
  have hR5 : Loc w5 T4 (w.heap.size + 1) 34 #[.int .i64 r.1.pa, .int .i64 r.1.pn, .int .i64 r.1.ad, txt r.1.owner, .slice A4 r.1.list.length c4] := by rw [HW5.out]; exact (((((hR4.set 0 _).set 1 _).set 2 _).set 3 _).set 4 _)
  have HOW5 : Hid (OwnP w5 w.heap.size 24 (.slice A4 r.1.list.length c4) r.1.list) := by
    have hnb : (Value.slice A4 r.1.list.length c4).ownBlock ≠ some (w.heap.size + 1) := fun q => by
      have h1 := (World.ownsRow.lt HOW.out _ q).1
      have h2 := hR3.blk.lt
      have h3 : w3.drew.heap.size = w3.heap.size := rfl
      omega
    rw [HW5.out]
    exact Lib.hid (own_fr (S := fun q => q = w.heap.size + 1) (own_of_base HOW.out (show w.heap.size ≤ w3.drew.heap.size from hD3.size)) (Fr.setCell (Fr.setCell (Fr.setCell (Fr.setCell (Fr.setCell (Fr.refl (fun q => q = w.heap.size + 1) _) (p := ⟨w.heap.size + 1, 0, none⟩) (fun _ => rfl) _) (p := ⟨w.heap.size + 1, 1, none⟩) (fun _ => rfl) _) (p := ⟨w.heap.size + 1, 2, none⟩) (fun _ => rfl) _) (p := ⟨w.heap.size + 1, 3, none⟩) (fun _ => rfl) _) (p := ⟨w.heap.size + 1, 4, none⟩) (fun _ => rfl) _) (fun g e1 e2 => hnb (by rw [← e2]; exact e1)))
  have HRB : Hid (∀ q, (Value.slice A4 r.1.list.length c4).ownBlock = some q → ¬ T4 q) := HNT
  have HNB5 : Hid ((Value.slice A4 r.1.list.length c4).ownBlock ≠ some (w.heap.size + 1)) := Lib.hid (fun q => by
      have h1 := (World.ownsRow.lt HOW.out _ q).1
      have h2 := hR3.blk.lt
      have h3 : w3.drew.heap.size = w3.heap.size := rfl
      omega)
  clear HW5 hD3 hA3 hR3 hC3 hD4 hA4 hR4 hC4 hD34 how4 hnt4 HOW HDO hks hAd hCd han hcn z0 z1 z2 z3 z4 u0 u1 u2 u3 u4
  by_cases hf : r.2.1 ≠ 0
  · have HF := Lib.hid (fault_num hf)
    have HNZ := Lib.hid hf
    have HAB := Lib.hid (hD5.dk.abort HID.out)
    have HR := Lib.hid (show h.once c = (noAns, 0, r.2.1, ⟨(r.2.2.abort id).2, h.op⟩) by rw [HV2.out, HW.out, if_pos hf])
    rw [HF.out]
    clear hf HNO HV2 HW
    have h0 := hA5.blk.cell 0; have h1 := hA5.blk.cell 1
    simp at h0 h1
    go_wp2_with fail
    refine HAB.out.mono ?_
    rintro e w6 ⟨rfl, T6, hD56⟩
    have hD6 := hD5.step hD56
    have hR6 := hR5.step hD56
    clear hD5 hA5 hR5 hD56 HAB h0 h1 HOW5
    rcases fault_shape (r.2.2.abort id).1 with hfs | hfs
    · rw [hfs]
      clear hfs
      have hD7 := hD6.alloc (.cells #[.iface 50 (.int .i64 r.2.1), .nilIface] 29)
      have hR7 := hR6.alloc (.cells #[.iface 50 (.int .i64 r.2.1), .nilIface] 29)
      have hJ : (w6.alloc (.cells #[.iface 50 (.int .i64 r.2.1), .nilIface] 29)).cell? ⟨w6.heap.size, 0, none⟩ = some (.iface 50 (.int .i64 r.2.1)) := (Blk.new w6 29 #[.iface 50 (.int .i64 r.2.1), .nilIface]).cell 0
      have HJ := Lib.hid (join_first w6.heap.size r.2.1 HNZ.out _ hJ)
      clear hJ
      go_wp2_with fail
      refine HJ.out.mono ?_
      rintro e w7 ⟨rfl, rfl⟩
      clear HJ
      have z0 := hR7.blk.cell 0; have z1 := hR7.blk.cell 1; have z2 := hR7.blk.cell 2; have z3 := hR7.blk.cell 3; have z4 := hR7.blk.cell 4; have u0 := hR7.blk.frozen 0; have u1 := hR7.blk.frozen 1; have u2 := hR7.blk.frozen 2; have u3 := hR7.blk.frozen 3; have u4 := hR7.blk.frozen 4
      simp at z0 z1 z2 z3 z4
      go_wp2
      refine bodyPost_ret (v := .tuple #[AnsV (.slice none 0 0) noAns, .int .i64 0, .iface 50 (.int .i64 r.2.1)]) (by simp [AnsV, noAns, results, Tryz.results7, go_sem, z0, z1, z2, z3, z4, u0, u1, u2, u3, u4]) rfl ?_
      refine ⟨.slice none 0 0, by rw [HR.out]; exact congrArg (fun x => Ending.returned (.tuple #[AnsV (.slice none 0 0) noAns, .int .i64 0, x])) HF.out.symm, by rw [HR.out]; exact OwnP.nil _ _ _, fun q => T q ∨ T6 q, own_none, ?_⟩
      rw [HR.out]
      refine HO.out.deskX (To1 := T6) HQ2.out HQ3.out HQ.out (by omega) ?_
      refine DKto.more (k1 := (k + 1)) ?_ (by omega)
      (repeat' (first | exact hD7 | refine DKto.set ?_ ?_ ?_ _ | exact hR7.out)) <;> simp
    · rw [hfs]
      generalize (r.2.2.abort id).1 = fy
      clear hfs
      have hD7 := hD6.alloc (.cells #[.iface 50 (.int .i64 r.2.1), .iface 50 (.int .i64 fy)] 29)
      have hR7 := hR6.alloc (.cells #[.iface 50 (.int .i64 r.2.1), .iface 50 (.int .i64 fy)] 29)
      have hJ : (w6.alloc (.cells #[.iface 50 (.int .i64 r.2.1), .iface 50 (.int .i64 fy)] 29)).cell? ⟨w6.heap.size, 0, none⟩ = some (.iface 50 (.int .i64 r.2.1)) := (Blk.new w6 29 #[.iface 50 (.int .i64 r.2.1), .iface 50 (.int .i64 fy)]).cell 0
      have HJ := Lib.hid (join_first w6.heap.size r.2.1 HNZ.out _ hJ)
      clear hJ
      go_wp2_with fail
      refine HJ.out.mono ?_
      rintro e w7 ⟨rfl, rfl⟩
      clear HJ
      have z0 := hR7.blk.cell 0; have z1 := hR7.blk.cell 1; have z2 := hR7.blk.cell 2; have z3 := hR7.blk.cell 3; have z4 := hR7.blk.cell 4; have u0 := hR7.blk.frozen 0; have u1 := hR7.blk.frozen 1; have u2 := hR7.blk.frozen 2; have u3 := hR7.blk.frozen 3; have u4 := hR7.blk.frozen 4
      simp at z0 z1 z2 z3 z4
      go_wp2
      refine bodyPost_ret (v := .tuple #[AnsV (.slice none 0 0) noAns, .int .i64 0, .iface 50 (.int .i64 r.2.1)]) (by simp [AnsV, noAns, results, Tryz.results7, go_sem, z0, z1, z2, z3, z4, u0, u1, u2, u3, u4]) rfl ?_
      refine ⟨.slice none 0 0, by rw [HR.out]; exact congrArg (fun x => Ending.returned (.tuple #[AnsV (.slice none 0 0) noAns, .int .i64 0, x])) HF.out.symm, by rw [HR.out]; exact OwnP.nil _ _ _, fun q => T q ∨ T6 q, own_none, ?_⟩
      rw [HR.out]
      refine HO.out.deskX (To1 := T6) HQ2.out HQ3.out HQ.out (by omega) ?_
      refine DKto.more (k1 := (k + 1)) ?_ (by omega)
      (repeat' (first | exact hD7 | refine DKto.set ?_ ?_ ?_ _ | exact hR7.out)) <;> simp
  have hf : r.2.1 = 0 := Decidable.not_not.1 hf
  rw [show faultV r.2.1 = .nilIface by rw [hf]; rfl]
  have HCM := Lib.hid (hD5.dk.commit (id := id) (by omega) HID.out)
  have HW2 := Lib.hid (show onceD g1 id c = if (r.2.2.commit id).2.1 ≠ 0 then (noAns, 0, (r.2.2.commit id).2.1, (r.2.2.commit id).2.2) else (r.1, (r.2.2.commit id).1, 0, (r.2.2.commit id).2.2) by rw [HW.out, if_neg (by rw [hf]; simp)])
  clear hf HW HNO
  generalize r.2.2.commit id = rc at *
  have h0 := hA5.blk.cell 0; have h1 := hA5.blk.cell 1
  simp at h0 h1
  go_wp2_with fail
  refine HCM.out.mono ?_
  rintro e w6 ⟨rfl, T6, hD56⟩
  have hD6 := hD5.step hD56
  have hR6 := hR5.step hD56
  have HOW6 := Lib.hid (own_fr HOW5.out hD56.fr HRB.out)
  have HNT6 := Lib.hid (show ∀ q, (Value.slice A4 r.1.list.length c4).ownBlock = some q → ¬ (T q ∨ T6 q) from fun q e => not_or.2 ⟨fun e2 => by have h1 := (World.ownsRow.lt HOW5.out _ e).1; have h2 := HO.out.lt q e2; omega, fun e2 => (hD56.new q e2).elim (HNT.out q e) (fun e3 => by have h1 := (World.ownsRow.lt HOW5.out _ e).2; omega)⟩)
  clear hD5 hA5 hR5 HCM h0 h1 HOW5
  obtain ⟨n, f, g3⟩ := rc
  dsimp only at HW2 hD6
  by_cases hf : f ≠ 0
  · have HF := Lib.hid (fault_num hf)
    have HR := Lib.hid (show h.once c = (noAns, 0, f, ⟨g3, h.op⟩) by rw [HV2.out, HW2.out, if_pos hf])
    rw [HF.out]
    clear hf HV2 HW2 hD56 HOW6
    have z0 := hR6.blk.cell 0; have z1 := hR6.blk.cell 1; have z2 := hR6.blk.cell 2; have z3 := hR6.blk.cell 3; have z4 := hR6.blk.cell 4; have u0 := hR6.blk.frozen 0; have u1 := hR6.blk.frozen 1; have u2 := hR6.blk.frozen 2; have u3 := hR6.blk.frozen 3; have u4 := hR6.blk.frozen 4
    simp at z0 z1 z2 z3 z4
    go_wp2
    refine bodyPost_ret (v := .tuple #[AnsV (.slice none 0 0) noAns, .int .i64 0, .iface 50 (.int .i64 f)]) (by simp [AnsV, noAns, results, Tryz.results7, go_sem, z0, z1, z2, z3, z4, u0, u1, u2, u3, u4]) rfl ?_
    refine ⟨.slice none 0 0, by rw [HR.out]; exact congrArg (fun x => Ending.returned (.tuple #[AnsV (.slice none 0 0) noAns, .int .i64 0, x])) HF.out.symm, by rw [HR.out]; exact OwnP.nil _ _ _, fun q => T q ∨ T6 q, own_none, ?_⟩
    rw [HR.out]
    refine HO.out.deskX (To1 := T6) HQ2.out HQ3.out HQ.out (by omega) ?_
    refine DKto.more (k1 := (k + 1 + 1)) ?_ (by omega)
    (repeat' (first | exact hD6 | refine DKto.set ?_ ?_ ?_ _ | exact hR6.out)) <;> simp
  obtain rfl : f = 0 := Decidable.not_not.1 hf
  have HR := Lib.hid (show h.once c = (r.1, n, 0, ⟨g3, h.op⟩) by rw [HV2.out, HW2.out, if_neg (by simp)])
  rw [show faultV 0 = .nilIface from rfl]
  clear hf HV2 HW2 hD56
  have z0 := hR6.blk.cell 0; have z1 := hR6.blk.cell 1; have z2 := hR6.blk.cell 2; have z3 := hR6.blk.cell 3; have z4 := hR6.blk.cell 4; have u0 := hR6.blk.frozen 0; have u1 := hR6.blk.frozen 1; have u2 := hR6.blk.frozen 2; have u3 := hR6.blk.frozen 3; have u4 := hR6.blk.frozen 4
  simp at z0 z1 z2 z3 z4
  go_wp2
  refine bodyPost_ret (v := .tuple #[AnsV (.slice A4 r.1.list.length c4) r.1, .int .i64 n, .nilIface]) (by simp [AnsV, noAns, results, Tryz.results7, go_sem, z0, z1, z2, z3, z4, u0, u1, u2, u3, u4]) rfl ?_
  refine ⟨.slice A4 r.1.list.length c4, by rw [HR.out]; rfl, ?_, fun q => T q ∨ T6 q, HNT6.out, ?_⟩
  · rw [HR.out]
    exact own_fr (S := fun q => q = w.heap.size + 1) HOW6.out (Fr.setCell (Fr.setCell (Fr.setCell (Fr.setCell (Fr.setCell (Fr.refl (fun q => q = w.heap.size + 1) _) (p := ⟨w.heap.size + 1, 0, none⟩) (fun _ => rfl) _) (p := ⟨w.heap.size + 1, 1, none⟩) (fun _ => rfl) _) (p := ⟨w.heap.size + 1, 2, none⟩) (fun _ => rfl) _) (p := ⟨w.heap.size + 1, 3, none⟩) (fun _ => rfl) _) (p := ⟨w.heap.size + 1, 4, none⟩) (fun _ => rfl) _) (fun g e1 e2 => HNB5.out (by rw [← e2]; exact e1))
  rw [HR.out]
  refine HO.out.deskX (To1 := T6) HQ2.out HQ3.out HQ.out (by omega) ?_
  (repeat' (first | exact hD6 | refine DKto.set ?_ ?_ ?_ _ | exact hR6.out)) <;> simp
end
end Go.Proofs.YthleniobcbdepaaGreatDoor

/- burgagesame.Answers at two answers that are the same, wherever their lists lie. Conditions: as said. -/
namespace Go.Proofs.YthleniobcbdepaaGreatDoor
set_option linter.unusedVariables false
set_option linter.unusedSimpArgs false
open Go.RowKit

set_option maxRecDepth 100000 in
set_option maxHeartbeats 1600000 in
theorem answers_same (x : PAns) (A1 A2 : Option Addr) (c1 c2 : Nat) (hm : x.list.length ≤ maxLen) (w : World) (h1 : Rd w w.heap.size A1 (cellsP x.list)) (h2 : Rd w w.heap.size A2 (cellsP x.list)) :
    Calls Tryz.prog 12 #[AnsV (.slice A1 x.list.length c1) x, AnsV (.slice A2 x.list.length c2) x] w fun e w' => e = .returned (.bool true) ∧ Below w.heap.size w w' := by
  have hb2 := ((Below.refl w.heap.size w).alloc (Nat.le_refl _) (.cells #[.int .i64 x.pa, .int .i64 x.pn, .int .i64 x.ad, txt x.owner, .slice A1 x.list.length c1] 34)).alloc (by simp) (.cells #[.int .i64 x.pa, .int .i64 x.pn, .int .i64 x.ad, txt x.owner, .slice A2 x.list.length c2] 34)
  have hB1 := (Blk.new w 34 #[.int .i64 x.pa, .int .i64 x.pn, .int .i64 x.ad, txt x.owner, .slice A1 x.list.length c1]).alloc (.cells #[.int .i64 x.pa, .int .i64 x.pn, .int .i64 x.ad, txt x.owner, .slice A2 x.list.length c2] 34)
  have hB2 := Blk.new (w.alloc (.cells #[.int .i64 x.pa, .int .i64 x.pn, .int .i64 x.ad, txt x.owner, .slice A1 x.list.length c1] 34)) 34 #[.int .i64 x.pa, .int .i64 x.pn, .int .i64 x.ad, txt x.owner, .slice A2 x.list.length c2]
  rw [World.size_alloc] at hB2
  unfold AnsV
  go_enter Tryz.func12, Tryz.ntmps12
  go_upto_region 1 with fail
  refine wp_name (fun w2 HW => ?_)
  rw [← HW.out] at hb2 hB1 hB2
  clear HW
  have hs0 := prefixes_any A1 A2 x.list x.list c1 c2 hm w2 ((h1.below hb2).more hb2.size) ((h2.below hb2).more hb2.size)
  rw [show decide (x.list = x.list) = true from decide_eq_true rfl] at hs0
  have HS := Lib.hid hs0
  clear hs0
  have y0 := hB1.cell 0; have y1 := hB1.cell 1; have y2 := hB1.cell 2; have y3 := hB1.cell 3; have y4 := hB1.cell 4
  have z0 := hB2.cell 0; have z1 := hB2.cell 1; have z2 := hB2.cell 2; have z3 := hB2.cell 3; have z4 := hB2.cell 4
  simp at y0 y1 y2 y3 y4 z0 z1 z2 z3 z4
  go_wp2_with fail
  refine HS.out.mono ?_
  rintro e w3 ⟨rfl, hb3⟩
  have hB1' := hB1.below hb3 hB1.lt
  have hB2' := hB2.below hb3 hB2.lt
  have hb := Lib.hid (hb2.trans (hb3.mono hb2.size))
  clear y0 y1 y2 y3 y4 z0 z1 z2 z3 z4 hB1 hB2 hb2 hb3 HS
  have y0 := hB1'.cell 0; have y1 := hB1'.cell 1; have y2 := hB1'.cell 2; have y3 := hB1'.cell 3; have y4 := hB1'.cell 4
  have z0 := hB2'.cell 0; have z1 := hB2'.cell 1; have z2 := hB2'.cell 2; have z3 := hB2'.cell 3; have z4 := hB2'.cell 4
  simp at y0 y1 y2 y3 y4 z0 z1 z2 z3 z4
  go_wp2
  go_ret
  exact ⟨rfl, hb.out⟩
end Go.Proofs.YthleniobcbdepaaGreatDoor

/- The law HallOnce: the walk of its own text. Any steps, any call. Conditions: the library's variables are laid. -/
namespace Go.Proofs.YthleniobcbdepaaGreatDoor
set_option linter.unusedVariables false
set_option linter.unusedSimpArgs false
set_option maxRecDepth 100000
open Go.RowKit

theorem PCallW.w {c : PCall} (h : PCallW c) : CallW c := ⟨h.what, h.name, h.pa, h.pn, h.len, h.ad, h.owner⟩
/-- Two halls that lie apart, and a block beside them. -/
structure Two (B : Nat) (w : World) (Tx Ty : Nat → Prop) (ax ay bc : Nat) (cs : Array Value) (hx : Hl) (kx : Nat) (hy : Hl) (ky : Nat) : Prop where
  x : HK B w Tx ax hx kx
  y : HK B w Ty ay hy ky
  dis : ∀ q, Tx q → ¬ Ty q
  blk : Blk w bc 26 cs
  nx : ¬ Tx bc
  ny : ¬ Ty bc
section
variable {B : Nat} {w w' : World} {Tx Ty T' : Nat → Prop} {ax ay bc : Nat} {cs : Array Value} {hx hy h' : Hl} {kx ky k' : Nat}
theorem Two.stepX (o : Two B w Tx Ty ax ay bc cs hx kx hy ky) (s : HKto B w Tx ax w' T' h' k') : Two B w' T' Ty ax ay bc cs h' k' hy ky :=
  ⟨s.hk, o.y.far s.fr o.dis o.x.lo, fun q e e2 => (s.new q e).elim (fun e3 => o.dis q e3 e2) (fun e3 => by have := o.y.lt q e2; omega), o.blk.fr s.fr o.nx, s.outs o.blk.lt o.nx, o.ny⟩
theorem Two.stepY (o : Two B w Tx Ty ax ay bc cs hx kx hy ky) (s : HKto B w Ty ay w' T' h' k') : Two B w' Tx T' ax ay bc cs hx kx h' k' :=
  ⟨o.x.far s.fr (fun q e e2 => o.dis q e2 e) o.y.lo, s.hk, fun q e e2 => (s.new q e2).elim (fun e3 => o.dis q e e3) (fun e3 => by have := o.x.lt q e; omega), o.blk.fr s.fr o.ny, o.nx, s.outs o.blk.lt o.ny⟩
theorem Two.bel (o : Two B w Tx Ty ax ay bc cs hx kx hy ky) (hb : Below w.heap.size w w') : Two B w' Tx Ty ax ay bc cs hx kx hy ky :=
  ⟨o.x.bel hb, o.y.bel hb, o.dis, o.blk.below hb o.blk.lt, o.nx, o.ny⟩
theorem Two.alloc (o : Two B w Tx Ty ax ay bc cs hx kx hy ky) (x : Obj) : Two B (w.alloc x) Tx Ty ax ay bc cs hx kx hy ky := o.bel ((Below.refl _ _).alloc (Nat.le_refl _) x)
theorem Two.more (o : Two B w Tx Ty ax ay bc cs hx kx hy ky) {kx2 ky2 : Nat} (h1 : kx ≤ kx2) (h2 : ky ≤ ky2) : Two B w Tx Ty ax ay bc cs hx kx2 hy ky2 := ⟨o.x.more h1, o.y.more h2, o.dis, o.blk, o.nx, o.ny⟩
/-- A block beside both. -/
structure Box (w : World) (Tx Ty : Nat → Prop) (b : Nat) (t : TypeId) (cs : Array Value) : Prop where
  blk : Blk w b t cs
  nx : ¬ Tx b
  ny : ¬ Ty b
variable {b : Nat} {t : TypeId} {cb : Array Value}
theorem Box.stepY (o : Box w Tx Ty b t cb) (s : HKto B w Ty ay w' T' h' k') : Box w' Tx T' b t cb := ⟨o.blk.fr s.fr o.ny, o.nx, s.outs o.blk.lt o.ny⟩
theorem Box.bel (o : Box w Tx Ty b t cb) (hb : Below w.heap.size w w') : Box w' Tx Ty b t cb := ⟨o.blk.below hb o.blk.lt, o.nx, o.ny⟩
theorem Box.new (o : Two B w Tx Ty ax ay bc cs hx kx hy ky) (t : TypeId) (cb : Array Value) : Box (w.alloc (.cells cb t)) Tx Ty w.heap.size t cb := ⟨Blk.new _ _ _, fun q => by have := o.x.lt _ q; omega, fun q => by have := o.y.lt _ q; omega⟩
/-- A row beside both. -/
structure Rw (w : World) (base : Nat) (Tx Ty : Nat → Prop) (v : Value) (l : List Pf) : Prop where
  own : OwnP w base 24 v l
  nx : ∀ q, v.ownBlock = some q → ¬ Tx q
  ny : ∀ q, v.ownBlock = some q → ¬ Ty q
variable {base : Nat} {v : Value} {l : List Pf}
theorem Rw.stepY (o : Rw w base Tx Ty v l) (s : HKto B w Ty ay w' T' h' k') : Rw w' base Tx T' v l :=
  ⟨own_fr o.own s.fr o.ny, o.nx, fun q e => s.outs (World.ownsRow.lt o.own q e).2 (o.ny q e)⟩
theorem Rw.bel (o : Rw w base Tx Ty v l) (hb : Below w.heap.size w w') : Rw w' base Tx Ty v l := ⟨o.own.below hb, o.nx, o.ny⟩
theorem Rw.x (o : Two B w Tx Ty ax ay bc cs hx kx hy ky) (s : HKto B w Tx ax w' T' h' k') (h1 : OwnP w' w.heap.size 24 v l) (h2 : ∀ q, v.ownBlock = some q → ¬ T' q) : Rw w' w.heap.size T' Ty v l :=
  ⟨h1, h2, fun q e e2 => by have := (World.ownsRow.lt h1 q e).1; have := o.y.lt q e2; omega⟩
theorem Rw.y (o : Two B w Tx Ty ax ay bc cs hx kx hy ky) (s : HKto B w Ty ay w' T' h' k') (h1 : OwnP w' w.heap.size 24 v l) (h2 : ∀ q, v.ownBlock = some q → ¬ T' q) : Rw w' w.heap.size Tx T' v l :=
  ⟨h1, fun q e e2 => by have := (World.ownsRow.lt h1 q e).1; have := o.x.lt q e2; omega, h2⟩
theorem Rw.rd {A : Option Addr} {n c : Nat} (o : Rw w base Tx Ty (.slice A n c) l) : n = l.length ∧ Rd w w.heap.size A (cellsP l) := by
  obtain ⟨A', c', e, h⟩ := o.own.form
  injection e with e1 e2 e3
  subst e1
  exact ⟨e2, h⟩
end
theorem own_len {w : World} {base : Nat} {A : Option Addr} {n c : Nat} {l : List Pf} (h : OwnP w base 24 (.slice A n c) l) : l.length ≤ maxLen := by
  rcases h.2 with ⟨_, h0⟩ | ⟨g, cap, cur, _, _, _, h1, h2, _⟩
  · omega
  · omega
theorem rd_of' {w : World} {base : Nat} {A : Option Addr} {c : Nat} {L : List KV} (h : OwnKV w base (.slice A L.length c) L) : Rd w w.heap.size A (flatE encKV L) := by
  obtain ⟨A', c', e, h1⟩ := h.rd
  injection e with e1 e2 e3
  subst e1
  exact h1
theorem faultV_no {f : Int} (h : f ≠ 0) : faultV f = .iface 50 (.int .i64 f) := by unfold faultV; rw [if_neg h]
theorem fault_zero0 : faultV 0 = .nilIface := rfl
def qC : PCall := netC [113] [111]
theorem qC_w : CallW qC := ⟨by decide, by decide, by decide, by decide, by decide, by decide, by decide⟩
def hQ : Hl := ⟨gNext (Dk.new 100000) ⟨nKey [113], [111], false⟩, []⟩
theorem hQ_once : (Hl.new 100000).once qC = (noAns, 1, 0, hQ) := once_net (by decide) (by decide)
theorem hQ_own : OwnI hQ.d 1 := gNext_own ownI_new (by decide) (by decide)
theorem rangeIs_uniq {F : List UInt8 → List Ver} {lo hi : List UInt8} {n : Int} {L L' : List KV} (h : RangeIs F lo hi n L) (h' : RangeIs F lo hi n L') : L = L' := h.ext h' (fun _ _ => rfl)
set_option maxHeartbeats 40000000 in
theorem hallOnce_walk (A : Option Addr) (l : List HStp) (cc : Nat) (hm : l.length ≤ maxLen) (hS : ∀ s ∈ l, HStpOk s) (c : PCall) (hc : CallW c) (w : World) (hV : GV w.heap.size w) (hl : Rd w w.heap.size A (cellsH l)) :
    Calls Tryz.prog 3 #[.slice A l.length cc, CallV c] w fun e w' => e = .returned (.bool true) ∧ Below w.heap.size w w' := by
  have HS := Lib.hid hS
  have HC := Lib.hid hc
  have HGV := Lib.hid hV
  have hb1 := (Below.refl w.heap.size w).alloc (Nat.le_refl _) (.cells #[.int .i64 c.what, txt c.name, .int .i64 c.pa, .int .i64 c.pn, .int .i64 c.len, .int .i64 c.ad, txt c.owner] 26)
  have hBc := Blk.new w 26 #[.int .i64 c.what, txt c.name, .int .i64 c.pa, .int .i64 c.pn, .int .i64 c.len, .int .i64 c.ad, txt c.owner]
  clear hS hc hV
  unfold CallV
  go_enter Tryz.func3, Tryz.ntmps3
  go_upto_region 1 with fail
  refine wp_name (fun w1 HW => ?_)
  rw [← HW.out] at hb1 hBc
  clear HW
  have HGV1 := Lib.hid (HGV.out.on hb1)
  go_wp2_with fail
  refine (hallNew_ok 100000 (by decide) w1 hb1.size HGV1.out).mono ?_
  rintro e w2 ⟨ax, Tx, rfl, hx2, hTx, hb2⟩
  have hb02 := hb1.trans (hb2.mono hb1.size)
  have HGV2 := Lib.hid (HGV.out.on hb02)
  go_wp2_with fail
  refine (hallNew_ok 100000 (by decide) w2 hb02.size HGV2.out).mono ?_
  rintro e w3 ⟨ay, Ty, rfl, hy3, hTy, hb3⟩
  have hb03 := hb02.trans (hb3.mono hb02.size)
  have hx3 := hx2.bel hb3
  have hTw : Two w.heap.size w3 Tx Ty ax ay w.heap.size #[.int .i64 c.what, txt c.name, .int .i64 c.pa, .int .i64 c.pn, .int .i64 c.len, .int .i64 c.ad, txt c.owner] (Hl.new 100000) 0 (Hl.new 100000) 0 :=
    ⟨hx3, hy3, fun q e e2 => by have h1 := hx2.lt q e; have h2 := hTy q e2; omega, (hBc.below hb2 hBc.lt).below hb3 (by have := hBc.lt; have := hb2.size; omega), fun e => by have h1 := hTx _ e; have h2 := hBc.lt; omega, fun e => by have h1 := hTy _ e; have h2 := hBc.lt; have h3 := hb2.size; omega⟩
  have HT3 := Lib.hid hTw
  have HB3 := Lib.hid hb03
  clear hx2 hy3 hTx hTy hb2 hb3 hb02 hb03 hx3 hBc hTw hb1
  have hoc := HT3.out.x.once_h (by omega) qC qC_w
  rw [hQ_once] at hoc
  simp only [fault_zero0] at hoc
  unfold CallV qC netC at hoc
  unfold AnsV at hoc
  have HO := Lib.hid hoc
  clear hoc
  go_upto_region 5 with fail
  go_wp2_with fail
  refine HO.out.mono ?_
  rintro e w4 ⟨v4, rfl, how4, T4, hnt4, hs4⟩
  obtain ⟨A4, c4, rfl, _⟩ := how4.form
  have HT4 := Lib.hid ((HT3.out.stepX hs4).alloc (.cells #[.int .i64 noAns.pa, .int .i64 noAns.pn, .int .i64 noAns.ad, txt noAns.owner, .slice A4 noAns.list.length c4] 34))
  have HB4 := Lib.hid (HB3.out.trans ((hs4.belB HT3.out.x.lo).alloc (Nat.le_trans HT3.out.x.le hs4.size) (.cells #[.int .i64 noAns.pa, .int .i64 noAns.pn, .int .i64 noAns.ad, txt noAns.owner, .slice A4 noAns.list.length c4] 34)))
  clear HO HT3 HB3 hs4 how4 hnt4
  go_upto_region 6 with fail
  refine wp_name (fun w5 HW => ?_)
  have e5 := HW.out
  have hT5 := HT4.out
  have hB5 := HB4.out
  rw [← e5] at hT5 hB5
  have HT5 := Lib.hid hT5
  have HB5 := Lib.hid hB5
  clear HW HT4 HB4 hT5 hB5 e5
  have hoc := HT5.out.y.once_h (by omega) qC qC_w
  rw [hQ_once] at hoc
  simp only [fault_zero0] at hoc
  unfold CallV qC netC at hoc
  unfold AnsV at hoc
  have HO := Lib.hid hoc
  clear hoc
  go_wp2_with fail
  refine HO.out.mono ?_
  rintro e w6 ⟨v6, rfl, how6, T6, hnt6, hs6⟩
  obtain ⟨A6, c6, rfl, _⟩ := how6.form
  have HT6 := Lib.hid ((HT5.out.stepY hs6).alloc (.cells #[.int .i64 noAns.pa, .int .i64 noAns.pn, .int .i64 noAns.ad, txt noAns.owner, .slice A6 noAns.list.length c6] 34))
  have HB6 := Lib.hid (HB5.out.trans ((hs6.belB HT5.out.y.lo).alloc (Nat.le_trans HT5.out.y.le hs6.size) (.cells #[.int .i64 noAns.pa, .int .i64 noAns.pn, .int .i64 noAns.ad, txt noAns.owner, .slice A6 noAns.list.length c6] 34)))
  clear HO HT5 HB5 hs6 how6 hnt6
  go_upto_region 7 with fail
  refine wp_name (fun w7 HW => ?_)
  have e7 := HW.out
  have hT7 := HT6.out
  have hB7 := HB6.out
  rw [← e7] at hT7 hB7
  have HT7 := Lib.hid hT7
  have HB7 := Lib.hid hB7
  clear HW HT6 HB6 hT7 hB7 e7
  go_wp2
  go_loopw [15] (fun i wr => ∃ (k : Nat) (h : Hl) (Tx Ty : Nat → Prop), i = .int .i64 k ∧ k ≤ l.length ∧ k ≤ 40 ∧ Hid (Two w.heap.size wr Tx Ty ax ay w.heap.size #[.int .i64 c.what, txt c.name, .int .i64 c.pa, .int .i64 c.pn, .int .i64 c.len, .int .i64 c.ad, txt c.owner] h (2 * k + 2) h (2 * k + 2) ∧ h.op = [] ∧ OwnI h.d (k + 1)) ∧ Below w.heap.size w wr) (fun i _ => 40 - (intOf i).toNat)
  case atStart => exact ⟨0, hQ, _, _, by go_num, by omega, by omega, Lib.hid ⟨HT7.out, rfl, hQ_own⟩, HB7.out⟩
  case round =>
    clear HT7 HB7
    obtain ⟨k, h, Tx, Ty, rfl, hk1, hk2, HI, hb⟩ := hrel
    by_cases hgo : k < l.length ∧ k < 40
    · obtain ⟨hlt1, hlt2⟩ := hgo
      have hcl := (HS.out l[k] (List.getElem_mem _)).call.w
      obtain ⟨b0, of0, rfl, hbb0, c0, c1, c2, c3, c4, c5, c6, c7, c8, c9⟩ := (hl.below hb).hstp hlt1
      have hI : (k : Int) < (l.length : Int) := by omega
      have hI3 : (k : Int) < 40 := by omega
      obtain ⟨a, f, n, id, gB, gD, g1, g2, R⟩ := alone_r HI.out.2.1 HI.out.2.2 (by omega) HI.out.1.x.noLater l[k].call
      have HR := Lib.hid R
      have HX := Lib.hid (fun W T (o : HK w.heap.size W T ax h (2 * k + 2)) => o.once_h (by omega) l[k].call hcl)
      have HY := Lib.hid (fun W T (o : HK w.heap.size W T ay h (2 * k + 2)) => o.once_h (by omega) l[k].call hcl)
      unfold CallV at HX HY
      have HB := Lib.hid hb
      clear R hb hcl
      go_upto_region 12 with fail
      go_wp2_with fail
      refine (HX.out _ _ HI.out.1.x).mono ?_
      rintro e w2 ⟨v2, rfl, how2, T2, hnt2, hs2⟩
      have HT2 := Lib.hid (HI.out.1.stepX hs2)
      have hb2 := HB.out.trans (hs2.belB HI.out.1.x.lo)
      obtain ⟨b1, of1, ee, hbb1, d0, d1, d2, d3, d4, d5, d6, d7, d8, d9⟩ := (hl.below hb2).hstp hlt1
      injection ee with ee
      injection ee with ee1 ee2
      subst ee1
      subst ee2
      have HB2 := Lib.hid hb2
      clear hs2 how2 hnt2 hb2 c0 c1 c2 c3 c4 c5 c6 c7 c8 c9 HX
      go_wp2_with fail
      refine (HY.out _ _ HT2.out.y).mono ?_
      rintro e w3 ⟨v3, rfl, how3, T3, hnt3, hs3⟩
      have HT3 := Lib.hid (HT2.out.stepY hs3)
      have HB3 := Lib.hid (HB2.out.trans (hs3.belB HT2.out.y.lo))
      have HN := Lib.hid (show ∃ h' : Hl, Two w.heap.size w3 T2 T3 ax ay w.heap.size #[.int .i64 c.what, txt c.name, .int .i64 c.pa, .int .i64 c.pn, .int .i64 c.len, .int .i64 c.ad, txt c.owner] h' (2 * (k + 1) + 2) h' (2 * (k + 1) + 2) ∧ h'.op = [] ∧ OwnI h'.d (k + 1 + 1) by
        refine ⟨(h.once l[k].call).2.2.2, HT3.out.more (by omega) (by omega), ?_, ?_⟩
        · by_cases hf : f = 0
          · rw [HR.out.once0 hf]
          · rw [HR.out.once1 hf]
        · by_cases hf : f = 0
          · rw [HR.out.once0 hf]; exact HR.out.o2
          · rw [HR.out.once1 hf]; exact HR.out.o1)
      clear hs3 how3 hnt3 d0 d1 d2 d3 d4 d5 d6 d7 d8 d9 HY HI HT2 HT3 HB HB2 HR
      go_wp2
      go_roundw
      case rel =>
        obtain ⟨h', n1, n2, n3⟩ := HN.out
        exact ⟨k + 1, h', T2, T3, by go_num, by omega, by omega, Lib.hid ⟨n1, n2, n3⟩, HB3.out⟩
      case measure => simp [intOf]; omega
    · have HB := Lib.hid hb
      clear hb
      by_cases hlt1 : k < l.length
      · have hI : (k : Int) < (l.length : Int) := by omega
        have hI3 : ¬ (k : Int) < 40 := by omega
        clear hgo
        obtain ⟨a, f, n, id, gB, gD, g1, g2, R⟩ := alone_r HI.out.2.1 HI.out.2.2 (by omega) HI.out.1.x.noLater c
        by_cases hf : f = 0
        · subst hf
          have HR := Lib.hid R
          clear R
          have x0 := HI.out.1.blk.cell 0; have x1 := HI.out.1.blk.cell 1; have x2 := HI.out.1.blk.cell 2; have x3 := HI.out.1.blk.cell 3; have x4 := HI.out.1.blk.cell 4; have x5 := HI.out.1.blk.cell 5; have x6 := HI.out.1.blk.cell 6
          simp at x0 x1 x2 x3 x4 x5 x6
          have hox := HI.out.1.x.once_h (by omega) c HC.out
          rw [HR.out.once0 rfl] at hox
          simp only [fault_zero0] at hox
          unfold CallV AnsV at hox
          have HO := Lib.hid hox
          clear hox
          go_upto_region 14 with fail
          go_wp2_with fail
          refine HO.out.mono ?_
          rintro e w2 ⟨v2, rfl, how2, T2, hnt2, hs2⟩
          obtain ⟨A2, c2, rfl, _⟩ := how2.form
          have HT2 := Lib.hid ((HI.out.1.stepX hs2).alloc (.cells #[.int .i64 a.pa, .int .i64 a.pn, .int .i64 a.ad, txt a.owner, .slice A2 a.list.length c2] 34))
          have HX2 := Lib.hid (Box.new (HI.out.1.stepX hs2) 34 #[.int .i64 a.pa, .int .i64 a.pn, .int .i64 a.ad, txt a.owner, .slice A2 a.list.length c2])
          have HW2 := Lib.hid ((Rw.x HI.out.1 hs2 how2 hnt2).bel ((Below.refl _ _).alloc (Nat.le_refl _) (.cells #[.int .i64 a.pa, .int .i64 a.pn, .int .i64 a.ad, txt a.owner, .slice A2 a.list.length c2] 34)))
          have HB2 := Lib.hid (HB.out.trans ((hs2.belB HI.out.1.x.lo).alloc (Nat.le_trans HI.out.1.x.le hs2.size) (.cells #[.int .i64 a.pa, .int .i64 a.pn, .int .i64 a.ad, txt a.owner, .slice A2 a.list.length c2] 34)))
          clear HO hs2 how2 hnt2 x0 x1 x2 x3 x4 x5 x6
          go_upto_region 15 with fail
          refine wp_name (fun w3 HW => ?_)
          have e3 := HW.out
          have hT3 := HT2.out; have hX3 := HX2.out; have hW3 := HW2.out; have hB3 := HB2.out
          rw [← e3] at hT3 hX3 hW3 hB3
          have HT3 := Lib.hid hT3; have HX3 := Lib.hid hX3; have HW3 := Lib.hid hW3; have HB3 := Lib.hid hB3
          clear HW e3 hT3 hX3 hW3 hB3 HT2 HX2 HW2 HB2 HI HB
          generalize w2.heap.size = b2 at *
          have hox := HT3.out.y.open_h (by omega) zz (by decide)
          rw [HR.out.op] at hox
          simp only [fault_zero0] at hox
          have HO := Lib.hid hox
          clear hox
          go_wp2_with fail
          refine HO.out.mono ?_
          rintro e w4 ⟨rfl, T4, hs4⟩
          have HT4 := Lib.hid (HT3.out.stepY hs4); have HX4 := Lib.hid (HX3.out.stepY hs4); have HW4 := Lib.hid (HW3.out.stepY hs4)
          have HB4 := Lib.hid (HB3.out.trans (hs4.belB HT3.out.y.lo))
          clear HO hs4 HT3 HX3 HW3 HB3
          have x0 := HT4.out.blk.cell 0; have x1 := HT4.out.blk.cell 1; have x2 := HT4.out.blk.cell 2; have x3 := HT4.out.blk.cell 3; have x4 := HT4.out.blk.cell 4; have x5 := HT4.out.blk.cell 5; have x6 := HT4.out.blk.cell 6
          simp at x0 x1 x2 x3 x4 x5 x6
          have hox := HT4.out.y.ask_h (by omega) zz (by decide) c HC.out
          rw [HR.out.ask] at hox
          simp only [fault_zero0] at hox
          unfold CallV AnsV at hox
          have HO := Lib.hid hox
          clear hox
          go_wp2_with fail
          refine HO.out.mono ?_
          rintro e w5 ⟨v5, rfl, how5, T5, hnt5, hs5⟩
          obtain ⟨A5, c5, rfl, _⟩ := how5.form
          have HT5 := Lib.hid ((HT4.out.stepY hs5).alloc (.cells #[.int .i64 a.pa, .int .i64 a.pn, .int .i64 a.ad, txt a.owner, .slice A5 a.list.length c5] 34)); have HX5 := Lib.hid ((HX4.out.stepY hs5).bel ((Below.refl _ _).alloc (Nat.le_refl _) (.cells #[.int .i64 a.pa, .int .i64 a.pn, .int .i64 a.ad, txt a.owner, .slice A5 a.list.length c5] 34))); have HW5 := Lib.hid ((HW4.out.stepY hs5).bel ((Below.refl _ _).alloc (Nat.le_refl _) (.cells #[.int .i64 a.pa, .int .i64 a.pn, .int .i64 a.ad, txt a.owner, .slice A5 a.list.length c5] 34)))
          have HZ5 := Lib.hid (Box.new (HT4.out.stepY hs5) 34 #[.int .i64 a.pa, .int .i64 a.pn, .int .i64 a.ad, txt a.owner, .slice A5 a.list.length c5])
          have HV5 := Lib.hid ((Rw.y HT4.out hs5 how5 hnt5).bel ((Below.refl _ _).alloc (Nat.le_refl _) (.cells #[.int .i64 a.pa, .int .i64 a.pn, .int .i64 a.ad, txt a.owner, .slice A5 a.list.length c5] 34)))
          have HB5 := Lib.hid (HB4.out.trans ((hs5.belB HT4.out.y.lo).alloc (Nat.le_trans HT4.out.y.le hs5.size) (.cells #[.int .i64 a.pa, .int .i64 a.pn, .int .i64 a.ad, txt a.owner, .slice A5 a.list.length c5] 34)))
          clear HO hs5 how5 hnt5 x0 x1 x2 x3 x4 x5 x6 HT4 HX4 HW4 HB4
          go_upto_region 18 with fail
          refine wp_name (fun w6 HW => ?_)
          have e6 := HW.out
          have hT6 := HT5.out; have hX6 := HX5.out; have hW6 := HW5.out; have hZ6 := HZ5.out; have hV6 := HV5.out; have hB6 := HB5.out
          rw [← e6] at hT6 hX6 hW6 hZ6 hV6 hB6
          have HT6 := Lib.hid hT6; have HX6 := Lib.hid hX6; have HW6 := Lib.hid hW6; have HZ6 := Lib.hid hZ6; have HV6 := Lib.hid hV6; have HB6 := Lib.hid hB6
          clear HW e6 hT6 hX6 hW6 hZ6 hV6 hB6 HT5 HX5 HW5 HZ5 HV5 HB5
          generalize w5.heap.size = b5 at *
          have hox := HT6.out.y.close_h (by omega) zz (by decide)
          rw [HR.out.close] at hox
          simp only [fault_zero0] at hox
          have HO := Lib.hid hox
          clear hox
          go_wp2_with fail
          refine HO.out.mono ?_
          rintro e w7 ⟨rfl, T7, hs7⟩
          have HT7 := Lib.hid (HT6.out.stepY hs7); have HX7 := Lib.hid (HX6.out.stepY hs7); have HW7 := Lib.hid (HW6.out.stepY hs7); have HZ7 := Lib.hid (HZ6.out.stepY hs7); have HV7 := Lib.hid (HV6.out.stepY hs7)
          have HB7 := Lib.hid (HB6.out.trans (hs7.belB HT6.out.y.lo))
          clear HO hs7 HT6 HX6 HW6 HZ6 HV6 HB6
          have hlen : a.list.length ≤ maxLen := own_len HV7.out.own
          have hox := answers_same a A2 A5 c2 c5 hlen w7 HW7.out.rd.2 HV7.out.rd.2
          unfold AnsV at hox
          have HO := Lib.hid hox
          have x0 := HX7.out.blk.cell 0; have x1 := HX7.out.blk.cell 1; have x2 := HX7.out.blk.cell 2; have x3 := HX7.out.blk.cell 3; have x4 := HX7.out.blk.cell 4
          have z0 := HZ7.out.blk.cell 0; have z1 := HZ7.out.blk.cell 1; have z2 := HZ7.out.blk.cell 2; have z3 := HZ7.out.blk.cell 3; have z4 := HZ7.out.blk.cell 4
          simp at x0 x1 x2 x3 x4 z0 z1 z2 z3 z4
          clear hox hlen
          go_wp2_with fail
          refine HO.out.mono ?_
          rintro e w8 ⟨rfl, hb8⟩
          have HT8 := Lib.hid (HT7.out.bel hb8)
          have HB8 := Lib.hid (HB7.out.trans (hb8.mono HB7.out.size))
          clear HO hb8 x0 x1 x2 x3 x4 z0 z1 z2 z3 z4 HT7 HX7 HW7 HZ7 HV7 HB7
          have HO := Lib.hid (HT8.out.x.all_h (by omega))
          go_wp2_with fail
          refine HO.out.mono ?_
          rintro e w9 ⟨v9, L9, rfl, ho9, hr9, hn9, hb9⟩
          obtain ⟨A9, c9, rfl, _⟩ := ho9.rd
          have HT9 := Lib.hid (HT8.out.bel hb9)
          have HB9 := Lib.hid (HB8.out.trans (hb9.mono HB8.out.size))
          have HL9 := Lib.hid ho9
          have HR9 := Lib.hid hr9
          clear HO ho9 hr9 hb9 HT8 HB8
          have HO := Lib.hid (HT9.out.y.all_h (by omega))
          go_wp2_with fail
          refine HO.out.mono ?_
          rintro e w10 ⟨v10, L10, rfl, ho10, hr10, hn10, hb10⟩
          obtain rfl := rangeIs_uniq hr10 HR9.out
          obtain ⟨A10, c10, rfl, hrd10⟩ := ho10.rd
          have hrd9 := rd_of' (own_below HL9.out hb10)
          have HB10 := Lib.hid (HB9.out.trans (hb10.mono HB9.out.size))
          have HS10 := Lib.hid (pairs_same A9 A10 L10 c9 c10 (by unfold maxLen; omega) w10 hrd9 hrd10)
          clear HO ho10 hr10 hn10 hb10 hrd10 hrd9 HL9 HR9 HT9 HB9 hn9
          go_wp2_with fail
          refine HS10.out.mono ?_
          rintro e w11 ⟨rfl, hb11⟩
          have HB11 := Lib.hid (HB10.out.trans (hb11.mono HB10.out.size))
          clear HS10 hb11 HB10
          go_wp2
          go_region
          go_wp2
          go_ret
          exact ⟨rfl, HB11.out.drew⟩
        · have HNZ := Lib.hid hf
          obtain rfl := R.no hf
          have HR := Lib.hid R
          clear R hf
          have x0 := HI.out.1.blk.cell 0; have x1 := HI.out.1.blk.cell 1; have x2 := HI.out.1.blk.cell 2; have x3 := HI.out.1.blk.cell 3; have x4 := HI.out.1.blk.cell 4; have x5 := HI.out.1.blk.cell 5; have x6 := HI.out.1.blk.cell 6
          simp at x0 x1 x2 x3 x4 x5 x6
          have hox := HI.out.1.x.once_h (by omega) c HC.out
          rw [HR.out.once1 HNZ.out] at hox
          simp only [faultV_no HNZ.out] at hox
          unfold CallV AnsV at hox
          have HO := Lib.hid hox
          clear hox
          go_upto_region 14 with fail
          go_wp2_with fail
          refine HO.out.mono ?_
          rintro e w2 ⟨v2, rfl, how2, T2, hnt2, hs2⟩
          obtain ⟨A2, c2, rfl, _⟩ := how2.form
          have HT2 := Lib.hid ((HI.out.1.stepX hs2).alloc (.cells #[.int .i64 noAns.pa, .int .i64 noAns.pn, .int .i64 noAns.ad, txt noAns.owner, .slice A2 noAns.list.length c2] 34))
          have HX2 := Lib.hid (Box.new (HI.out.1.stepX hs2) 34 #[.int .i64 noAns.pa, .int .i64 noAns.pn, .int .i64 noAns.ad, txt noAns.owner, .slice A2 noAns.list.length c2])
          have HW2 := Lib.hid ((Rw.x HI.out.1 hs2 how2 hnt2).bel ((Below.refl _ _).alloc (Nat.le_refl _) (.cells #[.int .i64 noAns.pa, .int .i64 noAns.pn, .int .i64 noAns.ad, txt noAns.owner, .slice A2 noAns.list.length c2] 34)))
          have HB2 := Lib.hid (HB.out.trans ((hs2.belB HI.out.1.x.lo).alloc (Nat.le_trans HI.out.1.x.le hs2.size) (.cells #[.int .i64 noAns.pa, .int .i64 noAns.pn, .int .i64 noAns.ad, txt noAns.owner, .slice A2 noAns.list.length c2] 34)))
          clear HO hs2 how2 hnt2 x0 x1 x2 x3 x4 x5 x6
          go_upto_region 15 with fail
          refine wp_name (fun w3 HW => ?_)
          have e3 := HW.out
          have hT3 := HT2.out; have hX3 := HX2.out; have hW3 := HW2.out; have hB3 := HB2.out
          rw [← e3] at hT3 hX3 hW3 hB3
          have HT3 := Lib.hid hT3; have HX3 := Lib.hid hX3; have HW3 := Lib.hid hW3; have HB3 := Lib.hid hB3
          clear HW e3 hT3 hX3 hW3 hB3 HT2 HX2 HW2 HB2 HI HB
          generalize w2.heap.size = b2 at *
          have hox := HT3.out.y.open_h (by omega) zz (by decide)
          rw [HR.out.op] at hox
          simp only [fault_zero0] at hox
          have HO := Lib.hid hox
          clear hox
          go_wp2_with fail
          refine HO.out.mono ?_
          rintro e w4 ⟨rfl, T4, hs4⟩
          have HT4 := Lib.hid (HT3.out.stepY hs4); have HX4 := Lib.hid (HX3.out.stepY hs4); have HW4 := Lib.hid (HW3.out.stepY hs4)
          have HB4 := Lib.hid (HB3.out.trans (hs4.belB HT3.out.y.lo))
          clear HO hs4 HT3 HX3 HW3 HB3
          have x0 := HT4.out.blk.cell 0; have x1 := HT4.out.blk.cell 1; have x2 := HT4.out.blk.cell 2; have x3 := HT4.out.blk.cell 3; have x4 := HT4.out.blk.cell 4; have x5 := HT4.out.blk.cell 5; have x6 := HT4.out.blk.cell 6
          simp at x0 x1 x2 x3 x4 x5 x6
          have hox := HT4.out.y.ask_h (by omega) zz (by decide) c HC.out
          rw [HR.out.ask] at hox
          simp only [faultV_no HNZ.out] at hox
          unfold CallV AnsV at hox
          have HO := Lib.hid hox
          clear hox
          go_wp2_with fail
          refine HO.out.mono ?_
          rintro e w5 ⟨v5, rfl, how5, T5, hnt5, hs5⟩
          obtain ⟨A5, c5, rfl, _⟩ := how5.form
          have HT5 := Lib.hid ((HT4.out.stepY hs5).alloc (.cells #[.int .i64 noAns.pa, .int .i64 noAns.pn, .int .i64 noAns.ad, txt noAns.owner, .slice A5 noAns.list.length c5] 34)); have HX5 := Lib.hid ((HX4.out.stepY hs5).bel ((Below.refl _ _).alloc (Nat.le_refl _) (.cells #[.int .i64 noAns.pa, .int .i64 noAns.pn, .int .i64 noAns.ad, txt noAns.owner, .slice A5 noAns.list.length c5] 34))); have HW5 := Lib.hid ((HW4.out.stepY hs5).bel ((Below.refl _ _).alloc (Nat.le_refl _) (.cells #[.int .i64 noAns.pa, .int .i64 noAns.pn, .int .i64 noAns.ad, txt noAns.owner, .slice A5 noAns.list.length c5] 34)))
          have HZ5 := Lib.hid (Box.new (HT4.out.stepY hs5) 34 #[.int .i64 noAns.pa, .int .i64 noAns.pn, .int .i64 noAns.ad, txt noAns.owner, .slice A5 noAns.list.length c5])
          have HV5 := Lib.hid ((Rw.y HT4.out hs5 how5 hnt5).bel ((Below.refl _ _).alloc (Nat.le_refl _) (.cells #[.int .i64 noAns.pa, .int .i64 noAns.pn, .int .i64 noAns.ad, txt noAns.owner, .slice A5 noAns.list.length c5] 34)))
          have HB5 := Lib.hid (HB4.out.trans ((hs5.belB HT4.out.y.lo).alloc (Nat.le_trans HT4.out.y.le hs5.size) (.cells #[.int .i64 noAns.pa, .int .i64 noAns.pn, .int .i64 noAns.ad, txt noAns.owner, .slice A5 noAns.list.length c5] 34)))
          clear HO hs5 how5 hnt5 x0 x1 x2 x3 x4 x5 x6 HT4 HX4 HW4 HB4
          go_upto_region 18 with fail
          refine wp_name (fun w6 HW => ?_)
          have e6 := HW.out
          have hT6 := HT5.out; have hX6 := HX5.out; have hW6 := HW5.out; have hZ6 := HZ5.out; have hV6 := HV5.out; have hB6 := HB5.out
          rw [← e6] at hT6 hX6 hW6 hZ6 hV6 hB6
          have HT6 := Lib.hid hT6; have HX6 := Lib.hid hX6; have HW6 := Lib.hid hW6; have HZ6 := Lib.hid hZ6; have HV6 := Lib.hid hV6; have HB6 := Lib.hid hB6
          clear HW e6 hT6 hX6 hW6 hZ6 hV6 hB6 HT5 HX5 HW5 HZ5 HV5 HB5
          generalize w5.heap.size = b5 at *
          have hox := HT6.out.y.quit_h (by omega) zz (by decide)
          rw [HR.out.quit] at hox
          simp only [fault_zero0] at hox
          have HO := Lib.hid hox
          clear hox
          go_wp2_with fail
          refine HO.out.mono ?_
          rintro e w7 ⟨rfl, T7, hs7⟩
          have HT7 := Lib.hid (HT6.out.stepY hs7); have HX7 := Lib.hid (HX6.out.stepY hs7); have HW7 := Lib.hid (HW6.out.stepY hs7); have HZ7 := Lib.hid (HZ6.out.stepY hs7); have HV7 := Lib.hid (HV6.out.stepY hs7)
          have HB7 := Lib.hid (HB6.out.trans (hs7.belB HT6.out.y.lo))
          clear HO hs7 HT6 HX6 HW6 HZ6 HV6 HB6
          have hlen : noAns.list.length ≤ maxLen := own_len HV7.out.own
          have hox := answers_same noAns A2 A5 c2 c5 hlen w7 HW7.out.rd.2 HV7.out.rd.2
          unfold AnsV at hox
          have HO := Lib.hid hox
          have x0 := HX7.out.blk.cell 0; have x1 := HX7.out.blk.cell 1; have x2 := HX7.out.blk.cell 2; have x3 := HX7.out.blk.cell 3; have x4 := HX7.out.blk.cell 4
          have z0 := HZ7.out.blk.cell 0; have z1 := HZ7.out.blk.cell 1; have z2 := HZ7.out.blk.cell 2; have z3 := HZ7.out.blk.cell 3; have z4 := HZ7.out.blk.cell 4
          simp at x0 x1 x2 x3 x4 z0 z1 z2 z3 z4
          clear hox hlen
          go_wp2_with fail
          refine HO.out.mono ?_
          rintro e w8 ⟨rfl, hb8⟩
          have HT8 := Lib.hid (HT7.out.bel hb8)
          have HB8 := Lib.hid (HB7.out.trans (hb8.mono HB7.out.size))
          clear HO hb8 x0 x1 x2 x3 x4 z0 z1 z2 z3 z4 HT7 HX7 HW7 HZ7 HV7 HB7
          have HO := Lib.hid (HT8.out.x.all_h (by omega))
          go_wp2_with fail
          refine HO.out.mono ?_
          rintro e w9 ⟨v9, L9, rfl, ho9, hr9, hn9, hb9⟩
          obtain ⟨A9, c9, rfl, _⟩ := ho9.rd
          have HT9 := Lib.hid (HT8.out.bel hb9)
          have HB9 := Lib.hid (HB8.out.trans (hb9.mono HB8.out.size))
          have HL9 := Lib.hid ho9
          have HR9 := Lib.hid hr9
          clear HO ho9 hr9 hb9 HT8 HB8
          have HO := Lib.hid (HT9.out.y.all_h (by omega))
          go_wp2_with fail
          refine HO.out.mono ?_
          rintro e w10 ⟨v10, L10, rfl, ho10, hr10, hn10, hb10⟩
          obtain rfl := rangeIs_uniq hr10 HR9.out
          obtain ⟨A10, c10, rfl, hrd10⟩ := ho10.rd
          have hrd9 := rd_of' (own_below HL9.out hb10)
          have HB10 := Lib.hid (HB9.out.trans (hb10.mono HB9.out.size))
          have HS10 := Lib.hid (pairs_same A9 A10 L10 c9 c10 (by unfold maxLen; omega) w10 hrd9 hrd10)
          clear HO ho10 hr10 hn10 hb10 hrd10 hrd9 HL9 HR9 HT9 HB9 hn9
          go_wp2_with fail
          refine HS10.out.mono ?_
          rintro e w11 ⟨rfl, hb11⟩
          have HB11 := Lib.hid (HB10.out.trans (hb11.mono HB10.out.size))
          clear HS10 hb11 HB10
          go_wp2
          go_region
          go_wp2
          go_ret
          exact ⟨rfl, HB11.out.drew⟩
      · have hI : ¬ (k : Int) < (l.length : Int) := by omega
        clear hgo
        obtain ⟨a, f, n, id, gB, gD, g1, g2, R⟩ := alone_r HI.out.2.1 HI.out.2.2 (by omega) HI.out.1.x.noLater c
        by_cases hf : f = 0
        · subst hf
          have HR := Lib.hid R
          clear R
          have x0 := HI.out.1.blk.cell 0; have x1 := HI.out.1.blk.cell 1; have x2 := HI.out.1.blk.cell 2; have x3 := HI.out.1.blk.cell 3; have x4 := HI.out.1.blk.cell 4; have x5 := HI.out.1.blk.cell 5; have x6 := HI.out.1.blk.cell 6
          simp at x0 x1 x2 x3 x4 x5 x6
          have hox := HI.out.1.x.once_h (by omega) c HC.out
          rw [HR.out.once0 rfl] at hox
          simp only [fault_zero0] at hox
          unfold CallV AnsV at hox
          have HO := Lib.hid hox
          clear hox
          go_upto_region 14 with fail
          go_wp2_with fail
          refine HO.out.mono ?_
          rintro e w2 ⟨v2, rfl, how2, T2, hnt2, hs2⟩
          obtain ⟨A2, c2, rfl, _⟩ := how2.form
          have HT2 := Lib.hid ((HI.out.1.stepX hs2).alloc (.cells #[.int .i64 a.pa, .int .i64 a.pn, .int .i64 a.ad, txt a.owner, .slice A2 a.list.length c2] 34))
          have HX2 := Lib.hid (Box.new (HI.out.1.stepX hs2) 34 #[.int .i64 a.pa, .int .i64 a.pn, .int .i64 a.ad, txt a.owner, .slice A2 a.list.length c2])
          have HW2 := Lib.hid ((Rw.x HI.out.1 hs2 how2 hnt2).bel ((Below.refl _ _).alloc (Nat.le_refl _) (.cells #[.int .i64 a.pa, .int .i64 a.pn, .int .i64 a.ad, txt a.owner, .slice A2 a.list.length c2] 34)))
          have HB2 := Lib.hid (HB.out.trans ((hs2.belB HI.out.1.x.lo).alloc (Nat.le_trans HI.out.1.x.le hs2.size) (.cells #[.int .i64 a.pa, .int .i64 a.pn, .int .i64 a.ad, txt a.owner, .slice A2 a.list.length c2] 34)))
          clear HO hs2 how2 hnt2 x0 x1 x2 x3 x4 x5 x6
          go_upto_region 15 with fail
          refine wp_name (fun w3 HW => ?_)
          have e3 := HW.out
          have hT3 := HT2.out; have hX3 := HX2.out; have hW3 := HW2.out; have hB3 := HB2.out
          rw [← e3] at hT3 hX3 hW3 hB3
          have HT3 := Lib.hid hT3; have HX3 := Lib.hid hX3; have HW3 := Lib.hid hW3; have HB3 := Lib.hid hB3
          clear HW e3 hT3 hX3 hW3 hB3 HT2 HX2 HW2 HB2 HI HB
          generalize w2.heap.size = b2 at *
          have hox := HT3.out.y.open_h (by omega) zz (by decide)
          rw [HR.out.op] at hox
          simp only [fault_zero0] at hox
          have HO := Lib.hid hox
          clear hox
          go_wp2_with fail
          refine HO.out.mono ?_
          rintro e w4 ⟨rfl, T4, hs4⟩
          have HT4 := Lib.hid (HT3.out.stepY hs4); have HX4 := Lib.hid (HX3.out.stepY hs4); have HW4 := Lib.hid (HW3.out.stepY hs4)
          have HB4 := Lib.hid (HB3.out.trans (hs4.belB HT3.out.y.lo))
          clear HO hs4 HT3 HX3 HW3 HB3
          have x0 := HT4.out.blk.cell 0; have x1 := HT4.out.blk.cell 1; have x2 := HT4.out.blk.cell 2; have x3 := HT4.out.blk.cell 3; have x4 := HT4.out.blk.cell 4; have x5 := HT4.out.blk.cell 5; have x6 := HT4.out.blk.cell 6
          simp at x0 x1 x2 x3 x4 x5 x6
          have hox := HT4.out.y.ask_h (by omega) zz (by decide) c HC.out
          rw [HR.out.ask] at hox
          simp only [fault_zero0] at hox
          unfold CallV AnsV at hox
          have HO := Lib.hid hox
          clear hox
          go_wp2_with fail
          refine HO.out.mono ?_
          rintro e w5 ⟨v5, rfl, how5, T5, hnt5, hs5⟩
          obtain ⟨A5, c5, rfl, _⟩ := how5.form
          have HT5 := Lib.hid ((HT4.out.stepY hs5).alloc (.cells #[.int .i64 a.pa, .int .i64 a.pn, .int .i64 a.ad, txt a.owner, .slice A5 a.list.length c5] 34)); have HX5 := Lib.hid ((HX4.out.stepY hs5).bel ((Below.refl _ _).alloc (Nat.le_refl _) (.cells #[.int .i64 a.pa, .int .i64 a.pn, .int .i64 a.ad, txt a.owner, .slice A5 a.list.length c5] 34))); have HW5 := Lib.hid ((HW4.out.stepY hs5).bel ((Below.refl _ _).alloc (Nat.le_refl _) (.cells #[.int .i64 a.pa, .int .i64 a.pn, .int .i64 a.ad, txt a.owner, .slice A5 a.list.length c5] 34)))
          have HZ5 := Lib.hid (Box.new (HT4.out.stepY hs5) 34 #[.int .i64 a.pa, .int .i64 a.pn, .int .i64 a.ad, txt a.owner, .slice A5 a.list.length c5])
          have HV5 := Lib.hid ((Rw.y HT4.out hs5 how5 hnt5).bel ((Below.refl _ _).alloc (Nat.le_refl _) (.cells #[.int .i64 a.pa, .int .i64 a.pn, .int .i64 a.ad, txt a.owner, .slice A5 a.list.length c5] 34)))
          have HB5 := Lib.hid (HB4.out.trans ((hs5.belB HT4.out.y.lo).alloc (Nat.le_trans HT4.out.y.le hs5.size) (.cells #[.int .i64 a.pa, .int .i64 a.pn, .int .i64 a.ad, txt a.owner, .slice A5 a.list.length c5] 34)))
          clear HO hs5 how5 hnt5 x0 x1 x2 x3 x4 x5 x6 HT4 HX4 HW4 HB4
          go_upto_region 18 with fail
          refine wp_name (fun w6 HW => ?_)
          have e6 := HW.out
          have hT6 := HT5.out; have hX6 := HX5.out; have hW6 := HW5.out; have hZ6 := HZ5.out; have hV6 := HV5.out; have hB6 := HB5.out
          rw [← e6] at hT6 hX6 hW6 hZ6 hV6 hB6
          have HT6 := Lib.hid hT6; have HX6 := Lib.hid hX6; have HW6 := Lib.hid hW6; have HZ6 := Lib.hid hZ6; have HV6 := Lib.hid hV6; have HB6 := Lib.hid hB6
          clear HW e6 hT6 hX6 hW6 hZ6 hV6 hB6 HT5 HX5 HW5 HZ5 HV5 HB5
          generalize w5.heap.size = b5 at *
          have hox := HT6.out.y.close_h (by omega) zz (by decide)
          rw [HR.out.close] at hox
          simp only [fault_zero0] at hox
          have HO := Lib.hid hox
          clear hox
          go_wp2_with fail
          refine HO.out.mono ?_
          rintro e w7 ⟨rfl, T7, hs7⟩
          have HT7 := Lib.hid (HT6.out.stepY hs7); have HX7 := Lib.hid (HX6.out.stepY hs7); have HW7 := Lib.hid (HW6.out.stepY hs7); have HZ7 := Lib.hid (HZ6.out.stepY hs7); have HV7 := Lib.hid (HV6.out.stepY hs7)
          have HB7 := Lib.hid (HB6.out.trans (hs7.belB HT6.out.y.lo))
          clear HO hs7 HT6 HX6 HW6 HZ6 HV6 HB6
          have hlen : a.list.length ≤ maxLen := own_len HV7.out.own
          have hox := answers_same a A2 A5 c2 c5 hlen w7 HW7.out.rd.2 HV7.out.rd.2
          unfold AnsV at hox
          have HO := Lib.hid hox
          have x0 := HX7.out.blk.cell 0; have x1 := HX7.out.blk.cell 1; have x2 := HX7.out.blk.cell 2; have x3 := HX7.out.blk.cell 3; have x4 := HX7.out.blk.cell 4
          have z0 := HZ7.out.blk.cell 0; have z1 := HZ7.out.blk.cell 1; have z2 := HZ7.out.blk.cell 2; have z3 := HZ7.out.blk.cell 3; have z4 := HZ7.out.blk.cell 4
          simp at x0 x1 x2 x3 x4 z0 z1 z2 z3 z4
          clear hox hlen
          go_wp2_with fail
          refine HO.out.mono ?_
          rintro e w8 ⟨rfl, hb8⟩
          have HT8 := Lib.hid (HT7.out.bel hb8)
          have HB8 := Lib.hid (HB7.out.trans (hb8.mono HB7.out.size))
          clear HO hb8 x0 x1 x2 x3 x4 z0 z1 z2 z3 z4 HT7 HX7 HW7 HZ7 HV7 HB7
          have HO := Lib.hid (HT8.out.x.all_h (by omega))
          go_wp2_with fail
          refine HO.out.mono ?_
          rintro e w9 ⟨v9, L9, rfl, ho9, hr9, hn9, hb9⟩
          obtain ⟨A9, c9, rfl, _⟩ := ho9.rd
          have HT9 := Lib.hid (HT8.out.bel hb9)
          have HB9 := Lib.hid (HB8.out.trans (hb9.mono HB8.out.size))
          have HL9 := Lib.hid ho9
          have HR9 := Lib.hid hr9
          clear HO ho9 hr9 hb9 HT8 HB8
          have HO := Lib.hid (HT9.out.y.all_h (by omega))
          go_wp2_with fail
          refine HO.out.mono ?_
          rintro e w10 ⟨v10, L10, rfl, ho10, hr10, hn10, hb10⟩
          obtain rfl := rangeIs_uniq hr10 HR9.out
          obtain ⟨A10, c10, rfl, hrd10⟩ := ho10.rd
          have hrd9 := rd_of' (own_below HL9.out hb10)
          have HB10 := Lib.hid (HB9.out.trans (hb10.mono HB9.out.size))
          have HS10 := Lib.hid (pairs_same A9 A10 L10 c9 c10 (by unfold maxLen; omega) w10 hrd9 hrd10)
          clear HO ho10 hr10 hn10 hb10 hrd10 hrd9 HL9 HR9 HT9 HB9 hn9
          go_wp2_with fail
          refine HS10.out.mono ?_
          rintro e w11 ⟨rfl, hb11⟩
          have HB11 := Lib.hid (HB10.out.trans (hb11.mono HB10.out.size))
          clear HS10 hb11 HB10
          go_wp2
          go_region
          go_wp2
          go_ret
          exact ⟨rfl, HB11.out.drew⟩
        · have HNZ := Lib.hid hf
          obtain rfl := R.no hf
          have HR := Lib.hid R
          clear R hf
          have x0 := HI.out.1.blk.cell 0; have x1 := HI.out.1.blk.cell 1; have x2 := HI.out.1.blk.cell 2; have x3 := HI.out.1.blk.cell 3; have x4 := HI.out.1.blk.cell 4; have x5 := HI.out.1.blk.cell 5; have x6 := HI.out.1.blk.cell 6
          simp at x0 x1 x2 x3 x4 x5 x6
          have hox := HI.out.1.x.once_h (by omega) c HC.out
          rw [HR.out.once1 HNZ.out] at hox
          simp only [faultV_no HNZ.out] at hox
          unfold CallV AnsV at hox
          have HO := Lib.hid hox
          clear hox
          go_upto_region 14 with fail
          go_wp2_with fail
          refine HO.out.mono ?_
          rintro e w2 ⟨v2, rfl, how2, T2, hnt2, hs2⟩
          obtain ⟨A2, c2, rfl, _⟩ := how2.form
          have HT2 := Lib.hid ((HI.out.1.stepX hs2).alloc (.cells #[.int .i64 noAns.pa, .int .i64 noAns.pn, .int .i64 noAns.ad, txt noAns.owner, .slice A2 noAns.list.length c2] 34))
          have HX2 := Lib.hid (Box.new (HI.out.1.stepX hs2) 34 #[.int .i64 noAns.pa, .int .i64 noAns.pn, .int .i64 noAns.ad, txt noAns.owner, .slice A2 noAns.list.length c2])
          have HW2 := Lib.hid ((Rw.x HI.out.1 hs2 how2 hnt2).bel ((Below.refl _ _).alloc (Nat.le_refl _) (.cells #[.int .i64 noAns.pa, .int .i64 noAns.pn, .int .i64 noAns.ad, txt noAns.owner, .slice A2 noAns.list.length c2] 34)))
          have HB2 := Lib.hid (HB.out.trans ((hs2.belB HI.out.1.x.lo).alloc (Nat.le_trans HI.out.1.x.le hs2.size) (.cells #[.int .i64 noAns.pa, .int .i64 noAns.pn, .int .i64 noAns.ad, txt noAns.owner, .slice A2 noAns.list.length c2] 34)))
          clear HO hs2 how2 hnt2 x0 x1 x2 x3 x4 x5 x6
          go_upto_region 15 with fail
          refine wp_name (fun w3 HW => ?_)
          have e3 := HW.out
          have hT3 := HT2.out; have hX3 := HX2.out; have hW3 := HW2.out; have hB3 := HB2.out
          rw [← e3] at hT3 hX3 hW3 hB3
          have HT3 := Lib.hid hT3; have HX3 := Lib.hid hX3; have HW3 := Lib.hid hW3; have HB3 := Lib.hid hB3
          clear HW e3 hT3 hX3 hW3 hB3 HT2 HX2 HW2 HB2 HI HB
          generalize w2.heap.size = b2 at *
          have hox := HT3.out.y.open_h (by omega) zz (by decide)
          rw [HR.out.op] at hox
          simp only [fault_zero0] at hox
          have HO := Lib.hid hox
          clear hox
          go_wp2_with fail
          refine HO.out.mono ?_
          rintro e w4 ⟨rfl, T4, hs4⟩
          have HT4 := Lib.hid (HT3.out.stepY hs4); have HX4 := Lib.hid (HX3.out.stepY hs4); have HW4 := Lib.hid (HW3.out.stepY hs4)
          have HB4 := Lib.hid (HB3.out.trans (hs4.belB HT3.out.y.lo))
          clear HO hs4 HT3 HX3 HW3 HB3
          have x0 := HT4.out.blk.cell 0; have x1 := HT4.out.blk.cell 1; have x2 := HT4.out.blk.cell 2; have x3 := HT4.out.blk.cell 3; have x4 := HT4.out.blk.cell 4; have x5 := HT4.out.blk.cell 5; have x6 := HT4.out.blk.cell 6
          simp at x0 x1 x2 x3 x4 x5 x6
          have hox := HT4.out.y.ask_h (by omega) zz (by decide) c HC.out
          rw [HR.out.ask] at hox
          simp only [faultV_no HNZ.out] at hox
          unfold CallV AnsV at hox
          have HO := Lib.hid hox
          clear hox
          go_wp2_with fail
          refine HO.out.mono ?_
          rintro e w5 ⟨v5, rfl, how5, T5, hnt5, hs5⟩
          obtain ⟨A5, c5, rfl, _⟩ := how5.form
          have HT5 := Lib.hid ((HT4.out.stepY hs5).alloc (.cells #[.int .i64 noAns.pa, .int .i64 noAns.pn, .int .i64 noAns.ad, txt noAns.owner, .slice A5 noAns.list.length c5] 34)); have HX5 := Lib.hid ((HX4.out.stepY hs5).bel ((Below.refl _ _).alloc (Nat.le_refl _) (.cells #[.int .i64 noAns.pa, .int .i64 noAns.pn, .int .i64 noAns.ad, txt noAns.owner, .slice A5 noAns.list.length c5] 34))); have HW5 := Lib.hid ((HW4.out.stepY hs5).bel ((Below.refl _ _).alloc (Nat.le_refl _) (.cells #[.int .i64 noAns.pa, .int .i64 noAns.pn, .int .i64 noAns.ad, txt noAns.owner, .slice A5 noAns.list.length c5] 34)))
          have HZ5 := Lib.hid (Box.new (HT4.out.stepY hs5) 34 #[.int .i64 noAns.pa, .int .i64 noAns.pn, .int .i64 noAns.ad, txt noAns.owner, .slice A5 noAns.list.length c5])
          have HV5 := Lib.hid ((Rw.y HT4.out hs5 how5 hnt5).bel ((Below.refl _ _).alloc (Nat.le_refl _) (.cells #[.int .i64 noAns.pa, .int .i64 noAns.pn, .int .i64 noAns.ad, txt noAns.owner, .slice A5 noAns.list.length c5] 34)))
          have HB5 := Lib.hid (HB4.out.trans ((hs5.belB HT4.out.y.lo).alloc (Nat.le_trans HT4.out.y.le hs5.size) (.cells #[.int .i64 noAns.pa, .int .i64 noAns.pn, .int .i64 noAns.ad, txt noAns.owner, .slice A5 noAns.list.length c5] 34)))
          clear HO hs5 how5 hnt5 x0 x1 x2 x3 x4 x5 x6 HT4 HX4 HW4 HB4
          go_upto_region 18 with fail
          refine wp_name (fun w6 HW => ?_)
          have e6 := HW.out
          have hT6 := HT5.out; have hX6 := HX5.out; have hW6 := HW5.out; have hZ6 := HZ5.out; have hV6 := HV5.out; have hB6 := HB5.out
          rw [← e6] at hT6 hX6 hW6 hZ6 hV6 hB6
          have HT6 := Lib.hid hT6; have HX6 := Lib.hid hX6; have HW6 := Lib.hid hW6; have HZ6 := Lib.hid hZ6; have HV6 := Lib.hid hV6; have HB6 := Lib.hid hB6
          clear HW e6 hT6 hX6 hW6 hZ6 hV6 hB6 HT5 HX5 HW5 HZ5 HV5 HB5
          generalize w5.heap.size = b5 at *
          have hox := HT6.out.y.quit_h (by omega) zz (by decide)
          rw [HR.out.quit] at hox
          simp only [fault_zero0] at hox
          have HO := Lib.hid hox
          clear hox
          go_wp2_with fail
          refine HO.out.mono ?_
          rintro e w7 ⟨rfl, T7, hs7⟩
          have HT7 := Lib.hid (HT6.out.stepY hs7); have HX7 := Lib.hid (HX6.out.stepY hs7); have HW7 := Lib.hid (HW6.out.stepY hs7); have HZ7 := Lib.hid (HZ6.out.stepY hs7); have HV7 := Lib.hid (HV6.out.stepY hs7)
          have HB7 := Lib.hid (HB6.out.trans (hs7.belB HT6.out.y.lo))
          clear HO hs7 HT6 HX6 HW6 HZ6 HV6 HB6
          have hlen : noAns.list.length ≤ maxLen := own_len HV7.out.own
          have hox := answers_same noAns A2 A5 c2 c5 hlen w7 HW7.out.rd.2 HV7.out.rd.2
          unfold AnsV at hox
          have HO := Lib.hid hox
          have x0 := HX7.out.blk.cell 0; have x1 := HX7.out.blk.cell 1; have x2 := HX7.out.blk.cell 2; have x3 := HX7.out.blk.cell 3; have x4 := HX7.out.blk.cell 4
          have z0 := HZ7.out.blk.cell 0; have z1 := HZ7.out.blk.cell 1; have z2 := HZ7.out.blk.cell 2; have z3 := HZ7.out.blk.cell 3; have z4 := HZ7.out.blk.cell 4
          simp at x0 x1 x2 x3 x4 z0 z1 z2 z3 z4
          clear hox hlen
          go_wp2_with fail
          refine HO.out.mono ?_
          rintro e w8 ⟨rfl, hb8⟩
          have HT8 := Lib.hid (HT7.out.bel hb8)
          have HB8 := Lib.hid (HB7.out.trans (hb8.mono HB7.out.size))
          clear HO hb8 x0 x1 x2 x3 x4 z0 z1 z2 z3 z4 HT7 HX7 HW7 HZ7 HV7 HB7
          have HO := Lib.hid (HT8.out.x.all_h (by omega))
          go_wp2_with fail
          refine HO.out.mono ?_
          rintro e w9 ⟨v9, L9, rfl, ho9, hr9, hn9, hb9⟩
          obtain ⟨A9, c9, rfl, _⟩ := ho9.rd
          have HT9 := Lib.hid (HT8.out.bel hb9)
          have HB9 := Lib.hid (HB8.out.trans (hb9.mono HB8.out.size))
          have HL9 := Lib.hid ho9
          have HR9 := Lib.hid hr9
          clear HO ho9 hr9 hb9 HT8 HB8
          have HO := Lib.hid (HT9.out.y.all_h (by omega))
          go_wp2_with fail
          refine HO.out.mono ?_
          rintro e w10 ⟨v10, L10, rfl, ho10, hr10, hn10, hb10⟩
          obtain rfl := rangeIs_uniq hr10 HR9.out
          obtain ⟨A10, c10, rfl, hrd10⟩ := ho10.rd
          have hrd9 := rd_of' (own_below HL9.out hb10)
          have HB10 := Lib.hid (HB9.out.trans (hb10.mono HB9.out.size))
          have HS10 := Lib.hid (pairs_same A9 A10 L10 c9 c10 (by unfold maxLen; omega) w10 hrd9 hrd10)
          clear HO ho10 hr10 hn10 hb10 hrd10 hrd9 HL9 HR9 HT9 HB9 hn9
          go_wp2_with fail
          refine HS10.out.mono ?_
          rintro e w11 ⟨rfl, hb11⟩
          have HB11 := Lib.hid (HB10.out.trans (hb11.mono HB10.out.size))
          clear HS10 hb11 HB10
          go_wp2
          go_region
          go_wp2
          go_ret
          exact ⟨rfl, HB11.out.drew⟩

end Go.Proofs.YthleniobcbdepaaGreatDoor
