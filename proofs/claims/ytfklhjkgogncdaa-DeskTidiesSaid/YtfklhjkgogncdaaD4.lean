/- Texts joined: XVers1, XVers2, XVers3, XVers4, XPair, XSamePr. Each says at its head what it proves; conditions: as said there. -/
import Derived.Test.YtfklhjkgogncdaaProg
import Derived.Test.YtfklhjkgogncdaaD3
import Derived.Test.YtfklhjkgogncdaaD7
import Derived.WalkKit
import Derived.WalkLawsBesides
import Derived.WalkSpells
import Derived.Deep.QuietTactic
import Derived.BigQuiet
/- Contracts of package vers: New, Key, number, find. -/
namespace Go.Proofs.Ytfklhjkgogncdaa
set_option linter.unusedVariables false
set_option linter.unusedSimpArgs false
set_option maxRecDepth 100000
open Go.RowKit

theorem strKey : Maps.Keyed Try.prog 9 := Maps.string_keyed Try.underlying9
theorem txt_key (s : List UInt8) (h : s.length ≤ maxLen) : ∃ kl, keyOf Try.prog 9 (txt s) = some kl := ⟨_, WideMaps.keyOf_string_mk Try.underlying9 (by simpa [ByteArray.size] using h)⟩

theorem new_any (w : World) : Calls Try.prog 23 #[] w fun e w' => ∃ t, e = .returned (.pointer (some ⟨t, 0, none⟩)) ∧ w.heap.size ≤ t ∧ Blk w' t 99 #[.map (some w.heap.size), .int .i64 0] ∧
    TabAt w' Try.prog 9 116 (fun g => w.heap.size ≤ g) w.heap.size #[] 0 (fun _ => []) ∧ t ≠ w.heap.size ∧ Below w.heap.size w w' := by
  have hmk := run_makeMap (P := Try.prog) 97 w
  go_enter Try.func23, Try.ntmps23
  go_wp2
  go_ret
  refine ⟨w.heap.size + 1, rfl, by omega, ?_, (TabAt.new w (Nat.le_refl _)).alloc _, by omega, ((Below.refl _ _).alloc (Nat.le_refl _) _).alloc (by simp) _⟩
  have := heap_alloc_new (w.alloc (.map #[] 0)) (.cells #[.map (some w.heap.size), .int .i64 0] 99)
  rw [World.size_alloc] at this
  exact this

def keyB (s : List UInt8) : Bool := decide (s ≠ []) && decide (s.length ≤ 24)
theorem key_any (s : List UInt8) (hs : s.length ≤ maxLen) (w : World) : Calls Try.prog 33 #[txt s] w fun e w' => e = .returned (.bool (keyB s)) ∧ w' = w := by
  by_cases h : s = []
  · subst h
    go_enter Try.func33, Try.ntmps33
    go_wp2
    go_ret
    exact ⟨by rfl, rfl⟩
  · go_enter Try.func33, Try.ntmps33
    go_wp2
    go_ret
    refine ⟨?_, rfl⟩
    show Ending.returned (.bool (!s.isEmpty && decide ((s.length : Int) ≤ 24))) = _
    congr 2
    rw [Bool.eq_iff_iff]
    simp [keyB, List.isEmpty_iff]
    omega

def numB (n : Int) : Bool := decide (0 ≤ n) && decide (n ≤ 1000000)
theorem number_any (n : Int) (w : World) : Calls Try.prog 55 #[.int .i64 n] w fun e w' => e = .returned (.bool (numB n)) ∧ w' = w := by
  by_cases h : 0 ≤ n
  · go_enter Try.func55, Try.ntmps55
    go_wp2
    go_ret
    exact ⟨by simp [numB, h], rfl⟩
  · go_enter Try.func55, Try.ntmps55
    go_wp2
    go_ret
    exact ⟨by simp [numB]; omega, rfl⟩

/-- How many of the first m versions there are up to the last that is not behind a number. -/
def fnd (l : List Ver) (n : Int) : Nat → Nat
  | 0 => 0
  | m + 1 => match l[m]? with
    | some v => if n < v.n then fnd l n m else m + 1
    | none => fnd l n m
theorem fnd_step {l : List Ver} {n : Int} {m : Nat} (h : m < l.length) : fnd l n (m + 1) = if n < l[m].n then fnd l n m else m + 1 := by
  rw [fnd, List.getElem?_eq_getElem h]
theorem fnd_le (l : List Ver) (n : Int) : ∀ m, fnd l n m ≤ m
  | 0 => Nat.le_refl _
  | m + 1 => by
    have := fnd_le l n m
    rw [fnd]
    split
    · split <;> omega
    · omega
theorem find_any (A : Option Addr) (l : List Ver) (c : Nat) (n : Int) (hlen : l.length ≤ 1000000) (w : World) (hl : Rd w w.heap.size A (cellsV l)) :
    Calls Try.prog 56 #[.slice A l.length c, .int .i64 n] w fun e w' => e = .returned (.int .i64 ((fnd l n l.length : Int) - 1)) ∧ w' = w := by
  go_enter Try.func56, Try.ntmps56
  go_wp2
  go_loopw [5] (fun k wr => wr = w ∧ ∃ m : Nat, m ≤ l.length ∧ k = .int .i64 ((m : Int) - 1) ∧ fnd l n l.length = fnd l n m) (fun k _ => (intOf k + 1).toNat)
  case atStart => exact ⟨rfl, l.length, Nat.le_refl _, by go_num, rfl⟩
  case round =>
    obtain ⟨rfl, m, hm, rfl, hg⟩ := hrel
    cases m with
    | zero =>
      have HG := Lib.hid (show fnd l n l.length = 0 by rw [hg]; rfl)
      clear hg
      go_wp2
      go_ret
      exact ⟨by rw [HG.out]; rfl, rfl⟩
    | succ m =>
      obtain ⟨b, off, rfl, hbb, c0, c1, c2⟩ := hl.ver (show m < l.length by omega)
      have hstep := fnd_step (n := n) (show m < l.length by omega)
      have e0 : (((m + 1 : Nat) : Int) - 1) = (m : Int) := by omega
      rw [e0]
      by_cases hf : n < l[m].n
      · have HG := Lib.hid (show fnd l n l.length = fnd l n m by rw [hg, hstep, if_pos hf])
        clear hg hstep
        go_wp2
        go_roundw
        case rel => exact ⟨trivial, m, by omega, rfl, HG.out⟩
        case measure => simp [intOf]
      · have HG := Lib.hid (show fnd l n l.length = m + 1 by rw [hg, hstep, if_neg hf])
        clear hg hstep
        go_wp2
        go_ret
        exact ⟨by rw [HG.out, e0]; rfl, rfl⟩
end Go.Proofs.Ytfklhjkgogncdaa

/- A table of versions in memory; contract of Get. -/
namespace Go.Proofs.Ytfklhjkgogncdaa
set_option linter.unusedVariables false
set_option linter.unusedSimpArgs false
set_option maxRecDepth 100000
open Go.RowKit

/-- Versions as they may be: rising, none behind top; n bounds how many. -/
structure Good (F : List UInt8 → List Ver) (top : Int) (n : Nat) : Prop where
  len : ∀ s, (F s).length ≤ n
  num : ∀ s, ∀ v ∈ F s, 1 ≤ v.n ∧ v.n ≤ top ∧ v.val.length ≤ 12
  key : ∀ s, F s ≠ [] → s ≠ [] ∧ s.length ≤ 24
  rise : ∀ s, (F s).Pairwise (fun x y => x.n < y.n)
  top0 : 0 ≤ top ∧ top ≤ 1000000
theorem Good.new : Good (fun _ => []) 0 0 := ⟨by simp, by simp, by simp, by simp, by omega⟩
/-- A table. -/
structure TblAt (w : World) (S : Nat → Prop) (t : Nat) (F : List UInt8 → List Ver) (top : Int) (n : Nat) : Prop where
  tab : ∃ b es clock, Blk w t 99 #[.map (some b), .int .i64 top] ∧ TabAt w Try.prog 9 116 S b es clock F ∧ es.size ≤ n
  ht : S t
  good : Good F top n
def faultV (k : Int) : Value := if k = 0 then .nilIface else .iface 61 (.int .i64 k)
/-- What is told of a key at a number. -/
def tell (F : List UInt8 → List Ver) (s : List UInt8) (n : Int) : Option (List UInt8) := match fnd (F s) n (F s).length with
  | 0 => none
  | k + 1 => match (F s)[k]? with
    | some v => if v.gone then none else some v.val
    | none => none
def getV (F : List UInt8 → List Ver) (s : List UInt8) (n : Int) : List UInt8 × Int := if numB n then match tell F s n with
    | some v => (v, 0)
    | none => ([], 4)
  else ([], 1)
theorem zeroRow (w : World) : (zeroValue 113).run Try.prog w = .ok (.slice none 0 0) w := by kernel_rfl

theorem get_any (t : Nat) (F : List UInt8 → List Ver) (top : Int) (m : Nat) (S : Nat → Prop) (s : List UInt8) (hs : s.length ≤ maxLen) (n : Int) (hm : m ≤ 1000000) (w : World) (hT : TblAt w S t F top m) :
    Calls Try.prog 35 #[.pointer (some ⟨t, 0, none⟩), txt s, .int .i64 n] w fun e w' => e = .returned (.tuple #[txt (getV F s n).1, faultV (getV F s n).2]) ∧ w' = w := by
  obtain ⟨⟨b, es, clock, hB, hM, hn⟩, ht, hg⟩ := hT
  obtain ⟨kl, hkl⟩ := txt_key s hs
  have hx := hB.cell 0
  simp at hx
  have hlen := hg.len s
  by_cases h0 : numB n = true
  · rcases hM.map.look strKey Try.underlying97 (zeroRow w) hkl false with ⟨h1, hrun⟩ | ⟨v, h1, hrun⟩
    · have hF := hM.none h1
      have hR := Lib.hid (show getV F s n = ([], 4) by simp [getV, h0, tell, hF, fnd])
      have hf := find_any none [] 0 n (by simp) w (by intro h; simp [cellsV] at h)
      simp only [List.length_nil, fnd] at hf
      simp only [Bool.false_eq_true, if_false] at hrun
      have hnum := number_any n w
      rw [h0] at hnum
      have HF := Lib.hid hf
      have HN := Lib.hid hnum
      clear hf hnum
      go_enter Try.func35, Try.ntmps35
      go_wp2_with fail
      refine HN.out.mono ?_
      rintro e w1 ⟨rfl, rfl⟩
      go_wp2_with fail
      refine HF.out.mono ?_
      rintro e w1 ⟨rfl, rfl⟩
      go_wp2
      go_ret2
      exact ⟨by rw [hR.out]; rfl, rfl⟩
    · obtain ⟨hne, hrow⟩ := hM.rows s v h1
      obtain ⟨A, c, rfl, hrd⟩ := own_form hrow
      have hf := find_any A (F s) c n (by omega) w hrd
      have hnum := number_any n w
      rw [h0] at hnum
      have HN := Lib.hid hnum
      clear hnum
      simp only [Bool.false_eq_true, if_false] at hrun
      generalize hk : fnd (F s) n (F s).length = k at hf
      have hkle := fnd_le (F s) n (F s).length
      rw [hk] at hkle
      cases k with
      | zero =>
        have hR := Lib.hid (show getV F s n = ([], 4) by simp [getV, h0, tell, hk])
        have HF := Lib.hid hf
        clear hf
        go_enter Try.func35, Try.ntmps35
        go_wp2_with fail
        refine HN.out.mono ?_
        rintro e w1 ⟨rfl, rfl⟩
        go_wp2_with fail
        refine HF.out.mono ?_
        rintro e w1 ⟨rfl, rfl⟩
        go_wp2
        go_ret2
        exact ⟨by rw [hR.out]; rfl, rfl⟩
      | succ k =>
        have hkl' : k < (F s).length := by omega
        obtain ⟨g, off, rfl, hgb, c0, c1, c2⟩ := hrd.ver hkl'
        have e0 : (((k + 1 : Nat) : Int) - 1) = (k : Int) := by omega
        rw [e0] at hf
        have HF := Lib.hid hf
        clear hf
        have hR0 : getV F s n = if (F s)[k].gone then ([], 4) else ((F s)[k].val, 0) := by
          simp only [getV, h0, tell, hk, List.getElem?_eq_getElem hkl', if_true]
          split <;> simp_all
        by_cases hgone : (F s)[k].gone = true
        · have hR := Lib.hid (show getV F s n = ([], 4) by rw [hR0, if_pos hgone])
          rw [hgone] at c2
          go_enter Try.func35, Try.ntmps35
          go_wp2_with fail
          refine HN.out.mono ?_
          rintro e w1 ⟨rfl, rfl⟩
          go_wp2_with fail
          refine HF.out.mono ?_
          rintro e w1 ⟨rfl, rfl⟩
          go_wp2
          go_ret2
          exact ⟨by rw [hR.out]; rfl, rfl⟩
        · have hR := Lib.hid (show getV F s n = ((F s)[k].val, 0) by rw [hR0, if_neg hgone])
          rw [Bool.not_eq_true] at hgone
          rw [hgone] at c2
          go_enter Try.func35, Try.ntmps35
          go_wp2_with fail
          refine HN.out.mono ?_
          rintro e w1 ⟨rfl, rfl⟩
          go_wp2_with fail
          refine HF.out.mono ?_
          rintro e w1 ⟨rfl, rfl⟩
          go_wp2
          go_ret2
          exact ⟨by rw [hR.out]; rfl, rfl⟩
  · rw [Bool.not_eq_true] at h0
    have hR := Lib.hid (show getV F s n = ([], 1) by simp [getV, h0])
    have hnum := number_any n w
    rw [h0] at hnum
    go_enter Try.func35, Try.ntmps35
    go_wp2_with fail
    refine hnum.mono ?_
    rintro e w1 ⟨rfl, rfl⟩
    go_wp2
    go_ret2
    exact ⟨by rw [hR.out]; rfl, rfl⟩
end Go.Proofs.Ytfklhjkgogncdaa

/- Contract of put: the faults. -/
namespace Go.Proofs.Ytfklhjkgogncdaa
set_option linter.unusedVariables false
set_option linter.unusedSimpArgs false
set_option maxRecDepth 100000
open Go.RowKit

def putE (s : List UInt8) (v : Ver) (top : Int) : Int := if keyB s = false ∨ 12 < v.val.length then 2 else if v.n < 1 ∨ 1000000 < v.n then 1 else if v.n < top then 7 else 0
def addV (l : List Ver) (v : Ver) : List Ver := match l.getLast? with
  | some u => if u.n = v.n then l.dropLast ++ [v] else l ++ [v]
  | none => [v]
def putV (F : List UInt8 → List Ver) (s : List UInt8) (v : Ver) : List UInt8 → List Ver := upd F s (addV (F s) v)
abbrev verV (v : Ver) : Value := .agg #[.int .i64 v.n, txt v.val, .bool v.gone]

theorem put_bad (t : Nat) (k : Value) (top : Int) (s : List UInt8) (hs : s.length ≤ maxLen) (v : Ver) (hv : v.val.length ≤ maxLen) (w : World) (hB : Blk w t 99 #[k, .int .i64 top]) (hp : putE s v top ≠ 0) :
    Calls Try.prog 79 #[.pointer (some ⟨t, 0, none⟩), txt s, verV v] w fun e w' => e = .returned (faultV (putE s v top)) ∧ Below w.heap.size w w' := by
  have hBk := Blk.new w 116 #[.int .i64 v.n, txt v.val, .bool v.gone]
  have hb0 : Below w.heap.size w (w.alloc (.cells #[.int .i64 v.n, txt v.val, .bool v.gone] 116)) := (Below.refl _ _).alloc (Nat.le_refl _) _
  have hB1 := hB.below hb0 hB.lt
  have hK := fun W => key_any s hs W
  by_cases h1 : keyB s = false
  · have hR := Lib.hid (show putE s v top = 2 by unfold putE; rw [if_pos (.inl h1)])
    rw [h1] at hK
    have HK := Lib.hid hK
    clear hK
    go_enter Try.func79, Try.ntmps79
    go_wp2_with fail
    refine (HK.out _).mono ?_
    rintro e w1 ⟨rfl, rfl⟩
    go_wp2
    go_ret
    exact ⟨by rw [hR.out]; rfl, hb0⟩
  · rw [Bool.not_eq_false] at h1
    rw [h1] at hK
    have HK := Lib.hid hK
    clear hK
    by_cases h2 : 12 < v.val.length
    · have hR := Lib.hid (show putE s v top = 2 by unfold putE; rw [if_pos (.inr h2)])
      go_enter Try.func79, Try.ntmps79
      go_wp2_with fail
      refine (HK.out _).mono ?_
      rintro e w1 ⟨rfl, rfl⟩
      go_wp2
      go_ret
      exact ⟨by rw [hR.out]; rfl, hb0⟩
    · have hE : putE s v top = if v.n < 1 ∨ 1000000 < v.n then 1 else if v.n < top then 7 else 0 := by unfold putE; rw [if_neg (by simp [h1, h2])]
      by_cases h3 : v.n < 1
      · have hR := Lib.hid (show putE s v top = 1 by rw [hE, if_pos (.inl h3)])
        clear hE hp
        go_enter Try.func79, Try.ntmps79
        go_wp2_with fail
        refine (HK.out _).mono ?_
        rintro e w1 ⟨rfl, rfl⟩
        go_wp2
        go_ret
        exact ⟨by rw [hR.out]; rfl, hb0⟩
      · by_cases h4 : 1000000 < v.n
        · have hR := Lib.hid (show putE s v top = 1 by rw [hE, if_pos (.inr h4)])
          clear hE hp
          go_enter Try.func79, Try.ntmps79
          go_wp2_with fail
          refine (HK.out _).mono ?_
          rintro e w1 ⟨rfl, rfl⟩
          go_wp2
          go_ret
          exact ⟨by rw [hR.out]; rfl, hb0⟩
        · have h5 : v.n < top := by
            rw [hE, if_neg (by omega)] at hp
            by_cases h : v.n < top
            · exact h
            · rw [if_neg h] at hp; exact absurd rfl hp
          have hR := Lib.hid (show putE s v top = 7 by rw [hE, if_neg (by omega), if_pos h5])
          clear hE hp
          have x0 := hBk.cell 0
          have x1 := hBk.cell 1
          have y1 := hB1.cell 1
          simp at x0 x1 y1
          go_enter Try.func79, Try.ntmps79
          go_wp2_with fail
          refine (HK.out _).mono ?_
          rintro e w1 ⟨rfl, rfl⟩
          go_wp2_with fail
          go_quiet (fail)
          go_wp2
          go_ret
          exact ⟨by rw [hR.out]; rfl, by first | exact hb0 | exact ⟨hb0.os, hb0.tape, hb0.output, hb0.size, hb0.block⟩⟩
end Go.Proofs.Ytfklhjkgogncdaa

/- Contract of put: a version more. -/
namespace Go.Proofs.Ytfklhjkgogncdaa
set_option linter.unusedVariables false
set_option linter.unusedSimpArgs false
set_option maxRecDepth 100000
open Go.RowKit

theorem infoVer : (Try.prog.info? 116).map (fun i => (i.zero, i.size, i.bytes)) = some (some (.agg #[.int .i64 0, .string ⟨#[]⟩, .bool false]), 3, 32) := by kernel_rfl
theorem putE_zero {s : List UInt8} {v : Ver} {top : Int} (h : putE s v top = 0) : keyB s = true ∧ v.val.length ≤ 12 ∧ 1 ≤ v.n ∧ v.n ≤ 1000000 ∧ top ≤ v.n := by
  unfold putE at h
  split at h
  · simp at h
  · rename_i h1
    split at h
    · simp at h
    · split at h
      · simp at h
      · cases hk : keyB s with
        | false => exact absurd (.inl hk) h1
        | true =>
          have : ¬ 12 < v.val.length := fun h => h1 (.inr h)
          exact ⟨rfl, by omega, by omega, by omega, by omega⟩
theorem addV_mem {l : List Ver} {v x : Ver} (h : x ∈ addV l v) : x = v ∨ x ∈ l := by
  unfold addV at h
  split at h
  · split at h
    · rcases List.mem_append.1 h with h | h
      · exact .inr ((List.dropLast_sublist l).subset h)
      · exact .inl (by simpa using h)
    · rcases List.mem_append.1 h with h | h
      · exact .inr h
      · exact .inl (by simpa using h)
  · exact .inl (by simpa using h)
theorem addV_len (l : List Ver) (v : Ver) : (addV l v).length ≤ l.length + 1 := by
  unfold addV
  split
  · split
    · simp
    · simp
  · simp
theorem addV_ne (l : List Ver) (v : Ver) : addV l v ≠ [] := by
  unfold addV
  split
  · split <;> simp
  · simp
theorem addV_rise {l : List Ver} {v : Ver} (h : l.Pairwise (fun x y => x.n < y.n)) (hv : ∀ x ∈ l, x.n ≤ v.n) : (addV l v).Pairwise (fun x y => x.n < y.n) := by
  unfold addV
  split
  · rename_i u hu
    have hl : l = l.dropLast ++ [u] := by
      obtain ⟨ys, rfl⟩ := List.getLast?_eq_some_iff.1 hu
      simp
    rw [hl, List.pairwise_append] at h
    split
    · rename_i he
      rw [List.pairwise_append]
      refine ⟨h.1, by simp, ?_⟩
      intro x hx y hy
      simp at hy
      subst hy
      have := h.2.2 x hx u (by simp)
      omega
    · rename_i he
      rw [List.pairwise_append]
      refine ⟨by rw [hl, List.pairwise_append]; exact h, by simp, ?_⟩
      intro x hx y hy
      simp at hy
      subst hy
      have hu2 := hv u (by rw [hl]; simp)
      rw [hl] at hx
      rcases List.mem_append.1 hx with hx | hx
      · have := h.2.2 x hx u (by simp)
        omega
      · simp at hx
        subst hx
        omega
  · simp
theorem Good.put {F : List UInt8 → List Ver} {top : Int} {m : Nat} {s : List UInt8} {v : Ver} (h : Good F top m) (hp : putE s v top = 0) : Good (putV F s v) v.n (m + 1) := by
  obtain ⟨p1, p2, p3, p4, p5⟩ := putE_zero hp
  unfold putV
  refine ⟨?_, ?_, ?_, ?_, by omega⟩
  · intro x
    by_cases hx : x = s
    · subst hx
      rw [upd_same]
      have := addV_len (F x) v
      have := h.len x
      omega
    · rw [upd_other _ _ hx]
      have := h.len x
      omega
  · intro x y hy
    by_cases hx : x = s
    · subst hx
      rw [upd_same] at hy
      rcases addV_mem hy with rfl | hy
      · exact ⟨p3, Int.le_refl _, p2⟩
      · have := h.num x y hy
        omega
    · rw [upd_other _ _ hx] at hy
      have := h.num x y hy
      omega
  · intro x hx
    by_cases hxs : x = s
    · subst hxs
      unfold keyB at p1
      simp at p1
      exact p1
    · rw [upd_other _ _ hxs] at hx
      exact h.key x hx
  · intro x
    by_cases hx : x = s
    · subst hx
      rw [upd_same]
      exact addV_rise (h.rise x) (fun y hy => by have := h.num x y hy; omega)
    · rw [upd_other _ _ hx]
      exact h.rise x
end Go.Proofs.Ytfklhjkgogncdaa

/- Rows of pairs in memory; what a range of a table tells: plain mathematics. No conditions. -/
namespace Go.Proofs.Ytfklhjkgogncdaa
set_option linter.unusedVariables false
set_option linter.unusedSimpArgs false
open Go.RowKit

def encKV (p : KV) : List Value := [txt p.1, txt p.2]
theorem encKV_len (p : KV) : (encKV p).length = 2 := rfl
theorem encKV_one (p : KV) : ∀ u ∈ encKV p, u.oneCell' = true := by
  intro u hu
  simp [encKV] at hu
  rcases hu with rfl | rfl <;> rfl
theorem infoKV : (Try.prog.info? 41).map (fun i => (i.zero, i.size, i.bytes)) = some (some (.agg #[.string ⟨#[]⟩, .string ⟨#[]⟩]), 2, 32) := by kernel_rfl
/-- A slice value owns a list of pairs. -/
def OwnKV (w : World) (base : Nat) (v : Value) (l : List KV) : Prop := w.ownsRow base 41 2 v l.length (flatE encKV l)
theorem OwnKV.nil (w : World) (base : Nat) : OwnKV w base (.slice none 0 0) [] := World.ownsRow_nil _ _ _ _
theorem OwnKV.rd {w : World} {base : Nat} {v : Value} {l : List KV} (h : OwnKV w base v l) : ∃ A c, v = .slice A l.length c ∧ Rd w w.heap.size A (flatE encKV l) := own_form h
/-- Pair number k of a slice. -/
theorem Rd.kv {w : World} {B : Nat} {A : Option Addr} {l : List KV} (h : Rd w B A (flatE encKV l)) {k : Nat} (hk : k < l.length) :
    ∃ b off, A = some ⟨b, off, none⟩ ∧ b < B ∧ w.cell? ⟨b, off + k * 2, none⟩ = some (txt l[k].1) ∧ w.cell? ⟨b, off + k * 2 + 1, none⟩ = some (txt l[k].2) := by
  obtain ⟨b, off, e, hb, hc⟩ := Rd.elt encKV_len h hk (by decide)
  exact ⟨b, off, e, hb, hc 0 _ rfl, hc 1 _ rfl⟩

/-- Between. -/
def inB (lo hi s : List UInt8) : Bool := !lessB s lo && lessB s hi
/-- What a range of a table tells. -/
structure RangeIs (F : List UInt8 → List Ver) (lo hi : List UInt8) (n : Int) (L : List KV) : Prop where
  rise : Rise Prod.fst L
  mem : ∀ s v, (s, v) ∈ L ↔ inB lo hi s = true ∧ tell F s n = some v
theorem RangeIs.ext {F F' : List UInt8 → List Ver} {lo hi : List UInt8} {n n' : Int} {L L' : List KV} (h : RangeIs F lo hi n L) (h' : RangeIs F' lo hi n' L') (e : ∀ s, inB lo hi s = true → tell F s n = tell F' s n') : L = L' := by
  refine Rise.ext h.rise h'.rise (fun x => ?_)
  obtain ⟨s, v⟩ := x
  rw [h.mem, h'.mem]
  constructor
  · rintro ⟨h1, h2⟩
    exact ⟨h1, by rw [← e s h1]; exact h2⟩
  · rintro ⟨h1, h2⟩
    exact ⟨h1, by rw [e s h1]; exact h2⟩
theorem tell_nil {F : List UInt8 → List Ver} {s : List UInt8} {n : Int} (h : F s = []) : tell F s n = none := by simp [tell, h, fnd]

/-- What has been collected while 'left' is still to come. -/
structure RngRel (F : List UInt8 → List Ver) (lo hi : List UInt8) (n : Int) (es : Array MapEntry) (left : List MapEntry) (out : List KV) : Prop where
  nodup : (out.map Prod.fst).Nodup
  mem : ∀ s v, (s, v) ∈ out ↔ inB lo hi s = true ∧ tell F s n = some v ∧ ∀ x ∈ left, x.key ≠ txt s
  len : out.length + left.length ≤ es.size
section
variable {F : List UInt8 → List Ver} {lo hi : List UInt8} {n : Int} {es : Array MapEntry} {left left' : List MapEntry} {out : List KV}
theorem RngRel.start (ht : ∀ s, F s ≠ [] → ∃ v, Has es (txt s) v) : RngRel F lo hi n es es.toList [] := by
  refine ⟨by simp, fun s v => ⟨fun h => by simp at h, fun ⟨_, h2, h3⟩ => ?_⟩, by simp⟩
  by_cases h : F s = []
  · rw [tell_nil h] at h2
    cases h2
  · obtain ⟨v, x, hx, hk, _⟩ := ht s h
    exact absurd hk (h3 x hx)
theorem RngRel.skip (h : RngRel F lo hi n es left out) {e : MapEntry} {s : List UInt8} (hp : List.Perm left (e :: left')) (hs : e.key = txt s) (hno : inB lo hi s = true → tell F s n = none) : RngRel F lo hi n es left' out := by
  refine ⟨h.nodup, fun s' v => ?_, by have := h.len; have := hp.length_eq; simp at this; omega⟩
  rw [h.mem]
  constructor
  · rintro ⟨h1, h2, h3⟩
    exact ⟨h1, h2, fun x hx => h3 x (hp.mem_iff.2 (List.mem_cons_of_mem _ hx))⟩
  · rintro ⟨h1, h2, h3⟩
    refine ⟨h1, h2, fun x hx => ?_⟩
    rcases List.mem_cons.1 (hp.mem_iff.1 hx) with rfl | hx
    · intro e2
      rw [hs] at e2
      have := txt_inj e2
      subst this
      rw [hno h1] at h2
      cases h2
    · exact h3 x hx
theorem RngRel.add (h : RngRel F lo hi n es left out) {e : MapEntry} {s v : List UInt8} (hp : List.Perm left (e :: left')) (hs : e.key = txt s) (hin : inB lo hi s = true) (hv : tell F s n = some v) (hl : ∀ x ∈ left', x.key ≠ e.key) :
    RngRel F lo hi n es left' (out ++ [(s, v)]) := by
  refine ⟨?_, fun s' v' => ?_, by have := h.len; have := hp.length_eq; simp at this ⊢; omega⟩
  · rw [List.map_append, List.nodup_append]
    refine ⟨h.nodup, by simp, ?_⟩
    intro a ha b hb
    simp at hb
    subst hb
    intro e2
    subst e2
    obtain ⟨⟨s1, v1⟩, h1, h2⟩ := List.mem_map.1 ha
    simp only at h2
    subst h2
    exact ((h.mem _ _).1 h1).2.2 e (hp.mem_iff.2 List.mem_cons_self) hs
  · rw [List.mem_append, List.mem_singleton, h.mem]
    constructor
    · rintro (⟨h1, h2, h3⟩ | h1)
      · exact ⟨h1, h2, fun x hx => h3 x (hp.mem_iff.2 (List.mem_cons_of_mem _ hx))⟩
      · injection h1 with h1 h2
        subst h1
        subst h2
        exact ⟨hin, hv, fun x hx => by rw [← hs]; exact hl x hx⟩
    · rintro ⟨h1, h2, h3⟩
      by_cases e2 : s' = s
      · subst e2
        rw [hv] at h2
        injection h2 with h2
        exact .inr (by rw [h2])
      · refine .inl ⟨h1, h2, fun x hx => ?_⟩
        rcases List.mem_cons.1 (hp.mem_iff.1 hx) with rfl | hx
        · intro e3
          rw [hs] at e3
          exact e2 (txt_inj e3).symm
        · exact h3 x hx
theorem RngRel.done (h : RngRel F lo hi n es [] out) {L : List KV} (hp : L.Perm out) (hs : L.Pairwise (fun x y => lessB y.1 x.1 = false)) : RangeIs F lo hi n L := by
  refine ⟨Rise.of_sorted hs ((hp.map _).nodup_iff.2 h.nodup), fun s v => ?_⟩
  rw [hp.mem_iff, h.mem]
  simp
end
end Go.Proofs.Ytfklhjkgogncdaa

/- burgagesame.Pairs at two lists that are the same, wherever they lie. No conditions. -/
namespace Go.Proofs.Ytfklhjkgogncdaa
set_option linter.unusedVariables false
set_option linter.unusedSimpArgs false
open Go.RowKit

set_option maxRecDepth 100000 in
set_option maxHeartbeats 1600000 in
theorem pairs_same (A B : Option Addr) (a : List KV) (c d : Nat) (hm : a.length ≤ maxLen) (w : World) (hl : Rd w w.heap.size A (flatE encKV a)) (hr : Rd w w.heap.size B (flatE encKV a)) :
    Calls Try.prog 19 #[.slice A a.length c, .slice B a.length d] w fun e w' => e = .returned (.bool true) ∧ Below w.heap.size w w' := by
  unfold maxLen at hm
  go_enter Try.func19, Try.ntmps19
  go_wp2
  go_loopw [5] (fun vi wr => ∃ k : Nat, k ≤ a.length ∧ vi = .int .i64 k ∧ Below w.heap.size w wr) (fun vi _ => a.length - (intOf vi).toNat)
  case atStart => exact ⟨0, Nat.zero_le _, rfl, Below.refl _ _⟩
  case round =>
    obtain ⟨k, hk, rfl, hb⟩ := hrel
    by_cases hlt : k < a.length
    · obtain ⟨ba, oa, rfl, hba, c0, c1⟩ := (hl.below hb).kv hlt
      obtain ⟨bb, ob, rfl, hbb, d0, d1⟩ := (hr.below hb).kv hlt
      have hs := hb.size
      have k0 : ∀ x : BelW wr.heap.size wr, x.1.cell? ⟨ba, oa + k * 2, none⟩ = some (txt a[k].1) := BelW.cell c0 (by simp; omega)
      have k1 : ∀ x : BelW wr.heap.size wr, x.1.cell? ⟨ba, oa + k * 2 + 1, none⟩ = some (txt a[k].2) := BelW.cell c1 (by simp; omega)
      have k3 : ∀ x : BelW wr.heap.size wr, x.1.cell? ⟨bb, ob + k * 2, none⟩ = some (txt a[k].1) := BelW.cell d0 (by simp; omega)
      have k4 : ∀ x : BelW wr.heap.size wr, x.1.cell? ⟨bb, ob + k * 2 + 1, none⟩ = some (txt a[k].2) := BelW.cell d1 (by simp; omega)
      have hk0 : (0 : Int) ≤ (k : Int) := by omega
      have hk1 : (k : Int) < (a.length : Int) := by omega
      clear c0 c1 d0 d1
      go_wp2_with fail
      refine wp_region_bel wr.heap.size wr (by kernel_rfl) (by kernel_rfl) (Below.refl _ _) ?_
      repeat (go_big_quiet_step (fail))
      refine wpQuiet_nil ?_
      intro w2 hb2
      clear k0 k1 k3 k4
      go_wp2
      go_roundw
      case rel => exact ⟨k + 1, by omega, by go_num, hb.trans (hb2.mono hs)⟩
      case measure => simp [intOf]; omega
    · obtain rfl : k = a.length := by omega
      go_wp2
      go_ret
      exact ⟨rfl, hb⟩

end Go.Proofs.Ytfklhjkgogncdaa
