/- addr.Parse: any text as an address. Conditions: the library's bound on a text's length; its variables as TxtV says. -/
import Derived.Test.YtfeeilpkfjfnaaaGreatDoorAddrT1
namespace Go.Proofs.YtfeeilpkfjfnaaaGreatDoor
set_option linter.unusedVariables false
set_option linter.unusedSimpArgs false
open Go.RowKit

/-- The numbers of some texts, one behind the other. -/
def foldA : Nat → List (List UInt8) → Option Nat
  | a, [] => some a
  | a, p :: ps => match smallM 255 p with
    | some n => foldA (a * 256 + n) ps
    | none => none
theorem addrW_fold (ps : List (List UInt8)) : addrW ps = if ps.length = 4 then foldA 0 ps else none := by
  match ps with
  | [] => rfl
  | [a] => rfl
  | [a, b] => rfl
  | [a, b, c] => rfl
  | [a, b, c, d] =>
    rw [if_pos (show [a, b, c, d].length = 4 from rfl)]
    show (match smallM 255 a, smallM 255 b, smallM 255 c, smallM 255 d with
    | some x, some y, some z, some t => some (((x * 256 + y) * 256 + z) * 256 + t)
    | _, _, _, _ => none) = _
    unfold foldA
    cases smallM 255 a with
    | none => rfl
    | some x =>
      simp only [Nat.zero_mul, Nat.zero_add]
      unfold foldA
      cases smallM 255 b with
      | none => rfl
      | some y =>
        simp only
        unfold foldA
        cases smallM 255 c with
        | none => rfl
        | some z =>
          simp only
          unfold foldA
          cases smallM 255 d with
          | none => rfl
          | some t => rfl
  | a :: b :: c :: d :: e :: r => simp [addrW]
theorem fold_drop {a k : Nat} {ps : List (List UInt8)} (hk : k < ps.length) : foldA a (ps.drop k) = match smallM 255 ps[k] with
    | some n => foldA (a * 256 + n) (ps.drop (k + 1))
    | none => none := by
  rw [List.drop_eq_getElem_cons hk, foldA]
def ParseV (s : List UInt8) : Value := match addrT s with
  | some a => .tuple #[.int .i64 (a : Int), .nilIface]
  | none => .tuple #[.int .i64 0, .iface 24 (.int .i64 5)]

theorem count_len (c : UInt8) (s : List UInt8) : Lib.count s [c] ≤ s.length := by
  rw [Lib.count_one]; exact List.count_le_length
theorem pieces_len {c : UInt8} {s p : List UInt8} : p ∈ splitL c s → p.length ≤ s.length := by
  induction s generalizing p with
  | nil => intro h; simp [splitL] at h; subst h; simp
  | cons b s ih =>
    intro h
    unfold splitL at h
    split at h
    · rcases List.mem_cons.1 h with rfl | h
      · simp
      · have := ih h; simp; omega
    · split at h
      · rename_i q qs hq
        rcases List.mem_cons.1 h with rfl | h
        · have := ih (p := q) (by rw [hq]; exact List.mem_cons_self)
          simp; omega
        · have := ih (p := p) (by rw [hq]; exact List.mem_cons_of_mem _ h)
          simp; omega
      · simp at h; subst h; simp

set_option maxHeartbeats 1000000 in
theorem parse_four {s : List UInt8} (hlen : s.length < 4294967281) (h4 : (splitL 46 s).length = 4) {B : Nat} (w : World) (hB : B ≤ w.heap.size) (hV : TxtV B w) :
    Calls Tryz.prog 5 #[txt s] w fun e w' => e = .returned (ParseV s) ∧ Below w.heap.size w w' := by
  obtain ⟨ps, hps⟩ : ∃ ps, ps = splitL 46 s := ⟨_, rfl⟩
  have hpl : ∀ p ∈ ps, p.length ≤ 281474976710656 := fun p hp => by have := pieces_len (hps ▸ hp); omega
  have hres : ParseV s = match foldA 0 ps with
    | some a => .tuple #[.int .i64 (a : Int), .nilIface]
    | none => .tuple #[.int .i64 0, .iface 24 (.int .i64 5)] := by
    unfold ParseV addrT
    rw [addrW_fold, if_pos h4, hps]
  have hc := split_any s 46 hlen w hV
  have hp4 : ps.length = 4 := by rw [hps]; exact h4
  rw [← hps, hp4] at hc
  have HR := Lib.hid hres
  have HP4 := Lib.hid hp4
  have HPL := Lib.hid hpl
  clear hres hps hpl hp4 h4 
  go_enter Tryz.func5, Tryz.ntmps5
  go_wp2_with fail
  refine hc.mono ?_
  rintro e w1 ⟨rfl, hw1⟩
  have hb1 : Below w.heap.size w w1 := by rw [hw1]; exact (Below.refl _ _).alloc (Nat.le_refl _) _
  have hz1 : w1.heap.size = w.heap.size + 1 := by rw [hw1]; simp
  have hcell : ∀ k (hk : k < ps.length), w1.cell? ⟨w.heap.size, k, none⟩ = some (txt ps[k]) := fun k hk => by
    rw [hw1, World.cell?_alloc_at _ _ _ _ rfl]
    simp [hk]
  have HC := Lib.hid hcell
  have HZ := Lib.hid hz1
  clear hw1 hcell hz1 hc
  go_wp2
  go_loopw [5, 18, 7, 8, 9] (fun x i _ _ _ wr => ∃ (k a : Nat), k ≤ 4 ∧ i = .int .i64 (k : Int) ∧ x = .int .i64 (a : Int) ∧ a < 256 ^ k ∧ foldA a (ps.drop k) = foldA 0 ps ∧ Below w1.heap.size w1 wr) (fun _ i _ _ _ _ => 4 - (intOf i).toNat)
  case atStart => exact ⟨0, 0, by omega, rfl, rfl, by decide, by simp, Below.refl _ _⟩
  case round =>
    obtain ⟨k, a, hk, rfl, rfl, ha, hf, hbr⟩ := hrel
    have hsz := hbr.size
    have hVr := (hV.on (hb1.mono hB)).on (hbr.mono (Nat.le_trans hB hb1.size))
    have hBr : B ≤ wr.heap.size := Nat.le_trans hB (Nat.le_trans hb1.size hsz)
    have HF := Lib.hid hf
    clear hf
    by_cases hlt : k < 4
    · have hkl : k < ps.length := by rw [HP4.out]; exact hlt
      have hcl : wr.cell? ⟨w.heap.size, k, none⟩ = some (txt ps[k]) := (hbr.cell (p := ⟨w.heap.size, k, none⟩) (by have := HZ.out; show w.heap.size < _; omega)).trans (HC.out k hkl)
      have hpl := HPL.out ps[k] (List.getElem_mem hkl)
      have hfd := fold_drop (a := a) hkl
      rw [HF.out] at hfd
      cases hm : smallM 255 ps[k] with
      | none =>
        rw [hm] at hfd
        have HFD := Lib.hid hfd
        clear hfd
        generalize ps[k] = p at *
        go_wp2_with fail
        refine (small_none (most := 255) (by omega) hpl hm _ hBr hVr).mono ?_
        rintro e w2 ⟨j, rfl, hb2⟩
        go_wp2
        go_ret2
        refine ⟨?_, ?_⟩
        · rw [HR.out, HFD.out]; rfl
        · exact hb1.trans ((hbr.mono hb1.size).trans (hb2.mono (Nat.le_trans hb1.size hsz)))
      | some n =>
        rw [hm] at hfd
        have HFD := Lib.hid hfd
        have hn := (smallM_some.1 hm).1
        have ha2 : a < 16777216 := Nat.lt_of_lt_of_le ha (Nat.le_trans (Nat.pow_le_pow_right (by decide) (show k ≤ 3 by omega)) (by decide))
        have hor := or_256 ha2 (show n < 256 by omega)
        have HO := Lib.hid hor
        clear hfd hor
        generalize ps[k] = p at *
        go_wp2_with fail
        refine (small_some (most := 255) (by omega) hm _ hBr hVr).mono ?_
        rintro e w2 ⟨rfl, hb2⟩
        go_wp2
        go_roundw
        case rel =>
          refine ⟨k + 1, a * 256 + n, by omega, by go_num, ?_, ?_, ?_, hbr.trans (hb2.mono hsz)⟩
          · rw [show ((a : Int) * 256) = ((a * 256 : Nat) : Int) by omega, HO.out]
          · rw [Nat.pow_succ]; omega
          · exact HFD.out.symm
        case measure => simp [intOf]; omega
    · obtain rfl : k = 4 := by omega
      go_wp2
      go_ret2
      refine ⟨?_, hb1.trans (hbr.mono hb1.size)⟩
      have hd : ps.drop 4 = [] := List.drop_eq_nil_of_le (by rw [HP4.out]; exact Nat.le_refl _)
      rw [HR.out, ← HF.out, hd]
      rfl
theorem parse_any (s : List UInt8) (hlen : s.length < 4294967281) {B : Nat} (w : World) (hB : B ≤ w.heap.size) (hV : TxtV B w) :
    Calls Tryz.prog 5 #[txt s] w fun e w' => e = .returned (ParseV s) ∧ Below w.heap.size w w' := by
  by_cases h4 : (splitL 46 s).length = 4
  · exact parse_four hlen h4 w hB hV
  have hc := split_any s 46 hlen w hV
  have hres : ParseV s = .tuple #[.int .i64 0, .iface 24 (.int .i64 5)] := by
    unfold ParseV addrT
    rw [addrW_fold, if_neg h4]
  have h4' : (((splitL 46 s).length : Int) != 4) = true := by rw [bne_iff_ne]; omega
  rw [hres]
  have hle : (splitL 46 s).length ≤ s.length + 1 := by rw [splitL_length]; have := count_len 46 s; omega
  generalize splitL 46 s = ps at *
  clear hres h4
  go_enter Tryz.func5, Tryz.ntmps5
  go_wp2_with fail
  refine hc.mono ?_
  rintro e w1 ⟨rfl, hw1⟩
  have hb1 : Below w.heap.size w w1 := by rw [hw1]; exact (Below.refl _ _).alloc (Nat.le_refl _) _
  clear hw1
  go_wp2
  go_ret2
  exact ⟨rfl, hb1⟩
end Go.Proofs.YtfeeilpkfjfnaaaGreatDoor
