/- A log's bytes, plain mathematics: frames of lists, reading them back, whatever is cut off. No conditions, no program. -/
import Derived.Test.YtdcjogofjniogaaDoorCodeMath
namespace Go.Proofs.YtdcjogofjniogaaDoor
set_option linter.unusedVariables false
set_option linter.unusedSimpArgs false

/-- One list with its length ahead. -/
def frame (l : List Chg) : List UInt8 := UInt8.ofNat ((encL l).length / 256) :: UInt8.ofNat (encL l).length :: encL l
def frames : List (List Chg) → List UInt8
  | [] => []
  | l :: m => frame l ++ frames m

def parseF : Nat → List UInt8 → List (List Chg) × Nat
  | f + 1, h :: l :: r =>
    if r.length < h.toNat * 256 + l.toNat then ([], 0)
    else match decL (r.take (h.toNat * 256 + l.toNat)) with
      | none => ([], 0)
      | some c => (c :: (parseF f (r.drop (h.toNat * 256 + l.toNat))).1, 2 + (h.toNat * 256 + l.toNat) + (parseF f (r.drop (h.toNat * 256 + l.toNat))).2)
  | _, _ => ([], 0)
/-- The lists that are there whole, and how many bytes they are. -/
def parse (b : List UInt8) : List (List Chg) × Nat := parseF b.length b

theorem parseF_fuel : ∀ (f g : Nat) (b : List UInt8), b.length ≤ f → b.length ≤ g → parseF f b = parseF g b
  | 0, g, b, h, _ => by
    have : b = [] := List.eq_nil_of_length_eq_zero (by omega)
    subst this
    cases g <;> rfl
  | f + 1, 0, b, _, h => by
    have : b = [] := List.eq_nil_of_length_eq_zero (by omega)
    subst this
    rfl
  | f + 1, g + 1, [], _, _ => rfl
  | f + 1, g + 1, [x], _, _ => rfl
  | f + 1, g + 1, h :: l :: r, hf, hg => by
    simp only [List.length_cons] at hf hg
    simp only [parseF]
    rw [parseF_fuel f g (r.drop (h.toNat * 256 + l.toNat)) (by simp; omega) (by simp; omega)]
theorem parse_step (h l : UInt8) (r : List UInt8) : parse (h :: l :: r) =
    if r.length < h.toNat * 256 + l.toNat then ([], 0)
    else match decL (r.take (h.toNat * 256 + l.toNat)) with
      | none => ([], 0)
      | some c => (c :: (parse (r.drop (h.toNat * 256 + l.toNat))).1, 2 + (h.toNat * 256 + l.toNat) + (parse (r.drop (h.toNat * 256 + l.toNat))).2) := by
  unfold parse
  simp only [List.length_cons, parseF]
  rw [parseF_fuel (r.length + 1) (r.drop (h.toNat * 256 + l.toNat)).length (r.drop (h.toNat * 256 + l.toNat)) (by simp; omega) (by simp)]

/-- Bytes that no whole list begins. -/
def stuck : List UInt8 → Prop
  | h :: l :: r => r.length < h.toNat * 256 + l.toNat
  | _ => True
theorem parse_stuck : ∀ {t : List UInt8}, stuck t → parse t = ([], 0)
  | [], _ => rfl
  | [_], _ => rfl
  | h :: l :: r, hs => by
    have hs' : r.length < h.toNat * 256 + l.toNat := hs
    rw [parse_step, if_pos hs']
theorem stuck_take : ∀ {t : List UInt8} (m : Nat), stuck t → stuck (t.take m)
  | [], m, _ => by simp [stuck]
  | [x], 0, _ => trivial
  | [x], m + 1, _ => by simp [stuck]
  | h :: l :: r, 0, _ => trivial
  | h :: l :: r, 1, _ => trivial
  | h :: l :: r, m + 2, hs => by
    simp only [List.take_succ_cons, stuck, List.length_take] at hs ⊢
    omega

theorem header {n : Nat} (h : n < 65536) : (UInt8.ofNat (n / 256)).toNat * 256 + (UInt8.ofNat n).toNat = n := by
  have h1 : (UInt8.ofNat (n / 256)).toNat = n / 256 := toNat_of (by omega)
  have h2 : (UInt8.ofNat n).toNat = n % 256 := by simp [UInt8.toNat_ofNat]
  rw [h1, h2]
  omega
theorem frame_length (l : List Chg) : (frame l).length = 2 + (encL l).length := by simp [frame]; omega
theorem frame_stuck {l : List Chg} (h : chgFault l = 0) {m : Nat} (hm : m < (frame l).length) : stuck ((frame l).take m) := by
  have hl := encL_length h
  rw [frame_length] at hm
  match m, hm with
  | 0, _ => trivial
  | 1, _ => trivial
  | m + 2, hm =>
    simp only [frame, List.take_succ_cons, stuck, List.length_take]
    rw [header (by omega)]
    omega
theorem parse_frame {l : List Chg} (h : chgFault l = 0) (q : List UInt8) : parse (frame l ++ q) = (l :: (parse q).1, (frame l).length + (parse q).2) := by
  have hl := encL_length h
  simp only [frame, List.cons_append]
  rw [parse_step, header (by omega), if_neg (by simp)]
  simp only [List.take_left', List.drop_left', decL_encL h, List.length_cons]
  congr 1
  omega
theorem parse_frames : ∀ {ls : List (List Chg)} {t : List UInt8}, (∀ l ∈ ls, chgFault l = 0) → stuck t → parse (frames ls ++ t) = (ls, (frames ls).length)
  | [], t, _, hs => by simpa [frames] using parse_stuck hs
  | l :: m, t, hl, hs => by
    simp only [frames, List.append_assoc]
    rw [parse_frame (hl l (by simp)), parse_frames (fun x hx => hl x (by simp [hx])) hs]
    simp

/-- What is left of frames that are cut off. -/
theorem take_frames : ∀ (ls : List (List Chg)) (t : List UInt8) (n : Nat), (∀ l ∈ ls, chgFault l = 0) → stuck t → n ≤ (frames ls ++ t).length →
    ∃ k t', k ≤ ls.length ∧ stuck t' ∧ (frames ls ++ t).take n = frames (ls.take k) ++ t' ∧ ∀ j, j ≤ ls.length → (frames (ls.take j)).length ≤ n → j ≤ k
  | [], t, n, _, hs, _ => ⟨0, t.take n, by simp, stuck_take n hs, by simp [frames], fun j hj _ => by simpa using hj⟩
  | l :: m, t, n, hl, hs, hn => by
    by_cases hc : n < (frame l).length
    · refine ⟨0, (frame l).take n, by simp, frame_stuck (hl l (by simp)) hc, ?_, ?_⟩
      · simp only [frames, List.append_assoc, List.take_zero, List.nil_append]
        rw [List.take_append_of_le_length (by omega)]
      · intro j hj h
        cases j with
        | zero => omega
        | succ j =>
          simp only [List.take_succ_cons, frames, List.length_append] at h
          omega
    · simp only [frames, List.append_assoc, List.length_append] at hn
      obtain ⟨k, t', h1, h2, h3, h4⟩ := take_frames m t (n - (frame l).length) (fun x hx => hl x (by simp [hx])) hs (by simp; omega)
      refine ⟨k + 1, t', by simpa using h1, h2, ?_, ?_⟩
      · simp only [frames, List.append_assoc, List.take_succ_cons]
        rw [List.take_append, List.take_of_length_le (by omega), h3]
      · intro j hj h
        cases j with
        | zero => omega
        | succ j =>
          simp only [List.take_succ_cons, frames, List.length_append] at h
          have := h4 j (by simpa using hj) (by omega)
          omega
theorem frames_append : ∀ (a b : List (List Chg)), frames (a ++ b) = frames a ++ frames b
  | [], b => rfl
  | l :: a, b => by simp only [List.cons_append, frames, frames_append a b, List.append_assoc]
theorem frames_one (l : List Chg) : frames [l] = frame l := by simp [frames]
theorem frames_take_le (ls : List (List Chg)) (j : Nat) : (frames (ls.take j)).length ≤ (frames ls).length := by
  have := frames_append (ls.take j) (ls.drop j)
  rw [List.take_append_drop] at this
  rw [this]
  simp
end Go.Proofs.YtdcjogofjniogaaDoor
