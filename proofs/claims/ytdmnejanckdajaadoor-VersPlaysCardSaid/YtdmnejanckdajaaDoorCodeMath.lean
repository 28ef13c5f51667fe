/- Changes as bytes, plain mathematics: what may be encoded, the bytes, and reading them back. No conditions, no program. -/
namespace Go.Proofs.YtdmnejanckdajaaDoor
set_option linter.unusedVariables false
set_option linter.unusedSimpArgs false

/-- A change. -/
structure Chg where
  key : List UInt8
  val : List UInt8
  gone : Bool

instance : Inhabited Chg := ⟨⟨[], [], false⟩⟩

/-- Bytes in their order. -/
def lessB : List UInt8 → List UInt8 → Bool
  | _, [] => false
  | [], _ :: _ => true
  | a :: x, b :: y => decide (a < b) || (a == b && lessB x y)

/-- One change by itself. -/
def oneOk (c : Chg) : Bool := decide (1 ≤ c.key.length) && decide (c.key.length ≤ 24) && decide (c.val.length ≤ 12) && !(c.gone && decide (0 < c.val.length))

/-- Changes whose keys rise, behind one. -/
def riseOk : Option Chg → List Chg → Bool
  | _, [] => true
  | p, c :: l => oneOk c && (match p with | none => true | some q => !(lessB c.key q.key || c.key == q.key)) && riseOk (some c) l

/-- What is wrong with changes. -/
def chgFault (l : List Chg) : Int := if 20 < l.length then 3 else if riseOk none l then 0 else 2

/-- The bytes of one change. -/
def enc1 (c : Chg) : List UInt8 :=
  UInt8.ofNat (c.key.length + if c.gone then 128 else 0) :: (c.key ++ if c.gone then [] else UInt8.ofNat c.val.length :: c.val)
/-- The bytes of changes. -/
def encs : List Chg → List UInt8
  | [] => []
  | c :: l => enc1 c ++ encs l
def encL (l : List Chg) : List UInt8 := UInt8.ofNat l.length :: encs l

/-- One change of bytes, and the rest. -/
def dec1 : List UInt8 → Option (Chg × List UInt8)
  | [] => none
  | h :: r =>
    if r.length < h.toNat % 128 then none
    else if 128 ≤ h.toNat then some (⟨r.take (h.toNat % 128), [], true⟩, r.drop (h.toNat % 128))
    else match r.drop (h.toNat % 128) with
      | [] => none
      | v :: s => if s.length < v.toNat then none else some (⟨r.take (h.toNat % 128), s.take v.toNat, false⟩, s.drop v.toNat)
/-- So many changes of bytes, and the rest. -/
def decN : Nat → List UInt8 → Option (List Chg × List UInt8)
  | 0, b => some ([], b)
  | n + 1, b => match dec1 b with
    | none => none
    | some (c, r) => match decN n r with
      | none => none
      | some (l, s) => some (c :: l, s)
/-- Changes of bytes. -/
def decL : List UInt8 → Option (List Chg)
  | [] => none
  | h :: r => match decN h.toNat r with
    | none => none
    | some (l, s) => if s = [] ∧ chgFault l = 0 then some l else none

theorem dec1_more {b r : List UInt8} {c : Chg} (q : List UInt8) (h : dec1 b = some (c, r)) : dec1 (b ++ q) = some (c, r ++ q) := by
  cases b with
  | nil => cases h
  | cons a t =>
    simp only [dec1, List.cons_append] at h ⊢
    split at h
    · cases h
    · rename_i h1
      have hle : a.toNat % 128 ≤ t.length := by omega
      rw [if_neg (by simp; omega)]
      split at h
      · rename_i h2
        cases h
        rw [if_pos h2, List.take_append_of_le_length hle, List.drop_append_of_le_length hle]
      · rename_i h2
        rw [if_neg h2, List.take_append_of_le_length hle, List.drop_append_of_le_length hle]
        cases hd : t.drop (a.toNat % 128) with
        | nil => rw [hd] at h; cases h
        | cons v s =>
          rw [hd] at h
          simp only [List.cons_append] at h ⊢
          split at h
          · cases h
          · rename_i h3
            cases h
            have hle3 : v.toNat ≤ s.length := by omega
            rw [if_neg (by simp; omega), List.take_append_of_le_length hle3, List.drop_append_of_le_length hle3]

theorem decN_more (q : List UInt8) : ∀ (n : Nat) (b r : List UInt8) (l : List Chg), decN n b = some (l, r) → decN n (b ++ q) = some (l, r ++ q)
  | 0, b, r, l, h => by simp only [decN] at h ⊢; cases h; rfl
  | n + 1, b, r, l, h => by
    simp only [decN] at h ⊢
    cases h1 : dec1 b with
    | none => rw [h1] at h; cases h
    | some cr =>
      obtain ⟨c, s⟩ := cr
      rw [h1] at h
      rw [dec1_more q h1]
      simp only at h ⊢
      cases h2 : decN n s with
      | none => rw [h2] at h; cases h
      | some lr =>
        obtain ⟨l2, r2⟩ := lr
        rw [h2] at h
        rw [decN_more q n s r2 l2 h2]
        cases h
        rfl

theorem toNat_of {n : Nat} (h : n < 256) : (UInt8.ofNat n).toNat = n := by
  simp [UInt8.toNat_ofNat, Nat.mod_eq_of_lt h]

theorem dec1_enc1 (c : Chg) (q : List UInt8) (h : oneOk c = true) : dec1 (enc1 c ++ q) = some (c, q) := by
  obtain ⟨k, v, g⟩ := c
  simp only [oneOk, Bool.and_eq_true, decide_eq_true_eq, Bool.not_eq_true', Bool.and_eq_false_iff, decide_eq_false_iff_not] at h
  obtain ⟨⟨⟨h1, h2⟩, h3⟩, h4⟩ := h
  cases g with
  | true =>
    have hv : v = [] := by
      rcases h4 with h4 | h4
      · cases h4
      · exact List.eq_nil_of_length_eq_zero (by omega)
    subst hv
    simp only [enc1, if_true, List.append_nil, List.cons_append, dec1]
    rw [toNat_of (by omega)]
    have e : (k.length + 128) % 128 = k.length := by omega
    rw [e, if_neg (by simp), if_pos (by omega)]
    simp
  | false =>
    simp only [enc1, Bool.false_eq_true, if_false, Nat.add_zero, List.cons_append, dec1, List.append_assoc]
    rw [toNat_of (by omega)]
    have e : k.length % 128 = k.length := by omega
    rw [e, if_neg (by simp), if_neg (by omega)]
    simp only [List.take_left', List.drop_left']
    rw [toNat_of (by omega), if_neg (by simp)]
    simp

theorem decN_encs (q : List UInt8) : ∀ (l : List Chg) (p : Option Chg), riseOk p l = true → decN l.length (encs l ++ q) = some (l, q)
  | [], _, _ => rfl
  | c :: l, p, h => by
    simp only [riseOk, Bool.and_eq_true] at h
    simp only [List.length_cons, decN, encs, List.append_assoc]
    rw [dec1_enc1 c _ h.1.1]
    simp only
    rw [decN_encs q l (some c) h.2]

theorem chgFault_zero {l : List Chg} : chgFault l = 0 ↔ l.length ≤ 20 ∧ riseOk none l = true := by
  unfold chgFault
  split
  · constructor
    · intro h; cases h
    · rintro ⟨h, _⟩; omega
  · split
    · rename_i h1 h2; exact ⟨fun _ => ⟨by omega, h2⟩, fun _ => rfl⟩
    · rename_i h1 h2
      constructor
      · intro h; cases h
      · rintro ⟨_, h⟩; exact absurd h h2
theorem chgFault_cases (l : List Chg) : chgFault l = 0 ∨ chgFault l = 2 ∨ chgFault l = 3 := by
  unfold chgFault
  split
  · right; right; rfl
  · split
    · left; rfl
    · right; left; rfl

/-- What is written is read. -/
theorem decL_encL {l : List Chg} (h : chgFault l = 0) : decL (encL l) = some l := by
  obtain ⟨h1, h2⟩ := chgFault_zero.1 h
  simp only [encL, decL]
  rw [toNat_of (by omega)]
  have := decN_encs [] l none h2
  rw [List.append_nil] at this
  rw [this]
  simp [h]
/-- With more behind it is none. -/
theorem decL_more {l : List Chg} (h : chgFault l = 0) (m : UInt8) : decL (encL l ++ [m]) = none := by
  obtain ⟨h1, h2⟩ := chgFault_zero.1 h
  simp only [encL, decL, List.cons_append]
  rw [toNat_of (by omega), decN_encs [m] l none h2]
  simp
/-- Cut off it is none. -/
theorem decL_cut {l : List Chg} (h : chgFault l = 0) {k : Nat} (hk : k < (encL l).length) : decL ((encL l).take k) = none := by
  obtain ⟨h1, h2⟩ := chgFault_zero.1 h
  cases k with
  | zero => rfl
  | succ k =>
    simp only [encL, List.take_succ_cons, decL]
    rw [toNat_of (by omega)]
    cases hd : decN l.length ((encs l).take k) with
    | none => rfl
    | some lr =>
      obtain ⟨m, s⟩ := lr
      have hm := decN_more ((encs l).drop k) _ _ _ _ hd
      rw [List.take_append_drop] at hm
      have he := decN_encs [] l none h2
      rw [List.append_nil, hm] at he
      have hs : s ++ (encs l).drop k = [] := by injection he with he; exact (Prod.mk.inj he).2
      have hnil : (encs l).drop k = [] := (List.append_eq_nil_iff.1 hs).2
      have : (encs l).length ≤ k := by
        have := congrArg List.length hnil
        simp at this
        omega
      simp only [encL, List.length_cons] at hk
      omega
theorem encs_length : ∀ (l : List Chg) (p : Option Chg), riseOk p l = true → (encs l).length ≤ 38 * l.length
  | [], _, _ => by simp [encs]
  | c :: l, p, h => by
    simp only [riseOk, Bool.and_eq_true] at h
    have ih := encs_length l (some c) h.2
    have h1 := h.1.1
    simp only [oneOk, Bool.and_eq_true, decide_eq_true_eq] at h1
    have : (enc1 c).length ≤ 38 := by
      unfold enc1
      cases c.gone <;> simp <;> omega
    simp only [encs, List.length_append, List.length_cons]
    omega
theorem encL_length {l : List Chg} (h : chgFault l = 0) : 1 ≤ (encL l).length ∧ (encL l).length ≤ 761 := by
  obtain ⟨h1, h2⟩ := chgFault_zero.1 h
  have := encs_length l none h2
  simp only [encL, List.length_cons]
  omega
/-- What is decoded is short, and the bytes were spent. -/
theorem dec1_length {b r : List UInt8} {c : Chg} (h : dec1 b = some (c, r)) : r.length < b.length := by
  cases b with
  | nil => cases h
  | cons a t =>
    simp only [dec1] at h
    split at h
    · cases h
    · split at h
      · cases h; simp; omega
      · split at h
        · cases h
        · rename_i v s hd
          split at h
          · cases h
          · cases h
            have := congrArg List.length hd
            simp at this ⊢
            omega
theorem decN_length : ∀ (n : Nat) (b r : List UInt8) (l : List Chg), decN n b = some (l, r) → l.length = n ∧ r.length + n ≤ b.length
  | 0, b, r, l, h => by simp only [decN] at h; cases h; simp
  | n + 1, b, r, l, h => by
    simp only [decN] at h
    cases h1 : dec1 b with
    | none => rw [h1] at h; cases h
    | some cr =>
      obtain ⟨c, s⟩ := cr
      rw [h1] at h
      simp only at h
      cases h2 : decN n s with
      | none => rw [h2] at h; cases h
      | some lr =>
        obtain ⟨l2, r2⟩ := lr
        rw [h2] at h
        cases h
        obtain ⟨h3, h4⟩ := decN_length n s r l2 h2
        have := dec1_length h1
        simp
        omega
end Go.Proofs.YtdmnejanckdajaaDoor
