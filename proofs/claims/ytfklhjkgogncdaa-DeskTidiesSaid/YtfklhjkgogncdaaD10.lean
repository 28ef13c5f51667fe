/- Texts joined: XCodeKit. Each says at its head what it proves; conditions: as said there. -/
import Derived.Lib.AppendStr
import Derived.Laws.BytesString
import Derived.Laws.Strings
import Derived.Laws.Cover1
import Derived.Test.YtfklhjkgogncdaaProg
import Derived.Test.YtfklhjkgogncdaaD1
import Derived.Test.YtfklhjkgogncdaaD7
/- Bytes, strings and changes in memory: what reads as them, what owns them; conversions and appends. No conditions. -/
namespace Go.Proofs.Ytfklhjkgogncdaa
set_option linter.unusedVariables false
set_option linter.unusedSimpArgs false
open Go.RowKit

abbrev strV (l : List UInt8) : Value := .string ⟨l.toArray⟩
def bytesV (l : List UInt8) : List Value := l.map fun b => .int .u8 (b.toNat : Int)
theorem bytesV_length (l : List UInt8) : (bytesV l).length = l.length := by simp [bytesV]
theorem bytesV_append (a b : List UInt8) : bytesV (a ++ b) = bytesV a ++ bytesV b := by simp [bytesV]
theorem bytesV_nil {l : List UInt8} (h : bytesV l = []) : l = [] := by simpa [bytesV] using h
theorem bytesV_one (l : List UInt8) : ∀ u ∈ bytesV l, u.oneCell' = true := by
  intro u hu
  simp only [bytesV, List.mem_map] at hu
  obtain ⟨b, _, rfl⟩ := hu
  rfl
theorem strCells_mk (l : List UInt8) : Lib.strCells ⟨l.toArray⟩ = bytesV l := by simp [Lib.strCells, bytesV]
@[simp] theorem size_mk (l : List UInt8) : (ByteArray.mk l.toArray).size = l.length := by
  show l.toArray.size = l.length
  simp
theorem lessB_eq : ∀ (x y : List UInt8), Op.bytesLess x y = lessB x y
  | _, [] => by simp [Op.bytesLess, lessB]
  | [], _ :: _ => by simp [Op.bytesLess, lessB]
  | a :: x, b :: y => by simp [Op.bytesLess, lessB, lessB_eq x y]

section
variable {w w' : World} {B B' : Nat} {A : Option Addr}
/-- Byte number k. -/
theorem Rd.byte {l : List UInt8} (h : Rd w B A (bytesV l)) {k : Nat} (hk : k < l.length) :
    ∃ b off, A = some ⟨b, off, none⟩ ∧ b < B ∧ w.cell? ⟨b, off + k, none⟩ = some (.int .u8 (l[k].toNat : Int)) := by
  obtain ⟨b, off, e, hb, hc⟩ := h (fun h => by have := congrArg List.length h; simp [bytesV] at this; subst this; simp at hk)
  exact ⟨b, off, e, hb, hc k _ (by unfold bytesV; rw [List.getElem?_map, List.getElem?_eq_getElem hk]; rfl)⟩
/-- The first ones alone. -/
theorem Rd.bytesTake {l : List UInt8} (h : Rd w B A (bytesV l)) (n : Nat) : Rd w B A (bytesV (l.take n)) := fun hn => by
  obtain ⟨b, off, e, hb, hc⟩ := h (fun h => hn (by rw [bytesV_nil h]; simp [bytesV]))
  refine ⟨b, off, e, hb, fun j u hu => hc j u ?_⟩
  simp only [bytesV, List.getElem?_map, List.getElem?_take] at hu ⊢
  split at hu
  · exact hu
  · cases hu
/-- The ones behind. -/
theorem Rd.bytesDrop {l : List UInt8} {b off : Nat} (h : Rd w B (some ⟨b, off, none⟩) (bytesV l)) (n : Nat) : Rd w B (some ⟨b, off + n, none⟩) (bytesV (l.drop n)) := fun hn => by
  obtain ⟨b', off', e, hb, hc⟩ := h (fun h => hn (by rw [bytesV_nil h]; simp [bytesV]))
  obtain ⟨rfl, rfl⟩ : b' = b ∧ off' = off := by injection e with e; injection e with e1 e2; exact ⟨e1.symm, e2.symm⟩
  refine ⟨b', off' + n, rfl, hb, fun j u hu => ?_⟩
  have := hc (n + j) u (by simpa [bytesV] using hu)
  rw [show off' + n + j = off' + (n + j) by omega]
  exact this
end

theorem Rd.bytesFrom {w : World} {B : Nat} {A : Option Addr} {l : List UInt8} (h : Rd w B A (bytesV l)) (n : Nat) : Rd w B (A.map fun a => a.add n) (bytesV (l.drop n)) := by
  intro hn
  obtain ⟨b, off, rfl, hb, hc⟩ := h (fun h => hn (by rw [bytesV_nil h]; simp [bytesV]))
  have := Rd.bytesDrop (w := w) (B := B) (b := b) (off := off) (l := l) (fun _ => ⟨b, off, rfl, hb, hc⟩) n hn
  simp only [Option.map_some]
  rwa [show ((⟨b, off, none⟩ : Addr).add n) = ⟨b, off + n, none⟩ by unfold Addr.add; split <;> simp_all]
theorem push_fold : ∀ (l : List UInt8) (a : Array UInt8), (l.map fun b => ((b.toNat : Nat) : Int)).foldl (fun r n => r.push (UInt8.ofNat n.toNat)) (ByteArray.mk a) = ByteArray.mk (a ++ l.toArray)
  | [], a => by simp
  | b :: l, a => by
    simp only [List.map_cons, List.foldl_cons]
    have e : (ByteArray.mk a).push (UInt8.ofNat (((b.toNat : Nat) : Int)).toNat) = ByteArray.mk (a.push b) := by simp [ByteArray.push]
    rw [e, push_fold l]
    congr 1
    apply Array.ext'
    simp
/-- string(b). -/
theorem run_str {P : Program} {w : World} {B : Nat} (src dst e : TypeId) (hs : P.underlying src = some (.slice e)) (he : P.underlying e = some (.int .u8)) (hd : P.underlying dst = some .string)
    {A : Option Addr} {l : List UInt8} {m : Nat} (c : Nat) (hr : Rd w B A (bytesV l)) (hm : m = l.length) : (convert src dst (.slice A m c)).run P w = .ok (strV l) w := by
  subst hm
  rw [run_convert_bytes_string w src dst e A l.length c hs he hd]
  rcases A with _ | a
  · have : l = [] := by
      rcases l with _ | ⟨b, l⟩
      · rfl
      · obtain ⟨_, _, h, _⟩ := hr (by simp [bytesV])
        cases h
    subst this
    rfl
  · have hc : ∀ j u, (bytesV l)[j]? = some u → w.cell? (a.add j) = some u := by
      intro j u hu
      obtain ⟨b, off, h, hb, hc⟩ := hr (fun h => by rw [h] at hu; simp at hu)
      injection h with h
      subst h
      have := hc j u hu
      rwa [show ((⟨b, off, none⟩ : Addr).add j) = ⟨b, off + j, none⟩ by unfold Addr.add; split <;> simp_all]
    have h1 := run_firstCells_some (P := P) w 1 l.length a l.length c (bytesV l) (by rw [bytesV_length, Nat.mul_one]) hc
    simp only [Builtin.firstCells, Nat.mul_one] at h1
    have e1 : bytesV l = (l.map fun b => ((b.toNat : Nat) : Int)).map (Value.int .u8) := by simp [bytesV]
    rw [e1] at h1
    rw [run_bytesToString w a l.length c _ h1]
    have := push_fold l #[]
    rw [show ByteArray.empty = ByteArray.mk #[] from rfl, this]
    simp

/-- No text is longer than a slice may be. -/
def Small (l : List Chg) : Prop := ∀ c ∈ l, c.key.length ≤ maxLen ∧ c.val.length ≤ maxLen
/-- Cells of changes. -/
def cellsC : List Chg → List Value
  | [] => []
  | c :: l => strV c.key :: strV c.val :: .bool c.gone :: cellsC l
theorem cellsC_length : ∀ l, (cellsC l).length = l.length * 3
  | [] => rfl
  | c :: l => by simp [cellsC, cellsC_length l]; omega
theorem cellsC_append : ∀ l m, cellsC (l ++ m) = cellsC l ++ cellsC m
  | [], m => rfl
  | c :: l, m => by simp [cellsC, cellsC_append l m]
theorem cellsC_at : ∀ (l : List Chg) (k : Nat) (h : k < l.length), (cellsC l)[3 * k]? = some (strV l[k].key) ∧ (cellsC l)[3 * k + 1]? = some (strV l[k].val) ∧ (cellsC l)[3 * k + 2]? = some (.bool l[k].gone)
  | c :: l, 0, _ => by simp [cellsC]
  | c :: l, k + 1, h => by
    have ih := cellsC_at l k (by simpa using h)
    have e1 : 3 * (k + 1) = 3 * k + 1 + 1 + 1 := by omega
    rw [e1]
    simpa [cellsC] using ih
theorem cellsC_one : ∀ (l : List Chg), ∀ u ∈ cellsC l, u.oneCell' = true
  | [], u, h => by simp [cellsC] at h
  | c :: l, u, h => by
    simp only [cellsC, List.mem_cons] at h
    rcases h with rfl | rfl | rfl | h
    · rfl
    · rfl
    · rfl
    · exact cellsC_one l u h
/-- Change number k of a slice. -/
theorem Rd.chg {w : World} {B : Nat} {A : Option Addr} {l : List Chg} (h : Rd w B A (cellsC l)) {k : Nat} (hk : k < l.length) :
    ∃ b off, A = some ⟨b, off, none⟩ ∧ b < B ∧ w.cell? ⟨b, off + k * 3, none⟩ = some (strV l[k].key) ∧ w.cell? ⟨b, off + k * 3 + 1, none⟩ = some (strV l[k].val) ∧ w.cell? ⟨b, off + k * 3 + 2, none⟩ = some (.bool l[k].gone) := by
  obtain ⟨b, off, e, hb, hc⟩ := h (fun h => by have := cellsC_length l; rw [h] at this; simp at this; omega)
  rw [Nat.mul_comm k 3]
  obtain ⟨h1, h2, h3⟩ := cellsC_at l k hk
  exact ⟨b, off, e, hb, hc _ _ h1, hc _ _ h2, hc _ _ h3⟩
end Go.Proofs.Ytfklhjkgogncdaa
