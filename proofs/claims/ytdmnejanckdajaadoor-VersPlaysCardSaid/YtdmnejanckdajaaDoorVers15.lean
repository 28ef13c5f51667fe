/- Contracts of package vers for the walks of laws. -/
import Derived.Test.YtdmnejanckdajaaDoorVers14
import Derived.Test.YtdmnejanckdajaaDoorStay
namespace Go.Proofs.YtdmnejanckdajaaDoor
set_option linter.unusedVariables false
set_option linter.unusedSimpArgs false
set_option maxRecDepth 100000
open Go.RowKit

theorem getV_some' {F : List UInt8 → List Ver} {s v : List UInt8} {n : Int} (h0 : numB n = true) (h : tell F s n = some v) : getV F s n = (v, 0) := by simp [getV, h0, h]
theorem getV_none' {F : List UInt8 → List Ver} {s : List UInt8} {n : Int} (h0 : numB n = true) (h : tell F s n = none) : getV F s n = ([], 4) := by simp [getV, h0, h]
section
variable {t : Nat} {F : List UInt8 → List Ver} {top : Int} {m : Nat} {S : Nat → Prop} {w w' : World}
theorem TblAt.lt (h : TblAt w S t F top m) : t < w.heap.size := by
  obtain ⟨⟨b, es, c, h1, h2, h3⟩, _, _⟩ := h
  exact h1.lt
/-- All of a table's blocks are there. -/
theorem TblAt.tight (h : TblAt w S t F top m) : TblAt w (fun g => S g ∧ g < w.heap.size) t F top m := by
  have hlt := h.lt
  obtain ⟨⟨b, es, c, h1, h2, h3⟩, ht, hg⟩ := h
  exact ⟨⟨b, es, c, h1, ⟨h2.map, ⟨h2.hb, h2.map.lt⟩, h2.keys, h2.rows, h2.tells, fun s v g q e => ⟨h2.own s v g q e, h2.row_lt q e⟩, h2.apart⟩, h3⟩, ⟨ht, hlt⟩, hg⟩
theorem get_some (hT : TblAt w S t F top m) (hm : m ≤ 1000000) {s v : List UInt8} {n : Int} (hs : s.length ≤ maxLen) (h0 : numB n = true) (h : tell F s n = some v) :
    Calls Tryd.prog 7 #[.pointer (some ⟨t, 0, none⟩), txt s, .int .i64 n] w fun e w' => e = .returned (.tuple #[txt v, .nilIface]) ∧ w' = w := by
  have := get_any t F top m S s hs n hm w hT
  rw [getV_some' h0 h] at this
  exact this
theorem get_none (hT : TblAt w S t F top m) (hm : m ≤ 1000000) {s : List UInt8} {n : Int} (hs : s.length ≤ maxLen) (h0 : numB n = true) (h : tell F s n = none) :
    Calls Tryd.prog 7 #[.pointer (some ⟨t, 0, none⟩), txt s, .int .i64 n] w fun e w' => e = .returned (.tuple #[txt [], .iface 31 (.int .i64 4)]) ∧ w' = w := by
  have := get_any t F top m S s hs n hm w hT
  rw [getV_none' h0 h] at this
  exact this
/-- What is told: a value and an error. -/
def TellV (o : Option (List UInt8)) (x e : Value) : Prop := match o with
  | some v => x = txt v ∧ e = .nilIface
  | none => x = txt [] ∧ e = .iface 31 (.int .i64 4)
theorem get_tell (hT : TblAt w S t F top m) (hm : m ≤ 1000000) {s : List UInt8} {n : Int} (hs : s.length ≤ maxLen) (h0 : numB n = true) {x e : Value} (h : TellV (tell F s n) x e) :
    Calls Tryd.prog 7 #[.pointer (some ⟨t, 0, none⟩), txt s, .int .i64 n] w fun y w' => y = .returned (.tuple #[x, e]) ∧ w' = w := by
  unfold TellV at h
  split at h
  · rename_i v hv
    obtain ⟨rfl, rfl⟩ := h
    exact get_some hT hm hs h0 hv
  · rename_i hv
    obtain ⟨rfl, rfl⟩ := h
    exact get_none hT hm hs h0 hv
theorem OwnKV.fr {T : Nat → Prop} {base : Nat} {v : Value} {l : List KV} (h : OwnKV w base v l) (f : Fr T w w') (hd : ∀ g, base ≤ g → g < w.heap.size → ¬ T g) : OwnKV w' base v l :=
  own_fr h f (fun g e => hd g (World.ownsRow.lt h g e).1 (World.ownsRow.lt h g e).2)
theorem OwnKV.fr' {T : Nat → Prop} {base : Nat} {v : Value} {l : List KV} (h : OwnKV w base v l) (f : Fr T w w') (hd : ∀ g, v.ownBlock = some g → ¬ T g) : OwnKV w' base v l := own_fr h f hd
theorem OwnKV.blk {base : Nat} {v : Value} {l : List KV} (h : OwnKV w base v l) : ∀ g, v.ownBlock = some g → base ≤ g ∧ g < w.heap.size := World.ownsRow.lt h
end
end Go.Proofs.YtdmnejanckdajaaDoor
