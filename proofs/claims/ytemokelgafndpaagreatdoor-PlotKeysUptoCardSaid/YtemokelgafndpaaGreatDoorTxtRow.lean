/- A row of texts of the call's own, one more behind it. Over any program; no conditions but those stated. -/
import Derived.Test.YtemokelgafndpaaGreatDoorTxt1
namespace Go.Proofs.YtemokelgafndpaaGreatDoor
set_option linter.unusedVariables false
set_option linter.unusedSimpArgs false
open Go.RowKit

/-- The slice value owns a list of texts. -/
def OwnT (w : World) (base : Nat) (e : TypeId) (v : Value) (l : List (List UInt8)) : Prop := w.ownsRow base e 1 v l.length (l.map txt)
theorem OwnT.below {w w' : World} {base : Nat} {e : TypeId} {v : Value} {l : List (List UInt8)} (h : OwnT w base e v l) (hb : Below w.heap.size w w') : OwnT w' base e v l := own_below h hb
theorem OwnT.nil (w : World) (base : Nat) (e : TypeId) : OwnT w base e (.slice none 0 0) [] := World.ownsRow_nil _ _ _ _
theorem OwnT.block {w : World} {base : Nat} {e : TypeId} {v : Value} {l : List (List UInt8)} (h : OwnT w base e v l) : ∀ k, v.ownBlock = some k → base ≤ k := fun k hk => (World.ownsRow.lt h k hk).1
theorem OwnT.form {w : World} {base : Nat} {e : TypeId} {v : Value} {l : List (List UInt8)} (h : OwnT w base e v l) : ∃ A c, v = .slice A l.length c ∧ Rd w w.heap.size A (l.map txt) := by
  rcases h.2 with ⟨h1, h2⟩ | ⟨g, cap, cur, hv, _⟩
  · have : l = [] := List.eq_nil_of_length_eq_zero h2
    subst this
    exact ⟨none, 0, h1, Rd.nil⟩
  · exact ⟨_, cap, hv, Rd.of_own (hv ▸ h)⟩
/-- Element number k of a slice of texts. -/
theorem Rd.txt {w : World} {B : Nat} {A : Option Addr} {l : List (List UInt8)} (h : Rd w B A (l.map txt)) {k : Nat} (hk : k < l.length) :
    ∃ b off, A = some ⟨b, off, none⟩ ∧ b < B ∧ w.cell? ⟨b, off + k, none⟩ = some (.string ⟨l[k].toArray⟩) := by
  obtain ⟨b, off, e, hb, hc⟩ := h (fun h => by have := congrArg List.length h; simp at this; subst this; simp at hk)
  exact ⟨b, off, e, hb, hc k _ (by rw [List.getElem?_map, List.getElem?_eq_getElem hk]; rfl)⟩
/-- 'out = append(out, s)': one text more, on a row of the call's own. -/
theorem wpList_append_txt {P : Program} {ops : Array Oper} {rest : List Oper} {o : Oper} {a : Act} {Q : Exit → Act → World → Prop} {w1 : World} {e : TypeId} {x : ByteArray} (hgd : o.guard = none) (s y : Operand) (t : TypeId)
    (ho : o.op = .call { callee := .builtin .append, args := #[s, y], argTypes := #[t, t] }) (ht : P.underlying t = some (.slice e))
    (hinfo : (P.info? e).map (fun i => (i.zero, i.size, i.bytes)) = some (some (.string ByteArray.empty), 1, 16))
    (base : Nat) (v : Value) (l : List (List UInt8)) (hs : a.eval s = v) (hown : OwnT w1 base e v l)
    (hx : a.eval y = .slice (some ⟨w1.heap.size, 0, none⟩) 1 1) (hlen : l.length < 1000000000000) (hbase : base ≤ w1.heap.size)
    (h : ∀ v' w', OwnT w' base e v' (l ++ [x.data.toList]) → Below base w1 w' → wpList P ops Q rest (a.put o.dst v') w') :
    wpList P ops Q (o :: rest) a (w1.alloc (.cells #[.string x] e)) := by
  obtain ⟨i0, hi0, hz0, hz1, hz2⟩ := info_parts hinfo
  refine wpList_append_own _ hgd s y t ho base e i0 _ 1 16 ht hi0 hz0 hz1 hz2 rfl (by decide) v l.length (l.map txt) hs (World.ownsRow.alloc hown _) ⟨w1.heap.size, 0, none⟩ 1 1 [.string x] hx rfl ?_ ?_ ?_ ?_ ?_ ?_
  · intro j u hj
    match j, hj with
    | 0, hj => simp at hj; subst hj; simp [Addr.add]
    | j + 1, hj => simp at hj
  · intro u hu
    simp at hu
    subst hu; rfl
  · unfold maxLen; omega
  · omega
  · simp; omega
  · intro v' w' hown' hgrow _
    refine h v' w' ?_ ?_
    · unfold OwnT
      rw [List.map_append, List.length_append, List.map_singleton, ← txt_of]
      exact hown'
    · exact ((Below.refl _ _).alloc hbase _).grown hgrow (by simp; omega) (fun k hk => hown.block k hk)
end Go.Proofs.YtemokelgafndpaaGreatDoor
