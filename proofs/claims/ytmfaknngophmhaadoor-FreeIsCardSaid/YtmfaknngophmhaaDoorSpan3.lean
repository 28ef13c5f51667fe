/- span.Others. Any list. -/
import Derived.Test.YtmfaknngophmhaaDoorSpan
namespace Go.Proofs.YtmfaknngophmhaaDoor
set_option linter.unusedVariables false
set_option linter.unusedSimpArgs false
open Go.RowKit

/-- 'out = append(out, p)': one pair more; whatever block is not the row's own stays. -/
theorem wpList_append_pair2 {P : Program} {ops : Array Oper} {rest : List Oper} {o : Oper} {a : Act} {Q : Exit → Act → World → Prop} {w1 : World} {e : TypeId} {p : Int × Int} (hgd : o.guard = none) (s x : Operand) (t : TypeId)
    (ho : o.op = .call { callee := .builtin .append, args := #[s, x], argTypes := #[t, t] }) (ht : P.underlying t = some (.slice e))
    (hinfo : (P.info? e).map (fun i => (i.zero, i.size, i.bytes)) = some (some (.agg #[.int .i64 0, .int .i64 0]), 2, 16))
    (base : Nat) (v : Value) (l : List (Int × Int)) (hs : a.eval s = v) (hown : OwnP w1 base e v l)
    (hx : a.eval x = .slice (some ⟨w1.heap.size, 0, none⟩) 1 1) (hlen : l.length < 1000000000000) (hbase : base ≤ w1.heap.size)
    (h : ∀ v' w', OwnP w' base e v' (l ++ [p]) → Below base w1 w' → (∀ g t cs, Blk w1 g t cs → v.ownBlock ≠ some g → Blk w' g t cs) → wpList P ops Q rest (a.put o.dst v') w') :
    wpList P ops Q (o :: rest) a (w1.alloc (.cells #[.int .i64 p.1, .int .i64 p.2] e)) := by
  obtain ⟨i0, hi0, hz0, hz1, hz2⟩ := info_parts hinfo
  refine wpList_append_own _ hgd s x t ho base e i0 _ 2 16 ht hi0 hz0 hz1 hz2 rfl (by decide) v l.length (cellsP l) hs (World.ownsRow.alloc hown _) ⟨w1.heap.size, 0, none⟩ 1 1 [.int .i64 p.1, .int .i64 p.2] hx rfl ?_ ?_ ?_ ?_ ?_ ?_
  · intro j u hj
    match j, hj with
    | 0, hj => simp at hj; subst hj; simp [Addr.add]
    | 1, hj => simp at hj; subst hj; simp [Addr.add]
    | j + 2, hj => simp at hj
  · intro u hu
    simp at hu
    rcases hu with rfl | rfl <;> rfl
  · unfold maxLen; omega
  · omega
  · simp; omega
  · intro v' w' hown' hgrow _
    refine h v' w' ?_ ?_ ?_
    · unfold OwnP
      rw [cellsP_append, List.length_append]
      exact hown'
    · exact ((Below.refl _ _).alloc hbase _).grown hgrow (by simp; omega) (fun k hk => hown.block k hk)
    · intro g t cs hB hne
      exact (hB.alloc _).grown hgrow (fun e => hne e.symm)
theorem OwnP.far {w : World} {base : Nat} {e : TypeId} {v : Value} {l : List (Int × Int)} (h : OwnP w base e v l) {g : Nat} (hg : w.heap.size ≤ g) : v.ownBlock ≠ some g := fun e => by
  have := (World.ownsRow.lt h g e).2
  omega

theorem others_step (l : List Sp) (k : Nat) (f : Int) (h : k < l.length) : othersGo f (l.drop k) = (if f < l[k].1 then [(f, l[k].1 - 1)] else []) ++ othersGo (l[k].2 + 1) (l.drop (k + 1)) := by
  rw [List.drop_eq_getElem_cons h, othersGo]

set_option maxRecDepth 100000 in
set_option maxHeartbeats 1600000 in
theorem others_any (A : Option Addr) (l : List Sp) (c : Nat) (hlen : l.length ≤ 100000) (hv : Valid l) (w : World) (hl : Rd w w.heap.size A (cellsP l)) :
    Calls Tryd.prog 57 #[.slice A l.length c] w (OwnRes 26 w (others l)) := by
  have HV := Lib.hid hv
  clear hv
  go_enter Tryd.func57, Tryd.ntmps57
  go_wp2
  go_loopw [3, 4, 6, 9] (fun v vf _ vi wr => ∃ (k : Nat) (f : Int) (O : List Sp), k ≤ l.length ∧ vi = .int .i64 k ∧ vf = .int .i64 f ∧ 0 ≤ f ∧ f ≤ 4294967296 ∧ Below w.heap.size w wr ∧ OwnP wr w.heap.size 26 v O ∧ O.length ≤ k ∧ O ++ othersGo f (l.drop k) = others l) (fun _ _ _ vi _ => l.length - (intOf vi).toNat)
  case atStart => exact ⟨0, 0, [], Nat.zero_le _, rfl, rfl, by omega, by omega, Below.refl _ _, OwnP.nil _ _ _, by simp, rfl⟩
  case round =>
    obtain ⟨k, f, O, hk, rfl, rfl, hf0, hf1, hb, hown, hO, hg⟩ := hrel
    by_cases hlt : k < l.length
    · obtain ⟨b, off, rfl, hbb, c0, c1⟩ := (hl.below hb).pair hlt
      obtain ⟨s1, s2, s3⟩ := HV.out l[k] (List.getElem_mem _)
      unfold maxA at s3
      have hs := hb.size
      rw [others_step l k f hlt] at hg
      by_cases h1 : f < l[k].1
      · have HG := Lib.hid (show O ++ [(f, l[k].1 - 1)] ++ othersGo (l[k].2 + 1) (l.drop (k + 1)) = others l by rw [← hg, if_pos h1, List.append_assoc])
        clear hg
        have hown1 := hown.alloc (.cells #[.int .i64 l[k].1, .int .i64 l[k].2] 26)
        have hb1 := hb.alloc hs (.cells #[.int .i64 l[k].1, .int .i64 l[k].2] 26)
        have hs1 := hb1.size
        have hlo := (new2 wr (.int .i64 l[k].1) (.int .i64 l[k].2) 26).2
        have hBn := Blk.new wr 26 #[.int .i64 l[k].1, .int .i64 l[k].2]
        have hfar := hown.far (Nat.le_refl _)
        go_wp2_with (at_builtin; refine wpList_append_pair2 (p := (f, l[k].1 - 1)) rfl _ _ 22 rfl Tryd.underlying22 infoSp w.heap.size _ _ rfl hown1 (by show Value.slice (some ⟨wr.heap.size + 1, 0, none⟩) 1 1 = _; rw [World.size_alloc]) (by omega) hs1 ?_; intro v4 w4 hown4 hb4 hk4; obtain ⟨e0, e1, _⟩ := (hk4 _ _ _ hBn hfar).two)
        go_roundw
        case rel => exact ⟨k + 1, l[k].2 + 1, O ++ [(f, l[k].1 - 1)], by omega, by go_num, by go_num, by omega, by omega, hb1.trans hb4, hown4, by simp; omega, HG.out⟩
        case measure => simp [intOf]; omega
      · have HG := Lib.hid (show O ++ othersGo (l[k].2 + 1) (l.drop (k + 1)) = others l by rw [← hg, if_neg h1, List.nil_append])
        clear hg
        have h1' : decide (f < l[k].1) = false := by simpa using h1
        have hown1 := hown.alloc (.cells #[.int .i64 l[k].1, .int .i64 l[k].2] 26)
        have hb1 := hb.alloc hs (.cells #[.int .i64 l[k].1, .int .i64 l[k].2] 26)
        go_wp2
        go_roundw
        case rel => exact ⟨k + 1, l[k].2 + 1, O, by omega, by go_num, by go_num, by omega, by omega, hb1, hown1, by omega, HG.out⟩
        case measure => simp [intOf]; omega
    · obtain rfl : k = l.length := by omega
      rw [List.drop_length, othersGo] at hg
      by_cases h1 : f ≤ 4294967295
      · have HG := Lib.hid (show O ++ [(f, 4294967295)] = others l by rw [← hg, if_pos (show f ≤ maxA from h1)]; rfl)
        clear hg
        have hs1 := hb.size
        go_wp2_with (at_builtin; refine wpList_append_pair (p := (f, 4294967295)) rfl _ _ 22 rfl Tryd.underlying22 infoSp w.heap.size _ _ rfl hown rfl (by omega) hs1 ?_; intro v4 w4 hown4 hb4)
        go_ret
        exact ⟨_, rfl, HG.out ▸ hown4, hb.trans hb4⟩
      · have HG := Lib.hid (show O = others l by rw [← hg, if_neg (show ¬ f ≤ maxA from h1), List.append_nil])
        clear hg
        have h1' : decide (f ≤ 4294967295) = false := by simpa using h1
        go_wp2
        go_ret
        exact ⟨_, rfl, HG.out ▸ hown, hb⟩
end Go.Proofs.YtmfaknngophmhaaDoor
