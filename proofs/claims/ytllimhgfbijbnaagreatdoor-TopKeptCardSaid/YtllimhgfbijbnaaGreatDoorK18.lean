/- Parts of the proof; conditions: as each theorem says. -/
import Derived.Test.YtllimhgfbijbnaaGreatDoorK12
import Derived.Test.YtllimhgfbijbnaaGreatDoorK17
import Derived.Lib.SliceRun
set_option linter.unusedVariables false
set_option linter.unusedSimpArgs false
set_option maxRecDepth 100000
set_option maxHeartbeats 40000000
namespace Go.Proofs.YtllimhgfbijbnaaGreatDoor
open Go.RowKit
theorem new_ok (room : Int) (hr : 0 ≤ room ∧ room ≤ 100000) (w : World) (b0 : Nat) (hb : b0 ≤ w.heap.size) :
  Calls Tryz.prog 62 #[.int .i64 room] w fun e w' => e = .returned (.tuple #[.pointer (some ⟨w.heap.size, 0, none⟩), .nilIface]) ∧ LogAt w' b0 w.heap.size (.slice none 0 0) (-1) false room [] 0 ∧ Below w.heap.size w w' := by
 obtain ⟨h1, h2⟩ := hr
 have d1 : decide (room < 0) = false := decide_eq_false (by omega)
 have d2 : decide ((100000 : Int) < room) = false := decide_eq_false (by omega)
 go_enter Tryz.func62, Tryz.ntmps62
 go_wp2
 go_ret2
 refine ⟨rfl, ⟨Blk.new _ _ _, hb, World.ownsRow_nil _ _ _ _, by omega, ⟨h1, h2, by simp; omega⟩, by simp, by simp; omega⟩, (Below.refl _ _).alloc (Nat.le_refl _) _⟩
theorem new_bad (room : Int) (hr : room < 0 ∨ 100000 < room) (w : World) :
  Calls Tryz.prog 62 #[.int .i64 room] w fun e w' => e = .returned (.tuple #[.pointer none, .iface 89 (.int .i64 1)]) ∧ w' = w := by
 by_cases h1 : room < 0
 ·have d1 : decide (room < 0) = true := decide_eq_true h1
  go_enter Tryz.func62, Tryz.ntmps62
  go_wp2
  go_ret2
  exact ⟨rfl, rfl⟩
 ·have d1 : decide (room < 0) = false := decide_eq_false h1
  have d2 : decide ((100000 : Int) < room) = true := decide_eq_true (by omega)
  go_enter Tryz.func62, Tryz.ntmps62
  go_wp2
  go_ret2
  exact ⟨rfl, rfl⟩
section
variable {w : World} {b0 g : Nat} {v : Value} {left room : Int} {down : Bool} {B : List UInt8} {safe : Nat}
theorem LogAt.fail (h : LogAt w b0 g v left down room B safe) (n : Int) (hn : (Lit.int .i64 n).wf = true) :
  Calls Tryz.prog 95 #[.pointer (some ⟨g, 0, none⟩), .int .i64 n] w fun e w' => e = .returned (.tuple #[]) ∧ LogAt w' b0 g v (if n < -1 then -1 else n) down room B safe ∧ LK w w' g v := by
 obtain ⟨⟨x0, x1, x2, x3, x4⟩, z0, z1, z3, z4⟩ := h.cells
 have hi := i64_of hn
 have H := Hd h
 clear h hn
 by_cases h1 : n < -1
 ·rw [if_pos h1]
  go_enter Tryz.func95, Tryz.ntmps95
  go_wp2
  all_goals first
   | omega
   | (go_end0; exact ⟨rfl, H.out.write ((LK.refl w g .nilIface).setCell 0 _) (H.out.hB.setCell 0 _) (by omega) H.out.hs, (LK.refl w g v).setCell 0 _⟩)
 ·rw [if_neg h1]
  go_enter Tryz.func95, Tryz.ntmps95
  go_wp2
  all_goals first
   | omega
   | (go_end0; exact ⟨rfl, H.out.write ((LK.refl w g .nilIface).setCell 0 _) (H.out.hB.setCell 0 _) (by omega) H.out.hs, (LK.refl w g v).setCell 0 _⟩)
theorem LogAt.sync_down (h : LogAt w b0 g v left true room B safe) :
  Calls Tryz.prog 94 #[.pointer (some ⟨g, 0, none⟩)] w fun e w' => e = .returned (.iface 89 (.int .i64 8)) ∧ w' = w := by
 obtain ⟨⟨x0, x1, x2, x3, x4⟩, z0, z1, z3, z4⟩ := h.cells
 go_enter Tryz.func94, Tryz.ntmps94
 go_wp2
 go_ret
 exact ⟨rfl, rfl⟩
theorem LK.of_nil {w w' : World} {g : Nat} {v : Value} (h : LK w w' g .nilIface) : LK w w' g v := ⟨h.os, h.tape, h.output, h.size, fun k hk h1 _ => h.block k hk h1 (by simp [Value.ownBlock])⟩
theorem LogAt.sync_off (h : LogAt w b0 g v 0 false room B safe) :
  Calls Tryz.prog 94 #[.pointer (some ⟨g, 0, none⟩)] w fun e w' => e = .returned (.iface 89 (.int .i64 8)) ∧ LogAt w' b0 g v (-1) true room B safe ∧ LK w w' g v := by
 obtain ⟨⟨x0, x1, x2, x3, x4⟩, z0, z1, z3, z4⟩ := h.cells
 have H := Hd h
 clear h
 go_enter Tryz.func94, Tryz.ntmps94
 go_wp2_with fail
 refine (step_any g 0 false _ _ _ H.out.hl w H.out.hB).mono ?_
 rintro e w1 ⟨rfl, hB1, hk1⟩
 have hB1' : Blk w1 g 182 #[.int .i64 (-1), .bool true, .int .i64 room, v, .int .i64 safe] := hB1
 clear hB1
 go_wp2
 go_ret
 exact ⟨rfl, H.out.write hk1 hB1' (by omega) H.out.hs, hk1.of_nil⟩
theorem leftS_range {left : Int} (h : -1 ≤ left ∧ left ≤ 9223372036854775807) (h0 : left ≠ 0) : -1 ≤ leftS left ∧ leftS left ≤ 9223372036854775807 := by
 unfold leftS
 split <;> omega
theorem LogAt.sync_on (h : LogAt w b0 g v left false room B safe) (h0 : left ≠ 0) :
  Calls Tryz.prog 94 #[.pointer (some ⟨g, 0, none⟩)] w fun e w' => e = .returned .nilIface ∧ LogAt w' b0 g v (leftS left) false room B B.length ∧ LK w w' g v := by
 obtain ⟨⟨x0, x1, x2, x3, x4⟩, z0, z1, z3, z4⟩ := h.cells
 have hrg := Hd (leftS_range h.hl h0)
 have h1 : (left != 0) = true := by simpa using h0
 have h2 : (left == 0) = false := by simpa using h0
 have hBl : (B.length : Int) ≤ 100000 := by have := h.hr; omega
 obtain ⟨A, c, rfl, _⟩ := own_form h.ho
 have H := Hd h
 clear h h0
 go_enter Tryz.func94, Tryz.ntmps94
 go_wp2_with fail
 refine (step_any g left false _ _ _ H.out.hl w H.out.hB).mono ?_
 rintro e w1 ⟨rfl, hB1, hk1⟩
 rw [h2] at hB1
 have y3 : w1.cell? ⟨g, 3, none⟩ = some (.slice A B.length c) := hB1.cell 3
 have y4 : w1.cell? ⟨g, 4, none⟩ = some (.int .i64 safe) := hB1.cell 4
 have u4 := hB1.frozen 4
 go_wp2_with fail
 go_ret
 exact ⟨rfl, H.out.write (hk1.setCell 4 _) (hB1.setCell 4 _) hrg.out (Nat.le_refl _), (hk1.setCell 4 _).of_nil⟩
end
theorem own_empty (w : World) (e : TypeId) {base : Nat} (hb : base ≤ w.heap.size) : (w.alloc (.cells #[] e)).ownsRow base e 1 (.slice (some ⟨w.heap.size, 0, none⟩) 0 0) 0 [] :=
 ⟨rfl, .inr ⟨w.heap.size, 0, #[], rfl, hb, heap_alloc_new w _, Nat.le_refl _, by simp, rfl, rfl⟩⟩
theorem clone_nil (w : World) :
  Calls Tryz.prog 106 #[.slice none 0 0] w fun e w' => e = .returned (.slice none 0 0) ∧ w' = w := by
 have k1 : ∀ w : World, (binOp .eql 134 (.slice none 0 0) (.slice none 0 0)).run Tryz.prog w = .ok (.bool true) w := fun w => Lib.run_eql_slice_nil (P := Tryz.prog) w 134 5 none 0 0 0 0 Tryz.underlying134
 go_enter Tryz.func106, Tryz.ntmps106
 go_wp2
 go_ret
 exact ⟨rfl, rfl⟩
theorem clone_some (a : Addr) (l : List UInt8) (m c : Nat) (hm : m = l.length) (hl : l.length ≤ 1000000000) (w : World) (hr : Rd w w.heap.size (some a) (bytesV l)) :
  Calls Tryz.prog 106 #[.slice (some a) m c] w fun e w' => ∃ v, e = .returned v ∧ w'.ownsRow w.heap.size 5 1 v l.length (bytesV l) ∧ Below w.heap.size w w' := by
 subst hm
 have k1 : ∀ w : World, (binOp .eql 134 (.slice (some a) l.length c) (.slice none 0 0)).run Tryz.prog w = .ok (.bool false) w := fun w => Lib.run_eql_slice_nil (P := Tryz.prog) w 134 5 (some a) l.length c 0 0 Tryz.underlying134
 go_enter Tryz.func106, Tryz.ntmps106
 go_wp2_with (at_builtin; refine wpList_append_rd rfl _ _ 134 rfl 5 Tryz.underlying134 _ 1 1 infoU8 rfl (by decide) w.heap.size _ 0 [] rfl (own_empty w 5 (Nat.le_refl _)) w.heap.size (some a) l.length c (bytesV l) rfl (by rw [bytesV_length]; omega) (hr.alloc (Nat.le_refl _) _) (bytesV_one _) (by unfold maxLen; omega) (by omega) (by simp) ?_; intro v1 w1 hown1 hb1)
 go_ret
 refine ⟨v1, rfl, ?_, ((Below.refl _ _).alloc (Nat.le_refl _) _).trans hb1⟩
 simpa using hown1
theorem clone_any (A : Option Addr) (l : List UInt8) (m c : Nat) (hA : A = none → m = 0 ∧ c = 0) (hm : m = l.length) (hl : l.length ≤ 1000000000) (w : World) (hr : Rd w w.heap.size A (bytesV l)) :
  Calls Tryz.prog 106 #[.slice A m c] w fun e w' => ∃ v, e = .returned v ∧ w'.ownsRow w.heap.size 5 1 v l.length (bytesV l) ∧ Below w.heap.size w w' := by
 rcases A with _ | a
 ·obtain ⟨rfl, rfl⟩ := hA rfl
  have : l = [] := List.eq_nil_of_length_eq_zero hm.symm
  subst this
  refine (clone_nil w).mono ?_
  rintro e w' ⟨rfl, rfl⟩
  exact ⟨_, rfl, World.ownsRow_nil _ _ _ _, Below.refl _ _⟩
 ·exact clone_some a l m c hm hl w hr
theorem own_form3 {w : World} {base size n : Nat} {e : TypeId} {v : Value} {xs : List Value} (h : w.ownsRow base e size v n xs) : ∃ A c, v = .slice A n c ∧ n ≤ c ∧ (A = none → n = 0 ∧ c = 0) ∧ Rd w w.heap.size A xs := by
 obtain ⟨A, c, rfl, hc, hr⟩ := own_form2 h
 refine ⟨A, c, rfl, hc, fun e => ?_, hr⟩
 subst e
 rcases h.2 with ⟨h1, h2⟩ | ⟨g, cap, cur, hv, _⟩
 ·injection h1 with _ _ h3
  exact ⟨h2, h3⟩
 ·cases hv
theorem LogAt.bytes_ok {w : World} {b0 g : Nat} {v : Value} {left room : Int} {down : Bool} {B : List UInt8} {safe : Nat} (h : LogAt w b0 g v left down room B safe) :
  Calls Tryz.prog 71 #[.pointer (some ⟨g, 0, none⟩)] w fun e w' => ∃ v, e = .returned v ∧ w'.ownsRow w.heap.size 5 1 v B.length (bytesV B) ∧ Below w.heap.size w w' := by
 obtain ⟨⟨x0, x1, x2, x3, x4⟩, z0, z1, z3, z4⟩ := h.cells
 obtain ⟨A, c, rfl, _, hA, hr⟩ := own_form3 h.ho
 have hBl : B.length ≤ 1000000000 := by have := h.hr; omega
 have H := Hd h
 clear h
 go_enter Tryz.func71, Tryz.ntmps71
 go_wp2_with fail
 refine (clone_any A B B.length c hA rfl hBl w hr).mono ?_
 rintro e w1 ⟨v1, rfl, ho, hb⟩
 go_wp2
 go_ret
 exact ⟨v1, rfl, ho, hb⟩
theorem infoSl : (Tryz.prog.info? 143).map (fun i => (i.zero, i.size, i.bytes)) = some (some (.slice none 0 0), 1, 24) := by kernel_rfl
def OwnLL (w : World) (base : Nat) (v : Value) (ls : List (List Chg)) : Prop :=
 ∃ xs : List Value, w.ownsRow base 143 1 v ls.length xs ∧ ∀ i (h : i < ls.length), ∃ u, xs[i]? = some u ∧ w.ownsRow base 145 3 u ls[i].length (cellsC ls[i])
theorem OwnLL.nil (w : World) (base : Nat) : OwnLL w base (.slice none 0 0) [] := ⟨[], World.ownsRow_nil _ _ _ _, fun i h => by simp at h⟩
theorem OwnLL.below {w w' : World} {base : Nat} {v : Value} {ls : List (List Chg)} (h : OwnLL w base v ls) (hb : Below w.heap.size w w') : OwnLL w' base v ls := by
 obtain ⟨xs, h1, h2⟩ := h
 exact ⟨xs, own_below h1 hb, fun i hi => by obtain ⟨u, h3, h4⟩ := h2 i hi; exact ⟨u, h3, own_below h4 hb⟩⟩
theorem own_grown {w w' : World} {base size n base2 size2 n2 : Nat} {e e2 : TypeId} {v v2 : Value} {xs xs2 : List Value} (h : w.ownsRow base e size v n xs) (h2 : w.ownsRow base2 e2 size2 v2 n2 xs2) (he : e ≠ e2) (hg : w.grownBy w' v2.ownBlock) : w'.ownsRow base e size v n xs := by
 have hd := own_types h h2 he
 rcases h.2 with ⟨h3, h4⟩ | ⟨g2, cap, cur, rfl, hb, hh, r⟩
 ·exact ⟨h.1, .inl ⟨h3, h4⟩⟩
 ·refine ⟨h.1, .inr ⟨g2, cap, cur, rfl, hb, ?_, r⟩⟩
  rw [hg.block g2 (Array.getElem?_eq_some_iff.1 hh).1 (hd g2 rfl)]
  exact hh
theorem wpList_append_one2 {P : Program} {ops : Array Oper} {rest : List Oper} {o : Oper} {a : Act} {Q : Exit → Act → World → Prop} {w1 : World} {e : TypeId} {u : Value} (hgd : o.guard = none) (s x : Operand) (t : TypeId)
  (ho : o.op = .call { callee := .builtin .append, args := #[s, x], argTypes := #[t, t] }) (ht : P.underlying t = some (.slice e)) (z : Value) (bytes : Nat)
  (hinfo : (P.info? e).map (fun i => (i.zero, i.size, i.bytes)) = some (some z, 1, bytes)) (hzs : z.cells.size = 1) (hby : bytes ≤ 1024)
  (base : Nat) (v : Value) (n : Nat) (xs : List Value) (hs : a.eval s = v) (hown : w1.ownsRow base e 1 v n xs)
  (hx : a.eval x = .slice (some ⟨w1.heap.size, 0, none⟩) 1 1) (h1 : u.oneCell' = true) (hlen : n < 10000000000) (hbase : base ≤ w1.heap.size)
  (h : ∀ v' w', w'.ownsRow base e 1 v' (n + 1) (xs ++ [u]) → w1.grownBy w' v.ownBlock → Below base w1 w' → wpList P ops Q rest (a.put o.dst v') w') :
  wpList P ops Q (o :: rest) a (w1.alloc (.cells #[u] e)) := by
 obtain ⟨i0, hi0, hz0, hz1, hz2⟩ := info_parts hinfo
 refine wpList_append_own _ hgd s x t ho base e i0 _ 1 bytes ht hi0 hz0 hz1 hz2 hzs (by decide) v n xs hs (hown.alloc _) ⟨w1.heap.size, 0, none⟩ 1 1 [u] hx rfl ?_ ?_ ?_ ?_ ?_ ?_
 ·intro j u' hj
  match j, hj with
  | 0, hj => simp at hj; subst hj; simp [Addr.add]
  | j + 1, hj => simp at hj
 ·intro u' hu
  simp at hu
  subst hu
  exact h1
 ·unfold maxLen; omega
 ·have := Nat.mul_le_mul (show n + 1 ≤ 10000000000 by omega) hby; omega
 ·simp; omega
 ·intro v' w' hown' hgrow _
  refine h v' w' hown' ?_ (((Below.refl _ _).alloc hbase _).grown hgrow (by simp; omega) (fun k hk => (hown.lt k hk).1))
  refine ⟨hgrow.os, hgrow.tape, hgrow.output, by have := hgrow.size; simp at this; omega, fun k hk hne => ?_⟩
  have h1 := hgrow.block k (by simp; omega) hne
  rw [h1]
  exact Below.heap_alloc w1 _ k hk
theorem OwnLL.snoc {w w' : World} {base : Nat} {v v' u : Value} {ls : List (List Chg)} {m : List Chg} {xs : List Value} (h1 : w.ownsRow base 143 1 v ls.length xs)
  (h2 : ∀ i (h : i < ls.length), ∃ u, xs[i]? = some u ∧ w.ownsRow base 145 3 u ls[i].length (cellsC ls[i])) (hu : w.ownsRow base 145 3 u m.length (cellsC m))
  (ho : w'.ownsRow base 143 1 v' (ls.length + 1) (xs ++ [u])) (hg : w.grownBy w' v.ownBlock) : OwnLL w' base v' (ls ++ [m]) := by
 have hxl : xs.length = ls.length := by simpa using h1.1
 refine ⟨xs ++ [u], by simpa using ho, fun i hi => ?_⟩
 rcases Nat.lt_or_ge i ls.length with h | h
 ·obtain ⟨y, h3, h4⟩ := h2 i h
  refine ⟨y, by rw [List.getElem?_append_left (by omega)]; exact h3, ?_⟩
  rw [List.getElem_append_left h]
  exact own_grown h4 h1 (by decide) hg
 ·have : i = ls.length := by simp at hi; omega
  subst this
  refine ⟨u, by rw [← hxl]; simp, ?_⟩
  simp only [List.getElem_concat_length]
  exact own_grown hu h1 (by decide) hg
theorem LogAt.lists_ok {w : World} {b0 g : Nat} {v : Value} {left room : Int} {down : Bool} {B : List UInt8} {safe : Nat} (h : LogAt w b0 g v left down room B safe) :
  Calls Tryz.prog 138 #[.pointer (some ⟨g, 0, none⟩)] w fun e w' => ∃ vo, e = .returned (.tuple #[vo, .int .i64 ((parse B).2 : Nat)]) ∧ OwnLL w' w.heap.size vo (parse B).1 ∧ Below w.heap.size w w' := by
 obtain ⟨⟨x0, x1, x2, x3, x4⟩, _⟩ := h.cells
 obtain ⟨A0, c0, rfl, hc0, hA0, hr0⟩ := own_form3 h.ho
 have hBl : B.length ≤ 100000 := by have := h.hr; omega
 have hgl := h.hB.lt
 have H := Hd h
 clear h x0 x1 x2 x4
 go_enter Tryz.func138, Tryz.ntmps138
 go_wp2
 go_loopw [2, 3, 4, 5, 6, 7] (fun v2 v3 v4 _ _ _ wr => ∃ (en : Nat) (outs : List (List Chg)) (Ar : Option Addr) (cr : Nat), v3 = .int .i64 en ∧ v4 = .slice Ar (B.drop en).length cr ∧ en ≤ B.length ∧ outs.length ≤ en ∧ (B.drop en).length ≤ cr ∧ Rd wr w.heap.size Ar (bytesV (B.drop en)) ∧ OwnLL wr w.heap.size v2 outs ∧ Below w.heap.size w wr ∧ parse B = (outs ++ (parse (B.drop en)).1, en + (parse (B.drop en)).2)) (fun _ v3 _ _ _ _ _ => B.length - (intOf v3).toNat)
 case atStart => exact ⟨0, [], A0, c0, rfl, rfl, Nat.zero_le _, by simp, hc0, hr0, OwnLL.nil _ _, Below.refl _ _, by simp⟩
 case round =>
  obtain ⟨en, outs, Ar, cr, rfl, rfl, hen, hoe, hcr, hr, ho, hb, hp⟩ := hrel
  have hs := hb.size
  obtain ⟨r, hre⟩ : ∃ r, r = B.drop en := ⟨_, rfl⟩
  obtain ⟨rl, hrl⟩ : ∃ rl, rl = (B.drop en).length := ⟨_, rfl⟩
  rw [← hrl] at hcr ⊢
  rw [← hre] at hr hp
  have hrl1 : rl = r.length := by rw [hrl, hre]
  have hrl2 : rl = B.length - en := by rw [hrl]; simp
  have HRL := Hd hrl2
  have HRE := Hd hre
  have hrlb : (rl : Int) ≤ 100000 := by omega
  clear hre hrl hrl2
  match r with
  | [] =>
   have HP := Hd (show parse B = (outs, en) by rw [hp]; simp [parse_stuck (t := []) trivial])
   have hlt : (rl : Int) < 2 := by simp at hrl1; omega
   have HO := Hd ho
   clear hp hrl1 ho
   go_wp2
   go_ret2
   rw [HP.out]
   exact ⟨u2, rfl, HO.out, hb⟩
  | [_] =>
   have HP := Hd (show parse B = (outs, en) by rw [hp]; simp [parse_stuck (t := [_]) trivial])
   have hlt : (rl : Int) < 2 := by simp at hrl1; omega
   have HO := Hd ho
   clear hp hrl1 ho
   go_wp2
   go_ret2
   rw [HP.out]
   exact ⟨u2, rfl, HO.out, hb⟩
  | y :: z :: q =>
   obtain ⟨b, off, rfl, hbb, cy⟩ := hr.byte (k := 0) (by simp)
   obtain ⟨b', off', hA, _, cz⟩ := hr.byte (k := 1) (by simp)
   obtain ⟨rfl, rfl⟩ : b = b' ∧ off = off' := by simpa using hA
   simp at cy cz
   have k0 : ∀ x : BelW wr.heap.size wr, x.1.cell? ⟨b, off, none⟩ = some (.int .u8 (y.toNat : Int)) := BelW.cell cy (show b < _ by omega)
   have k1 : ∀ x : BelW wr.heap.size wr, x.1.cell? ⟨b, off + 1, none⟩ = some (.int .u8 (z.toNat : Int)) := BelW.cell cz (show b < _ by omega)
   have hy : (y.toNat : Int) ≤ 255 := by have := y.toNat_lt; omega
   have hz : (z.toNat : Int) ≤ 255 := by have := z.toNat_lt; omega
   have hge : ¬ (rl : Int) < 2 := by simp at hrl1; omega
   have hge2 : (2 : Int) ≤ (rl : Int) := by omega
   have hge3 : (0 : Int) < (rl : Int) := by omega
   have hge4 : (1 : Int) < (rl : Int) := by omega
   have hql : q.length + 2 = rl := by rw [hrl1]; simp
   have HQL := Hd hql
   clear hrl1 hql hA cy cz
   rcases Nat.lt_or_ge q.length (y.toNat * 256 + z.toNat) with hq | hq
   ·have HP := Hd (show parse B = (outs, en) by rw [hp, parse_step, if_pos hq]; simp)
    have hd1 : decide ((rl : Int) < 2 + (y.toNat : Int) * 256 + (z.toNat : Int)) = true := decide_eq_true (by have := HQL.out; omega)
    have HO := Hd ho
    clear hp ho hq
    go_wp2_with fail
    refine wp_region_bel wr.heap.size wr (by kernel_rfl) (by kernel_rfl) (Below.refl _ _) ?_
    repeat (go_big_quiet_step (fail))
    refine wpQuiet_nil ?_
    intro w2 hb2
    clear k0 k1
    go_wp2
    go_ret2
    rw [HP.out]
    exact ⟨u2, rfl, HO.out.below hb2, hb.trans (hb2.mono hs)⟩
   ·have hd1 : decide ((rl : Int) < 2 + (y.toNat : Int) * 256 + (z.toNat : Int)) = false := decide_eq_false (by have := HQL.out; omega)
    have hd2 : (2 : Int) + (y.toNat : Int) * 256 + (z.toNat : Int) ≤ (cr : Int) := by have := HQL.out; omega
    have hd3 : (2 : Int) ≤ 2 + (y.toNat : Int) * 256 + (z.toNat : Int) := by omega
    have hd4 : (2 : Int) + (y.toNat : Int) * 256 + (z.toNat : Int) ≤ 100000 := by have := HQL.out; omega
    rw [parse_step, if_neg (by omega)] at hp
    rcases Nat.eq_or_lt_of_le (show 2 ≤ cr by have := HQL.out; omega) with hc2 | hc2
    ·subst hc2
     have HZ := Hd (show y.toNat * 256 + z.toNat = 0 by have := HQL.out; omega)
     have HP := Hd (show parse B = (outs, en) by rw [hp, HZ.out]; simp [decL])
     have HO := Hd ho
     clear hp ho hq
     go_wp2_with fail
     refine wp_region_bel wr.heap.size wr (by kernel_rfl) (by kernel_rfl) (Below.refl _ _) ?_
     repeat (go_big_quiet_step (fail))
     refine wpQuiet_nil ?_
     intro w2 hb2
     clear k0 k1
     go_wp2_with fail
     refine (decode_bad _ [] _ 0 (by have := HZ.out; simp; omega) (by simp) (by simp) rfl w2 Rd.nil).mono ?_
     rintro e w3 ⟨rfl, hb3⟩
     have hs2 := hb2.size
     go_wp2
     go_ret2
     rw [HP.out]
     exact ⟨u2, rfl, (HO.out.below hb2).below hb3, (hb.trans (hb2.mono hs)).trans (hb3.mono (by omega))⟩
    ·have hcn : ¬ cr = 2 := by omega
     have hrq : Rd wr w.heap.size (some ⟨b, off + 2, none⟩) (bytesV (q.take (y.toNat * 256 + z.toNat))) := (hr.bytesDrop 2).bytesTake _
     have hql2 : (q.take (y.toNat * 256 + z.toNat)).length = y.toNat * 256 + z.toNat := by simp; omega
     have HQ2 := Hd hql2
     have HCR := Hd (show q.length + 2 ≤ cr by have := HQL.out; omega)
     have HQq := Hd hq
     clear hr hql2 hq
     cases hd : decL (q.take (y.toNat * 256 + z.toNat)) with
     | none =>
      have HP := Hd (show parse B = (outs, en) by rw [hp, hd]; simp)
      have HD := Hd hd
      have HO := Hd ho
      clear hp ho hd
      go_wp2_with fail
      refine wp_region_bel wr.heap.size wr (by kernel_rfl) (by kernel_rfl) (Below.refl _ _) ?_
      repeat (go_big_quiet_step (fail))
      refine wpQuiet_nil ?_
      intro w2 hb2
      clear k0 k1
      go_wp2_with fail
      have hs2 := hb2.size
      refine (decode_bad _ (q.take (y.toNat * 256 + z.toNat)) _ (cr - 2) (by rw [HQ2.out]; omega) (by rw [HQ2.out]; unfold maxLen; omega) (by rw [HQ2.out]; have := HQq.out; have := HCR.out; omega) HD.out w2 ((hrq.below (hb2.mono hs)).more (by omega))).mono ?_
      rintro e w3 ⟨rfl, hb3⟩
      go_wp2
      go_ret2
      rw [HP.out]
      exact ⟨u2, rfl, (HO.out.below hb2).below hb3, (hb.trans (hb2.mono hs)).trans (hb3.mono (by omega))⟩
     | some m =>
      obtain ⟨e1, e2⟩ : ∃ e1, e1 = en + (2 + (y.toNat * 256 + z.toNat)) := ⟨_, rfl⟩
      have hdr : B.drop e1 = q.drop (y.toNat * 256 + z.toNat) := by
       rw [e2, ← List.drop_drop, ← HRE.out, Nat.add_comm 2]
       rfl
      rw [hd] at hp
      have HP := Hd (show parse B = ((outs ++ [m]) ++ (parse (B.drop e1)).1, e1 + (parse (B.drop e1)).2) by rw [hp, hdr]; simp [e2]; omega)
      have HE2 := Hd e2
      have he1 : e1 ≤ B.length := by have := HRL.out; have := HQL.out; have := HQq.out; omega
      have HD := Hd hd
      have HO := Hd ho
      obtain ⟨b1, off1, hA1, hbb1, hcc1⟩ := hr0.byte (k := 0) (by have := HRL.out; omega)
      clear hcc1
      subst hA1
      have hx5 : (en : Int) + (2 + (y.toNat : Int) * 256 + (z.toNat : Int)) = (e1 : Int) := by omega
      have hx6 : (e1 : Int) ≤ (B.length : Int) := by omega
      have hx7 : (0 : Int) ≤ (e1 : Int) := by omega
      clear hp ho hd e2 hdr
      rcases Nat.eq_or_lt_of_le (show e1 ≤ c0 by omega) with hc9 | hc9
      ·subst hc9
       go_wp2_with fail
       refine wp_region_bel wr.heap.size wr (by kernel_rfl) (by kernel_rfl) (Below.refl _ _) ?_
       repeat (go_big_quiet_step (fail))
       refine wpQuiet_nil ?_
       intro w2 hb2
       clear k0 k1
       go_wp2_with fail
       have hs2 := hb2.size
       refine (decode_ok _ (q.take (y.toNat * 256 + z.toNat)) _ (cr - 2) (by rw [HQ2.out]; omega) (by rw [HQ2.out]; unfold maxLen; omega) (by rw [HQ2.out]; have := HQq.out; have := HCR.out; omega) HD.out w2 ((hrq.below (hb2.mono hs)).more (by omega))).mono ?_
       rintro e w3 ⟨v3, rfl, ho3, hb3⟩
       have hs3 := hb3.size
       have hbw3 := (hb.trans (hb2.mono hs)).trans (hb3.mono (by omega))
       obtain ⟨xs, g1, g2⟩ := (HO.out.below hb2).below hb3
       have hx3 : w3.cell? ⟨g, 3, none⟩ = some (.slice (some ⟨b1, off1, none⟩) B.length e1) := (hbw3.cell (p := ⟨g, 3, none⟩) hgl).trans x3
       obtain ⟨Am, cm, rfl, _⟩ := own_form ho3
       have HO3 := Hd (own_of_base ho3 (show w.heap.size ≤ w2.heap.size by omega))
       have HG1 := Hd g1
       have HG2 := Hd g2
       have holen : outs.length ≤ 100000 := by omega
       clear ho3 g1 g2
       go_wp2_with (at_builtin; refine wpList_append_one2 rfl _ _ 177 rfl Tryz.underlying177 _ 24 infoSl rfl (by decide) w.heap.size u2 outs.length xs rfl HG1.out rfl rfl (by omega) (by omega) ?_; intro v4 w4 hown4 hgrow4 hb4; have hx4 := (hb4.cell (p := ⟨g, 3, none⟩) hgl).trans hx3)
       have hs4 := hb4.size
       have hbw4 := hbw3.trans hb4
       go_roundw
       case rel => exact ⟨e1, outs ++ [m], some ⟨b1, off1, none⟩, 0, by first | rfl | go_num, by first | (simp; done) | (simp; omega), he1, by have := HE2.out; simp; omega, by simp; omega, by rw [List.drop_eq_nil_of_le hc0]; exact Rd.nil, OwnLL.snoc HG1.out HG2.out HO3.out hown4 hgrow4, hbw4, HP.out⟩
       case measure => have := HE2.out; have := HRL.out; have := HQL.out; simp [intOf]; omega
      ·have hcn9 : ¬ c0 = e1 := by omega
       go_wp2_with fail
       refine wp_region_bel wr.heap.size wr (by kernel_rfl) (by kernel_rfl) (Below.refl _ _) ?_
       repeat (go_big_quiet_step (fail))
       refine wpQuiet_nil ?_
       intro w2 hb2
       clear k0 k1
       go_wp2_with fail
       have hs2 := hb2.size
       refine (decode_ok _ (q.take (y.toNat * 256 + z.toNat)) _ (cr - 2) (by rw [HQ2.out]; omega) (by rw [HQ2.out]; unfold maxLen; omega) (by rw [HQ2.out]; have := HQq.out; have := HCR.out; omega) HD.out w2 ((hrq.below (hb2.mono hs)).more (by omega))).mono ?_
       rintro e w3 ⟨v3, rfl, ho3, hb3⟩
       have hs3 := hb3.size
       have hbw3 := (hb.trans (hb2.mono hs)).trans (hb3.mono (by omega))
       obtain ⟨xs, g1, g2⟩ := (HO.out.below hb2).below hb3
       have hx3 : w3.cell? ⟨g, 3, none⟩ = some (.slice (some ⟨b1, off1, none⟩) B.length c0) := (hbw3.cell (p := ⟨g, 3, none⟩) hgl).trans x3
       obtain ⟨Am, cm, rfl, _⟩ := own_form ho3
       have HO3 := Hd (own_of_base ho3 (show w.heap.size ≤ w2.heap.size by omega))
       have HG1 := Hd g1
       have HG2 := Hd g2
       have holen : outs.length ≤ 100000 := by omega
       clear ho3 g1 g2
       go_wp2_with (at_builtin; refine wpList_append_one2 rfl _ _ 177 rfl Tryz.underlying177 _ 24 infoSl rfl (by decide) w.heap.size u2 outs.length xs rfl HG1.out rfl rfl (by omega) (by omega) ?_; intro v4 w4 hown4 hgrow4 hb4; have hx4 := (hb4.cell (p := ⟨g, 3, none⟩) hgl).trans hx3)
       have hs4 := hb4.size
       have hbw4 := hbw3.trans hb4
       go_roundw
       case rel => exact ⟨e1, outs ++ [m], some ⟨b1, off1 + e1, none⟩, c0 - e1, by first | rfl | go_num, by first | (simp; done) | (simp; omega), he1, by have := HE2.out; simp; omega, by simp; omega, (hr0.bytesDrop e1).below hbw4, OwnLL.snoc HG1.out HG2.out HO3.out hown4 hgrow4, hbw4, HP.out⟩
       case measure => have := HE2.out; have := HRL.out; have := HQL.out; simp [intOf]; omega
theorem LogAt.read_ok {w : World} {b0 g : Nat} {v : Value} {left room : Int} {down : Bool} {B : List UInt8} {safe : Nat} (h : LogAt w b0 g v left down room B safe) :
  Calls Tryz.prog 97 #[.pointer (some ⟨g, 0, none⟩)] w fun e w' => ∃ vo, e = .returned vo ∧ OwnLL w' w.heap.size vo (parse B).1 ∧ Below w.heap.size w w' := by
 have H := Hd h
 clear h
 go_enter Tryz.func97, Tryz.ntmps97
 go_wp2_with fail
 refine H.out.lists_ok.mono ?_
 rintro e w1 ⟨vo, rfl, ho, hb⟩
 go_wp2
 go_ret
 exact ⟨vo, rfl, ho, hb⟩
section
variable {w : World} {b0 g : Nat} {v : Value} {left room : Int} {down : Bool} {B : List UInt8} {safe : Nat}
theorem LogAt.safe_ok (h : LogAt w b0 g v left down room B safe) :
  Calls Tryz.prog 93 #[.pointer (some ⟨g, 0, none⟩)] w fun e w' => e = .returned (.int .i64 safe) ∧ w' = w := by
 obtain ⟨⟨x0, x1, x2, x3, x4⟩, z0, z1, z3, z4⟩ := h.cells
 go_enter Tryz.func93, Tryz.ntmps93
 go_wp2
 go_ret
 exact ⟨rfl, rfl⟩
end
end Go.Proofs.YtllimhgfbijbnaaGreatDoor
