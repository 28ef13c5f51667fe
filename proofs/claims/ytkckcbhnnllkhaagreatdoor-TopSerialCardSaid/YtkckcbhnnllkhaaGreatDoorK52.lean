/- Parts of the proof; conditions: as each theorem says. -/
import Derived.Test.YtkckcbhnnllkhaaGreatDoorK49
import Derived.Test.YtkckcbhnnllkhaaGreatDoorK51
import Derived.Test.YtkckcbhnnllkhaaGreatDoorK50
import Derived.Test.YtkckcbhnnllkhaaGreatDoorK45
set_option linter.unusedVariables false
set_option linter.unusedSimpArgs false
set_option maxRecDepth 100000
set_option maxHeartbeats 40000000
namespace Go.Proofs.YtkckcbhnnllkhaaGreatDoor
open Go.RowKit
def hX : Hl := ⟨gNext (Dk.new 100000) ⟨nKey [120], [111], false⟩, []⟩
theorem one_calls : CallW oNet ∧ CallW oAdd ∧ CallW oNxt :=
 ⟨⟨by decide, by decide, by decide, by decide, by decide, by decide, by decide⟩, ⟨by decide, by decide, by decide, by decide, by decide, by decide, by decide⟩, ⟨by decide, by decide, by decide, by decide, by decide, by decide, by decide⟩⟩
theorem one_any (w : World) (hV : GV w.heap.size w) :
  Calls Tryz.prog 5 #[] w fun e w' => e = .returned (.bool true) ∧ Below w.heap.size w w' := by
 have HGV := Hd hV
 have HCW := Hd one_calls
 clear hV
 go_enter Tryz.func5, Tryz.ntmps5
 go_wp2_with fail
 refine (hallNew_ok 1000 (by decide) w (Nat.le_refl _) HGV.out).mono ?_
 rintro e w2 ⟨ax, Tx, rfl, hx2, hTx, hb2⟩
 have HS := Hd (show HK w.heap.size w2 Tx ax (Hl.new 1000) 0 from hx2)
 have HB := Hd hb2
 clear hx2 hTx hb2
 have hox := HS.out.once_h (by omega) oNet HCW.out.1
 rw [one1] at hox
 simp only [fault_zero0] at hox
 unfold CallV oNet netC at hox
 unfold AnsV at hox
 have HO := Hd hox
 clear hox
 go_wp2_with fail
 refine HO.out.mono ?_
 rintro e w3 ⟨v3, rfl, how3, T3, hnt3, hs3⟩
 obtain ⟨A3, c3, rfl, _⟩ := how3.form
 have HS3 := Hd (hs3.hk.bel ((Below.refl w3.heap.size w3).alloc (Nat.le_refl _) (.cells #[.int .i64 noAns.pa, .int .i64 noAns.pn, .int .i64 noAns.ad, txt noAns.owner, .slice A3 noAns.list.length c3] 46)))
 have HB3 := Hd (HB.out.trans ((hs3.belB HS.out.lo).alloc (Nat.le_trans HB.out.size hs3.size) (.cells #[.int .i64 noAns.pa, .int .i64 noAns.pn, .int .i64 noAns.ad, txt noAns.owner, .slice A3 noAns.list.length c3] 46)))
 clear HO hs3 how3 hnt3 HS HB
 go_upto_region 5 with fail
 refine wp_name (fun w4 HW => ?_)
 have hs0 := HS3.out
 have hb0 := HB3.out
 rw [← HW.out] at hs0 hb0
 have HS := Hd hs0
 have HB := Hd hb0
 clear HW HS3 HB3 hs0 hb0
 have hox := HS.out.once_h (by omega) oAdd HCW.out.2.1
 rw [one2] at hox
 simp only [fault_zero0] at hox
 unfold CallV oAdd at hox
 unfold AnsV at hox
 have HO := Hd hox
 clear hox
 go_wp2_with fail
 refine HO.out.mono ?_
 rintro e w5 ⟨v5, rfl, how5, T5, hnt5, hs5⟩
 obtain ⟨A5, c5, rfl, _⟩ := how5.form
 have HS5 := Hd (hs5.hk.bel ((Below.refl w5.heap.size w5).alloc (Nat.le_refl _) (.cells #[.int .i64 noAns.pa, .int .i64 noAns.pn, .int .i64 noAns.ad, txt noAns.owner, .slice A5 noAns.list.length c5] 46)))
 have HB5 := Hd (HB.out.trans ((hs5.belB HS.out.lo).alloc (Nat.le_trans HB.out.size hs5.size) (.cells #[.int .i64 noAns.pa, .int .i64 noAns.pn, .int .i64 noAns.ad, txt noAns.owner, .slice A5 noAns.list.length c5] 46)))
 clear HO hs5 how5 hnt5 HS HB
 go_upto_region 6 with fail
 refine wp_name (fun w6 HW => ?_)
 have hs0 := HS5.out
 have hb0 := HB5.out
 rw [← HW.out] at hs0 hb0
 have HS := Hd hs0
 have HB := Hd hb0
 clear HW HS5 HB5 hs0 hb0
 have hox := HS.out.once_h (by omega) oNxt HCW.out.2.2
 rw [one3] at hox
 simp only [fault_zero0] at hox
 unfold CallV oNxt at hox
 unfold AnsV at hox
 have HO := Hd hox
 clear hox
 go_wp2_with fail
 refine HO.out.mono ?_
 rintro e w7 ⟨v7, rfl, how7, T7, hnt7, hs7⟩
 obtain ⟨A7, c7, rfl, _⟩ := how7.form
 have HB7 := Hd (HB.out.trans (hs7.belB HS.out.lo))
 have hle := HB7.out.size
 clear HO hs7 how7 hnt7 HS HB
 go_wp2
 go_ret
 exact ⟨rfl, HB7.out.alloc hle _⟩
def cL : Code → Code
 | .seq a _ => a
 | .block _ c => c
 | .loop c => c
 | .scope c => c
 | c => c
def cR : Code → Code
 | .seq _ b => b
 | c => c
theorem ts_close {l : List HStp} {k : Nat} {w w6 : World} {ax g5 : Nat} {h : Hl} {T R : Nat → Prop} {tt : List TkV} {op : List (Opn PCall (PAns × Int))} {tc : List TkV} {ov : List (Ovr PCall (PAns × Int))} {Av Ao : Option Addr} {cv co : Nat} {i : Nat}  {z0 z1 z2 z3 z5 z12 z13 z14 z15 z16 z17 z18 z19 z20 z21 z22 z23 z24 z25 z26 z27 z28 z29 z30 z31 z32 z33 z34 z35 z36 z37 z38 z39 z40 z41 z42 z43 z44 z45 z46 z47 z48 z49 z50 z51 z52 z53 z54 z55 z56 z57 z58 z59 z60 z61 z62 z63 z64 z65 z66 z67 z68 z69 z70 z71 z72 z73 z74 z75 z76 z77 z78 z79 z80 z81 z82 z83 z84 z85 z86 z87 z88 z89 z90 z91 z92 z93 z94 z95 z96 z97 z98 z99 z100 z101 z102 z103 z104 z105 z106 z107 z108 z109 z110 z111 z112 z113 z114 z115 z116 z117 z118 z119 z120 z121 z122 z123 z124 z125 z126 z127 z128 z129 z130 z131 z132 z133 z134 z135 z136 z137 z138 z139 z140 z141 z142 z143 z144 z145 z146 z147 z148 z149 z150 z151 z152 z153 z154 z155 z156 z157 z158 z159 z160 z161 z162 z163 z164 z165 z166 z167 z168 z169 z170 z171 z172 z173 z174 z175 z176 z177 z178 z179 z180 z181 z182 z183 z184 z185 z186 z187 z188 z189 z190 z191 z192 z193 z194 z195 z196 z197 z198 z199 z200 z201 z202 z203 z204 z205 z206 z207 z208 z209 z210 z211 z212 z213 z214 z215 z216 z217 z218 z219 z220 z221 z222 z223 z224 z225 z226 z227 z228 z229 z230 z231 z232 z233 z234 z235 z236 z237 z238 z239 z240 z241 z242 z243 z244 z245 z246 z247 z248 z249 z250 z251 z252 z253 z254 z255 z256 z257 z258 z259 z260 z261 z262 z263 z264 z265 z266 z267 z268 z269 z270 z271 z272 z273 z274 z275 z276 z277 z278 z279 z280 z281 z282 z283 z284 z285 z286 z287 z288 z289 z290 z291 z292 z293 z294 z295 z296 z297 z298 : Value} {Q : Exit → Act → World → Prop} (hR1 : Hid (∀ (y2 y6 y7 y8 y13 y14 y15 y16 y17 y18 y19 y20 y21 y22 y23 y47 y48 y49 y50 y51 y52 y53 y54 y55 y56 y57 y58 y59 y60 y61 y62 y63 y64 y65 y66 y67 y68 y69 y70 y71 y72 y73 y74 y75 y76 y77 y78 y79 y80 y81 y82 y83 y84 y85 y86 y87 y88 y89 y90 y91 y92 y93 y94 y95 y96 y97 y98 y99 y100 y101 y102 y103 y104 y105 y106 y107 y108 y109 y110 y111 y112 y113 y114 y115 y116 y117 y118 y119 y120 y121 y122 y123 y124 y125 y126 y127 y128 y129 y130 y131 y132 y133 y134 y135 y136 y137 y138 y139 y140 y141 y142 y143 y144 y145 y146 y147 y148 y149 y150 y151 y152 y153 y154 y155 y156 y157 y158 y159 y160 y161 y162 y163 y164 y165 y166 y167 y168 y169 y170 y171 y172 y173 y174 y175 y176 y177 y178 y179 y180 y181 y182 y183 y184 y185 y186 y187 y188 y189 y190 y191 y192 y193 y194 y195 y196 y197 y198 y199 y200 y201 y202 y203 y204 : Value) (w' : World), (∃ (h' : Hl) (T' R' : Nat → Prop) (tt' : List TkV) (op' : List (Opn PCall (PAns × Int))) (tc' : List TkV) (ov' : List (Ovr PCall (PAns × Int))), y8 = .int .i64 (h'.d.all.length : Nat) ∧ Hid (SrS w.heap.size w' T' R' ax h' (2 * (k + 1)) y6 tt' op' y7 tc' ov' ∧ SzS op' ov' (k + 1)) ∧ Below w.heap.size w w') → Q .normal ⟨List.toArray (z0 :: z1 :: y2 :: z3 :: ptrV ax :: z5 :: y6 :: y7 :: y8 :: .int .i64 (k : Int) :: .pointer (some ⟨g5, 0, none⟩) :: .int .i64 (i : Int) :: z12 :: y13 :: y14 :: y15 :: y16 :: y17 :: y18 :: y19 :: y20 :: y21 :: y22 :: y23 :: z24 :: z25 :: z26 :: z27 :: z28 :: z29 :: z30 :: z31 :: z32 :: z33 :: z34 :: z35 :: z36 :: z37 :: z38 :: z39 :: z40 :: z41 :: z42 :: z43 :: z44 :: z45 :: z46 :: y47 :: y48 :: y49 :: y50 :: y51 :: y52 :: y53 :: y54 :: y55 :: y56 :: y57 :: y58 :: y59 :: y60 :: y61 :: y62 :: y63 :: y64 :: y65 :: y66 :: y67 :: y68 :: y69 :: y70 :: y71 :: y72 :: y73 :: y74 :: y75 :: y76 :: y77 :: y78 :: y79 :: y80 :: y81 :: y82 :: y83 :: y84 :: y85 :: y86 :: y87 :: y88 :: y89 :: y90 :: y91 :: y92 :: y93 :: y94 :: y95 :: y96 :: y97 :: y98 :: y99 :: y100 :: y101 :: y102 :: y103 :: y104 :: y105 :: y106 :: y107 :: y108 :: y109 :: y110 :: y111 :: y112 :: y113 :: y114 :: y115 :: y116 :: y117 :: y118 :: y119 :: y120 :: y121 :: y122 :: y123 :: y124 :: y125 :: y126 :: y127 :: y128 :: y129 :: y130 :: y131 :: y132 :: y133 :: y134 :: y135 :: y136 :: y137 :: y138 :: y139 :: y140 :: y141 :: y142 :: y143 :: y144 :: y145 :: y146 :: y147 :: y148 :: y149 :: y150 :: y151 :: y152 :: y153 :: y154 :: y155 :: y156 :: y157 :: y158 :: y159 :: y160 :: y161 :: y162 :: y163 :: y164 :: y165 :: y166 :: y167 :: y168 :: y169 :: y170 :: y171 :: y172 :: y173 :: y174 :: y175 :: y176 :: y177 :: y178 :: y179 :: y180 :: y181 :: y182 :: y183 :: y184 :: y185 :: y186 :: y187 :: y188 :: y189 :: y190 :: y191 :: y192 :: y193 :: y194 :: y195 :: y196 :: y197 :: y198 :: y199 :: y200 :: y201 :: y202 :: y203 :: y204 :: z205 :: z206 :: z207 :: z208 :: z209 :: z210 :: z211 :: z212 :: z213 :: z214 :: z215 :: z216 :: z217 :: z218 :: z219 :: z220 :: z221 :: z222 :: z223 :: z224 :: z225 :: z226 :: z227 :: z228 :: z229 :: z230 :: z231 :: z232 :: z233 :: z234 :: z235 :: z236 :: z237 :: z238 :: z239 :: z240 :: z241 :: z242 :: z243 :: z244 :: z245 :: z246 :: z247 :: z248 :: z249 :: z250 :: z251 :: z252 :: z253 :: z254 :: z255 :: z256 :: z257 :: z258 :: z259 :: z260 :: z261 :: z262 :: z263 :: z264 :: z265 :: z266 :: z267 :: z268 :: z269 :: z270 :: z271 :: z272 :: z273 :: z274 :: z275 :: z276 :: z277 :: z278 :: z279 :: z280 :: z281 :: z282 :: z283 :: z284 :: z285 :: z286 :: z287 :: z288 :: z289 :: z290 :: z291 :: z292 :: z293 :: z294 :: z295 :: z296 :: z297 :: z298 :: []), []⟩ w')) (hR2 : Hid (∀ (y2 y6 y7 y8 y13 y14 y15 y16 y17 y18 y19 y20 y21 y22 y23 y47 y48 y49 y50 y51 y52 y53 y54 y55 y56 y57 y58 y59 y60 y61 y62 y63 y64 y65 y66 y67 y68 y69 y70 y71 y72 y73 y74 y75 y76 y77 y78 y79 y80 y81 y82 y83 y84 y85 y86 y87 y88 y89 y90 y91 y92 y93 y94 y95 y96 y97 y98 y99 y100 y101 y102 y103 y104 y105 y106 y107 y108 y109 y110 y111 y112 y113 y114 y115 y116 y117 y118 y119 y120 y121 y122 y123 y124 y125 y126 y127 y128 y129 y130 y131 y132 y133 y134 y135 y136 y137 y138 y139 y140 y141 y142 y143 y144 y145 y146 y147 y148 y149 y150 y151 y152 y153 y154 y155 y156 y157 y158 y159 y160 y161 y162 y163 y164 y165 y166 y167 y168 y169 y170 y171 y172 y173 y174 y175 y176 y177 y178 y179 y180 y181 y182 y183 y184 y185 y186 y187 y188 y189 y190 y191 y192 y193 y194 y195 y196 y197 y198 y199 y200 y201 y202 y203 y204 : Value) (w' : World), (∃ (h' : Hl) (T' R' : Nat → Prop) (tt' : List TkV) (op' : List (Opn PCall (PAns × Int))) (tc' : List TkV) (ov' : List (Ovr PCall (PAns × Int))), y8 = .int .i64 (h'.d.all.length : Nat) ∧ Hid (SrS w.heap.size w' T' R' ax h' (2 * (k + 1)) y6 tt' op' y7 tc' ov' ∧ SzS op' ov' (k + 1)) ∧ Below w.heap.size w w') → Q (.exit 1) ⟨List.toArray (z0 :: z1 :: y2 :: z3 :: ptrV ax :: z5 :: y6 :: y7 :: y8 :: .int .i64 (k : Int) :: .pointer (some ⟨g5, 0, none⟩) :: .int .i64 (i : Int) :: z12 :: y13 :: y14 :: y15 :: y16 :: y17 :: y18 :: y19 :: y20 :: y21 :: y22 :: y23 :: z24 :: z25 :: z26 :: z27 :: z28 :: z29 :: z30 :: z31 :: z32 :: z33 :: z34 :: z35 :: z36 :: z37 :: z38 :: z39 :: z40 :: z41 :: z42 :: z43 :: z44 :: z45 :: z46 :: y47 :: y48 :: y49 :: y50 :: y51 :: y52 :: y53 :: y54 :: y55 :: y56 :: y57 :: y58 :: y59 :: y60 :: y61 :: y62 :: y63 :: y64 :: y65 :: y66 :: y67 :: y68 :: y69 :: y70 :: y71 :: y72 :: y73 :: y74 :: y75 :: y76 :: y77 :: y78 :: y79 :: y80 :: y81 :: y82 :: y83 :: y84 :: y85 :: y86 :: y87 :: y88 :: y89 :: y90 :: y91 :: y92 :: y93 :: y94 :: y95 :: y96 :: y97 :: y98 :: y99 :: y100 :: y101 :: y102 :: y103 :: y104 :: y105 :: y106 :: y107 :: y108 :: y109 :: y110 :: y111 :: y112 :: y113 :: y114 :: y115 :: y116 :: y117 :: y118 :: y119 :: y120 :: y121 :: y122 :: y123 :: y124 :: y125 :: y126 :: y127 :: y128 :: y129 :: y130 :: y131 :: y132 :: y133 :: y134 :: y135 :: y136 :: y137 :: y138 :: y139 :: y140 :: y141 :: y142 :: y143 :: y144 :: y145 :: y146 :: y147 :: y148 :: y149 :: y150 :: y151 :: y152 :: y153 :: y154 :: y155 :: y156 :: y157 :: y158 :: y159 :: y160 :: y161 :: y162 :: y163 :: y164 :: y165 :: y166 :: y167 :: y168 :: y169 :: y170 :: y171 :: y172 :: y173 :: y174 :: y175 :: y176 :: y177 :: y178 :: y179 :: y180 :: y181 :: y182 :: y183 :: y184 :: y185 :: y186 :: y187 :: y188 :: y189 :: y190 :: y191 :: y192 :: y193 :: y194 :: y195 :: y196 :: y197 :: y198 :: y199 :: y200 :: y201 :: y202 :: y203 :: y204 :: z205 :: z206 :: z207 :: z208 :: z209 :: z210 :: z211 :: z212 :: z213 :: z214 :: z215 :: z216 :: z217 :: z218 :: z219 :: z220 :: z221 :: z222 :: z223 :: z224 :: z225 :: z226 :: z227 :: z228 :: z229 :: z230 :: z231 :: z232 :: z233 :: z234 :: z235 :: z236 :: z237 :: z238 :: z239 :: z240 :: z241 :: z242 :: z243 :: z244 :: z245 :: z246 :: z247 :: z248 :: z249 :: z250 :: z251 :: z252 :: z253 :: z254 :: z255 :: z256 :: z257 :: z258 :: z259 :: z260 :: z261 :: z262 :: z263 :: z264 :: z265 :: z266 :: z267 :: z268 :: z269 :: z270 :: z271 :: z272 :: z273 :: z274 :: z275 :: z276 :: z277 :: z278 :: z279 :: z280 :: z281 :: z282 :: z283 :: z284 :: z285 :: z286 :: z287 :: z288 :: z289 :: z290 :: z291 :: z292 :: z293 :: z294 :: z295 :: z296 :: z297 :: z298 :: []), []⟩ w')) (hlt1 : k < l.length) (hlt2 : k < 60) (HKS : Hid (HStpOk l[k])) (HLE : Hid (SzS op ov k)) (HNT : Hid (¬ T g5)) (HI : Hid (SrS w.heap.size w6 T R ax h (2 * k) (.slice Av tt.length cv) tt op (.slice Ao tc.length co) tc ov)) (HB : Hid (Below w.heap.size w w6)) (HBK6 : Hid (Blk w6 g5 35 #[.int .i64 l[k].what, txt l[k].who, .int .i64 l[k].n, .int .i64 l[k].call.what, txt l[k].call.name, .int .i64 l[k].call.pa, .int .i64 l[k].call.pn, .int .i64 l[k].call.len, .int .i64 l[k].call.ad, txt l[k].call.owner])) (hi : i < op.length) (hwho : op[i].who = l[k].who) (hw1 : l[k].what = 1) :
  Code.wp Tryz.prog (cR (cR (cR (cL (cL (cR (cL (cL (cR (cL (cR (cR (cR (cR (cR (cR (Tryz.f3.body.getD .skip))))))))))))))))) Q ⟨List.toArray (z0 :: z1 :: z2 :: z3 :: ptrV ax :: z5 :: .slice Av tt.length cv :: .slice Ao tc.length co :: .int .i64 (h.d.all.length : Nat) :: .int .i64 (k : Int) :: .pointer (some ⟨g5, 0, none⟩) :: .int .i64 (i : Int) :: z12 :: z13 :: z14 :: z15 :: z16 :: z17 :: z18 :: z19 :: z20 :: z21 :: z22 :: z23 :: z24 :: z25 :: z26 :: z27 :: z28 :: z29 :: z30 :: z31 :: z32 :: z33 :: z34 :: z35 :: z36 :: z37 :: z38 :: z39 :: z40 :: z41 :: z42 :: z43 :: z44 :: z45 :: z46 :: z47 :: z48 :: z49 :: z50 :: z51 :: z52 :: z53 :: z54 :: z55 :: z56 :: z57 :: z58 :: z59 :: z60 :: z61 :: z62 :: z63 :: z64 :: z65 :: z66 :: z67 :: z68 :: z69 :: z70 :: z71 :: z72 :: z73 :: z74 :: z75 :: z76 :: z77 :: z78 :: z79 :: z80 :: z81 :: z82 :: z83 :: z84 :: z85 :: z86 :: z87 :: z88 :: z89 :: z90 :: z91 :: z92 :: z93 :: z94 :: z95 :: z96 :: z97 :: z98 :: z99 :: z100 :: z101 :: z102 :: z103 :: z104 :: z105 :: z106 :: z107 :: z108 :: z109 :: z110 :: z111 :: z112 :: z113 :: z114 :: z115 :: z116 :: z117 :: z118 :: z119 :: z120 :: z121 :: z122 :: z123 :: z124 :: z125 :: z126 :: z127 :: z128 :: z129 :: z130 :: z131 :: z132 :: z133 :: z134 :: z135 :: z136 :: z137 :: z138 :: z139 :: z140 :: z141 :: z142 :: z143 :: z144 :: z145 :: z146 :: z147 :: z148 :: z149 :: z150 :: z151 :: z152 :: z153 :: z154 :: z155 :: z156 :: z157 :: z158 :: z159 :: z160 :: z161 :: z162 :: z163 :: z164 :: z165 :: z166 :: z167 :: z168 :: z169 :: z170 :: z171 :: z172 :: z173 :: z174 :: z175 :: z176 :: z177 :: z178 :: z179 :: z180 :: z181 :: z182 :: z183 :: z184 :: z185 :: z186 :: z187 :: z188 :: z189 :: z190 :: z191 :: z192 :: z193 :: z194 :: z195 :: z196 :: z197 :: z198 :: z199 :: z200 :: z201 :: z202 :: z203 :: z204 :: z205 :: z206 :: z207 :: z208 :: z209 :: z210 :: z211 :: z212 :: z213 :: z214 :: z215 :: z216 :: z217 :: z218 :: z219 :: z220 :: z221 :: z222 :: z223 :: z224 :: z225 :: z226 :: z227 :: z228 :: z229 :: z230 :: z231 :: z232 :: z233 :: z234 :: z235 :: z236 :: z237 :: z238 :: z239 :: z240 :: z241 :: z242 :: z243 :: z244 :: z245 :: z246 :: z247 :: z248 :: z249 :: z250 :: z251 :: z252 :: z253 :: z254 :: z255 :: z256 :: z257 :: z258 :: z259 :: z260 :: z261 :: z262 :: z263 :: z264 :: z265 :: z266 :: z267 :: z268 :: z269 :: z270 :: z271 :: z272 :: z273 :: z274 :: z275 :: z276 :: z277 :: z278 :: z279 :: z280 :: z281 :: z282 :: z283 :: z284 :: z285 :: z286 :: z287 :: z288 :: z289 :: z290 :: z291 :: z292 :: z293 :: z294 :: z295 :: z296 :: z297 :: z298 :: []), []⟩ w6 := by
 let QF : Exit → Act → World → Prop := bodyPost Tryz.prog Tryz.f3 (fun _ _ => True)
 conv => arg 2; whnf
 have x0 := HBK6.out.cell 0; have x1' := HBK6.out.cell 1; have x2' := HBK6.out.cell 2; have x3' := HBK6.out.cell 3; have x4 := HBK6.out.cell 4; have x5 := HBK6.out.cell 5; have x6 := HBK6.out.cell 6; have x7 := HBK6.out.cell 7; have x8 := HBK6.out.cell 8; have x9 := HBK6.out.cell 9
 simp at x0 x1' x2' x3' x4 x5 x6 x7 x8 x9
 have hi0 : ¬ ((i : Int) < 0) := by omega
 have HWHO := Hd hwho
 clear hwho
 obtain ⟨gv, cv2, hvv, hgv, t, ht, htk, hcc⟩ := HI.out.rowO hi
 cases hvv
 obtain ⟨Ac, kc, At, kt, Ae, ke, hte, hrc, hre⟩ := htk.form
 generalize t.n = tn at hte
 subst hte
 have hit : i < tt.length := by rw [HI.out.m.lo]; exact hi
 have hI5 : (i : Int) < (tt.length : Int) := by omega
 have HNV := Hd (HI.out.m.no gv rfl)
 have y0 := hcc 0 _ rfl; have y1 := hcc 1 _ rfl; have y2 := hcc 2 _ rfl; have y3 := hcc 3 _ rfl; have y4 := hcc 4 _ rfl
 rw [Nat.add_zero] at y0
 have HTK := Hd htk
 have HT := Hd ht
 have HRD := Hd (show Rd w6 w6.heap.size (some ⟨gv, 0, none⟩) (flatE encT tt) from Rd.of_own HI.out.m.ro)
 have HLO := Hd HI.out.m.lo
 have h60 : tt.length ≤ 60 := by have := HLE.out.lo; have := HLO.out; omega
 have HIO := Hd hi
 have HIT := Hd hit
 have HGL := Hd hgv
 have HBL := Hd HB.out.size
 clear hcc htk ht hrc hre
 skip
 have hb7 := (Below.refl w6.heap.size w6).alloc (Nat.le_refl _) (.cells #[.string ⟨op[i].who.toArray⟩, .int .i64 tn, .slice Ac op[i].cs.length kc, .slice At op[i].cs.length kt, .slice Ae op[i].cs.length ke] 40)
 have hbx := Blk.new w6 40 #[.string ⟨op[i].who.toArray⟩, .int .i64 tn, .slice Ac op[i].cs.length kc, .slice At op[i].cs.length kt, .slice Ae op[i].cs.length ke]
 go_upto_region 40 with fail
 skip
 refine wp_name (fun w7 HW => ?_)
 replace hb7 : Below w6.heap.size w6 w7 := by rw [HW.out]; exact hb7
 replace hbx : Blk w7 w6.heap.size 40 #[.string ⟨op[i].who.toArray⟩, .int .i64 tn, .slice Ac op[i].cs.length kc, .slice At op[i].cs.length kt, .slice Ae op[i].cs.length ke] := by rw [HW.out]; exact hbx
 have HB7 := Hd hb7
 have HBX := Hd hbx
 have HXL := Hd hbx.lt
 have hle7 := hb7.size
 have HR1 := Hd (Rd.head flatT_len (HRD.out.below hb7) i)
 have HCAP := Hd (own_cap HI.out.m.ro)
 have hicv : i ≤ cv := by have := HCAP.out; omega
 have hicv2 : i + 1 ≤ cv := by have := HCAP.out; omega
 have hicl : i + 1 ≤ tt.length := by omega
 have HR2 := Hd (Rd.tailIf flatT_len (HRD.out.below hb7) (i + 1) HCAP.out)
 have HL1 := Hd (show (flatE encT (tt.take i)).length = i * 5 by rw [flatE_length flatT_len, List.length_take, Nat.min_eq_left (by omega)])
 have HONE := Hd HI.out.m.one
 have HL2 := Hd (show (flatE encT (tt.drop (i + 1))).length = (tt.length - (i + 1)) * 5 by rw [flatE_length flatT_len, List.length_drop])
 have HO0 := Hd (one_take HONE.out i)
 have HO1 := Hd (one_drop HONE.out (i + 1))
 obtain ⟨F0, hF0⟩ : ∃ F, F = flatE encT (tt.take i) := ⟨_, rfl⟩
 obtain ⟨F1, hF1⟩ : ∃ F, F = flatE encT (tt.drop (i + 1)) := ⟨_, rfl⟩
 rw [← hF0] at HR1 HL1 HO0
 rw [← hF1] at HR2 HL2 HO1
 have HF01 := Hd (And.intro hF0 hF1)
 clear hF0 hF1
 clear HW hb7 hbx y0 y1 y2 y3 y4
 go_upto_region 41 with fail
 go_upto_region 42 with (at_builtin; go_must (refine wpList_append_rd rfl _ _ 29 rfl 40 Tryz.underlying29 _ 5 96 infoTk rfl (by decide) w7.heap.size (.slice none 0 0) 0 [] rfl (World.ownsRow_nil _ _ _ _) w6.heap.size (some ⟨gv, 0, none⟩) i cv F0 rfl HL1.out HR1.out HO0.out (cut_len0 HIT.out h60).1 (cut_len0 HIT.out h60).2 (Nat.le_refl _) ?_); intro v8 w8 hown8 hb8)
 rw [Nat.zero_add, List.nil_append] at hown8
 obtain ⟨A8, c8, rfl, _⟩ := own_form hown8
 have hle8 := hb8.size
 have HO8 := Hd hown8
 have HR28 := Hd (HR2.out.below (hb8.mono hle7))
 have HXT := Hd HI.out.x.lt
 have HZB := Hd HB.out.size
 go_upto_region 42 with fail
 go_cut [6] (fun v wx => ∃ (A9 : Option Addr) (c9 : Nat), v = .slice A9 (tt.eraseIdx i).length c9 ∧ Hid (wx.ownsRow w7.heap.size 40 5 v (tt.eraseIdx i).length (flatE encT (tt.eraseIdx i))) ∧ Below w7.heap.size w7 wx)
 case first =>
  by_cases hcap : cv = i + 1
  ·skip
   have hR29 := HR28.out
   rw [if_pos hcap] at hR29
   have HR29 := Hd hR29
   clear hR29
   go_wp2_with (at_builtin; go_must (refine wpList_append_rd rfl _ _ 29 rfl 40 Tryz.underlying29 _ 5 96 infoTk rfl (by decide) w7.heap.size (.slice A8 i c8) i F0 rfl HO8.out w6.heap.size _ _ _ F1 rfl HL2.out HR29.out HO1.out (cut_len HIT.out h60).1 (cut_len HIT.out h60).2 hle8 ?_); intro v9 w9 hown9 hb9)
   rw [HF01.out.1, HF01.out.2, ← flatE_append, ← List.eraseIdx_eq_take_drop_succ, cut_erase HIT.out] at hown9
   obtain ⟨A9, c9, rfl, _⟩ := own_form hown9
   have HO9 := Hd hown9
   have hb79 := hb8.trans hb9
   go_wp2
   go_meet
   exact ⟨A9, c9, rfl, HO9, hb79⟩
  ·skip
   have hR29 := HR28.out
   rw [if_neg hcap] at hR29
   have HR29 := Hd hR29
   clear hR29
   go_wp2_with (at_builtin; go_must (refine wpList_append_rd rfl _ _ 29 rfl 40 Tryz.underlying29 _ 5 96 infoTk rfl (by decide) w7.heap.size (.slice A8 i c8) i F0 rfl HO8.out w6.heap.size _ _ _ F1 rfl HL2.out HR29.out HO1.out (cut_len HIT.out h60).1 (cut_len HIT.out h60).2 hle8 ?_); intro v9 w9 hown9 hb9)
   rw [HF01.out.1, HF01.out.2, ← flatE_append, ← List.eraseIdx_eq_take_drop_succ, cut_erase HIT.out] at hown9
   obtain ⟨A9, c9, rfl, _⟩ := own_form hown9
   have HO9 := Hd hown9
   have hb79 := hb8.trans hb9
   go_wp2
   go_meet
   exact ⟨A9, c9, rfl, HO9, hb79⟩
 case rest =>
  obtain ⟨A9, c9, rfl, HO9, hb79⟩ := hcut
  have hown9 := HO9.out
  have hM7 := HI.out.m.bel HB7.out
  have hM9 := hM7.closed (by have := HZB.out; omega) (k := i) hb79 hown9 (fun q e => by have := HXT.out q e; omega)
  have hb69 := HB7.out.trans (hb79.mono hle7)
  generalize wc = w9 at *
  have HM9 := Hd hM9
  have HX9 := Hd (HI.out.x.bel hb69)
  have HB9 := Hd (HB.out.trans (hb69.mono HB.out.size))
  have HTK9 := Hd (HTK.out.bel hb69)
  have HBX9 := Hd (HBX.out.below hb79 HXL.out)
  have HBK9 := Hd (HBK6.out.below hb69 HBK6.out.lt)
  have HV9 := Hd (show ∀ q, (Value.slice A9 (tt.eraseIdx i).length c9).ownBlock = some q → w7.heap.size ≤ q from fun q e => (World.ownsRow.lt hown9 q e).1)
  have HVO := Hd (show ∀ q, (Value.slice Ao tc.length co).ownBlock = some q → q < w6.heap.size from own_bq HI.out.m.rc)
  have HBS := Hd (show w6.heap.size < w7.heap.size from HXL.out)
  have z0 := HBK9.out.cell 0
  have z1 := HBK9.out.cell 1
  simp at z0 z1
  have HS69 := Hd hb69.size
  have HN6 := Hd (show ∀ q, T q ∨ R q → q < w6.heap.size from fun q e => e.elim (HI.out.x.lt q) (fun e => (HI.out.m.sep q e).2.1))
  have HQ6 := Hd HI.out.q
  clear hown9 HO9 hb8 hb79 hM7 hM9 hb69 HO8 HR1 HR2 HR28 HL1 HL2 HCAP hle7 hle8 HBX HTK HBK6 HRD HB7 hicv hicv2 hicl
  have HC := Hd (HX9.out.close_h (by omega) l[k].who HKS.out.who)
  have hq := HQ6.out.close HIO.out
  rw [HWHO.out] at hq
  have HQ := Hd hq
  clear hq
  go_wp2_with fail
  refine HC.out.mono ?_
  rintro e w10 ⟨rfl, T10, hs10⟩
  have HX10 := Hd hs10.hk
  have HM10 := Hd (HM9.out.step hs10)
  have HB10 := Hd (HB9.out.trans (hs10.belB HX9.out.lo))
  have HTK10 := Hd (HTK9.out.fr hs10.fr (fun q e => (HM9.out.sep q e).1))
  have HBX10 := Hd (HBX9.out.fr hs10.fr (fun e => by have := HN6.out _ (.inl e); omega))
  have HNT10 := Hd (show ¬ T10 w6.heap.size from fun e => (hs10.new _ e).elim (fun e => by have := HN6.out _ (.inl e); omega) (fun e => by have := HS69.out; have := HBX9.out.lt; omega))
  clear HC hs10 HX9 HM9 HB9 HTK9 HBX9 HBK9 HI HB z0 z1
  rcases HQ.out with ⟨hf, ha, hq⟩ | ⟨hf, n, hn, hq, ha⟩
  ·have HF := Hd (faultV_no hf)
   have HA := Hd ha
   have HQ2 := Hd hq
   rw [HF.out]
   clear hf ha hq HQ
   go_wp2
   first | exact hR1.out _ _ _ _ _ _ _ _ _ _ _ _ _ _ _ _ _ _ _ _ _ _ _ _ _ _ _ _ _ _ _ _ _ _ _ _ _ _ _ _ _ _ _ _ _ _ _ _ _ _ _ _ _ _ _ _ _ _ _ _ _ _ _ _ _ _ _ _ _ _ _ _ _ _ _ _ _ _ _ _ _ _ _ _ _ _ _ _ _ _ _ _ _ _ _ _ _ _ _ _ _ _ _ _ _ _ _ _ _ _ _ _ _ _ _ _ _ _ _ _ _ _ _ _ _ _ _ _ _ _ _ _ _ _ _ _ _ _ _ _ _ _ _ _ _ _ _ _ _ _ _ _ _ _ _ _ _ _ _ _ _ _ _ _ _ _ _ _ _ _ _ _ _ _ ⟨_, _, _, _, _, _, _, by rw [HA.out], Hd ⟨⟨HX10.out.more (by omega), HQ2.out, HM10.out⟩, HLE.out.drop i⟩, HB10.out⟩ | exact hR2.out _ _ _ _ _ _ _ _ _ _ _ _ _ _ _ _ _ _ _ _ _ _ _ _ _ _ _ _ _ _ _ _ _ _ _ _ _ _ _ _ _ _ _ _ _ _ _ _ _ _ _ _ _ _ _ _ _ _ _ _ _ _ _ _ _ _ _ _ _ _ _ _ _ _ _ _ _ _ _ _ _ _ _ _ _ _ _ _ _ _ _ _ _ _ _ _ _ _ _ _ _ _ _ _ _ _ _ _ _ _ _ _ _ _ _ _ _ _ _ _ _ _ _ _ _ _ _ _ _ _ _ _ _ _ _ _ _ _ _ _ _ _ _ _ _ _ _ _ _ _ _ _ _ _ _ _ _ _ _ _ _ _ _ _ _ _ _ _ _ _ _ _ _ _ ⟨_, _, _, _, _, _, _, by rw [HA.out], Hd ⟨⟨HX10.out.more (by omega), HQ2.out, HM10.out⟩, HLE.out.drop i⟩, HB10.out⟩
  ·rw [show faultV (h.close l[k].who).2.1 = .nilIface by rw [hf]; rfl, hn]
   have HA := Hd ha
   have HQ2 := Hd hq
   have hbx := HBX10.out.setCell 1 (.int .i64 (n : Int))
   have hf11 : Fr (fun q => q = w6.heap.size) w10 (w10.setCell ⟨w6.heap.size, 1, none⟩ (.int .i64 (n : Int))) := Fr.setCell (p := ⟨w6.heap.size, 1, none⟩) (Fr.refl (fun q => q = w6.heap.size) w10) (fun _ => rfl) _
   obtain ⟨d0, d1, d2, d3, d4⟩ := HBX10.out.cls5
   have df := HBX10.out.frozen 1
   simp at d0 d1 d2 d3 d4
   clear hf hn hq ha HQ
   go_upto_region 50 with fail
   refine wp_name (fun w11 HW => ?_)
   replace hbx : Blk w11 w6.heap.size 40 #[.string ⟨op[i].who.toArray⟩, .int .i64 (n : Int), .slice Ac op[i].cs.length kc, .slice At op[i].cs.length kt, .slice Ae op[i].cs.length ke] := by rw [HW.out]; exact hbx
   replace hf11 : Fr (fun q => q = w6.heap.size) w10 w11 := by rw [HW.out]; exact hf11
   obtain ⟨e0, e1, e2, e3, e4⟩ := hbx.cls5
   simp at e0 e1 e2 e3 e4
   have HM11 := Hd (HM10.out.beside hf11 (fun q e e2 => by subst e; have := HN6.out _ (.inr e2); omega) (fun q e e2 => by subst e; have := HV9.out _ e2; have := HBS.out; omega) (fun q e e2 => by subst e; have := HVO.out _ e2; omega))
   have HX11 := Hd (HX10.out.far hf11 (fun q e => by subst e; exact HNT10.out) (fun q e => by subst e; exact HBL.out))
   have HTK11 := Hd ((HTK10.out.fr hf11 (fun q e e2 => by subst e2; have := HN6.out _ (.inr e); omega)).num (n : Int))
   have HB11 := Hd (HB10.out.trans (hf11.below HB10.out.size (fun q e => by subst e; exact HBL.out)))
   have hone : ∀ u ∈ (#[.string ⟨op[i].who.toArray⟩, .int .i64 (n : Int), .slice Ac op[i].cs.length kc, .slice At op[i].cs.length kt, .slice Ae op[i].cs.length ke] : Array Value).toList, u.oneCell' = true := by intro u hu; simp at hu; rcases hu with rfl | rfl | rfl | rfl | rfl <;> rfl
   have HLN := Hd (show tc.length < 1000000000 by have := HM11.out.lc; have := HLE.out.lv; omega)
   have HRC := Hd HM11.out.rc
   unfold RowAt at HRC
   obtain ⟨FC, hFC⟩ : ∃ F, F = flatE encT tc := ⟨_, rfl⟩
   rw [← hFC] at HRC
   have HFC := Hd hFC
   clear hFC
   have HZ12 := Hd (show ∀ v' w', w'.ownsRow 0 40 5 v' (tc.length + 1) (FC ++ (#[.string ⟨op[i].who.toArray⟩, .int .i64 (n : Int), .slice Ac op[i].cs.length kc, .slice At op[i].cs.length kt, .slice Ae op[i].cs.length ke] : Array Value).toList) → w11.grownBy w' (Value.slice Ao tc.length co).ownBlock → (v'.ownBlock = (Value.slice Ao tc.length co).ownBlock ∨ v'.ownBlock = some (w11.heap.size + 1)) →
     (SrS w.heap.size w' T10 R ax ((h.close l[k].who).2.2) (2 * k + 1) (.slice A9 (tt.eraseIdx i).length c9) (tt.eraseIdx i) (op.eraseIdx i) v' (tc ++ [⟨op[i].who, n, .slice Ac op[i].cs.length kc, .slice At op[i].cs.length kt, .slice Ae op[i].cs.length ke⟩]) (ov ++ [⟨l[k].who, n, op[i].cs, op[i].rs⟩])) ∧ Below w.heap.size w w' from fun v' w' h1 h2 h3 => by
    have htk := HTK11.out.as HWHO.out
    have m := HM11.out.done (x := ⟨l[k].who, n, op[i].cs, op[i].rs⟩) HB11.out.size htk rfl (by rw [← HFC.out]; exact h1) h2 h3 HX11.out.lt
    have hf : Fr (fun q => (Value.slice Ao tc.length co).ownBlock = some q) w11 w' := (Fr.refl _ w11).grown h2 (fun q e _ => e)
    have x := HX11.out.far hf (fun q e => (HM11.out.nc q e).2.1) (fun q e => (HM11.out.nc q e).2.2)
    exact ⟨⟨x, HQ2.out, m⟩, HB11.out.grown h2 HB11.out.size (fun q e => (HM11.out.nc q e).2.2)⟩)
   clear HW hbx hf11 d0 d1 d2 d3 d4 df HX10 HM10 HTK10 HBX10 HB10 HNT10 HQ2
   go_upto_region 51 with (at_builtin; go_must (refine wpList_append_elt (w1 := w11) rfl _ _ 29 rfl 40 Tryz.underlying29 _ 5 96 infoTk rfl (by decide) (by decide) 0 (.slice Ao tc.length co) tc.length FC rfl HRC.out #[.string ⟨op[i].who.toArray⟩, .int .i64 (n : Int), .slice Ac op[i].cs.length kc, .slice At op[i].cs.length kt, .slice Ae op[i].cs.length ke] rfl hone rfl HLN.out (Nat.zero_le _) ?_); intro v12 w12 hown12 hg12 hat12)
   obtain ⟨hI12, hB12⟩ := HZ12.out v12 w12 hown12 hg12 hat12
   obtain ⟨A12, c12, rfl, _⟩ := own_form hown12
   have HI12 := Hd hI12
   have HB12 := Hd hB12
   clear hown12 hg12 hat12 hI12 hB12 HZ12 HRC HM11 HX11 HTK11 HB11 hone e0 e1 e2 e3 e4
   by_cases hgt : h.d.all.length < n
   ·have hgt2 : (h.d.all.length : Int) < (n : Int) := by omega
    have HN2 := Hd (show (h.close l[k].who).2.2.d.all.length = n by have := HA.out; rwa [if_pos hgt] at this)
    go_wp2
    first | exact hR1.out _ _ _ _ _ _ _ _ _ _ _ _ _ _ _ _ _ _ _ _ _ _ _ _ _ _ _ _ _ _ _ _ _ _ _ _ _ _ _ _ _ _ _ _ _ _ _ _ _ _ _ _ _ _ _ _ _ _ _ _ _ _ _ _ _ _ _ _ _ _ _ _ _ _ _ _ _ _ _ _ _ _ _ _ _ _ _ _ _ _ _ _ _ _ _ _ _ _ _ _ _ _ _ _ _ _ _ _ _ _ _ _ _ _ _ _ _ _ _ _ _ _ _ _ _ _ _ _ _ _ _ _ _ _ _ _ _ _ _ _ _ _ _ _ _ _ _ _ _ _ _ _ _ _ _ _ _ _ _ _ _ _ _ _ _ _ _ _ _ _ _ _ _ _ ⟨_, _, _, _, _, _, _, by rw [HN2.out], Hd ⟨HI12.out.more (by omega), by have := HLE.out.close HIO.out l[k].who n op[i].rs; exact this⟩, HB12.out⟩ | exact hR2.out _ _ _ _ _ _ _ _ _ _ _ _ _ _ _ _ _ _ _ _ _ _ _ _ _ _ _ _ _ _ _ _ _ _ _ _ _ _ _ _ _ _ _ _ _ _ _ _ _ _ _ _ _ _ _ _ _ _ _ _ _ _ _ _ _ _ _ _ _ _ _ _ _ _ _ _ _ _ _ _ _ _ _ _ _ _ _ _ _ _ _ _ _ _ _ _ _ _ _ _ _ _ _ _ _ _ _ _ _ _ _ _ _ _ _ _ _ _ _ _ _ _ _ _ _ _ _ _ _ _ _ _ _ _ _ _ _ _ _ _ _ _ _ _ _ _ _ _ _ _ _ _ _ _ _ _ _ _ _ _ _ _ _ _ _ _ _ _ _ _ _ _ _ _ ⟨_, _, _, _, _, _, _, by rw [HN2.out], Hd ⟨HI12.out.more (by omega), by have := HLE.out.close HIO.out l[k].who n op[i].rs; exact this⟩, HB12.out⟩
   ·have hgt2 : ¬ (h.d.all.length : Int) < (n : Int) := by omega
    have HN2 := Hd (show (h.close l[k].who).2.2.d.all.length = h.d.all.length by have := HA.out; rwa [if_neg hgt] at this)
    go_wp2
    first | exact hR1.out _ _ _ _ _ _ _ _ _ _ _ _ _ _ _ _ _ _ _ _ _ _ _ _ _ _ _ _ _ _ _ _ _ _ _ _ _ _ _ _ _ _ _ _ _ _ _ _ _ _ _ _ _ _ _ _ _ _ _ _ _ _ _ _ _ _ _ _ _ _ _ _ _ _ _ _ _ _ _ _ _ _ _ _ _ _ _ _ _ _ _ _ _ _ _ _ _ _ _ _ _ _ _ _ _ _ _ _ _ _ _ _ _ _ _ _ _ _ _ _ _ _ _ _ _ _ _ _ _ _ _ _ _ _ _ _ _ _ _ _ _ _ _ _ _ _ _ _ _ _ _ _ _ _ _ _ _ _ _ _ _ _ _ _ _ _ _ _ _ _ _ _ _ _ ⟨_, _, _, _, _, _, _, by rw [HN2.out], Hd ⟨HI12.out.more (by omega), by have := HLE.out.close HIO.out l[k].who n op[i].rs; exact this⟩, HB12.out⟩ | exact hR2.out _ _ _ _ _ _ _ _ _ _ _ _ _ _ _ _ _ _ _ _ _ _ _ _ _ _ _ _ _ _ _ _ _ _ _ _ _ _ _ _ _ _ _ _ _ _ _ _ _ _ _ _ _ _ _ _ _ _ _ _ _ _ _ _ _ _ _ _ _ _ _ _ _ _ _ _ _ _ _ _ _ _ _ _ _ _ _ _ _ _ _ _ _ _ _ _ _ _ _ _ _ _ _ _ _ _ _ _ _ _ _ _ _ _ _ _ _ _ _ _ _ _ _ _ _ _ _ _ _ _ _ _ _ _ _ _ _ _ _ _ _ _ _ _ _ _ _ _ _ _ _ _ _ _ _ _ _ _ _ _ _ _ _ _ _ _ _ _ _ _ _ _ _ _ ⟨_, _, _, _, _, _, _, by rw [HN2.out], Hd ⟨HI12.out.more (by omega), by have := HLE.out.close HIO.out l[k].who n op[i].rs; exact this⟩, HB12.out⟩
theorem ts_quit {l : List HStp} {k : Nat} {w w6 : World} {ax g5 : Nat} {h : Hl} {T R : Nat → Prop} {tt : List TkV} {op : List (Opn PCall (PAns × Int))} {tc : List TkV} {ov : List (Ovr PCall (PAns × Int))} {Av Ao : Option Addr} {cv co : Nat} {i : Nat}  {z0 z1 z2 z3 z5 z12 z13 z14 z15 z16 z17 z18 z19 z20 z21 z22 z23 z24 z25 z26 z27 z28 z29 z30 z31 z32 z33 z34 z35 z36 z37 z38 z39 z40 z41 z42 z43 z44 z45 z46 z47 z48 z49 z50 z51 z52 z53 z54 z55 z56 z57 z58 z59 z60 z61 z62 z63 z64 z65 z66 z67 z68 z69 z70 z71 z72 z73 z74 z75 z76 z77 z78 z79 z80 z81 z82 z83 z84 z85 z86 z87 z88 z89 z90 z91 z92 z93 z94 z95 z96 z97 z98 z99 z100 z101 z102 z103 z104 z105 z106 z107 z108 z109 z110 z111 z112 z113 z114 z115 z116 z117 z118 z119 z120 z121 z122 z123 z124 z125 z126 z127 z128 z129 z130 z131 z132 z133 z134 z135 z136 z137 z138 z139 z140 z141 z142 z143 z144 z145 z146 z147 z148 z149 z150 z151 z152 z153 z154 z155 z156 z157 z158 z159 z160 z161 z162 z163 z164 z165 z166 z167 z168 z169 z170 z171 z172 z173 z174 z175 z176 z177 z178 z179 z180 z181 z182 z183 z184 z185 z186 z187 z188 z189 z190 z191 z192 z193 z194 z195 z196 z197 z198 z199 z200 z201 z202 z203 z204 z205 z206 z207 z208 z209 z210 z211 z212 z213 z214 z215 z216 z217 z218 z219 z220 z221 z222 z223 z224 z225 z226 z227 z228 z229 z230 z231 z232 z233 z234 z235 z236 z237 z238 z239 z240 z241 z242 z243 z244 z245 z246 z247 z248 z249 z250 z251 z252 z253 z254 z255 z256 z257 z258 z259 z260 z261 z262 z263 z264 z265 z266 z267 z268 z269 z270 z271 z272 z273 z274 z275 z276 z277 z278 z279 z280 z281 z282 z283 z284 z285 z286 z287 z288 z289 z290 z291 z292 z293 z294 z295 z296 z297 z298 : Value} {Q : Exit → Act → World → Prop} (hR1 : Hid (∀ (y2 y6 y7 y8 y13 y14 y15 y16 y17 y18 y19 y20 y21 y22 y23 y47 y48 y49 y50 y51 y52 y53 y54 y55 y56 y57 y58 y59 y60 y61 y62 y63 y64 y65 y66 y67 y68 y69 y70 y71 y72 y73 y74 y75 y76 y77 y78 y79 y80 y81 y82 y83 y84 y85 y86 y87 y88 y89 y90 y91 y92 y93 y94 y95 y96 y97 y98 y99 y100 y101 y102 y103 y104 y105 y106 y107 y108 y109 y110 y111 y112 y113 y114 y115 y116 y117 y118 y119 y120 y121 y122 y123 y124 y125 y126 y127 y128 y129 y130 y131 y132 y133 y134 y135 y136 y137 y138 y139 y140 y141 y142 y143 y144 y145 y146 y147 y148 y149 y150 y151 y152 y153 y154 y155 y156 y157 y158 y159 y160 y161 y162 y163 y164 y165 y166 y167 y168 y169 y170 y171 y172 y173 y174 y175 y176 y177 y178 y179 y180 y181 y182 y183 y184 y185 y186 y187 y188 y189 y190 y191 y192 y193 y194 y195 y196 y197 y198 y199 y200 y201 y202 y203 y204 : Value) (w' : World), (∃ (h' : Hl) (T' R' : Nat → Prop) (tt' : List TkV) (op' : List (Opn PCall (PAns × Int))) (tc' : List TkV) (ov' : List (Ovr PCall (PAns × Int))), y8 = .int .i64 (h'.d.all.length : Nat) ∧ Hid (SrS w.heap.size w' T' R' ax h' (2 * (k + 1)) y6 tt' op' y7 tc' ov' ∧ SzS op' ov' (k + 1)) ∧ Below w.heap.size w w') → Q .normal ⟨List.toArray (z0 :: z1 :: y2 :: z3 :: ptrV ax :: z5 :: y6 :: y7 :: y8 :: .int .i64 (k : Int) :: .pointer (some ⟨g5, 0, none⟩) :: .int .i64 (i : Int) :: z12 :: y13 :: y14 :: y15 :: y16 :: y17 :: y18 :: y19 :: y20 :: y21 :: y22 :: y23 :: z24 :: z25 :: z26 :: z27 :: z28 :: z29 :: z30 :: z31 :: z32 :: z33 :: z34 :: z35 :: z36 :: z37 :: z38 :: z39 :: z40 :: z41 :: z42 :: z43 :: z44 :: z45 :: z46 :: y47 :: y48 :: y49 :: y50 :: y51 :: y52 :: y53 :: y54 :: y55 :: y56 :: y57 :: y58 :: y59 :: y60 :: y61 :: y62 :: y63 :: y64 :: y65 :: y66 :: y67 :: y68 :: y69 :: y70 :: y71 :: y72 :: y73 :: y74 :: y75 :: y76 :: y77 :: y78 :: y79 :: y80 :: y81 :: y82 :: y83 :: y84 :: y85 :: y86 :: y87 :: y88 :: y89 :: y90 :: y91 :: y92 :: y93 :: y94 :: y95 :: y96 :: y97 :: y98 :: y99 :: y100 :: y101 :: y102 :: y103 :: y104 :: y105 :: y106 :: y107 :: y108 :: y109 :: y110 :: y111 :: y112 :: y113 :: y114 :: y115 :: y116 :: y117 :: y118 :: y119 :: y120 :: y121 :: y122 :: y123 :: y124 :: y125 :: y126 :: y127 :: y128 :: y129 :: y130 :: y131 :: y132 :: y133 :: y134 :: y135 :: y136 :: y137 :: y138 :: y139 :: y140 :: y141 :: y142 :: y143 :: y144 :: y145 :: y146 :: y147 :: y148 :: y149 :: y150 :: y151 :: y152 :: y153 :: y154 :: y155 :: y156 :: y157 :: y158 :: y159 :: y160 :: y161 :: y162 :: y163 :: y164 :: y165 :: y166 :: y167 :: y168 :: y169 :: y170 :: y171 :: y172 :: y173 :: y174 :: y175 :: y176 :: y177 :: y178 :: y179 :: y180 :: y181 :: y182 :: y183 :: y184 :: y185 :: y186 :: y187 :: y188 :: y189 :: y190 :: y191 :: y192 :: y193 :: y194 :: y195 :: y196 :: y197 :: y198 :: y199 :: y200 :: y201 :: y202 :: y203 :: y204 :: z205 :: z206 :: z207 :: z208 :: z209 :: z210 :: z211 :: z212 :: z213 :: z214 :: z215 :: z216 :: z217 :: z218 :: z219 :: z220 :: z221 :: z222 :: z223 :: z224 :: z225 :: z226 :: z227 :: z228 :: z229 :: z230 :: z231 :: z232 :: z233 :: z234 :: z235 :: z236 :: z237 :: z238 :: z239 :: z240 :: z241 :: z242 :: z243 :: z244 :: z245 :: z246 :: z247 :: z248 :: z249 :: z250 :: z251 :: z252 :: z253 :: z254 :: z255 :: z256 :: z257 :: z258 :: z259 :: z260 :: z261 :: z262 :: z263 :: z264 :: z265 :: z266 :: z267 :: z268 :: z269 :: z270 :: z271 :: z272 :: z273 :: z274 :: z275 :: z276 :: z277 :: z278 :: z279 :: z280 :: z281 :: z282 :: z283 :: z284 :: z285 :: z286 :: z287 :: z288 :: z289 :: z290 :: z291 :: z292 :: z293 :: z294 :: z295 :: z296 :: z297 :: z298 :: []), []⟩ w')) (hR2 : Hid (∀ (y2 y6 y7 y8 y13 y14 y15 y16 y17 y18 y19 y20 y21 y22 y23 y47 y48 y49 y50 y51 y52 y53 y54 y55 y56 y57 y58 y59 y60 y61 y62 y63 y64 y65 y66 y67 y68 y69 y70 y71 y72 y73 y74 y75 y76 y77 y78 y79 y80 y81 y82 y83 y84 y85 y86 y87 y88 y89 y90 y91 y92 y93 y94 y95 y96 y97 y98 y99 y100 y101 y102 y103 y104 y105 y106 y107 y108 y109 y110 y111 y112 y113 y114 y115 y116 y117 y118 y119 y120 y121 y122 y123 y124 y125 y126 y127 y128 y129 y130 y131 y132 y133 y134 y135 y136 y137 y138 y139 y140 y141 y142 y143 y144 y145 y146 y147 y148 y149 y150 y151 y152 y153 y154 y155 y156 y157 y158 y159 y160 y161 y162 y163 y164 y165 y166 y167 y168 y169 y170 y171 y172 y173 y174 y175 y176 y177 y178 y179 y180 y181 y182 y183 y184 y185 y186 y187 y188 y189 y190 y191 y192 y193 y194 y195 y196 y197 y198 y199 y200 y201 y202 y203 y204 : Value) (w' : World), (∃ (h' : Hl) (T' R' : Nat → Prop) (tt' : List TkV) (op' : List (Opn PCall (PAns × Int))) (tc' : List TkV) (ov' : List (Ovr PCall (PAns × Int))), y8 = .int .i64 (h'.d.all.length : Nat) ∧ Hid (SrS w.heap.size w' T' R' ax h' (2 * (k + 1)) y6 tt' op' y7 tc' ov' ∧ SzS op' ov' (k + 1)) ∧ Below w.heap.size w w') → Q (.exit 1) ⟨List.toArray (z0 :: z1 :: y2 :: z3 :: ptrV ax :: z5 :: y6 :: y7 :: y8 :: .int .i64 (k : Int) :: .pointer (some ⟨g5, 0, none⟩) :: .int .i64 (i : Int) :: z12 :: y13 :: y14 :: y15 :: y16 :: y17 :: y18 :: y19 :: y20 :: y21 :: y22 :: y23 :: z24 :: z25 :: z26 :: z27 :: z28 :: z29 :: z30 :: z31 :: z32 :: z33 :: z34 :: z35 :: z36 :: z37 :: z38 :: z39 :: z40 :: z41 :: z42 :: z43 :: z44 :: z45 :: z46 :: y47 :: y48 :: y49 :: y50 :: y51 :: y52 :: y53 :: y54 :: y55 :: y56 :: y57 :: y58 :: y59 :: y60 :: y61 :: y62 :: y63 :: y64 :: y65 :: y66 :: y67 :: y68 :: y69 :: y70 :: y71 :: y72 :: y73 :: y74 :: y75 :: y76 :: y77 :: y78 :: y79 :: y80 :: y81 :: y82 :: y83 :: y84 :: y85 :: y86 :: y87 :: y88 :: y89 :: y90 :: y91 :: y92 :: y93 :: y94 :: y95 :: y96 :: y97 :: y98 :: y99 :: y100 :: y101 :: y102 :: y103 :: y104 :: y105 :: y106 :: y107 :: y108 :: y109 :: y110 :: y111 :: y112 :: y113 :: y114 :: y115 :: y116 :: y117 :: y118 :: y119 :: y120 :: y121 :: y122 :: y123 :: y124 :: y125 :: y126 :: y127 :: y128 :: y129 :: y130 :: y131 :: y132 :: y133 :: y134 :: y135 :: y136 :: y137 :: y138 :: y139 :: y140 :: y141 :: y142 :: y143 :: y144 :: y145 :: y146 :: y147 :: y148 :: y149 :: y150 :: y151 :: y152 :: y153 :: y154 :: y155 :: y156 :: y157 :: y158 :: y159 :: y160 :: y161 :: y162 :: y163 :: y164 :: y165 :: y166 :: y167 :: y168 :: y169 :: y170 :: y171 :: y172 :: y173 :: y174 :: y175 :: y176 :: y177 :: y178 :: y179 :: y180 :: y181 :: y182 :: y183 :: y184 :: y185 :: y186 :: y187 :: y188 :: y189 :: y190 :: y191 :: y192 :: y193 :: y194 :: y195 :: y196 :: y197 :: y198 :: y199 :: y200 :: y201 :: y202 :: y203 :: y204 :: z205 :: z206 :: z207 :: z208 :: z209 :: z210 :: z211 :: z212 :: z213 :: z214 :: z215 :: z216 :: z217 :: z218 :: z219 :: z220 :: z221 :: z222 :: z223 :: z224 :: z225 :: z226 :: z227 :: z228 :: z229 :: z230 :: z231 :: z232 :: z233 :: z234 :: z235 :: z236 :: z237 :: z238 :: z239 :: z240 :: z241 :: z242 :: z243 :: z244 :: z245 :: z246 :: z247 :: z248 :: z249 :: z250 :: z251 :: z252 :: z253 :: z254 :: z255 :: z256 :: z257 :: z258 :: z259 :: z260 :: z261 :: z262 :: z263 :: z264 :: z265 :: z266 :: z267 :: z268 :: z269 :: z270 :: z271 :: z272 :: z273 :: z274 :: z275 :: z276 :: z277 :: z278 :: z279 :: z280 :: z281 :: z282 :: z283 :: z284 :: z285 :: z286 :: z287 :: z288 :: z289 :: z290 :: z291 :: z292 :: z293 :: z294 :: z295 :: z296 :: z297 :: z298 :: []), []⟩ w')) (hlt1 : k < l.length) (hlt2 : k < 60) (HKS : Hid (HStpOk l[k])) (HLE : Hid (SzS op ov k)) (HNT : Hid (¬ T g5)) (HI : Hid (SrS w.heap.size w6 T R ax h (2 * k) (.slice Av tt.length cv) tt op (.slice Ao tc.length co) tc ov)) (HB : Hid (Below w.heap.size w w6)) (HBK6 : Hid (Blk w6 g5 35 #[.int .i64 l[k].what, txt l[k].who, .int .i64 l[k].n, .int .i64 l[k].call.what, txt l[k].call.name, .int .i64 l[k].call.pa, .int .i64 l[k].call.pn, .int .i64 l[k].call.len, .int .i64 l[k].call.ad, txt l[k].call.owner])) (hi : i < op.length) (hwho : op[i].who = l[k].who) (hw2 : l[k].what = 2) :
  Code.wp Tryz.prog (cR (cR (cR (cL (cL (cR (cL (cL (cR (cL (cR (cR (cR (cR (cR (cR (Tryz.f3.body.getD .skip))))))))))))))))) Q ⟨List.toArray (z0 :: z1 :: z2 :: z3 :: ptrV ax :: z5 :: .slice Av tt.length cv :: .slice Ao tc.length co :: .int .i64 (h.d.all.length : Nat) :: .int .i64 (k : Int) :: .pointer (some ⟨g5, 0, none⟩) :: .int .i64 (i : Int) :: z12 :: z13 :: z14 :: z15 :: z16 :: z17 :: z18 :: z19 :: z20 :: z21 :: z22 :: z23 :: z24 :: z25 :: z26 :: z27 :: z28 :: z29 :: z30 :: z31 :: z32 :: z33 :: z34 :: z35 :: z36 :: z37 :: z38 :: z39 :: z40 :: z41 :: z42 :: z43 :: z44 :: z45 :: z46 :: z47 :: z48 :: z49 :: z50 :: z51 :: z52 :: z53 :: z54 :: z55 :: z56 :: z57 :: z58 :: z59 :: z60 :: z61 :: z62 :: z63 :: z64 :: z65 :: z66 :: z67 :: z68 :: z69 :: z70 :: z71 :: z72 :: z73 :: z74 :: z75 :: z76 :: z77 :: z78 :: z79 :: z80 :: z81 :: z82 :: z83 :: z84 :: z85 :: z86 :: z87 :: z88 :: z89 :: z90 :: z91 :: z92 :: z93 :: z94 :: z95 :: z96 :: z97 :: z98 :: z99 :: z100 :: z101 :: z102 :: z103 :: z104 :: z105 :: z106 :: z107 :: z108 :: z109 :: z110 :: z111 :: z112 :: z113 :: z114 :: z115 :: z116 :: z117 :: z118 :: z119 :: z120 :: z121 :: z122 :: z123 :: z124 :: z125 :: z126 :: z127 :: z128 :: z129 :: z130 :: z131 :: z132 :: z133 :: z134 :: z135 :: z136 :: z137 :: z138 :: z139 :: z140 :: z141 :: z142 :: z143 :: z144 :: z145 :: z146 :: z147 :: z148 :: z149 :: z150 :: z151 :: z152 :: z153 :: z154 :: z155 :: z156 :: z157 :: z158 :: z159 :: z160 :: z161 :: z162 :: z163 :: z164 :: z165 :: z166 :: z167 :: z168 :: z169 :: z170 :: z171 :: z172 :: z173 :: z174 :: z175 :: z176 :: z177 :: z178 :: z179 :: z180 :: z181 :: z182 :: z183 :: z184 :: z185 :: z186 :: z187 :: z188 :: z189 :: z190 :: z191 :: z192 :: z193 :: z194 :: z195 :: z196 :: z197 :: z198 :: z199 :: z200 :: z201 :: z202 :: z203 :: z204 :: z205 :: z206 :: z207 :: z208 :: z209 :: z210 :: z211 :: z212 :: z213 :: z214 :: z215 :: z216 :: z217 :: z218 :: z219 :: z220 :: z221 :: z222 :: z223 :: z224 :: z225 :: z226 :: z227 :: z228 :: z229 :: z230 :: z231 :: z232 :: z233 :: z234 :: z235 :: z236 :: z237 :: z238 :: z239 :: z240 :: z241 :: z242 :: z243 :: z244 :: z245 :: z246 :: z247 :: z248 :: z249 :: z250 :: z251 :: z252 :: z253 :: z254 :: z255 :: z256 :: z257 :: z258 :: z259 :: z260 :: z261 :: z262 :: z263 :: z264 :: z265 :: z266 :: z267 :: z268 :: z269 :: z270 :: z271 :: z272 :: z273 :: z274 :: z275 :: z276 :: z277 :: z278 :: z279 :: z280 :: z281 :: z282 :: z283 :: z284 :: z285 :: z286 :: z287 :: z288 :: z289 :: z290 :: z291 :: z292 :: z293 :: z294 :: z295 :: z296 :: z297 :: z298 :: []), []⟩ w6 := by
 let QF : Exit → Act → World → Prop := bodyPost Tryz.prog Tryz.f3 (fun _ _ => True)
 conv => arg 2; whnf
 have x0 := HBK6.out.cell 0; have x1' := HBK6.out.cell 1; have x2' := HBK6.out.cell 2; have x3' := HBK6.out.cell 3; have x4 := HBK6.out.cell 4; have x5 := HBK6.out.cell 5; have x6 := HBK6.out.cell 6; have x7 := HBK6.out.cell 7; have x8 := HBK6.out.cell 8; have x9 := HBK6.out.cell 9
 simp at x0 x1' x2' x3' x4 x5 x6 x7 x8 x9
 have hi0 : ¬ ((i : Int) < 0) := by omega
 have HWHO := Hd hwho
 clear hwho
 obtain ⟨gv, cv2, hvv, hgv, t, ht, htk, hcc⟩ := HI.out.rowO hi
 cases hvv
 obtain ⟨Ac, kc, At, kt, Ae, ke, hte, hrc, hre⟩ := htk.form
 generalize t.n = tn at hte
 subst hte
 have hit : i < tt.length := by rw [HI.out.m.lo]; exact hi
 have hI5 : (i : Int) < (tt.length : Int) := by omega
 have HNV := Hd (HI.out.m.no gv rfl)
 have y0 := hcc 0 _ rfl; have y1 := hcc 1 _ rfl; have y2 := hcc 2 _ rfl; have y3 := hcc 3 _ rfl; have y4 := hcc 4 _ rfl
 rw [Nat.add_zero] at y0
 have HTK := Hd htk
 have HT := Hd ht
 have HRD := Hd (show Rd w6 w6.heap.size (some ⟨gv, 0, none⟩) (flatE encT tt) from Rd.of_own HI.out.m.ro)
 have HLO := Hd HI.out.m.lo
 have h60 : tt.length ≤ 60 := by have := HLE.out.lo; have := HLO.out; omega
 have HIO := Hd hi
 have HIT := Hd hit
 have HGL := Hd hgv
 have HBL := Hd HB.out.size
 clear hcc htk ht hrc hre
 skip
 have hb7 := (Below.refl w6.heap.size w6).alloc (Nat.le_refl _) (.cells #[.string ⟨op[i].who.toArray⟩, .int .i64 tn, .slice Ac op[i].cs.length kc, .slice At op[i].cs.length kt, .slice Ae op[i].cs.length ke] 40)
 have hbx := Blk.new w6 40 #[.string ⟨op[i].who.toArray⟩, .int .i64 tn, .slice Ac op[i].cs.length kc, .slice At op[i].cs.length kt, .slice Ae op[i].cs.length ke]
 go_upto_region 40 with fail
 skip
 refine wp_name (fun w7 HW => ?_)
 replace hb7 : Below w6.heap.size w6 w7 := by rw [HW.out]; exact hb7
 replace hbx : Blk w7 w6.heap.size 40 #[.string ⟨op[i].who.toArray⟩, .int .i64 tn, .slice Ac op[i].cs.length kc, .slice At op[i].cs.length kt, .slice Ae op[i].cs.length ke] := by rw [HW.out]; exact hbx
 have HB7 := Hd hb7
 have HBX := Hd hbx
 have HXL := Hd hbx.lt
 have hle7 := hb7.size
 have HR1 := Hd (Rd.head flatT_len (HRD.out.below hb7) i)
 have HCAP := Hd (own_cap HI.out.m.ro)
 have hicv : i ≤ cv := by have := HCAP.out; omega
 have hicv2 : i + 1 ≤ cv := by have := HCAP.out; omega
 have hicl : i + 1 ≤ tt.length := by omega
 have HR2 := Hd (Rd.tailIf flatT_len (HRD.out.below hb7) (i + 1) HCAP.out)
 have HL1 := Hd (show (flatE encT (tt.take i)).length = i * 5 by rw [flatE_length flatT_len, List.length_take, Nat.min_eq_left (by omega)])
 have HONE := Hd HI.out.m.one
 have HL2 := Hd (show (flatE encT (tt.drop (i + 1))).length = (tt.length - (i + 1)) * 5 by rw [flatE_length flatT_len, List.length_drop])
 have HO0 := Hd (one_take HONE.out i)
 have HO1 := Hd (one_drop HONE.out (i + 1))
 obtain ⟨F0, hF0⟩ : ∃ F, F = flatE encT (tt.take i) := ⟨_, rfl⟩
 obtain ⟨F1, hF1⟩ : ∃ F, F = flatE encT (tt.drop (i + 1)) := ⟨_, rfl⟩
 rw [← hF0] at HR1 HL1 HO0
 rw [← hF1] at HR2 HL2 HO1
 have HF01 := Hd (And.intro hF0 hF1)
 clear hF0 hF1
 clear HW hb7 hbx y0 y1 y2 y3 y4
 go_upto_region 41 with fail
 go_upto_region 42 with (at_builtin; go_must (refine wpList_append_rd rfl _ _ 29 rfl 40 Tryz.underlying29 _ 5 96 infoTk rfl (by decide) w7.heap.size (.slice none 0 0) 0 [] rfl (World.ownsRow_nil _ _ _ _) w6.heap.size (some ⟨gv, 0, none⟩) i cv F0 rfl HL1.out HR1.out HO0.out (cut_len0 HIT.out h60).1 (cut_len0 HIT.out h60).2 (Nat.le_refl _) ?_); intro v8 w8 hown8 hb8)
 rw [Nat.zero_add, List.nil_append] at hown8
 obtain ⟨A8, c8, rfl, _⟩ := own_form hown8
 have hle8 := hb8.size
 have HO8 := Hd hown8
 have HR28 := Hd (HR2.out.below (hb8.mono hle7))
 have HXT := Hd HI.out.x.lt
 have HZB := Hd HB.out.size
 go_upto_region 42 with fail
 go_cut [6] (fun v wx => ∃ (A9 : Option Addr) (c9 : Nat), v = .slice A9 (tt.eraseIdx i).length c9 ∧ Hid (wx.ownsRow w7.heap.size 40 5 v (tt.eraseIdx i).length (flatE encT (tt.eraseIdx i))) ∧ Below w7.heap.size w7 wx)
 case first =>
  by_cases hcap : cv = i + 1
  ·skip
   have hR29 := HR28.out
   rw [if_pos hcap] at hR29
   have HR29 := Hd hR29
   clear hR29
   go_wp2_with (at_builtin; go_must (refine wpList_append_rd rfl _ _ 29 rfl 40 Tryz.underlying29 _ 5 96 infoTk rfl (by decide) w7.heap.size (.slice A8 i c8) i F0 rfl HO8.out w6.heap.size _ _ _ F1 rfl HL2.out HR29.out HO1.out (cut_len HIT.out h60).1 (cut_len HIT.out h60).2 hle8 ?_); intro v9 w9 hown9 hb9)
   rw [HF01.out.1, HF01.out.2, ← flatE_append, ← List.eraseIdx_eq_take_drop_succ, cut_erase HIT.out] at hown9
   obtain ⟨A9, c9, rfl, _⟩ := own_form hown9
   have HO9 := Hd hown9
   have hb79 := hb8.trans hb9
   go_wp2
   go_meet
   exact ⟨A9, c9, rfl, HO9, hb79⟩
  ·skip
   have hR29 := HR28.out
   rw [if_neg hcap] at hR29
   have HR29 := Hd hR29
   clear hR29
   go_wp2_with (at_builtin; go_must (refine wpList_append_rd rfl _ _ 29 rfl 40 Tryz.underlying29 _ 5 96 infoTk rfl (by decide) w7.heap.size (.slice A8 i c8) i F0 rfl HO8.out w6.heap.size _ _ _ F1 rfl HL2.out HR29.out HO1.out (cut_len HIT.out h60).1 (cut_len HIT.out h60).2 hle8 ?_); intro v9 w9 hown9 hb9)
   rw [HF01.out.1, HF01.out.2, ← flatE_append, ← List.eraseIdx_eq_take_drop_succ, cut_erase HIT.out] at hown9
   obtain ⟨A9, c9, rfl, _⟩ := own_form hown9
   have HO9 := Hd hown9
   have hb79 := hb8.trans hb9
   go_wp2
   go_meet
   exact ⟨A9, c9, rfl, HO9, hb79⟩
 case rest =>
  obtain ⟨A9, c9, rfl, HO9, hb79⟩ := hcut
  have hown9 := HO9.out
  have hM7 := HI.out.m.bel HB7.out
  have hM9 := hM7.closed (by have := HZB.out; omega) (k := i) hb79 hown9 (fun q e => by have := HXT.out q e; omega)
  have hb69 := HB7.out.trans (hb79.mono hle7)
  generalize wc = w9 at *
  have HM9 := Hd hM9
  have HX9 := Hd (HI.out.x.bel hb69)
  have HB9 := Hd (HB.out.trans (hb69.mono HB.out.size))
  have HTK9 := Hd (HTK.out.bel hb69)
  have HBX9 := Hd (HBX.out.below hb79 HXL.out)
  have HBK9 := Hd (HBK6.out.below hb69 HBK6.out.lt)
  have HV9 := Hd (show ∀ q, (Value.slice A9 (tt.eraseIdx i).length c9).ownBlock = some q → w7.heap.size ≤ q from fun q e => (World.ownsRow.lt hown9 q e).1)
  have HVO := Hd (show ∀ q, (Value.slice Ao tc.length co).ownBlock = some q → q < w6.heap.size from own_bq HI.out.m.rc)
  have HBS := Hd (show w6.heap.size < w7.heap.size from HXL.out)
  have z0 := HBK9.out.cell 0
  have z1 := HBK9.out.cell 1
  simp at z0 z1
  have HS69 := Hd hb69.size
  have HN6 := Hd (show ∀ q, T q ∨ R q → q < w6.heap.size from fun q e => e.elim (HI.out.x.lt q) (fun e => (HI.out.m.sep q e).2.1))
  have HQ6 := Hd HI.out.q
  clear hown9 HO9 hb8 hb79 hM7 hM9 hb69 HO8 HR1 HR2 HR28 HL1 HL2 HCAP hle7 hle8 HBX HTK HBK6 HRD HB7 hicv hicv2 hicl
  have HC := Hd (HX9.out.quit_h (by omega) l[k].who HKS.out.who)
  have hq := HQ6.out.quit HIO.out
  rw [HWHO.out] at hq
  have HQ := Hd hq
  have HF := Hd (show faultV (h.quit l[k].who).1 = .nilIface by rw [hq.1]; rfl)
  clear hq
  go_wp2_with fail
  refine HC.out.mono ?_
  rintro e w10 ⟨rfl, T10, hs10⟩
  rw [HF.out]
  have HX10 := Hd hs10.hk
  have HM10 := Hd (HM9.out.step hs10)
  have HB10 := Hd (HB9.out.trans (hs10.belB HX9.out.lo))
  clear HC hs10
  go_wp2
  first | exact hR1.out _ _ _ _ _ _ _ _ _ _ _ _ _ _ _ _ _ _ _ _ _ _ _ _ _ _ _ _ _ _ _ _ _ _ _ _ _ _ _ _ _ _ _ _ _ _ _ _ _ _ _ _ _ _ _ _ _ _ _ _ _ _ _ _ _ _ _ _ _ _ _ _ _ _ _ _ _ _ _ _ _ _ _ _ _ _ _ _ _ _ _ _ _ _ _ _ _ _ _ _ _ _ _ _ _ _ _ _ _ _ _ _ _ _ _ _ _ _ _ _ _ _ _ _ _ _ _ _ _ _ _ _ _ _ _ _ _ _ _ _ _ _ _ _ _ _ _ _ _ _ _ _ _ _ _ _ _ _ _ _ _ _ _ _ _ _ _ _ _ _ _ _ _ _ ⟨_, _, _, _, _, _, _, by rw [HQ.out.2.1], Hd ⟨⟨HX10.out.more (by omega), HQ.out.2.2, HM10.out⟩, HLE.out.drop i⟩, HB10.out⟩ | exact hR2.out _ _ _ _ _ _ _ _ _ _ _ _ _ _ _ _ _ _ _ _ _ _ _ _ _ _ _ _ _ _ _ _ _ _ _ _ _ _ _ _ _ _ _ _ _ _ _ _ _ _ _ _ _ _ _ _ _ _ _ _ _ _ _ _ _ _ _ _ _ _ _ _ _ _ _ _ _ _ _ _ _ _ _ _ _ _ _ _ _ _ _ _ _ _ _ _ _ _ _ _ _ _ _ _ _ _ _ _ _ _ _ _ _ _ _ _ _ _ _ _ _ _ _ _ _ _ _ _ _ _ _ _ _ _ _ _ _ _ _ _ _ _ _ _ _ _ _ _ _ _ _ _ _ _ _ _ _ _ _ _ _ _ _ _ _ _ _ _ _ _ _ _ _ _ ⟨_, _, _, _, _, _, _, by rw [HQ.out.2.1], Hd ⟨⟨HX10.out.more (by omega), HQ.out.2.2, HM10.out⟩, HLE.out.drop i⟩, HB10.out⟩
theorem ts_ask {l : List HStp} {k : Nat} {w w6 : World} {ax g5 : Nat} {h : Hl} {T R : Nat → Prop} {tt : List TkV} {op : List (Opn PCall (PAns × Int))} {tc : List TkV} {ov : List (Ovr PCall (PAns × Int))} {Av Ao : Option Addr} {cv co : Nat} {i : Nat}  {z0 z1 z2 z3 z5 z12 z13 z14 z15 z16 z17 z18 z19 z20 z21 z22 z23 z24 z25 z26 z27 z28 z29 z30 z31 z32 z33 z34 z35 z36 z37 z38 z39 z40 z41 z42 z43 z44 z45 z46 z47 z48 z49 z50 z51 z52 z53 z54 z55 z56 z57 z58 z59 z60 z61 z62 z63 z64 z65 z66 z67 z68 z69 z70 z71 z72 z73 z74 z75 z76 z77 z78 z79 z80 z81 z82 z83 z84 z85 z86 z87 z88 z89 z90 z91 z92 z93 z94 z95 z96 z97 z98 z99 z100 z101 z102 z103 z104 z105 z106 z107 z108 z109 z110 z111 z112 z113 z114 z115 z116 z117 z118 z119 z120 z121 z122 z123 z124 z125 z126 z127 z128 z129 z130 z131 z132 z133 z134 z135 z136 z137 z138 z139 z140 z141 z142 z143 z144 z145 z146 z147 z148 z149 z150 z151 z152 z153 z154 z155 z156 z157 z158 z159 z160 z161 z162 z163 z164 z165 z166 z167 z168 z169 z170 z171 z172 z173 z174 z175 z176 z177 z178 z179 z180 z181 z182 z183 z184 z185 z186 z187 z188 z189 z190 z191 z192 z193 z194 z195 z196 z197 z198 z199 z200 z201 z202 z203 z204 z205 z206 z207 z208 z209 z210 z211 z212 z213 z214 z215 z216 z217 z218 z219 z220 z221 z222 z223 z224 z225 z226 z227 z228 z229 z230 z231 z232 z233 z234 z235 z236 z237 z238 z239 z240 z241 z242 z243 z244 z245 z246 z247 z248 z249 z250 z251 z252 z253 z254 z255 z256 z257 z258 z259 z260 z261 z262 z263 z264 z265 z266 z267 z268 z269 z270 z271 z272 z273 z274 z275 z276 z277 z278 z279 z280 z281 z282 z283 z284 z285 z286 z287 z288 z289 z290 z291 z292 z293 z294 z295 z296 z297 z298 : Value} {Q : Exit → Act → World → Prop} (hR1 : Hid (∀ (y2 y6 y7 y8 y13 y14 y15 y16 y17 y18 y19 y20 y21 y22 y23 y47 y48 y49 y50 y51 y52 y53 y54 y55 y56 y57 y58 y59 y60 y61 y62 y63 y64 y65 y66 y67 y68 y69 y70 y71 y72 y73 y74 y75 y76 y77 y78 y79 y80 y81 y82 y83 y84 y85 y86 y87 y88 y89 y90 y91 y92 y93 y94 y95 y96 y97 y98 y99 y100 y101 y102 y103 y104 y105 y106 y107 y108 y109 y110 y111 y112 y113 y114 y115 y116 y117 y118 y119 y120 y121 y122 y123 y124 y125 y126 y127 y128 y129 y130 y131 y132 y133 y134 y135 y136 y137 y138 y139 y140 y141 y142 y143 y144 y145 y146 y147 y148 y149 y150 y151 y152 y153 y154 y155 y156 y157 y158 y159 y160 y161 y162 y163 y164 y165 y166 y167 y168 y169 y170 y171 y172 y173 y174 y175 y176 y177 y178 y179 y180 y181 y182 y183 y184 y185 y186 y187 y188 y189 y190 y191 y192 y193 y194 y195 y196 y197 y198 y199 y200 y201 y202 y203 y204 : Value) (w' : World), (∃ (h' : Hl) (T' R' : Nat → Prop) (tt' : List TkV) (op' : List (Opn PCall (PAns × Int))) (tc' : List TkV) (ov' : List (Ovr PCall (PAns × Int))), y8 = .int .i64 (h'.d.all.length : Nat) ∧ Hid (SrS w.heap.size w' T' R' ax h' (2 * (k + 1)) y6 tt' op' y7 tc' ov' ∧ SzS op' ov' (k + 1)) ∧ Below w.heap.size w w') → Q .normal ⟨List.toArray (z0 :: z1 :: y2 :: z3 :: ptrV ax :: z5 :: y6 :: y7 :: y8 :: .int .i64 (k : Int) :: .pointer (some ⟨g5, 0, none⟩) :: .int .i64 (i : Int) :: z12 :: y13 :: y14 :: y15 :: y16 :: y17 :: y18 :: y19 :: y20 :: y21 :: y22 :: y23 :: z24 :: z25 :: z26 :: z27 :: z28 :: z29 :: z30 :: z31 :: z32 :: z33 :: z34 :: z35 :: z36 :: z37 :: z38 :: z39 :: z40 :: z41 :: z42 :: z43 :: z44 :: z45 :: z46 :: y47 :: y48 :: y49 :: y50 :: y51 :: y52 :: y53 :: y54 :: y55 :: y56 :: y57 :: y58 :: y59 :: y60 :: y61 :: y62 :: y63 :: y64 :: y65 :: y66 :: y67 :: y68 :: y69 :: y70 :: y71 :: y72 :: y73 :: y74 :: y75 :: y76 :: y77 :: y78 :: y79 :: y80 :: y81 :: y82 :: y83 :: y84 :: y85 :: y86 :: y87 :: y88 :: y89 :: y90 :: y91 :: y92 :: y93 :: y94 :: y95 :: y96 :: y97 :: y98 :: y99 :: y100 :: y101 :: y102 :: y103 :: y104 :: y105 :: y106 :: y107 :: y108 :: y109 :: y110 :: y111 :: y112 :: y113 :: y114 :: y115 :: y116 :: y117 :: y118 :: y119 :: y120 :: y121 :: y122 :: y123 :: y124 :: y125 :: y126 :: y127 :: y128 :: y129 :: y130 :: y131 :: y132 :: y133 :: y134 :: y135 :: y136 :: y137 :: y138 :: y139 :: y140 :: y141 :: y142 :: y143 :: y144 :: y145 :: y146 :: y147 :: y148 :: y149 :: y150 :: y151 :: y152 :: y153 :: y154 :: y155 :: y156 :: y157 :: y158 :: y159 :: y160 :: y161 :: y162 :: y163 :: y164 :: y165 :: y166 :: y167 :: y168 :: y169 :: y170 :: y171 :: y172 :: y173 :: y174 :: y175 :: y176 :: y177 :: y178 :: y179 :: y180 :: y181 :: y182 :: y183 :: y184 :: y185 :: y186 :: y187 :: y188 :: y189 :: y190 :: y191 :: y192 :: y193 :: y194 :: y195 :: y196 :: y197 :: y198 :: y199 :: y200 :: y201 :: y202 :: y203 :: y204 :: z205 :: z206 :: z207 :: z208 :: z209 :: z210 :: z211 :: z212 :: z213 :: z214 :: z215 :: z216 :: z217 :: z218 :: z219 :: z220 :: z221 :: z222 :: z223 :: z224 :: z225 :: z226 :: z227 :: z228 :: z229 :: z230 :: z231 :: z232 :: z233 :: z234 :: z235 :: z236 :: z237 :: z238 :: z239 :: z240 :: z241 :: z242 :: z243 :: z244 :: z245 :: z246 :: z247 :: z248 :: z249 :: z250 :: z251 :: z252 :: z253 :: z254 :: z255 :: z256 :: z257 :: z258 :: z259 :: z260 :: z261 :: z262 :: z263 :: z264 :: z265 :: z266 :: z267 :: z268 :: z269 :: z270 :: z271 :: z272 :: z273 :: z274 :: z275 :: z276 :: z277 :: z278 :: z279 :: z280 :: z281 :: z282 :: z283 :: z284 :: z285 :: z286 :: z287 :: z288 :: z289 :: z290 :: z291 :: z292 :: z293 :: z294 :: z295 :: z296 :: z297 :: z298 :: []), []⟩ w')) (hR2 : Hid (∀ (y2 y6 y7 y8 y13 y14 y15 y16 y17 y18 y19 y20 y21 y22 y23 y47 y48 y49 y50 y51 y52 y53 y54 y55 y56 y57 y58 y59 y60 y61 y62 y63 y64 y65 y66 y67 y68 y69 y70 y71 y72 y73 y74 y75 y76 y77 y78 y79 y80 y81 y82 y83 y84 y85 y86 y87 y88 y89 y90 y91 y92 y93 y94 y95 y96 y97 y98 y99 y100 y101 y102 y103 y104 y105 y106 y107 y108 y109 y110 y111 y112 y113 y114 y115 y116 y117 y118 y119 y120 y121 y122 y123 y124 y125 y126 y127 y128 y129 y130 y131 y132 y133 y134 y135 y136 y137 y138 y139 y140 y141 y142 y143 y144 y145 y146 y147 y148 y149 y150 y151 y152 y153 y154 y155 y156 y157 y158 y159 y160 y161 y162 y163 y164 y165 y166 y167 y168 y169 y170 y171 y172 y173 y174 y175 y176 y177 y178 y179 y180 y181 y182 y183 y184 y185 y186 y187 y188 y189 y190 y191 y192 y193 y194 y195 y196 y197 y198 y199 y200 y201 y202 y203 y204 : Value) (w' : World), (∃ (h' : Hl) (T' R' : Nat → Prop) (tt' : List TkV) (op' : List (Opn PCall (PAns × Int))) (tc' : List TkV) (ov' : List (Ovr PCall (PAns × Int))), y8 = .int .i64 (h'.d.all.length : Nat) ∧ Hid (SrS w.heap.size w' T' R' ax h' (2 * (k + 1)) y6 tt' op' y7 tc' ov' ∧ SzS op' ov' (k + 1)) ∧ Below w.heap.size w w') → Q (.exit 1) ⟨List.toArray (z0 :: z1 :: y2 :: z3 :: ptrV ax :: z5 :: y6 :: y7 :: y8 :: .int .i64 (k : Int) :: .pointer (some ⟨g5, 0, none⟩) :: .int .i64 (i : Int) :: z12 :: y13 :: y14 :: y15 :: y16 :: y17 :: y18 :: y19 :: y20 :: y21 :: y22 :: y23 :: z24 :: z25 :: z26 :: z27 :: z28 :: z29 :: z30 :: z31 :: z32 :: z33 :: z34 :: z35 :: z36 :: z37 :: z38 :: z39 :: z40 :: z41 :: z42 :: z43 :: z44 :: z45 :: z46 :: y47 :: y48 :: y49 :: y50 :: y51 :: y52 :: y53 :: y54 :: y55 :: y56 :: y57 :: y58 :: y59 :: y60 :: y61 :: y62 :: y63 :: y64 :: y65 :: y66 :: y67 :: y68 :: y69 :: y70 :: y71 :: y72 :: y73 :: y74 :: y75 :: y76 :: y77 :: y78 :: y79 :: y80 :: y81 :: y82 :: y83 :: y84 :: y85 :: y86 :: y87 :: y88 :: y89 :: y90 :: y91 :: y92 :: y93 :: y94 :: y95 :: y96 :: y97 :: y98 :: y99 :: y100 :: y101 :: y102 :: y103 :: y104 :: y105 :: y106 :: y107 :: y108 :: y109 :: y110 :: y111 :: y112 :: y113 :: y114 :: y115 :: y116 :: y117 :: y118 :: y119 :: y120 :: y121 :: y122 :: y123 :: y124 :: y125 :: y126 :: y127 :: y128 :: y129 :: y130 :: y131 :: y132 :: y133 :: y134 :: y135 :: y136 :: y137 :: y138 :: y139 :: y140 :: y141 :: y142 :: y143 :: y144 :: y145 :: y146 :: y147 :: y148 :: y149 :: y150 :: y151 :: y152 :: y153 :: y154 :: y155 :: y156 :: y157 :: y158 :: y159 :: y160 :: y161 :: y162 :: y163 :: y164 :: y165 :: y166 :: y167 :: y168 :: y169 :: y170 :: y171 :: y172 :: y173 :: y174 :: y175 :: y176 :: y177 :: y178 :: y179 :: y180 :: y181 :: y182 :: y183 :: y184 :: y185 :: y186 :: y187 :: y188 :: y189 :: y190 :: y191 :: y192 :: y193 :: y194 :: y195 :: y196 :: y197 :: y198 :: y199 :: y200 :: y201 :: y202 :: y203 :: y204 :: z205 :: z206 :: z207 :: z208 :: z209 :: z210 :: z211 :: z212 :: z213 :: z214 :: z215 :: z216 :: z217 :: z218 :: z219 :: z220 :: z221 :: z222 :: z223 :: z224 :: z225 :: z226 :: z227 :: z228 :: z229 :: z230 :: z231 :: z232 :: z233 :: z234 :: z235 :: z236 :: z237 :: z238 :: z239 :: z240 :: z241 :: z242 :: z243 :: z244 :: z245 :: z246 :: z247 :: z248 :: z249 :: z250 :: z251 :: z252 :: z253 :: z254 :: z255 :: z256 :: z257 :: z258 :: z259 :: z260 :: z261 :: z262 :: z263 :: z264 :: z265 :: z266 :: z267 :: z268 :: z269 :: z270 :: z271 :: z272 :: z273 :: z274 :: z275 :: z276 :: z277 :: z278 :: z279 :: z280 :: z281 :: z282 :: z283 :: z284 :: z285 :: z286 :: z287 :: z288 :: z289 :: z290 :: z291 :: z292 :: z293 :: z294 :: z295 :: z296 :: z297 :: z298 :: []), []⟩ w')) (hlt1 : k < l.length) (hlt2 : k < 60) (HKS : Hid (HStpOk l[k])) (HLE : Hid (SzS op ov k)) (HNT : Hid (¬ T g5)) (HI : Hid (SrS w.heap.size w6 T R ax h (2 * k) (.slice Av tt.length cv) tt op (.slice Ao tc.length co) tc ov)) (HB : Hid (Below w.heap.size w w6)) (HBK6 : Hid (Blk w6 g5 35 #[.int .i64 l[k].what, txt l[k].who, .int .i64 l[k].n, .int .i64 l[k].call.what, txt l[k].call.name, .int .i64 l[k].call.pa, .int .i64 l[k].call.pn, .int .i64 l[k].call.len, .int .i64 l[k].call.ad, txt l[k].call.owner])) (hi : i < op.length) (hwho : op[i].who = l[k].who) (hw0 : ¬ l[k].what = 0) (hw1 : ¬ l[k].what = 1) (hw2 : ¬ l[k].what = 2) (hw3 : ¬ l[k].what = 3) (hw4 : ¬ l[k].what = 4) (hw5 : ¬ l[k].what = 5) :
  Code.wp Tryz.prog (cR (cR (cR (cL (cL (cR (cL (cL (cR (cL (cR (cR (cR (cR (cR (cR (Tryz.f3.body.getD .skip))))))))))))))))) Q ⟨List.toArray (z0 :: z1 :: z2 :: z3 :: ptrV ax :: z5 :: .slice Av tt.length cv :: .slice Ao tc.length co :: .int .i64 (h.d.all.length : Nat) :: .int .i64 (k : Int) :: .pointer (some ⟨g5, 0, none⟩) :: .int .i64 (i : Int) :: z12 :: z13 :: z14 :: z15 :: z16 :: z17 :: z18 :: z19 :: z20 :: z21 :: z22 :: z23 :: z24 :: z25 :: z26 :: z27 :: z28 :: z29 :: z30 :: z31 :: z32 :: z33 :: z34 :: z35 :: z36 :: z37 :: z38 :: z39 :: z40 :: z41 :: z42 :: z43 :: z44 :: z45 :: z46 :: z47 :: z48 :: z49 :: z50 :: z51 :: z52 :: z53 :: z54 :: z55 :: z56 :: z57 :: z58 :: z59 :: z60 :: z61 :: z62 :: z63 :: z64 :: z65 :: z66 :: z67 :: z68 :: z69 :: z70 :: z71 :: z72 :: z73 :: z74 :: z75 :: z76 :: z77 :: z78 :: z79 :: z80 :: z81 :: z82 :: z83 :: z84 :: z85 :: z86 :: z87 :: z88 :: z89 :: z90 :: z91 :: z92 :: z93 :: z94 :: z95 :: z96 :: z97 :: z98 :: z99 :: z100 :: z101 :: z102 :: z103 :: z104 :: z105 :: z106 :: z107 :: z108 :: z109 :: z110 :: z111 :: z112 :: z113 :: z114 :: z115 :: z116 :: z117 :: z118 :: z119 :: z120 :: z121 :: z122 :: z123 :: z124 :: z125 :: z126 :: z127 :: z128 :: z129 :: z130 :: z131 :: z132 :: z133 :: z134 :: z135 :: z136 :: z137 :: z138 :: z139 :: z140 :: z141 :: z142 :: z143 :: z144 :: z145 :: z146 :: z147 :: z148 :: z149 :: z150 :: z151 :: z152 :: z153 :: z154 :: z155 :: z156 :: z157 :: z158 :: z159 :: z160 :: z161 :: z162 :: z163 :: z164 :: z165 :: z166 :: z167 :: z168 :: z169 :: z170 :: z171 :: z172 :: z173 :: z174 :: z175 :: z176 :: z177 :: z178 :: z179 :: z180 :: z181 :: z182 :: z183 :: z184 :: z185 :: z186 :: z187 :: z188 :: z189 :: z190 :: z191 :: z192 :: z193 :: z194 :: z195 :: z196 :: z197 :: z198 :: z199 :: z200 :: z201 :: z202 :: z203 :: z204 :: z205 :: z206 :: z207 :: z208 :: z209 :: z210 :: z211 :: z212 :: z213 :: z214 :: z215 :: z216 :: z217 :: z218 :: z219 :: z220 :: z221 :: z222 :: z223 :: z224 :: z225 :: z226 :: z227 :: z228 :: z229 :: z230 :: z231 :: z232 :: z233 :: z234 :: z235 :: z236 :: z237 :: z238 :: z239 :: z240 :: z241 :: z242 :: z243 :: z244 :: z245 :: z246 :: z247 :: z248 :: z249 :: z250 :: z251 :: z252 :: z253 :: z254 :: z255 :: z256 :: z257 :: z258 :: z259 :: z260 :: z261 :: z262 :: z263 :: z264 :: z265 :: z266 :: z267 :: z268 :: z269 :: z270 :: z271 :: z272 :: z273 :: z274 :: z275 :: z276 :: z277 :: z278 :: z279 :: z280 :: z281 :: z282 :: z283 :: z284 :: z285 :: z286 :: z287 :: z288 :: z289 :: z290 :: z291 :: z292 :: z293 :: z294 :: z295 :: z296 :: z297 :: z298 :: []), []⟩ w6 := by
 let QF : Exit → Act → World → Prop := bodyPost Tryz.prog Tryz.f3 (fun _ _ => True)
 conv => arg 2; whnf
 have x0 := HBK6.out.cell 0; have x1' := HBK6.out.cell 1; have x2' := HBK6.out.cell 2; have x3' := HBK6.out.cell 3; have x4 := HBK6.out.cell 4; have x5 := HBK6.out.cell 5; have x6 := HBK6.out.cell 6; have x7 := HBK6.out.cell 7; have x8 := HBK6.out.cell 8; have x9 := HBK6.out.cell 9
 simp at x0 x1' x2' x3' x4 x5 x6 x7 x8 x9
 have hi0 : ¬ ((i : Int) < 0) := by omega
 have HWHO := Hd hwho
 clear hwho
 obtain ⟨gv, cv2, hvv, hgv, t, ht, htk, hcc⟩ := HI.out.rowO hi
 cases hvv
 obtain ⟨Ac, kc, At, kt, Ae, ke, hte, hrc, hre⟩ := htk.form
 generalize t.n = tn at hte
 subst hte
 have hit : i < tt.length := by rw [HI.out.m.lo]; exact hi
 have hI5 : (i : Int) < (tt.length : Int) := by omega
 have HNV := Hd (HI.out.m.no gv rfl)
 have y0 := hcc 0 _ rfl; have y1 := hcc 1 _ rfl; have y2 := hcc 2 _ rfl; have y3 := hcc 3 _ rfl; have y4 := hcc 4 _ rfl
 rw [Nat.add_zero] at y0
 have HTK := Hd htk
 have HT := Hd ht
 have HRD := Hd (show Rd w6 w6.heap.size (some ⟨gv, 0, none⟩) (flatE encT tt) from Rd.of_own HI.out.m.ro)
 have HLO := Hd HI.out.m.lo
 have h60 : tt.length ≤ 60 := by have := HLE.out.lo; have := HLO.out; omega
 have HIO := Hd hi
 have HIT := Hd hit
 have HGL := Hd hgv
 have HBL := Hd HB.out.size
 clear hcc htk ht hrc hre
 have HC := Hd (HI.out.x.ask_h (by omega) l[k].who HKS.out.who l[k].call HKS.out.call.w)
 have hq := HI.out.q.ask HIO.out l[k].call
 have htk := HTK.out.as HWHO.out
 rw [HWHO.out] at hq
 have HQ := Hd hq
 have HTW := Hd htk
 unfold CallV at HC
 unfold AnsV at HC
 have HGT := Hd (show ¬ T gv from HNV.out.2.1)
 clear hq htk
 go_wp2_with fail
 refine HC.out.mono ?_
 rintro e w7 ⟨v7, rfl, how7, T7, hnt7, hs7⟩
 obtain ⟨A7, c7, rfl, _⟩ := how7.form
 clear HC
 generalize hga : (h.ask l[k].who l[k].call).1 = an at *
 generalize hgf : (h.ask l[k].who l[k].call).2.1 = fa at *
 have hb8 := (Below.refl w7.heap.size w7).alloc (Nat.le_refl _) (.cells #[.int .i64 an.pa, .int .i64 an.pn, .int .i64 an.ad, txt an.owner, .slice A7 an.list.length c7] 46)
 have hbx := Blk.new w7 46 #[.int .i64 an.pa, .int .i64 an.pn, .int .i64 an.ad, txt an.owner, .slice A7 an.list.length c7]
 go_upto_region 21 with fail
 clear hw0 hw1 hw2 hw3 hw4 hw5
 refine wp_name (fun w8 HW => ?_)
 replace hb8 : Below w7.heap.size w7 w8 := by rw [HW.out]; exact hb8
 replace hbx : Blk w8 w7.heap.size 46 #[.int .i64 an.pa, .int .i64 an.pn, .int .i64 an.ad, txt an.owner, .slice A7 an.list.length c7] := by rw [HW.out]; exact hbx
 have HM8 := Hd ((HI.out.m.step hs7).bel hb8)
 have HX8 := Hd (hs7.hk.bel hb8)
 have HTK8 := Hd ((HTW.out.fr hs7.fr (fun q e => (HI.out.m.sep q e).1)).bel hb8)
 have HBX8 := Hd hbx
 have HBK8 := Hd ((HBK6.out.fr hs7.fr HNT.out).below hb8 (Nat.lt_of_lt_of_le HBK6.out.lt hs7.size))
 have HOP8 := Hd (show OwnP w8 0 31 (.slice A7 an.list.length c7) an.list from own_of_base (how7.below hb8) (Nat.zero_le _))
 have HU8 := Hd (show ∀ q, (Value.slice A7 an.list.length c7).ownBlock = some q → ¬ T7 q ∧ w.heap.size ≤ q ∧ gv ≠ q ∧ (Value.slice Ao tc.length co).ownBlock ≠ some q from fun q e => by
  have h1 := World.ownsRow.lt how7 q e
  have h2 := HGL.out
  have h3 := HBL.out
  exact ⟨hnt7 q e, by omega, by omega, fun e2 => by have := own_bq HI.out.m.rc q e2; omega⟩)
 have HB8 := Hd (HB.out.trans ((hs7.belB HI.out.x.lo).trans (hb8.mono (Nat.le_trans HBL.out hs7.size))))
 have HT8 := Hd (show ∀ q, T7 q → q < w8.heap.size from HX8.out.lt)
 have HGB := Hd (show gv < w8.heap.size from Nat.lt_of_lt_of_le HGL.out (Nat.le_trans hs7.size hb8.size))
 have HLT7 := Hd hbx.lt
 clear HW hb8 hbx how7 hnt7 hs7 HTW HTK HBK6 HI HB y0 y1 y2 y3 y4 x0 x1' x2' x3' x4 x5 x6 x7 x8 x9
 obtain ⟨g', c', hgc, _, t', ht', htk', hcc, hfz⟩ := HM8.out.rowI HIO.out
 cases hgc
 have hte : t' = ⟨op[i].who, tn, .slice Ac op[i].cs.length kc, .slice At op[i].cs.length kt, .slice Ae op[i].cs.length ke⟩ := by
  have := HT.out
  rw [ht'] at this
  exact Option.some.inj this
 subst hte
 have HCC := Hd hcc
 have HFZ := Hd hfz
 clear hcc hfz htk' ht'
 have y2 := HCC.out 2 _ rfl
 have HRC := Hd (show Rd w8 w8.heap.size Ac (flatE encCl op[i].cs) from by
  obtain ⟨A, c, e, r⟩ := own_form HTK8.out.calls.1
  injection e with e
  subst e
  exact r)
 have HRE := Hd (show Rd w8 w8.heap.size Ae ((eS op[i].rs).map Value.bool) from by
  obtain ⟨A, c, e, r⟩ := own_form HTK8.out.errs.1
  injection e with e
  subst e
  exact r)
 obtain ⟨us, hus1, hus2, hus3, hus4⟩ : AnssAt w8 R (.slice At op[i].cs.length kt) (op[i].rs.map Prod.fst) := HTK8.out.told
 have HUS := Hd (show us.length = op[i].rs.length by rw [hus1]; simp)
 have HUS4 := Hd hus4
 have HRT := Hd (show Rd w8 w8.heap.size At (flatE encAn ((op[i].rs.map Prod.fst).zip us)) from by
  obtain ⟨A, c, e, r⟩ := own_form hus2
  injection e with e
  subst e
  exact r)
 have HLR := Hd (show op[i].rs.length = op[i].cs.length from HTK8.out.len)
 have hco : op[i].cs.length ≤ 60 := by have := HLE.out.co _ (List.getElem_mem HIO.out); omega
 have HL1 := Hd (show (flatE encCl op[i].cs).length = op[i].cs.length * 7 from flatE_length flatCl_len _)
 have HL2 := Hd (show (flatE encAn ((op[i].rs.map Prod.fst).zip us)).length = op[i].cs.length * 5 by rw [flatE_length flatAn_len, List.length_zip, List.length_map, HUS.out, HLR.out, Nat.min_self])
 have HL3 := Hd (show ((eS op[i].rs).map Value.bool).length = op[i].cs.length * 1 by simp [HLR.out])
 have HO1 := Hd (show ∀ u ∈ flatE encCl op[i].cs, u.oneCell' = true from one_calls' _)
 have HO2 := Hd (show ∀ u ∈ flatE encAn ((op[i].rs.map Prod.fst).zip us), u.oneCell' = true from one_anss hus1.symm (fun i hi => by obtain ⟨u, a, b, _⟩ := hus4 i hi; obtain ⟨A, c, e, _⟩ := b.form; exact ⟨u, a, by rw [e]; rfl⟩))
 have HO3 := Hd (show ∀ u ∈ (eS op[i].rs).map Value.bool, u.oneCell' = true from fun u hu => by obtain ⟨b, _, rfl⟩ := List.mem_map.1 hu; rfl)
 obtain ⟨FL, hFL⟩ : ∃ F, F = flatE encCl op[i].cs := ⟨_, rfl⟩
 obtain ⟨FA, hFA⟩ : ∃ F, F = flatE encAn ((op[i].rs.map Prod.fst).zip us) := ⟨_, rfl⟩
 obtain ⟨FE, hFE⟩ : ∃ F, F = (eS op[i].rs).map Value.bool := ⟨_, rfl⟩
 rw [← hFL] at HRC HL1 HO1
 rw [← hFA] at HRT HL2 HO2
 rw [← hFE] at HRE HL3 HO3
 have HFF := Hd (And.intro hFL (And.intro hFA hFE))
 clear hus1 hus2 hus3 hus4 hFL hFA hFE
 go_upto_region 22 with (at_builtin; go_must (refine wpList_append_rd rfl _ _ 36 rfl 33 Tryz.underlying36 _ 7 72 infoCl rfl (by decide) w8.heap.size (.slice none 0 0) 0 [] rfl (World.ownsRow_nil _ _ _ _) w8.heap.size Ac op[i].cs.length kc FL rfl HL1.out HRC.out HO1.out (by unfold maxLen; omega) (by omega) (Nat.le_refl _) ?_); intro v9 w9 hown9 hb9)
 rw [Nat.zero_add, List.nil_append] at hown9
 obtain ⟨A9, c9, rfl, _⟩ := own_form hown9
 have HO9 := Hd hown9
 have HB9 := Hd hb9
 have hle9 := hb9.size
 have hbk := HBK8.out.below hb9 HBK8.out.lt
 have x3' := hbk.cell 3; have x4 := hbk.cell 4; have x5 := hbk.cell 5; have x6 := hbk.cell 6; have x7 := hbk.cell 7; have x8 := hbk.cell 8; have x9 := hbk.cell 9
 simp at x3' x4 x5 x6 x7 x8 x9
 have hone : ∀ u ∈ (#[.int .i64 l[k].call.what, txt l[k].call.name, .int .i64 l[k].call.pa, .int .i64 l[k].call.pn, .int .i64 l[k].call.len, .int .i64 l[k].call.ad, txt l[k].call.owner] : Array Value).toList, u.oneCell' = true := by intro u hu; simp at hu; rcases hu with rfl | rfl | rfl | rfl | rfl | rfl | rfl <;> rfl
 have HLN := Hd (show op[i].cs.length < 1000000000 by omega)
 clear hown9 hb9 hbk y2
 go_upto_region 23 with (at_builtin; go_must (refine wpList_append_elt (w1 := w9) rfl _ _ 36 rfl 33 Tryz.underlying36 _ 7 72 infoCl rfl (by decide) (by decide) w8.heap.size (.slice A9 op[i].cs.length c9) op[i].cs.length FL rfl HO9.out #[.int .i64 l[k].call.what, txt l[k].call.name, .int .i64 l[k].call.pa, .int .i64 l[k].call.pn, .int .i64 l[k].call.len, .int .i64 l[k].call.ad, txt l[k].call.owner] rfl hone rfl HLN.out hle9 ?_); intro v10 w10 hown10 hg10 hat10)
 obtain ⟨A10, c10, rfl, _⟩ := own_form hown10
 have HB10 := Hd (HB9.out.grown hg10 hle9 (fun q e => (World.ownsRow.lt HO9.out q e).1))
 have HO10 := Hd hown10
 have hle10 := HB10.out.size
 clear hown10 hg10 hat10 HO9 HB9 hle9 x3' x4 x5 x6 x7 x8 x9 hone
 have y3 := (HB10.out.cell (p := ⟨gv, i * 5 + 3, none⟩) HGB.out).trans (HCC.out 3 _ rfl)
 have HRT10 := Hd (HRT.out.below HB10.out)
 clear HRT
 go_upto_region 25 with (at_builtin; go_must (refine wpList_append_rd rfl _ _ 37 rfl 46 Tryz.underlying37 _ 5 64 infoAn rfl (by decide) w10.heap.size (.slice none 0 0) 0 [] rfl (World.ownsRow_nil _ _ _ _) w8.heap.size At op[i].cs.length kt FA rfl HL2.out HRT10.out HO2.out (by unfold maxLen; omega) (by omega) (Nat.le_refl _) ?_); intro v11 w11 hown11 hb11)
 rw [Nat.zero_add, List.nil_append] at hown11
 obtain ⟨A11, c11, rfl, _⟩ := own_form hown11
 have HO11 := Hd hown11
 have HB11 := Hd hb11
 have hle11 := hb11.size
 have hbk := (HBX8.out.below HB10.out HLT7.out).below hb11 (by have := HLT7.out; omega)
 obtain ⟨x0, x1, x2, x3, x4⟩ := hbk.cls5
 simp at x0 x1 x2 x3 x4
 have hone : ∀ u ∈ (#[.int .i64 an.pa, .int .i64 an.pn, .int .i64 an.ad, txt an.owner, .slice A7 an.list.length c7] : Array Value).toList, u.oneCell' = true := by intro u hu; simp at hu; rcases hu with rfl | rfl | rfl | rfl | rfl <;> rfl
 clear hown11 hb11 hbk y3
 go_upto_region 26 with (at_builtin; go_must (refine wpList_append_elt (w1 := w11) rfl _ _ 37 rfl 46 Tryz.underlying37 _ 5 64 infoAn rfl (by decide) (by decide) w10.heap.size (.slice A11 op[i].cs.length c11) op[i].cs.length FA rfl HO11.out #[.int .i64 an.pa, .int .i64 an.pn, .int .i64 an.ad, txt an.owner, .slice A7 an.list.length c7] rfl hone rfl HLN.out hle11 ?_); intro v12 w12 hown12 hg12 hat12)
 obtain ⟨A12, c12, rfl, _⟩ := own_form hown12
 have hb12 := HB11.out.grown hg12 hle11 (fun q e => (World.ownsRow.lt HO11.out q e).1)
 have HB12 := Hd (HB10.out.trans (hb12.mono hle10))
 have HO10b := Hd (own_below HO10.out hb12)
 have HO12 := Hd hown12
 have hle12 := HB12.out.size
 have HLE12 := Hd (show w8.heap.size ≤ w10.heap.size from hle10)
 clear hown12 hg12 hat12 hb12 HO11 HB11 HO10 HB10 hle10 hle11 x0 x1 x2 x3 x4 hone
 have y4 := (HB12.out.cell (p := ⟨gv, i * 5 + 4, none⟩) HGB.out).trans (HCC.out 4 _ rfl)
 have HRE12 := Hd (HRE.out.below HB12.out)
 clear HRE
 go_upto_region 28 with (at_builtin; go_must (refine wpList_append_rd rfl _ _ 38 rfl 4 Tryz.underlying38 _ 1 1 infoBo rfl (by decide) w12.heap.size (.slice none 0 0) 0 [] rfl (World.ownsRow_nil _ _ _ _) w8.heap.size Ae op[i].cs.length ke FE rfl HL3.out HRE12.out HO3.out (by unfold maxLen; omega) (by omega) (Nat.le_refl _) ?_); intro v13 w13 hown13 hb13)
 rw [Nat.zero_add, List.nil_append] at hown13
 obtain ⟨A13, c13, rfl, _⟩ := own_form hown13
 have HO13 := Hd hown13
 have HB13 := Hd hb13
 have hle13 := hb13.size
 clear hown13 hb13 y4
 skip
 by_cases hf : fa = 0
 ·skip
  rw [show faultV fa = .nilIface by rw [hf]; rfl]
  have hone : ∀ u ∈ (#[Value.bool false] : Array Value).toList, u.oneCell' = true := by intro u hu; simp at hu; subst hu; rfl
  have HDN := Hd (show ∀ v' w', w'.ownsRow w12.heap.size 4 1 v' (op[i].cs.length + 1) (FE ++ (#[Value.bool false] : Array Value).toList) → w13.grownBy w' (Value.slice A13 op[i].cs.length c13).ownBlock →
    Below w8.heap.size w8 w' ∧ ∃ R', TpS eS w.heap.size (((w'.setCell ⟨gv, i * 5 + 2, none⟩ (.slice A10 (op[i].cs.length + 1) c10)).setCell ⟨gv, i * 5 + 3, none⟩ (.slice A12 (op[i].cs.length + 1) c12)).setCell ⟨gv, i * 5 + 4, none⟩ v') T7 R' (.slice (some ⟨gv, 0, none⟩) tt.length cv) (tt.set i ⟨op[i].who, tn, .slice A10 (op[i].cs.length + 1) c10, .slice A12 (op[i].cs.length + 1) c12, v'⟩) (op.set i ⟨l[k].who, op[i].id, op[i].cs ++ [l[k].call], op[i].rs ++ [(an, fa)]⟩) (.slice Ao tc.length co) tc ov from fun v' w' h1 h2 => by
   have hb' := HB13.out.grown h2 hle13 (fun q e => (World.ownsRow.lt HO13.out q e).1)
   have hb8' := HB12.out.trans (hb'.mono hle12)
   have hx : w'.ownsRow w8.heap.size 4 1 v' (eS (op[i].rs ++ [(an, fa)])).length ((eS (op[i].rs ++ [(an, fa)])).map Value.bool) := by
    have e : (eS (op[i].rs ++ [(an, fa)])).map Value.bool = (eS op[i].rs).map Value.bool ++ (#[Value.bool false] : Array Value).toList := by simp [hf]
    have e2 : (eS (op[i].rs ++ [(an, fa)])).length = op[i].cs.length + 1 := by simp [HLR.out]
    rw [e, e2, ← HFF.out.2.2]
    exact own_of_base h1 hle12
   refine ⟨hb8', ?_⟩
   exact HM8.out.askedAll (by have := HBL.out; have := HB8.out.size; omega) HT8.out HIT.out HT.out HTK8.out HKS.out.call.w (r := (an, fa)) HOP8.out HU8.out HUS.out HUS4.out hb8' (by have := own_below HO10b.out hb'; rwa [HFF.out.1] at this) (by have := own_of_base (own_below HO12.out hb') HLE12.out; rwa [HFF.out.2.1] at this)
    hx)
  go_upto_region 29 with (at_builtin; go_must (refine wpList_append_elt (w1 := w13) rfl _ _ 38 rfl 4 Tryz.underlying38 _ 1 1 infoBo rfl (by decide) (by decide) w12.heap.size (.slice A13 op[i].cs.length c13) op[i].cs.length FE rfl HO13.out #[.bool false] rfl hone rfl HLN.out hle13 ?_); intro v14 w14 hown14 hg14 hat14)
  obtain ⟨hb14, R', hM⟩ := HDN.out v14 w14 hown14 hg14
  obtain ⟨A14, c14, rfl, _⟩ := own_form hown14
  have hnv := HM8.out.no gv rfl
  have hf14 := (((Fr.refl (fun q => q = gv) w14).setCell (p := ⟨gv, i * 5 + 2, none⟩) (fun _ => rfl) (.slice A10 (op[i].cs.length + 1) c10)).setCell (p := ⟨gv, i * 5 + 3, none⟩) (fun _ => rfl) (.slice A12 (op[i].cs.length + 1) c12)).setCell (p := ⟨gv, i * 5 + 4, none⟩) (fun _ => rfl) (.slice A14 (op[i].cs.length + 1) c14)
  have HFIN := Hd (And.intro (And.intro (show SrS w.heap.size _ T7 R' ax _ (2 * k) _ _ _ _ tc ov from ⟨(HX8.out.bel hb14).far hf14 (fun q e => by subst e; exact hnv.2.1) (fun q e => by subst e; exact hnv.2.2), HQ.out.2, hM⟩) (HLE.out.ask HIO.out l[k].who op[i].id l[k].call (op[i].rs ++ [(an, fa)])))
   (HB8.out.trans ((hb14.mono HB8.out.size).trans (hf14.below (Nat.le_trans HB8.out.size hb14.size) (fun q e => by subst e; exact hnv.2.2)))))
  have y0 := (hb14.cell (p := ⟨gv, i * 5 + 2, none⟩) HGB.out).trans (HCC.out 2 _ rfl)
  have y1 := (hb14.cell (p := ⟨gv, i * 5 + 3, none⟩) HGB.out).trans (HCC.out 3 _ rfl)
  have y2 := (hb14.cell (p := ⟨gv, i * 5 + 4, none⟩) HGB.out).trans (HCC.out 4 _ rfl)
  have u0 := ((Fr.of_below (S := fun _ => False) hb14).frozen (p := ⟨gv, i * 5 + 2, none⟩) HGB.out (fun q => q)).trans (HFZ.out (i * 5 + 2))
  have u1 := ((Fr.of_below (S := fun _ => False) hb14).frozen (p := ⟨gv, i * 5 + 3, none⟩) HGB.out (fun q => q)).trans (HFZ.out (i * 5 + 3))
  have u2 := ((Fr.of_below (S := fun _ => False) hb14).frozen (p := ⟨gv, i * 5 + 4, none⟩) HGB.out (fun q => q)).trans (HFZ.out (i * 5 + 4))
  have HAL := Hd (congrArg List.length HQ.out.1)
  have hit : i < tt.length := HIT.out
  clear hf14 hnv hM hb14 hown14 hg14 hat14 HX8 HM8 HTK8 HBX8 HBK8 HOP8 HU8 HB8 HDN HQ
  go_wp2
  first | exact hR1.out _ _ _ _ _ _ _ _ _ _ _ _ _ _ _ _ _ _ _ _ _ _ _ _ _ _ _ _ _ _ _ _ _ _ _ _ _ _ _ _ _ _ _ _ _ _ _ _ _ _ _ _ _ _ _ _ _ _ _ _ _ _ _ _ _ _ _ _ _ _ _ _ _ _ _ _ _ _ _ _ _ _ _ _ _ _ _ _ _ _ _ _ _ _ _ _ _ _ _ _ _ _ _ _ _ _ _ _ _ _ _ _ _ _ _ _ _ _ _ _ _ _ _ _ _ _ _ _ _ _ _ _ _ _ _ _ _ _ _ _ _ _ _ _ _ _ _ _ _ _ _ _ _ _ _ _ _ _ _ _ _ _ _ _ _ _ _ _ _ _ _ _ _ _ ⟨_, _, _, _, _, _, _, by rw [HAL.out], Hd ⟨HFIN.out.1.1.more (by omega), HFIN.out.1.2⟩, HFIN.out.2⟩ | exact hR2.out _ _ _ _ _ _ _ _ _ _ _ _ _ _ _ _ _ _ _ _ _ _ _ _ _ _ _ _ _ _ _ _ _ _ _ _ _ _ _ _ _ _ _ _ _ _ _ _ _ _ _ _ _ _ _ _ _ _ _ _ _ _ _ _ _ _ _ _ _ _ _ _ _ _ _ _ _ _ _ _ _ _ _ _ _ _ _ _ _ _ _ _ _ _ _ _ _ _ _ _ _ _ _ _ _ _ _ _ _ _ _ _ _ _ _ _ _ _ _ _ _ _ _ _ _ _ _ _ _ _ _ _ _ _ _ _ _ _ _ _ _ _ _ _ _ _ _ _ _ _ _ _ _ _ _ _ _ _ _ _ _ _ _ _ _ _ _ _ _ _ _ _ _ _ ⟨_, _, _, _, _, _, _, by rw [HAL.out], Hd ⟨HFIN.out.1.1.more (by omega), HFIN.out.1.2⟩, HFIN.out.2⟩
 ·skip
  have HFV := Hd (fault_num hf)
  rw [HFV.out]
  have hone : ∀ u ∈ (#[Value.bool true] : Array Value).toList, u.oneCell' = true := by intro u hu; simp at hu; subst hu; rfl
  have HDN := Hd (show ∀ v' w', w'.ownsRow w12.heap.size 4 1 v' (op[i].cs.length + 1) (FE ++ (#[Value.bool true] : Array Value).toList) → w13.grownBy w' (Value.slice A13 op[i].cs.length c13).ownBlock →
    Below w8.heap.size w8 w' ∧ ∃ R', TpS eS w.heap.size (((w'.setCell ⟨gv, i * 5 + 2, none⟩ (.slice A10 (op[i].cs.length + 1) c10)).setCell ⟨gv, i * 5 + 3, none⟩ (.slice A12 (op[i].cs.length + 1) c12)).setCell ⟨gv, i * 5 + 4, none⟩ v') T7 R' (.slice (some ⟨gv, 0, none⟩) tt.length cv) (tt.set i ⟨op[i].who, tn, .slice A10 (op[i].cs.length + 1) c10, .slice A12 (op[i].cs.length + 1) c12, v'⟩) (op.set i ⟨l[k].who, op[i].id, op[i].cs ++ [l[k].call], op[i].rs ++ [(an, fa)]⟩) (.slice Ao tc.length co) tc ov from fun v' w' h1 h2 => by
   have hb' := HB13.out.grown h2 hle13 (fun q e => (World.ownsRow.lt HO13.out q e).1)
   have hb8' := HB12.out.trans (hb'.mono hle12)
   have hx : w'.ownsRow w8.heap.size 4 1 v' (eS (op[i].rs ++ [(an, fa)])).length ((eS (op[i].rs ++ [(an, fa)])).map Value.bool) := by
    have e : (eS (op[i].rs ++ [(an, fa)])).map Value.bool = (eS op[i].rs).map Value.bool ++ (#[Value.bool true] : Array Value).toList := by simp [hf]
    have e2 : (eS (op[i].rs ++ [(an, fa)])).length = op[i].cs.length + 1 := by simp [HLR.out]
    rw [e, e2, ← HFF.out.2.2]
    exact own_of_base h1 hle12
   refine ⟨hb8', ?_⟩
   exact HM8.out.askedAll (by have := HBL.out; have := HB8.out.size; omega) HT8.out HIT.out HT.out HTK8.out HKS.out.call.w (r := (an, fa)) HOP8.out HU8.out HUS.out HUS4.out hb8' (by have := own_below HO10b.out hb'; rwa [HFF.out.1] at this) (by have := own_of_base (own_below HO12.out hb') HLE12.out; rwa [HFF.out.2.1] at this)
    hx)
  go_upto_region 29 with (at_builtin; go_must (refine wpList_append_elt (w1 := w13) rfl _ _ 38 rfl 4 Tryz.underlying38 _ 1 1 infoBo rfl (by decide) (by decide) w12.heap.size (.slice A13 op[i].cs.length c13) op[i].cs.length FE rfl HO13.out #[.bool true] rfl hone rfl HLN.out hle13 ?_); intro v14 w14 hown14 hg14 hat14)
  obtain ⟨hb14, R', hM⟩ := HDN.out v14 w14 hown14 hg14
  obtain ⟨A14, c14, rfl, _⟩ := own_form hown14
  have hnv := HM8.out.no gv rfl
  have hf14 := (((Fr.refl (fun q => q = gv) w14).setCell (p := ⟨gv, i * 5 + 2, none⟩) (fun _ => rfl) (.slice A10 (op[i].cs.length + 1) c10)).setCell (p := ⟨gv, i * 5 + 3, none⟩) (fun _ => rfl) (.slice A12 (op[i].cs.length + 1) c12)).setCell (p := ⟨gv, i * 5 + 4, none⟩) (fun _ => rfl) (.slice A14 (op[i].cs.length + 1) c14)
  have HFIN := Hd (And.intro (And.intro (show SrS w.heap.size _ T7 R' ax _ (2 * k) _ _ _ _ tc ov from ⟨(HX8.out.bel hb14).far hf14 (fun q e => by subst e; exact hnv.2.1) (fun q e => by subst e; exact hnv.2.2), HQ.out.2, hM⟩) (HLE.out.ask HIO.out l[k].who op[i].id l[k].call (op[i].rs ++ [(an, fa)])))
   (HB8.out.trans ((hb14.mono HB8.out.size).trans (hf14.below (Nat.le_trans HB8.out.size hb14.size) (fun q e => by subst e; exact hnv.2.2)))))
  have y0 := (hb14.cell (p := ⟨gv, i * 5 + 2, none⟩) HGB.out).trans (HCC.out 2 _ rfl)
  have y1 := (hb14.cell (p := ⟨gv, i * 5 + 3, none⟩) HGB.out).trans (HCC.out 3 _ rfl)
  have y2 := (hb14.cell (p := ⟨gv, i * 5 + 4, none⟩) HGB.out).trans (HCC.out 4 _ rfl)
  have u0 := ((Fr.of_below (S := fun _ => False) hb14).frozen (p := ⟨gv, i * 5 + 2, none⟩) HGB.out (fun q => q)).trans (HFZ.out (i * 5 + 2))
  have u1 := ((Fr.of_below (S := fun _ => False) hb14).frozen (p := ⟨gv, i * 5 + 3, none⟩) HGB.out (fun q => q)).trans (HFZ.out (i * 5 + 3))
  have u2 := ((Fr.of_below (S := fun _ => False) hb14).frozen (p := ⟨gv, i * 5 + 4, none⟩) HGB.out (fun q => q)).trans (HFZ.out (i * 5 + 4))
  have HAL := Hd (congrArg List.length HQ.out.1)
  have hit : i < tt.length := HIT.out
  clear hf14 hnv hM hb14 hown14 hg14 hat14 HX8 HM8 HTK8 HBX8 HBK8 HOP8 HU8 HB8 HDN HQ
  go_wp2
  first | exact hR1.out _ _ _ _ _ _ _ _ _ _ _ _ _ _ _ _ _ _ _ _ _ _ _ _ _ _ _ _ _ _ _ _ _ _ _ _ _ _ _ _ _ _ _ _ _ _ _ _ _ _ _ _ _ _ _ _ _ _ _ _ _ _ _ _ _ _ _ _ _ _ _ _ _ _ _ _ _ _ _ _ _ _ _ _ _ _ _ _ _ _ _ _ _ _ _ _ _ _ _ _ _ _ _ _ _ _ _ _ _ _ _ _ _ _ _ _ _ _ _ _ _ _ _ _ _ _ _ _ _ _ _ _ _ _ _ _ _ _ _ _ _ _ _ _ _ _ _ _ _ _ _ _ _ _ _ _ _ _ _ _ _ _ _ _ _ _ _ _ _ _ _ _ _ _ ⟨_, _, _, _, _, _, _, by rw [HAL.out], Hd ⟨HFIN.out.1.1.more (by omega), HFIN.out.1.2⟩, HFIN.out.2⟩ | exact hR2.out _ _ _ _ _ _ _ _ _ _ _ _ _ _ _ _ _ _ _ _ _ _ _ _ _ _ _ _ _ _ _ _ _ _ _ _ _ _ _ _ _ _ _ _ _ _ _ _ _ _ _ _ _ _ _ _ _ _ _ _ _ _ _ _ _ _ _ _ _ _ _ _ _ _ _ _ _ _ _ _ _ _ _ _ _ _ _ _ _ _ _ _ _ _ _ _ _ _ _ _ _ _ _ _ _ _ _ _ _ _ _ _ _ _ _ _ _ _ _ _ _ _ _ _ _ _ _ _ _ _ _ _ _ _ _ _ _ _ _ _ _ _ _ _ _ _ _ _ _ _ _ _ _ _ _ _ _ _ _ _ _ _ _ _ _ _ _ _ _ _ _ _ _ _ ⟨_, _, _, _, _, _, _, by rw [HAL.out], Hd ⟨HFIN.out.1.1.more (by omega), HFIN.out.1.2⟩, HFIN.out.2⟩
theorem ts_turn {l : List HStp} {k : Nat} {w w6 : World} {ax g5 : Nat} {h : Hl} {T R : Nat → Prop} {tt : List TkV} {op : List (Opn PCall (PAns × Int))} {tc : List TkV} {ov : List (Ovr PCall (PAns × Int))} {Av Ao : Option Addr} {cv co : Nat} {kv : Int}  {z0 z1 z2 z3 z5 z12 z13 z14 z15 z16 z17 z18 z19 z20 z21 z22 z23 z24 z25 z26 z27 z28 z29 z30 z31 z32 z33 z34 z35 z36 z37 z38 z39 z40 z41 z42 z43 z44 z45 z46 z47 z48 z49 z50 z51 z52 z53 z54 z55 z56 z57 z58 z59 z60 z61 z62 z63 z64 z65 z66 z67 z68 z69 z70 z71 z72 z73 z74 z75 z76 z77 z78 z79 z80 z81 z82 z83 z84 z85 z86 z87 z88 z89 z90 z91 z92 z93 z94 z95 z96 z97 z98 z99 z100 z101 z102 z103 z104 z105 z106 z107 z108 z109 z110 z111 z112 z113 z114 z115 z116 z117 z118 z119 z120 z121 z122 z123 z124 z125 z126 z127 z128 z129 z130 z131 z132 z133 z134 z135 z136 z137 z138 z139 z140 z141 z142 z143 z144 z145 z146 z147 z148 z149 z150 z151 z152 z153 z154 z155 z156 z157 z158 z159 z160 z161 z162 z163 z164 z165 z166 z167 z168 z169 z170 z171 z172 z173 z174 z175 z176 z177 z178 z179 z180 z181 z182 z183 z184 z185 z186 z187 z188 z189 z190 z191 z192 z193 z194 z195 z196 z197 z198 z199 z200 z201 z202 z203 z204 z205 z206 z207 z208 z209 z210 z211 z212 z213 z214 z215 z216 z217 z218 z219 z220 z221 z222 z223 z224 z225 z226 z227 z228 z229 z230 z231 z232 z233 z234 z235 z236 z237 z238 z239 z240 z241 z242 z243 z244 z245 z246 z247 z248 z249 z250 z251 z252 z253 z254 z255 z256 z257 z258 z259 z260 z261 z262 z263 z264 z265 z266 z267 z268 z269 z270 z271 z272 z273 z274 z275 z276 z277 z278 z279 z280 z281 z282 z283 z284 z285 z286 z287 z288 z289 z290 z291 z292 z293 z294 z295 z296 z297 z298 : Value} {Q : Exit → Act → World → Prop} (hR1 : Hid (∀ (y2 y6 y7 y8 y13 y14 y15 y16 y17 y18 y19 y20 y21 y22 y23 y47 y48 y49 y50 y51 y52 y53 y54 y55 y56 y57 y58 y59 y60 y61 y62 y63 y64 y65 y66 y67 y68 y69 y70 y71 y72 y73 y74 y75 y76 y77 y78 y79 y80 y81 y82 y83 y84 y85 y86 y87 y88 y89 y90 y91 y92 y93 y94 y95 y96 y97 y98 y99 y100 y101 y102 y103 y104 y105 y106 y107 y108 y109 y110 y111 y112 y113 y114 y115 y116 y117 y118 y119 y120 y121 y122 y123 y124 y125 y126 y127 y128 y129 y130 y131 y132 y133 y134 y135 y136 y137 y138 y139 y140 y141 y142 y143 y144 y145 y146 y147 y148 y149 y150 y151 y152 y153 y154 y155 y156 y157 y158 y159 y160 y161 y162 y163 y164 y165 y166 y167 y168 y169 y170 y171 y172 y173 y174 y175 y176 y177 y178 y179 y180 y181 y182 y183 y184 y185 y186 y187 y188 y189 y190 y191 y192 y193 y194 y195 y196 y197 y198 y199 y200 y201 y202 y203 y204 : Value) (w' : World), (∃ (h' : Hl) (T' R' : Nat → Prop) (tt' : List TkV) (op' : List (Opn PCall (PAns × Int))) (tc' : List TkV) (ov' : List (Ovr PCall (PAns × Int))), y8 = .int .i64 (h'.d.all.length : Nat) ∧ Hid (SrS w.heap.size w' T' R' ax h' (2 * (k + 1)) y6 tt' op' y7 tc' ov' ∧ SzS op' ov' (k + 1)) ∧ Below w.heap.size w w') → Q .normal ⟨List.toArray (z0 :: z1 :: y2 :: z3 :: ptrV ax :: z5 :: y6 :: y7 :: y8 :: .int .i64 (k : Int) :: .pointer (some ⟨g5, 0, none⟩) :: .int .i64 kv :: z12 :: y13 :: y14 :: y15 :: y16 :: y17 :: y18 :: y19 :: y20 :: y21 :: y22 :: y23 :: z24 :: z25 :: z26 :: z27 :: z28 :: z29 :: z30 :: z31 :: z32 :: z33 :: z34 :: z35 :: z36 :: z37 :: z38 :: z39 :: z40 :: z41 :: z42 :: z43 :: z44 :: z45 :: z46 :: y47 :: y48 :: y49 :: y50 :: y51 :: y52 :: y53 :: y54 :: y55 :: y56 :: y57 :: y58 :: y59 :: y60 :: y61 :: y62 :: y63 :: y64 :: y65 :: y66 :: y67 :: y68 :: y69 :: y70 :: y71 :: y72 :: y73 :: y74 :: y75 :: y76 :: y77 :: y78 :: y79 :: y80 :: y81 :: y82 :: y83 :: y84 :: y85 :: y86 :: y87 :: y88 :: y89 :: y90 :: y91 :: y92 :: y93 :: y94 :: y95 :: y96 :: y97 :: y98 :: y99 :: y100 :: y101 :: y102 :: y103 :: y104 :: y105 :: y106 :: y107 :: y108 :: y109 :: y110 :: y111 :: y112 :: y113 :: y114 :: y115 :: y116 :: y117 :: y118 :: y119 :: y120 :: y121 :: y122 :: y123 :: y124 :: y125 :: y126 :: y127 :: y128 :: y129 :: y130 :: y131 :: y132 :: y133 :: y134 :: y135 :: y136 :: y137 :: y138 :: y139 :: y140 :: y141 :: y142 :: y143 :: y144 :: y145 :: y146 :: y147 :: y148 :: y149 :: y150 :: y151 :: y152 :: y153 :: y154 :: y155 :: y156 :: y157 :: y158 :: y159 :: y160 :: y161 :: y162 :: y163 :: y164 :: y165 :: y166 :: y167 :: y168 :: y169 :: y170 :: y171 :: y172 :: y173 :: y174 :: y175 :: y176 :: y177 :: y178 :: y179 :: y180 :: y181 :: y182 :: y183 :: y184 :: y185 :: y186 :: y187 :: y188 :: y189 :: y190 :: y191 :: y192 :: y193 :: y194 :: y195 :: y196 :: y197 :: y198 :: y199 :: y200 :: y201 :: y202 :: y203 :: y204 :: z205 :: z206 :: z207 :: z208 :: z209 :: z210 :: z211 :: z212 :: z213 :: z214 :: z215 :: z216 :: z217 :: z218 :: z219 :: z220 :: z221 :: z222 :: z223 :: z224 :: z225 :: z226 :: z227 :: z228 :: z229 :: z230 :: z231 :: z232 :: z233 :: z234 :: z235 :: z236 :: z237 :: z238 :: z239 :: z240 :: z241 :: z242 :: z243 :: z244 :: z245 :: z246 :: z247 :: z248 :: z249 :: z250 :: z251 :: z252 :: z253 :: z254 :: z255 :: z256 :: z257 :: z258 :: z259 :: z260 :: z261 :: z262 :: z263 :: z264 :: z265 :: z266 :: z267 :: z268 :: z269 :: z270 :: z271 :: z272 :: z273 :: z274 :: z275 :: z276 :: z277 :: z278 :: z279 :: z280 :: z281 :: z282 :: z283 :: z284 :: z285 :: z286 :: z287 :: z288 :: z289 :: z290 :: z291 :: z292 :: z293 :: z294 :: z295 :: z296 :: z297 :: z298 :: []), []⟩ w')) (hR2 : Hid (∀ (y2 y6 y7 y8 y13 y14 y15 y16 y17 y18 y19 y20 y21 y22 y23 y47 y48 y49 y50 y51 y52 y53 y54 y55 y56 y57 y58 y59 y60 y61 y62 y63 y64 y65 y66 y67 y68 y69 y70 y71 y72 y73 y74 y75 y76 y77 y78 y79 y80 y81 y82 y83 y84 y85 y86 y87 y88 y89 y90 y91 y92 y93 y94 y95 y96 y97 y98 y99 y100 y101 y102 y103 y104 y105 y106 y107 y108 y109 y110 y111 y112 y113 y114 y115 y116 y117 y118 y119 y120 y121 y122 y123 y124 y125 y126 y127 y128 y129 y130 y131 y132 y133 y134 y135 y136 y137 y138 y139 y140 y141 y142 y143 y144 y145 y146 y147 y148 y149 y150 y151 y152 y153 y154 y155 y156 y157 y158 y159 y160 y161 y162 y163 y164 y165 y166 y167 y168 y169 y170 y171 y172 y173 y174 y175 y176 y177 y178 y179 y180 y181 y182 y183 y184 y185 y186 y187 y188 y189 y190 y191 y192 y193 y194 y195 y196 y197 y198 y199 y200 y201 y202 y203 y204 : Value) (w' : World), (∃ (h' : Hl) (T' R' : Nat → Prop) (tt' : List TkV) (op' : List (Opn PCall (PAns × Int))) (tc' : List TkV) (ov' : List (Ovr PCall (PAns × Int))), y8 = .int .i64 (h'.d.all.length : Nat) ∧ Hid (SrS w.heap.size w' T' R' ax h' (2 * (k + 1)) y6 tt' op' y7 tc' ov' ∧ SzS op' ov' (k + 1)) ∧ Below w.heap.size w w') → Q (.exit 1) ⟨List.toArray (z0 :: z1 :: y2 :: z3 :: ptrV ax :: z5 :: y6 :: y7 :: y8 :: .int .i64 (k : Int) :: .pointer (some ⟨g5, 0, none⟩) :: .int .i64 kv :: z12 :: y13 :: y14 :: y15 :: y16 :: y17 :: y18 :: y19 :: y20 :: y21 :: y22 :: y23 :: z24 :: z25 :: z26 :: z27 :: z28 :: z29 :: z30 :: z31 :: z32 :: z33 :: z34 :: z35 :: z36 :: z37 :: z38 :: z39 :: z40 :: z41 :: z42 :: z43 :: z44 :: z45 :: z46 :: y47 :: y48 :: y49 :: y50 :: y51 :: y52 :: y53 :: y54 :: y55 :: y56 :: y57 :: y58 :: y59 :: y60 :: y61 :: y62 :: y63 :: y64 :: y65 :: y66 :: y67 :: y68 :: y69 :: y70 :: y71 :: y72 :: y73 :: y74 :: y75 :: y76 :: y77 :: y78 :: y79 :: y80 :: y81 :: y82 :: y83 :: y84 :: y85 :: y86 :: y87 :: y88 :: y89 :: y90 :: y91 :: y92 :: y93 :: y94 :: y95 :: y96 :: y97 :: y98 :: y99 :: y100 :: y101 :: y102 :: y103 :: y104 :: y105 :: y106 :: y107 :: y108 :: y109 :: y110 :: y111 :: y112 :: y113 :: y114 :: y115 :: y116 :: y117 :: y118 :: y119 :: y120 :: y121 :: y122 :: y123 :: y124 :: y125 :: y126 :: y127 :: y128 :: y129 :: y130 :: y131 :: y132 :: y133 :: y134 :: y135 :: y136 :: y137 :: y138 :: y139 :: y140 :: y141 :: y142 :: y143 :: y144 :: y145 :: y146 :: y147 :: y148 :: y149 :: y150 :: y151 :: y152 :: y153 :: y154 :: y155 :: y156 :: y157 :: y158 :: y159 :: y160 :: y161 :: y162 :: y163 :: y164 :: y165 :: y166 :: y167 :: y168 :: y169 :: y170 :: y171 :: y172 :: y173 :: y174 :: y175 :: y176 :: y177 :: y178 :: y179 :: y180 :: y181 :: y182 :: y183 :: y184 :: y185 :: y186 :: y187 :: y188 :: y189 :: y190 :: y191 :: y192 :: y193 :: y194 :: y195 :: y196 :: y197 :: y198 :: y199 :: y200 :: y201 :: y202 :: y203 :: y204 :: z205 :: z206 :: z207 :: z208 :: z209 :: z210 :: z211 :: z212 :: z213 :: z214 :: z215 :: z216 :: z217 :: z218 :: z219 :: z220 :: z221 :: z222 :: z223 :: z224 :: z225 :: z226 :: z227 :: z228 :: z229 :: z230 :: z231 :: z232 :: z233 :: z234 :: z235 :: z236 :: z237 :: z238 :: z239 :: z240 :: z241 :: z242 :: z243 :: z244 :: z245 :: z246 :: z247 :: z248 :: z249 :: z250 :: z251 :: z252 :: z253 :: z254 :: z255 :: z256 :: z257 :: z258 :: z259 :: z260 :: z261 :: z262 :: z263 :: z264 :: z265 :: z266 :: z267 :: z268 :: z269 :: z270 :: z271 :: z272 :: z273 :: z274 :: z275 :: z276 :: z277 :: z278 :: z279 :: z280 :: z281 :: z282 :: z283 :: z284 :: z285 :: z286 :: z287 :: z288 :: z289 :: z290 :: z291 :: z292 :: z293 :: z294 :: z295 :: z296 :: z297 :: z298 :: []), []⟩ w')) (hlt1 : k < l.length) (hlt2 : k < 60) (HKS : Hid (HStpOk l[k])) (HLE : Hid (SzS op ov k)) (HNT : Hid (¬ T g5)) (HI : Hid (SrS w.heap.size w6 T R ax h (2 * k) (.slice Av tt.length cv) tt op (.slice Ao tc.length co) tc ov)) (HB : Hid (Below w.heap.size w w6)) (HBK6 : Hid (Blk w6 g5 35 #[.int .i64 l[k].what, txt l[k].who, .int .i64 l[k].n, .int .i64 l[k].call.what, txt l[k].call.name, .int .i64 l[k].call.pa, .int .i64 l[k].call.pn, .int .i64 l[k].call.len, .int .i64 l[k].call.ad, txt l[k].call.owner])) (HSR : Hid (Srch op l[k].who op.length kv)) :
  Code.wp Tryz.prog (cR (cR (cR (cL (cL (cR (cL (cL (cR (cL (cR (cR (cR (cR (cR (cR (Tryz.f3.body.getD .skip))))))))))))))))) Q ⟨List.toArray (z0 :: z1 :: z2 :: z3 :: ptrV ax :: z5 :: .slice Av tt.length cv :: .slice Ao tc.length co :: .int .i64 (h.d.all.length : Nat) :: .int .i64 (k : Int) :: .pointer (some ⟨g5, 0, none⟩) :: .int .i64 kv :: z12 :: z13 :: z14 :: z15 :: z16 :: z17 :: z18 :: z19 :: z20 :: z21 :: z22 :: z23 :: z24 :: z25 :: z26 :: z27 :: z28 :: z29 :: z30 :: z31 :: z32 :: z33 :: z34 :: z35 :: z36 :: z37 :: z38 :: z39 :: z40 :: z41 :: z42 :: z43 :: z44 :: z45 :: z46 :: z47 :: z48 :: z49 :: z50 :: z51 :: z52 :: z53 :: z54 :: z55 :: z56 :: z57 :: z58 :: z59 :: z60 :: z61 :: z62 :: z63 :: z64 :: z65 :: z66 :: z67 :: z68 :: z69 :: z70 :: z71 :: z72 :: z73 :: z74 :: z75 :: z76 :: z77 :: z78 :: z79 :: z80 :: z81 :: z82 :: z83 :: z84 :: z85 :: z86 :: z87 :: z88 :: z89 :: z90 :: z91 :: z92 :: z93 :: z94 :: z95 :: z96 :: z97 :: z98 :: z99 :: z100 :: z101 :: z102 :: z103 :: z104 :: z105 :: z106 :: z107 :: z108 :: z109 :: z110 :: z111 :: z112 :: z113 :: z114 :: z115 :: z116 :: z117 :: z118 :: z119 :: z120 :: z121 :: z122 :: z123 :: z124 :: z125 :: z126 :: z127 :: z128 :: z129 :: z130 :: z131 :: z132 :: z133 :: z134 :: z135 :: z136 :: z137 :: z138 :: z139 :: z140 :: z141 :: z142 :: z143 :: z144 :: z145 :: z146 :: z147 :: z148 :: z149 :: z150 :: z151 :: z152 :: z153 :: z154 :: z155 :: z156 :: z157 :: z158 :: z159 :: z160 :: z161 :: z162 :: z163 :: z164 :: z165 :: z166 :: z167 :: z168 :: z169 :: z170 :: z171 :: z172 :: z173 :: z174 :: z175 :: z176 :: z177 :: z178 :: z179 :: z180 :: z181 :: z182 :: z183 :: z184 :: z185 :: z186 :: z187 :: z188 :: z189 :: z190 :: z191 :: z192 :: z193 :: z194 :: z195 :: z196 :: z197 :: z198 :: z199 :: z200 :: z201 :: z202 :: z203 :: z204 :: z205 :: z206 :: z207 :: z208 :: z209 :: z210 :: z211 :: z212 :: z213 :: z214 :: z215 :: z216 :: z217 :: z218 :: z219 :: z220 :: z221 :: z222 :: z223 :: z224 :: z225 :: z226 :: z227 :: z228 :: z229 :: z230 :: z231 :: z232 :: z233 :: z234 :: z235 :: z236 :: z237 :: z238 :: z239 :: z240 :: z241 :: z242 :: z243 :: z244 :: z245 :: z246 :: z247 :: z248 :: z249 :: z250 :: z251 :: z252 :: z253 :: z254 :: z255 :: z256 :: z257 :: z258 :: z259 :: z260 :: z261 :: z262 :: z263 :: z264 :: z265 :: z266 :: z267 :: z268 :: z269 :: z270 :: z271 :: z272 :: z273 :: z274 :: z275 :: z276 :: z277 :: z278 :: z279 :: z280 :: z281 :: z282 :: z283 :: z284 :: z285 :: z286 :: z287 :: z288 :: z289 :: z290 :: z291 :: z292 :: z293 :: z294 :: z295 :: z296 :: z297 :: z298 :: []), []⟩ w6 := by
 let QF : Exit → Act → World → Prop := bodyPost Tryz.prog Tryz.f3 (fun _ _ => True)
 conv => arg 2; whnf
 have x0 := HBK6.out.cell 0; have x1' := HBK6.out.cell 1; have x2' := HBK6.out.cell 2; have x3' := HBK6.out.cell 3; have x4 := HBK6.out.cell 4; have x5 := HBK6.out.cell 5; have x6 := HBK6.out.cell 6; have x7 := HBK6.out.cell 7; have x8 := HBK6.out.cell 8; have x9 := HBK6.out.cell 9
 simp at x0 x1' x2' x3' x4 x5 x6 x7 x8 x9
 by_cases hw0 : l[k].what = 0
 ·have HC := Hd (HI.out.x.open_h (by omega) l[k].who HKS.out.who)
  have HQ := Hd (HI.out.q.open l[k].who)
  go_wp2_with fail
  refine HC.out.mono ?_
  rintro e w7 ⟨rfl, T7, hs7⟩
  have HX7 := Hd hs7.hk
  have HM7 := Hd (HI.out.m.step hs7)
  have HB7 := Hd (HB.out.trans (hs7.belB HI.out.x.lo))
  have z1 := (HBK6.out.fr hs7.fr HNT.out).cell 1
  simp at z1
  clear HC hs7 HI HB x0 x1' x2' x3' x4 x5 x6 x7 x8 x9
  obtain ⟨ha, hway⟩ := HQ.out
  have HA := Hd (congrArg List.length ha)
  clear ha HQ
  rcases hway with ⟨hf, hq⟩ | ⟨hf, hq⟩
  ·have HQ := Hd hq
   have HF := Hd (faultV_no hf)
   rw [HF.out]
   clear hf hq HF
   go_wp2
   first | exact hR1.out _ _ _ _ _ _ _ _ _ _ _ _ _ _ _ _ _ _ _ _ _ _ _ _ _ _ _ _ _ _ _ _ _ _ _ _ _ _ _ _ _ _ _ _ _ _ _ _ _ _ _ _ _ _ _ _ _ _ _ _ _ _ _ _ _ _ _ _ _ _ _ _ _ _ _ _ _ _ _ _ _ _ _ _ _ _ _ _ _ _ _ _ _ _ _ _ _ _ _ _ _ _ _ _ _ _ _ _ _ _ _ _ _ _ _ _ _ _ _ _ _ _ _ _ _ _ _ _ _ _ _ _ _ _ _ _ _ _ _ _ _ _ _ _ _ _ _ _ _ _ _ _ _ _ _ _ _ _ _ _ _ _ _ _ _ _ _ _ _ _ _ _ _ _ ⟨_, _, _, _, _, _, _, by rw [HA.out], Hd ⟨⟨HX7.out.more (by omega), HQ.out, HM7.out⟩, HLE.out.more⟩, HB7.out⟩ | exact hR2.out _ _ _ _ _ _ _ _ _ _ _ _ _ _ _ _ _ _ _ _ _ _ _ _ _ _ _ _ _ _ _ _ _ _ _ _ _ _ _ _ _ _ _ _ _ _ _ _ _ _ _ _ _ _ _ _ _ _ _ _ _ _ _ _ _ _ _ _ _ _ _ _ _ _ _ _ _ _ _ _ _ _ _ _ _ _ _ _ _ _ _ _ _ _ _ _ _ _ _ _ _ _ _ _ _ _ _ _ _ _ _ _ _ _ _ _ _ _ _ _ _ _ _ _ _ _ _ _ _ _ _ _ _ _ _ _ _ _ _ _ _ _ _ _ _ _ _ _ _ _ _ _ _ _ _ _ _ _ _ _ _ _ _ _ _ _ _ _ _ _ _ _ _ _ ⟨_, _, _, _, _, _, _, by rw [HA.out], Hd ⟨⟨HX7.out.more (by omega), HQ.out, HM7.out⟩, HLE.out.more⟩, HB7.out⟩
  ·have HQ := Hd hq
   rw [show faultV (h.open l[k].who).1 = .nilIface by rw [hf]; rfl]
   have hone : ∀ u ∈ (#[txt l[k].who, .int .i64 0, .slice none 0 0, .slice none 0 0, .slice none 0 0] : Array Value).toList, u.oneCell' = true := by intro u hu; simp at hu; rcases hu with rfl | rfl | rfl <;> rfl
   have HLN := Hd (show tt.length < 1000000000 by have := HM7.out.lo; have := HLE.out.lo; omega)
   have HRO := Hd HM7.out.ro
   unfold RowAt at HRO
   obtain ⟨FT, hFT⟩ : ∃ F, F = flatE encT tt := ⟨_, rfl⟩
   rw [← hFT] at HRO
   have HFT := Hd hFT
   clear hf hq hFT
   go_wp2_with (at_builtin; go_must (refine wpList_append_elt (w1 := w7) rfl _ _ 29 rfl 40 Tryz.underlying29 _ 5 96 infoTk rfl (by decide) (by decide) 0 (.slice Av tt.length cv) tt.length FT rfl HRO.out #[txt l[k].who, .int .i64 0, .slice none 0 0, .slice none 0 0, .slice none 0 0] rfl hone rfl HLN.out (Nat.zero_le _) ?_); intro v8 w8 hown8 hg8 hat8)
   rw [HFT.out] at hown8
   obtain ⟨A8, c8, rfl, _⟩ := own_form hown8
   have HI8 := Hd (SrS.opened HX7.out HM7.out HKS.out.who HQ.out HB7.out.size hown8 hg8 hat8)
   have HB8 := Hd (HB7.out.grown hg8 HB7.out.size (fun q e => (HM7.out.no q e).2.2))
   clear hown8 hg8 hat8 HX7 HM7 HB7 HQ HRO hone
   go_wp2
   first | exact hR1.out _ _ _ _ _ _ _ _ _ _ _ _ _ _ _ _ _ _ _ _ _ _ _ _ _ _ _ _ _ _ _ _ _ _ _ _ _ _ _ _ _ _ _ _ _ _ _ _ _ _ _ _ _ _ _ _ _ _ _ _ _ _ _ _ _ _ _ _ _ _ _ _ _ _ _ _ _ _ _ _ _ _ _ _ _ _ _ _ _ _ _ _ _ _ _ _ _ _ _ _ _ _ _ _ _ _ _ _ _ _ _ _ _ _ _ _ _ _ _ _ _ _ _ _ _ _ _ _ _ _ _ _ _ _ _ _ _ _ _ _ _ _ _ _ _ _ _ _ _ _ _ _ _ _ _ _ _ _ _ _ _ _ _ _ _ _ _ _ _ _ _ _ _ _ ⟨_, _, _, _, _, _, _, by rw [HA.out], Hd ⟨HI8.out.more (by omega), HLE.out.open _ _⟩, HB8.out⟩ | exact hR2.out _ _ _ _ _ _ _ _ _ _ _ _ _ _ _ _ _ _ _ _ _ _ _ _ _ _ _ _ _ _ _ _ _ _ _ _ _ _ _ _ _ _ _ _ _ _ _ _ _ _ _ _ _ _ _ _ _ _ _ _ _ _ _ _ _ _ _ _ _ _ _ _ _ _ _ _ _ _ _ _ _ _ _ _ _ _ _ _ _ _ _ _ _ _ _ _ _ _ _ _ _ _ _ _ _ _ _ _ _ _ _ _ _ _ _ _ _ _ _ _ _ _ _ _ _ _ _ _ _ _ _ _ _ _ _ _ _ _ _ _ _ _ _ _ _ _ _ _ _ _ _ _ _ _ _ _ _ _ _ _ _ _ _ _ _ _ _ _ _ _ _ _ _ _ ⟨_, _, _, _, _, _, _, by rw [HA.out], Hd ⟨HI8.out.more (by omega), HLE.out.open _ _⟩, HB8.out⟩
 by_cases hw3 : l[k].what = 3
 ·skip
  go_wp2
  first | exact hR1.out _ _ _ _ _ _ _ _ _ _ _ _ _ _ _ _ _ _ _ _ _ _ _ _ _ _ _ _ _ _ _ _ _ _ _ _ _ _ _ _ _ _ _ _ _ _ _ _ _ _ _ _ _ _ _ _ _ _ _ _ _ _ _ _ _ _ _ _ _ _ _ _ _ _ _ _ _ _ _ _ _ _ _ _ _ _ _ _ _ _ _ _ _ _ _ _ _ _ _ _ _ _ _ _ _ _ _ _ _ _ _ _ _ _ _ _ _ _ _ _ _ _ _ _ _ _ _ _ _ _ _ _ _ _ _ _ _ _ _ _ _ _ _ _ _ _ _ _ _ _ _ _ _ _ _ _ _ _ _ _ _ _ _ _ _ _ _ _ _ _ _ _ _ _ ⟨h, T, R, tt, op, tc, ov, rfl, Hd ⟨HI.out.more (by omega), HLE.out.more⟩, HB.out⟩ | exact hR2.out _ _ _ _ _ _ _ _ _ _ _ _ _ _ _ _ _ _ _ _ _ _ _ _ _ _ _ _ _ _ _ _ _ _ _ _ _ _ _ _ _ _ _ _ _ _ _ _ _ _ _ _ _ _ _ _ _ _ _ _ _ _ _ _ _ _ _ _ _ _ _ _ _ _ _ _ _ _ _ _ _ _ _ _ _ _ _ _ _ _ _ _ _ _ _ _ _ _ _ _ _ _ _ _ _ _ _ _ _ _ _ _ _ _ _ _ _ _ _ _ _ _ _ _ _ _ _ _ _ _ _ _ _ _ _ _ _ _ _ _ _ _ _ _ _ _ _ _ _ _ _ _ _ _ _ _ _ _ _ _ _ _ _ _ _ _ _ _ _ _ _ _ _ _ ⟨h, T, R, tt, op, tc, ov, rfl, Hd ⟨HI.out.more (by omega), HLE.out.more⟩, HB.out⟩
 by_cases hw4 : l[k].what = 4
 ·skip
  go_wp2
  first | exact hR1.out _ _ _ _ _ _ _ _ _ _ _ _ _ _ _ _ _ _ _ _ _ _ _ _ _ _ _ _ _ _ _ _ _ _ _ _ _ _ _ _ _ _ _ _ _ _ _ _ _ _ _ _ _ _ _ _ _ _ _ _ _ _ _ _ _ _ _ _ _ _ _ _ _ _ _ _ _ _ _ _ _ _ _ _ _ _ _ _ _ _ _ _ _ _ _ _ _ _ _ _ _ _ _ _ _ _ _ _ _ _ _ _ _ _ _ _ _ _ _ _ _ _ _ _ _ _ _ _ _ _ _ _ _ _ _ _ _ _ _ _ _ _ _ _ _ _ _ _ _ _ _ _ _ _ _ _ _ _ _ _ _ _ _ _ _ _ _ _ _ _ _ _ _ _ ⟨h, T, R, tt, op, tc, ov, rfl, Hd ⟨HI.out.more (by omega), HLE.out.more⟩, HB.out⟩ | exact hR2.out _ _ _ _ _ _ _ _ _ _ _ _ _ _ _ _ _ _ _ _ _ _ _ _ _ _ _ _ _ _ _ _ _ _ _ _ _ _ _ _ _ _ _ _ _ _ _ _ _ _ _ _ _ _ _ _ _ _ _ _ _ _ _ _ _ _ _ _ _ _ _ _ _ _ _ _ _ _ _ _ _ _ _ _ _ _ _ _ _ _ _ _ _ _ _ _ _ _ _ _ _ _ _ _ _ _ _ _ _ _ _ _ _ _ _ _ _ _ _ _ _ _ _ _ _ _ _ _ _ _ _ _ _ _ _ _ _ _ _ _ _ _ _ _ _ _ _ _ _ _ _ _ _ _ _ _ _ _ _ _ _ _ _ _ _ _ _ _ _ _ _ _ _ _ ⟨h, T, R, tt, op, tc, ov, rfl, Hd ⟨HI.out.more (by omega), HLE.out.more⟩, HB.out⟩
 by_cases hw5 : l[k].what = 5
 ·skip
  go_wp2
  first | exact hR1.out _ _ _ _ _ _ _ _ _ _ _ _ _ _ _ _ _ _ _ _ _ _ _ _ _ _ _ _ _ _ _ _ _ _ _ _ _ _ _ _ _ _ _ _ _ _ _ _ _ _ _ _ _ _ _ _ _ _ _ _ _ _ _ _ _ _ _ _ _ _ _ _ _ _ _ _ _ _ _ _ _ _ _ _ _ _ _ _ _ _ _ _ _ _ _ _ _ _ _ _ _ _ _ _ _ _ _ _ _ _ _ _ _ _ _ _ _ _ _ _ _ _ _ _ _ _ _ _ _ _ _ _ _ _ _ _ _ _ _ _ _ _ _ _ _ _ _ _ _ _ _ _ _ _ _ _ _ _ _ _ _ _ _ _ _ _ _ _ _ _ _ _ _ _ ⟨h, T, R, tt, op, tc, ov, rfl, Hd ⟨HI.out.more (by omega), HLE.out.more⟩, HB.out⟩ | exact hR2.out _ _ _ _ _ _ _ _ _ _ _ _ _ _ _ _ _ _ _ _ _ _ _ _ _ _ _ _ _ _ _ _ _ _ _ _ _ _ _ _ _ _ _ _ _ _ _ _ _ _ _ _ _ _ _ _ _ _ _ _ _ _ _ _ _ _ _ _ _ _ _ _ _ _ _ _ _ _ _ _ _ _ _ _ _ _ _ _ _ _ _ _ _ _ _ _ _ _ _ _ _ _ _ _ _ _ _ _ _ _ _ _ _ _ _ _ _ _ _ _ _ _ _ _ _ _ _ _ _ _ _ _ _ _ _ _ _ _ _ _ _ _ _ _ _ _ _ _ _ _ _ _ _ _ _ _ _ _ _ _ _ _ _ _ _ _ _ _ _ _ _ _ _ _ ⟨h, T, R, tt, op, tc, ov, rfl, Hd ⟨HI.out.more (by omega), HLE.out.more⟩, HB.out⟩
 rcases HSR.out with ⟨rfl, _⟩ | ⟨i, hi, rfl, hwho⟩
 ·by_cases hw1 : l[k].what = 1
  ·skip
   go_wp2
   first | exact hR1.out _ _ _ _ _ _ _ _ _ _ _ _ _ _ _ _ _ _ _ _ _ _ _ _ _ _ _ _ _ _ _ _ _ _ _ _ _ _ _ _ _ _ _ _ _ _ _ _ _ _ _ _ _ _ _ _ _ _ _ _ _ _ _ _ _ _ _ _ _ _ _ _ _ _ _ _ _ _ _ _ _ _ _ _ _ _ _ _ _ _ _ _ _ _ _ _ _ _ _ _ _ _ _ _ _ _ _ _ _ _ _ _ _ _ _ _ _ _ _ _ _ _ _ _ _ _ _ _ _ _ _ _ _ _ _ _ _ _ _ _ _ _ _ _ _ _ _ _ _ _ _ _ _ _ _ _ _ _ _ _ _ _ _ _ _ _ _ _ _ _ _ _ _ _ ⟨h, T, R, tt, op, tc, ov, rfl, Hd ⟨HI.out.more (by omega), HLE.out.more⟩, HB.out⟩ | exact hR2.out _ _ _ _ _ _ _ _ _ _ _ _ _ _ _ _ _ _ _ _ _ _ _ _ _ _ _ _ _ _ _ _ _ _ _ _ _ _ _ _ _ _ _ _ _ _ _ _ _ _ _ _ _ _ _ _ _ _ _ _ _ _ _ _ _ _ _ _ _ _ _ _ _ _ _ _ _ _ _ _ _ _ _ _ _ _ _ _ _ _ _ _ _ _ _ _ _ _ _ _ _ _ _ _ _ _ _ _ _ _ _ _ _ _ _ _ _ _ _ _ _ _ _ _ _ _ _ _ _ _ _ _ _ _ _ _ _ _ _ _ _ _ _ _ _ _ _ _ _ _ _ _ _ _ _ _ _ _ _ _ _ _ _ _ _ _ _ _ _ _ _ _ _ _ ⟨h, T, R, tt, op, tc, ov, rfl, Hd ⟨HI.out.more (by omega), HLE.out.more⟩, HB.out⟩
  by_cases hw2 : l[k].what = 2
  ·skip
   go_wp2
   first | exact hR1.out _ _ _ _ _ _ _ _ _ _ _ _ _ _ _ _ _ _ _ _ _ _ _ _ _ _ _ _ _ _ _ _ _ _ _ _ _ _ _ _ _ _ _ _ _ _ _ _ _ _ _ _ _ _ _ _ _ _ _ _ _ _ _ _ _ _ _ _ _ _ _ _ _ _ _ _ _ _ _ _ _ _ _ _ _ _ _ _ _ _ _ _ _ _ _ _ _ _ _ _ _ _ _ _ _ _ _ _ _ _ _ _ _ _ _ _ _ _ _ _ _ _ _ _ _ _ _ _ _ _ _ _ _ _ _ _ _ _ _ _ _ _ _ _ _ _ _ _ _ _ _ _ _ _ _ _ _ _ _ _ _ _ _ _ _ _ _ _ _ _ _ _ _ _ ⟨h, T, R, tt, op, tc, ov, rfl, Hd ⟨HI.out.more (by omega), HLE.out.more⟩, HB.out⟩ | exact hR2.out _ _ _ _ _ _ _ _ _ _ _ _ _ _ _ _ _ _ _ _ _ _ _ _ _ _ _ _ _ _ _ _ _ _ _ _ _ _ _ _ _ _ _ _ _ _ _ _ _ _ _ _ _ _ _ _ _ _ _ _ _ _ _ _ _ _ _ _ _ _ _ _ _ _ _ _ _ _ _ _ _ _ _ _ _ _ _ _ _ _ _ _ _ _ _ _ _ _ _ _ _ _ _ _ _ _ _ _ _ _ _ _ _ _ _ _ _ _ _ _ _ _ _ _ _ _ _ _ _ _ _ _ _ _ _ _ _ _ _ _ _ _ _ _ _ _ _ _ _ _ _ _ _ _ _ _ _ _ _ _ _ _ _ _ _ _ _ _ _ _ _ _ _ _ ⟨h, T, R, tt, op, tc, ov, rfl, Hd ⟨HI.out.more (by omega), HLE.out.more⟩, HB.out⟩
  go_wp2
  first | exact hR1.out _ _ _ _ _ _ _ _ _ _ _ _ _ _ _ _ _ _ _ _ _ _ _ _ _ _ _ _ _ _ _ _ _ _ _ _ _ _ _ _ _ _ _ _ _ _ _ _ _ _ _ _ _ _ _ _ _ _ _ _ _ _ _ _ _ _ _ _ _ _ _ _ _ _ _ _ _ _ _ _ _ _ _ _ _ _ _ _ _ _ _ _ _ _ _ _ _ _ _ _ _ _ _ _ _ _ _ _ _ _ _ _ _ _ _ _ _ _ _ _ _ _ _ _ _ _ _ _ _ _ _ _ _ _ _ _ _ _ _ _ _ _ _ _ _ _ _ _ _ _ _ _ _ _ _ _ _ _ _ _ _ _ _ _ _ _ _ _ _ _ _ _ _ _ ⟨h, T, R, tt, op, tc, ov, rfl, Hd ⟨HI.out.more (by omega), HLE.out.more⟩, HB.out⟩ | exact hR2.out _ _ _ _ _ _ _ _ _ _ _ _ _ _ _ _ _ _ _ _ _ _ _ _ _ _ _ _ _ _ _ _ _ _ _ _ _ _ _ _ _ _ _ _ _ _ _ _ _ _ _ _ _ _ _ _ _ _ _ _ _ _ _ _ _ _ _ _ _ _ _ _ _ _ _ _ _ _ _ _ _ _ _ _ _ _ _ _ _ _ _ _ _ _ _ _ _ _ _ _ _ _ _ _ _ _ _ _ _ _ _ _ _ _ _ _ _ _ _ _ _ _ _ _ _ _ _ _ _ _ _ _ _ _ _ _ _ _ _ _ _ _ _ _ _ _ _ _ _ _ _ _ _ _ _ _ _ _ _ _ _ _ _ _ _ _ _ _ _ _ _ _ _ _ ⟨h, T, R, tt, op, tc, ov, rfl, Hd ⟨HI.out.more (by omega), HLE.out.more⟩, HB.out⟩
 ·by_cases hw1 : l[k].what = 1
  ·exact ts_close hR1 hR2 hlt1 hlt2 HKS HLE HNT HI HB HBK6 hi hwho hw1
  by_cases hw2 : l[k].what = 2
  ·exact ts_quit hR1 hR2 hlt1 hlt2 HKS HLE HNT HI HB HBK6 hi hwho hw2
  exact ts_ask hR1 hR2 hlt1 hlt2 HKS HLE HNT HI HB HBK6 hi hwho hw0 hw1 hw2 hw3 hw4 hw5
def sqT : Code → Code
 | .seq _ b => b
 | c => c
theorem topSerial_rest (A : Option Addr) (l : List HStp) (cc : Nat) (w wc : World) (HGV : Hid (GV w.heap.size w)) (ax : Nat) (u2 u6 u7 u8 u9 u10 u11 u12 u13 u14 u15 u16 u17 u18 u19 u20 u21 u22 u23 u47 u48 u49 u50 u51 u52 u53 u54 u55 u56 u57 u58 u59 u60 u61 u62 u63 u64 u65 u66 u67 u68 u69 u70 u71 u72 u73 u74 u75 u76 u77 u78 u79 u80 u81 u82 u83 u84 u85 u86 u87 u88 u89 u90 u91 u92 u93 u94 u95 u96 u97 u98 u99 u100 u101 u102 u103 u104 u105 u106 u107 u108 u109 u110 u111 u112 u113 u114 u115 u116 u117 u118 u119 u120 u121 u122 u123 u124 u125 u126 u127 u128 u129 u130 u131 u132 u133 u134 u135 u136 u137 u138 u139 u140 u141 u142 u143 u144 u145 u146 u147 u148 u149 u150 u151 u152 u153 u154 u155 u156 u157 u158 u159 u160 u161 u162 u163 u164 u165 u166 u167 u168 u169 u170 u171 u172 u173 u174 u175 u176 u177 u178 u179 u180 u181 u182 u183 u184 u185 u186 u187 u188 u189 u190 u191 u192 u193 u194 u195 u196 u197 u198 u199 u200 u201 u202 u203 u204 : Value) (hcut : ∃ (h : Hl) (T R : Nat → Prop) (tt : List TkV) (op : List (Opn PCall (PAns × Int))) (tc : List TkV) (ov : List (Ovr PCall (PAns × Int))), u8 = .int .i64 (h.d.all.length : Nat) ∧ Hid (SrS w.heap.size wc T R ax h 120 u6 tt op u7 tc ov ∧ SzS op ov 60) ∧ Below w.heap.size w wc) :
  Code.wp Tryz.prog (sqT (sqT (sqT (sqT (sqT (sqT (sqT (Tryz.f3.body.getD .skip)))))))) (bodyPost Tryz.prog Tryz.f3 (fun e w' => e = .returned (.bool true) ∧ Below w.heap.size w w')) ⟨List.toArray (Value.slice A l.length cc :: undef :: u2 :: Value.bool true :: ptrV ax :: Value.nilIface :: u6 :: u7 :: u8 :: u9 :: u10 :: u11 :: u12 :: u13 :: u14 :: u15 :: u16 :: u17 :: u18 :: u19 :: u20 :: u21 :: u22 :: u23 :: undef :: undef :: undef :: undef :: undef :: undef :: undef :: undef :: undef :: undef :: undef :: undef :: Value.bool true :: Value.tuple #[ptrV ax, Value.nilIface] :: Value.tuple #[ptrV ax, Value.nilIface] :: ptrV ax :: Value.nilIface :: Value.nilIface :: Value.bool false :: Value.bool false :: Value.bool true :: Value.bool false :: Value.bool false :: u47 :: u48 :: u49 :: u50 :: u51 :: u52 :: u53 :: u54 :: u55 :: u56 :: u57 :: u58 :: u59 :: u60 :: u61 :: u62 :: u63 :: u64 :: u65 :: u66 :: u67 :: u68 :: u69 :: u70 :: u71 :: u72 :: u73 :: u74 :: u75 :: u76 :: u77 :: u78 :: u79 :: u80 :: u81 :: u82 :: u83 :: u84 :: u85 :: u86 :: u87 :: u88 :: u89 :: u90 :: u91 :: u92 :: u93 :: u94 :: u95 :: u96 :: u97 :: u98 :: u99 :: u100 :: u101 :: u102 :: u103 :: u104 :: u105 :: u106 :: u107 :: u108 :: u109 :: u110 :: u111 :: u112 :: u113 :: u114 :: u115 :: u116 :: u117 :: u118 :: u119 :: u120 :: u121 :: u122 :: u123 :: u124 :: u125 :: u126 :: u127 :: u128 :: u129 :: u130 :: u131 :: u132 :: u133 :: u134 :: u135 :: u136 :: u137 :: u138 :: u139 :: u140 :: u141 :: u142 :: u143 :: u144 :: u145 :: u146 :: u147 :: u148 :: u149 :: u150 :: u151 :: u152 :: u153 :: u154 :: u155 :: u156 :: u157 :: u158 :: u159 :: u160 :: u161 :: u162 :: u163 :: u164 :: u165 :: u166 :: u167 :: u168 :: u169 :: u170 :: u171 :: u172 :: u173 :: u174 :: u175 :: u176 :: u177 :: u178 :: u179 :: u180 :: u181 :: u182 :: u183 :: u184 :: u185 :: u186 :: u187 :: u188 :: u189 :: u190 :: u191 :: u192 :: u193 :: u194 :: u195 :: u196 :: u197 :: u198 :: u199 :: u200 :: u201 :: u202 :: u203 :: u204 :: undef :: undef :: undef :: undef :: undef :: undef :: undef :: undef :: undef :: undef :: undef :: undef :: undef :: undef :: undef :: undef :: undef :: undef :: undef :: undef :: undef :: undef :: undef :: undef :: undef :: undef :: undef :: undef :: undef :: undef :: undef :: undef :: undef :: undef :: undef :: undef :: undef :: undef :: undef :: undef :: undef :: undef :: undef :: undef :: undef :: undef :: undef :: undef :: undef :: undef :: undef :: undef :: undef :: undef :: undef :: undef :: undef :: undef :: undef :: undef :: undef :: undef :: undef :: undef :: undef :: undef :: undef :: undef :: undef :: undef :: undef :: undef :: undef :: undef :: undef :: undef :: undef :: undef :: undef :: undef :: undef :: undef :: undef :: undef :: undef :: undef :: undef :: undef :: undef :: undef :: undef :: undef :: undef :: undef :: []), []⟩ wc := by
 conv => arg 2; whnf
 obtain ⟨h, T, R, tt, op, tc, ov, rfl, HS0, hb⟩ := hcut
 obtain ⟨Ao, co, rfl, _⟩ := own_form HS0.out.1.m.rc
 have HNW := Hd (hallNew_ok 100000 (by decide) wc hb.size (HGV.out.on hb))
 go_wp2_with fail
 refine HNW.out.mono ?_
 rintro e w4 ⟨ay, Ty, rfl, hy, hTy, hb4⟩
 have HA0 := Hd (show Alo w.heap.size wc.heap.size w4 Ty ay (Hl.new 100000) 0 ∧ HAl (Hl.new 100000) 100000 h.d.all (mAt isCh ov 0 0 0) from ⟨⟨hy, hTy, hb4.size⟩, ⟨by rw [mAt_zero]; exact AlG.new (by decide) _, rfl⟩⟩)
 have HB4 := Hd hb4
 have HBC := Hd hb
 have HLC := Hd HS0.out.1.m.lc
 have HNO := Hd (show tc.length ≤ 60 by rw [HLC.out]; exact HS0.out.2.lv)
 have HNA := Hd (show h.d.all.length ≤ 60 from Nat.le_trans HS0.out.1.q.v.len_le HS0.out.2.lv)
 clear HNW hy hTy hb4 hb
 go_wp2
 go_loopw [25] (fun nv wr => ∃ (n : Nat) (h2 : Hl) (T2 : Nat → Prop), nv = .int .i64 n ∧ n ≤ h.d.all.length + 1 ∧ Hid (Alo w.heap.size wc.heap.size wr T2 ay h2 (n * 240) ∧ HAl h2 100000 h.d.all (mAt isCh ov n 0 0)) ∧ Below wc.heap.size wc wr) (fun nv _ => 100 - (intOf nv).toNat)
 case atStart => exact ⟨0, _, _, by go_num, by omega, HA0, HB4.out⟩
 case round =>
  clear HA0 HB4
  obtain ⟨n, h2, T2, rfl, hn, HA, hbr⟩ := hrel
  have hN60 : h.d.all.length ≤ 60 := HNA.out
  by_cases hnl : n < h.d.all.length + 1
  ·have hnI : (n : Int) ≤ (h.d.all.length : Int) := by omega
   go_wp2
   go_loopw [26] (fun tv ws => ∃ (t2 : Nat) (h3 : Hl) (T3 : Nat → Prop), tv = .int .i64 t2 ∧ t2 ≤ 2 ∧ Hid (Alo w.heap.size wc.heap.size ws T3 ay h3 (n * 240 + t2 * 120) ∧ HAl h3 100000 h.d.all (mAt isCh ov n t2 0)) ∧ Below wc.heap.size wc ws) (fun tv _ => 2 - (intOf tv).toNat)
   case atStart => exact ⟨0, h2, T2, by go_num, by omega, Hd ⟨HA.out.1.more (by omega), HA.out.2⟩, hbr⟩
   case round =>
    clear HA hbr
    obtain ⟨t2, h3, T3, rfl, ht2, HA3, hbs⟩ := hrel
    by_cases ht : t2 < 2
    ·have htI : (t2 : Int) < 2 := by omega
     go_wp2
     go_loopw [27] (fun iv wt => ∃ (i : Nat) (h4 : Hl) (T4 : Nat → Prop), iv = .int .i64 i ∧ i ≤ tc.length ∧ Hid (Alo w.heap.size wc.heap.size wt T4 ay h4 (n * 240 + t2 * 120 + i * 2) ∧ HAl h4 100000 h.d.all (mAt isCh ov n t2 i)) ∧ Below wc.heap.size wc wt) (fun iv _ => tc.length - (intOf iv).toNat)
     case atStart => exact ⟨0, h3, T3, by go_num, by omega, Hd ⟨HA3.out.1.more (by omega), HA3.out.2⟩, hbs⟩
     case round =>
      clear HA3 hbs
      obtain ⟨i, h4, T4, rfl, hi, HA4, hbt⟩ := hrel
      by_cases hil : i < tc.length
      ·have hno : tc.length ≤ 60 := HNO.out
       have hio : i < ov.length := by rw [← HLC.out]; exact hil
       have hiI : (i : Int) < (tc.length : Int) := by omega
       have HIO := Hd (And.intro hio trivial)
       obtain ⟨b0, f0, t, rfl, hb0, htt, htk, htn, hcc0⟩ := HS0.out.1.m.rowV hio
       obtain ⟨Ac, kc, At, kt, Ae, ke, hte, _, _⟩ := htk.form
       generalize t.n = tn at hte htn
       subst hte
       subst htn
       have hcc := fun (j : Nat) (u : Value) (hu : (encT ⟨ov[i].who, (ov[i].n : Int), .slice Ac ov[i].cs.length kc, .slice At ov[i].cs.length kt, .slice Ae ov[i].cs.length ke⟩)[j]? = some u) => (hbt.cell (p := ⟨b0, f0 + i * 5 + j, none⟩) hb0).trans (hcc0 j u hu)
       have y0 := hcc 0 _ rfl; have y1 := hcc 1 _ rfl; have y2 := hcc 2 _ rfl; have y3 := hcc 3 _ rfl; have y4 := hcc 4 _ rfl
       rw [Nat.add_zero] at y0
       have HTKC := Hd htk
       have HBT := Hd hbt
       have hb7 := (Below.refl wr.heap.size wr).alloc (Nat.le_refl _) (.cells #[.string ⟨ov[i].who.toArray⟩, .int .i64 (ov[i].n : Int), .slice Ac ov[i].cs.length kc, .slice At ov[i].cs.length kt, .slice Ae ov[i].cs.length ke] 40)
       have hbx := Blk.new wr 40 #[.string ⟨ov[i].who.toArray⟩, .int .i64 (ov[i].n : Int), .slice Ac ov[i].cs.length kc, .slice At ov[i].cs.length kt, .slice Ae ov[i].cs.length ke]
       go_upto_region 69 with fail
       refine wp_name (fun w7 HW => ?_)
       replace hb7 : Below wr.heap.size wr w7 := by rw [HW.out]; exact hb7
       replace hbx : Blk w7 wr.heap.size 40 #[.string ⟨ov[i].who.toArray⟩, .int .i64 (ov[i].n : Int), .slice Ac ov[i].cs.length kc, .slice At ov[i].cs.length kt, .slice Ae ov[i].cs.length ke] := by rw [HW.out]; exact hbx
       obtain ⟨d0, d1, d2, d3, d4⟩ := hbx.cls5
       simp at d0 d1 d2 d3 d4
       have HB7 := Hd hb7
       have HBX7 := Hd hbx
       have HA7 := Hd (show Alo w.heap.size wc.heap.size w7 T4 ay h4 (n * 240 + t2 * 120 + i * 2) ∧ HAl h4 100000 h.d.all (mAt isCh ov n t2 i) from ⟨HA4.out.1.bel hb7, HA4.out.2⟩)
       have HBW := Hd (HBT.out.trans (hb7.mono HBT.out.size))
       have HTK7 := Hd (HTKC.out.bel HBW.out)
       have HNG := Hd (show ¬ T4 wr.heap.size from fun e => Nat.lt_irrefl _ (HA4.out.1.hk.lt _ e))
       have HXL := Hd (show wr.heap.size < w7.heap.size from hbx.lt)
       clear HW hb7 hbx hcc hcc0 htt htk y0 y1 y2 y3 y4 hbt HA4
       generalize wr.heap.size = gx at *
       by_cases hxn : ov[i].n = n
       ·have hnn : ((ov[i].n : Int) != (n : Int)) = false := by simp [hxn]
        have HXN := Hd hxn
        clear hxn
        have HRC := Hd (show Rd w7 w7.heap.size Ac (flatE encCl ov[i].cs) from by
         obtain ⟨A, c, e, r⟩ := own_form HTK7.out.calls.1
         injection e with e
         subst e
         exact r)
        have HRE := Hd (show Rd w7 w7.heap.size Ae ((ov[i].rs.map fun r => decide (r.2 ≠ 0)).map Value.bool) from by
         obtain ⟨A, c, e, r⟩ := own_form HTK7.out.errs.1
         injection e with e
         subst e
         exact r)
        have HLR := Hd (show ov[i].rs.length = ov[i].cs.length from HTK7.out.len)
        have hc60 : ov[i].cs.length ≤ 60 := HS0.out.2.cv _ (List.getElem_mem HIO.out.1)
        have HCH := Hd (changed_any ov[i].who (ov[i].n : Int) (.slice At ov[i].cs.length kt) Ac Ae kc ke ov[i].cs ov[i].rs HLR.out (by omega) w7 HRC.out HRE.out)
        unfold txt at HCH
        go_wp2_with fail
        refine HCH.out.mono ?_
        rintro e w8 ⟨rfl, hb8⟩
        have HB8 := Hd hb8
        have HA8 := Hd (show Alo w.heap.size wc.heap.size w8 T4 ay h4 (n * 240 + t2 * 120 + i * 2) ∧ HAl h4 100000 h.d.all (mAt isCh ov n t2 i) from ⟨HA7.out.1.bel hb8, HA7.out.2⟩)
        have HBX8 := Hd (HBX7.out.below hb8 HXL.out)
        have HW8 := Hd (HBW.out.trans (hb8.mono HBW.out.size))
        have HL8 := Hd (show gx < w8.heap.size from Nat.lt_of_lt_of_le HXL.out hb8.size)
        clear hb8 HCH HRC HRE HA7 HBX7 HTK7 HBW d0 d1 d2 d3 d4
        generalize hch : chgd isCh ov[i].cs ov[i].rs = ch
        by_cases hm : ch = decide (t2 = 0)
        ·have hcc2 : (!(ch == ((t2 : Int) == 0))) = false := by
          have e : ((t2 : Int) == 0) = decide (t2 = 0) := by rcases (show t2 = 0 ∨ t2 = 1 by omega) with q | q <;> rw [q] <;> rfl
          rw [e]; simpa using hm
         obtain ⟨st, hrun, hway⟩ := mAt_do (turn := t2) (n := n) HS0.out.1.q.v HIO.out.1 (show n ≤ h.d.all.length by omega) HXN.out (hch.trans hm)
         have HRUN := Hd hrun
         have HWAY := Hd hway
         have HOP := Hd (HA8.out.2.openK (who := [122]) (by decide) ov[i].cs)
         have HC := Hd (HA8.out.1.hk.open_h (by omega) [122] (by decide))
         clear hm hch hrun hway
         go_wp2_with fail
         refine HC.out.mono ?_
         rintro e w9 ⟨rfl, T9, hs9⟩
         rw [show faultV (h4.open [122]).1 = .nilIface by rw [HOP.out.1]; rfl]
         have HA9 := Hd (show Alo w.heap.size wc.heap.size w9 T9 ay (h4.open [122]).2 (n * 240 + t2 * 120 + i * 2 + 1) ∧ HAk (h4.open [122]).2 h.d.all (mAt isCh ov n t2 i) [122] ov[i].cs 0 ∧ Blk w9 gx 40 #[.string ⟨ov[i].who.toArray⟩, .int .i64 (ov[i].n : Int), .slice Ac ov[i].cs.length kc, .slice At ov[i].cs.length kt, .slice Ae ov[i].cs.length ke] ∧ ¬ T9 gx from
          ⟨(HA8.out.1.step hs9).1, HOP.out.2, HBX8.out.fr hs9.fr HNG.out, fun e => (hs9.new _ e).elim HNG.out (fun e => by have := HL8.out; omega)⟩)
         have HW9 := Hd (HW8.out.trans (HA8.out.1.step hs9).2)
         clear HC hs9 HOP HA8 HBX8 HW8 HNG
         go_wp2
         go_loopw [30] (fun kv wu => ∃ (k : Nat) (h5 : Hl) (T5 : Nat → Prop), kv = .int .i64 k ∧ k ≤ ov[i].cs.length ∧ Hid (Alo w.heap.size wc.heap.size wu T5 ay h5 (n * 240 + t2 * 120 + i * 2 + 1) ∧ HAk h5 h.d.all (mAt isCh ov n t2 i) [122] ov[i].cs k ∧ Blk wu gx 40 #[.string ⟨ov[i].who.toArray⟩, .int .i64 (ov[i].n : Int), .slice Ac ov[i].cs.length kc, .slice At ov[i].cs.length kt, .slice Ae ov[i].cs.length ke] ∧ ¬ T5 gx) ∧ Below wc.heap.size wc wu) (fun kv _ => ov[i].cs.length - (intOf kv).toNat)
         case atStart => exact ⟨0, _, _, by go_num, Nat.zero_le _, HA9, HW9.out⟩
         case round =>
          clear HA9 HW9
          obtain ⟨k, h5, T5, rfl, hk5, HA5, hbu⟩ := hrel
          have hgu := HA5.out.2.2.1.lt
          have d2 := HA5.out.2.2.1.cell 2
          simp at d2
          by_cases hkl : k < ov[i].cs.length
          ·have hkI : (k : Int) < (ov[i].cs.length : Int) := by omega
           have hkr : k < ov[i].rs.length := by rw [HLR.out]; exact hkl
           have hcall := HTKC.out.calls.fr (T := fun _ => False) (w' := wr) ⟨hbu.os, hbu.tape, hbu.output, hbu.size, fun q h1 _ => hbu.block q h1⟩ (fun _ _ q => q)
           obtain ⟨b1, o1, rfl, hb1, hcl⟩ := hcall.at hkl
           have e0 := hcl 0 _ rfl; have e1 := hcl 1 _ rfl; have e2 := hcl 2 _ rfl; have e3 := hcl 3 _ rfl; have e4 := hcl 4 _ rfl; have e5 := hcl 5 _ rfl; have e6 := hcl 6 _ rfl
           rw [Nat.add_zero] at e0
           have HCK := Hd (HTKC.out.ok _ (List.getElem_mem hkl))
           have HAS := Hd (HA5.out.2.1.ask hkl HRUN.out HLR.out)
           have hc5 := HA5.out.1.hk.ask_hE (by omega) [122] (by decide) ov[i].cs[k] HCK.out (an := ov[i].rs[k].1) (fa := ov[i].rs[k].2) HAS.out.1
           unfold CallV at hc5
           unfold AnsV at hc5
           have HC := Hd hc5
           have HBU := Hd hbu
           clear hc5 hcl hcall hbu
           go_wp2_with fail
           refine HC.out.mono ?_
           rintro e wv ⟨v6, rfl, how6, T6, hnt6, hs6⟩
           obtain ⟨A6, c6, rfl, hr6⟩ := how6.form
           have hbx6 := Blk.new wv 46 #[.int .i64 ov[i].rs[k].1.pa, .int .i64 ov[i].rs[k].1.pn, .int .i64 ov[i].rs[k].1.ad, txt ov[i].rs[k].1.owner, .slice A6 ov[i].rs[k].1.list.length c6]
           have hb6 := (Below.refl wv.heap.size wv).alloc (Nat.le_refl _) (.cells #[.int .i64 ov[i].rs[k].1.pa, .int .i64 ov[i].rs[k].1.pn, .int .i64 ov[i].rs[k].1.ad, txt ov[i].rs[k].1.owner, .slice A6 ov[i].rs[k].1.list.length c6] 46)
           go_upto_region 77 with fail
           refine wp_name (fun wa HW => ?_)
           replace hb6 : Below wv.heap.size wv wa := by rw [HW.out]; exact hb6
           replace hbx6 : Blk wa wv.heap.size 46 #[.int .i64 ov[i].rs[k].1.pa, .int .i64 ov[i].rs[k].1.pn, .int .i64 ov[i].rs[k].1.ad, txt ov[i].rs[k].1.owner, .slice A6 ov[i].rs[k].1.list.length c6] := by rw [HW.out]; exact hbx6
           have HA6 := Hd (show Alo w.heap.size wc.heap.size wa T6 ay (h5.ask [122] ov[i].cs[k]).2.2 (n * 240 + t2 * 120 + i * 2 + 1) ∧ HAk (h5.ask [122] ov[i].cs[k]).2.2 h.d.all (mAt isCh ov n t2 i) [122] ov[i].cs (k + 1) ∧ Blk wa gx 40 #[.string ⟨ov[i].who.toArray⟩, .int .i64 (ov[i].n : Int), .slice (some ⟨b1, o1, none⟩) ov[i].cs.length kc, .slice At ov[i].cs.length kt, .slice Ae ov[i].cs.length ke] ∧ ¬ T6 gx from
            ⟨(HA5.out.1.step hs6).1.bel hb6, HAS.out.2, (HA5.out.2.2.1.fr hs6.fr HA5.out.2.2.2).below hb6 (Nat.lt_of_lt_of_le hgu hs6.size), fun e => (hs6.new _ e).elim HA5.out.2.2.2 (fun e => by omega)⟩)
           have hbw := HBU.out.trans ((HA5.out.1.step hs6).2.trans (hb6.mono (HA5.out.1.step hs6).1.le))
           have HBW6 := Hd hbw
           have HMX := Hd (show ov[i].rs[k].1.list.length ≤ maxLen from own_max how6)
           have HR6 := Hd ((hr6.below hb6).more hb6.size)
           have htold : AnssAt wa R (.slice At ov[i].cs.length kt) (ov[i].rs.map Prod.fst) := HTKC.out.told.fr (T := fun _ => False) (w' := wa) ⟨hbw.os, hbw.tape, hbw.output, hbw.size, fun q h1 _ => hbw.block q h1⟩ (fun _ _ q => q)
           have herr : ErrsAt wa R (.slice Ae ov[i].cs.length ke) (eS ov[i].rs) := HTKC.out.errs.fr (T := fun _ => False) (w' := wa) ⟨hbw.os, hbw.tape, hbw.output, hbw.size, fun q h1 _ => hbw.block q h1⟩ (fun _ _ q => q)
           obtain ⟨b2, o2, A7, c7, rfl, hb2, f0', f1', f2', f3', f4', hr7⟩ := htold.at (i := k) (by simpa using hkr)
           obtain ⟨b3, o3, rfl, hb3, g0⟩ := herr.at (i := k) (by simpa using hkr)
           simp only [List.getElem_map] at f0' f1' f2' f3' f4' hr7 g0
           have HR7 := Hd hr7
           have d3 := HA6.out.2.2.1.cell 3
           have d4 := HA6.out.2.2.1.cell 4
           obtain ⟨a0, a1, a2, a3, a4⟩ := hbx6.cls5
           simp at d3 d4 a0 a1 a2 a3 a4
           have HSM := Hd (fun (W : World) (hW : Below wa.heap.size wa W) => answers_same ov[i].rs[k].1 A6 A7 c6 c7 HMX.out W ((HR6.out.below hW).more hW.size) ((HR7.out.below hW).more hW.size))
           have HLG := Hd (show gx < wa.heap.size from HA6.out.2.2.1.lt)
           have HB3 := Hd hb3
           clear HW HC hs6 how6 hnt6 hr6 hr7 hb6 hbx6 hbw htold herr HA5 HBU HAS e0 e1 e2 e3 e4 e5 e6 d2
           unfold AnsV at HSM
           have HKL := Hd (And.intro hkl trivial)
           by_cases hf : ov[i].rs[k].2 = 0
           ·skip
            rw [show faultV ov[i].rs[k].2 = .nilIface by rw [hf]; rfl]
            rw [show decide (ov[i].rs[k].2 ≠ 0) = false by simp [hf]] at g0
            clear hf
            go_wp2_with fail
            go_still_tail 6, (by kernel_rfl)
            go_wp2_with fail
            refine (HSM.out _ ((Below.refl wa.heap.size wa).drew)).mono ?_
            rintro e wb ⟨rfl, hbb⟩
            have hbb : Below wa.heap.size wa wb := ⟨hbb.os, hbb.tape, hbb.output, hbb.size, hbb.block⟩
            have z4 := (HA6.out.2.2.1.below hbb HLG.out).cell 4
            simp at z4
            have z5 := (hbb.cell (p := ⟨b3, o3 + k, none⟩) (HB3.out)).trans g0
            have HAB := Hd (show Alo w.heap.size wc.heap.size wb T6 ay (h5.ask [122] ov[i].cs[k]).2.2 (n * 240 + t2 * 120 + i * 2 + 1) ∧ HAk (h5.ask [122] ov[i].cs[k]).2.2 h.d.all (mAt isCh ov n t2 i) [122] ov[i].cs (k + 1) ∧ Blk wb gx 40 _ ∧ ¬ T6 gx from ⟨HA6.out.1.bel hbb, HA6.out.2.1, HA6.out.2.2.1.below hbb HLG.out, HA6.out.2.2.2⟩)
            have HBB := Hd (HBW6.out.trans (hbb.mono HA6.out.1.le))
            clear hbb g0 d3 d4 a0 a1 a2 a3 a4 f0' f1' f2' f3' f4' HSM HA6 HBW6
            go_upto_region 78 with fail
            go_quiet (fail)
            generalize hWd : World.drewN wb nq = wd
            have hbd : Below wb.heap.size wb wd := by rw [← hWd]; exact ⟨rfl, rfl, rfl, Nat.le_refl _, fun _ _ => rfl⟩
            have HBD := Hd hbd
            clear hWd hbd z4 z5
            go_wp2
            go_roundw
            case rel => exact ⟨k + 1, _, T6, by go_num, by have := HKL.out.1; omega, Hd ⟨HAB.out.1.bel HBD.out, HAB.out.2.1, HAB.out.2.2.1.below HBD.out HAB.out.2.2.1.lt, HAB.out.2.2.2⟩, HBB.out.trans (HBD.out.mono HAB.out.1.le)⟩
            case measure => have := HKL.out.1; simp [intOf]; omega
           ·skip
            have HFV := Hd (fault_num hf)
            rw [HFV.out]
            rw [show decide (ov[i].rs[k].2 ≠ 0) = true by simp [hf]] at g0
            clear hf
            go_wp2_with fail
            go_still_tail 6, (by kernel_rfl)
            go_wp2_with fail
            refine (HSM.out _ ((Below.refl wa.heap.size wa).drew)).mono ?_
            rintro e wb ⟨rfl, hbb⟩
            have hbb : Below wa.heap.size wa wb := ⟨hbb.os, hbb.tape, hbb.output, hbb.size, hbb.block⟩
            have z4 := (HA6.out.2.2.1.below hbb HLG.out).cell 4
            simp at z4
            have z5 := (hbb.cell (p := ⟨b3, o3 + k, none⟩) (HB3.out)).trans g0
            have HAB := Hd (show Alo w.heap.size wc.heap.size wb T6 ay (h5.ask [122] ov[i].cs[k]).2.2 (n * 240 + t2 * 120 + i * 2 + 1) ∧ HAk (h5.ask [122] ov[i].cs[k]).2.2 h.d.all (mAt isCh ov n t2 i) [122] ov[i].cs (k + 1) ∧ Blk wb gx 40 _ ∧ ¬ T6 gx from ⟨HA6.out.1.bel hbb, HA6.out.2.1, HA6.out.2.2.1.below hbb HLG.out, HA6.out.2.2.2⟩)
            have HBB := Hd (HBW6.out.trans (hbb.mono HA6.out.1.le))
            clear hbb g0 d3 d4 a0 a1 a2 a3 a4 f0' f1' f2' f3' f4' HSM HA6 HBW6
            go_upto_region 78 with fail
            go_quiet (fail)
            generalize hWd : World.drewN wb nq = wd
            have hbd : Below wb.heap.size wb wd := by rw [← hWd]; exact ⟨rfl, rfl, rfl, Nat.le_refl _, fun _ _ => rfl⟩
            have HBD := Hd hbd
            clear hWd hbd z4 z5
            go_wp2
            go_roundw
            case rel => exact ⟨k + 1, _, T6, by go_num, by have := HKL.out.1; omega, Hd ⟨HAB.out.1.bel HBD.out, HAB.out.2.1, HAB.out.2.2.1.below HBD.out HAB.out.2.2.1.lt, HAB.out.2.2.2⟩, HBB.out.trans (HBD.out.mono HAB.out.1.le)⟩
            case measure => have := HKL.out.1; simp [intOf]; omega
          ·obtain rfl : k = ov[i].cs.length := by omega
           have hkI : ¬ ((ov[i].cs.length : Int) < (ov[i].cs.length : Int)) := by omega
           have HCL := Hd (HA5.out.2.1.close HRUN.out HS0.out.1.q.s.ok HS0.out.1.q.s.fit HWAY.out)
           have hc5 := HA5.out.1.hk.close_h (by omega) [122] (by decide)
           rw [HCL.out.1, HCL.out.2.1] at hc5
           have HC := Hd hc5
           have HBU := Hd hbu
           clear hc5 hbu
           go_wp2_with fail
           refine HC.out.mono ?_
           rintro e wv ⟨rfl, T6, hs6⟩
           rw [show faultV 0 = .nilIface from rfl]
           have HA6 := Hd (show Alo w.heap.size wc.heap.size wv T6 ay (h5.close [122]).2.2 (n * 240 + t2 * 120 + i * 2 + 1 + 1) ∧ HAl (h5.close [122]).2.2 100000 h.d.all (mAt isCh ov n t2 (i + 1)) from ⟨(HA5.out.1.step hs6).1, HCL.out.2.2⟩)
           have HBV := Hd (HBU.out.trans (HA5.out.1.step hs6).2)
           clear HC hs6 HA5 HBU
           go_wp2
           go_roundw
           case rel => exact ⟨i + 1, _, T6, by go_num, by omega, Hd ⟨HA6.out.1.more (by omega), HA6.out.2⟩, HBV.out⟩
           case measure => simp [intOf]; omega
        ·have hcc2 : (!(ch == ((t2 : Int) == 0))) = true := by
          have e : ((t2 : Int) == 0) = decide (t2 = 0) := by rcases (show t2 = 0 ∨ t2 = 1 by omega) with q | q <;> rw [q] <;> rfl
          rw [e]; simpa using hm
         have HM := Hd (mAt_skip (isC := isCh) (n := n) (turn := t2) HIO.out.1 (fun q => hm (by rw [← hch]; exact q.2)))
         clear hm hch
         go_wp2
         go_roundw
         case rel => exact ⟨i + 1, h4, T4, by go_num, by omega, Hd ⟨HA8.out.1.more (by omega), by rw [HM.out]; exact HA8.out.2⟩, HW8.out⟩
         case measure => simp [intOf]; omega
       ·have hne : ((ov[i].n : Int) != (n : Int)) = true := by simp; omega
        have HM := Hd (mAt_skip (isC := isCh) (n := n) (turn := t2) HIO.out.1 (fun q => hxn q.1))
        clear hxn
        go_wp2
        go_roundw
        case rel => exact ⟨i + 1, h4, T4, by go_num, by omega, Hd ⟨HA7.out.1.more (by omega), by rw [HM.out]; exact HA7.out.2⟩, HBW.out⟩
        case measure => simp [intOf]; omega
      ·obtain rfl : i = tc.length := by omega
       have hiI : ¬ ((tc.length : Int) < (tc.length : Int)) := by omega
       have HM := Hd (show mAt isCh ov n t2 tc.length = mAt isCh ov n (t2 + 1) 0 from by
        rw [HLC.out]
        rcases Nat.eq_zero_or_pos t2 with q | q
        ·rw [q, mAt_turn HS0.out.1.q.v (by omega), mAt_1]
        ·rw [show t2 = 1 by omega, mAt_1]; rfl)
       go_wp2
       go_roundw
       case rel => exact ⟨t2 + 1, h4, T4, by go_num, by omega, Hd ⟨HA4.out.1.more (by have := HNO.out; omega), by rw [← HM.out]; exact HA4.out.2⟩, hbt⟩
       case measure => simp [intOf]; omega
    ·obtain rfl : t2 = 2 := by omega
     go_wp2
     go_roundw
     case rel => exact ⟨n + 1, h3, T3, by go_num, by omega, Hd ⟨HA3.out.1.more (by omega), by rw [mAt_next]; exact HA3.out.2⟩, hbs⟩
     case measure => simp [intOf]; omega
  ·obtain rfl : n = h.d.all.length + 1 := by omega
   have hnI : ¬ (((h.d.all.length + 1 : Nat) : Int) ≤ (h.d.all.length : Int)) := by omega
   have HF := Hd (show HAl h2 100000 h.d.all h.d.all.length from by have := HA.out.2; rwa [mAt_next] at this)
   have HC1 := Hd (HA.out.1.hk.all_h (by omega))
   go_wp2_with fail
   refine HC1.out.mono ?_
   rintro e w5 ⟨v5, L5, rfl, ho5, hr5, hl5, hb5⟩
   obtain ⟨A5, c5, rfl, hd5⟩ := ho5.rd
   have hbr5 := hbr.trans (hb5.mono HA.out.1.le)
   have HC2 := Hd ((HS0.out.1.x.bel hbr5).all_h (by omega))
   have HL5 := Hd (fun L (hL : RangeIs h.d.F [] topKey h.d.last L) => alone_all HS0.out.1.q.s HF.out hL hr5)
   have HB5 := Hd (HBC.out.trans (hbr5.mono HBC.out.size))
   have HD5 := Hd (own_of_base ho5 (Nat.zero_le _) : OwnKV w5 0 (.slice A5 L5.length c5) L5)
   clear HC1 ho5 hr5 hb5 hd5 hbr5
   go_wp2_with fail
   refine HC2.out.mono ?_
   rintro e w6 ⟨v6, L6, rfl, ho6, hr6, hl6, hb6⟩
   obtain ⟨A6, c6, rfl, hd6⟩ := ho6.rd
   obtain rfl := HL5.out L6 hr6
   have HPS := Hd (pairs_same A5 A6 L5 c5 c6 (by unfold maxLen; omega) w6 (rd_of' (own_below HD5.out hb6)) hd6)
   have HB6 := Hd (HB5.out.trans (hb6.mono HB5.out.size))
   clear HC2 ho6 hr6 hb6 hd6 hl5 hl6
   go_wp2_with fail
   refine HPS.out.mono ?_
   rintro e w7 ⟨rfl, hb7⟩
   have HB7 := Hd (HB6.out.trans (hb7.mono HB6.out.size))
   go_wp2
   go_ret
   exact ⟨rfl, HB7.out⟩
theorem topSerial_walk (A : Option Addr) (l : List HStp) (cc : Nat) (hm : l.length ≤ maxLen) (hS : ∀ s ∈ l, HStpOk s) (w : World) (hV : GV w.heap.size w) (hl : Rd w w.heap.size A (cellsH l)) :
  Calls Tryz.prog 3 #[.slice A l.length cc] w fun e w' => e = .returned (.bool true) ∧ Below w.heap.size w w' := by
 have HS := Hd hS
 have HGV := Hd hV
 clear hS hV
 go_enter Tryz.func3, Tryz.ntmps3
 go_wp2_with fail
 refine (one_any w HGV.out).mono ?_
 rintro e w1 ⟨rfl, hb1⟩
 have HNW := Hd (hallNew_ok 100000 (by decide) w1 hb1.size (HGV.out.on hb1))
 have HB1 := Hd hb1
 clear hb1
 go_wp2_with fail
 refine HNW.out.mono ?_
 rintro e w2 ⟨ax, Tx, rfl, hx2, hTx, hb2⟩
 have HB2 := Hd (HB1.out.trans (hb2.mono HB1.out.size))
 have HG2 := Hd (SrS.new hx2)
 clear HNW hx2 hTx hb2 HB1
 go_upto_block 0 with fail
 go_cut [6, 7, 8, 9] (fun v vo tp i wx => ∃ (h : Hl) (T R : Nat → Prop) (tt : List TkV) (op : List (Opn PCall (PAns × Int))) (tc : List TkV) (ov : List (Ovr PCall (PAns × Int))), tp = .int .i64 (h.d.all.length : Nat) ∧ Hid (SrS w.heap.size wx T R ax h 120 v tt op vo tc ov ∧ SzS op ov 60) ∧ Below w.heap.size w wx)
 case first =>
  go_wp2
  go_loopw [6, 7, 8, 9] (fun v vo tp i wr => ∃ (k : Nat) (h : Hl) (T R : Nat → Prop) (tt : List TkV) (op : List (Opn PCall (PAns × Int))) (tc : List TkV) (ov : List (Ovr PCall (PAns × Int))), i = .int .i64 k ∧ tp = .int .i64 (h.d.all.length : Nat) ∧ k ≤ l.length ∧ k ≤ 60 ∧ Hid (SrS w.heap.size wr T R ax h (2 * k) v tt op vo tc ov ∧ SzS op ov k) ∧ Below w.heap.size w wr) (fun _ _ _ i _ => 60 - (intOf i).toNat)
  case atStart => exact ⟨0, _, _, _, _, _, _, _, by go_num, by go_num, by omega, by omega, Hd ⟨HG2.out, SzS.new⟩, HB2.out⟩
  case round =>
   clear HG2 HB2
   obtain ⟨k, h, T, R, tt, op, tc, ov, rfl, rfl, hk1, hk2, HI0, hb⟩ := hrel
   by_cases hgo : k < l.length ∧ k < 60
   ·obtain ⟨hlt1, hlt2⟩ := hgo
    have HKS := Hd (HS.out l[k] (List.getElem_mem _))
    obtain ⟨b0, of0, rfl, hbb0, c0, c1, c2, c3, c4, c5, c6, c7, c8, c9⟩ := (hl.below hb).hstp hlt1
    have hI : (k : Int) < (l.length : Int) := by omega
    have hI3 : (k : Int) < 60 := by omega
    obtain ⟨Av, cv, rfl, _⟩ := own_form HI0.out.1.m.ro
    obtain ⟨Ao, co, rfl, _⟩ := own_form HI0.out.1.m.rc
    have hb5 := hb.alloc hb.size (.cells #[.int .i64 l[k].what, txt l[k].who, .int .i64 l[k].n, .int .i64 l[k].call.what, txt l[k].call.name, .int .i64 l[k].call.pa, .int .i64 l[k].call.pn, .int .i64 l[k].call.len, .int .i64 l[k].call.ad, txt l[k].call.owner] 35)
    have hi5 := HI0.out.1.bel ((Below.refl wr.heap.size wr).alloc (Nat.le_refl _) (.cells #[.int .i64 l[k].what, txt l[k].who, .int .i64 l[k].n, .int .i64 l[k].call.what, txt l[k].call.name, .int .i64 l[k].call.pa, .int .i64 l[k].call.pn, .int .i64 l[k].call.len, .int .i64 l[k].call.ad, txt l[k].call.owner] 35))
    have hbk := Blk.new wr 35 #[.int .i64 l[k].what, txt l[k].who, .int .i64 l[k].n, .int .i64 l[k].call.what, txt l[k].call.name, .int .i64 l[k].call.pa, .int .i64 l[k].call.pn, .int .i64 l[k].call.len, .int .i64 l[k].call.ad, txt l[k].call.owner]
    go_upto_region 11 with fail
    refine wp_name (fun w5 HW => ?_)
    rw [← HW.out] at hb5 hi5 hbk
    have HI5 := Hd hi5
    have HB5 := Hd hb5
    have HBK := Hd hbk
    have HG5 := Hd hbk.lt
    have HLO := Hd hi5.m.lo
    have HLE := Hd HI0.out.2
    have HNT := Hd (show ¬ T wr.heap.size from fun e => Nat.lt_irrefl _ (HI0.out.1.x.lt _ e))
    generalize wr.heap.size = g5 at *
    clear HW hb5 hi5 hbk hb HI0 c0 c1 c2 c3 c4 c5 c6 c7 c8 c9
    go_upto_block 2 with fail
    go_cut [11, 12] (fun kk jj ws => ∃ kv : Int, kk = .int .i64 kv ∧ Hid (Srch op l[k].who op.length kv) ∧ Below w5.heap.size w5 ws)
    case first =>
     go_wp2
     go_loopw [11, 12] (fun kk jj ws => ∃ (j : Nat) (kv : Int), jj = .int .i64 j ∧ kk = .int .i64 kv ∧ j ≤ tt.length ∧ Hid (Srch op l[k].who j kv) ∧ Below w5.heap.size w5 ws) (fun _ j _ => tt.length - (intOf j).toNat)
     case atStart => exact ⟨0, -1, by go_num, rfl, Nat.zero_le _, Hd (Srch.zero _ _), Below.refl _ _⟩
     case round =>
      obtain ⟨j, kv, rfl, rfl, hj, HSC, hbs⟩ := hrel
      have hsz := hbs.size
      have h60 : tt.length ≤ 60 := by have := HLO.out; have := HLE.out.lo; omega
      have x1 := (HBK.out.below hbs HG5.out).cell 1
      simp at x1
      by_cases hjl : j < tt.length
      ·have hjo : j < op.length := by have := HLO.out; omega
       obtain ⟨gv, cv2, hvv, hgv, t, ht, htk, hcc⟩ := (HI5.out.bel hbs).rowO hjo
       cases hvv
       have y0 := hcc 0 _ rfl
       rw [htk.hwho, Nat.add_zero] at y0
       have hJ : (j : Int) < (tt.length : Int) := by omega
       have HHIT := Hd (fun (q : op[j].who = l[k].who) => Srch.hit (op := op) (who := l[k].who) hjo q)
       have HMISS := Hd (fun (q : op[j].who ≠ l[k].who) => HSC.out.miss hjo q)
       generalize op[j].who = wj at *
       clear ht htk hcc hjo HSC
       by_cases e : wj = l[k].who
       ·have HR := Hd (HHIT.out e)
        subst e
        clear HHIT HMISS
        unfold txt at x1 y0
        go_upto_region 15 with fail
        go_quiet (fail)
        generalize hWd : World.drewN wr nq = wd
        have hbd : Below w5.heap.size w5 wd := by rw [← hWd]; exact ⟨hbs.os, hbs.tape, hbs.output, hbs.size, hbs.block⟩
        clear hWd x1 y0
        go_wp2
        go_roundw
        case rel => exact ⟨j + 1, (j : Int), by go_num, rfl, by omega, HR, hbd⟩
        case measure => simp [intOf]; omega
       ·have HR := Hd (HMISS.out e)
        have hne : (wj == l[k].who) = false := by simpa using e
        clear HHIT HMISS e
        unfold txt at x1 y0
        go_upto_region 15 with fail
        go_quiet (fail)
        generalize hWd : World.drewN wr nq = wd
        have hbd : Below w5.heap.size w5 wd := by rw [← hWd]; exact ⟨hbs.os, hbs.tape, hbs.output, hbs.size, hbs.block⟩
        clear hWd x1 y0
        go_wp2
        go_roundw
        case rel => exact ⟨j + 1, kv, by go_num, rfl, by omega, HR, hbd⟩
        case measure => simp [intOf]; omega
      ·obtain rfl : j = tt.length := by omega
       have hJ : ¬ ((tt.length : Int) < (tt.length : Int)) := by omega
       go_wp2
       go_meet
       exact ⟨kv, rfl, Hd (by have := HSC.out; rwa [HLO.out] at this), hbs⟩
    case rest =>
     rename_i hK
     obtain ⟨kv, rfl, HSR, hbs⟩ := hcut
     generalize wc = w6 at *
     have HI := Hd (HI5.out.bel hbs)
     have HB := Hd (HB5.out.trans (hbs.mono HB5.out.size))
     have HBK6 := Hd (HBK.out.below hbs HG5.out)
     clear HBK hbs HG5 HI5 HB5
     refine hK _ _ ?_
     refine ts_turn (Hd ?r1) (Hd ?r2) hlt1 hlt2 HKS HLE HNT HI HB HBK6 HSR
     all_goals
      intro y2 y6 y7 y8 y13 y14 y15 y16 y17 y18 y19 y20 y21 y22 y23 y47 y48 y49 y50 y51 y52 y53 y54 y55 y56 y57 y58 y59 y60 y61 y62 y63 y64 y65 y66 y67 y68 y69 y70 y71 y72 y73 y74 y75 y76 y77 y78 y79 y80 y81 y82 y83 y84 y85 y86 y87 y88 y89 y90 y91 y92 y93 y94 y95 y96 y97 y98 y99 y100 y101 y102 y103 y104 y105 y106 y107 y108 y109 y110 y111 y112 y113 y114 y115 y116 y117 y118 y119 y120 y121 y122 y123 y124 y125 y126 y127 y128 y129 y130 y131 y132 y133 y134 y135 y136 y137 y138 y139 y140 y141 y142 y143 y144 y145 y146 y147 y148 y149 y150 y151 y152 y153 y154 y155 y156 y157 y158 y159 y160 y161 y162 y163 y164 y165 y166 y167 y168 y169 y170 y171 y172 y173 y174 y175 y176 y177 y178 y179 y180 y181 y182 y183 y184 y185 y186 y187 y188 y189 y190 y191 y192 y193 y194 y195 y196 y197 y198 y199 y200 y201 y202 y203 y204 w' hrel
      obtain ⟨h', T', R', tt', op', tc', ov', rfl, HI', hb'⟩ := hrel
      clear hK HI HB HBK6 HSR HLE HNT HKS
      go_wp2
      go_roundw
      case rel => exact ⟨k + 1, h', T', R', tt', op', tc', ov', by go_num, rfl, by omega, by omega, HI', hb'⟩
      case measure => simp [intOf]; omega
   ·by_cases hlt1 : k < l.length
    ·have hI : (k : Int) < (l.length : Int) := by omega
     have hI4 : ¬ (k : Int) < 60 := by omega
     go_wp2
     go_meet
     exact ⟨h, T, R, tt, op, tc, ov, rfl, Hd ⟨HI0.out.1.more (by omega), HI0.out.2.upto hk2⟩, hb⟩
    ·have hI : ¬ (k : Int) < (l.length : Int) := by omega
     go_wp2
     go_meet
     exact ⟨h, T, R, tt, op, tc, ov, rfl, Hd ⟨HI0.out.1.more (by omega), HI0.out.2.upto hk2⟩, hb⟩
 case rest =>
  rename_i hK
  exact hK _ _ (topSerial_rest A l cc w wc HGV ax u2 u6 u7 u8 u9 u10 u11 u12 u13 u14 u15 u16 u17 u18 u19 u20 u21 u22 u23 u47 u48 u49 u50 u51 u52 u53 u54 u55 u56 u57 u58 u59 u60 u61 u62 u63 u64 u65 u66 u67 u68 u69 u70 u71 u72 u73 u74 u75 u76 u77 u78 u79 u80 u81 u82 u83 u84 u85 u86 u87 u88 u89 u90 u91 u92 u93 u94 u95 u96 u97 u98 u99 u100 u101 u102 u103 u104 u105 u106 u107 u108 u109 u110 u111 u112 u113 u114 u115 u116 u117 u118 u119 u120 u121 u122 u123 u124 u125 u126 u127 u128 u129 u130 u131 u132 u133 u134 u135 u136 u137 u138 u139 u140 u141 u142 u143 u144 u145 u146 u147 u148 u149 u150 u151 u152 u153 u154 u155 u156 u157 u158 u159 u160 u161 u162 u163 u164 u165 u166 u167 u168 u169 u170 u171 u172 u173 u174 u175 u176 u177 u178 u179 u180 u181 u182 u183 u184 u185 u186 u187 u188 u189 u190 u191 u192 u193 u194 u195 u196 u197 u198 u199 u200 u201 u202 u203 u204 hcut)
end Go.Proofs.YtkckcbhnnllkhaaGreatDoor
