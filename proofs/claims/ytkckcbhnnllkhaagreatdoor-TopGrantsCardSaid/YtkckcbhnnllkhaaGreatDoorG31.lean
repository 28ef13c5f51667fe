/- Parts of the proof; conditions: as each theorem says. -/
import Derived.Test.YtkckcbhnnllkhaaGreatDoorG30
import Derived.Test.YtkckcbhnnllkhaaGreatDoorG2
import Derived.Shelf.Strings.Repeat
set_option linter.unusedVariables false
set_option linter.unusedSimpArgs false
set_option maxRecDepth 100000
set_option maxHeartbeats 40000000
namespace Go.Proofs.YtkckcbhnnllkhaaGreatDoor
open Go.RowKit
theorem repX:Builder.Extra Tryz.prog layRep_ren where
 sizeBuilder:=by kernel_rfl
 liesBuilder:=by kernel_rfl
 t5:=Tryz.underlying5
 a5:=Tryz.isAgg5
 z5:=Tryz.sizeOf5
 v5:=Tryz.zeroValue5
 infoByte:=by kernel_rfl
 cellsByte:=by kernel_rfl
 sizeByte:=by kernel_rfl
 neB5:=by decide
theorem repeatL_48:∀ c,Lib.repeatL [48] c=List.replicate c 48
 | 0=>rfl
 | c+1=>by rw [List.replicate_succ',← repeatL_48 c,Lib.repeatL_add];rfl
theorem repeat_0 (c:Nat) (hc:c≤8) (w:World):Calls Tryz.prog 48 #[.string ⟨#[48]⟩,.int .i64 (c:Int)] w fun e w'=>e=.returned (txt (List.replicate c 48))∧Below w.heap.size w w':=by
 have h:=Any.strings_Repeat layRep repX (⟨#[48]⟩:ByteArray) c w (by omega) (by show 1 * c≤_;omega)
 have e:Lib.repeatL ((⟨#[48]⟩:ByteArray).data.toList) c=List.replicate c 48:=repeatL_48 c
 rw [e] at h
 exact h
def KeyV (B:Nat) (w:World):Prop:=∀ w':World,Below B w w'→TzV w'
theorem KeyV.on {B:Nat} {w w':World} (h:KeyV B w) (hb:Below B w w'):KeyV B w':=fun w2 h2=>h w2 (hb.trans h2)
theorem KeyV.at {B:Nat} {w:World} (h:KeyV B w) (hB:B≤w.heap.size):∀ w':World,Below w.heap.size w w'→TzV w':=fun w2 h2=>h w2 (h2.mono hB)
theorem hex_any (a:Nat) (ha:a < 4294967296) {B:Nat} (w:World) (hB:B≤w.heap.size) (hK:KeyV B w) :
  Calls Tryz.prog 111 #[.int .i64 (a:Int)] w fun e w'=>e=.returned (txt (hexL 8 a))∧Below w.heap.size w w':=by
 have hl:=hexM_len 7 a (by omega)
 have hp:=hexM_pos a
 have hr:=hexL_hexM 8 a hl
 have HR:=Hd hr
 have HF:=Hd (formatInt_any a ha)
 obtain ⟨c,hc⟩:∃ c,c=8 - (hexM a).length:=⟨_,rfl⟩
 have hc8:(8:Int) - ((hexM a).length:Int)=(c:Int):=by omega
 have hc7:c≤8:=by omega
 have hq:¬ (9223372036854775807 < c+(hexM a).length):=by omega
 have HC:=Hd hc
 have HC8:=Hd hc8
 clear hr hc hc8
 go_enter Tryz.func111,Tryz.ntmps111
 go_wp2_with fail
 refine (HF.out _ (hK.at hB)).mono ?_
 rintro e w1 ⟨rfl,hb1⟩
 go_wp2_with fail
 rw [HC8.out]
 refine (repeat_0 c hc7 _).mono ?_
 rintro e w2 ⟨rfl,hb2⟩
 go_wp2
 go_ret
 refine ⟨?_,hb1.trans (hb2.mono hb1.size)⟩
 show Ending.returned (.string ((⟨(List.replicate c 48).toArray⟩:ByteArray)++⟨(hexM a).toArray⟩))=_
 rw [ByteArray.mk_append_mk,HR.out,HC.out]
theorem netKey_any (net:List UInt8) (hn:net.length≤100) (w:World) :
  Calls Tryz.prog 44 #[txt net] w fun e w'=>e=.returned (txt (nKey net))∧w=w':=by
 have hq:¬ (9223372036854775807 < 2+net.length):=by omega
 go_enter Tryz.func44,Tryz.ntmps44
 go_wp2
 go_ret
 refine ⟨?_,rfl⟩
 show Ending.returned (.string ((⟨[110,47].toArray⟩:ByteArray)++⟨net.toArray⟩))=_
 rw [ByteArray.mk_append_mk]
 rfl
theorem addrKey_any (net:List UInt8) (hn:net.length≤100) (a:Nat) (ha:a < 4294967296) {B:Nat} (w:World) (hB:B≤w.heap.size) (hK:KeyV B w) :
  Calls Tryz.prog 72 #[txt net,.int .i64 (a:Int)] w fun e w'=>e=.returned (txt (aKey net a))∧Below w.heap.size w w':=by
 have hl:=hexL_length 8 a
 have q1:¬ (9223372036854775807 < 2+net.length):=by omega
 have q2:¬ (9223372036854775807 < 2+net.length+1):=by omega
 have q3:¬ (9223372036854775807 < 2+net.length+1+(hexL 8 a).length):=by omega
 have HK:=Hd (show aKey net a=[97,47]++net++[47]++hexL 8 a from rfl)
 have HX:=Hd (hex_any a ha w hB hK)
 clear hl
 generalize hexL 8 a=x at *
 go_enter Tryz.func72,Tryz.ntmps72
 go_wp2_with fail
 refine HX.out.mono ?_
 rintro e w1 ⟨rfl,hb1⟩
 go_wp2
 go_ret
 refine ⟨?_,hb1⟩
 show Ending.returned (.string ((⟨[97,47].toArray⟩:ByteArray)++⟨net.toArray⟩++⟨[47].toArray⟩++⟨x.toArray⟩))=_
 rw [ByteArray.mk_append_mk,ByteArray.mk_append_mk,ByteArray.mk_append_mk,HK.out]
theorem prefixKey_any (net:List UInt8) (hn:net.length≤100) (a n:Nat) (hc:chk (a:Int) (n:Int)=0) {B:Nat} (w:World) (hB:B≤w.heap.size) (hK:KeyV B w) (hV:TxtV B w) :
  Calls Tryz.prog 69 #[txt net,.agg #[.int .i64 (a:Int),.int .i64 (n:Int)]] w fun e w'=>e=.returned (txt (pKey net a n))∧Below w.heap.size w w':=by
 obtain ⟨g1,g2,g3,g4,_⟩:=chk_zero.1 hc
 have ha:a < 4294967296:=by omega
 have hl:=hexL_length 8 a
 have l1:=decDigits_len (u:=n / 10) (by omega)
 have l2:=decDigits_len (u:=n % 10) (by omega)
 have q1:¬ (9223372036854775807 < 2+net.length):=by omega
 have q2:¬ (9223372036854775807 < 2+net.length+1):=by omega
 have q3:¬ (9223372036854775807 < 2+net.length+1+(hexL 8 a).length):=by omega
 have q4:¬ (9223372036854775807 < 2+net.length+1+(hexL 8 a).length+(Lib.decDigits (n / 10)).length):=by omega
 have q5:¬ (9223372036854775807 < 2+net.length+1+(hexL 8 a).length+(Lib.decDigits (n / 10)).length+(Lib.decDigits (n % 10)).length):=by omega
 have HKey:=Hd (show pKey net a n=[112,47]++net++[47]++hexL 8 a++Lib.decDigits (n / 10)++Lib.decDigits (n % 10) from rfl)
 have hS:Below w.heap.size w (w.alloc (.cells #[.int .i64 (a:Int),.int .i64 (n:Int)] 31)):=(Below.refl _ _).alloc (Nat.le_refl _) _
 have d:=Blk.new w 31 #[.int .i64 (a:Int),.int .i64 (n:Int)]
 obtain ⟨k0,k1⟩:=bel2 (B:=w.heap.size+1) ⟨d.two.1,d.two.2.1⟩ (by simp)
 have hKx:∀ x:BelW (w.heap.size+1) (w.alloc (.cells #[.int .i64 (a:Int),.int .i64 (n:Int)] 31)),KeyV B x.1:=fun x=>(hK.on (hS.mono hB)).on (x.2.mono (by omega))
 have hVx:∀ x:BelW (w.heap.size+1) (w.alloc (.cells #[.int .i64 (a:Int),.int .i64 (n:Int)] 31)),TxtV B x.1:=fun x=>(hV.on (hS.mono hB)).on (x.2.mono (by omega))
 have hBx:∀ x:BelW (w.heap.size+1) (w.alloc (.cells #[.int .i64 (a:Int),.int .i64 (n:Int)] 31)),B≤x.1.heap.size:=fun x=>by have:=x.2.size;simp at this;omega
 have HX:=Hd (fun (w':World) (h1:B≤w'.heap.size) h2=>hex_any a ha w' h1 h2)
 have HI:=Hd (fun (w':World) (h1:B≤w'.heap.size) h2=>itoaN_any (n / 10) (by omega) w' h1 h2)
 have HJ:=Hd (fun (w':World) (h1:B≤w'.heap.size) h2=>itoaN_any (n % 10) (by omega) w' h1 h2)
 have e1:((n:Int) / 10)=((n / 10:Nat):Int):=by omega
 have e2:((n:Int) % 10)=((n % 10:Nat):Int):=by omega
 rw [← e1] at HI
 rw [← e2] at HJ
 clear hl l1 l2 d e1 e2 hc
 generalize hexL 8 a=x at *
 generalize Lib.decDigits (n / 10)=y at *
 generalize Lib.decDigits (n % 10)=z at *
 go_enter Tryz.func69,Tryz.ntmps69
 go_wp2_with fail
 refine wp_region_bel (w.heap.size+1) _ (by kernel_rfl) (by kernel_rfl) (Below.refl _ _) ?_
 repeat (go_big_quiet_step (first | (go_at_call 111;exact Calls.bel_of (v:=.string ⟨x.toArray⟩) (by simp) (HX.out _ (hBx _) (hKx _))) | (go_at_call 112;exact Calls.bel_of (v:=.string ⟨y.toArray⟩) (by simp) (HI.out _ (hBx _) (hVx _))) | (go_at_call 112;exact Calls.bel_of (v:=.string ⟨z.toArray⟩) (by simp) (HJ.out _ (hBx _) (hVx _)))))
 refine wpQuiet_nil ?_
 intro w2 hb2
 clear k0 k1 hVx hBx hKx
 go_wp2
 go_ret
 refine ⟨?_,hS.trans (hb2.mono (by omega))⟩
 show Ending.returned (.string ((⟨[112,47].toArray⟩:ByteArray)++⟨net.toArray⟩++⟨[47].toArray⟩++⟨x.toArray⟩++⟨y.toArray⟩++⟨z.toArray⟩))=_
 rw [ByteArray.mk_append_mk,ByteArray.mk_append_mk,ByteArray.mk_append_mk,ByteArray.mk_append_mk,ByteArray.mk_append_mk,HKey.out]
end Go.Proofs.YtkckcbhnnllkhaaGreatDoor
