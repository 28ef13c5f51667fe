/- Parts of the proof; conditions: as each theorem says. -/
import Derived.Test.YtkckcbhnnllkhaaGreatDoorG18
import Derived.Deep.RegionLaw
import Derived.Test.YtkckcbhnnllkhaaGreatDoorG11
set_option linter.unusedVariables false
set_option linter.unusedSimpArgs false
set_option maxRecDepth 100000
set_option maxHeartbeats 40000000
namespace Go.Proofs.YtkckcbhnnllkhaaGreatDoor
open Go.RowKit
attribute [local go_sem ↓] Go.wp_at_zero Go.wp_at_succ
theorem own_off {w:World} {base size n g i:Nat} {e:TypeId} {v u:Value} {xs:List Value} (h:w.ownsRow base e size v n xs) (hv:some g≠v.ownBlock):(w.setCell ⟨g,i,none⟩ u).ownsRow base e size v n xs:=by
 refine h.kept (row:=some g) ⟨rfl,rfl,rfl,by simp,fun k hk hne=>?_⟩ (.inr fun h=>hv h.symm)
 simp [World.setCell,Array.getElem?_modify]
 intro h;exact absurd (by rw [h]) hne
theorem own_built2 (w:World) (e:TypeId) (u u':Value) {base:Nat} (hb:base≤w.heap.size):(w.alloc (.cells #[u,u'] e)).ownsRow base e 1 (.slice (some ⟨w.heap.size,0,none⟩) 2 2) 2 [u,u'] :=
 ⟨rfl,.inr ⟨w.heap.size,2,#[u,u'],rfl,hb,heap_alloc_new w _,Nat.le_refl _,by simp [maxLen],rfl,rfl⟩⟩
section
variable {P : Program} {w : World}
theorem run_append_bytes (t ty e:TypeId) (ht:P.underlying t=some (.slice e)) (hinfo:(P.info? e).map (fun i=>(i.zero,i.size,i.bytes))=some (some (.int .u8 0),1,1))
  (base:Nat) (v:Value) (n:Nat) (xs:List Value) (hown:w.ownsRow base e 1 v n xs) (B:Nat) (A:Option Addr) (m c:Nat) (l:List UInt8) (hl:l≠[]) (hm:m=l.length) (hr:Rd w B A (bytesV l)) (hlen:n+l.length < 10000000000) (hbase:base≤w.heap.size) :
  ∃ v' w',(Builtin.append_ #[t,t] ty #[v,.slice A m c]).run P w=.ok v' w'∧w'.ownsRow base e 1 v' (n+l.length) (xs++bytesV l)∧w.grownBy w' v.ownBlock∧(v'.ownBlock=v.ownBlock∨v'.ownBlock=some w.heap.size):=by
 obtain ⟨i0,hi0,hz0,hz1,hz2⟩:=info_parts hinfo
 subst hm
 obtain ⟨b,off,rfl,hb,hc⟩:=hr (fun h=>hl (bytesV_nil h))
 obtain ⟨v',w',hr,g1,g2,_,g4⟩:=run_append_own_at (P:=P) w base t ty e i0 _ 1 1 ht hi0 hz0 hz1 hz2 rfl (by decide) v n xs hown ⟨b,off,none⟩ l.length c (bytesV l) (by rw [bytesV_length];omega) (fun j u hu=>by
  have:=hc j u hu
  rwa [show ((⟨b,off,none⟩:Addr).add j)=⟨b,off+j,none⟩ by unfold Addr.add;split <;> simp_all]) (bytesV_one l) (by unfold maxLen;omega) (by omega) hbase
 exact ⟨v',w',hr,g1,g2,g4⟩
theorem wpList_append_bytes {ops:Array Oper} {rest:List Oper} {o:Oper} {a:Act} {Q:Exit→Act→World→Prop} (hgd:o.guard=none) (s x:Operand) (t:TypeId)
  (ho:o.op=.call { callee:=.builtin .append,args:=#[s,x],argTypes:=#[t,t] }) (e:TypeId) (ht:P.underlying t=some (.slice e)) (hinfo:(P.info? e).map (fun i=>(i.zero,i.size,i.bytes))=some (some (.int .u8 0),1,1))
  (base:Nat) (v:Value) (n:Nat) (xs:List Value) (hs:a.eval s=v) (hown:w.ownsRow base e 1 v n xs) (B:Nat) (A:Option Addr) (m c:Nat) (l:List UInt8) (hx:a.eval x=.slice A m c) (hl:l≠[]) (hm:m=l.length) (hr:Rd w B A (bytesV l)) (hlen:n+l.length < 10000000000) (hbase:base≤w.heap.size)
  (h:∀ v' w',w'.ownsRow base e 1 v' (n+l.length) (xs++bytesV l)→w.grownBy w' v.ownBlock→(v'.ownBlock=v.ownBlock∨v'.ownBlock=some w.heap.size)→wpList P ops Q rest (a.put o.dst v') w'):wpList P ops Q (o::rest) a w:=by
 refine wpList_plain hgd fun K hK=>?_
 obtain ⟨v',w',hr,g1,g2,g3⟩:=run_append_bytes (P:=P) t o.type e ht hinfo base v n xs hown B A m c l hl hm hr hlen hbase
 unfold Oper.wp execOp
 simp only [ho,resolve,invoke,builtin,Sem.run_bind,Sem.run_pure,Result.andThen_ok,List.map_toArray,List.map_cons,List.map_nil,hs,hx,hr]
 exact hK _ _ (h v' w' g1 g2 g3)
theorem step_append_bytes {ops:Array Oper} {o:Oper} {a:Act} {K:Act→World→Prop} {Q:Exit→Act→World→Prop} {E:Prop} (hgd:o.guard=none) (s x:Operand) (t:TypeId)
  (ho:o.op=.call { callee:=.builtin .append,args:=#[s,x],argTypes:=#[t,t] }) (e:TypeId) (ht:P.underlying t=some (.slice e)) (hinfo:(P.info? e).map (fun i=>(i.zero,i.size,i.bytes))=some (some (.int .u8 0),1,1))
  (base:Nat) (v:Value) (n:Nat) (xs:List Value) (hs:a.eval s=v) (hown:w.ownsRow base e 1 v n xs) (B:Nat) (A:Option Addr) (m c:Nat) (l:List UInt8) (hx:a.eval x=.slice A m c) (hl:l≠[]) (hm:m=l.length) (hr:Rd w B A (bytesV l)) (hlen:n+l.length < 10000000000) (hbase:base≤w.heap.size)
  (h:∀ v' w',w'.ownsRow base e 1 v' (n+l.length) (xs++bytesV l)→w.grownBy w' v.ownBlock→(v'.ownBlock=v.ownBlock∨v'.ownBlock=some w.heap.size)→K (a.put o.dst v') w') :
  if Region.wanted o (yielded ops a.tmps)=true then Oper.wp P o a w K Q else E:=by
 have hw:Region.wanted o (yielded ops a.tmps)=true:=by simp [Region.wanted,hgd]
 rw [if_pos hw]
 obtain ⟨v',w',hr,g1,g2,g3⟩:=run_append_bytes (P:=P) t o.type e ht hinfo base v n xs hown B A m c l hl hm hr hlen hbase
 unfold Oper.wp execOp
 simp only [ho,resolve,invoke,builtin,Sem.run_bind,Sem.run_pure,Result.andThen_ok,List.map_toArray,List.map_cons,List.map_nil,hs,hx,hr]
 exact h v' w' g1 g2 g3
end
theorem i64_small {n:Nat} (h:n < 1000000):IntKind.i64.wrap (n:Int)=(n:Int):=by
 have e:IntKind.i64.wrap (n:Int)=wrap64 (n:Int):=by first | rfl | simp [wrap64,IntKind.wrap_i64]
 rw [e]
 unfold wrap64
 omega
theorem frame_cells (l:List Chg) (h:(encL l).length≤761):2+(encL l).length=(frame l).length∧([.int .u8 (((encL l).length:Int) / 256),.int .u8 (((encL l).length:Int) % 256)]:List Value)++bytesV (encL l)=bytesV (frame l):=by
 refine ⟨(frame_length l).symm,?_⟩
 have h1:(UInt8.ofNat ((encL l).length / 256)).toNat=(encL l).length / 256:=toNat_of (by omega)
 have h2:(UInt8.ofNat (encL l).length).toNat=(encL l).length % 256:=by simp [UInt8.toNat_ofNat]
 simp only [frame,bytesV,List.map_cons,h1,h2]
 rfl
section
variable {w : World} {b0 g : Nat} {v : Value} {left room : Int} {down : Bool} {B : List UInt8} {safe : Nat}
theorem LogAt.append_bad (h:LogAt w b0 g v left down room B safe) (A:Option Addr) (l:List Chg) (c:Nat) (hm:l.length≤maxLen) (hS:Small l) (hf:chgFault l≠0) (hl:Rd w w.heap.size A (cellsC l)) :
  Calls Tryz.prog 39 #[.pointer (some ⟨g,0,none⟩),.slice A l.length c] w fun e w'=>e=.returned (.iface 71 (.int .i64 (chgFault l)))∧Below w.heap.size w w':=by
 go_enter Tryz.func39,Tryz.ntmps39
 go_wp2_with fail
 refine (encode_bad A l c hm hS hf w hl).mono ?_
 rintro e w1 ⟨rfl,hb1⟩
 go_wp2
 go_ret
 exact ⟨rfl,hb1⟩
theorem LogAt.append_full (h:LogAt w b0 g v left down room B safe) (A:Option Addr) (l:List Chg) (c:Nat) (hm:l.length≤maxLen) (hS:Small l) (hf:chgFault l=0) (hl:Rd w w.heap.size A (cellsC l))
  (hr:room < (B.length:Int)+2+((encL l).length:Int)) :
  Calls Tryz.prog 39 #[.pointer (some ⟨g,0,none⟩),.slice A l.length c] w fun e w'=>e=.returned (.iface 71 (.int .i64 3))∧Below w.heap.size w w':=by
 have hel:=encL_length hf
 obtain ⟨A0,c0,rfl,_⟩:=own_form h.ho
 have hBl:(B.length:Int)≤100000:=by have:=h.hr;omega
 have hrd:decide (room < (B.length:Int)+2+((encL l).length:Int))=true:=decide_eq_true hr
 have H:=Hd h
 clear h hr
 go_enter Tryz.func39,Tryz.ntmps39
 go_wp2_with fail
 refine (encode_ok A l c hm hS hf w hl).mono ?_
 rintro e w1 ⟨v1,rfl,ho1,hb1⟩
 obtain ⟨A1,c1,rfl,_⟩:=own_form ho1
 have hs1:=hb1.size
 have h1:=H.out.below hb1
 obtain ⟨⟨x0,x1,x2,x3,x4⟩,_⟩:=h1.cells
 have hgl:=h1.hB.lt
 have k2:∀ x:BelW w1.heap.size w1,x.1.cell? ⟨g,2,none⟩=some (.int .i64 room):=BelW.cell x2 hgl
 have k3:∀ x:BelW w1.heap.size w1,x.1.cell? ⟨g,3,none⟩=some (.slice A0 B.length c0):=BelW.cell x3 hgl
 clear h1 ho1
 go_wp2_with fail
 refine wp_region_bel w1.heap.size w1 (by kernel_rfl) (by kernel_rfl) (Below.refl _ _) ?_
 repeat (go_big_quiet_step (fail))
 refine wpQuiet_nil ?_
 intro w2 hb2
 clear k2 k3
 have y1:=(hb2.cell (p:=⟨g,1,none⟩) hgl).trans x1
 go_wp2
 go_ret
 exact ⟨rfl,hb1.trans (hb2.mono hs1)⟩
theorem LogAt.append_down (h:LogAt w b0 g v left true room B safe) (A:Option Addr) (l:List Chg) (c:Nat) (hm:l.length≤maxLen) (hS:Small l) (hf:chgFault l=0) (hl:Rd w w.heap.size A (cellsC l))
  (hr:¬ room < (B.length:Int)+2+((encL l).length:Int)) :
  Calls Tryz.prog 39 #[.pointer (some ⟨g,0,none⟩),.slice A l.length c] w fun e w'=>e=.returned (.iface 71 (.int .i64 8))∧Below w.heap.size w w':=by
 have hel:=encL_length hf
 obtain ⟨A0,c0,rfl,_⟩:=own_form h.ho
 have hBl:(B.length:Int)≤100000:=by have:=h.hr;omega
 have hrd:decide (room < (B.length:Int)+2+((encL l).length:Int))=false:=decide_eq_false hr
 have H:=Hd h
 clear h hr
 go_enter Tryz.func39,Tryz.ntmps39
 go_wp2_with fail
 refine (encode_ok A l c hm hS hf w hl).mono ?_
 rintro e w1 ⟨v1,rfl,ho1,hb1⟩
 obtain ⟨A1,c1,rfl,_⟩:=own_form ho1
 have hs1:=hb1.size
 have h1:=H.out.below hb1
 obtain ⟨⟨x0,x1,x2,x3,x4⟩,_⟩:=h1.cells
 have hgl:=h1.hB.lt
 have k2:∀ x:BelW w1.heap.size w1,x.1.cell? ⟨g,2,none⟩=some (.int .i64 room):=BelW.cell x2 hgl
 have k3:∀ x:BelW w1.heap.size w1,x.1.cell? ⟨g,3,none⟩=some (.slice A0 B.length c0):=BelW.cell x3 hgl
 clear h1 ho1
 go_wp2_with fail
 refine wp_region_bel w1.heap.size w1 (by kernel_rfl) (by kernel_rfl) (Below.refl _ _) ?_
 repeat (go_big_quiet_step (fail))
 refine wpQuiet_nil ?_
 intro w2 hb2
 clear k2 k3
 have y1:=(hb2.cell (p:=⟨g,1,none⟩) hgl).trans x1
 go_wp2
 go_ret
 exact ⟨rfl,hb1.trans (hb2.mono hs1)⟩
theorem LogAt.append_on (h:LogAt w b0 g v left false room B safe) (A:Option Addr) (l:List Chg) (c:Nat) (hm:l.length≤maxLen) (hS:Small l) (hf:chgFault l=0) (hl:Rd w w.heap.size A (cellsC l))
  (hr:¬ room < (B.length:Int)+2+((encL l).length:Int)) (h0:left≠0) :
  Calls Tryz.prog 39 #[.pointer (some ⟨g,0,none⟩),.slice A l.length c] w fun e w'=>e=.returned .nilIface∧LogTo w b0 g v (leftS left) false room (B++frame l) safe w':=by
 have hel:=encL_length hf
 obtain ⟨A0,c0,rfl,_⟩:=own_form h.ho
 have hBl:(B.length:Int)≤100000:=by have:=h.hr;omega
 have hrd:decide (room < (B.length:Int)+2+((encL l).length:Int))=false:=decide_eq_false hr
 have HR:=Hd hr
 have H:=Hd h
 have hne0:(left != 0)=true:=by simpa using h0
 have hne1:(left == 0)=false:=by simpa using h0
 have H0:=Hd h0
 clear h h0 hr
 go_enter Tryz.func39,Tryz.ntmps39
 go_wp2_with fail
 refine (encode_ok A l c hm hS hf w hl).mono ?_
 rintro e w1 ⟨v1,rfl,ho1,hb1⟩
 obtain ⟨A1,c1,rfl,hr1⟩:=own_form ho1
 have hs1:=hb1.size
 have h1:=H.out.below hb1
 obtain ⟨⟨x0,x1,x2,x3,x4⟩,_⟩:=h1.cells
 have hgl:=h1.hB.lt
 have k2:∀ x:BelW w1.heap.size w1,x.1.cell? ⟨g,2,none⟩=some (.int .i64 room):=BelW.cell x2 hgl
 have k3:∀ x:BelW w1.heap.size w1,x.1.cell? ⟨g,3,none⟩=some (.slice A0 B.length c0):=BelW.cell x3 hgl
 clear ho1
 go_wp2_with fail
 refine wp_region_bel w1.heap.size w1 (by kernel_rfl) (by kernel_rfl) (Below.refl _ _) ?_
 repeat (go_big_quiet_step (fail))
 refine wpQuiet_nil ?_
 intro w2 hb2
 clear k2 k3
 have h2:=h1.below hb2
 have hbw2:=hb1.trans (hb2.mono hs1)
 have hs2:=hbw2.size
 have y1:=(hb2.cell (p:=⟨g,1,none⟩) hgl).trans x1
 have hr2:=(hr1.below hb2).more hb2.size
 clear h1 x0 x1 x2 x3 x4 hb1 hb2 hr1
 have hen:encL l≠[]:=by simp [encL]
 go_wp2_with (at_builtin;refine wpList_append_bytes rfl _ _ 101 rfl 5 Tryz.underlying101 infoU8 w.heap.size _ 2 _ rfl (own_built2 w2 5 (.int .u8 (((encL l).length:Int) / 256)) (.int .u8 (((encL l).length:Int) % 256)) hs2) w2.heap.size A1 (encL l).length c1 (encL l) rfl hen rfl (hr2.alloc (Nat.le_refl _) _) (by omega) (by simp;omega) ?_;intro v3 w3 hown3 hgrow3 hat3)
 have hb23:Below w2.heap.size w2 w3:=((Below.refl w2.heap.size w2).alloc (Nat.le_refl _) _).grown hgrow3 (by simp) (fun k hk=>Nat.le_of_eq (Option.some.inj hk))
 have h3:=h2.below hb23
 have hbw3:=hbw2.trans (hb23.mono hs2)
 have hs3:=hbw3.size
 obtain ⟨hf1,hf2⟩:=frame_cells l hel.2
 rw [hf1,hf2] at hown3
 clear hgrow3 hat3 hb23 h2
 refine (step_any g left false _ _ _ h3.hl w3 h3.hB).mono ?_
 rintro e w4 ⟨rfl,hB4,hk4⟩
 rw [hne1] at hB4
 have hown4:=own_LK hown3 hk4 (own_blk hown3 h3.hB (by decide)) (fun k hk e=>by simp [Value.ownBlock] at e)
 obtain ⟨A4,c4,rfl,hc4,hr4⟩:=own_form2 hown4
 have h4:=h3.write (left':=leftS left) (down':=false) (safe':=safe) hk4 hB4 (leftS_range h3.hl H0.out) h3.hs
 have K2:LK w w4 g (.slice A0 B.length c0):=(LK.of_below hbw3).trans hk4.of_nil (Fresh.refl _ _)
 obtain ⟨⟨_,y1,_,y3,_⟩,_⟩:=h4.cells
 have hs4:=h4.hb
 have hsz4:=hk4.size
 have HF:=Hd (frame_length l)
 have hfne:frame l≠[]:=by simp [frame]
 clear hown3 hown4 h3 hk4 hr2
 go_wp2_with (at_builtin;refine wpList_append_bytes rfl _ _ 101 rfl 5 Tryz.underlying101 infoU8 b0 (.slice A0 B.length c0) B.length _ rfl h4.ho w4.heap.size A4 (frame l).length c4 (frame l) rfl hfne rfl hr4 (by have:=HF.out;omega) hs4 ?_;intro v5 w5 hown5 hgrow5 hat5;obtain ⟨A5,c5,rfl,hfm5⟩:=own_form hown5;clear hfm5;have hB5:=h4.hB.grown hgrow5 h4.ne;have z3:=hB5.frozen 3;have zc3:w5.cell? ⟨g,3,none⟩=some (.slice A0 B.length c0):=hB5.cell 3)
 go_ret
 refine ⟨rfl,_,⟨hB5.setCell 3 _,h4.hg,?_,leftS_range H.out.hl H0.out,⟨H.out.hr.1,H.out.hr.2.1,?_⟩,?_,?_⟩,?_,?_⟩
 ·rw [List.length_append,bytesV_append]
  exact own_off hown5 (own_blk hown5 hB5 (by decide))
 ·have:=HF.out;have:=HR.out;rw [List.length_append];omega
 ·have:=H.out.hs;rw [List.length_append];omega
 ·have:=hgrow5.size;simp;omega
 ·exact (K2.trans (LK.of_grown hgrow5) (Fresh.refl _ _)).setCell 3 _
 ·intro k hk hlt
  rcases hat5 with h | h
  ·rw [← h];exact hk
  ·rw [h] at hk;injection hk with hk;omega
theorem LogAt.append_off (h:LogAt w b0 g v 0 false room B safe) (A:Option Addr) (l:List Chg) (c:Nat) (hm:l.length≤maxLen) (hS:Small l) (hf:chgFault l=0) (hl:Rd w w.heap.size A (cellsC l))
  (hr:¬ room < (B.length:Int)+2+((encL l).length:Int)) :
  Calls Tryz.prog 39 #[.pointer (some ⟨g,0,none⟩),.slice A l.length c] w fun e w'=>e=.returned (.iface 71 (.int .i64 8))∧LogTo w b0 g v (-1) true room (B++(frame l).take ((frame l).length / 2)) safe w':=by
 have hel:=encL_length hf
 obtain ⟨A0,c0,rfl,_⟩:=own_form h.ho
 have hBl:(B.length:Int)≤100000:=by have:=h.hr;omega
 have hrd:decide (room < (B.length:Int)+2+((encL l).length:Int))=false:=decide_eq_false hr
 have HR:=Hd hr
 have H:=Hd h
 clear h hr
 go_enter Tryz.func39,Tryz.ntmps39
 go_wp2_with fail
 refine (encode_ok A l c hm hS hf w hl).mono ?_
 rintro e w1 ⟨v1,rfl,ho1,hb1⟩
 obtain ⟨A1,c1,rfl,hr1⟩:=own_form ho1
 have hs1:=hb1.size
 have h1:=H.out.below hb1
 obtain ⟨⟨x0,x1,x2,x3,x4⟩,_⟩:=h1.cells
 have hgl:=h1.hB.lt
 have k2:∀ x:BelW w1.heap.size w1,x.1.cell? ⟨g,2,none⟩=some (.int .i64 room):=BelW.cell x2 hgl
 have k3:∀ x:BelW w1.heap.size w1,x.1.cell? ⟨g,3,none⟩=some (.slice A0 B.length c0):=BelW.cell x3 hgl
 clear ho1
 go_wp2_with fail
 refine wp_region_bel w1.heap.size w1 (by kernel_rfl) (by kernel_rfl) (Below.refl _ _) ?_
 repeat (go_big_quiet_step (fail))
 refine wpQuiet_nil ?_
 intro w2 hb2
 clear k2 k3
 have h2:=h1.below hb2
 have hbw2:=hb1.trans (hb2.mono hs1)
 have hs2:=hbw2.size
 have y1:=(hb2.cell (p:=⟨g,1,none⟩) hgl).trans x1
 have hr2:=(hr1.below hb2).more hb2.size
 clear h1 x0 x1 x2 x3 x4 hb1 hb2 hr1
 have hen:encL l≠[]:=by simp [encL]
 go_wp2_with (at_builtin;refine wpList_append_bytes rfl _ _ 101 rfl 5 Tryz.underlying101 infoU8 w.heap.size _ 2 _ rfl (own_built2 w2 5 (.int .u8 (((encL l).length:Int) / 256)) (.int .u8 (((encL l).length:Int) % 256)) hs2) w2.heap.size A1 (encL l).length c1 (encL l) rfl hen rfl (hr2.alloc (Nat.le_refl _) _) (by omega) (by simp;omega) ?_;intro v3 w3 hown3 hgrow3 hat3)
 have hb23:Below w2.heap.size w2 w3:=((Below.refl w2.heap.size w2).alloc (Nat.le_refl _) _).grown hgrow3 (by simp) (fun k hk=>Nat.le_of_eq (Option.some.inj hk))
 have h3:=h2.below hb23
 have hbw3:=hbw2.trans (hb23.mono hs2)
 have hs3:=hbw3.size
 obtain ⟨hf1,hf2⟩:=frame_cells l hel.2
 rw [hf1,hf2] at hown3
 clear hgrow3 hat3 hb23 h2
 refine (step_any g 0 false _ _ _ h3.hl w3 h3.hB).mono ?_
 rintro e w4 ⟨rfl,hB4,hk4⟩
 have hB4':Blk w4 g 145 #[.int .i64 (-1),.bool true,.int .i64 room,.slice A0 B.length c0,.int .i64 safe]:=hB4
 have hown4:=own_LK hown3 hk4 (own_blk hown3 h3.hB (by decide)) (fun k hk e=>by simp [Value.ownBlock] at e)
 obtain ⟨A4,c4,rfl,hc4,hr4⟩:=own_form2 hown4
 have h4:=h3.write (left':=-1) (down':=true) (safe':=safe) hk4 hB4' (by omega) h3.hs
 have K2:LK w w4 g (.slice A0 B.length c0):=(LK.of_below hbw3).trans hk4.of_nil (Fresh.refl _ _)
 obtain ⟨⟨_,y1,_,y3,_⟩,_⟩:=h4.cells
 have hs4:=h4.hb
 have hsz4:=hk4.size
 have HF:=Hd (frame_length l)
 have hne:=h4.ne
 have hgl4:=h4.hB.lt
 clear hown3 hown4 h3 hk4 hr2 hB4 hB4'
 obtain ⟨half,hhalf⟩:∃ half,half=(frame l).length / 2:=⟨_,rfl⟩
 have HFT:=Hd (show ((frame l).take half).length=half by simp;omega)
 have HFN:=Hd (show (frame l).take half≠[] by intro e;have h5:=congrArg List.length e;rw [HFT.out] at h5;have h6:=HF.out;simp only [List.length_nil] at h5;omega)
 have hq1:((frame l).length:Int).tdiv 2=(half:Int):=by rw [hhalf];rfl
 have hq4:((frame l).length:Int) / 2=(half:Int):=by omega
 have hq5:IntKind.i64.wrap (half:Int)=(half:Int):=by have:=HF.out;exact i64_small (by omega)
 have hq2:(0:Int)≤(half:Int):=by omega
 have hq3:(half:Int)≤(c4:Int):=by omega
 have hq6:half≤(frame l).length:=by omega
 have HHALF:=Hd hhalf
 have HOD:Hid (w4.drew.ownsRow b0 5 1 (.slice A0 B.length c0) B.length (bytesV B)):=Hd h4.ho.drew
 have HRD:Hid (Rd w4.drew w4.heap.size A4 (bytesV ((frame l).take half))):=Hd ((hr4.bytesTake half).keep fun p _=>by simp)
 clear hhalf
 go_wp2_with fail
 go_region_law ((refine step_append_bytes (by rfl) _ _ 101 (by rfl) 5 Tryz.underlying101 infoU8 b0 (.slice A0 B.length c0) B.length _ (by rfl) HOD.out w4.heap.size A4 half c4 ((frame l).take half) (by rfl) HFN.out HFT.out.symm HRD.out (by rw [HFT.out];omega) hs4 ?_;intro v5 w5 hown5 hgrow5 hat5;obtain ⟨A5,c5,rfl,hfm5⟩:=own_form hown5;clear hfm5;have hgrow6:w4.grownBy w5 (Value.slice A0 B.length c0).ownBlock:=⟨hgrow5.os,hgrow5.tape,hgrow5.output,hgrow5.size,hgrow5.block⟩;have hB5:=h4.hB.grown hgrow6 hne;have z3:=hB5.frozen 3;have zc3:w5.cell? ⟨g,3,none⟩=some (.slice A0 B.length c0):=hB5.cell 3))
 go_wp2_with fail
 go_ret
 rw [← HHALF.out]
 rw [HFT.out] at hown5 hat5
 refine ⟨rfl,_,⟨hB5.setCell 3 _,h4.hg,?_,by omega,⟨H.out.hr.1,H.out.hr.2.1,?_⟩,?_,?_⟩,?_,?_⟩
 ·rw [List.length_append,bytesV_append,HFT.out]
  exact own_off hown5 (own_blk hown5 hB5 (by decide))
 ·have:=HF.out;have:=HR.out;rw [List.length_append,HFT.out];omega
 ·have:=H.out.hs;rw [List.length_append];omega
 ·have:=hgrow6.size;simp;omega
 ·exact (K2.trans (LK.of_grown hgrow6) (Fresh.refl _ _)).setCell 3 _
 ·intro k hk hlt
  rcases hat5 with h | h
  ·rw [← h];exact hk
  ·rw [h] at hk;injection hk with hk;simp at hk;omega
end
section
variable {w : World} {b0 g : Nat} {room : Int} {all : List (List Chg)} {ns : Nat}
end
def LogS (w:World) (S:Nat→Prop) (lg:Nat) (g:Lg):Prop:=∃ v,LogAt w 0 lg v g.left g.down g.room g.B g.safe∧S lg∧∀ q,v.ownBlock=some q→S q
section
variable {w w' : World} {S : Nat → Prop} {lg : Nat} {g : Lg}
theorem LogS.mono {S':Nat→Prop} (h:LogS w S lg g) (hs:∀ q,S q→S' q):LogS w S' lg g:=by
 obtain ⟨v,h1,h2,h3⟩:=h
 exact ⟨v,h1,hs _ h2,fun q e=>hs q (h3 q e)⟩
theorem LogS.far {T:Nat→Prop} (h:LogS w S lg g) (f:Fr T w w') (hd:∀ q,S q→¬ T q):LogS w' S lg g:=by
 obtain ⟨v,h1,h2,h3⟩:=h
 exact ⟨v,⟨h1.hB.fr f (hd _ h2),h1.hg,own_fr h1.ho f (fun q e=>hd q (h3 q e)),h1.hl,h1.hr,h1.hs,Nat.zero_le _⟩,h2,h3⟩
theorem LogS.below (h:LogS w S lg g) (hb:Below w.heap.size w w'):LogS w' S lg g:=h.far (T:=fun _=>False) (Fr.of_below hb) (fun _ _ q=>q)
theorem LogS.tight (h:LogS w S lg g):LogS w (fun q=>S q∧q < w.heap.size) lg g:=by
 obtain ⟨v,h1,h2,h3⟩:=h
 exact ⟨v,h1,⟨h2,h1.hB.lt⟩,fun q e=>⟨h3 q e,(World.ownsRow.lt h1.ho q e).2⟩⟩
theorem fr_LK {v:Value} (hk:LK w w' lg v) (h2:S lg) (h3:∀ q,v.ownBlock=some q→S q):Fr S w w':=⟨hk.os,hk.tape,hk.output,hk.size,fun k hk' hn=>hk.block k hk' (fun e=>hn (e ▸ h2)) (fun e=>hn (h3 k e.symm))⟩
theorem LogS.of_to {v:Value} {left:Int} {down:Bool} {room:Int} {B:List UInt8} {safe:Nat} (h:LogTo w 0 lg v left down room B safe w') (h2:S lg) (h3:∀ q,v.ownBlock=some q→S q):Fr S w w'∧LogS w' (plus S w) lg ⟨left,down,room,B,safe⟩:=by
 obtain ⟨v',q2,q3,q4⟩:=h
 refine ⟨fr_LK q3 h2 h3,v',q2,.inl h2,fun q e=>?_⟩
 rcases Nat.lt_or_ge q w.heap.size with c | c
 ·exact .inl (h3 q (q4 q e c))
 ·exact .inr c
theorem LogS.append (h:LogS w S lg g) (A:Option Addr) (l:List Chg) (c:Nat) (hm:l.length≤maxLen) (hS:Small l) (hl:Rd w w.heap.size A (cellsC l)) :
  Calls Tryz.prog 39 #[.pointer (some ⟨lg,0,none⟩),.slice A l.length c] w fun e w'=>e=.returned (faultV (g.append l).1)∧Fr S w w'∧LogS w' (plus S w) lg (g.append l).2:=by
 obtain ⟨left,down,room,B,safe⟩:=g
 have h0:=h
 obtain ⟨v,h1,h2,h3⟩:=h
 simp only at h1
 unfold Lg.append
 simp only
 by_cases hf:chgFault l=0
 ·rw [if_neg (by simp [hf])]
  by_cases hr:room < (B.length:Int)+2+((encL l).length:Int)
  ·rw [if_pos hr]
   exact (h1.append_full A l c hm hS hf hl hr).mono fun e w' q=>⟨q.1,Fr.of_below q.2,(h0.below q.2).mono plus.old⟩
  ·rw [if_neg hr]
   cases down with
   | true=>exact (h1.append_down A l c hm hS hf hl hr).mono fun e w' q=>⟨q.1,Fr.of_below q.2,(h0.below q.2).mono plus.old⟩
   | false =>
    simp only [Bool.false_eq_true,if_false]
    by_cases hz:left=0
    ·subst hz
     rw [if_pos rfl]
     exact (h1.append_off A l c hm hS hf hl hr).mono fun e w' q=>⟨q.1,LogS.of_to q.2 h2 h3⟩
    ·rw [if_neg hz]
     exact (h1.append_on A l c hm hS hf hl hr hz).mono fun e w' q=>⟨q.1,LogS.of_to q.2 h2 h3⟩
 ·rw [if_pos hf]
  refine (h1.append_bad A l c hm hS hf hl).mono fun e w' q=>⟨?_,Fr.of_below q.2,(h0.below q.2).mono plus.old⟩
  rw [q.1]
  unfold faultV
  simp only [if_neg hf]
theorem LogS.bytes_ok (h:LogS w S lg g) :
  Calls Tryz.prog 41 #[.pointer (some ⟨lg,0,none⟩)] w fun e w'=>∃ v,e=.returned v∧w'.ownsRow w.heap.size 5 1 v g.B.length (bytesV g.B)∧Below w.heap.size w w':=by
 obtain ⟨v,h1,h2,h3⟩:=h
 exact h1.bytes_ok
theorem LogS.down_ok (h:LogS w S lg g) :
  Calls Tryz.prog 34 #[.pointer (some ⟨lg,0,none⟩)] w fun e w'=>e=.returned (.bool g.down)∧w'=w:=by
 obtain ⟨v,h1,h2,h3⟩:=h
 obtain ⟨⟨x0,x1,x2,x3,x4⟩,z0,z1,z3,z4⟩:=h1.cells
 go_enter Tryz.func34,Tryz.ntmps34
 go_wp2
 go_ret
 exact ⟨rfl,rfl⟩
theorem LogS.len (h:LogS w S lg g):(g.B.length:Int)≤g.room∧g.room≤100000∧g.safe≤g.B.length:=by
 obtain ⟨v,h1,h2,h3⟩:=h
 have:=h1.hr
 exact ⟨by omega,by omega,h1.hs⟩
end
theorem logNew_ok (room:Int) (hr:0≤room∧room≤100000) (w:World) :
  Calls Tryz.prog 32 #[.int .i64 room] w fun e w'=>e=.returned (.tuple #[.pointer (some ⟨w.heap.size,0,none⟩),.nilIface])∧LogS w' (fun q=>w.heap.size≤q) w.heap.size ⟨-1,false,room,[],0⟩∧Below w.heap.size w w' :=
 (new_ok room hr w 0 (Nat.zero_le _)).mono fun e w' q=>⟨q.1,⟨_,q.2.1,Nat.le_refl _,fun k e=>by cases e⟩,q.2.2⟩
end Go.Proofs.YtkckcbhnnllkhaaGreatDoor
