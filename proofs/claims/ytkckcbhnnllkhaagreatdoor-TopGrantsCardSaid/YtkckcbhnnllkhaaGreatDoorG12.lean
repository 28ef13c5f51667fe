/- Parts of the proof; conditions: as each theorem says. -/
import Derived.Test.YtkckcbhnnllkhaaGreatDoorG11
import Derived.Test.YtkckcbhnnllkhaaGreatDoorG10
import Derived.Deep.RegionHeld3
import Derived.Deep.DrawnRows
import Derived.Deep.AppendLies
import Derived.Maps.AppendAt
import Derived.Test.YtkckcbhnnllkhaaGreatDoorG14
import Derived.Laws.AppendOwn
set_option linter.unusedVariables false
set_option linter.unusedSimpArgs false
set_option maxRecDepth 100000
set_option maxHeartbeats 40000000
namespace Go.Proofs.YtkckcbhnnllkhaaGreatDoor
open Go.RowKit
theorem put_more (t:Nat) (F:List UInt8→List Ver) (top:Int) (m b:Nat) (S:Nat→Prop) (es:Array MapEntry) (clock:Nat) (s:List UInt8) (hs:s.length≤maxLen) (v:Ver) (hv:v.val.length≤maxLen) (hm:m < 1000000) (w:World)
  (hB:Blk w t 148 #[.map (some b),.int .i64 top]) (hM:TabAt w Tryz.prog 9 174 S b es clock F) (hn:es.size≤m) (ht:S t) (hg:Good F top m) (hp:putE s v top=0)
  (u:Value) (hu:w.ownsRow 0 174 3 u (F s).length (cellsV (F s))) (hhas:Has es (txt s) u∨(u=.slice none 0 0∧F s=[]∧∀ v,¬ Has es (txt s) v)) (hlast:∀ x,(F s).getLast?=some x→x.n≠v.n) :
  Calls Tryz.prog 105 #[.pointer (some ⟨t,0,none⟩),txt s,verV v] w fun e w'=>e=.returned .nilIface∧Fr S w w'∧TblAt w' (plus S w) t (upd F s (F s++[v])) v.n (m+1):=by
 obtain ⟨p1,p2,p3,p4,p5⟩:=putE_zero hp
 obtain ⟨kl,hkl⟩:=txt_key s hs
 have hlen:=hg.len s
 have hK:=fun W=>key_any s hs W
 rw [p1] at hK
 have HK:=Hd hK
 have hmb:t≠b:=fun e=>by
  have h1:=hM.map.hb
  rw [← e] at h1
  unfold Blk at hB
  rw [hB] at h1
  cases h1
 have htu:some t≠u.ownBlock:=by
  intro e
  rcases hu.2 with ⟨rfl,_⟩ | ⟨g2,cap,cur,rfl,_,hh,_⟩
  ·simp [Value.ownBlock] at e
  ·simp [Value.ownBlock] at e
   subst e
   unfold Blk at hB
   rw [hB] at hh
   injection hh with hh
   injection hh with _ hh
   exact absurd hh (by decide)
 have hrow:∀ g,u.ownBlock=some g→g≠b∧∀ x r,x≠s→Has es (txt x) r→r.ownBlock≠some g:=fun g e=>by
  rcases hhas with q | ⟨rfl,_,_⟩
  ·exact ⟨fun e2=>row_not_map hu hM.map (by rw [e,e2]),fun x r hx q2 e2=>hx (hM.apart x s r u g q2 q e2 e)⟩
  ·simp [Value.ownBlock] at e
 have huS:∀ g,u.ownBlock=some g→S g:=fun g e=>by
  rcases hhas with q | ⟨rfl,_,_⟩
  ·exact hM.own s u g q e
  ·simp [Value.ownBlock] at e
 have hadd:addV (F s) v=F s++[v]:=by
  unfold addV
  split
  ·rename_i y hy
   rw [if_neg (hlast y hy)]
  ·rename_i hy
   rw [List.getLast?_eq_none_iff.1 hy]
   rfl
 have hgood:Good (upd F s (F s++[v])) v.n (m+1):=by
  have h:=hg.put hp
  unfold putV at h
  rwa [hadd] at h
 have hBk:=Blk.new w 174 #[.int .i64 v.n,txt v.val,.bool v.gone]
 have hb0:Below w.heap.size w (w.alloc (.cells #[.int .i64 v.n,txt v.val,.bool v.gone] 174)):=(Below.refl _ _).alloc (Nat.le_refl _) _
 have hB1:=hB.below hb0 hB.lt
 have hM1:=hM.below hb0
 have hu1:=hu.alloc (.cells #[.int .i64 v.n,txt v.val,.bool v.gone] 174)
 obtain ⟨x0,x1,x2⟩:=hBk.cls3
 have y1:=hB1.cell 1
 have y0:=hB1.cell 0
 simp at x0 x1 x2 y1 y0
 have hlt:=hB.lt
 have hsz:(w.alloc (.cells #[.int .i64 v.n,txt v.val,.bool v.gone] 174)).heap.size=w.heap.size+1:=by simp
 clear hK
 go_enter Tryz.func105,Tryz.ntmps105
 go_wp2_with fail
 refine (HK.out _).mono ?_
 rintro e w1 ⟨rfl,rfl⟩
 have hvl:¬ 12 < v.val.length:=by omega
 have hn1:¬ v.n < 1:=by omega
 have hn2:¬ 1000000 < v.n:=by omega
 have hn3:¬ v.n < top:=by omega
 go_wp2_with fail
 go_quiet (fail)
 generalize hW2:World.drewN (w.alloc (.cells #[.int .i64 v.n,txt v.val,.bool v.gone] 174)) nq=w2
 have hb2:Below w.heap.size w w2:=by rw [← hW2];exact ⟨hb0.os,hb0.tape,hb0.output,hb0.size,hb0.block⟩
 have hsz2:w2.heap.size=w.heap.size+1:=by rw [← hW2];exact hsz
 have hBk2:Blk w2 w.heap.size 174 #[.int .i64 v.n,txt v.val,.bool v.gone]:=by rw [← hW2];exact hBk
 clear hW2 hBk hb0 hB1 hM1 hu1 x0 x1 x2 y1 y0 hsz
 have hB2:=hB.below hb2 hlt
 have hM2:=hM.below hb2
 have hu2:=own_below hu hb2
 have hBk3:=hBk2.far (p:=⟨t,1,none⟩) (by simp;omega) (.int .i64 v.n)
 have hB3:Blk (w2.setCell ⟨t,1,none⟩ (.int .i64 v.n)) t 148 #[.map (some b),.int .i64 v.n]:=hB2.setCell 1 (.int .i64 v.n)
 have hrt:∀ x r,Has es (txt x) r→r.ownBlock≠some t:=fun x r q e=>by
  rcases (hM2.rows x r q).2.2 with ⟨rfl,_⟩ | ⟨g2,cap,cur,rfl,_,hh,_⟩
  ·simp [Value.ownBlock] at e
  ·simp [Value.ownBlock] at e
   subst e
   unfold Blk at hB2
   rw [hB2] at hh
   injection hh with hh
   injection hh with _ hh
   exact absurd hh (by decide)
 have hM3:TabAt (w2.setCell ⟨t,1,none⟩ (.int .i64 v.n)) Tryz.prog 9 174 S b es clock F :=
  hM2.keep (Below.heap_setCell w2 ⟨t,1,none⟩ _ b (fun e=>hmb e.symm)) (fun x r g q hg=>Below.heap_setCell w2 ⟨t,1,none⟩ _ g (fun e=>hrt x r q (by rw [hg,e])))
 have hu3:(w2.setCell ⟨t,1,none⟩ (.int .i64 v.n)).ownsRow 0 174 3 u (F s).length (cellsV (F s)) :=
  row_keep hu2 (fun g e=>Below.heap_setCell w2 ⟨t,1,none⟩ _ g (fun e2=>htu (by rw [e,e2])))
 have hlook:(Instr.lookup 146 (.map (some b)) (txt s) false).run Tryz.prog (w2.setCell ⟨t,1,none⟩ (.int .i64 v.n))=.ok u (w2.setCell ⟨t,1,none⟩ (.int .i64 v.n)):=by
  rcases hM3.map.look strKey Tryz.underlying146 (zeroRow _) hkl false with ⟨h1,hrun⟩ | ⟨r,h1,hrun⟩
  ·rcases hhas with q | ⟨rfl,_,_⟩
   ·exact absurd q (h1 u)
   ·simpa using hrun
  ·rcases hhas with q | ⟨_,_,q⟩
   ·rw [hM3.map.same q h1]
    simpa using hrun
   ·exact absurd h1 (q r)
 have y2:=hB2.cell 1
 have yf:=hB2.frozen 1
 have y3:=hB2.cell 0
 have z0:=hB3.cell 0
 have x0:=hBk2.cell 0
 simp at y2 y3 x0 z0
 obtain ⟨q0,q1,q2⟩:=hBk3.cls3
 simp at q0 q1 q2
 rcases hu.2 with ⟨rfl,hnil⟩ | ⟨g,cap,cur,rfl,hgb,hgc,_,_,_,_⟩
 ·have hl0:(F s).length=0:=hnil
  go_wp2_with fail
  have hbu:some b≠(Value.slice none 0 0).ownBlock:=fun e=>row_not_map hu3 hM3.map e.symm
  generalize hW3:w2.setCell ⟨t,1,none⟩ (.int .i64 v.n)=w3 at *
  have hsz3:w3.heap.size=w.heap.size+1:=by rw [← hW3];simp [hsz2]
  have hwu:some w.heap.size≠(Value.slice none 0 0).ownBlock:=fun e=>by have:=(World.ownsRow.lt hu _ e.symm).2;omega
  go_quiet (fail)
  generalize hW4:World.drewN w3 nq=w4
  have hM4:TabAt w4 Tryz.prog 9 174 S b es clock F:=by rw [← hW4];exact hM3.keep rfl (fun _ _ _ _ _=>rfl)
  have hB4:Blk w4 t 148 #[.map (some b),.int .i64 v.n]:=by rw [← hW4];exact hB3
  have hu4:w4.ownsRow 0 174 3 (Value.slice none 0 0) (F s).length (cellsV (F s)):=by rw [← hW4];exact hu3
  have hsz4:w4.heap.size=w.heap.size+1:=by rw [← hW4];exact hsz3
  have hb4:Fr S w w4:=by
   rw [← hW4,← hW3]
   exact ((Fr.of_below hb2).setCell (p:=⟨t,1,none⟩) (fun _=>ht) (.int .i64 v.n)).drewN _
  have r0:w4.cell? ⟨w.heap.size,0,none⟩=some (.int .i64 v.n):=by rw [← hW4];exact q0
  have r1:w4.cell? ⟨w.heap.size,1,none⟩=some (txt v.val):=by rw [← hW4];exact q1
  have r2:w4.cell? ⟨w.heap.size,2,none⟩=some (.bool v.gone):=by rw [← hW4];exact q2
  have r3:w4.cell? ⟨t,0,none⟩=some (.map (some b)):=by rw [← hW4];exact z0
  clear hW4 hW3 hM3 hB3 hu3 hlook z0 q0 q1 q2 hsz3 hBk3
  have hH3:∀ j u',(cellsV [v])[j]?=some u'→((w4.alloc (.cells #[.int .i64 v.n,txt v.val,.bool v.gone] 174)).drew).cell? ⟨w4.heap.size,j,none⟩=some u':=fun j u' hj=>by
   have h:=(Blk.new w4 174 #[.int .i64 v.n,txt v.val,.bool v.gone]).cell j
   refine Eq.trans h ?_
   simpa [cellsV] using hj
  have hlen9:(F s).length < 1000000000:=by omega
  have HBASE3:0≤((w4.alloc (.cells #[.int .i64 v.n,txt v.val,.bool v.gone] 174)).drew).heap.size:=Nat.zero_le _
  go_wp2_with fail
  generalize hU:Value.slice none 0 0=U at *
  clear hU
  have hblt:b < w.heap.size:=hM.map.lt
  have HSZ:=Hd hsz4
  clear hsz4
  go_region_held3 (fun w'=>w'.cell? ⟨t,0,none⟩=some (.map (some b))∧w'.cell? ⟨w.heap.size,0,none⟩=some (.int .i64 v.n)∧w'.cell? ⟨w.heap.size,1,none⟩=some (txt v.val)∧w'.cell? ⟨w.heap.size,2,none⟩=some (.bool v.gone))
   (first
    | go_keep
    | (go_split_ands;refine ⟨?_,?_,?_,?_⟩ <;> (rw [hgrowB.cell_far _ (by have:=hgrowA.size;simp at this;have:=HSZ.out;simp;omega) (by simp;omega)];assumption))
    | (go_split_ands;refine ⟨?_,?_,?_,?_⟩ <;> (rw [hgrowA.cell_far _ (by simp;have:=HSZ.out;omega) (by simp;assumption)];assumption)))
   (first
    | (go_loud (refine step_append_ver (by rfl) _ _ 171 (by rfl) 174 Tryz.underlying171 _ 32 infoVer (by rfl) (by decide) 0 U (F s).length (cellsV (F s)) (by rfl) ((hu4.alloc (.cells #[.int .i64 v.n,txt v.val,.bool v.gone] 174)).drew) w4.heap.size v (by rfl) hH3 hlen9 HBASE3 ?_);intro vA wA hownA hgrowA hatA;have hmA:=((hM4.map.alloc (.cells #[.int .i64 v.n,txt v.val,.bool v.gone] 174)).keep (w':=(w4.alloc (.cells #[.int .i64 v.n,txt v.val,.bool v.gone] 174)).drew) rfl).grown hgrowA hbu;obtain ⟨es',clock',hrunB,hmB,hasB,hnB,_⟩:=hmA.store strKey Tryz.underlying146 (by unfold maxLen;omega) (val:=vA) hkl;have hgrowB:=grown_setBlock (o:=.map es' clock') hmA)
    | fail)
  have hb5:Fr S w (w4.alloc (.cells #[.int .i64 v.n,txt v.val,.bool v.gone] 174)).drew:=(hb4.alloc _).drew
  have hbA:Fr S w wA:=hb5.grown hgrowA (fun q hq _=>huS q hq)
  have hbB:=hbA.grown hgrowB (fun q hq _=>by cases hq;exact hM4.hb)
  have hM5:TabAt (w4.alloc (.cells #[.int .i64 v.n,txt v.val,.bool v.gone] 174)).drew Tryz.prog 9 174 S b es clock F:=(hM4.alloc (.cells #[.int .i64 v.n,txt v.val,.bool v.gone] 174)).keep rfl (fun _ _ _ _ _=>rfl)
  have hB5:Blk (w4.alloc (.cells #[.int .i64 v.n,txt v.val,.bool v.gone] 174)).drew t 148 #[.map (some b),.int .i64 v.n]:=hB4.alloc _
  have hB6:=(hB5.grown hgrowA htu).grown hgrowB (by simp;omega)
  have hM6:=(hM5.mono (S':=plus S w) plus.old).store (s:=s) (L:=F s++[v]) (by simp) hrow hgrowA (by rw [cellsV_append,List.length_append];exact hownA)
   (fun g e=>by
    rcases hatA with q | q
    ·exact .inl (q.symm.trans e)
    ·rw [q] at e;injection e with e;exact .inr (Nat.le_of_eq e))
   (fun g e=>by
    rcases hatA with q | q
    ·exact .inl (huS g (q.symm.trans e))
    ·rw [q] at e;injection e with e;exact .inr (by rw [← e];exact hb5.size)) hmB hgrowB hasB
  have HG:=Hd hgood
  clear hb5 hbA hM5 hB5 hmA hmB hasB hownA hgrowA hgrowB hatA hM4 hB4 hu4 hb4
  go_wp2
  go_ret
  exact ⟨rfl,hbB,⟨⟨b,es',clock',hB6,hM6,by omega⟩,.inl ht,HG.out⟩⟩
 ·have hlpos:0 < (F s).length:=by
   rcases hhas with q | ⟨q,_,_⟩
   ·have:=(hM.rows s _ q).1
    exact List.length_pos_iff.2 this
   ·cases q
  have hlI:(0:Int) < ((F s).length:Int):=by omega
  have hne:(F s)[(F s).length - 1].n≠v.n:=hlast _ (by rw [List.getLast?_eq_getElem?,List.getElem?_eq_getElem (by omega)])
  go_wp2_with fail
  have hbu:some b≠(Value.slice (some ⟨g,0,none⟩) (F s).length cap).ownBlock:=fun e=>row_not_map hu3 hM3.map e.symm
  generalize hW3:w2.setCell ⟨t,1,none⟩ (.int .i64 v.n)=w3 at *
  have hsz3:w3.heap.size=w.heap.size+1:=by rw [← hW3];simp [hsz2]
  have hwu:some w.heap.size≠(Value.slice (some ⟨g,0,none⟩) (F s).length cap).ownBlock:=fun e=>by have:=(World.ownsRow.lt hu _ e.symm).2;omega
  obtain ⟨A',c',eA,hrd⟩:=own_form hu3
  injection eA with eA1 eA2 eA3
  subst eA1
  subst eA3
  obtain ⟨g',off',eg,hgb',k0,k1,k2⟩:=hrd.ver (show (F s).length - 1 < (F s).length by omega)
  injection eg with eg
  injection eg with eg1 eg2
  subst eg1
  subst eg2
  simp only [Nat.zero_add] at k0 k1 k2
  have hz1:((F s).length:Int) - 1=(((F s).length - 1:Nat):Int):=by omega
  go_quiet (fail)
  generalize hW4:World.drewN w3 nq=w4
  have hM4:TabAt w4 Tryz.prog 9 174 S b es clock F:=by rw [← hW4];exact hM3.keep rfl (fun _ _ _ _ _=>rfl)
  have hB4:Blk w4 t 148 #[.map (some b),.int .i64 v.n]:=by rw [← hW4];exact hB3
  have hu4:w4.ownsRow 0 174 3 (Value.slice (some ⟨g,0,none⟩) (F s).length cap) (F s).length (cellsV (F s)):=by rw [← hW4];exact hu3
  have hsz4:w4.heap.size=w.heap.size+1:=by rw [← hW4];exact hsz3
  have hb4:Fr S w w4:=by
   rw [← hW4,← hW3]
   exact ((Fr.of_below hb2).setCell (p:=⟨t,1,none⟩) (fun _=>ht) (.int .i64 v.n)).drewN _
  have r0:w4.cell? ⟨w.heap.size,0,none⟩=some (.int .i64 v.n):=by rw [← hW4];exact q0
  have r1:w4.cell? ⟨w.heap.size,1,none⟩=some (txt v.val):=by rw [← hW4];exact q1
  have r2:w4.cell? ⟨w.heap.size,2,none⟩=some (.bool v.gone):=by rw [← hW4];exact q2
  have r3:w4.cell? ⟨t,0,none⟩=some (.map (some b)):=by rw [← hW4];exact z0
  clear hW4 hW3 hM3 hB3 hu3 hlook z0 q0 q1 q2 hsz3 hBk3
  have hH3:∀ j u',(cellsV [v])[j]?=some u'→((w4.alloc (.cells #[.int .i64 v.n,txt v.val,.bool v.gone] 174)).drew).cell? ⟨w4.heap.size,j,none⟩=some u':=fun j u' hj=>by
   have h:=(Blk.new w4 174 #[.int .i64 v.n,txt v.val,.bool v.gone]).cell j
   refine Eq.trans h ?_
   simpa [cellsV] using hj
  have hlen9:(F s).length < 1000000000:=by omega
  have HBASE3:0≤((w4.alloc (.cells #[.int .i64 v.n,txt v.val,.bool v.gone] 174)).drew).heap.size:=Nat.zero_le _
  go_wp2_with fail
  generalize hU:Value.slice (some ⟨g,0,none⟩) (F s).length cap=U at *
  clear hU
  have hblt:b < w.heap.size:=hM.map.lt
  have HSZ:=Hd hsz4
  clear hsz4
  go_region_held3 (fun w'=>w'.cell? ⟨t,0,none⟩=some (.map (some b))∧w'.cell? ⟨w.heap.size,0,none⟩=some (.int .i64 v.n)∧w'.cell? ⟨w.heap.size,1,none⟩=some (txt v.val)∧w'.cell? ⟨w.heap.size,2,none⟩=some (.bool v.gone))
   (first
    | go_keep
    | (go_split_ands;refine ⟨?_,?_,?_,?_⟩ <;> (rw [hgrowB.cell_far _ (by have:=hgrowA.size;simp at this;have:=HSZ.out;simp;omega) (by simp;omega)];assumption))
    | (go_split_ands;refine ⟨?_,?_,?_,?_⟩ <;> (rw [hgrowA.cell_far _ (by simp;have:=HSZ.out;omega) (by simp;assumption)];assumption)))
   (first
    | (go_loud (refine step_append_ver (by rfl) _ _ 171 (by rfl) 174 Tryz.underlying171 _ 32 infoVer (by rfl) (by decide) 0 U (F s).length (cellsV (F s)) (by rfl) ((hu4.alloc (.cells #[.int .i64 v.n,txt v.val,.bool v.gone] 174)).drew) w4.heap.size v (by rfl) hH3 hlen9 HBASE3 ?_);intro vA wA hownA hgrowA hatA;have hmA:=((hM4.map.alloc (.cells #[.int .i64 v.n,txt v.val,.bool v.gone] 174)).keep (w':=(w4.alloc (.cells #[.int .i64 v.n,txt v.val,.bool v.gone] 174)).drew) rfl).grown hgrowA hbu;obtain ⟨es',clock',hrunB,hmB,hasB,hnB,_⟩:=hmA.store strKey Tryz.underlying146 (by unfold maxLen;omega) (val:=vA) hkl;have hgrowB:=grown_setBlock (o:=.map es' clock') hmA)
    | fail)
  have hb5:Fr S w (w4.alloc (.cells #[.int .i64 v.n,txt v.val,.bool v.gone] 174)).drew:=(hb4.alloc _).drew
  have hbA:Fr S w wA:=hb5.grown hgrowA (fun q hq _=>huS q hq)
  have hbB:=hbA.grown hgrowB (fun q hq _=>by cases hq;exact hM4.hb)
  have hM5:TabAt (w4.alloc (.cells #[.int .i64 v.n,txt v.val,.bool v.gone] 174)).drew Tryz.prog 9 174 S b es clock F:=(hM4.alloc (.cells #[.int .i64 v.n,txt v.val,.bool v.gone] 174)).keep rfl (fun _ _ _ _ _=>rfl)
  have hB5:Blk (w4.alloc (.cells #[.int .i64 v.n,txt v.val,.bool v.gone] 174)).drew t 148 #[.map (some b),.int .i64 v.n]:=hB4.alloc _
  have hB6:=(hB5.grown hgrowA htu).grown hgrowB (by simp;omega)
  have hM6:=(hM5.mono (S':=plus S w) plus.old).store (s:=s) (L:=F s++[v]) (by simp) hrow hgrowA (by rw [cellsV_append,List.length_append];exact hownA)
   (fun g e=>by
    rcases hatA with q | q
    ·exact .inl (q.symm.trans e)
    ·rw [q] at e;injection e with e;exact .inr (Nat.le_of_eq e))
   (fun g e=>by
    rcases hatA with q | q
    ·exact .inl (huS g (q.symm.trans e))
    ·rw [q] at e;injection e with e;exact .inr (by rw [← e];exact hb5.size)) hmB hgrowB hasB
  have HG:=Hd hgood
  clear hb5 hbA hM5 hB5 hmA hmB hasB hownA hgrowA hgrowB hatA hM4 hB4 hu4 hb4
  go_wp2
  go_ret
  exact ⟨rfl,hbB,⟨⟨b,es',clock',hB6,hM6,by omega⟩,.inl ht,HG.out⟩⟩
theorem cellsV_set (l:List Ver) (v:Ver) (h:l≠[]):(((cellsV l).set ((l.length - 1) * 3) (.int .i64 v.n)).set ((l.length - 1) * 3+1) (txt v.val)).set ((l.length - 1) * 3+2) (.bool v.gone)=cellsV (l.dropLast++[v]):=by
 obtain ⟨ys,u,rfl⟩:∃ ys u,l=ys++[u]:=⟨l.dropLast,l.getLast h,(List.dropLast_concat_getLast h).symm⟩
 have h1:=cellsV_length ys
 have h2:(ys++[u]).length - 1=ys.length:=by simp
 rw [h2,List.dropLast_concat,cellsV_append,cellsV_append,← h1,List.set_append_right _ _ (Nat.le_refl _),List.set_append_right _ _ (by omega),List.set_append_right _ _ (by omega)]
 congr 1
 rw [Nat.sub_self,show (cellsV ys).length+1 - (cellsV ys).length=1 by omega,show (cellsV ys).length+2 - (cellsV ys).length=2 by omega]
 rfl
theorem put_last (t:Nat) (F:List UInt8→List Ver) (top:Int) (m b:Nat) (S:Nat→Prop) (es:Array MapEntry) (clock:Nat) (s:List UInt8) (hs:s.length≤maxLen) (v:Ver) (hv:v.val.length≤maxLen) (hm:m < 1000000) (w:World)
  (hB:Blk w t 148 #[.map (some b),.int .i64 top]) (hM:TabAt w Tryz.prog 9 174 S b es clock F) (hn:es.size≤m) (ht:S t) (hg:Good F top m) (hp:putE s v top=0)
  (u:Value) (hu:w.ownsRow 0 174 3 u (F s).length (cellsV (F s))) (hhas:Has es (txt s) u) (x:Ver) (hlx:(F s).getLast?=some x) (hxn:x.n=v.n) :
  Calls Tryz.prog 105 #[.pointer (some ⟨t,0,none⟩),txt s,verV v] w fun e w'=>e=.returned .nilIface∧Fr S w w'∧TblAt w' (plus S w) t (upd F s ((F s).dropLast++[v])) v.n (m+1):=by
 obtain ⟨p1,p2,p3,p4,p5⟩:=putE_zero hp
 obtain ⟨kl,hkl⟩:=txt_key s hs
 have hlen:=hg.len s
 have hK:=fun W=>key_any s hs W
 rw [p1] at hK
 have HK:=Hd hK
 have hmb:t≠b:=fun e=>by
  have h1:=hM.map.hb
  rw [← e] at h1
  unfold Blk at hB
  rw [hB] at h1
  cases h1
 have htu:some t≠u.ownBlock:=by
  intro e
  rcases hu.2 with ⟨rfl,_⟩ | ⟨g2,cap,cur,rfl,_,hh,_⟩
  ·simp [Value.ownBlock] at e
  ·simp [Value.ownBlock] at e
   subst e
   unfold Blk at hB
   rw [hB] at hh
   injection hh with hh
   injection hh with _ hh
   exact absurd hh (by decide)
 have hadd:addV (F s) v=(F s).dropLast++[v]:=by
  unfold addV
  rw [hlx]
  simp only []
  rw [if_pos hxn]
 have hgood:Good (upd F s ((F s).dropLast++[v])) v.n (m+1):=by
  have h:=hg.put hp
  unfold putV at h
  rwa [hadd] at h
 have hBk:=Blk.new w 174 #[.int .i64 v.n,txt v.val,.bool v.gone]
 have hb0:Below w.heap.size w (w.alloc (.cells #[.int .i64 v.n,txt v.val,.bool v.gone] 174)):=(Below.refl _ _).alloc (Nat.le_refl _) _
 have hB1:=hB.below hb0 hB.lt
 have hM1:=hM.below hb0
 have hu1:=hu.alloc (.cells #[.int .i64 v.n,txt v.val,.bool v.gone] 174)
 obtain ⟨x0,x1,x2⟩:=hBk.cls3
 have y1:=hB1.cell 1
 have y0:=hB1.cell 0
 simp at x0 x1 x2 y1 y0
 have hlt:=hB.lt
 have hsz:(w.alloc (.cells #[.int .i64 v.n,txt v.val,.bool v.gone] 174)).heap.size=w.heap.size+1:=by simp
 clear hK
 go_enter Tryz.func105,Tryz.ntmps105
 go_wp2_with fail
 refine (HK.out _).mono ?_
 rintro e w1 ⟨rfl,rfl⟩
 have hvl:¬ 12 < v.val.length:=by omega
 have hn1:¬ v.n < 1:=by omega
 have hn2:¬ 1000000 < v.n:=by omega
 have hn3:¬ v.n < top:=by omega
 go_wp2_with fail
 go_quiet (fail)
 generalize hW2:World.drewN (w.alloc (.cells #[.int .i64 v.n,txt v.val,.bool v.gone] 174)) nq=w2
 have hb2:Below w.heap.size w w2:=by rw [← hW2];exact ⟨hb0.os,hb0.tape,hb0.output,hb0.size,hb0.block⟩
 have hsz2:w2.heap.size=w.heap.size+1:=by rw [← hW2];exact hsz
 have hBk2:Blk w2 w.heap.size 174 #[.int .i64 v.n,txt v.val,.bool v.gone]:=by rw [← hW2];exact hBk
 clear hW2 hBk hb0 hB1 hM1 hu1 x0 x1 x2 y1 y0 hsz
 have hB2:=hB.below hb2 hlt
 have hM2:=hM.below hb2
 have hu2:=own_below hu hb2
 have hBk3:=hBk2.far (p:=⟨t,1,none⟩) (by simp;omega) (.int .i64 v.n)
 have hB3:Blk (w2.setCell ⟨t,1,none⟩ (.int .i64 v.n)) t 148 #[.map (some b),.int .i64 v.n]:=hB2.setCell 1 (.int .i64 v.n)
 have hrt:∀ x r,Has es (txt x) r→r.ownBlock≠some t:=fun x r q e=>by
  rcases (hM2.rows x r q).2.2 with ⟨rfl,_⟩ | ⟨g2,cap,cur,rfl,_,hh,_⟩
  ·simp [Value.ownBlock] at e
  ·simp [Value.ownBlock] at e
   subst e
   unfold Blk at hB2
   rw [hB2] at hh
   injection hh with hh
   injection hh with _ hh
   exact absurd hh (by decide)
 have hM3:TabAt (w2.setCell ⟨t,1,none⟩ (.int .i64 v.n)) Tryz.prog 9 174 S b es clock F :=
  hM2.keep (Below.heap_setCell w2 ⟨t,1,none⟩ _ b (fun e=>hmb e.symm)) (fun x r g q hg=>Below.heap_setCell w2 ⟨t,1,none⟩ _ g (fun e=>hrt x r q (by rw [hg,e])))
 have hu3:(w2.setCell ⟨t,1,none⟩ (.int .i64 v.n)).ownsRow 0 174 3 u (F s).length (cellsV (F s)) :=
  row_keep hu2 (fun g e=>Below.heap_setCell w2 ⟨t,1,none⟩ _ g (fun e2=>htu (by rw [e,e2])))
 have hlook:(Instr.lookup 146 (.map (some b)) (txt s) false).run Tryz.prog (w2.setCell ⟨t,1,none⟩ (.int .i64 v.n))=.ok u (w2.setCell ⟨t,1,none⟩ (.int .i64 v.n)):=by
  rcases hM3.map.look strKey Tryz.underlying146 (zeroRow _) hkl false with ⟨h1,hrun⟩ | ⟨r,h1,hrun⟩
  ·exact absurd hhas (h1 u)
  ·rw [hM3.map.same hhas h1]
   simpa using hrun
 have y2:=hB2.cell 1
 have yf:=hB2.frozen 1
 have y3:=hB2.cell 0
 have z0:=hB3.cell 0
 have x0:=hBk2.cell 0
 simp at y2 y3 x0 z0
 obtain ⟨q0,q1,q2⟩:=hBk3.cls3
 simp at q0 q1 q2
 rcases hu.2 with ⟨rfl,hnil⟩ | ⟨g,cap,cur,rfl,hgb,hgc,_,_,_,_⟩
 ·exact absurd (List.eq_nil_of_length_eq_zero hnil) (hM.rows s _ hhas).1
 ·have hlpos:0 < (F s).length:=by
   exact List.length_pos_iff.2 (hM.rows s _ hhas).1
  have hlI:(0:Int) < ((F s).length:Int):=by omega
  have hne:(F s)[(F s).length - 1].n=v.n:=by
   rw [List.getLast?_eq_getElem?,List.getElem?_eq_getElem (by omega)] at hlx
   injection hlx with hlx
   rw [hlx,hxn]
  go_wp2_with fail
  have hbu:some b≠(Value.slice (some ⟨g,0,none⟩) (F s).length cap).ownBlock:=fun e=>row_not_map hu3 hM3.map e.symm
  generalize hW3:w2.setCell ⟨t,1,none⟩ (.int .i64 v.n)=w3 at *
  have hsz3:w3.heap.size=w.heap.size+1:=by rw [← hW3];simp [hsz2]
  have hwu:some w.heap.size≠(Value.slice (some ⟨g,0,none⟩) (F s).length cap).ownBlock:=fun e=>by have:=(World.ownsRow.lt hu _ e.symm).2;omega
  obtain ⟨A',c',eA,hrd⟩:=own_form hu3
  injection eA with eA1 eA2 eA3
  subst eA1
  subst eA3
  obtain ⟨g',off',eg,hgb',k0,k1,k2⟩:=hrd.ver (show (F s).length - 1 < (F s).length by omega)
  injection eg with eg
  injection eg with eg1 eg2
  subst eg1
  subst eg2
  simp only [Nat.zero_add] at k0 k1 k2
  have hz1:((F s).length:Int) - 1=(((F s).length - 1:Nat):Int):=by omega
  have f0:=World.ownsRow.frozenAt hu3 (((F s).length - 1) * 3)
  have f1:=World.ownsRow.frozenAt hu3 (((F s).length - 1) * 3+1)
  have f2:=World.ownsRow.frozenAt hu3 (((F s).length - 1) * 3+2)
  go_quiet (fail)
  go_wp2_with fail
  have hu5:(w3.drewN nq).ownsRow 0 174 3 (Value.slice (some ⟨g,0,none⟩) (F s).length cap) (F s).length (cellsV (F s)):=hu3
  obtain ⟨o1,g1⟩:=World.ownsRow.stored hu5 (((F s).length - 1) * 3) (.int .i64 v.n)
  obtain ⟨o2,g2⟩:=World.ownsRow.stored o1 (((F s).length - 1) * 3+1) (txt v.val)
  obtain ⟨o3,g3⟩:=World.ownsRow.stored o2 (((F s).length - 1) * 3+2) (.bool v.gone)
  rw [cellsV_set (F s) v (hM.rows s _ hhas).1] at o3
  have hLl:((F s).dropLast++[v]).length=(F s).length:=by simp;omega
  have gg:=(g1.trans g2).trans g3
  have hM4:TabAt (w3.drewN nq) Tryz.prog 9 174 S b es clock F:=hM3.keep rfl (fun _ _ _ _ _=>rfl)
  have hM6:=hM4.turn (L:=(F s).dropLast++[v]) hhas (by simp) gg (by rw [hLl];exact o3)
  have hB6:=Blk.grown (show Blk (w3.drewN nq) t 148 #[.map (some b),.int .i64 v.n] from hB3) gg htu
  have hb3:Fr S w (w3.drewN nq):=by
   rw [← hW3]
   exact ((Fr.of_below hb2).setCell (p:=⟨t,1,none⟩) (fun _=>ht) (.int .i64 v.n)).drewN _
  have hb6:=hb3.grown gg (fun q hq _=>by cases hq;exact hM.own s _ g hhas rfl)
  have hM7:=hM6.mono (S':=plus S w) plus.old
  go_wp2
  go_ret
  exact ⟨rfl,hb6,⟨⟨b,es,clock,hB6,hM7,by omega⟩,.inl ht,hgood⟩⟩
theorem TblAt.below {w w':World} {S:Nat→Prop} {t m:Nat} {F:List UInt8→List Ver} {top:Int} (h:TblAt w S t F top m) (hb:Below w.heap.size w w'):TblAt w' S t F top m :=
 ⟨by obtain ⟨b,es,c,h1,h2,h3⟩:=h.tab;exact ⟨b,es,c,h1.below hb h1.lt,h2.below hb,h3⟩,h.ht,h.good⟩
theorem TblAt.mono {w:World} {S S':Nat→Prop} {t m:Nat} {F:List UInt8→List Ver} {top:Int} (h:TblAt w S t F top m) (hs:∀ g,S g→S' g):TblAt w S' t F top m :=
 ⟨by obtain ⟨b,es,c,h1,h2,h3⟩:=h.tab;exact ⟨b,es,c,h1,h2.mono hs,h3⟩,hs _ h.ht,h.good⟩
theorem TblAt.far {w w':World} {S T:Nat→Prop} {t m:Nat} {F:List UInt8→List Ver} {top:Int} (h:TblAt w S t F top m) (f:Fr T w w') (hd:∀ g,S g→¬ T g):TblAt w' S t F top m :=
 ⟨by obtain ⟨b,es,c,h1,h2,h3⟩:=h.tab;exact ⟨b,es,c,h1.fr f (hd _ h.ht),h2.far f hd,h3⟩,h.ht,h.good⟩
theorem TblAt.more {w:World} {S:Nat→Prop} {t m:Nat} {F:List UInt8→List Ver} {top:Int} (h:TblAt w S t F top m):TblAt w S t F top (m+1) :=
 ⟨by obtain ⟨b,es,c,h1,h2,h3⟩:=h.tab;exact ⟨b,es,c,h1,h2,by omega⟩,h.ht,⟨fun s=>by have:=h.good.len s;omega,h.good.num,h.good.key,h.good.rise,h.good.top0⟩⟩
theorem put_any (t:Nat) (F:List UInt8→List Ver) (top:Int) (m:Nat) (S:Nat→Prop) (s:List UInt8) (hs:s.length≤maxLen) (v:Ver) (hv:v.val.length≤maxLen) (hm:m < 1000000) (w:World) (hT:TblAt w S t F top m) :
  Calls Tryz.prog 105 #[.pointer (some ⟨t,0,none⟩),txt s,verV v] w fun e w'=>e=.returned (faultV (putE s v top))∧Fr S w w' ∧
   TblAt w' (plus S w) t (if putE s v top=0 then putV F s v else F) (if putE s v top=0 then v.n else top) (m+1):=by
 have hT0:=hT
 obtain ⟨⟨b,es,clock,hB,hM,hn⟩,ht,hg⟩:=hT
 by_cases hp:putE s v top=0
 ·simp only [hp,if_true]
  cases hl:(F s).getLast? with
  | none =>
   have hF:F s=[]:=List.getLast?_eq_none_iff.1 hl
   refine (put_more t F top m b S es clock s hs v hv hm w hB hM hn ht hg hp (.slice none 0 0) (by rw [hF];exact World.ownsRow_nil _ _ _ _) (.inr ⟨rfl,hF,fun r q=>(hM.rows s r q).1 hF⟩) (by rw [hl];simp)).mono ?_
   rintro e w' ⟨rfl,h1,h2⟩
   refine ⟨rfl,h1,?_⟩
   have:putV F s v=upd F s (F s++[v]):=by unfold putV addV;rw [hl,hF];rfl
   rw [this]
   exact h2
  | some x =>
   have hne:F s≠[]:=fun h=>by rw [h] at hl;cases hl
   obtain ⟨u,hu⟩:=hM.tells s hne
   by_cases hx:x.n=v.n
   ·refine (put_last t F top m b S es clock s hs v hv hm w hB hM hn ht hg hp u (hM.rows s u hu).2 hu x hl hx).mono ?_
    rintro e w' ⟨rfl,h1,h2⟩
    refine ⟨rfl,h1,?_⟩
    have:putV F s v=upd F s ((F s).dropLast++[v]):=by unfold putV addV;rw [hl];simp only [if_pos hx]
    rw [this]
    exact h2
   ·refine (put_more t F top m b S es clock s hs v hv hm w hB hM hn ht hg hp u (hM.rows s u hu).2 (.inl hu) (fun y hy=>by rw [hl] at hy;cases hy;exact hx)).mono ?_
    rintro e w' ⟨rfl,h1,h2⟩
    refine ⟨rfl,h1,?_⟩
    have:putV F s v=upd F s (F s++[v]):=by unfold putV addV;rw [hl];simp only [if_neg hx]
    rw [this]
    exact h2
 ·simp only [if_neg hp]
  refine (put_bad t _ top s hs v hv w hB hp).mono ?_
  rintro e w' ⟨rfl,h1⟩
  exact ⟨rfl,Fr.of_below h1,((hT0.below h1).more).mono plus.old⟩
def putF (F:List UInt8→List Ver) (s:List UInt8) (v:Ver) (top:Int):List UInt8→List Ver:=if putE s v top=0 then putV F s v else F
def putT (s:List UInt8) (v:Ver) (top:Int):Int:=if putE s v top=0 then v.n else top
theorem Put_any (t:Nat) (F:List UInt8→List Ver) (top:Int) (m:Nat) (S:Nat→Prop) (s:List UInt8) (hs:s.length≤maxLen) (l:List UInt8) (hv:l.length≤maxLen) (n:Int) (hm:m < 1000000) (w:World) (hT:TblAt w S t F top m) :
  Calls Tryz.prog 64 #[.pointer (some ⟨t,0,none⟩),txt s,txt l,.int .i64 n] w fun e w'=>e=.returned (faultV (putE s ⟨n,l,false⟩ top))∧Fr S w w' ∧
   TblAt w' (plus S w) t (putF F s ⟨n,l,false⟩ top) (putT s ⟨n,l,false⟩ top) (m+1):=by
 have HP:=Hd (put_any t F top m S s hs ⟨n,l,false⟩ hv hm w hT)
 go_enter Tryz.func64,Tryz.ntmps64
 go_wp2_with fail
 refine HP.out.mono ?_
 rintro e w1 ⟨rfl,h1,h2⟩
 have H2:=Hd h2
 clear h2
 go_wp2
 go_ret
 exact ⟨rfl,h1,H2.out⟩
theorem Drop_any (t:Nat) (F:List UInt8→List Ver) (top:Int) (m:Nat) (S:Nat→Prop) (s:List UInt8) (hs:s.length≤maxLen) (n:Int) (hm:m < 1000000) (w:World) (hT:TblAt w S t F top m) :
  Calls Tryz.prog 63 #[.pointer (some ⟨t,0,none⟩),txt s,.int .i64 n] w fun e w'=>e=.returned (faultV (putE s ⟨n,[],true⟩ top))∧Fr S w w' ∧
   TblAt w' (plus S w) t (putF F s ⟨n,[],true⟩ top) (putT s ⟨n,[],true⟩ top) (m+1):=by
 have HP:=Hd (put_any t F top m S s hs ⟨n,[],true⟩ (by simp) hm w hT)
 go_enter Tryz.func63,Tryz.ntmps63
 go_wp2_with fail
 refine HP.out.mono ?_
 rintro e w1 ⟨rfl,h1,h2⟩
 have H2:=Hd h2
 clear h2
 go_wp2
 go_ret
 exact ⟨rfl,h1,H2.out⟩
attribute [local go_sem ↓] Go.wp_at_zero Go.wp_at_succ
section
variable {P : Program} {w : World}
theorem step_append_one {ops:Array Oper} {o:Oper} {a:Act} {K:Act→World→Prop} {Q:Exit→Act→World→Prop} {E:Prop} (hgd:o.guard=none) (s x:Operand) (t:TypeId)
  (ho:o.op=.call { callee:=.builtin .append,args:=#[s,x],argTypes:=#[t,t] }) (e:TypeId) (ht:P.underlying t=some (.slice e)) (z:Value) (bytes:Nat)
  (hinfo:(P.info? e).map (fun i=>(i.zero,i.size,i.bytes))=some (some z,1,bytes)) (hzs:z.cells.size=1) (hby:bytes≤1024)
  (base:Nat) (v:Value) (n:Nat) (xs:List Value) (hs:a.eval s=v) (hown:w.ownsRow base e 1 v n xs)
  (H:Nat) (u:Value) (hx:a.eval x=.slice (some ⟨H,0,none⟩) 1 1) (hH:w.cell? ⟨H,0,none⟩=some u) (h1:u.oneCell'=true) (hlen:n < 10000000000) (hbase:base≤w.heap.size)
  (h:∀ v' w',w'.ownsRow base e 1 v' (n+1) (xs++[u])→w.grownBy w' v.ownBlock→(v'.ownBlock=v.ownBlock∨v'.ownBlock=some w.heap.size)→K (a.put o.dst v') w') :
  if Region.wanted o (yielded ops a.tmps)=true then Oper.wp P o a w K Q else E:=by
 have hw:Region.wanted o (yielded ops a.tmps)=true:=by simp [Region.wanted,hgd]
 rw [if_pos hw]
 obtain ⟨i0,hi0,hz0,hz1,hz2⟩:=info_parts hinfo
 obtain ⟨v',w',hr,g1,g2,_,g4⟩:=run_append_own_at (P:=P) w base t o.type e i0 z 1 bytes ht hi0 hz0 hz1 hz2 hzs (by decide) v n xs hown ⟨H,0,none⟩ 1 1 [u] rfl (by
  intro j u' hj
  match j,hj with
  | 0,hj=>simp at hj;subst hj;simpa [Addr.add] using hH
  | j+1,hj=>simp at hj) (by intro u' hu;simp at hu;subst hu;exact h1) (by unfold maxLen;omega) (by have:=Nat.mul_le_mul (show n+1≤10000000000 by omega) hby;omega) hbase
 unfold Oper.wp execOp
 simp only [ho,resolve,invoke,builtin,Sem.run_bind,Sem.run_pure,Result.andThen_ok,List.map_toArray,List.map_cons,List.map_nil,hs,hx,hr]
 exact h v' w' g1 g2 g4
theorem step_append_str {ops:Array Oper} {o:Oper} {a:Act} {K:Act→World→Prop} {Q:Exit→Act→World→Prop} {E:Prop} (hgd:o.guard=none) (s x:Operand) (t u:TypeId)
  (ho:o.op=.call { callee:=.builtin .append,args:=#[s,x],argTypes:=#[t,u] }) (e:TypeId) (ht:P.underlying t=some (.slice e)) (hu:P.underlying u=some .string)
  (hinfo:(P.info? e).map (fun i=>(i.zero,i.size,i.bytes))=some (some (.int .u8 0),1,1))
  (base:Nat) (v:Value) (n:Nat) (xs:List Value) (hs:a.eval s=v) (hown:w.ownsRow base e 1 v n xs) (l:List UInt8) (hx:a.eval x=strV l) (hlen:n+l.length < 10000000000) (hbase:base≤w.heap.size)
  (h:∀ v' w',w'.ownsRow base e 1 v' (n+l.length) (xs++bytesV l)→w.grownBy w' v.ownBlock→K (a.put o.dst v') w') :
  if Region.wanted o (yielded ops a.tmps)=true then Oper.wp P o a w K Q else E:=by
 have hw:Region.wanted o (yielded ops a.tmps)=true:=by simp [Region.wanted,hgd]
 rw [if_pos hw]
 obtain ⟨i0,hi0,hz0,hz1,hz2⟩:=info_parts hinfo
 obtain ⟨v',w',hr,g1,g2,_⟩:=Lib.run_append_own_string (P:=P) w base t u o.type e i0 ht hu hi0 hz0 hz1 hz2 v n xs hown ⟨l.toArray⟩ (by rw [size_mk];unfold maxLen;omega) (by rw [size_mk];omega) hbase
 rw [size_mk,strCells_mk] at g1
 unfold Oper.wp execOp
 simp only [ho,resolve,invoke,builtin,Sem.run_bind,Sem.run_pure,Result.andThen_ok,List.map_toArray,List.map_cons,List.map_nil,hs,hx,hr]
 exact h v' w' g1 g2
end
theorem all_one:∀ (p:Option Chg) (l:List Chg),riseOk p l=true→∀ c ∈ l,oneOk c=true
 | _,[],_,c,hc=>by cases hc
 | p,d::l,h,c,hc=>by
  simp only [riseOk,Bool.and_eq_true] at h
  rcases List.mem_cons.1 hc with rfl | hc
  ·exact h.1.1
  ·exact all_one (some d) l h.2 c hc
theorem one_facts {c:Chg} (h:oneOk c=true):c.key.length≤24∧c.val.length≤12:=by
 simp only [oneOk,Bool.and_eq_true,decide_eq_true_eq] at h
 exact ⟨h.1.1.2,h.1.2⟩
theorem encs_append:∀ (a b:List Chg),encs (a++b)=encs a++encs b
 | [],b=>rfl
 | c::a,b=>by simp [encs,encs_append a b]
theorem encs_take {l:List Chg} {k:Nat} (h:k < l.length):encs (l.take (k+1))=encs (l.take k)++enc1 l[k]:=by
 rw [List.take_succ_eq_append_getElem h,encs_append]
 simp [encs]
theorem rise_take:∀ {p:Option Chg} {l:List Chg},riseOk p l=true→∀ k,riseOk p (l.take k)=true
 | _,[],_,k=>by simp [riseOk]
 | p,c::l,h,0=>by simp [riseOk]
 | p,c::l,h,k+1=>by
  rw [riseOk_cons,Bool.and_eq_true,Bool.and_eq_true] at h
  rw [List.take_succ_cons,riseOk_cons,h.1.1,h.1.2,rise_take h.2 k]
  rfl
theorem own_built (w:World) (e:TypeId) (u:Value) {base:Nat} (hb:base≤w.heap.size):(w.alloc (.cells #[u] e)).ownsRow base e 1 (.slice (some ⟨w.heap.size,0,none⟩) 1 1) 1 [u] :=
 ⟨rfl,.inr ⟨w.heap.size,1,#[u],rfl,hb,heap_alloc_new w _,Nat.le_refl _,by simp [maxLen],rfl,rfl⟩⟩
theorem own_ne {g H:Nat} {u v:Value} (h:v.ownBlock=u.ownBlock∨v.ownBlock=some H) (h1:some g≠u.ownBlock) (h2:g≠H):some g≠v.ownBlock:=by
 rcases h with h | h <;> rw [h]
 ·exact h1
 ·simpa using h2
theorem enc_gone (x:UInt8) {l:List Chg} {k:Nat} (h:k < l.length) (hg:l[k].gone=true) (hk:l[k].key.length≤24) :
  1+(encs (l.take (k+1))).length=1+(encs (l.take k)).length+1+l[k].key.length ∧
  bytesV (x::encs (l.take (k+1)))=bytesV (x::encs (l.take k))++[.int .u8 ((l[k].key.length:Int)+128)]++bytesV l[k].key:=by
 rw [encs_take h]
 constructor
 ·simp [enc1,hg];omega
 ·have e:(l[k].key.length+128) % 256=l[k].key.length+128:=by omega
  simp [bytesV,enc1,hg,e]
theorem enc_kept (x:UInt8) {l:List Chg} {k:Nat} (h:k < l.length) (hg:l[k].gone=false) (hk:l[k].key.length≤24) (hv:l[k].val.length≤12) :
  1+(encs (l.take (k+1))).length=1+(encs (l.take k)).length+1+l[k].key.length+1+l[k].val.length ∧
  bytesV (x::encs (l.take (k+1)))=bytesV (x::encs (l.take k))++[.int .u8 (l[k].key.length:Int)]++bytesV l[k].key++[.int .u8 (l[k].val.length:Int)]++bytesV l[k].val:=by
 rw [encs_take h]
 constructor
 ·simp [enc1,hg];omega
 ·have e:l[k].key.length % 256=l[k].key.length:=by omega
  have e2:l[k].val.length % 256=l[k].val.length:=by omega
  simp [bytesV,enc1,hg,e,e2]
theorem u8_small {n:Nat} (h:n < 256):IntKind.u8.wrap (n:Int)=n:=by
 rw [IntKind.wrap_u8]
 omega
theorem own_not_string {w:World} {base n g:Nat} {e:TypeId} {v:Value} {xs:List Value} {k:IntKind} {z:Int} {s:ByteArray} (h:w.ownsRow base e 1 v n xs) (hx:xs[0]?=some (.int k z)) (hc:w.cell? ⟨g,0,none⟩=some (.string s)):some g≠v.ownBlock:=by
 intro he
 rcases h.2 with ⟨rfl,_⟩ | ⟨g',cap,cur,rfl,_⟩
 ·simp [Value.ownBlock] at he
 ·have hg:g=g':=by simpa [Value.ownBlock] using he
  subst hg
  have:=h.cells (g:=g) rfl 0 _ hx
  simp [Addr.add,hc] at this
theorem encode_bad (A:Option Addr) (l:List Chg) (c:Nat) (hm:l.length≤maxLen) (hS:Small l) (hf:chgFault l≠0) (w:World) (hl:Rd w w.heap.size A (cellsC l)) :
  Calls Tryz.prog 61 #[.slice A l.length c] w fun e w'=>e=.returned (.tuple #[.slice none 0 0,.iface 71 (.int .i64 (chgFault l))])∧Below w.heap.size w w':=by
 have HE:=Hd (show errV (chgFault l)=.iface 71 (.int .i64 (chgFault l)) by unfold errV;rw [if_neg hf])
 go_enter Tryz.func61,Tryz.ntmps61
 go_wp2_with fail
 refine (check_any A l c hm hS _ hl).mono ?_
 rintro e w1 ⟨rfl,hb1⟩
 rw [HE.out]
 go_wp2
 go_ret2
 exact ⟨rfl,hb1⟩
theorem encode_ok (A:Option Addr) (l:List Chg) (c:Nat) (hm:l.length≤maxLen) (hS:Small l) (hf:chgFault l=0) (w:World) (hl:Rd w w.heap.size A (cellsC l)) :
  Calls Tryz.prog 61 #[.slice A l.length c] w fun e w'=>∃ v,e=.returned (.tuple #[v,.nilIface])∧w'.ownsRow w.heap.size 5 1 v (encL l).length (bytesV (encL l))∧Below w.heap.size w w':=by
 have HE:=Hd (show errV (chgFault l)=.nilIface by unfold errV;rw [if_pos hf])
 obtain ⟨h20,hrise⟩:=chgFault_zero.1 hf
 have HR:=Hd hrise
 clear hrise hf
 have hw:wrap64 (l.length:Int)=l.length:=by unfold maxLen at hm;unfold wrap64;omega
 go_enter Tryz.func61,Tryz.ntmps61
 go_wp2_with fail
 refine (check_any A l c hm hS _ hl).mono ?_
 rintro e w1 ⟨rfl,hb1⟩
 rw [HE.out]
 have hs1:=hb1.size
 go_wp2
 go_loopw [5,7,8,20] (fun v _ _ i wr=>∃ k:Nat,k≤l.length∧i=.int .i64 k∧Below w.heap.size w wr∧wr.ownsRow w.heap.size 5 1 v (1+(encs (l.take k)).length) (bytesV (UInt8.ofNat l.length::encs (l.take k)))) (fun _ _ _ i _=>l.length - (intOf i).toNat)
 case atStart =>
  refine ⟨0,Nat.zero_le _,rfl,hb1.alloc hs1 _,?_⟩
  have:=own_built w1 5 (.int .u8 (l.length:Int)) hs1
  simpa [bytesV,encs,Nat.mod_eq_of_lt (show l.length < 256 by omega)] using this
 case round =>
  obtain ⟨k,hk,rfl,hb,hown⟩:=hrel
  by_cases hlt:k < l.length
  ·obtain ⟨b,off,rfl,hbb,c0,c1,c2⟩:=(hl.below hb).chg hlt
   have hs:=hb.size
   obtain ⟨hkey,hval⟩:=one_facts (all_one _ _ HR.out l[k] (List.getElem_mem _))
   have htk:=encs_take hlt
   rcases hgo:l[k].gone with _ | _
   ·rw [hgo] at c2
    go_wp2_with fail
    refine wp_name ?_
    intro w2 hW2
    have hB2:Blk w2 wr.heap.size 112 #[strV l[k].key,strV l[k].val,.bool false]:=by rw [hW2.out];exact Blk.new _ _ _
    have hbw2:Below w.heap.size w w2:=by rw [hW2.out];exact hb.alloc hs _
    have hown2:=hown.alloc (.cells #[strV l[k].key,strV l[k].val,.bool false] 112)
    have hsz2:w2.heap.size=wr.heap.size+1:=by rw [hW2.out];simp
    have hown2:w2.ownsRow w.heap.size 5 1 u5 (1+(encs (l.take k)).length) (bytesV (UInt8.ofNat l.length::encs (l.take k))):=by rw [hW2.out];exact hown2
    have hne2:some wr.heap.size≠u5.ownBlock:=fun h=>by have:=(hown.lt _ h.symm).2;omega
    have hlenk:(encs (l.take k)).length≤38 * 20:=by
     have:=encs_length (l.take k) none (rise_take HR.out k);have h2:(l.take k).length≤20:=by simp;omega
     omega
    obtain ⟨x0,x1,x2⟩:=hB2.cls3
    simp at x0 x1 x2
    have HSZ:=Hd hsz2
    clear hW2 c0 c1 c2 hsz2
    go_region_held3 (fun w'=>w'.cell? ⟨wr.heap.size,0,none⟩=some (strV l[k].key)∧w'.cell? ⟨wr.heap.size,1,none⟩=some (strV l[k].val)∧w'.cell? ⟨wr.heap.size,2,none⟩=some (.bool false))
     (first
      | go_keep
      | (go_split_ands;refine ⟨?_,?_,?_⟩ <;> (rw [hgrowB.cell_far _ (by simp;have:=HSZ.out;omega) hneB];assumption))
      | (go_split_ands;refine ⟨?_,?_,?_⟩ <;> (rw [hgrowA.cell_far _ (by simp;have:=HSZ.out;omega) hne2];assumption)))
     (first
      | (refine step_append_one (by rfl) _ _ 101 (by rfl) 5 Tryz.underlying101 _ 1 infoU8 (by rfl) (by decide) w.heap.size u5 _ _ (by rfl) ((hown2.alloc _).drew) w2.heap.size (.int .u8 (l[k].key.length:Int)) (by rfl) (by simp) (by rfl) (by omega) (by simp;have:=HSZ.out;omega) ?_;intro vA wA hownA hgrowA hatA;have hneB:=own_ne hatA hne2 (by simp;have:=HSZ.out;omega);have hszA:=hgrowA.size;simp at hszA)
      | (refine step_append_str (by rfl) _ _ 101 9 (by rfl) 5 Tryz.underlying101 Tryz.underlying9 infoU8 w.heap.size vA _ _ (by rfl) hownA l[k].key (by rfl) (by omega) (by have:=HSZ.out;omega) ?_;intro vB wB hownB hgrowB))
    have hbA:Below w.heap.size w wA:=((hbw2.alloc (by have:=HSZ.out;omega) _).drew).grown hgrowA (by simp;have:=HSZ.out;omega) (fun k hk=>(hown2.lt k hk).1)
    have hbB:Below w.heap.size w wB:=hbA.grown hgrowB (by have:=HSZ.out;omega) (fun k hk=>(hownA.lt k hk).1)
    have y0:wB.cell? ⟨wr.heap.size,0,none⟩=some (strV l[k].key):=by first | assumption | (go_split_ands;assumption)
    have y1:wB.cell? ⟨wr.heap.size,1,none⟩=some (strV l[k].val):=by first | assumption | (go_split_ands;assumption)
    have y2:wB.cell? ⟨wr.heap.size,2,none⟩=some (.bool false):=by first | assumption | (go_split_ands;assumption)
    have hszB:=hgrowB.size
    have hneC:some wr.heap.size≠vB.ownBlock:=own_not_string (k:=.u8) (z:=((UInt8.ofNat l.length).toNat:Int)) hownB (by simp [bytesV]) y0
    clear hown2 hown hownA hgrowA hgrowB hatA hneB
    go_wp2_with fail
    go_region_held3 (fun w'=>w'.cell? ⟨wr.heap.size,0,none⟩=some (strV l[k].key)∧w'.cell? ⟨wr.heap.size,1,none⟩=some (strV l[k].val)∧w'.cell? ⟨wr.heap.size,2,none⟩=some (.bool false))
     (first
      | go_keep
      | (go_split_ands;refine ⟨?_,?_,?_⟩ <;> (rw [hgrowD.cell_far _ (by simp;have:=HSZ.out;omega) hneD];assumption))
      | (go_split_ands;refine ⟨?_,?_,?_⟩ <;> (rw [hgrowC.cell_far _ (by simp;have:=HSZ.out;omega) hneC];assumption)))
     (first
      | (refine step_append_one (by rfl) _ _ 101 (by rfl) 5 Tryz.underlying101 _ 1 infoU8 (by rfl) (by decide) w.heap.size vB _ _ (by rfl) ((hownB.alloc _).drew) wB.heap.size (.int .u8 (IntKind.u8.wrap (l[k].val.length:Int))) (by rfl) (by simp) (by rfl) (by omega) (by simp;have:=HSZ.out;omega) ?_;intro vC wC hownC hgrowC hatC;have hneD:=own_ne hatC hneC (by simp;have:=HSZ.out;omega);have hszC:=hgrowC.size;simp at hszC)
      | (refine step_append_str (by rfl) _ _ 101 9 (by rfl) 5 Tryz.underlying101 Tryz.underlying9 infoU8 w.heap.size vC _ _ (by rfl) hownC l[k].val (by rfl) (by omega) (by have:=HSZ.out;omega) ?_;intro vD wD hownD hgrowD))
    have hbC:Below w.heap.size w wC:=((hbB.alloc (by have:=HSZ.out;omega) _).drew).grown hgrowC (by simp;have:=HSZ.out;omega) (fun k hk=>(hownB.lt k hk).1)
    have hbD:Below w.heap.size w wD:=hbC.grown hgrowD (by have:=HSZ.out;omega) (fun k hk=>(hownC.lt k hk).1)
    obtain ⟨e1,e2⟩:=enc_kept (UInt8.ofNat l.length) hlt hgo (by omega) (by omega)
    rw [u8_small (show l[k].val.length < 256 by omega)] at hownD
    clear hownB hownC hgrowC hgrowD hatC
    have HOD:=Hd hownD
    clear hownD
    go_wp2_with fail
    go_roundw
    case rel=>exact ⟨k+1,by omega,by go_num,hbD,by rw [e1,e2];exact HOD.out⟩
    case measure=>simp [intOf];omega
   ·rw [hgo] at c2
    go_wp2_with fail
    refine wp_name ?_
    intro w2 hW2
    have hB2:Blk w2 wr.heap.size 112 #[strV l[k].key,strV l[k].val,.bool true]:=by rw [hW2.out];exact Blk.new _ _ _
    have hbw2:Below w.heap.size w w2:=by rw [hW2.out];exact hb.alloc hs _
    have hown2:=hown.alloc (.cells #[strV l[k].key,strV l[k].val,.bool true] 112)
    have hsz2:w2.heap.size=wr.heap.size+1:=by rw [hW2.out];simp
    have hown2:w2.ownsRow w.heap.size 5 1 u5 (1+(encs (l.take k)).length) (bytesV (UInt8.ofNat l.length::encs (l.take k))):=by rw [hW2.out];exact hown2
    have hne2:some wr.heap.size≠u5.ownBlock:=fun h=>by have:=(hown.lt _ h.symm).2;omega
    have hlenk:(encs (l.take k)).length≤38 * 20:=by
     have:=encs_length (l.take k) none (rise_take HR.out k);have h2:(l.take k).length≤20:=by simp;omega
     omega
    obtain ⟨x0,x1,x2⟩:=hB2.cls3
    simp at x0 x1 x2
    have HSZ:=Hd hsz2
    clear hW2 c0 c1 c2 hsz2
    go_region_held3 (fun w'=>w'.cell? ⟨wr.heap.size,0,none⟩=some (strV l[k].key)∧w'.cell? ⟨wr.heap.size,1,none⟩=some (strV l[k].val)∧w'.cell? ⟨wr.heap.size,2,none⟩=some (.bool true))
     (first
      | go_keep
      | (go_split_ands;refine ⟨?_,?_,?_⟩ <;> (rw [hgrowB.cell_far _ (by simp;have:=HSZ.out;omega) hneB];assumption))
      | (go_split_ands;refine ⟨?_,?_,?_⟩ <;> (rw [hgrowA.cell_far _ (by simp;have:=HSZ.out;omega) hne2];assumption)))
     (first
      | (refine step_append_one (by rfl) _ _ 101 (by rfl) 5 Tryz.underlying101 _ 1 infoU8 (by rfl) (by decide) w.heap.size u5 _ _ (by rfl) ((hown2.alloc _).drew) w2.heap.size (.int .u8 ((l[k].key.length:Int)+128)) (by rfl) (by simp) (by rfl) (by omega) (by simp;have:=HSZ.out;omega) ?_;intro vA wA hownA hgrowA hatA;have hneB:=own_ne hatA hne2 (by simp;have:=HSZ.out;omega);have hszA:=hgrowA.size;simp at hszA)
      | (refine step_append_str (by rfl) _ _ 101 9 (by rfl) 5 Tryz.underlying101 Tryz.underlying9 infoU8 w.heap.size vA _ _ (by rfl) hownA l[k].key (by rfl) (by omega) (by have:=HSZ.out;omega) ?_;intro vB wB hownB hgrowB))
    have hbA:Below w.heap.size w wA:=((hbw2.alloc (by have:=HSZ.out;omega) _).drew).grown hgrowA (by simp;have:=HSZ.out;omega) (fun k hk=>(hown2.lt k hk).1)
    have hbB:Below w.heap.size w wB:=hbA.grown hgrowB (by have:=HSZ.out;omega) (fun k hk=>(hownA.lt k hk).1)
    obtain ⟨e1,e2⟩:=enc_gone (UInt8.ofNat l.length) hlt hgo (by omega)
    clear hown2 hown hownA hgrowA hgrowB hatA
    have HOB:=Hd hownB
    clear hownB
    go_wp2_with fail
    go_roundw
    case rel=>exact ⟨k+1,by omega,by go_num,hbB,by rw [e1,e2];exact HOB.out⟩
    case measure=>simp [intOf];omega
  ·obtain rfl:k=l.length:=by omega
   have HO:=Hd hown
   clear hown
   go_wp2
   go_ret2
   have hown:=HO.out
   rw [List.take_length] at hown
   refine ⟨_,rfl,?_,hb⟩
   simp only [encL,List.length_cons]
   rw [Nat.add_comm]
   exact hown
section
variable {w wr : World} {A : Option Addr} {c : Nat} {r : List UInt8} {v : Value} {outs : List Chg}
end
theorem own_form2 {w:World} {base size n:Nat} {e:TypeId} {v:Value} {xs:List Value} (h:w.ownsRow base e size v n xs):∃ A c,v=.slice A n c∧n≤c∧Rd w w.heap.size A xs:=by
 rcases h.2 with ⟨h1,h2⟩ | ⟨g,cap,cur,hv,_,_,hc,_⟩
 ·obtain ⟨A,c,h3,h4⟩:=own_form h
  exact ⟨A,c,h3,by omega,h4⟩
 ·obtain ⟨A,c,h3,h4⟩:=own_form h
  refine ⟨A,c,h3,?_,h4⟩
  rw [hv] at h3
  injection h3 with _ _ h3
  omega
structure LK (w w':World) (g:Nat) (v:Value):Prop where
 os:w'.os=w.os
 tape:w'.tape=w.tape
 output:w'.output=w.output
 size:w.heap.size≤w'.heap.size
 block:∀ k,k < w.heap.size→k≠g→some k≠v.ownBlock→w'.heap[k]?=w.heap[k]?
def Fresh (w:World) (v v':Value):Prop:=∀ k,v'.ownBlock=some k→k < w.heap.size→v.ownBlock=some k
theorem LK.refl (w:World) (g:Nat) (v:Value):LK w w g v:=⟨rfl,rfl,rfl,Nat.le_refl _,fun _ _ _ _=>rfl⟩
theorem Fresh.refl (w:World) (v:Value):Fresh w v v:=fun _ h _=>h
theorem LK.trans {a b c:World} {g:Nat} {v v':Value} (h:LK a b g v) (h2:LK b c g v') (hf:Fresh a v v'):LK a c g v :=
 ⟨h2.os.trans h.os,h2.tape.trans h.tape,h2.output.trans h.output,Nat.le_trans h.size h2.size,fun k hk h1 h3=>by
  rw [h2.block k (Nat.lt_of_lt_of_le hk h.size) h1 (fun e=>h3 (hf k e.symm hk).symm),h.block k hk h1 h3]⟩
theorem LK.of_below {w w':World} {g:Nat} {v:Value} (h:Below w.heap.size w w'):LK w w' g v:=⟨h.os,h.tape,h.output,h.size,fun k hk _ _=>h.block k hk⟩
theorem LK.of_grown {w w':World} {g:Nat} {v:Value} (h:w.grownBy w' v.ownBlock):LK w w' g v:=⟨h.os,h.tape,h.output,h.size,fun k hk _ h2=>h.block k hk h2⟩
theorem LK.setCell {w w':World} {g:Nat} {v:Value} (h:LK w w' g v) (i:Nat) (u:Value):LK w (w'.setCell ⟨g,i,none⟩ u) g v :=
 ⟨h.os,h.tape,h.output,by simpa using h.size,fun k hk h1 h2=>by
  rw [← h.block k hk h1 h2]
  simp [World.setCell,Array.getElem?_modify]
  intro e;exact absurd e.symm h1⟩
theorem own_blk {w:World} {base size n g:Nat} {e t:TypeId} {v:Value} {xs:List Value} {cs:Array Value} (h:w.ownsRow base e size v n xs) (hB:Blk w g t cs) (he:e≠t):some g≠v.ownBlock:=by
 intro hk
 rcases h.2 with ⟨rfl,_⟩ | ⟨g2,cap,cur,rfl,_,hh,_⟩
 ·simp [Value.ownBlock] at hk
 ·simp [Value.ownBlock] at hk
  subst hk
  unfold Blk at hB
  rw [hh] at hB
  injection hB with hB
  injection hB with _ hB
  exact he hB
theorem own_LK {w w':World} {base size n g:Nat} {e:TypeId} {v u:Value} {xs:List Value} (h:w.ownsRow base e size v n xs) (hk:LK w w' g u) (h1:some g≠v.ownBlock) (h2:∀ k,v.ownBlock=some k→some k≠u.ownBlock):w'.ownsRow base e size v n xs:=by
 rcases h.2 with ⟨h3,h4⟩ | ⟨g2,cap,cur,rfl,hb,hh,r⟩
 ·exact ⟨h.1,.inl ⟨h3,h4⟩⟩
 ·refine ⟨h.1,.inr ⟨g2,cap,cur,rfl,hb,?_,r⟩⟩
  rw [hk.block g2 (Array.getElem?_eq_some_iff.1 hh).1 (fun e=>h1 (by simp [Value.ownBlock,e])) (h2 g2 rfl)]
  exact hh
structure LogAt (w:World) (b0 g:Nat) (v:Value) (left:Int) (down:Bool) (room:Int) (B:List UInt8) (safe:Nat):Prop where
 hB:Blk w g 145 #[.int .i64 left,.bool down,.int .i64 room,v,.int .i64 safe]
 hg:b0≤g
 ho:w.ownsRow b0 5 1 v B.length (bytesV B)
 hl:-1≤left∧left≤9223372036854775807
 hr:0≤room∧room≤100000∧(B.length:Int)≤room
 hs:safe≤B.length
 hb:b0≤w.heap.size
section
variable {w w' : World} {b0 g : Nat} {v : Value} {left room : Int} {down : Bool} {B : List UInt8} {safe : Nat}
theorem LogAt.ne (h:LogAt w b0 g v left down room B safe):some g≠v.ownBlock:=own_blk h.ho h.hB (by decide)
theorem LogAt.cells (h:LogAt w b0 g v left down room B safe):(w.cell? ⟨g,0,none⟩=some (.int .i64 left)∧w.cell? ⟨g,1,none⟩=some (.bool down)∧w.cell? ⟨g,2,none⟩=some (.int .i64 room)∧w.cell? ⟨g,3,none⟩=some v∧w.cell? ⟨g,4,none⟩=some (.int .i64 safe)) ∧
  w.frozen? ⟨g,0,none⟩=false∧w.frozen? ⟨g,1,none⟩=false∧w.frozen? ⟨g,3,none⟩=false∧w.frozen? ⟨g,4,none⟩=false :=
 ⟨⟨h.hB.cell 0,h.hB.cell 1,h.hB.cell 2,h.hB.cell 3,h.hB.cell 4⟩,h.hB.frozen 0,h.hB.frozen 1,h.hB.frozen 3,h.hB.frozen 4⟩
theorem LogAt.below (h:LogAt w b0 g v left down room B safe) (hb:Below w.heap.size w w'):LogAt w' b0 g v left down room B safe :=
 ⟨h.hB.below hb h.hB.lt,h.hg,own_below h.ho hb,h.hl,h.hr,h.hs,Nat.le_trans h.hb hb.size⟩
def LogTo (w:World) (b0 g:Nat) (v:Value) (left:Int) (down:Bool) (room:Int) (B:List UInt8) (safe:Nat) (w':World):Prop :=
 ∃ v',LogAt w' b0 g v' left down room B safe∧LK w w' g v∧Fresh w v v'
theorem LogAt.write (h:LogAt w b0 g v left down room B safe) {left':Int} {down':Bool} {safe':Nat} (hk:LK w w' g .nilIface) (hB:Blk w' g 145 #[.int .i64 left',.bool down',.int .i64 room,v,.int .i64 safe'])
  (hl:-1≤left'∧left'≤9223372036854775807) (hs:safe'≤B.length):LogAt w' b0 g v left' down' room B safe' :=
 ⟨hB,h.hg,own_LK h.ho hk h.ne (fun k hk e=>by simp [Value.ownBlock] at e),hl,h.hr,hs,Nat.le_trans h.hb hk.size⟩
end
theorem step_any (g:Nat) (left:Int) (down:Bool) (r v s:Value) (hl:-1≤left∧left≤9223372036854775807) (w:World) (hB:Blk w g 145 #[.int .i64 left,.bool down,r,v,s]) :
  Calls Tryz.prog 62 #[.pointer (some ⟨g,0,none⟩)] w fun e w'=>e=.returned (.bool (left != 0))∧Blk w' g 145 #[.int .i64 (leftS left),.bool (left == 0),r,v,s]∧LK w w' g .nilIface:=by
 have x0:=hB.cell 0
 have x1:=hB.cell 1
 have z0:=hB.frozen 0
 have z1:=hB.frozen 1
 simp at x0 x1
 by_cases h0:left=0
 ·subst h0
  go_enter Tryz.func62,Tryz.ntmps62
  go_wp2
  go_ret
  exact ⟨rfl,(hB.setCell 1 (.bool true)).setCell 0 (.int .i64 (-1)),((LK.refl w g .nilIface).setCell 1 _).setCell 0 _⟩
 ·have e0:(left == 0)=false:=by simpa using h0
  have HL:=Hd e0
  by_cases h1:0≤left
  ·have HS:=Hd (show leftS left=left - 1 by unfold leftS;rw [if_pos h1])
   go_enter Tryz.func62,Tryz.ntmps62
   go_wp2
   go_ret
   refine ⟨by simp [h0],?_,((LK.refl w g .nilIface).setCell 1 _).setCell 0 _⟩
   rw [HS.out,HL.out]
   exact (hB.setCell 1 (.bool false)).setCell 0 (.int .i64 (left - 1))
  ·have HS:=Hd (show leftS left=left by unfold leftS;rw [if_neg h1])
   go_enter Tryz.func62,Tryz.ntmps62
   go_wp2
   go_ret
   refine ⟨by simp [h0],?_,(LK.refl w g .nilIface).setCell 1 _⟩
   rw [HS.out]
   first | rw [HL.out] | skip
   exact hB.setCell 1 (.bool false)
end Go.Proofs.YtkckcbhnnllkhaaGreatDoor
