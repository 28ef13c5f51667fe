/- Parts of the proof; conditions: as each theorem says. -/
import Derived.Test.YtkckcbhnnllkhaaGreatDoorG11
import Derived.Test.YtkckcbhnnllkhaaGreatDoorG10
import Derived.Test.YtkckcbhnnllkhaaGreatDoorG48
import Derived.Test.YtkckcbhnnllkhaaGreatDoorG20
import Derived.Test.YtkckcbhnnllkhaaGreatDoorG9
import Derived.Test.YtkckcbhnnllkhaaGreatDoorG26
import Derived.Deep.AppendLies
import Derived.Test.YtkckcbhnnllkhaaGreatDoorG44
import Derived.Deep.RegionHeld3
import Derived.Deep.DrawnRows
set_option linter.unusedVariables false
set_option linter.unusedSimpArgs false
set_option maxRecDepth 100000
set_option maxHeartbeats 40000000
namespace Go.Proofs.YtkckcbhnnllkhaaGreatDoor
open Go Go.RowKit Go.MapKept
theorem hasPre (s p:List UInt8) (w:World):Calls Tryz.prog 53 #[txt s,.string ⟨p.toArray⟩] w fun e w'=>e=.returned (.bool (p.isPrefixOf s))∧w'=w:=by
 have h:=Any.strings_HasPrefix layHasP ⟨s.toArray⟩ ⟨p.toArray⟩ w
 rw [data_toList,data_toList] at h
 exact h
theorem cutPre (s p:List UInt8) (w:World):Calls Tryz.prog 87 #[txt s,.string ⟨p.toArray⟩] w fun e w'=>e=.returned (.tuple #[txt (Lib.trimPrefix s p),.bool (p.isPrefixOf s)])∧w'=w:=by
 have h:=Any.strings_CutPrefix layCutP ⟨s.toArray⟩ ⟨p.toArray⟩ w
 rw [data_toList,data_toList] at h
 exact h
theorem pre_n (s:List UInt8):([110,47]:List UInt8).isPrefixOf s=true ↔ ∃ r,s=nKey r:=by
 rw [List.isPrefixOf_iff_prefix]
 constructor
 ·rintro ⟨r,e⟩;exact ⟨r,e.symm⟩
 ·rintro ⟨r,e⟩;exact ⟨r,e.symm⟩
theorem trim_n (r:List UInt8):Lib.trimPrefix (nKey r) [110,47]=r:=by
 unfold Lib.trimPrefix
 simp [nKey,Lib.hasPrefix,List.isPrefixOf]
def netF (l:List KV):List UInt8→Option Int:=fun s=>if netIn l s=true then some 1 else none
def encSp (q:List UInt8 × Int):List Value:=[txt q.1,.int .i64 q.2]
theorem encSp_len (q:List UInt8 × Int):(encSp q).length=2:=rfl
theorem infoSpot:(Tryz.prog.info? 91).map (fun i=>(i.zero,i.size,i.bytes))=some (some (.agg #[.string ByteArray.empty,.int .i64 0]),2,24):=by kernel_rfl
theorem infoPx:(Tryz.prog.info? 31).map (fun i=>(i.zero,i.size,i.bytes))=some (some (.agg #[.int .i64 0,.int .i64 0]),2,16):=by kernel_rfl
theorem zeroRowP (w:World):(zeroValue 44).run Tryz.prog w=.ok (.slice none 0 0) w:=by kernel_rfl
structure SeenX (w:World) (S:Nat→Prop) (b nb pb:Nat) (v:Value) (es1:Array MapEntry) (c1:Nat) (es2:Array MapEntry) (c2:Nat) (Sp:Nat→Prop) (l:List KV):Prop where
 blk:Blk w b 89 #[.map (some nb),.map (some pb),v]
 nets:FMap w Tryz.prog 9 nb es1 c1 txt intV (netF l)
 pfx:PTab w Tryz.prog 9 31 Sp pb es2 c2 (pfxOf l)
 row:w.ownsRow 0 91 2 v (spotsOf l).length (flatE encSp (spotsOf l))
 sb:S b
 sn:S nb
 sv:∀ g,v.ownBlock=some g→S g
 sp:∀ g,Sp g→S g
 bp:¬ Sp b
 np:¬ Sp nb
 vp:∀ g,v.ownBlock=some g→¬ Sp g
 lt:∀ g,S g→g < w.heap.size
 n1:es1.size≤l.length
 n2:es2.size≤l.length
def SeenAt (w:World) (S:Nat→Prop) (b:Nat) (l:List KV):Prop:=∃ nb pb v es1 c1 es2 c2 Sp,SeenX w S b nb pb v es1 c1 es2 c2 Sp l
def SeenTo (w:World) (S:Nat→Prop) (b:Nat) (w':World) (l:List KV):Prop:=∃ S',SeenAt w' S' b l∧Fr S w w'∧∀ g,S' g→S g∨w.heap.size≤g
section
variable {w w' : World} {S : Nat → Prop} {b nb pb : Nat} {v : Value} {es1 : Array MapEntry} {c1 : Nat} {es2 : Array MapEntry} {c2 : Nat} {Sp : Nat → Prop} {l : List KV}
theorem SeenX.row_ne (h:SeenX w S b nb pb v es1 c1 es2 c2 Sp l):(∀ g,v.ownBlock=some g→g≠b∧g≠nb)∧b≠nb:=by
 have hbn:b≠nb:=fun e=>by
  have h1:=h.nets.map.hb
  rw [← e] at h1
  have h2:=h.blk
  unfold Blk at h2
  rw [h2] at h1
  cases h1
 refine ⟨fun g hg=>⟨fun e=>?_,fun e=>row_not_map h.row h.nets.map (by rw [← e];exact hg)⟩,hbn⟩
 subst e
 rcases h.row.2 with ⟨rfl,_⟩ | ⟨g2,cap,cur,rfl,_,hh,_⟩
 ·simp [Value.ownBlock] at hg
 ·simp [Value.ownBlock] at hg
  subst hg
  have h2:=h.blk
  unfold Blk at h2
  rw [h2] at hh
  injection hh with hh
  injection hh with _ hh
  exact absurd hh (by decide)
theorem SeenX.bel (h:SeenX w S b nb pb v es1 c1 es2 c2 Sp l) (hb:Below w.heap.size w w'):SeenX w' S b nb pb v es1 c1 es2 c2 Sp l :=
 ⟨h.blk.below hb h.blk.lt,h.nets.below hb h.nets.map.lt,h.pfx.below hb,own_below h.row hb,h.sb,h.sn,h.sv,h.sp,h.bp,h.np,h.vp,fun g q=>Nat.lt_of_lt_of_le (h.lt g q) hb.size,h.n1,h.n2⟩
theorem SeenX.drew (h:SeenX w S b nb pb v es1 c1 es2 c2 Sp l):SeenX w.drew S b nb pb v es1 c1 es2 c2 Sp l:=h.bel (Below.refl _ _).drew
theorem SeenAt.bel (h:SeenAt w S b l) (hb:Below w.heap.size w w'):SeenAt w' S b l:=by
 obtain ⟨nb,pb,v,es1,c1,es2,c2,Sp,q⟩:=h
 exact ⟨nb,pb,v,es1,c1,es2,c2,Sp,q.bel hb⟩
theorem SeenAt.far {T:Nat→Prop} (h:SeenAt w S b l) (f:Fr T w w') (hd:∀ g,S g→¬ T g):SeenAt w' S b l:=by
 obtain ⟨nb,pb,v,es1,c1,es2,c2,Sp,q⟩:=h
 exact ⟨nb,pb,v,es1,c1,es2,c2,Sp,q.blk.fr f (hd _ q.sb),q.nets.far f (hd _ q.sn),q.pfx.far f (fun g e=>hd g (q.sp g e)),row_keep q.row (fun g e=>f.block g (World.ownsRow.lt q.row g e).2 (hd g (q.sv g e))),q.sb,q.sn,q.sv,q.sp,q.bp,q.np,q.vp,fun g e=>Nat.lt_of_lt_of_le (q.lt g e) f.size,q.n1,q.n2⟩
theorem SeenAt.new (w:World) {nb pb:Nat} (hn:FMap w Tryz.prog 9 nb #[] 0 txt intV (netF [])) (hp:PTab w Tryz.prog 9 31 (fun g=>g=pb) pb #[] 0 (pfxOf [])) (hne:nb≠pb) :
  SeenAt (w.alloc (.cells #[.map (some nb),.map (some pb),.slice none 0 0] 89)) (fun g=>g=w.heap.size∨g=nb∨g=pb) w.heap.size []:=by
 have hb:Below w.heap.size w (w.alloc (.cells #[.map (some nb),.map (some pb),.slice none 0 0] 89)):=(Below.refl _ _).alloc (Nat.le_refl _) _
 have l1:=hn.map.lt
 have l2:=hp.map.lt
 refine ⟨nb,pb,.slice none 0 0,#[],0,#[],0,fun g=>g=pb,Blk.new _ _ _,hn.below hb l1,hp.below hb,World.ownsRow_nil _ _ _ _,.inl rfl,.inr (.inl rfl),fun g e=>?_,fun g e=>.inr (.inr e),fun e=>?_,hne,fun g e=>?_,fun g e=>?_,by simp,by simp⟩
 ·simp [Value.ownBlock] at e
 ·omega
 ·simp [Value.ownBlock] at e
 ·rw [World.size_alloc]
  rcases e with e | e | e <;> omega
theorem SeenX.net {p:KV} {s:List UInt8} {es1':Array MapEntry} {c1':Nat} (h:SeenX w S b nb pb v es1 c1 es2 c2 Sp l) (hF:FMap w' Tryz.prog 9 nb es1' c1' txt intV (updO (netF l) s (some 1))) (hg:w.grownBy w' (some nb)) (hn:es1'.size≤es1.size+1) (hp:p.1=nKey s) :
  SeenX w' S b nb pb v es1' c1' es2 c2 Sp (l++[p]):=by
 have hf:Fr (fun g=>g=nb) w w':=(Fr.refl _ w).grown hg (fun k e _=>by injection e with e;exact e.symm)
 obtain ⟨r1,r2⟩:=h.row_ne
 have k0:(keyI p.1).kind≠2∧(keyI p.1).kind≠3:=by
  rw [hp]
  by_cases q:(keyI (nKey s)).kind=0
  ·omega
  ·have:=(kind_n q).1;omega
 have e1:netF (l++[p])=updO (netF l) s (some 1):=by
  funext x
  unfold netF
  rw [net_snoc,hp]
  by_cases e:x=s
  ·subst e
   rw [updO_same]
   simp
  ·rw [updO_other _ _ e]
   have:decide (nKey s=nKey x)=false:=decide_eq_false (fun q=>e (nKey_inj q).symm)
   rw [this,Bool.or_false]
 have e2:pfxOf (l++[p])=pfxOf l:=by
  funext x
  rw [pfx_snoc]
  unfold pfxAt
  rw [if_neg (fun q=>k0.1 q.1)]
  simp
 have e3:spotsOf (l++[p])=spotsOf l:=by
  rw [spots_snoc]
  unfold spotAt
  rw [if_neg k0.2]
  simp
 refine ⟨h.blk.fr hf r2,by rw [e1];exact hF,by rw [e2];exact h.pfx.far hf (fun g q e=>h.np (by rw [← e];exact q)),by rw [e3];exact row_keep h.row (fun g e=>hf.block g (World.ownsRow.lt h.row g e).2 (r1 g e).2),h.sb,h.sn,h.sv,h.sp,h.bp,h.np,h.vp,fun g q=>Nat.lt_of_lt_of_le (h.lt g q) hf.size,by simp;have:=h.n1;omega,by simp;have:=h.n2;omega⟩
theorem SeenX.pf {p:KV} {s:List UInt8} {q:Pf} {es2':Array MapEntry} {c2':Nat} {Sp':Nat→Prop} (h:SeenX w S b nb pb v es1 c1 es2 c2 Sp l) (f:Fr Sp w w') (hP:PTab w' Tryz.prog 9 31 Sp' pb es2' c2' (updP (pfxOf l) s (pfxOf l s++[q])))
  (hs:∀ g,Sp' g→Sp g∨w.heap.size≤g) (hl':∀ g,Sp' g→g < w'.heap.size) (hn:es2'.size≤es2.size+1) (hk:(keyI p.1).kind=2) (hnet:(keyI p.1).net=s) (hq:q=(((keyI p.1).pa:Int),((keyI p.1).pn:Int))) :
  SeenX w' (fun g=>S g∨Sp' g) b nb pb v es1 c1 es2' c2' Sp' (l++[p]):=by
 have hk1:∀ s',p.1≠nKey s':=fun s' e=>by
  have:=kind_n (s:=s') (by rw [← e,hk];decide)
  rw [← e,hk] at this
  exact absurd this.1 (by decide)
 have e1:netF (l++[p])=netF l:=by
  funext x
  unfold netF
  rw [net_snoc,decide_eq_false (hk1 x),Bool.or_false]
 have e2:pfxOf (l++[p])=updP (pfxOf l) s (pfxOf l s++[q]):=by
  funext x
  rw [pfx_snoc]
  unfold pfxAt
  by_cases e:x=s
  ·subst e
   rw [if_pos ⟨hk,hnet⟩,updP_same,hq]
  ·rw [if_neg (fun q=>e (q.2.symm.trans hnet)),updP_other _ _ e]
   simp
 have e3:spotsOf (l++[p])=spotsOf l:=by
  rw [spots_snoc]
  unfold spotAt
  rw [if_neg (by omega)]
  simp
 have hlt:∀ g,S g→g < w.heap.size:=h.lt
 have new:∀ g,S g→¬ Sp g→¬ Sp' g:=fun g q1 q2 q3=>(hs g q3).elim q2 (fun q=>by have:=hlt g q1;omega)
 refine ⟨h.blk.fr f h.bp,by rw [e1];exact h.nets.far f h.np,by rw [e2];exact hP,by rw [e3];exact row_keep h.row (fun g e=>f.block g (World.ownsRow.lt h.row g e).2 (h.vp g e)),.inl h.sb,.inl h.sn,fun g e=>.inl (h.sv g e),fun g e=>.inr e,new _ h.sb h.bp,new _ h.sn h.np,fun g e=>new g (h.sv g e) (h.vp g e),fun g q=>?_,by simp;have:=h.n1;omega,by simp;have:=h.n2;omega⟩
 rcases q with q | q
 ·exact Nat.lt_of_lt_of_le (hlt g q) f.size
 ·exact hl' g q
theorem SeenX.spot {p:KV} {v':Value} (h:SeenX w S b nb pb v es1 c1 es2 c2 Sp l) (f:Fr (fun g=>g=b∨v.ownBlock=some g) w w') (hB:Blk w' b 89 #[.map (some nb),.map (some pb),v'])
  (hr:w'.ownsRow 0 91 2 v' ((spotsOf l).length+1) (flatE encSp (spotsOf l)++encSp ((keyI p.1).net,((keyI p.1).ad:Int)))) (hv:∀ g,v'.ownBlock=some g→v.ownBlock=some g∨w.heap.size≤g) (hk:(keyI p.1).kind=3) :
  SeenX w' (fun g=>S g∨v'.ownBlock=some g) b nb pb v' es1 c1 es2 c2 Sp (l++[p]):=by
 obtain ⟨r1,r2⟩:=h.row_ne
 have hk1:∀ s',p.1≠nKey s':=fun s' e=>by
  have:=kind_n (s:=s') (by rw [← e,hk];decide)
  rw [← e,hk] at this
  exact absurd this.1 (by decide)
 have e1:netF (l++[p])=netF l:=by
  funext x
  unfold netF
  rw [net_snoc,decide_eq_false (hk1 x),Bool.or_false]
 have e2:pfxOf (l++[p])=pfxOf l:=by
  funext x
  rw [pfx_snoc]
  unfold pfxAt
  rw [if_neg (by omega)]
  simp
 have e3:spotsOf (l++[p])=spotsOf l++[((keyI p.1).net,((keyI p.1).ad:Int))]:=by
  rw [spots_snoc]
  unfold spotAt
  rw [if_pos hk]
 have hlt:=h.lt
 refine ⟨hB,by rw [e1];exact h.nets.far f (fun q=>q.elim (fun q=>r2 q.symm) (fun q=>(r1 _ q).2 rfl)),by rw [e2];exact h.pfx.far f (fun g q e=>e.elim (fun e=>h.bp (by rw [← e];exact q)) (fun e=>h.vp g e q)),?_,.inl h.sb,.inl h.sn,fun g e=>.inr e,fun g e=>.inl (h.sp g e),h.bp,h.np,fun g e q=>?_,fun g q=>?_,by simp;have:=h.n1;omega,by simp;have:=h.n2;omega⟩
 ·rw [e3,flatE_append,List.length_append]
  simpa [flatE] using hr
 ·rcases hv g e with e | e
  ·exact h.vp g e q
  ·have:=hlt g (h.sp g q)
   omega
 ·rcases q with q | q
  ·exact Nat.lt_of_lt_of_le (hlt g q) f.size
  ·exact (World.ownsRow.lt hr g q).2
theorem SeenX.bad {p:KV} (h:SeenX w S b nb pb v es1 c1 es2 c2 Sp l) (hk:(keyI p.1).kind=0) (hk1:∀ s',p.1≠nKey s'):SeenX w S b nb pb v es1 c1 es2 c2 Sp (l++[p]):=by
 have e1:netF (l++[p])=netF l:=by
  funext x
  unfold netF
  rw [net_snoc,decide_eq_false (hk1 x),Bool.or_false]
 have e2:pfxOf (l++[p])=pfxOf l:=by
  funext x
  rw [pfx_snoc]
  unfold pfxAt
  rw [if_neg (by omega)]
  simp
 have e3:spotsOf (l++[p])=spotsOf l:=by
  rw [spots_snoc]
  unfold spotAt
  rw [if_neg (by omega)]
  simp
 exact ⟨h.blk,by rw [e1];exact h.nets,by rw [e2];exact h.pfx,by rw [e3];exact h.row,h.sb,h.sn,h.sv,h.sp,h.bp,h.np,h.vp,h.lt,by simp;have:=h.n1;omega,by simp;have:=h.n2;omega⟩
end
open Go.RowKit Go.MapKept
theorem nameV_fa (c:Bool):NameV c=faV (if c=true then 0 else 5):=by cases c <;> rfl
theorem ownE_n (net val:List UInt8):ownE (nKey net,val)=if nameB net=true∧nameB val=true then 0 else 5:=by
 unfold ownE
 simp only
 by_cases h:nameB net=true
 ·rw [keyI_n h]
  simp [h]
 ·rw [if_neg (fun q=>h (kind_n_iff.1 q.1)),if_neg (fun q=>h q.1)]
theorem nameV_two (s:List UInt8):(nameB s=true∧NameV (nameB s)=.nilIface)∨(nameB s=false∧NameV (nameB s)=.iface 71 (.int .i64 5)):=by cases nameB s <;> simp [NameV]
theorem kind_net (b:Nat) (S:Nat→Prop) (l:List KV) (net val:List UInt8) (hk:net.length < 4294967281) (hv:val.length≤9223372036854775807) (hl:l.length≤800000) (w:World) (h:SeenAt w S b l) :
  Calls Tryz.prog 52 #[.pointer (some ⟨b,0,none⟩),.agg #[txt (nKey net),txt val]] w fun e w'=>e=.returned (faV (ownE (nKey net,val)))∧SeenTo w S b w' (l++[(nKey net,val)]):=by
 obtain ⟨nb,pb,v,es1,c1,es2,c2,Sp,h⟩:=h
 obtain ⟨kl,hkl⟩:=txt_key net (by unfold maxLen;omega)
 have hb1:=(Below.refl w.heap.size w).alloc (Nat.le_refl _) (.cells #[txt (nKey net),txt val] 78)
 have hX1:=h.bel hb1
 have hBk:=Blk.new w 78 #[txt (nKey net),txt val]
 have HLT:=Hd h.lt
 obtain ⟨es',c',hrun,hF,hg,hsz,hn⟩:=hX1.nets.store (t:=67) strKey Tryz.underlying67 (by have:=hX1.n1;unfold maxLen;omega) (fun a b=>txt_inj) net (1:Int) hkl
 have hX2:=Hd (hX1.net (p:=(nKey net,val)) hF hg hn rfl)
 have hnb:=hX1.nets.map.lt
 have hwn:w.heap.size≠nb:=fun e=>by have:=h.nets.map.lt;omega
 have hf2:Fr S w (Go.ChangeMaps.setBlock (w.alloc (.cells #[txt (nKey net),txt val] 78)) nb (.map es' c')):=((Fr.of_below hb1).grown hg (fun k e _=>by injection e with e;rw [← e];exact h.sn))
 have HF2:=Hd hf2
 have hbk2:Blk (Go.ChangeMaps.setBlock (w.alloc (.cells #[txt (nKey net),txt val] 78)) nb (.map es' c')) w.heap.size 78 #[txt (nKey net),txt val]:=hBk.grown hg (by simp;omega)
 have HC:=Hd (show ∀ W,Calls Tryz.prog 87 #[txt (nKey net),.string ⟨#[110,47]⟩] W fun e w'=>e=.returned (.tuple #[txt net,.bool true])∧w'=W from fun W=>by
  have:=cutPre (nKey net) [110,47] W
  rw [trim_n,(pre_n _).2 ⟨net,rfl⟩] at this
  exact this)
 have HN1:=Hd (name_txt net (by omega))
 have HN2:=Hd (name_txt val hv)
 have HE:=Hd (ownE_n net val)
 have x0:=hBk.cell 0
 have x1:=hBk.cell 1
 have s0:=hX1.blk.cell 0
 have y1:=hbk2.cell 1
 simp at x0 x1 s0 y1
 have hz2:(Go.ChangeMaps.setBlock (w.alloc (.cells #[txt (nKey net),txt val] 78)) nb (.map es' c')).heap.size=w.heap.size+1:=by rw [hsz];simp
 clear hX1 hBk hF hg hn h hb1 hf2 hbk2 hsz
 generalize hK:nKey net=key at *
 go_enter Tryz.func52,Tryz.ntmps52
 go_wp2_with fail
 refine (HC.out _).mono ?_
 rintro e w1 ⟨rfl,rfl⟩
 go_upto_region 4 with fail
 generalize hW2:Go.ChangeMaps.setBlock (w.alloc (.cells #[txt key,txt val] 78)) nb (.map es' c')=w2 at *
 have hq1:∀ (W W':World),Below w2.heap.size w2 W→Below W.heap.size W W'→Below w2.heap.size w2 W':=fun W W' a b=>a.trans (b.mono a.size)
 rcases nameV_two net with ⟨hn1,hx⟩ | ⟨hn1,hx⟩ <;> rcases nameV_two val with ⟨hn2,hy⟩ | ⟨hn2,hy⟩ <;> rw [hx] at HN1 <;> rw [hy] at HN2
 case inl.inl =>
  have y2:w2.drew.cell? ⟨w.heap.size,1,none⟩=some (txt val):=y1
  go_region_held3 (fun W=>W.cell? ⟨w.heap.size,1,none⟩=some (txt val))
   (first | with_reducible exact y1 | with_reducible exact y2 | with_reducible exact y3 | with_reducible exact y4 | go_keep)
   (first | (go_at_call 20;first | ((with_reducible refine (HN1.out _).mono ?_);rintro e w3 ⟨rfl,hb3⟩;have y3:=(hb3.cell (p:=⟨w.heap.size,1,none⟩) (show w.heap.size < w2.heap.size by omega)).trans y1) | ((with_reducible refine (HN2.out _).mono ?_);rintro e w4 ⟨rfl,hb4⟩;have y4:=(hb4.cell (p:=⟨w.heap.size,1,none⟩) (show w.heap.size < w3.heap.size by have:w2.heap.size≤w3.heap.size:=hb3.size;omega)).trans y3)) | (go_at_call 88;refine (first_any _ 0 0 _ (by exact (Blk.new _ _ #[_,_]).cell 0) (by exact (Blk.new _ _ #[_,_]).cell 1)).mono ?_;rintro e w5 ⟨rfl,rfl⟩))
  have hbA:Below w2.heap.size w2 w4:=hq1 w3 w4 (((Below.refl w2.heap.size w2).drew).trans hb3) hb4
  have HBA:=Hd (hbA.alloc hbA.size (.cells #[.nilIface,.nilIface] 26))
  have HE2:=Hd (show ownE (key,val)=firstF 0 0 by rw [HE.out,hn1,hn2];rfl)
  clear y1 y2 y3 y4 hb3 hb4 hbA hz2 hq1 HN1 HN2 HC HE hx hy
  go_wp2
  go_ret
  exact ⟨by rw [HE2.out];rfl,S,⟨_,_,_,_,_,_,_,_,hX2.out.bel HBA.out⟩,HF2.out.bel HBA.out,fun g q=>.inl q⟩
 case inl.inr =>
  have y2:w2.drew.cell? ⟨w.heap.size,1,none⟩=some (txt val):=y1
  go_region_held3 (fun W=>W.cell? ⟨w.heap.size,1,none⟩=some (txt val))
   (first | with_reducible exact y1 | with_reducible exact y2 | with_reducible exact y3 | with_reducible exact y4 | go_keep)
   (first | (go_at_call 20;first | ((with_reducible refine (HN1.out _).mono ?_);rintro e w3 ⟨rfl,hb3⟩;have y3:=(hb3.cell (p:=⟨w.heap.size,1,none⟩) (show w.heap.size < w2.heap.size by omega)).trans y1) | ((with_reducible refine (HN2.out _).mono ?_);rintro e w4 ⟨rfl,hb4⟩;have y4:=(hb4.cell (p:=⟨w.heap.size,1,none⟩) (show w.heap.size < w3.heap.size by have:w2.heap.size≤w3.heap.size:=hb3.size;omega)).trans y3)) | (go_at_call 88;refine (first_any _ 0 5 _ (by exact (Blk.new _ _ #[_,_]).cell 0) (by exact (Blk.new _ _ #[_,_]).cell 1)).mono ?_;rintro e w5 ⟨rfl,rfl⟩))
  have hbA:Below w2.heap.size w2 w4:=hq1 w3 w4 (((Below.refl w2.heap.size w2).drew).trans hb3) hb4
  have HBA:=Hd (hbA.alloc hbA.size (.cells #[.nilIface,.iface 71 (.int .i64 5)] 26))
  have HE2:=Hd (show ownE (key,val)=firstF 0 5 by rw [HE.out,hn1,hn2];rfl)
  clear y1 y2 y3 y4 hb3 hb4 hbA hz2 hq1 HN1 HN2 HC HE hx hy
  go_wp2
  go_ret
  exact ⟨by rw [HE2.out];rfl,S,⟨_,_,_,_,_,_,_,_,hX2.out.bel HBA.out⟩,HF2.out.bel HBA.out,fun g q=>.inl q⟩
 case inr.inl =>
  have y2:w2.drew.cell? ⟨w.heap.size,1,none⟩=some (txt val):=y1
  go_region_held3 (fun W=>W.cell? ⟨w.heap.size,1,none⟩=some (txt val))
   (first | with_reducible exact y1 | with_reducible exact y2 | with_reducible exact y3 | with_reducible exact y4 | go_keep)
   (first | (go_at_call 20;first | ((with_reducible refine (HN1.out _).mono ?_);rintro e w3 ⟨rfl,hb3⟩;have y3:=(hb3.cell (p:=⟨w.heap.size,1,none⟩) (show w.heap.size < w2.heap.size by omega)).trans y1) | ((with_reducible refine (HN2.out _).mono ?_);rintro e w4 ⟨rfl,hb4⟩;have y4:=(hb4.cell (p:=⟨w.heap.size,1,none⟩) (show w.heap.size < w3.heap.size by have:w2.heap.size≤w3.heap.size:=hb3.size;omega)).trans y3)) | (go_at_call 88;refine (first_any _ 5 0 _ (by exact (Blk.new _ _ #[_,_]).cell 0) (by exact (Blk.new _ _ #[_,_]).cell 1)).mono ?_;rintro e w5 ⟨rfl,rfl⟩))
  have hbA:Below w2.heap.size w2 w4:=hq1 w3 w4 (((Below.refl w2.heap.size w2).drew).trans hb3) hb4
  have HBA:=Hd (hbA.alloc hbA.size (.cells #[.iface 71 (.int .i64 5),.nilIface] 26))
  have HE2:=Hd (show ownE (key,val)=firstF 5 0 by rw [HE.out,hn1,hn2];rfl)
  clear y1 y2 y3 y4 hb3 hb4 hbA hz2 hq1 HN1 HN2 HC HE hx hy
  go_wp2
  go_ret
  exact ⟨by rw [HE2.out];rfl,S,⟨_,_,_,_,_,_,_,_,hX2.out.bel HBA.out⟩,HF2.out.bel HBA.out,fun g q=>.inl q⟩
 case inr.inr =>
  have y2:w2.drew.cell? ⟨w.heap.size,1,none⟩=some (txt val):=y1
  go_region_held3 (fun W=>W.cell? ⟨w.heap.size,1,none⟩=some (txt val))
   (first | with_reducible exact y1 | with_reducible exact y2 | with_reducible exact y3 | with_reducible exact y4 | go_keep)
   (first | (go_at_call 20;first | ((with_reducible refine (HN1.out _).mono ?_);rintro e w3 ⟨rfl,hb3⟩;have y3:=(hb3.cell (p:=⟨w.heap.size,1,none⟩) (show w.heap.size < w2.heap.size by omega)).trans y1) | ((with_reducible refine (HN2.out _).mono ?_);rintro e w4 ⟨rfl,hb4⟩;have y4:=(hb4.cell (p:=⟨w.heap.size,1,none⟩) (show w.heap.size < w3.heap.size by have:w2.heap.size≤w3.heap.size:=hb3.size;omega)).trans y3)) | (go_at_call 88;refine (first_any _ 5 5 _ (by exact (Blk.new _ _ #[_,_]).cell 0) (by exact (Blk.new _ _ #[_,_]).cell 1)).mono ?_;rintro e w5 ⟨rfl,rfl⟩))
  have hbA:Below w2.heap.size w2 w4:=hq1 w3 w4 (((Below.refl w2.heap.size w2).drew).trans hb3) hb4
  have HBA:=Hd (hbA.alloc hbA.size (.cells #[.iface 71 (.int .i64 5),.iface 71 (.int .i64 5)] 26))
  have HE2:=Hd (show ownE (key,val)=firstF 5 5 by rw [HE.out,hn1,hn2];rfl)
  clear y1 y2 y3 y4 hb3 hb4 hbA hz2 hq1 HN1 HN2 HC HE hx hy
  go_wp2
  go_ret
  exact ⟨by rw [HE2.out];rfl,S,⟨_,_,_,_,_,_,_,_,hX2.out.bel HBA.out⟩,HF2.out.bel HBA.out,fun g q=>.inl q⟩
theorem pre_no {s:List UInt8} (h:∀ r,s≠nKey r):([110,47]:List UInt8).isPrefixOf s=false:=by
 cases e:([110,47]:List UInt8).isPrefixOf s with
 | false=>rfl
 | true =>
  obtain ⟨r,q⟩:=(pre_n s).1 e
  exact absurd q (h r)
theorem cutPre_no {s:List UInt8} (h:∀ r,s≠nKey r) (W:World):Calls Tryz.prog 87 #[txt s,.string ⟨#[110,47]⟩] W fun e w'=>e=.returned (.tuple #[txt (Lib.trimPrefix s [110,47]),.bool false])∧w'=W:=by
 have:=cutPre s [110,47] W
 rw [pre_no h] at this
 exact this
theorem kind_pfx (b:Nat) (S:Nat→Prop) (l:List KV) (key val:List UInt8) (hk:key.length < 4294967281) (hv:val.length≤9223372036854775807) (hl:l.length≤800000) (hki:(keyI key).kind=2) {B:Nat} (w:World) (hB:B≤w.heap.size) (hV:TxtV B w) (h:SeenAt w S b l) :
  Calls Tryz.prog 52 #[.pointer (some ⟨b,0,none⟩),.agg #[txt key,txt val]] w fun e w'=>e=.returned (faV (ownE (key,val)))∧SeenTo w S b w' (l++[(key,val)]):=by
 obtain ⟨nb,pb,v,es1,c1,es2,c2,Sp,h⟩:=h
 have hno:∀ r,key≠nKey r:=fun r e=>by
  have:=kind_n (s:=r) (by rw [← e,hki];decide)
  rw [← e,hki] at this
  exact absurd this.1 (by decide)
 have hnet:=(keyI_2 hki)
 have hnl:(keyI key).net.length≤8:=by obtain ⟨x,_,q,_⟩:=hnet;exact (nameB_iff.1 q).2.2
 obtain ⟨kl,hkl⟩:=txt_key (keyI key).net (by unfold maxLen;omega)
 have h1lt:=h.blk.lt
 have HLT:=Hd h.lt
 have hb1:=(Below.refl w.heap.size w).alloc (Nat.le_refl _) (.cells #[txt key,txt val] 78)
 have hV1:=hV.on (hb1.mono hB)
 have hB1:B≤(w.alloc (.cells #[txt key,txt val] 78)).heap.size:=by simp;omega
 have hX1:=h.bel hb1
 have hBk:=Blk.new w 78 #[txt key,txt val]
 have HC:=Hd (cutPre_no hno)
 have hpv:ReadPV (keyI key)=.tuple #[txt (keyI key).net,.agg #[.int .i64 ((keyI key).pa:Int),.int .i64 ((keyI key).pn:Int)],.nilIface]:=by unfold ReadPV;rw [if_pos hki]
 have hrp:=readPrefix_any key hk _ hB1 hV1
 rw [hpv] at hrp
 have HP:=Hd hrp
 have HN2:=Hd (name_txt val hv)
 have HE:=Hd (show ownE (key,val)=if nameB val=true then 0 else 5 by unfold ownE;simp only;rw [hki];simp)
 have HKI:=Hd (show (keyI key).kind=2∧(keyI key).net=(keyI key).net∧(((keyI key).pa:Int),((keyI key).pn:Int))=(((keyI key).pa:Int),((keyI key).pn:Int)) from ⟨hki,rfl,rfl⟩)
 have HX1:=Hd hX1
 have HBK:=Hd hBk
 have HB1:=Hd hb1
 clear hX1 hBk hrp hpv hno hnet hnl hV1 hB1 hV h hki hb1
 generalize Lib.trimPrefix key [110,47]=kt at *
 generalize hQ:(((keyI key).pa:Int),((keyI key).pn:Int))=q at HKI
 have hq1:((keyI key).pa:Int)=q.1:=by rw [← hQ]
 have hq2:((keyI key).pn:Int)=q.2:=by rw [← hQ]
 rw [hq1,hq2] at HP
 have HQ:=Hd hQ
 clear hQ hq1 hq2
 generalize hNT:(keyI key).net=net at HKI HP hkl
 have HNT:=Hd hNT
 clear hNT
 go_enter Tryz.func52,Tryz.ntmps52
 go_wp2_with fail
 refine (HC.out _).mono ?_
 rintro e w1 ⟨rfl,rfl⟩
 go_wp2_with fail
 refine HP.out.mono ?_
 rintro e w2 ⟨rfl,hb2⟩
 go_upto_region 7 with fail
 refine wp_name (fun w3 HW=>?_)
 have hbB:Below w.heap.size w w2:=HB1.out.trans (hb2.mono (by simp))
 have hX3:=(HX1.out.bel hb2).bel ((Below.refl _ _).alloc (Nat.le_refl _) (.cells #[.int .i64 q.1,.int .i64 q.2] 31))
 have hP3:=(HBK.out.below hb2 (by simp)).alloc (.cells #[.int .i64 q.1,.int .i64 q.2] 31)
 have hX3b:=Blk.new w2 31 #[.int .i64 q.1,.int .i64 q.2]
 have hb3:=hbB.alloc hbB.size (.cells #[.int .i64 q.1,.int .i64 q.2] 31)
 rw [← HW.out] at hX3 hP3 hX3b hb3
 have hg8:w.heap.size < w2.heap.size:=by have:=hb2.size;simp at this;omega
 have hsz3:w3.heap.size=w2.heap.size+1:=by rw [HW.out];simp
 clear HW HX1 HBK HB1 hb2 hbB HP HC
 generalize w2.heap.size=g8 at *
 obtain ⟨u,hlk,hu,huf⟩:=ptab_look (t:=86) hX3.pfx strKey Tryz.underlying86 zeroRowP net hkl
 have hlook:=hlk w3.drew (hX3.drew.pfx.map)
 have hlook0:=hlk w3 hX3.pfx.map
 have y0:=hX3.blk.cell 1
 have p1:=hP3.cell 1
 have c0:=hX3b.cell 0
 have c1':=hX3b.cell 1
 simp at y0 p1 c0 c1'
 have hlt0:=HLT.out
 have hbg:b≠g8:=fun e=>by omega
 have hSu:∀ g,u.ownBlock=some g→S g:=fun g e=>hX3.sp g (huf g e).1
 have hub:u.ownBlock≠some b:=fun e=>hX3.bp (huf b e).1
 have hug:u.ownBlock≠some g8:=fun e=>by have:=hlt0 _ (hSu g8 e);omega
 have hpu:some pb≠u.ownBlock:=fun e=>(huf pb e.symm).2.1 rfl
 have hpb:pb≠b:=fun e=>hX3.bp (by rw [← e];exact hX3.pfx.hb)
 have hpg:pb≠g8:=fun e=>by have:=hlt0 pb (hX3.sp pb hX3.pfx.hb);omega
 have hbl3:b < w3.heap.size:=by omega
 have hgl3:g8 < w3.heap.size:=by omega
 have hH3:∀ (j:Nat) u',([.int .i64 q.1,.int .i64 q.2]:List Value)[j]?=some u'→((w3.alloc (.cells #[.int .i64 q.1,.int .i64 q.2] 31)).drew).cell? ⟨w3.heap.size,j,none⟩=some u':=fun j u' hj=>by
  have h:=(Blk.new w3 31 #[.int .i64 q.1,.int .i64 q.2]).cell j
  refine Eq.trans h ?_
  simpa using hj
 have hlen9:(pfxOf l net).length < 1000000000:=by have:=pfxOf_len l net;omega
 have hone:∀ u' ∈ ([.int .i64 q.1,.int .i64 q.2]:List Value),u'.oneCell'=true:=by
  intro u' hu'
  simp at hu'
  rcases hu' with rfl | rfl <;> rfl
 have hn2:=hX3.n2
 have hM4:MapAt (w3.alloc (.cells #[.int .i64 q.1,.int .i64 q.2] 31)).drew Tryz.prog 9 pb es2 c2:=(hX3.pfx.map.alloc _).keep rfl
 have hlook2:=hlk _ hM4
 have hu4:((w3.alloc (.cells #[.int .i64 q.1,.int .i64 q.2] 31)).drew).ownsRow 0 31 2 u (pfxOf l net).length (cellsP (pfxOf l net)):=(hu.alloc (.cells #[.int .i64 q.1,.int .i64 q.2] 31)).drew
 have hkeep:∀ (wX:World),(w3.alloc (.cells #[.int .i64 q.1,.int .i64 q.2] 31)).drew.grownBy wX u.ownBlock→wX.cell? ⟨b,1,none⟩=some (.map (some pb))∧wX.cell? ⟨g8,0,none⟩=some (.int .i64 q.1)∧wX.cell? ⟨g8,1,none⟩=some (.int .i64 q.2):=fun wX hg=>by
  have ff:Fr (fun g=>u.ownBlock=some g) w3 wX:=(((Fr.refl _ w3).alloc _).drew).grown hg (fun k e _=>e)
  exact ⟨(ff.cell (p:=⟨b,1,none⟩) hbl3 hub).trans y0,(ff.cell (p:=⟨g8,0,none⟩) hgl3 hug).trans c0,(ff.cell (p:=⟨g8,1,none⟩) hgl3 hug).trans c1'⟩
 have hkeep2:∀ (wX:World) (o:Obj),(w3.alloc (.cells #[.int .i64 q.1,.int .i64 q.2] 31)).drew.grownBy wX u.ownBlock→MapAt wX Tryz.prog 9 pb es2 c2→(Go.ChangeMaps.setBlock wX pb o).cell? ⟨b,1,none⟩=some (.map (some pb))∧(Go.ChangeMaps.setBlock wX pb o).cell? ⟨g8,0,none⟩=some (.int .i64 q.1)∧(Go.ChangeMaps.setBlock wX pb o).cell? ⟨g8,1,none⟩=some (.int .i64 q.2):=fun wX o hg hm=>by
  obtain ⟨q1,q2,q3⟩:=hkeep wX hg
  have hg2:=grown_setBlock (o:=o) hm
  have hs:w3.heap.size≤wX.heap.size:=Nat.le_trans (by show w3.heap.size≤(w3.alloc _).heap.size;simp) hg.size
  exact ⟨(hg2.cell_far ⟨b,1,none⟩ (Nat.lt_of_lt_of_le hbl3 hs) (fun e=>hpb (by injection e with e;exact e.symm))).trans q1,(hg2.cell_far ⟨g8,0,none⟩ (Nat.lt_of_lt_of_le hgl3 hs) (fun e=>hpg (by injection e with e;exact e.symm))).trans q2,(hg2.cell_far ⟨g8,1,none⟩ (Nat.lt_of_lt_of_le hgl3 hs) (fun e=>hpg (by injection e with e;exact e.symm))).trans q3⟩
 have HX3:=Hd hX3
 have HP3:=Hd hP3
 have HB3:=Hd hb3
 have HUF:=Hd huf
 have HU3:=Hd hu
 have HSZ3:=Hd hsz3
 clear hX3 hP3 hb3 hX3b huf hlk hu hsz3
 go_region_held3 (fun W=>W.cell? ⟨b,1,none⟩=some (.map (some pb))∧W.cell? ⟨g8,0,none⟩=some (.int .i64 q.1)∧W.cell? ⟨g8,1,none⟩=some (.int .i64 q.2))
  (first
   | with_reducible exact hkA
   | go_keep
   | with_reducible exact hkB)
  (first
   | (go_loud (refine step_append_cs (by rfl) _ _ 44 (by rfl) 31 Tryz.underlying44 _ 2 16 infoPx (by rfl) (by decide) (by decide) 0 u (pfxOf l net).length (cellsP (pfxOf l net)) (by rfl) hu4 w3.heap.size [.int .i64 q.1,.int .i64 q.2] (by rfl) hone (by rfl) hH3 hlen9 (Nat.zero_le _) ?_);intro vA wA hownA hgrowA hatA;have hkA:=hkeep wA hgrowA;have hmA:=hM4.grown hgrowA hpu;obtain ⟨es',clock',hrunB,hmB,hasB,hnB,_⟩:=hmA.store strKey Tryz.underlying86 (by unfold maxLen;omega) (val:=vA) hkl;have hgrowB:=grown_setBlock (o:=.map es' clock') hmA;have hkB:=hkeep2 wA (.map es' clock') hgrowA hmA)
   | fail)
 all_goals (
  have hf4:Fr Sp w3 (w3.alloc (.cells #[.int .i64 q.1,.int .i64 q.2] 31)).drew:=((Fr.refl Sp w3).alloc _).drew
  have hfA:Fr Sp w3 wA:=hf4.grown hgrowA (fun k e _=>(HUF.out k e).1)
  have hfB:Fr Sp w3 (Go.ChangeMaps.setBlock wA pb (.map es' clock')):=hfA.grown hgrowB (fun k e _=>by injection e with e;rw [← e];exact HX3.out.pfx.hb)
  have hP4:PTab (w3.alloc (.cells #[.int .i64 q.1,.int .i64 q.2] 31)).drew Tryz.prog 9 31 (plus Sp w3) pb es2 c2 (pfxOf l):=((HX3.out.pfx.alloc (.cells #[.int .i64 q.1,.int .i64 q.2] 31)).keep (w':=(w3.alloc (.cells #[.int .i64 q.1,.int .i64 q.2] 31)).drew) rfl (fun _ _ _ _ _=>rfl)).mono plus.old
  have hPB:=ptab_tight (hP4.store (s:=net) (L:=pfxOf l net++[q]) (by simp) (fun g e=>⟨(HUF.out g e).2.1,(HUF.out g e).2.2⟩) hgrowA (by rw [cellsP_append,List.length_append];exact hownA)
   (fun g e=>by
    rcases hatA with q | q
    ·exact .inl (q.symm.trans e)
    ·rw [q] at e;injection e with e;exact .inr (by rw [← e];show _≤(w3.alloc _).heap.size;simp))
   (fun g e=>by
    rcases hatA with q | q
    ·exact .inl (HUF.out g (q.symm.trans e)).1
    ·rw [q] at e;injection e with e;exact .inr (by rw [← e];show _≤(w3.alloc _).heap.size;simp)) hmB hgrowB hasB)
  have HXB:=Hd (HX3.out.pf (p:=(key,val)) hfB hPB (fun g e=>e.1) (fun g e=>e.2) hnB HKI.out.1 HNT.out (by rw [← HQ.out]))
  have hPx:=HP3.out.fr hfB (fun e=>by have:=HLT.out _ (HX3.out.sp _ e);omega)
  have p2:=hPx.cell 1
  have HFB:=Hd (show Fr S w (Go.ChangeMaps.setBlock wA pb (.map es' clock')) from (Fr.of_below HB3.out).trans hfB (fun g _ e=>HX3.out.sp g e))
  have HNW:=Hd (show ∀ g,(plus Sp w3 g∧g < (Go.ChangeMaps.setBlock wA pb (.map es' clock')).heap.size)→S g∨w.heap.size≤g from fun g e=>e.1.elim (fun e=>.inl (HX3.out.sp g e)) (fun e=>.inr (Nat.le_trans HB3.out.size e)))
  simp at p2
  clear hf4 hfA hfB hP4 hPB hPx hkeep hkeep2 hkA hkB hmA hmB hasB hnB hownA hgrowA hgrowB hatA hu4 hM4 hlook hlook0 hlook2 HX3 HP3 HB3 HUF HU3
  generalize Go.ChangeMaps.setBlock wA pb (.map es' clock')=wB at *
  go_wp2_with fail
  refine (HN2.out _).mono ?_
  rintro e w9 ⟨rfl,hb9⟩
  go_wp2
  go_ret
  exact ⟨by rw [HE.out];exact congrArg Ending.returned (nameV_fa _),_,⟨_,_,_,_,_,_,_,_,HXB.out.bel hb9⟩,HFB.out.bel hb9,fun g e=>e.elim .inl (HNW.out g)⟩)
theorem kind_adr (b:Nat) (S:Nat→Prop) (l:List KV) (key val:List UInt8) (hk:key.length < 4294967281) (hv:val.length≤9223372036854775807) (hl:l.length≤800000) (hki:(keyI key).kind=3) {B:Nat} (w:World) (hB:B≤w.heap.size) (hV:TxtV B w) (h:SeenAt w S b l) :
  Calls Tryz.prog 52 #[.pointer (some ⟨b,0,none⟩),.agg #[txt key,txt val]] w fun e w'=>e=.returned (faV (ownE (key,val)))∧SeenTo w S b w' (l++[(key,val)]):=by
 obtain ⟨nb,pb,v,es1,c1,es2,c2,Sp,h⟩:=h
 have hno:∀ r,key≠nKey r:=fun r e=>by
  have:=kind_n (s:=r) (by rw [← e,hki];decide)
  rw [← e,hki] at this
  exact absurd this.1 (by decide)
 have h1lt:=h.blk.lt
 have HLT:=Hd h.lt
 have hb1:=(Below.refl w.heap.size w).alloc (Nat.le_refl _) (.cells #[txt key,txt val] 78)
 have hV1:=hV.on (hb1.mono hB)
 have hB1:B≤(w.alloc (.cells #[txt key,txt val] 78)).heap.size:=by simp;omega
 have hX1:=h.bel hb1
 have hBk:=Blk.new w 78 #[txt key,txt val]
 have HC:=Hd (cutPre_no hno)
 have hpv:ReadPV (keyI key)=NoPV:=by unfold ReadPV;rw [if_neg (by omega)];rfl
 have hrp:=readPrefix_any key hk _ hB1 hV1
 rw [hpv] at hrp
 unfold NoPV at hrp
 have HP:=Hd hrp
 have hav:ReadAV (keyI key)=.tuple #[txt (keyI key).net,.int .i64 ((keyI key).ad:Int),.nilIface]:=by unfold ReadAV;rw [if_pos hki]
 have hra:=fun (W:World) (h1:B≤W.heap.size) (h2:TxtV B W)=>readAddr_any key hk W h1 h2
 rw [hav] at hra
 have HA:=Hd hra
 have HN2:=Hd (name_txt val hv)
 have HE:=Hd (show ownE (key,val)=if nameB val=true then 0 else 5 by unfold ownE;simp only;rw [hki];simp)
 have HKI:=Hd hki
 have HX1:=Hd hX1
 have HBK:=Hd hBk
 have HB1:=Hd hb1
 have HV:=Hd hV
 clear hX1 hBk hrp hpv hno hV1 hB1 hV h hki hb1 hra hav
 generalize Lib.trimPrefix key [110,47]=kt at *
 generalize hNT:(keyI key).net=net at HA
 generalize hAD:((keyI key).ad:Int)=ad at HA
 have HNT:=Hd hNT
 have HAD:=Hd hAD
 clear hNT hAD
 go_enter Tryz.func52,Tryz.ntmps52
 go_wp2_with fail
 refine (HC.out _).mono ?_
 rintro e w1 ⟨rfl,rfl⟩
 go_wp2_with fail
 refine HP.out.mono ?_
 rintro e w2 ⟨rfl,hb2⟩
 have hbB:Below w.heap.size w w2:=HB1.out.trans (hb2.mono (by simp))
 have hX3:=(HX1.out.bel hb2).bel ((Below.refl _ _).alloc (Nat.le_refl _) (.cells #[.int .i64 0,.int .i64 0] 31))
 have hP3:=(HBK.out.below hb2 (by simp)).alloc (.cells #[.int .i64 0,.int .i64 0] 31)
 have hb3:=hbB.alloc hbB.size (.cells #[.int .i64 0,.int .i64 0] 31)
 have HX3:=Hd hX3
 have HP3:=Hd hP3
 have HB3:=Hd hb3
 have k0:=hP3.cell 0
 simp at k0
 clear hX3 hP3 hb3 HX1 HBK HB1 hb2 hbB HP HC
 go_upto_region 9 with fail
 refine wp_name (fun w3 HW=>?_)
 have hX3:=HX3.out
 have hP3:=HP3.out
 have hb3:=HB3.out
 rw [← HW.out] at hX3 hP3 hb3 k0
 clear HX3 HP3 HB3 HW
 have HX3:=Hd hX3
 have HP3:=Hd hP3
 have HB3:=Hd hb3
 have HA3:=Hd (HA.out w3 (Nat.le_trans hB hb3.size) (HV.out.on (hb3.mono hB)))
 clear hX3 hP3 hb3 HA
 go_wp2_with fail
 refine HA3.out.mono ?_
 rintro e w4 ⟨rfl,hb4⟩
 have hX4:=HX3.out.bel hb4
 have hP4:=HP3.out.below hb4 HP3.out.lt
 have hb4':=HB3.out.trans (hb4.mono HB3.out.size)
 have y2:=hX4.blk.cell 2
 simp at y2
 have hone:∀ u' ∈ (#[txt net,.int .i64 ad]:Array Value).toList,u'.oneCell'=true:=by
  intro u' hu'
  simp at hu'
  rcases hu' with rfl | rfl <;> rfl
 have hlen:(spotsOf l).length < 1000000000:=by have:=spots_len l;omega
 have hrow:=hX4.row
 have hvb:some b≠v.ownBlock:=fun e=>(hX4.row_ne.1 b e.symm).1 rfl
 have HX4:=Hd hX4
 have HP4:=Hd hP4
 have HB4:=Hd hb4'
 clear hX4 hP4 hb4' hb4 HX3 HP3 HB3 HA3 k0
 go_upto_region 12 with (at_builtin;go_loud (refine wpList_append_elt (w1:=w4) rfl _ _ 87 rfl 91 Tryz.underlying87 _ 2 24 infoSpot rfl (by decide) (by decide) 0 v (spotsOf l).length _ rfl hrow #[txt net,.int .i64 ad] rfl hone rfl hlen (Nat.zero_le _) ?_);intro vA wA hownA hgrowA hatA;obtain ⟨AA,cA,rfl,_⟩:=own_form hownA;have hBA:=HX4.out.blk.grown hgrowA hvb;have z2:=hBA.cell 2;have zf:=hBA.frozen 2;simp at z2)
 refine wp_name (fun w6 HW=>?_)
 have hB6:Blk w6 b 89 #[.map (some nb),.map (some pb),.slice AA ((spotsOf l).length+1) cA]:=by rw [HW.out];exact hBA.setCell 2 _
 have hf6:Fr (fun g=>g=b∨v.ownBlock=some g) w4 w6:=by rw [HW.out];exact ((Fr.refl _ w4).grown hgrowA (fun k e _=>.inr e)).setCell (p:=⟨b,2,none⟩) (fun _=>.inl rfl) _
 have hnb:(Value.slice AA ((spotsOf l).length+1) cA).ownBlock≠some b:=fun e=>by
  rcases hatA with q | q
  ·exact hvb (q.symm.trans e).symm
  ·rw [q] at e
   injection e with e
   have:=HX4.out.blk.lt
   omega
 have hr6:w6.ownsRow 0 91 2 (.slice AA ((spotsOf l).length+1) cA) ((spotsOf l).length+1) (flatE encSp (spotsOf l)++encSp (net,ad)):=by
  rw [HW.out]
  exact row_keep hownA (fun g e=>Below.heap_setCell wA ⟨b,2,none⟩ _ g (fun e2=>hnb (by rw [e,e2])))
 have hX6:=HX4.out.spot (p:=(key,val)) hf6 hB6 (by rw [show (keyI (key,val).1).net=net from HNT.out,show ((keyI (key,val).1).ad:Int)=ad from HAD.out];exact hr6) (fun g e=>by
  rcases hatA with q | q
  ·exact .inl (q.symm.trans e)
  ·rw [q] at e;injection e with e;exact .inr (by omega)) HKI.out
 have hP6:=HP4.out.fr hf6 (fun e=>e.elim (fun e=>by omega) (fun e=>by have:=HLT.out _ (HX4.out.sv _ e);omega))
 have p1:=hP6.cell 1
 simp at p1
 have HX6:=Hd hX6
 have HF6:=Hd (show Fr S w w6 from (Fr.of_below HB4.out).trans hf6 (fun g _ e=>e.elim (fun e=>by rw [e];exact HX4.out.sb) (HX4.out.sv g)))
 have HS6:=Hd (show ∀ g,(S g∨(Value.slice AA ((spotsOf l).length+1) cA).ownBlock=some g)→S g∨w.heap.size≤g from fun g e=>e.elim .inl (fun e=>by
  rcases hatA with q | q
  ·exact .inl (HX4.out.sv g (q.symm.trans e))
  ·rw [q] at e;injection e with e;exact .inr (by have:=HB4.out.size;omega)))
 clear HW hB6 hf6 hnb hr6 hX6 hP6 hownA hgrowA hatA hBA z2 zf y2 hrow hone hlen HX4 HP4 HB4 hvb HNT HAD HV HKI
 rcases nameV_two val with ⟨hn2,hy⟩ | ⟨hn2,hy⟩
 ·rw [hy] at HN2
  have HE2:=Hd (show ownE (key,val)=firstF 0 0 by rw [HE.out];simp [hn2,firstF])
  go_wp2_with fail
  refine (HN2.out _).mono ?_
  rintro e w7 ⟨rfl,hb7⟩
  have hJ:=(Blk.new w7 26 #[.nilIface,.nilIface])
  have HJ:=Hd (first_any w7.heap.size 0 0 _ (hJ.cell 0) (hJ.cell 1))
  have hb8:=hb7.alloc hb7.size (.cells #[.nilIface,.nilIface] 26)
  clear hJ
  go_wp2_with fail
  refine HJ.out.mono ?_
  rintro e w8 ⟨rfl,rfl⟩
  go_wp2
  go_ret
  exact ⟨by rw [HE2.out];rfl,_,⟨_,_,_,_,_,_,_,_,HX6.out.bel hb8⟩,HF6.out.bel hb8,HS6.out⟩
 ·rw [hy] at HN2
  have HE2:=Hd (show ownE (key,val)=firstF 0 5 by rw [HE.out];simp [hn2,firstF])
  go_wp2_with fail
  refine (HN2.out _).mono ?_
  rintro e w7 ⟨rfl,hb7⟩
  have hJ:=(Blk.new w7 26 #[.nilIface,.iface 71 (.int .i64 5)])
  have HJ:=Hd (first_any w7.heap.size 0 5 _ (hJ.cell 0) (hJ.cell 1))
  have hb8:=hb7.alloc hb7.size (.cells #[.nilIface,.iface 71 (.int .i64 5)] 26)
  clear hJ
  go_wp2_with fail
  refine HJ.out.mono ?_
  rintro e w8 ⟨rfl,rfl⟩
  go_wp2
  go_ret
  exact ⟨by rw [HE2.out];rfl,_,⟨_,_,_,_,_,_,_,_,HX6.out.bel hb8⟩,HF6.out.bel hb8,HS6.out⟩
theorem kind_bad (b:Nat) (S:Nat→Prop) (l:List KV) (key val:List UInt8) (hk:key.length < 4294967281) (hv:val.length≤9223372036854775807) (hki:(keyI key).kind=0) (hno:∀ r,key≠nKey r) {B:Nat} (w:World) (hB:B≤w.heap.size) (hV:TxtV B w) (h:SeenAt w S b l) :
  Calls Tryz.prog 52 #[.pointer (some ⟨b,0,none⟩),.agg #[txt key,txt val]] w fun e w'=>e=.returned (faV (ownE (key,val)))∧SeenTo w S b w' (l++[(key,val)]):=by
 obtain ⟨nb,pb,v,es1,c1,es2,c2,Sp,h⟩:=h
 have hb1:=(Below.refl w.heap.size w).alloc (Nat.le_refl _) (.cells #[txt key,txt val] 78)
 have hV1:=hV.on (hb1.mono hB)
 have hB1:B≤(w.alloc (.cells #[txt key,txt val] 78)).heap.size:=by simp;omega
 have hX1:=h.bad (p:=(key,val)) hki hno
 have hBk:=Blk.new w 78 #[txt key,txt val]
 have HC:=Hd (cutPre_no hno)
 have hpv:ReadPV (keyI key)=NoPV:=by unfold ReadPV;rw [if_neg (by omega)];rfl
 have hrp:=readPrefix_any key hk _ hB1 hV1
 rw [hpv] at hrp
 unfold NoPV at hrp
 have HP:=Hd hrp
 have hav:ReadAV (keyI key)=.tuple #[txt [],.int .i64 0,.iface 71 (.int .i64 5)]:=by unfold ReadAV;rw [if_neg (by omega)]
 have hra:=fun (W:World) (h1:B≤W.heap.size) (h2:TxtV B W)=>readAddr_any key hk W h1 h2
 rw [hav] at hra
 have HA:=Hd hra
 have HN2:=Hd (name_txt val hv)
 have HE:=Hd (show ownE (key,val)=5 by unfold ownE;simp only;rw [hki];simp)
 have HX1:=Hd hX1
 have HBK:=Hd hBk
 have HB1:=Hd hb1
 have HV:=Hd hV
 clear hX1 hBk hrp hpv hV1 hB1 hV h hki hb1 hra hav
 generalize Lib.trimPrefix key [110,47]=kt at *
 go_enter Tryz.func52,Tryz.ntmps52
 go_wp2_with fail
 refine (HC.out _).mono ?_
 rintro e w1 ⟨rfl,rfl⟩
 go_wp2_with fail
 refine HP.out.mono ?_
 rintro e w2 ⟨rfl,hb2⟩
 have hbB:Below w.heap.size w w2:=HB1.out.trans (hb2.mono (by simp))
 have hP3:=(HBK.out.below hb2 (by simp)).alloc (.cells #[.int .i64 0,.int .i64 0] 31)
 have hb3:=hbB.alloc hbB.size (.cells #[.int .i64 0,.int .i64 0] 31)
 have HP3:=Hd hP3
 have HB3:=Hd hb3
 have k0:=hP3.cell 0
 simp at k0
 clear hP3 hb3 HBK HB1 hb2 hbB HP HC
 go_upto_region 9 with fail
 refine wp_name (fun w3 HW=>?_)
 have hP3:=HP3.out
 have hb3:=HB3.out
 rw [← HW.out] at hP3 hb3 k0
 clear HP3 HB3 HW
 have HP3:=Hd hP3
 have HB3:=Hd hb3
 have HA3:=Hd (HA.out w3 (Nat.le_trans hB hb3.size) (HV.out.on (hb3.mono hB)))
 clear hP3 hb3 HA
 go_wp2_with fail
 refine HA3.out.mono ?_
 rintro e w6 ⟨rfl,hb4⟩
 have hP4:=HP3.out.below hb4 HP3.out.lt
 have hb4':=HB3.out.trans (hb4.mono HB3.out.size)
 have p1:=hP4.cell 1
 simp at p1
 have HX6:=Hd (HX1.out.bel hb4')
 have HF6:=Hd (show Fr S w w6 from Fr.of_below hb4')
 have HS6:=Hd (show ∀ g,S g→S g∨w.heap.size≤g from fun g e=>.inl e)
 clear hP4 hb4' hb4 HP3 HB3 HA3 k0 HX1
 rcases nameV_two val with ⟨hn2,hy⟩ | ⟨hn2,hy⟩
 ·rw [hy] at HN2
  have HE2:=Hd (show ownE (key,val)=firstF 5 0 by rw [HE.out];simp [hn2,firstF])
  go_wp2_with fail
  refine (HN2.out _).mono ?_
  rintro e w7 ⟨rfl,hb7⟩
  have hJ:=(Blk.new w7 26 #[.iface 71 (.int .i64 5),.nilIface])
  have HJ:=Hd (first_any w7.heap.size 5 0 _ (hJ.cell 0) (hJ.cell 1))
  have hb8:=hb7.alloc hb7.size (.cells #[.iface 71 (.int .i64 5),.nilIface] 26)
  clear hJ
  go_wp2_with fail
  refine HJ.out.mono ?_
  rintro e w8 ⟨rfl,rfl⟩
  go_wp2
  go_ret
  exact ⟨by rw [HE2.out];rfl,_,⟨_,_,_,_,_,_,_,_,HX6.out.bel hb8⟩,HF6.out.bel hb8,HS6.out⟩
 ·rw [hy] at HN2
  have HE2:=Hd (show ownE (key,val)=firstF 5 5 by rw [HE.out];simp [hn2,firstF])
  go_wp2_with fail
  refine (HN2.out _).mono ?_
  rintro e w7 ⟨rfl,hb7⟩
  have hJ:=(Blk.new w7 26 #[.iface 71 (.int .i64 5),.iface 71 (.int .i64 5)])
  have HJ:=Hd (first_any w7.heap.size 5 5 _ (hJ.cell 0) (hJ.cell 1))
  have hb8:=hb7.alloc hb7.size (.cells #[.iface 71 (.int .i64 5),.iface 71 (.int .i64 5)] 26)
  clear hJ
  go_wp2_with fail
  refine HJ.out.mono ?_
  rintro e w8 ⟨rfl,rfl⟩
  go_wp2
  go_ret
  exact ⟨by rw [HE2.out];rfl,_,⟨_,_,_,_,_,_,_,_,HX6.out.bel hb8⟩,HF6.out.bel hb8,HS6.out⟩
theorem kind_any (b:Nat) (S:Nat→Prop) (l:List KV) (p:KV) (hk:p.1.length < 4294967281) (hv:p.2.length≤9223372036854775807) (hl:l.length≤800000) {B:Nat} (w:World) (hB:B≤w.heap.size) (hV:TxtV B w) (h:SeenAt w S b l) :
  Calls Tryz.prog 52 #[.pointer (some ⟨b,0,none⟩),.agg #[txt p.1,txt p.2]] w fun e w'=>e=.returned (faV (ownE p))∧SeenTo w S b w' (l++[p]):=by
 obtain ⟨key,val⟩:=p
 by_cases hn:∃ r,key=nKey r
 ·obtain ⟨r,rfl⟩:=hn
  exact kind_net b S l r val (by have:(nKey r).length < 4294967281:=hk;unfold nKey at this;simp at this;omega) hv hl w h
 ·have hno:∀ r,key≠nKey r:=fun r e=>hn ⟨r,e⟩
  have hle:=keyI_le key
  by_cases h2:(keyI key).kind=2
  ·exact kind_pfx b S l key val hk hv hl h2 w hB hV h
  ·by_cases h3:(keyI key).kind=3
   ·exact kind_adr b S l key val hk hv hl h3 w hB hV h
   ·by_cases h1:(keyI key).kind=1
    ·exact absurd (keyI_1 h1).1 (hno _)
    ·exact kind_bad b S l key val hk hv (by omega) hno w hB hV h
def AuR (l:List KV) (at' f:Int):Prop:=(f=0∧at'=0∧∀ i (hi:i < l.length),auAt l i l[i]=0)∨∃ (i:Nat) (hi:i < l.length),at'=i∧f=auAt l i l[i]∧f≠0∧∀ j (hj:j < i),auAt l j l[j]=0
theorem infoErr:(Tryz.prog.info? 26).map (fun i=>(i.zero,i.size,i.bytes))=some (some .nilIface,1,16):=by kernel_rfl
theorem ownE_two (p:KV):ownE p=0∨ownE p=5:=by unfold ownE;split <;> simp
theorem SeenAt.lt {w:World} {S:Nat→Prop} {b:Nat} {l:List KV} (h:SeenAt w S b l):∀ g,S g→g < w.heap.size:=by
 obtain ⟨nb,pb,v,es1,c1,es2,c2,Sp,q⟩:=h
 exact q.lt
def errs (l:List KV):List Value:=l.map fun p=>faV (ownE p)
theorem errs_snoc (l:List KV) {k:Nat} (h:k < l.length):errs (l.take (k+1))=errs (l.take k)++[faV (ownE l[k])]:=by
 unfold errs
 rw [List.take_succ_eq_append_getElem h,List.map_append];rfl
theorem Rd.err {w:World} {B:Nat} {A:Option Addr} {l:List KV} (h:Rd w B A (errs l)) {k:Nat} (hk:k < l.length):∃ b off,A=some ⟨b,off,none⟩∧b < B∧w.cell? ⟨b,off+k,none⟩=some (faV (ownE l[k])):=by
 obtain ⟨b,off,e,hb,hc⟩:=h (fun h=>by have:=congrArg List.length h;simp [errs] at this;subst this;simp at hk)
 exact ⟨b,off,e,hb,hc k _ (by unfold errs;rw [List.getElem?_map,List.getElem?_eq_getElem hk];rfl)⟩
theorem encSp_drop:∀ (l:List (List UInt8 × Int)) (k:Nat),flatE encSp (l.drop k)=(flatE encSp l).drop (k * 2)
 | l,0=>by simp
 | [],k+1=>by simp [flatE]
 | c::l,k+1=>by
  rw [List.drop_succ_cons,encSp_drop l k,show (k+1) * 2=k * 2+1+1 by omega]
  simp [flatE,encSp]
theorem Rd.spotTail {w:World} {B:Nat} {b off:Nat} {l:List (List UInt8 × Int)} {k:Nat} (h:Rd w B (some ⟨b,off,none⟩) (flatE encSp (l.drop k))):Rd w B (some ⟨b,off+2,none⟩) (flatE encSp (l.drop (k+1))):=fun hn=>by
 have e1:flatE encSp (l.drop (k+1))=(flatE encSp (l.drop k)).drop 2:=by
  have:=encSp_drop (l.drop k) 1
  rw [List.drop_drop] at this
  exact this
 obtain ⟨b',off',e,hb,hc⟩:=h (fun h=>hn (by rw [e1,h];simp))
 injection e with e
 injection e with e1' e2'
 subst e1'
 subst e2'
 refine ⟨b,off+2,rfl,hb,fun j u hu=>?_⟩
 rw [e1,List.getElem?_drop] at hu
 rw [show off+2+j=off+(2+j) by omega]
 exact hc _ _ hu
theorem Rd.spotTail2 {w:World} {B:Nat} {b off c:Nat} {l:List (List UInt8 × Int)} {k:Nat} (h:Rd w B (some ⟨b,off,none⟩) (flatE encSp (l.drop k))) (hc:c=1→l.length≤k+1):Rd w B (if c=1 then some ⟨b,off,none⟩ else some ⟨b,off+2,none⟩) (flatE encSp (l.drop (k+1))):=by
 split
 ·rename_i e
  rw [List.drop_of_length_le (hc e)]
  exact Rd.nil
 ·exact h.spotTail
theorem Rd.spotHead {w:World} {B:Nat} {A:Option Addr} {l:List (List UInt8 × Int)} {k:Nat} (hk:k < l.length) (h:Rd w B A (flatE encSp (l.drop k))):∃ b off,A=some ⟨b,off,none⟩∧b < B∧w.cell? ⟨b,off+1,none⟩=some (.int .i64 l[k].2):=by
 have e:flatE encSp (l.drop k)=txt l[k].1::.int .i64 l[k].2::flatE encSp (l.drop (k+1)):=by
  rw [List.drop_eq_getElem_cons hk]
  unfold flatE
  rw [List.flatMap_cons]
  rfl
 obtain ⟨b,off,e1,hb,hc⟩:=h (by rw [e];simp)
 exact ⟨b,off,e1,hb,hc 1 _ (by rw [e];rfl)⟩
def OrdK (l:List KV) (k:Nat) (p:KV):Prop:=¬ (0 < k∧lessB (l.getD (k - 1) ([],[])).1 p.1=false)
section
variable {l : List KV} {k : Nat} {p : KV}
theorem au_shape (h:¬ OrdK l k p):auAt l k p=2:=by unfold auAt;rw [if_pos (Classical.not_not.1 h)]
theorem au_own (h:OrdK l k p) (h2:ownE p≠0):auAt l k p=5:=by unfold auAt;rw [if_neg h,if_pos h2]
theorem au_net (h:OrdK l k p) (h2:ownE p=0) (h3:(keyI p.1).kind=1):auAt l k p=0:=by unfold auAt;rw [if_neg h,if_neg (by omega),if_pos h3]
theorem au_none (h:OrdK l k p) (h2:ownE p=0) (h3:(keyI p.1).kind≠1) (h4:netIn l (keyI p.1).net=false):auAt l k p=4:=by unfold auAt;rw [if_neg h,if_neg (by omega),if_neg h3,if_pos h4]
theorem au_pfx (h:OrdK l k p) (h2:ownE p=0) (h3:(keyI p.1).kind=2) (h4:netIn l (keyI p.1).net=true):auAt l k p=0:=by unfold auAt;rw [if_neg h,if_neg (by omega),if_neg (by omega),if_neg (by rw [h4];decide),if_neg (by omega)]
theorem au_out (h:OrdK l k p) (h2:ownE p=0) (h3:(keyI p.1).kind=3) (h4:netIn l (keyI p.1).net=true) (h5:(pfxOf l (keyI p.1).net).any (fun q=>inP ((keyI p.1).ad:Int) 32 q.1 q.2)=false):auAt l k p=7:=by unfold auAt;rw [if_neg h,if_neg (by omega),if_neg (by omega),if_neg (by rw [h4];decide),if_pos ⟨h3,h5⟩]
theorem au_in (h:OrdK l k p) (h2:ownE p=0) (h3:(keyI p.1).kind=3) (h4:netIn l (keyI p.1).net=true) (h5:(pfxOf l (keyI p.1).net).any (fun q=>inP ((keyI p.1).ad:Int) 32 q.1 q.2)=true):auAt l k p=0:=by unfold auAt;rw [if_neg h,if_neg (by omega),if_neg (by omega),if_neg (by rw [h4];decide),if_neg (fun q=>by rw [h5] at q;cases q.2)]
end
theorem pre_a {s:List UInt8} (h:(keyI s).kind≠0):([97,47]:List UInt8).isPrefixOf s=true ↔ (keyI s).kind=3:=by
 have hle:=keyI_le s
 constructor
 ·intro q
  rw [List.isPrefixOf_iff_prefix] at q
  obtain ⟨r,e⟩:=q
  have e':97::47::r=s:=e
  by_cases h1:(keyI s).kind=1
  ·have:=(keyI_1 h1).1
   rw [← e'] at this
   injection this with this _
   exact absurd this (by decide)
  ·by_cases h2:(keyI s).kind=2
   ·obtain ⟨x,this,_⟩:=keyI_2 h2
    rw [← e'] at this
    injection this with this _
    exact absurd this (by decide)
   ·omega
 ·intro q
  obtain ⟨x,e,_⟩:=keyI_3 q
  rw [List.isPrefixOf_iff_prefix,e]
  exact ⟨_,rfl⟩
theorem pre_n1 {s:List UInt8} (h:(keyI s).kind≠0):([110,47]:List UInt8).isPrefixOf s=true ↔ (keyI s).kind=1:=by
 rw [pre_n]
 constructor
 ·rintro ⟨r,rfl⟩
  exact (kind_n h).1
 ·intro q
  exact ⟨_,(keyI_1 q).1⟩
theorem cut_net {s:List UInt8} (h:(keyI s).kind=2∨(keyI s).kind=3):∃ x,s.drop 2=(keyI s).net++47::x∧(47:UInt8) ∉ (keyI s).net∧2≤s.length∧(keyI s).net.length≤8:=by
 rcases h with h | h
 ·obtain ⟨x,e,hn,_⟩:=keyI_2 h
  exact ⟨x,(congrArg (List.drop 2) e).trans rfl,nameB_no hn (by decide),by rw [e];simp,(nameB_iff.1 hn).2.2⟩
 ·obtain ⟨x,e,hn,_⟩:=keyI_3 h
  exact ⟨x,(congrArg (List.drop 2) e).trans rfl,nameB_no hn (by decide),by rw [e];simp,(nameB_iff.1 hn).2.2⟩
theorem ext_drop (x:List UInt8):((⟨x.toArray⟩:ByteArray).extract 2 x.length).data.toList=x.drop 2:=by
 simp [ByteArray.data_extract,List.extract_eq_take_drop]
 rw [List.take_of_length_le (by simp)]
theorem belN {B:Nat} {w w':World} (h:Below B w w') (n:Nat):Below B w (w'.drewN n):=⟨h.os,h.tape,h.output,h.size,h.block⟩
theorem lessB_eqA:∀ (x y:List UInt8),Op.bytesLess x y=lessB x y
 | _,[]=>by simp [Op.bytesLess,lessB]
 | [],_::_=>by simp [Op.bytesLess,lessB]
 | a::x,b::y=>by simp [Op.bytesLess,lessB,lessB_eqA x y]
theorem look_any (A:Option Addr) (l:List KV) (c:Nat) (hm:l.length≤800000) (hl:∀ p ∈ l,p.1.length < 4294967281∧p.2.length≤9223372036854775807) {B:Nat} (w:World) (hB:B≤w.heap.size) (hV:TxtV B w) (hr:Rd w w.heap.size A (flatE encKV l)) :
  Calls Tryz.prog 30 #[.slice A l.length c] w fun e w'=>∃ b S at' f,e=.returned (.tuple #[.pointer (some ⟨b,0,none⟩),.int .i64 at',faV f])∧AuR l at' f∧SeenAt w' S b l∧(∀ g,S g→w.heap.size≤g)∧Below w.heap.size w w':=by
 have HL:=Hd hl
 have HV:=Hd hV
 have h1:∀ (W:World) (o:Obj),(W.alloc o).heap.size=W.heap.size+1:=fun W o=>by simp
 have hmk1:=run_makeMap (P:=Tryz.prog) 67 w
 have hmk2:=run_makeMap (P:=Tryz.prog) 86 (w.alloc (.map #[] 0))
 have hb1:Below w.heap.size w (w.alloc (.map #[] 0)):=(Below.refl _ _).alloc (Nat.le_refl _) _
 have hb2:=hb1.alloc hb1.size (.map #[] 0)
 have hF:=(FMap.new (P:=Tryz.prog) (k:=9) (kv:=txt) (ev:=intV) w).below (w':=(w.alloc (.map #[] 0)).alloc (.map #[] 0)) (B:=w.heap.size+1) (by have:=(Below.refl (w.heap.size+1) (w.alloc (.map #[] 0))).alloc (by simp) (.map #[] 0);exact this) (by omega)
 have hP:=PTab.new (P:=Tryz.prog) (k:=9) (vt:=31) (S:=fun g=>g=(w.alloc (.map #[] 0)).heap.size) (w.alloc (.map #[] 0)) rfl
 have hS0:=SeenAt.new ((w.alloc (.map #[] 0)).alloc (.map #[] 0)) (nb:=w.heap.size) (pb:=w.heap.size+1) hF (by have:=hP;rw [h1] at this;exact this) (by omega)
 have hb3:=hb2.alloc hb2.size (.cells #[.map (some w.heap.size),.map (some (w.heap.size+1)),.slice none 0 0] 89)
 rw [h1,h1] at hS0
 clear hF hP hb1 hb2 hl hV
 go_enter Tryz.func30,Tryz.ntmps30
 go_upto_region 2 with fail
 refine wp_name (fun w1 HW=>?_)
 rw [← HW.out] at hS0 hb3
 clear HW hmk1 hmk2
 have HS0:=Hd hS0
 clear hS0
 generalize hSB:w.heap.size+1+1=sb at *
 have hsb:w.heap.size≤sb:=by omega
 clear hSB
 go_wp2
 go_loopw [6,21] (fun o i wr=>∃ (k:Nat) (S:Nat→Prop),k≤l.length∧i=.int .i64 (k:Int)∧wr.ownsRow w.heap.size 26 1 o k (errs (l.take k))∧Hid (SeenAt wr S sb (l.take k)∧(∀ g,o.ownBlock=some g→¬ S g)∧(∀ g,S g→w.heap.size≤g))∧Below w.heap.size w wr) (fun _ i _=>l.length - (intOf i).toNat)
 case atStart =>
  refine ⟨0,_,Nat.zero_le _,rfl,World.ownsRow_nil _ _ _ _,Hd ⟨HS0.out,fun g e=>?_,fun g e=>?_⟩,hb3⟩
  ·simp [Value.ownBlock] at e
  ·omega
 case round =>
  clear HS0 hb3
  obtain ⟨k,S,hk,rfl,hown,HI,hb⟩:=hrel
  by_cases hlt:k < l.length
  ·obtain ⟨b0,of0,rfl,hbb,c0,c1⟩:=(hr.below hb).kv hlt
   have hKL:=HL.out l[k] (List.getElem_mem _)
   have hbs:=hb.size
   have HB:=Hd hb
   have hba:=hb.alloc hbs (.cells #[txt l[k].1,txt l[k].2] 78)
   have hbel:=(Below.refl wr.heap.size wr).alloc (Nat.le_refl _) (.cells #[txt l[k].1,txt l[k].2] 78)
   have HK:=Hd (kind_any sb S (l.take k) l[k] hKL.1 hKL.2 (by rw [List.length_take];omega) (wr.alloc (.cells #[txt l[k].1,txt l[k].2] 78)) (Nat.le_trans hB hba.size) (HV.out.on (hba.mono hB)) (HI.out.1.bel hbel))
   have hown1:=own_below hown hbel
   have HO1:=Hd hown1
   have HBA:=Hd hba
   have HTK:=Hd (List.take_succ_eq_append_getElem hlt)
   have HES:=Hd (errs_snoc l hlt)
   clear hKL hb hba hbel hown hown1
   generalize l[k].1=key at *
   generalize l[k].2=val at *
   go_wp2_with fail
   refine HK.out.mono ?_
   rintro e w3 ⟨rfl,S',hS3,hf3,hn3⟩
   have hro3:=row_keep HO1.out (fun g e=>hf3.block g (World.ownsRow.lt HO1.out g e).2 (HI.out.2.1 g e))
   have HI3:=Hd (show SeenAt w3 S' sb (l.take (k+1))∧(∀ g,u6.ownBlock=some g→¬ S' g)∧(∀ g,S' g→w.heap.size≤g) by
    refine ⟨by rw [HTK.out];exact hS3,fun g e q=>?_,fun g q=>?_⟩
    ·rcases hn3 g q with q | q
     ·exact HI.out.2.1 g e q
     ·have:=(World.ownsRow.lt HO1.out g e).2
      omega
    ·rcases hn3 g q with q | q
     ·exact HI.out.2.2 g q
     ·have:=HBA.out.size
      omega)
   have hb3:=HBA.out.trans (hf3.below HBA.out.size HI.out.2.2)
   have hb3s:=hb3.size
   clear hS3 hf3 hn3 HI HK HO1 HBA HB c0 c1
   have hone5:∀ u' ∈ (#[.iface 71 (.int .i64 5)]:Array Value).toList,u'.oneCell'=true:=by intro u' hu';simp at hu';subst hu';rfl
   have hone0:∀ u' ∈ (#[.nilIface]:Array Value).toList,u'.oneCell'=true:=by intro u' hu';simp at hu';subst hu';rfl
   rcases ownE_two l[k] with hq | hq
   ·rw [show faV (ownE l[k])=.nilIface by rw [hq];rfl]
    have hone:=hone0
    have HE:errs (l.take (k+1))=errs (l.take k)++[.nilIface]:=by rw [HES.out,hq];rfl
    clear HES
    have hlen:k < 1000000000:=by omega
    go_wp2_with (at_builtin;go_loud (refine wpList_append_elt (w1:=w3) rfl _ _ 128 rfl 26 Tryz.underlying128 _ 1 16 infoErr rfl (by decide) (by decide) w.heap.size u6 k _ rfl hro3 #[.nilIface] rfl hone rfl hlen hb3s ?_);intro vA wA hownA hgrowA hatA)
    go_roundw
    case rel =>
     have hfA:Fr (fun g=>u6.ownBlock=some g) w3 wA:=(Fr.refl _ w3).grown hgrowA (fun g e _=>e)
     refine ⟨k+1,S',by omega,by go_num,by rw [HE];exact hownA,Hd ⟨HI3.out.1.far hfA (fun g q e=>HI3.out.2.1 g e q),fun g e q=>?_,HI3.out.2.2⟩,hb3.trans (hfA.below hb3s (fun g e=>(World.ownsRow.lt hro3 g e).1))⟩
     rcases hatA with q2 | q2
     ·exact HI3.out.2.1 g (q2.symm.trans e) q
     ·rw [q2] at e
      injection e with e
      have:=HI3.out.1.lt g q
      omega
    case measure=>simp [intOf];omega
   ·rw [show faV (ownE l[k])=.iface 71 (.int .i64 5) by rw [hq];rfl]
    have hone:=hone5
    have HE:errs (l.take (k+1))=errs (l.take k)++[.iface 71 (.int .i64 5)]:=by rw [HES.out,hq];rfl
    clear HES
    have hlen:k < 1000000000:=by omega
    go_wp2_with (at_builtin;go_loud (refine wpList_append_elt (w1:=w3) rfl _ _ 128 rfl 26 Tryz.underlying128 _ 1 16 infoErr rfl (by decide) (by decide) w.heap.size u6 k _ rfl hro3 #[.iface 71 (.int .i64 5)] rfl hone rfl hlen hb3s ?_);intro vA wA hownA hgrowA hatA)
    go_roundw
    case rel =>
     have hfA:Fr (fun g=>u6.ownBlock=some g) w3 wA:=(Fr.refl _ w3).grown hgrowA (fun g e _=>e)
     refine ⟨k+1,S',by omega,by go_num,by rw [HE];exact hownA,Hd ⟨HI3.out.1.far hfA (fun g q e=>HI3.out.2.1 g e q),fun g e q=>?_,HI3.out.2.2⟩,hb3.trans (hfA.below hb3s (fun g e=>(World.ownsRow.lt hro3 g e).1))⟩
     rcases hatA with q2 | q2
     ·exact HI3.out.2.1 g (q2.symm.trans e) q
     ·rw [q2] at e
      injection e with e
      have:=HI3.out.1.lt g q
      omega
    case measure=>simp [intOf];omega
  ·obtain rfl:k=l.length:=by omega
   have HJ:=Hd (show SeenAt wr S sb l∧(∀ g,S g→w.heap.size≤g) by have:=HI.out;rw [List.take_length] at this;exact ⟨this.1,this.2.2⟩)
   rw [List.take_length] at hown
   obtain ⟨nb,pb,v,es1,c1,es2,c2,Sp,hX⟩:=HJ.out.1
   obtain ⟨A6,c6,rfl,hrd6⟩:=own_form hown
   have hvf:∃ Av cv,v=.slice Av (spotsOf l).length cv∧Rd wr wr.heap.size Av (flatE encSp (spotsOf l))∧(spotsOf l).length≤cv:=by
    obtain ⟨Av,cv,e,h⟩:=own_form hX.row
    refine ⟨Av,cv,e,h,?_⟩
    rcases hX.row.2 with ⟨e2,h0⟩ | ⟨g2,cap,cur,e2,_,_,h2,_⟩
    ·omega
    ·rw [e] at e2;injection e2 with _ _ e3;omega
   obtain ⟨Av,cv,rfl,hrdS,hcv⟩:=hvf
   have z2:=hX.blk.cell 2
   simp at z2
   have HX:=Hd hX
   have HB:=Hd hb
   have hSn:(spotsOf l).length≤l.length:=spots_len l
   clear hown hX
   obtain ⟨wS,rfl⟩:∃ W,W=wr:=⟨_,rfl⟩
   go_wp2
   go_loopw [9,38] (fun o i wr=>∃ (k:Nat) (A3:Option Addr) (c3:Nat),k≤l.length∧i=.int .i64 (k:Int)∧o=.slice A3 ((spotsOf l).length - (spotsOf (l.take k)).length) c3∧Hid (Rd wS wS.heap.size A3 (flatE encSp ((spotsOf l).drop (spotsOf (l.take k)).length))∧(spotsOf l).length - (spotsOf (l.take k)).length≤c3)∧Hid (∀ j (hj:j < l.length),j < k→auAt l j l[j]=0)∧Below wS.heap.size wS wr) (fun _ i _=>l.length - (intOf i).toNat)
   case atStart=>exact ⟨0,Av,cv,Nat.zero_le _,rfl,rfl,Hd ⟨hrdS,hcv⟩,Hd (fun j hj h0=>by omega),Below.refl _ _⟩
   case round =>
    obtain ⟨k,A3,c3,hk,rfl,rfl,HS,HN,hb2⟩:=hrel
    by_cases hlt:k < l.length
    ·obtain ⟨b0,of0,rfl,hbb,d0,d1⟩:=((hr.below HB.out).below (hb2.mono HB.out.size)).kv hlt
     have hbs:=hb2.size
     generalize hM:(spotsOf (l.take k)).length=m at HS ⊢
     have HM:=Hd hM
     clear hM
     generalize hR:(spotsOf l).length - m=r at HS ⊢
     have HR:=Hd hR
     clear hR
     have hb5:=hb2.alloc hbs (.cells #[txt l[k].1,txt l[k].2] 78)
     have hbk:=Blk.new wr 78 #[txt l[k].1,txt l[k].2]
     have HKL:=Hd (HL.out l[k] (List.getElem_mem _))
     have HGE:=Hd (show l[k] ∈ l from List.getElem_mem _)
     have HGK:=Hd (show l[k]=l[k] from rfl)
     go_upto_region 12 with fail
     refine wp_name (fun w5 HW=>?_)
     rw [← HW.out] at hb5 hbk
     have hgs:w5.heap.size=wr.heap.size+1:=by rw [HW.out];simp
     clear HW d0 d1
     generalize wr.heap.size=g11 at *
     by_cases hk0:k=0
     ·subst hk0
      have HOR:=Hd (show OrdK l 0 l[0] from fun q=>by omega)
      have x0:=hbk.cell 0
      simp at x0
      go_quiet (fail)
      generalize hW6:World.drewN w5 nq=w6
      have hb6:Below wS.heap.size wS w6:=by rw [← hW6];exact ⟨hb5.os,hb5.tape,hb5.output,hb5.size,hb5.block⟩
      have x0:w6.cell? ⟨g11,0,none⟩=some (txt l[0].1):=by rw [← hW6];exact x0
      have hbs6:=hb6.size
      clear hW6 hb5 hbk
      obtain ⟨b6,of6,rfl,_,e0⟩:=(hrd6.below hb6).err hlt
      simp only [Nat.add_zero] at e0
      by_cases hq:ownE l[0]=0
      ·rw [show faV (ownE l[0])=.nilIface by rw [hq];rfl] at e0
       have hki:=(ownE_zero.1 hq).1
       have HQ0:=Hd hq
       have HKI:=Hd hki
       have HB6:=Hd hb6
       clear hq hb6
       by_cases h1:(keyI l[0].1).kind=1
       ·have HP:=Hd (fun W=>(hasPre l[0].1 [110,47] W))
        have hpt:=(pre_n1 hki).2 h1
        rw [hpt] at HP
        have HSM:=Hd (show (spotsOf (l.take (0+1))).length=m by rw [List.take_succ_eq_append_getElem hlt,spots_snoc];unfold spotAt;rw [if_neg (by omega)];simpa using HM.out)
        have HAU:=Hd (au_net HOR.out HQ0.out h1)
        clear hpt hki h1
        go_wp2_with fail
        refine (HP.out _).mono ?_
        rintro e w7 ⟨rfl,rfl⟩
        go_wp2
        go_roundw
        case rel=>exact ⟨0+1,A3,c3,by omega,by go_num,by rw [HSM.out,HR.out],by rw [HSM.out,HR.out];exact HS,Hd (fun j hj hjk=>by
         by_cases e:j=0
         ·subst e;exact HAU.out
         ·exact HN.out j hj (by omega)),HB6.out⟩
        case measure=>simp [intOf];omega
       ·have h23:(keyI l[0].1).kind=2∨(keyI l[0].1).kind=3:=by have:=keyI_le l[0].1;omega
        have HP:=Hd (fun W=>(hasPre l[0].1 [110,47] W))
        have hpf:([110,47]:List UInt8).isPrefixOf l[0].1=false:=by
         cases q:([110,47]:List UInt8).isPrefixOf l[0].1 with
         | false=>rfl
         | true=>exact absurd ((pre_n1 hki).1 q) h1
        rw [hpf] at HP
        obtain ⟨cx,hcx,hc47,hcl,hcn⟩:=cut_net h23
        have hce:∀ W,TxtV B W→Calls Tryz.prog 54 #[.string ((⟨l[0].1.toArray⟩:ByteArray).extract 2 l[0].1.length),.string ⟨#[47]⟩] W fun e w'=>e=.returned (.tuple #[txt (keyI l[0].1).net,txt cx,.bool true])∧∃ n,w'=W.drewN n:=fun W hW=>by
         have hlen:((keyI l[0].1).net++47::cx).length < 4294967281:=by rw [← hcx,List.length_drop];have:=HKL.out.1;omega
         have:=cut_any ((keyI l[0].1).net++47::cx) 47 hlen W hW
         rw [cut_hit cx hc47] at this
         rw [txt_of,show ((⟨l[0].1.toArray⟩:ByteArray).extract 2 l[0].1.length).data.toList=(keyI l[0].1).net++47::cx from (ext_drop _).trans hcx]
         exact this
        have HC:=Hd hce
        obtain ⟨kl,hkl⟩:=txt_key (keyI l[0].1).net (by unfold maxLen;omega)
        have HAP:=Hd (fun W=>(hasPre l[0].1 [97,47] W))
        have HH23:=Hd h23
        have hcl':(2:Int)≤(l[0].1.length:Int):=by omega
        clear hpf hce hcx hc47 hcn h23
        go_wp2_with fail
        refine (HP.out _).mono ?_
        rintro e w7 ⟨rfl,rfl⟩
        go_wp2_with fail
        refine (HC.out _ (HV.out.on ((HB.out.mono hB).trans (HB6.out.mono (Nat.le_trans hB HB.out.size))))).mono ?_
        rintro e w8 ⟨rfl,n8,hw8⟩
        have hb8:Below wS.heap.size wS w8:=by rw [hw8];exact belN HB6.out n8
        have x0:w8.cell? ⟨g11,0,none⟩=some (txt l[0].1):=by rw [hw8];exact x0
        clear hw8 HP HC e0 HB6 hbs6
        have hX8:=HX.out.bel hb8
        have s0:=hX8.blk.cell 0
        have s1:=hX8.blk.cell 1
        simp at s0 s1
        have HB8:=Hd hb8
        have HNT:=Hd (show (keyI l[0].1).net=(keyI l[0].1).net from rfl)
        by_cases hnet:netIn l (keyI l[0].1).net=true
        ·have hlk:(Instr.lookup 67 (.map (some nb)) (txt (keyI l[0].1).net) false).run Tryz.prog w8=.ok (.int .i64 1) w8:=by
          rcases hX8.nets.look strKey Tryz.underlying67 (zeroInt w8) (keyI l[0].1).net hkl false with ⟨q1,_⟩ | ⟨y,q1,q2⟩
          ·unfold netF at q1;rw [if_pos hnet] at q1;cases q1
          ·unfold netF at q1
           rw [if_pos hnet] at q1
           injection q1 with q1
           subst q1
           simpa using q2
         by_cases h3:(keyI l[0].1).kind=3
         ·have hap:=(pre_a hki).2 h3
          rw [hap] at HAP
          obtain ⟨hmn,hsp⟩:=spots_at l hlt h3
          rw [HM.out] at hmn
          have hsp2:(spotsOf l)[m].2=((keyI l[0].1).ad:Int):=by
           have:(spotsOf l)[m]'hmn=((keyI l[0].1).net,((keyI l[0].1).ad:Int)):=by have e:=hsp;simp only [HM.out] at e;exact e
           rw [this]
          obtain ⟨b3,of3,rfl,hb3,e3⟩:=Rd.spotHead hmn (HS.out.1.below hb8)
          rw [hsp2] at e3
          obtain ⟨u,hlu,hu,huf⟩:=ptab_look (t:=86) hX8.pfx strKey Tryz.underlying86 zeroRowP (keyI l[0].1).net hkl
          obtain ⟨Au,cu,rfl,hru⟩:=own_form hu
          have hl1:=hlu w8 hX8.pfx.map
          have hl2:=hlu w8.drew hX8.drew.pfx.map
          have HCK:=Hd (kind3_chk h3)
          have HWN:=Hd (fun W (h:Rd W W.heap.size Au (cellsP (pfxOf l (keyI l[0].1).net)))=>withinL_any ((keyI l[0].1).ad:Int) HCK.out Au (pfxOf l (keyI l[0].1).net) cu (by have:=pfxOf_len l (keyI l[0].1).net;unfold maxLen;omega) (pfxOf_chk l _) W h)
          have HRU:=Hd hru
          have HSB8:=Hd (show sb < w8.heap.size from hX8.blk.lt)
          have hr1:0 < r:=by have:=HR.out;omega
          have h0:(0:Int) < (r:Int):=by omega
          have hr2:(1:Int)≤(r:Int):=by omega
          have hr3:(r:Int)≤(c3:Int):=by have:=HS.out.2;omega
          have hr4:1≤r:=hr1
          have hr5:r≤c3:=HS.out.2
          have hlenp:(pfxOf l (keyI l[0].1).net).length≤800000:=by have:=pfxOf_len l (keyI l[0].1).net;omega
          clear hu huf hlu hru hX8 hsp hsp2 hap
          go_wp2_with fail
          refine (HAP.out _).mono ?_
          rintro e w9 ⟨rfl,rfl⟩
          go_upto_region 21 with fail
          have k0:w9.cell? ⟨b3,of3+1,none⟩=some (.int .i64 ((keyI l[0].1).ad:Int))∧w9.cell? ⟨sb,1,none⟩=some (.map (some pb)):=⟨e3,s1⟩
          have k1:w9.drew.cell? ⟨b3,of3+1,none⟩=some (.int .i64 ((keyI l[0].1).ad:Int))∧w9.drew.cell? ⟨sb,1,none⟩=some (.map (some pb)):=k0
          by_cases hany:(pfxOf l (keyI l[0].1).net).any (fun q=>inP ((keyI l[0].1).ad:Int) 32 q.1 q.2)=true
          ·simp only [hany] at HWN
           have HAU:=Hd (au_in HOR.out HQ0.out h3 hnet hany)
           go_region_held3 (fun W=>W.cell? ⟨b3,of3+1,none⟩=some (.int .i64 ((keyI l[0].1).ad:Int))∧W.cell? ⟨sb,1,none⟩=some (.map (some pb)))
            (first | with_reducible exact k0 | with_reducible exact k1 | with_reducible exact k2)
            (first | (go_at_call 55;refine (HWN.out w9.drew HRU.out).mono ?_;rintro e w10 ⟨rfl,hb10⟩;have hb11:=(((Below.refl w9.heap.size w9).drew).trans hb10);have k2:=(show w10.cell? ⟨b3,of3+1,none⟩=some (.int .i64 ((keyI l[0].1).ad:Int))∧w10.cell? ⟨sb,1,none⟩=some (.map (some pb)) from ⟨(hb11.cell (p:=⟨b3,of3+1,none⟩) (Nat.lt_of_lt_of_le hb3 HB8.out.size)).trans k0.1,(hb11.cell (p:=⟨sb,1,none⟩) HSB8.out).trans k0.2⟩)))
           all_goals (
            have HB9:=Hd (HB8.out.trans (hb11.mono HB8.out.size))
            have HSM:=Hd (show (spotsOf (l.take (0+1))).length=m+1 by rw [List.take_succ_eq_append_getElem hlt,spots_snoc];unfold spotAt;rw [if_pos h3];simpa using HM.out)
            clear hb10 hb11 k2
            go_wp2
            go_roundw
            case rel=>exact ⟨0+1,if c3=1 then some ⟨b3,of3,none⟩ else some ⟨b3,of3+2,none⟩,c3 - 1,by omega,by go_num,by rw [HSM.out,← Nat.sub_sub,HR.out],by rw [HSM.out,← Nat.sub_sub,HR.out];exact Hd ⟨HS.out.1.spotTail2 (fun e=>by have:=HR.out;omega),by omega⟩,Hd (fun j hj hjk=>by
             by_cases e:j=0
             ·subst e;exact HAU.out
             ·exact HN.out j hj (by omega)),HB9.out⟩
            case measure=>simp [intOf];omega)
          ·have hany:(pfxOf l (keyI l[0].1).net).any (fun q=>inP ((keyI l[0].1).ad:Int) 32 q.1 q.2)=false:=by simpa using hany
           simp only [hany] at HWN
           have HAU:=Hd (au_out HOR.out HQ0.out h3 hnet hany)
           go_region_held3 (fun W=>W.cell? ⟨b3,of3+1,none⟩=some (.int .i64 ((keyI l[0].1).ad:Int))∧W.cell? ⟨sb,1,none⟩=some (.map (some pb)))
            (first | with_reducible exact k0 | with_reducible exact k1 | with_reducible exact k2)
            (first | (go_at_call 55;refine (HWN.out w9.drew HRU.out).mono ?_;rintro e w10 ⟨rfl,hb10⟩;have hb11:=(((Below.refl w9.heap.size w9).drew).trans hb10);have k2:=(show w10.cell? ⟨b3,of3+1,none⟩=some (.int .i64 ((keyI l[0].1).ad:Int))∧w10.cell? ⟨sb,1,none⟩=some (.map (some pb)) from ⟨(hb11.cell (p:=⟨b3,of3+1,none⟩) (Nat.lt_of_lt_of_le hb3 HB8.out.size)).trans k0.1,(hb11.cell (p:=⟨sb,1,none⟩) HSB8.out).trans k0.2⟩)))
           all_goals (
            have HB9:=Hd (HB8.out.trans (hb11.mono HB8.out.size))
            clear hb10 hb11 k2
            go_wp2
            go_ret3
            exact ⟨sb,S,0,7,rfl,.inr ⟨0,hlt,rfl,HAU.out.symm,by decide,fun j hj=>HN.out j (by omega) hj⟩,⟨_,_,_,_,_,_,_,_,HX.out.bel HB9.out⟩,HJ.out.2,HB.out.trans (HB9.out.mono HB.out.size)⟩)
         ·have h2:(keyI l[0].1).kind=2:=HH23.out.resolve_right h3
          have hap:([97,47]:List UInt8).isPrefixOf l[0].1=false:=by
           cases q:([97,47]:List UInt8).isPrefixOf l[0].1 with
           | false=>rfl
           | true=>exact absurd ((pre_a hki).1 q) h3
          rw [hap] at HAP
          have HSM:=Hd (show (spotsOf (l.take (0+1))).length=m by rw [List.take_succ_eq_append_getElem hlt,spots_snoc];unfold spotAt;rw [if_neg (by omega)];simpa using HM.out)
          have HAU:=Hd (au_pfx HOR.out HQ0.out h2 hnet)
          clear hap hX8
          go_wp2_with fail
          refine (HAP.out _).mono ?_
          rintro e w9 ⟨rfl,rfl⟩
          go_wp2
          go_roundw
          case rel=>exact ⟨0+1,A3,c3,by omega,by go_num,by rw [HSM.out,HR.out],by rw [HSM.out,HR.out];exact HS,Hd (fun j hj hjk=>by
           by_cases e:j=0
           ·subst e;exact HAU.out
           ·exact HN.out j hj (by omega)),HB8.out⟩
          case measure=>simp [intOf];omega
        ·have hlk:(Instr.lookup 67 (.map (some nb)) (txt (keyI l[0].1).net) false).run Tryz.prog w8=.ok (.int .i64 0) w8:=by
          rcases hX8.nets.look strKey Tryz.underlying67 (zeroInt w8) (keyI l[0].1).net hkl false with ⟨q1,q2⟩ | ⟨y,q1,q2⟩
          ·simpa using q2
          ·unfold netF at q1;rw [if_neg hnet] at q1;cases q1
         have HAU:=Hd (au_none HOR.out HQ0.out h1 (by simpa using hnet))
         clear hX8 hnet
         go_wp2
         go_ret3
         exact ⟨sb,S,0,4,rfl,.inr ⟨0,hlt,rfl,HAU.out.symm,by decide,fun j hj=>HN.out j (by omega) hj⟩,⟨_,_,_,_,_,_,_,_,HX.out.bel HB8.out⟩,HJ.out.2,HB.out.trans (HB8.out.mono HB.out.size)⟩
      ·have hq5:ownE l[0]=5:=(ownE_two l[0]).resolve_left hq
       rw [show faV (ownE l[0])=.iface 71 (.int .i64 5) by rw [hq5];rfl] at e0
       have HAU:=Hd (au_own HOR.out hq)
       have HBF:=Hd hb6
       clear hb6 hq hq5
       go_wp2_with fail
       go_quiet (fail)
       go_wp2
       go_ret3
       exact ⟨sb,S,0,5,rfl,.inr ⟨0,hlt,rfl,HAU.out.symm,by decide,fun j hj=>HN.out j (by omega) hj⟩,⟨_,_,_,_,_,_,_,_,HX.out.bel (belN HBF.out _)⟩,HJ.out.2,HB.out.trans ((belN HBF.out _).mono HB.out.size)⟩
     ·have hk1:(0:Int) < (k:Int):=by omega
      have hz1:(k:Int) - 1=((k - 1:Nat):Int):=by omega
      have hk2:((k - 1:Nat):Int) < (l.length:Int):=by omega
      have hk3:k - 1 < l.length:=by omega
      have hk4:0 < k:=by omega
      obtain ⟨b0',of0',e0,_,d0,d1⟩:=((hr.below HB.out).below (hb5.mono HB.out.size)).kv (show k - 1 < l.length by omega)
      injection e0 with e0
      injection e0 with e1 e2
      subst e1
      subst e2
      by_cases hle:lessB l[k - 1].1 l[k].1=true
      ·have hc1:Op.bytesLess l[k].1 l[k - 1].1=false:=by rw [lessB_eqA];exact lessB_asymm hle
       have hc2:(l[k].1 == l[k - 1].1)=false:=by simpa using (lessB_ne hle).symm
       have HOR:=Hd (show OrdK l k l[k] from fun q=>by rw [getD_at l (show k - 1 < l.length by omega),hle] at q;cases q.2)
       have x0:=hbk.cell 0
       simp at x0
       go_quiet (fail)
       generalize hW6:World.drewN w5 nq=w6
       have hb6:Below wS.heap.size wS w6:=by rw [← hW6];exact ⟨hb5.os,hb5.tape,hb5.output,hb5.size,hb5.block⟩
       have x0:w6.cell? ⟨g11,0,none⟩=some (txt l[k].1):=by rw [← hW6];exact x0
       have hbs6:=hb6.size
       clear hW6 hb5 hbk
       obtain ⟨b6,of6,rfl,_,e0⟩:=(hrd6.below hb6).err hlt
       by_cases hq:ownE l[k]=0
       ·rw [show faV (ownE l[k])=.nilIface by rw [hq];rfl] at e0
        have hki:=(ownE_zero.1 hq).1
        have HQ0:=Hd hq
        have HKI:=Hd hki
        have HB6:=Hd hb6
        clear hq hb6
        by_cases h1:(keyI l[k].1).kind=1
        ·have HP:=Hd (fun W=>(hasPre l[k].1 [110,47] W))
         have hpt:=(pre_n1 hki).2 h1
         rw [hpt] at HP
         have HSM:=Hd (show (spotsOf (l.take (k+1))).length=m by rw [List.take_succ_eq_append_getElem hlt,spots_snoc];unfold spotAt;rw [if_neg (by omega)];simpa using HM.out)
         have HAU:=Hd (au_net HOR.out HQ0.out h1)
         clear hpt hki h1
         go_wp2_with fail
         refine (HP.out _).mono ?_
         rintro e w7 ⟨rfl,rfl⟩
         go_wp2
         go_roundw
         case rel=>exact ⟨k+1,A3,c3,by omega,by go_num,by rw [HSM.out,HR.out],by rw [HSM.out,HR.out];exact HS,Hd (fun j hj hjk=>by
          by_cases e:j=k
          ·subst e;exact HAU.out
          ·exact HN.out j hj (by omega)),HB6.out⟩
         case measure=>simp [intOf];omega
        ·have h23:(keyI l[k].1).kind=2∨(keyI l[k].1).kind=3:=by have:=keyI_le l[k].1;omega
         have HP:=Hd (fun W=>(hasPre l[k].1 [110,47] W))
         have hpf:([110,47]:List UInt8).isPrefixOf l[k].1=false:=by
          cases q:([110,47]:List UInt8).isPrefixOf l[k].1 with
          | false=>rfl
          | true=>exact absurd ((pre_n1 hki).1 q) h1
         rw [hpf] at HP
         obtain ⟨cx,hcx,hc47,hcl,hcn⟩:=cut_net h23
         have hce:∀ W,TxtV B W→Calls Tryz.prog 54 #[.string ((⟨l[k].1.toArray⟩:ByteArray).extract 2 l[k].1.length),.string ⟨#[47]⟩] W fun e w'=>e=.returned (.tuple #[txt (keyI l[k].1).net,txt cx,.bool true])∧∃ n,w'=W.drewN n:=fun W hW=>by
          have hlen:((keyI l[k].1).net++47::cx).length < 4294967281:=by rw [← hcx,List.length_drop];have:=HKL.out.1;omega
          have:=cut_any ((keyI l[k].1).net++47::cx) 47 hlen W hW
          rw [cut_hit cx hc47] at this
          rw [txt_of,show ((⟨l[k].1.toArray⟩:ByteArray).extract 2 l[k].1.length).data.toList=(keyI l[k].1).net++47::cx from (ext_drop _).trans hcx]
          exact this
         have HC:=Hd hce
         obtain ⟨kl,hkl⟩:=txt_key (keyI l[k].1).net (by unfold maxLen;omega)
         have HAP:=Hd (fun W=>(hasPre l[k].1 [97,47] W))
         have HH23:=Hd h23
         have hcl':(2:Int)≤(l[k].1.length:Int):=by omega
         clear hpf hce hcx hc47 hcn h23
         go_wp2_with fail
         refine (HP.out _).mono ?_
         rintro e w7 ⟨rfl,rfl⟩
         go_wp2_with fail
         refine (HC.out _ (HV.out.on ((HB.out.mono hB).trans (HB6.out.mono (Nat.le_trans hB HB.out.size))))).mono ?_
         rintro e w8 ⟨rfl,n8,hw8⟩
         have hb8:Below wS.heap.size wS w8:=by rw [hw8];exact belN HB6.out n8
         have x0:w8.cell? ⟨g11,0,none⟩=some (txt l[k].1):=by rw [hw8];exact x0
         clear hw8 HP HC e0 HB6 hbs6
         have hX8:=HX.out.bel hb8
         have s0:=hX8.blk.cell 0
         have s1:=hX8.blk.cell 1
         simp at s0 s1
         have HB8:=Hd hb8
         have HNT:=Hd (show (keyI l[k].1).net=(keyI l[k].1).net from rfl)
         by_cases hnet:netIn l (keyI l[k].1).net=true
         ·have hlk:(Instr.lookup 67 (.map (some nb)) (txt (keyI l[k].1).net) false).run Tryz.prog w8=.ok (.int .i64 1) w8:=by
           rcases hX8.nets.look strKey Tryz.underlying67 (zeroInt w8) (keyI l[k].1).net hkl false with ⟨q1,_⟩ | ⟨y,q1,q2⟩
           ·unfold netF at q1;rw [if_pos hnet] at q1;cases q1
           ·unfold netF at q1
            rw [if_pos hnet] at q1
            injection q1 with q1
            subst q1
            simpa using q2
          by_cases h3:(keyI l[k].1).kind=3
          ·have hap:=(pre_a hki).2 h3
           rw [hap] at HAP
           obtain ⟨hmn,hsp⟩:=spots_at l hlt h3
           rw [HM.out] at hmn
           have hsp2:(spotsOf l)[m].2=((keyI l[k].1).ad:Int):=by
            have:(spotsOf l)[m]'hmn=((keyI l[k].1).net,((keyI l[k].1).ad:Int)):=by have e:=hsp;simp only [HM.out] at e;exact e
            rw [this]
           obtain ⟨b3,of3,rfl,hb3,e3⟩:=Rd.spotHead hmn (HS.out.1.below hb8)
           rw [hsp2] at e3
           obtain ⟨u,hlu,hu,huf⟩:=ptab_look (t:=86) hX8.pfx strKey Tryz.underlying86 zeroRowP (keyI l[k].1).net hkl
           obtain ⟨Au,cu,rfl,hru⟩:=own_form hu
           have hl1:=hlu w8 hX8.pfx.map
           have hl2:=hlu w8.drew hX8.drew.pfx.map
           have HCK:=Hd (kind3_chk h3)
           have HWN:=Hd (fun W (h:Rd W W.heap.size Au (cellsP (pfxOf l (keyI l[k].1).net)))=>withinL_any ((keyI l[k].1).ad:Int) HCK.out Au (pfxOf l (keyI l[k].1).net) cu (by have:=pfxOf_len l (keyI l[k].1).net;unfold maxLen;omega) (pfxOf_chk l _) W h)
           have HRU:=Hd hru
           have HSB8:=Hd (show sb < w8.heap.size from hX8.blk.lt)
           have hr1:0 < r:=by have:=HR.out;omega
           have h0:(0:Int) < (r:Int):=by omega
           have hr2:(1:Int)≤(r:Int):=by omega
           have hr3:(r:Int)≤(c3:Int):=by have:=HS.out.2;omega
           have hr4:1≤r:=hr1
           have hr5:r≤c3:=HS.out.2
           have hlenp:(pfxOf l (keyI l[k].1).net).length≤800000:=by have:=pfxOf_len l (keyI l[k].1).net;omega
           clear hu huf hlu hru hX8 hsp hsp2 hap
           go_wp2_with fail
           refine (HAP.out _).mono ?_
           rintro e w9 ⟨rfl,rfl⟩
           go_upto_region 21 with fail
           have k0:w9.cell? ⟨b3,of3+1,none⟩=some (.int .i64 ((keyI l[k].1).ad:Int))∧w9.cell? ⟨sb,1,none⟩=some (.map (some pb)):=⟨e3,s1⟩
           have k1:w9.drew.cell? ⟨b3,of3+1,none⟩=some (.int .i64 ((keyI l[k].1).ad:Int))∧w9.drew.cell? ⟨sb,1,none⟩=some (.map (some pb)):=k0
           by_cases hany:(pfxOf l (keyI l[k].1).net).any (fun q=>inP ((keyI l[k].1).ad:Int) 32 q.1 q.2)=true
           ·simp only [hany] at HWN
            have HAU:=Hd (au_in HOR.out HQ0.out h3 hnet hany)
            go_region_held3 (fun W=>W.cell? ⟨b3,of3+1,none⟩=some (.int .i64 ((keyI l[k].1).ad:Int))∧W.cell? ⟨sb,1,none⟩=some (.map (some pb)))
             (first | with_reducible exact k0 | with_reducible exact k1 | with_reducible exact k2)
             (first | (go_at_call 55;refine (HWN.out w9.drew HRU.out).mono ?_;rintro e w10 ⟨rfl,hb10⟩;have hb11:=(((Below.refl w9.heap.size w9).drew).trans hb10);have k2:=(show w10.cell? ⟨b3,of3+1,none⟩=some (.int .i64 ((keyI l[k].1).ad:Int))∧w10.cell? ⟨sb,1,none⟩=some (.map (some pb)) from ⟨(hb11.cell (p:=⟨b3,of3+1,none⟩) (Nat.lt_of_lt_of_le hb3 HB8.out.size)).trans k0.1,(hb11.cell (p:=⟨sb,1,none⟩) HSB8.out).trans k0.2⟩)))
            all_goals (
             have HB9:=Hd (HB8.out.trans (hb11.mono HB8.out.size))
             have HSM:=Hd (show (spotsOf (l.take (k+1))).length=m+1 by rw [List.take_succ_eq_append_getElem hlt,spots_snoc];unfold spotAt;rw [if_pos h3];simpa using HM.out)
             clear hb10 hb11 k2
             go_wp2
             go_roundw
             case rel=>exact ⟨k+1,if c3=1 then some ⟨b3,of3,none⟩ else some ⟨b3,of3+2,none⟩,c3 - 1,by omega,by go_num,by rw [HSM.out,← Nat.sub_sub,HR.out],by rw [HSM.out,← Nat.sub_sub,HR.out];exact Hd ⟨HS.out.1.spotTail2 (fun e=>by have:=HR.out;omega),by omega⟩,Hd (fun j hj hjk=>by
              by_cases e:j=k
              ·subst e;exact HAU.out
              ·exact HN.out j hj (by omega)),HB9.out⟩
             case measure=>simp [intOf];omega)
           ·have hany:(pfxOf l (keyI l[k].1).net).any (fun q=>inP ((keyI l[k].1).ad:Int) 32 q.1 q.2)=false:=by simpa using hany
            simp only [hany] at HWN
            have HAU:=Hd (au_out HOR.out HQ0.out h3 hnet hany)
            go_region_held3 (fun W=>W.cell? ⟨b3,of3+1,none⟩=some (.int .i64 ((keyI l[k].1).ad:Int))∧W.cell? ⟨sb,1,none⟩=some (.map (some pb)))
             (first | with_reducible exact k0 | with_reducible exact k1 | with_reducible exact k2)
             (first | (go_at_call 55;refine (HWN.out w9.drew HRU.out).mono ?_;rintro e w10 ⟨rfl,hb10⟩;have hb11:=(((Below.refl w9.heap.size w9).drew).trans hb10);have k2:=(show w10.cell? ⟨b3,of3+1,none⟩=some (.int .i64 ((keyI l[k].1).ad:Int))∧w10.cell? ⟨sb,1,none⟩=some (.map (some pb)) from ⟨(hb11.cell (p:=⟨b3,of3+1,none⟩) (Nat.lt_of_lt_of_le hb3 HB8.out.size)).trans k0.1,(hb11.cell (p:=⟨sb,1,none⟩) HSB8.out).trans k0.2⟩)))
            all_goals (
             have HB9:=Hd (HB8.out.trans (hb11.mono HB8.out.size))
             clear hb10 hb11 k2
             go_wp2
             go_ret3
             exact ⟨sb,S,k,7,rfl,.inr ⟨k,hlt,rfl,HAU.out.symm,by decide,fun j hj=>HN.out j (by omega) hj⟩,⟨_,_,_,_,_,_,_,_,HX.out.bel HB9.out⟩,HJ.out.2,HB.out.trans (HB9.out.mono HB.out.size)⟩)
          ·have h2:(keyI l[k].1).kind=2:=HH23.out.resolve_right h3
           have hap:([97,47]:List UInt8).isPrefixOf l[k].1=false:=by
            cases q:([97,47]:List UInt8).isPrefixOf l[k].1 with
            | false=>rfl
            | true=>exact absurd ((pre_a hki).1 q) h3
           rw [hap] at HAP
           have HSM:=Hd (show (spotsOf (l.take (k+1))).length=m by rw [List.take_succ_eq_append_getElem hlt,spots_snoc];unfold spotAt;rw [if_neg (by omega)];simpa using HM.out)
           have HAU:=Hd (au_pfx HOR.out HQ0.out h2 hnet)
           clear hap hX8
           go_wp2_with fail
           refine (HAP.out _).mono ?_
           rintro e w9 ⟨rfl,rfl⟩
           go_wp2
           go_roundw
           case rel=>exact ⟨k+1,A3,c3,by omega,by go_num,by rw [HSM.out,HR.out],by rw [HSM.out,HR.out];exact HS,Hd (fun j hj hjk=>by
            by_cases e:j=k
            ·subst e;exact HAU.out
            ·exact HN.out j hj (by omega)),HB8.out⟩
           case measure=>simp [intOf];omega
         ·have hlk:(Instr.lookup 67 (.map (some nb)) (txt (keyI l[k].1).net) false).run Tryz.prog w8=.ok (.int .i64 0) w8:=by
           rcases hX8.nets.look strKey Tryz.underlying67 (zeroInt w8) (keyI l[k].1).net hkl false with ⟨q1,q2⟩ | ⟨y,q1,q2⟩
           ·simpa using q2
           ·unfold netF at q1;rw [if_neg hnet] at q1;cases q1
          have HAU:=Hd (au_none HOR.out HQ0.out h1 (by simpa using hnet))
          clear hX8 hnet
          go_wp2
          go_ret3
          exact ⟨sb,S,k,4,rfl,.inr ⟨k,hlt,rfl,HAU.out.symm,by decide,fun j hj=>HN.out j (by omega) hj⟩,⟨_,_,_,_,_,_,_,_,HX.out.bel HB8.out⟩,HJ.out.2,HB.out.trans (HB8.out.mono HB.out.size)⟩
       ·have hq5:ownE l[k]=5:=(ownE_two l[k]).resolve_left hq
        rw [show faV (ownE l[k])=.iface 71 (.int .i64 5) by rw [hq5];rfl] at e0
        have HAU:=Hd (au_own HOR.out hq)
        have HBF:=Hd hb6
        clear hb6 hq hq5
        go_wp2_with fail
        go_quiet (fail)
        go_wp2
        go_ret3
        exact ⟨sb,S,k,5,rfl,.inr ⟨k,hlt,rfl,HAU.out.symm,by decide,fun j hj=>HN.out j (by omega) hj⟩,⟨_,_,_,_,_,_,_,_,HX.out.bel (belN HBF.out _)⟩,HJ.out.2,HB.out.trans ((belN HBF.out _).mono HB.out.size)⟩
      ·have hsh:=Hd (au_shape (show ¬ OrdK l k l[k] from fun q=>q ⟨by omega,by rw [getD_at l (show k - 1 < l.length by omega)];simpa using hle⟩))
       have hor:Op.bytesLess l[k].1 l[k - 1].1=true∨(l[k].1 == l[k - 1].1)=true:=by
        rw [lessB_eqA]
        rcases lessB_total l[k].1 l[k - 1].1 with q | q | q
        ·exact .inl q
        ·exact .inr (by simpa using q)
        ·exact absurd q hle
       have HBF:=Hd hb5
       have x0:=hbk.cell 0
       simp at x0
       clear hbk hle hgs
       rcases hor with hc1 | hc1
       ·go_quiet (fail)
        have HAU:=hsh
        go_wp2
        go_ret3
        exact ⟨sb,S,k,2,rfl,.inr ⟨k,hlt,rfl,HAU.out.symm,by decide,fun j hj=>HN.out j (by omega) hj⟩,⟨_,_,_,_,_,_,_,_,HX.out.bel (belN HBF.out _)⟩,HJ.out.2,HB.out.trans ((belN HBF.out _).mono HB.out.size)⟩
       ·go_quiet (fail)
        have HAU:=hsh
        go_wp2
        go_ret3
        exact ⟨sb,S,k,2,rfl,.inr ⟨k,hlt,rfl,HAU.out.symm,by decide,fun j hj=>HN.out j (by omega) hj⟩,⟨_,_,_,_,_,_,_,_,HX.out.bel (belN HBF.out _)⟩,HJ.out.2,HB.out.trans ((belN HBF.out _).mono HB.out.size)⟩
    ·obtain rfl:k=l.length:=by omega
     go_wp2
     go_ret3
     exact ⟨sb,S,0,0,rfl,.inl ⟨rfl,rfl,fun i hi=>HN.out i hi hi⟩,⟨_,_,_,_,_,_,_,_,HX.out.bel hb2⟩,HJ.out.2,HB.out.trans (hb2.mono HB.out.size)⟩
def PrefR (l:List KV) (net:List UInt8) (f:Int) (L:List Pf):Prop :=
 (∃ at',AuR l at' f∧f≠0∧L=[])∨(AuR l 0 0∧netIn l net=false∧f=4∧L=[])∨(AuR l 0 0∧netIn l net=true∧60 < (pfxOf l net).length∧f=3∧L=[])∨(AuR l 0 0∧netIn l net=true∧(pfxOf l net).length≤60∧f=0∧L=pfxOf l net)
theorem AuR.at0 {l:List KV} {at':Int} (h:AuR l at' 0):at'=0:=by
 rcases h with ⟨_,h2,_⟩ | ⟨i,hi,_,h2,h3,_⟩
 ·exact h2
 ·exact absurd rfl h3
theorem audPrefixes_any (A:Option Addr) (l:List KV) (c:Nat) (net:List UInt8) (hnet:net.length≤maxLen) (hm:l.length≤800000) (hl:∀ p ∈ l,p.1.length < 4294967281∧p.2.length≤9223372036854775807) {B:Nat} (w:World) (hB:B≤w.heap.size) (hV:TxtV B w) (hr:Rd w w.heap.size A (flatE encKV l)) :
  Calls Tryz.prog 18 #[.slice A l.length c,txt net] w fun e w'=>∃ v L f,e=.returned (.tuple #[v,faV f])∧PrefR l net f L∧w'.ownsRow 0 31 2 v L.length (cellsP L)∧Below w.heap.size w w':=by
 have HO:=Hd (look_any A l c hm hl w hB hV hr)
 obtain ⟨kl,hkl⟩:=txt_key net hnet
 clear hl hV hr
 go_enter Tryz.func18,Tryz.ntmps18
 go_wp2_with fail
 refine HO.out.mono ?_
 rintro e w2 ⟨b,S,at',f,rfl,ha,hS,_,hb⟩
 by_cases hf:f=0
 ·subst hf
  have ha0:=ha.at0
  subst ha0
  rw [faV_zero]
  obtain ⟨nb,pb,v,es1,c1,es2,c2,Sp,hX⟩:=hS
  have s0:=hX.blk.cell 0
  have s1:=hX.blk.cell 1
  simp at s0 s1
  have HB:=Hd hb
  have HA:=Hd ha
  obtain ⟨u,hlu,hu,_⟩:=ptab_look (t:=86) hX.pfx strKey Tryz.underlying86 zeroRowP net hkl
  obtain ⟨Au,cu,rfl,_⟩:=own_form hu
  have hl2:=hlu w2 hX.pfx.map
  have HU:=Hd hu
  by_cases hn:netIn l net=true
  ·have hlk:(Instr.lookup 67 (.map (some nb)) (txt net) false).run Tryz.prog w2=.ok (.int .i64 1) w2:=by
    rcases hX.nets.look strKey Tryz.underlying67 (zeroInt w2) net hkl false with ⟨q1,_⟩ | ⟨y,q1,q2⟩
    ·unfold netF at q1;rw [if_pos hn] at q1;cases q1
    ·unfold netF at q1
     rw [if_pos hn] at q1
     injection q1 with q1
     subst q1
     simpa using q2
   have hlp:=pfxOf_len l net
   have HN:=Hd hn
   clear hX hu hlu hb ha hn
   by_cases h60:60 < (pfxOf l net).length
   ·have h60I:(60:Int) < ((pfxOf l net).length:Int):=by omega
    go_wp2
    go_ret2
    exact ⟨.slice none 0 0,[],3,rfl,.inr (.inr (.inl ⟨HA.out,HN.out,h60,rfl,rfl⟩)),World.ownsRow_nil _ _ _ _,HB.out⟩
   ·have h60I:¬ (60:Int) < ((pfxOf l net).length:Int):=by omega
    go_wp2
    go_ret2
    exact ⟨_,pfxOf l net,0,rfl,.inr (.inr (.inr ⟨HA.out,HN.out,by omega,rfl,rfl⟩)),HU.out,HB.out⟩
  ·have hlk:(Instr.lookup 67 (.map (some nb)) (txt net) false).run Tryz.prog w2=.ok (.int .i64 0) w2:=by
    rcases hX.nets.look strKey Tryz.underlying67 (zeroInt w2) net hkl false with ⟨q1,q2⟩ | ⟨y,q1,q2⟩
    ·simpa using q2
    ·unfold netF at q1;rw [if_neg hn] at q1;cases q1
   have HN:=Hd (show netIn l net=false by simpa using hn)
   clear hX hu hlu hb ha hn
   go_wp2
   go_ret2
   exact ⟨.slice none 0 0,[],4,rfl,.inr (.inl ⟨HA.out,HN.out,rfl,rfl⟩),World.ownsRow_nil _ _ _ _,HB.out⟩
 ·have HF:=Hd (faV_num hf)
  rw [HF.out]
  have HB:=Hd hb
  have HR:=Hd (show PrefR l net f [] from .inl ⟨at',ha,hf,rfl⟩)
  clear hb ha hf hS
  go_wp2
  go_ret2
  exact ⟨.slice none 0 0,[],f,by rw [HF.out];rfl,HR.out,World.ownsRow_nil _ _ _ _,HB.out⟩
def usedAt (net:List UInt8) (p:Pf) (s:List UInt8 × Int):Option Int:=if s.1=net∧inP s.2 32 p.1 p.2=true then some s.2 else none
def usedL (l:List KV) (net:List UInt8) (p:Pf):List Int:=(spotsOf l).filterMap (usedAt net p)
def UseR (l:List KV) (net:List UInt8) (p:Pf) (t a f:Int):Prop :=
 (∃ at',AuR l at' f∧f≠0∧t=0∧a=0)∨(AuR l 0 0∧p ∉ pfxOf l net∧f=4∧t=0∧a=0) ∨
 (AuR l 0 0∧p ∈ pfxOf l net∧usedFault p.1 p.2 (usedL l net p)≠0∧f=usedFault p.1 p.2 (usedL l net p)∧t=0∧a=0) ∨
 (AuR l 0 0∧p ∈ pfxOf l net∧usedFault p.1 p.2 (usedL l net p)=0∧f=0∧t=(distinct (marks p.1 p.2 (usedL l net p))).length∧a=uHi p.1 p.2 - uLo p.1 p.2+1)
theorem infoI10 (h:True):(Tryz.prog.info? 3).map (fun i=>(i.zero,i.size,i.bytes))=some (some (.int .i64 0),1,8):=by kernel_rfl
theorem spots_chk (l:List KV):∀ s ∈ spotsOf l,chk s.2 32=0:=by
 intro s hs
 unfold spotsOf at hs
 obtain ⟨p,_,h⟩:=List.mem_filterMap.1 hs
 unfold spotAt at h
 split at h
 ·rename_i h3
  injection h with h
  subst h
  exact kind3_chk h3
 ·cases h
theorem Rd.spot {w:World} {B:Nat} {A:Option Addr} {l:List (List UInt8 × Int)} (h:Rd w B A (flatE encSp l)) {k:Nat} (hk:k < l.length) :
  ∃ b off,A=some ⟨b,off,none⟩∧b < B∧w.cell? ⟨b,off+k * 2,none⟩=some (txt l[k].1)∧w.cell? ⟨b,off+k * 2+1,none⟩=some (.int .i64 l[k].2):=by
 obtain ⟨b,off,e,hb,hc⟩:=h.elt encSp_len hk (by decide)
 exact ⟨b,off,e,hb,hc 0 _ rfl,hc 1 _ rfl⟩
theorem audUse_any (A:Option Addr) (l:List KV) (c:Nat) (net:List UInt8) (hnet:net.length≤maxLen) (p:Pf) (hm:l.length≤800000) (hl:∀ p ∈ l,p.1.length < 4294967281∧p.2.length≤9223372036854775807) {B:Nat} (w:World) (hB:B≤w.heap.size) (hV:TxtV B w) (hr:Rd w w.heap.size A (flatE encKV l)) :
  Calls Tryz.prog 17 #[.slice A l.length c,txt net,.agg #[.int .i64 p.1,.int .i64 p.2]] w fun e w'=>∃ t a f,e=.returned (.tuple #[.int .i64 t,.int .i64 a,faV f])∧UseR l net p t a f∧Below w.heap.size w w':=by
 have hb1:=(Below.refl w.heap.size w).alloc (Nat.le_refl _) (.cells #[.int .i64 p.1,.int .i64 p.2] 31)
 have hBk:=Blk.new w 31 #[.int .i64 p.1,.int .i64 p.2]
 have hr1:=(hr.alloc (Nat.le_refl _) (.cells #[.int .i64 p.1,.int .i64 p.2] 31)).more (show w.heap.size≤(w.alloc (.cells #[.int .i64 p.1,.int .i64 p.2] 31)).heap.size by simp)
 have HO:=Hd (look_any A l c hm hl (w.alloc (.cells #[.int .i64 p.1,.int .i64 p.2] 31)) (Nat.le_trans hB (by simp)) (hV.on (hb1.mono hB)) hr1)
 obtain ⟨kl,hkl⟩:=txt_key net hnet
 have HB1:=Hd hb1
 have HBK:=Hd hBk
 clear hl hV hr hr1 hb1 hBk
 go_enter Tryz.func17,Tryz.ntmps17
 go_wp2_with fail
 refine HO.out.mono ?_
 rintro e w2 ⟨b,S,at',f,rfl,ha,hS,hSl,hb⟩
 have HB2:=Hd (HB1.out.trans (hb.mono HB1.out.size))
 by_cases hf:f=0
 ·subst hf
  have ha0:=ha.at0
  subst ha0
  rw [faV_zero]
  obtain ⟨nb,pb,v,es1,c1,es2,c2,Sp,hX⟩:=hS
  have s1:=hX.blk.cell 1
  simp at s1
  have HA:=Hd ha
  have hbk2:=HBK.out.below hb (by simp)
  obtain ⟨u,hlu,hu,_⟩:=ptab_look (t:=86) hX.pfx strKey Tryz.underlying86 zeroRowP net hkl
  obtain ⟨Au,cu,rfl,hru⟩:=own_form hu
  have hl2:=hlu w2 hX.pfx.map
  have HX:=Hd hX
  have HBK2:=Hd hbk2
  have hlp:=pfxOf_len l net
  clear hX hu hlu hb ha hbk2 HBK hSl
  go_wp2
  go_loopw [32] (fun i wr=>∃ k:Nat,k≤(pfxOf l net).length∧i=.int .i64 k∧Below w2.heap.size w2 wr∧Hid (p ∉ (pfxOf l net).take k)) (fun i _=>(pfxOf l net).length - (intOf i).toNat)
  case atStart=>exact ⟨0,Nat.zero_le _,rfl,Below.refl _ _,Hd (by simp)⟩
  case round =>
   obtain ⟨k,hk,rfl,hb,HN⟩:=hrel
   by_cases hlt:k < (pfxOf l net).length
   ·have HCHK:=Hd (pfxOf_chk l net _ (List.getElem_mem hlt))
    have HMEM:=Hd (List.getElem_mem hlt)
    have HTK:=Hd (List.take_succ_eq_append_getElem hlt)
    obtain ⟨b0,of0,rfl,hbb,x0,x1⟩:=(hru.below hb).pair hlt
    have hbs:=hb.size
    generalize (pfxOf l net)[k]=q at *
    have hb5:=(Below.refl wr.heap.size wr).alloc (Nat.le_refl _) (.cells #[.int .i64 q.1,.int .i64 q.2] 31)
    have hbx:=Blk.new wr 31 #[.int .i64 q.1,.int .i64 q.2]
    have hkI:(k:Int) < ((pfxOf l net).length:Int):=by omega
    have hk8:(pfxOf l net).length≤800000:=by omega
    go_upto_region 7 with fail
    refine wp_name (fun w5 HW=>?_)
    replace hb5:Below wr.heap.size wr w5:=by rw [HW.out];exact hb5
    replace hbx:Blk w5 wr.heap.size 31 #[.int .i64 q.1,.int .i64 q.2]:=by rw [HW.out];exact hbx
    have hb25:=hb.trans (hb5.mono hbs)
    have HX5:=Hd (HX.out.bel hb25)
    have HK5:=Hd (HBK2.out.below hb25 HBK2.out.lt)
    have HB5:=Hd hb25
    have y0:=hbx.cell 0
    have y1:=hbx.cell 1
    have z0:=HK5.out.cell 0
    have z1:=HK5.out.cell 1
    simp at y0 y1 z0 z1
    clear HW hb5 hbx x0 x1
    by_cases hqp:q=p
    ·subst hqp
     have hxb:=HX5.out.blk.cell 2
     simp at hxb
     obtain ⟨As,cs,hvs,hrs⟩:=own_form HX5.out.row
     rw [hvs] at hxb
     have hsl:(spotsOf l).length≤800000:=Nat.le_trans (spots_len l) hm
     have HRS:=Hd hrs
     have HSC:=Hd (spots_chk l)
     clear hvs hrs hb25 hb
     go_wp2
     go_loopw [13,44] (fun u jj ws=>∃ j:Nat,j≤(spotsOf l).length∧jj=.int .i64 j∧Hid (ws.ownsRow w5.heap.size 3 1 u (((spotsOf l).take j).filterMap (usedAt net q)).length ((((spotsOf l).take j).filterMap (usedAt net q)).map (Value.int .i64)))∧Below w5.heap.size w5 ws) (fun _ jj _=>(spotsOf l).length - (intOf jj).toNat)
     case atStart=>exact ⟨0,Nat.zero_le _,rfl,Hd (World.ownsRow_nil _ _ _ _),Below.refl _ _⟩
     case round =>
      obtain ⟨j,hj,rfl,HO,hb6⟩:=hrel
      obtain ⟨Au6,cu6,rfl,hru6⟩:=own_form HO.out
      have HUL:=Hd (show (((spotsOf l).take j).filterMap (usedAt net q)).length≤800000 from Nat.le_trans (List.length_filterMap_le _ _) (by rw [List.length_take];omega))
      have zb:=HX5.out.blk.below hb6 HX5.out.blk.lt
      have zb2:=zb.cell 2
      by_cases hjl:j < (spotsOf l).length
      ·obtain ⟨b1,o1,rfl,hb1,e0,e1⟩:=(HRS.out.below hb6).spot hjl
       have HS2:=Hd (show ((spotsOf l).take (j+1)).filterMap (usedAt net q)=((spotsOf l).take j).filterMap (usedAt net q)++(match usedAt net q (spotsOf l)[j] with | some y=>[y] | none=>[]) by
        rw [List.take_succ_eq_append_getElem hjl,List.filterMap_append]
        congr 1
        cases hh:usedAt net q (spotsOf l)[j] <;> simp [hh])
       have HCK:=Hd (HSC.out _ (List.getElem_mem hjl))
       generalize (spotsOf l)[j]=s at *
       have hb7:=(Below.refl wr.heap.size wr).alloc (Nat.le_refl _) (.cells #[txt s.1,.int .i64 s.2] 91)
       have hbx:=Blk.new wr 91 #[txt s.1,.int .i64 s.2]
       have hjI:(j:Int) < ((spotsOf l).length:Int):=by omega
       go_upto_region 12 with fail
       refine wp_name (fun w7 HW=>?_)
       replace hb7:Below wr.heap.size wr w7:=by rw [HW.out];exact hb7
       replace hbx:Blk w7 wr.heap.size 91 #[txt s.1,.int .i64 s.2]:=by rw [HW.out];exact hbx
       have hb57:=hb6.trans (hb7.mono hb6.size)
       have HO7:=Hd (own_below HO.out hb7)
       have v0:=hbx.cell 0
       have v1:=hbx.cell 1
       have q0:=(HK5.out.below hb57 HK5.out.lt).cell 0;have q1:=(HK5.out.below hb57 HK5.out.lt).cell 1
       simp at v0 v1 q0 q1
       have HB7:=Hd hb57
       have HIN:=Hd (fun W=>in_any s.2 32 q.1 q.2 HCK.out HCHK.out W)
       have HBX:=Hd hbx
       clear HW hb7 hb57 hbx e0 e1 hb6 HO zb zb2 z0 z1
       unfold txt at v0
       obtain ⟨sn,sa⟩:=s
       simp only at *
       by_cases hsn:sn=net
       ·subst hsn
        go_wp2_with fail
        refine (HIN.out _).mono ?_
        rintro e w8 ⟨rfl,hb8⟩
        have HB8:=Hd (HB7.out.trans (hb8.mono HB7.out.size))
        have HO8:=Hd (own_below HO7.out hb8)
        have v1:=(HBX.out.below hb8 HBX.out.lt).cell 1
        simp at v1
        clear hb8
        by_cases hin:inP sa 32 q.1 q.2=true
        ·rw [hin]
         have hone:∀ u ∈ (#[Value.int .i64 sa]:Array Value).toList,u.oneCell'=true:=by intro u hu;simp at hu;subst hu;rfl
         have HS3:=Hd (show ((spotsOf l).take (j+1)).filterMap (usedAt sn q)=((spotsOf l).take j).filterMap (usedAt sn q)++[sa] by rw [HS2.out];unfold usedAt;rw [if_pos ⟨rfl,hin⟩])
         go_wp2_with (at_builtin;go_must (refine wpList_append_elt (w1:=w8) rfl _ _ 57 rfl 3 Tryz.underlying57 _ 1 8 (infoI10 trivial) rfl (by decide) (by decide) w5.heap.size (.slice Au6 (((spotsOf l).take j).filterMap (usedAt sn q)).length cu6) (((spotsOf l).take j).filterMap (usedAt sn q)).length ((((spotsOf l).take j).filterMap (usedAt sn q)).map (Value.int .i64)) rfl HO8.out #[.int .i64 sa] rfl hone rfl (by have:=HUL.out;omega) HB8.out.size ?_);intro v9 w9 hown9 hg9 hat9)
         have HO9:=Hd (show w9.ownsRow w5.heap.size 3 1 v9 (((spotsOf l).take (j+1)).filterMap (usedAt sn q)).length ((((spotsOf l).take (j+1)).filterMap (usedAt sn q)).map (Value.int .i64)) by rw [HS3.out,List.length_append,List.map_append];exact hown9)
         have HB9:=Hd (HB8.out.grown hg9 HB8.out.size (fun x e=>(World.ownsRow.lt HO8.out x e).1))
         clear hown9 hg9 hat9
         go_wp2
         go_roundw
         case rel=>exact ⟨j+1,by omega,by go_num,HO9,HB9.out⟩
         case measure=>simp [intOf];omega
        ·have hin':inP sa 32 q.1 q.2=false:=by simpa using hin
         rw [hin']
         have HS3:=Hd (show ((spotsOf l).take (j+1)).filterMap (usedAt sn q)=((spotsOf l).take j).filterMap (usedAt sn q) by rw [HS2.out];unfold usedAt;rw [if_neg (fun x=>hin x.2),List.append_nil])
         have HO9:=Hd (show w8.ownsRow w5.heap.size 3 1 (.slice Au6 (((spotsOf l).take j).filterMap (usedAt sn q)).length cu6) (((spotsOf l).take (j+1)).filterMap (usedAt sn q)).length ((((spotsOf l).take (j+1)).filterMap (usedAt sn q)).map (Value.int .i64)) by rw [HS3.out];exact HO8.out)
         go_wp2
         go_roundw
         case rel=>exact ⟨j+1,by omega,by go_num,HO9,HB8.out⟩
         case measure=>simp [intOf];omega
       ·have hne:(sn == net)=false:=by simpa using hsn
        have HS3:=Hd (show ((spotsOf l).take (j+1)).filterMap (usedAt net q)=((spotsOf l).take j).filterMap (usedAt net q) by rw [HS2.out];unfold usedAt;rw [if_neg (fun x=>hsn x.1),List.append_nil])
        have HO9:=Hd (show w7.ownsRow w5.heap.size 3 1 (.slice Au6 (((spotsOf l).take j).filterMap (usedAt net q)).length cu6) (((spotsOf l).take (j+1)).filterMap (usedAt net q)).length ((((spotsOf l).take (j+1)).filterMap (usedAt net q)).map (Value.int .i64)) by rw [HS3.out];exact HO7.out)
        go_wp2
        go_roundw
        case rel=>exact ⟨j+1,by omega,by go_num,HO9,HB7.out⟩
        case measure=>simp [intOf];omega
      ·obtain rfl:j=(spotsOf l).length:=by omega
       have hjI:¬ (((spotsOf l).length:Int) < ((spotsOf l).length:Int)):=by omega
       have q0:=(HK5.out.below hb6 HK5.out.lt).cell 0;have q1:=(HK5.out.below hb6 HK5.out.lt).cell 1
       simp at q0 q1
       rw [List.take_length] at hru6 HUL
       have HRU:=Hd hru6
       have HB6:=Hd (HB2.out.trans ((HB5.out.trans (hb6.mono HB5.out.size)).mono HB2.out.size))
       have HB6s:=Hd hb6
       clear hru6 hb6 zb zb2 z0 z1 HO
       rw [List.take_length]
       by_cases hu:usedFault q.1 q.2 ((spotsOf l).filterMap (usedAt net q))=0
       ·go_wp2_with fail
        refine (share_ok q.1 q.2 Au6 _ cu6 hu _ HRU.out).mono ?_
        rintro e w9 ⟨rfl,hb9⟩
        have HB9:=Hd (HB6.out.trans (hb9.mono HB6.out.size))
        clear hb9
        go_wp2
        go_ret3
        exact ⟨_,_,0,rfl,.inr (.inr (.inr ⟨HA.out,HMEM.out,hu,rfl,rfl,rfl⟩)),HB9.out⟩
       ·go_wp2_with fail
        refine (share_bad q.1 q.2 Au6 _ cu6 hu (by have:=HUL.out;unfold maxLen;omega) _ HRU.out).mono ?_
        rintro e w9 ⟨rfl,hb9⟩
        have HB9:=Hd (HB6.out.trans (hb9.mono HB6.out.size))
        clear hb9
        go_wp2
        go_ret3
        have HFV:faV (usedFault q.1 q.2 ((spotsOf l).filterMap (usedAt net q)))=_:=faV_num hu
        exact ⟨0,0,usedFault q.1 q.2 ((spotsOf l).filterMap (usedAt net q)),by rw [HFV];rfl,.inr (.inr (.inl ⟨HA.out,HMEM.out,hu,rfl,rfl,rfl⟩)),HB9.out⟩
    ·have HN2:=Hd (show p ∉ (pfxOf l net).take (k+1) by
      rw [HTK.out,List.mem_append,List.mem_singleton]
      exact fun x=>x.elim HN.out (fun e=>hqp e.symm))
     obtain ⟨qa,qn⟩:=q
     obtain ⟨pa,pn⟩:=p
     simp only at y0 y1 z0 z1
     by_cases ha:qa=pa
     ·have hn:¬ qn=pn:=fun e=>hqp (by rw [ha,e])
      subst ha
      clear hqp
      go_wp2
      go_roundw
      case rel=>exact ⟨k+1,by omega,by go_num,HB5.out,HN2⟩
      case measure=>simp [intOf];omega
     ·clear hqp
      go_wp2
      go_roundw
      case rel=>exact ⟨k+1,by omega,by go_num,HB5.out,HN2⟩
      case measure=>simp [intOf];omega
   ·obtain rfl:k=(pfxOf l net).length:=by omega
    have hkI:¬ (((pfxOf l net).length:Int) < ((pfxOf l net).length:Int)):=by omega
    have HP:=Hd (show p ∉ pfxOf l net by have:=HN.out;rwa [List.take_length] at this)
    have HB5:=Hd (HB2.out.trans (hb.mono HB2.out.size))
    clear hb
    go_wp2
    go_ret3
    exact ⟨0,0,4,rfl,.inr (.inl ⟨HA.out,HP.out,rfl,rfl,rfl⟩),HB5.out⟩
 ·have HF:=Hd (faV_num hf)
  rw [HF.out]
  have HR:=Hd (show UseR l net p 0 0 f from .inl ⟨at',ha,hf,rfl,rfl⟩)
  clear ha hf hS
  go_wp2
  go_ret3
  exact ⟨0,0,f,by rw [HF.out];rfl,HR.out,HB2.out⟩
end Go.Proofs.YtkckcbhnnllkhaaGreatDoor
