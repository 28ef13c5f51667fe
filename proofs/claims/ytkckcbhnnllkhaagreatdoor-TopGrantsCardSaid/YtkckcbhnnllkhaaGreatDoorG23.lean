/- Parts of the proof; conditions: as each theorem says. -/
import Derived.Test.YtkckcbhnnllkhaaGreatDoorG22
import Derived.Test.YtkckcbhnnllkhaaGreatDoorG15
import Derived.Deep.DeepCutAuto
import Derived.StillTail
import Derived.StillTailTactics
import Derived.Deep.CutBlock
import Derived.Test.YtkckcbhnnllkhaaGreatDoorG16
import Derived.Deep.RegionHeld3
import Derived.Test.YtkckcbhnnllkhaaGreatDoorG21
set_option linter.unusedVariables false
set_option linter.unusedSimpArgs false
set_option maxRecDepth 100000
set_option maxHeartbeats 40000000
namespace Go.Proofs.YtkckcbhnnllkhaaGreatDoor
open Go.RowKit
open Go.ChangeMaps (setBlock)
theorem infoI:(Tryz.prog.info? 3).map (fun i=>(i.zero,i.size,i.bytes))=some (some (.int .i64 0),1,8):=by kernel_rfl
section
variable {w w' : World} {O : Nat → Nat} {d : Nat} {M : Mem} {g : Dk} {id : Int} {k : Nat}
theorem Rd.chg2 {B:Nat} {A:Option Addr} {l:List Chg} (h:Rd w B A (cellsC l)) {k:Nat} (hk:k < l.length) :
  ∃ b off,A=some ⟨b,off,none⟩∧b < B∧w.cell? ⟨b,off+k * 3,none⟩=some (txt l[k].key)∧w.cell? ⟨b,off+k * 3+1,none⟩=some (txt l[k].val)∧w.cell? ⟨b,off+k * 3+2,none⟩=some (.bool l[k].gone):=by
 rw [cellsC_flat] at h
 obtain ⟨b,off,e,hb,hc⟩:=Rd.elt encC_len h hk (by decide)
 exact ⟨b,off,e,hb,hc 0 _ rfl,hc 1 _ rfl,hc 2 _ rfl⟩
theorem putE_of {c:Chg} (h:oneOk c=true) {n top:Int} (hn:1≤n∧n≤1000000) (ht:top≤n) (v:Ver) (hv:v=⟨n,c.val,c.gone⟩):putE c.key v top=0:=by
 obtain ⟨h1,h2,h3,h4⟩:=oneOk_parts h
 subst hv
 unfold putE
 simp only
 rw [if_neg (by rintro (q | q);rw [h1] at q;cases q;omega),if_neg (by omega),if_neg (by omega)]
theorem appF_step (F:List UInt8→List Ver) (l:List Chg) (n:Int) {j:Nat} (hj:j < l.length):appF F (l.take (j+1)) n=putV (appF F (l.take j) n) l[j].key ⟨n,l[j].val,l[j].gone⟩:=by
 unfold appF
 rw [List.take_succ_eq_append_getElem hj,List.foldl_append]
 rfl
def ApRel (w:World) (O:Nat→Nat) (d:Nat) (g:Dk) (l:List Chg) (e:Int) (j:Nat) (wr:World):Prop :=
 ∃ O2 M2,DeskAt wr O2 d M2 { g with F:=appF g.F (l.take j) (g.last+1),all:=g.all++[l],ends:=g.ends++[e] } ∧
  (∃ n top,n≤20 * g.all.length+j∧top≤g.last+1∧TblAt wr (fun q=>O2 q=2) M2.tb (appF g.F (l.take j) (g.last+1)) top n)∧(∀ q,O2 q≠0→plus (fun q=>O q≠0) w q)∧Fr (fun q=>O q≠0) w wr
theorem ApRel.done {l:List Chg} {e:Int} (h:ApRel w O d g l e l.length w'):DeskTo w O d (g.put l e) w':=by
 obtain ⟨O2,M2,h1,_,h2,h3⟩:=h
 rw [List.take_length] at h1
 exact ⟨O2,M2,h1,h2,h3⟩
theorem ApRel.step {l:List Chg} {e:Int} {j:Nat} {wr wb:World} {O2:Nat→Nat} {M2:Mem} (hj:j < l.length) (hl:l.length≤20) {n:Nat} {top:Int} (hn:n≤20 * g.all.length+j) (hL:g.last+1≤1000000) (hone:oneOk l[j]=true) (ht:top≤g.last+1)
  (h1:DeskAt wr O2 d M2 { g with F:=appF g.F (l.take j) (g.last+1),all:=g.all++[l],ends:=g.ends++[e] }) (h2:∀ q,O2 q≠0→plus (fun q=>O q≠0) w q) (h3:Fr (fun q=>O q≠0) w wr) (hb:Below wr.heap.size wr wb) (f:Fr (fun q=>O2 q=2) wb w')
  (hT:TblAt w' (plus (fun q=>O2 q=2) wb) M2.tb (putF (appF g.F (l.take j) (g.last+1)) l[j].key ⟨g.last+1,l[j].val,l[j].gone⟩ top) (putT l[j].key ⟨g.last+1,l[j].val,l[j].gone⟩ top) (n+1)):ApRel w O d g l e (j+1) w':=by
 have h0:0≤g.last:=by unfold Dk.last;omega
 have hE:=putE_of hone (n:=g.last+1) (top:=top) (by omega) ht ⟨g.last+1,l[j].val,l[j].gone⟩ rfl
 unfold putF putT at hT
 rw [if_pos hE,if_pos hE,← appF_step g.F l (g.last+1) hj] at hT
 simp only at hT
 have D1:=h1.below hb
 have hlast:((g.all++[l]).length:Int)=g.last+1:=by unfold Dk.last;simp
 have D2:=D1.turn_tab f (n:=n+1) (top:=g.last+1) (by show n+1≤20 * (g.all++[l]).length;simp;omega) (by show g.last+1≤((g.all++[l]).length:Int);omega) hT
 have hs:w.heap.size≤wb.heap.size:=Nat.le_trans h3.size hb.size
 refine ⟨give O2 2 wb w',M2,D2,⟨n+1,g.last+1,by omega,Int.le_refl _,hT.tight.mono (give_own D1.bound (by decide))⟩,fun q e=>plus_ne hs h2 (give_plus D1.bound q e),?_⟩
 exact (h3.bel hb).then (f.mono (fun q _ e=>h2 q (by rw [e];decide)))
theorem DeskAt.apply_to (h:DeskAt w O d M g) (hk:g.all.length≤40000) (hge:g.ends.length=g.all.length) (l:List Chg) (A:Option Addr) (c:Nat) (e:Int) (hl:l.length≤20) (ho:∀ x ∈ l,oneOk x=true) (hr:Rd w w.heap.size A (cellsC l)) (hA:∀ a,A=some a→O a.block=0) :
  Calls Tryz.prog 40 #[ptrV d,.slice A l.length c,intV e] w fun x w'=>x=.returned (.tuple #[])∧DeskTo w O d (g.put l e) w':=by
 have hx2:=h.hB.cell 2
 have hz2:=h.hB.frozen 2
 have hx5:=h.hB.cell 5
 simp at hx2 hx5
 have hL1:0≤g.last:=by unfold Dk.last;omega
 have hL2:g.last≤40000:=by unfold Dk.last;omega
 have f1:Fr (fun q=>O q=3) w (w.setCell ⟨d,2,none⟩ (.int .i64 (g.last+1))):=Fr.setCell (Fr.refl _ _) (p:=⟨d,2,none⟩) (fun _=>h.hd) _
 have hown1:=h.ends_stand f1 (by decide)
 have hB1:=h.hB.setCell 2 (.int .i64 (g.last+1))
 have hz5:=hB1.frozen 5
 have hy5:=hB1.cell 5
 simp at hy5
 have hdev:some d≠M.ev.ownBlock:=fun q=>by have:=h.hev d q.symm;have:=h.hd;omega
 have h1c:∀ u ∈ (#[Value.int .i64 e]:Array Value).toList,u.oneCell'=true:=by
  intro u hu
  simp at hu
  subst hu
  rfl
 have hlen:g.ends.length < 1000000000:=by omega
 have H:=Hd h
 have HF1:=Hd f1
 have HGE:=Hd hge
 clear h hge f1
 go_enter Tryz.func40,Tryz.ntmps40
 go_upto_region 1 with fail
 generalize hW1:w.setCell ⟨d,2,none⟩ (.int .i64 (g.last+1))=w1 at *
 have hsz1:=Hd (show w1.heap.size=w.heap.size by rw [← hW1];simp [World.setCell])
 clear hW1
 generalize hev:M.ev=EV at *
 go_wp2_with (at_builtin;refine wpList_append_elt rfl _ _ 57 rfl 3 Tryz.underlying57 _ 1 8 infoI rfl (by decide) (by decide) 0 EV _ _ rfl hown1 #[.int .i64 e] rfl h1c rfl hlen (Nat.zero_le _) ?_;intro v4 w4 hown4 hg4 hat4;obtain ⟨A4,c4,hv4,_⟩:=own_form hown4;subst hv4;have hB4:=(hB1.grown hg4 hdev);have hz4:=hB4.frozen 5;have hy4:=hB4.cell 5;simp at hy4)
 have hB5:=hB4.setCell 5 (.slice A4 (g.ends.length+1) c4)
 have hown5:(w4.setCell ⟨d,5,none⟩ (.slice A4 (g.ends.length+1) c4)).ownsRow 0 3 1 (.slice A4 (g.ends.length+1) c4) (g.ends.length+1) (g.ends.map (Value.int .i64)++[Value.int .i64 e]) :=
  own_off hown4 (own_blk hown4 hB4 (by decide))
 have f4:Fr (fun q=>O q=3∨O q=5) w (w4.setCell ⟨d,5,none⟩ (.slice A4 (g.ends.length+1) c4)) :=
  (((HF1.out.mono (fun q _ e=>.inl e)).grown hg4 (fun q e _=>.inr (H.out.hev q (by rw [hev];exact e))))).setCell (p:=⟨d,5,none⟩) (fun _=>.inl H.out.hd) _
 have hl1:(g.all.length:Int)+1=((g.all++[l]).length:Int):=by simp
 have D5:=H.out.turn_ends (all':=g.all++[l]) (ends':=g.ends++[e]) (ev':=.slice A4 (g.ends.length+1) c4) f4 (by simp) (by rw [← hl1];exact hB5) (by simpa using hown5) (fun q e=>by
  rcases hat4 with h4 | h4
  ·exact .inl (H.out.hev q (by rw [hev,← h4];exact e))
  ·rw [h4] at e
   injection e with e
   exact .inr (by have:=hsz1.out;omega))
 have R0:ApRel w O d g l e 0 (w4.setCell ⟨d,5,none⟩ (.slice A4 (g.ends.length+1) c4)):=by
  obtain ⟨n,top,hn,ht,hT⟩:=H.out.tab
  refine ⟨_,_,D5,⟨n,top,by omega,by omega,(hT.far f4 (fun q e1 e2=>by omega)).mono (give_other H.out.bound (by decide))⟩,give_plus H.out.bound,f4.mono (fun q _ e=>by omega)⟩
 generalize hW5:w4.setCell ⟨d,5,none⟩ (.slice A4 (g.ends.length+1) c4)=w5 at *
 have HR0:=Hd R0
 clear R0 D5 f4 hown5 hB5 hW5 hB4 hz4 hy4 hg4 hat4 hown4 hB1 hown1 hz5 hy5 hx2 hz2 hx5 hdev
 go_loopw [7,27] (fun _ i wr=>∃ j:Nat,j≤l.length∧i=.int .i64 j∧Hid (ApRel w O d g l e j wr)) (fun _ i _=>l.length - (intOf i).toNat)
 case atStart=>exact ⟨0,by omega,by go_num,HR0⟩
 case round =>
  obtain ⟨j,hj,rfl,hR⟩:=hrel
  by_cases hjl:j < l.length
  ·have hjI:(j:Int) < (l.length:Int):=by omega
   obtain ⟨O2,M2,D2,⟨n,top,hn,ht,hT⟩,ho2,f2⟩:=hR.out
   obtain ⟨b,off,rfl,hb,c0,c1,c2⟩:=Rd.chg2 hr hjl
   have hbO:O b=0:=hA _ rfl
   rw [← f2.cell (p:=⟨b,off+j * 3,none⟩) hb (by simp [hbO])] at c0
   rw [← f2.cell (p:=⟨b,off+j * 3+1,none⟩) hb (by simp [hbO])] at c1
   rw [← f2.cell (p:=⟨b,off+j * 3+2,none⟩) hb (by simp [hbO])] at c2
   have hone:=ho _ (List.getElem_mem hjl)
   obtain ⟨k1,k2,k3,k4⟩:=oneOk_parts hone
   obtain ⟨cc,hcc⟩:∃ cc,cc=l[j]:=⟨_,rfl⟩
   rw [← hcc] at c0 c1 c2 k1 k2 k3 k4 hone
   have hla:((g.all++[l]).length:Int)=g.last+1:=by unfold Dk.last;simp
   have hLn:n < 1000000:=by unfold Dk.last at hL2;omega
   obtain ⟨ck,cv,cg⟩:=cc
   simp only at c0 c1 c2 k1 k2 k3 k4
   have HCC:=Hd hcc
   clear hcc hR hr hA
   cases cg
   ·have hbk:=Blk.new wr 112 #[txt ck,txt cv,.bool false]
    obtain ⟨y0,y1,y2⟩:=hbk.cls3
    simp at y0 y1 y2 c0 c1 c2
    have HBK:=Hd hbk
    clear hbk
    have HW:=Hd hone
    clear hone k1 k4
    go_wp2_with fail
    clear y0 y1 y2
    generalize hWA:wr.alloc (.cells #[.string ⟨ck.toArray⟩,.string ⟨cv.toArray⟩,.bool false] 112)=wa
    have hbk:Blk wa wr.heap.size 112 #[txt ck,txt cv,.bool false]:=by rw [← hWA];exact HBK.out
    have hbd:Below wr.heap.size wr wa.drew:=by
     rw [← hWA]
     have hbw:=(Below.refl wr.heap.size wr).alloc (Nat.le_refl _) (.cells #[txt ck,txt cv,.bool false] 112)
     exact ⟨hbw.os,hbw.tape,hbw.output,hbw.size,hbw.block⟩
    have y0:=hbk.cell 0
    have y1:=hbk.cell 1
    have D2a:=D2.below hbd
    have x1:wa.cell? ⟨d,1,none⟩=_:=D2a.hB.cell 1
    have x2:wa.cell? ⟨d,2,none⟩=_:=D2a.hB.cell 2
    change _=some (Value.int .i64 (((g.all++[l]).length:Nat):Int)) at x2
    rw [hla] at x2
    simp at x1 x2 y0 y1
    have hTb:=hT.far (w':=wa.drew) (T:=fun _=>False) (Fr.of_below hbd) (fun _ _ q=>q)
    have HP:=Put_any M2.tb _ top n _ ck (by unfold maxLen;omega) cv (by unfold maxLen;omega) (g.last+1) (by omega) _ hTb
    have HS:=Hd (fun w' (f:Fr (fun q=>O2 q=2) wa.drew w') (hT':TblAt w' (plus (fun q=>O2 q=2) wa.drew) M2.tb (putF (appF g.F (l.take j) (g.last+1)) ck ⟨g.last+1,cv,false⟩ top) (putT ck ⟨g.last+1,cv,false⟩ top) (n+1))=>ApRel.step (w':=w') (e:=e) hjl hl hn (by omega) (by rw [← HCC.out];exact HW.out) ht D2 ho2 f2 hbd f (by rw [← HCC.out];exact hT'))
    have HPH:=Hd HP
    clear HP hTb hT D2 D2a hbd hbk hla hWA
    go_still_tail 12,(by kernel_rfl)
    go_wp2_with fail
    refine HPH.out.mono ?_
    rintro x w6 ⟨rfl,f6,hT6⟩
    have HR6:=Hd (HS.out w6 f6 hT6)
    clear hT6 f6 HS HPH
    go_wp2
    go_roundw
    case rel=>exact ⟨j+1,by omega,by go_num,HR6⟩
    case measure=>simp [intOf];omega
   ·obtain rfl:cv=[]:=k4 rfl
    have hbk:=Blk.new wr 112 #[txt ck,txt [],.bool true]
    obtain ⟨y0,y1,y2⟩:=hbk.cls3
    simp at y0 y1 y2 c0 c1 c2
    have HBK:=Hd hbk
    clear hbk
    have HW:=Hd hone
    clear hone k1 k4
    go_wp2_with fail
    clear y0 y1 y2
    generalize hWA:wr.alloc (.cells #[.string ⟨ck.toArray⟩,.string ⟨#[]⟩,.bool true] 112)=wa
    have hbk:Blk wa wr.heap.size 112 #[txt ck,txt [],.bool true]:=by rw [← hWA];exact HBK.out
    have hbd:Below wr.heap.size wr wa.drew:=by
     rw [← hWA]
     have hbw:=(Below.refl wr.heap.size wr).alloc (Nat.le_refl _) (.cells #[txt ck,txt [],.bool true] 112)
     exact ⟨hbw.os,hbw.tape,hbw.output,hbw.size,hbw.block⟩
    have y0:=hbk.cell 0
    have y1:=hbk.cell 1
    have D2a:=D2.below hbd
    have x1:wa.cell? ⟨d,1,none⟩=_:=D2a.hB.cell 1
    have x2:wa.cell? ⟨d,2,none⟩=_:=D2a.hB.cell 2
    change _=some (Value.int .i64 (((g.all++[l]).length:Nat):Int)) at x2
    rw [hla] at x2
    simp at x1 x2 y0 y1
    have hTb:=hT.far (w':=wa.drew) (T:=fun _=>False) (Fr.of_below hbd) (fun _ _ q=>q)
    have HP:=Drop_any M2.tb _ top n _ ck (by unfold maxLen;omega) (g.last+1) (by omega) _ hTb
    have HS:=Hd (fun w' (f:Fr (fun q=>O2 q=2) wa.drew w') (hT':TblAt w' (plus (fun q=>O2 q=2) wa.drew) M2.tb (putF (appF g.F (l.take j) (g.last+1)) ck ⟨g.last+1,[],true⟩ top) (putT ck ⟨g.last+1,[],true⟩ top) (n+1))=>ApRel.step (w':=w') (e:=e) hjl hl hn (by omega) (by rw [← HCC.out];exact HW.out) ht D2 ho2 f2 hbd f (by rw [← HCC.out];exact hT'))
    have HPH:=Hd HP
    clear HP hTb hT D2 D2a hbd hbk hla hWA
    go_still_tail 10,(by kernel_rfl)
    go_wp2_with fail
    refine HPH.out.mono ?_
    rintro x w6 ⟨rfl,f6,hT6⟩
    have HR6:=Hd (HS.out w6 f6 hT6)
    clear hT6 f6 HS HPH
    go_wp2
    go_roundw
    case rel=>exact ⟨j+1,by omega,by go_num,HR6⟩
    case measure=>simp [intOf];omega
  ·have hjI:¬ (j:Int) < (l.length:Int):=by omega
   have:j=l.length:=by omega
   subst this
   go_wp2
   go_end0
   exact ⟨rfl,hR.out.done⟩
end
def ClRel {κ:Type} (kv:κ→Value) (P:κ→Prop) (left:List MapEntry):Prop:=∀ s,P s→∃ x ∈ left,x.key=kv s
theorem ClRel.skip {κ:Type} {kv:κ→Value} {P:κ→Prop} {left left':List MapEntry} (h:ClRel kv P left) {e:MapEntry} {s:κ} (kinj:∀ a b,kv a=kv b→a=b) (hp:List.Perm left (e::left')) (hs:e.key=kv s) (hno:¬ P s):ClRel kv P left':=by
 intro s' h1
 obtain ⟨x,hx,hk⟩:=h s' h1
 rcases List.mem_cons.1 (hp.mem_iff.1 hx) with rfl | hx
 ·rw [hs] at hk
  have:=kinj _ _ hk
  subst this
  exact absurd h1 hno
 ·exact ⟨x,hx,hk⟩
theorem ClRel.start {κ β:Type} {kv:κ→Value} {ev:β→Value} {f:κ→Option β} {P:κ→Prop} {w:World} {Pg:Program} {k:TypeId} {b:Nat} {es:Array MapEntry} {clock:Nat} (h:FMap w Pg k b es clock kv ev f) (hP:∀ s,P s→f s≠none):ClRel kv P es.toList:=by
 intro s hs
 cases e:f s with
 | none=>exact absurd e (hP s hs)
 | some y =>
  obtain ⟨x,hx,hk,_⟩:=h.has s y e
  exact ⟨x,hx,hk⟩
theorem ClRel.done {κ:Type} {kv:κ→Value} {P:κ→Prop} (h:ClRel kv P []):∀ s,¬ P s:=fun s hs=>by
 obtain ⟨x,hx,_⟩:=h s hs
 cases hx
section
variable {w w' : World} {O : Nat → Nat} {d : Nat} {M : Mem} {g : Dk} {id : Int} {k : Nat} {S : Nat → Prop} {bk : Nat} {t : Tr}
theorem DeskAt.changed (h:DeskAt w O d M g) (hk:g.all.length≤40000) (s:List UInt8) (hs:s.length≤maxLen) (n:Int) :
  Calls Tryz.prog 57 #[.pointer (some ⟨M.tb,0,none⟩),txt s,.int .i64 n] w fun e w'=>e=.returned (.bool (lastB (g.F s) n))∧Below w.heap.size w w':=by
 obtain ⟨m,top,hm,_,hT⟩:=h.tab
 exact Changed_any M.tb g.F top m (by omega) _ s hs n w hT
theorem DeskAt.touched (h:DeskAt w O d M g) (hk:g.all.length≤40000) (lo hi:List UInt8) (n:Int) (hn:numB n=true) :
  Calls Tryz.prog 58 #[.pointer (some ⟨M.tb,0,none⟩),txt lo,txt hi,.int .i64 n] w fun e w'=>∃ r,e=.returned (.tuple #[.bool r,.nilIface])∧TouchIs g.F lo hi n r∧Below w.heap.size w w':=by
 obtain ⟨m,top,hm,_,hT⟩:=h.tab
 exact touched_ok M.tb g.F top m (by omega) _ lo hi n w hT hn
theorem key_short {w:World} {b:Nat} {es:Array MapEntry} {clock:Nat} (m:MapAt w Tryz.prog 9 b es clock) {x:MapEntry} (hx:x ∈ es.toList) {s:List UInt8} (hs:x.key=txt s):s.length≤maxLen:=by
 obtain ⟨kl,hkl⟩:=m.keys x hx
 rw [hs] at hkl
 unfold keyOf at hkl
 simp only [Tryz.underlying9,mapKey] at hkl
 split at hkl
 ·rename_i h
  simpa [ByteArray.size] using h
 ·cases hkl
theorem clash_ok (h:DeskAt w O d M g) (hk:g.all.length≤40000) (hT:TrAt w S bk t) (hn:numB t.sees=true) :
  Calls Tryz.prog 36 #[ptrV d,ptrV bk] w fun e w'=>∃ r:Bool,e=.returned (.bool r)∧(r=true ↔ Clash g.F t)∧Below w.heap.size w w':=by
 obtain ⟨⟨kb,sb,ob,ek,ck,es,cs,eo,co,hB,hF1,hF2,hF3,s1,s2,s3,n1,n2,n3,l1,l2⟩,hS,hrise,hown,hask⟩:=hT
 have x2:=hB.cell 2
 simp at x2
 have H:=Hd h
 have HB:=Hd hB
 have HN:=Hd hn
 have H2:=Hd hF2
 have H3:=Hd hF3
 clear h hB hn hF2 hF3
 have H1:=Hd hF1
 clear hF1
 go_enter Tryz.func36,Tryz.ntmps36
 have R1:=Hd (ClRel.start (P:=(fun s=>s ∈ t.keys∧lastB (g.F s) t.sees=true)) H1.out (fun s hs=>by simp [keysF,hs.1]))
 have hm0:=H1.out.map
 go_wp2_with (first | (at_range;refine at_rng _ rfl _ _ rfl 9 3 Tryz.underlying67 rfl hm0 ?_;intro w2 hR2 hM2 hg2 hs2;go_frame))
 have hb2:Below w.heap.size w w2:=(Below.refl _ _).grown hg2 (Nat.le_refl _) (fun k hk=>by cases hk)
 have hH0:w.heap.size≤w.heap.size:=Nat.le_refl _
 generalize hH:w.heap.size=B0 at *
 have HH:=Hd hH
 clear hH
 generalize hQ:B0=Q1 at hR2 hs2 hH0 ⊢
 have hQB:B0≤Q1:=Nat.le_of_eq hQ
 clear hQ hH0 hm0 hM2
 go_loopw [5] (fun _ wr=>∃ left:List MapEntry,RangeAt wr kb Q1 ek ck left∧Below B0 w wr∧Hid (ClRel txt (fun s=>s ∈ t.keys∧lastB (g.F s) t.sees=true) left)∧Q1+1≤wr.heap.size) (fun _ wr=>leftN wr kb Q1)
 case atStart=>exact ⟨ek.toList,hR2,hb2,R1,by omega⟩
 case round =>
  obtain ⟨left,hR,hb,hrel,hsz⟩:=hrel
  clear hb2 hR2
  have hlt:=H1.out.map.lt
  rw [HH.out] at hlt
  have hM3:=H1.out.below hb hlt
  have HLN:=Hd (hR.left_eq hM3.map)
  rcases hR.next hM3.map (by omega) 0 with ⟨h0,hrun⟩ | ⟨⟨ek1,ev1,eb1⟩,left',w',h1,h2,hrun,h3,h4,h5,h6,h7,h8⟩
  ·subst h0
   have HD1:=Hd hrel.out.done
   clear hM3 hrel hR hsz HLN hlt
   have R2:=Hd (ClRel.start (P:=(fun s=>findO t.own s≠none∧lastB (g.F s) t.sees=true)) H3.out (fun s hs=>hs.1))
   have hm0:=(H3.out.below hb (by rw [← HH.out];exact H3.out.map.lt)).map
   have z0:=(HB.out.below hb (by rw [← HH.out];exact HB.out.lt)).cell 4
   simp at z0
   go_wp2_with (first | (at_range;refine at_rng _ rfl _ _ rfl 9 112 Tryz.underlying104 rfl hm0 ?_;intro w2 hR2 hM2 hg2 hs2;go_frame))
   have hb2:Below B0 w w2:=hb.grown hg2 (by have:=HH.out;have:=hb.size;omega) (fun k hk=>by cases hk)
   have hQB:B0≤wr.heap.size:=by have:=HH.out;have:=hb.size;omega
   generalize hQ:wr.heap.size=Q2 at *
   clear hQ hm0 hM2 hb z0
   go_loopw [6] (fun _ wr=>∃ left:List MapEntry,RangeAt wr ob Q2 eo co left∧Below B0 w wr∧Hid (ClRel txt (fun s=>findO t.own s≠none∧lastB (g.F s) t.sees=true) left)∧Q2+1≤wr.heap.size) (fun _ wr=>leftN wr ob Q2)
   case atStart=>exact ⟨eo.toList,hR2,hb2,R2,by omega⟩
   case round =>
    obtain ⟨left,hR,hb,hrel,hsz⟩:=hrel
    clear hb2 hR2
    have hlt:=H3.out.map.lt
    rw [HH.out] at hlt
    have hM3:=H3.out.below hb hlt
    have HLN:=Hd (hR.left_eq hM3.map)
    rcases hR.next hM3.map (by omega) 0 with ⟨h0,hrun⟩ | ⟨⟨ek1,ev1,eb1⟩,left',w',h1,h2,hrun,h3,h4,h5,h6,h7,h8⟩
    ·subst h0
     have HD2:=Hd hrel.out.done
     clear hM3 hrel hR hsz HLN hlt
     have R3:=Hd (ClRel.start (P:=(fun p=>p ∈ t.spans∧Touch g.F p.1 p.2 t.sees)) H2.out (fun s hs=>by simp [spansF,hs.1]))
     have hm0:=(H2.out.below hb (by rw [← HH.out];exact H2.out.map.lt)).map
     have z0:=(HB.out.below hb (by rw [← HH.out];exact HB.out.lt)).cell 3
     simp at z0
     go_wp2_with (first | (at_range;refine at_rng _ rfl _ _ rfl 152 3 Tryz.underlying103 rfl hm0 ?_;intro w2 hR2 hM2 hg2 hs2;go_frame))
     have hb2:Below B0 w w2:=hb.grown hg2 (by have:=HH.out;have:=hb.size;omega) (fun k hk=>by cases hk)
     have hQB:B0≤wr.heap.size:=by have:=HH.out;have:=hb.size;omega
     generalize hQ:wr.heap.size=Q3 at *
     clear hQ hm0 hM2 hb z0
     go_loopw [7,8,9] (fun _ _ _ wr=>∃ left:List MapEntry,RangeAt wr sb Q3 es cs left∧Below B0 w wr∧Hid (ClRel spanV (fun p=>p ∈ t.spans∧Touch g.F p.1 p.2 t.sees) left)∧Q3+1≤wr.heap.size) (fun _ _ _ wr=>leftN wr sb Q3)
     case atStart=>exact ⟨es.toList,hR2,hb2,R3,by omega⟩
     case round =>
      obtain ⟨left,hR,hb,hrel,hsz⟩:=hrel
      clear hb2 hR2
      have hlt:=H2.out.map.lt
      rw [HH.out] at hlt
      have hM3:=H2.out.below hb hlt
      have HLN:=Hd (hR.left_eq hM3.map)
      rcases hR.next hM3.map (by omega) 0 with ⟨h0,hrun⟩ | ⟨⟨ek1,ev1,eb1⟩,left',w',h1,h2,hrun,h3,h4,h5,h6,h7,h8⟩
      ·subst h0
       have HD3:=Hd hrel.out.done
       clear hM3 hrel hR hsz HLN hlt
       go_wp2
       go_ret
       exact ⟨false,rfl,⟨fun q=>by (cases q),fun q=>by
        rcases q with ⟨s,h1,h2⟩ | ⟨c,h1,h2⟩ | ⟨p,h1,h2⟩
        ·exact absurd ⟨h1,h2⟩ (HD1.out s)
        ·exact absurd ⟨by rw [(findO_iff hrise).2 ⟨h1,rfl⟩];simp,h2⟩ (HD2.out c.key)
        ·exact absurd ⟨h1,h2⟩ (HD3.out p)⟩,by rw [HH.out];exact hb⟩
      ·obtain ⟨s,hs⟩:=H2.out.keys _ (hR.sub _ h1)
       obtain ⟨y,hy,_⟩:=H2.out.val s ev1 ⟨_,hR.sub _ h1,hs,rfl⟩
       simp only at hs h7 h8 hrun
       subst hs
       have hmem:s ∈ t.spans:=(by unfold spansF at hy;split at hy;assumption;cases hy)
       have hb':Below B0 w w':=hb.grown h5 (by have:=HH.out;have:=hb.size;omega) (fun k hk=>by injection hk with hk;omega)
       have hsk:=hrel.out.skip (s:=s) spanV_inj h2 rfl
       have h6':Q3+1≤w'.heap.size:=by omega
       have HX:=Hd (⟨h3,h4,hb'⟩:RangeAt w' sb Q3 es cs left'∧MapAt w' Tryz.prog 152 sb es cs∧Below B0 w w')
       obtain ⟨lo,hi⟩:=s
       have HS:=Hd h2.length_eq
       clear hrel hM3 hR h1 h2 h3 h4 h5 h6 h7 hb hlt hb'
       go_wp2_with fail
       generalize hWA:w'.alloc (.cells #[.string ⟨lo.toArray⟩,.string ⟨hi.toArray⟩] 152)=wa
       have hbk:=Blk.new w' 152 #[txt lo,txt hi]
       have hba:=(Below.refl w'.heap.size w').alloc (Nat.le_refl _) (.cells #[txt lo,txt hi] 152)
       rw [show w'.alloc (.cells #[txt lo,txt hi] 152)=wa from hWA] at hbk hba
       clear hWA
       have hbw:Below w.heap.size w wa:=by rw [HH.out];exact HX.out.2.2.trans (hba.mono (by have:=HX.out.2.2.size;have:=HH.out;omega))
       have hbd:Below w.heap.size w wa.drew:=⟨hbw.os,hbw.tape,hbw.output,hbw.size,hbw.block⟩
       have DD:=H.out.below hbw
       have B2:=HB.out.below hbw HB.out.lt
       have x1:=DD.hB.cell 1
       have x0:=B2.cell 0
       have y0:=hbk.cell 0
       have y1:=hbk.cell 1
       simp at x1 x0 y0 y1
       have HC:=Hd ((H.out.below hbd).touched hk lo hi t.sees HN.out)
       have HBW:=Hd hbw
       have HBA:=Hd hba
       have hDB:=DD.hB
       have hkk:∀ W,Blk W d 100 #[ptrV M.lg,ptrV M.tb,.int .i64 g.last,.int .i64 g.ids,.map (some M.ob),M.ev]→Blk W bk 106 #[.int .i64 t.sees,.int .i64 t.asked,.map (some kb),.map (some sb),.map (some ob)]→Blk W w'.heap.size 152 #[txt lo,txt hi]→W.cell? ⟨d,1,none⟩=some (ptrV M.tb)∧W.cell? ⟨bk,0,none⟩=some (.int .i64 t.sees)∧W.cell? ⟨w'.heap.size,0,none⟩=some (txt lo)∧W.cell? ⟨w'.heap.size,1,none⟩=some (txt hi):=fun W e1 e2 e3=>⟨e1.cell 1,e2.cell 0,e3.cell 0,e3.cell 1⟩
       clear DD hbd hbw hba
       by_cases hch:Touch g.F lo hi t.sees
       ·have HRES:=Hd (show Clash g.F t from .inr (.inr ⟨(lo,hi),hmem,hch⟩))
        have HCC:=Hd (show Calls Tryz.prog 58 #[.pointer (some ⟨M.tb,0,none⟩),txt lo,txt hi,.int .i64 t.sees] wa.drew (fun e w'=>e=.returned (.tuple #[.bool true,.nilIface])∧Below wa.heap.size wa w') from HC.out.mono (fun e w' q=>by obtain ⟨r,h1,h2,h3⟩:=q;rw [h2.2 hch] at h1;exact ⟨h1,⟨h3.os,h3.tape,h3.output,h3.size,h3.block⟩⟩))
        clear hch hsk hmem hy HC
        go_region_held3 (fun W=>W.cell? ⟨d,1,none⟩=some (ptrV M.tb)∧W.cell? ⟨bk,0,none⟩=some (.int .i64 t.sees)∧W.cell? ⟨w'.heap.size,0,none⟩=some (txt lo)∧W.cell? ⟨w'.heap.size,1,none⟩=some (txt hi))
         (first
          | exact hkk _ hDB B2 hbk
          | exact hkk _ (hDB.below hb4 hDB.lt) (B2.below hb4 B2.lt) (hbk.below hb4 hbk.lt))
         ((go_at_call 58;refine HCC.out.mono ?_;rintro e w4 ⟨rfl,hb4⟩))
        all_goals have HB4:=Hd hb4
        all_goals clear hb4
        all_goals go_wp2
        all_goals go_ret
        all_goals exact ⟨true,rfl,⟨fun _=>HRES.out,fun _=>rfl⟩,HBW.out.trans (HB4.out.mono HBW.out.size)⟩
       ·have HSK:=Hd (hsk (fun q=>hch q.2))
        have HCC:=Hd (show Calls Tryz.prog 58 #[.pointer (some ⟨M.tb,0,none⟩),txt lo,txt hi,.int .i64 t.sees] wa.drew (fun e w'=>e=.returned (.tuple #[.bool false,.nilIface])∧Below wa.heap.size wa w') from HC.out.mono (fun e w' q=>by obtain ⟨r,h1,h2,h3⟩:=q;have:r=false:=(by cases r with | true=>exact absurd (h2.1 rfl) hch | false=>rfl);rw [this] at h1;exact ⟨h1,⟨h3.os,h3.tape,h3.output,h3.size,h3.block⟩⟩))
        clear hch hsk hmem hy HC
        go_region_held3 (fun W=>W.cell? ⟨d,1,none⟩=some (ptrV M.tb)∧W.cell? ⟨bk,0,none⟩=some (.int .i64 t.sees)∧W.cell? ⟨w'.heap.size,0,none⟩=some (txt lo)∧W.cell? ⟨w'.heap.size,1,none⟩=some (txt hi))
         (first
          | exact hkk _ hDB B2 hbk
          | exact hkk _ (hDB.below hb4 hDB.lt) (B2.below hb4 B2.lt) (hbk.below hb4 hbk.lt))
         ((go_at_call 58;refine HCC.out.mono ?_;rintro e w4 ⟨rfl,hb4⟩))
        all_goals have HB4:=Hd hb4
        all_goals clear hb4
        all_goals go_wp2
        all_goals go_roundw
        all_goals first | exact ⟨left',(HX.out.1.below HBA.out (by omega)).below HB4.out (by have:=HBA.out.size;omega),by rw [← HH.out];exact HBW.out.trans (HB4.out.mono HBW.out.size),HSK,by have:=HB4.out.size;have:=HBA.out.size;omega⟩ | (rw [((HX.out.1.below HBA.out (by omega)).below HB4.out (by have:=HBA.out.size;omega)).left_eq ((HX.out.2.1.keep (HBA.out.block _ HX.out.2.1.lt)).keep (HB4.out.block _ (Nat.lt_of_lt_of_le HX.out.2.1.lt HBA.out.size))),HLN.out,HS.out];simp)
    ·obtain ⟨s,hs⟩:=H3.out.keys _ (hR.sub _ h1)
     obtain ⟨y,hy,_⟩:=H3.out.val s ev1 ⟨_,hR.sub _ h1,hs,rfl⟩
     have hshort:=key_short H3.out.map (hR.sub _ h1) hs
     simp only at hs h7 h8 hrun
     subst hs
     have hmem:=hy
     have hb':Below B0 w w':=hb.grown h5 (by have:=HH.out;have:=hb.size;omega) (fun k hk=>by injection hk with hk;omega)
     have hsk:=hrel.out.skip (s:=s) txtV_inj h2 rfl
     have h6':Q2+1≤w'.heap.size:=by omega
     have HX:=Hd (⟨h3,h4,hb'⟩:RangeAt w' ob Q2 eo co left'∧MapAt w' Tryz.prog 9 ob eo co∧Below B0 w w')
     have hbd:Below w.heap.size w w'.drew:=by rw [HH.out];exact ⟨hb'.os,hb'.tape,hb'.output,hb'.size,hb'.block⟩
     have DD:=H.out.below hbd
     have x1:w'.cell? ⟨d,1,none⟩=_:=DD.hB.cell 1
     have x0:w'.cell? ⟨bk,0,none⟩=_:=(HB.out.below hbd HB.out.lt).cell 0
     simp at x1 x0
     have HC:=Hd (DD.changed hk s hshort t.sees)
     have HS:=Hd h2.length_eq
     clear hrel hM3 hR h1 h2 h3 h4 h5 h6 h7 DD hbd hb hlt
     by_cases hch:lastB (g.F s) t.sees=true
     ·have HRES:=Hd (show Clash g.F t from .inr (.inl ⟨y,((findO_iff hrise).1 hmem).1,by rw [((findO_iff hrise).1 hmem).2];exact hch⟩))
      have HCH:=Hd hch
      clear hch hsk hmem hy
      go_wp2_with fail
      go_still_tail 9,(by kernel_rfl)
      go_wp2_with fail
      refine HC.out.mono ?_
      rw [HCH.out]
      rintro e w3 ⟨rfl,hb3⟩
      have hb3:Below w'.heap.size w' w3:=⟨hb3.os,hb3.tape,hb3.output,hb3.size,hb3.block⟩
      have HB3:=Hd hb3
      clear hb3
      go_wp2
      go_ret
      exact ⟨true,rfl,⟨fun _=>HRES.out,fun _=>rfl⟩,by rw [HH.out];exact HX.out.2.2.trans (HB3.out.mono (by have:=HX.out.2.2.size;have:=HH.out;omega))⟩
     ·have hch':lastB (g.F s) t.sees=false:=by simpa using hch
      have HSK:=Hd (hsk (fun q=>by rw [hch'] at q;cases q.2))
      have HCH:=Hd hch'
      clear hch hch' hsk hmem hy
      go_wp2_with fail
      go_still_tail 9,(by kernel_rfl)
      go_wp2_with fail
      refine HC.out.mono ?_
      rw [HCH.out]
      rintro e w3 ⟨rfl,hb3⟩
      have hb3:Below w'.heap.size w' w3:=⟨hb3.os,hb3.tape,hb3.output,hb3.size,hb3.block⟩
      have HB3:=Hd hb3
      clear hb3
      go_wp2
      go_roundw
      case rel=>exact ⟨left',HX.out.1.below HB3.out (by omega),HX.out.2.2.trans (HB3.out.mono (by have:=HX.out.2.2.size;have:=HH.out;omega)),HSK,by have:=HB3.out.size;omega⟩
      case measure=>rw [(HX.out.1.below HB3.out (by omega)).left_eq (HX.out.2.1.keep (HB3.out.block _ HX.out.2.1.lt)),HLN.out,HS.out];simp
  ·obtain ⟨s,hs⟩:=H1.out.keys _ (hR.sub _ h1)
   obtain ⟨y,hy,_⟩:=H1.out.val s ev1 ⟨_,hR.sub _ h1,hs,rfl⟩
   have hshort:=key_short H1.out.map (hR.sub _ h1) hs
   simp only at hs h7 h8 hrun
   subst hs
   have hmem:s ∈ t.keys:=(by unfold keysF at hy;split at hy;assumption;cases hy)
   have hb':Below B0 w w':=hb.grown h5 (by have:=HH.out;have:=hb.size;omega) (fun k hk=>by injection hk with hk;omega)
   have hsk:=hrel.out.skip (s:=s) txtV_inj h2 rfl
   have h6':Q1+1≤w'.heap.size:=by omega
   have HX:=Hd (⟨h3,h4,hb'⟩:RangeAt w' kb Q1 ek ck left'∧MapAt w' Tryz.prog 9 kb ek ck∧Below B0 w w')
   have hbd:Below w.heap.size w w'.drew:=by rw [HH.out];exact ⟨hb'.os,hb'.tape,hb'.output,hb'.size,hb'.block⟩
   have DD:=H.out.below hbd
   have x1:w'.cell? ⟨d,1,none⟩=_:=DD.hB.cell 1
   have x0:w'.cell? ⟨bk,0,none⟩=_:=(HB.out.below hbd HB.out.lt).cell 0
   simp at x1 x0
   have HC:=Hd (DD.changed hk s hshort t.sees)
   have HS:=Hd h2.length_eq
   clear hrel hM3 hR h1 h2 h3 h4 h5 h6 h7 DD hbd hb hlt
   by_cases hch:lastB (g.F s) t.sees=true
   ·have HRES:=Hd (show Clash g.F t from .inl ⟨s,hmem,hch⟩)
    have HCH:=Hd hch
    clear hch hsk hmem hy
    go_wp2_with fail
    go_still_tail 9,(by kernel_rfl)
    go_wp2_with fail
    refine HC.out.mono ?_
    rw [HCH.out]
    rintro e w3 ⟨rfl,hb3⟩
    have hb3:Below w'.heap.size w' w3:=⟨hb3.os,hb3.tape,hb3.output,hb3.size,hb3.block⟩
    have HB3:=Hd hb3
    clear hb3
    go_wp2
    go_ret
    exact ⟨true,rfl,⟨fun _=>HRES.out,fun _=>rfl⟩,by rw [HH.out];exact HX.out.2.2.trans (HB3.out.mono (by have:=HX.out.2.2.size;have:=HH.out;omega))⟩
   ·have hch':lastB (g.F s) t.sees=false:=by simpa using hch
    have HSK:=Hd (hsk (fun q=>by rw [hch'] at q;cases q.2))
    have HCH:=Hd hch'
    clear hch hch' hsk hmem hy
    go_wp2_with fail
    go_still_tail 9,(by kernel_rfl)
    go_wp2_with fail
    refine HC.out.mono ?_
    rw [HCH.out]
    rintro e w3 ⟨rfl,hb3⟩
    have hb3:Below w'.heap.size w' w3:=⟨hb3.os,hb3.tape,hb3.output,hb3.size,hb3.block⟩
    have HB3:=Hd hb3
    clear hb3
    go_wp2
    go_roundw
    case rel=>exact ⟨left',HX.out.1.below HB3.out (by omega),HX.out.2.2.trans (HB3.out.mono (by have:=HX.out.2.2.size;have:=HH.out;omega)),HSK,by have:=HB3.out.size;omega⟩
    case measure=>rw [(HX.out.1.below HB3.out (by omega)).left_eq (HX.out.2.1.keep (HB3.out.block _ HX.out.2.1.lt)),HLN.out,HS.out];simp
end
structure CmRel (own:List Chg) (es:Array MapEntry) (left:List MapEntry) (out:List Chg):Prop where
 nodup:(out.map Chg.key).Nodup
 mem:∀ c,c ∈ out ↔ c ∈ own∧∀ x ∈ left,x.key≠txt c.key
 len:out.length+left.length≤es.size
section
variable {own : List Chg} {es : Array MapEntry} {left left' : List MapEntry} {out : List Chg}
theorem CmRel.start {w:World} {P:Program} {k:TypeId} {b:Nat} {clock:Nat} (h:FMap w P k b es clock txt chgV (findO own)) (hr:RiseC own):CmRel own es es.toList []:=by
 refine ⟨by simp,fun c=>⟨fun h=>by simp at h,fun ⟨h1,h2⟩=>?_⟩,by simp⟩
 obtain ⟨x,hx,hk,_⟩:=h.has c.key c ((findO_iff hr).2 ⟨h1,rfl⟩)
 exact absurd hk (h2 x hx)
theorem CmRel.add (h:CmRel own es left out) (hr:RiseC own) {e:MapEntry} {s:List UInt8} {c:Chg} (hp:List.Perm left (e::left')) (hs:e.key=txt s) (hc:findO own s=some c) (hl:∀ x ∈ left',x.key≠e.key):CmRel own es left' (out++[c]):=by
 obtain ⟨hc1,hc2⟩:=(findO_iff hr).1 hc
 subst hc2
 refine ⟨?_,fun c'=>?_,by have:=h.len;have:=hp.length_eq;simp at this ⊢;omega⟩
 ·rw [List.map_append,List.nodup_append]
  refine ⟨h.nodup,by simp,?_⟩
  intro a ha b hb
  simp at hb
  subst hb
  intro e2
  subst e2
  obtain ⟨c1,h1,h2⟩:=List.mem_map.1 ha
  exact ((h.mem _).1 h1).2 e (hp.mem_iff.2 List.mem_cons_self) (by rw [hs,h2])
 ·rw [List.mem_append,List.mem_singleton,h.mem]
  constructor
  ·rintro (⟨h1,h2⟩ | rfl)
   ·exact ⟨h1,fun x hx=>h2 x (hp.mem_iff.2 (List.mem_cons_of_mem _ hx))⟩
   ·exact ⟨hc1,fun x hx=>by rw [← hs];exact hl x hx⟩
  ·rintro ⟨h1,h2⟩
   by_cases e2:c'.key=c.key
   ·have h3:=(findO_iff hr).2 ⟨h1,e2⟩
    rw [hc] at h3
    injection h3 with h3
    exact .inr h3.symm
   ·refine .inl ⟨h1,fun x hx=>?_⟩
    rcases List.mem_cons.1 (hp.mem_iff.1 hx) with rfl | hx
    ·intro e3
     rw [hs] at e3
     exact e2 (txt_inj e3).symm
    ·exact h2 x hx
theorem CmRel.done (h:CmRel own es [] out) (hr:RiseC own) {L:List Chg} (hp:L.Perm out) (hs:L.Pairwise (fun x y=>lessB y.key x.key=false)):L=own:=by
 refine Rise.ext (Rise.of_sorted hs ((hp.map _).nodup_iff.2 h.nodup)) hr (fun c=>?_)
 rw [hp.mem_iff,h.mem]
 simp
end
section
variable {w w' : World} {O : Nat → Nat} {d : Nat} {M : Mem} {g : Dk} {id : Int} {k : Nat}
theorem small_of {l:List Chg} (h:∀ c ∈ l,oneOk c=true):Small l:=fun c hc=>by
 obtain ⟨_,h2,h3,_⟩:=oneOk_parts (h c hc)
 unfold maxLen
 omega
theorem DeskAt.commit_none (h:DeskAt w O d M g) (hid:(Lit.int .i64 id).wf=true) (ht:findT g.op id=none) :
  Calls Tryz.prog 23 #[ptrV d,intV id] w fun e w'=>e=.returned (.tuple #[.int .i64 0,.iface 71 (.int .i64 4)])∧w'=w:=by
 have HO:=Hd (h.of_none hid ht)
 clear h
 go_enter Tryz.func23,Tryz.ntmps23
 go_wp2_with fail
 refine HO.out.mono ?_
 rintro e w1 ⟨rfl,rfl⟩
 go_wp2
 go_ret2
 exact ⟨rfl,rfl⟩
theorem DeskAt.strike (h:DeskAt w O d M g) (hp:∀ t ∈ g.op,1≤t.id) (hid:(Lit.int .i64 id).wf=true) {t:Tr} (ht:findT g.op id=some t) :
  ∃ w1,(∀ ty,(Builtin.delete_ #[98,3] ty #[.map (some M.ob),intV id]).run Tryz.prog w=.ok (.tuple #[]) w1)∧Fr (fun q=>O q=4) w w1∧w1.heap.size=w.heap.size ∧
   DeskAt w1 (give O 4 w w1) d M { g with op:=eraseT g.op id }∧TrAt w1 (fun q=>O q=TrS id) (M.bk id) t:=by
 obtain ⟨htm,hti⟩:=findT_mem ht
 obtain ⟨kl,hkl⟩:=int_key id hid
 obtain ⟨eo,co,hF⟩:=h.op
 obtain ⟨es',hrun,h1,h2,h3⟩:=hF.drop (ty:=0) intKey Tryz.underlying98 intV_inj id hkl
 have f:Fr (fun q=>O q=4) w _:=(Fr.refl _ _).grown h2 (fun k e _=>by injection e with e;rw [← e];exact h.hob)
 have hT:=h.tr t htm
 rw [hti] at hT
 refine ⟨_,fun ty=>?_,f,h3,h.turn_op f (fun t ht=>(List.mem_filter.1 ht).1) (by rw [findT_erase];exact h1),hT.far f (fun q e e2=>by rw [e] at e2;unfold TrS at e2;omega)⟩
 exact hrun
end
section
variable {w w' : World} {O : Nat → Nat} {d : Nat} {M : Mem} {g : Dk} {id : Int} {k : Nat}
theorem DeskAt.commit_to (h:DeskAt w O d M g) (ok:DkOk g k) (hk:k≤40000) (hid:(Lit.int .i64 id).wf=true) :
  Calls Tryz.prog 23 #[ptrV d,intV id] w fun e w'=>e=.returned (.tuple #[.int .i64 (g.commit id).1,faultV (g.commit id).2.1])∧DeskTo w O d (g.commit id).2.2 w':=by
 cases ht:findT g.op id with
 | none =>
  have HE:=Hd (show g.commit id=(0,4,g) by unfold Dk.commit;rw [ht])
  refine (h.commit_none hid ht).mono ?_
  rintro e w1 ⟨rfl,rfl⟩
  rw [HE.out]
  exact ⟨rfl,DeskTo.same h⟩
 | some t =>
  obtain ⟨w1,hdel,f1,hsz1,D1,T1⟩:=h.strike ok.pos hid ht
  have hx4:=h.hB.cell 4
  simp at hx4
  have HO:=Hd (h.of_some hid ht)
  have hlen40:g.all.length≤40000:=by have:=ok.hall.1;omega
  have hnum:=DeskAt.sees_ok ok (by omega) ht
  have HCl:=Hd (clash_ok D1 hlen40 T1 hnum)
  obtain ⟨⟨kb,sb,ob,ek,ck,es,cs,eo,co,hB,hF1,hF2,hF3,s1,s2,s3,n1,n2,n3,l1,l2⟩,hS,hrise,hown,hask⟩:=T1
  have hcnt:=own_count (k:=0) hF3 hrise
  have HB1:=Hd hB
  have HF3:=Hd hF3
  have HD1:=Hd D1
  have HT:=Hd (fun g' w' (q:DeskTo w1 (give O 4 w w1) d g' w')=>DeskTo.trans (O:=O) (give_plus h.bound) (f1.mono (fun q _ e=>by rw [e];decide)) q)
  clear hB hF1 hF2 hF3 D1 f1 h
  by_cases hcl:Clash g.F t
  ·have HE:=Hd (show g.commit id=(0,6,{ g with op:=eraseT g.op id }) by unfold Dk.commit;rw [ht];simp only;rw [if_pos hcl])
   have HC:=Hd (show Calls Tryz.prog 36 #[ptrV d,ptrV (M.bk id)] w1 (fun e w'=>e=.returned (.bool true)∧Below w1.heap.size w1 w') from HCl.out.mono (fun e w' q=>by obtain ⟨r,h1,h2,h3⟩:=q;rw [h2.2 hcl] at h1;exact ⟨h1,h3⟩))
   clear HCl hcl
   go_enter Tryz.func23,Tryz.ntmps23
   go_wp2_with fail
   refine HO.out.mono ?_
   rintro e w2 ⟨rfl,rfl⟩
   go_wp2_with fail
   refine HC.out.mono ?_
   rintro e w3 ⟨rfl,hb3⟩
   have HB3:=Hd hb3
   clear hb3
   go_wp2
   go_ret2
   rw [HE.out]
   exact ⟨rfl,HT.out _ _ (DeskTo.below HD1.out HB3.out)⟩
  ·have HC:=Hd (show Calls Tryz.prog 36 #[ptrV d,ptrV (M.bk id)] w1 (fun e w'=>e=.returned (.bool false)∧Below w1.heap.size w1 w') from HCl.out.mono (fun e w' q=>by
    obtain ⟨r,h1,h2,h3⟩:=q
    have:r=false:=by
     cases r with
     | true=>exact absurd (h2.1 rfl) hcl
     | false=>rfl
    rw [this] at h1
    exact ⟨h1,h3⟩))
   have HN:=Hd hcl
   clear HCl hcl
   by_cases hown0:t.own=[]
   ·have HE:=Hd (show g.commit id=(t.sees,0,{ g with op:=eraseT g.op id }) by unfold Dk.commit;rw [ht];simp only;rw [if_neg HN.out,if_pos hown0])
    rw [hown0] at hcnt
    go_enter Tryz.func23,Tryz.ntmps23
    go_wp2_with fail
    refine HO.out.mono ?_
    rintro e w2 ⟨rfl,rfl⟩
    go_wp2_with fail
    refine HC.out.mono ?_
    rintro e w3 ⟨rfl,hb3⟩
    have HB3:=Hd hb3
    have B3:=HB1.out.below hb3 HB1.out.lt
    have hlen3:=(HF3.out.below hb3 HF3.out.map.lt).map.len Tryz.underlying104
    rw [hcnt] at hlen3
    have x4:=B3.cell 4
    have x0:=B3.cell 0
    simp at x4 x0 hlen3
    clear hb3 B3
    go_wp2
    go_ret2
    rw [HE.out]
    exact ⟨rfl,HT.out _ _ (DeskTo.below HD1.out HB3.out)⟩
   ·have hl0:0 < t.own.length:=List.length_pos_iff.2 hown0
    have hne0:((t.own.length:Int) == 0)=false:=by simp;omega
    have HCNT:=Hd hcnt
    clear hcnt
    have HR:=Hd hrise
    have HW:=Hd hown
    clear hrise hown
    go_enter Tryz.func23,Tryz.ntmps23
    go_wp2_with fail
    refine HO.out.mono ?_
    rintro e w2 ⟨rfl,rfl⟩
    go_wp2_with fail
    refine HC.out.mono ?_
    rintro e w3 ⟨rfl,hb3⟩
    have HB3:=Hd hb3
    have B3:=HB1.out.below hb3 HB1.out.lt
    have F3:=HF3.out.below hb3 HF3.out.map.lt
    have hlen3:=F3.map.len Tryz.underlying104
    rw [HCNT.out] at hlen3
    have x4:=B3.cell 4
    simp at x4
    have hm0:=F3.map
    have HF33:=Hd F3
    clear hb3 B3 F3
    go_wp2_with (first | (at_range;refine at_rng _ rfl _ _ rfl 9 112 Tryz.underlying104 rfl hm0 ?_;intro w4 hR4 hM4 hg4 hs4;go_frame))
    have hb4:Below w3.heap.size w3 w4:=(Below.refl _ _).grown hg4 (Nat.le_refl _) (fun k hk=>by cases hk)
    have hoblt:=hm0.lt
    clear hm0 hM4
    have HW3:=Hd HB3.out
    have hw13:=HB3.out.size
    generalize hH:w3.heap.size=H at *
    have hRel0:=Hd (CmRel.start HF33.out HR.out)
    go_loopw [8,10] (fun o _ wr=>∃ (left:List MapEntry) (out:List Chg),OwnC wr (H+1) o out∧RangeAt wr ob H eo co left∧Below H w3 wr∧Hid (CmRel t.own eo left out)∧H+1≤wr.heap.size) (fun _ _ wr=>leftN wr ob H)
    case atStart=>exact ⟨eo.toList,[],OwnC.nil _ _,hR4,hb4,hRel0,by omega⟩
    case round =>
     obtain ⟨left,out,hownr,hR,hb,hrel,hsz⟩:=hrel
     have hM5:=HF33.out.below hb hoblt
     have HLN:=Hd (hR.left_eq hM5.map)
     rcases hR.next hM5.map (by omega) 0 with ⟨h0,hrun⟩ | ⟨⟨ek1,ev1,eb1⟩,left',w',h1,h2,hrun,h3,h4,h5,h6,h7,h8⟩
     ·subst h0
      have hol:out.length≤1000000:=by have:=hrel.out.len;have:=HCNT.out;have:=HW.out.1;omega
      have HS:=Hd (sortC_any u8 out (H+1) hol wr hownr)
      clear hownr hM5 hR
      go_wp2_with fail
      refine HS.out.mono ?_
      rintro e w5 ⟨rfl,L,hown5,hp,hsrt,hb5⟩
      obtain rfl:=hrel.out.done HR.out hp hsrt
      have hb35:Below H w3 w5:=hb.trans (hb5.mono (by omega))
      have hb15:Below w1.heap.size w1 w5:=HB3.out.trans (hb35.mono hw13)
      have D5:=HD1.out.below hb15
      have hOz:∀ q,H+1≤q→give O 4 w2 w1 q=0:=fun q hq=>by
       unfold give
       rw [if_neg (by omega),if_neg (by omega)]
      unfold OwnC at hown5
      have hblk5:=fun q hq=>(World.ownsRow.lt hown5 q hq).1
      obtain ⟨A,c,hu8,hrd⟩:=own_form hown5
      subst hu8
      rw [← cellsC_flat] at hrd
      have HAp:=Hd (D5.log.append A t.own c (by have:=HW.out.1;unfold maxLen;omega) (small_of HW.out.2) hrd)
      have HT5:=Hd (fun g' w' (q:DeskTo w5 (give O 4 w2 w1) d g' w')=>HT.out g' w' (DeskTo.trans (fun q e=>.inl e) (Fr.of_below hb15) q))
      have x50:=D5.hB.cell 0
      simp at x50
      have HD5:=Hd D5
      have HO5:=Hd hown5
      have HK5:=Hd hblk5
      have HZ:=Hd hOz
      clear hrel hb hb5 hb35 hb15 D5 hOz hown5 hblk5 hrd hp hsrt HLN hrun hb4 hR4
      by_cases hz:(g.lg.append t.own).1=0
      ·have HE:=Hd (show g.commit id=(g.last+1,0,Dk.put { g with lg:=(g.lg.append t.own).2,op:=eraseT g.op id } t.own ((g.lg.append t.own).2.B.length:Int)) by unfold Dk.commit;rw [ht];simp only;rw [if_neg HN.out,if_neg hown0,if_pos hz])
       have HZ0:=Hd (show faultV (g.lg.append t.own).1=.nilIface by rw [hz];rfl)
       clear hz
       go_wp2_with fail
       refine HAp.out.mono ?_
       rintro e w6 ⟨rfl,f6,hL6⟩
       have hfz:faultV (g.lg.append t.own).1=.nilIface:=HZ0.out
       have D6:=HD5.out.turn_log f6 hL6
       have x60:=D6.hB.cell 0
       simp at x60
       have HBy:=Hd D6.log.bytes_ok
       have hown6:=own_fr HO5.out f6 (fun q hq e=>by rw [HZ.out q (HK5.out q hq)] at e;cases e)
       have HO6:=Hd hown6
       have HD6:=Hd D6
       have HF6:=Hd f6
       clear D6 hL6 hown6 f6
       simp only [hfz]
       clear hfz
       go_wp2_with fail
       refine HBy.out.mono ?_
       rintro e w7 ⟨v7,rfl,hown7,hb7⟩
       obtain ⟨A7,c7,rfl,_,_⟩:=own_form3 hown7
       have D7:=HD6.out.below hb7
       have hownL:=own_below HO6.out hb7
       obtain ⟨A8,c8,he8,hrd7⟩:=own_form hownL
       injection he8 with q1 q2 q3
       subst q1
       subst q3
       rw [← cellsC_flat] at hrd7
       have hgA:∀ a,A=some a→give (give O 4 w2 w1) 1 w5 w6 a.block=0:=fun a ha=>by
        subst ha
        have hlt:=(World.ownsRow.lt HO5.out a.block rfl).2
        have:=HZ.out a.block (HK5.out a.block rfl)
        unfold give at this ⊢
        rw [if_pos hlt]
        exact this
       have HAP:=Hd (D7.apply_to hlen40 ok.ends.1 t.own A c ((g.lg.append t.own).2.B.length:Int) HW.out.1 HW.out.2 hrd7 hgA)
       have HB7:=Hd hb7
       have HD7:=Hd D7
       have hBl:=D7.log.len
       have hBl1:((g.lg.append t.own).2.B.length:Int)≤100000:=by have:=hBl.1;have:=hBl.2.1;exact Int.le_trans hBl.1 hBl.2.1
       clear hBl hb7 hown7 hownL hrd7 hgA D7
       go_wp2_with fail
       refine HAP.out.mono ?_
       rintro e w8 ⟨rfl,hDT⟩
       have HDT:=Hd (HT5.out _ _ (DeskTo.trans (give_plus HD5.out.bound) (HF6.out.mono (fun q _ e=>by rw [e];decide)) (DeskTo.trans (fun q e=>.inl e) (Fr.of_below HB7.out) hDT)))
       obtain ⟨O8,M8,D8,_,_⟩:=hDT
       have x8:=D8.hB.cell 2
       change _=some (Value.int .i64 (((g.all++[t.own]).length:Nat):Int)) at x8
       rw [show (((g.all++[t.own]).length:Nat):Int)=g.last+1 by unfold Dk.last;simp] at x8
       clear D8
       go_wp2
       go_ret2
       rw [HE.out]
       exact ⟨rfl,HDT.out⟩
      ·have HE:=Hd (show g.commit id=(0,(g.lg.append t.own).1,{ g with op:=eraseT g.op id,lg:=(g.lg.append t.own).2 }) by unfold Dk.commit;rw [ht];simp only;rw [if_neg HN.out,if_neg hown0,if_neg hz])
       have HZ0:=Hd (show faultV (g.lg.append t.own).1=.iface 71 (.int .i64 (g.lg.append t.own).1) by unfold faultV;rw [if_neg hz])
       clear hz
       go_wp2_with fail
       refine HAp.out.mono ?_
       rintro e w6 ⟨rfl,f6,hL6⟩
       have D6:=HD5.out.turn_log f6 hL6
       have HR6:=Hd (DeskTo.of D6 HD5.out.bound (by decide) f6)
       clear D6 hL6 f6
       have hfz:faultV (g.lg.append t.own).1=.iface 71 (.int .i64 (g.lg.append t.own).1):=HZ0.out
       simp only [hfz]
       clear hfz
       go_wp2
       go_ret2
       rw [HE.out]
       exact ⟨by rw [HZ0.out];rfl,HT5.out _ _ HR6.out⟩
     ·obtain ⟨s,hs⟩:=HF33.out.keys _ (hR.sub _ h1)
      obtain ⟨c,hc,hv⟩:=HF33.out.val s ev1 ⟨_,hR.sub _ h1,hs,rfl⟩
      simp only at hs hv h7 h8 hrun
      subst hs
      subst hv
      have HRA:=Hd (hrel.out.add HR.out (s:=s) h2 rfl hc h7)
      have hol:out.length < 1000000000:=by have:=hrel.out.len;have:=HCNT.out;have:=HW.out.1;omega
      have hb':Below H w3 w':=hb.grown h5 (by omega) (fun k hk=>by injection hk with hk;omega)
      have hown':=own_far hownr h5 (by omega)
      have h6':H+1≤w'.heap.size:=by omega
      have HP:=Hd h2.length_eq
      have hbk0:=Blk.new w' 112 #[txt c.key,txt c.val,.bool c.gone]
      have hba:=(Below.refl w'.heap.size w').alloc (Nat.le_refl _) (.cells #[txt c.key,txt c.val,.bool c.gone] 112)
      clear h6 hrel hM5 hR hownr hb h1 h2 h7
      have HBK0:=Hd hbk0
      have HBA0:=Hd hba
      clear hbk0 hba
      go_upto_region 13 with fail
      generalize hWA:w'.alloc (.cells #[.string ⟨c.key.toArray⟩,.string ⟨c.val.toArray⟩,.bool c.gone] 112)=wa
      have hbk:Blk wa w'.heap.size 112 #[txt c.key,txt c.val,.bool c.gone]:=by rw [← hWA];exact HBK0.out
      have hba:Below w'.heap.size w' wa:=by rw [← hWA];exact HBA0.out
      clear hWA HBK0 HBA0
      obtain ⟨y0,y1,y2⟩:=hbk.cls3
      simp at y0 y1 y2
      have hownA:=own_below hown' hba
      have hszA:H+1≤wa.heap.size:=by have:=hba.size;omega
      have h1c:=encC_one c
      have HBA:=Hd hba
      clear hba hbk hown'
      go_wp2_with (at_builtin;go_must (refine wpList_append_elt rfl _ _ 110 rfl 112 Tryz.underlying110 _ 3 40 infoC rfl (by decide) (by decide) (H+1) _ out.length (flatE encC out) rfl hownA #[txt c.key,txt c.val,.bool c.gone] rfl h1c rfl hol hszA ?_);intro v6 w6 hown6 hg6 hat6)
      have hne6:∀ q,u8.ownBlock=some q→H+1≤q:=fun q hq=>(World.ownsRow.lt hownA q hq).1
      have h3a:=h3.below HBA.out h3.lt
      have h4a:=h4.keep (HBA.out.block _ h4.lt)
      have hblk:w6.heap[H]?=wa.heap[H]?:=hg6.block H h3a.lt (fun e=>by have:=hne6 H e.symm;omega)
      have h36:=h3a.keep hblk
      have h46:=h4a.grown hg6 (fun e=>by have:=hne6 ob e.symm;omega)
      have hb6:=(hb'.trans (HBA.out.mono (by omega))).grown hg6 (by omega) (fun q hq=>by have:=hne6 q hq;omega)
      have hsz6:H+1≤w6.heap.size:=Nat.le_trans hszA hg6.size
      clear hblk
      go_roundw
      case rel=>exact ⟨left',out++[c],by unfold OwnC;rw [flatE_append,List.length_append];exact hown6,h36,hb6,HRA,hsz6⟩
      case measure=>rw [h36.left_eq h46,HLN.out,HP.out];simp
end
theorem updO_updO {κ β:Type} (f:κ→Option β) (s:κ) (x y:Option β):updO (updO f s x) s y=updO f s y:=by
 funext z
 by_cases e:z=s
 ·rw [e,updO_same,updO_same]
 ·rw [updO_other _ _ e,updO_other _ _ e,updO_other _ _ e]
section
variable {w w' : World} {O : Nat → Nat} {d : Nat} {M : Mem} {g : Dk} {id : Int} {k : Nat}
theorem DeskAt.range_bad (h:DeskAt w O d M g) (hid:(Lit.int .i64 id).wf=true) (lo hi:Value) (hb:findT g.op id=none) :
  Calls Tryz.prog 136 #[ptrV d,intV id,lo,hi] w fun e w'=>e=.returned (.tuple #[.slice none 0 0,.iface 71 (.int .i64 4)])∧w'=w:=by
 have HO:=Hd (h.of_none hid hb)
 clear h
 go_enter Tryz.func136,Tryz.ntmps136
 go_wp2_with fail
 refine HO.out.mono ?_
 rintro e w1 ⟨rfl,rfl⟩
 go_wp2
 go_ret2
 exact ⟨rfl,rfl⟩
theorem DeskAt.range_full (h:DeskAt w O d M g) (hid:(Lit.int .i64 id).wf=true) (lo hi:Value) {t:Tr} (ht:findT g.op id=some t) (hf:t.asked=100) :
  Calls Tryz.prog 136 #[ptrV d,intV id,lo,hi] w fun e w'=>e=.returned (.tuple #[.slice none 0 0,.iface 71 (.int .i64 3)])∧w'=w:=by
 obtain ⟨kb,sb,ob,hB⟩:=h.tr_cells ht
 rw [hf] at hB
 have HA:=Hd (ask_full hB)
 have HO:=Hd (h.of_some hid ht)
 clear h hB
 go_enter Tryz.func136,Tryz.ntmps136
 go_wp2_with fail
 refine HO.out.mono ?_
 rintro e w1 ⟨rfl,rfl⟩
 go_wp2_with fail
 refine HA.out.mono ?_
 rintro e w1 ⟨rfl,rfl⟩
 go_wp2
 go_ret2
 exact ⟨rfl,rfl⟩
theorem DeskAt.range_on (h:DeskAt w O d M g) (ok:DkOk g k) (hk:k≤40000) (hid:(Lit.int .i64 id).wf=true) (lo hi:List UInt8) (hlo:lo.length≤maxLen) (hhi:hi.length≤maxLen) {t:Tr} (ht:findT g.op id=some t) (hf:t.asked≠100) :
  Calls Tryz.prog 136 #[ptrV d,intV id,txt lo,txt hi] w fun e w'=>∃ v L,e=.returned (.tuple #[v,.nilIface])∧OwnKV w' w.heap.size v L∧OverIs g.F t.own lo hi t.sees L∧L.length≤1000000 ∧
   DeskIn w O d { g with op:=setT g.op { t with asked:=t.asked+1,spans:=t.spans++[(lo,hi)] } } w':=by
 obtain ⟨kb,sb,ob,hB⟩:=h.tr_cells ht
 obtain ⟨ha1,ha2,hrise,hown⟩:=h.tr_asked ht
 have HO:=Hd (h.of_some hid ht)
 have HA:=Hd (ask_ok (show 0≤t.asked∧t.asked < 100 by omega) hB)
 have HN:=Hd (DeskAt.sees_ok ok (by omega) ht)
 have hl40:g.all.length≤40000:=by have:=ok.hall.1;omega
 have HSP:=Hd (fun w' hB1 hf hs=>span_store h ok ht (show t.asked < 100 by omega) (lo,hi) hlo hhi (kb:=kb) (sb:=sb) (ob:=ob) w' hB hB1 hf hs)
 have hbs:=hB.lt
 clear h hB
 go_enter Tryz.func136,Tryz.ntmps136
 go_wp2_with fail
 refine HO.out.mono ?_
 rintro e w1 ⟨rfl,rfl⟩
 go_wp2_with fail
 refine HA.out.mono ?_
 rintro e w2 ⟨rfl,hB2,hf2,hsz2⟩
 have y3:=hB2.cell 3
 simp at y3
 have z3:w2.drew.cell? ⟨M.bk id,3,none⟩=_:=y3
 obtain ⟨es',clock',eo,co,hst,hB3,hF3,D3,I3⟩:=HSP.out w2 hB2 hf2 hsz2
 go_wp2_with fail
 have HI3:=Hd I3
 have hsz3:(setBlock w2 sb (.map es' clock')).heap.size=w1.heap.size:=by simp [setBlock];exact hsz2
 generalize hW3:setBlock w2 sb (.map es' clock')=w3 at *
 have hbd:Below w3.heap.size w3 w3.drew:=⟨rfl,rfl,rfl,Nat.le_refl _,fun _ _=>rfl⟩
 obtain ⟨n,top,hn,_,hT⟩:=(D3.below hbd).tab
 have HGD:=Hd hT.good
 have hn8:n≤800000:=by have:n≤20 * g.all.length:=hn;omega
 have HR:=Hd (show Calls Tryz.prog 47 #[.pointer (some ⟨M.tb,0,none⟩),txt lo,txt hi,.int .i64 t.sees] w3.drew (fun e w'=>∃ A c L,e=.returned (.tuple #[.slice A L.length c,.nilIface])∧OwnKV w' w3.heap.size (.slice A L.length c) L∧RangeIs g.F lo hi t.sees L∧L.length≤n∧Below w3.heap.size w3 w') from
  (range_ok M.tb g.F top n (by omega) _ lo hi t.sees w3.drew hT HN.out).mono (fun e w' q=>by
   obtain ⟨v,L,q1,q2,q3,q4,q5⟩:=q
   obtain ⟨A,c,hv,_⟩:=q2.rd
   subst hv
   exact ⟨A,c,L,q1,q2,q3,q4,q5.os,q5.tape,q5.output,q5.size,q5.block⟩))
 have hDB:=D3.hB
 have x1:=hDB.cell 1
 have x0:=hB3.cell 0
 simp at x1 x0
 have hkk:∀ W,Blk W d 100 #[ptrV M.lg,ptrV M.tb,.int .i64 g.last,.int .i64 g.ids,.map (some M.ob),M.ev]→Blk W (M.bk id) 106 #[.int .i64 t.sees,.int .i64 (t.asked+1),.map (some kb),.map (some sb),.map (some ob)]→W.cell? ⟨d,1,none⟩=some (ptrV M.tb)∧W.cell? ⟨M.bk id,0,none⟩=some (.int .i64 t.sees):=fun W e1 e2=>⟨e1.cell 1,e2.cell 0⟩
 have HF3:=Hd hF3
 clear hT hbd D3 I3 hF3 hst hW3 z3 y3 hB2 hf2 hsz2
 go_region_held3 (fun W=>W.cell? ⟨d,1,none⟩=some (ptrV M.tb)∧W.cell? ⟨M.bk id,0,none⟩=some (.int .i64 t.sees))
  (first
   | exact hkk _ hDB hB3
   | exact hkk _ (hDB.below hb4 hDB.lt) (hB3.below hb4 hB3.lt))
  ((go_at_call 47;refine HR.out.mono ?_;rintro e w4 ⟨A4,c4,L,rfl,hK4,hR4,hlen4,hb4⟩))
 have hB4:=hB3.below hb4 hB3.lt
 have HF4:=Hd (HF3.out.below hb4 HF3.out.map.lt)
 have x4:=hB4.cell 4
 simp at x4
 have hmk:=run_makeMap (P:=Tryz.prog) 267 w4
 go_wp2_with fail
 obtain ⟨A9,c9,e9,hrd⟩:=hK4.rd
 injection e9 with e91 e92 e93
 subst e91
 subst e93
 have hM0:FMap (w4.alloc (.map #[] 0)) Tryz.prog 9 w4.heap.size #[] 0 txt txt (mapF (L.take 0)):=by
  rw [show mapF (L.take 0)=fun _=>none from rfl]
  exact FMap.new w4
 have hb5:Below w4.heap.size w4 (w4.alloc (.map #[] 0)):=(Below.refl _ _).alloc (Nat.le_refl _) _
 have hshort:∀ j (h:j < L.length),L[j].1.length≤24:=fun j h=>by
  have:=(hR4.mem L[j].1 L[j].2).1 (List.getElem_mem h)
  exact (tell_some HGD.out this.2).1
 have HSH:=Hd hshort
 have HR4:=Hd hR4
 have HK4:=Hd hK4
 have HB4:=Hd hB4
 have HB34:=Hd hb4
 clear hshort hR4 hK4 hmk hB4 x4 hkk hDB x1 x0 hB3
 generalize hW5:w4.alloc (.map #[] 0)=w5 at *
 clear hW5
 have hbk4:=HB4.out.lt
 have hob4:=HF4.out.map.lt
 have hw34:=HB34.out.size
 generalize hH:w4.heap.size=B4 at *
 have HH:=Hd hH
 clear hH
 go_loopw [16,60] (fun _ i wr=>∃ (j:Nat) (esm:Array MapEntry) (cm:Nat),j≤L.length∧i=.int .i64 j∧FMap wr Tryz.prog 9 B4 esm cm txt txt (mapF (L.take j))∧esm.size≤j∧Below B4 w4 wr∧B4+1≤wr.heap.size) (fun _ i _=>L.length - (intOf i).toNat)
 case atStart=>exact ⟨0,#[],0,by omega,by go_num,hM0,by simp,hb5,hM0.map.lt⟩
 case round =>
  obtain ⟨j,esm,cm,hj,rfl,hM,hes,hb,hszr⟩:=hrel
  by_cases hjl:j < L.length
  ·have hjI:(j:Int) < (L.length:Int):=by omega
   obtain ⟨b,off,rfl,hbB,c0,c1⟩:=hrd.kv hjl
   rw [← hb.cell (p:=⟨b,off+j * 2,none⟩) hbB] at c0
   rw [← hb.cell (p:=⟨b,off+j * 2+1,none⟩) hbB] at c1
   have hks:=HSH.out j hjl
   have hstep:=mapF_step L hjl
   obtain ⟨p1,hp1⟩:∃ p1,p1=L[j].1:=⟨_,rfl⟩
   obtain ⟨p2,hp2⟩:∃ p2,p2=L[j].2:=⟨_,rfl⟩
   rw [← hp1,← hp2] at hstep
   rw [← hp1] at c0 hks
   rw [← hp2] at c1
   have HST:=Hd hstep
   clear hp1 hp2 hstep hM0 hb5 hrd
   have hbk0:=Blk.new wr 78 #[txt p1,txt p2]
   have hba:=(Below.refl wr.heap.size wr).alloc (Nat.le_refl _) (.cells #[txt p1,txt p2] 78)
   have HBK0:=Hd hbk0
   have HBA0:=Hd hba
   clear hbk0 hba
   go_upto_region 15 with fail
   generalize hWA:wr.alloc (.cells #[.string ⟨p1.toArray⟩,.string ⟨p2.toArray⟩] 78)=wa
   have hbk:Blk wa wr.heap.size 78 #[txt p1,txt p2]:=by rw [← hWA];exact HBK0.out
   have hba:Below wr.heap.size wr wa:=by rw [← hWA];exact HBA0.out
   clear hWA HBK0 HBA0
   have y0:=hbk.cell 0
   have y1:=hbk.cell 1
   simp at y0 y1
   obtain ⟨kl,hkl⟩:=txt_key p1 (by unfold maxLen;omega)
   have hMa:=hM.below hba hM.map.lt
   obtain ⟨es2,cl2,hst,hM2,hg2,hsz2',hle2⟩:=hMa.store strKey Tryz.underlying267 (by unfold maxLen;omega) txtV_inj p1 p2 hkl
   rw [← HST.out] at hM2
   have HM2:=Hd hM2
   have HB2:=Hd ((hb.trans (hba.mono (by omega))).grown hg2 (by have:=hba.size;omega) (fun q hq=>by injection hq with hq;omega))
   have HSZ2:=Hd (show B4+1≤(setBlock wa B4 (.map es2 cl2)).heap.size by have:=hba.size;omega)
   clear hM2 hg2 hMa hM hb hba hbk c0 c1
   go_wp2
   go_roundw
   case rel=>exact ⟨j+1,es2,cl2,by omega,by go_num,HM2.out,by omega,HB2.out,HSZ2.out⟩
   case measure=>simp [intOf];omega
  ·have hjI:¬ (j:Int) < (L.length:Int):=by omega
   obtain rfl:j=L.length:=by omega
   rw [List.take_length] at hM
   have x4:=(HB4.out.below hb hbk4).cell 4
   simp at x4
   have hm0:=(HF4.out.below hb hob4).map
   clear hM0 hb5 hrd
   go_wp2_with (first | (at_range;refine at_rng _ rfl _ _ rfl 9 112 Tryz.underlying104 rfl hm0 ?_;intro w6 hR6 hM6 hg6 hs6;go_frame))
   have hb6:Below B4 w4 w6:=hb.grown hg6 (by omega) (fun k hk=>by cases hk)
   have hMM:FMap w6 Tryz.prog 9 B4 esm cm txt txt (mapF L):=hM.keep (hg6.block _ hM.map.lt (fun e=>by cases e))
   have hRel0:=Hd (OvRel.start (f0:=mapF L) (lo:=lo) (hi:=hi) HF4.out)
   have hcnt:=Hd (own_count (k:=0) HF4.out hrise)
   clear hM hb hm0 hM6 hg6 x4
   generalize hQ:wr.heap.size=H2 at *
   clear hQ
   go_loopw [17,18] (fun _ _ wq=>∃ (left:List MapEntry) (f:List UInt8→Option (List UInt8)) (esq:Array MapEntry) (cq:Nat),RangeAt wq ob H2 eo co left∧FMap wq Tryz.prog 9 B4 esq cq txt txt f∧esq.size+left.length≤L.length+eo.size∧Below B4 w4 wq∧H2+1≤wq.heap.size∧Hid (OvRel (mapF L) t.own lo hi left f)) (fun _ _ wq=>leftN wq ob H2)
   case atStart=>exact ⟨eo.toList,mapF L,esm,cm,hR6,hMM,by simp;omega,hb6,by omega,hRel0⟩
   case round =>
    obtain ⟨left,f,esq,cq,hR,hMq,hsq,hb,hszq,hrel⟩:=hrel
    clear hMM hR6 hb6 hRel0
    have hMo:=(HF4.out.below hb hob4).map
    have HLN:=Hd (hR.left_eq hMo)
    rcases hR.next hMo (by omega) 0 with ⟨h0,hrun⟩ | ⟨⟨ek1,ev1,eb1⟩,left',w',h1,h2,hrun,h3,h4,h5,h6,h7,h8⟩
    ·subst h0
     have HS:=Hd (sorted_ok B4 esq cq f (by have:=hcnt.out;have:=hown.1;simp at hsq;omega) wr hMq)
     clear hMq hR hMo
     go_wp2_with fail
     refine HS.out.mono ?_
     rintro e w7 ⟨v,L',rfl,hO7,g1,g2,g3,hb7⟩
     have HOV:=Hd (hrel.out.over HR4.out g1 g2)
     have HO7:=Hd (own_of_base hO7 (show w1.heap.size≤wr.heap.size by omega))
     have HI7:=Hd (((HI3.out.below HB34.out).below (by rw [HH.out];exact hb)).below hb7)
     have HL7:=Hd (show L'.length≤1000000 by have:=hcnt.out;have:=hown.1;simp at hsq;omega)
     obtain ⟨A7,c7,hv7,_⟩:=hO7.rd
     subst hv7
     clear hO7 g1 g2 g3 hb7 hrel hb hsq
     go_wp2
     go_ret2
     exact ⟨_,L',rfl,HO7.out,HOV.out,HL7.out,HI7.out⟩
    ·obtain ⟨s,hs⟩:=HF4.out.keys _ (hR.sub _ h1)
     obtain ⟨⟨ck,cv,cg⟩,hc,hv⟩:=HF4.out.val s ev1 ⟨_,hR.sub _ h1,hs,rfl⟩
     have hshort:=key_short HF4.out.map (hR.sub _ h1) hs
     simp only at hs hv h7 h8 hrun
     subst hs
     subst hv
     have hlt:=hMq.map.lt
     have hMw:=hMq.keep (h5.block B4 hlt (fun e=>by injection e with e;omega))
     have hb':Below B4 w4 w':=hb.grown h5 (by omega) (fun k hk=>by injection hk with hk;omega)
     have hsz':H2+1≤w'.heap.size:=by omega
     have HP:=Hd h2.length_eq
     have hle:=h2.length_eq
     simp at hle
     have HLO:=Hd (lessB_eq' s lo)
     have HHI:=Hd (lessB_eq' s hi)
     have HREL:=Hd (hrel.out)
     have HP2:=Hd h2
     have HC:=Hd hc
     have H7:=Hd h7
     clear hrel hR hMo hMq hb h5 h1 h2 h7 h6 hc
     have HX:=Hd (⟨h3,h4,hb'⟩:RangeAt w' ob H2 eo co left'∧MapAt w' Tryz.prog 9 ob eo co∧Below B4 w4 w')
     clear h3 h4 hb'
     rcases hlo':Op.bytesLess s lo with _ | _
     ·rcases hhi':Op.bytesLess s hi with _ | _
      ·have HSK:=Hd (HREL.out.skip (s:=s) HP2.out rfl (by have:=HHI.out;rw [hhi'] at this;simp [inB,← this]))
       have HMA:=Hd (fun o=>hMw.below ((Below.refl w'.heap.size w').alloc (Nat.le_refl _) o) hMw.map.lt)
       clear hMw
       go_wp2
       go_roundw
       case rel=>exact ⟨left',f,esq,cq,HX.out.1.alloc _,HMA.out _,by omega,HX.out.2.2.alloc (by omega) _,by simp;omega,HSK⟩
       case measure=>rw [(HX.out.1.alloc _).left_eq (HX.out.2.1.alloc _),HLN.out,HP.out];simp
      ·have hin:inB lo hi s=true:=by
        have q1:=HLO.out
        have q2:=HHI.out
        rw [hlo'] at q1
        rw [hhi'] at q2
        simp [inB,← q1,← q2]
       have HTN:=Hd (HREL.out.turn (s:=s) HP2.out rfl hin HC.out H7.out)
       obtain ⟨kl,hkl⟩:=txt_key s hshort
       clear hin
       cases cg
       ·have hbx:=(Below.refl w'.heap.size w').alloc (Nat.le_refl _) (.cells #[.string ⟨ck.toArray⟩,.string ⟨cv.toArray⟩,.bool false] 112)
        have hMa:=hMw.below hbx hMw.map.lt
        obtain ⟨es2,hdel,hMd,hgd,hsd,hled⟩:=hMa.drop2 (ty:=0) strKey Tryz.underlying267 txtV_inj s hkl
        have hbk:=(Blk.new w' 112 #[.string ⟨ck.toArray⟩,.string ⟨cv.toArray⟩,.bool false]).grown hgd (fun e=>by injection e with e;omega)
        have y1:=hbk.cell 1
        have y2:=hbk.cell 2
        simp at y1 y2
        clear hbk
        have hRa:=(HX.out.1.alloc (.cells #[.string ⟨ck.toArray⟩,.string ⟨cv.toArray⟩,.bool false] 112)).keep (hgd.block H2 (by simp;omega) (fun e=>by injection e with e;omega))
        have hMoa:=(HX.out.2.1.alloc (.cells #[.string ⟨ck.toArray⟩,.string ⟨cv.toArray⟩,.bool false] 112)).keep (hgd.block ob (Nat.lt_of_lt_of_le HX.out.2.1.lt hbx.size) (fun e=>by injection e with e;omega))
        have hbd:=(HX.out.2.2.alloc (by omega) (.cells #[.string ⟨ck.toArray⟩,.string ⟨cv.toArray⟩,.bool false] 112)).grown hgd (by simp;omega) (fun q hq=>by injection hq with hq;omega)
        obtain ⟨es3,cl3,hst3,hM3,hg3,hs3,hle3⟩:=hMd.store strKey Tryz.underlying267 (by unfold maxLen;have:=hown.1;have:=hcnt.out;omega) txtV_inj s cv hkl
        rw [updO_updO] at hM3
        have HR3:=Hd (hRa.keep (hg3.block H2 hRa.lt (fun e=>by injection e with e;omega)))
        have HM3:=Hd (hMoa.keep (hg3.block ob hMoa.lt (fun e=>by injection e with e;omega)))
        have HB3':=Hd (hbd.grown hg3 (by have:=hbd.size;simp at hsd;omega) (fun q hq=>by injection hq with hq;omega))
        have HF3':=Hd hM3
        have HSZ3:=Hd hs3
        have HSD:=Hd hsd
        clear hRa hMoa hbd hM3 hg3 hs3 hMd hgd hsd hMa hbx hMw
        go_wp2
        go_roundw
        case rel=>exact ⟨left',_,es3,cl3,HR3.out,HF3'.out,by omega,HB3'.out,by rw [HSZ3.out,HSD.out];simp;omega,HTN⟩
        case measure=>rw [HR3.out.left_eq HM3.out,HLN.out,HP.out];simp
       ·have hbx:=(Below.refl w'.heap.size w').alloc (Nat.le_refl _) (.cells #[.string ⟨ck.toArray⟩,.string ⟨cv.toArray⟩,.bool true] 112)
        have hMa:=hMw.below hbx hMw.map.lt
        obtain ⟨es2,hdel,hMd,hgd,hsd,hled⟩:=hMa.drop2 (ty:=0) strKey Tryz.underlying267 txtV_inj s hkl
        have hbk:=(Blk.new w' 112 #[.string ⟨ck.toArray⟩,.string ⟨cv.toArray⟩,.bool true]).grown hgd (fun e=>by injection e with e;omega)
        have y1:=hbk.cell 1
        have y2:=hbk.cell 2
        simp at y1 y2
        clear hbk
        have hRa:=(HX.out.1.alloc (.cells #[.string ⟨ck.toArray⟩,.string ⟨cv.toArray⟩,.bool true] 112)).keep (hgd.block H2 (by simp;omega) (fun e=>by injection e with e;omega))
        have hMoa:=(HX.out.2.1.alloc (.cells #[.string ⟨ck.toArray⟩,.string ⟨cv.toArray⟩,.bool true] 112)).keep (hgd.block ob (Nat.lt_of_lt_of_le HX.out.2.1.lt hbx.size) (fun e=>by injection e with e;omega))
        have hbd:=(HX.out.2.2.alloc (by omega) (.cells #[.string ⟨ck.toArray⟩,.string ⟨cv.toArray⟩,.bool true] 112)).grown hgd (by simp;omega) (fun q hq=>by injection hq with hq;omega)
        have HR3:=Hd hRa
        have HM3:=Hd hMoa
        have HB3':=Hd hbd
        have HF3':=Hd hMd
        have HSD:=Hd hsd
        clear hRa hMoa hbd hMd hgd hsd hMa hbx hMw
        go_wp2
        go_roundw
        case rel=>exact ⟨left',_,es2,cq,HR3.out,HF3'.out,by omega,HB3'.out,by rw [HSD.out];simp;omega,HTN⟩
        case measure=>rw [HR3.out.left_eq HM3.out,HLN.out,HP.out];simp
     ·have HSK:=Hd (HREL.out.skip (s:=s) HP2.out rfl (by have:=HLO.out;rw [hlo'] at this;simp [inB,← this]))
      have HMA:=Hd (fun o=>hMw.below ((Below.refl w'.heap.size w').alloc (Nat.le_refl _) o) hMw.map.lt)
      clear hMw
      go_wp2
      go_roundw
      case rel=>exact ⟨left',f,esq,cq,HX.out.1.alloc _,HMA.out _,by omega,HX.out.2.2.alloc (by omega) _,by simp;omega,HSK⟩
      case measure=>rw [(HX.out.1.alloc _).left_eq (HX.out.2.1.alloc _),HLN.out,HP.out];simp
end
section
variable {w w' : World} {S : Nat → Prop} {d : Nat} {g g' : Dk} {id : Int} {k : Nat}
theorem DeskS.ok (h:DeskS w S d g k):DkOk g k:=h.2
theorem DeskS.tight (h:DeskS w S d g k):DeskS w (fun q=>S q∧q < w.heap.size) d g k:=by
 obtain ⟨⟨O,M,h1,h2⟩,h3⟩:=h
 exact ⟨⟨O,M,fun q e=>⟨h1 q e,h2.bound q e⟩,h2⟩,h3⟩
theorem DeskS.more (h:DeskS w S d g k) {k':Nat} (hk:k≤k'):DeskS w S d g k':=⟨h.1,h.2.more hk⟩
theorem DeskS.good (h:DeskS w S d g k):∃ m,m≤20 * g.all.length∧∃ top,top≤g.last∧Good g.F top m:=by
 obtain ⟨⟨O,M,h1,h2⟩,h3⟩:=h
 obtain ⟨n,top,q1,q2,q3⟩:=h2.tab
 exact ⟨n,q1,top,q2,q3.good⟩
theorem DeskS.trs (h:DeskS w S d g k):∀ t ∈ g.op,RiseC t.own∧t.own.length≤20∧(∀ c ∈ t.own,oneOk c=true)∧0≤t.asked∧t.asked≤100:=by
 obtain ⟨⟨O,M,h1,h2⟩,h3⟩:=h
 intro t ht
 have:=h2.tr t ht
 exact ⟨this.rise,this.own.1,this.own.2,this.asked.1,this.asked.2⟩
theorem plus_up (hS:∀ q,w.heap.size≤q→S q):∀ q,plus S w q→S q:=fun q h=>h.elim id (hS q)
theorem DeskTo.up {O:Nat→Nat} (h:DeskTo w O d g' w') (hO:∀ q,O q≠0→S q) (hS:∀ q,w.heap.size≤q→S q) {k':Nat} (ok:DkOk g' k'):Fr S w w'∧DeskS w' S d g' k':=by
 obtain ⟨h1,h2⟩:=h.s hO ok
 exact ⟨h1,h2.mono (plus_up hS)⟩
theorem DkOk.change (h:DkOk g k) (c:Chg):DkOk (g.change id c).2 k:=by
 unfold Dk.change
 split
 ·exact h
 ·rename_i t ht
  split
  ·exact h
  ·split
   ·exact h
   ·have hid:=(findT_mem ht).2
    exact h.set (t:=t) (t':={ t with own:=insC c t.own }) (by show findT g.op t.id=_;rw [hid];exact ht) rfl
theorem DkOk.get (h:DkOk g k) (s:List UInt8):DkOk (g.get id s).2.2 k:=by
 unfold Dk.get
 split
 ·exact h
 ·rename_i t ht
  split
  ·exact h
  ·split
   ·exact h
   ·have hid:=(findT_mem ht).2
    exact h.set (t:=t) (t':={ t with asked:=t.asked+1,keys:=t.keys++[s] }) (by show findT g.op t.id=_;rw [hid];exact ht) rfl
theorem DkOk.range (h:DkOk g k) (lo hi:List UInt8):DkOk (g.range id lo hi).2 k:=by
 unfold Dk.range
 split
 ·exact h
 ·rename_i t ht
  split
  ·exact h
  ·have hid:=(findT_mem ht).2
   exact h.set (t:=t) (t':={ t with asked:=t.asked+1,spans:=t.spans++[(lo,hi)] }) (by show findT g.op t.id=_;rw [hid];exact ht) rfl
theorem DkOk.begin (h:DkOk g k):DkOk g.begin.2.2 (k+1):=by
 unfold Dk.begin
 split
 ·exact h.more (by omega)
 ·rename_i hn
  split
  ·exact h.more (by omega)
  ·exact h.open hn
theorem DkOk.commit (h:DkOk g k):DkOk (g.commit id).2.2 (k+1):=by
 unfold Dk.commit
 split
 ·exact h.more (by omega)
 ·rename_i t ht
  have hc:=h.close id
  split
  ·exact hc.more (by omega)
  ·split
   ·exact hc.more (by omega)
   ·rename_i hl
    split
    ·rename_i hz
     exact hc.put hl hz
    ·rename_i hz
     exact (hc.refused hz).more (by omega)
theorem DeskS.begin_s (h:DeskS w S d g k) (hS:∀ q,w.heap.size≤q→S q) (hk:k≤40000) :
  Calls Tryz.prog 21 #[ptrV d] w fun e w'=>e=.returned (.tuple #[.int .i64 g.begin.1,faultV g.begin.2.1])∧Fr S w w'∧DeskS w' S d g.begin.2.2 (k+1):=by
 have okn:=h.ok.begin
 obtain ⟨⟨O,M,h1,h2⟩,ok⟩:=h
 unfold Dk.begin at okn ⊢
 by_cases hn:g.op.length=8
 ·simp only [if_pos hn] at okn ⊢
  exact (h2.begin_full ok hn).mono fun e w' q=>⟨by rw [q.1];rfl,by rw [q.2];exact (DeskTo.same h2).up h1 hS okn⟩
 ·simp only [if_neg hn] at okn ⊢
  by_cases hd:g.lg.down=true
  ·simp only [if_pos hd] at okn ⊢
   exact (h2.begin_down ok hn hd).mono fun e w' q=>⟨by rw [q.1];rfl,by rw [q.2];exact (DeskTo.same h2).up h1 hS okn⟩
  ·simp only [if_neg hd] at okn ⊢
   exact (h2.begin_on ok (by omega) hn (by simpa using hd)).mono fun e w' q=>⟨by rw [q.1];rfl,q.2.up h1 hS okn⟩
theorem DeskS.put_s (h:DeskS w S d g k) (hS:∀ q,w.heap.size≤q→S q) (hid:(Lit.int .i64 id).wf=true) (s v:List UInt8) (hs:s.length≤maxLen) (hv:v.length≤maxLen) :
  Calls Tryz.prog 45 #[ptrV d,intV id,txt s,txt v] w fun e w'=>e=.returned (faultV (g.change id ⟨s,v,false⟩).1)∧Fr S w w'∧DeskS w' S d (g.change id ⟨s,v,false⟩).2 k:=by
 have okn:=h.ok.change (id:=id) ⟨s,v,false⟩
 obtain ⟨⟨O,M,h1,h2⟩,ok⟩:=h
 exact (h2.put_to ok hid s v hs hv).mono fun e w' q=>⟨q.1,q.2.up h1 hS okn⟩
theorem DeskS.get_s (h:DeskS w S d g k) (hS:∀ q,w.heap.size≤q→S q) (hk:k≤40000) (hid:(Lit.int .i64 id).wf=true) (s:List UInt8) (hs:s.length≤maxLen) :
  Calls Tryz.prog 66 #[ptrV d,intV id,txt s] w fun e w'=>e=.returned (.tuple #[txt (g.get id s).1,faultV (g.get id s).2.1])∧Fr S w w'∧DeskS w' S d (g.get id s).2.2 k:=by
 have okn:=h.ok.get (id:=id) s
 obtain ⟨⟨O,M,h1,h2⟩,ok⟩:=h
 exact (h2.get_to ok (by omega) hid s hs).mono fun e w' q=>⟨q.1,q.2.up h1 hS okn⟩
theorem DeskS.commit_s (h:DeskS w S d g k) (hS:∀ q,w.heap.size≤q→S q) (hk:k≤40000) (hid:(Lit.int .i64 id).wf=true) :
  Calls Tryz.prog 23 #[ptrV d,intV id] w fun e w'=>e=.returned (.tuple #[.int .i64 (g.commit id).1,faultV (g.commit id).2.1])∧Fr S w w'∧DeskS w' S d (g.commit id).2.2 (k+1):=by
 have okn:=h.ok.commit (id:=id)
 obtain ⟨⟨O,M,h1,h2⟩,ok⟩:=h
 exact (h2.commit_to ok hk hid).mono fun e w' q=>⟨q.1,q.2.up h1 hS okn⟩
theorem DeskS.range_s (h:DeskS w S d g k) (hk:k≤40000) (hid:(Lit.int .i64 id).wf=true) (lo hi:List UInt8) (hlo:lo.length≤maxLen) (hhi:hi.length≤maxLen) :
  Calls Tryz.prog 136 #[ptrV d,intV id,txt lo,txt hi] w fun e w'=>∃ v L,e=.returned (.tuple #[v,faultV (g.range id lo hi).1])∧OwnKV w' w.heap.size v L∧RangeO g id lo hi L∧L.length≤1000000∧Fr S w w'∧DeskS w' (fun q=>S q∧q < w.heap.size) d (g.range id lo hi).2 k:=by
 have okn:=h.ok.range (id:=id) lo hi
 obtain ⟨⟨O,M,h1,h2⟩,ok⟩:=h
 have hup:∀ {w':World},DeskIn w O d (g.range id lo hi).2 w'→Fr S w w'∧DeskS w' (fun q=>S q∧q < w.heap.size) d (g.range id lo hi).2 k:=fun q=>by
  obtain ⟨O2,M2,q1,q2,q3⟩:=q
  exact ⟨q3.mono (fun x _ e=>h1 x e),⟨O2,M2,fun x e=>⟨h1 x (q2 x e),h2.bound x (q2 x e)⟩,q1⟩,okn⟩
 cases ht:findT g.op id with
 | none =>
  have e1:g.range id lo hi=(4,g):=by unfold Dk.range;rw [ht]
  rw [e1] at hup ⊢
  refine (h2.range_bad hid _ _ ht).mono fun e w' q=>⟨_,[],q.1,OwnKV.nil _ _,by unfold RangeO;rw [ht],by simp,?_⟩
  rw [q.2]
  exact hup (DeskIn.same h2)
 | some t =>
  by_cases hf:t.asked=100
  ·have e1:g.range id lo hi=(3,g):=by unfold Dk.range;rw [ht];simp only;rw [if_pos hf]
   rw [e1] at hup ⊢
   refine (h2.range_full hid _ _ ht hf).mono fun e w' q=>⟨_,[],q.1,OwnKV.nil _ _,by simp [RangeO,ht,hf],by simp,?_⟩
   rw [q.2]
   exact hup (DeskIn.same h2)
  ·have e1:g.range id lo hi=(0,{ g with op:=setT g.op { t with asked:=t.asked+1,spans:=t.spans++[(lo,hi)] } }):=by unfold Dk.range;rw [ht];simp only;rw [if_neg hf]
   rw [e1] at hup ⊢
   refine (h2.range_on ok hk hid lo hi hlo hhi ht hf).mono fun e w' q=>?_
   obtain ⟨v,L,q1,q2,q3,q4,q5⟩:=q
   exact ⟨v,L,q1,q2,by unfold RangeO;rw [ht];simp only;rw [if_neg hf];exact q3,q4,hup q5⟩
end
section
variable {w w' : World} {O : Nat → Nat} {d : Nat} {M : Mem} {g : Dk} {id : Int} {k : Nat}
end
section
variable {w w' : World} {O : Nat → Nat} {d : Nat} {M : Mem} {g : Dk} {id : Int} {k : Nat}
end
end Go.Proofs.YtkckcbhnnllkhaaGreatDoor
