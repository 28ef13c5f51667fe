/- Parts of the proof; conditions: as each theorem says. -/
import Derived.Test.YtkckcbhnnllkhaaGreatDoorG38
import Derived.Test.YtkckcbhnnllkhaaGreatDoorG40
set_option linter.unusedVariables false
set_option linter.unusedSimpArgs false
set_option maxRecDepth 100000
set_option maxHeartbeats 40000000
namespace Go.Proofs.YtkckcbhnnllkhaaGreatDoor
open Go.RowKit
open Go.ChangeMaps (setBlock)
section
variable {B : Nat} {w : World} {T : Nat → Prop} {d : Nat} {g : Dk} {id : Int} {k : Nat}
theorem DeskS.abort_s {S:Nat→Prop} (h:DeskS w S d g k) (hS:∀ q,w.heap.size≤q→S q) (hid:(Lit.int .i64 id).wf=true) :
  Calls Tryz.prog 22 #[ptrV d,intV id] w fun e w'=>e=.returned (faultV (g.abort id).1)∧Fr S w w'∧DeskS w' S d (g.abort id).2 k:=by
 have okn:DkOk (g.abort id).2 k:=by
  unfold Dk.abort
  cases findT g.op id with
  | none=>exact h.ok
  | some t=>exact h.ok.close id
 obtain ⟨⟨O,M,h1,h2⟩,ok⟩:=h
 exact (h2.abort_to hid).mono fun e w' q=>⟨q.1,q.2.up h1 hS okn⟩
theorem DK.abort (h:DK B w T d g k) (hid:(Lit.int .i64 id).wf=true) :
  Calls Tryz.prog 22 #[ptrV d,intV id] w fun e w'=>e=.returned (faultV (g.abort id).1)∧∃ T',DKto B w T d w' T' (g.abort id).2 k :=
 (h.plus.abort_s (fun q e=>.inr e) hid).mono fun e w' q=>⟨q.1,h.to q.2.1 q.2.2⟩
end
theorem mapStr:Tryz.prog.underlying 67=some (.map 9 3):=Tryz.underlying67
def Hl.new (room:Int):Hl:=⟨Dk.new room,[]⟩
theorem hallNew_ok (room:Int) (hr:0≤room∧room≤100000) {B:Nat} (w:World) (hB:B≤w.heap.size) (hV:GV B w) :
  Calls Tryz.prog 6 #[.int .i64 room] w fun e w'=>∃ a T,e=.returned (.tuple #[ptrV a,.nilIface])∧HK B w' T a (Hl.new room) 0∧(∀ q,T q→w.heap.size≤q)∧Below w.heap.size w w':=by
 have HD:=Hd (deskNew_ok room hr w)
 have HGV:=Hd hV
 clear hV
 go_enter Tryz.func6,Tryz.ntmps6
 go_wp2_with fail
 refine HD.out.mono ?_
 rintro e w1 ⟨d,rfl,hd,hS,hb1⟩
 have HS:=Hd hS.tight
 have HB1:=Hd hb1
 clear hS hb1
 have hmk:=run_makeMap (P:=Tryz.prog) 67 w1
 go_wp2
 go_ret2
 have hs1:=HB1.out.size
 have h1:∀ (W:World) (o:Obj),(W.alloc o).heap.size=W.heap.size+1:=fun W o=>by simp
 have hb2:Below w1.heap.size w1 (w1.alloc (.map #[] 0)):=(Below.refl _ _).alloc (Nat.le_refl _) _
 have hb3:Below w1.heap.size w1 ((w1.alloc (.map #[] 0)).alloc (.cells #[ptrV d,.map (some w1.heap.size)] 69)):=hb2.alloc (by simp only [h1];omega) _
 have hBk:=Blk.new (w1.alloc (.map #[] 0)) 69 #[ptrV d,.map (some w1.heap.size)]
 have hF:=(FMap.new (P:=Tryz.prog) (k:=9) (kv:=txt) (ev:=intV) w1).below (w':=(w1.alloc (.map #[] 0)).alloc (.cells #[ptrV d,.map (some w1.heap.size)] 69)) (B:=w1.heap.size+1) (by have:=(Below.refl (w1.heap.size+1) (w1.alloc (.map #[] 0))).alloc (by simp) (.cells #[ptrV d,.map (some w1.heap.size)] 69);exact this) (by omega)
 rw [h1] at hBk
 have hsz:((w1.alloc (.map #[] 0)).alloc (.cells #[ptrV d,.map (some w1.heap.size)] 69)).heap.size=w1.heap.size+2:=by simp only [h1]
 generalize hW:(w1.alloc (.map #[] 0)).alloc (.cells #[ptrV d,.map (some w1.heap.size)] 69)=w3 at *
 have hbA:Below w.heap.size w w3:=HB1.out.trans (hb3.mono hs1)
 have D:DK B w3 (fun q=>w.heap.size≤q∧q < w1.heap.size) d (Dk.new room) 0 :=
  ⟨HS.out.below hb3,fun q e=>by have:=e.2;omega,fun q e=>by have:=e.1;omega,by omega,HGV.out.on (hbA.mono hB)⟩
 refine ⟨w1.heap.size+1,fun q=>w.heap.size≤q∧q < w3.heap.size,by simp [hW],⟨⟨d,w1.heap.size,_,#[],0,D,hBk,hF,by omega,by omega,by omega,by omega,fun q e=>⟨e.1,by have:=e.2;omega⟩,by omega⟩,⟨by simp [Hl.new],by simp [Hl.new],by simp [Hl.new]⟩,fun q e=>e.2,fun q e=>by have:=e.1;omega⟩,fun q e=>e.1,hbA⟩
section
variable {B : Nat} {w : World} {T : Nat → Prop} {a : Nat} {h : Hl} {k : Nat}
theorem begin_zero {g:Dk} (h:g.begin.2.1=0):g.begin.1=g.ids+1:=by
 unfold Dk.begin at h ⊢
 split
 ·rename_i q;rw [if_pos q] at h;exact absurd h (by simp)
 ·rename_i q
  rw [if_neg q] at h
  split
  ·rename_i q2;rw [if_pos q2] at h;exact absurd h (by simp)
  ·rfl
theorem HlOk.add {d:Dk} (o:HlOk h k) {who:List UInt8} {id:Int} (hn:findH h.op who=none) (hid:(Lit.int .i64 id).wf=true):HlOk ⟨d,h.op++[(who,id)]⟩ (k+1):=by
 refine ⟨?_,fun p hp=>?_,by have:=o.len;simp;omega⟩
 ·show ((h.op++[(who,id)]).map Prod.fst).Nodup
  rw [List.map_append,List.nodup_append]
  refine ⟨o.nod,by simp,?_⟩
  intro x hx y hy e
  simp at hy
  subst hy
  subst e
  exact findH_none.1 hn hx
 ·rcases List.mem_append.1 hp with hp | hp
  ·exact o.ids p hp
  ·simp at hp
   subst hp
   exact hid
theorem HlOk.del {d:Dk} (o:HlOk h k) (who:List UInt8):HlOk ⟨d,eraseH h.op who⟩ k :=
 ⟨o.nod.sublist (List.filter_sublist.map _),fun p hp=>o.ids p (List.mem_filter.1 hp).1,Nat.le_trans (List.length_filter_le _ _) o.len⟩
theorem hall_count {d m:Nat} {es:Array MapEntry} {clock:Nat} (o:HlOk h k) (hF:FMap w Tryz.prog 9 m es clock txt intV (findH h.op)):es.size=h.op.length:=by
 have:=hF.count txtV_inj o.nod (fun s=>by
  constructor
  ·intro hs e
   exact findH_none.1 e hs
  ·intro hs
   cases e:findH h.op s with
   | none=>exact absurd e hs
   | some id=>exact List.mem_map.2 ⟨(s,id),findH_mem e,rfl⟩)
 simpa using this
theorem len_max {s:List UInt8} (h:s.length≤9223372036854775807):s.length≤maxLen:=by unfold maxLen;omega
theorem HK.open_h (o:HK B w T a h k) (hk:k≤30000) (who:List UInt8) (hw:who.length≤9223372036854775807) :
  Calls Tryz.prog 7 #[ptrV a,txt who] w fun e w'=>e=.returned (faultV (h.open who).1)∧∃ T',HKto B w T a w' T' (h.open who).2 (k+1):=by
 have HNM:=Hd (name_txt who hw w)
 have HO:=Hd o
 clear o
 go_enter Tryz.func7,Tryz.ntmps7
 go_wp2_with fail
 refine HNM.out.mono ?_
 rintro e w1 ⟨rfl,hb1⟩
 have hR1:=(HO.out.refl.bel hb1).more (show k≤k+1 by omega)
 have HR1:=Hd hR1
 have HT0:=Hd (HO.out.refl.bel hb1)
 clear hR1 hb1 HO HNM
 cases hn:nameB who with
 | false =>
  have HR:=Hd (show h.open who=(5,h) by unfold Hl.open;rw [if_pos hn])
  rw [show NameV false=.iface 71 (.int .i64 5) from rfl]
  clear hn
  go_wp2
  go_ret
  exact ⟨by rw [HR.out];rfl,T,by rw [HR.out];exact HR1.out⟩
 | true =>
  rw [show NameV true=.nilIface from rfl]
  have ho1:=HT0.out.hk
  have HOK:=Hd ho1.ok
  obtain ⟨d,m,To,es,clock,q1,q2,q3,q4,q5,q6,q7,q8,q9⟩:=ho1.ex
  have e0:=q2.cell 0
  have e1:=q2.cell 1
  simp at e0 e1
  obtain ⟨kl,hkl⟩:=txt_key who (len_max hw)
  rcases q3.look strKey mapStr (zeroInt w1) who hkl true with ⟨hf,hrun⟩ | ⟨id,hf,hrun⟩
  ·simp only [if_true] at hrun
   have HF:=Hd hf
   have hV:h.open who=if h.d.begin.2.1≠0 then (h.d.begin.2.1,{ h with d:=h.d.begin.2.2 }) else (0,⟨h.d.begin.2.2,h.op++[(who,h.d.begin.1)]⟩):=by
    unfold Hl.open;rw [if_neg (by rw [hn];simp),if_neg (by rw [hf];simp)]
   have HV:=Hd hV
   have HBG:=Hd (q1.begin (by omega))
   have HBZ:=Hd (begin_zero (g:=h.d))
   have HIDS:=Hd (show 0≤h.d.ids∧h.d.ids≤(k:Int) from q1.s.ok.hids)
   have HQ2:=Hd q2
   have HQ3:=Hd q3
   have HQ:=Hd (show ¬ To a∧¬ To m∧T a∧T m∧(∀ q,To q→T q)∧a≠m from ⟨q4,q5,q6,q7,q8,q9⟩)
   clear hn hf q1 q2 q3 q4 q5 q6 q7 q8 q9 ho1 hV
   generalize h.d.begin=r at *
   go_wp2_with fail
   refine HBG.out.mono ?_
   rintro e w2 ⟨rfl,To2,hD2⟩
   obtain ⟨q4,q5,q6,q7,q8,q9⟩:=HQ.out
   obtain ⟨T2,hH2,t1,t2,t3⟩:=HT0.out.hk.desk HQ2.out HQ3.out q4 q5 q6 q7 q8 q9 hD2 (by omega)
   have HH2:=Hd hH2
   have HD2:=Hd hD2
   have HB2:=Hd (HQ2.out.fr hD2.fr q4)
   have HM2:=Hd (HQ3.out.far hD2.fr q5)
   have HQ2':=Hd (show ¬ To2 a∧¬ To2 m∧T2 a∧T2 m∧(∀ q,To2 q→T2 q)∧a≠m from ⟨hD2.outs HQ2.out.lt q4,hD2.outs HQ3.out.map.lt q5,t1,t2,t3,q9⟩)
   clear hrun e0 e1 hD2 hH2 q4 q5 q6 q7 q8 q9 t1 t2 t3 HBG
   obtain ⟨id,f,g2⟩:=r
   dsimp only at HV HBZ
   by_cases hz:f≠0
   ·have HR:=Hd (show h.open who=(f,⟨g2,h.op⟩) by rw [HV.out,if_pos hz])
    have HFN:=Hd (show faultV f=.iface 71 (.int .i64 f) by unfold faultV;rw [if_neg hz])
    rw [HFN.out]
    clear hz
    go_wp2
    go_ret
    exact ⟨by rw [HR.out,HFN.out];rfl,T2,by rw [HR.out];exact HT0.out.step HH2.out⟩
   ·obtain rfl:f=0:=Decidable.not_not.1 hz
    have HR:=Hd (show h.open who=(0,⟨g2,h.op++[(who,id)]⟩) by rw [HV.out,if_neg (by simp)])
    rw [show faultV 0=.nilIface from rfl]
    have hid:(Lit.int .i64 id).wf=true:=wf_i64 (by rw [HBZ.out rfl];have:=HIDS.out;omega)
    have e0:=HB2.out.cell 0
    have e1:=HB2.out.cell 1
    simp at e0 e1
    obtain ⟨es',clock',hrun,s1,s2,s3,s4⟩:=HM2.out.store strKey mapStr (by have:=hall_count (d:=d) HOK.out HM2.out;have:=HOK.out.len;unfold maxLen;omega) txtV_inj who id hkl
    have HOK2:=Hd (HOK.out.add (d:=g2) HF.out hid)
    rw [← findH_add HF.out] at s1
    have HS1:=Hd s1
    have HS2:=Hd s2
    have HS3:=Hd s3
    clear hz hid s1 s2 s3 s4
    go_wp2
    go_ret
    obtain ⟨q4,q5,q6,q7,q8,q9⟩:=HQ2'.out
    have hX:=HH2.out.hk.turn (k:=k+1) HD2.out.dk HB2.out HM2.out q4 q5 q6 q7 q8 q9 HS2.out HS3.out HS1.out HOK2.out
    exact ⟨by rw [HR.out];rfl,T2,by rw [HR.out];exact HT0.out.step (HH2.out.step hX.1)⟩
  ·simp only [if_true] at hrun
   have HR:=Hd (show h.open who=(6,h) by unfold Hl.open;rw [if_neg (by rw [hn];simp),if_pos (by rw [hf];rfl)])
   clear hn hf q1 q2 q3 ho1
   go_wp2
   go_ret
   exact ⟨by rw [HR.out];rfl,T,by rw [HR.out];exact HR1.out⟩
theorem HK.close_h (o:HK B w T a h k) (hk:k≤30000) (who:List UInt8) (hw:who.length≤9223372036854775807) :
  Calls Tryz.prog 9 #[ptrV a,txt who] w fun e w'=>e=.returned (.tuple #[.int .i64 (h.close who).1,faultV (h.close who).2.1])∧∃ T',HKto B w T a w' T' (h.close who).2.2 (k+1):=by
 have HO:=Hd o
 have HOK:=Hd o.ok
 obtain ⟨d,m,To,es,clock,q1,q2,q3,q4,q5,q6,q7,q8,q9⟩:=o.ex
 have e0:=q2.cell 0
 have e1:=q2.cell 1
 simp at e0 e1
 obtain ⟨kl,hkl⟩:=txt_key who (len_max hw)
 rcases q3.look strKey mapStr (zeroInt w) who hkl true with ⟨hf,hrun⟩ | ⟨id,hf,hrun⟩
 ·simp only [if_true] at hrun
  have HR:=Hd (show h.close who=(0,4,h) by unfold Hl.close;rw [hf])
  clear o hf q1 q2 q3
  go_enter Tryz.func9,Tryz.ntmps9
  go_wp2
  go_ret2
  exact ⟨by rw [HR.out];rfl,T,by rw [HR.out];exact HO.out.refl.more (by omega)⟩
 ·simp only [if_true] at hrun
  have HR:=Hd (show h.close who=((h.d.commit id).1,(h.d.commit id).2.1,⟨(h.d.commit id).2.2,eraseH h.op who⟩) by unfold Hl.close;rw [hf])
  obtain ⟨es',hdel,s1,s2,s3⟩:=q3.drop (ty:=0) strKey mapStr txtV_inj who hkl
  rw [← findH_erase] at s1
  obtain ⟨hX,hD,hBk⟩:=HO.out.turn q1 q2 q3 q4 q5 q6 q7 q8 q9 s2 s3 s1 (HOK.out.del who)
  have hid:=HOK.out.ids _ (findH_mem hf)
  have HC:=Hd (hD.commit (id:=id) (by omega) hid)
  have HX:=Hd hX
  have HBK:=Hd hBk
  have HM:=Hd s1
  have HQ:=Hd (show ¬ To a∧¬ To m∧T a∧T m∧(∀ q,To q→T q)∧a≠m from ⟨q4,q5,q6,q7,q8,q9⟩)
  have f0:=hBk.cell 0
  have f1:=hBk.cell 1
  simp at f0 f1
  clear o hf q1 q2 q3 q4 q5 q6 q7 q8 q9 hX hD hBk s1 s2 s3
  go_enter Tryz.func9,Tryz.ntmps9
  go_wp2_with fail
  refine HC.out.mono ?_
  rintro e w2 ⟨rfl,To2,hD2⟩
  obtain ⟨q4,q5,q6,q7,q8,q9⟩:=HQ.out
  obtain ⟨T2,hH2,t1,t2,t3⟩:=HX.out.hk.desk HBK.out HM.out q4 q5 q6 q7 q8 q9 hD2 (by omega)
  have HH2:=Hd (HX.out.step hH2)
  clear hD2 hH2 q4 q5 q6 q7 q8 q9 t1 t2 t3 HC f0 f1 e0 e1 hrun hdel
  go_wp2
  go_ret2
  exact ⟨by rw [HR.out];rfl,T2,by rw [HR.out];exact HH2.out⟩
theorem HK.all_h (o:HK B w T a h k) (hk:k≤30000) :
  Calls Tryz.prog 14 #[ptrV a] w fun e w'=>∃ v L,e=.returned v∧OwnKV w' w.heap.size v L∧RangeIs h.d.F [] topKey h.d.last L∧L.length≤800000∧Below w.heap.size w w':=by
 obtain ⟨d,m,To,es,clock,q1,q2,_⟩:=o.ex
 have e0:=q2.cell 0
 simp at e0
 have HC:=Hd (q1.s.all_s (by omega))
 clear q1 q2 o
 go_enter Tryz.func14,Tryz.ntmps14
 go_wp2_with fail
 refine HC.out.mono ?_
 rintro e w2 ⟨v,L,rfl,h1,h2,h3,h4⟩
 have HR:=Hd (show OwnKV w2 w.heap.size v L∧RangeIs h.d.F [] topKey h.d.last L∧L.length≤800000∧Below w.heap.size w w2 from ⟨h1,h2,h3,h4⟩)
 clear h1 h2 h3 h4 HC
 go_wp2
 go_ret
 exact ⟨v,L,rfl,HR.out⟩
end
def zz:List UInt8:=[122]
def netC (nm ow:List UInt8):PCall:=⟨1,nm,0,0,0,0,ow⟩
theorem netC_fault {nm ow:List UInt8} (hn:nameB nm=true) (ho:nameB ow=true):callFault (netC nm ow)=0:=by
 unfold callFault netC
 rw [if_neg (by simp),if_neg (by simp [hn]),if_neg (by simp [ho]),if_neg (by simp [callPf]),if_neg (by simp [callAd])]
theorem nKey_ok {nm:List UInt8} (hn:nameB nm=true):keyB (nKey nm)=true:=by
 have:=(nameB_iff.1 hn).2
 unfold keyB nKey
 simp
 omega
theorem net_run {nm ow:List UInt8} (hn:nameB nm=true) (ho:nameB ow=true) {β:Base} {t:St} (ht:t.asked≠100) (hown:t.own.length < 20) (hβ:seeB β t.own (nKey nm)=none) (hf:findO t.own (nKey nm)=none) :
  (doP (netC nm ow)).runS β t=((noAns,0),⟨t.asked+1,t.keys++[nKey nm],t.spans,insC ⟨nKey nm,ow,false⟩ t.own⟩):=by
 have hk:=nKey_ok hn
 have hol:=(nameB_iff.1 ho).2.2
 have hg:t.get β (nKey nm)=(([],4),{ t with asked:=t.asked+1,keys:=t.keys++[nKey nm] }):=by
  unfold St.get
  rw [if_neg (by rw [hk];simp),if_neg ht]
  unfold getB
  rw [hβ]
 unfold doP
 rw [if_neg (by rw [netC_fault hn ho];simp),DP.runS_bind]
 have h1:(hasP (netC nm ow).nk).runS β t=((false,0),{ t with asked:=t.asked+1,keys:=t.keys++[nKey nm] }):=by
  have e:(hasP (netC nm ow).nk).runS β t=(DP.ret (decide ((t.get β (nKey nm)).1.2=0),if (t.get β (nKey nm)).1.2=4 then 0 else (t.get β (nKey nm)).1.2):DP (Bool × Int)).runS β (t.get β (nKey nm)).2:=rfl
  rw [e,hg]
  rfl
 rw [h1]
 simp only
 rw [if_neg (by simp),if_pos (show (netC nm ow).what=1 from rfl),if_neg (by simp)]
 have hc:St.change { t with asked:=t.asked+1,keys:=t.keys++[nKey nm] } ⟨nKey nm,ow,false⟩=(0,⟨t.asked+1,t.keys++[nKey nm],t.spans,insC ⟨nKey nm,ow,false⟩ t.own⟩):=by
  unfold St.change
  rw [if_neg (by simp [hk];omega),if_neg (by simp;intro _;omega)]
 have e2:(chgP ⟨(netC nm ow).nk,(netC nm ow).owner,false⟩ noAns).runS β { t with asked:=t.asked+1,keys:=t.keys++[nKey nm] }=(DP.ret (if (St.change { t with asked:=t.asked+1,keys:=t.keys++[nKey nm] } ⟨nKey nm,ow,false⟩).1=0 then noAns else noAns,(St.change { t with asked:=t.asked+1,keys:=t.keys++[nKey nm] } ⟨nKey nm,ow,false⟩).1):DP (PAns × Int)).runS β (St.change { t with asked:=t.asked+1,keys:=t.keys++[nKey nm] } ⟨nKey nm,ow,false⟩).2:=rfl
 rw [e2,hc]
 rfl
def gNext (g:Dk) (x:Chg):Dk:=Dk.put { g with ids:=g.ids+1,op:=[],lg:={ g.lg with B:=g.lg.B++frame [x] } } [x] ((g.lg.B++frame [x]).length:Int)
def st0:St:=⟨0,[],[],[]⟩
noncomputable def aloneRun (g:Dk) (c:PCall):(PAns × Int) × St:=(doP c).runS (fun s=>tell g.F s g.last) st0
end Go.Proofs.YtkckcbhnnllkhaaGreatDoor
