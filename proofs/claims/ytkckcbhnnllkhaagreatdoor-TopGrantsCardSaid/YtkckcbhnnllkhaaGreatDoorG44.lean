/- Parts of the proof; conditions: as each theorem says. -/
import Derived.Test.YtkckcbhnnllkhaaGreatDoorG40
import Derived.Test.YtkckcbhnnllkhaaGreatDoorG10
import Derived.StillTailTactics
import Derived.RegionTactic
import Derived.ChangeAlike
import Derived.BigRegion
set_option linter.unusedVariables false
set_option linter.unusedSimpArgs false
set_option maxRecDepth 100000
set_option maxHeartbeats 40000000
namespace Go.Proofs.YtkckcbhnnllkhaaGreatDoor
open Go.RowKit
def ReadPV (k:KeyI):Value:=if k.kind=2 then .tuple #[txt k.net,.agg #[.int .i64 (k.pa:Int),.int .i64 (k.pn:Int)],.nilIface] else .tuple #[txt [],.agg #[.int .i64 0,.int .i64 0],.iface 71 (.int .i64 5)]
def NoPV:Value:=.tuple #[txt [],.agg #[.int .i64 0,.int .i64 0],.iface 71 (.int .i64 5)]
theorem keyW_kind2 {ps:List (List UInt8)} (h:(keyW ps).kind=2):∃ net x a n,ps=[[112],net,x]∧nameB net=true∧pfxV x=some (a,n)∧keyW ps=⟨2,net,a,n,0⟩:=by
 match ps,h with
 | [],h=>simp [keyW,keyNo] at h
 | [_],h=>simp [keyW,keyNo] at h
 | [k,net],h =>
  exfalso
  have e:keyW [k,net]=if nameB net=true∧k=[110] then ⟨1,net,0,0,0⟩ else keyNo:=rfl
  rw [e] at h
  split at h
  ·simp at h
  ·simp [keyNo] at h
 | [k,net,x],h =>
  rw [keyW3] at h
  split at h
  ·rename_i hn
   split at h
   ·split at h
    ·simp at h
    ·simp [keyNo] at h
   ·rename_i hk
    split at h
    ·rename_i hk2
     split at h
     ·rename_i a n ha
      refine ⟨net,x,a,n,by rw [hk2],hn,ha,?_⟩
      rw [keyW3,if_pos hn,if_neg hk,if_pos hk2,ha]
     ·simp [keyNo] at h
    ·simp [keyNo] at h
  ·simp [keyNo] at h
 | _::_::_::_::_,h=>simp [keyW,keyNo] at h
theorem readPV_no {ps:List (List UInt8)} (h:¬ ∃ net x a n,ps=[[112],net,x]∧nameB net=true∧pfxV x=some (a,n)):ReadPV (keyW ps)=NoPV:=by
 unfold ReadPV NoPV
 rw [if_neg]
 intro q
 obtain ⟨net,x,a,n,h1,h2,h3,_⟩:=keyW_kind2 q
 exact h ⟨net,x,a,n,h1,h2,h3⟩
theorem pfxV_ten {x:List UInt8} (h:x.length≠10):pfxV x=none:=by
 unfold pfxV
 split
 ·rename_i y z hd
  have:=congrArg List.length hd
  simp at this
  omega
 ·rfl
theorem pfxV_parts {x:List UInt8} {y z:UInt8} (hd:x.drop 8=[y,z]):pfxV x=match hexV 0 (x.take 8),dec2 y z with
  | some a,some n=>if chk (a:Int) (n:Int)=0 then some (a,n) else none
  | _,_=>none:=by
 unfold pfxV
 rw [hd]
 cases hexV 0 (x.take 8) with
 | none=>rfl
 | some a =>
  cases h2:dec2 y z with
  | none=>simp only [h2]
  | some b=>simp only [h2]
theorem ext_take (x:List UInt8):((⟨x.toArray⟩:ByteArray).extract 0 8).data.toList=x.take 8:=by
 simp [ByteArray.data_extract,List.extract_eq_take_drop]
theorem drop_two {x:List UInt8} (h:x.length=10):∃ y z,x.drop 8=[y,z]:=by
 have hl:(x.drop 8).length=2:=by rw [List.length_drop];omega
 match x.drop 8,hl with
 | [y,z],_=>exact ⟨y,z,rfl⟩
theorem ext_drop2 {x:List UInt8} {y z:UInt8} (hd:x.drop 8=[y,z]):((⟨x.toArray⟩:ByteArray).extract 8 10).data.toList=[y,z]:=by
 simp [ByteArray.data_extract,List.extract_eq_take_drop,hd]
theorem dec2_of (s:ByteArray) {y z:UInt8} (h:s.data.toList=[y,z]) (h2:s.size=2):dec2 (s[0]'(by omega)) (s[1]'(by omega))=dec2 y z:=by
 have e2:=(list2 s h2).symm.trans h
 have e3:=(List.cons.inj e2).1
 have e4:=(List.cons.inj (List.cons.inj e2).2).1
 exact congr (congrArg dec2 e3) e4
theorem number10L (s:ByteArray) (y z:UInt8) (h:s.data.toList=[y,z]) (w:World) :
  Calls Tryz.prog 126 #[.string s,.int .i64 10] w fun e w'=>e=.returned (NumV (dec2 y z))∧Below w.heap.size w w':=by
 have h2:s.size=2:=by rw [← size_list,h];rfl
 have:=number10 s h2 w
 rw [dec2_of s h h2] at this
 exact this
structure Part4 (w:World) (k net x:List UInt8) (g:Nat) (a n:Int) (w1:World):Prop where
 c0:w1.cell? ⟨w.heap.size+1,0,none⟩=some (.string ⟨k.toArray⟩)
 c1:w1.cell? ⟨w.heap.size+1,1,none⟩=some (.string ⟨net.toArray⟩)
 c2:w1.cell? ⟨w.heap.size+1,2,none⟩=some (.string ⟨x.toArray⟩)
 bp:Blk w1 w.heap.size 31 #[.int .i64 a,.int .i64 n]
 be:Below w.heap.size w w1
 sz:w.heap.size+1 < w1.heap.size
 eg:g=w.heap.size
theorem Part4.new (w:World) (k net x:List UInt8):Part4 w k net x w.heap.size 0 0 ((w.alloc (.cells #[.int .i64 0,.int .i64 0] 31)).alloc (.cells ([k,net,x].map txt).toArray 9)):=by
 have hb:=Blk.new (w.alloc (.cells #[.int .i64 0,.int .i64 0] 31)) 9 ([k,net,x].map txt).toArray
 rw [World.size_alloc] at hb
 exact ⟨hb.cell 0,hb.cell 1,hb.cell 2,(Blk.new _ _ _).alloc _,((Below.refl _ _).alloc (Nat.le_refl _) _).alloc (by simp) _,by simp,rfl⟩
theorem Part4.step {w w1 w2:World} {k net x:List UInt8} {g:Nat} {a n:Int} (h:Part4 w k net x g a n w1) (hb:Below w1.heap.size w1 w2):Part4 w k net x g a n w2 :=
 ⟨(hb.cell (p:=⟨_,0,none⟩) h.sz).trans h.c0,(hb.cell (p:=⟨_,1,none⟩) h.sz).trans h.c1,(hb.cell (p:=⟨_,2,none⟩) h.sz).trans h.c2,h.bp.below hb h.bp.lt,h.be.trans (hb.mono h.be.size),Nat.lt_of_lt_of_le h.sz hb.size,h.eg⟩
theorem Part4.set {w w1:World} {k net x:List UInt8} {g:Nat} {a n:Int} (h:Part4 w k net x g a n w1) (a' n':Int):Part4 w k net x g a' n' ((w1.setCell ⟨w.heap.size,0,none⟩ (.int .i64 a')).setCell ⟨w.heap.size,1,none⟩ (.int .i64 n')):=by
 have far:∀ (i:Nat) (W:World) (j:Nat) (u:Value),(W.setCell ⟨w.heap.size,i,none⟩ u).cell? ⟨w.heap.size+1,j,none⟩=W.cell? ⟨w.heap.size+1,j,none⟩:=fun i W j u=>by
  apply World.cell?_setCell_other
  simp
 refine ⟨by rw [far,far];exact h.c0,by rw [far,far];exact h.c1,by rw [far,far];exact h.c2,?_,(h.be.setCell (Nat.le_refl _) _).setCell (Nat.le_refl _) _,by simpa using h.sz,h.eg⟩
 exact (h.bp.setCell 0 _).setCell 1 _
-- WAYS (printed by genreadp.py)
theorem readP_1 (key k net x:List UInt8) (hsp:splitL 47 key=[k,net,x]) (hlen:key.length < 4294967281) (hk:k≠[112]) {B:Nat} (w:World) (hB:B≤w.heap.size) (hV:TxtV B w) :
  Calls Tryz.prog 89 #[txt key] w fun e w'=>e=.returned (ReadPV (keyI key))∧Below w.heap.size w w':=by
 have hc:=split_any key 47 hlen (w.alloc (.cells #[.int .i64 0,.int .i64 0] 31)) (hV.on ((Below.refl _ _).alloc hB _))
 rw [hsp] at hc
 simp only [List.length_cons,List.length_nil,Nat.zero_add,Nat.reduceAdd] at hc
 have HC:=Hd hc
 have hnl:net.length≤100000000000:=by have:=split_len (c:=47) (s:=key) (p:=net) (by rw [hsp];simp);omega
 have hxl:x.length≤100000000000:=by have:=split_len (c:=47) (s:=key) (p:=x) (by rw [hsp];simp);omega
 have hk:keyI key=keyW [k,net,x]:=by unfold keyI;rw [hsp]
 rw [hk]
 clear hk hsp hc
 have HR:=Hd (readPV_no (ps:=[k,net,x]) (by
  rintro ⟨net',x',a,n,h1,h2,h3⟩
  injection h1 with h0 h1;injection h1 with h1 h4;injection h4 with h4 _
  subst h0;subst h1;subst h4
  exact hk rfl))
 have b1:=bs_ne hk
 clear hk
 go_enter Tryz.func89,Tryz.ntmps89
 go_wp2_with fail
 refine HC.out.mono ?_
 rintro e w1 ⟨rfl,hw1⟩
 have hP:=Part4.new w k net x
 rw [← hw1] at hP
 clear hw1
 have c0:=hP.c0
 have c1:=hP.c1
 have c2:=hP.c2
 have hz:w.heap.size < w1.heap.size:=Nat.lt_of_succ_lt hP.sz
 simp only [World.size_alloc]
 obtain ⟨e0,e1,f0,f1⟩:=hP.bp.two
 go_upto_region 3 with fail
 go_region
 go_wp2
 refine bodyPost_ret (v:=NoPV) (by simp [NoPV,results,Tryz.results89,go_sem,e0,e1]) rfl ⟨by rw [HR.out],?_⟩
 (repeat' (first | exact hP.be | refine Below.setCell ?_ ?_ _ | refine Below.drew ?_)) <;> simp
theorem readP_2 (key k net x:List UInt8) (hsp:splitL 47 key=[k,net,x]) (hlen:key.length < 4294967281) (hk:k=[112]) (hn:¬ nameB net=true) {B:Nat} (w:World) (hB:B≤w.heap.size) (hV:TxtV B w) :
  Calls Tryz.prog 89 #[txt key] w fun e w'=>e=.returned (ReadPV (keyI key))∧Below w.heap.size w w':=by
 have hc:=split_any key 47 hlen (w.alloc (.cells #[.int .i64 0,.int .i64 0] 31)) (hV.on ((Below.refl _ _).alloc hB _))
 rw [hsp] at hc
 simp only [List.length_cons,List.length_nil,Nat.zero_add,Nat.reduceAdd] at hc
 have HC:=Hd hc
 have hnl:net.length≤100000000000:=by have:=split_len (c:=47) (s:=key) (p:=net) (by rw [hsp];simp);omega
 have hxl:x.length≤100000000000:=by have:=split_len (c:=47) (s:=key) (p:=x) (by rw [hsp];simp);omega
 have hk:keyI key=keyW [k,net,x]:=by unfold keyI;rw [hsp]
 rw [hk]
 clear hk hsp hc
 have HR:=Hd (readPV_no (ps:=[k,net,x]) (by
  rintro ⟨net',x',a,n,h1,h2,h3⟩
  injection h1 with h0 h1;injection h1 with h1 h4;injection h4 with h4 _
  subst h0;subst h1;subst h4
  exact hn h2))
 have b1:=bs_eq hk
 have HNM:=Hd (nameV_no hn)
 clear hk hn
 go_enter Tryz.func89,Tryz.ntmps89
 go_wp2_with fail
 refine HC.out.mono ?_
 rintro e w1 ⟨rfl,hw1⟩
 have hP:=Part4.new w k net x
 rw [← hw1] at hP
 clear hw1
 have c0:=hP.c0
 have c1:=hP.c1
 have c2:=hP.c2
 have hz:w.heap.size < w1.heap.size:=Nat.lt_of_succ_lt hP.sz
 simp only [World.size_alloc]
 go_wp2_with fail
 refine (name_txt net (Nat.le_trans hnl (by decide)) _).mono ?_
 rintro e w2 ⟨rfl,hb2⟩
 rw [HNM.out]
 have hP2:=hP.step hb2
 clear c0 c1 c2 hb2
 have c1:=hP2.c1
 have c2:=hP2.c2
 obtain ⟨e0,e1,f0,f1⟩:=hP2.bp.two
 go_upto_region 3 with fail
 go_region
 go_wp2
 refine bodyPost_ret (v:=NoPV) (by simp [NoPV,results,Tryz.results89,go_sem,e0,e1]) rfl ⟨by rw [HR.out],?_⟩
 (repeat' (first | exact hP2.be | refine Below.setCell ?_ ?_ _ | refine Below.drew ?_)) <;> simp
theorem readP_3 (key k net x:List UInt8) (hsp:splitL 47 key=[k,net,x]) (hlen:key.length < 4294967281) (hk:k=[112]) (hn:nameB net=true) (hx:x.length≠10) {B:Nat} (w:World) (hB:B≤w.heap.size) (hV:TxtV B w) :
  Calls Tryz.prog 89 #[txt key] w fun e w'=>e=.returned (ReadPV (keyI key))∧Below w.heap.size w w':=by
 have hc:=split_any key 47 hlen (w.alloc (.cells #[.int .i64 0,.int .i64 0] 31)) (hV.on ((Below.refl _ _).alloc hB _))
 rw [hsp] at hc
 simp only [List.length_cons,List.length_nil,Nat.zero_add,Nat.reduceAdd] at hc
 have HC:=Hd hc
 have hnl:net.length≤100000000000:=by have:=split_len (c:=47) (s:=key) (p:=net) (by rw [hsp];simp);omega
 have hxl:x.length≤100000000000:=by have:=split_len (c:=47) (s:=key) (p:=x) (by rw [hsp];simp);omega
 have hk:keyI key=keyW [k,net,x]:=by unfold keyI;rw [hsp]
 rw [hk]
 clear hk hsp hc
 have HR:=Hd (readPV_no (ps:=[k,net,x]) (by
  rintro ⟨net',x',a,n,h1,h2,h3⟩
  injection h1 with h0 h1;injection h1 with h1 h4;injection h4 with h4 _
  subst h0;subst h1;subst h4
  rw [pfxV_ten hx] at h3;cases h3))
 have b1:=bs_eq hk
 have HNM:=Hd (nameV_yes hn)
 have hx8:((x.length:Int) != 10)=true:=by rw [bne_iff_ne];omega
 clear hk hn hx
 go_enter Tryz.func89,Tryz.ntmps89
 go_wp2_with fail
 refine HC.out.mono ?_
 rintro e w1 ⟨rfl,hw1⟩
 have hP:=Part4.new w k net x
 rw [← hw1] at hP
 clear hw1
 have c0:=hP.c0
 have c1:=hP.c1
 have c2:=hP.c2
 have hz:w.heap.size < w1.heap.size:=Nat.lt_of_succ_lt hP.sz
 simp only [World.size_alloc]
 go_wp2_with fail
 refine (name_txt net (Nat.le_trans hnl (by decide)) _).mono ?_
 rintro e w2 ⟨rfl,hb2⟩
 rw [HNM.out]
 have hP2:=hP.step hb2
 clear c0 c1 c2 hb2
 have c1:=hP2.c1
 have c2:=hP2.c2
 obtain ⟨e0,e1,f0,f1⟩:=hP2.bp.two
 go_upto_region 3 with fail
 go_region
 go_wp2
 refine bodyPost_ret (v:=NoPV) (by simp [NoPV,results,Tryz.results89,go_sem,e0,e1]) rfl ⟨by rw [HR.out],?_⟩
 (repeat' (first | exact hP2.be | refine Below.setCell ?_ ?_ _ | refine Below.drew ?_)) <;> simp
theorem readP_4 (key k net x:List UInt8) (hsp:splitL 47 key=[k,net,x]) (hlen:key.length < 4294967281) (hk:k=[112]) (hn:nameB net=true) (hx:x.length=10) (y z:UInt8) (hdr:x.drop 8=[y,z]) (hv:hexV 0 (x.take 8)=none) (hd:dec2 y z=none) {B:Nat} (w:World) (hB:B≤w.heap.size) (hV:TxtV B w) :
  Calls Tryz.prog 89 #[txt key] w fun e w'=>e=.returned (ReadPV (keyI key))∧Below w.heap.size w w':=by
 have hc:=split_any key 47 hlen (w.alloc (.cells #[.int .i64 0,.int .i64 0] 31)) (hV.on ((Below.refl _ _).alloc hB _))
 rw [hsp] at hc
 simp only [List.length_cons,List.length_nil,Nat.zero_add,Nat.reduceAdd] at hc
 have HC:=Hd hc
 have hnl:net.length≤100000000000:=by have:=split_len (c:=47) (s:=key) (p:=net) (by rw [hsp];simp);omega
 have hxl:x.length≤100000000000:=by have:=split_len (c:=47) (s:=key) (p:=x) (by rw [hsp];simp);omega
 have hk:keyI key=keyW [k,net,x]:=by unfold keyI;rw [hsp]
 rw [hk]
 clear hk hsp hc
 have HR:=Hd (readPV_no (ps:=[k,net,x]) (by
  rintro ⟨net',x',a,n,h1,h2,h3⟩
  injection h1 with h0 h1;injection h1 with h1 h4;injection h4 with h4 _
  subst h0;subst h1;subst h4
  rw [pfxV_parts hdr,hv] at h3;simp at h3))
 have hsz:(⟨x.toArray⟩:ByteArray).size=10:=by rw [data_size];exact hx
 have hn16:=number16 ((⟨x.toArray⟩:ByteArray).extract 0 8) (by rw [ByteArray.size_extract,hsz];decide) (by rw [ByteArray.size_extract,hsz];decide)
 rw [ext_take,hv,numV_no] at hn16
 have hn10:=number10L ((⟨x.toArray⟩:ByteArray).extract 8 10) y z (ext_drop2 hdr)
 rw [hd,numV_no] at hn10
 have HN16:=Hd hn16
 have HN10:=Hd hn10
 have b1:=bs_eq hk
 have HNM:=Hd (nameV_yes hn)
 clear hk hn hv hd hdr hn16 hn10 hsz
 go_enter Tryz.func89,Tryz.ntmps89
 go_wp2_with fail
 refine HC.out.mono ?_
 rintro e w1 ⟨rfl,hw1⟩
 have hP:=Part4.new w k net x
 rw [← hw1] at hP
 clear hw1
 have c0:=hP.c0
 have c1:=hP.c1
 have c2:=hP.c2
 have hz:w.heap.size < w1.heap.size:=Nat.lt_of_succ_lt hP.sz
 simp only [World.size_alloc]
 go_wp2_with fail
 refine (name_txt net (Nat.le_trans hnl (by decide)) _).mono ?_
 rintro e w2 ⟨rfl,hb2⟩
 rw [HNM.out]
 have hP2:=hP.step hb2
 clear c0 c1 c2 hb2
 have c1:=hP2.c1
 have c2:=hP2.c2
 go_wp2_with fail
 refine (HN16.out _).mono ?_
 rintro e w3 ⟨rfl,hb3⟩
 have hP3:=hP2.step hb3
 clear c1 c2 hb3
 have c2:=hP3.c2
 go_wp2_with fail
 refine (HN10.out _).mono ?_
 rintro e w4 ⟨rfl,hb4⟩
 have hP4:=hP3.step hb4
 clear c2 hb4
 obtain ⟨e0,e1,f0,f1⟩:=hP4.bp.two
 go_upto_region 7 with fail
 refine wp_name (fun w5 HW=>?_)
 have hP5:=hP4.set 0 0
 rw [← show w5=(w4.setCell ⟨w.heap.size,0,none⟩ (.int .i64 0)).setCell ⟨w.heap.size,1,none⟩ (.int .i64 0) from HW.out] at hP5
 clear HW e0 e1 f0 f1
 obtain ⟨e0,e1,f0,f1⟩:=hP5.bp.two
 go_wp2
 refine bodyPost_ret (v:=NoPV) (by simp [NoPV,results,Tryz.results89,go_sem,e0,e1]) rfl ⟨by rw [HR.out],?_⟩
 exact (hP5.be.setCell (by simp) _).setCell (by simp) _
theorem readP_5 (key k net x:List UInt8) (hsp:splitL 47 key=[k,net,x]) (hlen:key.length < 4294967281) (hk:k=[112]) (hn:nameB net=true) (hx:x.length=10) (y z:UInt8) (hdr:x.drop 8=[y,z]) (hv:hexV 0 (x.take 8)=none) (n:Nat) (hd:dec2 y z=some n) {B:Nat} (w:World) (hB:B≤w.heap.size) (hV:TxtV B w) :
  Calls Tryz.prog 89 #[txt key] w fun e w'=>e=.returned (ReadPV (keyI key))∧Below w.heap.size w w':=by
 have hc:=split_any key 47 hlen (w.alloc (.cells #[.int .i64 0,.int .i64 0] 31)) (hV.on ((Below.refl _ _).alloc hB _))
 rw [hsp] at hc
 simp only [List.length_cons,List.length_nil,Nat.zero_add,Nat.reduceAdd] at hc
 have HC:=Hd hc
 have hnl:net.length≤100000000000:=by have:=split_len (c:=47) (s:=key) (p:=net) (by rw [hsp];simp);omega
 have hxl:x.length≤100000000000:=by have:=split_len (c:=47) (s:=key) (p:=x) (by rw [hsp];simp);omega
 have hk:keyI key=keyW [k,net,x]:=by unfold keyI;rw [hsp]
 rw [hk]
 clear hk hsp hc
 have HR:=Hd (readPV_no (ps:=[k,net,x]) (by
  rintro ⟨net',x',a,n,h1,h2,h3⟩
  injection h1 with h0 h1;injection h1 with h1 h4;injection h4 with h4 _
  subst h0;subst h1;subst h4
  rw [pfxV_parts hdr,hv] at h3;simp at h3))
 have hsz:(⟨x.toArray⟩:ByteArray).size=10:=by rw [data_size];exact hx
 have hn16:=number16 ((⟨x.toArray⟩:ByteArray).extract 0 8) (by rw [ByteArray.size_extract,hsz];decide) (by rw [ByteArray.size_extract,hsz];decide)
 rw [ext_take,hv,numV_no] at hn16
 have hn10:=number10L ((⟨x.toArray⟩:ByteArray).extract 8 10) y z (ext_drop2 hdr)
 rw [hd,numV_yes] at hn10
 have HN16:=Hd hn16
 have HN10:=Hd hn10
 have b1:=bs_eq hk
 have HNM:=Hd (nameV_yes hn)
 clear hk hn hv hd hdr hn16 hn10 hsz
 go_enter Tryz.func89,Tryz.ntmps89
 go_wp2_with fail
 refine HC.out.mono ?_
 rintro e w1 ⟨rfl,hw1⟩
 have hP:=Part4.new w k net x
 rw [← hw1] at hP
 clear hw1
 have c0:=hP.c0
 have c1:=hP.c1
 have c2:=hP.c2
 have hz:w.heap.size < w1.heap.size:=Nat.lt_of_succ_lt hP.sz
 simp only [World.size_alloc]
 go_wp2_with fail
 refine (name_txt net (Nat.le_trans hnl (by decide)) _).mono ?_
 rintro e w2 ⟨rfl,hb2⟩
 rw [HNM.out]
 have hP2:=hP.step hb2
 clear c0 c1 c2 hb2
 have c1:=hP2.c1
 have c2:=hP2.c2
 go_wp2_with fail
 refine (HN16.out _).mono ?_
 rintro e w3 ⟨rfl,hb3⟩
 have hP3:=hP2.step hb3
 clear c1 c2 hb3
 have c2:=hP3.c2
 go_wp2_with fail
 refine (HN10.out _).mono ?_
 rintro e w4 ⟨rfl,hb4⟩
 have hP4:=hP3.step hb4
 clear c2 hb4
 obtain ⟨e0,e1,f0,f1⟩:=hP4.bp.two
 go_upto_region 7 with fail
 refine wp_name (fun w5 HW=>?_)
 have hP5:=hP4.set 0 (n:Int)
 rw [← show w5=(w4.setCell ⟨w.heap.size,0,none⟩ (.int .i64 0)).setCell ⟨w.heap.size,1,none⟩ (.int .i64 (n:Int)) from HW.out] at hP5
 clear HW e0 e1 f0 f1
 obtain ⟨e0,e1,f0,f1⟩:=hP5.bp.two
 go_wp2
 refine bodyPost_ret (v:=NoPV) (by simp [NoPV,results,Tryz.results89,go_sem,e0,e1]) rfl ⟨by rw [HR.out],?_⟩
 exact (hP5.be.setCell (by simp) _).setCell (by simp) _
theorem readP_6 (key k net x:List UInt8) (hsp:splitL 47 key=[k,net,x]) (hlen:key.length < 4294967281) (hk:k=[112]) (hn:nameB net=true) (hx:x.length=10) (y z:UInt8) (hdr:x.drop 8=[y,z]) (a:Nat) (hv:hexV 0 (x.take 8)=some a) (hd:dec2 y z=none) {B:Nat} (w:World) (hB:B≤w.heap.size) (hV:TxtV B w) :
  Calls Tryz.prog 89 #[txt key] w fun e w'=>e=.returned (ReadPV (keyI key))∧Below w.heap.size w w':=by
 have hc:=split_any key 47 hlen (w.alloc (.cells #[.int .i64 0,.int .i64 0] 31)) (hV.on ((Below.refl _ _).alloc hB _))
 rw [hsp] at hc
 simp only [List.length_cons,List.length_nil,Nat.zero_add,Nat.reduceAdd] at hc
 have HC:=Hd hc
 have hnl:net.length≤100000000000:=by have:=split_len (c:=47) (s:=key) (p:=net) (by rw [hsp];simp);omega
 have hxl:x.length≤100000000000:=by have:=split_len (c:=47) (s:=key) (p:=x) (by rw [hsp];simp);omega
 have hk:keyI key=keyW [k,net,x]:=by unfold keyI;rw [hsp]
 rw [hk]
 clear hk hsp hc
 have HR:=Hd (readPV_no (ps:=[k,net,x]) (by
  rintro ⟨net',x',a,n,h1,h2,h3⟩
  injection h1 with h0 h1;injection h1 with h1 h4;injection h4 with h4 _
  subst h0;subst h1;subst h4
  rw [pfxV_parts hdr,hv,hd] at h3;simp at h3))
 have hsz:(⟨x.toArray⟩:ByteArray).size=10:=by rw [data_size];exact hx
 have hn16:=number16 ((⟨x.toArray⟩:ByteArray).extract 0 8) (by rw [ByteArray.size_extract,hsz];decide) (by rw [ByteArray.size_extract,hsz];decide)
 rw [ext_take,hv,numV_yes] at hn16
 have hn10:=number10L ((⟨x.toArray⟩:ByteArray).extract 8 10) y z (ext_drop2 hdr)
 rw [hd,numV_no] at hn10
 have HN16:=Hd hn16
 have HN10:=Hd hn10
 have b1:=bs_eq hk
 have HNM:=Hd (nameV_yes hn)
 clear hk hn hv hd hdr hn16 hn10 hsz
 go_enter Tryz.func89,Tryz.ntmps89
 go_wp2_with fail
 refine HC.out.mono ?_
 rintro e w1 ⟨rfl,hw1⟩
 have hP:=Part4.new w k net x
 rw [← hw1] at hP
 clear hw1
 have c0:=hP.c0
 have c1:=hP.c1
 have c2:=hP.c2
 have hz:w.heap.size < w1.heap.size:=Nat.lt_of_succ_lt hP.sz
 simp only [World.size_alloc]
 go_wp2_with fail
 refine (name_txt net (Nat.le_trans hnl (by decide)) _).mono ?_
 rintro e w2 ⟨rfl,hb2⟩
 rw [HNM.out]
 have hP2:=hP.step hb2
 clear c0 c1 c2 hb2
 have c1:=hP2.c1
 have c2:=hP2.c2
 go_wp2_with fail
 refine (HN16.out _).mono ?_
 rintro e w3 ⟨rfl,hb3⟩
 have hP3:=hP2.step hb3
 clear c1 c2 hb3
 have c2:=hP3.c2
 go_wp2_with fail
 refine (HN10.out _).mono ?_
 rintro e w4 ⟨rfl,hb4⟩
 have hP4:=hP3.step hb4
 clear c2 hb4
 obtain ⟨e0,e1,f0,f1⟩:=hP4.bp.two
 go_upto_region 7 with fail
 refine wp_name (fun w5 HW=>?_)
 have hP5:=hP4.set (a:Int) 0
 rw [← show w5=(w4.setCell ⟨w.heap.size,0,none⟩ (.int .i64 (a:Int))).setCell ⟨w.heap.size,1,none⟩ (.int .i64 0) from HW.out] at hP5
 clear HW e0 e1 f0 f1
 obtain ⟨e0,e1,f0,f1⟩:=hP5.bp.two
 go_wp2
 refine bodyPost_ret (v:=NoPV) (by simp [NoPV,results,Tryz.results89,go_sem,e0,e1]) rfl ⟨by rw [HR.out],?_⟩
 exact (hP5.be.setCell (by simp) _).setCell (by simp) _
theorem readP_7 (key k net x:List UInt8) (hsp:splitL 47 key=[k,net,x]) (hlen:key.length < 4294967281) (hk:k=[112]) (hn:nameB net=true) (hx:x.length=10) (y z:UInt8) (hdr:x.drop 8=[y,z]) (a n:Nat) (hv:hexV 0 (x.take 8)=some a) (hd:dec2 y z=some n) (hc0:chk (a:Int) (n:Int)≠0) {B:Nat} (w:World) (hB:B≤w.heap.size) (hV:TxtV B w) :
  Calls Tryz.prog 89 #[txt key] w fun e w'=>e=.returned (ReadPV (keyI key))∧Below w.heap.size w w':=by
 have hc:=split_any key 47 hlen (w.alloc (.cells #[.int .i64 0,.int .i64 0] 31)) (hV.on ((Below.refl _ _).alloc hB _))
 rw [hsp] at hc
 simp only [List.length_cons,List.length_nil,Nat.zero_add,Nat.reduceAdd] at hc
 have HC:=Hd hc
 have hnl:net.length≤100000000000:=by have:=split_len (c:=47) (s:=key) (p:=net) (by rw [hsp];simp);omega
 have hxl:x.length≤100000000000:=by have:=split_len (c:=47) (s:=key) (p:=x) (by rw [hsp];simp);omega
 have hk:keyI key=keyW [k,net,x]:=by unfold keyI;rw [hsp]
 rw [hk]
 clear hk hsp hc
 have HR:=Hd (readPV_no (ps:=[k,net,x]) (by
  rintro ⟨net',x',a,n,h1,h2,h3⟩
  injection h1 with h0 h1;injection h1 with h1 h4;injection h4 with h4 _
  subst h0;subst h1;subst h4
  rw [pfxV_parts hdr,hv,hd] at h3;simp only at h3;rw [if_neg hc0] at h3;cases h3))
 have hsz:(⟨x.toArray⟩:ByteArray).size=10:=by rw [data_size];exact hx
 have hn16:=number16 ((⟨x.toArray⟩:ByteArray).extract 0 8) (by rw [ByteArray.size_extract,hsz];decide) (by rw [ByteArray.size_extract,hsz];decide)
 rw [ext_take,hv,numV_yes] at hn16
 have hn10:=number10L ((⟨x.toArray⟩:ByteArray).extract 8 10) y z (ext_drop2 hdr)
 rw [hd,numV_yes] at hn10
 have HN16:=Hd hn16
 have HN10:=Hd hn10
 have b1:=bs_eq hk
 have HNM:=Hd (nameV_yes hn)
 clear hk hn hv hd hdr hn16 hn10 hsz
 go_enter Tryz.func89,Tryz.ntmps89
 go_wp2_with fail
 refine HC.out.mono ?_
 rintro e w1 ⟨rfl,hw1⟩
 have hP:=Part4.new w k net x
 rw [← hw1] at hP
 clear hw1
 have c0:=hP.c0
 have c1:=hP.c1
 have c2:=hP.c2
 have hz:w.heap.size < w1.heap.size:=Nat.lt_of_succ_lt hP.sz
 simp only [World.size_alloc]
 go_wp2_with fail
 refine (name_txt net (Nat.le_trans hnl (by decide)) _).mono ?_
 rintro e w2 ⟨rfl,hb2⟩
 rw [HNM.out]
 have hP2:=hP.step hb2
 clear c0 c1 c2 hb2
 have c1:=hP2.c1
 have c2:=hP2.c2
 go_wp2_with fail
 refine (HN16.out _).mono ?_
 rintro e w3 ⟨rfl,hb3⟩
 have hP3:=hP2.step hb3
 clear c1 c2 hb3
 have c2:=hP3.c2
 go_wp2_with fail
 refine (HN10.out _).mono ?_
 rintro e w4 ⟨rfl,hb4⟩
 have hP4:=hP3.step hb4
 clear c2 hb4
 obtain ⟨e0,e1,f0,f1⟩:=hP4.bp.two
 go_upto_region 7 with fail
 refine wp_name (fun w5 HW=>?_)
 have hP5:=hP4.set (a:Int) (n:Int)
 rw [← show w5=(w4.setCell ⟨w.heap.size,0,none⟩ (.int .i64 (a:Int))).setCell ⟨w.heap.size,1,none⟩ (.int .i64 (n:Int)) from HW.out] at hP5
 clear HW e0 e1 f0 f1
 obtain ⟨e0,e1,f0,f1⟩:=hP5.bp.two
 go_wp2_with fail
 refine (check_bad _ _ hc0 _).mono ?_
 rintro e w6 ⟨rfl,hb6⟩
 have hP6:=hP5.step hb6
 clear e0 e1 f0 f1
 obtain ⟨e0,e1,f0,f1⟩:=hP6.bp.two
 go_wp2
 refine bodyPost_ret (v:=NoPV) (by simp [NoPV,results,Tryz.results89,go_sem,e0,e1]) rfl ⟨by rw [HR.out],?_⟩
 exact (hP6.be.setCell (by simp) _).setCell (by simp) _
theorem readP_8 (key k net x:List UInt8) (hsp:splitL 47 key=[k,net,x]) (hlen:key.length < 4294967281) (hk:k=[112]) (hn:nameB net=true) (hx:x.length=10) (y z:UInt8) (hdr:x.drop 8=[y,z]) (a n:Nat) (hv:hexV 0 (x.take 8)=some a) (hd:dec2 y z=some n) (hc0:chk (a:Int) (n:Int)=0) {B:Nat} (w:World) (hB:B≤w.heap.size) (hV:TxtV B w) :
  Calls Tryz.prog 89 #[txt key] w fun e w'=>e=.returned (ReadPV (keyI key))∧Below w.heap.size w w':=by
 have hc:=split_any key 47 hlen (w.alloc (.cells #[.int .i64 0,.int .i64 0] 31)) (hV.on ((Below.refl _ _).alloc hB _))
 rw [hsp] at hc
 simp only [List.length_cons,List.length_nil,Nat.zero_add,Nat.reduceAdd] at hc
 have HC:=Hd hc
 have hnl:net.length≤100000000000:=by have:=split_len (c:=47) (s:=key) (p:=net) (by rw [hsp];simp);omega
 have hxl:x.length≤100000000000:=by have:=split_len (c:=47) (s:=key) (p:=x) (by rw [hsp];simp);omega
 have hk:keyI key=keyW [k,net,x]:=by unfold keyI;rw [hsp]
 rw [hk]
 clear hk hsp hc
 have HR:=Hd (show ReadPV (keyW [k,net,x])=.tuple #[txt net,.agg #[.int .i64 (a:Int),.int .i64 (n:Int)],.nilIface] by
  have:keyW [k,net,x]=⟨2,net,a,n,0⟩:=by rw [keyW3,if_pos hn,hk,if_neg (by decide),if_pos rfl,pfxV_parts hdr,hv,hd];simp only;rw [if_pos hc0]
  rw [this];rfl)
 have hsz:(⟨x.toArray⟩:ByteArray).size=10:=by rw [data_size];exact hx
 have hn16:=number16 ((⟨x.toArray⟩:ByteArray).extract 0 8) (by rw [ByteArray.size_extract,hsz];decide) (by rw [ByteArray.size_extract,hsz];decide)
 rw [ext_take,hv,numV_yes] at hn16
 have hn10:=number10L ((⟨x.toArray⟩:ByteArray).extract 8 10) y z (ext_drop2 hdr)
 rw [hd,numV_yes] at hn10
 have HN16:=Hd hn16
 have HN10:=Hd hn10
 have b1:=bs_eq hk
 have HNM:=Hd (nameV_yes hn)
 clear hk hn hv hd hdr hn16 hn10 hsz
 go_enter Tryz.func89,Tryz.ntmps89
 go_wp2_with fail
 refine HC.out.mono ?_
 rintro e w1 ⟨rfl,hw1⟩
 have hP:=Part4.new w k net x
 rw [← hw1] at hP
 clear hw1
 have c0:=hP.c0
 have c1:=hP.c1
 have c2:=hP.c2
 have hz:w.heap.size < w1.heap.size:=Nat.lt_of_succ_lt hP.sz
 simp only [World.size_alloc]
 go_wp2_with fail
 refine (name_txt net (Nat.le_trans hnl (by decide)) _).mono ?_
 rintro e w2 ⟨rfl,hb2⟩
 rw [HNM.out]
 have hP2:=hP.step hb2
 clear c0 c1 c2 hb2
 have c1:=hP2.c1
 have c2:=hP2.c2
 go_wp2_with fail
 refine (HN16.out _).mono ?_
 rintro e w3 ⟨rfl,hb3⟩
 have hP3:=hP2.step hb3
 clear c1 c2 hb3
 have c2:=hP3.c2
 go_wp2_with fail
 refine (HN10.out _).mono ?_
 rintro e w4 ⟨rfl,hb4⟩
 have hP4:=hP3.step hb4
 clear c2 hb4
 obtain ⟨e0,e1,f0,f1⟩:=hP4.bp.two
 go_upto_region 7 with fail
 refine wp_name (fun w5 HW=>?_)
 have hP5:=hP4.set (a:Int) (n:Int)
 rw [← show w5=(w4.setCell ⟨w.heap.size,0,none⟩ (.int .i64 (a:Int))).setCell ⟨w.heap.size,1,none⟩ (.int .i64 (n:Int)) from HW.out] at hP5
 clear HW e0 e1 f0 f1
 obtain ⟨e0,e1,f0,f1⟩:=hP5.bp.two
 go_wp2_with fail
 refine (check_ok _ _ hc0 _).mono ?_
 rintro e w6 ⟨rfl,hb6⟩
 have hP6:=hP5.step hb6
 clear e0 e1 f0 f1
 obtain ⟨e0,e1,f0,f1⟩:=hP6.bp.two
 have c1:=hP6.c1
 have hj0:(1:Int) < 3:=by decide
 go_upto_region 9 with fail
 go_region
 go_wp2
 refine bodyPost_ret (v:=.tuple #[txt net,.agg #[.int .i64 (a:Int),.int .i64 (n:Int)],.nilIface]) (by simp [results,Tryz.results89,go_sem,e0,e1]) rfl ⟨by rw [HR.out],?_⟩
 (repeat' (first | exact hP6.be | refine Below.setCell ?_ ?_ _ | refine Below.drew ?_)) <;> simp
theorem readP_0 (key:List UInt8) (h3:(splitL 47 key).length≠3) (hlen:key.length < 4294967281) {B:Nat} (w:World) (hB:B≤w.heap.size) (hV:TxtV B w) :
  Calls Tryz.prog 89 #[txt key] w fun e w'=>e=.returned (ReadPV (keyI key))∧Below w.heap.size w w':=by
 have HC:=Hd (split_any key 47 hlen (w.alloc (.cells #[.int .i64 0,.int .i64 0] 31)) (hV.on ((Below.refl _ _).alloc hB _)))
 have hcnt:=split_cnt 47 key
 have hk:keyI key=keyW (splitL 47 key):=rfl
 rw [hk]
 clear hk
 have HR:=Hd (readPV_no (ps:=splitL 47 key) (by rintro ⟨net,x,a,n,h1,_,_⟩;rw [h1] at h3;exact h3 rfl))
 have h3':(((splitL 47 key).length:Int) != 3)=true:=by rw [bne_iff_ne];omega
 generalize splitL 47 key=ps at *
 clear h3
 go_enter Tryz.func89,Tryz.ntmps89
 go_wp2_with fail
 refine HC.out.mono ?_
 rintro e w1 ⟨rfl,hw1⟩
 have hbe:Below w.heap.size w w1:=by rw [hw1];exact ((Below.refl _ _).alloc (Nat.le_refl _) _).alloc (by simp) _
 have hbp:Blk w1 w.heap.size 31 #[.int .i64 0,.int .i64 0]:=by rw [hw1];exact (Blk.new _ _ _).alloc _
 have hz:w.heap.size < w1.heap.size:=hbp.lt
 clear hw1
 simp only [World.size_alloc]
 obtain ⟨e0,e1,f0,f1⟩:=hbp.two
 go_upto_region 3 with fail
 go_region
 go_wp2
 refine bodyPost_ret (v:=NoPV) (by simp [NoPV,results,Tryz.results89,go_sem,e0,e1]) rfl ⟨by rw [HR.out],?_⟩
 (repeat' (first | exact hbe | refine Below.setCell ?_ ?_ _ | refine Below.drew ?_)) <;> simp
theorem readPrefix_any (key:List UInt8) (hlen:key.length < 4294967281) {B:Nat} (w:World) (hB:B≤w.heap.size) (hV:TxtV B w) :
  Calls Tryz.prog 89 #[txt key] w fun e w'=>e=.returned (ReadPV (keyI key))∧Below w.heap.size w w':=by
 by_cases h3:(splitL 47 key).length=3
 ·obtain ⟨k,net,x,hs⟩:=list3 h3
  by_cases hk:k=[112]
  ·by_cases hn:nameB net=true
   ·by_cases hx:x.length=10
    ·obtain ⟨y,z,hdr⟩:=drop_two hx
     cases hv:hexV 0 (x.take 8) with
     | none =>
      cases hd:dec2 y z with
      | none=>exact readP_4 key k net x hs hlen hk hn hx y z hdr hv hd w hB hV
      | some n=>exact readP_5 key k net x hs hlen hk hn hx y z hdr hv n hd w hB hV
     | some a =>
      cases hd:dec2 y z with
      | none=>exact readP_6 key k net x hs hlen hk hn hx y z hdr a hv hd w hB hV
      | some n =>
       by_cases hc0:chk (a:Int) (n:Int)=0
       ·exact readP_8 key k net x hs hlen hk hn hx y z hdr a n hv hd hc0 w hB hV
       ·exact readP_7 key k net x hs hlen hk hn hx y z hdr a n hv hd hc0 w hB hV
    ·exact readP_3 key k net x hs hlen hk hn hx w hB hV
   ·exact readP_2 key k net x hs hlen hk hn w hB hV
  ·exact readP_1 key k net x hs hlen hk w hB hV
 ·exact readP_0 key h3 hlen w hB hV
end Go.Proofs.YtkckcbhnnllkhaaGreatDoor
