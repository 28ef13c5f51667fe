/- Parts of the proof; conditions: as each theorem says. -/
import Derived.Test.YtkckcbhnnllkhaaGreatDoorG39
import Derived.Test.YtkckcbhnnllkhaaGreatDoorG8
import Derived.Test.YtkckcbhnnllkhaaGreatDoorG11
set_option linter.unusedVariables false
set_option linter.unusedSimpArgs false
set_option maxRecDepth 100000
set_option maxHeartbeats 40000000
namespace Go.Proofs.YtkckcbhnnllkhaaGreatDoor
open Go.RowKit
theorem hexV_none:∀ (l:List UInt8) (a:Nat) (b:UInt8),b ∈ l→hexV1 b=none→hexV a l=none
 | c::l,a,b,hb,h=>by
  unfold hexV
  rcases List.mem_cons.1 hb with rfl | hb
  ·rw [h]
  ·cases hexV1 c with
   | none=>rfl
   | some d=>exact hexV_none l _ b hb h
theorem hexV1_none {c:UInt8} (h:hexV1 c=none):¬ (48≤c.toNat∧c.toNat≤57)∧¬ (97≤c.toNat∧c.toNat≤102):=by
 unfold hexV1 at h
 split at h
 ·cases h
 ·split at h
  ·cases h
  ·constructor <;> assumption
theorem hexV1_some {c:UInt8} (h:(hexV1 c).isSome=true):(48≤c.toNat∧c.toNat≤57)∨(97≤c.toNat∧c.toNat≤102):=by
 unfold hexV1 at h
 split at h
 ·exact .inl ‹_›
 ·split at h
  ·exact .inr ‹_›
  ·cases h
def NumV (o:Option Nat):Value:=match o with
 | some v=>.tuple #[.int .i64 (v:Int),.bool true]
 | none=>.tuple #[.int .i64 0,.bool false]
theorem number16 (s:ByteArray) (h1:1≤s.size) (h8:s.size≤8) (w:World) :
  Calls Tryz.prog 126 #[.string s,.int .i64 16] w fun e w'=>e=.returned (NumV (hexV 0 s.data.toList))∧Below w.heap.size w w':=by
 obtain ⟨cap,W,hcv,hbW,hzW,hcell⟩:=bytes_conv s w
 have HC:=Hd hcell
 have HP:=Hd (fun hx w=>parseInt16 s h1 h8 hx w)
 clear hcell
 go_enter Tryz.func126,Tryz.ntmps126
 go_wp2
 clear hcv
 go_loopw [7,13] (fun _ i wr=>∃ k:Nat,k≤s.size∧i=.int .i64 (k:Int)∧Hid (∀ j (h:j < s.size),j < k→(hexV1 s[j]).isSome=true)∧W=wr) (fun _ i _=>s.size - (intOf i).toNat)
 case atStart=>exact ⟨0,Nat.zero_le _,rfl,Hd (fun j _ h=>by omega),rfl⟩
 case round =>
  obtain ⟨k,hk,rfl,HD,rfl⟩:=hrel
  by_cases hlt:k < s.size
  ·have hc:=HC.out k hlt
   have HM:=Hd (byte_mem1 s k hlt)
   cases hv:hexV1 s[k] with
   | none =>
    obtain ⟨n1,n2⟩:=hexV1_none hv
    have HN:=Hd (hexV_none _ 0 _ HM.out hv)
    clear hv
    generalize s[k]=c at *
    by_cases d1:(c.toNat:Int) < 48
    ·have d3:decide ((c.toNat:Int) < 97)=true:=by simp;omega
     go_wp2
     go_ret2
     exact ⟨by rw [HN.out];rfl,hbW⟩
    ·have d2:decide ((57:Int) < c.toNat)=true:=by simp;omega
     by_cases d3:(c.toNat:Int) < 97
     ·go_wp2
      go_ret2
      exact ⟨by rw [HN.out];rfl,hbW⟩
     ·have d4:decide ((102:Int) < c.toNat)=true:=by simp;omega
      go_wp2
      go_ret2
      exact ⟨by rw [HN.out];rfl,hbW⟩
   | some d =>
    have hs:(hexV1 s[k]).isSome=true:=by rw [hv];rfl
    have HS:=Hd hs
    rcases hexV1_some hs with ⟨q1,q2⟩ | ⟨q1,q2⟩
    ·clear hv hs
     have d1:decide ((s[k].toNat:Int) < 48)=false:=by simp;omega
     have d2:decide ((57:Int) < s[k].toNat)=false:=by simp;omega
     go_wp2
     go_roundw
     case rel =>
      refine ⟨k+1,by omega,by go_num,Hd (fun j hj hjk=>?_),by first | rfl | trivial⟩
      rcases Nat.lt_succ_iff_lt_or_eq.1 hjk with h | h
      ·exact HD.out j hj h
      ·subst h;exact HS.out
     case measure=>simp [intOf];omega
    ·clear hv hs
     have d1:decide ((s[k].toNat:Int) < 48)=false:=by simp;omega
     have d2:decide ((57:Int) < s[k].toNat)=true:=by simp;omega
     have d3:decide ((s[k].toNat:Int) < 97)=false:=by simp;omega
     have d4:decide ((102:Int) < s[k].toNat)=false:=by simp;omega
     go_wp2
     go_roundw
     case rel =>
      refine ⟨k+1,by omega,by go_num,Hd (fun j hj hjk=>?_),by first | rfl | trivial⟩
      rcases Nat.lt_succ_iff_lt_or_eq.1 hjk with h | h
      ·exact HD.out j hj h
      ·subst h;exact HS.out
     case measure=>simp [intOf];omega
  ·obtain rfl:k=s.size:=by omega
   go_wp2_with fail
   refine (HP.out (fun j hj=>HD.out j hj hj) _).mono ?_
   rintro e w2 ⟨⟨v,hv,rfl⟩,hb2⟩
   have HV:=Hd hv
   clear hv
   go_wp2_with fail
   go_quiet (fail)
   go_wp2
   go_ret2
   exact ⟨by rw [HV.out];rfl,below_drewN (hbW.trans (hb2.mono hbW.size)) _⟩
theorem parse2_all:∀ i,i < 10→∀ j,j < 10→Lib.parseIntB 64 [UInt8.ofNat (48+i),UInt8.ofNat (48+j)]=.ok ((10 * i+j:Nat):Int):=by decide
theorem parse2 {a b:UInt8} {n:Nat} (h:dec2 a b=some n):Lib.parseIntB 64 [a,b]=.ok (n:Int):=by
 unfold dec2 at h
 split at h
 ·rename_i q
  injection h with h
  have e1:UInt8.ofNat (48+(a.toNat - 48))=a:=by
   apply UInt8.toNat_inj.1
   rw [show 48+(a.toNat - 48)=a.toNat by omega];simp
  have e2:UInt8.ofNat (48+(b.toNat - 48))=b:=by
   apply UInt8.toNat_inj.1
   rw [show 48+(b.toNat - 48)=b.toNat by omega];simp
  have:=parse2_all (a.toNat - 48) (by omega) (b.toNat - 48) (by omega)
  rw [e1,e2,h] at this
  exact this
 ·cases h
theorem list2 (s:ByteArray) (h:s.size=2):s.data.toList=[s[0]'(by omega),s[1]'(by omega)]:=by
 have hl:s.data.toList.length=2:=by rw [size_list];exact h
 apply List.ext_getElem
 ·simp [hl]
 ·intro i h1 h2
  match i,h1,h2 with
  | 0,_,_=>rfl
  | 1,_,_=>rfl
theorem parseInt10 (s:ByteArray) (h2:s.size=2) {n:Nat} (hd:dec2 (s[0]'(by omega)) (s[1]'(by omega))=some n) (w:World) :
  Calls Tryz.prog 149 #[.string s,.int .i64 10,.int .i64 64] w fun e w'=>e=.returned (.tuple #[.int .i64 (n:Int),.nilIface])∧Below w.heap.size w w':=by
 refine (Any.strconv_ParseInt_10_at64_ok layPI s (by omega) (n:Int) (by rw [list2 s h2];exact parse2 hd) w).mono fun e w' q=>⟨q.1,?_⟩
 rcases q.2 with q2 | ⟨t,q2⟩
 ·rw [q2];exact Below.refl _ _
 ·rw [q2];exact Lib.bytesWorld_below _ _ _
def digB (b:UInt8):Bool:=decide (48≤b.toNat∧b.toNat≤57)
theorem dec2_some {a b:UInt8} (h1:digB a=true) (h2:digB b=true):∃ n,dec2 a b=some n:=by
 unfold digB at h1 h2
 simp only [decide_eq_true_eq] at h1 h2
 exact ⟨_,by unfold dec2;rw [if_pos ⟨h1,h2⟩]⟩
theorem dec2_none {a b:UInt8} (h:digB a=false∨digB b=false):dec2 a b=none:=by
 unfold digB at h
 simp only [decide_eq_false_iff_not] at h
 unfold dec2
 rw [if_neg]
 rintro ⟨q1,q2⟩
 rcases h with h | h
 ·exact h q1
 ·exact h q2
theorem number10 (s:ByteArray) (h2:s.size=2) (w:World) :
  Calls Tryz.prog 126 #[.string s,.int .i64 10] w fun e w'=>e=.returned (NumV (dec2 (s[0]'(by omega)) (s[1]'(by omega))))∧Below w.heap.size w w':=by
 obtain ⟨cap,W,hcv,hbW,hzW,hcell⟩:=bytes_conv s w
 have HC:=Hd hcell
 have HP:=Hd (fun n hd w=>parseInt10 s h2 (n:=n) hd w)
 have hno:∀ k (h:k < s.size),digB s[k]=false→dec2 (s[0]'(by omega)) (s[1]'(by omega))=none:=fun k h q=>by
  have h3:k=0∨k=1:=by omega
  rcases h3 with rfl | rfl
  ·exact dec2_none (.inl q)
  ·exact dec2_none (.inr q)
 have HNO:=Hd hno
 have HYES:=Hd (fun (h:∀ j (h:j < s.size),digB s[j]=true)=>dec2_some (h 0 (by omega)) (h 1 (by omega)))
 obtain ⟨V,hV⟩:∃ V,V=NumV (dec2 (s[0]'(by omega)) (s[1]'(by omega))):=⟨_,rfl⟩
 rw [← hV]
 have HV:=Hd hV
 clear hcell hno hV
 go_enter Tryz.func126,Tryz.ntmps126
 go_wp2
 clear hcv
 go_loopw [7,13] (fun _ i wr=>∃ k:Nat,k≤s.size∧i=.int .i64 (k:Int)∧Hid (∀ j (h:j < s.size),j < k→digB s[j]=true)∧W=wr) (fun _ i _=>s.size - (intOf i).toNat)
 case atStart=>exact ⟨0,Nat.zero_le _,rfl,Hd (fun j _ h=>by omega),rfl⟩
 case round =>
  obtain ⟨k,hk,rfl,HD,rfl⟩:=hrel
  by_cases hlt:k < s.size
  ·have hc:=HC.out k hlt
   cases hs:digB s[k] with
   | false =>
    have HN:=Hd (HNO.out k hlt hs)
    have q:¬ (48≤s[k].toNat∧s[k].toNat≤57):=by unfold digB at hs;simpa using hs
    clear hs
    generalize s[k]=c at *
    by_cases d1:(c.toNat:Int) < 48
    ·go_wp2
     go_ret2
     exact ⟨by rw [HV.out,HN.out];rfl,hbW⟩
    ·have d2:decide ((57:Int) < c.toNat)=true:=by simp;omega
     go_wp2
     go_ret2
     exact ⟨by rw [HV.out,HN.out];rfl,hbW⟩
   | true =>
    have HS:=Hd hs
    have q:48≤s[k].toNat∧s[k].toNat≤57:=by unfold digB at hs;simpa using hs
    have d1:decide ((s[k].toNat:Int) < 48)=false:=by simp;omega
    have d2:decide ((57:Int) < s[k].toNat)=false:=by simp;omega
    clear hs q
    go_wp2
    go_roundw
    case rel =>
     refine ⟨k+1,by omega,by go_num,Hd (fun j hj hjk=>?_),by first | rfl | trivial⟩
     rcases Nat.lt_succ_iff_lt_or_eq.1 hjk with h | h
     ·exact HD.out j hj h
     ·subst h;exact HS.out
    case measure=>simp [intOf];omega
  ·obtain rfl:k=s.size:=by omega
   obtain ⟨n,hn⟩:=HYES.out (fun j hj=>HD.out j hj hj)
   have HN:=Hd hn
   clear hn
   go_wp2_with fail
   refine (HP.out n HN.out _).mono ?_
   rintro e w2 ⟨rfl,hb2⟩
   go_wp2_with fail
   go_quiet (fail)
   go_wp2
   go_ret2
   exact ⟨by rw [HV.out,HN.out];rfl,below_drewN (hbW.trans (hb2.mono hbW.size)) _⟩
theorem name_txt (s:List UInt8) (hs:s.length≤9223372036854775807) (w:World) :
  Calls Tryz.prog 20 #[txt s] w fun e w'=>e=.returned (NameV (nameB s))∧Below w.heap.size w w':=by
 have h:=name_any ⟨s.toArray⟩ (by rw [data_size];exact hs) w
 rw [data_toList] at h
 exact h
theorem nameV_yes {l:List UInt8} (h:nameB l=true):NameV (nameB l)=.nilIface:=by unfold NameV;rw [if_pos h]
theorem nameV_no {l:List UInt8} (h:¬ nameB l=true):NameV (nameB l)=.iface 71 (.int .i64 5):=by unfold NameV;rw [if_neg h]
theorem split_len {c:UInt8} {s p:List UInt8}:p ∈ splitL c s→p.length≤s.length:=by
 induction s generalizing p with
 | nil=>intro h;simp [splitL] at h;subst h;simp
 | cons b s ih =>
  intro h
  unfold splitL at h
  split at h
  ·rcases List.mem_cons.1 h with rfl | h
   ·simp
   ·have:=ih h;simp;omega
  ·split at h
   ·rename_i q qs hq
    rcases List.mem_cons.1 h with rfl | h
    ·have:=ih (p:=q) (by rw [hq];exact List.mem_cons_self)
     simp;omega
    ·have:=ih (p:=p) (by rw [hq];exact List.mem_cons_of_mem _ h)
     simp;omega
   ·simp at h;subst h;simp
theorem split_cnt (c:UInt8) (s:List UInt8):(splitL c s).length≤s.length+1:=by
 rw [splitL_length,Lib.count_one]
 have:=List.count_le_length (a:=c) (l:=s)
 omega
theorem list3 {l:List (List UInt8)} (h:l.length=3):∃ x y z,l=[x,y,z]:=by
 match l,h with
 | [x,y,z],_=>exact ⟨x,y,z,rfl⟩
def ReadAV (k:KeyI):Value:=if k.kind=3 then .tuple #[txt k.net,.int .i64 (k.ad:Int),.nilIface] else .tuple #[txt [],.int .i64 0,.iface 71 (.int .i64 5)]
theorem numV_no:NumV none=.tuple #[.int .i64 0,.bool false]:=rfl
theorem numV_yes (v:Nat):NumV (some v)=.tuple #[.int .i64 (v:Int),.bool true]:=rfl
def NoAV:Value:=.tuple #[txt [],.int .i64 0,.iface 71 (.int .i64 5)]
theorem keyW3 (k net x:List UInt8):keyW [k,net,x]=if nameB net=true then
   (if k=[97] then (match addrV x with
    | some a=>⟨3,net,0,0,a⟩
    | none=>keyNo)
   else if k=[112] then (match pfxV x with
    | some (a,n)=>⟨2,net,a,n,0⟩
    | none=>keyNo) else keyNo) else keyNo:=rfl
theorem keyW_kind3 {ps:List (List UInt8)} (h:(keyW ps).kind=3):∃ net x a,ps=[[97],net,x]∧nameB net=true∧addrV x=some a∧keyW ps=⟨3,net,0,0,a⟩:=by
 match ps,h with
 | [],h=>simp [keyW,keyNo] at h
 | [_],h=>simp [keyW,keyNo] at h
 | [k,net],h =>
  exfalso
  have e:keyW [k,net]=if nameB net=true∧k=[110] then ⟨1,net,0,0,0⟩ else keyNo:=rfl
  rw [e] at h
  split at h
  ·simp at h
  ·simp [keyNo] at h
 | [k,net,x],h =>
  rw [keyW3] at h
  split at h
  ·rename_i hn
   split at h
   ·rename_i hk
    split at h
    ·rename_i a ha
     refine ⟨net,x,a,by rw [hk],hn,ha,?_⟩
     rw [keyW3,if_pos hn,if_pos hk,ha]
    ·simp [keyNo] at h
   ·split at h
    ·split at h
     ·simp at h
     ·simp [keyNo] at h
    ·simp [keyNo] at h
  ·simp [keyNo] at h
 | _::_::_::_::_,h=>simp [keyW,keyNo] at h
theorem readAV_no {ps:List (List UInt8)} (h:¬ ∃ net x a,ps=[[97],net,x]∧nameB net=true∧addrV x=some a):ReadAV (keyW ps)=NoAV:=by
 unfold ReadAV NoAV
 rw [if_neg]
 intro q
 obtain ⟨net,x,a,h1,h2,h3,_⟩:=keyW_kind3 q
 exact h ⟨net,x,a,h1,h2,h3⟩
theorem bs_ne {a b:List UInt8} (h:a≠b):(a == b)=false:=by simpa using h
theorem bs_eq {a b:List UInt8} (h:a=b):(a == b)=true:=by simpa using h
structure Part3 (w:World) (k net x:List UInt8) (w1:World):Prop where
 c0:w1.cell? ⟨w.heap.size,0,none⟩=some (.string ⟨k.toArray⟩)
 c1:w1.cell? ⟨w.heap.size,1,none⟩=some (.string ⟨net.toArray⟩)
 c2:w1.cell? ⟨w.heap.size,2,none⟩=some (.string ⟨x.toArray⟩)
 be:Below w.heap.size w w1
 sz:w.heap.size < w1.heap.size
theorem Part3.new (w:World) (k net x:List UInt8):Part3 w k net x (w.alloc (.cells ([k,net,x].map txt).toArray 9)):=by
 have hb:=Blk.new w 9 ([k,net,x].map txt).toArray
 exact ⟨hb.cell 0,hb.cell 1,hb.cell 2,(Below.refl _ _).alloc (Nat.le_refl _) _,by simp⟩
theorem Part3.step {w w1 w2:World} {k net x:List UInt8} (h:Part3 w k net x w1) (hb:Below w1.heap.size w1 w2):Part3 w k net x w2 :=
 ⟨(hb.cell (p:=⟨_,0,none⟩) h.sz).trans h.c0,(hb.cell (p:=⟨_,1,none⟩) h.sz).trans h.c1,(hb.cell (p:=⟨_,2,none⟩) h.sz).trans h.c2,h.be.trans (hb.mono h.be.size),Nat.lt_of_lt_of_le h.sz hb.size⟩
theorem readA_1 (key k net x:List UInt8) (hsp:splitL 47 key=[k,net,x]) (hlen:key.length < 4294967281) (hk:k≠[97]) {B:Nat} (w:World) (hB:B≤w.heap.size) (hV:TxtV B w) :
  Calls Tryz.prog 90 #[txt key] w fun e w'=>e=.returned (ReadAV (keyI key))∧Below w.heap.size w w':=by
 have hc:=split_any key 47 hlen w hV
 rw [hsp] at hc
 simp only [List.length_cons,List.length_nil,Nat.zero_add,Nat.reduceAdd] at hc
 have HC:=Hd hc
 clear hc
 have hnl:net.length≤100000000000:=by have:=split_len (c:=47) (s:=key) (p:=net) (by rw [hsp];simp);omega
 have hxl:x.length≤100000000000:=by have:=split_len (c:=47) (s:=key) (p:=x) (by rw [hsp];simp);omega
 have hk:keyI key=keyW [k,net,x]:=by unfold keyI;rw [hsp]
 rw [hk]
 clear hk hsp
 have HR:=Hd (readAV_no (ps:=[k,net,x]) (by
  rintro ⟨net',x',a,h1,h2,h3⟩
  injection h1 with h0 h1;injection h1 with h1 h4;injection h4 with h4 _
  subst h0;subst h1;subst h4
  exact hk rfl))
 have b1:=bs_ne hk
 clear hk
 go_enter Tryz.func90,Tryz.ntmps90
 go_wp2_with fail
 refine HC.out.mono ?_
 rintro e w1 ⟨rfl,hw1⟩
 have hP:=Part3.new w k net x
 rw [← hw1] at hP
 clear hw1
 have c0:=hP.c0
 have c1:=hP.c1
 have c2:=hP.c2
 go_wp2
 go_ret3
 exact ⟨by rw [HR.out];rfl,hP.be⟩
theorem readA_2 (key k net x:List UInt8) (hsp:splitL 47 key=[k,net,x]) (hlen:key.length < 4294967281) (hk:k=[97]) (hn:¬ nameB net=true) {B:Nat} (w:World) (hB:B≤w.heap.size) (hV:TxtV B w) :
  Calls Tryz.prog 90 #[txt key] w fun e w'=>e=.returned (ReadAV (keyI key))∧Below w.heap.size w w':=by
 have hc:=split_any key 47 hlen w hV
 rw [hsp] at hc
 simp only [List.length_cons,List.length_nil,Nat.zero_add,Nat.reduceAdd] at hc
 have HC:=Hd hc
 clear hc
 have hnl:net.length≤100000000000:=by have:=split_len (c:=47) (s:=key) (p:=net) (by rw [hsp];simp);omega
 have hxl:x.length≤100000000000:=by have:=split_len (c:=47) (s:=key) (p:=x) (by rw [hsp];simp);omega
 have hk:keyI key=keyW [k,net,x]:=by unfold keyI;rw [hsp]
 rw [hk]
 clear hk hsp
 have HR:=Hd (readAV_no (ps:=[k,net,x]) (by
  rintro ⟨net',x',a,h1,h2,h3⟩
  injection h1 with h0 h1;injection h1 with h1 h4;injection h4 with h4 _
  subst h0;subst h1;subst h4
  exact hn h2))
 have b1:=bs_eq hk
 have HNM:=Hd (nameV_no hn)
 clear hk hn
 go_enter Tryz.func90,Tryz.ntmps90
 go_wp2_with fail
 refine HC.out.mono ?_
 rintro e w1 ⟨rfl,hw1⟩
 have hP:=Part3.new w k net x
 rw [← hw1] at hP
 clear hw1
 have c0:=hP.c0
 have c1:=hP.c1
 have c2:=hP.c2
 go_wp2_with fail
 refine (name_txt net (Nat.le_trans hnl (by decide)) _).mono ?_
 rintro e w2 ⟨rfl,hb2⟩
 rw [HNM.out]
 have hP2:=hP.step hb2
 clear c0 c1 c2 hb2
 have c1:=hP2.c1
 have c2:=hP2.c2
 go_wp2
 go_ret3
 exact ⟨by rw [HR.out];rfl,hP2.be⟩
theorem readA_3 (key k net x:List UInt8) (hsp:splitL 47 key=[k,net,x]) (hlen:key.length < 4294967281) (hk:k=[97]) (hn:nameB net=true) (hx:x.length≠8) {B:Nat} (w:World) (hB:B≤w.heap.size) (hV:TxtV B w) :
  Calls Tryz.prog 90 #[txt key] w fun e w'=>e=.returned (ReadAV (keyI key))∧Below w.heap.size w w':=by
 have hc:=split_any key 47 hlen w hV
 rw [hsp] at hc
 simp only [List.length_cons,List.length_nil,Nat.zero_add,Nat.reduceAdd] at hc
 have HC:=Hd hc
 clear hc
 have hnl:net.length≤100000000000:=by have:=split_len (c:=47) (s:=key) (p:=net) (by rw [hsp];simp);omega
 have hxl:x.length≤100000000000:=by have:=split_len (c:=47) (s:=key) (p:=x) (by rw [hsp];simp);omega
 have hk:keyI key=keyW [k,net,x]:=by unfold keyI;rw [hsp]
 rw [hk]
 clear hk hsp
 have HR:=Hd (readAV_no (ps:=[k,net,x]) (by
  rintro ⟨net',x',a,h1,h2,h3⟩
  injection h1 with h0 h1;injection h1 with h1 h4;injection h4 with h4 _
  subst h0;subst h1;subst h4
  unfold addrV at h3;rw [if_neg hx] at h3;cases h3))
 have b1:=bs_eq hk
 have HNM:=Hd (nameV_yes hn)
 have hx8:((x.length:Int) != 8)=true:=by rw [bne_iff_ne];omega
 clear hk hn hx
 go_enter Tryz.func90,Tryz.ntmps90
 go_wp2_with fail
 refine HC.out.mono ?_
 rintro e w1 ⟨rfl,hw1⟩
 have hP:=Part3.new w k net x
 rw [← hw1] at hP
 clear hw1
 have c0:=hP.c0
 have c1:=hP.c1
 have c2:=hP.c2
 go_wp2_with fail
 refine (name_txt net (Nat.le_trans hnl (by decide)) _).mono ?_
 rintro e w2 ⟨rfl,hb2⟩
 rw [HNM.out]
 have hP2:=hP.step hb2
 clear c0 c1 c2 hb2
 have c1:=hP2.c1
 have c2:=hP2.c2
 go_wp2
 go_ret3
 exact ⟨by rw [HR.out];rfl,hP2.be⟩
theorem readA_4 (key k net x:List UInt8) (hsp:splitL 47 key=[k,net,x]) (hlen:key.length < 4294967281) (hk:k=[97]) (hn:nameB net=true) (hx:x.length=8) (hv:hexV 0 x=none) {B:Nat} (w:World) (hB:B≤w.heap.size) (hV:TxtV B w) :
  Calls Tryz.prog 90 #[txt key] w fun e w'=>e=.returned (ReadAV (keyI key))∧Below w.heap.size w w':=by
 have hc:=split_any key 47 hlen w hV
 rw [hsp] at hc
 simp only [List.length_cons,List.length_nil,Nat.zero_add,Nat.reduceAdd] at hc
 have HC:=Hd hc
 clear hc
 have hnl:net.length≤100000000000:=by have:=split_len (c:=47) (s:=key) (p:=net) (by rw [hsp];simp);omega
 have hxl:x.length≤100000000000:=by have:=split_len (c:=47) (s:=key) (p:=x) (by rw [hsp];simp);omega
 have hk:keyI key=keyW [k,net,x]:=by unfold keyI;rw [hsp]
 rw [hk]
 clear hk hsp
 have HR:=Hd (readAV_no (ps:=[k,net,x]) (by
  rintro ⟨net',x',a,h1,h2,h3⟩
  injection h1 with h0 h1;injection h1 with h1 h4;injection h4 with h4 _
  subst h0;subst h1;subst h4
  unfold addrV at h3;rw [if_pos hx,hv] at h3;cases h3))
 have hx8:((x.length:Int) != 8)=false:=by rw [hx];rfl
 have HNUM:=Hd (number16 ⟨x.toArray⟩ (by rw [data_size];omega) (by rw [data_size];omega))
 rw [data_toList,hv,numV_no] at HNUM
 have b1:=bs_eq hk
 have HNM:=Hd (nameV_yes hn)
 clear hk hn hx hv
 go_enter Tryz.func90,Tryz.ntmps90
 go_wp2_with fail
 refine HC.out.mono ?_
 rintro e w1 ⟨rfl,hw1⟩
 have hP:=Part3.new w k net x
 rw [← hw1] at hP
 clear hw1
 have c0:=hP.c0
 have c1:=hP.c1
 have c2:=hP.c2
 go_wp2_with fail
 refine (name_txt net (Nat.le_trans hnl (by decide)) _).mono ?_
 rintro e w2 ⟨rfl,hb2⟩
 rw [HNM.out]
 have hP2:=hP.step hb2
 clear c0 c1 c2 hb2
 have c1:=hP2.c1
 have c2:=hP2.c2
 go_wp2_with fail
 refine (HNUM.out _).mono ?_
 rintro e w3 ⟨rfl,hb3⟩
 have hP3:=hP2.step hb3
 clear c1 c2 hb3
 have c1:=hP3.c1
 have c2:=hP3.c2
 go_wp2
 go_ret3
 exact ⟨by rw [HR.out];rfl,hP3.be⟩
theorem readA_5 (key k net x:List UInt8) (hsp:splitL 47 key=[k,net,x]) (hlen:key.length < 4294967281) (hk:k=[97]) (hn:nameB net=true) (hx:x.length=8) (a:Nat) (hv:hexV 0 x=some a) {B:Nat} (w:World) (hB:B≤w.heap.size) (hV:TxtV B w) :
  Calls Tryz.prog 90 #[txt key] w fun e w'=>e=.returned (ReadAV (keyI key))∧Below w.heap.size w w':=by
 have hc:=split_any key 47 hlen w hV
 rw [hsp] at hc
 simp only [List.length_cons,List.length_nil,Nat.zero_add,Nat.reduceAdd] at hc
 have HC:=Hd hc
 clear hc
 have hnl:net.length≤100000000000:=by have:=split_len (c:=47) (s:=key) (p:=net) (by rw [hsp];simp);omega
 have hxl:x.length≤100000000000:=by have:=split_len (c:=47) (s:=key) (p:=x) (by rw [hsp];simp);omega
 have hk:keyI key=keyW [k,net,x]:=by unfold keyI;rw [hsp]
 rw [hk]
 clear hk hsp
 have HR:=Hd (show ReadAV (keyW [k,net,x])=.tuple #[txt net,.int .i64 (a:Int),.nilIface] by
  have:keyW [k,net,x]=⟨3,net,0,0,a⟩:=by rw [keyW3,if_pos hn,if_pos hk];unfold addrV;rw [if_pos hx,hv]
  rw [this];rfl)
 have hx8:((x.length:Int) != 8)=false:=by rw [hx];rfl
 have HNUM:=Hd (number16 ⟨x.toArray⟩ (by rw [data_size];omega) (by rw [data_size];omega))
 rw [data_toList,hv,numV_yes] at HNUM
 have b1:=bs_eq hk
 have HNM:=Hd (nameV_yes hn)
 clear hk hn hx hv
 go_enter Tryz.func90,Tryz.ntmps90
 go_wp2_with fail
 refine HC.out.mono ?_
 rintro e w1 ⟨rfl,hw1⟩
 have hP:=Part3.new w k net x
 rw [← hw1] at hP
 clear hw1
 have c0:=hP.c0
 have c1:=hP.c1
 have c2:=hP.c2
 go_wp2_with fail
 refine (name_txt net (Nat.le_trans hnl (by decide)) _).mono ?_
 rintro e w2 ⟨rfl,hb2⟩
 rw [HNM.out]
 have hP2:=hP.step hb2
 clear c0 c1 c2 hb2
 have c1:=hP2.c1
 have c2:=hP2.c2
 go_wp2_with fail
 refine (HNUM.out _).mono ?_
 rintro e w3 ⟨rfl,hb3⟩
 have hP3:=hP2.step hb3
 clear c1 c2 hb3
 have c1:=hP3.c1
 have c2:=hP3.c2
 go_wp2
 go_ret3
 exact ⟨by rw [HR.out];rfl,hP3.be⟩
theorem readA_0 (key:List UInt8) (h3:(splitL 47 key).length≠3) (hlen:key.length < 4294967281) {B:Nat} (w:World) (hB:B≤w.heap.size) (hV:TxtV B w) :
  Calls Tryz.prog 90 #[txt key] w fun e w'=>e=.returned (ReadAV (keyI key))∧Below w.heap.size w w':=by
 have HC:=Hd (split_any key 47 hlen w hV)
 have hcnt:=split_cnt 47 key
 have hk:keyI key=keyW (splitL 47 key):=rfl
 rw [hk]
 clear hk
 have HR:=Hd (readAV_no (ps:=splitL 47 key) (by rintro ⟨net,x,a,h1,_,_⟩;rw [h1] at h3;exact h3 rfl))
 have h3':(((splitL 47 key).length:Int) != 3)=true:=by rw [bne_iff_ne];omega
 generalize splitL 47 key=ps at *
 clear h3
 go_enter Tryz.func90,Tryz.ntmps90
 go_wp2_with fail
 refine HC.out.mono ?_
 rintro e w1 ⟨rfl,hw1⟩
 have hbe:Below w.heap.size w w1:=by rw [hw1];exact (Below.refl _ _).alloc (Nat.le_refl _) _
 clear hw1
 go_wp2
 go_ret3
 exact ⟨by rw [HR.out];rfl,hbe⟩
theorem readAddr_any (key:List UInt8) (hlen:key.length < 4294967281) {B:Nat} (w:World) (hB:B≤w.heap.size) (hV:TxtV B w) :
  Calls Tryz.prog 90 #[txt key] w fun e w'=>e=.returned (ReadAV (keyI key))∧Below w.heap.size w w':=by
 by_cases h3:(splitL 47 key).length=3
 ·obtain ⟨k,net,x,hs⟩:=list3 h3
  by_cases hk:k=[97]
  ·by_cases hn:nameB net=true
   ·by_cases hx:x.length=8
    ·cases hv:hexV 0 x with
     | none=>exact readA_4 key k net x hs hlen hk hn hx hv w hB hV
     | some a=>exact readA_5 key k net x hs hlen hk hn hx a hv w hB hV
    ·exact readA_3 key k net x hs hlen hk hn hx w hB hV
   ·exact readA_2 key k net x hs hlen hk hn w hB hV
  ·exact readA_1 key k net x hs hlen hk w hB hV
 ·exact readA_0 key h3 hlen w hB hV
end Go.Proofs.YtkckcbhnnllkhaaGreatDoor
