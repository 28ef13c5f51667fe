/- Parts of the proof; conditions: as each theorem says. -/
import Derived.Test.YtkckcbhnnllkhaaGreatDoorG43
import Derived.Test.YtkckcbhnnllkhaaGreatDoorG44
import Derived.Test.YtkckcbhnnllkhaaGreatDoorG11
import Derived.Deep.RegionHeld3
import Derived.Test.YtkckcbhnnllkhaaGreatDoorG47
import Derived.Test.YtkckcbhnnllkhaaGreatDoorG37
import Derived.Test.YtkckcbhnnllkhaaGreatDoorG48
import Derived.Test.YtkckcbhnnllkhaaGreatDoorG16
import Derived.Test.YtkckcbhnnllkhaaGreatDoorG41
import Derived.BigRegion
set_option linter.unusedVariables false
set_option linter.unusedSimpArgs false
set_option maxRecDepth 100000
set_option maxHeartbeats 40000000
namespace Go.Proofs.YtkckcbhnnllkhaaGreatDoor
open Go.RowKit
section
variable {B : Nat} {w : World} {T : Nat → Prop} {d : Nat} {g : Dk} {id : Int} {k : Nat}
theorem lo_bytes (kb:UInt8) (net:List UInt8):({ data:=#[kb] }:ByteArray)++{ data:=#[47] }++{ data:=net.toArray }++{ data:=#[47] }=⟨(loK kb net).toArray⟩:=by
 rw [show ({ data:=#[kb] }:ByteArray)=⟨[kb].toArray⟩ from rfl,show ({ data:=#[47] }:ByteArray)=⟨[47].toArray⟩ from rfl,ByteArray.mk_append_mk,ByteArray.mk_append_mk,ByteArray.mk_append_mk]
 rfl
theorem hi_bytes (kb:UInt8) (net:List UInt8):({ data:=#[kb] }:ByteArray)++{ data:=#[47] }++{ data:=net.toArray }++{ data:=#[48] }=⟨(hiK kb net).toArray⟩:=by
 rw [show ({ data:=#[kb] }:ByteArray)=⟨[kb].toArray⟩ from rfl,show ({ data:=#[47] }:ByteArray)=⟨[47].toArray⟩ from rfl,show ({ data:=#[48] }:ByteArray)=⟨[48].toArray⟩ from rfl,ByteArray.mk_append_mk,ByteArray.mk_append_mk,ByteArray.mk_append_mk]
 rfl
theorem DK.all (h:DK B w T d g k) (hk:k≤40000) (hid:(Lit.int .i64 id).wf=true) (c:PCall) (hc:CallOk c) (kb:UInt8) :
  Calls Tryz.prog 115 #[workV d id c,.string ⟨#[kb]⟩] w fun e w'=>∃ v,e=.returned (.tuple #[v,faultV (g.allF id kb c.name).1])∧OwnKV w' w.heap.size v (g.allL id kb c.name)∧((g.allL id kb c.name).length≤1000000∧∀ x ∈ g.allL id kb c.name,x.1.length≤24)∧DKto B w T d w' T (g.allF id kb c.name).2 k:=by
 have hD1:=h.refl.alloc (.cells (workCells d id c) 120)
 have hL1:=Loc.new h 120 (workCells d id c)
 have e0:=hL1.blk.cell 0
 have e1:=hL1.blk.cell 1
 have e3:=hL1.blk.cell 3
 simp [workCells] at e0 e1 e3
 have hnl:=hc.name
 have hl1:(loK kb c.name).length≤maxLen:=by unfold loK maxLen;simp;omega
 have hl2:(hiK kb c.name).length≤maxLen:=by unfold hiK maxLen;simp;omega
 have hG:Calls Tryz.prog 136 #[ptrV d,intV id,txt (loK kb c.name),txt (hiK kb c.name)] (w.alloc (.cells (workCells d id c) 120)) fun e w'=>∃ v,e=.returned (.tuple #[v,faultV (g.allF id kb c.name).1])∧OwnKV w' w.heap.size v (g.allL id kb c.name)∧((g.allL id kb c.name).length≤1000000∧∀ x ∈ g.allL id kb c.name,x.1.length≤24)∧DKto B w T d w' T (g.allF id kb c.name).2 k :=
  (hD1.dk.range hk hid _ _ hl1 hl2).mono fun e w' q=>by
   obtain ⟨v,q1,q2,q3,q4⟩:=q
   exact ⟨v,q1,own_of_base q2 (by simp),q3,hD1.step q4⟩
 unfold workCells at hG
 have HG:=Hd hG
 have HLO:=Hd (lo_bytes kb c.name)
 have HHI:=Hd (hi_bytes kb c.name)
 have q1:¬ (9223372036854775807 < 1+1+c.name.length):=by omega
 have q2:¬ (9223372036854775807 < 1+1+c.name.length+1):=by omega
 have q3:¬ (9223372036854775807 < 2+c.name.length):=by omega
 have q4:¬ (9223372036854775807 < 2+c.name.length+1):=by omega
 clear hG hD1 hL1 hl1 hl2
 generalize g.allF id kb c.name=r at *
 generalize g.allL id kb c.name=L at *
 generalize loK kb c.name=lo at *
 generalize hiK kb c.name=hi at *
 unfold workV
 go_enter Tryz.func115,Tryz.ntmps115
 go_wp2_with fail
 rw [HLO.out,HHI.out]
 refine HG.out.mono ?_
 rintro e w2 ⟨v,rfl,hR⟩
 replace hR:=Hd hR
 clear e0 e1 e3 HG
 go_wp2
 go_ret2
 exact ⟨v,rfl,hR.out⟩
end
theorem readAll_snoc {α:Type} (f:KV→Option α):∀ (l:List KV) (out:List α) (x:KV) (y:α),readAll f l=some out→f x=some y→readAll f (l++[x])=some (out++[y])
 | [],out,x,y,h,hx=>by
  simp [readAll] at h
  subst h
  simp [readAll,hx]
 | z::l,out,x,y,h,hx=>by
  unfold readAll at h
  cases hz:f z with
  | none=>rw [hz] at h;simp at h
  | some a =>
   cases hl:readAll f l with
   | none=>rw [hz,hl] at h;simp at h
   | some r =>
    rw [hz,hl] at h
    simp at h
    subst h
    have ih:=readAll_snoc f l r x y hl hx
    rw [List.cons_append]
    unfold readAll
    rw [hz,ih]
    rfl
theorem readAll_none {α:Type} (f:KV→Option α):∀ (l:List KV) (x:KV),x ∈ l→f x=none→readAll f l=none
 | z::l,x,hx,h=>by
  unfold readAll
  rcases List.mem_cons.1 hx with rfl | hx
  ·rw [h]
  ·rw [readAll_none f l x hx h]
   cases f z <;> rfl
theorem readAll_mem {α:Type} (f:KV→Option α):∀ (l:List KV) (out:List α),readAll f l=some out→∀ y ∈ out,∃ x ∈ l,f x=some y
 | [],out,h,y,hy=>by simp [readAll] at h;subst h;simp at hy
 | z::l,out,h,y,hy=>by
  unfold readAll at h
  cases hz:f z with
  | none=>rw [hz] at h;simp at h
  | some a =>
   cases hl:readAll f l with
   | none=>rw [hz,hl] at h;simp at h
   | some r =>
    rw [hz,hl] at h
    simp at h
    subst h
    rcases List.mem_cons.1 hy with rfl | hy
    ·exact ⟨z,List.mem_cons_self,hz⟩
    ·obtain ⟨x,h1,h2⟩:=readAll_mem f l r hl y hy
     exact ⟨x,List.mem_cons_of_mem _ h1,h2⟩
theorem keyI_pfx {key:List UInt8} (h:(keyI key).kind=2):chk ((keyI key).pa:Int) ((keyI key).pn:Int)=0:=by
 obtain ⟨net,x,a,n,h1,h2,h3,h4⟩:=keyW_kind2 h
 have e:keyI key=⟨2,net,a,n,0⟩:=h4
 rw [e]
 unfold pfxV at h3
 split at h3
 ·split at h3
  ·split at h3
   ·rename_i hc
    injection h3 with h3
    injection h3 with h5 h6
    subst h5;subst h6
    exact hc
   ·cases h3
  ·cases h3
 ·cases h3
theorem pfxO_chk {x:KV} {p:Pf} (h:pfxO x=some p):chk p.1 p.2=0:=by
 unfold pfxO at h
 split at h
 ·rename_i hk
  injection h with h
  subst h
  exact keyI_pfx hk
 ·cases h
theorem addrV_lt5 {x:List UInt8} {a:Nat} (h:addrV x=some a):a < 4294967296:=by
 unfold addrV at h
 split at h
 ·rename_i h8
  have:=hexV_lt x 0 a h
  rw [h8] at this
  simpa using this
 ·cases h
theorem adO_is {x:KV} {a:Int} (h:adO x=some a):isA a=true:=by
 unfold adO at h
 split at h
 ·rename_i hk
  injection h with h
  subst h
  obtain ⟨net,y,a,h1,h2,h3,h4⟩:=keyW_kind3 hk
  have e:keyI x.1=⟨3,net,0,0,a⟩:=h4
  rw [e]
  have:=addrV_lt5 h3
  exact isA_true.2 ⟨by show (0:Int)≤(a:Int);omega,by show (a:Int)≤4294967295;omega⟩
 ·cases h
theorem pfxsL_chk (g:Dk) (id:Int) (net:List UInt8):∀ p ∈ g.pfxsL id net,chk p.1 p.2=0:=by
 intro p hp
 unfold Dk.pfxsL listL at hp
 split at hp
 ·cases hp
 ·cases hr:readAll pfxO (g.allL id 112 net) with
  | none=>rw [hr] at hp;cases hp
  | some l =>
   rw [hr] at hp
   obtain ⟨x,_,hx⟩:=readAll_mem _ _ _ hr p hp
   exact pfxO_chk hx
theorem adsL_is (g:Dk) (id:Int) (net:List UInt8):∀ a ∈ g.adsL id net,isA a=true:=by
 intro p hp
 unfold Dk.adsL listL at hp
 split at hp
 ·cases hp
 ·cases hr:readAll adO (g.allL id 97 net) with
  | none=>rw [hr] at hp;cases hp
  | some l =>
   rw [hr] at hp
   obtain ⟨x,_,hx⟩:=readAll_mem _ _ _ hr p hp
   exact adO_is hx
def OwnI64 (w:World) (base:Nat) (e:TypeId) (v:Value) (l:List Int):Prop:=w.ownsRow base e 1 v l.length (l.map (Value.int .i64))
theorem OwnI64.nil (w:World) (base:Nat) (e:TypeId):OwnI64 w base e (.slice none 0 0) []:=World.ownsRow_nil _ _ _ _
theorem OwnI64.below {w w':World} {base:Nat} {e:TypeId} {v:Value} {l:List Int} (h:OwnI64 w base e v l) (hb:Below w.heap.size w w'):OwnI64 w' base e v l:=own_below h hb
theorem OwnI64.form {w:World} {base:Nat} {e:TypeId} {v:Value} {l:List Int} (h:OwnI64 w base e v l):∃ A c,v=.slice A l.length c∧Rd w w.heap.size A (l.map (Value.int .i64)):=own_form h
theorem infoPf:(Tryz.prog.info? 31).map (fun i=>(i.zero,i.size,i.bytes))=some (some (.agg #[.int .i64 0,.int .i64 0]),2,16):=by kernel_rfl
theorem infoI64:(Tryz.prog.info? 3).map (fun i=>(i.zero,i.size,i.bytes))=some (some (.int .i64 0),1,8):=by kernel_rfl
section
variable {B : Nat} {w : World} {T : Nat → Prop} {d : Nat} {g : Dk} {id : Int} {k : Nat}
theorem DK.prefixes (h:DK B w T d g k) (hk:k≤40000) (hid:(Lit.int .i64 id).wf=true) (c:PCall) (hc:CallOk c) :
  Calls Tryz.prog 71 #[workV d id c] w fun e w'=>∃ v,e=.returned (.tuple #[v,faultV (g.pfxsE id c.name)])∧OwnP w' w.heap.size 31 v (g.pfxsL id c.name)∧(g.pfxsL id c.name).length≤1000000∧DKto B w T d w' T (g.allF id 112 c.name).2 k:=by
 have hD1:=h.refl.alloc (.cells (workCells d id c) 120)
 have hL1:=Loc.new h 120 (workCells d id c)
 obtain ⟨e0,e1,e2,e3,e4,e5,e6,e7,e8⟩:=hL1.blk.cls9
 simp [workCells] at e0 e1 e2 e3 e4 e5 e6 e7 e8
 have hG:=(hD1.dk.all hk hid c hc 112).mono fun e w' q=>show ∃ v,e=.returned (.tuple #[v,faultV (g.allF id 112 c.name).1])∧OwnKV w' (w.heap.size+1) v (g.allL id 112 c.name)∧((g.allL id 112 c.name).length≤1000000∧∀ x ∈ g.allL id 112 c.name,x.1.length≤24)∧DKto B w T d w' T (g.allF id 112 c.name).2 k by
  obtain ⟨v,q1,q2,q3,q4⟩:=q
  exact ⟨v,q1,by simpa using q2,q3,hD1.step q4⟩
 unfold workCells at hG
 have HG:=Hd hG
 have HV:=Hd (show g.pfxsE id c.name=faultL (g.allF id 112 c.name).1 (readAll pfxO (g.allL id 112 c.name))∧g.pfxsL id c.name=listL (g.allF id 112 c.name).1 (readAll pfxO (g.allL id 112 c.name)) from ⟨rfl,rfl⟩)
 clear hG hD1 hL1
 generalize g.pfxsE id c.name=RE at *
 generalize g.pfxsL id c.name=RL at *
 generalize g.allF id 112 c.name=r at *
 generalize g.allL id 112 c.name=L at *
 unfold workV
 go_enter Tryz.func71,Tryz.ntmps71
 go_wp2_with fail
 refine HG.out.mono ?_
 rintro e w2 ⟨v,rfl,hown2,⟨hLl,hkl⟩,hD2⟩
 have HKL:=Hd hkl
 clear hkl
 have hsz:=hD2.size
 have HD2:=Hd hD2
 clear e0 e1 e2 e3 e4 e5 e6 e7 e8 HG hD2
 by_cases h0:r.1=0
 ·rw [show faultV r.1=.nilIface by unfold faultV;rw [if_pos h0]]
  have HE:=Hd (show RE=(if (readAll pfxO L).isSome then 0 else 5)∧RL=(readAll pfxO L).getD [] by
   rw [HV.out.1,HV.out.2];unfold faultL listL;rw [if_neg (show ¬ r.1≠0 by rw [h0];simp),if_neg (show ¬ r.1≠0 by rw [h0];simp)];exact ⟨rfl,rfl⟩)
  clear HV h0
  obtain ⟨A,cap,rfl,hrd⟩:=hown2.rd
  clear hown2
  go_wp2
  go_loopw [6,22] (fun o i wr=>∃ (j:Nat) (out:List Pf),j≤L.length∧i=.int .i64 (j:Int)∧OwnP wr w2.heap.size 31 o out∧Below w2.heap.size w2 wr∧Hid (readAll pfxO (L.take j)=some out∧out.length≤j)) (fun _ i _=>L.length - (intOf i).toNat)
  case atStart=>exact ⟨0,[],Nat.zero_le _,rfl,OwnP.nil _ _ _,Below.refl _ _,Hd ⟨rfl,Nat.zero_le _⟩⟩
  case round =>
   obtain ⟨j,out,hj,rfl,hown,hb,HR⟩:=hrel
   by_cases hlt:j < L.length
   ·obtain ⟨b0,of0,rfl,hbb,c0,c1⟩:=(hrd.below hb).kv hlt
    have hkl:=HKL.out L[j] (List.getElem_mem _)
    have hDr:=HD2.out.bel (hb.alloc hb.size (.cells #[txt L[j].1,txt L[j].2] 78))
    have HC:=Hd (readPrefix_any L[j].1 (by omega) _ hDr.dk.le hDr.dk.gv.txt)
    have hbs:=hb.size
    have htk:=List.take_succ_eq_append_getElem hlt
    have HTK:=Hd htk
    have hjl:out.length < 1000000:=by have:=HR.out.2;omega
    clear hDr htk
    by_cases hkind:(keyI L[j].1).kind=2
    ·have hpv:ReadPV (keyI L[j].1)=.tuple #[txt (keyI L[j].1).net,.agg #[.int .i64 ((keyI L[j].1).pa:Int),.int .i64 ((keyI L[j].1).pn:Int)],.nilIface]:=by unfold ReadPV;rw [if_pos hkind]
     have HO:=Hd (show pfxO L[j]=some (((keyI L[j].1).pa:Int),((keyI L[j].1).pn:Int)) by unfold pfxO;rw [if_pos hkind])
     rw [hpv] at HC
     clear hpv hkind hkl
     generalize L[j].1=key at *
     generalize L[j].2=val at *
     generalize (keyI key).net=kn at *
     generalize ((keyI key).pa:Int)=ka at *
     generalize ((keyI key).pn:Int)=kn2 at *
     go_wp2_with fail
     refine HC.out.mono ?_
     rintro e w4 ⟨rfl,hb4⟩
     have hown4:=(hown.below ((Below.refl _ _).alloc (Nat.le_refl _) (.cells #[txt key,txt val] 78))).below hb4
     have hb5:Below w2.heap.size w2 w4:=(hb.alloc hbs _).trans (hb4.mono (by simp;omega))
     have hb5s:=hb5.size
     clear hown hb4 HC
     go_upto_region 9 with fail
     refine wp_name (fun w5 HW=>?_)
     have hown5:=hown4.alloc (.cells #[.int .i64 ka,.int .i64 kn2] 31)
     have hbk5:=Blk.new w4 31 #[.int .i64 ka,.int .i64 kn2]
     have hb5':=hb5.alloc hb5s (.cells #[.int .i64 ka,.int .i64 kn2] 31)
     rw [← HW.out] at hown5 hbk5 hb5'
     clear HW hown4 hb5 hb5s
     generalize w4.heap.size=g4 at *
     have hb5s:=hb5'.size
     obtain ⟨d0,d1,d2,d3⟩:=hbk5.two
     clear hbk5
     go_wp2_with (at_builtin;go_loud (refine wpList_append_pair (p:=(ka,kn2)) rfl _ _ 44 rfl Tryz.underlying44 infoPf w2.heap.size _ _ rfl hown5 rfl (by omega) (by omega) ?_);intro v6 w6 hown6 hb6)
     go_roundw
     case rel =>
      refine ⟨j+1,out++[_],by omega,by go_num,hown6,hb5'.trans hb6,Hd ⟨?_,?_⟩⟩
      ·rw [HTK.out];exact readAll_snoc _ _ _ _ _ HR.out.1 HO.out
      ·have:=HR.out.2;simp;omega
     case measure=>simp [intOf];omega
    ·have hpv:ReadPV (keyI L[j].1)=NoPV:=by unfold ReadPV;rw [if_neg hkind];rfl
     have HO:=Hd (show readAll pfxO L=none from readAll_none _ _ L[j] (List.getElem_mem _) (by unfold pfxO;rw [if_neg hkind]))
     have HX:=Hd (show RE=5∧RL=[] by rw [HE.out.1,HE.out.2,HO.out];exact ⟨rfl,rfl⟩)
     rw [hpv] at HC
     clear hpv hkind hkl
     unfold NoPV at HC
     generalize L[j].1=key at *
     generalize L[j].2=val at *
     go_wp2_with fail
     refine HC.out.mono ?_
     rintro e w4 ⟨rfl,hb4⟩
     have hb5:Below w2.heap.size w2 w4:=(hb.alloc hbs _).trans (hb4.mono (by simp;omega))
     have hb5s:=hb5.size
     clear hown hb4 HC
     go_wp2
     go_ret2
     refine ⟨_,by rw [HX.out.1];rfl,?_,by rw [HX.out.2];simp,HD2.out.bel (hb5.alloc hb5s _)⟩
     rw [HX.out.2]
     exact OwnP.nil _ _ _
   ·obtain rfl:j=L.length:=by omega
    have HX:=Hd (show RE=0∧RL=out by
     have h1:=HR.out.1
     rw [List.take_length] at h1
     rw [HE.out.1,HE.out.2,h1];exact ⟨rfl,rfl⟩)
    go_wp2
    go_ret2
    refine ⟨_,by rw [HX.out.1];rfl,?_,by rw [HX.out.2];have:=HR.out.2;omega,HD2.out.bel hb⟩
    rw [HX.out.2]
    exact own_of_base hown hsz
 ·have hf:faultV r.1=.iface 71 (.int .i64 r.1):=by unfold faultV;rw [if_neg h0]
  have HX:=Hd (show RE=r.1∧RL=[] by rw [HV.out.1,HV.out.2];unfold faultL listL;rw [if_pos h0,if_pos h0];exact ⟨rfl,rfl⟩)
  have HF:=Hd hf
  rw [hf]
  clear hf h0
  generalize r.1=re at *
  go_wp2
  go_ret2
  refine ⟨_,by rw [HX.out.1,HF.out];rfl,?_,by rw [HX.out.2];simp,HD2.out⟩
  rw [HX.out.2]
  exact OwnP.nil _ _ _
theorem DK.addresses (h:DK B w T d g k) (hk:k≤40000) (hid:(Lit.int .i64 id).wf=true) (c:PCall) (hc:CallOk c) :
  Calls Tryz.prog 113 #[workV d id c] w fun e w'=>∃ v,e=.returned (.tuple #[v,faultV (g.adsE id c.name)])∧OwnI64 w' w.heap.size 3 v (g.adsL id c.name)∧(g.adsL id c.name).length≤1000000∧DKto B w T d w' T (g.allF id 97 c.name).2 k:=by
 have hD1:=h.refl.alloc (.cells (workCells d id c) 120)
 have hL1:=Loc.new h 120 (workCells d id c)
 obtain ⟨e0,e1,e2,e3,e4,e5,e6,e7,e8⟩:=hL1.blk.cls9
 simp [workCells] at e0 e1 e2 e3 e4 e5 e6 e7 e8
 have hG:=(hD1.dk.all hk hid c hc 97).mono fun e w' q=>show ∃ v,e=.returned (.tuple #[v,faultV (g.allF id 97 c.name).1])∧OwnKV w' (w.heap.size+1) v (g.allL id 97 c.name)∧((g.allL id 97 c.name).length≤1000000∧∀ x ∈ g.allL id 97 c.name,x.1.length≤24)∧DKto B w T d w' T (g.allF id 97 c.name).2 k by
  obtain ⟨v,q1,q2,q3,q4⟩:=q
  exact ⟨v,q1,by simpa using q2,q3,hD1.step q4⟩
 unfold workCells at hG
 have HG:=Hd hG
 have HV:=Hd (show g.adsE id c.name=faultL (g.allF id 97 c.name).1 (readAll adO (g.allL id 97 c.name))∧g.adsL id c.name=listL (g.allF id 97 c.name).1 (readAll adO (g.allL id 97 c.name)) from ⟨rfl,rfl⟩)
 clear hG hD1 hL1
 generalize g.adsE id c.name=RE at *
 generalize g.adsL id c.name=RL at *
 generalize g.allF id 97 c.name=r at *
 generalize g.allL id 97 c.name=L at *
 unfold workV
 go_enter Tryz.func113,Tryz.ntmps113
 go_wp2_with fail
 refine HG.out.mono ?_
 rintro e w2 ⟨v,rfl,hown2,⟨hLl,hkl⟩,hD2⟩
 have HKL:=Hd hkl
 clear hkl
 have hsz:=hD2.size
 have HD2:=Hd hD2
 clear e0 e1 e2 e3 e4 e5 e6 e7 e8 HG hD2
 by_cases h0:r.1=0
 ·rw [show faultV r.1=.nilIface by unfold faultV;rw [if_pos h0]]
  have HE:=Hd (show RE=(if (readAll adO L).isSome then 0 else 5)∧RL=(readAll adO L).getD [] by
   rw [HV.out.1,HV.out.2];unfold faultL listL;rw [if_neg (show ¬ r.1≠0 by rw [h0];simp),if_neg (show ¬ r.1≠0 by rw [h0];simp)];exact ⟨rfl,rfl⟩)
  clear HV h0
  obtain ⟨A,cap,rfl,hrd⟩:=hown2.rd
  clear hown2
  go_wp2
  go_loopw [6,22] (fun o i wr=>∃ (j:Nat) (out:List Int),j≤L.length∧i=.int .i64 (j:Int)∧OwnI64 wr w2.heap.size 3 o out∧Below w2.heap.size w2 wr∧Hid (readAll adO (L.take j)=some out∧out.length≤j)) (fun _ i _=>L.length - (intOf i).toNat)
  case atStart=>exact ⟨0,[],Nat.zero_le _,rfl,OwnI64.nil _ _ _,Below.refl _ _,Hd ⟨rfl,Nat.zero_le _⟩⟩
  case round =>
   obtain ⟨j,out,hj,rfl,hown,hb,HR⟩:=hrel
   by_cases hlt:j < L.length
   ·obtain ⟨b0,of0,rfl,hbb,c0,c1⟩:=(hrd.below hb).kv hlt
    have hkl:=HKL.out L[j] (List.getElem_mem _)
    have hDr:=HD2.out.bel (hb.alloc hb.size (.cells #[txt L[j].1,txt L[j].2] 78))
    have HC:=Hd (readAddr_any L[j].1 (by omega) _ hDr.dk.le hDr.dk.gv.txt)
    have hbs:=hb.size
    have htk:=List.take_succ_eq_append_getElem hlt
    have HTK:=Hd htk
    have hjl:out.length < 1000000:=by have:=HR.out.2;omega
    clear hDr htk
    by_cases hkind:(keyI L[j].1).kind=3
    ·have hpv:ReadAV (keyI L[j].1)=.tuple #[txt (keyI L[j].1).net,.int .i64 ((keyI L[j].1).ad:Int),.nilIface]:=by unfold ReadAV;rw [if_pos hkind]
     have HO:=Hd (show adO L[j]=some ((keyI L[j].1).ad:Int) by unfold adO;rw [if_pos hkind])
     rw [hpv] at HC
     clear hpv hkind hkl
     generalize L[j].1=key at *
     generalize L[j].2=val at *
     generalize (keyI key).net=kn at *
     generalize ((keyI key).ad:Int)=ka at *
     go_wp2_with fail
     refine HC.out.mono ?_
     rintro e w4 ⟨rfl,hb4⟩
     have hown4:=(hown.below ((Below.refl _ _).alloc (Nat.le_refl _) (.cells #[txt key,txt val] 78))).below hb4
     have hb5:Below w2.heap.size w2 w4:=(hb.alloc hbs _).trans (hb4.mono (by simp;omega))
     have hb5s:=hb5.size
     clear hown hb4 HC
     have hown5:=hown4
     go_wp2_with (at_builtin;go_loud (refine wpList_append_one rfl _ _ 57 rfl Tryz.underlying57 (.int .i64 0) 8 infoI64 rfl (by decide) w2.heap.size _ _ _ rfl hown5 rfl rfl (by omega) (by omega) ?_);intro v6 w6 hown6 hb6;have hown6:OwnI64 w6 w2.heap.size 3 v6 (out++[ka]):=by (unfold OwnI64;rw [List.map_append,List.length_append];exact hown6))
     go_roundw
     case rel =>
      refine ⟨j+1,out++[_],by omega,by go_num,hown6,hb5.trans hb6,Hd ⟨?_,?_⟩⟩
      ·rw [HTK.out];exact readAll_snoc _ _ _ _ _ HR.out.1 HO.out
      ·have:=HR.out.2;simp;omega
     case measure=>simp [intOf];omega
    ·have hpv:ReadAV (keyI L[j].1)=NoAV:=by unfold ReadAV;rw [if_neg hkind];rfl
     have HO:=Hd (show readAll adO L=none from readAll_none _ _ L[j] (List.getElem_mem _) (by unfold adO;rw [if_neg hkind]))
     have HX:=Hd (show RE=5∧RL=[] by rw [HE.out.1,HE.out.2,HO.out];exact ⟨rfl,rfl⟩)
     rw [hpv] at HC
     clear hpv hkind hkl
     unfold NoAV at HC
     generalize L[j].1=key at *
     generalize L[j].2=val at *
     go_wp2_with fail
     refine HC.out.mono ?_
     rintro e w4 ⟨rfl,hb4⟩
     have hb5:Below w2.heap.size w2 w4:=(hb.alloc hbs _).trans (hb4.mono (by simp;omega))
     have hb5s:=hb5.size
     clear hown hb4 HC
     go_wp2
     go_ret2
     refine ⟨_,by rw [HX.out.1];rfl,?_,by rw [HX.out.2];simp,HD2.out.bel hb5⟩
     rw [HX.out.2]
     exact OwnI64.nil _ _ _
   ·obtain rfl:j=L.length:=by omega
    have HX:=Hd (show RE=0∧RL=out by
     have h1:=HR.out.1
     rw [List.take_length] at h1
     rw [HE.out.1,HE.out.2,h1];exact ⟨rfl,rfl⟩)
    go_wp2
    go_ret2
    refine ⟨_,by rw [HX.out.1];rfl,?_,by rw [HX.out.2];have:=HR.out.2;omega,HD2.out.bel hb⟩
    rw [HX.out.2]
    exact own_of_base hown hsz
 ·have hf:faultV r.1=.iface 71 (.int .i64 r.1):=by unfold faultV;rw [if_neg h0]
  have HX:=Hd (show RE=r.1∧RL=[] by rw [HV.out.1,HV.out.2];unfold faultL listL;rw [if_pos h0,if_pos h0];exact ⟨rfl,rfl⟩)
  have HF:=Hd hf
  rw [hf]
  clear hf h0
  generalize r.1=re at *
  go_wp2
  go_ret2
  refine ⟨_,by rw [HX.out.1,HF.out];rfl,?_,by rw [HX.out.2];simp,HD2.out⟩
  rw [HX.out.2]
  exact OwnI64.nil _ _ _
end
theorem chk_32 {a:Int} (h:isA a=true):chk a 32=0:=by
 have:=isA_true.1 h
 refine chk_zero.2 ⟨by omega,by omega,by omega,by omega,?_⟩
 show a % sz 32=0
 have:sz 32=1:=by decide
 rw [this];omega
theorem in_pl (a:Int) (ha:isA a=true) (p:Pf) (hp:chk p.1 p.2=0) (w:World) :
  Calls Tryz.prog 114 #[.int .i64 a,.agg #[.int .i64 p.1,.int .i64 p.2]] w fun e w'=>e=.returned (.bool (inA a p))∧Below w.heap.size w w':=by
 have HI:=Hd (in_any a 32 p.1 p.2 (chk_32 ha) hp)
 unfold inA
 go_enter Tryz.func114,Tryz.ntmps114
 go_wp2_with fail
 refine (HI.out _).mono ?_
 rintro e w2 ⟨rfl,hb2⟩
 go_wp2
 go_ret
 exact ⟨rfl,((Below.refl _ _).alloc (Nat.le_refl _) _).trans (hb2.mono (by simp))⟩
theorem cov_snoc (a:Int) (but:Pf) (l:List Pf) (j:Nat) (h:j < l.length):coveredB a (l.take (j+1)) but=(coveredB a (l.take j) but || (decide (l[j]≠but) && inA a l[j])):=by
 unfold coveredB
 rw [List.take_succ_eq_append_getElem h,List.any_append];simp
theorem cov_hit (a:Int) (but:Pf) (l:List Pf) (j:Nat) (h:j < l.length) (q:l[j]≠but) (r:inA a l[j]=true):coveredB a l but=true:=List.any_eq_true.2 ⟨_,List.getElem_mem h,by simp [q,r]⟩
theorem covered_pl (a:Int) (ha:isA a=true) (A:Option Addr) (l:List Pf) (c:Nat) (but:Pf) (hm:l.length≤1000000000) (hl:∀ p ∈ l,chk p.1 p.2=0) (w:World) (hr:Rd w w.heap.size A (cellsP l)) :
  Calls Tryz.prog 73 #[.int .i64 a,.slice A l.length c,.agg #[.int .i64 but.1,.int .i64 but.2]] w fun e w'=>e=.returned (.bool (coveredB a l but))∧Below w.heap.size w w':=by
 have HL:=Hd hl
 have HA:=Hd ha
 have hb0:=Blk.new w 31 #[.int .i64 but.1,.int .i64 but.2]
 have hB0:=(Below.refl w.heap.size w).alloc (Nat.le_refl _) (.cells #[.int .i64 but.1,.int .i64 but.2] 31)
 have hr0:=hr.below hB0
 clear hl ha
 go_enter Tryz.func73,Tryz.ntmps73
 go_upto_region 1 with fail
 refine wp_name (fun w0 HW0=>?_)
 rw [← HW0.out] at hb0 hB0 hr0
 have hz0:w.heap.size < w0.heap.size:=hb0.lt
 clear HW0
 generalize hH:w.heap.size=H at *
 have HH:=Hd hH
 clear hH
 go_wp2
 go_loopw [11] (fun i wr=>∃ j:Nat,j≤l.length∧i=.int .i64 (j:Int)∧Below w0.heap.size w0 wr∧Hid (coveredB a (l.take j) but=false)) (fun i _=>l.length - (intOf i).toNat)
 case atStart=>exact ⟨0,Nat.zero_le _,rfl,Below.refl _ _,Hd rfl⟩
 case round =>
  obtain ⟨j,hj,rfl,hb,HN⟩:=hrel
  by_cases hlt:j < l.length
  ·obtain ⟨b0,of0,rfl,hbb,c0,c1⟩:=((hr0.more (Nat.le_of_lt hz0)).below hb).pair hlt
   have HQ:=Hd (HL.out l[j] (List.getElem_mem _))
   have HS:=Hd (cov_snoc a but l j hlt)
   have HT:=Hd (fun q r=>cov_hit a but l j hlt q r)
   generalize l[j]=p at *
   have hbx:=hb0.below hb hz0
   have hz1:H < wr.heap.size:=hbx.lt
   have hbx':=hbx.alloc (.cells #[.int .i64 p.1,.int .i64 p.2] 31)
   obtain ⟨d0,d1,_,_⟩:=hbx'.two
   obtain ⟨f0,f1,_,_⟩:=(Blk.new wr 31 #[.int .i64 p.1,.int .i64 p.2]).two
   have hs:=hb.size
   have hb1:=hb.alloc hs (.cells #[.int .i64 p.1,.int .i64 p.2] 31)
   have HIN:=Hd (in_pl a HA.out p HQ.out)
   cases hq:decide (p=but) with
   | true =>
    have hq:=of_decide_eq_true hq
    subst hq
    have HF:=Hd (show coveredB a (l.take (j+1)) p=false by rw [HS.out,HN.out];simp)
    clear HS HT HIN HQ
    go_wp2
    go_roundw
    case rel=>exact ⟨j+1,by omega,by go_num,hb1,HF⟩
    case measure=>simp [intOf];omega
   | false =>
    have hq:=of_decide_eq_false hq
    have HNE:=Hd hq
    obtain ⟨p1,p2⟩:=p
    obtain ⟨u1,u2⟩:=but
    by_cases e1:p1=u1
    ·subst e1
     have e2:¬ p2=u2:=fun e=>hq (by rw [e])
     clear hq
     go_wp2_with fail
     refine (HIN.out _).mono ?_
     rintro e w4 ⟨rfl,hb4⟩
     have hb5:=hb1.trans (hb4.mono hb1.size)
     cases hi:inA a (p1,p2) with
     | true =>
      have HF:=Hd (HT.out HNE.out hi)
      clear hi HS HT HIN HQ
      go_wp2
      go_ret
      exact ⟨by rw [HF.out];rfl,by rw [HH.out];exact hB0.trans (hb5.mono (Nat.le_of_lt hz0))⟩
     | false =>
      have HF:=Hd (show coveredB a (l.take (j+1)) (p1,u2)=false by rw [HS.out,HN.out,hi];simp)
      clear hi HS HT HIN HQ
      go_wp2
      go_roundw
      case rel=>exact ⟨j+1,by omega,by go_num,hb5,HF⟩
      case measure=>simp [intOf];omega
    ·clear hq
     go_wp2_with fail
     refine (HIN.out _).mono ?_
     rintro e w4 ⟨rfl,hb4⟩
     have hb5:=hb1.trans (hb4.mono hb1.size)
     cases hi:inA a (p1,p2) with
     | true =>
      have HF:=Hd (HT.out HNE.out hi)
      clear hi HS HT HIN HQ
      go_wp2
      go_ret
      exact ⟨by rw [HF.out];rfl,by rw [HH.out];exact hB0.trans (hb5.mono (Nat.le_of_lt hz0))⟩
     | false =>
      have HF:=Hd (show coveredB a (l.take (j+1)) (u1,u2)=false by rw [HS.out,HN.out,hi];simp)
      clear hi HS HT HIN HQ
      go_wp2
      go_roundw
      case rel=>exact ⟨j+1,by omega,by go_num,hb5,HF⟩
      case measure=>simp [intOf];omega
  ·obtain rfl:j=l.length:=by omega
   have HF:=Hd (show coveredB a l but=false by have:=HN.out;rwa [List.take_length] at this)
   go_wp2
   go_ret
   exact ⟨by rw [HF.out];rfl,by rw [HH.out];exact hB0.trans (hb.mono (Nat.le_of_lt hz0))⟩
theorem withinL_snoc (p:Pf) (l:List Pf) (j:Nat) (h:j < l.length):withinL p (l.take (j+1))=withinL p (l.take j)++(if l[j]≠p∧inP l[j].1 l[j].2 p.1 p.2=true then [l[j]] else []):=by
 unfold withinL
 rw [List.take_succ_eq_append_getElem h,List.filter_append]
 congr 1
 by_cases q:l[j]≠p∧inP l[j].1 l[j].2 p.1 p.2=true
 ·rw [if_pos q,List.filter_cons_of_pos (by simp [q.1,q.2]),List.filter_nil]
 ·rw [if_neg q,List.filter_cons_of_neg (by simp;exact fun e=>by simpa using fun r=>q ⟨e,r⟩),List.filter_nil]
theorem memT_snoc (p:Pf) (l:List Pf) (j:Nat) (h:j < l.length):p ∈ l.take (j+1) ↔ p ∈ l.take j∨l[j]=p:=by
 rw [List.take_succ_eq_append_getElem h,List.mem_append,List.mem_singleton]
 exact ⟨fun q=>q.imp id Eq.symm,fun q=>q.imp id Eq.symm⟩
theorem withinL_len (p:Pf) (l:List Pf):(withinL p l).length≤l.length:=List.length_filter_le _ _
theorem there_pl (p:Pf) (hp:chk p.1 p.2=0) (A:Option Addr) (l:List Pf) (c:Nat) (hm:l.length≤1000000000) (hl:∀ q ∈ l,chk q.1 q.2=0) (w:World) (hr:Rd w w.heap.size A (cellsP l)) :
  Calls Tryz.prog 116 #[.agg #[.int .i64 p.1,.int .i64 p.2],.slice A l.length c] w fun e w'=>∃ v,e=.returned (.tuple #[.bool (decide (p ∈ l)),v])∧OwnP w' w.heap.size 31 v (withinL p l)∧Below w.heap.size w w':=by
 have HL:=Hd hl
 have HP:=Hd hp
 have hb0:=Blk.new w 31 #[.int .i64 p.1,.int .i64 p.2]
 have hB0:=(Below.refl w.heap.size w).alloc (Nat.le_refl _) (.cells #[.int .i64 p.1,.int .i64 p.2] 31)
 have hr0:=hr.below hB0
 clear hl hp
 go_enter Tryz.func116,Tryz.ntmps116
 go_upto_region 1 with fail
 refine wp_name (fun w0 HW0=>?_)
 rw [← HW0.out] at hb0 hB0 hr0
 have hz0:w.heap.size < w0.heap.size:=hb0.lt
 clear HW0
 generalize hH:w.heap.size=H at *
 have HH:=Hd hH
 clear hH
 go_wp2
 go_loopw [6,7,12] (fun s o i wr=>∃ (j:Nat) (b:Bool),j≤l.length∧i=.int .i64 (j:Int)∧s=.bool b∧Below w0.heap.size w0 wr∧OwnP wr w0.heap.size 31 o (withinL p (l.take j))∧Hid (b=decide (p ∈ l.take j))) (fun _ _ i _=>l.length - (intOf i).toNat)
 case atStart=>exact ⟨0,false,Nat.zero_le _,rfl,rfl,Below.refl _ _,OwnP.nil _ _ _,Hd (by simp)⟩
 case round =>
  obtain ⟨j,b,hj,rfl,rfl,hb,hown,HN⟩:=hrel
  by_cases hlt:j < l.length
  ·obtain ⟨b0,of0,rfl,hbb,c0,c1⟩:=((hr0.more (Nat.le_of_lt hz0)).below hb).pair hlt
   have HQ:=Hd (HL.out l[j] (List.getElem_mem _))
   have HS:=Hd (withinL_snoc p l j hlt)
   have HT:=Hd (memT_snoc p l j hlt)
   have hwl:(withinL p (l.take j)).length < 1000000000000:=by have:=withinL_len p (l.take j);simp at this;omega
   generalize withinL p (l.take j)=WL at *
   generalize l[j]=q at *
   have hbx:=hb0.below hb hz0
   have hz1:H < wr.heap.size:=hbx.lt
   have hbx':=hbx.alloc (.cells #[.int .i64 q.1,.int .i64 q.2] 31)
   obtain ⟨d0,d1,_,_⟩:=hbx'.two
   have hbq:=Blk.new wr 31 #[.int .i64 q.1,.int .i64 q.2]
   obtain ⟨f0,f1,_,_⟩:=hbq.two
   have hs:=hb.size
   have hb1:=hb.alloc hs (.cells #[.int .i64 q.1,.int .i64 q.2] 31)
   have hown1:=hown.alloc (.cells #[.int .i64 q.1,.int .i64 q.2] 31)
   have HIN:=Hd (in_any q.1 q.2 p.1 p.2 HQ.out HP.out)
   clear hown
   cases hq:decide (q=p) with
   | true =>
    have hq:=of_decide_eq_true hq
    subst hq
    have HF:=Hd (show withinL q (l.take (j+1))=WL by rw [HS.out,if_neg (fun e=>e.1 rfl),List.append_nil])
    have HM:=Hd (show true=decide (q ∈ l.take (j+1)) from (decide_eq_true (HT.out.2 (.inr rfl))).symm)
    clear HS HT HIN HQ hbq
    go_wp2
    go_roundw
    case rel=>exact ⟨j+1,true,by omega,by go_num,rfl,hb1,by rw [HF.out];exact hown1,HM⟩
    case measure=>simp [intOf];omega
   | false =>
    have hq:=of_decide_eq_false hq
    have HNE:=Hd hq
    have HM:=Hd (show b=decide (p ∈ l.take (j+1)) by rw [HN.out];congr 1;exact propext ⟨fun e=>HT.out.2 (.inl e),fun e=>(HT.out.1 e).resolve_right hq⟩)
    obtain ⟨q1,q2⟩:=q
    obtain ⟨u1,u2⟩:=p
    by_cases e1:q1=u1
    ·subst e1
     have e2:¬ q2=u2:=fun e=>hq (by rw [e])
     clear hq
     go_wp2_with fail
     refine (HIN.out _).mono ?_
     rintro e w4 ⟨rfl,hb4⟩
     have hb5:=hb1.trans (hb4.mono hb1.size)
     have hown4:=hown1.below hb4
     have hbq4:=hbq.below hb4 hbq.lt
     have hs4:=hb5.size
     cases hi:inP q1 q2 q1 u2 with
     | true =>
      have HF:=Hd (show withinL (q1,u2) (l.take (j+1))=WL++[(q1,q2)] by rw [HS.out,if_pos ⟨HNE.out,hi⟩])
      clear hi HS HT HIN HQ hbq hown1 d0 d1 f0 f1
      obtain ⟨f0,f1,_,_⟩:=hbq4.two
      clear hbq4
      generalize wr.heap.size=gq at *
      go_wp2_with (at_builtin;go_loud (refine wpList_append_pair (p:=(q1,q2)) rfl _ _ 44 rfl Tryz.underlying44 infoPf w0.heap.size _ _ rfl hown4 rfl hwl hs4 ?_);intro v6 w6 hown6 hb6)
      go_roundw
      case rel=>exact ⟨j+1,b,by omega,by go_num,rfl,hb5.trans hb6,by rw [HF.out];exact hown6,HM⟩
      case measure=>simp [intOf];omega
     | false =>
      have HF:=Hd (show withinL (q1,u2) (l.take (j+1))=WL by rw [HS.out,if_neg (fun e=>by rw [hi] at e;cases e.2),List.append_nil])
      clear hi HS HT HIN HQ
      go_wp2
      go_roundw
      case rel=>exact ⟨j+1,b,by omega,by go_num,rfl,hb5,by rw [HF.out];exact hown4,HM⟩
      case measure=>simp [intOf];omega
    ·clear hq
     go_wp2_with fail
     refine (HIN.out _).mono ?_
     rintro e w4 ⟨rfl,hb4⟩
     have hb5:=hb1.trans (hb4.mono hb1.size)
     have hown4:=hown1.below hb4
     have hbq4:=hbq.below hb4 hbq.lt
     have hs4:=hb5.size
     cases hi:inP q1 q2 u1 u2 with
     | true =>
      have HF:=Hd (show withinL (u1,u2) (l.take (j+1))=WL++[(q1,q2)] by rw [HS.out,if_pos ⟨HNE.out,hi⟩])
      clear hi HS HT HIN HQ hbq hown1 d0 d1 f0 f1
      obtain ⟨f0,f1,_,_⟩:=hbq4.two
      clear hbq4
      generalize wr.heap.size=gq at *
      go_wp2_with (at_builtin;go_loud (refine wpList_append_pair (p:=(q1,q2)) rfl _ _ 44 rfl Tryz.underlying44 infoPf w0.heap.size _ _ rfl hown4 rfl hwl hs4 ?_);intro v6 w6 hown6 hb6)
      go_roundw
      case rel=>exact ⟨j+1,b,by omega,by go_num,rfl,hb5.trans hb6,by rw [HF.out];exact hown6,HM⟩
      case measure=>simp [intOf];omega
     | false =>
      have HF:=Hd (show withinL (u1,u2) (l.take (j+1))=WL by rw [HS.out,if_neg (fun e=>by rw [hi] at e;cases e.2),List.append_nil])
      clear hi HS HT HIN HQ
      go_wp2
      go_roundw
      case rel=>exact ⟨j+1,b,by omega,by go_num,rfl,hb5,by rw [HF.out];exact hown4,HM⟩
      case measure=>simp [intOf];omega
  ·obtain rfl:j=l.length:=by omega
   have HF:=Hd (show withinL p (l.take l.length)=withinL p l∧b=decide (p ∈ l) by rw [HN.out,List.take_length];exact ⟨rfl,rfl⟩)
   rw [HF.out.1] at hown
   rw [HF.out.2]
   go_wp2
   go_ret2
   exact ⟨_,rfl,by rw [HH.out];exact own_of_base hown (Nat.le_of_lt hz0),by rw [HH.out];exact hB0.trans (hb.mono (Nat.le_of_lt hz0))⟩
theorem name_yes (s:List UInt8) (hs:s.length≤9223372036854775807) (h:nameB s=true) (w:World):Calls Tryz.prog 20 #[txt s] w fun e w'=>e=.returned .nilIface∧Below w.heap.size w w':=by
 have:=name_txt s (by omega) w
 rwa [nameV_yes h] at this
theorem name_not (s:List UInt8) (hs:s.length≤9223372036854775807) (h:nameB s=false) (w:World):Calls Tryz.prog 20 #[txt s] w fun e w'=>e=.returned (.iface 71 (.int .i64 5))∧Below w.heap.size w w':=by
 have:=name_txt s (by omega) w
 rwa [nameV_no (by rw [h];simp)] at this
theorem fault_num {k:Int} (h:k≠0):faultV k=.iface 71 (.int .i64 k):=by unfold faultV;rw [if_neg h]
theorem isA_yes (a:Int) (h:isA a=true) (w:World):Calls Tryz.prog 49 #[.int .i64 a] w fun e w'=>e=.returned (.bool true)∧Below w.heap.size w w' :=
 (is_any a w).mono fun e w' q=>⟨by rw [q.1,h],by rw [← q.2];exact Below.refl _ _⟩
theorem isA_no (a:Int) (h:isA a=false) (w:World):Calls Tryz.prog 49 #[.int .i64 a] w fun e w'=>e=.returned (.bool false)∧Below w.heap.size w w' :=
 (is_any a w).mono fun e w' q=>⟨by rw [q.1,h],by rw [← q.2];exact Below.refl _ _⟩
theorem check_lo (c:PCall) (hc:CallW c) (hw:c.what < 1) (w:World):Calls Tryz.prog 42 #[CallV c] w fun e w'=>e=.returned (faultV (callFault c))∧Below w.heap.size w w':=by
 have hnl:=hc.name
 have hol:=hc.owner
 obtain ⟨c1,nm,pa,pn,ln,cad,ow⟩:=c
 simp only at *
 have HFT:=Hd (show callFault ⟨c1,nm,pa,pn,ln,cad,ow⟩=1 by unfold callFault;rw [if_pos (.inl hw)])
 unfold CallV
 simp only
 rw [HFT.out]
 have hB0:=Blk.new w 33 #[.int .i64 c1,txt nm,.int .i64 pa,.int .i64 pn,.int .i64 ln,.int .i64 cad,txt ow]
 have hz0:=(Below.refl w.heap.size w).alloc (Nat.le_refl _) (.cells #[.int .i64 c1,txt nm,.int .i64 pa,.int .i64 pn,.int .i64 ln,.int .i64 cad,txt ow] 33)
 go_enter Tryz.func42,Tryz.ntmps42
 go_upto_region 1 with fail
 refine wp_name (fun w0 HW=>?_)
 rw [← HW.out] at hB0 hz0
 clear HW
 obtain ⟨x0,x1,x2,x3,x4,x5,x6⟩:=hB0.cls7
 simp at x0 x1 x2 x3 x4 x5 x6
 go_wp2
 go_ret
 exact ⟨by first | rfl | (rw [show True=True from rfl];rfl),hz0⟩
theorem check_hi (c:PCall) (hc:CallW c) (hw:9 < c.what) (w:World):Calls Tryz.prog 42 #[CallV c] w fun e w'=>e=.returned (faultV (callFault c))∧Below w.heap.size w w':=by
 have hnl:=hc.name
 have hol:=hc.owner
 obtain ⟨c1,nm,pa,pn,ln,cad,ow⟩:=c
 simp only at *
 have HFT:=Hd (show callFault ⟨c1,nm,pa,pn,ln,cad,ow⟩=1 by unfold callFault;rw [if_pos (.inr hw)])
 have hw1:¬ c1 < 1:=by omega
 unfold CallV
 simp only
 rw [HFT.out]
 have hB0:=Blk.new w 33 #[.int .i64 c1,txt nm,.int .i64 pa,.int .i64 pn,.int .i64 ln,.int .i64 cad,txt ow]
 have hz0:=(Below.refl w.heap.size w).alloc (Nat.le_refl _) (.cells #[.int .i64 c1,txt nm,.int .i64 pa,.int .i64 pn,.int .i64 ln,.int .i64 cad,txt ow] 33)
 go_enter Tryz.func42,Tryz.ntmps42
 go_upto_region 1 with fail
 refine wp_name (fun w0 HW=>?_)
 rw [← HW.out] at hB0 hz0
 clear HW
 obtain ⟨x0,x1,x2,x3,x4,x5,x6⟩:=hB0.cls7
 simp at x0 x1 x2 x3 x4 x5 x6
 go_wp2
 go_ret
 exact ⟨by first | rfl | (rw [show True=True from rfl];rfl),hz0⟩
theorem check_1_n (c:PCall) (hc:CallW c) (hw:c.what=1) (hn:nameB c.name=false) (w:World):Calls Tryz.prog 42 #[CallV c] w fun e w'=>e=.returned (faultV (callFault c))∧Below w.heap.size w w':=by
 have hnl:=hc.name
 have hol:=hc.owner
 obtain ⟨c1,nm,pa,pn,ln,cad,ow⟩:=c
 simp only at *
 subst hw
 have HFT:=Hd (show callFault ⟨1,nm,pa,pn,ln,cad,ow⟩=5 by unfold callFault;rw [if_neg (by simp)];rw [if_pos hn])
 have HN:=Hd (name_not nm hnl hn)
 clear hn
 unfold CallV
 simp only
 rw [HFT.out]
 have hB0:=Blk.new w 33 #[.int .i64 1,txt nm,.int .i64 pa,.int .i64 pn,.int .i64 ln,.int .i64 cad,txt ow]
 have hz0:=(Below.refl w.heap.size w).alloc (Nat.le_refl _) (.cells #[.int .i64 1,txt nm,.int .i64 pa,.int .i64 pn,.int .i64 ln,.int .i64 cad,txt ow] 33)
 go_enter Tryz.func42,Tryz.ntmps42
 go_upto_region 1 with fail
 refine wp_name (fun w0 HW=>?_)
 rw [← HW.out] at hB0 hz0
 clear HW
 obtain ⟨x0,x1,x2,x3,x4,x5,x6⟩:=hB0.cls7
 simp at x0 x1 x2 x3 x4 x5 x6
 go_wp2_with fail
 refine (HN.out _).mono ?_
 rintro e w1 ⟨rfl,hb1⟩
 have hB1:=hB0.below hb1 hB0.lt
 have hz1:=hz0.trans (hb1.mono hz0.size)
 clear hb1 hB0 x0 x1 x2 x3 x4 x5 x6
 obtain ⟨x0,x1,x2,x3,x4,x5,x6⟩:=hB1.cls7
 simp at x0 x1 x2 x3 x4 x5 x6
 go_wp2
 go_ret
 exact ⟨by first | rfl | (rw [show True=True from rfl];rfl),hz1⟩
theorem check_1_o (c:PCall) (hc:CallW c) (hw:c.what=1) (hn:nameB c.name=true) (ho:nameB c.owner=false) (w:World):Calls Tryz.prog 42 #[CallV c] w fun e w'=>e=.returned (faultV (callFault c))∧Below w.heap.size w w':=by
 have hnl:=hc.name
 have hol:=hc.owner
 obtain ⟨c1,nm,pa,pn,ln,cad,ow⟩:=c
 simp only at *
 subst hw
 have HFT:=Hd (show callFault ⟨1,nm,pa,pn,ln,cad,ow⟩=5 by unfold callFault;rw [if_neg (by simp)];rw [if_neg (by rw [hn];simp)];rw [if_pos ⟨(show callOwned 1=true by decide),ho⟩])
 have HN:=Hd (name_yes nm hnl hn)
 have HO:=Hd (name_not ow hol ho)
 clear hn ho
 unfold CallV
 simp only
 rw [HFT.out]
 have hB0:=Blk.new w 33 #[.int .i64 1,txt nm,.int .i64 pa,.int .i64 pn,.int .i64 ln,.int .i64 cad,txt ow]
 have hz0:=(Below.refl w.heap.size w).alloc (Nat.le_refl _) (.cells #[.int .i64 1,txt nm,.int .i64 pa,.int .i64 pn,.int .i64 ln,.int .i64 cad,txt ow] 33)
 go_enter Tryz.func42,Tryz.ntmps42
 go_upto_region 1 with fail
 refine wp_name (fun w0 HW=>?_)
 rw [← HW.out] at hB0 hz0
 clear HW
 obtain ⟨x0,x1,x2,x3,x4,x5,x6⟩:=hB0.cls7
 simp at x0 x1 x2 x3 x4 x5 x6
 go_wp2_with fail
 refine (HN.out _).mono ?_
 rintro e w1 ⟨rfl,hb1⟩
 have hB1:=hB0.below hb1 hB0.lt
 have hz1:=hz0.trans (hb1.mono hz0.size)
 clear hb1 hB0 x0 x1 x2 x3 x4 x5 x6
 obtain ⟨x0,x1,x2,x3,x4,x5,x6⟩:=hB1.cls7
 simp at x0 x1 x2 x3 x4 x5 x6
 go_wp2_with fail
 refine (HO.out _).mono ?_
 rintro e w2 ⟨rfl,hb2⟩
 have hB2:=hB1.below hb2 hB1.lt
 have hz2:=hz1.trans (hb2.mono hz1.size)
 clear hb2 hB1 x0 x1 x2 x3 x4 x5 x6
 obtain ⟨x0,x1,x2,x3,x4,x5,x6⟩:=hB2.cls7
 simp at x0 x1 x2 x3 x4 x5 x6
 go_wp2
 go_ret
 exact ⟨by first | rfl | (rw [show True=True from rfl];rfl),hz2⟩
theorem check_1_y (c:PCall) (hc:CallW c) (hw:c.what=1) (hn:nameB c.name=true) (ho:nameB c.owner=true)  (w:World):Calls Tryz.prog 42 #[CallV c] w fun e w'=>e=.returned (faultV (callFault c))∧Below w.heap.size w w':=by
 have hnl:=hc.name
 have hol:=hc.owner
 obtain ⟨c1,nm,pa,pn,ln,cad,ow⟩:=c
 simp only at *
 subst hw
 have HFT:=Hd (show callFault ⟨1,nm,pa,pn,ln,cad,ow⟩=0 by unfold callFault;rw [if_neg (by simp)];rw [if_neg (by rw [hn];simp)];rw [if_neg (by rw [ho];simp)];rw [if_neg (show ¬ callPf 1=true by decide)];rw [if_neg (fun q=>absurd q.1 (show ¬ callAd 1=true by decide))])
 have HN:=Hd (name_yes nm hnl hn)
 have HO:=Hd (name_yes ow hol ho)
 clear hn ho
 unfold CallV
 simp only
 rw [HFT.out]
 have hB0:=Blk.new w 33 #[.int .i64 1,txt nm,.int .i64 pa,.int .i64 pn,.int .i64 ln,.int .i64 cad,txt ow]
 have hz0:=(Below.refl w.heap.size w).alloc (Nat.le_refl _) (.cells #[.int .i64 1,txt nm,.int .i64 pa,.int .i64 pn,.int .i64 ln,.int .i64 cad,txt ow] 33)
 go_enter Tryz.func42,Tryz.ntmps42
 go_upto_region 1 with fail
 refine wp_name (fun w0 HW=>?_)
 rw [← HW.out] at hB0 hz0
 clear HW
 obtain ⟨x0,x1,x2,x3,x4,x5,x6⟩:=hB0.cls7
 simp at x0 x1 x2 x3 x4 x5 x6
 go_wp2_with fail
 refine (HN.out _).mono ?_
 rintro e w1 ⟨rfl,hb1⟩
 have hB1:=hB0.below hb1 hB0.lt
 have hz1:=hz0.trans (hb1.mono hz0.size)
 clear hb1 hB0 x0 x1 x2 x3 x4 x5 x6
 obtain ⟨x0,x1,x2,x3,x4,x5,x6⟩:=hB1.cls7
 simp at x0 x1 x2 x3 x4 x5 x6
 go_wp2_with fail
 refine (HO.out _).mono ?_
 rintro e w2 ⟨rfl,hb2⟩
 have hB2:=hB1.below hb2 hB1.lt
 have hz2:=hz1.trans (hb2.mono hz1.size)
 clear hb2 hB1 x0 x1 x2 x3 x4 x5 x6
 obtain ⟨x0,x1,x2,x3,x4,x5,x6⟩:=hB2.cls7
 simp at x0 x1 x2 x3 x4 x5 x6
 go_wp2
 go_ret
 exact ⟨by first | rfl | (rw [show True=True from rfl];rfl),hz2⟩
theorem check_2_n (c:PCall) (hc:CallW c) (hw:c.what=2) (hn:nameB c.name=false) (w:World):Calls Tryz.prog 42 #[CallV c] w fun e w'=>e=.returned (faultV (callFault c))∧Below w.heap.size w w':=by
 have hnl:=hc.name
 have hol:=hc.owner
 obtain ⟨c1,nm,pa,pn,ln,cad,ow⟩:=c
 simp only at *
 subst hw
 have HFT:=Hd (show callFault ⟨2,nm,pa,pn,ln,cad,ow⟩=5 by unfold callFault;rw [if_neg (by simp)];rw [if_pos hn])
 have HN:=Hd (name_not nm hnl hn)
 clear hn
 unfold CallV
 simp only
 rw [HFT.out]
 have hB0:=Blk.new w 33 #[.int .i64 2,txt nm,.int .i64 pa,.int .i64 pn,.int .i64 ln,.int .i64 cad,txt ow]
 have hz0:=(Below.refl w.heap.size w).alloc (Nat.le_refl _) (.cells #[.int .i64 2,txt nm,.int .i64 pa,.int .i64 pn,.int .i64 ln,.int .i64 cad,txt ow] 33)
 go_enter Tryz.func42,Tryz.ntmps42
 go_upto_region 1 with fail
 refine wp_name (fun w0 HW=>?_)
 rw [← HW.out] at hB0 hz0
 clear HW
 obtain ⟨x0,x1,x2,x3,x4,x5,x6⟩:=hB0.cls7
 simp at x0 x1 x2 x3 x4 x5 x6
 go_wp2_with fail
 refine (HN.out _).mono ?_
 rintro e w1 ⟨rfl,hb1⟩
 have hB1:=hB0.below hb1 hB0.lt
 have hz1:=hz0.trans (hb1.mono hz0.size)
 clear hb1 hB0 x0 x1 x2 x3 x4 x5 x6
 obtain ⟨x0,x1,x2,x3,x4,x5,x6⟩:=hB1.cls7
 simp at x0 x1 x2 x3 x4 x5 x6
 go_wp2
 go_ret
 exact ⟨by first | rfl | (rw [show True=True from rfl];rfl),hz1⟩
theorem check_2_o (c:PCall) (hc:CallW c) (hw:c.what=2) (hn:nameB c.name=true) (ho:nameB c.owner=false) (w:World):Calls Tryz.prog 42 #[CallV c] w fun e w'=>e=.returned (faultV (callFault c))∧Below w.heap.size w w':=by
 have hnl:=hc.name
 have hol:=hc.owner
 obtain ⟨c1,nm,pa,pn,ln,cad,ow⟩:=c
 simp only at *
 subst hw
 have HFT:=Hd (show callFault ⟨2,nm,pa,pn,ln,cad,ow⟩=5 by unfold callFault;rw [if_neg (by simp)];rw [if_neg (by rw [hn];simp)];rw [if_pos ⟨(show callOwned 2=true by decide),ho⟩])
 have HN:=Hd (name_yes nm hnl hn)
 have HO:=Hd (name_not ow hol ho)
 clear hn ho
 unfold CallV
 simp only
 rw [HFT.out]
 have hB0:=Blk.new w 33 #[.int .i64 2,txt nm,.int .i64 pa,.int .i64 pn,.int .i64 ln,.int .i64 cad,txt ow]
 have hz0:=(Below.refl w.heap.size w).alloc (Nat.le_refl _) (.cells #[.int .i64 2,txt nm,.int .i64 pa,.int .i64 pn,.int .i64 ln,.int .i64 cad,txt ow] 33)
 go_enter Tryz.func42,Tryz.ntmps42
 go_upto_region 1 with fail
 refine wp_name (fun w0 HW=>?_)
 rw [← HW.out] at hB0 hz0
 clear HW
 obtain ⟨x0,x1,x2,x3,x4,x5,x6⟩:=hB0.cls7
 simp at x0 x1 x2 x3 x4 x5 x6
 go_wp2_with fail
 refine (HN.out _).mono ?_
 rintro e w1 ⟨rfl,hb1⟩
 have hB1:=hB0.below hb1 hB0.lt
 have hz1:=hz0.trans (hb1.mono hz0.size)
 clear hb1 hB0 x0 x1 x2 x3 x4 x5 x6
 obtain ⟨x0,x1,x2,x3,x4,x5,x6⟩:=hB1.cls7
 simp at x0 x1 x2 x3 x4 x5 x6
 go_wp2_with fail
 refine (HO.out _).mono ?_
 rintro e w2 ⟨rfl,hb2⟩
 have hB2:=hB1.below hb2 hB1.lt
 have hz2:=hz1.trans (hb2.mono hz1.size)
 clear hb2 hB1 x0 x1 x2 x3 x4 x5 x6
 obtain ⟨x0,x1,x2,x3,x4,x5,x6⟩:=hB2.cls7
 simp at x0 x1 x2 x3 x4 x5 x6
 go_wp2
 go_ret
 exact ⟨by first | rfl | (rw [show True=True from rfl];rfl),hz2⟩
theorem check_2_p (c:PCall) (hc:CallW c) (hw:c.what=2) (hn:nameB c.name=true) (ho:nameB c.owner=true) (hp:chk c.pa c.pn≠0) (w:World):Calls Tryz.prog 42 #[CallV c] w fun e w'=>e=.returned (faultV (callFault c))∧Below w.heap.size w w':=by
 have hnl:=hc.name
 have hol:=hc.owner
 obtain ⟨c1,nm,pa,pn,ln,cad,ow⟩:=c
 simp only at *
 subst hw
 have HFT:=Hd (show callFault ⟨2,nm,pa,pn,ln,cad,ow⟩=chk pa pn by unfold callFault;rw [if_neg (by simp)];rw [if_neg (by rw [hn];simp)];rw [if_neg (by rw [ho];simp)];rw [if_pos (show callPf 2=true by decide)])
 have HN:=Hd (name_yes nm hnl hn)
 have HO:=Hd (name_yes ow hol ho)
 have HP:=Hd (check_bad pa pn hp)
 have HP0:=Hd hp
 clear hn ho
 clear hp
 unfold CallV
 simp only
 rw [HFT.out]
 have hB0:=Blk.new w 33 #[.int .i64 2,txt nm,.int .i64 pa,.int .i64 pn,.int .i64 ln,.int .i64 cad,txt ow]
 have hz0:=(Below.refl w.heap.size w).alloc (Nat.le_refl _) (.cells #[.int .i64 2,txt nm,.int .i64 pa,.int .i64 pn,.int .i64 ln,.int .i64 cad,txt ow] 33)
 go_enter Tryz.func42,Tryz.ntmps42
 go_upto_region 1 with fail
 refine wp_name (fun w0 HW=>?_)
 rw [← HW.out] at hB0 hz0
 clear HW
 obtain ⟨x0,x1,x2,x3,x4,x5,x6⟩:=hB0.cls7
 simp at x0 x1 x2 x3 x4 x5 x6
 go_wp2_with fail
 refine (HN.out _).mono ?_
 rintro e w1 ⟨rfl,hb1⟩
 have hB1:=hB0.below hb1 hB0.lt
 have hz1:=hz0.trans (hb1.mono hz0.size)
 clear hb1 hB0 x0 x1 x2 x3 x4 x5 x6
 obtain ⟨x0,x1,x2,x3,x4,x5,x6⟩:=hB1.cls7
 simp at x0 x1 x2 x3 x4 x5 x6
 go_wp2_with fail
 refine (HO.out _).mono ?_
 rintro e w2 ⟨rfl,hb2⟩
 have hB2:=hB1.below hb2 hB1.lt
 have hz2:=hz1.trans (hb2.mono hz1.size)
 clear hb2 hB1 x0 x1 x2 x3 x4 x5 x6
 obtain ⟨x0,x1,x2,x3,x4,x5,x6⟩:=hB2.cls7
 simp at x0 x1 x2 x3 x4 x5 x6
 go_wp2_with fail
 refine (HP.out _).mono ?_
 rintro e w3 ⟨rfl,hb3⟩
 have hB3:=hB2.below hb3 hB2.lt
 have hz3:=hz2.trans (hb3.mono hz2.size)
 clear hb3 hB2 x0 x1 x2 x3 x4 x5 x6
 obtain ⟨x0,x1,x2,x3,x4,x5,x6⟩:=hB3.cls7
 simp at x0 x1 x2 x3 x4 x5 x6
 go_wp2
 go_ret
 exact ⟨by first | rfl | (rw [(fault_num HP0.out)];rfl),hz3⟩
theorem check_2_y (c:PCall) (hc:CallW c) (hw:c.what=2) (hn:nameB c.name=true) (ho:nameB c.owner=true) (hp:chk c.pa c.pn=0) (w:World):Calls Tryz.prog 42 #[CallV c] w fun e w'=>e=.returned (faultV (callFault c))∧Below w.heap.size w w':=by
 have hnl:=hc.name
 have hol:=hc.owner
 obtain ⟨c1,nm,pa,pn,ln,cad,ow⟩:=c
 simp only at *
 subst hw
 have HFT:=Hd (show callFault ⟨2,nm,pa,pn,ln,cad,ow⟩=0 by unfold callFault;rw [if_neg (by simp)];rw [if_neg (by rw [hn];simp)];rw [if_neg (by rw [ho];simp)];rw [if_pos (show callPf 2=true by decide)];rw [hp])
 have HN:=Hd (name_yes nm hnl hn)
 have HO:=Hd (name_yes ow hol ho)
 have HP:=Hd (check_ok pa pn hp)
 clear hn ho
 clear hp
 unfold CallV
 simp only
 rw [HFT.out]
 have hB0:=Blk.new w 33 #[.int .i64 2,txt nm,.int .i64 pa,.int .i64 pn,.int .i64 ln,.int .i64 cad,txt ow]
 have hz0:=(Below.refl w.heap.size w).alloc (Nat.le_refl _) (.cells #[.int .i64 2,txt nm,.int .i64 pa,.int .i64 pn,.int .i64 ln,.int .i64 cad,txt ow] 33)
 go_enter Tryz.func42,Tryz.ntmps42
 go_upto_region 1 with fail
 refine wp_name (fun w0 HW=>?_)
 rw [← HW.out] at hB0 hz0
 clear HW
 obtain ⟨x0,x1,x2,x3,x4,x5,x6⟩:=hB0.cls7
 simp at x0 x1 x2 x3 x4 x5 x6
 go_wp2_with fail
 refine (HN.out _).mono ?_
 rintro e w1 ⟨rfl,hb1⟩
 have hB1:=hB0.below hb1 hB0.lt
 have hz1:=hz0.trans (hb1.mono hz0.size)
 clear hb1 hB0 x0 x1 x2 x3 x4 x5 x6
 obtain ⟨x0,x1,x2,x3,x4,x5,x6⟩:=hB1.cls7
 simp at x0 x1 x2 x3 x4 x5 x6
 go_wp2_with fail
 refine (HO.out _).mono ?_
 rintro e w2 ⟨rfl,hb2⟩
 have hB2:=hB1.below hb2 hB1.lt
 have hz2:=hz1.trans (hb2.mono hz1.size)
 clear hb2 hB1 x0 x1 x2 x3 x4 x5 x6
 obtain ⟨x0,x1,x2,x3,x4,x5,x6⟩:=hB2.cls7
 simp at x0 x1 x2 x3 x4 x5 x6
 go_wp2_with fail
 refine (HP.out _).mono ?_
 rintro e w3 ⟨rfl,hb3⟩
 have hB3:=hB2.below hb3 hB2.lt
 have hz3:=hz2.trans (hb3.mono hz2.size)
 clear hb3 hB2 x0 x1 x2 x3 x4 x5 x6
 obtain ⟨x0,x1,x2,x3,x4,x5,x6⟩:=hB3.cls7
 simp at x0 x1 x2 x3 x4 x5 x6
 go_wp2
 go_ret
 exact ⟨by first | rfl | (rw [show True=True from rfl];rfl),hz3⟩
theorem check_3_n (c:PCall) (hc:CallW c) (hw:c.what=3) (hn:nameB c.name=false) (w:World):Calls Tryz.prog 42 #[CallV c] w fun e w'=>e=.returned (faultV (callFault c))∧Below w.heap.size w w':=by
 have hnl:=hc.name
 have hol:=hc.owner
 obtain ⟨c1,nm,pa,pn,ln,cad,ow⟩:=c
 simp only at *
 subst hw
 have HFT:=Hd (show callFault ⟨3,nm,pa,pn,ln,cad,ow⟩=5 by unfold callFault;rw [if_neg (by simp)];rw [if_pos hn])
 have HN:=Hd (name_not nm hnl hn)
 clear hn
 unfold CallV
 simp only
 rw [HFT.out]
 have hB0:=Blk.new w 33 #[.int .i64 3,txt nm,.int .i64 pa,.int .i64 pn,.int .i64 ln,.int .i64 cad,txt ow]
 have hz0:=(Below.refl w.heap.size w).alloc (Nat.le_refl _) (.cells #[.int .i64 3,txt nm,.int .i64 pa,.int .i64 pn,.int .i64 ln,.int .i64 cad,txt ow] 33)
 go_enter Tryz.func42,Tryz.ntmps42
 go_upto_region 1 with fail
 refine wp_name (fun w0 HW=>?_)
 rw [← HW.out] at hB0 hz0
 clear HW
 obtain ⟨x0,x1,x2,x3,x4,x5,x6⟩:=hB0.cls7
 simp at x0 x1 x2 x3 x4 x5 x6
 go_wp2_with fail
 refine (HN.out _).mono ?_
 rintro e w1 ⟨rfl,hb1⟩
 have hB1:=hB0.below hb1 hB0.lt
 have hz1:=hz0.trans (hb1.mono hz0.size)
 clear hb1 hB0 x0 x1 x2 x3 x4 x5 x6
 obtain ⟨x0,x1,x2,x3,x4,x5,x6⟩:=hB1.cls7
 simp at x0 x1 x2 x3 x4 x5 x6
 go_wp2
 go_ret
 exact ⟨by first | rfl | (rw [show True=True from rfl];rfl),hz1⟩
theorem check_3_p (c:PCall) (hc:CallW c) (hw:c.what=3) (hn:nameB c.name=true) (hp:chk c.pa c.pn≠0) (w:World):Calls Tryz.prog 42 #[CallV c] w fun e w'=>e=.returned (faultV (callFault c))∧Below w.heap.size w w':=by
 have hnl:=hc.name
 have hol:=hc.owner
 obtain ⟨c1,nm,pa,pn,ln,cad,ow⟩:=c
 simp only at *
 subst hw
 have HFT:=Hd (show callFault ⟨3,nm,pa,pn,ln,cad,ow⟩=chk pa pn by unfold callFault;rw [if_neg (by simp)];rw [if_neg (by rw [hn];simp)];rw [if_neg (fun q=>absurd q.1 (show ¬ callOwned 3=true by decide))];rw [if_pos (show callPf 3=true by decide)])
 have HN:=Hd (name_yes nm hnl hn)
 have HP:=Hd (check_bad pa pn hp)
 have HP0:=Hd hp
 clear hn
 clear hp
 unfold CallV
 simp only
 rw [HFT.out]
 have hB0:=Blk.new w 33 #[.int .i64 3,txt nm,.int .i64 pa,.int .i64 pn,.int .i64 ln,.int .i64 cad,txt ow]
 have hz0:=(Below.refl w.heap.size w).alloc (Nat.le_refl _) (.cells #[.int .i64 3,txt nm,.int .i64 pa,.int .i64 pn,.int .i64 ln,.int .i64 cad,txt ow] 33)
 go_enter Tryz.func42,Tryz.ntmps42
 go_upto_region 1 with fail
 refine wp_name (fun w0 HW=>?_)
 rw [← HW.out] at hB0 hz0
 clear HW
 obtain ⟨x0,x1,x2,x3,x4,x5,x6⟩:=hB0.cls7
 simp at x0 x1 x2 x3 x4 x5 x6
 go_wp2_with fail
 refine (HN.out _).mono ?_
 rintro e w1 ⟨rfl,hb1⟩
 have hB1:=hB0.below hb1 hB0.lt
 have hz1:=hz0.trans (hb1.mono hz0.size)
 clear hb1 hB0 x0 x1 x2 x3 x4 x5 x6
 obtain ⟨x0,x1,x2,x3,x4,x5,x6⟩:=hB1.cls7
 simp at x0 x1 x2 x3 x4 x5 x6
 go_wp2_with fail
 refine (HP.out _).mono ?_
 rintro e w2 ⟨rfl,hb2⟩
 have hB2:=hB1.below hb2 hB1.lt
 have hz2:=hz1.trans (hb2.mono hz1.size)
 clear hb2 hB1 x0 x1 x2 x3 x4 x5 x6
 obtain ⟨x0,x1,x2,x3,x4,x5,x6⟩:=hB2.cls7
 simp at x0 x1 x2 x3 x4 x5 x6
 go_wp2
 go_ret
 exact ⟨by first | rfl | (rw [(fault_num HP0.out)];rfl),hz2⟩
theorem check_3_y (c:PCall) (hc:CallW c) (hw:c.what=3) (hn:nameB c.name=true) (hp:chk c.pa c.pn=0) (w:World):Calls Tryz.prog 42 #[CallV c] w fun e w'=>e=.returned (faultV (callFault c))∧Below w.heap.size w w':=by
 have hnl:=hc.name
 have hol:=hc.owner
 obtain ⟨c1,nm,pa,pn,ln,cad,ow⟩:=c
 simp only at *
 subst hw
 have HFT:=Hd (show callFault ⟨3,nm,pa,pn,ln,cad,ow⟩=0 by unfold callFault;rw [if_neg (by simp)];rw [if_neg (by rw [hn];simp)];rw [if_neg (fun q=>absurd q.1 (show ¬ callOwned 3=true by decide))];rw [if_pos (show callPf 3=true by decide)];rw [hp])
 have HN:=Hd (name_yes nm hnl hn)
 have HP:=Hd (check_ok pa pn hp)
 clear hn
 clear hp
 unfold CallV
 simp only
 rw [HFT.out]
 have hB0:=Blk.new w 33 #[.int .i64 3,txt nm,.int .i64 pa,.int .i64 pn,.int .i64 ln,.int .i64 cad,txt ow]
 have hz0:=(Below.refl w.heap.size w).alloc (Nat.le_refl _) (.cells #[.int .i64 3,txt nm,.int .i64 pa,.int .i64 pn,.int .i64 ln,.int .i64 cad,txt ow] 33)
 go_enter Tryz.func42,Tryz.ntmps42
 go_upto_region 1 with fail
 refine wp_name (fun w0 HW=>?_)
 rw [← HW.out] at hB0 hz0
 clear HW
 obtain ⟨x0,x1,x2,x3,x4,x5,x6⟩:=hB0.cls7
 simp at x0 x1 x2 x3 x4 x5 x6
 go_wp2_with fail
 refine (HN.out _).mono ?_
 rintro e w1 ⟨rfl,hb1⟩
 have hB1:=hB0.below hb1 hB0.lt
 have hz1:=hz0.trans (hb1.mono hz0.size)
 clear hb1 hB0 x0 x1 x2 x3 x4 x5 x6
 obtain ⟨x0,x1,x2,x3,x4,x5,x6⟩:=hB1.cls7
 simp at x0 x1 x2 x3 x4 x5 x6
 go_wp2_with fail
 refine (HP.out _).mono ?_
 rintro e w2 ⟨rfl,hb2⟩
 have hB2:=hB1.below hb2 hB1.lt
 have hz2:=hz1.trans (hb2.mono hz1.size)
 clear hb2 hB1 x0 x1 x2 x3 x4 x5 x6
 obtain ⟨x0,x1,x2,x3,x4,x5,x6⟩:=hB2.cls7
 simp at x0 x1 x2 x3 x4 x5 x6
 go_wp2
 go_ret
 exact ⟨by first | rfl | (rw [show True=True from rfl];rfl),hz2⟩
theorem check_4_n (c:PCall) (hc:CallW c) (hw:c.what=4) (hn:nameB c.name=false) (w:World):Calls Tryz.prog 42 #[CallV c] w fun e w'=>e=.returned (faultV (callFault c))∧Below w.heap.size w w':=by
 have hnl:=hc.name
 have hol:=hc.owner
 obtain ⟨c1,nm,pa,pn,ln,cad,ow⟩:=c
 simp only at *
 subst hw
 have HFT:=Hd (show callFault ⟨4,nm,pa,pn,ln,cad,ow⟩=5 by unfold callFault;rw [if_neg (by simp)];rw [if_pos hn])
 have HN:=Hd (name_not nm hnl hn)
 clear hn
 unfold CallV
 simp only
 rw [HFT.out]
 have hB0:=Blk.new w 33 #[.int .i64 4,txt nm,.int .i64 pa,.int .i64 pn,.int .i64 ln,.int .i64 cad,txt ow]
 have hz0:=(Below.refl w.heap.size w).alloc (Nat.le_refl _) (.cells #[.int .i64 4,txt nm,.int .i64 pa,.int .i64 pn,.int .i64 ln,.int .i64 cad,txt ow] 33)
 go_enter Tryz.func42,Tryz.ntmps42
 go_upto_region 1 with fail
 refine wp_name (fun w0 HW=>?_)
 rw [← HW.out] at hB0 hz0
 clear HW
 obtain ⟨x0,x1,x2,x3,x4,x5,x6⟩:=hB0.cls7
 simp at x0 x1 x2 x3 x4 x5 x6
 go_wp2_with fail
 refine (HN.out _).mono ?_
 rintro e w1 ⟨rfl,hb1⟩
 have hB1:=hB0.below hb1 hB0.lt
 have hz1:=hz0.trans (hb1.mono hz0.size)
 clear hb1 hB0 x0 x1 x2 x3 x4 x5 x6
 obtain ⟨x0,x1,x2,x3,x4,x5,x6⟩:=hB1.cls7
 simp at x0 x1 x2 x3 x4 x5 x6
 go_wp2
 go_ret
 exact ⟨by first | rfl | (rw [show True=True from rfl];rfl),hz1⟩
theorem check_4_o (c:PCall) (hc:CallW c) (hw:c.what=4) (hn:nameB c.name=true) (ho:nameB c.owner=false) (w:World):Calls Tryz.prog 42 #[CallV c] w fun e w'=>e=.returned (faultV (callFault c))∧Below w.heap.size w w':=by
 have hnl:=hc.name
 have hol:=hc.owner
 obtain ⟨c1,nm,pa,pn,ln,cad,ow⟩:=c
 simp only at *
 subst hw
 have HFT:=Hd (show callFault ⟨4,nm,pa,pn,ln,cad,ow⟩=5 by unfold callFault;rw [if_neg (by simp)];rw [if_neg (by rw [hn];simp)];rw [if_pos ⟨(show callOwned 4=true by decide),ho⟩])
 have HN:=Hd (name_yes nm hnl hn)
 have HO:=Hd (name_not ow hol ho)
 clear hn ho
 unfold CallV
 simp only
 rw [HFT.out]
 have hB0:=Blk.new w 33 #[.int .i64 4,txt nm,.int .i64 pa,.int .i64 pn,.int .i64 ln,.int .i64 cad,txt ow]
 have hz0:=(Below.refl w.heap.size w).alloc (Nat.le_refl _) (.cells #[.int .i64 4,txt nm,.int .i64 pa,.int .i64 pn,.int .i64 ln,.int .i64 cad,txt ow] 33)
 go_enter Tryz.func42,Tryz.ntmps42
 go_upto_region 1 with fail
 refine wp_name (fun w0 HW=>?_)
 rw [← HW.out] at hB0 hz0
 clear HW
 obtain ⟨x0,x1,x2,x3,x4,x5,x6⟩:=hB0.cls7
 simp at x0 x1 x2 x3 x4 x5 x6
 go_wp2_with fail
 refine (HN.out _).mono ?_
 rintro e w1 ⟨rfl,hb1⟩
 have hB1:=hB0.below hb1 hB0.lt
 have hz1:=hz0.trans (hb1.mono hz0.size)
 clear hb1 hB0 x0 x1 x2 x3 x4 x5 x6
 obtain ⟨x0,x1,x2,x3,x4,x5,x6⟩:=hB1.cls7
 simp at x0 x1 x2 x3 x4 x5 x6
 go_wp2_with fail
 refine (HO.out _).mono ?_
 rintro e w2 ⟨rfl,hb2⟩
 have hB2:=hB1.below hb2 hB1.lt
 have hz2:=hz1.trans (hb2.mono hz1.size)
 clear hb2 hB1 x0 x1 x2 x3 x4 x5 x6
 obtain ⟨x0,x1,x2,x3,x4,x5,x6⟩:=hB2.cls7
 simp at x0 x1 x2 x3 x4 x5 x6
 go_wp2
 go_ret
 exact ⟨by first | rfl | (rw [show True=True from rfl];rfl),hz2⟩
theorem check_4_a (c:PCall) (hc:CallW c) (hw:c.what=4) (hn:nameB c.name=true) (ho:nameB c.owner=true) (ha:isA c.ad=false) (w:World):Calls Tryz.prog 42 #[CallV c] w fun e w'=>e=.returned (faultV (callFault c))∧Below w.heap.size w w':=by
 have hnl:=hc.name
 have hol:=hc.owner
 obtain ⟨c1,nm,pa,pn,ln,cad,ow⟩:=c
 simp only at *
 subst hw
 have HFT:=Hd (show callFault ⟨4,nm,pa,pn,ln,cad,ow⟩=1 by unfold callFault;rw [if_neg (by simp)];rw [if_neg (by rw [hn];simp)];rw [if_neg (by rw [ho];simp)];rw [if_neg (show ¬ callPf 4=true by decide)];rw [if_pos ⟨(show callAd 4=true by decide),ha⟩])
 have HN:=Hd (name_yes nm hnl hn)
 have HO:=Hd (name_yes ow hol ho)
 have HA:=Hd (isA_no cad ha)
 clear hn ho
 clear ha
 unfold CallV
 simp only
 rw [HFT.out]
 have hB0:=Blk.new w 33 #[.int .i64 4,txt nm,.int .i64 pa,.int .i64 pn,.int .i64 ln,.int .i64 cad,txt ow]
 have hz0:=(Below.refl w.heap.size w).alloc (Nat.le_refl _) (.cells #[.int .i64 4,txt nm,.int .i64 pa,.int .i64 pn,.int .i64 ln,.int .i64 cad,txt ow] 33)
 go_enter Tryz.func42,Tryz.ntmps42
 go_upto_region 1 with fail
 refine wp_name (fun w0 HW=>?_)
 rw [← HW.out] at hB0 hz0
 clear HW
 obtain ⟨x0,x1,x2,x3,x4,x5,x6⟩:=hB0.cls7
 simp at x0 x1 x2 x3 x4 x5 x6
 go_wp2_with fail
 refine (HN.out _).mono ?_
 rintro e w1 ⟨rfl,hb1⟩
 have hB1:=hB0.below hb1 hB0.lt
 have hz1:=hz0.trans (hb1.mono hz0.size)
 clear hb1 hB0 x0 x1 x2 x3 x4 x5 x6
 obtain ⟨x0,x1,x2,x3,x4,x5,x6⟩:=hB1.cls7
 simp at x0 x1 x2 x3 x4 x5 x6
 go_wp2_with fail
 refine (HO.out _).mono ?_
 rintro e w2 ⟨rfl,hb2⟩
 have hB2:=hB1.below hb2 hB1.lt
 have hz2:=hz1.trans (hb2.mono hz1.size)
 clear hb2 hB1 x0 x1 x2 x3 x4 x5 x6
 obtain ⟨x0,x1,x2,x3,x4,x5,x6⟩:=hB2.cls7
 simp at x0 x1 x2 x3 x4 x5 x6
 go_wp2_with fail
 refine (HA.out _).mono ?_
 rintro e w3 ⟨rfl,hb3⟩
 have hB3:=hB2.below hb3 hB2.lt
 have hz3:=hz2.trans (hb3.mono hz2.size)
 clear hb3 hB2 x0 x1 x2 x3 x4 x5 x6
 obtain ⟨x0,x1,x2,x3,x4,x5,x6⟩:=hB3.cls7
 simp at x0 x1 x2 x3 x4 x5 x6
 go_wp2
 go_ret
 exact ⟨by first | rfl | (rw [show True=True from rfl];rfl),hz3⟩
theorem check_4_y (c:PCall) (hc:CallW c) (hw:c.what=4) (hn:nameB c.name=true) (ho:nameB c.owner=true) (ha:isA c.ad=true) (w:World):Calls Tryz.prog 42 #[CallV c] w fun e w'=>e=.returned (faultV (callFault c))∧Below w.heap.size w w':=by
 have hnl:=hc.name
 have hol:=hc.owner
 obtain ⟨c1,nm,pa,pn,ln,cad,ow⟩:=c
 simp only at *
 subst hw
 have HFT:=Hd (show callFault ⟨4,nm,pa,pn,ln,cad,ow⟩=0 by unfold callFault;rw [if_neg (by simp)];rw [if_neg (by rw [hn];simp)];rw [if_neg (by rw [ho];simp)];rw [if_neg (show ¬ callPf 4=true by decide)];rw [if_neg (by rw [ha];simp)])
 have HN:=Hd (name_yes nm hnl hn)
 have HO:=Hd (name_yes ow hol ho)
 have HA:=Hd (isA_yes cad ha)
 clear hn ho
 clear ha
 unfold CallV
 simp only
 rw [HFT.out]
 have hB0:=Blk.new w 33 #[.int .i64 4,txt nm,.int .i64 pa,.int .i64 pn,.int .i64 ln,.int .i64 cad,txt ow]
 have hz0:=(Below.refl w.heap.size w).alloc (Nat.le_refl _) (.cells #[.int .i64 4,txt nm,.int .i64 pa,.int .i64 pn,.int .i64 ln,.int .i64 cad,txt ow] 33)
 go_enter Tryz.func42,Tryz.ntmps42
 go_upto_region 1 with fail
 refine wp_name (fun w0 HW=>?_)
 rw [← HW.out] at hB0 hz0
 clear HW
 obtain ⟨x0,x1,x2,x3,x4,x5,x6⟩:=hB0.cls7
 simp at x0 x1 x2 x3 x4 x5 x6
 go_wp2_with fail
 refine (HN.out _).mono ?_
 rintro e w1 ⟨rfl,hb1⟩
 have hB1:=hB0.below hb1 hB0.lt
 have hz1:=hz0.trans (hb1.mono hz0.size)
 clear hb1 hB0 x0 x1 x2 x3 x4 x5 x6
 obtain ⟨x0,x1,x2,x3,x4,x5,x6⟩:=hB1.cls7
 simp at x0 x1 x2 x3 x4 x5 x6
 go_wp2_with fail
 refine (HO.out _).mono ?_
 rintro e w2 ⟨rfl,hb2⟩
 have hB2:=hB1.below hb2 hB1.lt
 have hz2:=hz1.trans (hb2.mono hz1.size)
 clear hb2 hB1 x0 x1 x2 x3 x4 x5 x6
 obtain ⟨x0,x1,x2,x3,x4,x5,x6⟩:=hB2.cls7
 simp at x0 x1 x2 x3 x4 x5 x6
 go_wp2_with fail
 refine (HA.out _).mono ?_
 rintro e w3 ⟨rfl,hb3⟩
 have hB3:=hB2.below hb3 hB2.lt
 have hz3:=hz2.trans (hb3.mono hz2.size)
 clear hb3 hB2 x0 x1 x2 x3 x4 x5 x6
 obtain ⟨x0,x1,x2,x3,x4,x5,x6⟩:=hB3.cls7
 simp at x0 x1 x2 x3 x4 x5 x6
 go_wp2
 go_ret
 exact ⟨by first | rfl | (rw [show True=True from rfl];rfl),hz3⟩
theorem check_5_n (c:PCall) (hc:CallW c) (hw:c.what=5) (hn:nameB c.name=false) (w:World):Calls Tryz.prog 42 #[CallV c] w fun e w'=>e=.returned (faultV (callFault c))∧Below w.heap.size w w':=by
 have hnl:=hc.name
 have hol:=hc.owner
 obtain ⟨c1,nm,pa,pn,ln,cad,ow⟩:=c
 simp only at *
 subst hw
 have HFT:=Hd (show callFault ⟨5,nm,pa,pn,ln,cad,ow⟩=5 by unfold callFault;rw [if_neg (by simp)];rw [if_pos hn])
 have HN:=Hd (name_not nm hnl hn)
 clear hn
 unfold CallV
 simp only
 rw [HFT.out]
 have hB0:=Blk.new w 33 #[.int .i64 5,txt nm,.int .i64 pa,.int .i64 pn,.int .i64 ln,.int .i64 cad,txt ow]
 have hz0:=(Below.refl w.heap.size w).alloc (Nat.le_refl _) (.cells #[.int .i64 5,txt nm,.int .i64 pa,.int .i64 pn,.int .i64 ln,.int .i64 cad,txt ow] 33)
 go_enter Tryz.func42,Tryz.ntmps42
 go_upto_region 1 with fail
 refine wp_name (fun w0 HW=>?_)
 rw [← HW.out] at hB0 hz0
 clear HW
 obtain ⟨x0,x1,x2,x3,x4,x5,x6⟩:=hB0.cls7
 simp at x0 x1 x2 x3 x4 x5 x6
 go_wp2_with fail
 refine (HN.out _).mono ?_
 rintro e w1 ⟨rfl,hb1⟩
 have hB1:=hB0.below hb1 hB0.lt
 have hz1:=hz0.trans (hb1.mono hz0.size)
 clear hb1 hB0 x0 x1 x2 x3 x4 x5 x6
 obtain ⟨x0,x1,x2,x3,x4,x5,x6⟩:=hB1.cls7
 simp at x0 x1 x2 x3 x4 x5 x6
 go_wp2
 go_ret
 exact ⟨by first | rfl | (rw [show True=True from rfl];rfl),hz1⟩
theorem check_5_a (c:PCall) (hc:CallW c) (hw:c.what=5) (hn:nameB c.name=true) (ha:isA c.ad=false) (w:World):Calls Tryz.prog 42 #[CallV c] w fun e w'=>e=.returned (faultV (callFault c))∧Below w.heap.size w w':=by
 have hnl:=hc.name
 have hol:=hc.owner
 obtain ⟨c1,nm,pa,pn,ln,cad,ow⟩:=c
 simp only at *
 subst hw
 have HFT:=Hd (show callFault ⟨5,nm,pa,pn,ln,cad,ow⟩=1 by unfold callFault;rw [if_neg (by simp)];rw [if_neg (by rw [hn];simp)];rw [if_neg (fun q=>absurd q.1 (show ¬ callOwned 5=true by decide))];rw [if_neg (show ¬ callPf 5=true by decide)];rw [if_pos ⟨(show callAd 5=true by decide),ha⟩])
 have HN:=Hd (name_yes nm hnl hn)
 have HA:=Hd (isA_no cad ha)
 clear hn
 clear ha
 unfold CallV
 simp only
 rw [HFT.out]
 have hB0:=Blk.new w 33 #[.int .i64 5,txt nm,.int .i64 pa,.int .i64 pn,.int .i64 ln,.int .i64 cad,txt ow]
 have hz0:=(Below.refl w.heap.size w).alloc (Nat.le_refl _) (.cells #[.int .i64 5,txt nm,.int .i64 pa,.int .i64 pn,.int .i64 ln,.int .i64 cad,txt ow] 33)
 go_enter Tryz.func42,Tryz.ntmps42
 go_upto_region 1 with fail
 refine wp_name (fun w0 HW=>?_)
 rw [← HW.out] at hB0 hz0
 clear HW
 obtain ⟨x0,x1,x2,x3,x4,x5,x6⟩:=hB0.cls7
 simp at x0 x1 x2 x3 x4 x5 x6
 go_wp2_with fail
 refine (HN.out _).mono ?_
 rintro e w1 ⟨rfl,hb1⟩
 have hB1:=hB0.below hb1 hB0.lt
 have hz1:=hz0.trans (hb1.mono hz0.size)
 clear hb1 hB0 x0 x1 x2 x3 x4 x5 x6
 obtain ⟨x0,x1,x2,x3,x4,x5,x6⟩:=hB1.cls7
 simp at x0 x1 x2 x3 x4 x5 x6
 go_wp2_with fail
 refine (HA.out _).mono ?_
 rintro e w2 ⟨rfl,hb2⟩
 have hB2:=hB1.below hb2 hB1.lt
 have hz2:=hz1.trans (hb2.mono hz1.size)
 clear hb2 hB1 x0 x1 x2 x3 x4 x5 x6
 obtain ⟨x0,x1,x2,x3,x4,x5,x6⟩:=hB2.cls7
 simp at x0 x1 x2 x3 x4 x5 x6
 go_wp2
 go_ret
 exact ⟨by first | rfl | (rw [show True=True from rfl];rfl),hz2⟩
theorem check_5_y (c:PCall) (hc:CallW c) (hw:c.what=5) (hn:nameB c.name=true) (ha:isA c.ad=true) (w:World):Calls Tryz.prog 42 #[CallV c] w fun e w'=>e=.returned (faultV (callFault c))∧Below w.heap.size w w':=by
 have hnl:=hc.name
 have hol:=hc.owner
 obtain ⟨c1,nm,pa,pn,ln,cad,ow⟩:=c
 simp only at *
 subst hw
 have HFT:=Hd (show callFault ⟨5,nm,pa,pn,ln,cad,ow⟩=0 by unfold callFault;rw [if_neg (by simp)];rw [if_neg (by rw [hn];simp)];rw [if_neg (fun q=>absurd q.1 (show ¬ callOwned 5=true by decide))];rw [if_neg (show ¬ callPf 5=true by decide)];rw [if_neg (by rw [ha];simp)])
 have HN:=Hd (name_yes nm hnl hn)
 have HA:=Hd (isA_yes cad ha)
 clear hn
 clear ha
 unfold CallV
 simp only
 rw [HFT.out]
 have hB0:=Blk.new w 33 #[.int .i64 5,txt nm,.int .i64 pa,.int .i64 pn,.int .i64 ln,.int .i64 cad,txt ow]
 have hz0:=(Below.refl w.heap.size w).alloc (Nat.le_refl _) (.cells #[.int .i64 5,txt nm,.int .i64 pa,.int .i64 pn,.int .i64 ln,.int .i64 cad,txt ow] 33)
 go_enter Tryz.func42,Tryz.ntmps42
 go_upto_region 1 with fail
 refine wp_name (fun w0 HW=>?_)
 rw [← HW.out] at hB0 hz0
 clear HW
 obtain ⟨x0,x1,x2,x3,x4,x5,x6⟩:=hB0.cls7
 simp at x0 x1 x2 x3 x4 x5 x6
 go_wp2_with fail
 refine (HN.out _).mono ?_
 rintro e w1 ⟨rfl,hb1⟩
 have hB1:=hB0.below hb1 hB0.lt
 have hz1:=hz0.trans (hb1.mono hz0.size)
 clear hb1 hB0 x0 x1 x2 x3 x4 x5 x6
 obtain ⟨x0,x1,x2,x3,x4,x5,x6⟩:=hB1.cls7
 simp at x0 x1 x2 x3 x4 x5 x6
 go_wp2_with fail
 refine (HA.out _).mono ?_
 rintro e w2 ⟨rfl,hb2⟩
 have hB2:=hB1.below hb2 hB1.lt
 have hz2:=hz1.trans (hb2.mono hz1.size)
 clear hb2 hB1 x0 x1 x2 x3 x4 x5 x6
 obtain ⟨x0,x1,x2,x3,x4,x5,x6⟩:=hB2.cls7
 simp at x0 x1 x2 x3 x4 x5 x6
 go_wp2
 go_ret
 exact ⟨by first | rfl | (rw [show True=True from rfl];rfl),hz2⟩
theorem check_6_n (c:PCall) (hc:CallW c) (hw:c.what=6) (hn:nameB c.name=false) (w:World):Calls Tryz.prog 42 #[CallV c] w fun e w'=>e=.returned (faultV (callFault c))∧Below w.heap.size w w':=by
 have hnl:=hc.name
 have hol:=hc.owner
 obtain ⟨c1,nm,pa,pn,ln,cad,ow⟩:=c
 simp only at *
 subst hw
 have HFT:=Hd (show callFault ⟨6,nm,pa,pn,ln,cad,ow⟩=5 by unfold callFault;rw [if_neg (by simp)];rw [if_pos hn])
 have HN:=Hd (name_not nm hnl hn)
 clear hn
 unfold CallV
 simp only
 rw [HFT.out]
 have hB0:=Blk.new w 33 #[.int .i64 6,txt nm,.int .i64 pa,.int .i64 pn,.int .i64 ln,.int .i64 cad,txt ow]
 have hz0:=(Below.refl w.heap.size w).alloc (Nat.le_refl _) (.cells #[.int .i64 6,txt nm,.int .i64 pa,.int .i64 pn,.int .i64 ln,.int .i64 cad,txt ow] 33)
 go_enter Tryz.func42,Tryz.ntmps42
 go_upto_region 1 with fail
 refine wp_name (fun w0 HW=>?_)
 rw [← HW.out] at hB0 hz0
 clear HW
 obtain ⟨x0,x1,x2,x3,x4,x5,x6⟩:=hB0.cls7
 simp at x0 x1 x2 x3 x4 x5 x6
 go_wp2_with fail
 refine (HN.out _).mono ?_
 rintro e w1 ⟨rfl,hb1⟩
 have hB1:=hB0.below hb1 hB0.lt
 have hz1:=hz0.trans (hb1.mono hz0.size)
 clear hb1 hB0 x0 x1 x2 x3 x4 x5 x6
 obtain ⟨x0,x1,x2,x3,x4,x5,x6⟩:=hB1.cls7
 simp at x0 x1 x2 x3 x4 x5 x6
 go_wp2
 go_ret
 exact ⟨by first | rfl | (rw [show True=True from rfl];rfl),hz1⟩
theorem check_6_o (c:PCall) (hc:CallW c) (hw:c.what=6) (hn:nameB c.name=true) (ho:nameB c.owner=false) (w:World):Calls Tryz.prog 42 #[CallV c] w fun e w'=>e=.returned (faultV (callFault c))∧Below w.heap.size w w':=by
 have hnl:=hc.name
 have hol:=hc.owner
 obtain ⟨c1,nm,pa,pn,ln,cad,ow⟩:=c
 simp only at *
 subst hw
 have HFT:=Hd (show callFault ⟨6,nm,pa,pn,ln,cad,ow⟩=5 by unfold callFault;rw [if_neg (by simp)];rw [if_neg (by rw [hn];simp)];rw [if_pos ⟨(show callOwned 6=true by decide),ho⟩])
 have HN:=Hd (name_yes nm hnl hn)
 have HO:=Hd (name_not ow hol ho)
 clear hn ho
 unfold CallV
 simp only
 rw [HFT.out]
 have hB0:=Blk.new w 33 #[.int .i64 6,txt nm,.int .i64 pa,.int .i64 pn,.int .i64 ln,.int .i64 cad,txt ow]
 have hz0:=(Below.refl w.heap.size w).alloc (Nat.le_refl _) (.cells #[.int .i64 6,txt nm,.int .i64 pa,.int .i64 pn,.int .i64 ln,.int .i64 cad,txt ow] 33)
 go_enter Tryz.func42,Tryz.ntmps42
 go_upto_region 1 with fail
 refine wp_name (fun w0 HW=>?_)
 rw [← HW.out] at hB0 hz0
 clear HW
 obtain ⟨x0,x1,x2,x3,x4,x5,x6⟩:=hB0.cls7
 simp at x0 x1 x2 x3 x4 x5 x6
 go_wp2_with fail
 refine (HN.out _).mono ?_
 rintro e w1 ⟨rfl,hb1⟩
 have hB1:=hB0.below hb1 hB0.lt
 have hz1:=hz0.trans (hb1.mono hz0.size)
 clear hb1 hB0 x0 x1 x2 x3 x4 x5 x6
 obtain ⟨x0,x1,x2,x3,x4,x5,x6⟩:=hB1.cls7
 simp at x0 x1 x2 x3 x4 x5 x6
 go_wp2_with fail
 refine (HO.out _).mono ?_
 rintro e w2 ⟨rfl,hb2⟩
 have hB2:=hB1.below hb2 hB1.lt
 have hz2:=hz1.trans (hb2.mono hz1.size)
 clear hb2 hB1 x0 x1 x2 x3 x4 x5 x6
 obtain ⟨x0,x1,x2,x3,x4,x5,x6⟩:=hB2.cls7
 simp at x0 x1 x2 x3 x4 x5 x6
 go_wp2
 go_ret
 exact ⟨by first | rfl | (rw [show True=True from rfl];rfl),hz2⟩
theorem check_6_p (c:PCall) (hc:CallW c) (hw:c.what=6) (hn:nameB c.name=true) (ho:nameB c.owner=true) (hp:chk c.pa c.pn≠0) (w:World):Calls Tryz.prog 42 #[CallV c] w fun e w'=>e=.returned (faultV (callFault c))∧Below w.heap.size w w':=by
 have hnl:=hc.name
 have hol:=hc.owner
 obtain ⟨c1,nm,pa,pn,ln,cad,ow⟩:=c
 simp only at *
 subst hw
 have HFT:=Hd (show callFault ⟨6,nm,pa,pn,ln,cad,ow⟩=chk pa pn by unfold callFault;rw [if_neg (by simp)];rw [if_neg (by rw [hn];simp)];rw [if_neg (by rw [ho];simp)];rw [if_pos (show callPf 6=true by decide)])
 have HN:=Hd (name_yes nm hnl hn)
 have HO:=Hd (name_yes ow hol ho)
 have HP:=Hd (check_bad pa pn hp)
 have HP0:=Hd hp
 clear hn ho
 clear hp
 unfold CallV
 simp only
 rw [HFT.out]
 have hB0:=Blk.new w 33 #[.int .i64 6,txt nm,.int .i64 pa,.int .i64 pn,.int .i64 ln,.int .i64 cad,txt ow]
 have hz0:=(Below.refl w.heap.size w).alloc (Nat.le_refl _) (.cells #[.int .i64 6,txt nm,.int .i64 pa,.int .i64 pn,.int .i64 ln,.int .i64 cad,txt ow] 33)
 go_enter Tryz.func42,Tryz.ntmps42
 go_upto_region 1 with fail
 refine wp_name (fun w0 HW=>?_)
 rw [← HW.out] at hB0 hz0
 clear HW
 obtain ⟨x0,x1,x2,x3,x4,x5,x6⟩:=hB0.cls7
 simp at x0 x1 x2 x3 x4 x5 x6
 go_wp2_with fail
 refine (HN.out _).mono ?_
 rintro e w1 ⟨rfl,hb1⟩
 have hB1:=hB0.below hb1 hB0.lt
 have hz1:=hz0.trans (hb1.mono hz0.size)
 clear hb1 hB0 x0 x1 x2 x3 x4 x5 x6
 obtain ⟨x0,x1,x2,x3,x4,x5,x6⟩:=hB1.cls7
 simp at x0 x1 x2 x3 x4 x5 x6
 go_wp2_with fail
 refine (HO.out _).mono ?_
 rintro e w2 ⟨rfl,hb2⟩
 have hB2:=hB1.below hb2 hB1.lt
 have hz2:=hz1.trans (hb2.mono hz1.size)
 clear hb2 hB1 x0 x1 x2 x3 x4 x5 x6
 obtain ⟨x0,x1,x2,x3,x4,x5,x6⟩:=hB2.cls7
 simp at x0 x1 x2 x3 x4 x5 x6
 go_wp2_with fail
 refine (HP.out _).mono ?_
 rintro e w3 ⟨rfl,hb3⟩
 have hB3:=hB2.below hb3 hB2.lt
 have hz3:=hz2.trans (hb3.mono hz2.size)
 clear hb3 hB2 x0 x1 x2 x3 x4 x5 x6
 obtain ⟨x0,x1,x2,x3,x4,x5,x6⟩:=hB3.cls7
 simp at x0 x1 x2 x3 x4 x5 x6
 go_wp2
 go_ret
 exact ⟨by first | rfl | (rw [(fault_num HP0.out)];rfl),hz3⟩
theorem check_6_y (c:PCall) (hc:CallW c) (hw:c.what=6) (hn:nameB c.name=true) (ho:nameB c.owner=true) (hp:chk c.pa c.pn=0) (w:World):Calls Tryz.prog 42 #[CallV c] w fun e w'=>e=.returned (faultV (callFault c))∧Below w.heap.size w w':=by
 have hnl:=hc.name
 have hol:=hc.owner
 obtain ⟨c1,nm,pa,pn,ln,cad,ow⟩:=c
 simp only at *
 subst hw
 have HFT:=Hd (show callFault ⟨6,nm,pa,pn,ln,cad,ow⟩=0 by unfold callFault;rw [if_neg (by simp)];rw [if_neg (by rw [hn];simp)];rw [if_neg (by rw [ho];simp)];rw [if_pos (show callPf 6=true by decide)];rw [hp])
 have HN:=Hd (name_yes nm hnl hn)
 have HO:=Hd (name_yes ow hol ho)
 have HP:=Hd (check_ok pa pn hp)
 clear hn ho
 clear hp
 unfold CallV
 simp only
 rw [HFT.out]
 have hB0:=Blk.new w 33 #[.int .i64 6,txt nm,.int .i64 pa,.int .i64 pn,.int .i64 ln,.int .i64 cad,txt ow]
 have hz0:=(Below.refl w.heap.size w).alloc (Nat.le_refl _) (.cells #[.int .i64 6,txt nm,.int .i64 pa,.int .i64 pn,.int .i64 ln,.int .i64 cad,txt ow] 33)
 go_enter Tryz.func42,Tryz.ntmps42
 go_upto_region 1 with fail
 refine wp_name (fun w0 HW=>?_)
 rw [← HW.out] at hB0 hz0
 clear HW
 obtain ⟨x0,x1,x2,x3,x4,x5,x6⟩:=hB0.cls7
 simp at x0 x1 x2 x3 x4 x5 x6
 go_wp2_with fail
 refine (HN.out _).mono ?_
 rintro e w1 ⟨rfl,hb1⟩
 have hB1:=hB0.below hb1 hB0.lt
 have hz1:=hz0.trans (hb1.mono hz0.size)
 clear hb1 hB0 x0 x1 x2 x3 x4 x5 x6
 obtain ⟨x0,x1,x2,x3,x4,x5,x6⟩:=hB1.cls7
 simp at x0 x1 x2 x3 x4 x5 x6
 go_wp2_with fail
 refine (HO.out _).mono ?_
 rintro e w2 ⟨rfl,hb2⟩
 have hB2:=hB1.below hb2 hB1.lt
 have hz2:=hz1.trans (hb2.mono hz1.size)
 clear hb2 hB1 x0 x1 x2 x3 x4 x5 x6
 obtain ⟨x0,x1,x2,x3,x4,x5,x6⟩:=hB2.cls7
 simp at x0 x1 x2 x3 x4 x5 x6
 go_wp2_with fail
 refine (HP.out _).mono ?_
 rintro e w3 ⟨rfl,hb3⟩
 have hB3:=hB2.below hb3 hB2.lt
 have hz3:=hz2.trans (hb3.mono hz2.size)
 clear hb3 hB2 x0 x1 x2 x3 x4 x5 x6
 obtain ⟨x0,x1,x2,x3,x4,x5,x6⟩:=hB3.cls7
 simp at x0 x1 x2 x3 x4 x5 x6
 go_wp2
 go_ret
 exact ⟨by first | rfl | (rw [show True=True from rfl];rfl),hz3⟩
theorem check_7_n (c:PCall) (hc:CallW c) (hw:c.what=7) (hn:nameB c.name=false) (w:World):Calls Tryz.prog 42 #[CallV c] w fun e w'=>e=.returned (faultV (callFault c))∧Below w.heap.size w w':=by
 have hnl:=hc.name
 have hol:=hc.owner
 obtain ⟨c1,nm,pa,pn,ln,cad,ow⟩:=c
 simp only at *
 subst hw
 have HFT:=Hd (show callFault ⟨7,nm,pa,pn,ln,cad,ow⟩=5 by unfold callFault;rw [if_neg (by simp)];rw [if_pos hn])
 have HN:=Hd (name_not nm hnl hn)
 clear hn
 unfold CallV
 simp only
 rw [HFT.out]
 have hB0:=Blk.new w 33 #[.int .i64 7,txt nm,.int .i64 pa,.int .i64 pn,.int .i64 ln,.int .i64 cad,txt ow]
 have hz0:=(Below.refl w.heap.size w).alloc (Nat.le_refl _) (.cells #[.int .i64 7,txt nm,.int .i64 pa,.int .i64 pn,.int .i64 ln,.int .i64 cad,txt ow] 33)
 go_enter Tryz.func42,Tryz.ntmps42
 go_upto_region 1 with fail
 refine wp_name (fun w0 HW=>?_)
 rw [← HW.out] at hB0 hz0
 clear HW
 obtain ⟨x0,x1,x2,x3,x4,x5,x6⟩:=hB0.cls7
 simp at x0 x1 x2 x3 x4 x5 x6
 go_wp2_with fail
 refine (HN.out _).mono ?_
 rintro e w1 ⟨rfl,hb1⟩
 have hB1:=hB0.below hb1 hB0.lt
 have hz1:=hz0.trans (hb1.mono hz0.size)
 clear hb1 hB0 x0 x1 x2 x3 x4 x5 x6
 obtain ⟨x0,x1,x2,x3,x4,x5,x6⟩:=hB1.cls7
 simp at x0 x1 x2 x3 x4 x5 x6
 go_wp2
 go_ret
 exact ⟨by first | rfl | (rw [show True=True from rfl];rfl),hz1⟩
theorem check_7_o (c:PCall) (hc:CallW c) (hw:c.what=7) (hn:nameB c.name=true) (ho:nameB c.owner=false) (w:World):Calls Tryz.prog 42 #[CallV c] w fun e w'=>e=.returned (faultV (callFault c))∧Below w.heap.size w w':=by
 have hnl:=hc.name
 have hol:=hc.owner
 obtain ⟨c1,nm,pa,pn,ln,cad,ow⟩:=c
 simp only at *
 subst hw
 have HFT:=Hd (show callFault ⟨7,nm,pa,pn,ln,cad,ow⟩=5 by unfold callFault;rw [if_neg (by simp)];rw [if_neg (by rw [hn];simp)];rw [if_pos ⟨(show callOwned 7=true by decide),ho⟩])
 have HN:=Hd (name_yes nm hnl hn)
 have HO:=Hd (name_not ow hol ho)
 clear hn ho
 unfold CallV
 simp only
 rw [HFT.out]
 have hB0:=Blk.new w 33 #[.int .i64 7,txt nm,.int .i64 pa,.int .i64 pn,.int .i64 ln,.int .i64 cad,txt ow]
 have hz0:=(Below.refl w.heap.size w).alloc (Nat.le_refl _) (.cells #[.int .i64 7,txt nm,.int .i64 pa,.int .i64 pn,.int .i64 ln,.int .i64 cad,txt ow] 33)
 go_enter Tryz.func42,Tryz.ntmps42
 go_upto_region 1 with fail
 refine wp_name (fun w0 HW=>?_)
 rw [← HW.out] at hB0 hz0
 clear HW
 obtain ⟨x0,x1,x2,x3,x4,x5,x6⟩:=hB0.cls7
 simp at x0 x1 x2 x3 x4 x5 x6
 go_wp2_with fail
 refine (HN.out _).mono ?_
 rintro e w1 ⟨rfl,hb1⟩
 have hB1:=hB0.below hb1 hB0.lt
 have hz1:=hz0.trans (hb1.mono hz0.size)
 clear hb1 hB0 x0 x1 x2 x3 x4 x5 x6
 obtain ⟨x0,x1,x2,x3,x4,x5,x6⟩:=hB1.cls7
 simp at x0 x1 x2 x3 x4 x5 x6
 go_wp2_with fail
 refine (HO.out _).mono ?_
 rintro e w2 ⟨rfl,hb2⟩
 have hB2:=hB1.below hb2 hB1.lt
 have hz2:=hz1.trans (hb2.mono hz1.size)
 clear hb2 hB1 x0 x1 x2 x3 x4 x5 x6
 obtain ⟨x0,x1,x2,x3,x4,x5,x6⟩:=hB2.cls7
 simp at x0 x1 x2 x3 x4 x5 x6
 go_wp2
 go_ret
 exact ⟨by first | rfl | (rw [show True=True from rfl];rfl),hz2⟩
theorem check_7_p (c:PCall) (hc:CallW c) (hw:c.what=7) (hn:nameB c.name=true) (ho:nameB c.owner=true) (hp:chk c.pa c.pn≠0) (w:World):Calls Tryz.prog 42 #[CallV c] w fun e w'=>e=.returned (faultV (callFault c))∧Below w.heap.size w w':=by
 have hnl:=hc.name
 have hol:=hc.owner
 obtain ⟨c1,nm,pa,pn,ln,cad,ow⟩:=c
 simp only at *
 subst hw
 have HFT:=Hd (show callFault ⟨7,nm,pa,pn,ln,cad,ow⟩=chk pa pn by unfold callFault;rw [if_neg (by simp)];rw [if_neg (by rw [hn];simp)];rw [if_neg (by rw [ho];simp)];rw [if_pos (show callPf 7=true by decide)])
 have HN:=Hd (name_yes nm hnl hn)
 have HO:=Hd (name_yes ow hol ho)
 have HP:=Hd (check_bad pa pn hp)
 have HP0:=Hd hp
 clear hn ho
 clear hp
 unfold CallV
 simp only
 rw [HFT.out]
 have hB0:=Blk.new w 33 #[.int .i64 7,txt nm,.int .i64 pa,.int .i64 pn,.int .i64 ln,.int .i64 cad,txt ow]
 have hz0:=(Below.refl w.heap.size w).alloc (Nat.le_refl _) (.cells #[.int .i64 7,txt nm,.int .i64 pa,.int .i64 pn,.int .i64 ln,.int .i64 cad,txt ow] 33)
 go_enter Tryz.func42,Tryz.ntmps42
 go_upto_region 1 with fail
 refine wp_name (fun w0 HW=>?_)
 rw [← HW.out] at hB0 hz0
 clear HW
 obtain ⟨x0,x1,x2,x3,x4,x5,x6⟩:=hB0.cls7
 simp at x0 x1 x2 x3 x4 x5 x6
 go_wp2_with fail
 refine (HN.out _).mono ?_
 rintro e w1 ⟨rfl,hb1⟩
 have hB1:=hB0.below hb1 hB0.lt
 have hz1:=hz0.trans (hb1.mono hz0.size)
 clear hb1 hB0 x0 x1 x2 x3 x4 x5 x6
 obtain ⟨x0,x1,x2,x3,x4,x5,x6⟩:=hB1.cls7
 simp at x0 x1 x2 x3 x4 x5 x6
 go_wp2_with fail
 refine (HO.out _).mono ?_
 rintro e w2 ⟨rfl,hb2⟩
 have hB2:=hB1.below hb2 hB1.lt
 have hz2:=hz1.trans (hb2.mono hz1.size)
 clear hb2 hB1 x0 x1 x2 x3 x4 x5 x6
 obtain ⟨x0,x1,x2,x3,x4,x5,x6⟩:=hB2.cls7
 simp at x0 x1 x2 x3 x4 x5 x6
 go_wp2_with fail
 refine (HP.out _).mono ?_
 rintro e w3 ⟨rfl,hb3⟩
 have hB3:=hB2.below hb3 hB2.lt
 have hz3:=hz2.trans (hb3.mono hz2.size)
 clear hb3 hB2 x0 x1 x2 x3 x4 x5 x6
 obtain ⟨x0,x1,x2,x3,x4,x5,x6⟩:=hB3.cls7
 simp at x0 x1 x2 x3 x4 x5 x6
 go_wp2
 go_ret
 exact ⟨by first | rfl | (rw [(fault_num HP0.out)];rfl),hz3⟩
theorem check_7_y (c:PCall) (hc:CallW c) (hw:c.what=7) (hn:nameB c.name=true) (ho:nameB c.owner=true) (hp:chk c.pa c.pn=0) (w:World):Calls Tryz.prog 42 #[CallV c] w fun e w'=>e=.returned (faultV (callFault c))∧Below w.heap.size w w':=by
 have hnl:=hc.name
 have hol:=hc.owner
 obtain ⟨c1,nm,pa,pn,ln,cad,ow⟩:=c
 simp only at *
 subst hw
 have HFT:=Hd (show callFault ⟨7,nm,pa,pn,ln,cad,ow⟩=0 by unfold callFault;rw [if_neg (by simp)];rw [if_neg (by rw [hn];simp)];rw [if_neg (by rw [ho];simp)];rw [if_pos (show callPf 7=true by decide)];rw [hp])
 have HN:=Hd (name_yes nm hnl hn)
 have HO:=Hd (name_yes ow hol ho)
 have HP:=Hd (check_ok pa pn hp)
 clear hn ho
 clear hp
 unfold CallV
 simp only
 rw [HFT.out]
 have hB0:=Blk.new w 33 #[.int .i64 7,txt nm,.int .i64 pa,.int .i64 pn,.int .i64 ln,.int .i64 cad,txt ow]
 have hz0:=(Below.refl w.heap.size w).alloc (Nat.le_refl _) (.cells #[.int .i64 7,txt nm,.int .i64 pa,.int .i64 pn,.int .i64 ln,.int .i64 cad,txt ow] 33)
 go_enter Tryz.func42,Tryz.ntmps42
 go_upto_region 1 with fail
 refine wp_name (fun w0 HW=>?_)
 rw [← HW.out] at hB0 hz0
 clear HW
 obtain ⟨x0,x1,x2,x3,x4,x5,x6⟩:=hB0.cls7
 simp at x0 x1 x2 x3 x4 x5 x6
 go_wp2_with fail
 refine (HN.out _).mono ?_
 rintro e w1 ⟨rfl,hb1⟩
 have hB1:=hB0.below hb1 hB0.lt
 have hz1:=hz0.trans (hb1.mono hz0.size)
 clear hb1 hB0 x0 x1 x2 x3 x4 x5 x6
 obtain ⟨x0,x1,x2,x3,x4,x5,x6⟩:=hB1.cls7
 simp at x0 x1 x2 x3 x4 x5 x6
 go_wp2_with fail
 refine (HO.out _).mono ?_
 rintro e w2 ⟨rfl,hb2⟩
 have hB2:=hB1.below hb2 hB1.lt
 have hz2:=hz1.trans (hb2.mono hz1.size)
 clear hb2 hB1 x0 x1 x2 x3 x4 x5 x6
 obtain ⟨x0,x1,x2,x3,x4,x5,x6⟩:=hB2.cls7
 simp at x0 x1 x2 x3 x4 x5 x6
 go_wp2_with fail
 refine (HP.out _).mono ?_
 rintro e w3 ⟨rfl,hb3⟩
 have hB3:=hB2.below hb3 hB2.lt
 have hz3:=hz2.trans (hb3.mono hz2.size)
 clear hb3 hB2 x0 x1 x2 x3 x4 x5 x6
 obtain ⟨x0,x1,x2,x3,x4,x5,x6⟩:=hB3.cls7
 simp at x0 x1 x2 x3 x4 x5 x6
 go_wp2
 go_ret
 exact ⟨by first | rfl | (rw [show True=True from rfl];rfl),hz3⟩
theorem check_8_n (c:PCall) (hc:CallW c) (hw:c.what=8) (hn:nameB c.name=false) (w:World):Calls Tryz.prog 42 #[CallV c] w fun e w'=>e=.returned (faultV (callFault c))∧Below w.heap.size w w':=by
 have hnl:=hc.name
 have hol:=hc.owner
 obtain ⟨c1,nm,pa,pn,ln,cad,ow⟩:=c
 simp only at *
 subst hw
 have HFT:=Hd (show callFault ⟨8,nm,pa,pn,ln,cad,ow⟩=5 by unfold callFault;rw [if_neg (by simp)];rw [if_pos hn])
 have HN:=Hd (name_not nm hnl hn)
 clear hn
 unfold CallV
 simp only
 rw [HFT.out]
 have hB0:=Blk.new w 33 #[.int .i64 8,txt nm,.int .i64 pa,.int .i64 pn,.int .i64 ln,.int .i64 cad,txt ow]
 have hz0:=(Below.refl w.heap.size w).alloc (Nat.le_refl _) (.cells #[.int .i64 8,txt nm,.int .i64 pa,.int .i64 pn,.int .i64 ln,.int .i64 cad,txt ow] 33)
 go_enter Tryz.func42,Tryz.ntmps42
 go_upto_region 1 with fail
 refine wp_name (fun w0 HW=>?_)
 rw [← HW.out] at hB0 hz0
 clear HW
 obtain ⟨x0,x1,x2,x3,x4,x5,x6⟩:=hB0.cls7
 simp at x0 x1 x2 x3 x4 x5 x6
 go_wp2_with fail
 refine (HN.out _).mono ?_
 rintro e w1 ⟨rfl,hb1⟩
 have hB1:=hB0.below hb1 hB0.lt
 have hz1:=hz0.trans (hb1.mono hz0.size)
 clear hb1 hB0 x0 x1 x2 x3 x4 x5 x6
 obtain ⟨x0,x1,x2,x3,x4,x5,x6⟩:=hB1.cls7
 simp at x0 x1 x2 x3 x4 x5 x6
 go_wp2
 go_ret
 exact ⟨by first | rfl | (rw [show True=True from rfl];rfl),hz1⟩
theorem check_8_y (c:PCall) (hc:CallW c) (hw:c.what=8) (hn:nameB c.name=true)  (w:World):Calls Tryz.prog 42 #[CallV c] w fun e w'=>e=.returned (faultV (callFault c))∧Below w.heap.size w w':=by
 have hnl:=hc.name
 have hol:=hc.owner
 obtain ⟨c1,nm,pa,pn,ln,cad,ow⟩:=c
 simp only at *
 subst hw
 have HFT:=Hd (show callFault ⟨8,nm,pa,pn,ln,cad,ow⟩=0 by unfold callFault;rw [if_neg (by simp)];rw [if_neg (by rw [hn];simp)];rw [if_neg (fun q=>absurd q.1 (show ¬ callOwned 8=true by decide))];rw [if_neg (show ¬ callPf 8=true by decide)];rw [if_neg (fun q=>absurd q.1 (show ¬ callAd 8=true by decide))])
 have HN:=Hd (name_yes nm hnl hn)
 clear hn
 unfold CallV
 simp only
 rw [HFT.out]
 have hB0:=Blk.new w 33 #[.int .i64 8,txt nm,.int .i64 pa,.int .i64 pn,.int .i64 ln,.int .i64 cad,txt ow]
 have hz0:=(Below.refl w.heap.size w).alloc (Nat.le_refl _) (.cells #[.int .i64 8,txt nm,.int .i64 pa,.int .i64 pn,.int .i64 ln,.int .i64 cad,txt ow] 33)
 go_enter Tryz.func42,Tryz.ntmps42
 go_upto_region 1 with fail
 refine wp_name (fun w0 HW=>?_)
 rw [← HW.out] at hB0 hz0
 clear HW
 obtain ⟨x0,x1,x2,x3,x4,x5,x6⟩:=hB0.cls7
 simp at x0 x1 x2 x3 x4 x5 x6
 go_wp2_with fail
 refine (HN.out _).mono ?_
 rintro e w1 ⟨rfl,hb1⟩
 have hB1:=hB0.below hb1 hB0.lt
 have hz1:=hz0.trans (hb1.mono hz0.size)
 clear hb1 hB0 x0 x1 x2 x3 x4 x5 x6
 obtain ⟨x0,x1,x2,x3,x4,x5,x6⟩:=hB1.cls7
 simp at x0 x1 x2 x3 x4 x5 x6
 go_wp2
 go_ret
 exact ⟨by first | rfl | (rw [show True=True from rfl];rfl),hz1⟩
theorem check_9_n (c:PCall) (hc:CallW c) (hw:c.what=9) (hn:nameB c.name=false) (w:World):Calls Tryz.prog 42 #[CallV c] w fun e w'=>e=.returned (faultV (callFault c))∧Below w.heap.size w w':=by
 have hnl:=hc.name
 have hol:=hc.owner
 obtain ⟨c1,nm,pa,pn,ln,cad,ow⟩:=c
 simp only at *
 subst hw
 have HFT:=Hd (show callFault ⟨9,nm,pa,pn,ln,cad,ow⟩=5 by unfold callFault;rw [if_neg (by simp)];rw [if_pos hn])
 have HN:=Hd (name_not nm hnl hn)
 clear hn
 unfold CallV
 simp only
 rw [HFT.out]
 have hB0:=Blk.new w 33 #[.int .i64 9,txt nm,.int .i64 pa,.int .i64 pn,.int .i64 ln,.int .i64 cad,txt ow]
 have hz0:=(Below.refl w.heap.size w).alloc (Nat.le_refl _) (.cells #[.int .i64 9,txt nm,.int .i64 pa,.int .i64 pn,.int .i64 ln,.int .i64 cad,txt ow] 33)
 go_enter Tryz.func42,Tryz.ntmps42
 go_upto_region 1 with fail
 refine wp_name (fun w0 HW=>?_)
 rw [← HW.out] at hB0 hz0
 clear HW
 obtain ⟨x0,x1,x2,x3,x4,x5,x6⟩:=hB0.cls7
 simp at x0 x1 x2 x3 x4 x5 x6
 go_wp2_with fail
 refine (HN.out _).mono ?_
 rintro e w1 ⟨rfl,hb1⟩
 have hB1:=hB0.below hb1 hB0.lt
 have hz1:=hz0.trans (hb1.mono hz0.size)
 clear hb1 hB0 x0 x1 x2 x3 x4 x5 x6
 obtain ⟨x0,x1,x2,x3,x4,x5,x6⟩:=hB1.cls7
 simp at x0 x1 x2 x3 x4 x5 x6
 go_wp2
 go_ret
 exact ⟨by first | rfl | (rw [show True=True from rfl];rfl),hz1⟩
theorem check_9_a (c:PCall) (hc:CallW c) (hw:c.what=9) (hn:nameB c.name=true) (ha:isA c.ad=false) (w:World):Calls Tryz.prog 42 #[CallV c] w fun e w'=>e=.returned (faultV (callFault c))∧Below w.heap.size w w':=by
 have hnl:=hc.name
 have hol:=hc.owner
 obtain ⟨c1,nm,pa,pn,ln,cad,ow⟩:=c
 simp only at *
 subst hw
 have HFT:=Hd (show callFault ⟨9,nm,pa,pn,ln,cad,ow⟩=1 by unfold callFault;rw [if_neg (by simp)];rw [if_neg (by rw [hn];simp)];rw [if_neg (fun q=>absurd q.1 (show ¬ callOwned 9=true by decide))];rw [if_neg (show ¬ callPf 9=true by decide)];rw [if_pos ⟨(show callAd 9=true by decide),ha⟩])
 have HN:=Hd (name_yes nm hnl hn)
 have HA:=Hd (isA_no cad ha)
 clear hn
 clear ha
 unfold CallV
 simp only
 rw [HFT.out]
 have hB0:=Blk.new w 33 #[.int .i64 9,txt nm,.int .i64 pa,.int .i64 pn,.int .i64 ln,.int .i64 cad,txt ow]
 have hz0:=(Below.refl w.heap.size w).alloc (Nat.le_refl _) (.cells #[.int .i64 9,txt nm,.int .i64 pa,.int .i64 pn,.int .i64 ln,.int .i64 cad,txt ow] 33)
 go_enter Tryz.func42,Tryz.ntmps42
 go_upto_region 1 with fail
 refine wp_name (fun w0 HW=>?_)
 rw [← HW.out] at hB0 hz0
 clear HW
 obtain ⟨x0,x1,x2,x3,x4,x5,x6⟩:=hB0.cls7
 simp at x0 x1 x2 x3 x4 x5 x6
 go_wp2_with fail
 refine (HN.out _).mono ?_
 rintro e w1 ⟨rfl,hb1⟩
 have hB1:=hB0.below hb1 hB0.lt
 have hz1:=hz0.trans (hb1.mono hz0.size)
 clear hb1 hB0 x0 x1 x2 x3 x4 x5 x6
 obtain ⟨x0,x1,x2,x3,x4,x5,x6⟩:=hB1.cls7
 simp at x0 x1 x2 x3 x4 x5 x6
 go_wp2_with fail
 refine (HA.out _).mono ?_
 rintro e w2 ⟨rfl,hb2⟩
 have hB2:=hB1.below hb2 hB1.lt
 have hz2:=hz1.trans (hb2.mono hz1.size)
 clear hb2 hB1 x0 x1 x2 x3 x4 x5 x6
 obtain ⟨x0,x1,x2,x3,x4,x5,x6⟩:=hB2.cls7
 simp at x0 x1 x2 x3 x4 x5 x6
 go_wp2
 go_ret
 exact ⟨by first | rfl | (rw [show True=True from rfl];rfl),hz2⟩
theorem check_9_y (c:PCall) (hc:CallW c) (hw:c.what=9) (hn:nameB c.name=true) (ha:isA c.ad=true) (w:World):Calls Tryz.prog 42 #[CallV c] w fun e w'=>e=.returned (faultV (callFault c))∧Below w.heap.size w w':=by
 have hnl:=hc.name
 have hol:=hc.owner
 obtain ⟨c1,nm,pa,pn,ln,cad,ow⟩:=c
 simp only at *
 subst hw
 have HFT:=Hd (show callFault ⟨9,nm,pa,pn,ln,cad,ow⟩=0 by unfold callFault;rw [if_neg (by simp)];rw [if_neg (by rw [hn];simp)];rw [if_neg (fun q=>absurd q.1 (show ¬ callOwned 9=true by decide))];rw [if_neg (show ¬ callPf 9=true by decide)];rw [if_neg (by rw [ha];simp)])
 have HN:=Hd (name_yes nm hnl hn)
 have HA:=Hd (isA_yes cad ha)
 clear hn
 clear ha
 unfold CallV
 simp only
 rw [HFT.out]
 have hB0:=Blk.new w 33 #[.int .i64 9,txt nm,.int .i64 pa,.int .i64 pn,.int .i64 ln,.int .i64 cad,txt ow]
 have hz0:=(Below.refl w.heap.size w).alloc (Nat.le_refl _) (.cells #[.int .i64 9,txt nm,.int .i64 pa,.int .i64 pn,.int .i64 ln,.int .i64 cad,txt ow] 33)
 go_enter Tryz.func42,Tryz.ntmps42
 go_upto_region 1 with fail
 refine wp_name (fun w0 HW=>?_)
 rw [← HW.out] at hB0 hz0
 clear HW
 obtain ⟨x0,x1,x2,x3,x4,x5,x6⟩:=hB0.cls7
 simp at x0 x1 x2 x3 x4 x5 x6
 go_wp2_with fail
 refine (HN.out _).mono ?_
 rintro e w1 ⟨rfl,hb1⟩
 have hB1:=hB0.below hb1 hB0.lt
 have hz1:=hz0.trans (hb1.mono hz0.size)
 clear hb1 hB0 x0 x1 x2 x3 x4 x5 x6
 obtain ⟨x0,x1,x2,x3,x4,x5,x6⟩:=hB1.cls7
 simp at x0 x1 x2 x3 x4 x5 x6
 go_wp2_with fail
 refine (HA.out _).mono ?_
 rintro e w2 ⟨rfl,hb2⟩
 have hB2:=hB1.below hb2 hB1.lt
 have hz2:=hz1.trans (hb2.mono hz1.size)
 clear hb2 hB1 x0 x1 x2 x3 x4 x5 x6
 obtain ⟨x0,x1,x2,x3,x4,x5,x6⟩:=hB2.cls7
 simp at x0 x1 x2 x3 x4 x5 x6
 go_wp2
 go_ret
 exact ⟨by first | rfl | (rw [show True=True from rfl];rfl),hz2⟩
theorem checkC_any (c:PCall) (hc:CallW c) (w:World):Calls Tryz.prog 42 #[CallV c] w fun e w'=>e=.returned (faultV (callFault c))∧Below w.heap.size w w':=by
 by_cases h1:c.what < 1
 ·exact check_lo c hc h1 w
 by_cases h9:9 < c.what
 ·exact check_hi c hc h9 w
 have hw:c.what=1∨c.what=2∨c.what=3∨c.what=4∨c.what=5∨c.what=6∨c.what=7∨c.what=8∨c.what=9:=by omega
 cases hn:nameB c.name <;> cases ho:nameB c.owner <;> cases ha:isA c.ad <;> by_cases hp:chk c.pa c.pn=0 <;> rcases hw with hw | hw | hw | hw | hw | hw | hw | hw | hw
 all_goals first
  | exact check_1_n c hc hw hn w
  | exact check_1_o c hc hw hn ho w
  | exact check_1_y c hc hw hn ho w
  | exact check_2_n c hc hw hn w
  | exact check_2_o c hc hw hn ho w
  | exact check_2_p c hc hw hn ho hp w
  | exact check_2_y c hc hw hn ho hp w
  | exact check_3_n c hc hw hn w
  | exact check_3_p c hc hw hn hp w
  | exact check_3_y c hc hw hn hp w
  | exact check_4_n c hc hw hn w
  | exact check_4_o c hc hw hn ho w
  | exact check_4_a c hc hw hn ho ha w
  | exact check_4_y c hc hw hn ho ha w
  | exact check_5_n c hc hw hn w
  | exact check_5_a c hc hw hn ha w
  | exact check_5_y c hc hw hn ha w
  | exact check_6_n c hc hw hn w
  | exact check_6_o c hc hw hn ho w
  | exact check_6_p c hc hw hn ho hp w
  | exact check_6_y c hc hw hn ho hp w
  | exact check_7_n c hc hw hn w
  | exact check_7_o c hc hw hn ho w
  | exact check_7_p c hc hw hn ho hp w
  | exact check_7_y c hc hw hn ho hp w
  | exact check_8_n c hc hw hn w
  | exact check_8_y c hc hw hn w
  | exact check_9_n c hc hw hn w
  | exact check_9_a c hc hw hn ha w
  | exact check_9_y c hc hw hn ha w
theorem DKto.drew {B:Nat} {w w1:World} {T T1:Nat→Prop} {d:Nat} {g1:Dk} {k1:Nat} (h:DKto B w T d w1 T1 g1 k1):DKto B w T d w1.drew T1 g1 k1:=h.bel ((Below.refl _ _).drew)
theorem pk_len {c:PCall} (hn:nameB c.name=true) (p:Pf) (hp:chk p.1 p.2=0):(pkOf c.name p).length≤24+100000:=by
 have h8:=(nameB_iff.1 hn).2.2
 unfold pkOf
 have h0:=chk_zero.1 hp
 have l1:=decDigits_len (u:=p.2.toNat / 10) (by omega)
 have l2:=decDigits_len (u:=p.2.toNat % 10) (by omega)
 unfold pKey
 simp only [List.length_append,List.length_cons,List.length_nil,hexL_length]
 omega
theorem within_hit (p:Pf) (l:List Pf) (j:Nat) (h:j < l.length) (h1:l[j]≠p) (h2:inP l[j].1 l[j].2 p.1 p.2=true):(withinL p l).length≠0:=by
 have:l[j] ∈ withinL p l:=List.mem_filter.2 ⟨List.getElem_mem h,by simp [h1,h2]⟩
 intro e
 rw [List.eq_nil_of_length_eq_zero e] at this
 cases this
theorem anyI_snoc (f:Int→Bool) (l:List Int) (k:Nat) (h:k < l.length):(l.take (k+1)).any f=((l.take k).any f || f l[k]):=by
 rw [List.take_succ_eq_append_getElem h,List.any_append];simp
theorem anyI_hit (f:Int→Bool) (l:List Int) (k:Nat) (h:k < l.length) (q:f l[k]=true):l.any f=true:=List.any_eq_true.2 ⟨_,List.getElem_mem h,q⟩
theorem pk_any (net:List UInt8) (hn:nameB net=true) (p:Pf) (hp:chk p.1 p.2=0) {B:Nat} (w:World) (hB:B≤w.heap.size) (hV:GV B w) :
  Calls Tryz.prog 69 #[txt net,.agg #[.int .i64 p.1,.int .i64 p.2]] w fun e w'=>e=.returned (txt (pkOf net p))∧Below w.heap.size w w':=by
 have h0:=chk_zero.1 hp
 have h8:=(nameB_iff.1 hn).2.2
 obtain ⟨a,n⟩:=p
 obtain ⟨a0,rfl⟩:∃ x:Nat,a=x:=⟨a.toNat,by simp only at h0;omega⟩
 obtain ⟨n0,rfl⟩:∃ x:Nat,n=x:=⟨n.toNat,by simp only at h0;omega⟩
 have:=prefixKey_any net (by omega) a0 n0 hp w hB hV.key hV.txt
 unfold pkOf
 simpa using this
theorem ak_any (net:List UInt8) (hn:nameB net=true) (a:Int) (ha:isA a=true) {B:Nat} (w:World) (hB:B≤w.heap.size) (hV:GV B w) :
  Calls Tryz.prog 72 #[txt net,.int .i64 a] w fun e w'=>e=.returned (txt (akOf net a))∧Below w.heap.size w w':=by
 have h0:=isA_true.1 ha
 have h8:=(nameB_iff.1 hn).2.2
 obtain ⟨a0,rfl⟩:∃ x:Nat,a=x:=⟨a.toNat,by omega⟩
 have:=addrKey_any net (by omega) a0 (by omega) w hB hV.key
 unfold akOf
 simpa using this
theorem ak_len {c:PCall} (hn:nameB c.name=true) (a:Int):(akOf c.name a).length≤24+100000:=by
 have h8:=(nameB_iff.1 hn).2.2
 unfold akOf aKey
 simp only [List.length_append,List.length_cons,List.length_nil,hexL_length]
 omega
section
variable {B : Nat} {w : World} {T : Nat → Prop} {d : Nat} {g : Dk} {id : Int} {k : Nat}
theorem DK.take (h:DK B w T d g k) (hk:k≤40000) (hid:(Lit.int .i64 id).wf=true) (c:PCall) (hc:CallOk c) (hn:nameB c.name=true) (hp:chk c.pa c.pn=0) :
  Calls Tryz.prog 70 #[workV d id c] w fun e w'=>e=.returned (faultV (g.doTake id c).2.1)∧∃ T',DKto B w T d w' T' (g.doTake id c).2.2 k:=by
 have hD1:=h.refl.alloc (.cells (workCells d id c) 120)
 have hX1:=Loc.new h 120 (workCells d id c)
 have hD2:=hD1.alloc (.cells #[.int .i64 c.pa,.int .i64 c.pn] 31)
 have hX2:=hX1.alloc (.cells #[.int .i64 c.pa,.int .i64 c.pn] 31)
 have hP2:=Loc.new hD1.dk 31 #[.int .i64 c.pa,.int .i64 c.pn]
 have e2:=hX1.blk.cell 4
 have e3:=hX1.blk.cell 5
 simp [workCells] at e2 e3
 rw [World.size_alloc] at hP2
 have HN:=Hd hn
 have HP:=Hd hp
 have HC:=Hd hc
 clear hD1 hX1 hn hp
 have hkk:∀ W:World,Blk W w.heap.size 120 #[ptrV d,intV id,.int .i64 c.what,txt c.name,.int .i64 c.pa,.int .i64 c.pn,.int .i64 c.len,.int .i64 c.ad,txt c.owner]→Blk W (w.heap.size+1) 31 #[.int .i64 c.pa,.int .i64 c.pn] →
   W.cell? ⟨w.heap.size,0,none⟩=some (ptrV d)∧W.cell? ⟨w.heap.size,1,none⟩=some (intV id)∧W.cell? ⟨w.heap.size,2,none⟩=some (.int .i64 c.what)∧W.cell? ⟨w.heap.size,3,none⟩=some (txt c.name)∧W.cell? ⟨w.heap.size,4,none⟩=some (.int .i64 c.pa)∧W.cell? ⟨w.heap.size,5,none⟩=some (.int .i64 c.pn)∧W.cell? ⟨w.heap.size,6,none⟩=some (.int .i64 c.len)∧W.cell? ⟨w.heap.size,7,none⟩=some (.int .i64 c.ad)∧W.cell? ⟨w.heap.size,8,none⟩=some (txt c.owner)∧W.cell? ⟨w.heap.size+1,0,none⟩=some (.int .i64 c.pa)∧W.cell? ⟨w.heap.size+1,1,none⟩=some (.int .i64 c.pn) :=
  fun W a b=>⟨a.cell 0,a.cell 1,a.cell 2,a.cell 3,a.cell 4,a.cell 5,a.cell 6,a.cell 7,a.cell 8,b.cell 0,b.cell 1⟩
 unfold workV
 go_enter Tryz.func70,Tryz.ntmps70
 go_upto_region 2 with fail
 refine wp_name (fun w2 HW=>?_)
 unfold workCells at hD2 hX2 hP2
 rw [← HW.out] at hD2 hX2 hP2
 clear HW e2 e3
 have hkk2:=hkk
 have HPK:=Hd (fun W hB hV=>pk_any c.name HN.out (c.pa,c.pn) HP.out (B:=B) W hB hV)
 have HHAS:=Hd (fun W T' (q:DK B W T' d g k)=>q.has hk hid c c.pk (by have:=pk_len (c:=c) HN.out c.pf HP.out;unfold maxLen;unfold PCall.pk;omega))
 go_region_held3 (fun W=>W.cell? ⟨w.heap.size,0,none⟩=some (ptrV d)∧W.cell? ⟨w.heap.size,1,none⟩=some (intV id)∧W.cell? ⟨w.heap.size,2,none⟩=some (.int .i64 c.what)∧W.cell? ⟨w.heap.size,3,none⟩=some (txt c.name)∧W.cell? ⟨w.heap.size,4,none⟩=some (.int .i64 c.pa)∧W.cell? ⟨w.heap.size,5,none⟩=some (.int .i64 c.pn)∧W.cell? ⟨w.heap.size,6,none⟩=some (.int .i64 c.len)∧W.cell? ⟨w.heap.size,7,none⟩=some (.int .i64 c.ad)∧W.cell? ⟨w.heap.size,8,none⟩=some (txt c.owner)∧W.cell? ⟨w.heap.size+1,0,none⟩=some (.int .i64 c.pa)∧W.cell? ⟨w.heap.size+1,1,none⟩=some (.int .i64 c.pn))
  (first
   | exact hkk _ hX2.blk hP2.blk
   | exact hkk _ hX3.blk hP3.blk
   | exact hkk _ hX4.blk hP4.blk)
  ((first
   | (go_at_call 69;refine (HPK.out _ hD2.drew.dk.le hD2.drew.dk.gv).mono ?_;rintro e w3 ⟨rfl,hb3⟩;have hD3:=hD2.drew.bel hb3;have hX3:=hX2.bel (w2:=w3) ⟨hb3.os,hb3.tape,hb3.output,hb3.size,hb3.block⟩;have hP3:=hP2.bel (w2:=w3) ⟨hb3.os,hb3.tape,hb3.output,hb3.size,hb3.block⟩)
   | (go_at_call 43;refine (HHAS.out _ _ hD3.dk).mono ?_;rintro e w4 ⟨rfl,T4,hD34⟩;have hD4:=hD3.step hD34;have hX4:=hX3.step hD34;have hP4:=hP3.step hD34)))
 -- BEHIND has
 clear hD2 hX2 hP2 hD3 hX3 hP3 hD34 hb3 HHAS
 by_cases hf:(g.has id c.pk).2.1≠0
 ·have HR:=Hd (show g.doTake id c=(noAns,(g.has id c.pk).2.1,(g.has id c.pk).2.2) by unfold Dk.doTake;rw [if_pos hf])
  have HF:=Hd (fault_num hf)
  rw [HF.out]
  clear hf
  go_wp2
  go_ret
  exact ⟨by rw [HR.out,HF.out];rfl,T4,by rw [HR.out];exact hD4⟩
 have hf:(g.has id c.pk).2.1=0:=Decidable.not_not.1 hf
 rw [show faultV ((g.has id c.pk).2.1)=.nilIface by rw [hf];rfl]
 cases hb:(g.has id c.pk).1 with
 | false =>
  have HR:=Hd (show g.doTake id c=(noAns,4,(g.has id c.pk).2.2) by unfold Dk.doTake;rw [if_neg (by rw [hf];simp),if_pos hb])
  clear hf hb
  go_wp2
  go_ret
  exact ⟨by rw [HR.out];rfl,T4,by rw [HR.out];exact hD4⟩
 | true =>
  have HR:=Hd (show g.doTake id c=(g.has id c.pk).2.2.doTake2 id c by unfold Dk.doTake;rw [if_neg (by rw [hf];simp),if_neg (by rw [hb];simp)])
  clear hf hb
  generalize (g.has id c.pk).2.2=g1 at *
  have HPFX:=Hd (hD4.dk.prefixes hk hid c HC.out)
  obtain ⟨y0,y1,y2,y3,y4,y5,y6,y7,y8,z0,z1⟩:=hkk _ hX4.blk hP4.blk
  have hT4:=hD4.dk.lt
  unfold workV at HPFX
  go_wp2_with fail
  refine HPFX.out.mono ?_
  rintro e w5 ⟨v5,rfl,hown5,hlen5,hD45⟩
  have hD5:=hD4.step hD45
  have hX5:=hX4.step hD45
  have hP5:=hP4.step hD45
  clear hD4 hX4 hP4 hD45 HPFX y0 y1 y2 y3 y4 y5 y6 y7 y8 z0 z1
  by_cases hf:g1.pfxsE id c.name≠0
  ·have HR2:=Hd (show g1.doTake2 id c=(noAns,g1.pfxsE id c.name,(g1.allF id 112 c.name).2) by unfold Dk.doTake2;rw [if_pos hf])
   have HF:=Hd (fault_num hf)
   rw [HF.out]
   clear hf
   go_wp2
   go_ret
   exact ⟨by rw [HR.out,HR2.out,HF.out];rfl,T4,by rw [HR.out,HR2.out];exact hD5⟩
  have hf:g1.pfxsE id c.name=0:=Decidable.not_not.1 hf
  rw [show faultV (g1.pfxsE id c.name)=.nilIface by rw [hf];rfl]
  have HR2:=Hd (show g1.doTake2 id c=(g1.allF id 112 c.name).2.doTake3 id c (g1.pfxsL id c.name) by unfold Dk.doTake2;rw [if_neg (by rw [hf];simp)])
  have HLC:=Hd (pfxsL_chk g1 id c.name)
  clear hf
  generalize g1.pfxsL id c.name=L at *
  generalize (g1.allF id 112 c.name).2=g2 at *
  obtain ⟨A5,c5,rfl,hrd5⟩:=hown5.form
  have HADS:=Hd (hD5.dk.addresses hk hid c HC.out)
  obtain ⟨y0,y1,y2,y3,y4,y5,y6,y7,y8,z0,z1⟩:=hkk _ hX5.blk hP5.blk
  unfold workV at HADS
  go_wp2_with fail
  refine HADS.out.mono ?_
  rintro e w6 ⟨v6,rfl,hown6,hlen6,hD56⟩
  have hown56:OwnP w6 w4.heap.size 31 (.slice A5 L.length c5) L:=own_fr hown5 hD56.fr (row_out hown5 hT4)
  obtain ⟨A5',c5',e5,hrd56⟩:=hown56.form
  injection e5 with e51 e52 e53
  subst e51;subst e53
  have hD6:=hD5.step hD56
  have hX6:=hX5.step hD56
  have hP6:=hP5.step hD56
  clear hD5 hX5 hP5 hD56 HADS hown5 hown56 hrd5 e52 y0 y1 y2 y3 y4 y5 y6 y7 y8 z0 z1
  by_cases hf:g2.adsE id c.name≠0
  ·have HR3:=Hd (show g2.doTake3 id c L=(noAns,g2.adsE id c.name,(g2.allF id 97 c.name).2) by unfold Dk.doTake3;rw [if_pos hf])
   have HF:=Hd (fault_num hf)
   rw [HF.out]
   clear hf
   go_wp2
   go_ret
   exact ⟨by rw [HR.out,HR2.out,HR3.out,HF.out];rfl,T4,by rw [HR.out,HR2.out,HR3.out];exact hD6⟩
  have hf:g2.adsE id c.name=0:=Decidable.not_not.1 hf
  rw [show faultV (g2.adsE id c.name)=.nilIface by rw [hf];rfl]
  have HR3:=Hd (show g2.doTake3 id c L=if (withinL c.pf L).length≠0 then (noAns,7,(g2.allF id 97 c.name).2) else if (g2.adsL id c.name).any (fun a=>inA a c.pf && !coveredB a L c.pf) then (noAns,7,(g2.allF id 97 c.name).2) else (g2.allF id 97 c.name).2.chg id ⟨c.pk,[],true⟩ noAns by unfold Dk.doTake3;rw [if_neg (by rw [hf];simp)])
  have HLA:=Hd (adsL_is g2 id c.name)
  clear hf
  generalize g2.adsL id c.name=L2 at *
  generalize (g2.allF id 97 c.name).2=g3 at *
  obtain ⟨A6,c6,rfl,hrd6⟩:=hown6.form
  clear hown6
  obtain ⟨y0,y1,y2,y3,y4,y5,y6,y7,y8,z0,z1⟩:=hkk _ hX6.blk hP6.blk
  clear y0 y1 y2 y3 y4 y5 y6 y7 y8 z0 z1
  go_wp2
  go_loopw [49] (fun i wr=>∃ j:Nat,j≤L.length∧i=.int .i64 (j:Int)∧Below w6.heap.size w6 wr∧Hid (withinL c.pf (L.take j)=[])) (fun i _=>L.length - (intOf i).toNat)
  case atStart=>exact ⟨0,Nat.zero_le _,rfl,Below.refl _ _,Hd rfl⟩
  case round =>
   obtain ⟨j,hj,rfl,hb,HW⟩:=hrel
   by_cases hlt:j < L.length
   ·obtain ⟨b0,of0,rfl,hbb,c0,c1⟩:=(hrd56.below hb).pair hlt
    have HQ:=Hd (HLC.out L[j] (List.getElem_mem _))
    have HS:=Hd (withinL_snoc c.pf L j hlt)
    have HM:=Hd (within_hit c.pf L j hlt)
    generalize L[j]=q at *
    have hP:=(hP6.bel hb).alloc (.cells #[.int .i64 q.1,.int .i64 q.2] 31)
    obtain ⟨d0,d1,_,_⟩:=hP.blk.two
    have hz1:w.heap.size+1 < wr.heap.size:=(hP6.bel hb).blk.lt
    have hbq:=Blk.new wr 31 #[.int .i64 q.1,.int .i64 q.2]
    obtain ⟨f0,f1,_,_⟩:=hbq.two
    have hs:=hb.size
    have hb1:=hb.alloc hs (.cells #[.int .i64 q.1,.int .i64 q.2] 31)
    have HIN:=Hd (in_any q.1 q.2 c.pa c.pn HQ.out HP.out)
    obtain ⟨q1,q2⟩:=q
    by_cases e1:q1=c.pa
    ·subst e1
     by_cases e2:q2=c.pn
     ·subst e2
      have HF:=Hd (show withinL c.pf (L.take (j+1))=[] by rw [HS.out,HW.out,if_neg (fun e=>e.1 rfl)];rfl)
      clear HS HM HIN HQ hbq
      go_wp2
      go_roundw
      case rel=>exact ⟨j+1,by omega,by go_num,hb1,HF⟩
      case measure=>simp [intOf];omega
     ·have HNE:=Hd (show ((c.pa,q2):Pf)≠c.pf from fun e=>e2 (congrArg Prod.snd e))
      go_wp2_with fail
      refine (HIN.out _).mono ?_
      rintro e w8 ⟨rfl,hb8⟩
      have hb28:=hb1.trans (hb8.mono hb1.size)
      cases hi:inP c.pa q2 c.pa c.pn with
      | true =>
       have HF:=Hd (show g2.doTake3 id c L=(noAns,7,g3) by rw [HR3.out,if_pos (HM.out HNE.out hi)])
       have HD8:=Hd (hD6.bel hb28)
       clear hi HS HM HIN HQ hbq d0 d1 f0 f1
       go_wp2
       go_ret
       exact ⟨by rw [HR.out,HR2.out,HF.out];rfl,T4,by rw [HR.out,HR2.out,HF.out];exact HD8.out⟩
      | false =>
       have HF:=Hd (show withinL c.pf (L.take (j+1))=[] by rw [HS.out,HW.out,if_neg (fun e=>by have:=e.2;simp only [PCall.pf] at this;rw [hi] at this;cases this)];rfl)
       clear hi HS HM HIN HQ hbq d0 d1 f0 f1
       go_wp2
       go_roundw
       case rel=>exact ⟨j+1,by omega,by go_num,hb28,HF⟩
       case measure=>simp [intOf];omega
    ·have HNE:=Hd (show ((q1,q2):Pf)≠c.pf from fun e=>e1 (congrArg Prod.fst e))
     go_wp2_with fail
     refine (HIN.out _).mono ?_
     rintro e w8 ⟨rfl,hb8⟩
     have hb28:=hb1.trans (hb8.mono hb1.size)
     cases hi:inP q1 q2 c.pa c.pn with
     | true =>
      have HF:=Hd (show g2.doTake3 id c L=(noAns,7,g3) by rw [HR3.out,if_pos (HM.out HNE.out hi)])
      have HD8:=Hd (hD6.bel hb28)
      clear hi HS HM HIN HQ hbq d0 d1 f0 f1
      go_wp2
      go_ret
      exact ⟨by rw [HR.out,HR2.out,HF.out];rfl,T4,by rw [HR.out,HR2.out,HF.out];exact HD8.out⟩
     | false =>
      have HF:=Hd (show withinL c.pf (L.take (j+1))=[] by rw [HS.out,HW.out,if_neg (fun e=>by have:=e.2;simp only [PCall.pf] at this;rw [hi] at this;cases this)];rfl)
      clear hi HS HM HIN HQ hbq d0 d1 f0 f1
      go_wp2
      go_roundw
      case rel=>exact ⟨j+1,by omega,by go_num,hb28,HF⟩
      case measure=>simp [intOf];omega
   ·obtain rfl:j=L.length:=by omega
    rw [List.take_length] at HW
    have HR4:=Hd (show g2.doTake3 id c L=if L2.any (fun a=>inA a c.pf && !coveredB a L c.pf) then (noAns,7,g3) else g3.chg id ⟨c.pk,[],true⟩ noAns by rw [HR3.out,HW.out];rfl)
    clear HR3
    have hD7:=hD6.bel hb
    have hX7:=hX6.bel hb
    have hP7:=hP6.bel hb
    have hrd7:=hrd56.below hb
    have hrd67:=hrd6.below hb
    have hs7:=hb.size
    clear hrd56 hrd6 hD6 hX6 hP6 HW
    go_wp2
    go_loopw [65] (fun i wr2=>∃ j:Nat,j≤L2.length∧i=.int .i64 (j:Int)∧Below wr.heap.size wr wr2∧Hid ((L2.take j).any (fun a=>inA a c.pf && !coveredB a L c.pf)=false)) (fun i _=>L2.length - (intOf i).toNat)
    case atStart=>exact ⟨0,Nat.zero_le _,rfl,Below.refl _ _,Hd rfl⟩
    case round =>
     obtain ⟨j,hj,rfl,hb2,HW⟩:=hrel
     by_cases hlt:j < L2.length
     ·obtain ⟨b0,of0,rfl,hbb,c0⟩:=((hrd67.more hs7).below hb2).int hlt
      have HQ:=Hd (HLA.out L2[j] (List.getElem_mem _))
      have HS:=Hd (anyI_snoc (fun a=>inA a c.pf && !coveredB a L c.pf) L2 j hlt)
      have HM:=Hd (anyI_hit (fun a=>inA a c.pf && !coveredB a L c.pf) L2 j hlt)
      generalize L2[j]=q at *
      have hP:=hP7.bel hb2
      obtain ⟨d0,d1,_,_⟩:=hP.blk.two
      have hs:=hb2.size
      have HIN:=Hd (in_pl q HQ.out c.pf HP.out)
      unfold PCall.pf at HIN
      go_wp2_with fail
      refine (HIN.out _).mono ?_
      rintro e w8 ⟨rfl,hb8⟩
      have hb28:=hb2.trans (hb8.mono hs)
      have hs8:=hb28.size
      cases hi:inA q (c.pa,c.pn) with
      | false =>
       have HF:=Hd (show (L2.take (j+1)).any (fun a=>inA a c.pf && !coveredB a L c.pf)=false by rw [HS.out,HW.out];show (false || (inA q (c.pa,c.pn) && _))=false;rw [hi];rfl)
       clear hi HS HM HIN HQ d0 d1
       go_wp2
       go_roundw
       case rel=>exact ⟨j+1,by omega,by go_num,hb28,HF⟩
       case measure=>simp [intOf];omega
      | true =>
       have hP8:=hP.bel hb8
       have hrd78:=(hrd7.more hs7).below hb28
       clear d0 d1
       obtain ⟨d0,d1,_,_⟩:=hP8.blk.two
       have HCV:=Hd (covered_pl q HQ.out A5 L c5 c.pf (by omega) HLC.out w8 (hrd78.more hs8))
       unfold PCall.pf at HCV
       go_wp2_with fail
       refine HCV.out.mono ?_
       rintro e w9 ⟨rfl,hb9⟩
       have hb29:=hb28.trans (hb9.mono hs8)
       cases hcv:coveredB q L (c.pa,c.pn) with
       | true =>
        have HF:=Hd (show (L2.take (j+1)).any (fun a=>inA a c.pf && !coveredB a L c.pf)=false by rw [HS.out,HW.out];show (false || (inA q (c.pa,c.pn) && !coveredB q L (c.pa,c.pn)))=false;rw [hi,hcv];rfl)
        clear hi hcv HS HM HIN HQ HCV d0 d1
        go_wp2
        go_roundw
        case rel=>exact ⟨j+1,by omega,by go_num,hb29,HF⟩
        case measure=>simp [intOf];omega
       | false =>
        have HF:=Hd (show g2.doTake3 id c L=(noAns,7,g3) by rw [HR4.out,if_pos (HM.out (by show (inA q (c.pa,c.pn) && !coveredB q L (c.pa,c.pn))=true;rw [hi,hcv];rfl))])
        have HD9:=Hd (hD7.bel hb29)
        clear hi hcv HS HM HIN HQ HCV d0 d1
        go_wp2
        go_ret
        exact ⟨by rw [HR.out,HR2.out,HF.out];rfl,T4,by rw [HR.out,HR2.out,HF.out];exact HD9.out⟩
     ·obtain rfl:j=L2.length:=by omega
      rw [List.take_length] at HW
      have HR5:=Hd (show g2.doTake3 id c L=g3.chg id ⟨c.pk,[],true⟩ noAns by rw [HR4.out,HW.out];rfl)
      have hD8:=hD7.bel hb2
      have hX8:=hX7.bel hb2
      have hP8:=hP7.bel hb2
      clear HR4 hD7 hX7 hP7 hrd7 hrd67 HW HLA
      go_upto_region 25 with fail
      have HDR:=Hd (fun W T' (q:DK B W T' d g3 k)=>q.drop hid c.pk (by have:=pk_len (c:=c) HN.out c.pf HP.out;unfold maxLen;unfold PCall.pk;omega))
      have HEQ:=Hd (show (g3.chg id ⟨c.pk,[],true⟩ noAns).2.1=(g3.change id ⟨c.pk,[],true⟩).1∧(g3.chg id ⟨c.pk,[],true⟩ noAns).2.2=(g3.change id ⟨c.pk,[],true⟩).2 from ⟨rfl,rfl⟩)
      generalize g3.change id ⟨c.pk,[],true⟩=r3 at *
      go_region_held3 (fun W=>W.cell? ⟨w.heap.size,0,none⟩=some (ptrV d)∧W.cell? ⟨w.heap.size,1,none⟩=some (intV id)∧W.cell? ⟨w.heap.size,2,none⟩=some (.int .i64 c.what)∧W.cell? ⟨w.heap.size,3,none⟩=some (txt c.name)∧W.cell? ⟨w.heap.size,4,none⟩=some (.int .i64 c.pa)∧W.cell? ⟨w.heap.size,5,none⟩=some (.int .i64 c.pn)∧W.cell? ⟨w.heap.size,6,none⟩=some (.int .i64 c.len)∧W.cell? ⟨w.heap.size,7,none⟩=some (.int .i64 c.ad)∧W.cell? ⟨w.heap.size,8,none⟩=some (txt c.owner)∧W.cell? ⟨w.heap.size+1,0,none⟩=some (.int .i64 c.pa)∧W.cell? ⟨w.heap.size+1,1,none⟩=some (.int .i64 c.pn))
       (first
        | exact hkk _ hX8.blk hP8.blk
        | exact hkk _ hX9.blk hP9.blk
        | exact hkk _ hX10.blk hP10.blk)
       ((first
        | (go_at_call 69;refine (HPK.out _ hD8.drew.dk.le hD8.drew.dk.gv).mono ?_;rintro e w9 ⟨rfl,hb9⟩;have hD9:=hD8.drew.bel hb9;have hX9:=hX8.bel (w2:=w9) ⟨hb9.os,hb9.tape,hb9.output,hb9.size,hb9.block⟩;have hP9:=hP8.bel (w2:=w9) ⟨hb9.os,hb9.tape,hb9.output,hb9.size,hb9.block⟩)
        | (go_at_call 74;refine (HDR.out _ _ hD9.dk).mono ?_;rintro e w10 ⟨rfl,T10,hD910⟩;have hD10:=hD9.step hD910;have hX10:=hX9.step hD910;have hP10:=hP9.step hD910)))
      go_wp2
      go_ret
      exact ⟨by rw [HR.out,HR2.out,HR5.out,HEQ.out.1];rfl,T10,by rw [HR.out,HR2.out,HR5.out,HEQ.out.2];exact hD10⟩
end
def AnsV (v:Value) (a:PAns):Value:=.agg #[.int .i64 a.pa,.int .i64 a.pn,.int .i64 a.ad,txt a.owner,v]
theorem Blk.far5 {w:World} {g b:Nat} {t:TypeId} {cs:Array Value} (h:Blk w g t cs) (hn:g≠b) (v0 v1 v2 v3 v4:Value) :
  Blk (((((w.setCell ⟨b,0,none⟩ v0).setCell ⟨b,1,none⟩ v1).setCell ⟨b,2,none⟩ v2).setCell ⟨b,3,none⟩ v3).setCell ⟨b,4,none⟩ v4) g t cs :=
 ((((h.far hn v0).far hn v1).far hn v2).far hn v3).far hn v4
theorem tabVar_of {B:Nat} {w:World} (h:KeyV B w):TabVar w:=h w (Below.refl _ _)
theorem first_pl (p:Pf) (A:Option Addr) (l:List Pf) (c:Nat) (n:Int) (hm:l.length≤maxLen) (w:World) (ht:TabVar w) (hl:Rd w w.heap.size A (cellsP l)) :
  Calls Tryz.prog 117 #[.agg #[.int .i64 p.1,.int .i64 p.2],.slice A l.length c,.int .i64 n] w fun e w'=>e=.returned (.tuple #[.agg #[.int .i64 (firstR p l n).2.1,.int .i64 (firstR p l n).2.2],faultV (firstR p l n).1])∧Below w.heap.size w w':=by
 unfold firstR
 by_cases hf:greatFault p l n=0
 ·rw [if_neg (by rw [hf];simp)]
  cases hg:greatL p l n with
  | nil=>exact first_none p A l c n hm hf hg w ht hl
  | cons b r=>exact first_ok p A l c n b r hm hf hg w ht hl
 ·rw [if_pos hf,fault_num hf]
  exact first_bad p A l c n hm hf w ht hl
theorem firstR_chk (p:Pf) (l:List Pf) (n:Int) (h:(firstR p l n).1=0):chk (firstR p l n).2.1 (firstR p l n).2.2=0:=by
 unfold firstR at h ⊢
 by_cases hf:greatFault p l n=0
 ·rw [if_neg (by rw [hf];simp)] at h ⊢
  cases hg:greatL p l n with
  | nil=>rw [hg] at h;simp at h
  | cons b r =>
   have hb:b ∈ greatL p l n:=by rw [hg];exact List.mem_cons_self
   exact ((great_nb hf b.1).1 (great_at hf hb)).1
 ·rw [if_pos hf] at h;exact absurd h hf
section
variable {B : Nat} {w : World} {T : Nat → Prop} {d : Nat} {g : Dk} {id : Int} {k : Nat}
theorem DK.nextPrefix (h:DK B w T d g k) (hk:k≤40000) (hid:(Lit.int .i64 id).wf=true) (c:PCall) (hc:CallOk c) (hn:nameB c.name=true) (hp:chk c.pa c.pn=0) :
  Calls Tryz.prog 75 #[workV d id c] w fun e w'=>∃ a,e=.returned (.tuple #[AnsV (.slice none 0 0) a,faultV (g.doNextP id c).2.1])∧((g.doNextP id c).2.1=0→a=(g.doNextP id c).1)∧∃ T',DKto B w T d w' T' (g.doNextP id c).2.2 k:=by
 have hD1:=h.refl.alloc (.cells #[ptrV d,intV id,.int .i64 c.what,txt c.name,.int .i64 c.pa,.int .i64 c.pn,.int .i64 c.len,.int .i64 c.ad,txt c.owner] 120)
 have hX1:=Loc.new h 120 #[ptrV d,intV id,.int .i64 c.what,txt c.name,.int .i64 c.pa,.int .i64 c.pn,.int .i64 c.len,.int .i64 c.ad,txt c.owner]
 have hD2:=hD1.alloc (.cells #[.int .i64 0,.int .i64 0,.int .i64 0,.string { data:=#[] },.slice none 0 0] 46)
 have hX2:=hX1.alloc (.cells #[.int .i64 0,.int .i64 0,.int .i64 0,.string { data:=#[] },.slice none 0 0] 46)
 have hR2:=Loc.new hD1.dk 46 #[.int .i64 0,.int .i64 0,.int .i64 0,.string { data:=#[] },.slice none 0 0]
 have e2:=hX1.blk.cell 4
 have e3:=hX1.blk.cell 5
 simp at e2 e3
 rw [World.size_alloc] at hR2
 have HN:=Hd hn
 have HC:=Hd hc
 clear hD1 hX1 hn
 have hkk:∀ W:World,Blk W w.heap.size 120 #[ptrV d,intV id,.int .i64 c.what,txt c.name,.int .i64 c.pa,.int .i64 c.pn,.int .i64 c.len,.int .i64 c.ad,txt c.owner]→Blk W (w.heap.size+1) 46 #[.int .i64 0,.int .i64 0,.int .i64 0,.string { data:=#[] },.slice none 0 0] →
   W.cell? ⟨w.heap.size,0,none⟩=some (ptrV d)∧W.cell? ⟨w.heap.size,1,none⟩=some (intV id)∧W.cell? ⟨w.heap.size,2,none⟩=some (.int .i64 c.what)∧W.cell? ⟨w.heap.size,3,none⟩=some (txt c.name)∧W.cell? ⟨w.heap.size,4,none⟩=some (.int .i64 c.pa)∧W.cell? ⟨w.heap.size,5,none⟩=some (.int .i64 c.pn)∧W.cell? ⟨w.heap.size,6,none⟩=some (.int .i64 c.len)∧W.cell? ⟨w.heap.size,7,none⟩=some (.int .i64 c.ad)∧W.cell? ⟨w.heap.size,8,none⟩=some (txt c.owner)∧W.cell? ⟨w.heap.size+1,0,none⟩=some (.int .i64 0)∧W.cell? ⟨w.heap.size+1,1,none⟩=some (.int .i64 0)∧W.cell? ⟨w.heap.size+1,2,none⟩=some (.int .i64 0)∧W.cell? ⟨w.heap.size+1,3,none⟩=some (.string { data:=#[] })∧W.cell? ⟨w.heap.size+1,4,none⟩=some (.slice none 0 0)∧W.frozen? ⟨w.heap.size+1,0,none⟩=false∧W.frozen? ⟨w.heap.size+1,1,none⟩=false∧W.frozen? ⟨w.heap.size+1,2,none⟩=false∧W.frozen? ⟨w.heap.size+1,3,none⟩=false∧W.frozen? ⟨w.heap.size+1,4,none⟩=false :=
  fun W a b=>⟨a.cell 0,a.cell 1,a.cell 2,a.cell 3,a.cell 4,a.cell 5,a.cell 6,a.cell 7,a.cell 8,b.cell 0,b.cell 1,b.cell 2,b.cell 3,b.cell 4,b.frozen 0,b.frozen 1,b.frozen 2,b.frozen 3,b.frozen 4⟩
 unfold workV
 go_enter Tryz.func75,Tryz.ntmps75
 go_upto_region 1 with fail
 refine wp_name (fun w2 HW=>?_)
 rw [← HW.out] at hD2 hX2 hR2
 clear HW e2 e3
 have HP:=Hd hp
 clear hp
 have HPFX:=Hd (hD2.dk.prefixes hk hid c HC.out)
 have hT0:=hD2.dk.lt
 have hTs:=h.lt
 obtain ⟨y0,y1,y2,y3,y4,y5,y6,y7,y8,z0,z1,z2,z3,z4,u0,u1,u2,u3,u4⟩:=hkk _ hX2.blk hR2.blk
 unfold workV at HPFX
 go_wp2_with fail
 refine HPFX.out.mono ?_
 rintro e w3 ⟨v3,rfl,hown3,hlen3,hS3⟩
 have hD3:=hD2.step hS3
 have hX3:=hX2.step hS3
 have hR3:=hR2.step hS3
 clear hD2 hX2 hR2 hS3 HPFX y0 y1 y2 y3 y4 y5 y6 y7 y8 z0 z1 z2 z3 z4 u0 u1 u2 u3 u4
 by_cases hf:g.pfxsE id c.name≠0
 ·have HR:=Hd (show g.doNextP id c=(noAns,g.pfxsE id c.name,(g.allF id 112 c.name).2) by unfold Dk.doNextP;rw [if_pos hf])
  have HF:=Hd (fault_num hf)
  rw [HF.out]
  clear hf
  obtain ⟨y0,y1,y2,y3,y4,y5,y6,y7,y8,z0,z1,z2,z3,z4,u0,u1,u2,u3,u4⟩:=hkk _ hX3.blk hR3.blk
  go_wp2
  refine bodyPost_ret (v:=.tuple #[AnsV (.slice none 0 0) noAns,.iface 71 (.int .i64 (g.pfxsE id c.name))]) (by simp [AnsV,noAns,results,Tryz.results75,go_sem,z0,z1,z2,z3,z4,u0,u1,u2,u3,u4]) rfl ⟨noAns,by rw [HR.out];exact congrArg (fun x=>Ending.returned (.tuple #[AnsV (.slice none 0 0) noAns,x])) HF.out.symm,by rw [HR.out];exact fun _=>rfl,T,?_⟩
  rw [HR.out]
  (repeat' (first | exact hD3 | refine DKto.set ?_ ?_ ?_ _ | exact hR3.out)) <;> simp
 have hf:g.pfxsE id c.name=0:=Decidable.not_not.1 hf
 rw [show faultV (g.pfxsE id c.name)=.nilIface by rw [hf];rfl]
 have HR:=Hd (show g.doNextP id c=(g.allF id 112 c.name).2.doNextP2 id c (g.pfxsL id c.name) by unfold Dk.doNextP;rw [if_neg (by rw [hf];simp)])
 have HLC:=Hd (pfxsL_chk g id c.name)
 clear hf
 generalize g.pfxsL id c.name=L at *
 generalize (g.allF id 112 c.name).2=g1 at *
 obtain ⟨A3,c3,rfl,hrd3⟩:=hown3.form
 clear hown3
 have hth:=there_pl (c.pa,c.pn) HP.out A3 L c3 (by omega) HLC.out w3 hrd3
 dsimp only at hth
 have HTH:=Hd hth
 clear hth
 obtain ⟨y0,y1,y2,y3,y4,y5,y6,y7,y8,z0,z1,z2,z3,z4,u0,u1,u2,u3,u4⟩:=hkk _ hX3.blk hR3.blk
 go_wp2_with fail
 refine HTH.out.mono ?_
 rintro e w4 ⟨v4,rfl,hown4,hb4⟩
 have hD4:=hD3.bel hb4
 have hX4:=hX3.bel hb4
 have hR4:=hR3.bel hb4
 clear hD3 hX3 hR3 hb4 hrd3 HTH y0 y1 y2 y3 y4 y5 y6 y7 y8 z0 z1 z2 z3 z4 u0 u1 u2 u3 u4
 cases hin:decide ((c.pa,c.pn) ∈ L) with
 | false =>
  have HR2:=Hd (show g1.doNextP2 id c L=(noAns,4,g1) by unfold Dk.doNextP2 PCall.pf;rw [if_pos (of_decide_eq_false hin)])
  clear hin
  obtain ⟨y0,y1,y2,y3,y4,y5,y6,y7,y8,z0,z1,z2,z3,z4,u0,u1,u2,u3,u4⟩:=hkk _ hX4.blk hR4.blk
  go_wp2
  refine bodyPost_ret (v:=.tuple #[AnsV (.slice none 0 0) noAns,.iface 71 (.int .i64 4)]) (by simp [AnsV,noAns,results,Tryz.results75,go_sem,z0,z1,z2,z3,z4,u0,u1,u2,u3,u4]) rfl ⟨noAns,by rw [HR.out,HR2.out];exact rfl,by rw [HR.out,HR2.out];exact fun _=>rfl,T,?_⟩
  rw [HR.out,HR2.out]
  (repeat' (first | exact hD4 | refine DKto.set ?_ ?_ ?_ _ | exact hR4.out)) <;> simp
 | true =>
  have HR2:=Hd (show g1.doNextP2 id c L=if (firstR (c.pa,c.pn) (withinL (c.pa,c.pn) L) c.len).1≠0 then (noAns,(firstR (c.pa,c.pn) (withinL (c.pa,c.pn) L) c.len).1,g1) else if (firstR (c.pa,c.pn) (withinL (c.pa,c.pn) L) c.len).2=(c.pa,c.pn) then (noAns,6,g1) else g1.chg id ⟨pkOf c.name (firstR (c.pa,c.pn) (withinL (c.pa,c.pn) L) c.len).2,c.owner,false⟩ ⟨(firstR (c.pa,c.pn) (withinL (c.pa,c.pn) L) c.len).2.1,(firstR (c.pa,c.pn) (withinL (c.pa,c.pn) L) c.len).2.2,0,[],[]⟩ by
   unfold Dk.doNextP2 PCall.pf;rw [if_neg (fun q=>q (of_decide_eq_true hin))])
  clear hin
  have hwl:=withinL_len (c.pa,c.pn) L
  obtain ⟨A4,c4,rfl,hrd4⟩:=hown4.form
  clear hown4
  have hfi:=first_pl (c.pa,c.pn) A4 (withinL (c.pa,c.pn) L) c4 c.len (by unfold maxLen;omega) w4 (tabVar_of hD4.dk.gv.key) hrd4
  dsimp only at hfi
  have HFC:=Hd (fun h=>firstR_chk (c.pa,c.pn) (withinL (c.pa,c.pn) L) c.len h)
  generalize firstR (c.pa,c.pn) (withinL (c.pa,c.pn) L) c.len=r at *
  have HFI:=Hd hfi
  clear hfi
  generalize withinL (c.pa,c.pn) L=WL at *
  clear hwl
  obtain ⟨y0,y1,y2,y3,y4,y5,y6,y7,y8,z0,z1,z2,z3,z4,u0,u1,u2,u3,u4⟩:=hkk _ hX4.blk hR4.blk
  go_wp2_with fail
  refine HFI.out.mono ?_
  rintro e w5 ⟨rfl,hb5⟩
  have hD5:=hD4.bel hb5
  have hX5:=hX4.bel hb5
  have hR5:=hR4.bel hb5
  clear hD4 hX4 hR4 hb5 hrd4 HFI y0 y1 y2 y3 y4 y5 y6 y7 y8 z0 z1 z2 z3 z4 u0 u1 u2 u3 u4
  obtain ⟨f,q1,q2⟩:=r
  dsimp only at HR2 HFC
  go_upto_region 8 with fail
  refine wp_name (fun w6 HW=>?_)
  have hP6:=Loc.new hD5.dk 31 #[.int .i64 q1,.int .i64 q2]
  have hD6:=hD5.alloc (.cells #[.int .i64 q1,.int .i64 q2] 31)
  have hX6:=hX5.alloc (.cells #[.int .i64 q1,.int .i64 q2] 31)
  have hR6:=hR5.alloc (.cells #[.int .i64 q1,.int .i64 q2] 31)
  have hgp:w.heap.size+1 < w5.heap.size:=hR5.blk.lt
  rw [← HW.out] at hP6 hD6 hX6 hR6
  clear HW hD5 hX5 hR5
  generalize w5.heap.size=gp at *
  by_cases hf:f≠0
  ·have HR3:=Hd (show g1.doNextP2 id c L=(noAns,f,g1) by rw [HR2.out,if_pos hf])
   have HF:=Hd (fault_num hf)
   rw [HF.out]
   clear hf HR2 HFC
   obtain ⟨y0,y1,y2,y3,y4,y5,y6,y7,y8,z0,z1,z2,z3,z4,u0,u1,u2,u3,u4⟩:=hkk _ hX6.blk hR6.blk
   go_wp2
   refine bodyPost_ret (v:=.tuple #[AnsV (.slice none 0 0) noAns,.iface 71 (.int .i64 f)]) (by simp [AnsV,noAns,results,Tryz.results75,go_sem,z0,z1,z2,z3,z4,u0,u1,u2,u3,u4]) rfl ⟨noAns,by rw [HR.out,HR3.out];exact congrArg (fun x=>Ending.returned (.tuple #[AnsV (.slice none 0 0) noAns,x])) HF.out.symm,by rw [HR.out,HR3.out];exact fun _=>rfl,T,?_⟩
   rw [HR.out,HR3.out]
   (repeat' (first | exact hD6 | refine DKto.set ?_ ?_ ?_ _ | exact hR6.out)) <;> simp
  obtain rfl:f=0:=Decidable.not_not.1 hf
  rw [show faultV 0=.nilIface from rfl]
  have HQ:=Hd (HFC.out rfl)
  clear hf HFC
  by_cases he:(q1,q2)=((c.pa,c.pn):Pf)
  ·have HR3:=Hd (show g1.doNextP2 id c L=(noAns,6,g1) by rw [HR2.out,if_neg (by simp),if_pos he])
   have h1:q1=c.pa:=congrArg Prod.fst he
   have h2:q2=c.pn:=congrArg Prod.snd he
   subst h1
   subst h2
   obtain ⟨p0,p1,_,_⟩:=hP6.blk.two
   clear he HR2
   obtain ⟨y0,y1,y2,y3,y4,y5,y6,y7,y8,z0,z1,z2,z3,z4,u0,u1,u2,u3,u4⟩:=hkk _ hX6.blk hR6.blk
   go_wp2
   refine bodyPost_ret (v:=.tuple #[AnsV (.slice none 0 0) noAns,.iface 71 (.int .i64 6)]) (by simp [AnsV,noAns,results,Tryz.results75,go_sem,z0,z1,z2,z3,z4,u0,u1,u2,u3,u4]) rfl ⟨noAns,by rw [HR.out,HR3.out];exact rfl,by rw [HR.out,HR3.out];exact fun _=>rfl,T,?_⟩
   rw [HR.out,HR3.out]
   (repeat' (first | exact hD6 | refine DKto.set ?_ ?_ ?_ _ | exact hR6.out)) <;> simp
  ·have HR3:=Hd (show g1.doNextP2 id c L=g1.chg id ⟨pkOf c.name (q1,q2),c.owner,false⟩ ⟨q1,q2,0,[],[]⟩ by rw [HR2.out,if_neg (by simp),if_neg he])
   have hne:¬ (q1=c.pa∧q2=c.pn):=fun e=>he (by rw [e.1,e.2])
   have hpk:=fun (W:World) (hB:B≤W.heap.size) hV=>pk_any c.name HN.out (q1,q2) HQ.out (B:=B) W hB hV
   dsimp only at hpk
   have HPK:=Hd hpk
   clear hpk
   have HPU:=Hd (fun W T' (q:DK B W T' d g1 k)=>q.put hid (pkOf c.name (q1,q2)) c.owner (by have:=pk_len (c:=c) HN.out (q1,q2) HQ.out;unfold maxLen;omega) (by have:=HC.out.owner;unfold maxLen;omega))
   have HEQ:=Hd (show g1.chg id ⟨pkOf c.name (q1,q2),c.owner,false⟩ ⟨q1,q2,0,[],[]⟩=(if (g1.change id ⟨pkOf c.name (q1,q2),c.owner,false⟩).1=0 then ⟨q1,q2,0,[],[]⟩ else noAns,(g1.change id ⟨pkOf c.name (q1,q2),c.owner,false⟩).1,(g1.change id ⟨pkOf c.name (q1,q2),c.owner,false⟩).2) from rfl)
   generalize g1.change id ⟨pkOf c.name (q1,q2),c.owner,false⟩=r3 at *
   generalize pkOf c.name (q1,q2)=key at *
   have hkp:∀ W:World,Blk W gp 31 #[.int .i64 q1,.int .i64 q2]→W.cell? ⟨gp,0,none⟩=some (.int .i64 q1)∧W.cell? ⟨gp,1,none⟩=some (.int .i64 q2):=fun W a=>⟨a.cell 0,a.cell 1⟩
   clear he HR2
   by_cases e1:q1=c.pa
   ·have e2:¬ q2=c.pn:=fun e=>hne ⟨e1,e⟩
    clear hne
    subst e1
    obtain ⟨p0,p1,_,_⟩:=hP6.blk.two
    obtain ⟨y0,y1,y2,y3,y4,y5,y6,y7,y8,z0,z1,z2,z3,z4,u0,u1,u2,u3,u4⟩:=hkk _ hX6.blk hR6.blk
    go_upto_region 12 with fail
    clear y0 y1 y2 y3 y4 y5 y6 y7 y8 z0 z1 z2 z3 z4 u0 u1 u2 u3 u4 p0 p1
    have hks:∀ W:World,Blk W w.heap.size 120 #[ptrV d,intV id,.int .i64 c.what,txt c.name,.int .i64 c.pa,.int .i64 c.pn,.int .i64 c.len,.int .i64 c.ad,txt c.owner]→Blk W gp 31 #[.int .i64 c.pa,.int .i64 q2]→W.cell? ⟨w.heap.size,0,none⟩=some (ptrV d)∧W.cell? ⟨w.heap.size,1,none⟩=some (intV id)∧W.cell? ⟨w.heap.size,2,none⟩=some (.int .i64 c.what)∧W.cell? ⟨w.heap.size,3,none⟩=some (txt c.name)∧W.cell? ⟨w.heap.size,4,none⟩=some (.int .i64 c.pa)∧W.cell? ⟨w.heap.size,5,none⟩=some (.int .i64 c.pn)∧W.cell? ⟨w.heap.size,6,none⟩=some (.int .i64 c.len)∧W.cell? ⟨w.heap.size,7,none⟩=some (.int .i64 c.ad)∧W.cell? ⟨w.heap.size,8,none⟩=some (txt c.owner)∧W.cell? ⟨gp,0,none⟩=some (.int .i64 c.pa)∧W.cell? ⟨gp,1,none⟩=some (.int .i64 q2):=fun W a b=>⟨a.cell 0,a.cell 1,a.cell 2,a.cell 3,a.cell 4,a.cell 5,a.cell 6,a.cell 7,a.cell 8,b.cell 0,b.cell 1⟩
    have hwn:w.heap.size≠w.heap.size+1:=by omega
    have hXd:Blk w6.drew w.heap.size 120 #[ptrV d,intV id,.int .i64 c.what,txt c.name,.int .i64 c.pa,.int .i64 c.pn,.int .i64 c.len,.int .i64 c.ad,txt c.owner]:=hX6.blk
    have hPd:Blk w6.drew gp 31 #[.int .i64 c.pa,.int .i64 q2]:=hP6.blk
    have hgn:gp≠w.heap.size+1:=by omega
    go_region_held3 (fun W=>W.cell? ⟨w.heap.size,0,none⟩=some (ptrV d)∧W.cell? ⟨w.heap.size,1,none⟩=some (intV id)∧W.cell? ⟨w.heap.size,2,none⟩=some (.int .i64 c.what)∧W.cell? ⟨w.heap.size,3,none⟩=some (txt c.name)∧W.cell? ⟨w.heap.size,4,none⟩=some (.int .i64 c.pa)∧W.cell? ⟨w.heap.size,5,none⟩=some (.int .i64 c.pn)∧W.cell? ⟨w.heap.size,6,none⟩=some (.int .i64 c.len)∧W.cell? ⟨w.heap.size,7,none⟩=some (.int .i64 c.ad)∧W.cell? ⟨w.heap.size,8,none⟩=some (txt c.owner)∧W.cell? ⟨gp,0,none⟩=some (.int .i64 c.pa)∧W.cell? ⟨gp,1,none⟩=some (.int .i64 q2))
     (first
      | with_reducible exact hks _ hXd hPd
      | with_reducible exact hks _ hX7.blk hP7.blk
      | with_reducible exact hks _ hX8.blk hP8.blk
      | with_reducible exact hks _ (hX8.blk.far5 hwn _ _ _ _ _) (hP8.blk.far5 hgn _ _ _ _ _))
     ((first
      | (go_at_call 69;refine (HPK.out _ hD6.drew.dk.le hD6.drew.dk.gv).mono ?_;rintro e w7 ⟨rfl,hb7⟩;have hD7:=hD6.drew.bel hb7;have hX7:=hX6.bel (w2:=w7) ⟨hb7.os,hb7.tape,hb7.output,hb7.size,hb7.block⟩;have hR7:=hR6.bel (w2:=w7) ⟨hb7.os,hb7.tape,hb7.output,hb7.size,hb7.block⟩;have hP7:=hP6.bel (w2:=w7) ⟨hb7.os,hb7.tape,hb7.output,hb7.size,hb7.block⟩)
      | (go_at_call 45;refine (HPU.out _ _ hD7.dk).mono ?_;rintro e w8 ⟨rfl,T8,hD78⟩;have hD8:=hD7.step hD78;have hX8:=hX7.step hD78;have hR8:=hR7.step hD78;have hP8:=hP7.step hD78;obtain ⟨y0,y1,y2,y3,y4,y5,y6,y7,y8,z0,z1,z2,z3,z4,u0,u1,u2,u3,u4⟩:=hkk _ hX8.blk hR8.blk)))
    go_wp2
    refine bodyPost_ret (v:=.tuple #[AnsV (.slice none 0 0) ⟨c.pa,q2,0,[],[]⟩,faultV r3.1]) (by simp [AnsV,noAns,results,Tryz.results75,go_sem,z0,z1,z2,z3,z4,u0,u1,u2,u3,u4]) rfl ⟨⟨c.pa,q2,0,[],[]⟩,by rw [HR.out,HR3.out,HEQ.out],by rw [HR.out,HR3.out,HEQ.out];exact fun q=>(if_pos q).symm,T8,?_⟩
    rw [HR.out,HR3.out,HEQ.out]
    (repeat' (first | exact hD8 | refine DKto.set ?_ ?_ ?_ _ | exact hR8.out)) <;> simp
   ·have e1:¬ q1=c.pa:=e1
    clear hne
    obtain ⟨p0,p1,_,_⟩:=hP6.blk.two
    obtain ⟨y0,y1,y2,y3,y4,y5,y6,y7,y8,z0,z1,z2,z3,z4,u0,u1,u2,u3,u4⟩:=hkk _ hX6.blk hR6.blk
    go_upto_region 12 with fail
    clear y0 y1 y2 y3 y4 y5 y6 y7 y8 z0 z1 z2 z3 z4 u0 u1 u2 u3 u4 p0 p1
    have hks:∀ W:World,Blk W w.heap.size 120 #[ptrV d,intV id,.int .i64 c.what,txt c.name,.int .i64 c.pa,.int .i64 c.pn,.int .i64 c.len,.int .i64 c.ad,txt c.owner]→Blk W gp 31 #[.int .i64 q1,.int .i64 q2]→W.cell? ⟨w.heap.size,0,none⟩=some (ptrV d)∧W.cell? ⟨w.heap.size,1,none⟩=some (intV id)∧W.cell? ⟨w.heap.size,2,none⟩=some (.int .i64 c.what)∧W.cell? ⟨w.heap.size,3,none⟩=some (txt c.name)∧W.cell? ⟨w.heap.size,4,none⟩=some (.int .i64 c.pa)∧W.cell? ⟨w.heap.size,5,none⟩=some (.int .i64 c.pn)∧W.cell? ⟨w.heap.size,6,none⟩=some (.int .i64 c.len)∧W.cell? ⟨w.heap.size,7,none⟩=some (.int .i64 c.ad)∧W.cell? ⟨w.heap.size,8,none⟩=some (txt c.owner)∧W.cell? ⟨gp,0,none⟩=some (.int .i64 q1)∧W.cell? ⟨gp,1,none⟩=some (.int .i64 q2):=fun W a b=>⟨a.cell 0,a.cell 1,a.cell 2,a.cell 3,a.cell 4,a.cell 5,a.cell 6,a.cell 7,a.cell 8,b.cell 0,b.cell 1⟩
    have hwn:w.heap.size≠w.heap.size+1:=by omega
    have hXd:Blk w6.drew w.heap.size 120 #[ptrV d,intV id,.int .i64 c.what,txt c.name,.int .i64 c.pa,.int .i64 c.pn,.int .i64 c.len,.int .i64 c.ad,txt c.owner]:=hX6.blk
    have hPd:Blk w6.drew gp 31 #[.int .i64 q1,.int .i64 q2]:=hP6.blk
    have hgn:gp≠w.heap.size+1:=by omega
    go_region_held3 (fun W=>W.cell? ⟨w.heap.size,0,none⟩=some (ptrV d)∧W.cell? ⟨w.heap.size,1,none⟩=some (intV id)∧W.cell? ⟨w.heap.size,2,none⟩=some (.int .i64 c.what)∧W.cell? ⟨w.heap.size,3,none⟩=some (txt c.name)∧W.cell? ⟨w.heap.size,4,none⟩=some (.int .i64 c.pa)∧W.cell? ⟨w.heap.size,5,none⟩=some (.int .i64 c.pn)∧W.cell? ⟨w.heap.size,6,none⟩=some (.int .i64 c.len)∧W.cell? ⟨w.heap.size,7,none⟩=some (.int .i64 c.ad)∧W.cell? ⟨w.heap.size,8,none⟩=some (txt c.owner)∧W.cell? ⟨gp,0,none⟩=some (.int .i64 q1)∧W.cell? ⟨gp,1,none⟩=some (.int .i64 q2))
     (first
      | with_reducible exact hks _ hXd hPd
      | with_reducible exact hks _ hX7.blk hP7.blk
      | with_reducible exact hks _ hX8.blk hP8.blk
      | with_reducible exact hks _ (hX8.blk.far5 hwn _ _ _ _ _) (hP8.blk.far5 hgn _ _ _ _ _))
     ((first
      | (go_at_call 69;refine (HPK.out _ hD6.drew.dk.le hD6.drew.dk.gv).mono ?_;rintro e w7 ⟨rfl,hb7⟩;have hD7:=hD6.drew.bel hb7;have hX7:=hX6.bel (w2:=w7) ⟨hb7.os,hb7.tape,hb7.output,hb7.size,hb7.block⟩;have hR7:=hR6.bel (w2:=w7) ⟨hb7.os,hb7.tape,hb7.output,hb7.size,hb7.block⟩;have hP7:=hP6.bel (w2:=w7) ⟨hb7.os,hb7.tape,hb7.output,hb7.size,hb7.block⟩)
      | (go_at_call 45;refine (HPU.out _ _ hD7.dk).mono ?_;rintro e w8 ⟨rfl,T8,hD78⟩;have hD8:=hD7.step hD78;have hX8:=hX7.step hD78;have hR8:=hR7.step hD78;have hP8:=hP7.step hD78;obtain ⟨y0,y1,y2,y3,y4,y5,y6,y7,y8,z0,z1,z2,z3,z4,u0,u1,u2,u3,u4⟩:=hkk _ hX8.blk hR8.blk)))
    go_wp2
    refine bodyPost_ret (v:=.tuple #[AnsV (.slice none 0 0) ⟨q1,q2,0,[],[]⟩,faultV r3.1]) (by simp [AnsV,noAns,results,Tryz.results75,go_sem,z0,z1,z2,z3,z4,u0,u1,u2,u3,u4]) rfl ⟨⟨q1,q2,0,[],[]⟩,by rw [HR.out,HR3.out,HEQ.out],by rw [HR.out,HR3.out,HEQ.out];exact fun q=>(if_pos q).symm,T8,?_⟩
    rw [HR.out,HR3.out,HEQ.out]
    (repeat' (first | exact hD8 | refine DKto.set ?_ ?_ ?_ _ | exact hR8.out)) <;> simp
end
theorem next_pl (p:Pf) (A:Option Addr) (used:List Int) (c:Nat) (hm:used.length≤maxLen) (w:World) (hl:Rd w w.heap.size A (used.map (Value.int .i64))) :
  Calls Tryz.prog 118 #[.agg #[.int .i64 p.1,.int .i64 p.2],.slice A used.length c] w fun e w'=>e=.returned (.tuple #[.int .i64 (nextR p used).2,faultV (nextR p used).1])∧Below w.heap.size w w':=by
 unfold nextR
 by_cases hf:usedFault p.1 p.2 used=0
 ·rw [if_neg (by rw [hf];simp)]
  by_cases hx:nextOf p.1 p.2 used≤uHi p.1 p.2
  ·rw [if_neg (by omega)]
   exact (next_any p.1 p.2 A used c hf w hl).mono fun e w' h=>⟨by rw [h.2,if_pos hx];rfl,h.1⟩
  ·rw [if_pos (by omega)]
   exact (next_any p.1 p.2 A used c hf w hl).mono fun e w' h=>⟨by rw [h.2,if_neg hx];rfl,h.1⟩
 ·rw [if_pos hf,fault_num hf]
  exact next_bad p.1 p.2 A used c hf hm w hl
theorem nextR_is (p:Pf) (used:List Int) (h:(nextR p used).1=0):isA (nextR p used).2=true:=by
 unfold nextR at h ⊢
 by_cases hf:usedFault p.1 p.2 used=0
 ·rw [if_neg (by rw [hf];simp)] at h ⊢
  by_cases hx:uHi p.1 p.2 < nextOf p.1 p.2 used
  ·rw [if_pos hx] at h;exact absurd h (by decide)
  ·rw [if_neg hx]
   have hc:=(usedFault_zero.1 hf).1
   obtain ⟨u1,u2,u3⟩:=uSpan hc
   have hs:=nextOf_spec p.1 p.2 used u1
   show isA (nextOf p.1 p.2 used)=true
   exact isA_true.2 ⟨by have:=hs.1;omega,by omega⟩
 ·rw [if_pos hf] at h;exact absurd h hf
theorem filtI_snoc (f:Int→Bool) (l:List Int) (k:Nat) (h:k < l.length):(l.take (k+1)).filter f=(l.take k).filter f++(if f l[k]=true then [l[k]] else []):=by
 rw [List.take_succ_eq_append_getElem h,List.filter_append]
 congr 1
 by_cases q:f l[k]=true
 ·rw [if_pos q,List.filter_cons_of_pos q,List.filter_nil]
 ·rw [if_neg q,List.filter_cons_of_neg q,List.filter_nil]
section
variable {B : Nat} {w : World} {T : Nat → Prop} {d : Nat} {g : Dk} {id : Int} {k : Nat}
theorem DK.nextAddr (h:DK B w T d g k) (hk:k≤40000) (hid:(Lit.int .i64 id).wf=true) (c:PCall) (hc:CallOk c) (hn:nameB c.name=true) (hp:chk c.pa c.pn=0) :
  Calls Tryz.prog 76 #[workV d id c] w fun e w'=>∃ a,e=.returned (.tuple #[AnsV (.slice none 0 0) a,faultV (g.doNextA id c).2.1])∧((g.doNextA id c).2.1=0→a=(g.doNextA id c).1)∧∃ T',DKto B w T d w' T' (g.doNextA id c).2.2 k:=by
 have hD1:=h.refl.alloc (.cells #[ptrV d,intV id,.int .i64 c.what,txt c.name,.int .i64 c.pa,.int .i64 c.pn,.int .i64 c.len,.int .i64 c.ad,txt c.owner] 120)
 have hX1:=Loc.new h 120 #[ptrV d,intV id,.int .i64 c.what,txt c.name,.int .i64 c.pa,.int .i64 c.pn,.int .i64 c.len,.int .i64 c.ad,txt c.owner]
 have hD2:=hD1.alloc (.cells #[.int .i64 0,.int .i64 0,.int .i64 0,.string { data:=#[] },.slice none 0 0] 46)
 have hX2:=hX1.alloc (.cells #[.int .i64 0,.int .i64 0,.int .i64 0,.string { data:=#[] },.slice none 0 0] 46)
 have hR2:=Loc.new hD1.dk 46 #[.int .i64 0,.int .i64 0,.int .i64 0,.string { data:=#[] },.slice none 0 0]
 have e2:=hX1.blk.cell 4
 have e3:=hX1.blk.cell 5
 simp at e2 e3
 rw [World.size_alloc] at hR2
 have HN:=Hd hn
 have HC:=Hd hc
 clear hD1 hX1 hn
 have hkk:∀ W:World,Blk W w.heap.size 120 #[ptrV d,intV id,.int .i64 c.what,txt c.name,.int .i64 c.pa,.int .i64 c.pn,.int .i64 c.len,.int .i64 c.ad,txt c.owner]→Blk W (w.heap.size+1) 46 #[.int .i64 0,.int .i64 0,.int .i64 0,.string { data:=#[] },.slice none 0 0] →
   W.cell? ⟨w.heap.size,0,none⟩=some (ptrV d)∧W.cell? ⟨w.heap.size,1,none⟩=some (intV id)∧W.cell? ⟨w.heap.size,2,none⟩=some (.int .i64 c.what)∧W.cell? ⟨w.heap.size,3,none⟩=some (txt c.name)∧W.cell? ⟨w.heap.size,4,none⟩=some (.int .i64 c.pa)∧W.cell? ⟨w.heap.size,5,none⟩=some (.int .i64 c.pn)∧W.cell? ⟨w.heap.size,6,none⟩=some (.int .i64 c.len)∧W.cell? ⟨w.heap.size,7,none⟩=some (.int .i64 c.ad)∧W.cell? ⟨w.heap.size,8,none⟩=some (txt c.owner)∧W.cell? ⟨w.heap.size+1,0,none⟩=some (.int .i64 0)∧W.cell? ⟨w.heap.size+1,1,none⟩=some (.int .i64 0)∧W.cell? ⟨w.heap.size+1,2,none⟩=some (.int .i64 0)∧W.cell? ⟨w.heap.size+1,3,none⟩=some (.string { data:=#[] })∧W.cell? ⟨w.heap.size+1,4,none⟩=some (.slice none 0 0)∧W.frozen? ⟨w.heap.size+1,0,none⟩=false∧W.frozen? ⟨w.heap.size+1,1,none⟩=false∧W.frozen? ⟨w.heap.size+1,2,none⟩=false∧W.frozen? ⟨w.heap.size+1,3,none⟩=false∧W.frozen? ⟨w.heap.size+1,4,none⟩=false :=
  fun W a b=>⟨a.cell 0,a.cell 1,a.cell 2,a.cell 3,a.cell 4,a.cell 5,a.cell 6,a.cell 7,a.cell 8,b.cell 0,b.cell 1,b.cell 2,b.cell 3,b.cell 4,b.frozen 0,b.frozen 1,b.frozen 2,b.frozen 3,b.frozen 4⟩
 unfold workV
 go_enter Tryz.func76,Tryz.ntmps76
 go_upto_region 1 with fail
 refine wp_name (fun w2 HW=>?_)
 rw [← HW.out] at hD2 hX2 hR2
 clear HW e2 e3
 have HP:=Hd hp
 clear hp
 have HPFX:=Hd (hD2.dk.prefixes hk hid c HC.out)
 have hT0:=hD2.dk.lt
 have hTs:=h.lt
 obtain ⟨y0,y1,y2,y3,y4,y5,y6,y7,y8,z0,z1,z2,z3,z4,u0,u1,u2,u3,u4⟩:=hkk _ hX2.blk hR2.blk
 unfold workV at HPFX
 go_wp2_with fail
 refine HPFX.out.mono ?_
 rintro e w3 ⟨v3,rfl,hown3,hlen3,hS3⟩
 have hD3:=hD2.step hS3
 have hX3:=hX2.step hS3
 have hR3:=hR2.step hS3
 clear hD2 hX2 hR2 hS3 HPFX y0 y1 y2 y3 y4 y5 y6 y7 y8 z0 z1 z2 z3 z4 u0 u1 u2 u3 u4
 by_cases hf:g.pfxsE id c.name≠0
 ·have HR:=Hd (show g.doNextA id c=(noAns,g.pfxsE id c.name,(g.allF id 112 c.name).2) by unfold Dk.doNextA;rw [if_pos hf])
  have HF:=Hd (fault_num hf)
  rw [HF.out]
  clear hf
  obtain ⟨y0,y1,y2,y3,y4,y5,y6,y7,y8,z0,z1,z2,z3,z4,u0,u1,u2,u3,u4⟩:=hkk _ hX3.blk hR3.blk
  go_wp2
  refine bodyPost_ret (v:=.tuple #[AnsV (.slice none 0 0) noAns,.iface 71 (.int .i64 (g.pfxsE id c.name))]) (by simp [AnsV,noAns,results,Tryz.results76,go_sem,z0,z1,z2,z3,z4,u0,u1,u2,u3,u4]) rfl ⟨noAns,by rw [HR.out];exact congrArg (fun x=>Ending.returned (.tuple #[AnsV (.slice none 0 0) noAns,x])) HF.out.symm,by rw [HR.out];exact fun _=>rfl,T,?_⟩
  rw [HR.out]
  (repeat' (first | exact hD3 | refine DKto.set ?_ ?_ ?_ _ | exact hR3.out)) <;> simp
 have hf:g.pfxsE id c.name=0:=Decidable.not_not.1 hf
 rw [show faultV (g.pfxsE id c.name)=.nilIface by rw [hf];rfl]
 have HR:=Hd (show g.doNextA id c=(g.allF id 112 c.name).2.doNextA2 id c (g.pfxsL id c.name) by unfold Dk.doNextA;rw [if_neg (by rw [hf];simp)])
 have HLC:=Hd (pfxsL_chk g id c.name)
 clear hf
 generalize g.pfxsL id c.name=L at *
 generalize (g.allF id 112 c.name).2=g1 at *
 obtain ⟨A3,c3,rfl,hrd3⟩:=hown3.form
 clear hown3
 have hth:=there_pl (c.pa,c.pn) HP.out A3 L c3 (by omega) HLC.out w3 hrd3
 dsimp only at hth
 have HTH:=Hd hth
 clear hth
 obtain ⟨y0,y1,y2,y3,y4,y5,y6,y7,y8,z0,z1,z2,z3,z4,u0,u1,u2,u3,u4⟩:=hkk _ hX3.blk hR3.blk
 go_wp2_with fail
 refine HTH.out.mono ?_
 rintro e w4 ⟨v4,rfl,hown4,hb4⟩
 have hD4:=hD3.bel hb4
 have hX4:=hX3.bel hb4
 have hR4:=hR3.bel hb4
 clear hD3 hX3 hR3 hb4 hrd3 HTH hown4 y0 y1 y2 y3 y4 y5 y6 y7 y8 z0 z1 z2 z3 z4 u0 u1 u2 u3 u4
 cases hin:decide ((c.pa,c.pn) ∈ L) with
 | false =>
  have HR2:=Hd (show g1.doNextA2 id c L=(noAns,4,g1) by unfold Dk.doNextA2 PCall.pf;rw [if_pos (of_decide_eq_false hin)])
  clear hin
  obtain ⟨y0,y1,y2,y3,y4,y5,y6,y7,y8,z0,z1,z2,z3,z4,u0,u1,u2,u3,u4⟩:=hkk _ hX4.blk hR4.blk
  go_wp2
  refine bodyPost_ret (v:=.tuple #[AnsV (.slice none 0 0) noAns,.iface 71 (.int .i64 4)]) (by simp [AnsV,noAns,results,Tryz.results76,go_sem,z0,z1,z2,z3,z4,u0,u1,u2,u3,u4]) rfl ⟨noAns,by rw [HR.out,HR2.out];exact rfl,by rw [HR.out,HR2.out];exact fun _=>rfl,T,?_⟩
  rw [HR.out,HR2.out]
  (repeat' (first | exact hD4 | refine DKto.set ?_ ?_ ?_ _ | exact hR4.out)) <;> simp
 | true =>
  have HR2:=Hd (show g1.doNextA2 id c L=if g1.adsE id c.name≠0 then (noAns,g1.adsE id c.name,(g1.allF id 97 c.name).2) else (g1.allF id 97 c.name).2.doNextA3 id c ((g1.adsL id c.name).filter fun a=>inA a (c.pa,c.pn)) by
   unfold Dk.doNextA2 PCall.pf;rw [if_neg (fun q=>q (of_decide_eq_true hin))])
  clear hin
  have HADS:=Hd (hD4.dk.addresses hk hid c HC.out)
  obtain ⟨y0,y1,y2,y3,y4,y5,y6,y7,y8,z0,z1,z2,z3,z4,u0,u1,u2,u3,u4⟩:=hkk _ hX4.blk hR4.blk
  unfold workV at HADS
  go_wp2_with fail
  refine HADS.out.mono ?_
  rintro e w5 ⟨v5,rfl,hown5,hlen5,hD45⟩
  have hD5:=hD4.step hD45
  have hX5:=hX4.step hD45
  have hR5:=hR4.step hD45
  clear hD4 hX4 hR4 hD45 HADS y0 y1 y2 y3 y4 y5 y6 y7 y8 z0 z1 z2 z3 z4 u0 u1 u2 u3 u4
  by_cases hf:g1.adsE id c.name≠0
  ·have HR3:=Hd (show g1.doNextA2 id c L=(noAns,g1.adsE id c.name,(g1.allF id 97 c.name).2) by rw [HR2.out,if_pos hf])
   have HF:=Hd (fault_num hf)
   rw [HF.out]
   clear hf
   obtain ⟨y0,y1,y2,y3,y4,y5,y6,y7,y8,z0,z1,z2,z3,z4,u0,u1,u2,u3,u4⟩:=hkk _ hX5.blk hR5.blk
   go_wp2
   refine bodyPost_ret (v:=.tuple #[AnsV (.slice none 0 0) noAns,.iface 71 (.int .i64 (g1.adsE id c.name))]) (by simp [AnsV,noAns,results,Tryz.results76,go_sem,z0,z1,z2,z3,z4,u0,u1,u2,u3,u4]) rfl ⟨noAns,by rw [HR.out,HR3.out];exact congrArg (fun x=>Ending.returned (.tuple #[AnsV (.slice none 0 0) noAns,x])) HF.out.symm,by rw [HR.out,HR3.out];exact fun _=>rfl,T,?_⟩
   rw [HR.out,HR3.out]
   (repeat' (first | exact hD5 | refine DKto.set ?_ ?_ ?_ _ | exact hR5.out)) <;> simp
  have hf:g1.adsE id c.name=0:=Decidable.not_not.1 hf
  rw [show faultV (g1.adsE id c.name)=.nilIface by rw [hf];rfl]
  have HR3:=Hd (show g1.doNextA2 id c L=(g1.allF id 97 c.name).2.doNextA3 id c ((g1.adsL id c.name).filter fun a=>inA a (c.pa,c.pn)) by rw [HR2.out,if_neg (by rw [hf];simp)])
  have HLA:=Hd (adsL_is g1 id c.name)
  clear hf HR2
  generalize g1.adsL id c.name=L2 at *
  generalize (g1.allF id 97 c.name).2=g2 at *
  obtain ⟨A5,c5,rfl,hrd5⟩:=hown5.form
  clear hown5
  go_wp2
  go_loopw [9,45] (fun o i wr=>∃ j:Nat,j≤L2.length∧i=.int .i64 (j:Int)∧Below w5.heap.size w5 wr∧OwnI64 wr w5.heap.size 3 o ((L2.take j).filter fun a=>inA a (c.pa,c.pn))) (fun _ i _=>L2.length - (intOf i).toNat)
  case atStart=>exact ⟨0,Nat.zero_le _,rfl,Below.refl _ _,OwnI64.nil _ _ _⟩
  case round =>
   obtain ⟨j,hj,rfl,hb,hown⟩:=hrel
   by_cases hlt:j < L2.length
   ·obtain ⟨b0,of0,rfl,hbb,c0⟩:=(hrd5.below hb).int hlt
    have HQ:=Hd (HLA.out L2[j] (List.getElem_mem _))
    have HS:=Hd (filtI_snoc (fun a=>inA a (c.pa,c.pn)) L2 j hlt)
    have hfl:((L2.take j).filter fun a=>inA a (c.pa,c.pn)).length < 10000000000:=by have:=List.length_filter_le (fun a=>inA a (c.pa,c.pn)) (L2.take j);simp at this;omega
    generalize ((L2.take j).filter fun a=>inA a (c.pa,c.pn))=WL at *
    generalize L2[j]=q at *
    have hX:=hX5.bel hb
    have y4:=hX.blk.cell 4
    have y5:=hX.blk.cell 5
    simp at y4 y5
    have hs:=hb.size
    have HIN:=Hd (in_pl q HQ.out (c.pa,c.pn) HP.out)
    go_wp2_with fail
    refine (HIN.out _).mono ?_
    rintro e w8 ⟨rfl,hb8⟩
    have hb28:=hb.trans (hb8.mono hs)
    have hown8:=hown.below hb8
    have hs8:=hb28.size
    clear y4 y5 hown
    cases hi:inA q (c.pa,c.pn) with
    | true =>
     have HF:=Hd (show (L2.take (j+1)).filter (fun a=>inA a (c.pa,c.pn))=WL++[q] by rw [HS.out,if_pos hi])
     clear hi HS HIN HQ
     go_wp2_with (at_builtin;go_loud (refine wpList_append_one rfl _ _ 57 rfl Tryz.underlying57 (.int .i64 0) 8 infoI64 rfl (by decide) w5.heap.size _ _ _ rfl hown8 rfl rfl hfl hs8 ?_);intro v6 w6 hown6 hb6;have hown6:OwnI64 w6 w5.heap.size 3 v6 (WL++[q]):=by (unfold OwnI64;rw [List.map_append,List.length_append];exact hown6))
     go_roundw
     case rel=>exact ⟨j+1,by omega,by go_num,hb28.trans hb6,by rw [HF.out];exact hown6⟩
     case measure=>simp [intOf];omega
    | false =>
     have HF:=Hd (show (L2.take (j+1)).filter (fun a=>inA a (c.pa,c.pn))=WL by rw [HS.out,if_neg (by rw [hi];simp),List.append_nil])
     clear hi HS HIN HQ
     go_wp2
     go_roundw
     case rel=>exact ⟨j+1,by omega,by go_num,hb28,by rw [HF.out];exact hown8⟩
     case measure=>simp [intOf];omega
   ·obtain rfl:j=L2.length:=by omega
    rw [List.take_length] at hown
    have hul:=List.length_filter_le (fun a=>inA a (c.pa,c.pn)) L2
    generalize (L2.filter fun a=>inA a (c.pa,c.pn))=US at *
    have hD6:=hD5.bel hb
    have hX6:=hX5.bel hb
    have hR6:=hR5.bel hb
    clear hrd5 hD5 hX5 hR5 hb
    obtain ⟨A6,c6,rfl,hrd6⟩:=hown.form
    clear hown
    have hnx:=next_pl (c.pa,c.pn) A6 US c6 (by unfold maxLen;omega) wr hrd6
    dsimp only at hnx
    have HNC:=Hd (fun h=>nextR_is (c.pa,c.pn) US h)
    have HR4:=Hd (show g2.doNextA3 id c US=if (nextR (c.pa,c.pn) US).1≠0 then (noAns,(nextR (c.pa,c.pn) US).1,g2) else g2.chg id ⟨akOf c.name (nextR (c.pa,c.pn) US).2,c.owner,false⟩ ⟨0,0,(nextR (c.pa,c.pn) US).2,[],[]⟩ from rfl)
    generalize nextR (c.pa,c.pn) US=r at *
    have HNX:=Hd hnx
    clear hnx hul
    obtain ⟨y0,y1,y2,y3,y4,y5,y6,y7,y8,z0,z1,z2,z3,z4,u0,u1,u2,u3,u4⟩:=hkk _ hX6.blk hR6.blk
    go_wp2_with fail
    refine HNX.out.mono ?_
    rintro e w7 ⟨rfl,hb7⟩
    have hD7:=hD6.bel hb7
    have hX7:=hX6.bel hb7
    have hR7:=hR6.bel hb7
    clear hD6 hX6 hR6 hb7 hrd6 HNX y0 y1 y2 y3 y4 y5 y6 y7 y8 z0 z1 z2 z3 z4 u0 u1 u2 u3 u4
    obtain ⟨f,q⟩:=r
    dsimp only at HR4 HNC
    by_cases hf:f≠0
    ·have HR5:=Hd (show g2.doNextA3 id c US=(noAns,f,g2) by rw [HR4.out,if_pos hf])
     have HF:=Hd (fault_num hf)
     rw [HF.out]
     clear hf HR4 HNC
     obtain ⟨y0,y1,y2,y3,y4,y5,y6,y7,y8,z0,z1,z2,z3,z4,u0,u1,u2,u3,u4⟩:=hkk _ hX7.blk hR7.blk
     go_wp2
     refine bodyPost_ret (v:=.tuple #[AnsV (.slice none 0 0) noAns,.iface 71 (.int .i64 f)]) (by simp [AnsV,noAns,results,Tryz.results76,go_sem,z0,z1,z2,z3,z4,u0,u1,u2,u3,u4]) rfl ⟨noAns,by rw [HR.out,HR3.out,HR5.out];exact congrArg (fun x=>Ending.returned (.tuple #[AnsV (.slice none 0 0) noAns,x])) HF.out.symm,by rw [HR.out,HR3.out,HR5.out];exact fun _=>rfl,T,?_⟩
     rw [HR.out,HR3.out,HR5.out]
     (repeat' (first | exact hD7 | refine DKto.set ?_ ?_ ?_ _ | exact hR7.out)) <;> simp
    obtain rfl:f=0:=Decidable.not_not.1 hf
    rw [show faultV 0=.nilIface from rfl]
    have HQ:=Hd (HNC.out rfl)
    have HR5:=Hd (show g2.doNextA3 id c US=g2.chg id ⟨akOf c.name q,c.owner,false⟩ ⟨0,0,q,[],[]⟩ by rw [HR4.out,if_neg (by simp)])
    clear hf HNC HR4
    have HPK:=Hd (fun (W:World) (hB:B≤W.heap.size) hV=>ak_any c.name HN.out q HQ.out (B:=B) W hB hV)
    have HPU:=Hd (fun W T' (x:DK B W T' d g2 k)=>x.put hid (akOf c.name q) c.owner (by have:=ak_len (c:=c) HN.out q;unfold maxLen;omega) (by have:=HC.out.owner;unfold maxLen;omega))
    have HEQ:=Hd (show g2.chg id ⟨akOf c.name q,c.owner,false⟩ ⟨0,0,q,[],[]⟩=(if (g2.change id ⟨akOf c.name q,c.owner,false⟩).1=0 then ⟨0,0,q,[],[]⟩ else noAns,(g2.change id ⟨akOf c.name q,c.owner,false⟩).1,(g2.change id ⟨akOf c.name q,c.owner,false⟩).2) from rfl)
    generalize g2.change id ⟨akOf c.name q,c.owner,false⟩=r3 at *
    generalize akOf c.name q=key at *
    obtain ⟨y0,y1,y2,y3,y4,y5,y6,y7,y8,z0,z1,z2,z3,z4,u0,u1,u2,u3,u4⟩:=hkk _ hX7.blk hR7.blk
    go_upto_region 20 with fail
    clear y0 y1 y2 y3 y4 y5 y6 y7 y8 z0 z1 z2 z3 z4 u0 u1 u2 u3 u4
    have hks:∀ W:World,Blk W w.heap.size 120 #[ptrV d,intV id,.int .i64 c.what,txt c.name,.int .i64 c.pa,.int .i64 c.pn,.int .i64 c.len,.int .i64 c.ad,txt c.owner]→W.cell? ⟨w.heap.size,0,none⟩=some (ptrV d)∧W.cell? ⟨w.heap.size,1,none⟩=some (intV id)∧W.cell? ⟨w.heap.size,2,none⟩=some (.int .i64 c.what)∧W.cell? ⟨w.heap.size,3,none⟩=some (txt c.name)∧W.cell? ⟨w.heap.size,4,none⟩=some (.int .i64 c.pa)∧W.cell? ⟨w.heap.size,5,none⟩=some (.int .i64 c.pn)∧W.cell? ⟨w.heap.size,6,none⟩=some (.int .i64 c.len)∧W.cell? ⟨w.heap.size,7,none⟩=some (.int .i64 c.ad)∧W.cell? ⟨w.heap.size,8,none⟩=some (txt c.owner):=fun W a=>⟨a.cell 0,a.cell 1,a.cell 2,a.cell 3,a.cell 4,a.cell 5,a.cell 6,a.cell 7,a.cell 8⟩
    have hwn:w.heap.size≠w.heap.size+1:=by omega
    have hXd:Blk w7.drew w.heap.size 120 #[ptrV d,intV id,.int .i64 c.what,txt c.name,.int .i64 c.pa,.int .i64 c.pn,.int .i64 c.len,.int .i64 c.ad,txt c.owner]:=hX7.blk
    go_region_held3 (fun W=>W.cell? ⟨w.heap.size,0,none⟩=some (ptrV d)∧W.cell? ⟨w.heap.size,1,none⟩=some (intV id)∧W.cell? ⟨w.heap.size,2,none⟩=some (.int .i64 c.what)∧W.cell? ⟨w.heap.size,3,none⟩=some (txt c.name)∧W.cell? ⟨w.heap.size,4,none⟩=some (.int .i64 c.pa)∧W.cell? ⟨w.heap.size,5,none⟩=some (.int .i64 c.pn)∧W.cell? ⟨w.heap.size,6,none⟩=some (.int .i64 c.len)∧W.cell? ⟨w.heap.size,7,none⟩=some (.int .i64 c.ad)∧W.cell? ⟨w.heap.size,8,none⟩=some (txt c.owner))
     (first
      | with_reducible exact hks _ hXd
      | with_reducible exact hks _ hX8.blk
      | with_reducible exact hks _ hX9.blk
      | with_reducible exact hks _ (hX9.blk.far5 hwn _ _ _ _ _))
     ((first
      | (go_at_call 72;refine (HPK.out _ hD7.drew.dk.le hD7.drew.dk.gv).mono ?_;rintro e w8 ⟨rfl,hb8⟩;have hD8:=hD7.drew.bel hb8;have hX8:=hX7.bel (w2:=w8) ⟨hb8.os,hb8.tape,hb8.output,hb8.size,hb8.block⟩;have hR8:=hR7.bel (w2:=w8) ⟨hb8.os,hb8.tape,hb8.output,hb8.size,hb8.block⟩)
      | (go_at_call 45;refine (HPU.out _ _ hD8.dk).mono ?_;rintro e w9 ⟨rfl,T8,hD89⟩;have hD9:=hD8.step hD89;have hX9:=hX8.step hD89;have hR9:=hR8.step hD89;obtain ⟨y0,y1,y2,y3,y4,y5,y6,y7,y8,z0,z1,z2,z3,z4,u0,u1,u2,u3,u4⟩:=hkk _ hX9.blk hR9.blk)))
    go_wp2
    refine bodyPost_ret (v:=.tuple #[AnsV (.slice none 0 0) ⟨0,0,q,[],[]⟩,faultV r3.1]) (by simp [AnsV,noAns,results,Tryz.results76,go_sem,z0,z1,z2,z3,z4,u0,u1,u2,u3,u4]) rfl ⟨⟨0,0,q,[],[]⟩,by rw [HR.out,HR3.out,HR5.out,HEQ.out],by rw [HR.out,HR3.out,HR5.out,HEQ.out];exact fun q=>(if_pos q).symm,T8,?_⟩
    rw [HR.out,HR3.out,HR5.out,HEQ.out]
    (repeat' (first | exact hD9 | refine DKto.set ?_ ?_ ?_ _ | exact hR9.out)) <;> simp
end
def FinB (V:Base):Prop:=∃ K:List (List UInt8),∀ s,V s≠none→s ∈ K
theorem view_ex {V:Base} (h:FinB V) (lo hi:List UInt8):∃ L,ViewIs V lo hi L:=by
 obtain ⟨K,hK⟩:=h
 have key:∀ K:List (List UInt8),∃ own:List Chg,RiseC own∧(∀ c ∈ own,c.gone=false∧inB lo hi c.key=true∧V c.key=some c.val)∧∀ s v,s ∈ K→inB lo hi s=true→V s=some v→(⟨s,v,false⟩:Chg) ∈ own:=by
  intro K
  induction K with
  | nil=>exact ⟨[],List.Pairwise.nil,by simp,by simp⟩
  | cons a K ih =>
   obtain ⟨own,h1,h2,h3⟩:=ih
   by_cases ha:inB lo hi a=true
   ·cases hv:V a with
    | none =>
     refine ⟨own,h1,h2,fun s v hs hi hv'=>?_⟩
     rcases List.mem_cons.1 hs with rfl | hs
     ·rw [hv] at hv';cases hv'
     ·exact h3 s v hs hi hv'
    | some u =>
     refine ⟨insC ⟨a,u,false⟩ own,insC_rise h1,fun c hc=>?_,fun s v hs hi hv'=>?_⟩
     ·rcases (insC_mem h1).1 hc with rfl | ⟨hc,_⟩
      ·exact ⟨rfl,ha,hv⟩
      ·exact h2 c hc
     ·refine (insC_mem h1).2 ?_
      by_cases e:s=a
      ·subst e
       rw [hv] at hv'
       injection hv' with hv'
       subst hv'
       exact .inl rfl
      ·rcases List.mem_cons.1 hs with q | hs
       ·exact absurd q e
       ·exact .inr ⟨h3 s v hs hi hv',e⟩
   ·refine ⟨own,h1,h2,fun s v hs hi hv'=>?_⟩
    rcases List.mem_cons.1 hs with rfl | hs
    ·exact absurd hi ha
    ·exact h3 s v hs hi hv'
 obtain ⟨own,h1,h2,h3⟩:=key K
 refine ⟨own.map (fun c=>(c.key,c.val)),?_,fun s v=>?_⟩
 ·unfold Rise
  rw [List.pairwise_map]
  exact h1
 ·rw [List.mem_map]
  constructor
  ·rintro ⟨c,hc,e⟩
   injection e with e1 e2
   subst e1
   subst e2
   exact ⟨(h2 c hc).2.1,(h2 c hc).2.2⟩
  ·rintro ⟨q1,q2⟩
   exact ⟨_,h3 s v (hK s (by rw [q2];simp)) q1 q2,rfl⟩
theorem rangeB_is {V:Base} (h:FinB V) (lo hi:List UInt8):ViewIs V lo hi (rangeB V lo hi):=by
 obtain ⟨L,hL⟩:=view_ex h lo hi
 rw [rangeB_eq hL]
 exact hL
structure OrdV (V:Base):Prop where
 fin:FinB V
 each:∀ s v,V s=some v→(keyI s).kind≠0∧nameB v=true
 net:∀ s,V s≠none→∃ s',V s'≠none∧(keyI s').kind=1∧(keyI s').net=(keyI s).net
 cov:∀ s,V s≠none→(keyI s).kind=3→∃ s',V s'≠none∧(keyI s').kind=2∧(keyI s').net=(keyI s).net∧inA ((keyI s).ad:Int) (((keyI s').pa:Int),((keyI s').pn:Int))=true
noncomputable def turnV (V:Base) (c:Chg):Base:=updO V c.key (if c.gone then none else some c.val)
theorem turnV_same (V:Base) (c:Chg):turnV V c c.key=if c.gone then none else some c.val:=updO_same _ _ _
theorem turnV_other (V:Base) (c:Chg) {s:List UInt8} (h:s≠c.key):turnV V c s=V s:=updO_other _ _ h
theorem see_ins (β:Base) {own:List Chg} (h:RiseC own) (c:Chg):seeB β (insC c own)=turnV (seeB β own) c:=by
 funext s
 unfold seeB turnV
 rw [findO_ins h]
 by_cases e:s=c.key
 ·subst e
  rw [updO_same,updO_same]
 ·rw [updO_other _ _ e,updO_other _ _ e]
theorem seeB_nil (β:Base):seeB β []=β:=by
 funext s
 rfl
theorem FinB.turn {V:Base} (h:FinB V) (c:Chg):FinB (turnV V c):=by
 obtain ⟨K,hK⟩:=h
 refine ⟨c.key::K,fun s hs=>?_⟩
 by_cases e:s=c.key
 ·rw [e];exact List.mem_cons_self
 ·rw [turnV_other _ _ e] at hs
  exact List.mem_cons_of_mem _ (hK s hs)
theorem some_ne {α:Type} {x:Option α} (h:x≠none):∃ v,x=some v:=by
 cases x with
 | none=>exact absurd rfl h
 | some v=>exact ⟨v,rfl⟩
theorem readAll_ne {α:Type} (f:KV→Option α):∀ l:List KV,(∀ x ∈ l,(f x).isSome=true)→readAll f l≠none
 | [],_,e=>by cases e
 | x::l,hl,e=>by
  unfold readAll at e
  have h1:=hl x List.mem_cons_self
  have h2:=readAll_ne f l (fun y hy=>hl y (List.mem_cons_of_mem _ hy))
  cases e1:f x with
  | none=>rw [e1] at h1;cases h1
  | some a =>
   cases e2:readAll f l with
   | none=>exact h2 e2
   | some r=>rw [e1,e2] at e;cases e
theorem readAll_has {α:Type} (f:KV→Option α):∀ (l:List KV) (out:List α),readAll f l=some out→∀ x ∈ l,∀ y,f x=some y→y ∈ out
 | [],out,_,x,hx,_,_=>by cases hx
 | z::l,out,h,x,hx,y,hy=>by
  unfold readAll at h
  cases e1:f z with
  | none=>rw [e1] at h;simp at h
  | some a =>
   cases e2:readAll f l with
   | none=>rw [e1,e2] at h;simp at h
   | some r =>
    rw [e1,e2] at h
    simp at h
    subst h
    rcases List.mem_cons.1 hx with rfl | hx
    ·rw [e1] at hy
     injection hy with hy
     rw [hy];exact List.mem_cons_self
    ·exact List.mem_cons_of_mem _ (readAll_has f l r e2 x hx y hy)
section
variable {V : Base}
theorem OrdV.nil:OrdV (fun _=>none):=⟨⟨[],fun s h=>absurd rfl h⟩,fun s v h=>(by cases h),fun s h=>absurd rfl h,fun s h=>absurd rfl h⟩
theorem OrdV.put (h:OrdV V) (s v:List UInt8) (hk:(keyI s).kind≠0) (hv:nameB v=true)
  (hnet:(keyI s).kind=1∨∃ s',V s'≠none∧(keyI s').kind=1∧(keyI s').net=(keyI s).net)
  (hcov:(keyI s).kind=3→∃ s',V s'≠none∧(keyI s').kind=2∧(keyI s').net=(keyI s).net∧inA ((keyI s).ad:Int) (((keyI s').pa:Int),((keyI s').pn:Int))=true):OrdV (turnV V ⟨s,v,false⟩):=by
 have up:∀ x,V x≠none→turnV V ⟨s,v,false⟩ x≠none:=fun x hx=>by
  by_cases e:x=s
  ·subst e
   rw [turnV_same V ⟨x,v,false⟩];simp
  ·rw [turnV_other _ _ e];exact hx
 have hs:turnV V ⟨s,v,false⟩ s≠none:=by rw [turnV_same V ⟨s,v,false⟩];simp
 refine ⟨h.fin.turn _,fun x u hx=>?_,fun x hx=>?_,fun x hx h3=>?_⟩
 ·by_cases e:x=s
  ·subst e
   rw [turnV_same V ⟨x,v,false⟩] at hx
   injection hx with hx
   subst hx
   exact ⟨hk,hv⟩
  ·rw [turnV_other _ _ e] at hx
   exact h.each x u hx
 ·by_cases e:x=s
  ·subst e
   rcases hnet with q | ⟨s',q1,q2⟩
   ·exact ⟨x,hs,q,rfl⟩
   ·exact ⟨s',up _ q1,q2⟩
  ·rw [turnV_other _ _ e] at hx
   obtain ⟨s',q1,q2⟩:=h.net x hx
   exact ⟨s',up _ q1,q2⟩
 ·by_cases e:x=s
  ·subst e
   obtain ⟨s',q1,q2⟩:=hcov h3
   exact ⟨s',up _ q1,q2⟩
  ·rw [turnV_other _ _ e] at hx
   obtain ⟨s',q1,q2⟩:=h.cov x hx h3
   exact ⟨s',up _ q1,q2⟩
theorem OrdV.dropA (h:OrdV V) (s:List UInt8) (hk:(keyI s).kind=3):OrdV (turnV V ⟨s,[],true⟩):=by
 have dn:∀ x,turnV V ⟨s,[],true⟩ x≠none→x≠s∧V x≠none:=fun x hx=>by
  by_cases e:x=s
  ·subst e
   rw [turnV_same V ⟨x,[],true⟩] at hx
   exact absurd rfl hx
  ·rw [turnV_other _ _ e] at hx;exact ⟨e,hx⟩
 have up:∀ x,V x≠none→(keyI x).kind≠3→turnV V ⟨s,[],true⟩ x≠none:=fun x hx h3=>by
  rw [turnV_other _ _ (show x≠(⟨s,[],true⟩:Chg).key from fun e=>h3 (by rw [e];exact hk))]
  exact hx
 refine ⟨h.fin.turn _,fun x u hx=>?_,fun x hx=>?_,fun x hx h3=>?_⟩
 ·have:=dn x (by rw [hx];simp)
  rw [turnV_other _ _ this.1] at hx
  exact h.each x u hx
 ·obtain ⟨s',q1,q2,q3⟩:=h.net x (dn x hx).2
  exact ⟨s',up _ q1 (by omega),q2,q3⟩
 ·obtain ⟨s',q1,q2,q3⟩:=h.cov x (dn x hx).2 h3
  exact ⟨s',up _ q1 (by omega),q2,q3⟩
theorem OrdV.dropP (h:OrdV V) (s:List UInt8) (hk:(keyI s).kind=2)
  (hc:∀ x,V x≠none→(keyI x).kind=3→(keyI x).net=(keyI s).net→inA ((keyI x).ad:Int) (((keyI s).pa:Int),((keyI s).pn:Int))=true→∃ s',s'≠s∧V s'≠none∧(keyI s').kind=2∧(keyI s').net=(keyI x).net∧inA ((keyI x).ad:Int) (((keyI s').pa:Int),((keyI s').pn:Int))=true):OrdV (turnV V ⟨s,[],true⟩):=by
 have dn:∀ x,turnV V ⟨s,[],true⟩ x≠none→x≠s∧V x≠none:=fun x hx=>by
  by_cases e:x=s
  ·subst e
   rw [turnV_same V ⟨x,[],true⟩] at hx
   exact absurd rfl hx
  ·rw [turnV_other _ _ e] at hx;exact ⟨e,hx⟩
 have up:∀ x,V x≠none→x≠s→turnV V ⟨s,[],true⟩ x≠none:=fun x hx h3=>by
  rw [turnV_other _ _ (show x≠(⟨s,[],true⟩:Chg).key from h3)]
  exact hx
 refine ⟨h.fin.turn _,fun x u hx=>?_,fun x hx=>?_,fun x hx h3=>?_⟩
 ·have:=dn x (by rw [hx];simp)
  rw [turnV_other _ _ this.1] at hx
  exact h.each x u hx
 ·obtain ⟨s',q1,q2,q3⟩:=h.net x (dn x hx).2
  exact ⟨s',up _ q1 (fun e=>by rw [e] at q2;omega),q2,q3⟩
 ·have hx':=(dn x hx).2
  obtain ⟨s',q1,q2,q3,q4⟩:=h.cov x hx' h3
  by_cases e:s'=s
  ·subst e
   obtain ⟨s2,r1,r2,r3⟩:=hc x hx' h3 q3.symm q4
   exact ⟨s2,up _ r2 r1,r3⟩
  ·exact ⟨s',up _ q1 e,q2,q3,q4⟩
theorem OrdV.pfxs (h:OrdV V) {net:List UInt8} (hn:nameB net=true):∃ out,readAll pfxO (rangeB V (loK 112 net) (hiK 112 net))=some out ∧
  ∀ q,q ∈ out ↔ ∃ s,V s≠none∧(keyI s).kind=2∧(keyI s).net=net∧q=(((keyI s).pa:Int),((keyI s).pn:Int)):=by
 have hR:=rangeB_is h.fin (loK 112 net) (hiK 112 net)
 have hin:∀ s v,(s,v) ∈ rangeB V (loK 112 net) (hiK 112 net)→(keyI s).kind=2∧(keyI s).net=net:=fun s v hs=>by
  have:=(hR.mem s v).1 hs
  exact (range_2 hn (h.each s v this.2).1).1 this.1
 cases hr:readAll pfxO (rangeB V (loK 112 net) (hiK 112 net)) with
 | none =>
  exfalso
  refine readAll_ne pfxO _ (fun x hx=>?_) hr
  obtain ⟨s,v⟩:=x
  unfold pfxO
  rw [if_pos (hin s v hx).1]
  rfl
 | some out =>
  refine ⟨out,rfl,fun q=>⟨fun hq=>?_,?_⟩⟩
  ·obtain ⟨x,hx,e⟩:=readAll_mem pfxO _ out hr q hq
   obtain ⟨s,v⟩:=x
   have h1:=hin s v hx
   have h2:=(hR.mem s v).1 hx
   refine ⟨s,by rw [h2.2];simp,h1.1,h1.2,?_⟩
   unfold pfxO at e
   rw [if_pos h1.1] at e
   injection e with e
   exact e.symm
  ·rintro ⟨s,h1,h2,h3,rfl⟩
   obtain ⟨v,hv⟩:=some_ne h1
   have hx:=(hR.mem s v).2 ⟨(range_2 hn (h.each s v hv).1).2 ⟨h2,h3⟩,hv⟩
   exact readAll_has pfxO _ out hr (s,v) hx _ (by unfold pfxO;rw [if_pos h2])
theorem OrdV.ads (h:OrdV V) {net:List UInt8} (hn:nameB net=true):∃ out,readAll adO (rangeB V (loK 97 net) (hiK 97 net))=some out ∧
  ∀ q,q ∈ out ↔ ∃ s,V s≠none∧(keyI s).kind=3∧(keyI s).net=net∧q=((keyI s).ad:Int):=by
 have hR:=rangeB_is h.fin (loK 97 net) (hiK 97 net)
 have hin:∀ s v,(s,v) ∈ rangeB V (loK 97 net) (hiK 97 net)→(keyI s).kind=3∧(keyI s).net=net:=fun s v hs=>by
  have:=(hR.mem s v).1 hs
  exact (range_3 hn (h.each s v this.2).1).1 this.1
 cases hr:readAll adO (rangeB V (loK 97 net) (hiK 97 net)) with
 | none =>
  exfalso
  refine readAll_ne adO _ (fun x hx=>?_) hr
  obtain ⟨s,v⟩:=x
  unfold adO
  rw [if_pos (hin s v hx).1]
  rfl
 | some out =>
  refine ⟨out,rfl,fun q=>⟨fun hq=>?_,?_⟩⟩
  ·obtain ⟨x,hx,e⟩:=readAll_mem adO _ out hr q hq
   obtain ⟨s,v⟩:=x
   have h1:=hin s v hx
   have h2:=(hR.mem s v).1 hx
   refine ⟨s,by rw [h2.2];simp,h1.1,h1.2,?_⟩
   unfold adO at e
   rw [if_pos h1.1] at e
   injection e with e
   exact e.symm
  ·rintro ⟨s,h1,h2,h3,rfl⟩
   obtain ⟨v,hv⟩:=some_ne h1
   have hx:=(hR.mem s v).2 ⟨(range_3 hn (h.each s v hv).1).2 ⟨h2,h3⟩,hv⟩
   exact readAll_has adO _ out hr (s,v) hx _ (by unfold adO;rw [if_pos h2])
end
def Wp (β:Base) (p:DP (PAns × Int)) (t:St) (Q:PAns→Int→List Chg→Prop):Prop:=Q (p.runS β t).1.1 (p.runS β t).1.2 (p.runS β t).2.own
section
variable {β : Base} {t : St} {Q : PAns → Int → List Chg → Prop}
theorem Wp.no (e:Int) (h:Q noAns e t.own):Wp β (noP e) t Q:=h
theorem Wp.ite {b:Prop} [Decidable b] {p q:DP (PAns × Int)} (h1:b→Wp β p t Q) (h2:¬ b→Wp β q t Q):Wp β (if b then p else q) t Q:=by
 by_cases h:b
 ·rw [if_pos h];exact h1 h
 ·rw [if_neg h];exact h2 h
theorem Wp.chg (c:Chg) (a:PAns) (h1:∀ e,e≠0→Q noAns e t.own) (h2:keyB c.key=true→c.val.length≤12→Q a 0 (insC c t.own)):Wp β (chgP c a) t Q:=by
 show Q (if (t.change c).1=0 then a else noAns) (t.change c).1 (t.change c).2.own
 unfold St.change
 split
 ·exact h1 2 (by decide)
 ·rename_i hk
  split
  ·exact h1 3 (by decide)
  ·refine h2 ?_ (Nat.le_of_not_lt (fun q=>hk (.inr q)))
   cases e:keyB c.key with
   | true=>rfl
   | false=>exact absurd (.inl e) hk
theorem Wp.has (s:List UInt8) (f:Bool × Int→DP (PAns × Int))
  (H:∀ (b:Bool) (e:Int) (t':St),t'.own=t.own→(e=0→b=true→seeB β t.own s≠none)→(e=0→b=false→seeB β t.own s=none)→Wp β (f (b,e)) t' Q):Wp β ((hasP s).bind f) t Q:=by
 refine H (decide ((t.get β s).1.2=0)) (if (t.get β s).1.2=4 then 0 else (t.get β s).1.2) (t.get β s).2 (St.get_own β t s) ?_ ?_
 ·intro he hb
  have hb:=of_decide_eq_true hb
  unfold St.get at hb
  split at hb
  ·exact absurd hb (by simp)
  ·split at hb
   ·exact absurd hb (by simp)
   ·unfold getB at hb
    split at hb
    ·rename_i v hv;rw [hv];simp
    ·exact absurd hb (by simp)
 ·intro he hb
  have hb:=of_decide_eq_false hb
  unfold St.get at hb he
  split at hb
  ·rename_i q;rw [if_pos q] at he;exact absurd he (by simp)
  ·rename_i q
   rw [if_neg q] at he
   split at hb
   ·rename_i q2;rw [if_pos q2] at he;exact absurd he (by simp)
   ·unfold getB at hb
    split at hb
    ·exact absurd rfl hb
    ·rename_i hv;exact hv
theorem Wp.pfxs (net:List UInt8) (f:Int × List Pf→DP (PAns × Int))
  (H:∀ (e:Int) (L:List Pf) (t':St),t'.own=t.own→(e=0→readAll pfxO (rangeB (seeB β t.own) (loK 112 net) (hiK 112 net))=some L)→Wp β (f (e,L)) t' Q):Wp β ((pfxsP net).bind f) t Q:=by
 refine H _ _ (t.range β (loK 112 net) (hiK 112 net)).2 (St.range_own β t _ _) ?_
 unfold St.range
 split
 ·intro q;exact absurd q (by simp [faultL])
 ·simp only [faultL,listL]
  intro q
  cases h:readAll pfxO (rangeB (seeB β t.own) (loK 112 net) (hiK 112 net)) with
  | none=>rw [h] at q;simp at q
  | some L=>simp
theorem Wp.ads (net:List UInt8) (f:Int × List Int→DP (PAns × Int))
  (H:∀ (e:Int) (L:List Int) (t':St),t'.own=t.own→(e=0→readAll adO (rangeB (seeB β t.own) (loK 97 net) (hiK 97 net))=some L)→Wp β (f (e,L)) t' Q):Wp β ((adsP net).bind f) t Q:=by
 refine H _ _ (t.range β (loK 97 net) (hiK 97 net)).2 (St.range_own β t _ _) ?_
 unfold St.range
 split
 ·intro q;exact absurd q (by simp [faultL])
 ·simp only [faultL,listL]
  intro q
  cases h:readAll adO (rangeB (seeB β t.own) (loK 97 net) (hiK 97 net)) with
  | none=>rw [h] at q;simp at q
  | some L=>simp
theorem Wp.quiet (p:DP (PAns × Int)) (hp:p.noChg) (h:∀ a e,Q a e t.own):Wp β p t Q:=by
 unfold Wp
 rw [DP.noChg_own β p t hp]
 exact h _ _
theorem bind_no {α γ:Type} (f:α→DP γ) (hf:∀ x,(f x).noChg):∀ p:DP α,p.noChg→(p.bind f).noChg
 | .ret a,_=>hf a
 | .get _ k,h=>fun x=>bind_no f hf (k x) (h x)
 | .range _ _ k,h=>fun x=>bind_no f hf (k x) (h x)
 | .chg _ _,h=>h.elim
theorem if_no {α:Type} {b:Prop} [Decidable b] {p q:DP α} (h1:p.noChg) (h2:q.noChg):(if b then p else q).noChg:=by split <;> assumption
theorem listP_no (c:PCall):(listP c).noChg:=bind_no (fun l:Int × List Pf=>(.ret (⟨0,0,0,[],l.2⟩,l.1):DP (PAns × Int))) (fun _=>trivial) _ (pfxsP_no _)
theorem whoP_no (c:PCall):(whoP c).noChg:=by
 intro x
 refine if_no trivial (if_no trivial ?_)
 intro y
 exact if_no trivial (if_no trivial trivial)
end
theorem callFault_zero {c:PCall} (h:callFault c=0):(1≤c.what∧c.what≤9)∧nameB c.name=true∧(callOwned c.what=true→nameB c.owner=true)∧(callPf c.what=true→chk c.pa c.pn=0)∧(callAd c.what=true→isA c.ad=true):=by
 unfold callFault at h
 split at h
 ·exact absurd h (by decide)
 ·rename_i h1
  split at h
  ·exact absurd h (by decide)
  ·rename_i h2
   split at h
   ·exact absurd h (by decide)
   ·rename_i h3
    refine ⟨by omega,by cases e:nameB c.name with | true=>rfl | false=>exact absurd e h2,fun q=>?_,fun q=>?_,fun q=>?_⟩
    ·cases e:nameB c.owner with
     | true=>rfl
     | false=>exact absurd ⟨q,e⟩ h3
    ·rw [if_pos q] at h;exact h
    ·by_cases h4:callPf c.what=true
     ·exfalso
      unfold callPf at h4
      unfold callAd at q
      simp at h4 q
      omega
     ·rw [if_neg h4] at h
      cases e:isA c.ad with
      | true=>rfl
      | false=>rw [if_pos ⟨q,e⟩] at h;exact absurd h (by decide)
theorem pf_nat {p:Pf} (h:chk p.1 p.2=0):((p.1.toNat:Int)=p.1)∧((p.2.toNat:Int)=p.2):=by
 have:=chk_zero.1 h
 omega
theorem keyI_pk {net:List UInt8} (hn:nameB net=true) {p:Pf} (h:chk p.1 p.2=0):keyI (pkOf net p)=⟨2,net,p.1.toNat,p.2.toNat,0⟩:=by
 unfold pkOf
 exact keyI_p hn (by rw [(pf_nat h).1,(pf_nat h).2];exact h)
theorem keyI_ak {net:List UInt8} (hn:nameB net=true) {a:Int} (h:isA a=true):keyI (akOf net a)=⟨3,net,0,0,a.toNat⟩:=by
 unfold akOf
 have:=isA_true.1 h
 exact keyI_a hn (by omega)
theorem sz32:sz 32=1:=by decide
theorem inA_iff {a:Int} {p:Pf}:inA a p=true ↔ p.1≤a∧a≤lastP p:=by
 unfold inA inP lastP
 rw [show lastA a 32=a by unfold lastA;rw [sz32];omega]
 simp
theorem nextR_in (p:Pf) (used:List Int) (h:(nextR p used).1=0):inA (nextR p used).2 p=true∧chk p.1 p.2=0:=by
 unfold nextR at h ⊢
 by_cases hf:usedFault p.1 p.2 used=0
 ·rw [if_neg (by rw [hf];simp)] at h ⊢
  by_cases hx:uHi p.1 p.2 < nextOf p.1 p.2 used
  ·rw [if_pos hx] at h;exact absurd h (by decide)
  ·rw [if_neg hx]
   have hc:=(usedFault_zero.1 hf).1
   obtain ⟨u1,u2,u3⟩:=uSpan hc
   have hs:=nextOf_spec p.1 p.2 used u1
   refine ⟨inA_iff.2 ⟨?_,?_⟩,hc⟩
   ·have h1:=hs.1
    show p.1≤nextOf p.1 p.2 used
    unfold uLo at h1
    split at h1 <;> omega
   ·show nextOf p.1 p.2 used≤lastA p.1 p.2
    have h1:nextOf p.1 p.2 used≤uHi p.1 p.2:=by omega
    unfold uHi at h1
    split at h1 <;> omega
 ·rw [if_pos hf] at h;exact absurd h hf
theorem coveredB_iff {a:Int} {l:List Pf} {but:Pf}:coveredB a l but=true ↔ ∃ p ∈ l,p≠but∧inA a p=true:=by
 unfold coveredB
 rw [List.any_eq_true]
 simp
def KeepO (β:Base) (own:List Chg):Prop:=OrdV (seeB β own)∧RiseC own
def NetIn (V:Base) (net:List UInt8):Prop:=∃ s',V s'≠none∧(keyI s').kind=1∧(keyI s').net=net
section
variable {β : Base} {own : List Chg}
theorem KeepO.net (h:KeepO β own) {net v:List UInt8} (hn:nameB net=true) (hv:nameB v=true):KeepO β (insC ⟨nKey net,v,false⟩ own) :=
 ⟨by rw [see_ins β h.2];exact h.1.put _ _ (by rw [keyI_n hn];simp) hv (.inl (by rw [keyI_n hn])) (fun q=>by rw [keyI_n hn] at q;cases q),insC_rise h.2⟩
theorem KeepO.pfx (h:KeepO β own) {net v:List UInt8} (hn:nameB net=true) (hv:nameB v=true) {p:Pf} (hp:chk p.1 p.2=0) (hN:NetIn (seeB β own) net):KeepO β (insC ⟨pkOf net p,v,false⟩ own) :=
 ⟨by
  rw [see_ins β h.2]
  refine h.1.put _ _ (by rw [keyI_pk hn hp];simp) hv (.inr ?_) (fun q=>by rw [keyI_pk hn hp] at q;cases q)
  rw [keyI_pk hn hp]
  exact hN,insC_rise h.2⟩
theorem KeepO.adr (h:KeepO β own) {net v:List UInt8} (hn:nameB net=true) (hv:nameB v=true) {a:Int} (ha:isA a=true) (hN:NetIn (seeB β own) net)
  (hC:∃ s',seeB β own s'≠none∧(keyI s').kind=2∧(keyI s').net=net∧inA a (((keyI s').pa:Int),((keyI s').pn:Int))=true):KeepO β (insC ⟨akOf net a,v,false⟩ own) :=
 ⟨by
  have h0:=isA_true.1 ha
  rw [see_ins β h.2]
  refine h.1.put _ _ (by rw [keyI_ak hn ha];simp) hv (.inr ?_) (fun q=>?_)
  ·rw [keyI_ak hn ha]
   exact hN
  ·rw [keyI_ak hn ha]
   simp only
   rw [show ((a.toNat:Nat):Int)=a by omega]
   exact hC,insC_rise h.2⟩
theorem KeepO.leave (h:KeepO β own) {net:List UInt8} (hn:nameB net=true) {a:Int} (ha:isA a=true):KeepO β (insC ⟨akOf net a,[],true⟩ own) :=
 ⟨by rw [see_ins β h.2];exact h.1.dropA _ (by rw [keyI_ak hn ha]),insC_rise h.2⟩
end
section
variable {β : Base} {t : St} (c : PCall)
abbrev QO (β:Base):PAns→Int→List Chg→Prop:=fun _ _ own=>KeepO β own
theorem ord_add (h:KeepO β t.own) (hn:nameB c.name=true) (hv:nameB c.owner=true) (hp:chk c.pa c.pn=0) (hN:NetIn (seeB β t.own) c.name):Wp β (addP c) t (QO β):=by
 unfold addP
 refine Wp.has _ _ (fun b e t1 e1 hy hno=>?_)
 refine Wp.ite (fun _=>Wp.no _ (by rw [e1];exact h)) (fun _=>Wp.ite (fun _=>Wp.no _ (by rw [e1];exact h)) (fun _=>Wp.chg _ _ (fun _ _=>by rw [e1];exact h) (fun _ _=>?_)))
 rw [e1]
 exact h.pfx hn hv (p:=c.pf) hp hN
theorem ord_leave (h:KeepO β t.own) (hn:nameB c.name=true) (ha:isA c.ad=true):Wp β (leaveP c) t (QO β):=by
 unfold leaveP
 refine Wp.has _ _ (fun b e t1 e1 hy hno=>?_)
 refine Wp.ite (fun _=>Wp.no _ (by rw [e1];exact h)) (fun _=>Wp.ite (fun _=>Wp.no _ (by rw [e1];exact h)) (fun _=>Wp.chg _ _ (fun _ _=>by rw [e1];exact h) (fun _ _=>?_)))
 rw [e1]
 exact h.leave hn ha
theorem ord_take (h:KeepO β t.own) (hn:nameB c.name=true) (hp:chk c.pa c.pn=0):Wp β (takeP c) t (QO β):=by
 unfold takeP
 refine Wp.has _ _ (fun b e t1 e1 hy hno=>?_)
 have h1:KeepO β t1.own:=by rw [e1];exact h
 refine Wp.ite (fun _=>Wp.no _ h1) (fun _=>Wp.ite (fun _=>Wp.no _ h1) (fun _=>?_))
 refine Wp.pfxs _ _ (fun e2 L t2 e2' hL=>?_)
 have h2:KeepO β t2.own:=by rw [e2'];exact h1
 refine Wp.ite (fun _=>Wp.no _ h2) (fun q2=>?_)
 have q2:e2=0:=Decidable.not_not.1 q2
 refine Wp.ads _ _ (fun e3 A t3 e3' hA=>?_)
 have h3:KeepO β t3.own:=by rw [e3'];exact h2
 refine Wp.ite (fun _=>Wp.no _ h3) (fun q3=>?_)
 have q3:e3=0:=Decidable.not_not.1 q3
 refine Wp.ite (fun _=>Wp.no _ h3) (fun q4=>Wp.ite (fun _=>Wp.no _ h3) (fun q5=>Wp.chg _ _ (fun _ _=>h3) (fun _ _=>?_)))
 have hL:=hL q2
 have hA:=hA q3
 rw [← e2'] at hL
 have hks:=keyI_pk hn (p:=c.pf) hp
 obtain ⟨out,o1,o2⟩:=h2.1.pfxs hn
 rw [hL] at o1
 injection o1 with o1
 subst o1
 obtain ⟨out,a1,a2⟩:=h2.1.ads hn
 rw [hA] at a1
 injection a1 with a1
 subst a1
 have h3':=h3
 rw [e3'] at h3'
 refine ⟨?_,by rw [e3'];exact insC_rise h2.2⟩
 rw [e3',see_ins β h2.2]
 refine h2.1.dropP _ (by show (keyI (pkOf c.name c.pf)).kind=2;rw [hks]) (fun x hx hk hnet hin=>?_)
 have hks':keyI c.pk=⟨2,c.name,c.pf.1.toNat,c.pf.2.toNat,0⟩:=hks
 rw [hks'] at hnet hin
 simp only at hnet hin
 rw [(pf_nat (p:=c.pf) hp).1,(pf_nat (p:=c.pf) hp).2] at hin
 have hmem:((keyI x).ad:Int) ∈ A:=(a2 _).2 ⟨x,hx,hk,hnet,rfl⟩
 have hcov:coveredB ((keyI x).ad:Int) L c.pf=true:=by
  cases hcv:coveredB ((keyI x).ad:Int) L c.pf with
  | true=>rfl
  | false =>
   exfalso
   apply q5
   rw [List.any_eq_true]
   exact ⟨_,hmem,by rw [hcv];simpa using hin⟩
 obtain ⟨p,p1,p2,p3⟩:=coveredB_iff.1 hcov
 obtain ⟨s',r1,r2,r3,r4⟩:=(o2 p).1 p1
 refine ⟨s',fun e=>p2 ?_,r1,r2,by rw [r3,hnet],by rw [← r4];exact p3⟩
 rw [r4,e,hks']
 simp only
 rw [(pf_nat (p:=c.pf) hp).1,(pf_nat (p:=c.pf) hp).2]
theorem ord_place (h:KeepO β t.own) (hn:nameB c.name=true) (hv:nameB c.owner=true) (ha:isA c.ad=true) (hN:NetIn (seeB β t.own) c.name):Wp β (placeP c) t (QO β):=by
 unfold placeP
 refine Wp.pfxs _ _ (fun e2 L t2 e2' hL=>?_)
 have h2:KeepO β t2.own:=by rw [e2'];exact h
 refine Wp.ite (fun _=>Wp.no _ h2) (fun q2=>?_)
 have q2:e2=0:=Decidable.not_not.1 q2
 refine Wp.has _ _ (fun b e t3 e3' hy hno=>?_)
 have h3:KeepO β t3.own:=by rw [e3'];exact h2
 refine Wp.ite (fun _=>Wp.no _ h3) (fun _=>Wp.ite (fun _=>Wp.no _ h3) (fun q4=>Wp.ite (fun _=>Wp.no _ h3) (fun _=>Wp.chg _ _ (fun _ _=>h3) (fun _ _=>?_))))
 obtain ⟨out,o1,o2⟩:=h.1.pfxs hn
 rw [hL q2] at o1
 injection o1 with o1
 subst o1
 have q4:coveredB c.ad L (0,-1)=true:=by
  cases e:coveredB c.ad L (0,-1) with
  | true=>rfl
  | false=>exact absurd e q4
 obtain ⟨p,p1,p2,p3⟩:=coveredB_iff.1 q4
 obtain ⟨s',r1,r2,r3,r4⟩:=(o2 p).1 p1
 rw [e3',e2']
 exact h.adr hn hv ha hN ⟨s',r1,r2,r3,by rw [← r4];exact p3⟩
theorem ord_nextP (h:KeepO β t.own) (hn:nameB c.name=true) (hv:nameB c.owner=true) (hN:NetIn (seeB β t.own) c.name):Wp β (nextPP c) t (QO β):=by
 unfold nextPP
 refine Wp.pfxs _ _ (fun e2 L t2 e2' hL=>?_)
 have h2:KeepO β t2.own:=by rw [e2'];exact h
 refine Wp.ite (fun _=>Wp.no _ h2) (fun q2=>Wp.ite (fun _=>Wp.no _ h2) (fun q3=>Wp.ite (fun _=>Wp.no _ h2) (fun q4=>Wp.ite (fun _=>Wp.no _ h2) (fun _=>Wp.chg _ _ (fun _ _=>h2) (fun _ _=>?_)))))
 rw [e2']
 exact h.pfx hn hv (firstR_chk _ _ _ (Decidable.not_not.1 q4)) hN
theorem ord_nextA (h:KeepO β t.own) (hn:nameB c.name=true) (hv:nameB c.owner=true) (hN:NetIn (seeB β t.own) c.name):Wp β (nextAP c) t (QO β):=by
 unfold nextAP
 refine Wp.pfxs _ _ (fun e2 L t2 e2' hL=>?_)
 have h2:KeepO β t2.own:=by rw [e2'];exact h
 refine Wp.ite (fun _=>Wp.no _ h2) (fun q2=>Wp.ite (fun _=>Wp.no _ h2) (fun q3=>?_))
 have q2:e2=0:=Decidable.not_not.1 q2
 have q3:c.pf ∈ L:=Decidable.not_not.1 q3
 refine Wp.ads _ _ (fun e3 A t3 e3' hA=>?_)
 have h3:KeepO β t3.own:=by rw [e3'];exact h2
 refine Wp.ite (fun _=>Wp.no _ h3) (fun _=>Wp.ite (fun _=>Wp.no _ h3) (fun q4=>Wp.chg _ _ (fun _ _=>h3) (fun _ _=>?_)))
 obtain ⟨out,o1,o2⟩:=h.1.pfxs hn
 rw [hL q2] at o1
 injection o1 with o1
 subst o1
 obtain ⟨s',r1,r2,r3,r4⟩:=(o2 c.pf).1 q3
 rw [e3',e2']
 exact h.adr hn hv (nextR_is _ _ (Decidable.not_not.1 q4)) hN ⟨s',r1,r2,r3,by rw [← r4];exact (nextR_in _ _ (Decidable.not_not.1 q4)).1⟩
theorem ord_step (h:KeepO β t.own):Wp β (doP c) t (QO β):=by
 unfold doP
 refine Wp.ite (fun _=>Wp.no _ h) (fun hf=>?_)
 obtain ⟨hw,hn,how,hpf,had⟩:=callFault_zero (Decidable.not_not.1 hf)
 refine Wp.has _ _ (fun b e t1 e1 hy hno=>?_)
 have h1:KeepO β t1.own:=by rw [e1];exact h
 refine Wp.ite (fun _=>Wp.no _ h1) (fun he=>?_)
 have he:e=0:=Decidable.not_not.1 he
 refine Wp.ite (fun w1=>Wp.ite (fun _=>Wp.no _ h1) (fun _=>Wp.chg _ _ (fun _ _=>h1) (fun _ _=>h1.net hn (how (by unfold callOwned;simp [w1]))))) (fun w1=>?_)
 refine Wp.ite (fun _=>Wp.no _ h1) (fun hb=>?_)
 have hb:b=true:=by cases b with | true=>rfl | false=>exact absurd rfl hb
 have hN:NetIn (seeB β t1.own) c.name:=⟨c.nk,by rw [e1];exact hy he hb,by unfold PCall.nk;rw [keyI_n hn],by unfold PCall.nk;rw [keyI_n hn]⟩
 unfold do2P
 refine Wp.ite (fun w=>ord_add c h1 hn (how (by unfold callOwned;simp [w])) (hpf (by unfold callPf;simp [w])) hN) (fun w2=>?_)
 refine Wp.ite (fun w=>ord_take c h1 hn (hpf (by unfold callPf;simp [w]))) (fun w3=>?_)
 refine Wp.ite (fun w=>ord_place c h1 hn (how (by unfold callOwned;simp [w])) (had (by unfold callAd;simp [w])) hN) (fun w4=>?_)
 refine Wp.ite (fun w=>ord_leave c h1 hn (had (by unfold callAd;simp [w]))) (fun w5=>?_)
 refine Wp.ite (fun w=>ord_nextP c h1 hn (how (by unfold callOwned;simp [w])) hN) (fun w6=>?_)
 refine Wp.ite (fun w=>ord_nextA c h1 hn (how (by unfold callOwned;simp [w])) hN) (fun w7=>?_)
 refine Wp.ite (fun w=>Wp.quiet _ (listP_no c) (fun _ _=>h1)) (fun w8=>Wp.quiet _ (whoP_no c) (fun _ _=>h1))
end
def GoodR (F:List UInt8→List Ver) (n:Int):Prop:=∀ s,Rising (F s)∧∀ v ∈ F s,v.n≤n
theorem GoodR.nil (n:Int):GoodR noF n:=fun s=>⟨List.Pairwise.nil,by intro v hv;cases hv⟩
theorem GoodR.mono {F:List UInt8→List Ver} {a b:Int} (h:GoodR F a) (hab:a≤b):GoodR F b:=fun s=>⟨(h s).1,fun v hv=>by have:=(h s).2 v hv;omega⟩
theorem fnd_all {l:List Ver} (h:Rising l) {n:Int} (hn:∀ v ∈ l,v.n≤n):fnd l n l.length=l.length :=
 fnd_uniq h (Nat.le_refl _) (fun i hi=>⟨fun _=>hn _ (List.getElem_mem hi),fun _=>hi⟩)
theorem tellL_ge {l:List Ver} (h:Rising l) {n a b:Int} (hn:∀ v ∈ l,v.n≤n) (ha:n≤a) (hb:n≤b):tellL l a=tellL l b:=by
 have h1:=fnd_all h (n:=a) (fun v hv=>by have:=hn v hv;omega)
 have h2:=fnd_all h (n:=b) (fun v hv=>by have:=hn v hv;omega)
 unfold tellL
 rw [h1,h2]
theorem addV_new {l:List Ver} {v:Ver} (hn:∀ u ∈ l,u.n < v.n):addV l v=l++[v]:=by
 unfold addV
 split
 ·rename_i u hu
  have:=hn u (List.mem_of_getLast? hu)
  rw [if_neg (by omega)]
 ·rename_i hu
  rw [List.getLast?_eq_none_iff.1 hu]
  rfl
theorem Rising.snoc {l:List Ver} (h:Rising l) {v:Ver} (hn:∀ u ∈ l,u.n < v.n):Rising (l++[v]):=by
 unfold Rising
 rw [List.pairwise_append]
 exact ⟨h,List.pairwise_singleton _ _,fun a ha b hb=>by simp at hb;subst hb;exact hn a ha⟩
theorem tellL_new {l:List Ver} (h:Rising l) {v:Ver} (hn:∀ u ∈ l,u.n < v.n):tellL (l++[v]) v.n=if v.gone then none else some v.val:=by
 have hf:=fnd_all (h.snoc hn) (n:=v.n) (fun u hu=>by
  rcases List.mem_append.1 hu with hu | hu
  ·have:=hn u hu;omega
  ·simp at hu;subst hu;exact Int.le_refl _)
 rw [List.length_append,List.length_singleton] at hf
 rw [tellL_at (l:=l++[v]) (k:=l.length) (by rw [List.length_append,List.length_singleton];exact hf) (by simp)]
 simp
theorem findO_cons (c:Chg) (l:List Chg) (s:List UInt8):findO (c::l) s=if c.key=s then some c else findO l s:=by
 unfold findO
 by_cases e:c.key=s
 ·rw [if_pos e,List.find?_cons_of_pos (by simpa using e)]
 ·rw [if_neg e,List.find?_cons_of_neg (by simpa using e)]
theorem appF_key (n:Int) (s:List UInt8):∀ (l:List Chg) (F:List UInt8→List Ver),RiseC l→appF F l n s=match findO l s with
  | some c=>addV (F s) ⟨n,c.val,c.gone⟩
  | none=>F s
 | [],F,_=>rfl
 | c::l,F,h=>by
  have h':=List.pairwise_cons.1 h
  show appF (putV F c.key ⟨n,c.val,c.gone⟩) l n s=_
  rw [appF_key n s l _ h'.2,findO_cons]
  by_cases e:c.key=s
  ·rw [if_pos e]
   have hno:findO l s=none:=by
    rw [findO_none]
    intro x hx
    rw [← e]
    exact (lessB_ne (h'.1 x hx)).symm
   rw [hno]
   simp only
   unfold putV
   rw [e,upd_same]
  ·rw [if_neg e]
   unfold putV
   rw [upd_other _ _ (fun q=>e q.symm)]
section
variable {F : List UInt8 → List Ver} {last : Int} {l : List Chg}
theorem GoodR.app (h:GoodR F last) (hr:RiseC l):GoodR (appF F l (last+1)) (last+1):=by
 intro s
 rw [appF_key _ _ _ _ hr]
 cases hf:findO l s with
 | none=>exact (h.mono (by omega)) s
 | some c =>
  simp only
  have hn:∀ u ∈ F s,u.n < (⟨last+1,c.val,c.gone⟩:Ver).n:=fun u hu=>by have:=(h s).2 u hu;show u.n < last+1;omega
  rw [addV_new hn]
  refine ⟨(h s).1.snoc hn,fun v hv=>?_⟩
  rcases List.mem_append.1 hv with hv | hv
  ·have:=(h s).2 v hv;omega
  ·simp at hv;subst hv;exact Int.le_refl _
theorem tell_app (h:GoodR F last) (hr:RiseC l):(fun s=>tell (appF F l (last+1)) s (last+1))=seeB (fun s=>tell F s last) l:=by
 funext s
 unfold seeB
 rw [tell_eq,appF_key _ _ _ _ hr]
 cases hf:findO l s with
 | none=>exact tellL_ge (h s).1 (h s).2 (by omega) (Int.le_refl _)
 | some c =>
  simp only
  have hn:∀ u ∈ F s,u.n < (⟨last+1,c.val,c.gone⟩:Ver).n:=fun u hu=>by have:=(h s).2 u hu;show u.n < last+1;omega
  rw [addV_new hn]
  exact tellL_new (h s).1 hn
theorem tell_app_old (h:GoodR F last) (hr:RiseC l) {n:Int} (hn:n≤last) (s:List UInt8):tell (appF F l (last+1)) s n=tell F s n:=by
 rw [tell_eq,tell_eq,appF_key _ _ _ _ hr]
 cases hf:findO l s with
 | none=>rfl
 | some c =>
  simp only
  have hn2:∀ u ∈ F s,u.n < (⟨last+1,c.val,c.gone⟩:Ver).n:=fun u hu=>by have:=(h s).2 u hu;show u.n < last+1;omega
  rw [addV_new hn2]
  exact tell_snoc _ _ (by show n < last+1;omega)
theorem lastB_no {l:List Ver} (h:Rising l) {n:Int} (hb:lastB l n=false):∀ v ∈ l,v.n≤n:=by
 intro v hv
 rcases List.eq_nil_or_concat l with rfl | ⟨l',u,rfl⟩
 ·cases hv
 ·unfold lastB at hb
  simp at hb
  unfold Rising at h
  simp at h hv
  rw [List.pairwise_append] at h
  rcases hv with hv | rfl
  ·have:=h.2.2 v hv u (by simp)
   omega
  ·exact hb
theorem tell_no (h:GoodR F last) {s:List UInt8} {n b:Int} (hb:lastB (F s) n=false) (hn:n≤b):tell F s n=tell F s b:=by
 rw [tell_eq,tell_eq]
 exact tellL_ge (h s).1 (lastB_no (h s).1 hb) (Int.le_refl _) hn
theorem agree_of (h:GoodR F last) {t:Tr} (hc:¬ Clash F t) {b:Int} (hb:t.sees≤b):AgreeB (fun s=>tell F s t.sees) (fun s=>tell F s b) t.st:=by
 have nb:∀ {x:Bool},¬ x=true→x=false:=fun {x} q=>by cases x with | true=>exact absurd rfl q | false=>rfl
 refine ⟨fun s hs=>tell_no h (nb fun q=>hc (.inl ⟨s,hs,q⟩)) hb,fun p hp s hs=>tell_no h (nb fun q=>hc (.inr (.inr ⟨p,hp,s,hs,q⟩))) hb⟩
end
def TrO (F:List UInt8→List Ver) (t:Tr):Prop:=∀ β:Base,AgreeB (fun s=>tell F s t.sees) β t.st→OrdV β→KeepO β t.own
theorem TrO.congr {F F':List UInt8→List Ver} {t:Tr} (h:TrO F t) (e:∀ s,tell F' s t.sees=tell F s t.sees):TrO F' t:=fun β ha ho=>h β ⟨fun s hs=>by rw [← ha.1 s hs];exact (e s).symm,fun p hp s hs=>by rw [← ha.2 p hp s hs];exact (e s).symm⟩ ho
theorem TrO.do {g:Dk} {t:Tr} (h:TrO g.F t) (c:PCall):TrO g.F (t.put ((doP c).runS (baseOf g t) t.st).2):=by
 intro β ha ho
 have hl:=DP.runS_le (baseOf g t) (doP c) t.st
 have ha':AgreeB (baseOf g t) β ((doP c).runS (baseOf g t) t.st).2:=ha
 have e:=DP.runS_agree (doP c) t.st ha'
 have hk:KeepO β t.st.own:=h β (ha'.le hl) ho
 have:=ord_step (β:=β) (t:=t.st) c hk
 unfold Wp QO at this
 rw [e] at this
 exact this
theorem DP.run_none {α:Type} (id:Int):∀ (p:DP α) (g:Dk),findT g.op id=none→(p.run id g).2=g
 | .ret a,g,h=>rfl
 | .get s k,g,h=>by
  have e:(g.get id s).2.2=g:=by unfold Dk.get;rw [h]
  show ((k _).run id (g.get id s).2.2).2=g
  rw [e]
  exact DP.run_none id _ g h
 | .range lo hi k,g,h=>by
  have e:(g.range id lo hi).2=g:=by unfold Dk.range;rw [h]
  show ((k _).run id (g.range id lo hi).2).2=g
  rw [e]
  exact DP.run_none id _ g h
 | .chg c k,g,h=>by
  have e:(g.change id c).2=g:=by unfold Dk.change;rw [h]
  show ((k _).run id (g.change id c).2).2=g
  rw [e]
  exact DP.run_none id _ g h
theorem doC_none {g:Dk} {id:Int} (h:findT g.op id=none) (c:PCall):(g.doC id c).2.2=g:=by
 rw [← doC_run]
 exact DP.run_none id (doP c) g h
theorem mem_set {l:List Tr} {t u:Tr} (h:u ∈ setT l t):u=t∨u ∈ l:=by
 obtain ⟨x,hx,e⟩:=List.mem_map.1 h
 split at e
 ·exact .inl e.symm
 ·exact .inr (by rw [← e];exact hx)
theorem mem_erase {l:List Tr} {id:Int} {u:Tr} (h:u ∈ eraseT l id):u ∈ l:=(List.mem_filter.1 h).1
def atN (all:List (List Chg)) (j:Nat):Base:=fun s=>tell (replay noF 0 (all.take j)) s j
structure HOrd (g:Dk):Prop where
 F:g.F=replay noF 0 g.all
 good:GoodR g.F g.last
 pre:∀ j,j≤g.all.length→OrdV (atN g.all j)
 nod:(g.op.map Tr.id).Nodup
 bnd:∀ t ∈ g.op,t.id≤g.ids∧t.sees≤g.last
 tr:∀ t ∈ g.op,TrO g.F t
theorem tell_nought' {s:List UInt8}:tell noF s 0=none:=tell_nil rfl
theorem HOrd.new (room:Int):HOrd (Dk.new room):=by
 refine ⟨rfl,GoodR.nil _,fun j hj=>?_,List.Pairwise.nil,fun t ht=>(by cases ht),fun t ht=>(by cases ht)⟩
 have:j=0:=Nat.le_zero.1 hj
 subst this
 have:atN (Dk.new room).all 0=fun _=>none:=by
  funext s
  exact tell_nought'
 rw [this]
 exact OrdV.nil
section
variable {g : Dk} {id : Int}
theorem HOrd.now (h:HOrd g):OrdV (fun s=>tell g.F s g.last):=by
 have:=h.pre g.all.length (Nat.le_refl _)
 unfold atN at this
 rw [List.take_length,← h.F] at this
 exact this
theorem HOrd.begin (h:HOrd g):HOrd g.begin.2.2:=by
 unfold Dk.begin
 split
 ·exact h
 ·split
  ·exact h
  ·refine ⟨h.F,h.good,h.pre,?_,fun t ht=>?_,fun t ht=>?_⟩
   ·show ((g.op++[_]).map Tr.id).Nodup
    rw [List.map_append,List.nodup_append]
    refine ⟨h.nod,by simp,?_⟩
    intro a ha b hb e
    simp at hb
    subst hb
    subst e
    obtain ⟨t,ht,e⟩:=List.mem_map.1 ha
    have:=(h.bnd t ht).1
    omega
   ·rcases List.mem_append.1 ht with ht | ht
    ·have:=h.bnd t ht
     exact ⟨by show t.id≤g.ids+1;omega,this.2⟩
    ·simp at ht
     subst ht
     exact ⟨Int.le_refl _,Int.le_refl _⟩
   ·rcases List.mem_append.1 ht with ht | ht
    ·exact h.tr t ht
    ·simp at ht
     subst ht
     intro β ha ho
     exact ⟨by rw [seeB_nil];exact ho,List.Pairwise.nil⟩
theorem HOrd.do (h:HOrd g) (id:Int) (c:PCall):HOrd (g.doC id c).2.2:=by
 cases ht:findT g.op id with
 | none=>rw [doC_none ht];exact h
 | some t =>
  rw [doC_st h.nod ht c]
  have hm:=(findT_mem ht).1
  refine ⟨h.F,h.good,h.pre,by show ((setT g.op _).map Tr.id).Nodup;rw [setT_ids];exact h.nod,fun u hu=>?_,fun u hu=>?_⟩
  ·rcases mem_set hu with rfl | hu
   ·exact h.bnd t hm
   ·exact h.bnd u hu
  ·rcases mem_set hu with rfl | hu
   ·exact (h.tr t hm).do c
   ·exact h.tr u hu
theorem HOrd.erase (h:HOrd g) (id:Int) (lg:Lg) (ns:Nat):HOrd { g with op:=eraseT g.op id,lg:=lg,ns:=ns } :=
 ⟨h.F,h.good,h.pre,h.nod.sublist (List.filter_sublist.map _),fun u hu=>h.bnd u (mem_erase hu),fun u hu=>h.tr u (mem_erase hu)⟩
theorem HOrd.abort (h:HOrd g) (id:Int):HOrd (g.abort id).2:=by
 unfold Dk.abort
 cases ht:findT g.op id with
 | none=>exact h
 | some t=>exact h.erase id g.lg g.ns
theorem atN_old (all:List (List Chg)) (l:List Chg) {j:Nat} (hj:j≤all.length):atN (all++[l]) j=atN all j:=by
 unfold atN
 rw [List.take_append_of_le_length hj]
theorem HOrd.put (h:HOrd g) {t:Tr} (hm:t ∈ g.op) (hc:¬ Clash g.F t) (id:Int) (lg:Lg) (e:Int):HOrd (Dk.put { g with lg:=lg,op:=eraseT g.op id } t.own e):=by
 have hag:=agree_of h.good hc (h.bnd t hm).2
 obtain ⟨k1,k2⟩:=h.tr t hm _ hag h.now
 have hlast:(Dk.put { g with lg:=lg,op:=eraseT g.op id } t.own e).last=g.last+1:=by unfold Dk.last Dk.put;simp
 have hF:(Dk.put { g with lg:=lg,op:=eraseT g.op id } t.own e).F=appF g.F t.own (g.last+1):=rfl
 have hFr:appF g.F t.own (g.last+1)=replay noF 0 (g.all++[t.own]):=by
  rw [replay_snoc,← h.F]
  unfold Dk.last
  simp
 refine ⟨hFr,by rw [hlast,hF];exact h.good.app k2,fun j hj=>?_,h.nod.sublist (List.filter_sublist.map _),fun u hu=>?_,fun u hu=>?_⟩
 ·have hj':j≤g.all.length+1:=by
   have:(Dk.put { g with lg:=lg,op:=eraseT g.op id } t.own e).all.length=g.all.length+1:=by unfold Dk.put;simp
   omega
  show OrdV (atN (g.all++[t.own]) j)
  rcases Nat.lt_or_ge g.all.length j with q | q
  ·have:j=g.all.length+1:=by omega
   subst this
   have e2:atN (g.all++[t.own]) (g.all.length+1)=fun s=>tell (appF g.F t.own (g.last+1)) s (g.last+1):=by
    unfold atN
    rw [List.take_of_length_le (by simp),← hFr]
    unfold Dk.last
    simp
   rw [e2,tell_app h.good k2]
   exact k1
  ·rw [atN_old _ _ q]
   exact h.pre j q
 ·have:=h.bnd u (mem_erase hu)
  exact ⟨this.1,by rw [hlast];omega⟩
 ·have hu':=mem_erase hu
  rw [hF]
  exact (h.tr u hu').congr (fun s=>tell_app_old h.good k2 (h.bnd u hu').2 s)
theorem HOrd.commit (h:HOrd g) (id:Int):HOrd (g.commit id).2.2:=by
 unfold Dk.commit
 cases ht:findT g.op id with
 | none=>exact h
 | some t =>
  simp only
  split
  ·exact h.erase id g.lg g.ns
  ·rename_i hc
   split
   ·exact h.erase id g.lg g.ns
   ·split
    ·exact h.put (findT_mem ht).1 hc id _ _
    ·exact h.erase id _ g.ns
end
theorem GoodR.noLater {F:List UInt8→List Ver} {n:Int} (h:GoodR F n):NoLater F n:=fun s v hv=>(h s).2 v hv
def tk (t:St) (s:List UInt8):St:={ t with asked:=t.asked+1,keys:=t.keys++[s] }
def tsp (t:St) (lo hi:List UInt8):St:={ t with asked:=t.asked+1,spans:=t.spans++[(lo,hi)] }
def tch (t:St) (c:Chg):St:={ t with own:=insC c t.own }
section
variable {β : Base} {t : St} {s : List UInt8} {c : PCall}
theorem get_1 (hk:keyB s=true) (ht:t.asked≠100) {v:List UInt8} (h:seeB β t.own s=some v):t.get β s=((v,0),tk t s):=by
 unfold St.get tk getB
 rw [if_neg (by rw [hk];simp),if_neg ht,h]
theorem get_0 (hk:keyB s=true) (ht:t.asked≠100) (h:seeB β t.own s=none):t.get β s=(([],4),tk t s):=by
 unfold St.get tk getB
 rw [if_neg (by rw [hk];simp),if_neg ht,h]
theorem has_eq (s:List UInt8):(hasP s).runS β t=((decide ((t.get β s).1.2=0),if (t.get β s).1.2=4 then 0 else (t.get β s).1.2),(t.get β s).2):=rfl
theorem hasS1 (hk:keyB s=true) (ht:t.asked≠100) {v:List UInt8} (h:seeB β t.own s=some v):(hasP s).runS β t=((true,0),tk t s):=by rw [has_eq,get_1 hk ht h];rfl
theorem hasS0 (hk:keyB s=true) (ht:t.asked≠100) (h:seeB β t.own s=none):(hasP s).runS β t=((false,0),tk t s):=by rw [has_eq,get_0 hk ht h];rfl
theorem range_1 (ht:t.asked≠100) (lo hi:List UInt8):t.range β lo hi=((0,rangeB (seeB β t.own) lo hi),tsp t lo hi):=by
 unfold St.range tsp
 rw [if_neg ht]
theorem pfxs_eq (net:List UInt8):(pfxsP net).runS β t=((faultL (t.range β (loK 112 net) (hiK 112 net)).1.1 (readAll pfxO (t.range β (loK 112 net) (hiK 112 net)).1.2),listL (t.range β (loK 112 net) (hiK 112 net)).1.1 (readAll pfxO (t.range β (loK 112 net) (hiK 112 net)).1.2)),(t.range β (loK 112 net) (hiK 112 net)).2):=rfl
theorem ads_eq (net:List UInt8):(adsP net).runS β t=((faultL (t.range β (loK 97 net) (hiK 97 net)).1.1 (readAll adO (t.range β (loK 97 net) (hiK 97 net)).1.2),listL (t.range β (loK 97 net) (hiK 97 net)).1.1 (readAll adO (t.range β (loK 97 net) (hiK 97 net)).1.2)),(t.range β (loK 97 net) (hiK 97 net)).2):=rfl
theorem pfxS1 {net:List UInt8} (ht:t.asked≠100) {L:List Pf} (h:readAll pfxO (rangeB (seeB β t.own) (loK 112 net) (hiK 112 net))=some L):(pfxsP net).runS β t=((0,L),tsp t (loK 112 net) (hiK 112 net)):=by
 rw [pfxs_eq,range_1 ht]
 simp only
 rw [h]
 rfl
theorem adS1 {net:List UInt8} (ht:t.asked≠100) {L:List Int} (h:readAll adO (rangeB (seeB β t.own) (loK 97 net) (hiK 97 net))=some L):(adsP net).runS β t=((0,L),tsp t (loK 97 net) (hiK 97 net)):=by
 rw [ads_eq,range_1 ht]
 simp only
 rw [h]
 rfl
theorem chgS1 {x:Chg} {a:PAns} (hk:keyB x.key=true) (hv:x.val.length≤12) (hn:t.own.length < 20):(chgP x a).runS β t=((a,0),tch t x):=by
 have e:(chgP x a).runS β t=((if (t.change x).1=0 then a else noAns,(t.change x).1),(t.change x).2):=rfl
 have e2:t.change x=(0,tch t x):=by
  unfold St.change tch
  rw [if_neg (by rw [hk];simp;omega),if_neg (by rintro ⟨_,q⟩;omega)]
 rw [e,e2]
 rfl
theorem pk_ok {net:List UInt8} (hn:nameB net=true) {p:Pf} (hp:chk p.1 p.2=0):keyB (pkOf net p)=true:=by
 have h1:=(nameB_iff.1 hn).2
 obtain ⟨q1,q2,q3,q4,_⟩:=chk_zero.1 hp
 have e1:=dec_one (n:=p.2.toNat / 10) (by omega)
 have e2:=dec_one (n:=p.2.toNat % 10) (by omega)
 unfold keyB pkOf pKey
 rw [e1,e2]
 simp [hexL_length]
 omega
theorem ak_ok {net:List UInt8} (hn:nameB net=true) {a:Int}:keyB (akOf net a)=true:=by
 have h1:=(nameB_iff.1 hn).2
 unfold keyB akOf aKey
 simp [hexL_length]
 omega
theorem doS_in (hf:callFault c=0) (hw:c.what≠1) (ht:t.asked≠100) {v:List UInt8} (h:seeB β t.own c.nk=some v):(doP c).runS β t=(do2P c).runS β (tk t c.nk):=by
 have hn:=(callFault_zero hf).2.1
 unfold doP
 rw [if_neg (by rw [hf];simp),DP.runS_bind,hasS1 (s:=c.nk) (nKey_ok hn) ht h]
 simp only
 rw [if_neg (by simp),if_neg hw,if_neg (by simp)]
end
def hs (g:Dk) (t:Tr):Hl:=⟨{ g with op:=[t] },[(zz,t.id)]⟩
def baD (g:Dk):Base:=fun s=>tell g.F s g.last
section
variable {V V' : Base} {g : Dk} {t : Tr} {i no : Nat} {na : Int}
end
section
variable {V : Base} {p : Pf} {g : Dk} {t : Tr} {i no : Nat} {na : Int}
end
def dkNext (g:Dk) (x:Chg) (lg:Lg):Dk:=Dk.put { g with ids:=g.ids+1,op:=[],lg:=lg } [x] (lg.B.length:Int)
theorem once_own {h:Hl} (hop:h.op=[]) (hg:h.d.op=[]) (hd:h.d.lg.down=false) (hF:NoLater h.d.F h.d.last) (c:PCall) {r:(PAns × Int) × St} {x:Chg} {lg:Lg} (hr:aloneRun h.d c=r) (hf:r.1.2=0) (hown:r.2.own=[x]) (ha:h.d.lg.append [x]=(0,lg)) :
  h.once c=(r.1.1,h.d.last+1,0,⟨dkNext h.d x lg,[]⟩):=by
 have hb:h.d.begin=(h.d.ids+1,0,{ h.d with ids:=h.d.ids+1,op:=[tr0 (h.d.ids+1) h.d.last] }):=by
  rw [begin_of (by rw [hg];simp) hd,hg]
  rfl
 have hft:findT [tr0 (h.d.ids+1) h.d.last] (h.d.ids+1)=some (tr0 (h.d.ids+1) h.d.last):=by rw [findT_cons,if_pos (show (tr0 (h.d.ids+1) h.d.last).id=h.d.ids+1 from rfl)]
 have hdo:=doC_st (g:={ h.d with ids:=h.d.ids+1,op:=[tr0 (h.d.ids+1) h.d.last] }) (t:=tr0 (h.d.ids+1) h.d.last) (by simp) hft c
 have hrun:(doP c).runS (baseOf { h.d with ids:=h.d.ids+1,op:=[tr0 (h.d.ids+1) h.d.last] } (tr0 (h.d.ids+1) h.d.last)) (tr0 (h.d.ids+1) h.d.last).st=r:=hr
 rw [hrun] at hdo
 have hset:(Dk.set { h.d with ids:=h.d.ids+1,op:=[tr0 (h.d.ids+1) h.d.last] } ((tr0 (h.d.ids+1) h.d.last).put r.2))={ h.d with ids:=h.d.ids+1,op:=[(tr0 (h.d.ids+1) h.d.last).put r.2] }:=by
  unfold Dk.set
  simp [setT_cons,setT_nil,Tr.put,tr0]
 rw [hset] at hdo
 have hft2:findT [(tr0 (h.d.ids+1) h.d.last).put r.2] (h.d.ids+1)=some ((tr0 (h.d.ids+1) h.d.last).put r.2):=by rw [findT_cons,if_pos (show ((tr0 (h.d.ids+1) h.d.last).put r.2).id=h.d.ids+1 from rfl)]
 have hea:eraseT [(tr0 (h.d.ids+1) h.d.last).put r.2] (h.d.ids+1)=[]:=by rw [eraseT_cons,if_pos (show ((tr0 (h.d.ids+1) h.d.last).put r.2).id=h.d.ids+1 from rfl),eraseT_nil]
 have hcm:Dk.commit { h.d with ids:=h.d.ids+1,op:=[(tr0 (h.d.ids+1) h.d.last).put r.2] } (h.d.ids+1)=(h.d.last+1,0,dkNext h.d x lg):=by
  unfold Dk.commit
  simp only [hft2]
  have ho:((tr0 (h.d.ids+1) h.d.last).put r.2).own=[x]:=hown
  rw [if_neg (NoLater.clash (t:=(tr0 (h.d.ids+1) h.d.last).put r.2) hF),if_neg (by rw [ho];simp),ho,ha,if_pos rfl,hea]
  rfl
 have ho:h.once c=((onceD { h.d with ids:=h.d.ids+1,op:=[tr0 (h.d.ids+1) h.d.last] } (h.d.ids+1) c).1,(onceD { h.d with ids:=h.d.ids+1,op:=[tr0 (h.d.ids+1) h.d.last] } (h.d.ids+1) c).2.1,(onceD { h.d with ids:=h.d.ids+1,op:=[tr0 (h.d.ids+1) h.d.last] } (h.d.ids+1) c).2.2.1,⟨(onceD { h.d with ids:=h.d.ids+1,op:=[tr0 (h.d.ids+1) h.d.last] } (h.d.ids+1) c).2.2.2,[]⟩):=by
  unfold Hl.once
  rw [hb,hop]
  simp
 unfold onceD at ho
 rw [hdo] at ho
 simp only at ho
 rw [ho,if_neg (by rw [hf];simp),hcm]
 simp only
 rw [if_neg (by simp)]
theorem dkNext_last (g:Dk) (x:Chg) (lg:Lg):(dkNext g x lg).last=g.last+1:=by
 unfold dkNext Dk.put Dk.last
 simp
theorem dkNext_good {g:Dk} (h:GoodR g.F g.last) (x:Chg) (lg:Lg):GoodR (dkNext g x lg).F (dkNext g x lg).last:=by
 rw [dkNext_last]
 exact h.app (List.pairwise_singleton _ _)
theorem dkNext_base {g:Dk} (h:GoodR g.F g.last) (x:Chg) (lg:Lg):baD (dkNext g x lg)=seeB (baD g) [x]:=by
 have:=tell_app h (l:=[x]) (List.pairwise_singleton _ _)
 unfold baD
 rw [dkNext_last]
 exact this
theorem see_put (β:Base) (s v x:List UInt8):seeB β [⟨s,v,false⟩] x=if x=s then some v else β x:=by
 unfold seeB
 rw [findO_cons]
 by_cases e:x=s
 ·rw [if_pos e.symm,if_pos e]
  rfl
 ·rw [if_neg (fun q=>e q.symm),if_neg e]
  rfl
section
variable {β : Base} {t : St} {c : PCall}
theorem addS (hw:c.what=2) (hf:callFault c=0) (ht:t.asked≤90) (hn:t.own.length≤10) {v:List UInt8} (hnk:seeB β t.own c.nk=some v) (hpk:seeB β t.own c.pk=none) :
  (doP c).runS β t=((noAns,0),tch (tk (tk t c.nk) c.pk) ⟨c.pk,c.owner,false⟩):=by
 obtain ⟨_,f1,f2,f3,_⟩:=callFault_zero hf
 have f2:=f2 (by unfold callOwned;simp [hw])
 have f3:=f3 (by unfold callPf;simp [hw])
 have f4:=(nameB_iff.1 f2).2.2
 have e:=doS_in (β:=β) hf (by omega) (by omega) hnk
 unfold do2P at e
 rw [if_pos hw] at e
 unfold addP at e
 rw [DP.runS_bind,hasS0 (s:=c.pk) (t:=tk t c.nk) (pk_ok f1 (p:=c.pf) f3) (by show t.asked+1≠100;omega) hpk] at e
 simp only at e
 rw [if_neg (by simp),if_neg (by simp),chgS1 (pk_ok f1 (p:=c.pf) f3) (by show c.owner.length≤12;omega) (by show t.own.length < 20;omega)] at e
 exact e
theorem nextAS (hw:c.what=7) (hf:callFault c=0) (ht:t.asked≤90) (hn:t.own.length≤10) {v:List UInt8} (hnk:seeB β t.own c.nk=some v) {L:List Pf} {M:List Int} {a:Int}
  (hL:readAll pfxO (rangeB (seeB β t.own) (loK 112 c.name) (hiK 112 c.name))=some L) (hin:c.pf ∈ L) (hM:readAll adO (rangeB (seeB β t.own) (loK 97 c.name) (hiK 97 c.name))=some M) (hr:nextR c.pf (M.filter fun a=>inA a c.pf)=(0,a)) :
  (doP c).runS β t=((⟨0,0,a,[],[]⟩,0),tch (tsp (tsp (tk t c.nk) (loK 112 c.name) (hiK 112 c.name)) (loK 97 c.name) (hiK 97 c.name)) ⟨akOf c.name a,c.owner,false⟩):=by
 obtain ⟨_,f1,f2,f3,_⟩:=callFault_zero hf
 have f2:=f2 (by unfold callOwned;simp [hw])
 have f4:=(nameB_iff.1 f2).2.2
 have e:=doS_in (β:=β) hf (by omega) (by omega) hnk
 unfold do2P at e
 rw [if_neg (by omega),if_neg (by omega),if_neg (by omega),if_neg (by omega),if_neg (by omega),if_pos hw] at e
 unfold nextAP at e
 rw [DP.runS_bind,pfxS1 (t:=tk t c.nk) (by show t.asked+1≠100;omega) (L:=L) hL] at e
 simp only at e
 rw [if_neg (by simp),if_neg (fun q=>q hin),DP.runS_bind,adS1 (t:=tsp (tk t c.nk) (loK 112 c.name) (hiK 112 c.name)) (by show t.asked+1+1≠100;omega) (L:=M) hM] at e
 simp only at e
 rw [if_neg (by simp),hr] at e
 simp only at e
 rw [if_neg (by simp),chgS1 (ak_ok f1) (by show c.owner.length≤12;omega) (by show t.own.length < 20;omega)] at e
 exact e
end
def oNet:PCall:=netC [120] [111]
def oAdd:PCall:=⟨2,[120],256,24,0,0,[111]⟩
def oNxt:PCall:=⟨7,[120],256,24,0,0,[111]⟩
def ox1:Chg:=⟨nKey [120],[111],false⟩
def ox2:Chg:=⟨pkOf [120] (256,24),[111],false⟩
def ox3:Chg:=⟨akOf [120] 257,[111],false⟩
def olg1:Lg:=⟨-1,false,1000,frame [ox1],0⟩
def olg2:Lg:=⟨-1,false,1000,frame [ox1]++frame [ox2],0⟩
def olg3:Lg:=⟨-1,false,1000,frame [ox1]++frame [ox2]++frame [ox3],0⟩
def od1:Dk:=dkNext (Dk.new 1000) ox1 olg1
def od2:Dk:=dkNext od1 ox2 olg2
def od3:Dk:=dkNext od2 ox3 olg3
theorem pk_lit:pkOf [120] (256,24)=[112,47,120,47,48,48,48,48,48,49,48,48,50,52]:=by
 have e1:=dec_one (n:=2) (by decide)
 have e2:=dec_one (n:=4) (by decide)
 show [112,47]++[120]++[47]++hexL 8 256++Go.Lib.decDigits 2++Go.Lib.decDigits 4=_
 rw [e1,e2]
 decide
theorem ox2_lit:ox2=⟨[112,47,120,47,48,48,48,48,48,49,48,48,50,52],[111],false⟩:=by unfold ox2;rw [pk_lit]
theorem og0:GoodR (Dk.new 1000).F (Dk.new 1000).last:=GoodR.nil _
theorem og1:GoodR od1.F od1.last:=dkNext_good og0 _ _
theorem og2:GoodR od2.F od2.last:=dkNext_good og1 _ _
theorem ob0 (s:List UInt8):baD (Dk.new 1000) s=none:=tell_nought'
theorem ob1 (s:List UInt8):baD od1 s=if s=nKey [120] then some [111] else none:=by
 unfold od1
 rw [dkNext_base og0,ox1,see_put,ob0]
theorem ob2 (s:List UInt8):baD od2 s=if s=pkOf [120] (256,24) then some [111] else if s=nKey [120] then some [111] else none:=by
 unfold od2
 rw [dkNext_base og1,ox2,see_put,ob1]
theorem oapp1:(Dk.new 1000).lg.append [ox1]=(0,olg1):=by
 have hf:chgFault [ox1]=0:=by decide
 have hl:(encL [ox1]).length≤40:=by decide
 unfold Lg.append
 rw [if_neg (by rw [hf];simp),if_neg (by show ¬ (1000:Int) < (([]:List UInt8).length:Int)+2+((encL [ox1]).length:Int);simp;omega),if_neg (by decide),if_neg (by decide)]
 rfl
theorem oapp2:olg1.append [ox2]=(0,olg2):=by
 have hf:chgFault [ox2]=0:=by rw [ox2_lit];decide
 have hl:(encL [ox2]).length≤60:=by rw [ox2_lit];decide
 have hl1:(frame [ox1]).length≤60:=by decide
 unfold Lg.append
 rw [if_neg (by rw [hf];simp),if_neg (by show ¬ (1000:Int) < ((frame [ox1]).length:Int)+2+((encL [ox2]).length:Int);omega),if_neg (by decide),if_neg (by decide)]
 rfl
theorem oapp3:olg2.append [ox3]=(0,olg3):=by
 have hf:chgFault [ox3]=0:=by decide
 have hl:(encL [ox3]).length≤60:=by decide
 have hl1:(frame [ox1]++frame [ox2]).length≤120:=by rw [ox2_lit];decide
 unfold Lg.append
 rw [if_neg (by rw [hf];simp),if_neg (by show ¬ (1000:Int) < ((frame [ox1]++frame [ox2]).length:Int)+2+((encL [ox3]).length:Int);omega),if_neg (by decide),if_neg (by decide)]
 rfl
theorem one1:(Hl.new 1000).once oNet=(noAns,1,0,⟨od1,[]⟩):=by
 have hr:aloneRun (Hl.new 1000).d oNet=_:=net_run (nm:=[120]) (ow:=[111]) (by decide) (by decide) (β:=baD (Dk.new 1000)) (t:=st0) (by decide) (by decide) (by show seeB _ [] _=_;rw [seeB_nil];exact ob0 _) rfl
 exact once_own rfl rfl rfl og0.noLater oNet hr rfl rfl oapp1
theorem one2:(⟨od1,[]⟩:Hl).once oAdd=(noAns,2,0,⟨od2,[]⟩):=by
 have hr:aloneRun (⟨od1,[]⟩:Hl).d oAdd=_:=addS (c:=oAdd) (β:=baD od1) (t:=st0) rfl (by decide) (by decide) (by decide) (v:=[111]) (by show seeB _ [] _=_;rw [seeB_nil];exact (ob1 _).trans (if_pos rfl)) (by show seeB _ [] _=_;rw [seeB_nil];exact (ob1 _).trans (if_neg (by decide)))
 exact once_own rfl rfl rfl og1.noLater oAdd hr rfl rfl oapp2
theorem range_of {V:Base} {lo hi s v:List UInt8} (h1:inB lo hi s=true) (h2:V s=some v) (h3:∀ x,inB lo hi x=true→V x≠none→x=s):rangeB V lo hi=[(s,v)]:=by
 refine rangeB_eq ⟨List.pairwise_singleton _ _,fun x u=>?_⟩
 constructor
 ·intro q
  rw [List.mem_singleton] at q
  injection q with q1 q2
  subst q1
  subst q2
  exact ⟨h1,h2⟩
 ·rintro ⟨q1,q2⟩
  have:=h3 x q1 (by rw [q2];simp)
  subst this
  rw [h2] at q2
  injection q2 with q2
  rw [q2]
  exact List.mem_singleton.2 rfl
theorem range_none {V:Base} {lo hi:List UInt8} (h3:∀ x,inB lo hi x=true→V x=none):rangeB V lo hi=[]:=by
 refine rangeB_eq ⟨List.Pairwise.nil,fun x u=>?_⟩
 constructor
 ·intro q;cases q
 ·rintro ⟨q1,q2⟩
  rw [h3 x q1] at q2
  cases q2
theorem ob2_of {s:List UInt8} (h:baD od2 s≠none):s=pkOf [120] (256,24)∨s=nKey [120]:=by
 rw [ob2] at h
 by_cases e:s=pkOf [120] (256,24)
 ·exact .inl e
 ·rw [if_neg e] at h
  by_cases e2:s=nKey [120]
  ·exact .inr e2
  ·rw [if_neg e2] at h;exact absurd rfl h
theorem opf:readAll pfxO [(pkOf [120] (256,24),[111])]=some [(256,24)]:=by
 have:=keyI_pk (net:=[120]) (by decide) (p:=(256,24)) (by decide)
 unfold readAll readAll pfxO
 simp only [this]
 rfl
theorem one3:(⟨od2,[]⟩:Hl).once oNxt=(⟨0,0,257,[],[]⟩,3,0,⟨od3,[]⟩):=by
 have hp:rangeB (baD od2) (loK 112 [120]) (hiK 112 [120])=[(pkOf [120] (256,24),[111])] :=
  range_of (by decide) ((ob2 _).trans (if_pos rfl)) (fun x h1 h2=>(ob2_of h2).resolve_right (fun e=>by rw [e] at h1;exact absurd h1 (by decide)))
 have ha:rangeB (baD od2) (loK 97 [120]) (hiK 97 [120])=[] :=
  range_none (fun x h1=>by
   cases h:baD od2 x with
   | none=>rfl
   | some v =>
    exfalso
    rcases ob2_of (s:=x) (by rw [h];simp) with e | e <;> (rw [e] at h1;exact absurd h1 (by decide)))
 have hr:aloneRun (⟨od2,[]⟩:Hl).d oNxt=_:=nextAS (c:=oNxt) (β:=baD od2) (t:=st0) rfl (by decide) (by decide) (by decide) (v:=[111]) (L:=[(256,24)]) (M:=[]) (a:=257) (by show seeB _ [] _=_;rw [seeB_nil];exact (ob2 _).trans ((if_neg (by decide)).trans (if_pos rfl))) (by show readAll pfxO (rangeB (seeB _ []) _ _)=_;rw [seeB_nil];exact (congrArg (readAll pfxO) hp).trans opf) (List.mem_singleton.2 rfl) (by show readAll adO (rangeB (seeB _ []) _ _)=_;rw [seeB_nil];exact (congrArg (readAll adO) ha).trans rfl) (by decide)
 exact once_own rfl rfl rfl og2.noLater oNxt hr rfl rfl oapp3
theorem bestGoO_snoc (a:Int) (x:KV) (p:Pf) (hx:pfxO x=some p):∀ (l:List KV) (b:Int × List UInt8),bestGoO a b (l++[x])=if inA a p=true∧(bestGoO a b l).1 < p.2 then (p.2,x.2) else bestGoO a b l
 | [],b=>by
  show bestGoO a b [x]=_
  unfold bestGoO
  rw [hx]
  simp only
  show (if inA a p=true∧b.1 < p.2 then bestGoO a (p.2,x.2) [] else bestGoO a b [])=if inA a p=true∧b.1 < p.2 then (p.2,x.2) else b
  rfl
 | y::l,b=>by
  rw [List.cons_append]
  show (match pfxO y with
   | some p=>if inA a p=true∧b.1 < p.2 then bestGoO a (p.2,y.2) (l++[x]) else bestGoO a b (l++[x])
   | none=>bestGoO a b (l++[x]))=if inA a p=true∧(match pfxO y with
   | some p=>if inA a p=true∧b.1 < p.2 then bestGoO a (p.2,y.2) l else bestGoO a b l
   | none=>bestGoO a b l).1 < p.2 then (p.2,x.2) else (match pfxO y with
   | some p=>if inA a p=true∧b.1 < p.2 then bestGoO a (p.2,y.2) l else bestGoO a b l
   | none=>bestGoO a b l)
  cases pfxO y with
  | none=>exact bestGoO_snoc a x p hx l b
  | some q =>
   simp only
   split
   ·exact bestGoO_snoc a x p hx l _
   ·exact bestGoO_snoc a x p hx l _
theorem getNo_any {g:Dk} {id:Int} {s:List UInt8} (h:(g.get id s).2.1=4):(g.get id s).1=[]:=by
 unfold Dk.get at h ⊢
 cases ht:findT g.op id with
 | none=>rfl
 | some t =>
  rw [ht] at h
  simp only at h ⊢
  split
  ·rfl
  ·rename_i q
   rw [if_neg q] at h
   split
   ·rfl
   ·rename_i q2
    rw [if_neg q2] at h
    simp only at h ⊢
    unfold getO at h ⊢
    split
    ·rename_i v hv;rw [hv] at h;exact absurd (show (0:Int)=4 from h) (by decide)
    ·rfl
section
variable {B : Nat} {w : World} {T : Nat → Prop} {d : Nat} {g : Dk} {id : Int} {k : Nat}
theorem DK.who (h:DK B w T d g k) (hk:k≤40000) (hid:(Lit.int .i64 id).wf=true) (c:PCall) (hc:CallOk c) (hn:nameB c.name=true) (ha:isA c.ad=true) :
  Calls Tryz.prog 77 #[workV d id c] w fun e w'=>∃ a,e=.returned (.tuple #[AnsV (.slice none 0 0) a,faultV (g.doWho id c).2.1])∧((g.doWho id c).2.1=0→a=(g.doWho id c).1)∧∃ T',DKto B w T d w' T' (g.doWho id c).2.2 k:=by
 have hD1:=h.refl.alloc (.cells #[ptrV d,intV id,.int .i64 c.what,txt c.name,.int .i64 c.pa,.int .i64 c.pn,.int .i64 c.len,.int .i64 c.ad,txt c.owner] 120)
 have hX1:=Loc.new h 120 #[ptrV d,intV id,.int .i64 c.what,txt c.name,.int .i64 c.pa,.int .i64 c.pn,.int .i64 c.len,.int .i64 c.ad,txt c.owner]
 have hD2:=hD1.alloc (.cells #[.int .i64 0,.int .i64 0,.int .i64 0,.string { data:=#[] },.slice none 0 0] 46)
 have hX2:=hX1.alloc (.cells #[.int .i64 0,.int .i64 0,.int .i64 0,.string { data:=#[] },.slice none 0 0] 46)
 have hR2:=Loc.new hD1.dk 46 #[.int .i64 0,.int .i64 0,.int .i64 0,.string { data:=#[] },.slice none 0 0]
 have e2:=hX1.blk.cell 4
 have e3:=hX1.blk.cell 5
 simp at e2 e3
 rw [World.size_alloc] at hR2
 have HN:=Hd hn
 have HC:=Hd hc
 clear hD1 hX1 hn
 have hkk:∀ W:World,Blk W w.heap.size 120 #[ptrV d,intV id,.int .i64 c.what,txt c.name,.int .i64 c.pa,.int .i64 c.pn,.int .i64 c.len,.int .i64 c.ad,txt c.owner]→Blk W (w.heap.size+1) 46 #[.int .i64 0,.int .i64 0,.int .i64 0,.string { data:=#[] },.slice none 0 0] →
   W.cell? ⟨w.heap.size,0,none⟩=some (ptrV d)∧W.cell? ⟨w.heap.size,1,none⟩=some (intV id)∧W.cell? ⟨w.heap.size,2,none⟩=some (.int .i64 c.what)∧W.cell? ⟨w.heap.size,3,none⟩=some (txt c.name)∧W.cell? ⟨w.heap.size,4,none⟩=some (.int .i64 c.pa)∧W.cell? ⟨w.heap.size,5,none⟩=some (.int .i64 c.pn)∧W.cell? ⟨w.heap.size,6,none⟩=some (.int .i64 c.len)∧W.cell? ⟨w.heap.size,7,none⟩=some (.int .i64 c.ad)∧W.cell? ⟨w.heap.size,8,none⟩=some (txt c.owner)∧W.cell? ⟨w.heap.size+1,0,none⟩=some (.int .i64 0)∧W.cell? ⟨w.heap.size+1,1,none⟩=some (.int .i64 0)∧W.cell? ⟨w.heap.size+1,2,none⟩=some (.int .i64 0)∧W.cell? ⟨w.heap.size+1,3,none⟩=some (.string { data:=#[] })∧W.cell? ⟨w.heap.size+1,4,none⟩=some (.slice none 0 0)∧W.frozen? ⟨w.heap.size+1,0,none⟩=false∧W.frozen? ⟨w.heap.size+1,1,none⟩=false∧W.frozen? ⟨w.heap.size+1,2,none⟩=false∧W.frozen? ⟨w.heap.size+1,3,none⟩=false∧W.frozen? ⟨w.heap.size+1,4,none⟩=false :=
  fun W a b=>⟨a.cell 0,a.cell 1,a.cell 2,a.cell 3,a.cell 4,a.cell 5,a.cell 6,a.cell 7,a.cell 8,b.cell 0,b.cell 1,b.cell 2,b.cell 3,b.cell 4,b.frozen 0,b.frozen 1,b.frozen 2,b.frozen 3,b.frozen 4⟩
 unfold workV
 go_enter Tryz.func77,Tryz.ntmps77
 go_upto_region 1 with fail
 refine wp_name (fun w2 HW=>?_)
 rw [← HW.out] at hD2 hX2 hR2
 clear HW e2 e3
 have HA:=Hd ha
 clear ha
 have HPK:=Hd (fun (W:World) (hB:B≤W.heap.size) hV=>ak_any c.name HN.out c.ad HA.out (B:=B) W hB hV)
 have HGT:=Hd (fun W T' (x:DK B W T' d g k)=>x.get hk hid (akOf c.name c.ad) (by have:=ak_len (c:=c) HN.out c.ad;unfold maxLen;omega))
 have HW0:=Hd (show g.doWho id c=if (g.get id (akOf c.name c.ad)).2.1=0 then (⟨0,0,0,(g.get id (akOf c.name c.ad)).1,[]⟩,0,(g.get id (akOf c.name c.ad)).2.2) else if (g.get id (akOf c.name c.ad)).2.1≠4 then (noAns,(g.get id (akOf c.name c.ad)).2.1,(g.get id (akOf c.name c.ad)).2.2) else (g.get id (akOf c.name c.ad)).2.2.doWho2 id c from rfl)
 have HG4:=Hd (fun h=>getNo_any (g:=g) (id:=id) (s:=akOf c.name c.ad) h)
 generalize g.get id (akOf c.name c.ad)=r at *
 generalize akOf c.name c.ad=key at *
 have hks:∀ W:World,Blk W w.heap.size 120 #[ptrV d,intV id,.int .i64 c.what,txt c.name,.int .i64 c.pa,.int .i64 c.pn,.int .i64 c.len,.int .i64 c.ad,txt c.owner]→W.cell? ⟨w.heap.size,0,none⟩=some (ptrV d)∧W.cell? ⟨w.heap.size,1,none⟩=some (intV id)∧W.cell? ⟨w.heap.size,2,none⟩=some (.int .i64 c.what)∧W.cell? ⟨w.heap.size,3,none⟩=some (txt c.name)∧W.cell? ⟨w.heap.size,4,none⟩=some (.int .i64 c.pa)∧W.cell? ⟨w.heap.size,5,none⟩=some (.int .i64 c.pn)∧W.cell? ⟨w.heap.size,6,none⟩=some (.int .i64 c.len)∧W.cell? ⟨w.heap.size,7,none⟩=some (.int .i64 c.ad)∧W.cell? ⟨w.heap.size,8,none⟩=some (txt c.owner):=fun W a=>⟨a.cell 0,a.cell 1,a.cell 2,a.cell 3,a.cell 4,a.cell 5,a.cell 6,a.cell 7,a.cell 8⟩
 have hXd:Blk w2.drew w.heap.size 120 #[ptrV d,intV id,.int .i64 c.what,txt c.name,.int .i64 c.pa,.int .i64 c.pn,.int .i64 c.len,.int .i64 c.ad,txt c.owner]:=hX2.blk
 go_region_held3 (fun W=>W.cell? ⟨w.heap.size,0,none⟩=some (ptrV d)∧W.cell? ⟨w.heap.size,1,none⟩=some (intV id)∧W.cell? ⟨w.heap.size,2,none⟩=some (.int .i64 c.what)∧W.cell? ⟨w.heap.size,3,none⟩=some (txt c.name)∧W.cell? ⟨w.heap.size,4,none⟩=some (.int .i64 c.pa)∧W.cell? ⟨w.heap.size,5,none⟩=some (.int .i64 c.pn)∧W.cell? ⟨w.heap.size,6,none⟩=some (.int .i64 c.len)∧W.cell? ⟨w.heap.size,7,none⟩=some (.int .i64 c.ad)∧W.cell? ⟨w.heap.size,8,none⟩=some (txt c.owner))
  (first
   | with_reducible exact hks _ hXd
   | with_reducible exact hks _ hX3.blk
   | with_reducible exact hks _ hX4.blk)
  ((first
   | (go_at_call 72;refine (HPK.out _ hD2.drew.dk.le hD2.drew.dk.gv).mono ?_;rintro e w3 ⟨rfl,hb3⟩;have hD3:=hD2.drew.bel hb3;have hX3:=hX2.bel (w2:=w3) ⟨hb3.os,hb3.tape,hb3.output,hb3.size,hb3.block⟩;have hR3:=hR2.bel (w2:=w3) ⟨hb3.os,hb3.tape,hb3.output,hb3.size,hb3.block⟩)
   | (go_at_call 66;refine (HGT.out _ _ hD3.dk).mono ?_;rintro e w4 ⟨rfl,T4,hD34⟩;have hD4:=hD3.step hD34;have hX4:=hX3.step hD34;have hR4:=hR3.step hD34)))
 clear hD2 hX2 hR2 hD3 hX3 hR3 hb3 hD34 hXd HPK HGT hks
 obtain ⟨ow,f,g1⟩:=r
 dsimp only at HW0 HG4 hD4
 by_cases h0:f=0
 ·subst h0
  have HR:=Hd (show g.doWho id c=(⟨0,0,0,ow,[]⟩,0,g1) from HW0.out)
  rw [show faultV 0=.nilIface from rfl]
  clear HW0 HG4
  obtain ⟨y0,y1,y2,y3,y4,y5,y6,y7,y8,z0,z1,z2,z3,z4,u0,u1,u2,u3,u4⟩:=hkk _ hX4.blk hR4.blk
  go_wp2
  refine bodyPost_ret (v:=.tuple #[AnsV (.slice none 0 0) ⟨0,0,0,ow,[]⟩,.nilIface]) (by simp [AnsV,noAns,results,Tryz.results77,go_sem,z0,z1,z2,z3,z4,u0,u1,u2,u3,u4]) rfl ⟨⟨0,0,0,ow,[]⟩,by rw [HR.out];exact rfl,by rw [HR.out];exact fun _=>rfl,T4,?_⟩
  rw [HR.out]
  (repeat' (first | exact hD4 | refine DKto.set ?_ ?_ ?_ _ | exact hR4.out)) <;> simp
 have hf:faultV f=.iface 71 (.int .i64 f):=fault_num h0
 rw [hf]
 have HF:=Hd hf
 clear hf
 by_cases h4:f≠4
 ·have HR:=Hd (show g.doWho id c=(noAns,f,g1) by rw [HW0.out,if_neg h0,if_pos h4])
  have hb:(f == 4)=false:=by simpa using h4
  have hI:=Hd (isNone_num f)
  rw [hb] at hI
  clear hb h4 HW0 HG4 h0
  obtain ⟨y0,y1,y2,y3,y4,y5,y6,y7,y8,z0,z1,z2,z3,z4,u0,u1,u2,u3,u4⟩:=hkk _ hX4.blk hR4.blk
  go_wp2_with fail
  refine (hI.out _).mono ?_
  rintro e w5 ⟨rfl,rfl⟩
  go_wp2
  refine bodyPost_ret (v:=.tuple #[AnsV (.slice none 0 0) noAns,.iface 71 (.int .i64 f)]) (by simp [AnsV,noAns,results,Tryz.results77,go_sem,z0,z1,z2,z3,z4,u0,u1,u2,u3,u4]) rfl ⟨noAns,by rw [HR.out];exact congrArg (fun x=>Ending.returned (.tuple #[AnsV (.slice none 0 0) noAns,x])) HF.out.symm,by rw [HR.out];exact fun _=>rfl,T4,?_⟩
  rw [HR.out]
  (repeat' (first | exact hD4 | refine DKto.set ?_ ?_ ?_ _ | exact hR4.out)) <;> simp
 obtain rfl:f=4:=Decidable.not_not.1 h4
 have HR:=Hd (show g.doWho id c=g1.doWho2 id c by rw [HW0.out,if_neg (by decide),if_neg (by simp)])
 have how:=HG4.out rfl
 subst how
 have hI:=Hd (isNone_num 4)
 have HALL:=Hd (hD4.dk.all hk hid c HC.out 112)
 clear h0 h4 HW0 HG4 HF
 obtain ⟨y0,y1,y2,y3,y4,y5,y6,y7,y8,z0,z1,z2,z3,z4,u0,u1,u2,u3,u4⟩:=hkk _ hX4.blk hR4.blk
 unfold workV at HALL
 go_wp2_with fail
 refine (hI.out _).mono ?_
 rintro e w5 ⟨rfl,rfl⟩
 go_wp2_with fail
 refine HALL.out.mono ?_
 rintro e w5 ⟨v5,rfl,hown5,⟨hLl,hkl⟩,hD45⟩
 have HKL:=Hd hkl
 have hD5:=hD4.step hD45
 have hX5:=hX4.step hD45
 have hR5:=hR4.step hD45
 clear hD4 hX4 hR4 hD45 HALL hkl y0 y1 y2 y3 y4 y5 y6 y7 y8 z0 z1 z2 z3 z4 u0 u1 u2 u3 u4
 have HV:=Hd (show g1.doWho2 id c=if faultL (g1.allF id 112 c.name).1 (readAll pfxO (g1.allL id 112 c.name))≠0 then (noAns,faultL (g1.allF id 112 c.name).1 (readAll pfxO (g1.allL id 112 c.name)),(g1.allF id 112 c.name).2)
  else if (bestGoO c.ad (-1,[]) (g1.allL id 112 c.name)).1 < 0 then (noAns,4,(g1.allF id 112 c.name).2) else (⟨0,0,0,(bestGoO c.ad (-1,[]) (g1.allL id 112 c.name)).2,[]⟩,0,(g1.allF id 112 c.name).2) from rfl)
 generalize g1.allL id 112 c.name=L at *
 generalize g1.allF id 112 c.name=r at *
 obtain ⟨rf,g2⟩:=r
 dsimp only at HV hD5
 by_cases h0:rf≠0
 ·have HR2:=Hd (show g1.doWho2 id c=(noAns,rf,g2) by rw [HV.out];unfold faultL;rw [if_pos h0,if_pos h0])
  have HF:=Hd (fault_num h0)
  rw [HF.out]
  clear h0 HV
  obtain ⟨y0,y1,y2,y3,y4,y5,y6,y7,y8,z0,z1,z2,z3,z4,u0,u1,u2,u3,u4⟩:=hkk _ hX5.blk hR5.blk
  go_wp2
  refine bodyPost_ret (v:=.tuple #[AnsV (.slice none 0 0) noAns,.iface 71 (.int .i64 rf)]) (by simp [AnsV,noAns,results,Tryz.results77,go_sem,z0,z1,z2,z3,z4,u0,u1,u2,u3,u4]) rfl ⟨noAns,by rw [HR.out,HR2.out];exact congrArg (fun x=>Ending.returned (.tuple #[AnsV (.slice none 0 0) noAns,x])) HF.out.symm,by rw [HR.out,HR2.out];exact fun _=>rfl,T4,?_⟩
  rw [HR.out,HR2.out]
  (repeat' (first | exact hD5 | refine DKto.set ?_ ?_ ?_ _ | exact hR5.out)) <;> simp
 obtain rfl:rf=0:=Decidable.not_not.1 h0
 rw [show faultV 0=.nilIface from rfl]
 clear h0
 obtain ⟨A5,c5,rfl,hrd5⟩:=hown5.rd
 clear hown5
 go_wp2
 go_loopw [4,7,49] (fun o bst i wr=>∃ (j:Nat) (b:Int × List UInt8),j≤L.length∧i=.int .i64 (j:Int)∧bst=.int .i64 b.1∧o=txt b.2∧Below w5.heap.size w5 wr∧Hid (bestGoO c.ad (-1,[]) (L.take j)=b∧∃ out,readAll pfxO (L.take j)=some out)) (fun _ _ i _=>L.length - (intOf i).toNat)
 case atStart=>exact ⟨0,(-1,[]),Nat.zero_le _,rfl,rfl,rfl,Below.refl _ _,Hd ⟨rfl,[],rfl⟩⟩
 case round =>
  obtain ⟨j,b,hj,rfl,rfl,rfl,hb,HW⟩:=hrel
  by_cases hlt:j < L.length
  ·obtain ⟨b0,of0,rfl,hbb,c0,c1⟩:=(hrd5.below hb).kv hlt
   have hkl:=HKL.out L[j] (List.getElem_mem _)
   have hbs:=hb.size
   have hDr:=hD5.bel (hb.alloc hbs (.cells #[txt L[j].1,txt L[j].2] 78))
   have HCL:=Hd (readPrefix_any L[j].1 (by omega) _ hDr.dk.le hDr.dk.gv.txt)
   have HTK:=Hd (List.take_succ_eq_append_getElem hlt)
   have hbp:=Blk.new wr 78 #[txt L[j].1,txt L[j].2]
   clear hDr
   by_cases hkind:(keyI L[j].1).kind=2
   ·have hpv:ReadPV (keyI L[j].1)=.tuple #[txt (keyI L[j].1).net,.agg #[.int .i64 ((keyI L[j].1).pa:Int),.int .i64 ((keyI L[j].1).pn:Int)],.nilIface]:=by unfold ReadPV;rw [if_pos hkind]
    have HO:=Hd (show pfxO L[j]=some (((keyI L[j].1).pa:Int),((keyI L[j].1).pn:Int)) by unfold pfxO;rw [if_pos hkind])
    have HCK:=Hd (keyI_pfx hkind)
    have HBS:=Hd (fun (p:Pf) (hp:pfxO L[j]=some p)=>bestGoO_snoc c.ad L[j] p hp (L.take j) (-1,[]))
    have HRS:=Hd (fun (out:List Pf) (p:Pf) (h1:readAll pfxO (L.take j)=some out) (h2:pfxO L[j]=some p)=>readAll_snoc pfxO (L.take j) out L[j] p h1 h2)
    rw [hpv] at HCL
    clear hpv hkind hkl
    generalize L[j]=x at *
    generalize (keyI x.1).net=kn at *
    generalize ((keyI x.1).pa:Int)=ka at *
    generalize ((keyI x.1).pn:Int)=kl at *
    go_wp2_with fail
    refine HCL.out.mono ?_
    rintro e w6 ⟨rfl,hb6⟩
    go_upto_region 14 with fail
    refine wp_name (fun w7 HW7=>?_)
    have hbk7:=Blk.new w6 31 #[.int .i64 ka,.int .i64 kl]
    have hbp7:=(hbp.below hb6 hbp.lt).alloc (.cells #[.int .i64 ka,.int .i64 kl] 31)
    have hb56:Below w5.heap.size w5 w6:=(hb.alloc hbs _).trans (hb6.mono (by simp;omega))
    have hb57:=hb56.alloc hb56.size (.cells #[.int .i64 ka,.int .i64 kl] 31)
    have hgr:wr.heap.size < w6.heap.size:=(hbp.below hb6 hbp.lt).lt
    rw [← HW7.out] at hbk7 hbp7 hb57
    have hX7:=hX5.bel hb57
    clear HW7 hb6 hb56 hbp HCL
    generalize w6.heap.size=g6 at *
    generalize wr.heap.size=gr at *
    obtain ⟨d0,d1,_,_⟩:=hbk7.two
    have q0:=hbp7.cell 0
    have q1:=hbp7.cell 1
    have y7:=hX7.blk.cell 7
    simp at q0 q1 y7
    have HIN:=Hd (in_pl c.ad HA.out (ka,kl) HCK.out)
    go_wp2_with fail
    refine (HIN.out _).mono ?_
    rintro e w8 ⟨rfl,hb8⟩
    have hbk8:=hbk7.below hb8 hbk7.lt
    have hbp8:=hbp7.below hb8 hbp7.lt
    have hb58:=hb57.trans (hb8.mono hb57.size)
    clear d0 d1 q0 q1 y7 hbk7 hbp7 hb57 hb8 HIN
    obtain ⟨d0,d1,_,_⟩:=hbk8.two
    have q1:=hbp8.cell 1
    simp at q1
    have HRD:=Hd (show ∃ out,readAll pfxO (L.take (j+1))=some out by
     obtain ⟨out,ho⟩:=HW.out.2
     exact ⟨_,by rw [HTK.out];exact HRS.out _ _ ho HO.out⟩)
    have HBE:=Hd (show bestGoO c.ad (-1,[]) (L.take (j+1))=if inA c.ad (ka,kl)=true∧b.1 < kl then (kl,x.2) else b by rw [HTK.out,HBS.out _ HO.out,HW.out.1])
    clear HTK HBS HRS HO HW HCK
    cases hi:inA c.ad (ka,kl) with
    | false =>
     have HF:=Hd (show bestGoO c.ad (-1,[]) (L.take (j+1))=b by rw [HBE.out,if_neg (by rw [hi];simp)])
     clear hi HBE
     go_wp2
     go_roundw
     case rel=>exact ⟨j+1,b,by omega,by go_num,rfl,rfl,hb58,Hd ⟨HF.out,HRD.out⟩⟩
     case measure=>simp [intOf];omega
    | true =>
     by_cases hlt2:b.1 < kl
     ·have HF:=Hd (show bestGoO c.ad (-1,[]) (L.take (j+1))=(kl,x.2) by rw [HBE.out,if_pos ⟨hi,hlt2⟩])
      clear hi HBE
      go_upto_region 17 with fail
      go_region
      go_wp2
      go_roundw
      case rel=>exact ⟨j+1,(kl,x.2),by omega,by go_num,rfl,rfl,hb58.drew,Hd ⟨HF.out,HRD.out⟩⟩
      case measure=>simp [intOf];omega
     ·have HF:=Hd (show bestGoO c.ad (-1,[]) (L.take (j+1))=b by rw [HBE.out,if_neg (fun e=>hlt2 e.2)])
      clear hi HBE
      go_wp2
      go_roundw
      case rel=>exact ⟨j+1,b,by omega,by go_num,rfl,rfl,hb58,Hd ⟨HF.out,HRD.out⟩⟩
      case measure=>simp [intOf];omega
   ·have hpv:ReadPV (keyI L[j].1)=NoPV:=by unfold ReadPV;rw [if_neg hkind];rfl
    have HO:=Hd (show readAll pfxO L=none from readAll_none _ _ L[j] (List.getElem_mem _) (by unfold pfxO;rw [if_neg hkind]))
    have HR2:=Hd (show g1.doWho2 id c=(noAns,5,g2) by rw [HV.out,HO.out];rfl)
    rw [hpv] at HCL
    clear hpv hkind hkl
    unfold NoPV at HCL
    generalize L[j]=x at *
    go_wp2_with fail
    refine HCL.out.mono ?_
    rintro e w6 ⟨rfl,hb6⟩
    have hb56:Below w5.heap.size w5 w6:=(hb.alloc hbs _).trans (hb6.mono (by simp;omega))
    go_upto_region 14 with fail
    refine wp_name (fun w7 HW7=>?_)
    have hb57:=hb56.alloc hb56.size (.cells #[.int .i64 0,.int .i64 0] 31)
    rw [← HW7.out] at hb57
    have hD7:=hD5.bel hb57
    have hX7:=hX5.bel hb57
    have hR7:=hR5.bel hb57
    clear HW7 hb6 hb56 hbp HCL hb57
    generalize w6.heap.size=g6 at *
    obtain ⟨y0,y1,y2,y3,y4,y5,y6,y7,y8,z0,z1,z2,z3,z4,u0,u1,u2,u3,u4⟩:=hkk _ hX7.blk hR7.blk
    go_wp2
    refine bodyPost_ret (v:=.tuple #[AnsV (.slice none 0 0) noAns,.iface 71 (.int .i64 5)]) (by simp [AnsV,noAns,results,Tryz.results77,go_sem,z0,z1,z2,z3,z4,u0,u1,u2,u3,u4]) rfl ⟨noAns,by rw [HR.out,HR2.out];exact rfl,by rw [HR.out,HR2.out];exact fun _=>rfl,T4,?_⟩
    rw [HR.out,HR2.out]
    (repeat' (first | exact hD7 | refine DKto.set ?_ ?_ ?_ _ | exact hR7.out)) <;> simp
  ·obtain rfl:j=L.length:=by omega
   have HE:=Hd (show bestGoO c.ad (-1,[]) L=b∧∃ out,readAll pfxO L=some out by have:=HW.out;rwa [List.take_length] at this)
   have HR2:=Hd (show g1.doWho2 id c=if b.1 < 0 then (noAns,4,g2) else (⟨0,0,0,b.2,[]⟩,0,g2) by
    obtain ⟨out,ho⟩:=HE.out.2
    rw [HV.out,ho,HE.out.1];rfl)
   have hD7:=hD5.bel hb
   have hX7:=hX5.bel hb
   have hR7:=hR5.bel hb
   clear HV HE HW hD5 hX5 hR5 hrd5 hb
   obtain ⟨b1,b2⟩:=b
   dsimp only at HR2
   by_cases hneg:b1 < 0
   ·have HR3:=Hd (show g1.doWho2 id c=(noAns,4,g2) by rw [HR2.out,if_pos hneg])
    obtain ⟨y0,y1,y2,y3,y4,y5,y6,y7,y8,z0,z1,z2,z3,z4,u0,u1,u2,u3,u4⟩:=hkk _ hX7.blk hR7.blk
    go_wp2
    refine bodyPost_ret (v:=.tuple #[AnsV (.slice none 0 0) noAns,.iface 71 (.int .i64 4)]) (by simp [AnsV,noAns,results,Tryz.results77,go_sem,z0,z1,z2,z3,z4,u0,u1,u2,u3,u4]) rfl ⟨noAns,by rw [HR.out,HR3.out];exact rfl,by rw [HR.out,HR3.out];exact fun _=>rfl,T4,?_⟩
    rw [HR.out,HR3.out]
    (repeat' (first | exact hD7 | refine DKto.set ?_ ?_ ?_ _ | exact hR7.out)) <;> simp
   ·have HR3:=Hd (show g1.doWho2 id c=(⟨0,0,0,b2,[]⟩,0,g2) by rw [HR2.out,if_neg hneg])
    obtain ⟨y0,y1,y2,y3,y4,y5,y6,y7,y8,z0,z1,z2,z3,z4,u0,u1,u2,u3,u4⟩:=hkk _ hX7.blk hR7.blk
    go_wp2
    refine bodyPost_ret (v:=.tuple #[AnsV (.slice none 0 0) ⟨0,0,0,b2,[]⟩,.nilIface]) (by simp [AnsV,noAns,results,Tryz.results77,go_sem,z0,z1,z2,z3,z4,u0,u1,u2,u3,u4]) rfl ⟨⟨0,0,0,b2,[]⟩,by rw [HR.out,HR3.out];exact rfl,by rw [HR.out,HR3.out];exact fun _=>rfl,T4,?_⟩
    rw [HR.out,HR3.out]
    (repeat' (first | exact hD7 | refine DKto.set ?_ ?_ ?_ _ | exact hR7.out)) <;> simp
end
def DoR (B:Nat) (w:World) (T:Nat→Prop) (d:Nat) (k:Nat) (r:PAns × Int × Dk) (e:Ending) (w':World):Prop :=
 ∃ (A:Option Addr) (n cc:Nat) (a:PAns) (T':Nat→Prop),e=.returned (.tuple #[AnsV (.slice A n cc) a,faultV r.2.1])∧(r.2.1=0→a=r.1∧OwnP w' w.heap.size 31 (.slice A n cc) r.1.list∧∀ q,(Value.slice A n cc).ownBlock=some q→¬ T' q)∧DKto B w T d w' T' r.2.2 k
theorem own_none {T:Nat→Prop}:∀ q,(Value.slice none 0 0).ownBlock=some q→¬ T q:=fun q e=>by simp [Value.ownBlock] at e
theorem chg_list (g:Dk) (id:Int) (c:Chg) (a:PAns) (h:a.list=[]):(g.chg id c a).1.list=[]:=by
 unfold Dk.chg
 simp only
 split
 ·exact h
 ·rfl
theorem doNextP_nil (g:Dk) (id:Int) (c:PCall) (q:(g.doNextP id c).2.1=0):(g.doNextP id c).1.list=[]:=by
 clear q
 unfold Dk.doNextP
 split
 ·rfl
 ·unfold Dk.doNextP2
  repeat' (first | rfl | exact chg_list _ _ _ _ rfl | split)
theorem doNextA_nil (g:Dk) (id:Int) (c:PCall) (q:(g.doNextA id c).2.1=0):(g.doNextA id c).1.list=[]:=by
 clear q
 unfold Dk.doNextA
 split
 ·rfl
 ·unfold Dk.doNextA2 Dk.doNextA3
  repeat' (first | rfl | exact chg_list _ _ _ _ rfl | split)
theorem doWho_nil (g:Dk) (id:Int) (c:PCall) (q:(g.doWho id c).2.1=0):(g.doWho id c).1.list=[]:=by
 clear q
 unfold Dk.doWho Dk.doWho2
 repeat' (first | rfl | split)
theorem doTake_nil (g:Dk) (id:Int) (c:PCall):(g.doTake id c).1=noAns:=by
 have hc:∀ (g:Dk) (x:Chg),(g.chg id x noAns).1=noAns:=fun g x=>by unfold Dk.chg;simp
 unfold Dk.doTake Dk.doTake2 Dk.doTake3
 repeat' (first | rfl | exact hc _ _ | split)
section
variable {B : Nat} {w : World} {T : Nat → Prop} {d : Nat} {g : Dk} {id : Int} {k : Nat}
theorem DK.do_6 (h:DK B w T d g k) (hk:k≤40000) (hid:(Lit.int .i64 id).wf=true) (nm ow:List UInt8) (pa pn ln ad:Int) (hc:CallOk ⟨6,nm,pa,pn,ln,ad,ow⟩) (hn:nameB nm=true) (hp:chk pa pn=0) :
  Calls Tryz.prog 46 #[workV d id ⟨6,nm,pa,pn,ln,ad,ow⟩] w (DoR B w T d k (g.do2 id ⟨6,nm,pa,pn,ln,ad,ow⟩)):=by
 have hD1:=h.refl.alloc (.cells #[ptrV d,intV id,.int .i64 6,txt nm,.int .i64 pa,.int .i64 pn,.int .i64 ln,.int .i64 ad,txt ow] 120)
 have hX1:=Loc.new h 120 #[ptrV d,intV id,.int .i64 6,txt nm,.int .i64 pa,.int .i64 pn,.int .i64 ln,.int .i64 ad,txt ow]
 have hD2:=hD1.alloc (.cells #[.int .i64 0,.int .i64 0,.int .i64 0,.string { data:=#[] },.slice none 0 0] 46)
 have hX2:=hX1.alloc (.cells #[.int .i64 0,.int .i64 0,.int .i64 0,.string { data:=#[] },.slice none 0 0] 46)
 have hR2:=Loc.new hD1.dk 46 #[.int .i64 0,.int .i64 0,.int .i64 0,.string { data:=#[] },.slice none 0 0]
 have hD3:=hD2.alloc (.cells #[.int .i64 6,txt nm,.int .i64 pa,.int .i64 pn,.int .i64 ln,.int .i64 ad,txt ow] 33)
 have hX3:=hX2.alloc (.cells #[.int .i64 6,txt nm,.int .i64 pa,.int .i64 pn,.int .i64 ln,.int .i64 ad,txt ow] 33)
 have hC3:=Loc.new hD2.dk 33 #[.int .i64 6,txt nm,.int .i64 pa,.int .i64 pn,.int .i64 ln,.int .i64 ad,txt ow]
 have hR3:=hR2.alloc (.cells #[.int .i64 6,txt nm,.int .i64 pa,.int .i64 pn,.int .i64 ln,.int .i64 ad,txt ow] 33)
 rw [World.size_alloc] at hR3
 rw [World.size_alloc,World.size_alloc] at hC3
 have e2:=hX1.blk.cell 2
 have e3:=hX1.blk.cell 3
 have e4:=hX1.blk.cell 4
 have e5:=hX1.blk.cell 5
 have e6:=hX1.blk.cell 6
 have e7:=hX1.blk.cell 7
 have e8:=hX1.blk.cell 8
 simp at e2 e3 e4 e5 e6 e7 e8
 unfold workV
 dsimp only
 go_enter Tryz.func46,Tryz.ntmps46
 go_upto_region 2 with fail
 refine wp_name (fun w3 HW=>?_)
 rw [← HW.out] at hD3 hX3 hR3 hC3
 clear HW hD1 hD2 hX1 hX2 hR2 e2 e3 e4 e5 e6 e7 e8
 have hm:=hD3.dk.nextPrefix hk hid ⟨6,nm,pa,pn,ln,ad,ow⟩ hc hn hp
 unfold workV AnsV at hm
 dsimp only at hm
 have HM:=Hd hm
 clear hm
 have HR:=Hd (show g.do2 id ⟨6,nm,pa,pn,ln,ad,ow⟩=g.doNextP id ⟨6,nm,pa,pn,ln,ad,ow⟩ from rfl)
 have HL:=Hd (doNextP_nil g id ⟨6,nm,pa,pn,ln,ad,ow⟩)
 generalize g.doNextP id ⟨6,nm,pa,pn,ln,ad,ow⟩=r at *
 obtain ⟨y0,y1,y2,y3,y4,y5,y6,y7,y8⟩:=hX3.blk.cls9
 obtain ⟨z0,z1,z2,z3,z4⟩:=hR3.blk.cls5
 obtain ⟨u0,u1,u2,u3,u4⟩:=hR3.blk.frs5
 obtain ⟨x0,x1,x2,x3,x4,x5,x6⟩:=hC3.blk.cls7
 simp at y0 y1 y2 y3 y4 y5 y6 y7 y8 z0 z1 z2 z3 z4 x0 x1 x2 x3 x4 x5 x6
 go_wp2_with fail
 refine HM.out.mono ?_
 rintro e w4 ⟨a,rfl,hf,T4,hD34⟩
 have hD4:=hD3.step hD34
 have hX4:=hX3.step hD34
 have hR4:=hR3.step hD34
 have hC4:=hC3.step hD34
 clear hD3 hX3 hR3 hC3 hD34 HM y0 y1 y2 y3 y4 y5 y6 y7 y8 z0 z1 z2 z3 z4 u0 u1 u2 u3 u4 x0 x1 x2 x3 x4 x5 x6
 obtain ⟨y0,y1,y2,y3,y4,y5,y6,y7,y8⟩:=hX4.blk.cls9
 obtain ⟨z0,z1,z2,z3,z4⟩:=hR4.blk.cls5
 obtain ⟨u0,u1,u2,u3,u4⟩:=hR4.blk.frs5
 obtain ⟨x0,x1,x2,x3,x4,x5,x6⟩:=hC4.blk.cls7
 simp at y0 y1 y2 y3 y4 y5 y6 y7 y8 z0 z1 z2 z3 z4 x0 x1 x2 x3 x4 x5 x6
 go_wp2
 refine bodyPost_ret (v:=.tuple #[AnsV (.slice none 0 0) a,faultV r.2.1]) (by simp [AnsV,noAns,results,Tryz.results46,go_sem,z0,z1,z2,z3,z4,u0,u1,u2,u3,u4]) rfl ?_
 unfold DoR
 refine ⟨_,_,_,a,T4,by rw [HR.out],fun q=>?_,?_⟩
 ·rw [HR.out] at q ⊢
  have e:=hf q
  subst e
  exact ⟨rfl,by rw [HL.out q];exact OwnP.nil _ _ _,own_none⟩
 ·rw [HR.out]
  (repeat' (first | exact hD4 | refine DKto.set ?_ ?_ ?_ _ | exact hR4.out)) <;> simp
theorem DK.do_7 (h:DK B w T d g k) (hk:k≤40000) (hid:(Lit.int .i64 id).wf=true) (nm ow:List UInt8) (pa pn ln ad:Int) (hc:CallOk ⟨7,nm,pa,pn,ln,ad,ow⟩) (hn:nameB nm=true) (hp:chk pa pn=0) :
  Calls Tryz.prog 46 #[workV d id ⟨7,nm,pa,pn,ln,ad,ow⟩] w (DoR B w T d k (g.do2 id ⟨7,nm,pa,pn,ln,ad,ow⟩)):=by
 have hD1:=h.refl.alloc (.cells #[ptrV d,intV id,.int .i64 7,txt nm,.int .i64 pa,.int .i64 pn,.int .i64 ln,.int .i64 ad,txt ow] 120)
 have hX1:=Loc.new h 120 #[ptrV d,intV id,.int .i64 7,txt nm,.int .i64 pa,.int .i64 pn,.int .i64 ln,.int .i64 ad,txt ow]
 have hD2:=hD1.alloc (.cells #[.int .i64 0,.int .i64 0,.int .i64 0,.string { data:=#[] },.slice none 0 0] 46)
 have hX2:=hX1.alloc (.cells #[.int .i64 0,.int .i64 0,.int .i64 0,.string { data:=#[] },.slice none 0 0] 46)
 have hR2:=Loc.new hD1.dk 46 #[.int .i64 0,.int .i64 0,.int .i64 0,.string { data:=#[] },.slice none 0 0]
 have hD3:=hD2.alloc (.cells #[.int .i64 7,txt nm,.int .i64 pa,.int .i64 pn,.int .i64 ln,.int .i64 ad,txt ow] 33)
 have hX3:=hX2.alloc (.cells #[.int .i64 7,txt nm,.int .i64 pa,.int .i64 pn,.int .i64 ln,.int .i64 ad,txt ow] 33)
 have hC3:=Loc.new hD2.dk 33 #[.int .i64 7,txt nm,.int .i64 pa,.int .i64 pn,.int .i64 ln,.int .i64 ad,txt ow]
 have hR3:=hR2.alloc (.cells #[.int .i64 7,txt nm,.int .i64 pa,.int .i64 pn,.int .i64 ln,.int .i64 ad,txt ow] 33)
 rw [World.size_alloc] at hR3
 rw [World.size_alloc,World.size_alloc] at hC3
 have e2:=hX1.blk.cell 2
 have e3:=hX1.blk.cell 3
 have e4:=hX1.blk.cell 4
 have e5:=hX1.blk.cell 5
 have e6:=hX1.blk.cell 6
 have e7:=hX1.blk.cell 7
 have e8:=hX1.blk.cell 8
 simp at e2 e3 e4 e5 e6 e7 e8
 unfold workV
 dsimp only
 go_enter Tryz.func46,Tryz.ntmps46
 go_upto_region 2 with fail
 refine wp_name (fun w3 HW=>?_)
 rw [← HW.out] at hD3 hX3 hR3 hC3
 clear HW hD1 hD2 hX1 hX2 hR2 e2 e3 e4 e5 e6 e7 e8
 have hm:=hD3.dk.nextAddr hk hid ⟨7,nm,pa,pn,ln,ad,ow⟩ hc hn hp
 unfold workV AnsV at hm
 dsimp only at hm
 have HM:=Hd hm
 clear hm
 have HR:=Hd (show g.do2 id ⟨7,nm,pa,pn,ln,ad,ow⟩=g.doNextA id ⟨7,nm,pa,pn,ln,ad,ow⟩ from rfl)
 have HL:=Hd (doNextA_nil g id ⟨7,nm,pa,pn,ln,ad,ow⟩)
 generalize g.doNextA id ⟨7,nm,pa,pn,ln,ad,ow⟩=r at *
 obtain ⟨y0,y1,y2,y3,y4,y5,y6,y7,y8⟩:=hX3.blk.cls9
 obtain ⟨z0,z1,z2,z3,z4⟩:=hR3.blk.cls5
 obtain ⟨u0,u1,u2,u3,u4⟩:=hR3.blk.frs5
 obtain ⟨x0,x1,x2,x3,x4,x5,x6⟩:=hC3.blk.cls7
 simp at y0 y1 y2 y3 y4 y5 y6 y7 y8 z0 z1 z2 z3 z4 x0 x1 x2 x3 x4 x5 x6
 go_wp2_with fail
 refine HM.out.mono ?_
 rintro e w4 ⟨a,rfl,hf,T4,hD34⟩
 have hD4:=hD3.step hD34
 have hX4:=hX3.step hD34
 have hR4:=hR3.step hD34
 have hC4:=hC3.step hD34
 clear hD3 hX3 hR3 hC3 hD34 HM y0 y1 y2 y3 y4 y5 y6 y7 y8 z0 z1 z2 z3 z4 u0 u1 u2 u3 u4 x0 x1 x2 x3 x4 x5 x6
 obtain ⟨y0,y1,y2,y3,y4,y5,y6,y7,y8⟩:=hX4.blk.cls9
 obtain ⟨z0,z1,z2,z3,z4⟩:=hR4.blk.cls5
 obtain ⟨u0,u1,u2,u3,u4⟩:=hR4.blk.frs5
 obtain ⟨x0,x1,x2,x3,x4,x5,x6⟩:=hC4.blk.cls7
 simp at y0 y1 y2 y3 y4 y5 y6 y7 y8 z0 z1 z2 z3 z4 x0 x1 x2 x3 x4 x5 x6
 go_wp2
 refine bodyPost_ret (v:=.tuple #[AnsV (.slice none 0 0) a,faultV r.2.1]) (by simp [AnsV,noAns,results,Tryz.results46,go_sem,z0,z1,z2,z3,z4,u0,u1,u2,u3,u4]) rfl ?_
 unfold DoR
 refine ⟨_,_,_,a,T4,by rw [HR.out],fun q=>?_,?_⟩
 ·rw [HR.out] at q ⊢
  have e:=hf q
  subst e
  exact ⟨rfl,by rw [HL.out q];exact OwnP.nil _ _ _,own_none⟩
 ·rw [HR.out]
  (repeat' (first | exact hD4 | refine DKto.set ?_ ?_ ?_ _ | exact hR4.out)) <;> simp
theorem DK.do_9 (h:DK B w T d g k) (hk:k≤40000) (hid:(Lit.int .i64 id).wf=true) (nm ow:List UInt8) (pa pn ln ad:Int) (hc:CallOk ⟨9,nm,pa,pn,ln,ad,ow⟩) (hn:nameB nm=true) (ha:isA ad=true) :
  Calls Tryz.prog 46 #[workV d id ⟨9,nm,pa,pn,ln,ad,ow⟩] w (DoR B w T d k (g.do2 id ⟨9,nm,pa,pn,ln,ad,ow⟩)):=by
 have hD1:=h.refl.alloc (.cells #[ptrV d,intV id,.int .i64 9,txt nm,.int .i64 pa,.int .i64 pn,.int .i64 ln,.int .i64 ad,txt ow] 120)
 have hX1:=Loc.new h 120 #[ptrV d,intV id,.int .i64 9,txt nm,.int .i64 pa,.int .i64 pn,.int .i64 ln,.int .i64 ad,txt ow]
 have hD2:=hD1.alloc (.cells #[.int .i64 0,.int .i64 0,.int .i64 0,.string { data:=#[] },.slice none 0 0] 46)
 have hX2:=hX1.alloc (.cells #[.int .i64 0,.int .i64 0,.int .i64 0,.string { data:=#[] },.slice none 0 0] 46)
 have hR2:=Loc.new hD1.dk 46 #[.int .i64 0,.int .i64 0,.int .i64 0,.string { data:=#[] },.slice none 0 0]
 have hD3:=hD2.alloc (.cells #[.int .i64 9,txt nm,.int .i64 pa,.int .i64 pn,.int .i64 ln,.int .i64 ad,txt ow] 33)
 have hX3:=hX2.alloc (.cells #[.int .i64 9,txt nm,.int .i64 pa,.int .i64 pn,.int .i64 ln,.int .i64 ad,txt ow] 33)
 have hC3:=Loc.new hD2.dk 33 #[.int .i64 9,txt nm,.int .i64 pa,.int .i64 pn,.int .i64 ln,.int .i64 ad,txt ow]
 have hR3:=hR2.alloc (.cells #[.int .i64 9,txt nm,.int .i64 pa,.int .i64 pn,.int .i64 ln,.int .i64 ad,txt ow] 33)
 rw [World.size_alloc] at hR3
 rw [World.size_alloc,World.size_alloc] at hC3
 have e2:=hX1.blk.cell 2
 have e3:=hX1.blk.cell 3
 have e4:=hX1.blk.cell 4
 have e5:=hX1.blk.cell 5
 have e6:=hX1.blk.cell 6
 have e7:=hX1.blk.cell 7
 have e8:=hX1.blk.cell 8
 simp at e2 e3 e4 e5 e6 e7 e8
 unfold workV
 dsimp only
 go_enter Tryz.func46,Tryz.ntmps46
 go_upto_region 2 with fail
 refine wp_name (fun w3 HW=>?_)
 rw [← HW.out] at hD3 hX3 hR3 hC3
 clear HW hD1 hD2 hX1 hX2 hR2 e2 e3 e4 e5 e6 e7 e8
 have hm:=hD3.dk.who hk hid ⟨9,nm,pa,pn,ln,ad,ow⟩ hc hn ha
 unfold workV AnsV at hm
 dsimp only at hm
 have HM:=Hd hm
 clear hm
 have HR:=Hd (show g.do2 id ⟨9,nm,pa,pn,ln,ad,ow⟩=g.doWho id ⟨9,nm,pa,pn,ln,ad,ow⟩ from rfl)
 have HL:=Hd (doWho_nil g id ⟨9,nm,pa,pn,ln,ad,ow⟩)
 generalize g.doWho id ⟨9,nm,pa,pn,ln,ad,ow⟩=r at *
 obtain ⟨y0,y1,y2,y3,y4,y5,y6,y7,y8⟩:=hX3.blk.cls9
 obtain ⟨z0,z1,z2,z3,z4⟩:=hR3.blk.cls5
 obtain ⟨u0,u1,u2,u3,u4⟩:=hR3.blk.frs5
 obtain ⟨x0,x1,x2,x3,x4,x5,x6⟩:=hC3.blk.cls7
 simp at y0 y1 y2 y3 y4 y5 y6 y7 y8 z0 z1 z2 z3 z4 x0 x1 x2 x3 x4 x5 x6
 go_wp2_with fail
 refine HM.out.mono ?_
 rintro e w4 ⟨a,rfl,hf,T4,hD34⟩
 have hD4:=hD3.step hD34
 have hX4:=hX3.step hD34
 have hR4:=hR3.step hD34
 have hC4:=hC3.step hD34
 clear hD3 hX3 hR3 hC3 hD34 HM y0 y1 y2 y3 y4 y5 y6 y7 y8 z0 z1 z2 z3 z4 u0 u1 u2 u3 u4 x0 x1 x2 x3 x4 x5 x6
 obtain ⟨y0,y1,y2,y3,y4,y5,y6,y7,y8⟩:=hX4.blk.cls9
 obtain ⟨z0,z1,z2,z3,z4⟩:=hR4.blk.cls5
 obtain ⟨u0,u1,u2,u3,u4⟩:=hR4.blk.frs5
 obtain ⟨x0,x1,x2,x3,x4,x5,x6⟩:=hC4.blk.cls7
 simp at y0 y1 y2 y3 y4 y5 y6 y7 y8 z0 z1 z2 z3 z4 x0 x1 x2 x3 x4 x5 x6
 go_wp2
 refine bodyPost_ret (v:=.tuple #[AnsV (.slice none 0 0) a,faultV r.2.1]) (by simp [AnsV,noAns,results,Tryz.results46,go_sem,z0,z1,z2,z3,z4,u0,u1,u2,u3,u4]) rfl ?_
 unfold DoR
 refine ⟨_,_,_,a,T4,by rw [HR.out],fun q=>?_,?_⟩
 ·rw [HR.out] at q ⊢
  have e:=hf q
  subst e
  exact ⟨rfl,by rw [HL.out q];exact OwnP.nil _ _ _,own_none⟩
 ·rw [HR.out]
  (repeat' (first | exact hD4 | refine DKto.set ?_ ?_ ?_ _ | exact hR4.out)) <;> simp
theorem DK.do_3 (h:DK B w T d g k) (hk:k≤40000) (hid:(Lit.int .i64 id).wf=true) (nm ow:List UInt8) (pa pn ln ad:Int) (hc:CallOk ⟨3,nm,pa,pn,ln,ad,ow⟩) (hn:nameB nm=true) (hp:chk pa pn=0) :
  Calls Tryz.prog 46 #[workV d id ⟨3,nm,pa,pn,ln,ad,ow⟩] w (DoR B w T d k (g.do2 id ⟨3,nm,pa,pn,ln,ad,ow⟩)):=by
 have hD1:=h.refl.alloc (.cells #[ptrV d,intV id,.int .i64 3,txt nm,.int .i64 pa,.int .i64 pn,.int .i64 ln,.int .i64 ad,txt ow] 120)
 have hX1:=Loc.new h 120 #[ptrV d,intV id,.int .i64 3,txt nm,.int .i64 pa,.int .i64 pn,.int .i64 ln,.int .i64 ad,txt ow]
 have hD2:=hD1.alloc (.cells #[.int .i64 0,.int .i64 0,.int .i64 0,.string { data:=#[] },.slice none 0 0] 46)
 have hX2:=hX1.alloc (.cells #[.int .i64 0,.int .i64 0,.int .i64 0,.string { data:=#[] },.slice none 0 0] 46)
 have hR2:=Loc.new hD1.dk 46 #[.int .i64 0,.int .i64 0,.int .i64 0,.string { data:=#[] },.slice none 0 0]
 have hD3:=hD2.alloc (.cells #[.int .i64 3,txt nm,.int .i64 pa,.int .i64 pn,.int .i64 ln,.int .i64 ad,txt ow] 33)
 have hX3:=hX2.alloc (.cells #[.int .i64 3,txt nm,.int .i64 pa,.int .i64 pn,.int .i64 ln,.int .i64 ad,txt ow] 33)
 have hC3:=Loc.new hD2.dk 33 #[.int .i64 3,txt nm,.int .i64 pa,.int .i64 pn,.int .i64 ln,.int .i64 ad,txt ow]
 have hR3:=hR2.alloc (.cells #[.int .i64 3,txt nm,.int .i64 pa,.int .i64 pn,.int .i64 ln,.int .i64 ad,txt ow] 33)
 rw [World.size_alloc] at hR3
 rw [World.size_alloc,World.size_alloc] at hC3
 have e2:=hX1.blk.cell 2
 have e3:=hX1.blk.cell 3
 have e4:=hX1.blk.cell 4
 have e5:=hX1.blk.cell 5
 have e6:=hX1.blk.cell 6
 have e7:=hX1.blk.cell 7
 have e8:=hX1.blk.cell 8
 simp at e2 e3 e4 e5 e6 e7 e8
 unfold workV
 dsimp only
 go_enter Tryz.func46,Tryz.ntmps46
 go_upto_region 2 with fail
 refine wp_name (fun w3 HW=>?_)
 rw [← HW.out] at hD3 hX3 hR3 hC3
 clear HW hD1 hD2 hX1 hX2 hR2 e2 e3 e4 e5 e6 e7 e8
 have hm:=hD3.dk.take hk hid ⟨3,nm,pa,pn,ln,ad,ow⟩ hc hn hp
 unfold workV at hm
 dsimp only at hm
 have HM:=Hd hm
 clear hm
 have HR:=Hd (show g.do2 id ⟨3,nm,pa,pn,ln,ad,ow⟩=g.doTake id ⟨3,nm,pa,pn,ln,ad,ow⟩ from rfl)
 have HL:=Hd (doTake_nil g id ⟨3,nm,pa,pn,ln,ad,ow⟩)
 generalize g.doTake id ⟨3,nm,pa,pn,ln,ad,ow⟩=r at *
 obtain ⟨y0,y1,y2,y3,y4,y5,y6,y7,y8⟩:=hX3.blk.cls9
 obtain ⟨z0,z1,z2,z3,z4⟩:=hR3.blk.cls5
 obtain ⟨u0,u1,u2,u3,u4⟩:=hR3.blk.frs5
 obtain ⟨x0,x1,x2,x3,x4,x5,x6⟩:=hC3.blk.cls7
 simp at y0 y1 y2 y3 y4 y5 y6 y7 y8 z0 z1 z2 z3 z4 x0 x1 x2 x3 x4 x5 x6
 go_wp2_with fail
 refine HM.out.mono ?_
 rintro e w4 ⟨rfl,T4,hD34⟩
 have hD4:=hD3.step hD34
 have hX4:=hX3.step hD34
 have hR4:=hR3.step hD34
 have hC4:=hC3.step hD34
 clear hD3 hX3 hR3 hC3 hD34 HM y0 y1 y2 y3 y4 y5 y6 y7 y8 z0 z1 z2 z3 z4 u0 u1 u2 u3 u4 x0 x1 x2 x3 x4 x5 x6
 obtain ⟨y0,y1,y2,y3,y4,y5,y6,y7,y8⟩:=hX4.blk.cls9
 obtain ⟨z0,z1,z2,z3,z4⟩:=hR4.blk.cls5
 obtain ⟨u0,u1,u2,u3,u4⟩:=hR4.blk.frs5
 obtain ⟨x0,x1,x2,x3,x4,x5,x6⟩:=hC4.blk.cls7
 simp at y0 y1 y2 y3 y4 y5 y6 y7 y8 z0 z1 z2 z3 z4 x0 x1 x2 x3 x4 x5 x6
 go_wp2
 refine bodyPost_ret (v:=.tuple #[AnsV (.slice none 0 0) noAns,faultV r.2.1]) (by simp [AnsV,noAns,results,Tryz.results46,go_sem,z0,z1,z2,z3,z4,u0,u1,u2,u3,u4]) rfl ?_
 unfold DoR
 refine ⟨_,_,_,noAns,T4,by rw [HR.out],fun q=>?_,?_⟩
 ·rw [HR.out] at q ⊢
  have hl:=HL.out
  exact ⟨hl.symm,by rw [hl];exact OwnP.nil _ _ _,own_none⟩
 ·rw [HR.out]
  (repeat' (first | exact hD4 | refine DKto.set ?_ ?_ ?_ _ | exact hR4.out)) <;> simp
end
end Go.Proofs.YtkckcbhnnllkhaaGreatDoor
