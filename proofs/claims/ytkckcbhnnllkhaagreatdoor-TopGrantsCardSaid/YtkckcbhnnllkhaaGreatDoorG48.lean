/- Parts of the proof; conditions: as each theorem says. -/
import Derived.Test.YtkckcbhnnllkhaaGreatDoorG37
import Derived.Test.YtkckcbhnnllkhaaGreatDoorG44
import Derived.Test.YtkckcbhnnllkhaaGreatDoorG14
set_option linter.unusedVariables false
set_option linter.unusedSimpArgs false
namespace Go.Proofs.YtkckcbhnnllkhaaGreatDoor
open Go.RowKit
theorem splitL_inv {c:UInt8}:∀ {s p:List UInt8} {ps:List (List UInt8)},splitL c s=p::ps→c ∉ p∧((ps=[]∧s=p)∨∃ y,s=p++c::y∧splitL c y=ps)
 | [],p,ps,h=>by
  simp [splitL] at h
  obtain ⟨rfl,rfl⟩:=h
  exact ⟨by simp,.inl ⟨rfl,rfl⟩⟩
 | x::l,p,ps,h=>by
  unfold splitL at h
  by_cases e:x=c
  ·rw [if_pos e] at h
   injection h with h1 h2
   subst h1
   exact ⟨by simp,.inr ⟨l,by rw [e];rfl,h2⟩⟩
  ·rw [if_neg e] at h
   cases hs:splitL c l with
   | nil=>exact absurd hs (splitL_ne c l)
   | cons p' ps' =>
    rw [hs] at h
    simp only at h
    injection h with h1 h2
    subst h1
    subst h2
    obtain ⟨i1,i2⟩:=splitL_inv hs
    refine ⟨fun q=>?_,?_⟩
    ·rcases List.mem_cons.1 q with q | q
     ·exact e q.symm
     ·exact i1 q
    ·rcases i2 with ⟨i3,i4⟩ | ⟨y,i3,i4⟩
     ·exact .inl ⟨i3,by rw [i4]⟩
     ·exact .inr ⟨y,by rw [i3];rfl,i4⟩
theorem splitL_three {c:UInt8} {s k net x:List UInt8} (h:splitL c s=[k,net,x]):s=k++c::(net++c::x)∧c ∉ k∧c ∉ net∧c ∉ x:=by
 obtain ⟨h1,h2⟩:=splitL_inv h
 rcases h2 with ⟨h2,_⟩ | ⟨y,h2,h3⟩
 ·cases h2
 ·obtain ⟨h4,h5⟩:=splitL_inv h3
  rcases h5 with ⟨h5,_⟩ | ⟨z,h5,h6⟩
  ·cases h5
  ·obtain ⟨h7,h8⟩:=splitL_inv h6
   rcases h8 with ⟨_,h8⟩ | ⟨u,h8,h9⟩
   ·exact ⟨by rw [h2,h5,h8],h1,h4,h7⟩
   ·exact absurd h9 (splitL_ne c u)
theorem splitL_two {c:UInt8} {s k net:List UInt8} (h:splitL c s=[k,net]):s=k++c::net∧c ∉ k∧c ∉ net:=by
 obtain ⟨h1,h2⟩:=splitL_inv h
 rcases h2 with ⟨h2,_⟩ | ⟨y,h2,h3⟩
 ·cases h2
 ·obtain ⟨h7,h8⟩:=splitL_inv h3
  rcases h8 with ⟨_,h8⟩ | ⟨u,h8,h9⟩
  ·exact ⟨by rw [h2,h8],h1,h7⟩
  ·exact absurd h9 (splitL_ne c u)
theorem cut_inj {c:UInt8} {a b x y:List UInt8} (ha:c ∉ a) (hb:c ∉ b) (h:a++c::x=b++c::y):a=b∧x=y:=by
 have h1:=splitL_cons x ha
 have h2:=splitL_cons y hb
 rw [h,h2] at h1
 injection h1 with h1 h3
 subst h1
 exact ⟨rfl,by simpa using h⟩
theorem inB_slash:∀ (x s:List UInt8),inB (x++[47]) (x++[48]) s=true ↔ ∃ y,s=x++47::y
 | [],[]=>by simp [inB,lessB]
 | [],a::l=>by
  have h1:lessB (a::l) [47]=decide (a < 47):=by
   show (decide (a < 47) || (a == 47 && lessB l []))=_
   rw [lessB_nil];simp
  have h2:lessB (a::l) [48]=decide (a < 48):=by
   show (decide (a < 48) || (a == 48 && lessB l []))=_
   rw [lessB_nil];simp
  show (!lessB (a::l) [47] && lessB (a::l) [48])=true ↔ _
  rw [h1,h2]
  simp only [Bool.and_eq_true,Bool.not_eq_true',decide_eq_false_iff_not,decide_eq_true_eq,List.nil_append,List.cons.injEq]
  constructor
  ·rintro ⟨q1,q2⟩
   have:a=47:=by
    rw [UInt8.lt_iff_toNat_lt] at q1 q2
    apply UInt8.toNat_inj.1
    have e1:(47:UInt8).toNat=47:=rfl
    have e2:(48:UInt8).toNat=48:=rfl
    omega
   exact ⟨l,this,rfl⟩
  ·rintro ⟨y,q1,q2⟩
   subst q1
   exact ⟨by decide,by decide⟩
 | b::x,[]=>by simp [inB,lessB]
 | b::x,a::l=>by
  have ih:=inB_slash x l
  unfold inB at ih ⊢
  simp only [List.cons_append,lessB,Bool.and_eq_true,Bool.not_eq_true',Bool.or_eq_false_iff,decide_eq_false_iff_not,Bool.or_eq_true,decide_eq_true_eq,beq_iff_eq,List.cons.injEq] at ih ⊢
  constructor
  ·rintro ⟨⟨q1,q2⟩,q3 | ⟨q3,q4⟩⟩
   ·exact absurd q3 q1
   ·subst q3
    simp at q2
    obtain ⟨y,hy⟩:=ih.1 ⟨q2,q4⟩
    exact ⟨y,rfl,hy⟩
  ·rintro ⟨y,q1,q2⟩
   subst q1
   have:=ih.2 ⟨y,q2⟩
   refine ⟨⟨?_,by simp [this.1]⟩,.inr ⟨rfl,this.2⟩⟩
   rw [UInt8.lt_iff_toNat_lt];omega
theorem inB_kind (k:UInt8) (net s:List UInt8):inB (loK k net) (hiK k net) s=true ↔ ∃ y,s=[k]++47::(net++47::y):=by
 have h:=inB_slash ([k,47]++net) s
 unfold loK hiK
 rw [h]
 simp
theorem keyW_kind1 {ps:List (List UInt8)} (h:(keyW ps).kind=1):∃ net,ps=[[110],net]∧nameB net=true∧keyW ps=⟨1,net,0,0,0⟩:=by
 match ps,h with
 | [],h=>simp [keyW,keyNo] at h
 | [_],h=>simp [keyW,keyNo] at h
 | [k,net],h =>
  have e:keyW [k,net]=if nameB net=true∧k=[110] then ⟨1,net,0,0,0⟩ else keyNo:=rfl
  rw [e] at h
  split at h
  ·rename_i q
   exact ⟨net,by rw [q.2],q.1,by rw [e,if_pos q]⟩
  ·simp [keyNo] at h
 | [k,net,x],h =>
  exfalso
  rw [keyW3] at h
  split at h
  ·split at h
   ·split at h
    ·simp at h
    ·simp [keyNo] at h
   ·split at h
    ·split at h
     ·simp at h
     ·simp [keyNo] at h
    ·simp [keyNo] at h
  ·simp [keyNo] at h
 | _::_::_::_::_,h=>simp [keyW,keyNo] at h
theorem keyI_1 {s:List UInt8} (h:(keyI s).kind=1):s=[110]++47::(keyI s).net∧nameB (keyI s).net=true:=by
 obtain ⟨net,h1,h2,h4⟩:=keyW_kind1 h
 have e:keyI s=⟨1,net,0,0,0⟩:=h4
 rw [e]
 obtain ⟨q1,_,_⟩:=splitL_two h1
 exact ⟨q1,h2⟩
theorem keyI_2 {s:List UInt8} (h:(keyI s).kind=2):∃ x,s=[112]++47::((keyI s).net++47::x)∧nameB (keyI s).net=true∧(47:UInt8) ∉ x∧pfxV x=some ((keyI s).pa,(keyI s).pn):=by
 obtain ⟨net,x,a,n,h1,h2,h3,h4⟩:=keyW_kind2 h
 have e:keyI s=⟨2,net,a,n,0⟩:=h4
 rw [e]
 obtain ⟨q1,_,_,q4⟩:=splitL_three h1
 exact ⟨x,q1,h2,q4,h3⟩
theorem keyI_3 {s:List UInt8} (h:(keyI s).kind=3):∃ x,s=[97]++47::((keyI s).net++47::x)∧nameB (keyI s).net=true∧(47:UInt8) ∉ x∧addrV x=some (keyI s).ad:=by
 obtain ⟨net,x,a,h1,h2,h3,h4⟩:=keyW_kind3 h
 have e:keyI s=⟨3,net,0,0,a⟩:=h4
 rw [e]
 obtain ⟨q1,_,_,q4⟩:=splitL_three h1
 exact ⟨x,q1,h2,q4,h3⟩
theorem keyW_le (ps:List (List UInt8)):(keyW ps).kind≤3:=by
 unfold keyW keyNo
 repeat' (first | exact Nat.zero_le _ | (show (1:Nat)≤3;omega) | (show (2:Nat)≤3;omega) | (show (3:Nat)≤3;omega) | split)
theorem keyI_le (s:List UInt8):(keyI s).kind≤3:=keyW_le _
theorem range_2 {net s:List UInt8} (hn:nameB net=true) (hk:(keyI s).kind≠0):inB (loK 112 net) (hiK 112 net) s=true ↔ (keyI s).kind=2∧(keyI s).net=net:=by
 rw [inB_kind]
 have hle:=keyI_le s
 constructor
 ·rintro ⟨y,hy⟩
  have h1:(keyI s).kind≠1:=fun q=>by
   have:=(keyI_1 q).1
   rw [hy] at this
   injection this with this _
   exact absurd this (by decide)
  have h3:(keyI s).kind≠3:=fun q=>by
   obtain ⟨x,this,_⟩:=keyI_3 q
   rw [hy] at this
   injection this with this _
   exact absurd this (by decide)
  have h2:(keyI s).kind=2:=by omega
  refine ⟨h2,?_⟩
  obtain ⟨x,q1,q2,_⟩:=keyI_2 h2
  have e:(keyI s).net++47::x=net++47::y:=by
   have:=q1.symm.trans hy
   simpa using this
  exact (cut_inj (nameB_no q2 (by decide)) (nameB_no hn (by decide)) e).1
 ·rintro ⟨h2,h3⟩
  obtain ⟨x,q1,_⟩:=keyI_2 h2
  exact ⟨x,by rw [← h3];exact q1⟩
theorem range_3 {net s:List UInt8} (hn:nameB net=true) (hk:(keyI s).kind≠0):inB (loK 97 net) (hiK 97 net) s=true ↔ (keyI s).kind=3∧(keyI s).net=net:=by
 rw [inB_kind]
 have hle:=keyI_le s
 constructor
 ·rintro ⟨y,hy⟩
  have h1:(keyI s).kind≠1:=fun q=>by
   have:=(keyI_1 q).1
   rw [hy] at this
   injection this with this _
   exact absurd this (by decide)
  have h2:(keyI s).kind≠2:=fun q=>by
   obtain ⟨x,this,_⟩:=keyI_2 q
   rw [hy] at this
   injection this with this _
   exact absurd this (by decide)
  have h3:(keyI s).kind=3:=by omega
  refine ⟨h3,?_⟩
  obtain ⟨x,q1,q2,_⟩:=keyI_3 h3
  have e:(keyI s).net++47::x=net++47::y:=by
   have:=q1.symm.trans hy
   simpa using this
  exact (cut_inj (nameB_no q2 (by decide)) (nameB_no hn (by decide)) e).1
 ·rintro ⟨h2,h3⟩
  obtain ⟨x,q1,_⟩:=keyI_3 h2
  exact ⟨x,by rw [← h3];exact q1⟩
def ownE (p:KV):Int:=if (keyI p.1).kind≠0∧nameB p.2=true then 0 else 5
def netIn (l:List KV) (s:List UInt8):Bool:=l.any fun p=>decide (p.1=nKey s)
def pfxAt (net:List UInt8) (p:KV):Option Pf:=if (keyI p.1).kind=2∧(keyI p.1).net=net then some (((keyI p.1).pa:Int),((keyI p.1).pn:Int)) else none
def pfxOf (l:List KV) (net:List UInt8):List Pf:=l.filterMap (pfxAt net)
def spotAt (p:KV):Option (List UInt8 × Int):=if (keyI p.1).kind=3 then some ((keyI p.1).net,((keyI p.1).ad:Int)) else none
def spotsOf (l:List KV):List (List UInt8 × Int):=l.filterMap spotAt
def auAt (l:List KV) (i:Nat) (p:KV):Int :=
 if 0 < i∧lessB (l.getD (i - 1) ([],[])).1 p.1=false then 2
 else if ownE p≠0 then 5
 else if (keyI p.1).kind=1 then 0
 else if netIn l (keyI p.1).net=false then 4
 else if (keyI p.1).kind=3∧(pfxOf l (keyI p.1).net).any (fun q=>inP ((keyI p.1).ad:Int) 32 q.1 q.2)=false then 7
 else 0
theorem ownE_zero {p:KV}:ownE p=0 ↔ (keyI p.1).kind≠0∧nameB p.2=true:=by
 unfold ownE;split <;> simp_all
theorem spots_snoc (l:List KV) (p:KV):spotsOf (l++[p])=spotsOf l++(match spotAt p with | some q=>[q] | none=>[]):=by
 unfold spotsOf
 rw [List.filterMap_append]
 cases h:spotAt p <;> simp [h]
theorem pfx_snoc (l:List KV) (p:KV) (net:List UInt8):pfxOf (l++[p]) net=pfxOf l net++(match pfxAt net p with | some q=>[q] | none=>[]):=by
 unfold pfxOf
 rw [List.filterMap_append]
 cases h:pfxAt net p <;> simp [h]
theorem net_snoc (l:List KV) (p:KV) (s:List UInt8):netIn (l++[p]) s=(netIn l s || decide (p.1=nKey s)):=by
 unfold netIn
 simp [List.any_append]
theorem nKey_inj {a b:List UInt8} (h:nKey a=nKey b):a=b:=by
 unfold nKey at h
 simpa using h
theorem kind_n {s:List UInt8} (h:(keyI (nKey s)).kind≠0):(keyI (nKey s)).kind=1∧(keyI (nKey s)).net=s∧nameB s=true:=by
 have hle:=keyI_le (nKey s)
 have h3:(keyI (nKey s)).kind≠3:=fun q=>by
  obtain ⟨x,this,_⟩:=keyI_3 q
  unfold nKey at this
  injection this with this _
  exact absurd this (by decide)
 have h2:(keyI (nKey s)).kind≠2:=fun q=>by
  obtain ⟨x,this,_⟩:=keyI_2 q
  unfold nKey at this
  injection this with this _
  exact absurd this (by decide)
 have h1:(keyI (nKey s)).kind=1:=by omega
 obtain ⟨q1,q2⟩:=keyI_1 h1
 have e:s=(keyI (nKey s)).net:=nKey_inj (q1.trans (by unfold nKey;rfl))
 refine ⟨h1,e.symm,?_⟩
 rw [e];exact q2
theorem kind_n_iff {s:List UInt8}:(keyI (nKey s)).kind≠0 ↔ nameB s=true :=
 ⟨fun h=>(kind_n h).2.2,fun h=>by rw [keyI_n h];exact Nat.one_ne_zero⟩
theorem addrV_small {x:List UInt8} {a:Nat} (h:addrV x=some a):a < 4294967296:=by
 unfold addrV at h
 split at h
 ·rename_i q
  have:=hexV_lt x 0 a h
  rw [q] at this
  simpa using this
 ·cases h
theorem kind3_chk {s:List UInt8} (h:(keyI s).kind=3):chk ((keyI s).ad:Int) 32=0:=by
 obtain ⟨x,_,_,_,h4⟩:=keyI_3 h
 have:=addrV_small h4
 have e:sz 32=1:=by decide
 exact chk_zero.2 ⟨by decide,by decide,by omega,by omega,by rw [e];omega⟩
theorem pfxV_chk {x:List UInt8} {a n:Nat} (h:pfxV x=some (a,n)):chk (a:Int) (n:Int)=0:=by
 unfold pfxV at h
 split at h
 ·split at h
  ·split at h
   ·rename_i q
    injection h with h
    injection h with h1 h2
    subst h1
    subst h2
    exact q
   ·cases h
  ·cases h
 ·cases h
theorem kind2_chk {s:List UInt8} (h:(keyI s).kind=2):chk ((keyI s).pa:Int) ((keyI s).pn:Int)=0:=by
 obtain ⟨x,_,_,_,h4⟩:=keyI_2 h
 exact pfxV_chk h4
theorem pfxOf_chk (l:List KV) (net:List UInt8):∀ q ∈ pfxOf l net,chk q.1 q.2=0:=by
 intro q hq
 unfold pfxOf at hq
 obtain ⟨p,_,h⟩:=List.mem_filterMap.1 hq
 unfold pfxAt at h
 split at h
 ·rename_i h1
  injection h with h
  subst h
  exact kind2_chk h1.1
 ·cases h
theorem pfxOf_len (l:List KV) (net:List UInt8):(pfxOf l net).length≤l.length:=List.length_filterMap_le _ _
theorem spots_len (l:List KV):(spotsOf l).length≤l.length:=List.length_filterMap_le _ _
theorem spots_at (l:List KV) {i:Nat} (hi:i < l.length) (h:(keyI l[i].1).kind=3) :
  ∃ hk:(spotsOf (l.take i)).length < (spotsOf l).length,(spotsOf l)[(spotsOf (l.take i)).length]=((keyI l[i].1).net,((keyI l[i].1).ad:Int)):=by
 have e:spotsOf l=spotsOf (l.take i)++((keyI l[i].1).net,((keyI l[i].1).ad:Int))::spotsOf (l.drop (i+1)):=by
  conv=>lhs;rw [← List.take_append_drop i l,List.drop_eq_getElem_cons hi]
  unfold spotsOf
  rw [List.filterMap_append,List.filterMap_cons]
  unfold spotAt
  rw [if_pos h]
 have h1:(spotsOf (l.take i)).length < (spotsOf l).length:=by rw [e];simp
 refine ⟨h1,?_⟩
 have e2:(spotsOf l)[(spotsOf (l.take i)).length]?=some ((keyI l[i].1).net,((keyI l[i].1).ad:Int)):=by
  conv=>lhs;rw [e]
  rw [List.getElem?_append_right (Nat.le_refl _)]
  simp
 rw [List.getElem?_eq_getElem h1] at e2
 injection e2
theorem getD_at (l:List KV) {i:Nat} (hi:i < l.length):l.getD i ([],[])=l[i]:=by
 rw [List.getD_eq_getElem?_getD,List.getElem?_eq_getElem hi];rfl
end Go.Proofs.YtkckcbhnnllkhaaGreatDoor
