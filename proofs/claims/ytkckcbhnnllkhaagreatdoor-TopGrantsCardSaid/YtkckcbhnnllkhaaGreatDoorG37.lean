/- Parts of the proof; conditions: as each theorem says. -/
import Derived.Test.YtkckcbhnnllkhaaGreatDoorG16
import Derived.Test.YtkckcbhnnllkhaaGreatDoorG28
import Derived.Test.YtkckcbhnnllkhaaGreatDoorG36
import Derived.Test.YtkckcbhnnllkhaaGreatDoorG10
set_option linter.unusedVariables false
set_option linter.unusedSimpArgs false
namespace Go.Proofs.YtkckcbhnnllkhaaGreatDoor
structure PCall where
 what:Int
 name:List UInt8
 pa:Int
 pn:Int
 len:Int
 ad:Int
 owner:List UInt8
structure PAns where
 pa:Int
 pn:Int
 ad:Int
 owner:List UInt8
 list:List Pf
def noAns:PAns:=⟨0,0,0,[],[]⟩
def PCall.pf (c:PCall):Pf:=(c.pa,c.pn)
def PCall.nk (c:PCall):List UInt8:=nKey c.name
def pkOf (net:List UInt8) (p:Pf):List UInt8:=pKey net p.1.toNat p.2.toNat
def akOf (net:List UInt8) (a:Int):List UInt8:=aKey net a.toNat
def PCall.pk (c:PCall):List UInt8:=pkOf c.name c.pf
def PCall.ak (c:PCall):List UInt8:=akOf c.name c.ad
def loK (k:UInt8) (net:List UInt8):List UInt8:=[k,47]++net++[47]
def hiK (k:UInt8) (net:List UInt8):List UInt8:=[k,47]++net++[48]
def callOwned (w:Int):Bool:=decide (w=1∨w=2∨w=4∨w=6∨w=7)
def callPf (w:Int):Bool:=decide (w=2∨w=3∨w=6∨w=7)
def callAd (w:Int):Bool:=decide (w=4∨w=5∨w=9)
def callFault (c:PCall):Int :=
 if c.what < 1∨9 < c.what then 1
 else if nameB c.name=false then 5
 else if callOwned c.what=true∧nameB c.owner=false then 5
 else if callPf c.what=true then chk c.pa c.pn
 else if callAd c.what=true∧isA c.ad=false then 1
 else 0
def Dk.has (g:Dk) (id:Int) (key:List UInt8):Bool × Int × Dk :=
 (decide ((g.get id key).2.1=0),if (g.get id key).2.1=4 then 0 else (g.get id key).2.1,(g.get id key).2.2)
theorem OverIs.uniq {F:List UInt8→List Ver} {own:List Chg} {lo hi:List UInt8} {n:Int} {L L':List KV} (h:OverIs F own lo hi n L) (h':OverIs F own lo hi n L'):L=L' :=
 h.ext h' (fun s _=>rfl)
theorem RangeO.uniq {g:Dk} {id:Int} {lo hi:List UInt8} {L L':List KV} (h:RangeO g id lo hi L) (h':RangeO g id lo hi L'):L=L':=by
 unfold RangeO at h h'
 cases ht:findT g.op id with
 | none=>rw [ht] at h h';exact h.trans h'.symm
 | some t =>
  rw [ht] at h h'
  simp only at h h'
  by_cases q:t.asked=100
  ·rw [if_pos q] at h h';exact h.trans h'.symm
  ·rw [if_neg q] at h h';exact h.uniq h'
noncomputable def Dk.rangeL (g:Dk) (id:Int) (lo hi:List UInt8):List KV:=open Classical in if h:∃ L,RangeO g id lo hi L then h.choose else []
theorem Dk.rangeL_eq {g:Dk} {id:Int} {lo hi:List UInt8} {L:List KV} (h:RangeO g id lo hi L):g.rangeL id lo hi=L:=by
 unfold Dk.rangeL
 rw [dif_pos ⟨L,h⟩]
 exact (Exists.choose_spec (⟨L,h⟩:∃ L,RangeO g id lo hi L)).uniq h
def Dk.allF (g:Dk) (id:Int) (k:UInt8) (net:List UInt8):Int × Dk:=g.range id (loK k net) (hiK k net)
noncomputable def Dk.allL (g:Dk) (id:Int) (k:UInt8) (net:List UInt8):List KV:=g.rangeL id (loK k net) (hiK k net)
def pfxO (x:KV):Option Pf:=if (keyI x.1).kind=2 then some (((keyI x.1).pa:Int),((keyI x.1).pn:Int)) else none
def adO (x:KV):Option Int:=if (keyI x.1).kind=3 then some ((keyI x.1).ad:Int) else none
def readAll {α:Type} (f:KV→Option α):List KV→Option (List α)
 | []=>some []
 | x::l=>match f x,readAll f l with
  | some a,some r=>some (a::r)
  | _,_=>none
def faultL {α:Type} (e:Int) (o:Option (List α)):Int:=if e≠0 then e else if o.isSome then 0 else 5
def listL {α:Type} (e:Int) (o:Option (List α)):List α:=if e≠0 then [] else o.getD []
noncomputable def Dk.pfxsE (g:Dk) (id:Int) (net:List UInt8):Int:=faultL (g.allF id 112 net).1 (readAll pfxO (g.allL id 112 net))
noncomputable def Dk.pfxsL (g:Dk) (id:Int) (net:List UInt8):List Pf:=listL (g.allF id 112 net).1 (readAll pfxO (g.allL id 112 net))
noncomputable def Dk.adsE (g:Dk) (id:Int) (net:List UInt8):Int:=faultL (g.allF id 97 net).1 (readAll adO (g.allL id 97 net))
noncomputable def Dk.adsL (g:Dk) (id:Int) (net:List UInt8):List Int:=listL (g.allF id 97 net).1 (readAll adO (g.allL id 97 net))
def inA (a:Int) (p:Pf):Bool:=inP a 32 p.1 p.2
def coveredB (a:Int) (l:List Pf) (but:Pf):Bool:=l.any fun p=>decide (p≠but) && inA a p
def withinL (p:Pf) (l:List Pf):List Pf:=l.filter fun q=>decide (q≠p) && inP q.1 q.2 p.1 p.2
def firstR (p:Pf) (l:List Pf) (n:Int):Int × Pf:=if greatFault p l n≠0 then (greatFault p l n,(0,0)) else match greatL p l n with
 | []=>(4,(0,0))
 | b::_=>(0,(b.1,n))
def nextR (p:Pf) (used:List Int):Int × Int:=if usedFault p.1 p.2 used≠0 then (usedFault p.1 p.2 used,0) else if uHi p.1 p.2 < nextOf p.1 p.2 used then (4,0) else (0,nextOf p.1 p.2 used)
def bestGoO (a:Int):Int × List UInt8→List KV→Int × List UInt8
 | b,[]=>b
 | b,x::l=>match pfxO x with
  | some p=>if inA a p=true∧b.1 < p.2 then bestGoO a (p.2,x.2) l else bestGoO a b l
  | none=>bestGoO a b l
def Dk.chg (g:Dk) (id:Int) (c:Chg) (a:PAns):PAns × Int × Dk:=(if (g.change id c).1=0 then a else noAns,(g.change id c).1,(g.change id c).2)
noncomputable def Dk.doAdd (g:Dk) (id:Int) (c:PCall):PAns × Int × Dk :=
 if (g.has id c.pk).2.1≠0 then (noAns,(g.has id c.pk).2.1,(g.has id c.pk).2.2)
 else if (g.has id c.pk).1 then (noAns,6,(g.has id c.pk).2.2)
 else (g.has id c.pk).2.2.chg id ⟨c.pk,c.owner,false⟩ noAns
noncomputable def Dk.doTake3 (g:Dk) (id:Int) (c:PCall) (l:List Pf):PAns × Int × Dk :=
 if g.adsE id c.name≠0 then (noAns,g.adsE id c.name,(g.allF id 97 c.name).2)
 else if (withinL c.pf l).length≠0 then (noAns,7,(g.allF id 97 c.name).2)
 else if (g.adsL id c.name).any (fun a=>inA a c.pf && !coveredB a l c.pf) then (noAns,7,(g.allF id 97 c.name).2)
 else (g.allF id 97 c.name).2.chg id ⟨c.pk,[],true⟩ noAns
noncomputable def Dk.doTake2 (g:Dk) (id:Int) (c:PCall):PAns × Int × Dk :=
 if g.pfxsE id c.name≠0 then (noAns,g.pfxsE id c.name,(g.allF id 112 c.name).2)
 else (g.allF id 112 c.name).2.doTake3 id c (g.pfxsL id c.name)
noncomputable def Dk.doTake (g:Dk) (id:Int) (c:PCall):PAns × Int × Dk :=
 if (g.has id c.pk).2.1≠0 then (noAns,(g.has id c.pk).2.1,(g.has id c.pk).2.2)
 else if (g.has id c.pk).1=false then (noAns,4,(g.has id c.pk).2.2)
 else (g.has id c.pk).2.2.doTake2 id c
noncomputable def Dk.doPlace2 (g:Dk) (id:Int) (c:PCall) (l:List Pf):PAns × Int × Dk :=
 if (g.has id c.ak).2.1≠0 then (noAns,(g.has id c.ak).2.1,(g.has id c.ak).2.2)
 else if coveredB c.ad l (0,-1)=false then (noAns,7,(g.has id c.ak).2.2)
 else if (g.has id c.ak).1 then (noAns,6,(g.has id c.ak).2.2)
 else (g.has id c.ak).2.2.chg id ⟨c.ak,c.owner,false⟩ noAns
noncomputable def Dk.doPlace (g:Dk) (id:Int) (c:PCall):PAns × Int × Dk :=
 if g.pfxsE id c.name≠0 then (noAns,g.pfxsE id c.name,(g.allF id 112 c.name).2)
 else (g.allF id 112 c.name).2.doPlace2 id c (g.pfxsL id c.name)
noncomputable def Dk.doLeave (g:Dk) (id:Int) (c:PCall):PAns × Int × Dk :=
 if (g.has id c.ak).2.1≠0 then (noAns,(g.has id c.ak).2.1,(g.has id c.ak).2.2)
 else if (g.has id c.ak).1=false then (noAns,4,(g.has id c.ak).2.2)
 else (g.has id c.ak).2.2.chg id ⟨c.ak,[],true⟩ noAns
noncomputable def Dk.doNextP2 (g:Dk) (id:Int) (c:PCall) (l:List Pf):PAns × Int × Dk :=
 if c.pf ∉ l then (noAns,4,g)
 else if (firstR c.pf (withinL c.pf l) c.len).1≠0 then (noAns,(firstR c.pf (withinL c.pf l) c.len).1,g)
 else if (firstR c.pf (withinL c.pf l) c.len).2=c.pf then (noAns,6,g)
 else g.chg id ⟨pkOf c.name (firstR c.pf (withinL c.pf l) c.len).2,c.owner,false⟩ ⟨(firstR c.pf (withinL c.pf l) c.len).2.1,(firstR c.pf (withinL c.pf l) c.len).2.2,0,[],[]⟩
noncomputable def Dk.doNextP (g:Dk) (id:Int) (c:PCall):PAns × Int × Dk :=
 if g.pfxsE id c.name≠0 then (noAns,g.pfxsE id c.name,(g.allF id 112 c.name).2)
 else (g.allF id 112 c.name).2.doNextP2 id c (g.pfxsL id c.name)
noncomputable def Dk.doNextA3 (g:Dk) (id:Int) (c:PCall) (used:List Int):PAns × Int × Dk :=
 if (nextR c.pf used).1≠0 then (noAns,(nextR c.pf used).1,g)
 else g.chg id ⟨akOf c.name (nextR c.pf used).2,c.owner,false⟩ ⟨0,0,(nextR c.pf used).2,[],[]⟩
noncomputable def Dk.doNextA2 (g:Dk) (id:Int) (c:PCall) (l:List Pf):PAns × Int × Dk :=
 if c.pf ∉ l then (noAns,4,g)
 else if g.adsE id c.name≠0 then (noAns,g.adsE id c.name,(g.allF id 97 c.name).2)
 else (g.allF id 97 c.name).2.doNextA3 id c ((g.adsL id c.name).filter fun a=>inA a c.pf)
noncomputable def Dk.doNextA (g:Dk) (id:Int) (c:PCall):PAns × Int × Dk :=
 if g.pfxsE id c.name≠0 then (noAns,g.pfxsE id c.name,(g.allF id 112 c.name).2)
 else (g.allF id 112 c.name).2.doNextA2 id c (g.pfxsL id c.name)
noncomputable def Dk.doList (g:Dk) (id:Int) (c:PCall):PAns × Int × Dk :=
 (⟨0,0,0,[],g.pfxsL id c.name⟩,g.pfxsE id c.name,(g.allF id 112 c.name).2)
noncomputable def Dk.doWho2 (g:Dk) (id:Int) (c:PCall):PAns × Int × Dk :=
 if g.pfxsE id c.name≠0 then (noAns,g.pfxsE id c.name,(g.allF id 112 c.name).2)
 else if (bestGoO c.ad (-1,[]) (g.allL id 112 c.name)).1 < 0 then (noAns,4,(g.allF id 112 c.name).2)
 else (⟨0,0,0,(bestGoO c.ad (-1,[]) (g.allL id 112 c.name)).2,[]⟩,0,(g.allF id 112 c.name).2)
noncomputable def Dk.doWho (g:Dk) (id:Int) (c:PCall):PAns × Int × Dk :=
 if (g.get id c.ak).2.1=0 then (⟨0,0,0,(g.get id c.ak).1,[]⟩,0,(g.get id c.ak).2.2)
 else if (g.get id c.ak).2.1≠4 then (noAns,(g.get id c.ak).2.1,(g.get id c.ak).2.2)
 else (g.get id c.ak).2.2.doWho2 id c
noncomputable def Dk.do2 (g:Dk) (id:Int) (c:PCall):PAns × Int × Dk :=
 if c.what=2 then g.doAdd id c else if c.what=3 then g.doTake id c else if c.what=4 then g.doPlace id c else if c.what=5 then g.doLeave id c
 else if c.what=6 then g.doNextP id c else if c.what=7 then g.doNextA id c else if c.what=8 then g.doList id c else g.doWho id c
noncomputable def Dk.do1 (g:Dk) (id:Int) (c:PCall):PAns × Int × Dk :=
 if (g.has id c.nk).2.1≠0 then (noAns,(g.has id c.nk).2.1,(g.has id c.nk).2.2)
 else if c.what=1 then (if (g.has id c.nk).1 then (noAns,6,(g.has id c.nk).2.2) else (g.has id c.nk).2.2.chg id ⟨c.nk,c.owner,false⟩ noAns)
 else if (g.has id c.nk).1=false then (noAns,4,(g.has id c.nk).2.2)
 else (g.has id c.nk).2.2.do2 id c
noncomputable def Dk.doC (g:Dk) (id:Int) (c:PCall):PAns × Int × Dk:=if callFault c≠0 then (noAns,callFault c,g) else g.do1 id c
structure St where
 asked:Int
 keys:List (List UInt8)
 spans:List (List UInt8 × List UInt8)
 own:List Chg
def Tr.st (t:Tr):St:=⟨t.asked,t.keys,t.spans,t.own⟩
def Tr.put (t:Tr) (s:St):Tr:={ t with asked:=s.asked,keys:=s.keys,spans:=s.spans,own:=s.own }
abbrev Base:=List UInt8→Option (List UInt8)
def seeB (β:Base) (own:List Chg) (s:List UInt8):Option (List UInt8):=match findO own s with
 | some c=>if c.gone then none else some c.val
 | none=>β s
def getB (β:Base) (own:List Chg) (s:List UInt8):List UInt8 × Int:=match seeB β own s with
 | some v=>(v,0)
 | none=>([],4)
structure ViewIs (V:Base) (lo hi:List UInt8) (L:List KV):Prop where
 rise:Rise Prod.fst L
 mem:∀ s v,(s,v) ∈ L ↔ inB lo hi s=true∧V s=some v
noncomputable def rangeB (V:Base) (lo hi:List UInt8):List KV:=open Classical in if h:∃ L,ViewIs V lo hi L then h.choose else []
theorem ViewIs.uniq {V V':Base} {lo hi:List UInt8} {L L':List KV} (h:ViewIs V lo hi L) (h':ViewIs V' lo hi L') (e:∀ s,inB lo hi s=true→V s=V' s):L=L':=by
 refine Rise.ext h.rise h'.rise (fun x=>?_)
 obtain ⟨s,v⟩:=x
 rw [h.mem,h'.mem]
 constructor
 ·rintro ⟨h1,h2⟩;exact ⟨h1,by rw [← e s h1];exact h2⟩
 ·rintro ⟨h1,h2⟩;exact ⟨h1,by rw [e s h1];exact h2⟩
theorem ViewIs.cast {V V':Base} {lo hi:List UInt8} {L:List KV} (h:ViewIs V lo hi L) (e:∀ s,inB lo hi s=true→V s=V' s):ViewIs V' lo hi L :=
 ⟨h.rise,fun s v=>by
  rw [h.mem]
  constructor
  ·rintro ⟨h1,h2⟩;exact ⟨h1,by rw [← e s h1];exact h2⟩
  ·rintro ⟨h1,h2⟩;exact ⟨h1,by rw [e s h1];exact h2⟩⟩
theorem rangeB_eq {V:Base} {lo hi:List UInt8} {L:List KV} (h:ViewIs V lo hi L):rangeB V lo hi=L:=by
 unfold rangeB
 rw [dif_pos ⟨L,h⟩]
 exact (Exists.choose_spec (⟨L,h⟩:∃ L,ViewIs V lo hi L)).uniq h (fun _ _=>rfl)
theorem rangeB_congr {V V':Base} {lo hi:List UInt8} (e:∀ s,inB lo hi s=true→V s=V' s):rangeB V lo hi=rangeB V' lo hi:=by
 by_cases h:∃ L,ViewIs V lo hi L
 ·obtain ⟨L,h⟩:=h
  rw [rangeB_eq h,rangeB_eq (h.cast e)]
 ·have h':¬ ∃ L,ViewIs V' lo hi L:=fun ⟨L,q⟩=>h ⟨L,q.cast (fun s hs=>(e s hs).symm)⟩
  unfold rangeB
  rw [dif_neg h,dif_neg h']
inductive DP (α:Type) where
 | ret (a:α):DP α
 | get (key:List UInt8) (k:List UInt8 × Int→DP α):DP α
 | range (lo hi:List UInt8) (k:Int × List KV→DP α):DP α
 | chg (c:Chg) (k:Int→DP α):DP α
def DP.bind {α β:Type}:DP α→(α→DP β)→DP β
 | .ret a,f=>f a
 | .get s k,f=>.get s fun x=>(k x).bind f
 | .range lo hi k,f=>.range lo hi fun x=>(k x).bind f
 | .chg c k,f=>.chg c fun x=>(k x).bind f
noncomputable def DP.run {α:Type}:DP α→Int→Dk→α × Dk
 | .ret a,id,g=>(a,g)
 | .get s k,id,g=>(k ((g.get id s).1,(g.get id s).2.1)).run id (g.get id s).2.2
 | .range lo hi k,id,g=>(k ((g.range id lo hi).1,g.rangeL id lo hi)).run id (g.range id lo hi).2
 | .chg c k,id,g=>(k (g.change id c).1).run id (g.change id c).2
theorem DP.run_bind {α β:Type} (f:α→DP β) (id:Int):∀ (p:DP α) (g:Dk),(p.bind f).run id g=(f (p.run id g).1).run id (p.run id g).2
 | .ret a,g=>rfl
 | .get s k,g=>DP.run_bind f id (k ((g.get id s).1,(g.get id s).2.1)) (g.get id s).2.2
 | .range lo hi k,g=>DP.run_bind f id (k ((g.range id lo hi).1,g.rangeL id lo hi)) (g.range id lo hi).2
 | .chg c k,g=>DP.run_bind f id (k (g.change id c).1) (g.change id c).2
def St.get (β:Base) (t:St) (s:List UInt8):(List UInt8 × Int) × St :=
 if keyB s=false then (([],2),t) else if t.asked=100 then (([],3),t) else (getB β t.own s,{ t with asked:=t.asked+1,keys:=t.keys++[s] })
noncomputable def St.range (β:Base) (t:St) (lo hi:List UInt8):(Int × List KV) × St :=
 if t.asked=100 then ((3,[]),t) else ((0,rangeB (seeB β t.own) lo hi),{ t with asked:=t.asked+1,spans:=t.spans++[(lo,hi)] })
def St.change (t:St) (c:Chg):Int × St :=
 if keyB c.key=false∨12 < c.val.length then (2,t) else if findO t.own c.key=none∧t.own.length=20 then (3,t) else (0,{ t with own:=insC c t.own })
noncomputable def DP.runS {α:Type} (β:Base):DP α→St→α × St
 | .ret a,t=>(a,t)
 | .get s k,t=>(k (t.get β s).1).runS β (t.get β s).2
 | .range lo hi k,t=>(k (t.range β lo hi).1).runS β (t.range β lo hi).2
 | .chg c k,t=>(k (t.change c).1).runS β (t.change c).2
theorem DP.runS_bind {α γ:Type} (f:α→DP γ) (β:Base):∀ (p:DP α) (t:St),(p.bind f).runS β t=(f (p.runS β t).1).runS β (p.runS β t).2
 | .ret a,t=>rfl
 | .get s k,t=>DP.runS_bind f β (k (t.get β s).1) (t.get β s).2
 | .range lo hi k,t=>DP.runS_bind f β (k (t.range β lo hi).1) (t.range β lo hi).2
 | .chg c k,t=>DP.runS_bind f β (k (t.change c).1) (t.change c).2
structure StLe (a b:St):Prop where
 keys:∀ s ∈ a.keys,s ∈ b.keys
 spans:∀ p ∈ a.spans,p ∈ b.spans
theorem StLe.refl (a:St):StLe a a:=⟨fun _ h=>h,fun _ h=>h⟩
theorem StLe.trans {a b c:St} (h:StLe a b) (k:StLe b c):StLe a c:=⟨fun s q=>k.keys s (h.keys s q),fun s q=>k.spans s (h.spans s q)⟩
theorem St.get_le (β:Base) (t:St) (s:List UInt8):StLe t (t.get β s).2:=by
 unfold St.get
 split
 ·exact StLe.refl _
 ·split
  ·exact StLe.refl _
  ·exact ⟨fun x h=>List.mem_append.2 (.inl h),fun x h=>h⟩
theorem St.range_le (β:Base) (t:St) (lo hi:List UInt8):StLe t (t.range β lo hi).2:=by
 unfold St.range
 split
 ·exact StLe.refl _
 ·exact ⟨fun x h=>h,fun x h=>List.mem_append.2 (.inl h)⟩
theorem St.change_le (t:St) (c:Chg):StLe t (t.change c).2:=by
 unfold St.change
 split
 ·exact StLe.refl _
 ·split
  ·exact StLe.refl _
  ·exact ⟨fun x h=>h,fun x h=>h⟩
theorem DP.runS_le {α:Type} (β:Base):∀ (p:DP α) (t:St),StLe t (p.runS β t).2
 | .ret a,t=>StLe.refl _
 | .get s k,t=>(t.get_le β s).trans (DP.runS_le β (k (t.get β s).1) (t.get β s).2)
 | .range lo hi k,t=>(t.range_le β lo hi).trans (DP.runS_le β (k (t.range β lo hi).1) (t.range β lo hi).2)
 | .chg c k,t=>(t.change_le c).trans (DP.runS_le β (k (t.change c).1) (t.change c).2)
def AgreeB (β β':Base) (t:St):Prop:=(∀ s ∈ t.keys,β s=β' s)∧∀ p ∈ t.spans,∀ s,inB p.1 p.2 s=true→β s=β' s
theorem AgreeB.le {β β':Base} {a b:St} (h:AgreeB β β' b) (k:StLe a b):AgreeB β β' a:=⟨fun s q=>h.1 s (k.keys s q),fun p q=>h.2 p (k.spans p q)⟩
theorem seeB_congr {β β':Base} (own:List Chg) {s:List UInt8} (h:β s=β' s):seeB β own s=seeB β' own s:=by
 unfold seeB
 split
 ·rfl
 ·exact h
theorem St.get_agree {β β':Base} {t:St} {s:List UInt8} (h:AgreeB β β' (t.get β s).2):t.get β' s=t.get β s:=by
 unfold St.get at h ⊢
 by_cases h1:keyB s=false
 ·rw [if_pos h1,if_pos h1]
 ·rw [if_neg h1] at h
  rw [if_neg h1,if_neg h1]
  by_cases h2:t.asked=100
  ·rw [if_pos h2,if_pos h2]
  ·rw [if_neg h2] at h
   rw [if_neg h2,if_neg h2]
   have:=seeB_congr t.own (h.1 s (List.mem_append.2 (.inr (List.mem_singleton.2 rfl))))
   unfold getB
   rw [this]
theorem St.range_agree {β β':Base} {t:St} {lo hi:List UInt8} (h:AgreeB β β' (t.range β lo hi).2):t.range β' lo hi=t.range β lo hi:=by
 unfold St.range at h ⊢
 by_cases h2:t.asked=100
 ·rw [if_pos h2,if_pos h2]
 ·rw [if_neg h2] at h
  rw [if_neg h2,if_neg h2]
  rw [rangeB_congr (V:=seeB β' t.own) (V':=seeB β t.own) (fun s hs=>(seeB_congr t.own (h.2 (lo,hi) (List.mem_append.2 (.inr (List.mem_singleton.2 rfl))) s hs)).symm)]
theorem DP.runS_agree {α:Type} {β β':Base}:∀ (p:DP α) (t:St),AgreeB β β' (p.runS β t).2→p.runS β' t=p.runS β t
 | .ret a,t,h=>rfl
 | .get s k,t,h=>by
  have e:=St.get_agree (h.le (DP.runS_le β (k (t.get β s).1) (t.get β s).2))
  show (k (t.get β' s).1).runS β' (t.get β' s).2=_
  rw [e]
  exact DP.runS_agree (k (t.get β s).1) (t.get β s).2 h
 | .range lo hi k,t,h=>by
  have e:=St.range_agree (h.le (DP.runS_le β (k (t.range β lo hi).1) (t.range β lo hi).2))
  show (k (t.range β' lo hi).1).runS β' (t.range β' lo hi).2=_
  rw [e]
  exact DP.runS_agree (k (t.range β lo hi).1) (t.range β lo hi).2 h
 | .chg c k,t,h=>DP.runS_agree (k (t.change c).1) (t.change c).2 h
def baseOf (g:Dk) (t:Tr):Base:=fun s=>tell g.F s t.sees
def Dk.set (g:Dk) (t:Tr):Dk:={ g with op:=setT g.op t }
theorem Tr.put_st (t:Tr):t.put t.st=t:=rfl
theorem Tr.put_id (t:Tr) (s:St):(t.put s).id=t.id:=rfl
theorem setT_same {l:List Tr} {t:Tr} (hn:(l.map Tr.id).Nodup) (h:findT l t.id=some t):setT l t=l:=by
 unfold setT
 conv=>rhs;rw [← List.map_id l]
 apply List.map_congr_left
 intro u hu
 split
 ·rename_i e
  have:=(findT_iff hn (id:=t.id) (t:=u)).2 ⟨hu,e⟩
  rw [h] at this
  exact Option.some.inj this
 ·rfl
theorem setT_set (l:List Tr) (t u:Tr) (e:t.id=u.id):setT (setT l t) u=setT l u:=by
 unfold setT
 rw [List.map_map]
 apply List.map_congr_left
 intro x _
 simp only [Function.comp]
 by_cases h:x.id=t.id
 ·rw [if_pos h,if_pos e,if_pos (h.trans e)]
 ·rw [if_neg h]
theorem Dk.get_st {g:Dk} {id:Int} {t:Tr} (hn:(g.op.map Tr.id).Nodup) (h:findT g.op id=some t) (s:List UInt8) :
  ((g.get id s).1,(g.get id s).2.1)=(t.st.get (baseOf g t) s).1∧(g.get id s).2.2=g.set (t.put (t.st.get (baseOf g t) s).2):=by
 have hid:=(findT_mem h).2
 have hs:g.set t=g:=by unfold Dk.set;rw [setT_same hn (by rw [hid];exact h)]
 unfold Dk.get St.get
 rw [h]
 simp only
 split
 ·exact ⟨rfl,hs.symm⟩
 ·by_cases h2:t.asked=100
  ·rw [if_pos h2,if_pos (show t.st.asked=100 from h2)]
   exact ⟨rfl,hs.symm⟩
  ·rw [if_neg h2,if_neg (show ¬ t.st.asked=100 from h2)]
   exact ⟨rfl,rfl⟩
open Classical in
theorem Dk.range_st {g:Dk} {id:Int} {t:Tr} (hn:(g.op.map Tr.id).Nodup) (h:findT g.op id=some t) (lo hi:List UInt8) :
  ((g.range id lo hi).1,g.rangeL id lo hi)=(t.st.range (baseOf g t) lo hi).1∧(g.range id lo hi).2=g.set (t.put (t.st.range (baseOf g t) lo hi).2):=by
 have hid:=(findT_mem h).2
 have hs:g.set t=g:=by unfold Dk.set;rw [setT_same hn (by rw [hid];exact h)]
 have hv:∀ L,ViewIs (seeB (baseOf g t) t.own) lo hi L ↔ OverIs g.F t.own lo hi t.sees L:=fun L=>⟨fun q=>⟨q.rise,q.mem⟩,fun q=>⟨q.rise,q.mem⟩⟩
 unfold Dk.range St.range Dk.rangeL RangeO
 rw [h]
 simp only
 by_cases h2:t.asked=100
 ·rw [if_pos h2,if_pos (show t.st.asked=100 from h2)]
  refine ⟨?_,hs.symm⟩
  congr 1
  rw [dif_pos ⟨[],by rw [if_pos h2]⟩]
  have:=Exists.choose_spec (⟨[],by rw [if_pos h2]⟩:∃ L:List KV,if t.asked=100 then L=[] else OverIs g.F t.own lo hi t.sees L)
  rwa [if_pos h2] at this
 ·rw [if_neg h2,if_neg (show ¬ t.st.asked=100 from h2)]
  refine ⟨?_,rfl⟩
  congr 1
  unfold rangeB
  simp only [if_neg h2]
  have he:(∃ L,ViewIs (seeB (baseOf g t) t.own) lo hi L) ↔ ∃ L,OverIs g.F t.own lo hi t.sees L:=⟨fun ⟨L,q⟩=>⟨L,(hv L).1 q⟩,fun ⟨L,q⟩=>⟨L,(hv L).2 q⟩⟩
  by_cases hx:∃ L,OverIs g.F t.own lo hi t.sees L
  ·obtain ⟨L,q⟩:=hx
   have e1:rangeB (seeB (baseOf g t) t.own) lo hi=L:=rangeB_eq ((hv L).2 q)
   have e2:(if h:∃ L,OverIs g.F t.own lo hi t.sees L then h.choose else [])=L:=by
    rw [dif_pos ⟨L,q⟩]
    exact (Exists.choose_spec (⟨L,q⟩:∃ L,OverIs g.F t.own lo hi t.sees L)).uniq q
   unfold rangeB at e1
   exact e2.trans e1.symm
  ·rw [dif_neg hx]
   split
   ·rename_i q
    exact absurd (he.1 q) hx
   ·rfl
theorem Dk.change_st {g:Dk} {id:Int} {t:Tr} (hn:(g.op.map Tr.id).Nodup) (h:findT g.op id=some t) (c:Chg) :
  (g.change id c).1=(t.st.change c).1∧(g.change id c).2=g.set (t.put (t.st.change c).2):=by
 have hid:=(findT_mem h).2
 have hs:g.set t=g:=by unfold Dk.set;rw [setT_same hn (by rw [hid];exact h)]
 unfold Dk.change St.change
 rw [h]
 simp only
 split
 ·exact ⟨rfl,hs.symm⟩
 ·by_cases h2:findO t.own c.key=none∧t.own.length=20
  ·rw [if_pos h2,if_pos (show findO t.st.own c.key=none∧t.st.own.length=20 from h2)]
   exact ⟨rfl,hs.symm⟩
  ·rw [if_neg h2,if_neg (show ¬ (findO t.st.own c.key=none∧t.st.own.length=20) from h2)]
   exact ⟨rfl,rfl⟩
theorem DP.run_st {α:Type} (id:Int):∀ (p:DP α) (g:Dk) (t:Tr),(g.op.map Tr.id).Nodup→findT g.op id=some t →
  p.run id g=((p.runS (baseOf g t) t.st).1,g.set (t.put (p.runS (baseOf g t) t.st).2)):=by
 have step:∀ (g:Dk) (t:Tr) (s:St),(g.op.map Tr.id).Nodup→findT g.op id=some t→((g.set (t.put s)).op.map Tr.id).Nodup∧findT (g.set (t.put s)).op id=some (t.put s)∧baseOf (g.set (t.put s)) (t.put s)=baseOf g t∧(t.put s).st=s∧∀ s',(g.set (t.put s)).set ((t.put s).put s')=g.set (t.put s'):=by
  intro g t s hn h
  have hid:=(findT_mem h).2
  refine ⟨by unfold Dk.set;rw [show ({ g with op:=setT g.op (t.put s) }:Dk).op=setT g.op (t.put s) from rfl,setT_ids];exact hn,?_,rfl,rfl,fun s'=>?_⟩
  ·show findT (setT g.op (t.put s)) id=_
   have:=findT_set_same (l:=g.op) (u:=t.put s) (t:=t) (by rw [Tr.put_id,hid];exact h)
   rwa [Tr.put_id,hid] at this
  ·show ({ g with op:=setT (setT g.op (t.put s)) ((t.put s).put s') }:Dk)={ g with op:=setT g.op (t.put s') }
   rw [setT_set g.op (t.put s) ((t.put s).put s') rfl]
   rfl
 intro p
 induction p with
 | ret a =>
  intro g t hn h
  have hid:=(findT_mem h).2
  show (a,g)=(a,g.set (t.put t.st))
  rw [Tr.put_st]
  unfold Dk.set
  rw [setT_same hn (by rw [hid];exact h)]
 | get s k ih =>
  intro g t hn h
  obtain ⟨e1,e2⟩:=Dk.get_st hn h s
  obtain ⟨a1,a2,a3,a4,a5⟩:=step g t (t.st.get (baseOf g t) s).2 hn h
  show (k ((g.get id s).1,(g.get id s).2.1)).run id (g.get id s).2.2=_
  rw [e1,e2,ih _ _ _ a1 a2,a3,a4,a5]
  rfl
 | range lo hi k ih =>
  intro g t hn h
  obtain ⟨e1,e2⟩:=Dk.range_st hn h lo hi
  obtain ⟨a1,a2,a3,a4,a5⟩:=step g t (t.st.range (baseOf g t) lo hi).2 hn h
  show (k ((g.range id lo hi).1,g.rangeL id lo hi)).run id (g.range id lo hi).2=_
  rw [e1,e2,ih _ _ _ a1 a2,a3,a4,a5]
  rfl
 | chg c k ih =>
  intro g t hn h
  obtain ⟨e1,e2⟩:=Dk.change_st hn h c
  obtain ⟨a1,a2,a3,a4,a5⟩:=step g t (t.st.change c).2 hn h
  show (k (g.change id c).1).run id (g.change id c).2=_
  rw [e1,e2,ih _ _ _ a1 a2,a3,a4,a5]
  rfl
def hasP (s:List UInt8):DP (Bool × Int):=.get s fun r=>.ret (decide (r.2=0),if r.2=4 then 0 else r.2)
def pfxsP (net:List UInt8):DP (Int × List Pf):=.range (loK 112 net) (hiK 112 net) fun r=>.ret (faultL r.1 (readAll pfxO r.2),listL r.1 (readAll pfxO r.2))
def adsP (net:List UInt8):DP (Int × List Int):=.range (loK 97 net) (hiK 97 net) fun r=>.ret (faultL r.1 (readAll adO r.2),listL r.1 (readAll adO r.2))
def chgP (c:Chg) (a:PAns):DP (PAns × Int):=.chg c fun e=>.ret (if e=0 then a else noAns,e)
def noP (e:Int):DP (PAns × Int):=.ret (noAns,e)
def addP (c:PCall):DP (PAns × Int):=(hasP c.pk).bind fun h=>if h.2≠0 then noP h.2 else if h.1 then noP 6 else chgP ⟨c.pk,c.owner,false⟩ noAns
def takeP (c:PCall):DP (PAns × Int):=(hasP c.pk).bind fun h=>if h.2≠0 then noP h.2 else if h.1=false then noP 4 else
 (pfxsP c.name).bind fun l=>if l.1≠0 then noP l.1 else (adsP c.name).bind fun a=>if a.1≠0 then noP a.1
  else if (withinL c.pf l.2).length≠0 then noP 7 else if a.2.any (fun a=>inA a c.pf && !coveredB a l.2 c.pf) then noP 7 else chgP ⟨c.pk,[],true⟩ noAns
def placeP (c:PCall):DP (PAns × Int):=(pfxsP c.name).bind fun l=>if l.1≠0 then noP l.1 else (hasP c.ak).bind fun h=>if h.2≠0 then noP h.2
 else if coveredB c.ad l.2 (0,-1)=false then noP 7 else if h.1 then noP 6 else chgP ⟨c.ak,c.owner,false⟩ noAns
def leaveP (c:PCall):DP (PAns × Int):=(hasP c.ak).bind fun h=>if h.2≠0 then noP h.2 else if h.1=false then noP 4 else chgP ⟨c.ak,[],true⟩ noAns
noncomputable def nextPP (c:PCall):DP (PAns × Int):=(pfxsP c.name).bind fun l=>if l.1≠0 then noP l.1 else if c.pf ∉ l.2 then noP 4
 else if (firstR c.pf (withinL c.pf l.2) c.len).1≠0 then noP (firstR c.pf (withinL c.pf l.2) c.len).1
 else if (firstR c.pf (withinL c.pf l.2) c.len).2=c.pf then noP 6
 else chgP ⟨pkOf c.name (firstR c.pf (withinL c.pf l.2) c.len).2,c.owner,false⟩ ⟨(firstR c.pf (withinL c.pf l.2) c.len).2.1,(firstR c.pf (withinL c.pf l.2) c.len).2.2,0,[],[]⟩
noncomputable def nextAP (c:PCall):DP (PAns × Int):=(pfxsP c.name).bind fun l=>if l.1≠0 then noP l.1 else if c.pf ∉ l.2 then noP 4 else
 (adsP c.name).bind fun a=>if a.1≠0 then noP a.1
 else if (nextR c.pf (a.2.filter fun a=>inA a c.pf)).1≠0 then noP (nextR c.pf (a.2.filter fun a=>inA a c.pf)).1
 else chgP ⟨akOf c.name (nextR c.pf (a.2.filter fun a=>inA a c.pf)).2,c.owner,false⟩ ⟨0,0,(nextR c.pf (a.2.filter fun a=>inA a c.pf)).2,[],[]⟩
def listP (c:PCall):DP (PAns × Int):=(pfxsP c.name).bind fun l=>.ret (⟨0,0,0,[],l.2⟩,l.1)
def whoP (c:PCall):DP (PAns × Int):=.get c.ak fun r=>if r.2=0 then .ret (⟨0,0,0,r.1,[]⟩,0) else if r.2≠4 then noP r.2
 else .range (loK 112 c.name) (hiK 112 c.name) fun q=>if faultL q.1 (readAll pfxO q.2)≠0 then noP (faultL q.1 (readAll pfxO q.2))
  else if (bestGoO c.ad (-1,[]) q.2).1 < 0 then noP 4 else .ret (⟨0,0,0,(bestGoO c.ad (-1,[]) q.2).2,[]⟩,0)
noncomputable def do2P (c:PCall):DP (PAns × Int) :=
 if c.what=2 then addP c else if c.what=3 then takeP c else if c.what=4 then placeP c else if c.what=5 then leaveP c
 else if c.what=6 then nextPP c else if c.what=7 then nextAP c else if c.what=8 then listP c else whoP c
noncomputable def doP (c:PCall):DP (PAns × Int):=if callFault c≠0 then noP (callFault c) else (hasP c.nk).bind fun h =>
 if h.2≠0 then noP h.2 else if c.what=1 then (if h.1 then noP 6 else chgP ⟨c.nk,c.owner,false⟩ noAns) else if h.1=false then noP 4 else do2P c
section
variable (g : Dk) (id : Int) (c : PCall)
def flat3 (r:(PAns × Int) × Dk):PAns × Int × Dk:=(r.1.1,r.1.2,r.2)
theorem has_run (s:List UInt8):(hasP s).run id g=(((g.has id s).1,(g.has id s).2.1),(g.has id s).2.2):=rfl
theorem pfxs_run (net:List UInt8):(pfxsP net).run id g=((g.pfxsE id net,g.pfxsL id net),(g.allF id 112 net).2):=rfl
theorem ads_run (net:List UInt8):(adsP net).run id g=((g.adsE id net,g.adsL id net),(g.allF id 97 net).2):=rfl
theorem flat_if (b:Prop) [Decidable b] (p q:DP (PAns × Int)):flat3 ((if b then p else q).run id g)=if b then flat3 (p.run id g) else flat3 (q.run id g):=by split <;> rfl
theorem flat_ite {b:Prop} [Decidable b] {p q:DP (PAns × Int)} {x y:PAns × Int × Dk} (g:Dk) (id:Int) (h1:flat3 (p.run id g)=x) (h2:flat3 (q.run id g)=y):flat3 ((if b then p else q).run id g)=if b then x else y:=by
 rw [flat_if,h1,h2]
theorem add_run:flat3 ((addP c).run id g)=g.doAdd id c:=by
 unfold addP Dk.doAdd
 repeat' (first | exact rfl | refine flat_ite _ _ ?_ ?_ | (rw [DP.run_bind];first | rw [has_run] | rw [pfxs_run] | rw [ads_run]))
theorem leave_run:flat3 ((leaveP c).run id g)=g.doLeave id c:=by
 unfold leaveP Dk.doLeave
 repeat' (first | exact rfl | refine flat_ite _ _ ?_ ?_ | (rw [DP.run_bind];first | rw [has_run] | rw [pfxs_run] | rw [ads_run]))
theorem take_run:flat3 ((takeP c).run id g)=g.doTake id c:=by
 unfold takeP Dk.doTake Dk.doTake2 Dk.doTake3
 repeat' (first | exact rfl | refine flat_ite _ _ ?_ ?_ | (rw [DP.run_bind];first | rw [has_run] | rw [pfxs_run] | rw [ads_run]))
theorem place_run:flat3 ((placeP c).run id g)=g.doPlace id c:=by
 unfold placeP Dk.doPlace Dk.doPlace2
 repeat' (first | exact rfl | refine flat_ite _ _ ?_ ?_ | (rw [DP.run_bind];first | rw [has_run] | rw [pfxs_run] | rw [ads_run]))
theorem nextP_run:flat3 ((nextPP c).run id g)=g.doNextP id c:=by
 unfold nextPP Dk.doNextP Dk.doNextP2
 repeat' (first | exact rfl | refine flat_ite _ _ ?_ ?_ | (rw [DP.run_bind];first | rw [has_run] | rw [pfxs_run] | rw [ads_run]))
theorem nextA_run:flat3 ((nextAP c).run id g)=g.doNextA id c:=by
 unfold nextAP Dk.doNextA Dk.doNextA2 Dk.doNextA3
 repeat' (first | exact rfl | refine flat_ite _ _ ?_ ?_ | (rw [DP.run_bind];first | rw [has_run] | rw [pfxs_run] | rw [ads_run]))
theorem list_run:flat3 ((listP c).run id g)=g.doList id c:=by
 unfold listP Dk.doList
 rw [DP.run_bind,pfxs_run]
 rfl
theorem who_run:flat3 ((whoP c).run id g)=g.doWho id c:=by
 unfold whoP Dk.doWho Dk.doWho2
 show flat3 ((if (g.get id c.ak).2.1=0 then _ else _:DP (PAns × Int)).run id (g.get id c.ak).2.2)=_
 refine flat_ite _ _ rfl (flat_ite _ _ rfl ?_)
 show flat3 ((if _≠0 then _ else _:DP (PAns × Int)).run id _)=_
 exact flat_ite _ _ rfl (flat_ite _ _ rfl rfl)
theorem do2_run:flat3 ((do2P c).run id g)=g.do2 id c:=by
 unfold do2P Dk.do2
 exact flat_ite _ _ (add_run g id c) (flat_ite _ _ (take_run g id c) (flat_ite _ _ (place_run g id c) (flat_ite _ _ (leave_run g id c) (flat_ite _ _ (nextP_run g id c) (flat_ite _ _ (nextA_run g id c) (flat_ite _ _ (list_run g id c) (who_run g id c)))))))
theorem doC_run:flat3 ((doP c).run id g)=g.doC id c:=by
 unfold doP Dk.doC Dk.do1
 refine flat_ite _ _ rfl ?_
 rw [DP.run_bind,has_run]
 exact flat_ite _ _ rfl (flat_ite _ _ (flat_ite _ _ rfl rfl) (flat_ite _ _ rfl (do2_run _ _ _)))
end
def DP.noChg {α:Type}:DP α→Prop
 | .ret _=>True
 | .get _ k=>∀ x,(k x).noChg
 | .range _ _ k=>∀ x,(k x).noChg
 | .chg _ _=>False
theorem DP.noChg_own {α:Type} (β:Base):∀ (p:DP α) (t:St),p.noChg→(p.runS β t).2.own=t.own
 | .ret _,t,_=>rfl
 | .get s k,t,h=>by
  have:=DP.noChg_own β (k (t.get β s).1) (t.get β s).2 (h _)
  show ((k (t.get β s).1).runS β (t.get β s).2).2.own=_
  rw [this]
  unfold St.get
  split
  ·rfl
  ·split <;> rfl
 | .range lo hi k,t,h=>by
  have:=DP.noChg_own β (k (t.range β lo hi).1) (t.range β lo hi).2 (h _)
  show ((k (t.range β lo hi).1).runS β (t.range β lo hi).2).2.own=_
  rw [this]
  unfold St.range
  split <;> rfl
 | .chg c k,t,h=>h.elim
theorem St.get_own (β:Base) (t:St) (s:List UInt8):(t.get β s).2.own=t.own:=by
 unfold St.get
 split
 ·rfl
 ·split <;> rfl
theorem St.range_own (β:Base) (t:St) (lo hi:List UInt8):(t.range β lo hi).2.own=t.own:=by
 unfold St.range
 split <;> rfl
theorem pfxsP_no (s:List UInt8):(pfxsP s).noChg:=fun _=>trivial
theorem doC_st {g:Dk} {id:Int} {t:Tr} (hn:(g.op.map Tr.id).Nodup) (h:findT g.op id=some t) (c:PCall) :
  g.doC id c=(((doP c).runS (baseOf g t) t.st).1.1,((doP c).runS (baseOf g t) t.st).1.2,g.set (t.put ((doP c).runS (baseOf g t) t.st).2)):=by
 rw [← doC_run,DP.run_st id (doP c) g t hn h]
 rfl
structure Hl where
 d:Dk
 op:List (List UInt8 × Int)
def findH (l:List (List UInt8 × Int)) (who:List UInt8):Option Int:=(l.find? (fun p=>p.1 == who)).map (·.2)
def eraseH (l:List (List UInt8 × Int)) (who:List UInt8):List (List UInt8 × Int):=l.filter (fun p=>!(p.1 == who))
def Hl.open (h:Hl) (who:List UInt8):Int × Hl :=
 if nameB who=false then (5,h) else if (findH h.op who).isSome then (6,h)
 else if h.d.begin.2.1≠0 then (h.d.begin.2.1,{ h with d:=h.d.begin.2.2 }) else (0,⟨h.d.begin.2.2,h.op++[(who,h.d.begin.1)]⟩)
noncomputable def Hl.ask (h:Hl) (who:List UInt8) (c:PCall):PAns × Int × Hl:=match findH h.op who with
 | none=>(noAns,4,h)
 | some id=>((h.d.doC id c).1,(h.d.doC id c).2.1,{ h with d:=(h.d.doC id c).2.2 })
noncomputable def Hl.close (h:Hl) (who:List UInt8):Int × Int × Hl:=match findH h.op who with
 | none=>(0,4,h)
 | some id=>((h.d.commit id).1,(h.d.commit id).2.1,⟨(h.d.commit id).2.2,eraseH h.op who⟩)
noncomputable def onceD (g:Dk) (id:Int) (c:PCall):PAns × Int × Int × Dk :=
 if (g.doC id c).2.1≠0 then (noAns,0,(g.doC id c).2.1,((g.doC id c).2.2.abort id).2)
 else if ((g.doC id c).2.2.commit id).2.1≠0 then (noAns,0,((g.doC id c).2.2.commit id).2.1,((g.doC id c).2.2.commit id).2.2)
 else ((g.doC id c).1,((g.doC id c).2.2.commit id).1,0,((g.doC id c).2.2.commit id).2.2)
noncomputable def Hl.once (h:Hl) (c:PCall):PAns × Int × Int × Hl :=
 if h.d.begin.2.1≠0 then (noAns,0,h.d.begin.2.1,{ h with d:=h.d.begin.2.2 })
 else ((onceD h.d.begin.2.2 h.d.begin.1 c).1,(onceD h.d.begin.2.2 h.d.begin.1 c).2.1,(onceD h.d.begin.2.2 h.d.begin.1 c).2.2.1,{ h with d:=(onceD h.d.begin.2.2 h.d.begin.1 c).2.2.2 })
def NoQ (r:PAns × Int × Dk):Prop:=r.2.1≠0→r.1=noAns
theorem NoQ.ite {b:Prop} [Decidable b] {x y:PAns × Int × Dk} (h1:NoQ x) (h2:NoQ y):NoQ (if b then x else y):=by split <;> assumption
theorem NoQ.no (e:Int) (g:Dk):NoQ (noAns,e,g):=fun _=>rfl
theorem NoQ.ok (a:PAns) (g:Dk):NoQ (a,0,g):=fun h=>absurd rfl h
theorem NoQ.chg (g:Dk) (id:Int) (c:Chg) (a:PAns):NoQ (g.chg id c a):=fun h=>by
 unfold Dk.chg at h ⊢
 exact if_neg h
theorem listL_no {α:Type} {e:Int} {o:Option (List α)} (h:faultL e o≠0):listL e o=[]:=by
 unfold faultL at h
 unfold listL
 by_cases he:e≠0
 ·rw [if_pos he]
 ·rw [if_neg he] at h ⊢
  cases o with
  | none=>rfl
  | some l=>exact absurd rfl h
theorem NoQ.list (g g':Dk) (id:Int) (net:List UInt8):NoQ (⟨0,0,0,[],g.pfxsL id net⟩,g.pfxsE id net,g'):=fun h=>by
 show (⟨0,0,0,[],g.pfxsL id net⟩:PAns)=noAns
 unfold Dk.pfxsL
 rw [listL_no h]
 rfl
theorem Dk.doC_no (g:Dk) (id:Int) (c:PCall):NoQ (g.doC id c):=by
 unfold Dk.doC Dk.do1 Dk.do2 Dk.doAdd Dk.doTake Dk.doTake2 Dk.doTake3 Dk.doPlace Dk.doPlace2 Dk.doLeave Dk.doNextP Dk.doNextP2 Dk.doNextA Dk.doNextA2 Dk.doNextA3 Dk.doList Dk.doWho Dk.doWho2
 repeat' (first | with_reducible exact NoQ.no _ _ | with_reducible exact NoQ.chg _ _ _ _ | with_reducible exact NoQ.list _ _ _ _ | with_reducible exact NoQ.ok _ _ | with_reducible refine NoQ.ite ?_ ?_)
open Go.RowKit
structure HStp where
 what:Int
 who:List UInt8
 n:Int
 call:PCall
instance:Inhabited HStp:=⟨⟨0,[],0,⟨0,[],0,0,0,0,[]⟩⟩⟩
def cellsH:List HStp→List Value
 | []=>[]
 | s::l=>.int .i64 s.what::txt s.who::.int .i64 s.n::.int .i64 s.call.what::txt s.call.name::.int .i64 s.call.pa::.int .i64 s.call.pn::.int .i64 s.call.len::.int .i64 s.call.ad::txt s.call.owner::cellsH l
theorem cellsH_length:∀ l,(cellsH l).length=l.length * 10
 | []=>rfl
 | s::l=>by simp [cellsH,cellsH_length l];omega
theorem cellsH_at:∀ (l:List HStp) (k:Nat) (h:k < l.length),(cellsH l)[10 * k]?=some (.int .i64 l[k].what)∧(cellsH l)[10 * k+1]?=some (txt l[k].who)∧(cellsH l)[10 * k+2]?=some (.int .i64 l[k].n) ∧
  (cellsH l)[10 * k+3]?=some (.int .i64 l[k].call.what)∧(cellsH l)[10 * k+4]?=some (txt l[k].call.name)∧(cellsH l)[10 * k+5]?=some (.int .i64 l[k].call.pa)∧(cellsH l)[10 * k+6]?=some (.int .i64 l[k].call.pn)∧(cellsH l)[10 * k+7]?=some (.int .i64 l[k].call.len)∧(cellsH l)[10 * k+8]?=some (.int .i64 l[k].call.ad)∧(cellsH l)[10 * k+9]?=some (txt l[k].call.owner)
 | s::l,0,_=>by simp [cellsH]
 | s::l,k+1,h=>by
  have ih:=cellsH_at l k (by simpa using h)
  have e1:10 * (k+1)=10 * k+1+1+1+1+1+1+1+1+1+1:=by omega
  rw [e1]
  simpa [cellsH] using ih
structure PCallW (c:PCall):Prop where
 what:(Lit.int .i64 c.what).wf=true
 name:c.name.length≤9223372036854775807
 pa:(Lit.int .i64 c.pa).wf=true
 pn:(Lit.int .i64 c.pn).wf=true
 len:(Lit.int .i64 c.len).wf=true
 ad:(Lit.int .i64 c.ad).wf=true
 owner:c.owner.length≤9223372036854775807
structure HStpOk (s:HStp):Prop where
 who:s.who.length≤9223372036854775807
 n:(Lit.int .i64 s.n).wf=true
 call:PCallW s.call
theorem Rd.hstp {w:World} {B:Nat} {A:Option Addr} {l:List HStp} (h:Rd w B A (cellsH l)) {k:Nat} (hk:k < l.length) :
  ∃ b off,A=some ⟨b,off,none⟩∧b < B∧w.cell? ⟨b,off+k * 10,none⟩=some (.int .i64 l[k].what)∧w.cell? ⟨b,off+k * 10+1,none⟩=some (txt l[k].who)∧w.cell? ⟨b,off+k * 10+2,none⟩=some (.int .i64 l[k].n) ∧
   w.cell? ⟨b,off+k * 10+3,none⟩=some (.int .i64 l[k].call.what)∧w.cell? ⟨b,off+k * 10+4,none⟩=some (txt l[k].call.name)∧w.cell? ⟨b,off+k * 10+5,none⟩=some (.int .i64 l[k].call.pa)∧w.cell? ⟨b,off+k * 10+6,none⟩=some (.int .i64 l[k].call.pn) ∧
   w.cell? ⟨b,off+k * 10+7,none⟩=some (.int .i64 l[k].call.len)∧w.cell? ⟨b,off+k * 10+8,none⟩=some (.int .i64 l[k].call.ad)∧w.cell? ⟨b,off+k * 10+9,none⟩=some (txt l[k].call.owner):=by
 obtain ⟨b,off,e,hb,hc⟩:=h (fun h=>by have:=cellsH_length l;rw [h] at this;simp at this;omega)
 rw [Nat.mul_comm k 10]
 obtain ⟨h1,h2,h3,h4,h5,h6,h7,h8,h9,h10⟩:=cellsH_at l k hk
 exact ⟨b,off,e,hb,hc _ _ h1,hc _ _ h2,hc _ _ h3,hc _ _ h4,hc _ _ h5,hc _ _ h6,hc _ _ h7,hc _ _ h8,hc _ _ h9,hc _ _ h10⟩
end Go.Proofs.YtkckcbhnnllkhaaGreatDoor
