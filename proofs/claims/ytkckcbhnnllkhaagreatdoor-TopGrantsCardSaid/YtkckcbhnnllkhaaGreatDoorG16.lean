/- Parts of the proof; conditions: as each theorem says. -/
import Derived.Test.YtkckcbhnnllkhaaGreatDoorG12
import Derived.Test.YtkckcbhnnllkhaaGreatDoorG15
import Derived.Deep.RegionHeld3
import Derived.Deep.DrawnRows
import Derived.Test.YtkckcbhnnllkhaaGreatDoorG10
import Derived.Test.YtkckcbhnnllkhaaGreatDoorG14
set_option linter.unusedVariables false
set_option linter.unusedSimpArgs false
set_option maxRecDepth 100000
set_option maxHeartbeats 40000000
namespace Go.Proofs.YtkckcbhnnllkhaaGreatDoor
open Go.RowKit
theorem own_far {w w':World} {base size n r:Nat} {e:TypeId} {v:Value} {xs:List Value} (h:w.ownsRow base e size v n xs) (hg:w.grownBy w' (some r)) (hr:r < base):w'.ownsRow base e size v n xs :=
 h.kept hg (by
  cases hv:v.ownBlock with
  | none=>exact .inl rfl
  | some g =>
   have:=(World.ownsRow.lt h g hv).1
   exact .inr (fun e=>by injection e with e;omega))
theorem tell_at {F:List UInt8→List Ver} {s:List UInt8} {n:Int} {k:Nat} (h:fnd (F s) n (F s).length=k+1) (hk:k < (F s).length):tell F s n=if (F s)[k].gone then none else some (F s)[k].val:=by
 simp only [tell,h,List.getElem?_eq_getElem hk]
theorem tell_zero {F:List UInt8→List Ver} {s:List UInt8} {n:Int} (h:fnd (F s) n (F s).length=0):tell F s n=none:=by
 simp only [tell,h]
theorem range_ok (t:Nat) (F:List UInt8→List Ver) (top:Int) (m:Nat) (hm:m≤1000000) (S:Nat→Prop) (lo hi:List UInt8) (n:Int) (w:World) (hT:TblAt w S t F top m) (h0:numB n=true) :
  Calls Tryz.prog 47 #[.pointer (some ⟨t,0,none⟩),txt lo,txt hi,.int .i64 n] w fun e w'=>∃ v L,e=.returned (.tuple #[v,.nilIface])∧OwnKV w' w.heap.size v L∧RangeIs F lo hi n L∧L.length≤m∧Below w.heap.size w w':=by
 obtain ⟨⟨b,es,clock,hB,hM,hn⟩,ht,hg⟩:=hT
 have hx:=hB.cell 0
 simp at hx
 have hnum:=number_any n w
 rw [h0] at hnum
 have HN:=Hd hnum
 clear hnum
 go_enter Tryz.func47,Tryz.ntmps47
 go_wp2_with fail
 refine HN.out.mono ?_
 rintro e w1 ⟨rfl,rfl⟩
 have hblt:=hM.map.lt
 go_wp2_with (first | (at_range;refine at_rng _ rfl _ _ rfl 9 171 Tryz.underlying146 rfl hM.map ?_;intro w2 hR2 hM2 hg2 hs2;go_frame))
 have hb2:Below w1.heap.size w1 w2:=(Below.refl _ _).grown hg2 (Nat.le_refl _) (fun k hk=>by cases hk)
 generalize hH:w1.heap.size=H at *
 go_loopw [10] (fun o wr=>∃ (left:List MapEntry) (out:List KV),OwnKV wr (H+1) o out∧RangeAt wr b H es clock left∧Below H w1 wr∧RngRel F lo hi n es left out∧H+1≤wr.heap.size)
  (fun _ wr=>leftN wr b H)
 case atStart=>exact ⟨es.toList,[],OwnKV.nil _ _,hR2,hb2,RngRel.start hM.tells,by omega⟩
 case round =>
  obtain ⟨left,out,hown,hR,hb,hrel,hsz⟩:=hrel
  have hM3:TabAt wr Tryz.prog 9 174 S b es clock F:=hM.below (by rw [hH];exact hb)
  have hln:=hR.left_eq hM3.map
  have HLN:=Hd hln
  clear hln
  rcases hR.next hM3.map (by omega) 0 with ⟨h0,hrun⟩ | ⟨⟨ek,ev,eb⟩,left',w',h1,h2,hrun,h3,h4,h5,h6,h7,h8⟩
  ·subst h0
   have hol:out.length≤1000000:=by have:=hrel.len;omega
   have HS:=Hd (sortKV_any u10 out (H+1) hol wr hown)
   clear hown hM3
   go_wp2_with fail
   refine HS.out.mono ?_
   rintro e w3 ⟨rfl,L,hown3,hp,hsrt,hb3⟩
   have HL:=Hd (hrel.done hp hsrt)
   have hll:L.length≤m:=by have:=hrel.len;rw [hp.length_eq];omega
   go_wp2
   go_ret2
   exact ⟨u10,L,rfl,own_of_base hown3 (by omega),HL.out,hll,by rw [hH];exact hb.trans (hb3.mono (by omega))⟩
  ·obtain ⟨s,hs⟩:=hM.keys _ (hR.sub _ h1)
   have hhas:Has es (txt s) ev:=⟨_,hR.sub _ h1,hs,rfl⟩
   simp only at hs h7 h8 hrun
   subst hs
   obtain ⟨hne,hrow⟩:=hM3.rows s ev hhas
   have hb':Below H w1 w':=hb.grown h5 (by omega) (fun k hk=>by injection hk with hk;omega)
   have hown':=own_far hown h5 (by omega)
   have h6':H+1≤w'.heap.size:=by omega
   clear h6
   have hrow':=own_below (hM.rows s ev hhas).2 (by rw [hH];exact hb')
   have hlen:=hg.len s
   obtain ⟨A,c,rfl,hrd⟩:=own_form hrow'
   have hf:=find_any A (F s) c n (by omega) w' hrd
   have hLO:=Hd (lessB_eq' s lo)
   have hHI:=Hd (lessB_eq' s hi)
   generalize hk:fnd (F s) n (F s).length=k at hf
   have hkle:=fnd_le (F s) n (F s).length
   rw [hk] at hkle
   have HK:=Hd hk
   clear hk
   rcases hlo:Op.bytesLess s lo with _ | _
   ·rcases hhi:Op.bytesLess s hi with _ | _
    ·have HS:=Hd (hrel.skip (s:=s) h2 rfl (fun h=>by have:=hHI.out;rw [hhi] at this;simp [inB,← this] at h))
     have HF:=Hd hf
     clear hf hrel hM hM3 hrow hrow' hown
     go_wp2_with fail
     refine HF.out.mono ?_
     rintro e w3 ⟨rfl,rfl⟩
     go_wp2
     go_roundw
     case rel=>exact ⟨left',out,hown',h3,hb',HS.out,by omega⟩
     case measure=>rw [h3.left_eq h4,HLN.out,h2.length_eq];simp
    ·cases k with
     | zero =>
      have HS:=Hd (hrel.skip (s:=s) h2 rfl (fun _=>tell_zero HK.out))
      have HF:=Hd hf
      clear hf hrel hM hM3 hrow hrow' hown
      go_wp2_with fail
      refine HF.out.mono ?_
      rintro e w3 ⟨rfl,rfl⟩
      go_wp2
      go_roundw
      case rel=>exact ⟨left',out,hown',h3,hb',HS.out,by omega⟩
      case measure=>rw [h3.left_eq h4,HLN.out,h2.length_eq];simp
     | succ k =>
      have hkl':k < (F s).length:=by omega
      obtain ⟨g,off,rfl,hgb,c0,c1,c2⟩:=hrd.ver hkl'
      have e0:(((k+1:Nat):Int) - 1)=(k:Int):=by omega
      rw [e0] at hf
      have htell:=tell_at HK.out hkl'
      by_cases hgone:(F s)[k].gone=true
      ·rw [hgone] at c2
       rw [if_pos hgone] at htell
       have HT:=Hd htell
       clear htell
       have HS:=Hd (hrel.skip (s:=s) h2 rfl (fun _=>HT.out))
       have HF:=Hd hf
       clear hf hrel hM hM3 hrow hrow' hown
       go_wp2_with fail
       refine HF.out.mono ?_
       rintro e w3 ⟨rfl,rfl⟩
       go_wp2
       go_roundw
       case rel=>exact ⟨left',out,hown',h3,hb',HS.out,by omega⟩
       case measure=>rw [h3.left_eq h4,HLN.out,h2.length_eq];simp
      ·rw [Bool.not_eq_true] at hgone
       rw [hgone] at c2
       rw [if_neg (by rw [hgone];simp)] at htell
       have hin:inB lo hi s=true:=by
        have q1:=hLO.out
        have q2:=hHI.out
        rw [hlo] at q1
        rw [hhi] at q2
        simp [inB,← q1,← q2]
       have HS:=Hd (hrel.add (s:=s) h2 rfl hin htell h7)
       have hol:out.length < 1000000000:=by have:=hrel.len;omega
       have HF:=Hd hf
       clear hf hrel hM hM3 hrow hrow' hown htell hin
       have h1c:=encKV_one (s,(F s)[k].val)
       go_wp2_with fail
       refine HF.out.mono ?_
       rintro e w3 ⟨rfl,rfl⟩
       go_wp2_with (at_builtin;go_must (refine wpList_append_elt rfl _ _ 52 rfl 78 Tryz.underlying52 _ 2 32 infoKV rfl (by decide) (by decide) (H+1) _ out.length (flatE encKV out) rfl hown' #[txt s,txt (F s)[k].val] rfl h1c rfl hol (by omega) ?_);intro v4 w4 hown4 hg4 hat4)
       have hne4:∀ q,u10.ownBlock=some q→H+1≤q:=fun q hq=>(World.ownsRow.lt hown' q hq).1
       have hblk:w4.heap[H]?=w3.heap[H]?:=hg4.block H h3.lt (fun e=>by have:=hne4 H e.symm;omega)
       have h34:=h3.keep hblk
       have h44:=h4.grown hg4 (fun e=>by have:=hne4 b e.symm;omega)
       have hb4:=hb'.grown hg4 (by omega) (fun q hq=>by have:=hne4 q hq;omega)
       have hsz4:H+1≤w4.heap.size:=Nat.le_trans h6' hg4.size
       clear hblk
       go_roundw
       case rel=>exact ⟨left',out++[(s,(F s)[k].val)],by unfold OwnKV;rw [flatE_append,List.length_append];exact hown4,h34,hb4,HS.out,hsz4⟩
       case measure=>rw [h34.left_eq h44,HLN.out,h2.length_eq];simp
   ·have HS:=Hd (hrel.skip (s:=s) h2 rfl (fun h=>by have:=hLO.out;rw [hlo] at this;simp [inB,← this] at h))
    have HF:=Hd hf
    clear hf hrel hM hM3 hrow hrow' hown
    go_wp2_with fail
    refine HF.out.mono ?_
    rintro e w3 ⟨rfl,rfl⟩
    go_wp2
    go_roundw
    case rel=>exact ⟨left',out,hown',h3,hb',HS.out,by omega⟩
    case measure=>rw [h3.left_eq h4,HLN.out,h2.length_eq];simp
theorem range_bad (t:Value) (lo hi:Value) (n:Int) (w:World) (h0:numB n=false) :
  Calls Tryz.prog 47 #[t,lo,hi,.int .i64 n] w fun e w'=>e=.returned (.tuple #[.slice none 0 0,.iface 71 (.int .i64 1)])∧w'=w:=by
 have hnum:=number_any n w
 rw [h0] at hnum
 have HN:=Hd hnum
 clear hnum
 go_enter Tryz.func47,Tryz.ntmps47
 go_wp2_with fail
 refine HN.out.mono ?_
 rintro e w1 ⟨rfl,rfl⟩
 go_wp2
 go_ret2
 exact ⟨rfl,rfl⟩
theorem Below.drewN' {B:Nat} {a w:World} (h:Below B a w) {n:Nat}:Below B a (w.drewN n):=⟨h.os,h.tape,h.output,h.size,h.block⟩
theorem tell_some {F:List UInt8→List Ver} {top:Int} {m:Nat} (hg:Good F top m) {s v:List UInt8} {n:Int} (h:tell F s n=some v):s.length≤24∧s≠[]:=by
 by_cases e:F s=[]
 ·rw [tell_nil e] at h;cases h
 ·exact ⟨(hg.key s e).2,(hg.key s e).1⟩
theorem numB_of {n:Int} (h:0≤n∧n≤1000000):numB n=true:=by simp [numB,h]
def lastB (l:List Ver) (n:Int):Bool:=match l.getLast? with
 | some v=>decide (n < v.n)
 | none=>false
theorem lastB_at {l:List Ver} (h:0 < l.length) (n:Int):lastB l n=decide (n < l[l.length - 1].n):=by
 unfold lastB
 rw [List.getLast?_eq_getElem?,List.getElem?_eq_getElem (by omega)]
def Touch (F:List UInt8→List Ver) (lo hi:List UInt8) (n:Int):Prop:=∃ s,inB lo hi s=true∧lastB (F s) n=true
def TouchIs (F:List UInt8→List Ver) (lo hi:List UInt8) (n:Int) (r:Bool):Prop:=r=true ↔ Touch F lo hi n
def TchRel (F:List UInt8→List Ver) (lo hi:List UInt8) (n:Int) (left:List MapEntry):Prop:=∀ s,inB lo hi s=true→lastB (F s) n=true→∃ x ∈ left,x.key=txt s
theorem TchRel.skip {F:List UInt8→List Ver} {lo hi:List UInt8} {n:Int} {left left':List MapEntry} (h:TchRel F lo hi n left) {e:MapEntry} {s:List UInt8} (hp:List.Perm left (e::left')) (hs:e.key=txt s) (hno:inB lo hi s=true→lastB (F s) n=false):TchRel F lo hi n left':=by
 intro s' h1 h2
 obtain ⟨x,hx,hk⟩:=h s' h1 h2
 rcases List.mem_cons.1 (hp.mem_iff.1 hx) with rfl | hx
 ·rw [hs] at hk
  have:=txt_inj hk
  subst this
  rw [hno h1] at h2
  cases h2
 ·exact ⟨x,hx,hk⟩
theorem touched_ok (t:Nat) (F:List UInt8→List Ver) (top:Int) (m:Nat) (hm:m≤1000000) (S:Nat→Prop) (lo hi:List UInt8) (n:Int) (w:World) (hT:TblAt w S t F top m) (h0:numB n=true) :
  Calls Tryz.prog 58 #[.pointer (some ⟨t,0,none⟩),txt lo,txt hi,.int .i64 n] w fun e w'=>∃ r,e=.returned (.tuple #[.bool r,.nilIface])∧TouchIs F lo hi n r∧Below w.heap.size w w':=by
 obtain ⟨⟨b,es,clock,hB,hM,hn⟩,ht,hg⟩:=hT
 have hx:=hB.cell 0
 simp at hx
 have hnum:=number_any n w
 rw [h0] at hnum
 have HN:=Hd hnum
 clear hnum
 go_enter Tryz.func58,Tryz.ntmps58
 go_wp2_with fail
 refine HN.out.mono ?_
 rintro e w1 ⟨rfl,rfl⟩
 have hblt:=hM.map.lt
 go_wp2_with (first | (at_range;refine at_rng _ rfl _ _ rfl 9 171 Tryz.underlying146 rfl hM.map ?_;intro w2 hR2 hM2 hg2 hs2;go_frame))
 have hb2:Below w1.heap.size w1 w2:=(Below.refl _ _).grown hg2 (Nat.le_refl _) (fun k hk=>by cases hk)
 generalize hH:w1.heap.size=H at *
 go_loopw [10] (fun _ wr=>∃ (left:List MapEntry),RangeAt wr b H es clock left∧Below H w1 wr∧TchRel F lo hi n left∧H+1≤wr.heap.size)
  (fun _ wr=>leftN wr b H)
 case atStart =>
  refine ⟨es.toList,hR2,hb2,fun s h1 h2=>?_,by omega⟩
  have hne:F s≠[]:=fun e=>by rw [e] at h2;cases h2
  obtain ⟨v,x,hx,hk,_⟩:=hM.tells s hne
  exact ⟨x,hx,hk⟩
 case round =>
  obtain ⟨left,hR,hb,hrel,hsz⟩:=hrel
  have hM3:TabAt wr Tryz.prog 9 174 S b es clock F:=hM.below (by rw [hH];exact hb)
  have HLN:=Hd (hR.left_eq hM3.map)
  rcases hR.next hM3.map (by omega) 0 with ⟨h0,hrun⟩ | ⟨⟨ek,ev,eb⟩,left',w',h1,h2,hrun,h3,h4,h5,h6,h7,h8⟩
  ·subst h0
   have HS:=Hd (show TouchIs F lo hi n false from ⟨fun h=>(by cases h),fun ⟨s,q1,q2⟩=>by obtain ⟨x,hx,_⟩:=hrel s q1 q2;simp at hx⟩)
   clear hM3 hrel
   go_wp2
   go_ret2
   exact ⟨false,rfl,HS.out,by rw [hH];exact hb⟩
  ·obtain ⟨s,hs⟩:=hM.keys _ (hR.sub _ h1)
   have hhas:Has es (txt s) ev:=⟨_,hR.sub _ h1,hs,rfl⟩
   simp only at hs h7 h8 hrun
   subst hs
   have hb':Below H w1 w':=hb.grown h5 (by omega) (fun k hk=>by injection hk with hk;omega)
   have h6':H+1≤w'.heap.size:=by omega
   clear h6
   obtain ⟨hne,hrow⟩:=hM3.rows s ev hhas
   have hrow':=own_below (hM.rows s ev hhas).2 (by rw [hH];exact hb')
   have hlen:=hg.len s
   obtain ⟨A,c,rfl,hrd⟩:=own_form hrow'
   have hl0:0 < (F s).length:=List.length_pos_iff.2 hne
   obtain ⟨g,off,rfl,hgb,c0,c1,c2⟩:=hrd.ver (show (F s).length - 1 < (F s).length by omega)
   have hF:=Hd (lastB_at hl0 n)
   have hz1:((F s).length:Int) - 1=(((F s).length - 1:Nat):Int):=by omega
   have hlI:(0:Int) < ((F s).length:Int):=by omega
   have hLO:=Hd (lessB_eq' s lo)
   have hHI:=Hd (lessB_eq' s hi)
   have hrel_skip:=hrel.skip (s:=s) h2 rfl
   clear hrow hrow' hrd
   rcases hlo:Op.bytesLess s lo with _ | _
   ·rcases hhi:Op.bytesLess s hi with _ | _
    ·have HS:=Hd (hrel_skip (fun h=>by have:=hHI.out;rw [hhi] at this;simp [inB,← this] at h))
     clear hrel_skip hrel hM hM3
     go_wp2
     go_roundw
     case rel=>exact ⟨left',h3,hb',HS.out,h6'⟩
     case measure=>rw [h3.left_eq h4,HLN.out,h2.length_eq];simp
    ·have hin:Hid (inB lo hi s=true):=Hd (by
      have q1:=hLO.out
      have q2:=hHI.out
      rw [hlo] at q1
      rw [hhi] at q2
      simp [inB,← q1,← q2])
     by_cases hlt:n < (F s)[(F s).length - 1].n
     ·have HS:=Hd (show TouchIs F lo hi n true from ⟨fun _=>⟨s,hin.out,by rw [hF.out];exact decide_eq_true hlt⟩,fun _=>rfl⟩)
      clear hrel_skip hrel hM hM3
      go_wp2
      go_ret2
      exact ⟨true,rfl,HS.out,by rw [hH];exact hb'⟩
     ·have HS:=Hd (hrel_skip (fun _=>by rw [hF.out];exact decide_eq_false hlt))
      clear hrel_skip hrel hM hM3
      go_wp2
      go_roundw
      case rel=>exact ⟨left',h3,hb',HS.out,h6'⟩
      case measure=>rw [h3.left_eq h4,HLN.out,h2.length_eq];simp
   ·have HS:=Hd (hrel_skip (fun h=>by have:=hLO.out;rw [hlo] at this;simp [inB,← this] at h))
    clear hrel_skip hrel hM hM3
    go_wp2
    go_roundw
    case rel=>exact ⟨left',h3,hb',HS.out,h6'⟩
    case measure=>rw [h3.left_eq h4,HLN.out,h2.length_eq];simp
open Go.ChangeMaps (setBlock)
section
variable {F F' : List UInt8 → List Ver} {n : Int} {left left' : List MapEntry} {N0 j : Nat} {e : MapEntry} {s : List UInt8}
end
def Rising (l:List Ver):Prop:=l.Pairwise (fun x y=>x.n < y.n)
def tellL (l:List Ver) (n:Int):Option (List UInt8):=match fnd l n l.length with
 | 0=>none
 | k+1=>match l[k]? with
  | some v=>if v.gone then none else some v.val
  | none=>none
theorem tell_eq (F:List UInt8→List Ver) (s:List UInt8) (n:Int):tell F s n=tellL (F s) n:=rfl
theorem fnd_up {l:List Ver} (n:Int):∀ m,m≤l.length→∀ i,fnd l n m≤i→(hi:i < m)→(h:i < l.length)→n < l[i].n
 | 0,_,i,_,hi,_=>by omega
 | m+1,hm,i,h1,hi,h=>by
  rw [fnd_step (by omega)] at h1
  by_cases c:n < l[m].n
  ·rw [if_pos c] at h1
   rcases Nat.lt_or_ge i m with h2 | h2
   ·exact fnd_up n m (by omega) i h1 h2 h
   ·obtain rfl:i=m:=by omega
    exact c
  ·rw [if_neg c] at h1
   omega
theorem fnd_last {l:List Ver} (n:Int):∀ m,m≤l.length→∀ k,fnd l n m=k+1→(h:k < l.length)→l[k].n≤n
 | 0,_,k,h,_=>by simp [fnd] at h
 | m+1,hm,k,h,hk=>by
  rw [fnd_step (by omega)] at h
  by_cases c:n < l[m].n
  ·rw [if_pos c] at h
   exact fnd_last n m (by omega) k h hk
  ·rw [if_neg c] at h
   obtain rfl:k=m:=by omega
   omega
theorem Rising.lt {l:List Ver} (h:Rising l) {i j:Nat} (hi:i < j) (hj:j < l.length):(l[i]'(by omega)).n < l[j].n:=(List.pairwise_iff_getElem.1 h) i j (by omega) hj hi
theorem fnd_iff {l:List Ver} (h:Rising l) (n:Int) (i:Nat) (hi:i < l.length):i < fnd l n l.length ↔ l[i].n≤n:=by
 constructor
 ·intro h1
  obtain ⟨k,hk⟩:∃ k,fnd l n l.length=k+1:=⟨fnd l n l.length - 1,by omega⟩
  have hkl:k < l.length:=by have:=fnd_le l n l.length;omega
  have h2:=fnd_last n l.length (Nat.le_refl _) k hk hkl
  rcases Nat.lt_or_ge i k with h3 | h3
  ·have:=h.lt h3 hkl
   omega
  ·obtain rfl:i=k:=by omega
   exact h2
 ·intro h1
  rcases Nat.lt_or_ge i (fnd l n l.length) with h2 | h2
  ·exact h2
  ·have:=fnd_up n l.length (Nat.le_refl _) i h2 hi hi
   omega
theorem fnd_uniq {l:List Ver} (h:Rising l) {n:Int} {k:Nat} (hk:k≤l.length) (hu:∀ i (hi:i < l.length),i < k ↔ l[i].n≤n):fnd l n l.length=k:=by
 have hle:=fnd_le l n l.length
 rcases Nat.lt_trichotomy (fnd l n l.length) k with h1 | h1 | h1
 ·have hi:fnd l n l.length < l.length:=by omega
  have:=(fnd_iff h n _ hi).2 ((hu _ hi).1 h1)
  omega
 ·exact h1
 ·have hi:k < l.length:=by omega
  have:=(hu _ hi).2 ((fnd_iff h n _ hi).1 h1)
  omega
theorem tellL_zero {l:List Ver} {n:Int} (h:fnd l n l.length=0):tellL l n=none:=by simp only [tellL,h]
theorem tellL_at {l:List Ver} {n:Int} {k:Nat} (h:fnd l n l.length=k+1) (hk:k < l.length):tellL l n=if l[k].gone then none else some l[k].val:=by
 simp only [tellL,h,List.getElem?_eq_getElem hk]
theorem fnd_snoc (l:List Ver) (v:Ver) (n:Int):∀ m,m≤l.length→fnd (l++[v]) n m=fnd l n m
 | 0,_=>rfl
 | m+1,hm=>by
  rw [fnd_step (l:=l++[v]) (by simp;omega),fnd_step (l:=l) (by omega),List.getElem_append_left (by omega),fnd_snoc l v n m (by omega)]
theorem tell_snoc (l:List Ver) (v:Ver) {n:Int} (h:n < v.n):tellL (l++[v]) n=tellL l n:=by
 have hf:fnd (l++[v]) n (l++[v]).length=fnd l n l.length:=by
  rw [List.length_append,List.length_singleton,fnd_step (by simp)]
  rw [if_pos (by simpa using h),fnd_snoc l v n _ (Nat.le_refl _)]
 have hle:=fnd_le l n l.length
 cases hk:fnd l n l.length with
 | zero=>rw [tellL_zero hk,tellL_zero (by rw [hf];exact hk)]
 | succ k =>
  rw [tellL_at (l:=l) hk (by omega),tellL_at (l:=l++[v]) (k:=k) (by rw [hf];exact hk) (by simp;omega),List.getElem_append_left (by omega)]
section
variable {t : Nat} {F : List UInt8 → List Ver} {top : Int} {m : Nat} {S : Nat → Prop} {w w' : World}
theorem TblAt.lt (h:TblAt w S t F top m):t < w.heap.size:=by
 obtain ⟨⟨b,es,c,h1,h2,h3⟩,_,_⟩:=h
 exact h1.lt
theorem TblAt.tight (h:TblAt w S t F top m):TblAt w (fun g=>S g∧g < w.heap.size) t F top m:=by
 have hlt:=h.lt
 obtain ⟨⟨b,es,c,h1,h2,h3⟩,ht,hg⟩:=h
 exact ⟨⟨b,es,c,h1,⟨h2.map,⟨h2.hb,h2.map.lt⟩,h2.keys,h2.rows,h2.tells,fun s v g q e=>⟨h2.own s v g q e,h2.row_lt q e⟩,h2.apart⟩,h3⟩,⟨ht,hlt⟩,hg⟩
end
structure Tr where
 id:Int
 sees:Int
 asked:Int
 keys:List (List UInt8)
 spans:List (List UInt8 × List UInt8)
 own:List Chg
def findO (own:List Chg) (s:List UInt8):Option Chg:=own.find? (fun c=>c.key == s)
def insC (c:Chg):List Chg→List Chg
 | []=>[c]
 | x::l=>if lessB c.key x.key then c::x::l else if c.key=x.key then c::l else x::insC c l
def RiseC (l:List Chg):Prop:=Rise Chg.key l
theorem insC_mem {c x:Chg}:∀ {l:List Chg},RiseC l→(x ∈ insC c l ↔ x=c∨(x ∈ l∧x.key≠c.key))
 | [],_=>by simp [insC]
 | y::l,h=>by
  have h':=List.pairwise_cons.1 h
  unfold insC
  split
  ·rename_i hl
   simp only [List.mem_cons]
   constructor
   ·rintro (e | e | e)
    ·exact .inl e
    ·subst e
     exact .inr ⟨.inl rfl,(lessB_ne hl).symm⟩
    ·exact .inr ⟨.inr e,(lessB_ne (lessB_trans hl (h'.1 x e))).symm⟩
   ·rintro (e | ⟨e | e,_⟩)
    ·exact .inl e
    ·exact .inr (.inl e)
    ·exact .inr (.inr e)
  ·rename_i hl
   split
   ·rename_i he
    simp only [List.mem_cons]
    constructor
    ·rintro (e | e)
     ·exact .inl e
     ·exact .inr ⟨.inr e,by rw [he];exact (lessB_ne (h'.1 x e)).symm⟩
    ·rintro (e | ⟨e | e,q⟩)
     ·exact .inl e
     ·subst e
      exact absurd he.symm q
     ·exact .inr e
   ·rename_i he
    simp only [List.mem_cons,insC_mem (c:=c) (x:=x) h'.2]
    constructor
    ·rintro (e | e | ⟨e,q⟩)
     ·subst e
      exact .inr ⟨.inl rfl,fun q=>he q.symm⟩
     ·exact .inl e
     ·exact .inr ⟨.inr e,q⟩
    ·rintro (e | ⟨e | e,q⟩)
     ·exact .inr (.inl e)
     ·exact .inl e
     ·exact .inr (.inr ⟨e,q⟩)
theorem insC_rise {c:Chg}:∀ {l:List Chg},RiseC l→RiseC (insC c l)
 | [],_=>by unfold RiseC Rise;simp [insC]
 | y::l,h=>by
  have h':=List.pairwise_cons.1 h
  unfold insC
  split
  ·rename_i hl
   unfold RiseC Rise
   rw [List.pairwise_cons]
   refine ⟨fun x hx=>?_,h⟩
   rcases List.mem_cons.1 hx with rfl | hx
   ·exact hl
   ·exact lessB_trans hl (h'.1 x hx)
  ·rename_i hl
   split
   ·rename_i he
    unfold RiseC Rise
    rw [List.pairwise_cons]
    exact ⟨fun x hx=>by rw [he];exact h'.1 x hx,h'.2⟩
   ·rename_i he
    unfold RiseC Rise
    rw [List.pairwise_cons]
    refine ⟨fun x hx=>?_,insC_rise h'.2⟩
    rcases (insC_mem h'.2).1 hx with rfl | ⟨hx,_⟩
    ·exact lessB_of (by simpa using hl) (fun e=>he e.symm)
    ·exact h'.1 x hx
theorem findO_iff {l:List Chg} (h:RiseC l) {s:List UInt8} {c:Chg}:findO l s=some c ↔ c ∈ l∧c.key=s:=by
 unfold findO
 constructor
 ·intro e
  exact ⟨List.mem_of_find?_eq_some e,by simpa using List.find?_some e⟩
 ·rintro ⟨h1,rfl⟩
  cases e:l.find? (fun x=>x.key == c.key) with
  | none =>
   have:=List.find?_eq_none.1 e c h1
   simp at this
  | some y =>
   have h2:=List.mem_of_find?_eq_some e
   have h3:y.key=c.key:=by simpa using List.find?_some e
   obtain ⟨i,hi,rfl⟩:=List.getElem_of_mem h1
   obtain ⟨j,hj,rfl⟩:=List.getElem_of_mem h2
   have hp:=List.pairwise_iff_getElem.1 h
   rcases Nat.lt_trichotomy i j with q | q | q
   ·have:=hp i j hi hj q
    rw [h3,lessB_irrefl] at this
    cases this
   ·subst q
    rfl
   ·have:=hp j i hj hi q
    rw [h3,lessB_irrefl] at this
    cases this
theorem findO_none {l:List Chg} {s:List UInt8}:findO l s=none ↔ ∀ c ∈ l,c.key≠s:=by
 unfold findO
 rw [List.find?_eq_none]
 simp
theorem findO_ins {l:List Chg} (h:RiseC l) (c:Chg):findO (insC c l)=updO (findO l) c.key (some c):=by
 funext s
 by_cases e:s=c.key
 ·subst e
  rw [updO_same]
  exact (findO_iff (insC_rise h)).2 ⟨(insC_mem h).2 (.inl rfl),rfl⟩
 ·rw [updO_other _ _ e]
  cases hf:findO l s with
  | none =>
   rw [findO_none] at hf ⊢
   intro x hx
   rcases (insC_mem h).1 hx with rfl | ⟨hx,_⟩
   ·exact fun q=>e q.symm
   ·exact hf x hx
  | some y =>
   obtain ⟨h1,h2⟩:=(findO_iff h).1 hf
   exact (findO_iff (insC_rise h)).2 ⟨(insC_mem h).2 (.inr ⟨h1,fun q=>e (h2.symm.trans q)⟩),h2⟩
theorem insC_len {c:Chg}:∀ {l:List Chg},RiseC l→(insC c l).length=if findO l c.key=none then l.length+1 else l.length
 | [],_=>rfl
 | y::l,h=>by
  have h':=List.pairwise_cons.1 h
  unfold insC
  split
  ·rename_i hl
   rw [if_pos]
   ·simp
   ·rw [findO_none]
    intro x hx
    rcases List.mem_cons.1 hx with rfl | hx
    ·exact (lessB_ne hl).symm
    ·exact (lessB_ne (lessB_trans hl (h'.1 x hx))).symm
  ·rename_i hl
   split
   ·rename_i he
    rw [if_neg]
    ·simp
    ·intro q
     rw [findO_none] at q
     exact q y List.mem_cons_self he.symm
   ·rename_i he
    have ih:=insC_len (c:=c) h'.2
    have hf:findO (y::l) c.key=findO l c.key:=by
     unfold findO
     rw [List.find?_cons_of_neg (by simp;exact fun q=>he q.symm)]
    rw [List.length_cons,ih,hf,List.length_cons]
    split <;> rfl
def over (F:List UInt8→List Ver) (own:List Chg) (n:Int) (s:List UInt8):Option (List UInt8):=match findO own s with
 | some c=>if c.gone then none else some c.val
 | none=>tell F s n
structure OverIs (F:List UInt8→List Ver) (own:List Chg) (lo hi:List UInt8) (n:Int) (L:List KV):Prop where
 rise:Rise Prod.fst L
 mem:∀ s v,(s,v) ∈ L ↔ inB lo hi s=true∧over F own n s=some v
theorem OverIs.ext {F F':List UInt8→List Ver} {own own':List Chg} {lo hi:List UInt8} {n n':Int} {L L':List KV} (h:OverIs F own lo hi n L) (h':OverIs F' own' lo hi n' L') (e:∀ s,inB lo hi s=true→over F own n s=over F' own' n' s):L=L':=by
 refine Rise.ext h.rise h'.rise (fun x=>?_)
 obtain ⟨s,v⟩:=x
 rw [h.mem,h'.mem]
 constructor
 ·rintro ⟨h1,h2⟩
  exact ⟨h1,by rw [← e s h1];exact h2⟩
 ·rintro ⟨h1,h2⟩
  exact ⟨h1,by rw [e s h1];exact h2⟩
def Clash (F:List UInt8→List Ver) (t:Tr):Prop :=
 (∃ s ∈ t.keys,lastB (F s) t.sees=true)∨(∃ c ∈ t.own,lastB (F c.key) t.sees=true)∨∃ p ∈ t.spans,Touch F p.1 p.2 t.sees
def appF (F:List UInt8→List Ver) (l:List Chg) (n:Int):List UInt8→List Ver:=l.foldl (fun F c=>putV F c.key ⟨n,c.val,c.gone⟩) F
def findT (l:List Tr) (id:Int):Option Tr:=l.find? (fun t=>t.id == id)
structure Dk where
 lg:Lg
 F:List UInt8→List Ver
 all:List (List Chg)
 ns:Nat
 ids:Int
 op:List Tr
 ends:List Int
def Dk.last (g:Dk):Int:=g.all.length
def eraseT (l:List Tr) (id:Int):List Tr:=l.filter (fun t=>!(t.id == id))
def setT (l:List Tr) (u:Tr):List Tr:=l.map (fun t=>if t.id=u.id then u else t)
theorem findT_mem {l:List Tr} {id:Int} {t:Tr} (h:findT l id=some t):t ∈ l∧t.id=id:=⟨List.mem_of_find?_eq_some h,by simpa using List.find?_some h⟩
theorem findT_none {l:List Tr} {id:Int}:findT l id=none ↔ ∀ t ∈ l,t.id≠id:=by
 unfold findT
 rw [List.find?_eq_none]
 simp
theorem findT_iff {l:List Tr} (hn:(l.map Tr.id).Nodup) {id:Int} {t:Tr}:findT l id=some t ↔ t ∈ l∧t.id=id:=by
 constructor
 ·exact findT_mem
 ·rintro ⟨h1,rfl⟩
  cases e:findT l t.id with
  | none=>exact absurd rfl (findT_none.1 e t h1)
  | some u =>
   obtain ⟨h2,h3⟩:=findT_mem e
   clear e
   induction l with
   | nil=>cases h1
   | cons a l ih =>
    rw [List.map_cons,List.nodup_cons] at hn
    rcases List.mem_cons.1 h1 with e1 | h1
    ·rcases List.mem_cons.1 h2 with e2 | h2
     ·rw [e1,e2]
     ·exact absurd (List.mem_map.2 ⟨u,h2,by rw [h3,e1]⟩) hn.1
    ·rcases List.mem_cons.1 h2 with e2 | h2
     ·exact absurd (List.mem_map.2 ⟨t,h1,by rw [← h3,e2]⟩) hn.1
     ·exact ih hn.2 h1 h2
theorem setT_ids (l:List Tr) (u:Tr):(setT l u).map Tr.id=l.map Tr.id:=by
 unfold setT
 rw [List.map_map]
 apply List.map_congr_left
 intro t _
 simp only [Function.comp]
 split
 ·rename_i h
  exact h.symm
 ·rfl
theorem findT_set_same {l:List Tr} {u t:Tr} (h:findT l u.id=some t):findT (setT l u) u.id=some u:=by
 unfold findT setT at *
 induction l with
 | nil=>cases h
 | cons a l ih =>
  rw [List.map_cons]
  by_cases e:a.id=u.id
  ·rw [if_pos e,List.find?_cons_of_pos (by simp)]
  ·rw [if_neg e,List.find?_cons_of_neg (by simpa using e)]
   rw [List.find?_cons_of_neg (by simpa using e)] at h
   exact ih h
theorem findT_set_other {l:List Tr} {u:Tr} {id:Int} (h:id≠u.id):findT (setT l u) id=findT l id:=by
 unfold findT setT
 induction l with
 | nil=>rfl
 | cons a l ih =>
  rw [List.map_cons]
  by_cases e:a.id=u.id
  ·rw [if_pos e,List.find?_cons_of_neg (by simpa using h.symm),List.find?_cons_of_neg (by simpa using fun q=>h (q.symm.trans e)),ih]
  ·rw [if_neg e]
   by_cases e2:a.id=id
   ·rw [List.find?_cons_of_pos (by simpa using e2),List.find?_cons_of_pos (by simpa using e2)]
   ·rw [List.find?_cons_of_neg (by simpa using e2),List.find?_cons_of_neg (by simpa using e2),ih]
theorem findT_erase_same (l:List Tr) (id:Int):findT (eraseT l id) id=none:=by
 rw [findT_none]
 intro t ht
 have:=(List.mem_filter.1 ht).2
 simpa using this
theorem findT_erase_other {l:List Tr} {id id':Int} (h:id'≠id):findT (eraseT l id) id'=findT l id':=by
 unfold findT eraseT
 rw [List.find?_filter]
 congr 1
 funext t
 by_cases e:t.id=id'
 ·simp [e,h]
 ·simp [e]
def getO (F:List UInt8→List Ver) (own:List Chg) (n:Int) (s:List UInt8):List UInt8 × Int:=match over F own n s with
 | some v=>(v,0)
 | none=>([],4)
def Dk.begin (g:Dk):Int × Int × Dk :=
 if g.op.length=8 then (0,3,g) else if g.lg.down then (0,8,g)
 else (g.ids+1,0,{ g with ids:=g.ids+1,op:=g.op++[⟨g.ids+1,g.last,0,[],[],[]⟩] })
def Dk.get (g:Dk) (id:Int) (key:List UInt8):List UInt8 × Int × Dk:=match findT g.op id with
 | none=>([],4,g)
 | some t=>if keyB key=false then ([],2,g) else if t.asked=100 then ([],3,g)
  else ((getO g.F t.own t.sees key).1,(getO g.F t.own t.sees key).2,{ g with op:=setT g.op { t with asked:=t.asked+1,keys:=t.keys++[key] } })
def Dk.range (g:Dk) (id:Int) (lo hi:List UInt8):Int × Dk:=match findT g.op id with
 | none=>(4,g)
 | some t=>if t.asked=100 then (3,g) else (0,{ g with op:=setT g.op { t with asked:=t.asked+1,spans:=t.spans++[(lo,hi)] } })
def RangeO (g:Dk) (id:Int) (lo hi:List UInt8) (L:List KV):Prop:=match findT g.op id with
 | none=>L=[]
 | some t=>if t.asked=100 then L=[] else OverIs g.F t.own lo hi t.sees L
def Dk.change (g:Dk) (id:Int) (c:Chg):Int × Dk:=match findT g.op id with
 | none=>(4,g)
 | some t=>if keyB c.key=false∨12 < c.val.length then (2,g) else if findO t.own c.key=none∧t.own.length=20 then (3,g)
  else (0,{ g with op:=setT g.op { t with own:=insC c t.own } })
def Dk.put (g:Dk) (l:List Chg) (e:Int):Dk:={ g with F:=appF g.F l (g.last+1),all:=g.all++[l],ends:=g.ends++[e] }
noncomputable def Dk.commit (g:Dk) (id:Int):Int × Int × Dk:=match findT g.op id with
 | none=>(0,4,g)
 | some t=>open Classical in
  if Clash g.F t then (0,6,{ g with op:=eraseT g.op id })
  else if t.own=[] then (t.sees,0,{ g with op:=eraseT g.op id })
  else if (g.lg.append t.own).1=0 then
   (g.last+1,0,Dk.put { g with lg:=(g.lg.append t.own).2,op:=eraseT g.op id } t.own ((g.lg.append t.own).2.B.length:Int))
  else (0,(g.lg.append t.own).1,{ g with op:=eraseT g.op id,lg:=(g.lg.append t.own).2 })
def Dk.abort (g:Dk) (id:Int):Int × Dk:=match findT g.op id with
 | none=>(4,g)
 | some t=>(0,{ g with op:=eraseT g.op id })
def replay (F:List UInt8→List Ver) (n:Int):List (List Chg)→(List UInt8→List Ver)
 | []=>F
 | l::ls=>replay (appF F l (n+1)) (n+1) ls
theorem replay_snoc (F:List UInt8→List Ver) (n:Int) (l:List Chg):∀ ls:List (List Chg),replay F n (ls++[l])=appF (replay F n ls) l (n+ls.length+1)
 | []=>by simp [replay]
 | m::ls=>by
  have ih:=replay_snoc (appF F m (n+1)) (n+1) l ls
  rw [List.cons_append,replay,ih,replay,List.length_cons]
  congr 1
  push_cast
  omega
def EndsOk (ends:List Int) (all:List (List Chg)) (ns:Nat):Prop :=
 ends.length=all.length∧∀ i (h:i < ends.length),ends[i]≤((frames (all.take (i+1))).length:Int)∧(ns≤i→ends[i]=((frames (all.take (i+1))).length:Int))
structure DkOk (g:Dk) (k:Nat):Prop where
 ids:(g.op.map Tr.id).Nodup
 each:∀ t ∈ g.op,1≤t.id∧t.id≤g.ids∧0≤t.sees∧t.sees≤g.last
 many:g.op.length≤8
 hall:g.all.length≤k∧∀ l ∈ g.all,l≠[]
 log:LInv g.lg.down g.lg.B g.lg.safe g.all g.ns
 hids:0≤g.ids∧g.ids≤k
 ends:EndsOk g.ends g.all g.ns
section
variable {g : Dk} {k : Nat}
theorem DkOk.more (h:DkOk g k) {k':Nat} (hk:k≤k'):DkOk g k' :=
 ⟨h.ids,h.each,h.many,⟨Nat.le_trans h.hall.1 hk,h.hall.2⟩,h.log,⟨h.hids.1,by have:=h.hids.2;omega⟩,h.ends⟩
theorem DkOk.pos (h:DkOk g k):∀ t ∈ g.op,1≤t.id:=fun t ht=>(h.each t ht).1
theorem DkOk.set (h:DkOk g k) {t t':Tr} (ht:findT g.op t'.id=some t) (hs:t'.sees=t.sees):DkOk { g with op:=setT g.op t' } k:=by
 refine ⟨by rw [setT_ids];exact h.ids,?_,by simpa [setT] using h.many,h.hall,h.log,h.hids,h.ends⟩
 intro u hu
 obtain ⟨h1,h2⟩:=findT_mem ht
 obtain ⟨x,hx,rfl⟩:=List.mem_map.1 hu
 by_cases e:x.id=t'.id
 ·rw [if_pos e]
  have:=h.each t h1
  rw [h2] at this
  rw [hs]
  exact this
 ·rw [if_neg e]
  exact h.each x hx
theorem DkOk.close (h:DkOk g k) (id:Int):DkOk { g with op:=eraseT g.op id } k:=by
 refine ⟨?_,fun t ht=>h.each t (List.mem_filter.1 ht).1,Nat.le_trans (List.length_filter_le _ _) h.many,h.hall,h.log,h.hids,h.ends⟩
 exact h.ids.sublist (List.filter_sublist.map _)
theorem DkOk.open (h:DkOk g k) (hn:g.op.length≠8):DkOk { g with ids:=g.ids+1,op:=g.op++[⟨g.ids+1,g.last,0,[],[],[]⟩] } (k+1):=by
 have hi:=h.hids
 refine ⟨?_,?_,by have:=h.many;simp;omega,⟨by have:=h.hall.1;show g.all.length≤k+1;omega,h.hall.2⟩,h.log,?_,h.ends⟩
 ·rw [List.map_append,List.nodup_append]
  refine ⟨h.ids,by simp,?_⟩
  intro a ha b hb e
  simp at hb
  subst hb
  subst e
  obtain ⟨t,ht,e⟩:=List.mem_map.1 ha
  have:=(h.each t ht).2.1
  omega
 ·intro t ht
  rcases List.mem_append.1 ht with ht | ht
  ·have:=h.each t ht
   refine ⟨this.1,?_,this.2.2⟩
   show t.id≤g.ids+1
   omega
  ·simp at ht
   subst ht
   refine ⟨?_,?_,?_,Int.le_refl _⟩
   ·show 1≤g.ids+1;omega
   ·exact Int.le_refl _
   ·show 0≤g.last;unfold Dk.last;omega
 ·show 0≤g.ids+1∧g.ids+1≤((k+1:Nat):Int)
  omega
theorem append_zero {lg:Lg} {l:List Chg} (h:(lg.append l).1=0):chgFault l=0∧lg.down=false∧(lg.append l).2={ lg with left:=leftS lg.left,B:=lg.B++frame l }:=by
 unfold Lg.append at h ⊢
 split at h
 ·rename_i e;exact absurd h e
 ·rename_i e
  split at h
  ·cases h
  ·split at h
   ·cases h
   ·split at h
    ·cases h
    ·rename_i e1 e2 e3
     rw [if_neg e,if_neg e1,if_neg e2,if_neg e3]
     exact ⟨by simpa using e,by simpa using e2,rfl⟩
theorem append_keeps {lg:Lg} {l:List Chg} {all:List (List Chg)} {ns:Nat} (h:LInv lg.down lg.B lg.safe all ns) (hn:(lg.append l).1≠0):LInv (lg.append l).2.down (lg.append l).2.B (lg.append l).2.safe all ns:=by
 unfold Lg.append at hn ⊢
 split
 ·exact h
 ·rename_i e
  rw [if_neg e] at hn
  split
  ·exact h
  ·rename_i e1
   rw [if_neg e1] at hn
   split
   ·exact h
   ·rename_i e2
    rw [if_neg e2] at hn
    split
    ·have hd:lg.down=false:=by simpa using e2
     rw [hd] at h
     exact h.half (by simpa using e)
    ·rename_i e3
     rw [if_neg e3] at hn
     exact absurd rfl hn
theorem DkOk.refused (h:DkOk g k) {l:List Chg} (hn:(g.lg.append l).1≠0):DkOk { g with lg:=(g.lg.append l).2 } k :=
 ⟨h.ids,h.each,h.many,h.hall,append_keeps h.log hn,h.hids,h.ends⟩
theorem DkOk.put (h:DkOk g k) {l:List Chg} (hl:l≠[]) (hz:(g.lg.append l).1=0):DkOk (Dk.put { g with lg:=(g.lg.append l).2 } l ((g.lg.append l).2.B.length:Int)) (k+1):=by
 obtain ⟨h1,h2,h3⟩:=append_zero hz
 have hL:=h.log
 rw [h2] at hL
 rw [h3]
 refine ⟨h.ids,?_,h.many,?_,?_,?_,?_⟩
 ·intro t ht
  have:=h.each t ht
  refine ⟨this.1,this.2.1,this.2.2.1,?_⟩
  show t.sees≤((g.all++[l]).length:Int)
  have h4:=this.2.2.2
  unfold Dk.last at h4
  simp
  omega
 ·refine ⟨?_,?_⟩
  ·show (g.all++[l]).length≤k+1
   have:=h.hall.1
   simp
   omega
  ·intro x hx
   rcases List.mem_append.1 hx with hx | hx
   ·exact h.hall.2 x hx
   ·simp at hx;subst hx;exact hl
 ·show LInv g.lg.down (g.lg.B++frame l) g.lg.safe (g.all++[l]) g.ns
  rw [h2]
  exact hL.append h1
 ·have:=h.hids
  exact ⟨this.1,by show g.ids≤((k+1:Nat):Int);omega⟩
 ·obtain ⟨e1,e2⟩:=h.ends
  show EndsOk (g.ends++[((g.lg.B++frame l).length:Int)]) (g.all++[l]) g.ns
  refine ⟨by simp [e1],fun i hi=>?_⟩
  rcases Nat.lt_or_ge i g.ends.length with q | q
  ·rw [List.getElem_append_left q,List.take_append_of_le_length (by omega)]
   exact e2 i q
  ·have hi':i=g.ends.length:=by simp at hi;omega
   subst hi'
   have:(frames ((g.all++[l]).take (g.ends.length+1)))=g.lg.B++frame l:=by
    obtain ⟨_,_,_,t,h5,_,h6⟩:=hL
    rw [h6 rfl] at h5
    rw [List.take_of_length_le (by simp [e1]),frames_append,frames_one,h5]
    simp
   rw [this]
   simp
end
theorem Changed_any (t:Nat) (F:List UInt8→List Ver) (top:Int) (m:Nat) (hm:m≤1000000) (S:Nat→Prop) (s:List UInt8) (hs:s.length≤maxLen) (n:Int) (w:World) (hT:TblAt w S t F top m) :
  Calls Tryz.prog 57 #[.pointer (some ⟨t,0,none⟩),txt s,.int .i64 n] w fun e w'=>e=.returned (.bool (lastB (F s) n))∧Below w.heap.size w w':=by
 obtain ⟨⟨b,es,clock,hB,hM,hn⟩,ht,hg⟩:=hT
 obtain ⟨kl,hkl⟩:=txt_key s hs
 have hx:=hB.cell 0
 simp at hx
 have hlen:=hg.len s
 rcases hM.map.look strKey Tryz.underlying146 (zeroRow w) hkl false with ⟨h1,hrun⟩ | ⟨v,h1,hrun⟩
 ·have hF:=Hd (show lastB (F s) n=false by rw [hM.none h1];rfl)
  simp only [Bool.false_eq_true,if_false] at hrun
  go_enter Tryz.func57,Tryz.ntmps57
  go_wp2
  first
   | (go_ret;exact ⟨by rw [hF.out];rfl,Below.refl _ _⟩)
   | (go_quiet (fail);go_wp2;go_ret;exact ⟨by rw [hF.out];rfl,Below.drewN' (Below.refl _ _)⟩)
 ·obtain ⟨hne,hrow⟩:=hM.rows s v h1
  obtain ⟨A,c,rfl,hrd⟩:=own_form hrow
  have hl0:0 < (F s).length:=List.length_pos_iff.2 hne
  obtain ⟨g,off,rfl,hgb,c0,c1,c2⟩:=hrd.ver (show (F s).length - 1 < (F s).length by omega)
  have hF:=Hd (lastB_at hl0 n)
  have hz1:((F s).length:Int) - 1=(((F s).length - 1:Nat):Int):=by omega
  simp only [Bool.false_eq_true,if_false] at hrun
  have hlI:(0:Int) < ((F s).length:Int):=by omega
  go_enter Tryz.func57,Tryz.ntmps57
  go_wp2
  first
   | (go_ret;exact ⟨by rw [hF.out];rfl,Below.refl _ _⟩)
   | (go_quiet (fail);go_wp2;go_ret;exact ⟨by rw [hF.out];rfl,Below.drewN' (Below.refl _ _)⟩)
theorem findT_cons (t:Tr) (l:List Tr) (id:Int):findT (t::l) id=if t.id=id then some t else findT l id:=by
 unfold findT
 by_cases h:t.id=id
 ·rw [List.find?_cons_of_pos (by simpa using h),if_pos h]
 ·rw [List.find?_cons_of_neg (by simpa using h),if_neg h]
theorem setT_cons (t u:Tr) (l:List Tr):setT (t::l) u=(if t.id=u.id then u else t)::setT l u:=rfl
theorem setT_nil (u:Tr):setT [] u=[]:=rfl
theorem eraseT_cons (t:Tr) (l:List Tr) (id:Int):eraseT (t::l) id=if t.id=id then eraseT l id else t::eraseT l id:=by
 unfold eraseT
 by_cases h:t.id=id
 ·rw [List.filter_cons_of_neg (by simpa using h),if_pos h]
 ·rw [List.filter_cons_of_pos (by simpa using h),if_neg h]
theorem eraseT_nil (id:Int):eraseT [] id=[]:=rfl
def NoLater (F:List UInt8→List Ver) (n:Int):Prop:=∀ s,∀ v ∈ F s,v.n≤n
theorem NoLater.last {F:List UInt8→List Ver} {n:Int} (h:NoLater F n) (s:List UInt8):lastB (F s) n=false:=by
 unfold lastB
 split
 ·rename_i v hv
  have:=h s v (List.mem_of_getLast? hv)
  simp
  omega
 ·rfl
theorem NoLater.clash {F:List UInt8→List Ver} {t:Tr} (h:NoLater F t.sees):¬ Clash F t:=by
 rintro (⟨s,_,h2⟩ | ⟨c,_,h2⟩ | ⟨p,_,s,_,h2⟩)
 ·rw [h.last] at h2;cases h2
 ·rw [h.last] at h2;cases h2
 ·rw [h.last] at h2;cases h2
def tr0 (id sees:Int):Tr:=⟨id,sees,0,[],[],[]⟩
theorem begin_of {g:Dk} (hn:g.op.length≠8) (hd:g.lg.down=false):g.begin=(g.ids+1,0,{ g with ids:=g.ids+1,op:=g.op++[tr0 (g.ids+1) g.last] }):=by
 unfold Dk.begin
 rw [if_neg hn,if_neg (by rw [hd];simp)]
 rfl
section
variable {g : Dk} {i a b L n : Int} {ta tb : Tr} {key value : List UInt8} {ks : List (List UInt8)} {sp : List (List UInt8 × List UInt8)} {own : List Chg}
end
def noF:List UInt8→List Ver:=fun _=>[]
section
variable {hi : List UInt8} {g g' : Dk} {was : List (List KV)}
end
theorem begin_keeps (g:Dk):g.begin.2.2.all=g.all∧g.begin.2.2.F=g.F∧g.begin.2.2.ns=g.ns:=by
 unfold Dk.begin
 split
 ·exact ⟨rfl,rfl,rfl⟩
 ·split <;> exact ⟨rfl,rfl,rfl⟩
theorem change_keeps (g:Dk) (id:Int) (c:Chg):(g.change id c).2.all=g.all∧(g.change id c).2.F=g.F∧(g.change id c).2.ns=g.ns:=by
 unfold Dk.change
 split
 ·exact ⟨rfl,rfl,rfl⟩
 ·split
  ·exact ⟨rfl,rfl,rfl⟩
  ·split <;> exact ⟨rfl,rfl,rfl⟩
end Go.Proofs.YtkckcbhnnllkhaaGreatDoor
