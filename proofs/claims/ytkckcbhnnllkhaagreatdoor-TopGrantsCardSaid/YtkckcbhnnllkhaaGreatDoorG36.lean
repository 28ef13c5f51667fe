/- Parts of the proof; conditions: as each theorem says. -/
import Derived.Test.YtkckcbhnnllkhaaGreatDoorG34
import Derived.Test.YtkckcbhnnllkhaaGreatDoorG15
set_option linter.unusedVariables false
set_option linter.unusedSimpArgs false
set_option maxRecDepth 100000
set_option maxHeartbeats 40000000
namespace Go.Proofs.YtkckcbhnnllkhaaGreatDoor
open Go.RowKit
theorem of_ok (s:Sp) (hf:spanFault s=0) (w:World) (ht:TabVar w) :
  Calls Tryz.prog 177 #[.agg #[.int .i64 s.1,.int .i64 s.2]] w (OwnRes2 31 w (cover s.1 s.2)):=by
 obtain ⟨h0,h1,h2⟩:=spanFault_zero.1 hf
 exact callsIn_wide.1 (of_in 3 (by omega) s.1 s.2 h0 h1 h2 w ht)
theorem coverSet_len {l:List Sp} (hv:Valid l):(coverSet l).length≤l.length * 4294967296:=by
 induction l with
 | nil=>simp [coverSet]
 | cons s r ih =>
  have h1:=ih (fun x hx=>hv x (by simp [hx]))
  have h2:=cover_len s.1 s.2
  have h3:=hv s (by simp)
  unfold maxA at h3
  have:(coverSet (s::r)).length=(cover s.1 s.2).length+(coverSet r).length:=by simp [coverSet]
  rw [this,List.length_cons,Nat.add_mul]
  omega
theorem all_any (A:Option Addr) (l:List Sp) (c:Nat) (hv:Valid l) (hlen:l.length≤64) (w:World) (ht:TabVar w) (hl:Rd w w.heap.size A (cellsP l)) :
  Calls Tryz.prog 158 #[.slice A l.length c] w (OwnRes 31 w (coverSet l)):=by
 have HV:=Hd hv
 have hgt:=ht.lt
 clear hv
 go_enter Tryz.func158,Tryz.ntmps158
 go_wp2
 go_loopw [3,5,6,7,10] (fun v _ _ _ i wr=>∃ k:Nat,k≤l.length∧i=.int .i64 k∧Below w.heap.size w wr∧OwnP wr w.heap.size 31 v (coverSet (l.take k))) (fun _ _ _ _ i _=>l.length - (intOf i).toNat)
 case atStart=>exact ⟨0,Nat.zero_le _,rfl,Below.refl _ _,OwnP.nil _ _ _⟩
 case round =>
  obtain ⟨k,hk,rfl,hb,hown⟩:=hrel
  by_cases hlt:k < l.length
  ·have hs:=hb.size
   obtain ⟨b,off,rfl,hbb,c0,c1⟩:=(hl.below hb).pair hlt
   have HF:=Hd (spanFault_zero.2 (HV.out l[k] (List.getElem_mem _)))
   have HS:=Hd (coverSet_snoc l k hlt)
   obtain ⟨X,hX⟩:∃ X,X=coverSet (l.take k):=⟨_,rfl⟩
   obtain ⟨Y,hY⟩:∃ Y,Y=cover l[k].1 l[k].2:=⟨_,rfl⟩
   have hXl:X.length≤64 * 4294967296:=by
    rw [hX]
    refine Nat.le_trans (coverSet_len (fun x hx=>HV.out x (List.mem_of_mem_take hx))) (Nat.mul_le_mul_right _ ?_)
    rw [List.length_take];omega
   have hYl:Y.length≤4294967296:=by
    have h3:=HV.out l[k] (List.getElem_mem _)
    have h2:=cover_len l[k].1 l[k].2
    unfold maxA at h3
    rw [hY];omega
   rw [← hX] at hown
   have HX:=Hd hX
   have HY:=Hd hY
   clear hX hY
   go_wp2_with fail
   refine (of_ok l[k] HF.out _ ((ht.belowB hb hgt).belowB ((Below.refl wr.heap.size wr).alloc (Nat.le_refl _) _) (by omega))).mono ?_
   rintro e w2 ⟨v2,rfl,hown2,hb2⟩
   rw [← HY.out] at hown2
   obtain ⟨A2,c2,rfl,hr2⟩:=hown2.form
   have hb3:=(hb.alloc hs (.cells #[.int .i64 l[k].1,.int .i64 l[k].2] 138)).trans (hb2.mono (by simp;omega))
   have hs3:=hb3.size
   have hown3:=(hown.alloc (.cells #[.int .i64 l[k].1,.int .i64 l[k].2] 138)).below hb2
   clear hb2 hb hown hown2 c0 c1
   go_wp2_with (at_builtin;refine wpList_append_rd rfl (.tmp 19) (.tmp 20) 44 rfl 31 Tryz.underlying44 _ 2 16 infoPfx rfl (by decide) w.heap.size _ X.length (cellsP X) rfl hown3 w2.heap.size A2 Y.length c2 (cellsP Y) rfl (by rw [cellsP_length]) hr2 (cellsP_one Y) (by unfold maxLen;omega) (by omega) hs3 ?_;intro v5 w5 hown5 hb5)
   go_roundw
   case rel=>exact ⟨k+1,by omega,by go_num,hb3.trans hb5,by rw [HS.out,← HX.out,← HY.out];unfold OwnP;rw [cellsP_append,List.length_append];exact hown5⟩
   case measure=>simp [intOf];omega
  ·obtain rfl:k=l.length:=by omega
   rw [List.take_length] at hown
   go_wp2
   go_ret
   exact ⟨_,rfl,hown,hb⟩
/- cover.Spans -/
def firstP:List Pf→Int
 | []=>0
 | q::r=>if chkP q≠0 then chkP q else firstP r
theorem firstP_step (l:List Pf) (k:Nat) (h:k < l.length):firstP (l.drop k)=if chkP l[k]≠0 then chkP l[k] else firstP (l.drop (k+1)):=by
 rw [List.drop_eq_getElem_cons h,firstP]
theorem spansP_snoc (l:List Pf) (k:Nat) (h:k < l.length):spansP (l.take (k+1))=spansP (l.take k)++[(l[k].1,lastP l[k])]:=by
 unfold spansP
 rw [List.take_succ_eq_append_getElem h,List.map_append]
 rfl
theorem firstP_good:∀ {l:List Pf},firstP l=0→∀ q ∈ l,chkP q=0
 | [],_,q,hq=>by simp at hq
 | x::r,h,q,hq=>by
  unfold firstP at h
  by_cases hx:chkP x=0
  ·rw [if_neg (by simp [hx])] at h
   rcases List.mem_cons.1 hq with rfl | hq
   ·exact hx
   ·exact firstP_good h q hq
  ·rw [if_pos hx] at h;exact absurd h hx
theorem firstP_of:∀ {l:List Pf},(∀ q ∈ l,chkP q=0)→firstP l=0
 | [],_=>rfl
 | x::r,h=>by
  unfold firstP
  rw [if_neg (by simp [h x (by simp)])]
  exact firstP_of fun q hq=>h q (by simp [hq])
/- cover.Fewest -/
def freeFault (p:Pf) (l:List Pf):Int:=if chkP p≠0 then chkP p else if 60 < l.length then 3 else firstP l
theorem freeFault_zero {p:Pf} {l:List Pf}:freeFault p l=0 ↔ chkP p=0∧l.length≤60∧∀ q ∈ l,chkP q=0:=by
 unfold freeFault
 constructor
 ·intro h
  by_cases h1:chkP p=0
  ·rw [if_neg (by simp [h1])] at h
   by_cases h2:60 < l.length
   ·rw [if_pos h2] at h;cases h
   ·rw [if_neg h2] at h
    exact ⟨h1,by omega,firstP_good h⟩
  ·rw [if_pos h1] at h;exact absurd h h1
 ·rintro ⟨h1,h2,h3⟩
  rw [if_neg (by simp [h1]),if_neg (by omega)]
  exact firstP_of h3
def gapsL (p:Pf) (l:List Pf):List Sp:=common [(p.1,lastP p)] (others (norm (spansP l)))
def blocksL (p:Pf) (l:List Pf):List Pf:=coverSet (gapsL p l)
theorem gaps_mem {p:Pf} {l:List Pf} (hf:freeFault p l=0) (t:Int):memS (gapsL p l) t=(decide (p.1≤t) && decide (t≤lastP p) && !memP l t):=by
 obtain ⟨h1,h2,h3⟩:=freeFault_zero.1 hf
 obtain ⟨c1,c2,c3,c4,c5⟩:=chk_zero.1 h1
 have hv:=spansP_valid h3
 have hn:=norm_good hv
 have hnv:=norm_valid hv
 have hlast:lastP p≤maxA:=by
  have:=spansP_valid (l:=[p]) (by simpa using h1) (p.1,lastP p) (by simp [spansP])
  exact this.2.2
 have hc1:CanF (-1) [(p.1,lastP p)]:=⟨by simp;omega,last_geP p,trivial⟩
 have hc2:CanF (-1) (others (norm (spansP l))):=othersGo_can _ 0 hn.1
 unfold gapsL
 rw [common_mem _ _ _ _ hc1 hc2]
 have ho:=othersGo_mem (norm (spansP l)) 0 hn.1 (fun s hs=>(hnv s hs).2.2) t
 unfold others
 rw [ho,hn.2,spansP_mem]
 have:memS [(p.1,lastP p)] t=(decide (p.1≤t) && decide (t≤lastP p)):=by simp [memS,inS]
 rw [this]
 by_cases q1:p.1≤t
 ·by_cases q2:t≤lastP p
  ·have q3:(0:Int)≤t:=by omega
   have q4:t≤maxA:=by omega
   simp [q1,q2,q3,q4]
  ·simp [q2]
 ·simp [q1]
theorem gaps_can {p:Pf} {l:List Pf} (hf:freeFault p l=0):CanF (-1) (gapsL p l):=by
 obtain ⟨h1,h2,h3⟩:=freeFault_zero.1 hf
 obtain ⟨c1,c2,c3,c4,c5⟩:=chk_zero.1 h1
 have hc1:CanF (-1) [(p.1,lastP p)]:=⟨by simp;omega,last_geP p,trivial⟩
 have hc2:CanF (-1) (others (norm (spansP l))):=othersGo_can _ 0 (norm_good (spansP_valid h3)).1
 exact common_can _ _ _ _ hc1 hc2
theorem gaps_valid {p:Pf} {l:List Pf} (hf:freeFault p l=0):Valid (gapsL p l):=can_valid (gaps_can hf) fun t ht=>by
 rw [gaps_mem hf] at ht
 simp only [Bool.and_eq_true,decide_eq_true_eq] at ht
 obtain ⟨h1,_,_⟩:=freeFault_zero.1 hf
 have:=spansP_valid (l:=[p]) (by simpa using h1) (p.1,lastP p) (by simp [spansP])
 have:=this.2.2
 omega
theorem gaps_len {p:Pf} {l:List Pf} (hf:freeFault p l=0):(gapsL p l).length≤64:=by
 obtain ⟨h1,h2,h3⟩:=freeFault_zero.1 hf
 have a1:=common_length [(p.1,lastP p)] (others (norm (spansP l)))
 have a2:=othersGo_length (norm (spansP l)) 0
 have a3:=norm_length (spansP l)
 have a4:(spansP l).length=l.length:=by simp [spansP]
 unfold gapsL others at *
 simp at a1
 omega
theorem block_facts {p:Pf} {l:List Pf} (hf:freeFault p l=0) {b:Pf} (hb:b ∈ blocksL p l):chkP b=0∧inQ b p=true∧∀ q ∈ l,inQ b q=false∧inQ q b=false:=by
 have hg:=last_geP b
 have key:∀ t,b.1≤t→t≤lastP b→p.1≤t∧t≤lastP p∧memP l t=false:=fun t h1 h2=>by
  have hm:memP (blocksL p l) t=true:=memP_iff.2 ⟨b,hb,h1,h2⟩
  unfold blocksL at hm
  rw [coverSet_addr (gaps_valid hf),gaps_mem hf] at hm
  simpa [and_assoc] using hm
 have k1:=key b.1 (Int.le_refl _) hg
 have k2:=key (lastP b) hg (Int.le_refl _)
 refine ⟨coverSet_valid (gaps_valid hf) b hb,inQ_iff.2 ⟨k1.1,k2.2.1⟩,fun q hq=>⟨?_,?_⟩⟩
 ·have:¬ inQ b q=true:=fun h=>by
   rw [inQ_iff] at h
   have:=memP_iff.2 ⟨q,hq,h.1,by omega⟩
   rw [k1.2.2] at this;cases this
  simpa using this
 ·have hgq:=last_geP q
  have:¬ inQ q b=true:=fun h=>by
   rw [inQ_iff] at h
   have hk:=key q.1 h.1 (by omega)
   have:=memP_iff.2 ⟨q,hq,Int.le_refl _,hgq⟩
   rw [hk.2.2] at this;cases this
  simpa using this
def fitB (n:Int) (b:Pf):Bool:=decide (b.2≤n)
def greatL (p:Pf) (l:List Pf) (n:Int):List Pf:=(blocksL p l).filter (fitB n)
def greatFault (p:Pf) (l:List Pf) (n:Int):Int:=if freeFault p l≠0 then freeFault p l else if n < p.2∨32 < n then 1 else 0
theorem greatFault_zero {p:Pf} {l:List Pf} {n:Int}:greatFault p l n=0 ↔ freeFault p l=0∧p.2≤n∧n≤32:=by
 unfold greatFault
 constructor
 ·intro h
  by_cases h1:freeFault p l=0
  ·rw [if_neg (by simp [h1])] at h
   by_cases h2:n < p.2∨32 < n
   ·rw [if_pos h2] at h;cases h
   ·exact ⟨h1,by omega,by omega⟩
  ·rw [if_pos h1] at h;exact absurd h h1
 ·rintro ⟨h1,h2,h3⟩
  rw [if_neg (by simp [h1]),if_neg (by omega)]
theorem great_mem {p:Pf} {l:List Pf} {n:Int} {b:Pf}:b ∈ greatL p l n ↔ b ∈ blocksL p l∧b.2≤n:=by simp [greatL,fitB]
theorem blocks_chk {p:Pf} {l:List Pf} (hf:freeFault p l=0) {b:Pf} (hb:b ∈ blocksL p l):chkP b=0:=coverSet_valid (gaps_valid hf) b hb
/- how many -/
def nb (G:List Pf) (n:Int):List Int:=G.flatMap fun b=>(List.range (2 ^ (n - b.2).toNat)).map fun (j:Nat)=>b.1+(j:Int) * sz n
theorem sz_times {n m:Int} (h0:0≤m) (h:m≤n) (h2:n≤32):sz m=((2 ^ (n - m).toNat:Nat):Int) * sz n:=by
 have e:((2 ^ (n - m).toNat:Nat):Int)=(2:Int) ^ (n - m).toNat:=by simp
 rw [e]
 unfold sz
 rw [← Int.pow_add]
 congr 1
 omega
theorem nb_one {b:Pf} {n a:Int} (hb:chkP b=0) (hl:b.2≤n) (hn:n≤32):(a ∈ (List.range (2 ^ (n - b.2).toNat)).map fun (j:Nat)=>b.1+(j:Int) * sz n) ↔ chkP (a,n)=0∧inQ (a,n) b=true:=by
 obtain ⟨c1,c2,c3,c4,c5⟩:=chk_zero.1 hb
 have hlast:lastP b≤4294967295:=last_le hb
 have ht:=sz_times c1 hl hn
 have hs:=sz_pos n
 obtain ⟨i,hi⟩:=Int.dvd_of_emod_eq_zero c5
 have hlb:lastP b=b.1+sz b.2 - 1:=rfl
 have hdv:b.1=sz n * (((2 ^ (n - b.2).toNat:Nat):Int) * i):=by rw [hi,ht,Int.mul_comm _ (sz n),Int.mul_assoc]
 generalize hK:(2 ^ (n - b.2).toNat:Nat)=K at *
 rw [List.mem_map]
 constructor
 ·rintro ⟨j,hj,rfl⟩
  rw [List.mem_range] at hj
  have h1:0≤(j:Int) * sz n:=Int.mul_nonneg (by omega) (Int.le_of_lt hs)
  have h2:((j:Int)+1) * sz n≤(K:Int) * sz n:=Int.mul_le_mul_of_nonneg_right (by omega) (Int.le_of_lt hs)
  rw [Int.add_mul] at h2
  refine ⟨chk_zero.2 ⟨by omega,hn,by show 0≤b.1+_;omega,?_,?_⟩,inQ_iff.2 ⟨by show b.1≤b.1+_;omega,?_⟩⟩
  ·show b.1+(j:Int) * sz n≤4294967295
   omega
  ·show (b.1+(j:Int) * sz n) % sz n=0
   rw [hdv,Int.mul_comm (j:Int),← Int.mul_add]
   exact Int.mul_emod_right _ _
  ·show b.1+(j:Int) * sz n+sz n - 1≤lastP b
   omega
 ·rintro ⟨h1,h2⟩
  obtain ⟨d1,d2,d3,d4,d5⟩:=chk_zero.1 h1
  rw [inQ_iff] at h2
  obtain ⟨e1,e2⟩:=h2
  have e1':b.1≤a:=e1
  have e2':a+sz n - 1≤lastP b:=e2
  obtain ⟨x,hx⟩:=Int.dvd_of_emod_eq_zero (show a % sz n=0 from d5)
  obtain ⟨y,hy⟩:∃ y,y=(K:Int) * i:=⟨_,rfl⟩
  rw [← hy] at hdv
  have g1:y≤x:=by
   refine Int.not_lt.1 fun h=>?_
   have:=Int.mul_le_mul_of_nonneg_left (show x+1≤y by omega) (Int.le_of_lt hs)
   rw [Int.mul_add] at this
   omega
  have g2:x < y+K:=by
   refine Int.not_le.1 fun h=>?_
   have:=Int.mul_le_mul_of_nonneg_left h (Int.le_of_lt hs)
   rw [Int.mul_add,Int.mul_comm (sz n) (K:Int)] at this
   omega
  refine ⟨(x - y).toNat,List.mem_range.2 (by omega),?_⟩
  rw [Int.toNat_of_nonneg (by omega),Int.sub_mul,Int.mul_comm x,Int.mul_comm y,← hx,← hdv]
  omega
theorem nb_mem {G:List Pf} {n:Int} (hG:∀ b ∈ G,chkP b=0∧b.2≤n) (hn:n≤32) (a:Int):a ∈ nb G n ↔ chkP (a,n)=0∧∃ b ∈ G,inQ (a,n) b=true:=by
 unfold nb
 rw [List.mem_flatMap]
 constructor
 ·rintro ⟨b,hb,h⟩
  obtain ⟨h1,h2⟩:=(nb_one (hG b hb).1 (hG b hb).2 hn).1 h
  exact ⟨h1,b,hb,h2⟩
 ·rintro ⟨h1,b,hb,h2⟩
  exact ⟨b,hb,(nb_one (hG b hb).1 (hG b hb).2 hn).2 ⟨h1,h2⟩⟩
/- what is free of a Len -/
theorem great_ok {p:Pf} {l:List Pf} {n:Int} (hf:greatFault p l n=0):∀ b ∈ greatL p l n,chkP b=0∧b.2≤n:=fun b hb=>by
 obtain ⟨h1,h2⟩:=great_mem.1 hb
 exact ⟨blocks_chk (greatFault_zero.1 hf).1 h1,h2⟩
theorem great_nb {p:Pf} {l:List Pf} {n:Int} (hf:greatFault p l n=0) (a:Int):a ∈ nb (greatL p l n) n ↔ chkP (a,n)=0∧∀ t,a≤t→t≤lastP (a,n)→memS (gapsL p l) t=true:=by
 obtain ⟨h1,h2,h3⟩:=greatFault_zero.1 hf
 rw [nb_mem (great_ok hf) h3]
 constructor
 ·rintro ⟨g1,b,hb,g2⟩
  rw [inQ_iff] at g2
  refine ⟨g1,fun t t1 t2=>?_⟩
  rw [← coverSet_addr (gaps_valid h1)]
  have g3:b.1≤a:=g2.1
  exact memP_iff.2 ⟨b,(great_mem.1 hb).1,by omega,by omega⟩
 ·rintro ⟨g1,g2⟩
  obtain ⟨b,hb,hin⟩:=coverSet_max (gaps_can h1) (gaps_valid h1) g1 g2
  refine ⟨g1,b,great_mem.2 ⟨hb,?_⟩,hin⟩
  rw [inQ_iff] at hin
  have e1:b.1≤a:=hin.1
  have e2:a+sz n - 1≤b.1+sz b.2 - 1:=hin.2
  refine Int.not_lt.1 fun h=>?_
  obtain ⟨d1,d2,_⟩:=chk_zero.1 (blocks_chk h1 hb)
  have:=sz_strict h d2
  omega
theorem great_at {p:Pf} {l:List Pf} {n:Int} (hf:greatFault p l n=0) {b:Pf} (hb:b ∈ greatL p l n):b.1 ∈ nb (greatL p l n) n:=by
 obtain ⟨h1,h2,h3⟩:=greatFault_zero.1 hf
 obtain ⟨g1,g2⟩:=great_ok hf b hb
 have:b.1 ∈ (List.range (2 ^ (n - b.2).toNat)).map fun (j:Nat)=>b.1+(j:Int) * sz n:=List.mem_map.2 ⟨0,List.mem_range.2 (Nat.two_pow_pos _),by simp⟩
 exact List.mem_flatMap.2 ⟨b,hb,this⟩
/- the best -/
/- gaps and what is taken are all -/
end Go.Proofs.YtkckcbhnnllkhaaGreatDoor
