/- Parts of the proof; conditions: as each theorem says. -/
import Derived.Test.YtkckcbhnnllkhaaGreatDoorG27
import Derived.Lib.BitFns
set_option linter.unusedVariables false
set_option linter.unusedSimpArgs false
namespace Go.Proofs.YtkckcbhnnllkhaaGreatDoor
theorem lt_pow_bitLen:∀ (f x:Nat),x < 2 ^ f→x < 2 ^ Lib.bitLenAux f x
 | 0,x,h=>by simpa [Lib.bitLenAux] using h
 | f+1,x,h=>by
  simp only [Lib.bitLenAux]
  split
  ·rename_i h0;subst h0;decide
  ·have:=lt_pow_bitLen f (x / 2) (by rw [Nat.pow_succ] at h;omega)
   rw [Nat.add_comm 1,Nat.pow_succ];omega
theorem bitLen_iff (x k:Nat) (hx:x < 2 ^ 64) (hk:k≤64):x < 2 ^ k ↔ Lib.bitLen x≤k :=
 ⟨fun h=>Lib.bitLen_le x k hk h,fun h=>Nat.lt_of_lt_of_le (lt_pow_bitLen 64 x hx) (Nat.pow_le_pow_right (by decide) h)⟩
def lenGo (x hi:Int):Nat→Int→Int
 | 0,n=>n
 | k+1,n=>if x % sz n=0∧lastA x n≤hi then n else lenGo x hi k (n+1)
def blkN (x hi:Int):Int:=lenGo x hi 32 0
theorem lenGo_spec (x hi:Int):∀ (k:Nat) (n:Int),n+k=32→x≤hi→n≤lenGo x hi k n∧lenGo x hi k n≤32∧x % sz (lenGo x hi k n)=0∧lastA x (lenGo x hi k n)≤hi∧∀ m,n≤m→m≤32→x % sz m=0→lastA x m≤hi→lenGo x hi k n≤m
 | 0,n,hn,hx=>by
  have:n=32:=by omega
  subst this
  refine ⟨Int.le_refl _,Int.le_refl _,?_,?_,fun m h1 _ _ _=>h1⟩
  ·simp [lenGo,sz_32]
  ·simp [lenGo,lastA,sz_32];exact hx
 | k+1,n,hn,hx=>by
  unfold lenGo
  split
  ·rename_i h
   exact ⟨Int.le_refl _,by omega,h.1,h.2,fun m h1 _ _ _=>h1⟩
  ·rename_i h
   obtain ⟨h1,h2,h3,h4,h5⟩:=lenGo_spec x hi k (n+1) (by omega) hx
   refine ⟨by omega,h2,h3,h4,fun m g1 g2 g3 g4=>?_⟩
   by_cases e:m=n
   ·subst e;exact absurd ⟨g3,g4⟩ h
   ·exact h5 m (by omega) g2 g3 g4
theorem blk_spec {x hi:Int} (h0:0≤x) (h1:x≤hi) (h2:hi≤maxA):chk x (blkN x hi)=0∧lastA x (blkN x hi)≤hi∧∀ m,chk x m=0→lastA x m≤hi→blkN x hi≤m:=by
 obtain ⟨g1,g2,g3,g4,g5⟩:=lenGo_spec x hi 32 0 (by decide) h1
 unfold maxA at h2
 refine ⟨chk_zero.2 ⟨g1,g2,h0,by omega,g3⟩,g4,fun m hm hl=>?_⟩
 obtain ⟨e1,e2,e3,e4,e5⟩:=chk_zero.1 hm
 exact g5 m e1 e2 e5 hl
theorem blk_unique {x hi n:Int} (h0:0≤x) (h1:x≤hi) (h2:hi≤maxA) (hc:chk x n=0) (hl:lastA x n≤hi) (hm:∀ m,chk x m=0→lastA x m≤hi→n≤m):blkN x hi=n:=by
 obtain ⟨g1,g2,g3⟩:=blk_spec h0 h1 h2
 have:=g3 n hc hl
 have:=hm _ g1 g2
 omega
def cover (x hi:Int):List Pf:=if x≤hi then (x,blkN x hi)::cover (lastA x (blkN x hi)+1) hi else []
termination_by (hi+1 - x).toNat
decreasing_by have:=last_ge x (blkN x hi);omega
theorem cover_step {x hi:Int} (h:x≤hi):cover x hi=(x,blkN x hi)::cover (lastA x (blkN x hi)+1) hi:=by rw [cover,if_pos h]
theorem cover_end {x hi:Int} (h:¬ x≤hi):cover x hi=[]:=by rw [cover,if_neg h]
def Tiles:Int→Int→List Pf→Prop
 | x,hi,[]=>x=hi+1
 | x,hi,q::r=>q.1=x∧chkP q=0∧lastP q≤hi∧Tiles (lastP q+1) hi r
theorem cover_tiles (x hi:Int):0≤x→x≤hi+1→hi≤maxA→Tiles x hi (cover x hi):=by
 fun_induction cover x hi with
 | case1 x h ih =>
  intro h0 h1 h2
  obtain ⟨g1,g2,_⟩:=blk_spec h0 h h2
  have:=last_ge x (blkN x hi)
  exact ⟨rfl,g1,g2,ih (by omega) (by omega) h2⟩
 | case2 x h=>intro h0 h1 h2;show x=hi+1;omega
theorem Tiles.mem:∀ {l:List Pf} {x hi:Int},Tiles x hi l→∀ q ∈ l,chkP q=0∧x≤q.1∧lastP q≤hi
 | [],_,_,_,q,h=>by simp at h
 | p::r,x,hi,⟨h1,h2,h3,h4⟩,q,h=>by
  rcases List.mem_cons.1 h with rfl | h
  ·exact ⟨h2,by omega,h3⟩
  ·obtain ⟨a1,a2,a3⟩:=Tiles.mem h4 q h
   have:=last_geP p
   exact ⟨a1,by omega,a3⟩
def memP (l:List Pf) (t:Int):Bool:=l.any fun q=>decide (q.1≤t) && decide (t≤lastP q)
theorem memP_iff {l:List Pf} {t:Int}:memP l t=true ↔ ∃ q ∈ l,q.1≤t∧t≤lastP q:=by simp [memP]
theorem Tiles.mem_iff:∀ {l:List Pf} {x hi:Int},Tiles x hi l→∀ t,memP l t=true ↔ x≤t∧t≤hi
 | [],x,hi,h,t=>by
  have:x=hi+1:=h
  simp [memP];omega
 | p::r,x,hi,⟨h1,h2,h3,h4⟩,t=>by
  have ih:=Tiles.mem_iff h4 t
  have:=last_geP p
  simp only [memP,List.any_cons,Bool.or_eq_true,Bool.and_eq_true,decide_eq_true_eq] at ih ⊢
  rw [ih]
  omega
theorem cover_max (x hi:Int):0≤x→hi≤maxA→∀ D:Pf,chkP D=0→x≤D.1→lastP D≤hi→∃ q ∈ cover x hi,inQ D q=true:=by
 fun_induction cover x hi with
 | case1 x h ih =>
  intro h0 h2 D hD hx hl
  obtain ⟨g1,g2,g3⟩:=blk_spec h0 h h2
  have hq:chkP (x,blkN x hi)=0:=g1
  by_cases e:D.1≤lastA x (blkN x hi)
  ·refine ⟨(x,blkN x hi),by simp,?_⟩
   have hge:=last_geP D
   by_cases hlen:blkN x hi≤D.2
   ·exact nested hD hq hlen e (by show x≤_;omega)
   ·have hin:=nested hq hD (by show D.2≤_;omega) (by show x≤_;omega) e
    have:=(inQ_iff.1 hin).1
    have hDx:D.1=x:=by have:D.1≤x:=this;omega
    have hc:chk x D.2=0:=by rw [← hDx];exact hD
    have hll:lastA x D.2≤hi:=by rw [← hDx];exact hl
    have:=g3 D.2 hc hll
    omega
  ·have:=last_ge x (blkN x hi)
   obtain ⟨q,hq1,hq2⟩:=ih (by omega) h2 D hD (by omega) hl
   exact ⟨q,by simp [hq1],hq2⟩
 | case2 x h =>
  intro h0 h2 D hD hx hl
  have:=last_geP D
  omega
def coverSet (l:List Sp):List Pf:=l.flatMap fun s=>cover s.1 s.2
theorem coverSet_snoc (l:List Sp) (k:Nat) (h:k < l.length):coverSet (l.take (k+1))=coverSet (l.take k)++cover l[k].1 l[k].2:=by
 unfold coverSet;rw [List.take_succ_eq_append_getElem h,List.flatMap_append];simp
theorem coverSet_mem {l:List Sp} {q:Pf}:q ∈ coverSet l ↔ ∃ s ∈ l,q ∈ cover s.1 s.2:=by simp [coverSet]
theorem coverSet_valid {l:List Sp} (hv:Valid l):∀ q ∈ coverSet l,chkP q=0:=fun q hq=>by
 obtain ⟨s,hs,hq⟩:=coverSet_mem.1 hq
 obtain ⟨h1,h2,h3⟩:=hv s hs
 exact ((cover_tiles s.1 s.2 h1 (by omega) h3).mem q hq).1
theorem coverSet_addr {l:List Sp} (hv:Valid l) (t:Int):memP (coverSet l) t=memS l t:=by
 rw [Bool.eq_iff_iff,memP_iff,memS_iff]
 constructor
 ·rintro ⟨q,hq,h⟩
  obtain ⟨s,hs,hq⟩:=coverSet_mem.1 hq
  obtain ⟨h1,h2,h3⟩:=hv s hs
  exact ⟨s,hs,((cover_tiles s.1 s.2 h1 (by omega) h3).mem_iff t).1 (memP_iff.2 ⟨q,hq,h⟩)⟩
 ·rintro ⟨s,hs,h⟩
  obtain ⟨h1,h2,h3⟩:=hv s hs
  obtain ⟨q,hq,h⟩:=memP_iff.1 (((cover_tiles s.1 s.2 h1 (by omega) h3).mem_iff t).2 h)
  exact ⟨q,coverSet_mem.2 ⟨s,hs,hq⟩,h⟩
theorem can_contig:∀ {l:List Sp} {b lo hi:Int},CanF b l→lo≤hi→(∀ t,lo≤t→t≤hi→memS l t=true)→∃ s ∈ l,s.1≤lo∧hi≤s.2
 | [],_,lo,hi,_,h,hm=>by have:=hm lo (Int.le_refl _) h;simp [memS] at this
 | s::r,b,lo,hi,⟨h1,h2,h3⟩,h,hm=>by
  have hr:∀ t,t≤s.2+1→memS r t=false:=fun t ht=>by
   cases e:memS r t
   ·rfl
   ·have:=CanF.gt h3 e;omega
  by_cases e:lo≤s.2
  ·refine ⟨s,by simp,?_,?_⟩
   ·have:=hm lo (Int.le_refl _) h
    rw [memS_cons,hr lo (by omega),Bool.or_false,inS_iff] at this
    omega
   ·refine Int.not_lt.1 fun hlt=>?_
    have:=hm (s.2+1) (by omega) (by omega)
    rw [memS_cons,hr _ (by omega),Bool.or_false,inS_iff] at this
    omega
  ·obtain ⟨x,hx,g⟩:=can_contig h3 h fun t g1 g2=>by
    have:=hm t g1 g2
    rw [memS_cons,Bool.or_eq_true,inS_iff] at this
    rcases this with h | h
    ·omega
    ·exact h
   exact ⟨x,by simp [hx],g⟩
theorem coverSet_max {l:List Sp} {b:Int} (hc:CanF b l) (hv:Valid l) {D:Pf} (hD:chkP D=0) (h:∀ t,D.1≤t→t≤lastP D→memS l t=true):∃ q ∈ coverSet l,inQ D q=true:=by
 obtain ⟨s,hs,h1,h2⟩:=can_contig hc (last_geP D) h
 obtain ⟨g1,g2,g3⟩:=hv s hs
 obtain ⟨q,hq,hin⟩:=cover_max s.1 s.2 g1 g3 D hD h1 h2
 exact ⟨q,coverSet_mem.2 ⟨s,hs,hq⟩,hin⟩
/- prefixes as spans -/
def spansP (l:List Pf):List Sp:=l.map fun q=>(q.1,lastP q)
theorem spansP_mem (l:List Pf) (t:Int):memS (spansP l) t=memP l t:=by
 unfold spansP memS memP
 rw [List.any_map]
 rfl
theorem spansP_valid {l:List Pf} (h:∀ q ∈ l,chkP q=0):Valid (spansP l):=fun s hs=>by
 obtain ⟨q,hq,rfl⟩:=List.mem_map.1 hs
 have h1:=h q hq
 have h2:=chk_zero.1 h1
 have h3:lastP q≤4294967295:=last_le h1
 unfold maxA
 exact ⟨h2.2.2.1,last_geP q,h3⟩
end Go.Proofs.YtkckcbhnnllkhaaGreatDoor
