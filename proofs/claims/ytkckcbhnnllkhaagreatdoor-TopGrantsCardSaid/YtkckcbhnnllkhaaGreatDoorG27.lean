/- Parts of the proof; conditions: as each theorem says. -/
import Derived.Laws.BitsAllLaws
import Derived.Laws.Bits64
import Derived.IntWalk
set_option linter.unusedVariables false
set_option linter.unusedSimpArgs false
namespace Go.Proofs.YtkckcbhnnllkhaaGreatDoor
open Go
def sz (n:Int):Int:=2 ^ (32 - n).toNat
def isA (a:Int):Bool:=decide (0≤a) && decide (a≤4294967295)
def chk (a n:Int):Int:=if n < 0∨32 < n∨isA a=false then 1 else if a % sz n=0 then 0 else 2
def lastA (a n:Int):Int:=a+sz n - 1
def inP (a n b m:Int):Bool:=decide (b≤a) && decide (lastA a n≤lastA b m)
theorem isA_true {a:Int}:isA a=true ↔ 0≤a∧a≤4294967295:=by simp [isA]
theorem isA_false {a:Int}:isA a=false ↔ (a < 0∨4294967295 < a):=by simp [isA];omega
theorem sz_pos (n:Int):0 < sz n:=Int.pow_pos (by decide)
theorem sz_nat (n:Int):sz n=((2 ^ (32 - n).toNat:Nat):Int):=by simp [sz]
theorem sz_le (n:Int) (h:0≤n):sz n≤4294967296:=by
 rw [sz_nat]
 have:2 ^ (32 - n).toNat≤2 ^ 32:=Nat.pow_le_pow_right (by decide) (by omega)
 omega
theorem sz_dvd (n:Int) (h:0≤n):sz n ∣ 4294967296:=by
 rw [sz_nat]
 have h2:2 ^ (32 - n).toNat ∣ 2 ^ 32:=Nat.pow_dvd_pow 2 (by omega)
 exact Int.natCast_dvd_natCast.2 h2
theorem sz_32:sz 32=1:=rfl
theorem sz_half (n:Int) (h:n < 32):sz n=2 * sz (n+1):=by
 unfold sz
 have:(32 - n).toNat=(32 - (n+1)).toNat+1:=by omega
 rw [this,Int.pow_succ]
 omega
theorem chk_zero {a n:Int}:chk a n=0 ↔ 0≤n∧n≤32∧0≤a∧a≤4294967295∧a % sz n=0:=by
 unfold chk
 by_cases h:n < 0∨32 < n∨isA a=false
 ·rw [if_pos h,isA_false] at *
  omega
 ·rw [if_neg h]
  rw [isA_false] at h
  by_cases h2:a % sz n=0
  ·rw [if_pos h2];omega
  ·rw [if_neg h2];omega
theorem last_le {a n:Int} (h:chk a n=0):lastA a n≤4294967295:=by
 obtain ⟨h1,h2,h3,h4,h5⟩:=chk_zero.1 h
 have hp:=sz_pos n
 obtain ⟨k,hk⟩:=sz_dvd n h1
 obtain ⟨q,hq⟩:=Int.dvd_of_emod_eq_zero h5
 unfold lastA
 have hlt:q < k:=by
  refine Int.not_le.1 fun h=>?_
  have:=Int.mul_le_mul_of_nonneg_left h (Int.le_of_lt hp)
  omega
 have:=Int.mul_le_mul_of_nonneg_left (show q+1≤k by omega) (Int.le_of_lt hp)
 rw [Int.mul_add] at this
 omega
theorem last_ge (a n:Int):a≤lastA a n:=by have:=sz_pos n;unfold lastA;omega
/- bits -/
theorem i64_bits_nat (a b:Nat) (ha:a < 9223372036854775808) (hb:b < 9223372036854775808) :
  (bits .and .i64 (a:Int) (b:Int)=((a &&& b:Nat):Int))∧(bits .or .i64 (a:Int) (b:Int)=((a ||| b:Nat):Int))∧(bits .xor .i64 (a:Int) (b:Int)=((a ^^^ b:Nat):Int)):=by
 have h1:=ofInt_u64 a (by omega)
 have h2:=ofInt_u64 b (by omega)
 have l1:a &&& b < 2 ^ 63:=Nat.and_lt_two_pow _ (by omega)
 have l2:a ||| b < 2 ^ 63:=Nat.or_lt_two_pow (by omega) (by omega)
 have l3:a ^^^ b < 2 ^ 63:=Nat.xor_lt_two_pow (by omega) (by omega)
 refine ⟨?_,?_,?_⟩
 ·show IntKind.i64.wrap ((BitVec.ofInt 64 (a:Int) &&& BitVec.ofInt 64 (b:Int)).toNat:Int)=_
  rw [BitVec.toNat_and,h1,h2,IntWalk.i64_in _ (by omega)]
 ·show IntKind.i64.wrap ((BitVec.ofInt 64 (a:Int) ||| BitVec.ofInt 64 (b:Int)).toNat:Int)=_
  rw [BitVec.toNat_or,h1,h2,IntWalk.i64_in _ (by omega)]
 ·show IntKind.i64.wrap ((BitVec.ofInt 64 (a:Int) ^^^ BitVec.ofInt 64 (b:Int)).toNat:Int)=_
  rw [BitVec.toNat_xor,h1,h2,IntWalk.i64_in _ (by omega)]
theorem and_rest {a n:Int} (h0:0≤n) (h1:0≤a) (h2:a≤4294967295):bits .and .i64 a (sz n - 1)=a % sz n:=by
 obtain ⟨x,rfl⟩:=Int.eq_ofNat_of_zero_le h1
 have hs:=sz_le n h0
 have hp:=sz_pos n
 rw [sz_nat] at *
 have hq:((2 ^ (32 - n).toNat:Nat):Int) - 1=((2 ^ (32 - n).toNat - 1:Nat):Int):=by omega
 rw [hq,(i64_bits_nat _ _ (by omega) (by omega)).1,Nat.and_two_pow_sub_one_eq_mod]
 rfl
theorem or_rest {a n:Int} (h:chk a n=0):bits .or .i64 a (sz n - 1)=lastA a n:=by
 obtain ⟨h0,h3,h1,h2,h5⟩:=chk_zero.1 h
 obtain ⟨x,rfl⟩:=Int.eq_ofNat_of_zero_le h1
 have hs:=sz_le n h0
 have hp:=sz_pos n
 unfold lastA
 rw [sz_nat] at *
 have hq:((2 ^ (32 - n).toNat:Nat):Int) - 1=((2 ^ (32 - n).toNat - 1:Nat):Int):=by omega
 rw [hq,(i64_bits_nat _ _ (by omega) (by omega)).2.1]
 rw [nat_join (32 - n).toNat x _ (by omega) (by have:=Nat.two_pow_pos (32 - n).toNat;omega)]
 have:=Nat.two_pow_pos (32 - n).toNat
 omega
/- host -/
def uLo (a n:Int):Int:=if n < 31 then a+1 else a
def uHi (a n:Int):Int:=if n < 31 then lastA a n - 1 else lastA a n
def inU (a n x:Int):Bool:=decide (uLo a n≤x) && decide (x≤uHi a n)
def usedFault (a n:Int) (used:List Int):Int:=if chk a n≠0 then chk a n else if 200 < used.length then 3 else if used.all isA then 0 else 1
def marks (a n:Int) (used:List Int):List Int:=used.filter (inU a n)
def nx (keys:List Int):Nat→Int→Int
 | 0,x=>x
 | k+1,x=>if x ∈ keys then nx keys k (x+1) else x
def nextOf (a n:Int) (used:List Int):Int:=nx (marks a n used) (uHi a n+1 - uLo a n).toNat (uLo a n)
def addNew (acc:List Int) (x:Int):List Int:=if x ∈ acc then acc else acc++[x]
def distinct (l:List Int):List Int:=l.foldl addNew []
theorem marks_snoc (a n:Int) (used:List Int) (k:Nat) (h:k < used.length):marks a n (used.take (k+1))=marks a n (used.take k)++(if inU a n used[k] then [used[k]] else []):=by
 unfold marks
 rw [List.take_succ_eq_append_getElem h,List.filter_append]
 congr 1
 by_cases hf:inU a n used[k] <;> simp [List.filter,hf]
theorem all_snoc {α:Type} (f:α→Bool) (l:List α) (k:Nat) (h:k < l.length):(l.take (k+1)).all f=((l.take k).all f && f l[k]):=by
 rw [List.take_succ_eq_append_getElem h,List.all_append];simp
theorem all_of_bad {α:Type} (f:α→Bool) (l:List α) (k:Nat) (h:k < l.length) (hf:f l[k]=false):l.all f=false:=by
 rw [List.all_eq_false]
 exact ⟨l[k],List.getElem_mem _,by simp [hf]⟩
theorem usedFault_zero {a n:Int} {used:List Int}:usedFault a n used=0 ↔ chk a n=0∧used.length≤200∧used.all isA=true:=by
 unfold usedFault
 by_cases h:chk a n=0
 ·by_cases h2:200 < used.length
  ·simp [h,h2];omega
  ·by_cases h3:used.all isA=true
   ·simp [h,h2,h3];omega
   ·simp [h,h2,h3]
 ·simp [h]
theorem mem_marks {a n:Int} {used:List Int} {x:Int}:x ∈ marks a n used ↔ x ∈ used∧uLo a n≤x∧x≤uHi a n:=by simp [marks,inU]
theorem nx_le (keys:List Int):∀ (k:Nat) (x:Int),x≤nx keys k x∧nx keys k x≤x+k
 | 0,x=>by simp [nx]
 | k+1,x=>by
  have:=nx_le keys k (x+1)
  unfold nx
  split <;> omega
theorem nx_all (keys:List Int):∀ (k:Nat) (x y:Int),x≤y→y < nx keys k x→y ∈ keys
 | 0,x,y,h1,h2=>by simp [nx] at h2;omega
 | k+1,x,y,h1,h2=>by
  unfold nx at h2
  split at h2
  ·rename_i hx
   by_cases e:y=x
   ·subst e;exact hx
   ·exact nx_all keys k (x+1) y (by omega) h2
  ·omega
theorem nx_stop (keys:List Int):∀ (k:Nat) (x:Int),nx keys k x ∉ keys∨nx keys k x=x+k
 | 0,x=>by simp [nx]
 | k+1,x=>by
  unfold nx
  split
  ·rcases nx_stop keys k (x+1) with h | h
   ·exact .inl h
   ·right;omega
  ·rename_i h;exact .inl h
theorem nx_unique (keys:List Int) (k:Nat) (x y:Int) (h1:x≤y) (h2:y≤x+k) (h3:∀ z,x≤z→z < y→z ∈ keys) (h4:y ∉ keys):nx keys k x=y:=by
 have g1:=nx_le keys k x
 rcases Int.lt_trichotomy (nx keys k x) y with h | h | h
 ·rcases nx_stop keys k x with g | g
  ·exact absurd (h3 _ g1.1 h) g
  ·omega
 ·exact h
 ·exact absurd (nx_all keys k x y h1 h) h4
theorem mem_addNew (acc:List Int) (x y:Int):y ∈ addNew acc x ↔ y ∈ acc∨y=x:=by
 unfold addNew
 split
 ·rename_i h
  exact ⟨.inl,fun h'=>h'.elim id (fun e=>e ▸ h)⟩
 ·simp
theorem nodup_addNew (acc:List Int) (x:Int) (h:acc.Nodup):(addNew acc x).Nodup:=by
 unfold addNew
 split
 ·exact h
 ·rename_i hx
  rw [List.nodup_append]
  exact ⟨h,by simp,fun a ha b hb=>by simp at hb;subst hb;exact fun e=>hx (e ▸ ha)⟩
theorem distinct_fold:∀ (l acc:List Int),acc.Nodup→(l.foldl addNew acc).Nodup∧∀ y,y ∈ l.foldl addNew acc ↔ y ∈ acc∨y ∈ l
 | [],acc,h=>by simp [h]
 | x::l,acc,h=>by
  have ih:=distinct_fold l (addNew acc x) (nodup_addNew acc x h)
  rw [List.foldl_cons]
  refine ⟨ih.1,fun y=>?_⟩
  rw [ih.2,mem_addNew]
  simp [or_assoc]
theorem distinct_nodup (l:List Int):(distinct l).Nodup:=(distinct_fold l [] (by simp)).1
theorem mem_distinct (l:List Int) (y:Int):y ∈ distinct l ↔ y ∈ l:=by rw [distinct,(distinct_fold l [] (by simp)).2];simp
theorem nextOf_spec (a n:Int) (used:List Int) (h:uLo a n≤uHi a n+1):uLo a n≤nextOf a n used∧nextOf a n used≤uHi a n+1∧nextOf a n used ∉ marks a n used∧∀ y,uLo a n≤y→y < nextOf a n used→y ∈ marks a n used:=by
 have h1:=nx_le (marks a n used) (uHi a n+1 - uLo a n).toNat (uLo a n)
 refine ⟨h1.1,by unfold nextOf;omega,?_,fun y g1 g2=>nx_all _ _ _ _ g1 g2⟩
 rcases nx_stop (marks a n used) (uHi a n+1 - uLo a n).toNat (uLo a n) with g | g
 ·exact g
 ·intro hm
  have:=mem_marks.1 hm
  unfold nextOf at this
  omega
theorem nextOf_unique (a n:Int) (used:List Int) (y:Int) (h1:uLo a n≤y) (h2:y≤uHi a n+1) (h3:∀ z,uLo a n≤z→z < y→z ∈ marks a n used) (h4:y ∉ marks a n used):nextOf a n used=y :=
 nx_unique _ _ _ _ h1 (by omega) h3 h4
abbrev Sp:=Int × Int
def maxA:Int:=4294967295
def inS (s:Sp) (a:Int):Bool:=decide (s.1≤a) && decide (a≤s.2)
def memS (l:List Sp) (a:Int):Bool:=l.any (fun s=>inS s a)
theorem inS_iff {s:Sp} {a:Int}:inS s a=true ↔ s.1≤a∧a≤s.2:=by simp [inS]
theorem memS_nil (a:Int):memS [] a=false:=rfl
theorem memS_cons (s:Sp) (l:List Sp) (a:Int):memS (s::l) a=(inS s a || memS l a):=rfl
theorem memS_append (l m:List Sp) (a:Int):memS (l++m) a=(memS l a || memS m a):=by simp [memS]
theorem memS_iff {l:List Sp} {a:Int}:memS l a=true ↔ ∃ s ∈ l,s.1≤a∧a≤s.2:=by simp [memS,inS]
def CanF:Int→List Sp→Prop
 | _,[]=>True
 | b,s::r=>b < s.1∧s.1≤s.2∧CanF (s.2+1) r
theorem CanF.mono:∀ {l:List Sp} {b c:Int},CanF b l→c≤b→CanF c l
 | [],_,_,_,_=>trivial
 | s::r,b,c,h,hc=>⟨by have:=h.1;omega,h.2⟩
theorem CanF.gt:∀ {l:List Sp} {b a:Int},CanF b l→memS l a=true→b < a
 | [],b,a,_,h=>by simp [memS] at h
 | s::r,b,a,⟨h1,h2,h3⟩,h=>by
  rw [memS_cons,Bool.or_eq_true] at h
  rcases h with h | h
  ·rw [inS_iff] at h;omega
  ·have:=CanF.gt h3 h;omega
theorem CanF.mem:∀ {l:List Sp} {b:Int},CanF b l→∀ s ∈ l,b < s.1∧s.1≤s.2
 | [],_,_,s,h=>by simp at h
 | t::r,b,⟨h1,h2,h3⟩,s,h=>by
  rcases List.mem_cons.1 h with rfl | h
  ·exact ⟨h1,h2⟩
  ·have:=CanF.mem h3 s h;omega
theorem canon_unique:∀ {l m:List Sp} {b c:Int},CanF b l→CanF c m→(∀ a,memS l a=memS m a)→l=m
 | [],[],_,_,_,_,_=>rfl
 | [],t::q,_,_,_,h2,h=>by
  have:=h t.1
  rw [memS_nil,memS_cons,show inS t t.1=true from inS_iff.2 ⟨Int.le_refl _,h2.2.1⟩] at this
  simp at this
 | s::r,[],_,_,h1,_,h=>by
  have:=h s.1
  rw [memS_nil,memS_cons,show inS s s.1=true from inS_iff.2 ⟨Int.le_refl _,h1.2.1⟩] at this
  simp at this
 | s::r,t::q,b,c,⟨a1,a2,a3⟩,⟨b1,b2,b3⟩,h=>by
  have hr:∀ a,a≤s.2+1→memS r a=false:=fun a ha=>by
   cases hm:memS r a
   ·rfl
   ·have:=CanF.gt a3 hm;omega
  have hq:∀ a,a≤t.2+1→memS q a=false:=fun a ha=>by
   cases hm:memS q a
   ·rfl
   ·have:=CanF.gt b3 hm;omega
  have lo1:t.1≤s.1:=by
   have:=h s.1
   rw [memS_cons,memS_cons,show inS s s.1=true from inS_iff.2 ⟨Int.le_refl _,a2⟩,Bool.true_or] at this
   rcases Bool.or_eq_true_iff.1 this.symm with g | g
   ·exact (inS_iff.1 g).1
   ·have:=CanF.gt b3 g;omega
  have lo2:s.1≤t.1:=by
   have:=h t.1
   rw [memS_cons,memS_cons,show inS t t.1=true from inS_iff.2 ⟨Int.le_refl _,b2⟩,Bool.true_or] at this
   rcases Bool.or_eq_true_iff.1 this with g | g
   ·exact (inS_iff.1 g).1
   ·have:=CanF.gt a3 g;omega
  have hi:s.2=t.2:=by
   rcases Int.lt_trichotomy s.2 t.2 with g | g | g
   ·have:=h (s.2+1)
    rw [memS_cons,memS_cons,hr _ (Int.le_refl _),show inS t (s.2+1)=true from inS_iff.2 ⟨by omega,by omega⟩] at this
    have h0:inS s (s.2+1)=false:=by
     cases e:inS s (s.2+1)
     ·rfl
     ·have:=(inS_iff.1 e).2;omega
    rw [h0] at this
    simp at this
   ·exact g
   ·have:=h (t.2+1)
    rw [memS_cons,memS_cons,hq _ (Int.le_refl _),show inS s (t.2+1)=true from inS_iff.2 ⟨by omega,by omega⟩] at this
    have h0:inS t (t.2+1)=false:=by
     cases e:inS t (t.2+1)
     ·rfl
     ·have:=(inS_iff.1 e).2;omega
    rw [h0] at this
    simp at this
  have est:s=t:=Prod.ext (by omega) hi
  subst est
  have:r=q:=canon_unique a3 b3 fun a=>by
   by_cases ha:a≤s.2+1
   ·rw [hr a ha,hq a ha]
   ·have:=h a
    rw [memS_cons,memS_cons] at this
    have h0:inS s a=false:=by
     cases e:inS s a
     ·rfl
     ·have:=(inS_iff.1 e).2;omega
    simpa [h0] using this
  rw [this]
/- merging -/
def mergeGo:Sp→List Sp→List Sp
 | cur,[]=>[cur]
 | cur,s::r=>if s.1≤cur.2+1 then mergeGo (cur.1,max cur.2 s.2) r else cur::mergeGo s r
def mergeL:List Sp→List Sp
 | []=>[]
 | s::r=>mergeGo s r
theorem mergeGo_mem:∀ (r:List Sp) (cur:Sp),cur.1≤cur.2→(∀ s ∈ r,s.1≤s.2)→(cur::r).Pairwise (fun x y=>x.1≤y.1)→∀ a,memS (mergeGo cur r) a=(inS cur a || memS r a)
 | [],cur,_,_,_,a=>by simp [mergeGo,memS]
 | s::r,cur,hc,hv,hp,a=>by
  rw [List.pairwise_cons,List.pairwise_cons] at hp
  have hs:=hv s (by simp)
  have hcs:=hp.1 s (by simp)
  unfold mergeGo
  split
  ·rename_i h
   rw [mergeGo_mem r (cur.1,max cur.2 s.2) (by simp;omega) (fun x hx=>hv x (by simp [hx])) (List.pairwise_cons.2 ⟨fun x hx=>hp.1 x (by simp [hx]),hp.2.2⟩),memS_cons,← Bool.or_assoc]
   congr 1
   rw [Bool.eq_iff_iff,Bool.or_eq_true,inS_iff,inS_iff,inS_iff]
   simp only
   omega
  ·rw [memS_cons,mergeGo_mem r s hs (fun x hx=>hv x (by simp [hx])) (List.pairwise_cons.2 hp.2),memS_cons]
theorem mergeGo_can:∀ (r:List Sp) (cur:Sp) (b:Int),b < cur.1→cur.1≤cur.2→(∀ s ∈ r,s.1≤s.2)→CanF b (mergeGo cur r)
 | [],cur,b,h1,h2,_=>⟨h1,h2,trivial⟩
 | s::r,cur,b,h1,h2,hv=>by
  unfold mergeGo
  split
  ·exact mergeGo_can r _ b h1 (by simp;omega) (fun x hx=>hv x (by simp [hx]))
  ·exact ⟨h1,h2,mergeGo_can r s _ (by omega) (hv s (by simp)) (fun x hx=>hv x (by simp [hx]))⟩
theorem mergeGo_length:∀ (r:List Sp) (cur:Sp),(mergeGo cur r).length≤r.length+1
 | [],_=>by simp [mergeGo]
 | s::r,cur=>by
  unfold mergeGo
  split
  ·have:=mergeGo_length r (cur.1,max cur.2 s.2);simp;omega
  ·have:=mergeGo_length r s;simp;omega
def insS (s:Sp):List Sp→List Sp
 | []=>[s]
 | t::r=>if s.1≤t.1 then s::t::r else t::insS s r
def sortS:List Sp→List Sp
 | []=>[]
 | s::r=>insS s (sortS r)
theorem insS_perm (s:Sp):∀ l,(insS s l).Perm (s::l)
 | []=>List.Perm.refl _
 | t::r=>by
  unfold insS
  split
  ·exact List.Perm.refl _
  ·exact ((insS_perm s r).cons t).trans (List.Perm.swap s t r)
theorem sortS_perm:∀ l,(sortS l).Perm l
 | []=>List.Perm.refl _
 | s::r=>(insS_perm s (sortS r)).trans ((sortS_perm r).cons s)
theorem insS_sorted (s:Sp):∀ l:List Sp,l.Pairwise (fun x y=>x.1≤y.1)→(insS s l).Pairwise (fun x y=>x.1≤y.1)
 | [],_=>by simp [insS]
 | t::r,h=>by
  rw [List.pairwise_cons] at h
  unfold insS
  split
  ·rename_i hst
   refine List.pairwise_cons.2 ⟨fun x hx=>?_,List.pairwise_cons.2 h⟩
   rcases List.mem_cons.1 hx with rfl | hx
   ·exact hst
   ·have:=h.1 x hx;omega
  ·refine List.pairwise_cons.2 ⟨fun x hx=>?_,insS_sorted s r h.2⟩
   rcases List.mem_cons.1 ((insS_perm s r).mem_iff.1 hx) with rfl | hx
   ·omega
   ·exact h.1 x hx
theorem sortS_sorted:∀ l:List Sp,(sortS l).Pairwise (fun x y=>x.1≤y.1)
 | []=>List.Pairwise.nil
 | s::r=>insS_sorted s _ (sortS_sorted r)
def norm (l:List Sp):List Sp:=mergeL (sortS l)
def Valid (l:List Sp):Prop:=∀ s ∈ l,0≤s.1∧s.1≤s.2∧s.2≤maxA
theorem memS_perm {l m:List Sp} (h:l.Perm m) (a:Int):memS l a=memS m a:=by
 rw [Bool.eq_iff_iff,memS_iff,memS_iff]
 exact ⟨fun ⟨s,hs,g⟩=>⟨s,h.mem_iff.1 hs,g⟩,fun ⟨s,hs,g⟩=>⟨s,h.mem_iff.2 hs,g⟩⟩
theorem mergeL_good (L:List Sp) (hs:L.Pairwise (fun x y=>x.1≤y.1)) (hv:Valid L):CanF (-1) (mergeL L)∧∀ a,memS (mergeL L) a=memS L a:=by
 cases L with
 | nil=>exact ⟨trivial,fun a=>rfl⟩
 | cons s r =>
  have h0:=hv s (by simp)
  exact ⟨mergeGo_can r s _ (by omega) h0.2.1 (fun x hx=>(hv x (by simp [hx])).2.1),fun a=>mergeGo_mem r s h0.2.1 (fun x hx=>(hv x (by simp [hx])).2.1) hs a⟩
theorem norm_good {l:List Sp} (hv:Valid l):CanF (-1) (norm l)∧∀ a,memS (norm l) a=memS l a:=by
 obtain ⟨h1,h2⟩:=mergeL_good (sortS l) (sortS_sorted l) (fun s hs=>hv s ((sortS_perm l).mem_iff.1 hs))
 exact ⟨h1,fun a=>(h2 a).trans (memS_perm (sortS_perm l) a)⟩
theorem normMerge {l L:List Sp} (hp:L.Perm l) (hs:L.Pairwise (fun x y=>x.1≤y.1)) (hv:Valid l):mergeL L=norm l:=by
 obtain ⟨h1,h2⟩:=mergeL_good L hs (fun s h=>hv s (hp.mem_iff.1 h))
 obtain ⟨g1,g2⟩:=norm_good hv
 exact canon_unique h1 g1 fun a=>by rw [h2,g2,memS_perm hp]
theorem norm_length (l:List Sp):(norm l).length≤l.length:=by
 rw [← (sortS_perm l).length_eq]
 unfold norm
 cases sortS l with
 | nil=>simp [mergeL]
 | cons s r=>exact mergeGo_length r s
theorem can_valid {l:List Sp} (h:CanF (-1) l) (hm:∀ a,memS l a=true→a≤maxA):Valid l:=fun s hs=>by
 have:=CanF.mem h s hs
 have:=hm s.2 (memS_iff.2 ⟨s,hs,by omega,by omega⟩)
 omega
theorem valid_mem {l:List Sp} (h:Valid l) {a:Int} (hm:memS l a=true):0≤a∧a≤maxA:=by
 obtain ⟨s,hs,h1,h2⟩:=memS_iff.1 hm
 have:=h s hs
 omega
theorem norm_valid {l:List Sp} (h:Valid l):Valid (norm l) :=
 can_valid (norm_good h).1 fun a ha=>by rw [(norm_good h).2] at ha;exact (valid_mem h ha).2
/- the common part -/
def piece (x y:Sp):List Sp:=if max x.1 y.1≤min x.2 y.2 then [(max x.1 y.1,min x.2 y.2)] else []
def common:List Sp→List Sp→List Sp
 | x::a,y::b=>piece x y++if x.2 < y.2 then common a (y::b) else common (x::a) b
 | _,_=>[]
termination_by a b=>a.length+b.length
theorem piece_mem (x y:Sp) (t:Int):memS (piece x y) t=(inS x t && inS y t):=by
 rw [Bool.eq_iff_iff,Bool.and_eq_true,inS_iff,inS_iff]
 unfold piece
 split
 ·simp [memS,inS];omega
 ·simp [memS];omega
theorem common_mem (a b:List Sp):∀ c d,CanF c a→CanF d b→∀ t,memS (common a b) t=(memS a t && memS b t):=by
 fun_induction common a b with
 | case1 x a y b ih1 ih2 =>
  intro c d ha hb t
  obtain ⟨a1,a2,a3⟩:=ha
  obtain ⟨b1,b2,b3⟩:=hb
  rw [memS_append,piece_mem]
  by_cases h:x.2 < y.2
  ·rw [if_pos h,ih1 _ _ a3 ⟨b1,b2,b3⟩,memS_cons x a]
   have hy:inS x t=true→memS (y::b) t=inS y t:=fun hx=>by
    rw [inS_iff] at hx
    rw [memS_cons]
    have:memS b t=false:=by
     cases e:memS b t
     ·rfl
     ·have:=CanF.gt b3 e;omega
    rw [this,Bool.or_false]
   cases hx:inS x t
   ·simp
   ·rw [hy hx];cases inS y t <;> simp
  ·rw [if_neg h,ih2 _ _ ⟨a1,a2,a3⟩ b3,memS_cons y b]
   have hx:inS y t=true→memS (x::a) t=inS x t:=fun hy=>by
    rw [inS_iff] at hy
    rw [memS_cons]
    have:memS a t=false:=by
     cases e:memS a t
     ·rfl
     ·have:=CanF.gt a3 e;omega
    rw [this,Bool.or_false]
   cases hy:inS y t
   ·simp
   ·rw [hx hy];cases inS x t <;> simp
 | case2 a b h =>
  intro c d _ _ t
  cases a with
  | nil=>simp [memS]
  | cons x a =>
   cases b with
   | nil=>simp [memS]
   | cons y b=>exact (h x a y b rfl rfl).elim
theorem common_can (a b:List Sp):∀ c d,CanF c a→CanF d b→CanF (max c d) (common a b):=by
 fun_induction common a b with
 | case1 x a y b ih1 ih2 =>
  intro c d ha hb
  obtain ⟨a1,a2,a3⟩:=ha
  obtain ⟨b1,b2,b3⟩:=hb
  by_cases h:x.2 < y.2
  ·have hr:=ih1 _ _ a3 (show CanF d (y::b) from ⟨b1,b2,b3⟩)
   rw [if_pos h]
   unfold piece
   split
   ·exact ⟨by simp;omega,by simp;omega,hr.mono (by simp;omega)⟩
   ·exact hr.mono (by omega)
  ·have hr:=ih2 _ _ (show CanF c (x::a) from ⟨a1,a2,a3⟩) b3
   rw [if_neg h]
   unfold piece
   split
   ·exact ⟨by simp;omega,by simp;omega,hr.mono (by simp;omega)⟩
   ·exact hr.mono (by omega)
 | case2=>intro _ _ _ _;trivial
theorem common_length (a b:List Sp):(common a b).length≤a.length+b.length:=by
 have hp:∀ x y:Sp,(piece x y).length≤1:=fun x y=>by unfold piece;split <;> simp
 fun_induction common a b with
 | case1 x a y b ih1 ih2 =>
  have:=hp x y
  rw [List.length_append]
  split <;> simp only [List.length_cons] at * <;> omega
 | case2=>simp
/- the others -/
def othersGo:Int→List Sp→List Sp
 | k,[]=>if k≤maxA then [(k,maxA)] else []
 | k,s::r=>(if k < s.1 then [(k,s.1 - 1)] else [])++othersGo (s.2+1) r
def others (l:List Sp):List Sp:=othersGo 0 l
theorem othersGo_mem:∀ (l:List Sp) (k:Int),CanF (k - 1) l→(∀ s ∈ l,s.2≤maxA)→∀ t,memS (othersGo k l) t=(decide (k≤t) && decide (t≤maxA) && !memS l t)
 | [],k,_,_,t=>by
  rw [Bool.eq_iff_iff]
  unfold othersGo
  split
  ·simp [memS,inS]
  ·simp [memS];omega
 | s::r,k,⟨h1,h2,h3⟩,hm,t=>by
  have hs:=hm s (by simp)
  have ih:=othersGo_mem r (s.2+1) (h3.mono (by omega)) (fun x hx=>hm x (by simp [hx])) t
  have hr:t≤s.2+1→memS r t=false:=fun ht=>by
   cases e:memS r t
   ·rfl
   ·have:=CanF.gt h3 e;omega
  have hd:memS (if k < s.1 then [(k,s.1 - 1)] else []) t=(decide (k≤t) && decide (t < s.1)):=by
   rw [Bool.eq_iff_iff]
   split
   ·simp [memS,inS];omega
   ·simp [memS];omega
  unfold othersGo
  rw [memS_append,ih,hd,memS_cons]
  by_cases g1:t < s.1
  ·have e1:inS s t=false:=by
    cases e:inS s t
    ·rfl
    ·have:=(inS_iff.1 e).1;omega
   rw [hr (by omega),e1]
   have e2:decide (s.2+1≤t)=false:=by simp;omega
   have e3:decide (t≤maxA)=true:=by simp;omega
   simp [g1,e2,e3]
  ·have e4:decide (t < s.1)=false:=by simpa using g1
   by_cases g2:t≤s.2
   ·have e1:inS s t=true:=inS_iff.2 ⟨by omega,g2⟩
    have e2:decide (s.2+1≤t)=false:=by simp;omega
    simp [e4,e1,e2]
   ·have e1:inS s t=false:=by
     cases e:inS s t
     ·rfl
     ·have:=(inS_iff.1 e).2;omega
    have e2:decide (s.2+1≤t)=true:=by simp;omega
    have e5:decide (k≤t)=true:=by simp;omega
    simp [e4,e1,e2,e5]
theorem othersGo_can:∀ (l:List Sp) (k:Int),CanF (k - 1) l→CanF (k - 1) (othersGo k l)
 | [],k,_=>by
  unfold othersGo
  split
  ·exact ⟨by simp;omega,by simpa using (by assumption),trivial⟩
  ·trivial
 | s::r,k,⟨h1,h2,h3⟩=>by
  have ih:=othersGo_can r (s.2+1) (h3.mono (by omega))
  unfold othersGo
  split
  ·exact ⟨by simp;omega,by simp;omega,ih.mono (by simp;omega)⟩
  ·exact ih.mono (by omega)
theorem othersGo_length:∀ (l:List Sp) (k:Int),(othersGo k l).length≤l.length+1
 | [],k=>by unfold othersGo;split <;> simp
 | s::r,k=>by
  have:=othersGo_length r (s.2+1)
  unfold othersGo
  split <;> simp <;> omega
/- how many -/
/- faults -/
def spanFault (s:Sp):Int:=if isA s.1=false∨isA s.2=false then 1 else if s.2 < s.1 then 2 else 0
theorem spanFault_zero {s:Sp}:spanFault s=0 ↔ 0≤s.1∧s.1≤s.2∧s.2≤maxA:=by
 unfold spanFault maxA
 by_cases h:isA s.1=false∨isA s.2=false
 ·rw [if_pos h]
  rw [isA_false,isA_false] at h
  constructor
  ·intro h;cases h
  ·omega
 ·rw [if_neg h]
  rw [isA_false,isA_false] at h
  split
  ·constructor
   ·intro h;cases h
   ·omega
  ·constructor
   ·omega
   ·intro _;rfl
abbrev Pf:=Int × Int
def chkP (p:Pf):Int:=chk p.1 p.2
def lastP (p:Pf):Int:=lastA p.1 p.2
def inQ (p q:Pf):Bool:=inP p.1 p.2 q.1 q.2
theorem inQ_iff {p q:Pf}:inQ p q=true ↔ q.1≤p.1∧lastP p≤lastP q:=by simp [inQ,inP,lastP]
theorem last_geP (p:Pf):p.1≤lastP p:=last_ge _ _
theorem sz_split (n m:Int) (h0:0≤m) (h:m≤n) (h2:n≤32):∃ t,sz m=sz n * t:=by
 refine ⟨2 ^ (n - m).toNat,?_⟩
 unfold sz
 rw [← Int.pow_add]
 congr 1
 omega
theorem nested {p q:Pf} (hp:chkP p=0) (hq:chkP q=0) (hlen:q.2≤p.2) (h1:p.1≤lastP q) (h2:q.1≤lastP p):inQ p q=true:=by
 obtain ⟨p1,p2,p3,p4,p5⟩:=chk_zero.1 hp
 obtain ⟨q1,q2,q3,q4,q5⟩:=chk_zero.1 hq
 obtain ⟨t,ht⟩:=sz_split p.2 q.2 q1 hlen p2
 obtain ⟨i,hi⟩:=Int.dvd_of_emod_eq_zero p5
 obtain ⟨j,hj⟩:=Int.dvd_of_emod_eq_zero q5
 have hs:=sz_pos p.2
 rw [inQ_iff]
 unfold lastP lastA at *
 rw [ht] at hj h1 ⊢
 generalize sz p.2=s at *
 have hj':q.1=s * (t * j):=by rw [hj,Int.mul_assoc]
 rw [hi,hj'] at h1 h2 ⊢
 have a1:i < t * j+t:=by
  refine Int.not_le.1 fun h=>?_
  have:=Int.mul_le_mul_of_nonneg_left h (Int.le_of_lt hs)
  rw [Int.mul_add] at this
  omega
 have a2:t * j < i+1:=by
  refine Int.not_le.1 fun h=>?_
  have:=Int.mul_le_mul_of_nonneg_left h (Int.le_of_lt hs)
  rw [Int.mul_add] at this
  omega
 have b1:=Int.mul_le_mul_of_nonneg_left (show t * j≤i by omega) (Int.le_of_lt hs)
 have b2:=Int.mul_le_mul_of_nonneg_left (show i+1≤t * j+t by omega) (Int.le_of_lt hs)
 rw [Int.mul_add,Int.mul_add] at b2
 omega
theorem sz_mono {n m:Int} (h:m≤n):sz n≤sz m:=by
 unfold sz
 have:(2:Nat) ^ (32 - n).toNat≤2 ^ (32 - m).toNat:=Nat.pow_le_pow_right (by decide) (by omega)
 exact_mod_cast this
theorem sz_strict {n m:Int} (h:m < n) (h2:n≤32):sz n < sz m:=by
 have:=sz_half m (by omega)
 have:=sz_mono (n:=n) (m:=m+1) (by omega)
 have:=sz_pos (m+1)
 omega
/- The fault of a tree. -/
/- Those within no other one. -/
/- Above and below. -/
/- where a prefix stands in a tree, or would -/
/- the law on chains -/
/- put in -/
/- dropped -/
/- found -/
/- above -/
/- below -/
end Go.Proofs.YtkckcbhnnllkhaaGreatDoor
