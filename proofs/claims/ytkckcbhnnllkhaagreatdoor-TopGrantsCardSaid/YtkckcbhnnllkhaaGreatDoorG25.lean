/- Parts of the proof; conditions: as each theorem says. -/
import Derived.Lib.SplitLaws
import Derived.Lib.AtoiTie
import Derived.Lib.AtoiAllCases
import Derived.Lib.ItoaNum
import Derived.Lib.Join
set_option linter.unusedVariables false
set_option linter.unusedSimpArgs false
namespace Go.Proofs.YtkckcbhnnllkhaaGreatDoor
open Go.Lib
def splitL (c:UInt8):List UInt8→List (List UInt8)
 | []=>[[]]
 | x::l=>if x=c then []::splitL c l else match splitL c l with
  | p::ps=>(x::p)::ps
  | []=>[[x]]
theorem splitL_ne (c:UInt8):∀ l,splitL c l≠[]
 | []=>by simp [splitL]
 | x::l=>by
  unfold splitL
  split
  ·simp
  ·split <;> simp
theorem splitL_none {c:UInt8}:∀ {x:List UInt8},c ∉ x→splitL c x=[x]
 | [],_=>rfl
 | a::x,h=>by
  have h1:a≠c:=fun e=>h (by rw [e];exact List.mem_cons_self)
  rw [splitL,if_neg h1,splitL_none (fun q=>h (List.mem_cons_of_mem _ q))]
theorem splitL_cons {c:UInt8}:∀ {x:List UInt8} (y:List UInt8),c ∉ x→splitL c (x++c::y)=x::splitL c y
 | [],y,_=>by
  show splitL c (c::y)=_
  rw [splitL,if_pos rfl]
 | a::x,y,h=>by
  have h1:a≠c:=fun e=>h (by rw [e];exact List.mem_cons_self)
  show splitL c (a::(x++c::y))=_
  rw [splitL,if_neg h1,splitL_cons y (fun q=>h (List.mem_cons_of_mem _ q))]
theorem index_cons_eq (c:UInt8) (l:List UInt8):index (c::l) [c]=0:=by
 unfold index
 rw [if_pos (by simp [List.isPrefixOf])]
theorem index_cons_ne {b c:UInt8} (l:List UInt8) (h:b≠c):index (b::l) [c]=if index l [c] == -1 then -1 else index l [c]+1:=by
 rw [index,if_neg]
 have:(c == b)=false:=by simpa using h.symm
 simp [List.isPrefixOf,this]
theorem splitK_nil (c:UInt8) (k:Nat):splitK [c] 0 k []=[[]]:=by
 cases k with
 | zero=>rfl
 | succ k=>unfold splitK;simp [index]
theorem split_one (c:UInt8):∀ l:List UInt8,split l [c]=splitL c l
 | []=>by
  unfold split
  rw [splitK_nil]
  rfl
 | b::l=>by
  have ih:=split_one c l
  unfold split at ih ⊢
  by_cases e:b=c
  ·subst e
   rw [count_cons_eq,Nat.add_comm,splitK,index_cons_eq,if_neg (by decide)]
   show List.take 0 _::splitK [b] 0 (count l [b]) (List.drop 1 (b::l))=_
   rw [splitL,if_pos rfl,← ih]
   rfl
  ·rw [count_cons_ne _ _ _ e]
   rw [splitL,if_neg e,← ih]
   cases hk:count l [c] with
   | zero=>rfl
   | succ k =>
    have hi:index l [c]≠-1:=fun q=>by rw [count_miss q] at hk;cases hk
    have hi0:0≤index l [c]:=by have:=index_ge l [c];omega
    obtain ⟨i,hi⟩:∃ i:Nat,index l [c]=i:=⟨(index l [c]).toNat,by omega⟩
    rw [splitK,splitK,index_cons_ne l e,hi]
    have e1:¬ ((i:Int) == -1)=true:=by simp
    rw [if_neg e1,if_neg e1]
    have e2:¬ ((i:Int)+1 == -1)=true:=by simp;omega
    rw [if_neg e2]
    have e3:((i:Int)+1).toNat=i+1:=by omega
    have e4:((i:Int)).toNat=i:=by omega
    rw [e3,e4]
    simp only [Nat.add_zero,List.take_succ_cons,List.length_singleton,List.drop_succ_cons]
theorem splitL_length (c:UInt8) (l:List UInt8):(splitL c l).length=count l [c]+1:=by
 induction l with
 | nil=>simp [splitL,count_one]
 | cons b l ih =>
  by_cases e:b=c
  ·subst e
   rw [splitL,if_pos rfl,count_cons_eq]
   simp [ih]
   omega
  ·rw [splitL,if_neg e,count_cons_ne _ _ _ e,← ih]
   cases h:splitL c l with
   | nil=>exact absurd h (splitL_ne c l)
   | cons p ps=>simp
theorem cut_hit {c:UInt8}:∀ {x:List UInt8} (y:List UInt8),c ∉ x→cut (x++c::y) [c]=(x,y,true):=by
 intro x y h
 have hi:index (x++c::y) [c]=x.length:=by
  induction x with
  | nil=>exact index_cons_eq c y
  | cons a x ih =>
   have h1:a≠c:=fun e=>h (by rw [e];exact List.mem_cons_self)
   show index (a::(x++c::y)) [c]=_
   rw [index_cons_ne _ h1,ih (fun q=>h (List.mem_cons_of_mem _ q)),if_neg (by simp)]
   simp
 unfold cut
 rw [hi,if_pos (by omega)]
 simp
theorem decDigits_bytes:∀ (u:Nat),∀ b ∈ decDigits u,48≤b.toNat∧b.toNat≤57:=by
 intro u
 induction u using Nat.strongRecOn with
 | _ u ih =>
  intro b hb
  rw [decDigits] at hb
  split at hb
  ·rename_i h
   simp at hb
   subst hb
   simp
   omega
  ·rename_i h
   rcases List.mem_append.1 hb with hb | hb
   ·exact ih (u / 10) (by omega) b hb
   ·simp at hb
    subst hb
    have:u % 10 < 10:=Nat.mod_lt _ (by decide)
    simp
    omega
theorem decDigits_no {u:Nat} {c:UInt8} (h:c.toNat < 48):c ∉ decDigits u:=fun q=>by have:=decDigits_bytes u c q;omega
theorem decDigits_len {u:Nat} (h:u≤999):(decDigits u).length≤3:=by
 rw [decDigits_length]
 rcases Nat.lt_or_ge u 10 with c | c
 ·rw [nDigits_small c];omega
 ·rw [nDigits_big (by omega)]
  rcases Nat.lt_or_ge (u / 10) 10 with c2 | c2
  ·rw [nDigits_small c2];omega
  ·rw [nDigits_big (by omega),nDigits_small (by omega)];omega
theorem itoa_nat (u:Nat):itoa (u:Int)=decDigits u:=by
 unfold itoa
 rw [if_neg (by omega)]
 simp
theorem slash_no (u:Nat):(47:UInt8) ∉ decDigits u:=decDigits_no (by decide)
end Go.Proofs.YtkckcbhnnllkhaaGreatDoor
