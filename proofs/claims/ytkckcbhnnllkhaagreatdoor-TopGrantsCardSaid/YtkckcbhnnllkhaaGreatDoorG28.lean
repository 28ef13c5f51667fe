/- Parts of the proof; conditions: as each theorem says. -/
import Derived.Test.YtkckcbhnnllkhaaGreatDoorG25
import Derived.Test.YtkckcbhnnllkhaaGreatDoorG27
set_option linter.unusedVariables false
set_option linter.unusedSimpArgs false
namespace Go.Proofs.YtkckcbhnnllkhaaGreatDoor
open Go.Lib
def hexD (d:Nat):UInt8:=UInt8.ofNat (if d < 10 then 48+d else 87+d)
def hexL:Nat→Nat→List UInt8
 | 0,_=>[]
 | k+1,a=>hexL k (a / 16)++[hexD (a % 16)]
def hexM (u:Nat):List UInt8:=if h:u < 16 then [hexD u] else hexM (u / 16)++[hexD (u % 16)]
termination_by u
decreasing_by omega
theorem hexL_length:∀ k a,(hexL k a).length=k
 | 0,_=>rfl
 | k+1,a=>by simp [hexL,hexL_length k]
theorem hexL_zero:∀ k,hexL k 0=List.replicate k 48
 | 0=>rfl
 | k+1=>by
  rw [hexL,List.replicate_succ',show (0:Nat) / 16=0 from rfl,hexL_zero k]
  rfl
theorem hexM_len:∀ k u,u < 16 ^ (k+1)→(hexM u).length≤k+1:=by
 intro k
 induction k with
 | zero=>intro u h;rw [hexM,dif_pos (by omega)];simp
 | succ k ih =>
  intro u h
  rw [hexM]
  split
  ·simp
  ·have:=ih (u / 16) (by rw [Nat.pow_succ] at h;omega)
   simp;omega
theorem hexM_pos (u:Nat):0 < (hexM u).length:=by
 rw [hexM];split <;> simp
theorem hexL_hexM:∀ k u,(hexM u).length≤k→hexL k u=List.replicate (k - (hexM u).length) 48++hexM u:=by
 intro k
 induction k with
 | zero=>intro u h;have:=hexM_pos u;omega
 | succ k ih =>
  intro u h
  by_cases hu:u < 16
  ·have e:hexM u=[hexD u]:=by rw [hexM,dif_pos hu]
   rw [e,hexL,show u / 16=0 by omega,hexL_zero,show u % 16=u by omega]
   simp
  ·have e:hexM u=hexM (u / 16)++[hexD (u % 16)]:=by rw [hexM,dif_neg hu]
   rw [e] at h ⊢
   rw [hexL,ih (u / 16) (by simp at h;omega)]
   simp
def hexV1 (b:UInt8):Option Nat:=if 48≤b.toNat∧b.toNat≤57 then some (b.toNat - 48) else if 97≤b.toNat∧b.toNat≤102 then some (b.toNat - 87) else none
def hexV:Nat→List UInt8→Option Nat
 | a,[]=>some a
 | a,b::l=>match hexV1 b with
  | some d=>hexV (a * 16+d) l
  | none=>none
theorem hexD_toNat {d:Nat} (h:d < 16):(hexD d).toNat=if d < 10 then 48+d else 87+d:=by
 unfold hexD
 split <;> (simp;omega)
theorem hexV1_D {d:Nat} (h:d < 16):hexV1 (hexD d)=some d:=by
 unfold hexV1
 rw [hexD_toNat h]
 split
 ·rw [if_pos (by omega)];congr 1;omega
 ·rw [if_neg (by omega),if_pos (by omega)];congr 1;omega
theorem hexV1_lt {b:UInt8} {d:Nat} (h:hexV1 b=some d):d < 16:=by
 unfold hexV1 at h
 split at h
 ·injection h with h;omega
 ·split at h
  ·injection h with h;omega
  ·cases h
theorem hexV_snoc:∀ (l:List UInt8) (a:Nat) (b:UInt8),hexV a (l++[b])=(hexV a l).bind fun v=>(hexV1 b).map fun d=>v * 16+d
 | [],a,b=>by
  show hexV a [b]=_
  unfold hexV
  cases hexV1 b <;> rfl
 | c::l,a,b=>by
  show hexV a (c::(l++[b]))=_
  unfold hexV
  cases hexV1 c with
  | none=>rfl
  | some d=>exact hexV_snoc l _ b
theorem hexV_L:∀ k u,u < 16 ^ k→hexV 0 (hexL k u)=some u:=by
 intro k
 induction k with
 | zero=>intro u h;simp at h;subst h;rfl
 | succ k ih =>
  intro u h
  rw [hexL,hexV_snoc,ih (u / 16) (by rw [Nat.pow_succ] at h;omega),hexV1_D (Nat.mod_lt _ (by decide))]
  simp;omega
theorem hexV_lt:∀ (l:List UInt8) (a v:Nat),hexV a l=some v→v < (a+1) * 16 ^ l.length
 | [],a,v,h=>by unfold hexV at h;injection h with h;simp;omega
 | b::l,a,v,h=>by
  unfold hexV at h
  split at h
  ·rename_i d hd
   have h1:=hexV_lt l _ v h
   have h2:=hexV1_lt hd
   have h3:(a * 16+d+1) * 16 ^ l.length≤((a+1) * 16) * 16 ^ l.length:=Nat.mul_le_mul_right _ (by omega)
   rw [List.length_cons,Nat.pow_succ,Nat.mul_comm (16 ^ _) 16,← Nat.mul_assoc]
   omega
  ·cases h
theorem hexD_no {d:Nat} (h:d < 16) {c:UInt8} (hc:c.toNat < 48):hexD d≠c:=by
 intro e
 have:=hexD_toNat h
 rw [e] at this
 split at this <;> omega
theorem hexL_no {c:UInt8} (hc:c.toNat < 48):∀ k a,c ∉ hexL k a
 | 0,a=>by simp [hexL]
 | k+1,a=>by
  intro q
  rw [hexL] at q
  rcases List.mem_append.1 q with q | q
  ·exact hexL_no hc k _ q
  ·rw [List.mem_singleton] at q
   exact hexD_no (Nat.mod_lt _ (by decide)) hc q.symm
def nameB (l:List UInt8):Bool:=l.all (fun b=>decide (97≤b.toNat∧b.toNat≤122)) && (decide (1≤l.length) && decide (l.length≤8))
theorem nameB_iff {l:List UInt8}:nameB l=true ↔ (∀ b ∈ l,97≤b.toNat∧b.toNat≤122)∧1≤l.length∧l.length≤8:=by
 unfold nameB
 simp [List.all_eq_true]
theorem nameB_no {l:List UInt8} (h:nameB l=true) {c:UInt8} (hc:c.toNat < 97):c ∉ l:=fun q=>by
 have:=(nameB_iff.1 h).1 c q
 omega
def dec2 (a b:UInt8):Option Nat:=if (48≤a.toNat∧a.toNat≤57)∧48≤b.toNat∧b.toNat≤57 then some (10 * (a.toNat - 48)+(b.toNat - 48)) else none
def pfxV (x:List UInt8):Option (Nat × Nat):=match x.drop 8 with
 | [y,z]=>match hexV 0 (x.take 8),dec2 y z with
  | some a,some n=>if chk (a:Int) (n:Int)=0 then some (a,n) else none
  | _,_=>none
 | _=>none
def addrV (x:List UInt8):Option Nat:=if x.length=8 then hexV 0 x else none
structure KeyI where
 kind:Nat
 net:List UInt8
 pa:Nat
 pn:Nat
 ad:Nat
def keyNo:KeyI:=⟨0,[],0,0,0⟩
def keyW:List (List UInt8)→KeyI
 | [k,net]=>if nameB net=true∧k=[110] then ⟨1,net,0,0,0⟩ else keyNo
 | [k,net,x]=>if nameB net=true then
   (if k=[97] then (match addrV x with
    | some a=>⟨3,net,0,0,a⟩
    | none=>keyNo)
   else if k=[112] then (match pfxV x with
    | some (a,n)=>⟨2,net,a,n,0⟩
    | none=>keyNo) else keyNo) else keyNo
 | _=>keyNo
def keyI (l:List UInt8):KeyI:=keyW (splitL 47 l)
def nKey (net:List UInt8):List UInt8:=[110,47]++net
def aKey (net:List UInt8) (a:Nat):List UInt8:=[97,47]++net++[47]++hexL 8 a
def pKey (net:List UInt8) (a n:Nat):List UInt8:=[112,47]++net++[47]++hexL 8 a++decDigits (n / 10)++decDigits (n % 10)
theorem dec_one {n:Nat} (h:n < 10):decDigits n=[UInt8.ofNat (48+n)]:=by rw [decDigits,dif_pos h]
theorem keyI_n {net:List UInt8} (h:nameB net=true):keyI (nKey net)=⟨1,net,0,0,0⟩:=by
 unfold keyI nKey
 rw [show ([110,47]:List UInt8)++net=[110]++47::net from rfl,splitL_cons _ (by decide),splitL_none (nameB_no h (by decide))]
 show (if nameB net=true∧([110]:List UInt8)=[110] then _ else _)=_
 rw [if_pos ⟨h,rfl⟩]
theorem keyI_a {net:List UInt8} (h:nameB net=true) {a:Nat} (ha:a < 4294967296):keyI (aKey net a)=⟨3,net,0,0,a⟩:=by
 unfold keyI aKey
 rw [show ([97,47]:List UInt8)++net++[47]++hexL 8 a=[97]++47::(net++47::hexL 8 a) by simp,splitL_cons _ (by decide),splitL_cons _ (nameB_no h (by decide)),splitL_none (hexL_no (by decide) 8 a)]
 show (if nameB net=true then (if ([97]:List UInt8)=[97] then _ else _) else _)=_
 rw [if_pos h,if_pos rfl]
 unfold addrV
 rw [if_pos (hexL_length 8 a),hexV_L 8 a (by simpa using ha)]
theorem pfxV_key {a n:Nat} (hc:chk (a:Int) (n:Int)=0):pfxV (hexL 8 a++decDigits (n / 10)++decDigits (n % 10))=some (a,n):=by
 obtain ⟨h1,h2,h3,h4,_⟩:=chk_zero.1 hc
 have hl:=hexL_length 8 a
 have e1:=dec_one (n:=n / 10) (by omega)
 have e2:=dec_one (n:=n % 10) (by omega)
 have hd:(hexL 8 a++decDigits (n / 10)++decDigits (n % 10)).drop 8=[UInt8.ofNat (48+n / 10),UInt8.ofNat (48+n % 10)]:=by
  rw [List.append_assoc,List.drop_append_of_le_length (by omega),List.drop_eq_nil_of_le (by omega),e1,e2];rfl
 have ht:(hexL 8 a++decDigits (n / 10)++decDigits (n % 10)).take 8=hexL 8 a:=by
  rw [List.append_assoc,List.take_append_of_le_length (by omega),List.take_of_length_le (by omega)]
 have hv:dec2 (UInt8.ofNat (48+n / 10)) (UInt8.ofNat (48+n % 10))=some n:=by
  have t1:(UInt8.ofNat (48+n / 10)).toNat=48+n / 10:=by simp;omega
  have t2:(UInt8.ofNat (48+n % 10)).toNat=48+n % 10:=by simp;omega
  unfold dec2
  rw [t1,t2,if_pos (by omega)]
  congr 1
  omega
 unfold pfxV
 rw [hd]
 simp only
 rw [ht,hexV_L 8 a (by show a < 4294967296;omega),hv]
 simp only
 rw [if_pos hc]
theorem keyI_p {net:List UInt8} (h:nameB net=true) {a n:Nat} (hc:chk (a:Int) (n:Int)=0):keyI (pKey net a n)=⟨2,net,a,n,0⟩:=by
 have hp:=pfxV_key hc
 have hno:(47:UInt8) ∉ hexL 8 a++decDigits (n / 10)++decDigits (n % 10):=by
  intro q
  simp only [List.mem_append] at q
  rcases q with (q | q) | q
  ·exact hexL_no (by decide) 8 a q
  ·exact slash_no _ q
  ·exact slash_no _ q
 unfold keyI pKey
 rw [show ([112,47]:List UInt8)++net++[47]++hexL 8 a++decDigits (n / 10)++decDigits (n % 10)=[112]++47::(net++47::(hexL 8 a++decDigits (n / 10)++decDigits (n % 10))) by simp,splitL_cons _ (by decide),splitL_cons _ (nameB_no h (by decide)),splitL_none hno]
 show (if nameB net=true then (if ([112]:List UInt8)=[97] then _ else if ([112]:List UInt8)=[112] then _ else _) else _)=_
 rw [if_pos h,if_neg (by decide),if_pos rfl,hp]
end Go.Proofs.YtkckcbhnnllkhaaGreatDoor
