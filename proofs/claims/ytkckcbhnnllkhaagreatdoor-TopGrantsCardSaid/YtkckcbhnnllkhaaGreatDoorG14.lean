/- Parts of the proof; conditions: as each theorem says. -/
set_option linter.unusedVariables false
set_option linter.unusedSimpArgs false
namespace Go.Proofs.YtkckcbhnnllkhaaGreatDoor
structure Chg where
 key:List UInt8
 val:List UInt8
 gone:Bool
instance:Inhabited Chg:=⟨⟨[],[],false⟩⟩
def lessB:List UInt8→List UInt8→Bool
 | _,[]=>false
 | [],_::_=>true
 | a::x,b::y=>decide (a < b) || (a == b && lessB x y)
def oneOk (c:Chg):Bool:=decide (1≤c.key.length) && decide (c.key.length≤24) && decide (c.val.length≤12) && !(c.gone && decide (0 < c.val.length))
def riseOk:Option Chg→List Chg→Bool
 | _,[]=>true
 | p,c::l=>oneOk c && (match p with | none=>true | some q=>!(lessB c.key q.key || c.key == q.key)) && riseOk (some c) l
def chgFault (l:List Chg):Int:=if 20 < l.length then 3 else if riseOk none l then 0 else 2
def enc1 (c:Chg):List UInt8 :=
 UInt8.ofNat (c.key.length+if c.gone then 128 else 0)::(c.key++if c.gone then [] else UInt8.ofNat c.val.length::c.val)
def encs:List Chg→List UInt8
 | []=>[]
 | c::l=>enc1 c++encs l
def encL (l:List Chg):List UInt8:=UInt8.ofNat l.length::encs l
def dec1:List UInt8→Option (Chg × List UInt8)
 | []=>none
 | h::r =>
  if r.length < h.toNat % 128 then none
  else if 128≤h.toNat then some (⟨r.take (h.toNat % 128),[],true⟩,r.drop (h.toNat % 128))
  else match r.drop (h.toNat % 128) with
   | []=>none
   | v::s=>if s.length < v.toNat then none else some (⟨r.take (h.toNat % 128),s.take v.toNat,false⟩,s.drop v.toNat)
def decN:Nat→List UInt8→Option (List Chg × List UInt8)
 | 0,b=>some ([],b)
 | n+1,b=>match dec1 b with
  | none=>none
  | some (c,r)=>match decN n r with
   | none=>none
   | some (l,s)=>some (c::l,s)
def decL:List UInt8→Option (List Chg)
 | []=>none
 | h::r=>match decN h.toNat r with
  | none=>none
  | some (l,s)=>if s=[]∧chgFault l=0 then some l else none
theorem toNat_of {n:Nat} (h:n < 256):(UInt8.ofNat n).toNat=n:=by
 simp [UInt8.toNat_ofNat,Nat.mod_eq_of_lt h]
theorem dec1_enc1 (c:Chg) (q:List UInt8) (h:oneOk c=true):dec1 (enc1 c++q)=some (c,q):=by
 obtain ⟨k,v,g⟩:=c
 simp only [oneOk,Bool.and_eq_true,decide_eq_true_eq,Bool.not_eq_true',Bool.and_eq_false_iff,decide_eq_false_iff_not] at h
 obtain ⟨⟨⟨h1,h2⟩,h3⟩,h4⟩:=h
 cases g with
 | true =>
  have hv:v=[]:=by
   rcases h4 with h4 | h4
   ·cases h4
   ·exact List.eq_nil_of_length_eq_zero (by omega)
  subst hv
  simp only [enc1,if_true,List.append_nil,List.cons_append,dec1]
  rw [toNat_of (by omega)]
  have e:(k.length+128) % 128=k.length:=by omega
  rw [e,if_neg (by simp),if_pos (by omega)]
  simp
 | false =>
  simp only [enc1,Bool.false_eq_true,if_false,Nat.add_zero,List.cons_append,dec1,List.append_assoc]
  rw [toNat_of (by omega)]
  have e:k.length % 128=k.length:=by omega
  rw [e,if_neg (by simp),if_neg (by omega)]
  simp only [List.take_left',List.drop_left']
  rw [toNat_of (by omega),if_neg (by simp)]
  simp
theorem decN_encs (q:List UInt8):∀ (l:List Chg) (p:Option Chg),riseOk p l=true→decN l.length (encs l++q)=some (l,q)
 | [],_,_=>rfl
 | c::l,p,h=>by
  simp only [riseOk,Bool.and_eq_true] at h
  simp only [List.length_cons,decN,encs,List.append_assoc]
  rw [dec1_enc1 c _ h.1.1]
  simp only
  rw [decN_encs q l (some c) h.2]
theorem chgFault_zero {l:List Chg}:chgFault l=0 ↔ l.length≤20∧riseOk none l=true:=by
 unfold chgFault
 split
 ·constructor
  ·intro h;cases h
  ·rintro ⟨h,_⟩;omega
 ·split
  ·rename_i h1 h2;exact ⟨fun _=>⟨by omega,h2⟩,fun _=>rfl⟩
  ·rename_i h1 h2
   constructor
   ·intro h;cases h
   ·rintro ⟨_,h⟩;exact absurd h h2
theorem encs_length:∀ (l:List Chg) (p:Option Chg),riseOk p l=true→(encs l).length≤38 * l.length
 | [],_,_=>by simp [encs]
 | c::l,p,h=>by
  simp only [riseOk,Bool.and_eq_true] at h
  have ih:=encs_length l (some c) h.2
  have h1:=h.1.1
  simp only [oneOk,Bool.and_eq_true,decide_eq_true_eq] at h1
  have:(enc1 c).length≤38:=by
   unfold enc1
   cases c.gone <;> simp <;> omega
  simp only [encs,List.length_append,List.length_cons]
  omega
theorem encL_length {l:List Chg} (h:chgFault l=0):1≤(encL l).length∧(encL l).length≤761:=by
 obtain ⟨h1,h2⟩:=chgFault_zero.1 h
 have:=encs_length l none h2
 simp only [encL,List.length_cons]
 omega
theorem lessB_irrefl:∀ x:List UInt8,lessB x x=false
 | []=>rfl
 | a::x=>by
  have h:¬ a < a:=by rw [UInt8.lt_iff_toNat_lt];omega
  simp [lessB,h,lessB_irrefl x]
theorem lessB_trans:∀ {x y z:List UInt8},lessB x y=true→lessB y z=true→lessB x z=true
 | _,[],_,h,_=>by simp [lessB] at h
 | _,_::_,[],_,h=>by simp [lessB] at h
 | [],_::_,_::_,_,_=>by simp [lessB]
 | a::x,b::y,c::z,h1,h2=>by
  simp only [lessB,Bool.or_eq_true,decide_eq_true_eq,Bool.and_eq_true,beq_iff_eq] at h1 h2 ⊢
  rcases h1 with h1 | ⟨rfl,h1⟩
  ·rcases h2 with h2 | ⟨rfl,h2⟩
   ·left
    rw [UInt8.lt_iff_toNat_lt] at *
    omega
   ·exact .inl h1
  ·rcases h2 with h2 | ⟨rfl,h2⟩
   ·exact .inl h2
   ·exact .inr ⟨rfl,lessB_trans h1 h2⟩
theorem lessB_total:∀ x y:List UInt8,lessB x y=true∨x=y∨lessB y x=true
 | [],[]=>.inr (.inl rfl)
 | [],_::_=>.inl rfl
 | _::_,[]=>.inr (.inr rfl)
 | a::x,b::y=>by
  simp only [lessB,Bool.or_eq_true,decide_eq_true_eq,Bool.and_eq_true,beq_iff_eq,List.cons.injEq]
  rcases Nat.lt_trichotomy a.toNat b.toNat with h | h | h
  ·exact .inl (.inl (by rw [UInt8.lt_iff_toNat_lt];exact h))
  ·have e:a=b:=UInt8.toNat_inj.1 h
   subst e
   rcases lessB_total x y with q | q | q
   ·exact .inl (.inr ⟨rfl,q⟩)
   ·exact .inr (.inl ⟨rfl,q⟩)
   ·exact .inr (.inr (.inr ⟨rfl,q⟩))
  ·exact .inr (.inr (.inl (by rw [UInt8.lt_iff_toNat_lt];exact h)))
theorem lessB_asymm {x y:List UInt8} (h:lessB x y=true):lessB y x=false:=by
 cases e:lessB y x with
 | false=>rfl
 | true=>exact absurd (lessB_trans h e) (by rw [lessB_irrefl];simp)
theorem lessB_ne {x y:List UInt8} (h:lessB x y=true):x≠y:=fun e=>by rw [e,lessB_irrefl] at h;cases h
theorem lessB_of {x y:List UInt8} (h:lessB y x=false) (hn:x≠y):lessB x y=true:=by
 rcases lessB_total x y with q | q | q
 ·exact q
 ·exact absurd q hn
 ·rw [h] at q;cases q
theorem lessB_nil {x:List UInt8}:lessB x []=false:=by cases x <;> rfl
abbrev KV:=List UInt8 × List UInt8
def Rise {α:Type} (key:α→List UInt8) (l:List α):Prop:=l.Pairwise (fun x y=>lessB (key x) (key y)=true)
theorem Rise.nodup {α:Type} {key:α→List UInt8}:∀ {l:List α},Rise key l→(l.map key).Nodup:=by
 intro l h
 unfold List.Nodup
 rw [List.pairwise_map]
 exact h.imp (fun q=>lessB_ne q)
theorem Rise.ext {α:Type} {key:α→List UInt8}:∀ {l m:List α},Rise key l→Rise key m→(∀ x,x ∈ l ↔ x ∈ m)→l=m
 | [],[],_,_,_=>rfl
 | [],b::m,_,_,h=>absurd ((h b).2 (by simp)) (by simp)
 | a::l,[],_,_,h=>absurd ((h a).1 (by simp)) (by simp)
 | a::l,b::m,hl,hm,h=>by
  unfold Rise at hl hm
  rw [List.pairwise_cons] at hl hm
  have hab:a=b:=by
   rcases List.mem_cons.1 ((h a).1 (by simp)) with e | e
   ·exact e
   ·rcases List.mem_cons.1 ((h b).2 (by simp)) with e2 | e2
    ·exact e2.symm
    ·have h1:=hm.1 a e
     have h2:=hl.1 b e2
     rw [lessB_asymm h1] at h2
     cases h2
  subst hab
  rw [Rise.ext (key:=key) hl.2 hm.2 (fun x=>by
   constructor
   ·intro hx
    rcases List.mem_cons.1 ((h x).1 (by simp [hx])) with e | e
    ·subst e
     have:=hl.1 x hx
     rw [lessB_irrefl] at this
     cases this
    ·exact e
   ·intro hx
    rcases List.mem_cons.1 ((h x).2 (by simp [hx])) with e | e
    ·subst e
     have:=hm.1 x hx
     rw [lessB_irrefl] at this
     cases this
    ·exact e)]
theorem Rise.of_sorted {α:Type} {key:α→List UInt8} {l:List α} (h:l.Pairwise (fun x y=>lessB (key y) (key x)=false)) (hn:(l.map key).Nodup):Rise key l:=by
 unfold Rise
 unfold List.Nodup at hn
 rw [List.pairwise_map] at hn
 exact h.imp₂ (fun a b q q2=>lessB_of q q2) hn
def frame (l:List Chg):List UInt8:=UInt8.ofNat ((encL l).length / 256)::UInt8.ofNat (encL l).length::encL l
def frames:List (List Chg)→List UInt8
 | []=>[]
 | l::m=>frame l++frames m
def parseF:Nat→List UInt8→List (List Chg) × Nat
 | f+1,h::l::r =>
  if r.length < h.toNat * 256+l.toNat then ([],0)
  else match decL (r.take (h.toNat * 256+l.toNat)) with
   | none=>([],0)
   | some c=>(c::(parseF f (r.drop (h.toNat * 256+l.toNat))).1,2+(h.toNat * 256+l.toNat)+(parseF f (r.drop (h.toNat * 256+l.toNat))).2)
 | _,_=>([],0)
def stuck:List UInt8→Prop
 | h::l::r=>r.length < h.toNat * 256+l.toNat
 | _=>True
theorem header {n:Nat} (h:n < 65536):(UInt8.ofNat (n / 256)).toNat * 256+(UInt8.ofNat n).toNat=n:=by
 have h1:(UInt8.ofNat (n / 256)).toNat=n / 256:=toNat_of (by omega)
 have h2:(UInt8.ofNat n).toNat=n % 256:=by simp [UInt8.toNat_ofNat]
 rw [h1,h2]
 omega
theorem frame_length (l:List Chg):(frame l).length=2+(encL l).length:=by simp [frame];omega
theorem frame_stuck {l:List Chg} (h:chgFault l=0) {m:Nat} (hm:m < (frame l).length):stuck ((frame l).take m):=by
 have hl:=encL_length h
 rw [frame_length] at hm
 match m,hm with
 | 0,_=>trivial
 | 1,_=>trivial
 | m+2,hm =>
  simp only [frame,List.take_succ_cons,stuck,List.length_take]
  rw [header (by omega)]
  omega
theorem frames_append:∀ (a b:List (List Chg)),frames (a++b)=frames a++frames b
 | [],b=>rfl
 | l::a,b=>by simp only [List.cons_append,frames,frames_append a b,List.append_assoc]
theorem frames_one (l:List Chg):frames [l]=frame l:=by simp [frames]
def leftS (left:Int):Int:=if 0≤left then left - 1 else left
def LInv (down:Bool) (B:List UInt8) (safe:Nat) (all:List (List Chg)) (ns:Nat):Prop :=
 (∀ l ∈ all,chgFault l=0)∧ns≤all.length∧safe=(frames (all.take ns)).length∧∃ t,B=frames all++t∧stuck t∧(down=false→t=[])
theorem LInv.append {B:List UInt8} {safe ns:Nat} {all:List (List Chg)} {l:List Chg} (h:LInv false B safe all ns) (hl:chgFault l=0):LInv false (B++frame l) safe (all++[l]) ns:=by
 obtain ⟨h1,h2,h3,t,h4,h5,h6⟩:=h
 obtain rfl:=h6 rfl
 refine ⟨fun x hx=>?_,by simp;omega,?_,[],?_,trivial,fun _=>rfl⟩
 ·rcases List.mem_append.1 hx with hx | hx
  ·exact h1 x hx
  ·simp at hx;subst hx;exact hl
 ·rw [h3,List.take_append_of_le_length h2]
 ·rw [h4,frames_append,frames_one];simp
theorem LInv.half {B:List UInt8} {safe ns:Nat} {all:List (List Chg)} {l:List Chg} (h:LInv false B safe all ns) (hl:chgFault l=0):LInv true (B++(frame l).take ((frame l).length / 2)) safe all ns:=by
 obtain ⟨h1,h2,h3,t,h4,h5,h6⟩:=h
 obtain rfl:=h6 rfl
 refine ⟨h1,h2,h3,(frame l).take ((frame l).length / 2),by rw [h4];simp,frame_stuck hl ?_,fun h=>by cases h⟩
 have:=frame_length l
 omega
structure Lg where
 left:Int
 down:Bool
 room:Int
 B:List UInt8
 safe:Nat
def Lg.append (g:Lg) (l:List Chg):Int × Lg :=
 if chgFault l≠0 then (chgFault l,g)
 else if g.room < (g.B.length:Int)+2+((encL l).length:Int) then (3,g)
 else if g.down then (8,g)
 else if g.left=0 then (8,{ g with left:=-1,down:=true,B:=g.B++(frame l).take ((frame l).length / 2) })
 else (0,{ g with left:=leftS g.left,B:=g.B++frame l })
end Go.Proofs.YtkckcbhnnllkhaaGreatDoor
