/- Parts of the proof; conditions: as each theorem says. -/
import Derived.Test.YtkckcbhnnllkhaaGreatDoorG49
import Derived.Test.YtkckcbhnnllkhaaGreatDoorG51
import Derived.Test.YtkckcbhnnllkhaaGreatDoorG50
import Derived.Test.YtkckcbhnnllkhaaGreatDoorG45
import Derived.Test.YtkckcbhnnllkhaaGreatDoorG11
set_option linter.unusedVariables false
set_option linter.unusedSimpArgs false
set_option maxRecDepth 100000
set_option maxHeartbeats 40000000
namespace Go.Proofs.YtkckcbhnnllkhaaGreatDoor
open Go.RowKit
def hX:Hl:=⟨gNext (Dk.new 100000) ⟨nKey [120],[111],false⟩,[]⟩
theorem key_len {s:List UInt8} (h:(keyI s).kind≠0):s.length≤24:=by
 have hle:=keyI_le s
 by_cases h1:(keyI s).kind=1
 ·obtain ⟨e,hn⟩:=keyI_1 h1
  have:=(nameB_iff.1 hn).2.2
  rw [e];simp;omega
 ·by_cases h2:(keyI s).kind=2
  ·obtain ⟨x,e,hn,_,hx⟩:=keyI_2 h2
   have:=(nameB_iff.1 hn).2.2
   have hx10:x.length=10:=by
    by_cases q:x.length=10
    ·exact q
    ·rw [pfxV_ten q] at hx;cases hx
   rw [e];simp;omega
  ·obtain ⟨x,e,hn,_,hx⟩:=keyI_3 (show (keyI s).kind=3 by omega)
   have:=(nameB_iff.1 hn).2.2
   have hx8:x.length=8:=by
    unfold addrV at hx
    split at hx
    ·assumption
    ·cases hx
   rw [e];simp;omega
theorem all_lens {F:List UInt8→List Ver} {n:Int} {L:List KV} (hr:RangeIs F [] topKey n L) (ho:OrdV (fun s=>tell F s n)):∀ p ∈ L,p.1.length < 4294967281∧p.2.length≤9223372036854775807:=by
 intro p hp
 have:=ho.each p.1 p.2 ((hr.mem p.1 p.2).1 hp).2
 have h1:=key_len this.1
 have h2:=(nameB_iff.1 this.2).2.2
 omega
theorem one_calls:CallW oNet∧CallW oAdd∧CallW oNxt :=
 ⟨⟨by decide,by decide,by decide,by decide,by decide,by decide,by decide⟩,⟨by decide,by decide,by decide,by decide,by decide,by decide,by decide⟩,⟨by decide,by decide,by decide,by decide,by decide,by decide,by decide⟩⟩
theorem one_any (w:World) (hV:GV w.heap.size w) :
  Calls Tryz.prog 5 #[] w fun e w'=>e=.returned (.bool true)∧Below w.heap.size w w':=by
 have HGV:=Hd hV
 have HCW:=Hd one_calls
 clear hV
 go_enter Tryz.func5,Tryz.ntmps5
 go_wp2_with fail
 refine (hallNew_ok 1000 (by decide) w (Nat.le_refl _) HGV.out).mono ?_
 rintro e w2 ⟨ax,Tx,rfl,hx2,hTx,hb2⟩
 have HS:=Hd (show HK w.heap.size w2 Tx ax (Hl.new 1000) 0 from hx2)
 have HB:=Hd hb2
 clear hx2 hTx hb2
 have hox:=HS.out.once_h (by omega) oNet HCW.out.1
 rw [one1] at hox
 simp only [fault_zero0] at hox
 unfold CallV oNet netC at hox
 unfold AnsV at hox
 have HO:=Hd hox
 clear hox
 go_wp2_with fail
 refine HO.out.mono ?_
 rintro e w3 ⟨v3,rfl,how3,T3,hnt3,hs3⟩
 obtain ⟨A3,c3,rfl,_⟩:=how3.form
 have HS3:=Hd (hs3.hk.bel ((Below.refl w3.heap.size w3).alloc (Nat.le_refl _) (.cells #[.int .i64 noAns.pa,.int .i64 noAns.pn,.int .i64 noAns.ad,txt noAns.owner,.slice A3 noAns.list.length c3] 46)))
 have HB3:=Hd (HB.out.trans ((hs3.belB HS.out.lo).alloc (Nat.le_trans HB.out.size hs3.size) (.cells #[.int .i64 noAns.pa,.int .i64 noAns.pn,.int .i64 noAns.ad,txt noAns.owner,.slice A3 noAns.list.length c3] 46)))
 clear HO hs3 how3 hnt3 HS HB
 go_upto_region 5 with fail
 refine wp_name (fun w4 HW=>?_)
 have hs0:=HS3.out
 have hb0:=HB3.out
 rw [← HW.out] at hs0 hb0
 have HS:=Hd hs0
 have HB:=Hd hb0
 clear HW HS3 HB3 hs0 hb0
 have hox:=HS.out.once_h (by omega) oAdd HCW.out.2.1
 rw [one2] at hox
 simp only [fault_zero0] at hox
 unfold CallV oAdd at hox
 unfold AnsV at hox
 have HO:=Hd hox
 clear hox
 go_wp2_with fail
 refine HO.out.mono ?_
 rintro e w5 ⟨v5,rfl,how5,T5,hnt5,hs5⟩
 obtain ⟨A5,c5,rfl,_⟩:=how5.form
 have HS5:=Hd (hs5.hk.bel ((Below.refl w5.heap.size w5).alloc (Nat.le_refl _) (.cells #[.int .i64 noAns.pa,.int .i64 noAns.pn,.int .i64 noAns.ad,txt noAns.owner,.slice A5 noAns.list.length c5] 46)))
 have HB5:=Hd (HB.out.trans ((hs5.belB HS.out.lo).alloc (Nat.le_trans HB.out.size hs5.size) (.cells #[.int .i64 noAns.pa,.int .i64 noAns.pn,.int .i64 noAns.ad,txt noAns.owner,.slice A5 noAns.list.length c5] 46)))
 clear HO hs5 how5 hnt5 HS HB
 go_upto_region 6 with fail
 refine wp_name (fun w6 HW=>?_)
 have hs0:=HS5.out
 have hb0:=HB5.out
 rw [← HW.out] at hs0 hb0
 have HS:=Hd hs0
 have HB:=Hd hb0
 clear HW HS5 HB5 hs0 hb0
 have hox:=HS.out.once_h (by omega) oNxt HCW.out.2.2
 rw [one3] at hox
 simp only [fault_zero0] at hox
 unfold CallV oNxt at hox
 unfold AnsV at hox
 have HO:=Hd hox
 clear hox
 go_wp2_with fail
 refine HO.out.mono ?_
 rintro e w7 ⟨v7,rfl,how7,T7,hnt7,hs7⟩
 obtain ⟨A7,c7,rfl,_⟩:=how7.form
 have HB7:=Hd (HB.out.trans (hs7.belB HS.out.lo))
 have hle:=HB7.out.size
 clear HO hs7 how7 hnt7 HS HB
 go_wp2
 go_ret
 exact ⟨rfl,HB7.out.alloc hle _⟩
theorem AllV.of {F:List UInt8→List Ver} {n:Int} {L:List KV} (hr:RangeIs F [] topKey n L) (ho:OrdV (fun s=>tell F s n)):AllV (fun s=>tell F s n) L :=
 ⟨List.Pairwise.imp (fun {x y} h e=>by subst e;rw [lessB_irrefl] at h;cases h) hr.rise,fun s v=>by
  rw [hr.mem]
  exact ⟨fun h=>h.2,fun h=>⟨inB_top (ho.each s v h).1,h⟩⟩⟩
section
variable {V : Base} {As : List Int} {Gs : List Pf} {L : List KV}
theorem AuR.ok {at' f:Int} (hA:∀ i (hi:i < L.length),auAt L i L[i]=0) (h:AuR L at' f):f=0:=by
 rcases h with ⟨h,_⟩ | ⟨i,hi,_,h1,h2,_⟩
 ·exact h
 ·rw [hA i hi] at h1
  exact absurd h1 h2
theorem usedL_in (L:List KV):usedL L xN par=usedIn L xN par:=rfl
theorem marks_all {used:List Int} (h:∀ x ∈ used,1≤x∧x≤62):marks par.1 par.2 used=used:=by
 unfold marks
 rw [List.filter_eq_self]
 intro x hx
 have:=h x hx
 unfold inU
 rw [par_u.1,par_u.2.1]
 simp
 omega
theorem use_end (hA:∀ i (hi:i < L.length),auAt L i L[i]=0) (g:GrV V As Gs) (a:AllV V L) (h60:As.length≤200) {t x f:Int} (hu:UseR L xN par t x f):t=(As.length:Int)∧x=62∧f=0:=by
 obtain ⟨u1,u2,u3⟩:=gr_used g a
 have hi:∀ y ∈ usedIn L xN par,1≤y∧y≤62:=fun y hy=>g.ai y ((u2 y).1 hy)
 have hf:usedFault par.1 par.2 (usedL L xN par)=0:=by
  unfold usedFault
  rw [usedL_in,if_neg (by decide),if_neg (by rw [u3];omega),if_pos]
  rw [List.all_eq_true]
  intro y hy
  have:=hi y hy
  exact isA_true.2 ⟨by omega,by omega⟩
 rcases hu with ⟨at',h1,h2,_⟩ | ⟨_,h2,_⟩ | ⟨_,_,h3,_⟩ | ⟨_,_,_,h4,h5,h6⟩
 ·exact absurd (h1.ok hA) h2
 ·exact absurd (gr_pfx g a).2 h2
 ·exact absurd hf h3
 ·refine ⟨?_,?_,h4⟩
  ·rw [h5,usedL_in,marks_all hi]
   have:=same_length (distinct_nodup (usedIn L xN par)) u1 (fun y=>mem_distinct _ y)
   rw [this,u3]
  ·rw [h6,par_u.1,par_u.2.1]
   rfl
theorem pref_end (hA:∀ i (hi:i < L.length),auAt L i L[i]=0) (g:GrV V As Gs) (a:AllV V L) (h60:Gs.length+1≤60) {f:Int} {P:List Pf} (hp:PrefR L xN f P):f=0∧P.length=Gs.length+1:=by
 have h1:=gr_pfx g a
 rcases hp with ⟨at',h2,h3,_⟩ | ⟨_,h2,_⟩ | ⟨_,_,h3,_⟩ | ⟨_,_,_,h4,h5⟩
 ·exact absurd (h2.ok hA) h3
 ·rw [gr_net g a] at h2;cases h2
 ·omega
 ·exact ⟨h4,by rw [h5];exact h1.1⟩
end
def gw (n:Nat):Nat:=if n=0 then 0 else n+2
theorem gw_zero:gw 0=0:=rfl
theorem gw_le (n:Nat):n≤gw n∧(n≠0→n+2≤gw n):=by unfold gw;split <;> omega
theorem gw_add (n m:Nat):gw (n+m)≤gw n+m+2:=by unfold gw;split <;> split <;> omega
structure GrSz (op:List (Opn PCall (PAns × Int))) (As:List Int) (Gs:List Pf) (k:Nat):Prop where
 sum:(op.map fun x=>1+x.cs.length).sum+gw (As.length+Gs.length)≤k
section
variable {op : List (Opn PCall (PAns × Int))} {As : List Int} {Gs : List Pf} {k : Nat}
theorem GrSz.new:GrSz [] [] [] 0:=⟨by simp [gw_zero]⟩
theorem GrSz.upto {k':Nat} (s:GrSz op As Gs k) (h:k≤k'):GrSz op As Gs k':=⟨Nat.le_trans s.sum h⟩
theorem GrSz.gs (s:GrSz op As Gs k) (hk:k≤60):As.length+Gs.length≤58:=by
 have:=s.sum
 have h2:=gw_le (As.length+Gs.length)
 by_cases h:As.length+Gs.length=0
 ·omega
 ·have:=h2.2 h;omega
theorem sum_ge:∀ (l:List Nat),(∀ x ∈ l,1≤x)→l.length≤l.sum
 | [],_=>by simp
 | x::l,h=>by
  have:=sum_ge l (fun y hy=>h y (List.mem_cons_of_mem _ hy))
  have:=h x List.mem_cons_self
  simp
  omega
theorem sum_at:∀ (l:List Nat) (i:Nat) (h:i < l.length),l.sum=l[i]+(l.eraseIdx i).sum
 | x::l,0,h=>by simp
 | x::l,i+1,h=>by
  have:=sum_at l i (by simpa using h)
  simp
  omega
theorem sum_set:∀ (l:List Nat) (i:Nat) (h:i < l.length) (y:Nat),(l.set i y).sum+l[i]=l.sum+y
 | x::l,0,h,y=>by simp;omega
 | x::l,i+1,h,y=>by
  have:=sum_set l i (by simpa using h) y
  simp
  omega
theorem GrSz.lo (s:GrSz op As Gs k):op.length≤k:=by
 have:=s.sum
 have h2:=sum_ge (op.map fun x=>1+x.cs.length) (fun x hx=>by
  obtain ⟨y,_,rfl⟩:=List.mem_map.1 hx
  omega)
 rw [List.length_map] at h2
 omega
theorem GrSz.cs (s:GrSz op As Gs k):∀ x ∈ op,x.cs.length≤k:=fun x hx=>by
 obtain ⟨i,hi,rfl⟩:=List.getElem_of_mem hx
 have:=s.sum
 have h2:=sum_at (op.map fun x=>1+x.cs.length) i (by simpa using hi)
 simp at h2
 omega
theorem GrSz.open (s:GrSz op As Gs k) (who:List UInt8) (id:Int):GrSz (op++[⟨who,id,[],[]⟩]) As Gs (k+1) :=
 ⟨by have:=s.sum;rw [List.map_append,List.sum_append];simp only [List.map_cons,List.map_nil,List.sum_cons,List.sum_nil,List.length_nil];omega⟩
theorem GrSz.ask (s:GrSz op As Gs k) {i:Nat} (hi:i < op.length) (who:List UInt8) (id:Int) (c:PCall) (rs:List (PAns × Int)):GrSz (op.set i ⟨who,id,op[i].cs++[c],rs⟩) As Gs (k+1) :=
 ⟨by
  have:=s.sum
  have h2:=sum_set (op.map fun x=>1+x.cs.length) i (by simpa using hi) (1+(op[i].cs.length+1))
  rw [List.map_set]
  simp only [List.getElem_map,List.length_append,List.length_singleton] at h2 ⊢
  omega⟩
theorem GrSz.drop (s:GrSz op As Gs k) {i:Nat} (hi:i < op.length):GrSz (op.eraseIdx i) As Gs (k+1) :=
 ⟨by
  have:=s.sum
  have h2:=sum_at (op.map fun x=>1+x.cs.length) i (by simpa using hi)
  rw [map_erase] at h2
  omega⟩
theorem GrSz.close (s:GrSz op As Gs k) {i:Nat} (hi:i < op.length) {As':List Int} {Gs':List Pf} (h:As'.length+Gs'.length≤op[i].cs.length):GrSz (op.eraseIdx i) (As++As') (Gs++Gs') (k+1) :=
 ⟨by
  have:=s.sum
  have h2:=sum_at (op.map fun x=>1+x.cs.length) i (by simpa using hi)
  rw [map_erase] at h2
  simp only [List.length_append,List.getElem_map] at h2 ⊢
  have h3:=gw_add (As.length+Gs.length) (As'.length+Gs'.length)
  rw [show As.length+As'.length+(Gs.length+Gs'.length)=As.length+Gs.length+(As'.length+Gs'.length) by omega]
  omega⟩
end
section
variable {B : Nat} {w w' : World} {T T' R R' S : Nat → Prop} {a k k' : Nat} {h h' : Hl} {v v' va va' vg vg' : Value} {tt : List TkV} {op : List (Opn PCall (PAns × Int))} {As : List Int} {Gs : List Pf} {gp : Nat}
theorem TgS.lo (s:TgS B w T R a h k v va vg tt op As Gs gp):tt.length=op.length:=by have:=s.m.lo;rwa [List.length_map] at this
theorem TgS.rowO (s:TgS B w T R a h k v va vg tt op As Gs gp) {i:Nat} (hi:i < op.length) :
  ∃ g c,v=.slice (some ⟨g,0,none⟩) tt.length c∧g < w.heap.size∧∃ t,tt[i]?=some t∧TalkAt eN w R t op[i].who (gO op[i]).cs (gO op[i]).rs∧(∀ j u,(encT t)[j]?=some u→w.cell? ⟨g,i * 5+j,none⟩=some u)∧∀ j,w.frozen? ⟨g,j,none⟩=false:=by
 have hi':i < (op.map gO).length:=by rw [List.length_map];exact hi
 obtain ⟨g,c,h1,h2,t,h3,h4,h5,h6⟩:=s.m.rowI hi'
 rw [List.getElem_map] at h4
 exact ⟨g,c,h1,h2,t,h3,h4,h5,h6⟩
theorem TgS.opened (x:HK B w T a h k) (m:TpS eN B w T R v tt (op.map gO) (.slice none 0 0) [] []) (g:GsS B w T R v va vg As Gs gp) {who:List UInt8} (hw:who.length≤9223372036854775807) {id:Int} (hq:GrI h (op++[⟨who,id,[],[]⟩]) As Gs) (hB:B≤w.heap.size)
  (hown:w'.ownsRow 0 40 5 v' (tt.length+1) (flatE encT tt++(#[txt who,.int .i64 0,.slice none 0 0,.slice none 0 0,.slice none 0 0]:Array Value).toList)) (hg:w.grownBy w' v.ownBlock) (hat:v'.ownBlock=v.ownBlock∨v'.ownBlock=some (w.heap.size+1)) :
  TgS B w' T R a h k v' va vg (tt++[⟨who,0,.slice none 0 0,.slice none 0 0,.slice none 0 0⟩]) (op++[⟨who,id,[],[]⟩]) As Gs gp:=by
 have hf:Fr (fun q=>v.ownBlock=some q) w w':=(Fr.refl _ w).grown hg (fun q e _=>e)
 refine ⟨x.far hf (fun q e=>(m.no q e).2.1) (fun q e=>(m.no q e).2.2),hq,?_,g.fr hf (fun q e=>(g.out q e).2.2.2) (fun q h1 h2=>⟨h2.1,h2.2.1,fun e=>?_⟩)⟩
 ·rw [List.map_append]
  exact m.opened rfl hB hw id hown hg hat x.lt
 ·rcases hat with h | h
  ·exact h2.2.2 (h.symm.trans e)
  ·rw [h] at e;injection e with e;omega
theorem GsS.closed (g:GsS B w T R v va vg As Gs gp) (hb:Below w.heap.size w w') (hv:∀ q,v'.ownBlock=some q→w.heap.size≤q):GsS B w' T R v' va vg As Gs gp :=
 g.fr (S:=fun _=>False) (Fr.of_below hb) (fun _ _ q=>q) (fun q h1 h2=>⟨h2.1,h2.2.1,fun e=>by have:=hv q e;omega⟩)
theorem TpS.closedG {i:Nat} (m:TpS eN B w T R v tt (op.map gO) (.slice none 0 0) [] []) (hB:B≤w.heap.size) (hb:Below w.heap.size w w') (hown:w'.ownsRow w.heap.size 40 5 v' (tt.eraseIdx i).length (flatE encT (tt.eraseIdx i))) (hT:∀ q,T q→q < w.heap.size) :
  TpS eN B w' T R v' (tt.eraseIdx i) ((op.eraseIdx i).map gO) (.slice none 0 0) [] []:=by
 have:=m.closed hB (k:=i) hb hown hT
 rwa [map_erase] at this
theorem TpS.rlt {E:List (PAns × Int)→List Bool} {op':List (Opn PCall (PAns × Int))} {vo:Value} {tc:List TkV} {ov:List (Ovr PCall (PAns × Int))} (m:TpS E B w T R v tt op' vo tc ov):∀ q,R q→q < w.heap.size:=fun q e=>(m.sep q e).2.1
theorem TpS.vlt {E:List (PAns × Int)→List Bool} {op':List (Opn PCall (PAns × Int))} {vo:Value} {tc:List TkV} {ov:List (Ovr PCall (PAns × Int))} (m:TpS E B w T R v tt op' vo tc ov):∀ q,v.ownBlock=some q→q < w.heap.size:=fun q e=>own_bq m.ro q e
theorem TalkAt.formN {t:TkV} {who:List UInt8} {cs:List PCall} {rs:List (PAns × Int)} (h:TalkAt eN w R t who cs rs):∃ Ac cc At ct Ae ce,t=⟨who,t.n,.slice Ac cs.length cc,.slice At cs.length ct,.slice Ae 0 ce⟩:=by
 obtain ⟨twho,tn,cv,tv,ev⟩:=t
 have h1:CallsAt w R cv cs:=h.calls
 obtain ⟨us,h2,h3,_⟩:AnssAt w R tv (rs.map Prod.fst):=h.told
 have h4:ErrsAt w R ev []:=h.errs
 have hw:twho=who:=h.hwho
 obtain ⟨Ac,cc,e1,r1⟩:=own_form h1.1
 obtain ⟨At,ct,e2,r2⟩:=own_form h3
 obtain ⟨Ae,ce,e3,r3⟩:=own_form h4.1
 subst hw
 subst e1
 subst e2
 subst e3
 refine ⟨Ac,cc,At,ct,Ae,ce,?_⟩
 simp [h.len]
structure Tl (w:World) (R:Nat→Prop) (t:TkV) (who:List UInt8) (cs:List PCall) (rs:List (PAns × Int)) (gx:Nat):Prop where
 tk:TalkAt eN w R t who cs rs
 bx:Blk w gx 40 #[txt who,.int .i64 t.n,t.cv,t.tv,t.ev]
structure CgS (B:Nat) (w:World) (T R:Nat→Prop) (a:Nat) (h:Hl) (k:Nat) (v va vg:Value) (tt:List TkV) (op:List (Opn PCall (PAns × Int))) (As As':List Int) (Gs Gs':List Pf) (gp gx:Nat) (t:TkV) (who:List UInt8) (cs:List PCall) (rs:List (PAns × Int)):Prop where
 x:HK B w T a h k
 q:GrI h op As' Gs'
 m:TpS eN B w T R v tt (op.map gO) (.slice none 0 0) [] []
 g:GsS B w T R v va vg As Gs gp
 t:Tl w R t who cs rs gx
 nx:¬ T gx∧¬ R gx∧v.ownBlock≠some gx∧va.ownBlock≠some gx∧vg.ownBlock≠some gx∧B≤w.heap.size
section
variable {As' : List Int} {Gs' : List Pf} {gx : Nat} {t : TkV} {who : List UInt8} {cs : List PCall} {rs : List (PAns × Int)}
theorem CgS.addA (s:CgS B w T R a h k v va vg tt op As As' Gs Gs' gp gx t who cs rs) {x:Int} (hown:w'.ownsRow 0 3 1 va' (As.length+1) (As.map (Value.int .i64)++(#[.int .i64 x]:Array Value).toList)) (hg:w.grownBy w' va.ownBlock) (hat:va'.ownBlock=va.ownBlock∨va'.ownBlock=some (w.heap.size+1)) :
  CgS B w' T R a h k v va' vg tt op (As++[x]) As' Gs Gs' gp gx t who cs rs∧Below B w w':=by
 obtain ⟨g,f⟩:=s.g.addA s.nx.2.2.2.2.2 s.x.lt s.m.rlt s.m.vlt hown hg hat
 have h1:∀ q,va.ownBlock=some q→¬ R q∧¬ T q∧B≤q∧v.ownBlock≠some q:=fun q e=>s.g.out q (.inl e)
 have hlt:=s.t.bx.lt
 exact ⟨⟨s.x.far f (fun q e=>(h1 q e).2.1) (fun q e=>(h1 q e).2.2.1),s.q,s.m.beside f (fun q e=>(h1 q e).1) (fun q e=>(h1 q e).2.2.2) (fun q e e2=>by simp [Value.ownBlock] at e2),g,
  ⟨s.t.tk.fr f (fun q e e2=>(h1 q e2).1 e),s.t.bx.fr f (fun e=>s.nx.2.2.2.1 e)⟩,s.nx.1,s.nx.2.1,s.nx.2.2.1,fun e=>by
   rcases hat with h | h
   ·exact s.nx.2.2.2.1 (h.symm.trans e)
   ·rw [h] at e;injection e with e;omega,s.nx.2.2.2.2.1,Nat.le_trans s.nx.2.2.2.2.2 f.size⟩,f.below s.nx.2.2.2.2.2 (fun q e=>(h1 q e).2.2.1)⟩
theorem CgS.addP (s:CgS B w T R a h k v va vg tt op As As' Gs Gs' gp gx t who cs rs) {x:Pf} (hown:w'.ownsRow 0 31 2 vg' (Gs.length+1) (cellsP Gs++(#[.int .i64 x.1,.int .i64 x.2]:Array Value).toList)) (hg:w.grownBy w' vg.ownBlock) (hat:vg'.ownBlock=vg.ownBlock∨vg'.ownBlock=some (w.heap.size+1)) :
  CgS B w' T R a h k v va vg' tt op As As' (Gs++[x]) Gs' gp gx t who cs rs∧Below B w w':=by
 obtain ⟨g,f⟩:=s.g.addP s.nx.2.2.2.2.2 s.x.lt s.m.rlt s.m.vlt hown hg hat
 have h1:∀ q,vg.ownBlock=some q→¬ R q∧¬ T q∧B≤q∧v.ownBlock≠some q:=fun q e=>s.g.out q (.inr (.inl e))
 have hlt:=s.t.bx.lt
 exact ⟨⟨s.x.far f (fun q e=>(h1 q e).2.1) (fun q e=>(h1 q e).2.2.1),s.q,s.m.beside f (fun q e=>(h1 q e).1) (fun q e=>(h1 q e).2.2.2) (fun q e e2=>by simp [Value.ownBlock] at e2),g,
  ⟨s.t.tk.fr f (fun q e e2=>(h1 q e2).1 e),s.t.bx.fr f (fun e=>s.nx.2.2.2.2.1 e)⟩,s.nx.1,s.nx.2.1,s.nx.2.2.1,s.nx.2.2.2.1,fun e=>by
   rcases hat with h | h
   ·exact s.nx.2.2.2.2.1 (h.symm.trans e)
   ·rw [h] at e;injection e with e;omega,Nat.le_trans s.nx.2.2.2.2.2 f.size⟩,f.below s.nx.2.2.2.2.2 (fun q e=>(h1 q e).2.2.1)⟩
theorem CgS.done (s:CgS B w T R a h k v va vg tt op As As' Gs Gs' gp gx t who cs rs) (ha:As=As') (hg:Gs=Gs'):TgS B w T R a h k v va vg tt op As' Gs' gp:=by
 subst ha
 subst hg
 exact ⟨s.x,s.q,s.m,s.g⟩
end
theorem TgS.told {g c:Nat} {w8 w14:World} (x:HK B w8 T a h k) {i0:Nat} {id:Int} {y:Opn PCall (PAns × Int)} (hq:GrI h (op.set i0 y) As Gs) (s:TpS eN B w8 T R (.slice (some ⟨g,0,none⟩) tt.length c) tt (op.map gO) (.slice none 0 0) [] []) (gs:GsS B w8 T R (.slice (some ⟨g,0,none⟩) tt.length c) va vg As Gs gp) (hB:B≤w8.heap.size) {i:Nat} (hk:i < tt.length)
  {t:TkV} {who:List UInt8} {cs:List PCall} {rs:List (PAns × Int)} {us:List Value} (ht:tt[i]?=some t) (htk:TalkAt eN w8 R t who cs rs) {cl:PCall} (hcl:CallW cl) {r:PAns × Int} {u:Value} (hu:OwnP w8 0 31 u r.1.list)
  (hu2:∀ q,u.ownBlock=some q→¬ T q∧B≤q∧g≠q∧va.ownBlock≠some q∧vg.ownBlock≠some q∧q≠gp)
  (h2:us.length=rs.length) (h3:∀ i (h:i < (rs.map Prod.fst).length),∃ u,us[i]?=some u∧OwnP w8 0 31 u (rs.map Prod.fst)[i].list∧BIn R u)
  (hb:Below w8.heap.size w8 w14) {cv tv:Value} (hcv:w14.ownsRow w8.heap.size 33 7 cv (cs.length+1) (flatE encCl cs++encCl cl))
  (htv:w14.ownsRow w8.heap.size 46 5 tv (cs.length+1) (flatE encAn ((rs.map Prod.fst).zip us)++encAn (r.1,u)))
  (hy:(op.set i0 y).map gO=(op.map gO).set i ⟨who,id,cs++[cl],rs++[r]⟩) :
  ∃ R',TgS B ((w14.setCell ⟨g,i * 5+2,none⟩ cv).setCell ⟨g,i * 5+3,none⟩ tv) T R' a h k (.slice (some ⟨g,0,none⟩) tt.length c) va vg (tt.set i ⟨t.who,t.n,cv,tv,t.ev⟩) (op.set i0 y) As Gs gp∧Fr (fun q=>q=g) w14 ((w14.setCell ⟨g,i * 5+2,none⟩ cv).setCell ⟨g,i * 5+3,none⟩ tv):=by
 have htt:tt[i]=t:=by
  rw [List.getElem?_eq_getElem hk] at ht
  exact Option.some.inj ht
 have hT:=x.lt
 have hgv:=(s.no g rfl)
 have hgl:g < w8.heap.size:=own_bq s.ro g rfl
 have hsz:=hb.size
 have lt1:=fun q e=>World.ownsRow.lt hcv q e
 have lt2:=fun q e=>World.ownsRow.lt htv q e
 have hul:=fun q e=>World.ownsRow.lt hu q e
 obtain ⟨R',hR'⟩:∃ R':Nat→Prop,R'=fun q=>R q∨u.ownBlock=some q∨(w8.heap.size≤q∧q < w14.heap.size):=⟨_,rfl⟩
 have s2:TpS eN B w14 T R' (.slice (some ⟨g,0,none⟩) tt.length c) tt (op.map gO) (.slice none 0 0) [] []:=by
  refine (s.bel hb).widen (fun q e=>by rw [hR'];exact .inl e) (fun q e=>?_)
  rw [hR'] at e
  rcases e with e | e | e
  ·exact .inl e
  ·have h1:=hu2 q e
   have h4:=(hul q e).2
   exact .inr ⟨h1.1,by omega,h1.2.1,fun e2=>by injection e2 with e2;exact h1.2.2.1 e2,fun e2=>by simp [Value.ownBlock] at e2⟩
  ·refine .inr ⟨fun e2=>by have:=hT q e2;omega,e.2,by omega,fun e2=>by injection e2 with e2;have e2:g=q:=e2;omega,fun e2=>by simp [Value.ownBlock] at e2⟩
 have tk14:TalkAt eN w14 R' t who cs rs:=(htk.bel hb).mono (fun q e=>by rw [hR'];exact .inl e)
 have hu14:OwnP w14 0 31 u r.1.list:=hu.below hb
 have hn1:∀ q,R' q→q≠g:=fun q e e2=>by
  subst e2
  rw [hR'] at e
  rcases e with e | e | e
  ·exact hgv.1 e
  ·exact (hu2 q e).2.2.1 rfl
  ·omega
 subst htt
 obtain ⟨m,f⟩:=s2.asked2 (Nat.le_trans hB hsz) (fun q e=>Nat.lt_of_lt_of_le (hT q e) hsz) hk (x:=⟨who,id,cs++[cl],rs++[r]⟩) (cv:=cv) (tv:=tv) (fun w' f=>by
  have hin:∀ {x:Value},(∀ q,x.ownBlock=some q→w8.heap.size≤q∧q < w14.heap.size)→BIn R' x:=fun hx q e=>by rw [hR'];exact .inr (.inr (hx q e))
  have i1:=hin (x:=cv) lt1
  have i2:=hin (x:=tv) lt2
  have i3:BIn R' u:=fun q e=>by rw [hR'];exact .inr (.inl e)
  have fr:∀ {x:Value} {base size n:Nat} {e:TypeId} {xs:List Value},w14.ownsRow base e size x n xs→BIn R' x→w'.ownsRow base e size x n xs:=fun h hi=>own_fr h f (fun q e=>hn1 q (hi q e))
  have tk:=tk14.fr f (fun q e=>hn1 q e)
  refine TalkAt.asked (E:=eN) (us:=us) (u:=u) tk hcl (fr hcv i1) i1 h2 (fun i hi=>?_) (fr htv i2) i2 (fr hu14 i3) i3 tk.errs
  obtain ⟨y,y1,y2,y3⟩:=h3 i hi
  have y4:BIn R' y:=fun q e=>by rw [hR'];exact .inl (y3 q e)
  exact ⟨y,y1,fr (y2.below hb) y4,y4⟩)
 rw [← hy] at m
 have g2:GsS B w14 T R' (.slice (some ⟨g,0,none⟩) tt.length c) va vg As Gs gp:=by
  have g1:=gs.bel hb
  refine ⟨g1.ra,g1.rg,g1.pb,fun q e=>?_,g1.d,g1.dg⟩
  obtain ⟨k1,k2,k3,k4⟩:=g1.out q e
  have hlt:=gs.lt q e
  refine ⟨fun e2=>?_,k2,k3,k4⟩
  rw [hR'] at e2
  rcases e2 with e2 | e2 | e2
  ·exact k1 e2
  ·have:=hu2 q e2
   rcases e with e | e | e
   ·exact this.2.2.2.1 e
   ·exact this.2.2.2.2.1 e
   ·exact this.2.2.2.2.2 e
  ·omega
 refine ⟨R',⟨(x.bel hb).far f (fun q e=>by subst e;exact hgv.2.1) (fun q e=>by subst e;exact hgv.2.2),hq,m,g2.fr f (fun q e e2=>?_) (fun q h1 h2=>h2)⟩,f⟩
 subst e2
 exact (g2.out q e).2.2.2 rfl
end
theorem gcalls:CallW oNet∧CallW pAdd :=
 ⟨⟨by decide,by decide,by decide,by decide,by decide,by decide,by decide⟩,⟨by decide,by decide,by decide,by decide,by decide,by decide,by decide⟩⟩
theorem gcallW {wh ln:Int} (hw:wh=7∧ln=0∨wh=6) (hl:(Lit.int .i64 ln).wf=true):CallW ⟨wh,xN,0,26,ln,0,oN⟩:=by
 rcases hw with ⟨rfl,rfl⟩ | rfl
 ·exact ⟨by decide,by decide,by decide,by decide,by decide,by decide,by decide⟩
 ·exact ⟨(by decide:(Lit.int .i64 6).wf=true),(by decide:xN.length≤9223372036854775807),(by decide:(Lit.int .i64 0).wf=true),(by decide:(Lit.int .i64 26).wf=true),hl,(by decide:(Lit.int .i64 0).wf=true),(by decide:oN.length≤9223372036854775807)⟩
theorem gcallG {wh ln:Int} (hw:wh=7∧ln=0∨wh=6):isG ⟨wh,xN,0,26,ln,0,oN⟩:=by
 rcases hw with ⟨rfl,rfl⟩ | rfl
 ·exact .inl rfl
 ·exact .inr ⟨ln,rfl⟩
section
variable {op : List (Opn PCall (PAns × Int))} {i : Nat} {who : List UInt8} {c : PCall} {r : PAns × Int}
theorem set_no (hi:i < op.length) (hw:op[i].who=who) (hl:op[i].rs.length=op[i].cs.length) (h:r.2≠0):(op.set i ⟨who,op[i].id,op[i].cs++[c],op[i].rs++[r]⟩).map gO=op.map gO:=by
 subst hw
 rw [List.map_set,gO_no hl c h]
 have:(op.map gO)[i]'(by rw [List.length_map];exact hi)=gO op[i]:=List.getElem_map ..
 rw [← this,List.set_getElem_self]
theorem set_yes (hi:i < op.length) (hw:op[i].who=who) (hl:op[i].rs.length=op[i].cs.length) (h:r.2=0):(op.set i ⟨who,op[i].id,op[i].cs++[c],op[i].rs++[r]⟩).map gO=(op.map gO).set i ⟨who,op[i].id,(gO op[i]).cs++[c],(gO op[i]).rs++[r]⟩:=by
 subst hw
 rw [List.map_set,gO_yes hl c h]
end
theorem within_yes (p q:Pf) (hp:chkP p=0) (hq:chkP q=0) (h:inQ p q=true) (w:World) :
  Calls Tryz.prog 16 #[.agg #[.int .i64 p.1,.int .i64 p.2],.agg #[.int .i64 q.1,.int .i64 q.2]] w fun e w'=>e=.returned (.tuple #[.bool true,.nilIface])∧Below w.heap.size w w':=(within_ok p q hp hq w).mono fun e w' x=>by rw [h] at x;exact x
theorem within_no (p q:Pf) (hp:chkP p=0) (hq:chkP q=0) (h:inQ p q=false) (w:World) :
  Calls Tryz.prog 16 #[.agg #[.int .i64 p.1,.int .i64 p.2],.agg #[.int .i64 q.1,.int .i64 q.2]] w fun e w'=>e=.returned (.tuple #[.bool false,.nilIface])∧Below w.heap.size w w':=(within_ok p q hp hq w).mono fun e w' x=>by rw [h] at x;exact x
theorem Rd.numAt {w:World} {B:Nat} {A:Option Addr} {l:List Int} (h:Rd w B A (l.map (Value.int .i64))) {k:Nat} (hk:k < l.length):∃ b off,A=some ⟨b,off,none⟩∧b < B∧w.cell? ⟨b,off+k,none⟩=some (.int .i64 l[k]):=by
 obtain ⟨b,off,e,hb,hc⟩:=h (fun e=>by have:=congrArg List.length e;simp at this;rw [this] at hk;simp at hk)
 exact ⟨b,off,e,hb,hc k _ (by simp [hk])⟩
theorem cellsP_flat:∀ l:List Pf,cellsP l=flatE (fun p:Pf=>[Value.int .i64 p.1,Value.int .i64 p.2]) l
 | []=>rfl
 | p::l=>by rw [cellsP,cellsP_flat l];rfl
theorem Rd.pfAt {w:World} {B:Nat} {A:Option Addr} {l:List Pf} (h:Rd w B A (cellsP l)) {k:Nat} (hk:k < l.length):∃ b off,A=some ⟨b,off,none⟩∧b < B∧w.cell? ⟨b,off+k * 2,none⟩=some (.int .i64 l[k].1)∧w.cell? ⟨b,off+k * 2+1,none⟩=some (.int .i64 l[k].2):=by
 rw [cellsP_flat] at h
 obtain ⟨b,off,e,hb,hc⟩:=h.elt (k:=2) (fun _=>rfl) hk (by decide)
 exact ⟨b,off,e,hb,hc 0 _ rfl,hc 1 _ rfl⟩
theorem TgS.new {B:Nat} {w:World} {T:Nat→Prop} {a k gp:Nat} (x:HK B w T a ⟨gd2,[]⟩ k) (p:Blk w gp 31 #[.int .i64 0,.int .i64 26]) (hn:¬ T gp) (hB:B≤gp):TgS B w T (fun _=>False) a ⟨gd2,[]⟩ k (.slice none 0 0) (.slice none 0 0) (.slice none 0 0) [] [] [] [] gp :=
 ⟨x,ggr2,⟨rfl,World.ownsRow_nil _ _ _ _,fun i h=>by simp at h,rfl,World.ownsRow_nil _ _ _ _,fun i h=>by simp at h,BIn.nil _,BIn.nil _,fun q e=>by simp [Value.ownBlock] at e,fun q e=>e.elim⟩,
  ⟨World.ownsRow_nil _ _ _ _,World.ownsRow_nil _ _ _ _,p,fun q e=>by
   rcases e with e | e | e
   ·simp [Value.ownBlock] at e
   ·simp [Value.ownBlock] at e
   ·subst e;exact ⟨fun e=>e,hn,hB,fun e=>by simp [Value.ownBlock] at e⟩,fun q e=>by simp [Value.ownBlock] at e,fun e=>by simp [Value.ownBlock] at e⟩⟩
def cL:Code→Code
 | .seq a _=>a
 | .block _ c=>c
 | .loop c=>c
 | .scope c=>c
 | c=>c
def cR:Code→Code
 | .seq _ b=>b
 | c=>c
theorem tg_close {l:List HStp} {k:Nat} {w w6:World} {ax g5 gp:Nat} {h:Hl} {T R:Nat→Prop} {tt:List TkV} {op:List (Opn PCall (PAns × Int))} {As:List Int} {Gs:List Pf} {Av Aa Ag:Option Addr} {cv ca cg:Nat} {i:Nat}  {z0 z1 z2 z3 z5 z6 z7 z8 z9 z10 z11 z19 z20 z21 z22 z23 z24 z25 z26 z27 z28 z29 z30 z31 z32 z33 z34 z35 z36 z37 z38 z39 z40 z41 z42 z43 z44 z45 z46 z47 z48 z49 z50 z51 z52 z53 z54 z55 z56 z57 z58 z59 z60 z61 z62 z63 z64 z65 z66 z67 z68 z69 z70 z71 z72 z73 z74 z75 z76 z77 z78 z79 z80 z81 z82 z83 z84 z85 z86 z87 z88 z89 z90 z91 z92 z93 z94 z95 z96 z97 z98 z99 z100 z101 z102 z103 z104 z105 z106 z107 z108 z109 z110 z111 z112 z113 z114 z115 z116 z117 z118 z119 z120 z121 z122 z123 z124 z125 z126 z127 z128 z129 z130 z131 z132 z133 z134 z135 z136 z137 z138 z139 z140 z141 z142 z143 z144 z145 z146 z147 z148 z149 z150 z151 z152 z153 z154 z155 z156 z157 z158 z159 z160 z161 z162 z163 z164 z165 z166 z167 z168 z169 z170 z171 z172 z173 z174 z175 z176 z177 z178 z179 z180 z181 z182 z183 z184 z185 z186 z187 z188 z189 z190 z191 z192 z193 z194 z195 z196 z197 z198 z199 z200 z201 z202 z203 z204 z205 z206 z207 z208 z209 z210 z211 z212 z213 z214 z215 z216 z217 z218 z219 z220 z221 z222 z223 z224 z225 z226 z227 z228 z229 z230 z231 z232 z233 z234 z235 z236 z237 z238 z239 z240 z241 z242 z243 z244 z245 z246 z247 z248 z249 z250 z251 z252 z253 z254 z255 z256 z257 z258 z259 z260 z261 z262 z263 z264 z265 z266 z267 z268 z269 z270 z271 z272 z273 z274 z275 z276 z277 z278 z279 z280 z281 z282 z283 z284 z285 z286 z287 z288 z289 z290 z291 z292 z293 z294 z295 z296 z297 z298 z299 z300 z301 z302 z303 z304 z305 z306 z307 z308 z309 z310 z311 z312 z313 z314 z315 z316 z317 z318 z319 z320 z321 z322 z323 z324 z325 z326 z327 z328 z329 z330 z331 z332 z333 z334 z335 z336 z337 z338 z339 z340 z341 z342 z343 z344 z345 z346 z347 z348 z349 z350 z351 z352 z353 z354 z355 z356 z357 z358 z359 z360 z361 z362 z363 z364 z365 z366 z367 z368 z369 z370 z371 z372 z373 z374 z375:Value} {Q:Exit→Act→World→Prop} (hR1:Hid (∀ (y13 y14 y15 y20 y21 y22 y23 y24 y25 y26 y27 y28 y29 y30 y79 y80 y81 y82 y83 y84 y85 y86 y87 y88 y89 y90 y91 y92 y93 y94 y95 y96 y97 y98 y99 y100 y101 y102 y103 y104 y105 y106 y107 y108 y109 y110 y111 y112 y113 y114 y115 y116 y117 y118 y119 y120 y121 y122 y123 y124 y125 y126 y127 y128 y129 y130 y131 y132 y133 y134 y135 y136 y137 y138 y139 y140 y141 y142 y143 y144 y145 y146 y147 y148 y149 y150 y151 y152 y153 y154 y155 y156 y157 y158 y159 y160 y161 y162 y163 y164 y165 y166 y167 y168 y169 y170 y171 y172 y173 y174 y175 y176 y177 y178 y179 y180 y181 y182 y183 y184 y185 y186 y187 y188 y189 y190 y191 y192 y193 y194 y195 y196 y197 y198 y199 y200 y201 y202 y203 y204 y205 y206 y207 y208 y209 y210 y211 y212 y213 y214 y215 y216 y217 y218 y219 y220 y221 y222 y223 y224 y225 y226 y227 y228 y229 y230 y231 y232 y233 y234 y235 y236 y237 y238 y239 y240 y241 y242 y243:Value) (w':World),(∃ (h':Hl) (T' R':Nat→Prop) (tt':List TkV) (op':List (Opn PCall (PAns × Int))) (As':List Int) (Gs':List Pf),Hid (TgS w.heap.size w' T' R' ax h' (2 * (k+1)+4) y13 y14 y15 tt' op' As' Gs' gp∧GrSz op' As' Gs' (k+1))∧Below w.heap.size w w')→Q .normal ⟨List.toArray (z0::z1::z2::z3::ptrV ax::z5::z6::z7::z8::z9::z10::z11::.pointer (some ⟨gp,0,none⟩)::y13::y14::y15::.int .i64 (k:Int)::.pointer (some ⟨g5,0,none⟩)::.int .i64 (i:Int)::z19::y20::y21::y22::y23::y24::y25::y26::y27::y28::y29::y30::z31::z32::z33::z34::z35::z36::z37::z38::z39::z40::z41::z42::z43::z44::z45::z46::z47::z48::z49::z50::z51::z52::z53::z54::z55::z56::z57::z58::z59::z60::z61::z62::z63::z64::z65::z66::z67::z68::z69::z70::z71::z72::z73::z74::z75::z76::z77::z78::y79::y80::y81::y82::y83::y84::y85::y86::y87::y88::y89::y90::y91::y92::y93::y94::y95::y96::y97::y98::y99::y100::y101::y102::y103::y104::y105::y106::y107::y108::y109::y110::y111::y112::y113::y114::y115::y116::y117::y118::y119::y120::y121::y122::y123::y124::y125::y126::y127::y128::y129::y130::y131::y132::y133::y134::y135::y136::y137::y138::y139::y140::y141::y142::y143::y144::y145::y146::y147::y148::y149::y150::y151::y152::y153::y154::y155::y156::y157::y158::y159::y160::y161::y162::y163::y164::y165::y166::y167::y168::y169::y170::y171::y172::y173::y174::y175::y176::y177::y178::y179::y180::y181::y182::y183::y184::y185::y186::y187::y188::y189::y190::y191::y192::y193::y194::y195::y196::y197::y198::y199::y200::y201::y202::y203::y204::y205::y206::y207::y208::y209::y210::y211::y212::y213::y214::y215::y216::y217::y218::y219::y220::y221::y222::y223::y224::y225::y226::y227::y228::y229::y230::y231::y232::y233::y234::y235::y236::y237::y238::y239::y240::y241::y242::y243::z244::z245::z246::z247::z248::z249::z250::z251::z252::z253::z254::z255::z256::z257::z258::z259::z260::z261::z262::z263::z264::z265::z266::z267::z268::z269::z270::z271::z272::z273::z274::z275::z276::z277::z278::z279::z280::z281::z282::z283::z284::z285::z286::z287::z288::z289::z290::z291::z292::z293::z294::z295::z296::z297::z298::z299::z300::z301::z302::z303::z304::z305::z306::z307::z308::z309::z310::z311::z312::z313::z314::z315::z316::z317::z318::z319::z320::z321::z322::z323::z324::z325::z326::z327::z328::z329::z330::z331::z332::z333::z334::z335::z336::z337::z338::z339::z340::z341::z342::z343::z344::z345::z346::z347::z348::z349::z350::z351::z352::z353::z354::z355::z356::z357::z358::z359::z360::z361::z362::z363::z364::z365::z366::z367::z368::z369::z370::z371::z372::z373::z374::z375::[]),[]⟩ w')) (hR2:Hid (∀ (y13 y14 y15 y20 y21 y22 y23 y24 y25 y26 y27 y28 y29 y30 y79 y80 y81 y82 y83 y84 y85 y86 y87 y88 y89 y90 y91 y92 y93 y94 y95 y96 y97 y98 y99 y100 y101 y102 y103 y104 y105 y106 y107 y108 y109 y110 y111 y112 y113 y114 y115 y116 y117 y118 y119 y120 y121 y122 y123 y124 y125 y126 y127 y128 y129 y130 y131 y132 y133 y134 y135 y136 y137 y138 y139 y140 y141 y142 y143 y144 y145 y146 y147 y148 y149 y150 y151 y152 y153 y154 y155 y156 y157 y158 y159 y160 y161 y162 y163 y164 y165 y166 y167 y168 y169 y170 y171 y172 y173 y174 y175 y176 y177 y178 y179 y180 y181 y182 y183 y184 y185 y186 y187 y188 y189 y190 y191 y192 y193 y194 y195 y196 y197 y198 y199 y200 y201 y202 y203 y204 y205 y206 y207 y208 y209 y210 y211 y212 y213 y214 y215 y216 y217 y218 y219 y220 y221 y222 y223 y224 y225 y226 y227 y228 y229 y230 y231 y232 y233 y234 y235 y236 y237 y238 y239 y240 y241 y242 y243:Value) (w':World),(∃ (h':Hl) (T' R':Nat→Prop) (tt':List TkV) (op':List (Opn PCall (PAns × Int))) (As':List Int) (Gs':List Pf),Hid (TgS w.heap.size w' T' R' ax h' (2 * (k+1)+4) y13 y14 y15 tt' op' As' Gs' gp∧GrSz op' As' Gs' (k+1))∧Below w.heap.size w w')→Q (.exit 1) ⟨List.toArray (z0::z1::z2::z3::ptrV ax::z5::z6::z7::z8::z9::z10::z11::.pointer (some ⟨gp,0,none⟩)::y13::y14::y15::.int .i64 (k:Int)::.pointer (some ⟨g5,0,none⟩)::.int .i64 (i:Int)::z19::y20::y21::y22::y23::y24::y25::y26::y27::y28::y29::y30::z31::z32::z33::z34::z35::z36::z37::z38::z39::z40::z41::z42::z43::z44::z45::z46::z47::z48::z49::z50::z51::z52::z53::z54::z55::z56::z57::z58::z59::z60::z61::z62::z63::z64::z65::z66::z67::z68::z69::z70::z71::z72::z73::z74::z75::z76::z77::z78::y79::y80::y81::y82::y83::y84::y85::y86::y87::y88::y89::y90::y91::y92::y93::y94::y95::y96::y97::y98::y99::y100::y101::y102::y103::y104::y105::y106::y107::y108::y109::y110::y111::y112::y113::y114::y115::y116::y117::y118::y119::y120::y121::y122::y123::y124::y125::y126::y127::y128::y129::y130::y131::y132::y133::y134::y135::y136::y137::y138::y139::y140::y141::y142::y143::y144::y145::y146::y147::y148::y149::y150::y151::y152::y153::y154::y155::y156::y157::y158::y159::y160::y161::y162::y163::y164::y165::y166::y167::y168::y169::y170::y171::y172::y173::y174::y175::y176::y177::y178::y179::y180::y181::y182::y183::y184::y185::y186::y187::y188::y189::y190::y191::y192::y193::y194::y195::y196::y197::y198::y199::y200::y201::y202::y203::y204::y205::y206::y207::y208::y209::y210::y211::y212::y213::y214::y215::y216::y217::y218::y219::y220::y221::y222::y223::y224::y225::y226::y227::y228::y229::y230::y231::y232::y233::y234::y235::y236::y237::y238::y239::y240::y241::y242::y243::z244::z245::z246::z247::z248::z249::z250::z251::z252::z253::z254::z255::z256::z257::z258::z259::z260::z261::z262::z263::z264::z265::z266::z267::z268::z269::z270::z271::z272::z273::z274::z275::z276::z277::z278::z279::z280::z281::z282::z283::z284::z285::z286::z287::z288::z289::z290::z291::z292::z293::z294::z295::z296::z297::z298::z299::z300::z301::z302::z303::z304::z305::z306::z307::z308::z309::z310::z311::z312::z313::z314::z315::z316::z317::z318::z319::z320::z321::z322::z323::z324::z325::z326::z327::z328::z329::z330::z331::z332::z333::z334::z335::z336::z337::z338::z339::z340::z341::z342::z343::z344::z345::z346::z347::z348::z349::z350::z351::z352::z353::z354::z355::z356::z357::z358::z359::z360::z361::z362::z363::z364::z365::z366::z367::z368::z369::z370::z371::z372::z373::z374::z375::[]),[]⟩ w')) (hlt1:k < l.length) (hlt2:k < 60) (HKS:Hid (HStpOk l[k])) (HLE:Hid (GrSz op As Gs k)) (HNT:Hid ((¬ T g5)∧∀ q,(R q∨(Value.slice Av tt.length cv).ownBlock=some q∨(Value.slice Aa As.length ca).ownBlock=some q∨(Value.slice Ag Gs.length cg).ownBlock=some q∨q=gp)→q < g5)) (HI:Hid (TgS w.heap.size w6 T R ax h (2 * k+4) (.slice Av tt.length cv) (.slice Aa As.length ca) (.slice Ag Gs.length cg) tt op As Gs gp)) (HB:Hid (Below w.heap.size w w6)) (HBK6:Hid (Blk w6 g5 35 #[.int .i64 l[k].what,txt l[k].who,.int .i64 l[k].n,.int .i64 l[k].call.what,txt l[k].call.name,.int .i64 l[k].call.pa,.int .i64 l[k].call.pn,.int .i64 l[k].call.len,.int .i64 l[k].call.ad,txt l[k].call.owner])) (hi:i < op.length) (hwho:op[i].who=l[k].who) (hw1:l[k].what=1) :
  Code.wp Tryz.prog (cR (cR (cR (cL (cL (cR (cL (cL (cR (cL (cR (cR (cR (cR (cR (cR (cR (cR (cR (cR (cR (Tryz.f4.body.getD .skip)))))))))))))))))))))) Q ⟨List.toArray (z0::z1::z2::z3::ptrV ax::z5::z6::z7::z8::z9::z10::z11::.pointer (some ⟨gp,0,none⟩)::.slice Av tt.length cv::.slice Aa As.length ca::.slice Ag Gs.length cg::.int .i64 (k:Int)::.pointer (some ⟨g5,0,none⟩)::.int .i64 (i:Int)::z19::z20::z21::z22::z23::z24::z25::z26::z27::z28::z29::z30::z31::z32::z33::z34::z35::z36::z37::z38::z39::z40::z41::z42::z43::z44::z45::z46::z47::z48::z49::z50::z51::z52::z53::z54::z55::z56::z57::z58::z59::z60::z61::z62::z63::z64::z65::z66::z67::z68::z69::z70::z71::z72::z73::z74::z75::z76::z77::z78::z79::z80::z81::z82::z83::z84::z85::z86::z87::z88::z89::z90::z91::z92::z93::z94::z95::z96::z97::z98::z99::z100::z101::z102::z103::z104::z105::z106::z107::z108::z109::z110::z111::z112::z113::z114::z115::z116::z117::z118::z119::z120::z121::z122::z123::z124::z125::z126::z127::z128::z129::z130::z131::z132::z133::z134::z135::z136::z137::z138::z139::z140::z141::z142::z143::z144::z145::z146::z147::z148::z149::z150::z151::z152::z153::z154::z155::z156::z157::z158::z159::z160::z161::z162::z163::z164::z165::z166::z167::z168::z169::z170::z171::z172::z173::z174::z175::z176::z177::z178::z179::z180::z181::z182::z183::z184::z185::z186::z187::z188::z189::z190::z191::z192::z193::z194::z195::z196::z197::z198::z199::z200::z201::z202::z203::z204::z205::z206::z207::z208::z209::z210::z211::z212::z213::z214::z215::z216::z217::z218::z219::z220::z221::z222::z223::z224::z225::z226::z227::z228::z229::z230::z231::z232::z233::z234::z235::z236::z237::z238::z239::z240::z241::z242::z243::z244::z245::z246::z247::z248::z249::z250::z251::z252::z253::z254::z255::z256::z257::z258::z259::z260::z261::z262::z263::z264::z265::z266::z267::z268::z269::z270::z271::z272::z273::z274::z275::z276::z277::z278::z279::z280::z281::z282::z283::z284::z285::z286::z287::z288::z289::z290::z291::z292::z293::z294::z295::z296::z297::z298::z299::z300::z301::z302::z303::z304::z305::z306::z307::z308::z309::z310::z311::z312::z313::z314::z315::z316::z317::z318::z319::z320::z321::z322::z323::z324::z325::z326::z327::z328::z329::z330::z331::z332::z333::z334::z335::z336::z337::z338::z339::z340::z341::z342::z343::z344::z345::z346::z347::z348::z349::z350::z351::z352::z353::z354::z355::z356::z357::z358::z359::z360::z361::z362::z363::z364::z365::z366::z367::z368::z369::z370::z371::z372::z373::z374::z375::[]),[]⟩ w6:=by
 let QF:Exit→Act→World→Prop:=bodyPost Tryz.prog Tryz.f4 (fun _ _=>True)
 conv=>arg 2;whnf
 have x0:=HBK6.out.cell 0;have x1':=HBK6.out.cell 1;have x2':=HBK6.out.cell 2;have x7:=HBK6.out.cell 7
 simp at x0 x1' x2' x7
 have hi0:¬ ((i:Int) < 0):=by omega
 have HWHO:=Hd hwho
 clear hwho
 obtain ⟨gv,cv2,hvv,hgv,t,ht,htk,hcc,hfz⟩:=HI.out.rowO hi
 cases hvv
 obtain ⟨Ac,kc,At,kt,Ae,ke,hte⟩:=htk.formN
 generalize t.n=tn at hte
 subst hte
 obtain ⟨ox,hox⟩:∃ x,x=gO op[i]:=⟨_,rfl⟩
 rw [← hox] at ht htk hcc
 have HOX:=Hd hox
 have hit:i < tt.length:=by rw [HI.out.lo];exact hi
 have hI5:(i:Int) < (tt.length:Int):=by omega
 have HNV:=Hd (HI.out.m.no gv rfl)
 have y0:=hcc 0 _ rfl;have y1:=hcc 1 _ rfl;have y2:=hcc 2 _ rfl;have y3:=hcc 3 _ rfl;have y4:=hcc 4 _ rfl
 rw [Nat.add_zero] at y0
 have HTK:=Hd htk
 have HT:=Hd ht
 have HCC:=Hd hcc
 have HFZ:=Hd hfz
 have HRD:=Hd (show Rd w6 w6.heap.size (some ⟨gv,0,none⟩) (flatE encT tt) from Rd.of_own HI.out.m.ro)
 have HLO:=Hd HI.out.lo
 have h60:tt.length≤60:=by have:=HLE.out.lo;have:=HLO.out;omega
 have HIO:=Hd (And.intro hi trivial)
 have HIT:=Hd (And.intro hit trivial)
 have HGL:=Hd hgv
 have HBL:=Hd HB.out.size
 have HOL:=Hd (show ox.rs.length=ox.cs.length∧ox.cs.length≤60 from ⟨by rw [hox];exact gO_len _,by
  have h1:=HLE.out.cs _ (List.getElem_mem hi)
  have h2:=gO_le op[i]
  rw [hox];omega⟩)
 clear hcc hfz htk ht hox
 skip
 have hb7:=(Below.refl w6.heap.size w6).alloc (Nat.le_refl _) (.cells #[.string ⟨op[i].who.toArray⟩,.int .i64 tn,.slice Ac ox.cs.length kc,.slice At ox.cs.length kt,.slice Ae 0 ke] 40)
 have hbx:=Blk.new w6 40 #[.string ⟨op[i].who.toArray⟩,.int .i64 tn,.slice Ac ox.cs.length kc,.slice At ox.cs.length kt,.slice Ae 0 ke]
 go_upto_region 45 with fail
 skip
 refine wp_name (fun w7 HW=>?_)
 replace hb7:Below w6.heap.size w6 w7:=by rw [HW.out];exact hb7
 replace hbx:Blk w7 w6.heap.size 40 #[.string ⟨op[i].who.toArray⟩,.int .i64 tn,.slice Ac ox.cs.length kc,.slice At ox.cs.length kt,.slice Ae 0 ke]:=by rw [HW.out];exact hbx
 have HB7:=Hd hb7
 have HBX:=Hd hbx
 have HXL:=Hd hbx.lt
 have hle7:=hb7.size
 have HR1:=Hd (Rd.head flatT_len (HRD.out.below hb7) i)
 have HCAP:=Hd (own_cap HI.out.m.ro)
 have hicv:i≤cv:=by have:=HCAP.out;omega
 have hicv2:i+1≤cv:=by have:=HCAP.out;omega
 have hicl:i+1≤tt.length:=by omega
 have HR2:=Hd (Rd.tailIf flatT_len (HRD.out.below hb7) (i+1) HCAP.out)
 have HL1:=Hd (show (flatE encT (tt.take i)).length=i * 5 by rw [flatE_length flatT_len,List.length_take,Nat.min_eq_left (by omega)])
 have HONE:=Hd HI.out.m.one
 have HL2:=Hd (show (flatE encT (tt.drop (i+1))).length=(tt.length - (i+1)) * 5 by rw [flatE_length flatT_len,List.length_drop])
 have HO0:=Hd (one_take HONE.out i)
 have HO1:=Hd (one_drop HONE.out (i+1))
 obtain ⟨F0,hF0⟩:∃ F,F=flatE encT (tt.take i):=⟨_,rfl⟩
 obtain ⟨F1,hF1⟩:∃ F,F=flatE encT (tt.drop (i+1)):=⟨_,rfl⟩
 rw [← hF0] at HR1 HL1 HO0
 rw [← hF1] at HR2 HL2 HO1
 have HF01:=Hd (And.intro hF0 hF1)
 clear hF0 hF1
 clear HW hb7 hbx y0 y1 y2 y3 y4
 go_upto_region 46 with fail
 go_upto_region 47 with (at_builtin;go_must (refine wpList_append_rd rfl _ _ 29 rfl 40 Tryz.underlying29 _ 5 96 infoTk rfl (by decide) w7.heap.size (.slice none 0 0) 0 [] rfl (World.ownsRow_nil _ _ _ _) w6.heap.size (some ⟨gv,0,none⟩) i cv F0 rfl HL1.out HR1.out HO0.out (cut_len0 HIT.out.1 h60).1 (cut_len0 HIT.out.1 h60).2 (Nat.le_refl _) ?_);intro v8 w8 hown8 hb8)
 rw [Nat.zero_add,List.nil_append] at hown8
 obtain ⟨A8,c8,rfl,_⟩:=own_form hown8
 have hle8:=hb8.size
 have HO8:=Hd hown8
 have HR28:=Hd (HR2.out.below (hb8.mono hle7))
 have HXT:=Hd HI.out.x.lt
 have HZB:=Hd HB.out.size
 go_upto_region 47 with fail
 go_cut [13] (fun v wx=>∃ (A9:Option Addr) (c9:Nat),v=.slice A9 (tt.eraseIdx i).length c9∧Hid (wx.ownsRow w7.heap.size 40 5 v (tt.eraseIdx i).length (flatE encT (tt.eraseIdx i)))∧Below w7.heap.size w7 wx)
 case first =>
  by_cases hcap:cv=i+1
  ·skip
   have hR29:=HR28.out
   rw [if_pos hcap] at hR29
   have HR29:=Hd hR29
   clear hR29
   go_wp2_with (at_builtin;go_must (refine wpList_append_rd rfl _ _ 29 rfl 40 Tryz.underlying29 _ 5 96 infoTk rfl (by decide) w7.heap.size (.slice A8 i c8) i F0 rfl HO8.out w6.heap.size _ _ _ F1 rfl HL2.out HR29.out HO1.out (cut_len HIT.out.1 h60).1 (cut_len HIT.out.1 h60).2 hle8 ?_);intro v9 w9 hown9 hb9)
   rw [HF01.out.1,HF01.out.2,← flatE_append,← List.eraseIdx_eq_take_drop_succ,cut_erase HIT.out.1] at hown9
   obtain ⟨A9,c9,rfl,_⟩:=own_form hown9
   have HO9:=Hd hown9
   have hb79:=hb8.trans hb9
   go_wp2
   go_meet
   exact ⟨A9,c9,rfl,HO9,hb79⟩
  ·skip
   have hR29:=HR28.out
   rw [if_neg hcap] at hR29
   have HR29:=Hd hR29
   clear hR29
   go_wp2_with (at_builtin;go_must (refine wpList_append_rd rfl _ _ 29 rfl 40 Tryz.underlying29 _ 5 96 infoTk rfl (by decide) w7.heap.size (.slice A8 i c8) i F0 rfl HO8.out w6.heap.size _ _ _ F1 rfl HL2.out HR29.out HO1.out (cut_len HIT.out.1 h60).1 (cut_len HIT.out.1 h60).2 hle8 ?_);intro v9 w9 hown9 hb9)
   rw [HF01.out.1,HF01.out.2,← flatE_append,← List.eraseIdx_eq_take_drop_succ,cut_erase HIT.out.1] at hown9
   obtain ⟨A9,c9,rfl,_⟩:=own_form hown9
   have HO9:=Hd hown9
   have hb79:=hb8.trans hb9
   go_wp2
   go_meet
   exact ⟨A9,c9,rfl,HO9,hb79⟩
 case rest =>
  obtain ⟨A9,c9,rfl,HO9,hb79⟩:=hcut
  have hown9:=HO9.out
  have hM7:=HI.out.m.bel HB7.out
  have hM9:=TpS.closedG (op:=op) (i:=i) hM7 (by have:=HZB.out;omega) hb79 hown9 (fun q e=>by have:=HXT.out q e;omega)
  have hb69:=HB7.out.trans (hb79.mono hle7)
  generalize wc=w9 at *
  have HM9:=Hd hM9
  have HGS9:=Hd (GsS.closed (v':=.slice A9 (tt.eraseIdx i).length c9) HI.out.g hb69 (fun q e=>by have:=(World.ownsRow.lt hown9 q e).1;omega))
  have HX9:=Hd (HI.out.x.bel hb69)
  have HB9:=Hd (HB.out.trans (hb69.mono HB.out.size))
  have HTK9:=Hd (HTK.out.bel hb69)
  have HBX9:=Hd (HBX.out.below hb79 HXL.out)
  have HBK9:=Hd (HBK6.out.below hb69 HBK6.out.lt)
  have HV9:=Hd (show (Value.slice A9 (tt.eraseIdx i).length c9).ownBlock≠some w6.heap.size∧(Value.slice Aa As.length ca).ownBlock≠some w6.heap.size∧(Value.slice Ag Gs.length cg).ownBlock≠some w6.heap.size∧(¬ R w6.heap.size)∧¬ T w6.heap.size from
   ⟨fun e=>by have:=(World.ownsRow.lt hown9 _ e).1;have:=HXL.out;omega,fun e=>Nat.lt_irrefl _ (HI.out.g.lt _ (.inl e)),fun e=>Nat.lt_irrefl _ (HI.out.g.lt _ (.inr (.inl e))),fun e=>Nat.lt_irrefl _ (HI.out.m.rlt _ e),fun e=>Nat.lt_irrefl _ (HI.out.x.lt _ e)⟩)
  have z1:=HBK9.out.cell 1
  simp at z1
  have HS69:=Hd (Nat.lt_of_lt_of_le HXL.out hb79.size)
  have HC:=Hd (HX9.out.close_h (by omega) l[k].who HKS.out.who)
  have hq:=HI.out.q.close HIO.out.1
  rw [HWHO.out] at hq
  have HQ:=Hd hq
  clear hq hown9 HO9 hb8 hb79 hM7 hM9 hb69 HO8 HR1 HR2 HR28 HL1 HL2 HCAP hle7 hle8 HBX HTK HBK6 HRD HB7 hicv hicv2 hicl HZB HF01 HO0 HO1 HONE HBK9
  go_wp2_with fail
  refine HC.out.mono ?_
  rintro e w10 ⟨rfl,T10,hs10⟩
  have HX10:=Hd hs10.hk
  have HM10:=Hd (HM9.out.step hs10)
  have HGS10:=Hd (HGS9.out.step hs10)
  have HB10:=Hd (HB9.out.trans (hs10.belB HX9.out.lo))
  have HTK10:=Hd (HTK9.out.fr hs10.fr (fun q e=>(HM9.out.sep q e).1))
  have HBX10:=Hd (HBX9.out.fr hs10.fr HV9.out.2.2.2.2)
  have HNT10:=Hd (show ¬ T10 w6.heap.size from fun e=>(hs10.new _ e).elim HV9.out.2.2.2.2 (fun e=>by have:=HS69.out;omega))
  clear HC hs10 HX9 HM9 HB9 HTK9 HBX9 HI HB z1 HGS9
  rcases HQ.out with ⟨hf,hq⟩ | ⟨hf,hq⟩
  ·have HF:=Hd (faultV_no hf)
   have HQ2:=Hd hq
   rw [HF.out]
   clear hf hq HQ
   go_wp2
   first | exact hR1.out _ _ _ _ _ _ _ _ _ _ _ _ _ _ _ _ _ _ _ _ _ _ _ _ _ _ _ _ _ _ _ _ _ _ _ _ _ _ _ _ _ _ _ _ _ _ _ _ _ _ _ _ _ _ _ _ _ _ _ _ _ _ _ _ _ _ _ _ _ _ _ _ _ _ _ _ _ _ _ _ _ _ _ _ _ _ _ _ _ _ _ _ _ _ _ _ _ _ _ _ _ _ _ _ _ _ _ _ _ _ _ _ _ _ _ _ _ _ _ _ _ _ _ _ _ _ _ _ _ _ _ _ _ _ _ _ _ _ _ _ _ _ _ _ _ _ _ _ _ _ _ _ _ _ _ _ _ _ _ _ _ _ _ _ _ _ _ _ _ _ _ _ _ _ _ _ _ _ _ _ ⟨_,_,_,_,_,_,_,Hd ⟨⟨HX10.out.more (by omega),HQ2.out,HM10.out,HGS10.out⟩,HLE.out.drop HIO.out.1⟩,HB10.out⟩ | exact hR2.out _ _ _ _ _ _ _ _ _ _ _ _ _ _ _ _ _ _ _ _ _ _ _ _ _ _ _ _ _ _ _ _ _ _ _ _ _ _ _ _ _ _ _ _ _ _ _ _ _ _ _ _ _ _ _ _ _ _ _ _ _ _ _ _ _ _ _ _ _ _ _ _ _ _ _ _ _ _ _ _ _ _ _ _ _ _ _ _ _ _ _ _ _ _ _ _ _ _ _ _ _ _ _ _ _ _ _ _ _ _ _ _ _ _ _ _ _ _ _ _ _ _ _ _ _ _ _ _ _ _ _ _ _ _ _ _ _ _ _ _ _ _ _ _ _ _ _ _ _ _ _ _ _ _ _ _ _ _ _ _ _ _ _ _ _ _ _ _ _ _ _ _ _ _ _ _ _ _ _ _ ⟨_,_,_,_,_,_,_,Hd ⟨⟨HX10.out.more (by omega),HQ2.out,HM10.out,HGS10.out⟩,HLE.out.drop HIO.out.1⟩,HB10.out⟩
  ·rw [show faultV (h.close l[k].who).2.1=.nilIface by rw [hf];rfl]
   have HQ2:=Hd hq
   have HG5:=Hd (show CgS w.heap.size w10 T10 R ax ((h.close l[k].who).2.2) (2 * k+5) (.slice A9 (tt.eraseIdx i).length c9) (.slice Aa As.length ca) (.slice Ag Gs.length cg) (tt.eraseIdx i) (op.eraseIdx i) (As++gAs (ox.cs.take 0) (ox.rs.take 0)) (As++gAs op[i].cs op[i].rs) (Gs++gPs (ox.cs.take 0) (ox.rs.take 0)) (Gs++gPs op[i].cs op[i].rs) gp w6.heap.size ⟨op[i].who,tn,.slice Ac ox.cs.length kc,.slice At ox.cs.length kt,.slice Ae 0 ke⟩ op[i].who ox.cs ox.rs from by
    simp only [List.take_zero,gAs,gPs,List.append_nil]
    exact ⟨HX10.out.more (by omega),HQ2.out,HM10.out,HGS10.out,⟨HTK10.out,HBX10.out⟩,HNT10.out,HV9.out.2.2.2.1,HV9.out.1,HV9.out.2.1,HV9.out.2.2.1,HB10.out.size⟩)
   have HGL5:=Hd (show (As++gAs (ox.cs.take 0) (ox.rs.take 0)).length=As.length∧(Gs++gPs (ox.cs.take 0) (ox.rs.take 0)).length=Gs.length by simp [gAs,gPs])
   have HGA:=Hd (show gAs ox.cs ox.rs=gAs op[i].cs op[i].rs∧gPs ox.cs ox.rs=gPs op[i].cs op[i].rs by rw [HOX.out];exact fz_grants _ _)
   have H0:=Hd (show ∀ r ∈ ox.rs,r.2=0 by rw [HOX.out];exact gO_rs _)
   have HSZ:=Hd (show GrSz (op.eraseIdx i) (As++gAs op[i].cs op[i].rs) (Gs++gPs op[i].cs op[i].rs) (k+1) from HLE.out.close HIO.out.1 (gAs_len _ _))
   have HB10':=HB10.out
   have h58:As.length+Gs.length≤60:=by have:=HLE.out.gs (by omega);omega
   obtain ⟨gx,hgx⟩:∃ g,g=w6.heap.size:=⟨_,rfl⟩
   rw [← hgx] at HG5 ⊢
   obtain ⟨hh,hhh⟩:∃ x,x=(h.close l[k].who).2.2:=⟨_,rfl⟩
   rw [← hhh] at HG5
   clear hf hq HQ HQ2 HX10 HM10 HGS10 HTK10 HBX10 HB10 HNT10 HV9 HT HCC HFZ HNV hgx hhh
   go_wp2
   go_loopw [14,15,25] (fun va vg jv wu=>∃ (j:Nat),jv=.int .i64 j∧j≤ox.cs.length∧Hid (CgS w.heap.size wu T10 R ax hh (2 * k+5) (.slice A9 (tt.eraseIdx i).length c9) va vg (tt.eraseIdx i) (op.eraseIdx i) (As++gAs (ox.cs.take j) (ox.rs.take j)) (As++gAs op[i].cs op[i].rs) (Gs++gPs (ox.cs.take j) (ox.rs.take j)) (Gs++gPs op[i].cs op[i].rs) gp gx ⟨op[i].who,tn,.slice Ac ox.cs.length kc,.slice At ox.cs.length kt,.slice Ae 0 ke⟩ op[i].who ox.cs ox.rs)∧Below w.heap.size w wu) (fun _ _ jv _=>ox.cs.length - (intOf jv).toNat)
   case atStart=>exact ⟨0,by go_num,Nat.zero_le _,HG5,HB10'⟩
   case round =>
    clear HG5 HB10' HGL5
    obtain ⟨j,rfl,hj,HC,hbu⟩:=hrel
    have d2:=HC.out.t.bx.cell 2
    have d3:=HC.out.t.bx.cell 3
    simp at d2 d3
    by_cases hjl:j < ox.cs.length
    ·have hjI:(j:Int) < (ox.cs.length:Int):=by omega
     have hjr:j < ox.rs.length:=by rw [HOL.out.1];exact hjl
     have hcs60:=HOL.out.2
     obtain ⟨b1,o1,rfl,hb1,hcl⟩:=HC.out.t.tk.calls.at hjl
     obtain ⟨b2,o2,A7,c7,rfl,hb2,f0',f1',f2',f3',f4',hr7⟩:=HC.out.t.tk.told.at (i:=j) (by simpa using hjr)
     have e0:=hcl 0 _ rfl
     rw [Nat.add_zero] at e0
     simp only [List.getElem_map] at f0' f1' f2'
     obtain ⟨Au,cu,rfl,_⟩:=own_form HC.out.g.ra
     obtain ⟨Aq,cq,rfl,_⟩:=own_form HC.out.g.rg
     have hlen:(As++gAs (ox.cs.take j) (ox.rs.take j)).length+(Gs++gPs (ox.cs.take j) (ox.rs.take j)).length < 1000000000:=by
      have:=gAs_len (ox.cs.take j) (ox.rs.take j)
      rw [List.length_take] at this
      simp only [List.length_append]
      omega
     have HTA:=Hd (fun q=>told_A HOL.out.1 H0.out hjl q)
     have HTP:=Hd (fun q=>told_P HOL.out.1 H0.out hjl q)
     have HRA:=Hd HC.out.g.ra
     have HRG:=Hd HC.out.g.rg
     obtain ⟨FA,hFA⟩:∃ F,F=(As++gAs (ox.cs.take j) (ox.rs.take j)).map (Value.int .i64):=⟨_,rfl⟩
     obtain ⟨FG,hFG⟩:∃ F,F=cellsP (Gs++gPs (ox.cs.take j) (ox.rs.take j)):=⟨_,rfl⟩
     rw [← hFA] at HRA
     rw [← hFG] at HRG
     have HFF:=Hd (And.intro hFA hFG)
     obtain ⟨na,hna⟩:∃ n,n=(As++gAs (ox.cs.take j) (ox.rs.take j)).length:=⟨_,rfl⟩
     obtain ⟨ng,hng⟩:∃ n,n=(Gs++gPs (ox.cs.take j) (ox.rs.take j)).length:=⟨_,rfl⟩
     rw [← hna,← hng] at hlen
     rw [← hna] at HRA ⊢
     rw [← hng] at HRG ⊢
     have HNN:=Hd (And.intro hna hng)
     have hla:na < 1000000000:=by omega
     have hlg:ng < 1000000000:=by omega
     clear hcl hr7 f3' f4' hFA hFG hna hng
     by_cases h7:ox.cs[j].what=7
     ·skip
      have HT7:=Hd (HTA.out h7)
      have hone:∀ u ∈ (#[.int .i64 ox.rs[j].1.ad]:Array Value).toList,u.oneCell'=true:=by intro u hu;simp at hu;subst hu;rfl
      go_wp2_with (at_builtin;go_must (refine wpList_append_elt (w1:=wr) rfl _ _ 57 rfl 3 Tryz.underlying57 _ 1 8 infoI64 rfl (by decide) (by decide) 0 (.slice Au na cu) na FA rfl HRA.out #[.int .i64 ox.rs[j].1.ad] rfl hone rfl hla (Nat.zero_le _) ?_);intro v12 w12 hown12 hg12 hat12)
      obtain ⟨A12,c12,rfl,_⟩:=own_form hown12
      rw [HFF.out.1,HNN.out.1] at hown12
      obtain ⟨hC12,hB12⟩:=HC.out.addA hown12 (by rw [← HNN.out.1];exact hg12) (by rw [← HNN.out.1];exact hat12)
      have HC12:=Hd hC12
      have HB12:=Hd (hbu.trans hB12)
      clear hown12 hg12 hat12 hC12 hB12 HRA HRG e0 f0' f1' f2' d2 d3 hone
      go_wp2
      go_roundw
      case rel=>exact ⟨j+1,by go_num,by omega,Hd (by have hc:=HC12.out;rw [HT7.out.1,HT7.out.2,← List.append_assoc,HNN.out.1,HNN.out.2];exact hc),HB12.out⟩
      case measure=>simp [intOf];omega
     ·skip
      have HT7:=Hd (HTP.out h7)
      have h7':(ox.cs[j].what == 7)=false:=by simpa using h7
      have hone:∀ u ∈ (#[.int .i64 ox.rs[j].1.pa,.int .i64 ox.rs[j].1.pn]:Array Value).toList,u.oneCell'=true:=by intro u hu;simp at hu;rcases hu with rfl | rfl <;> rfl
      go_wp2_with (at_builtin;go_must (refine wpList_append_elt (w1:=wr) rfl _ _ 44 rfl 31 Tryz.underlying44 _ 2 16 infoPf rfl (by decide) (by decide) 0 (.slice Aq ng cq) ng FG rfl HRG.out #[.int .i64 ox.rs[j].1.pa,.int .i64 ox.rs[j].1.pn] rfl hone rfl hlg (Nat.zero_le _) ?_);intro v12 w12 hown12 hg12 hat12)
      obtain ⟨A12,c12,rfl,_⟩:=own_form hown12
      rw [HFF.out.2,HNN.out.2] at hown12
      obtain ⟨hC12,hB12⟩:=HC.out.addP (x:=(ox.rs[j].1.pa,ox.rs[j].1.pn)) hown12 (by rw [← HNN.out.2];exact hg12) (by rw [← HNN.out.2];exact hat12)
      have HC12:=Hd hC12
      have HB12:=Hd (hbu.trans hB12)
      clear hown12 hg12 hat12 hC12 hB12 HRA HRG e0 f0' f1' f2' d2 d3 hone
      go_wp2
      go_roundw
      case rel=>exact ⟨j+1,by go_num,by omega,Hd (by have hc:=HC12.out;rw [HT7.out.1,HT7.out.2,← List.append_assoc,HNN.out.1,HNN.out.2];exact hc),HB12.out⟩
      case measure=>simp [intOf];omega
    ·obtain rfl:j=ox.cs.length:=by omega
     have hjI:¬ ((ox.cs.length:Int) < (ox.cs.length:Int)):=by omega
     have HD:=Hd (HC.out.done (by rw [List.take_length,← HOL.out.1,List.take_length,HGA.out.1]) (by rw [List.take_length,← HOL.out.1,List.take_length,HGA.out.2]))
     clear HC
     go_wp2
     first | exact hR1.out _ _ _ _ _ _ _ _ _ _ _ _ _ _ _ _ _ _ _ _ _ _ _ _ _ _ _ _ _ _ _ _ _ _ _ _ _ _ _ _ _ _ _ _ _ _ _ _ _ _ _ _ _ _ _ _ _ _ _ _ _ _ _ _ _ _ _ _ _ _ _ _ _ _ _ _ _ _ _ _ _ _ _ _ _ _ _ _ _ _ _ _ _ _ _ _ _ _ _ _ _ _ _ _ _ _ _ _ _ _ _ _ _ _ _ _ _ _ _ _ _ _ _ _ _ _ _ _ _ _ _ _ _ _ _ _ _ _ _ _ _ _ _ _ _ _ _ _ _ _ _ _ _ _ _ _ _ _ _ _ _ _ _ _ _ _ _ _ _ _ _ _ _ _ _ _ _ _ _ _ ⟨_,_,_,_,_,_,_,Hd ⟨HD.out.more (by omega),HSZ.out⟩,hbu⟩ | exact hR2.out _ _ _ _ _ _ _ _ _ _ _ _ _ _ _ _ _ _ _ _ _ _ _ _ _ _ _ _ _ _ _ _ _ _ _ _ _ _ _ _ _ _ _ _ _ _ _ _ _ _ _ _ _ _ _ _ _ _ _ _ _ _ _ _ _ _ _ _ _ _ _ _ _ _ _ _ _ _ _ _ _ _ _ _ _ _ _ _ _ _ _ _ _ _ _ _ _ _ _ _ _ _ _ _ _ _ _ _ _ _ _ _ _ _ _ _ _ _ _ _ _ _ _ _ _ _ _ _ _ _ _ _ _ _ _ _ _ _ _ _ _ _ _ _ _ _ _ _ _ _ _ _ _ _ _ _ _ _ _ _ _ _ _ _ _ _ _ _ _ _ _ _ _ _ _ _ _ _ _ _ ⟨_,_,_,_,_,_,_,Hd ⟨HD.out.more (by omega),HSZ.out⟩,hbu⟩
theorem tg_ask {l:List HStp} {k:Nat} {w w6:World} {ax g5 gp:Nat} {h:Hl} {T R:Nat→Prop} {tt:List TkV} {op:List (Opn PCall (PAns × Int))} {As:List Int} {Gs:List Pf} {Av Aa Ag:Option Addr} {cv ca cg:Nat} {i:Nat}  {z0 z1 z2 z3 z5 z6 z7 z8 z9 z10 z11 z19 z20 z21 z22 z23 z24 z25 z26 z27 z28 z29 z30 z31 z32 z33 z34 z35 z36 z37 z38 z39 z40 z41 z42 z43 z44 z45 z46 z47 z48 z49 z50 z51 z52 z53 z54 z55 z56 z57 z58 z59 z60 z61 z62 z63 z64 z65 z66 z67 z68 z69 z70 z71 z72 z73 z74 z75 z76 z77 z78 z79 z80 z81 z82 z83 z84 z85 z86 z87 z88 z89 z90 z91 z92 z93 z94 z95 z96 z97 z98 z99 z100 z101 z102 z103 z104 z105 z106 z107 z108 z109 z110 z111 z112 z113 z114 z115 z116 z117 z118 z119 z120 z121 z122 z123 z124 z125 z126 z127 z128 z129 z130 z131 z132 z133 z134 z135 z136 z137 z138 z139 z140 z141 z142 z143 z144 z145 z146 z147 z148 z149 z150 z151 z152 z153 z154 z155 z156 z157 z158 z159 z160 z161 z162 z163 z164 z165 z166 z167 z168 z169 z170 z171 z172 z173 z174 z175 z176 z177 z178 z179 z180 z181 z182 z183 z184 z185 z186 z187 z188 z189 z190 z191 z192 z193 z194 z195 z196 z197 z198 z199 z200 z201 z202 z203 z204 z205 z206 z207 z208 z209 z210 z211 z212 z213 z214 z215 z216 z217 z218 z219 z220 z221 z222 z223 z224 z225 z226 z227 z228 z229 z230 z231 z232 z233 z234 z235 z236 z237 z238 z239 z240 z241 z242 z243 z244 z245 z246 z247 z248 z249 z250 z251 z252 z253 z254 z255 z256 z257 z258 z259 z260 z261 z262 z263 z264 z265 z266 z267 z268 z269 z270 z271 z272 z273 z274 z275 z276 z277 z278 z279 z280 z281 z282 z283 z284 z285 z286 z287 z288 z289 z290 z291 z292 z293 z294 z295 z296 z297 z298 z299 z300 z301 z302 z303 z304 z305 z306 z307 z308 z309 z310 z311 z312 z313 z314 z315 z316 z317 z318 z319 z320 z321 z322 z323 z324 z325 z326 z327 z328 z329 z330 z331 z332 z333 z334 z335 z336 z337 z338 z339 z340 z341 z342 z343 z344 z345 z346 z347 z348 z349 z350 z351 z352 z353 z354 z355 z356 z357 z358 z359 z360 z361 z362 z363 z364 z365 z366 z367 z368 z369 z370 z371 z372 z373 z374 z375:Value} {Q:Exit→Act→World→Prop} (hR1:Hid (∀ (y13 y14 y15 y20 y21 y22 y23 y24 y25 y26 y27 y28 y29 y30 y79 y80 y81 y82 y83 y84 y85 y86 y87 y88 y89 y90 y91 y92 y93 y94 y95 y96 y97 y98 y99 y100 y101 y102 y103 y104 y105 y106 y107 y108 y109 y110 y111 y112 y113 y114 y115 y116 y117 y118 y119 y120 y121 y122 y123 y124 y125 y126 y127 y128 y129 y130 y131 y132 y133 y134 y135 y136 y137 y138 y139 y140 y141 y142 y143 y144 y145 y146 y147 y148 y149 y150 y151 y152 y153 y154 y155 y156 y157 y158 y159 y160 y161 y162 y163 y164 y165 y166 y167 y168 y169 y170 y171 y172 y173 y174 y175 y176 y177 y178 y179 y180 y181 y182 y183 y184 y185 y186 y187 y188 y189 y190 y191 y192 y193 y194 y195 y196 y197 y198 y199 y200 y201 y202 y203 y204 y205 y206 y207 y208 y209 y210 y211 y212 y213 y214 y215 y216 y217 y218 y219 y220 y221 y222 y223 y224 y225 y226 y227 y228 y229 y230 y231 y232 y233 y234 y235 y236 y237 y238 y239 y240 y241 y242 y243:Value) (w':World),(∃ (h':Hl) (T' R':Nat→Prop) (tt':List TkV) (op':List (Opn PCall (PAns × Int))) (As':List Int) (Gs':List Pf),Hid (TgS w.heap.size w' T' R' ax h' (2 * (k+1)+4) y13 y14 y15 tt' op' As' Gs' gp∧GrSz op' As' Gs' (k+1))∧Below w.heap.size w w')→Q .normal ⟨List.toArray (z0::z1::z2::z3::ptrV ax::z5::z6::z7::z8::z9::z10::z11::.pointer (some ⟨gp,0,none⟩)::y13::y14::y15::.int .i64 (k:Int)::.pointer (some ⟨g5,0,none⟩)::.int .i64 (i:Int)::z19::y20::y21::y22::y23::y24::y25::y26::y27::y28::y29::y30::z31::z32::z33::z34::z35::z36::z37::z38::z39::z40::z41::z42::z43::z44::z45::z46::z47::z48::z49::z50::z51::z52::z53::z54::z55::z56::z57::z58::z59::z60::z61::z62::z63::z64::z65::z66::z67::z68::z69::z70::z71::z72::z73::z74::z75::z76::z77::z78::y79::y80::y81::y82::y83::y84::y85::y86::y87::y88::y89::y90::y91::y92::y93::y94::y95::y96::y97::y98::y99::y100::y101::y102::y103::y104::y105::y106::y107::y108::y109::y110::y111::y112::y113::y114::y115::y116::y117::y118::y119::y120::y121::y122::y123::y124::y125::y126::y127::y128::y129::y130::y131::y132::y133::y134::y135::y136::y137::y138::y139::y140::y141::y142::y143::y144::y145::y146::y147::y148::y149::y150::y151::y152::y153::y154::y155::y156::y157::y158::y159::y160::y161::y162::y163::y164::y165::y166::y167::y168::y169::y170::y171::y172::y173::y174::y175::y176::y177::y178::y179::y180::y181::y182::y183::y184::y185::y186::y187::y188::y189::y190::y191::y192::y193::y194::y195::y196::y197::y198::y199::y200::y201::y202::y203::y204::y205::y206::y207::y208::y209::y210::y211::y212::y213::y214::y215::y216::y217::y218::y219::y220::y221::y222::y223::y224::y225::y226::y227::y228::y229::y230::y231::y232::y233::y234::y235::y236::y237::y238::y239::y240::y241::y242::y243::z244::z245::z246::z247::z248::z249::z250::z251::z252::z253::z254::z255::z256::z257::z258::z259::z260::z261::z262::z263::z264::z265::z266::z267::z268::z269::z270::z271::z272::z273::z274::z275::z276::z277::z278::z279::z280::z281::z282::z283::z284::z285::z286::z287::z288::z289::z290::z291::z292::z293::z294::z295::z296::z297::z298::z299::z300::z301::z302::z303::z304::z305::z306::z307::z308::z309::z310::z311::z312::z313::z314::z315::z316::z317::z318::z319::z320::z321::z322::z323::z324::z325::z326::z327::z328::z329::z330::z331::z332::z333::z334::z335::z336::z337::z338::z339::z340::z341::z342::z343::z344::z345::z346::z347::z348::z349::z350::z351::z352::z353::z354::z355::z356::z357::z358::z359::z360::z361::z362::z363::z364::z365::z366::z367::z368::z369::z370::z371::z372::z373::z374::z375::[]),[]⟩ w')) (hR2:Hid (∀ (y13 y14 y15 y20 y21 y22 y23 y24 y25 y26 y27 y28 y29 y30 y79 y80 y81 y82 y83 y84 y85 y86 y87 y88 y89 y90 y91 y92 y93 y94 y95 y96 y97 y98 y99 y100 y101 y102 y103 y104 y105 y106 y107 y108 y109 y110 y111 y112 y113 y114 y115 y116 y117 y118 y119 y120 y121 y122 y123 y124 y125 y126 y127 y128 y129 y130 y131 y132 y133 y134 y135 y136 y137 y138 y139 y140 y141 y142 y143 y144 y145 y146 y147 y148 y149 y150 y151 y152 y153 y154 y155 y156 y157 y158 y159 y160 y161 y162 y163 y164 y165 y166 y167 y168 y169 y170 y171 y172 y173 y174 y175 y176 y177 y178 y179 y180 y181 y182 y183 y184 y185 y186 y187 y188 y189 y190 y191 y192 y193 y194 y195 y196 y197 y198 y199 y200 y201 y202 y203 y204 y205 y206 y207 y208 y209 y210 y211 y212 y213 y214 y215 y216 y217 y218 y219 y220 y221 y222 y223 y224 y225 y226 y227 y228 y229 y230 y231 y232 y233 y234 y235 y236 y237 y238 y239 y240 y241 y242 y243:Value) (w':World),(∃ (h':Hl) (T' R':Nat→Prop) (tt':List TkV) (op':List (Opn PCall (PAns × Int))) (As':List Int) (Gs':List Pf),Hid (TgS w.heap.size w' T' R' ax h' (2 * (k+1)+4) y13 y14 y15 tt' op' As' Gs' gp∧GrSz op' As' Gs' (k+1))∧Below w.heap.size w w')→Q (.exit 1) ⟨List.toArray (z0::z1::z2::z3::ptrV ax::z5::z6::z7::z8::z9::z10::z11::.pointer (some ⟨gp,0,none⟩)::y13::y14::y15::.int .i64 (k:Int)::.pointer (some ⟨g5,0,none⟩)::.int .i64 (i:Int)::z19::y20::y21::y22::y23::y24::y25::y26::y27::y28::y29::y30::z31::z32::z33::z34::z35::z36::z37::z38::z39::z40::z41::z42::z43::z44::z45::z46::z47::z48::z49::z50::z51::z52::z53::z54::z55::z56::z57::z58::z59::z60::z61::z62::z63::z64::z65::z66::z67::z68::z69::z70::z71::z72::z73::z74::z75::z76::z77::z78::y79::y80::y81::y82::y83::y84::y85::y86::y87::y88::y89::y90::y91::y92::y93::y94::y95::y96::y97::y98::y99::y100::y101::y102::y103::y104::y105::y106::y107::y108::y109::y110::y111::y112::y113::y114::y115::y116::y117::y118::y119::y120::y121::y122::y123::y124::y125::y126::y127::y128::y129::y130::y131::y132::y133::y134::y135::y136::y137::y138::y139::y140::y141::y142::y143::y144::y145::y146::y147::y148::y149::y150::y151::y152::y153::y154::y155::y156::y157::y158::y159::y160::y161::y162::y163::y164::y165::y166::y167::y168::y169::y170::y171::y172::y173::y174::y175::y176::y177::y178::y179::y180::y181::y182::y183::y184::y185::y186::y187::y188::y189::y190::y191::y192::y193::y194::y195::y196::y197::y198::y199::y200::y201::y202::y203::y204::y205::y206::y207::y208::y209::y210::y211::y212::y213::y214::y215::y216::y217::y218::y219::y220::y221::y222::y223::y224::y225::y226::y227::y228::y229::y230::y231::y232::y233::y234::y235::y236::y237::y238::y239::y240::y241::y242::y243::z244::z245::z246::z247::z248::z249::z250::z251::z252::z253::z254::z255::z256::z257::z258::z259::z260::z261::z262::z263::z264::z265::z266::z267::z268::z269::z270::z271::z272::z273::z274::z275::z276::z277::z278::z279::z280::z281::z282::z283::z284::z285::z286::z287::z288::z289::z290::z291::z292::z293::z294::z295::z296::z297::z298::z299::z300::z301::z302::z303::z304::z305::z306::z307::z308::z309::z310::z311::z312::z313::z314::z315::z316::z317::z318::z319::z320::z321::z322::z323::z324::z325::z326::z327::z328::z329::z330::z331::z332::z333::z334::z335::z336::z337::z338::z339::z340::z341::z342::z343::z344::z345::z346::z347::z348::z349::z350::z351::z352::z353::z354::z355::z356::z357::z358::z359::z360::z361::z362::z363::z364::z365::z366::z367::z368::z369::z370::z371::z372::z373::z374::z375::[]),[]⟩ w')) (hlt1:k < l.length) (hlt2:k < 60) (HKS:Hid (HStpOk l[k])) (HLE:Hid (GrSz op As Gs k)) (HNT:Hid ((¬ T g5)∧∀ q,(R q∨(Value.slice Av tt.length cv).ownBlock=some q∨(Value.slice Aa As.length ca).ownBlock=some q∨(Value.slice Ag Gs.length cg).ownBlock=some q∨q=gp)→q < g5)) (HI:Hid (TgS w.heap.size w6 T R ax h (2 * k+4) (.slice Av tt.length cv) (.slice Aa As.length ca) (.slice Ag Gs.length cg) tt op As Gs gp)) (HB:Hid (Below w.heap.size w w6)) (HBK6:Hid (Blk w6 g5 35 #[.int .i64 l[k].what,txt l[k].who,.int .i64 l[k].n,.int .i64 l[k].call.what,txt l[k].call.name,.int .i64 l[k].call.pa,.int .i64 l[k].call.pn,.int .i64 l[k].call.len,.int .i64 l[k].call.ad,txt l[k].call.owner])) (hi:i < op.length) (hwho:op[i].who=l[k].who) (hw0:¬ l[k].what=0) (hw1:¬ l[k].what=1) (hw2:¬ l[k].what=2) (hw3:¬ l[k].what=3) (hw4:¬ l[k].what=4) (hw5:¬ l[k].what=5) :
  Code.wp Tryz.prog (cR (cR (cR (cL (cL (cR (cL (cL (cR (cL (cR (cR (cR (cR (cR (cR (cR (cR (cR (cR (cR (Tryz.f4.body.getD .skip)))))))))))))))))))))) Q ⟨List.toArray (z0::z1::z2::z3::ptrV ax::z5::z6::z7::z8::z9::z10::z11::.pointer (some ⟨gp,0,none⟩)::.slice Av tt.length cv::.slice Aa As.length ca::.slice Ag Gs.length cg::.int .i64 (k:Int)::.pointer (some ⟨g5,0,none⟩)::.int .i64 (i:Int)::z19::z20::z21::z22::z23::z24::z25::z26::z27::z28::z29::z30::z31::z32::z33::z34::z35::z36::z37::z38::z39::z40::z41::z42::z43::z44::z45::z46::z47::z48::z49::z50::z51::z52::z53::z54::z55::z56::z57::z58::z59::z60::z61::z62::z63::z64::z65::z66::z67::z68::z69::z70::z71::z72::z73::z74::z75::z76::z77::z78::z79::z80::z81::z82::z83::z84::z85::z86::z87::z88::z89::z90::z91::z92::z93::z94::z95::z96::z97::z98::z99::z100::z101::z102::z103::z104::z105::z106::z107::z108::z109::z110::z111::z112::z113::z114::z115::z116::z117::z118::z119::z120::z121::z122::z123::z124::z125::z126::z127::z128::z129::z130::z131::z132::z133::z134::z135::z136::z137::z138::z139::z140::z141::z142::z143::z144::z145::z146::z147::z148::z149::z150::z151::z152::z153::z154::z155::z156::z157::z158::z159::z160::z161::z162::z163::z164::z165::z166::z167::z168::z169::z170::z171::z172::z173::z174::z175::z176::z177::z178::z179::z180::z181::z182::z183::z184::z185::z186::z187::z188::z189::z190::z191::z192::z193::z194::z195::z196::z197::z198::z199::z200::z201::z202::z203::z204::z205::z206::z207::z208::z209::z210::z211::z212::z213::z214::z215::z216::z217::z218::z219::z220::z221::z222::z223::z224::z225::z226::z227::z228::z229::z230::z231::z232::z233::z234::z235::z236::z237::z238::z239::z240::z241::z242::z243::z244::z245::z246::z247::z248::z249::z250::z251::z252::z253::z254::z255::z256::z257::z258::z259::z260::z261::z262::z263::z264::z265::z266::z267::z268::z269::z270::z271::z272::z273::z274::z275::z276::z277::z278::z279::z280::z281::z282::z283::z284::z285::z286::z287::z288::z289::z290::z291::z292::z293::z294::z295::z296::z297::z298::z299::z300::z301::z302::z303::z304::z305::z306::z307::z308::z309::z310::z311::z312::z313::z314::z315::z316::z317::z318::z319::z320::z321::z322::z323::z324::z325::z326::z327::z328::z329::z330::z331::z332::z333::z334::z335::z336::z337::z338::z339::z340::z341::z342::z343::z344::z345::z346::z347::z348::z349::z350::z351::z352::z353::z354::z355::z356::z357::z358::z359::z360::z361::z362::z363::z364::z365::z366::z367::z368::z369::z370::z371::z372::z373::z374::z375::[]),[]⟩ w6:=by
 let QF:Exit→Act→World→Prop:=bodyPost Tryz.prog Tryz.f4 (fun _ _=>True)
 conv=>arg 2;whnf
 have x0:=HBK6.out.cell 0;have x1':=HBK6.out.cell 1;have x2':=HBK6.out.cell 2;have x7:=HBK6.out.cell 7
 simp at x0 x1' x2' x7
 have hi0:¬ ((i:Int) < 0):=by omega
 have HWHO:=Hd hwho
 clear hwho
 obtain ⟨gv,cv2,hvv,hgv,t,ht,htk,hcc,hfz⟩:=HI.out.rowO hi
 cases hvv
 obtain ⟨Ac,kc,At,kt,Ae,ke,hte⟩:=htk.formN
 generalize t.n=tn at hte
 subst hte
 obtain ⟨ox,hox⟩:∃ x,x=gO op[i]:=⟨_,rfl⟩
 rw [← hox] at ht htk hcc
 have HOX:=Hd hox
 have hit:i < tt.length:=by rw [HI.out.lo];exact hi
 have hI5:(i:Int) < (tt.length:Int):=by omega
 have HNV:=Hd (HI.out.m.no gv rfl)
 have y0:=hcc 0 _ rfl;have y1:=hcc 1 _ rfl;have y2:=hcc 2 _ rfl;have y3:=hcc 3 _ rfl;have y4:=hcc 4 _ rfl
 rw [Nat.add_zero] at y0
 have HTK:=Hd htk
 have HT:=Hd ht
 have HCC:=Hd hcc
 have HFZ:=Hd hfz
 have HRD:=Hd (show Rd w6 w6.heap.size (some ⟨gv,0,none⟩) (flatE encT tt) from Rd.of_own HI.out.m.ro)
 have HLO:=Hd HI.out.lo
 have h60:tt.length≤60:=by have:=HLE.out.lo;have:=HLO.out;omega
 have HIO:=Hd (And.intro hi trivial)
 have HIT:=Hd (And.intro hit trivial)
 have HGL:=Hd hgv
 have HBL:=Hd HB.out.size
 have HOL:=Hd (show ox.rs.length=ox.cs.length∧ox.cs.length≤60 from ⟨by rw [hox];exact gO_len _,by
  have h1:=HLE.out.cs _ (List.getElem_mem hi)
  have h2:=gO_le op[i]
  rw [hox];omega⟩)
 clear hcc hfz htk ht hox
 have x2:=((HBK6.out.below ((Below.refl w6.heap.size w6).alloc (Nat.le_refl _) (.cells #[.int .i64 7,.string ⟨#[120]⟩,.int .i64 0,.int .i64 26,.int .i64 0,.int .i64 0,.string ⟨#[111]⟩] 33)) HBK6.out.lt)).cell 2
 simp at x2
 have p0:=HI.out.g.pb.cell 0
 have p1:=HI.out.g.pb.cell 1
 simp at p0 p1
 have HLN0:=Hd (HI.out.q.lens (List.getElem_mem hi))
 have HGW:=Hd (show w.heap.size≤gv from (HI.out.m.no gv rfl).2.2)
 have HNL:=Hd HKS.out.call.w.len
 have HPB:=Hd HI.out.g.pb
 have hb70:=(Below.refl w6.heap.size w6).alloc (Nat.le_refl _) (.cells #[.int .i64 7,.string ⟨#[120]⟩,.int .i64 0,.int .i64 26,.int .i64 0,.int .i64 0,.string ⟨#[111]⟩] 33)
 have HB70:=Hd hb70
 have HB71:=Hd ((Below.refl w6.heap.size w6).alloc (Nat.le_refl _) (.cells #[.int .i64 6,.string ⟨#[120]⟩,.int .i64 0,.int .i64 26,.int .i64 l[k].call.len,.int .i64 0,.string ⟨#[111]⟩] 33))
 have HBX0:=Hd (Blk.new w6 33 #[.int .i64 7,.string ⟨#[120]⟩,.int .i64 0,.int .i64 26,.int .i64 0,.int .i64 0,.string ⟨#[111]⟩])
 have HBX1:=Hd (Blk.new w6 33 #[.int .i64 6,.string ⟨#[120]⟩,.int .i64 0,.int .i64 26,.int .i64 l[k].call.len,.int .i64 0,.string ⟨#[111]⟩])
 have x7':=(HBK6.out.below hb70 HBK6.out.lt).cell 7
 have p0':=(HPB.out.below hb70 HPB.out.lt).cell 0
 have p1':=(HPB.out.below hb70 HPB.out.lt).cell 1
 simp at p0' p1' x7'
 clear hb70 y0 y1 y2 y3 y4
 go_upto_if 117 with fail
 refine wp_name (fun w7 HW=>?_)
 clear x0 x1' x2' x7 p0 p1 x2
 go_cut [16,165,179,239] (fun iv s1 s2 s3 wx=>iv=.int .i64 k∧∃ wh ln:Int,(wh=7∧ln=0∨wh=6)∧(Lit.int .i64 ln).wf=true∧Hid (Blk wx w6.heap.size 33 #[.int .i64 wh,.string ⟨#[120]⟩,.int .i64 0,.int .i64 26,.int .i64 ln,.int .i64 0,.string ⟨#[111]⟩])∧Below w6.heap.size w6 wx)
 case first =>
  obtain rfl:=HW.out
  by_cases hev:Int.tmod l[k].n 2=0
  ·skip
   go_wp2
   go_meet
   exact ⟨rfl,6,l[k].call.len,.inr rfl,HNL.out,HBX1,HB71.out⟩
  ·skip
   have hev2:(IntKind.i64.wrap (Int.tmod l[k].n 2) == 0)=false:=by
    have h1:=Int.tmod_lt_of_pos l[k].n (show (0:Int) < 2 by decide)
    have h2:-2 < Int.tmod l[k].n 2:=Int.lt_tmod_of_pos l[k].n (show (0:Int) < 2 by decide)
    rw [IntWalk.i64_in _ (by omega)]
    simpa using hev
   go_wp2
   go_meet
   exact ⟨rfl,7,0,.inl ⟨rfl,rfl⟩,by decide,HBX0,HB70.out⟩
 case rest =>
  clear hw0 hw1 hw2 hw3 hw4 hw5
  obtain ⟨rfl,wh,ln,hwl,hlw,HBX8,hb8⟩:=hcut
  have HCG:=Hd (gcallG hwl)
  have HCWc:=Hd (gcallW hwl hlw)
  have HI8:=Hd (HI.out.bel hb8)
  have HB8:=Hd (HB.out.trans (hb8.mono HB.out.size))
  have HBK8:=Hd (HBK6.out.below hb8 HBK6.out.lt)
  have HTK8:=Hd ((HTK.out.bel hb8).as HWHO.out)
  have HNT8:=Hd (show ¬ T w6.heap.size∧w.heap.size≤w6.heap.size from ⟨fun e=>Nat.lt_irrefl _ (HI.out.x.lt _ e),HBL.out⟩)
  have HG0:=Hd HBX8.out.lt
  obtain ⟨gc,hgc⟩:∃ g,g=w6.heap.size:=⟨_,rfl⟩
  rw [← hgc] at HBX8 HNT8 HG0 ⊢
  have HN6:=Hd (show ∀ q,(R q∨(Value.slice Aa As.length ca).ownBlock=some q∨(Value.slice Ag Gs.length cg).ownBlock=some q∨q=gp)→q < wc.heap.size from fun q e=>by
   have:=hb8.size
   rcases e with e | e
   ·exact Nat.lt_of_lt_of_le (HI.out.m.rlt q e) this
   ·exact Nat.lt_of_lt_of_le (HI.out.g.lt q e) this)
  have HGV8:=Hd (show gv < wc.heap.size from Nat.lt_of_lt_of_le HGL.out hb8.size)
  have HC:=HI8.out.x.ask_h (by omega) l[k].who HKS.out.who (⟨wh,xN,0,26,ln,0,oN⟩:PCall) HCWc.out
  have hq:=HI8.out.q.ask HIO.out.1 HCG.out
  rw [HWHO.out] at hq
  have HQ:=Hd hq
  unfold CallV AnsV at HC
  dsimp only at HC
  have HC:=Hd HC
  have x1:=HBK8.out.cell 1
  obtain ⟨q0,q1,q2,q3,q4,q5,q6⟩:=HBX8.out.cls7
  simp at x1 q0 q1 q2 q3 q4 q5 q6
  clear HW hq hb8 hgc HI HB HBK6 HTK HB70 HB71 HBX0 HBX1 HNV HRD HFZ HCC x7' p0' p1' HPB
  go_wp2_with fail
  refine HC.out.mono ?_
  rintro e w9 ⟨v7,rfl,how7,T7,hnt7,hs7⟩
  obtain ⟨A7,c7,rfl,_⟩:=how7.form
  clear HC
  generalize hga:(h.ask l[k].who (⟨wh,xN,0,26,ln,0,oN⟩:PCall)).1=an at *
  generalize hgf:(h.ask l[k].who (⟨wh,xN,0,26,ln,0,oN⟩:PCall)).2.1=fa at *
  generalize hgh:(h.ask l[k].who (⟨wh,xN,0,26,ln,0,oN⟩:PCall)).2.2=hh at *
  have hb8:=(Below.refl w9.heap.size w9).alloc (Nat.le_refl _) (.cells #[.int .i64 an.pa,.int .i64 an.pn,.int .i64 an.ad,txt an.owner,.slice A7 an.list.length c7] 46)
  have hbx:=Blk.new w9 46 #[.int .i64 an.pa,.int .i64 an.pn,.int .i64 an.ad,txt an.owner,.slice A7 an.list.length c7]
  go_upto_region 29 with fail
  refine wp_name (fun w8 HW=>?_)
  replace hb8:Below w9.heap.size w9 w8:=by rw [HW.out];exact hb8
  replace hbx:Blk w8 w9.heap.size 46 #[.int .i64 an.pa,.int .i64 an.pn,.int .i64 an.ad,txt an.owner,.slice A7 an.list.length c7]:=by rw [HW.out];exact hbx
  have HM9:=Hd ((HI8.out.m.step hs7).bel hb8)
  have HS9:=Hd ((HI8.out.g.step hs7).bel hb8)
  have HX9:=Hd (hs7.hk.bel hb8)
  have HTK9:=Hd ((HTK8.out.fr hs7.fr (fun q e=>(HI8.out.m.sep q e).1)).bel hb8)
  have HBX9:=Hd hbx
  have HBC9:=Hd ((HBX8.out.fr hs7.fr HNT8.out.1).below hb8 (Nat.lt_of_lt_of_le HBX8.out.lt hs7.size))
  have HOP9:=Hd (show OwnP w8 0 31 (.slice A7 an.list.length c7) an.list from own_of_base (how7.below hb8) (Nat.zero_le _))
  have HU9:=Hd (show ∀ q,(Value.slice A7 an.list.length c7).ownBlock=some q→¬ T7 q∧w.heap.size≤q∧gv≠q∧(Value.slice Aa As.length ca).ownBlock≠some q∧(Value.slice Ag Gs.length cg).ownBlock≠some q∧q≠gp from fun q e=>by
   have h1:=World.ownsRow.lt how7 q e
   have h2:=HGV8.out
   have h3:=HB8.out.size
   exact ⟨hnt7 q e,by omega,by omega,fun e2=>by have:=HN6.out q (.inr (.inl e2));omega,fun e2=>by have:=HN6.out q (.inr (.inr (.inl e2)));omega,fun e2=>by have:=HN6.out q (.inr (.inr (.inr e2)));omega⟩)
  have HB9:=Hd (HB8.out.trans ((hs7.belB HI8.out.x.lo).trans (hb8.mono (Nat.le_trans HB8.out.size hs7.size))))
  have HGB:=Hd (show gv < w8.heap.size from Nat.lt_of_lt_of_le HGV8.out (Nat.le_trans hs7.size hb8.size))
  have HLT7:=Hd hbx.lt
  have HBL9:=Hd HB8.out.size
  clear HW hb8 hbx how7 hnt7 hs7 HTK8 HI8 HB8 x1 q0 q1 q2 q3 q4 q5 q6 HBX8 HNT8 HN6 HGV8 HG0
  by_cases hf:fa≠0
  ·skip
   have HFV:=Hd (fault_num hf)
   have HFIN:=Hd (show TgS w.heap.size w8 T7 R ax hh (2 * k+4) (.slice (some ⟨gv,0,none⟩) tt.length cv) (.slice Aa As.length ca) (.slice Ag Gs.length cg) tt (op.set i ⟨l[k].who,op[i].id,op[i].cs++[(⟨wh,xN,0,26,ln,0,oN⟩:PCall)],op[i].rs++[(an,fa)]⟩) As Gs gp from
    ⟨HX9.out.more (by omega),HQ.out,by rw [set_no HIO.out.1 HWHO.out HLN0.out hf];exact HM9.out,HS9.out⟩)
   rw [HFV.out]
   clear hf HQ HX9 HM9 HS9 HTK9 HBX9 HBC9 HOP9 HU9
   go_wp2
   first | exact hR1.out _ _ _ _ _ _ _ _ _ _ _ _ _ _ _ _ _ _ _ _ _ _ _ _ _ _ _ _ _ _ _ _ _ _ _ _ _ _ _ _ _ _ _ _ _ _ _ _ _ _ _ _ _ _ _ _ _ _ _ _ _ _ _ _ _ _ _ _ _ _ _ _ _ _ _ _ _ _ _ _ _ _ _ _ _ _ _ _ _ _ _ _ _ _ _ _ _ _ _ _ _ _ _ _ _ _ _ _ _ _ _ _ _ _ _ _ _ _ _ _ _ _ _ _ _ _ _ _ _ _ _ _ _ _ _ _ _ _ _ _ _ _ _ _ _ _ _ _ _ _ _ _ _ _ _ _ _ _ _ _ _ _ _ _ _ _ _ _ _ _ _ _ _ _ _ _ _ _ _ _ ⟨_,_,_,_,_,_,_,Hd ⟨HFIN.out.more (by omega),HLE.out.ask HIO.out.1 _ _ _ _⟩,HB9.out⟩ | exact hR2.out _ _ _ _ _ _ _ _ _ _ _ _ _ _ _ _ _ _ _ _ _ _ _ _ _ _ _ _ _ _ _ _ _ _ _ _ _ _ _ _ _ _ _ _ _ _ _ _ _ _ _ _ _ _ _ _ _ _ _ _ _ _ _ _ _ _ _ _ _ _ _ _ _ _ _ _ _ _ _ _ _ _ _ _ _ _ _ _ _ _ _ _ _ _ _ _ _ _ _ _ _ _ _ _ _ _ _ _ _ _ _ _ _ _ _ _ _ _ _ _ _ _ _ _ _ _ _ _ _ _ _ _ _ _ _ _ _ _ _ _ _ _ _ _ _ _ _ _ _ _ _ _ _ _ _ _ _ _ _ _ _ _ _ _ _ _ _ _ _ _ _ _ _ _ _ _ _ _ _ _ ⟨_,_,_,_,_,_,_,Hd ⟨HFIN.out.more (by omega),HLE.out.ask HIO.out.1 _ _ _ _⟩,HB9.out⟩
  ·skip
   obtain rfl:fa=0:=Classical.byContradiction hf
   rw [show faultV 0=.nilIface from rfl]
   have HY:=Hd (set_yes (c:=(⟨wh,xN,0,26,ln,0,oN⟩:PCall)) (r:=(an,0)) HIO.out.1 HWHO.out HLN0.out rfl)
   rw [← HOX.out] at HY
   have HQ2:=Hd HQ.out
   clear HQ hf
   obtain ⟨g',c',hgc,_,t',ht',htk',hcc,hfz⟩:=HM9.out.rowI (i:=i) (by rw [List.length_map];exact HIO.out.1)
   cases hgc
   have hte:t'=⟨op[i].who,tn,.slice Ac ox.cs.length kc,.slice At ox.cs.length kt,.slice Ae 0 ke⟩:=by
    have:=HT.out
    rw [ht'] at this
    exact Option.some.inj this
   subst hte
   have HCC:=Hd hcc
   have HFZ:=Hd hfz
   clear hcc hfz htk' ht'
   have y2:=HCC.out 2 _ rfl
   have HRC:=Hd (show Rd w8 w8.heap.size Ac (flatE encCl ox.cs) from by
    obtain ⟨A,c,e,r⟩:=own_form HTK9.out.calls.1
    injection e with e
    subst e
    exact r)
   obtain ⟨us,hus1,hus2,hus3,hus4⟩:AnssAt w8 R (.slice At ox.cs.length kt) (ox.rs.map Prod.fst):=HTK9.out.told
   have HUS:=Hd (show us.length=ox.rs.length by rw [hus1];simp)
   have HUS4:=Hd hus4
   have HRT:=Hd (show Rd w8 w8.heap.size At (flatE encAn ((ox.rs.map Prod.fst).zip us)) from by
    obtain ⟨A,c,e,r⟩:=own_form hus2
    injection e with e
    subst e
    exact r)
   have hco:ox.cs.length≤60:=HOL.out.2
   have HL1:=Hd (show (flatE encCl ox.cs).length=ox.cs.length * 7 from flatE_length flatCl_len _)
   have HL2:=Hd (show (flatE encAn ((ox.rs.map Prod.fst).zip us)).length=ox.cs.length * 5 by rw [flatE_length flatAn_len,List.length_zip,List.length_map,HUS.out,HOL.out.1,Nat.min_self])
   have HO1:=Hd (show ∀ u ∈ flatE encCl ox.cs,u.oneCell'=true from one_calls' _)
   have HO2:=Hd (show ∀ u ∈ flatE encAn ((ox.rs.map Prod.fst).zip us),u.oneCell'=true from one_anss hus1.symm (fun i hi=>by obtain ⟨u,a,b,_⟩:=hus4 i hi;obtain ⟨A,c,e,_⟩:=b.form;exact ⟨u,a,by rw [e];rfl⟩))
   obtain ⟨FL,hFL⟩:∃ F,F=flatE encCl ox.cs:=⟨_,rfl⟩
   obtain ⟨FA,hFA⟩:∃ F,F=flatE encAn ((ox.rs.map Prod.fst).zip us):=⟨_,rfl⟩
   rw [← hFL] at HRC HL1 HO1
   rw [← hFA] at HRT HL2 HO2
   have HFF:=Hd (And.intro hFL hFA)
   obtain ⟨nc,hnc⟩:∃ n,n=ox.cs.length:=⟨_,rfl⟩
   rw [← hnc] at hco HL1 HL2 HCC y2 HT HTK9
   have HNC:=Hd hnc
   have hln:nc < 1000000000:=by omega
   clear hus1 hus2 hus3 hus4 hFL hFA hnc
   go_upto_region 32 with (at_builtin;go_must (refine wpList_append_rd rfl _ _ 36 rfl 33 Tryz.underlying36 _ 7 72 infoCl rfl (by decide) w8.heap.size (.slice none 0 0) 0 [] rfl (World.ownsRow_nil _ _ _ _) w8.heap.size Ac nc kc FL rfl HL1.out HRC.out HO1.out (by unfold maxLen;omega) (by omega) (Nat.le_refl _) ?_);intro v9 w9 hown9 hb9)
   rw [Nat.zero_add,List.nil_append] at hown9
   obtain ⟨A9,c9,rfl,_⟩:=own_form hown9
   have HO9:=Hd hown9
   have HBb9:=Hd hb9
   have hle9:=hb9.size
   have hbk:=HBC9.out.below hb9 HBC9.out.lt
   obtain ⟨q0,q1,q2,q3,q4,q5,q6⟩:=hbk.cls7
   simp at q0 q1 q2 q3 q4 q5 q6
   have hone:∀ u ∈ (#[.int .i64 wh,.string ⟨#[120]⟩,.int .i64 0,.int .i64 26,.int .i64 ln,.int .i64 0,.string ⟨#[111]⟩]:Array Value).toList,u.oneCell'=true:=by intro u hu;simp at hu;rcases hu with rfl | rfl | rfl | rfl | rfl | rfl | rfl <;> rfl
   clear hown9 hb9 hbk y2
   go_upto_region 33 with (at_builtin;go_must (refine wpList_append_elt (w1:=w9) rfl _ _ 36 rfl 33 Tryz.underlying36 _ 7 72 infoCl rfl (by decide) (by decide) w8.heap.size (.slice A9 nc c9) nc FL rfl HO9.out #[.int .i64 wh,.string ⟨#[120]⟩,.int .i64 0,.int .i64 26,.int .i64 ln,.int .i64 0,.string ⟨#[111]⟩] rfl hone rfl hln hle9 ?_);intro v10 w10 hown10 hg10 hat10)
   obtain ⟨A10,c10,rfl,_⟩:=own_form hown10
   have HB10:=Hd (HBb9.out.grown hg10 hle9 (fun q e=>(World.ownsRow.lt HO9.out q e).1))
   have HO10:=Hd hown10
   have hle10:=HB10.out.size
   clear hown10 hg10 hat10 HO9 HBb9 hle9 q0 q1 q2 q3 q4 q5 q6 hone
   have y3:=(HB10.out.cell (p:=⟨gv,i * 5+3,none⟩) HGB.out).trans (HCC.out 3 _ rfl)
   have HRT10:=Hd (HRT.out.below HB10.out)
   clear HRT
   go_upto_region 35 with (at_builtin;go_must (refine wpList_append_rd rfl _ _ 37 rfl 46 Tryz.underlying37 _ 5 64 infoAn rfl (by decide) w10.heap.size (.slice none 0 0) 0 [] rfl (World.ownsRow_nil _ _ _ _) w8.heap.size At nc kt FA rfl HL2.out HRT10.out HO2.out (by unfold maxLen;omega) (by omega) (Nat.le_refl _) ?_);intro v11 w11 hown11 hb11)
   rw [Nat.zero_add,List.nil_append] at hown11
   obtain ⟨A11,c11,rfl,_⟩:=own_form hown11
   have HO11:=Hd hown11
   have HB11:=Hd hb11
   have hle11:=hb11.size
   have hbk:=(HBX9.out.below HB10.out HLT7.out).below hb11 (by have:=HLT7.out;omega)
   obtain ⟨a0,a1,a2,a3,a4⟩:=hbk.cls5
   simp at a0 a1 a2 a3 a4
   have hone:∀ u ∈ (#[.int .i64 an.pa,.int .i64 an.pn,.int .i64 an.ad,txt an.owner,.slice A7 an.list.length c7]:Array Value).toList,u.oneCell'=true:=by intro u hu;simp at hu;rcases hu with rfl | rfl | rfl | rfl | rfl <;> rfl
   clear hown11 hb11 hbk y3
   have HDN:=Hd (show ∀ v' w',w'.ownsRow w10.heap.size 46 5 v' (nc+1) (FA++(#[.int .i64 an.pa,.int .i64 an.pn,.int .i64 an.ad,txt an.owner,.slice A7 an.list.length c7]:Array Value).toList)→w11.grownBy w' (Value.slice A11 nc c11).ownBlock →
     Below w8.heap.size w8 w'∧∃ R',TgS w.heap.size ((w'.setCell ⟨gv,i * 5+2,none⟩ (.slice A10 (nc+1) c10)).setCell ⟨gv,i * 5+3,none⟩ v') T7 R' ax hh (2 * k+4) (.slice (some ⟨gv,0,none⟩) tt.length cv) (.slice Aa As.length ca) (.slice Ag Gs.length cg) (tt.set i ⟨op[i].who,tn,.slice A10 (nc+1) c10,v',.slice Ae 0 ke⟩) (op.set i ⟨l[k].who,op[i].id,op[i].cs++[(⟨wh,xN,0,26,ln,0,oN⟩:PCall)],op[i].rs++[(an,0)]⟩) As Gs gp∧Fr (fun q=>q=gv) w' ((w'.setCell ⟨gv,i * 5+2,none⟩ (.slice A10 (nc+1) c10)).setCell ⟨gv,i * 5+3,none⟩ v') from fun v' w' h1 h2=>by
    have hb':=HB11.out.grown h2 hle11 (fun q e=>(World.ownsRow.lt HO11.out q e).1)
    have hb8':=HB10.out.trans (hb'.mono hle10)
    refine ⟨hb8',?_⟩
    have h1':=own_of_base h1 hle10
    have h0':=own_below HO10.out hb'
    rw [HFF.out.2,HNC.out] at h1'
    rw [HFF.out.1,HNC.out] at h0'
    rw [HNC.out]
    have HT':=HT.out
    have HTK':=HTK9.out
    rw [HNC.out] at HT' HTK'
    exact TgS.told (HX9.out.more (by omega)) HQ2.out HM9.out HS9.out HB9.out.size HIT.out.1 HT' HTK' HCWc.out (r:=(an,0)) HOP9.out HU9.out HUS.out HUS4.out hb8' h0' h1' HY.out)
   clear HRC HL1 HO1
   go_upto_region 36 with (at_builtin;go_must (refine wpList_append_elt (w1:=w11) rfl _ _ 37 rfl 46 Tryz.underlying37 _ 5 64 infoAn rfl (by decide) (by decide) w10.heap.size (.slice A11 nc c11) nc FA rfl HO11.out #[.int .i64 an.pa,.int .i64 an.pn,.int .i64 an.ad,txt an.owner,.slice A7 an.list.length c7] rfl hone rfl hln hle11 ?_);intro v12 w12 hown12 hg12 hat12)
   obtain ⟨hb12,R',hM,hF⟩:=HDN.out v12 w12 hown12 hg12
   obtain ⟨A12,c12,rfl,_⟩:=own_form hown12
   have y0:=(hb12.cell (p:=⟨gv,i * 5+2,none⟩) HGB.out).trans (HCC.out 2 _ rfl)
   have y1:=(hb12.cell (p:=⟨gv,i * 5+3,none⟩) HGB.out).trans (HCC.out 3 _ rfl)
   have u0:=((Fr.of_below (S:=fun _=>False) hb12).frozen (p:=⟨gv,i * 5+2,none⟩) HGB.out (fun q=>q)).trans (HFZ.out (i * 5+2))
   have u1:=((Fr.of_below (S:=fun _=>False) hb12).frozen (p:=⟨gv,i * 5+3,none⟩) HGB.out (fun q=>q)).trans (HFZ.out (i * 5+3))
   have HM:=Hd (And.intro hM (HLE.out.ask HIO.out.1 l[k].who op[i].id (⟨wh,xN,0,26,ln,0,oN⟩:PCall) (op[i].rs++[(an,0)])))
   have HBF:=Hd (HB9.out.trans ((hb12.mono HB9.out.size).trans (hF.below (Nat.le_trans HB9.out.size hb12.size) (fun q e=>by subst e;exact HGW.out))))
   have hit:i < tt.length:=HIT.out.1
   clear hM hF hb12 hown12 hg12 hat12 HX9 HM9 HTK9 HBX9 HBC9 HOP9 HU9 HB9 HDN HS9 HQ2 HY a0 a1 a2 a3 a4 hone HO10 HB10 HO11 HB11 hle10 hle11
   go_wp2
   first | exact hR1.out _ _ _ _ _ _ _ _ _ _ _ _ _ _ _ _ _ _ _ _ _ _ _ _ _ _ _ _ _ _ _ _ _ _ _ _ _ _ _ _ _ _ _ _ _ _ _ _ _ _ _ _ _ _ _ _ _ _ _ _ _ _ _ _ _ _ _ _ _ _ _ _ _ _ _ _ _ _ _ _ _ _ _ _ _ _ _ _ _ _ _ _ _ _ _ _ _ _ _ _ _ _ _ _ _ _ _ _ _ _ _ _ _ _ _ _ _ _ _ _ _ _ _ _ _ _ _ _ _ _ _ _ _ _ _ _ _ _ _ _ _ _ _ _ _ _ _ _ _ _ _ _ _ _ _ _ _ _ _ _ _ _ _ _ _ _ _ _ _ _ _ _ _ _ _ _ _ _ _ _ ⟨_,_,_,_,_,_,_,Hd ⟨HM.out.1.more (by omega),HM.out.2⟩,HBF.out⟩ | exact hR2.out _ _ _ _ _ _ _ _ _ _ _ _ _ _ _ _ _ _ _ _ _ _ _ _ _ _ _ _ _ _ _ _ _ _ _ _ _ _ _ _ _ _ _ _ _ _ _ _ _ _ _ _ _ _ _ _ _ _ _ _ _ _ _ _ _ _ _ _ _ _ _ _ _ _ _ _ _ _ _ _ _ _ _ _ _ _ _ _ _ _ _ _ _ _ _ _ _ _ _ _ _ _ _ _ _ _ _ _ _ _ _ _ _ _ _ _ _ _ _ _ _ _ _ _ _ _ _ _ _ _ _ _ _ _ _ _ _ _ _ _ _ _ _ _ _ _ _ _ _ _ _ _ _ _ _ _ _ _ _ _ _ _ _ _ _ _ _ _ _ _ _ _ _ _ _ _ _ _ _ _ ⟨_,_,_,_,_,_,_,Hd ⟨HM.out.1.more (by omega),HM.out.2⟩,HBF.out⟩
theorem tg_turn {l:List HStp} {k:Nat} {w w6:World} {ax g5 gp:Nat} {h:Hl} {T R:Nat→Prop} {tt:List TkV} {op:List (Opn PCall (PAns × Int))} {As:List Int} {Gs:List Pf} {Av Aa Ag:Option Addr} {cv ca cg:Nat} {kv:Int}  {z0 z1 z2 z3 z5 z6 z7 z8 z9 z10 z11 z19 z20 z21 z22 z23 z24 z25 z26 z27 z28 z29 z30 z31 z32 z33 z34 z35 z36 z37 z38 z39 z40 z41 z42 z43 z44 z45 z46 z47 z48 z49 z50 z51 z52 z53 z54 z55 z56 z57 z58 z59 z60 z61 z62 z63 z64 z65 z66 z67 z68 z69 z70 z71 z72 z73 z74 z75 z76 z77 z78 z79 z80 z81 z82 z83 z84 z85 z86 z87 z88 z89 z90 z91 z92 z93 z94 z95 z96 z97 z98 z99 z100 z101 z102 z103 z104 z105 z106 z107 z108 z109 z110 z111 z112 z113 z114 z115 z116 z117 z118 z119 z120 z121 z122 z123 z124 z125 z126 z127 z128 z129 z130 z131 z132 z133 z134 z135 z136 z137 z138 z139 z140 z141 z142 z143 z144 z145 z146 z147 z148 z149 z150 z151 z152 z153 z154 z155 z156 z157 z158 z159 z160 z161 z162 z163 z164 z165 z166 z167 z168 z169 z170 z171 z172 z173 z174 z175 z176 z177 z178 z179 z180 z181 z182 z183 z184 z185 z186 z187 z188 z189 z190 z191 z192 z193 z194 z195 z196 z197 z198 z199 z200 z201 z202 z203 z204 z205 z206 z207 z208 z209 z210 z211 z212 z213 z214 z215 z216 z217 z218 z219 z220 z221 z222 z223 z224 z225 z226 z227 z228 z229 z230 z231 z232 z233 z234 z235 z236 z237 z238 z239 z240 z241 z242 z243 z244 z245 z246 z247 z248 z249 z250 z251 z252 z253 z254 z255 z256 z257 z258 z259 z260 z261 z262 z263 z264 z265 z266 z267 z268 z269 z270 z271 z272 z273 z274 z275 z276 z277 z278 z279 z280 z281 z282 z283 z284 z285 z286 z287 z288 z289 z290 z291 z292 z293 z294 z295 z296 z297 z298 z299 z300 z301 z302 z303 z304 z305 z306 z307 z308 z309 z310 z311 z312 z313 z314 z315 z316 z317 z318 z319 z320 z321 z322 z323 z324 z325 z326 z327 z328 z329 z330 z331 z332 z333 z334 z335 z336 z337 z338 z339 z340 z341 z342 z343 z344 z345 z346 z347 z348 z349 z350 z351 z352 z353 z354 z355 z356 z357 z358 z359 z360 z361 z362 z363 z364 z365 z366 z367 z368 z369 z370 z371 z372 z373 z374 z375:Value} {Q:Exit→Act→World→Prop} (hR1:Hid (∀ (y13 y14 y15 y20 y21 y22 y23 y24 y25 y26 y27 y28 y29 y30 y79 y80 y81 y82 y83 y84 y85 y86 y87 y88 y89 y90 y91 y92 y93 y94 y95 y96 y97 y98 y99 y100 y101 y102 y103 y104 y105 y106 y107 y108 y109 y110 y111 y112 y113 y114 y115 y116 y117 y118 y119 y120 y121 y122 y123 y124 y125 y126 y127 y128 y129 y130 y131 y132 y133 y134 y135 y136 y137 y138 y139 y140 y141 y142 y143 y144 y145 y146 y147 y148 y149 y150 y151 y152 y153 y154 y155 y156 y157 y158 y159 y160 y161 y162 y163 y164 y165 y166 y167 y168 y169 y170 y171 y172 y173 y174 y175 y176 y177 y178 y179 y180 y181 y182 y183 y184 y185 y186 y187 y188 y189 y190 y191 y192 y193 y194 y195 y196 y197 y198 y199 y200 y201 y202 y203 y204 y205 y206 y207 y208 y209 y210 y211 y212 y213 y214 y215 y216 y217 y218 y219 y220 y221 y222 y223 y224 y225 y226 y227 y228 y229 y230 y231 y232 y233 y234 y235 y236 y237 y238 y239 y240 y241 y242 y243:Value) (w':World),(∃ (h':Hl) (T' R':Nat→Prop) (tt':List TkV) (op':List (Opn PCall (PAns × Int))) (As':List Int) (Gs':List Pf),Hid (TgS w.heap.size w' T' R' ax h' (2 * (k+1)+4) y13 y14 y15 tt' op' As' Gs' gp∧GrSz op' As' Gs' (k+1))∧Below w.heap.size w w')→Q .normal ⟨List.toArray (z0::z1::z2::z3::ptrV ax::z5::z6::z7::z8::z9::z10::z11::.pointer (some ⟨gp,0,none⟩)::y13::y14::y15::.int .i64 (k:Int)::.pointer (some ⟨g5,0,none⟩)::.int .i64 kv::z19::y20::y21::y22::y23::y24::y25::y26::y27::y28::y29::y30::z31::z32::z33::z34::z35::z36::z37::z38::z39::z40::z41::z42::z43::z44::z45::z46::z47::z48::z49::z50::z51::z52::z53::z54::z55::z56::z57::z58::z59::z60::z61::z62::z63::z64::z65::z66::z67::z68::z69::z70::z71::z72::z73::z74::z75::z76::z77::z78::y79::y80::y81::y82::y83::y84::y85::y86::y87::y88::y89::y90::y91::y92::y93::y94::y95::y96::y97::y98::y99::y100::y101::y102::y103::y104::y105::y106::y107::y108::y109::y110::y111::y112::y113::y114::y115::y116::y117::y118::y119::y120::y121::y122::y123::y124::y125::y126::y127::y128::y129::y130::y131::y132::y133::y134::y135::y136::y137::y138::y139::y140::y141::y142::y143::y144::y145::y146::y147::y148::y149::y150::y151::y152::y153::y154::y155::y156::y157::y158::y159::y160::y161::y162::y163::y164::y165::y166::y167::y168::y169::y170::y171::y172::y173::y174::y175::y176::y177::y178::y179::y180::y181::y182::y183::y184::y185::y186::y187::y188::y189::y190::y191::y192::y193::y194::y195::y196::y197::y198::y199::y200::y201::y202::y203::y204::y205::y206::y207::y208::y209::y210::y211::y212::y213::y214::y215::y216::y217::y218::y219::y220::y221::y222::y223::y224::y225::y226::y227::y228::y229::y230::y231::y232::y233::y234::y235::y236::y237::y238::y239::y240::y241::y242::y243::z244::z245::z246::z247::z248::z249::z250::z251::z252::z253::z254::z255::z256::z257::z258::z259::z260::z261::z262::z263::z264::z265::z266::z267::z268::z269::z270::z271::z272::z273::z274::z275::z276::z277::z278::z279::z280::z281::z282::z283::z284::z285::z286::z287::z288::z289::z290::z291::z292::z293::z294::z295::z296::z297::z298::z299::z300::z301::z302::z303::z304::z305::z306::z307::z308::z309::z310::z311::z312::z313::z314::z315::z316::z317::z318::z319::z320::z321::z322::z323::z324::z325::z326::z327::z328::z329::z330::z331::z332::z333::z334::z335::z336::z337::z338::z339::z340::z341::z342::z343::z344::z345::z346::z347::z348::z349::z350::z351::z352::z353::z354::z355::z356::z357::z358::z359::z360::z361::z362::z363::z364::z365::z366::z367::z368::z369::z370::z371::z372::z373::z374::z375::[]),[]⟩ w')) (hR2:Hid (∀ (y13 y14 y15 y20 y21 y22 y23 y24 y25 y26 y27 y28 y29 y30 y79 y80 y81 y82 y83 y84 y85 y86 y87 y88 y89 y90 y91 y92 y93 y94 y95 y96 y97 y98 y99 y100 y101 y102 y103 y104 y105 y106 y107 y108 y109 y110 y111 y112 y113 y114 y115 y116 y117 y118 y119 y120 y121 y122 y123 y124 y125 y126 y127 y128 y129 y130 y131 y132 y133 y134 y135 y136 y137 y138 y139 y140 y141 y142 y143 y144 y145 y146 y147 y148 y149 y150 y151 y152 y153 y154 y155 y156 y157 y158 y159 y160 y161 y162 y163 y164 y165 y166 y167 y168 y169 y170 y171 y172 y173 y174 y175 y176 y177 y178 y179 y180 y181 y182 y183 y184 y185 y186 y187 y188 y189 y190 y191 y192 y193 y194 y195 y196 y197 y198 y199 y200 y201 y202 y203 y204 y205 y206 y207 y208 y209 y210 y211 y212 y213 y214 y215 y216 y217 y218 y219 y220 y221 y222 y223 y224 y225 y226 y227 y228 y229 y230 y231 y232 y233 y234 y235 y236 y237 y238 y239 y240 y241 y242 y243:Value) (w':World),(∃ (h':Hl) (T' R':Nat→Prop) (tt':List TkV) (op':List (Opn PCall (PAns × Int))) (As':List Int) (Gs':List Pf),Hid (TgS w.heap.size w' T' R' ax h' (2 * (k+1)+4) y13 y14 y15 tt' op' As' Gs' gp∧GrSz op' As' Gs' (k+1))∧Below w.heap.size w w')→Q (.exit 1) ⟨List.toArray (z0::z1::z2::z3::ptrV ax::z5::z6::z7::z8::z9::z10::z11::.pointer (some ⟨gp,0,none⟩)::y13::y14::y15::.int .i64 (k:Int)::.pointer (some ⟨g5,0,none⟩)::.int .i64 kv::z19::y20::y21::y22::y23::y24::y25::y26::y27::y28::y29::y30::z31::z32::z33::z34::z35::z36::z37::z38::z39::z40::z41::z42::z43::z44::z45::z46::z47::z48::z49::z50::z51::z52::z53::z54::z55::z56::z57::z58::z59::z60::z61::z62::z63::z64::z65::z66::z67::z68::z69::z70::z71::z72::z73::z74::z75::z76::z77::z78::y79::y80::y81::y82::y83::y84::y85::y86::y87::y88::y89::y90::y91::y92::y93::y94::y95::y96::y97::y98::y99::y100::y101::y102::y103::y104::y105::y106::y107::y108::y109::y110::y111::y112::y113::y114::y115::y116::y117::y118::y119::y120::y121::y122::y123::y124::y125::y126::y127::y128::y129::y130::y131::y132::y133::y134::y135::y136::y137::y138::y139::y140::y141::y142::y143::y144::y145::y146::y147::y148::y149::y150::y151::y152::y153::y154::y155::y156::y157::y158::y159::y160::y161::y162::y163::y164::y165::y166::y167::y168::y169::y170::y171::y172::y173::y174::y175::y176::y177::y178::y179::y180::y181::y182::y183::y184::y185::y186::y187::y188::y189::y190::y191::y192::y193::y194::y195::y196::y197::y198::y199::y200::y201::y202::y203::y204::y205::y206::y207::y208::y209::y210::y211::y212::y213::y214::y215::y216::y217::y218::y219::y220::y221::y222::y223::y224::y225::y226::y227::y228::y229::y230::y231::y232::y233::y234::y235::y236::y237::y238::y239::y240::y241::y242::y243::z244::z245::z246::z247::z248::z249::z250::z251::z252::z253::z254::z255::z256::z257::z258::z259::z260::z261::z262::z263::z264::z265::z266::z267::z268::z269::z270::z271::z272::z273::z274::z275::z276::z277::z278::z279::z280::z281::z282::z283::z284::z285::z286::z287::z288::z289::z290::z291::z292::z293::z294::z295::z296::z297::z298::z299::z300::z301::z302::z303::z304::z305::z306::z307::z308::z309::z310::z311::z312::z313::z314::z315::z316::z317::z318::z319::z320::z321::z322::z323::z324::z325::z326::z327::z328::z329::z330::z331::z332::z333::z334::z335::z336::z337::z338::z339::z340::z341::z342::z343::z344::z345::z346::z347::z348::z349::z350::z351::z352::z353::z354::z355::z356::z357::z358::z359::z360::z361::z362::z363::z364::z365::z366::z367::z368::z369::z370::z371::z372::z373::z374::z375::[]),[]⟩ w')) (hlt1:k < l.length) (hlt2:k < 60) (HKS:Hid (HStpOk l[k])) (HLE:Hid (GrSz op As Gs k)) (HNT:Hid ((¬ T g5)∧∀ q,(R q∨(Value.slice Av tt.length cv).ownBlock=some q∨(Value.slice Aa As.length ca).ownBlock=some q∨(Value.slice Ag Gs.length cg).ownBlock=some q∨q=gp)→q < g5)) (HI:Hid (TgS w.heap.size w6 T R ax h (2 * k+4) (.slice Av tt.length cv) (.slice Aa As.length ca) (.slice Ag Gs.length cg) tt op As Gs gp)) (HB:Hid (Below w.heap.size w w6)) (HBK6:Hid (Blk w6 g5 35 #[.int .i64 l[k].what,txt l[k].who,.int .i64 l[k].n,.int .i64 l[k].call.what,txt l[k].call.name,.int .i64 l[k].call.pa,.int .i64 l[k].call.pn,.int .i64 l[k].call.len,.int .i64 l[k].call.ad,txt l[k].call.owner])) (HSR:Hid (Srch op l[k].who op.length kv)) :
  Code.wp Tryz.prog (cR (cR (cR (cL (cL (cR (cL (cL (cR (cL (cR (cR (cR (cR (cR (cR (cR (cR (cR (cR (cR (Tryz.f4.body.getD .skip)))))))))))))))))))))) Q ⟨List.toArray (z0::z1::z2::z3::ptrV ax::z5::z6::z7::z8::z9::z10::z11::.pointer (some ⟨gp,0,none⟩)::.slice Av tt.length cv::.slice Aa As.length ca::.slice Ag Gs.length cg::.int .i64 (k:Int)::.pointer (some ⟨g5,0,none⟩)::.int .i64 kv::z19::z20::z21::z22::z23::z24::z25::z26::z27::z28::z29::z30::z31::z32::z33::z34::z35::z36::z37::z38::z39::z40::z41::z42::z43::z44::z45::z46::z47::z48::z49::z50::z51::z52::z53::z54::z55::z56::z57::z58::z59::z60::z61::z62::z63::z64::z65::z66::z67::z68::z69::z70::z71::z72::z73::z74::z75::z76::z77::z78::z79::z80::z81::z82::z83::z84::z85::z86::z87::z88::z89::z90::z91::z92::z93::z94::z95::z96::z97::z98::z99::z100::z101::z102::z103::z104::z105::z106::z107::z108::z109::z110::z111::z112::z113::z114::z115::z116::z117::z118::z119::z120::z121::z122::z123::z124::z125::z126::z127::z128::z129::z130::z131::z132::z133::z134::z135::z136::z137::z138::z139::z140::z141::z142::z143::z144::z145::z146::z147::z148::z149::z150::z151::z152::z153::z154::z155::z156::z157::z158::z159::z160::z161::z162::z163::z164::z165::z166::z167::z168::z169::z170::z171::z172::z173::z174::z175::z176::z177::z178::z179::z180::z181::z182::z183::z184::z185::z186::z187::z188::z189::z190::z191::z192::z193::z194::z195::z196::z197::z198::z199::z200::z201::z202::z203::z204::z205::z206::z207::z208::z209::z210::z211::z212::z213::z214::z215::z216::z217::z218::z219::z220::z221::z222::z223::z224::z225::z226::z227::z228::z229::z230::z231::z232::z233::z234::z235::z236::z237::z238::z239::z240::z241::z242::z243::z244::z245::z246::z247::z248::z249::z250::z251::z252::z253::z254::z255::z256::z257::z258::z259::z260::z261::z262::z263::z264::z265::z266::z267::z268::z269::z270::z271::z272::z273::z274::z275::z276::z277::z278::z279::z280::z281::z282::z283::z284::z285::z286::z287::z288::z289::z290::z291::z292::z293::z294::z295::z296::z297::z298::z299::z300::z301::z302::z303::z304::z305::z306::z307::z308::z309::z310::z311::z312::z313::z314::z315::z316::z317::z318::z319::z320::z321::z322::z323::z324::z325::z326::z327::z328::z329::z330::z331::z332::z333::z334::z335::z336::z337::z338::z339::z340::z341::z342::z343::z344::z345::z346::z347::z348::z349::z350::z351::z352::z353::z354::z355::z356::z357::z358::z359::z360::z361::z362::z363::z364::z365::z366::z367::z368::z369::z370::z371::z372::z373::z374::z375::[]),[]⟩ w6:=by
 let QF:Exit→Act→World→Prop:=bodyPost Tryz.prog Tryz.f4 (fun _ _=>True)
 conv=>arg 2;whnf
 have x0:=HBK6.out.cell 0;have x1':=HBK6.out.cell 1;have x2':=HBK6.out.cell 2;have x7:=HBK6.out.cell 7
 simp at x0 x1' x2' x7
 by_cases hw0:l[k].what=0
 ·have HC:=Hd (HI.out.x.open_h (by omega) l[k].who HKS.out.who)
  have HQ:=Hd (HI.out.q.open l[k].who)
  go_wp2_with fail
  refine HC.out.mono ?_
  rintro e w7 ⟨rfl,T7,hs7⟩
  have HX7:=Hd hs7.hk
  have HM7:=Hd (HI.out.m.step hs7)
  have HGS7:=Hd (HI.out.g.step hs7)
  have HB7:=Hd (HB.out.trans (hs7.belB HI.out.x.lo))
  have z1:=(HBK6.out.fr hs7.fr HNT.out.1).cell 1
  simp at z1
  clear HC hs7 HI HB x0 x1' x2' x7
  rcases HQ.out with ⟨hf,hq⟩ | ⟨hf,hq⟩
  ·have HQ2:=Hd hq
   have HF:=Hd (faultV_no hf)
   rw [HF.out]
   clear hf hq HF
   go_wp2
   first | exact hR1.out _ _ _ _ _ _ _ _ _ _ _ _ _ _ _ _ _ _ _ _ _ _ _ _ _ _ _ _ _ _ _ _ _ _ _ _ _ _ _ _ _ _ _ _ _ _ _ _ _ _ _ _ _ _ _ _ _ _ _ _ _ _ _ _ _ _ _ _ _ _ _ _ _ _ _ _ _ _ _ _ _ _ _ _ _ _ _ _ _ _ _ _ _ _ _ _ _ _ _ _ _ _ _ _ _ _ _ _ _ _ _ _ _ _ _ _ _ _ _ _ _ _ _ _ _ _ _ _ _ _ _ _ _ _ _ _ _ _ _ _ _ _ _ _ _ _ _ _ _ _ _ _ _ _ _ _ _ _ _ _ _ _ _ _ _ _ _ _ _ _ _ _ _ _ _ _ _ _ _ _ ⟨_,_,_,_,_,_,_,Hd ⟨⟨HX7.out.more (by omega),HQ2.out,HM7.out,HGS7.out⟩,HLE.out.upto (by omega)⟩,HB7.out⟩ | exact hR2.out _ _ _ _ _ _ _ _ _ _ _ _ _ _ _ _ _ _ _ _ _ _ _ _ _ _ _ _ _ _ _ _ _ _ _ _ _ _ _ _ _ _ _ _ _ _ _ _ _ _ _ _ _ _ _ _ _ _ _ _ _ _ _ _ _ _ _ _ _ _ _ _ _ _ _ _ _ _ _ _ _ _ _ _ _ _ _ _ _ _ _ _ _ _ _ _ _ _ _ _ _ _ _ _ _ _ _ _ _ _ _ _ _ _ _ _ _ _ _ _ _ _ _ _ _ _ _ _ _ _ _ _ _ _ _ _ _ _ _ _ _ _ _ _ _ _ _ _ _ _ _ _ _ _ _ _ _ _ _ _ _ _ _ _ _ _ _ _ _ _ _ _ _ _ _ _ _ _ _ _ ⟨_,_,_,_,_,_,_,Hd ⟨⟨HX7.out.more (by omega),HQ2.out,HM7.out,HGS7.out⟩,HLE.out.upto (by omega)⟩,HB7.out⟩
  ·have HQ2:=Hd hq
   rw [show faultV (h.open l[k].who).1=.nilIface by rw [hf];rfl]
   have hone:∀ u ∈ (#[txt l[k].who,.int .i64 0,.slice none 0 0,.slice none 0 0,.slice none 0 0]:Array Value).toList,u.oneCell'=true:=by intro u hu;simp at hu;rcases hu with rfl | rfl | rfl <;> rfl
   have HLN:=Hd (show tt.length < 1000000000 by have h1:=HM7.out.lo;rw [List.length_map] at h1;have:=HLE.out.lo;omega)
   have HRO:=Hd HM7.out.ro
   unfold RowAt at HRO
   obtain ⟨FT,hFT⟩:∃ F,F=flatE encT tt:=⟨_,rfl⟩
   rw [← hFT] at HRO
   have HFT:=Hd hFT
   clear hf hq hFT
   go_wp2_with (at_builtin;go_must (refine wpList_append_elt (w1:=w7) rfl _ _ 29 rfl 40 Tryz.underlying29 _ 5 96 infoTk rfl (by decide) (by decide) 0 (.slice Av tt.length cv) tt.length FT rfl HRO.out #[txt l[k].who,.int .i64 0,.slice none 0 0,.slice none 0 0,.slice none 0 0] rfl hone rfl HLN.out (Nat.zero_le _) ?_);intro v8 w8 hown8 hg8 hat8)
   rw [HFT.out] at hown8
   obtain ⟨A8,c8,rfl,_⟩:=own_form hown8
   have HI8:=Hd (TgS.opened HX7.out HM7.out HGS7.out HKS.out.who HQ2.out HB7.out.size hown8 hg8 hat8)
   have HB8:=Hd (HB7.out.grown hg8 HB7.out.size (fun q e=>(HM7.out.no q e).2.2))
   clear hown8 hg8 hat8 HX7 HM7 HB7 HQ HQ2 HRO HGS7 hone
   go_wp2
   first | exact hR1.out _ _ _ _ _ _ _ _ _ _ _ _ _ _ _ _ _ _ _ _ _ _ _ _ _ _ _ _ _ _ _ _ _ _ _ _ _ _ _ _ _ _ _ _ _ _ _ _ _ _ _ _ _ _ _ _ _ _ _ _ _ _ _ _ _ _ _ _ _ _ _ _ _ _ _ _ _ _ _ _ _ _ _ _ _ _ _ _ _ _ _ _ _ _ _ _ _ _ _ _ _ _ _ _ _ _ _ _ _ _ _ _ _ _ _ _ _ _ _ _ _ _ _ _ _ _ _ _ _ _ _ _ _ _ _ _ _ _ _ _ _ _ _ _ _ _ _ _ _ _ _ _ _ _ _ _ _ _ _ _ _ _ _ _ _ _ _ _ _ _ _ _ _ _ _ _ _ _ _ _ ⟨_,_,_,_,_,_,_,Hd ⟨HI8.out.more (by omega),HLE.out.open _ _⟩,HB8.out⟩ | exact hR2.out _ _ _ _ _ _ _ _ _ _ _ _ _ _ _ _ _ _ _ _ _ _ _ _ _ _ _ _ _ _ _ _ _ _ _ _ _ _ _ _ _ _ _ _ _ _ _ _ _ _ _ _ _ _ _ _ _ _ _ _ _ _ _ _ _ _ _ _ _ _ _ _ _ _ _ _ _ _ _ _ _ _ _ _ _ _ _ _ _ _ _ _ _ _ _ _ _ _ _ _ _ _ _ _ _ _ _ _ _ _ _ _ _ _ _ _ _ _ _ _ _ _ _ _ _ _ _ _ _ _ _ _ _ _ _ _ _ _ _ _ _ _ _ _ _ _ _ _ _ _ _ _ _ _ _ _ _ _ _ _ _ _ _ _ _ _ _ _ _ _ _ _ _ _ _ _ _ _ _ _ ⟨_,_,_,_,_,_,_,Hd ⟨HI8.out.more (by omega),HLE.out.open _ _⟩,HB8.out⟩
 by_cases hw2:l[k].what=2
 ·skip
  go_wp2
  first | exact hR1.out _ _ _ _ _ _ _ _ _ _ _ _ _ _ _ _ _ _ _ _ _ _ _ _ _ _ _ _ _ _ _ _ _ _ _ _ _ _ _ _ _ _ _ _ _ _ _ _ _ _ _ _ _ _ _ _ _ _ _ _ _ _ _ _ _ _ _ _ _ _ _ _ _ _ _ _ _ _ _ _ _ _ _ _ _ _ _ _ _ _ _ _ _ _ _ _ _ _ _ _ _ _ _ _ _ _ _ _ _ _ _ _ _ _ _ _ _ _ _ _ _ _ _ _ _ _ _ _ _ _ _ _ _ _ _ _ _ _ _ _ _ _ _ _ _ _ _ _ _ _ _ _ _ _ _ _ _ _ _ _ _ _ _ _ _ _ _ _ _ _ _ _ _ _ _ _ _ _ _ _ ⟨h,T,R,tt,op,As,Gs,Hd ⟨HI.out.more (by omega),HLE.out.upto (by omega)⟩,HB.out⟩ | exact hR2.out _ _ _ _ _ _ _ _ _ _ _ _ _ _ _ _ _ _ _ _ _ _ _ _ _ _ _ _ _ _ _ _ _ _ _ _ _ _ _ _ _ _ _ _ _ _ _ _ _ _ _ _ _ _ _ _ _ _ _ _ _ _ _ _ _ _ _ _ _ _ _ _ _ _ _ _ _ _ _ _ _ _ _ _ _ _ _ _ _ _ _ _ _ _ _ _ _ _ _ _ _ _ _ _ _ _ _ _ _ _ _ _ _ _ _ _ _ _ _ _ _ _ _ _ _ _ _ _ _ _ _ _ _ _ _ _ _ _ _ _ _ _ _ _ _ _ _ _ _ _ _ _ _ _ _ _ _ _ _ _ _ _ _ _ _ _ _ _ _ _ _ _ _ _ _ _ _ _ _ _ ⟨h,T,R,tt,op,As,Gs,Hd ⟨HI.out.more (by omega),HLE.out.upto (by omega)⟩,HB.out⟩
 by_cases hw3:l[k].what=3
 ·skip
  go_wp2
  first | exact hR1.out _ _ _ _ _ _ _ _ _ _ _ _ _ _ _ _ _ _ _ _ _ _ _ _ _ _ _ _ _ _ _ _ _ _ _ _ _ _ _ _ _ _ _ _ _ _ _ _ _ _ _ _ _ _ _ _ _ _ _ _ _ _ _ _ _ _ _ _ _ _ _ _ _ _ _ _ _ _ _ _ _ _ _ _ _ _ _ _ _ _ _ _ _ _ _ _ _ _ _ _ _ _ _ _ _ _ _ _ _ _ _ _ _ _ _ _ _ _ _ _ _ _ _ _ _ _ _ _ _ _ _ _ _ _ _ _ _ _ _ _ _ _ _ _ _ _ _ _ _ _ _ _ _ _ _ _ _ _ _ _ _ _ _ _ _ _ _ _ _ _ _ _ _ _ _ _ _ _ _ _ ⟨h,T,R,tt,op,As,Gs,Hd ⟨HI.out.more (by omega),HLE.out.upto (by omega)⟩,HB.out⟩ | exact hR2.out _ _ _ _ _ _ _ _ _ _ _ _ _ _ _ _ _ _ _ _ _ _ _ _ _ _ _ _ _ _ _ _ _ _ _ _ _ _ _ _ _ _ _ _ _ _ _ _ _ _ _ _ _ _ _ _ _ _ _ _ _ _ _ _ _ _ _ _ _ _ _ _ _ _ _ _ _ _ _ _ _ _ _ _ _ _ _ _ _ _ _ _ _ _ _ _ _ _ _ _ _ _ _ _ _ _ _ _ _ _ _ _ _ _ _ _ _ _ _ _ _ _ _ _ _ _ _ _ _ _ _ _ _ _ _ _ _ _ _ _ _ _ _ _ _ _ _ _ _ _ _ _ _ _ _ _ _ _ _ _ _ _ _ _ _ _ _ _ _ _ _ _ _ _ _ _ _ _ _ _ ⟨h,T,R,tt,op,As,Gs,Hd ⟨HI.out.more (by omega),HLE.out.upto (by omega)⟩,HB.out⟩
 by_cases hw4:l[k].what=4
 ·skip
  go_wp2
  first | exact hR1.out _ _ _ _ _ _ _ _ _ _ _ _ _ _ _ _ _ _ _ _ _ _ _ _ _ _ _ _ _ _ _ _ _ _ _ _ _ _ _ _ _ _ _ _ _ _ _ _ _ _ _ _ _ _ _ _ _ _ _ _ _ _ _ _ _ _ _ _ _ _ _ _ _ _ _ _ _ _ _ _ _ _ _ _ _ _ _ _ _ _ _ _ _ _ _ _ _ _ _ _ _ _ _ _ _ _ _ _ _ _ _ _ _ _ _ _ _ _ _ _ _ _ _ _ _ _ _ _ _ _ _ _ _ _ _ _ _ _ _ _ _ _ _ _ _ _ _ _ _ _ _ _ _ _ _ _ _ _ _ _ _ _ _ _ _ _ _ _ _ _ _ _ _ _ _ _ _ _ _ _ ⟨h,T,R,tt,op,As,Gs,Hd ⟨HI.out.more (by omega),HLE.out.upto (by omega)⟩,HB.out⟩ | exact hR2.out _ _ _ _ _ _ _ _ _ _ _ _ _ _ _ _ _ _ _ _ _ _ _ _ _ _ _ _ _ _ _ _ _ _ _ _ _ _ _ _ _ _ _ _ _ _ _ _ _ _ _ _ _ _ _ _ _ _ _ _ _ _ _ _ _ _ _ _ _ _ _ _ _ _ _ _ _ _ _ _ _ _ _ _ _ _ _ _ _ _ _ _ _ _ _ _ _ _ _ _ _ _ _ _ _ _ _ _ _ _ _ _ _ _ _ _ _ _ _ _ _ _ _ _ _ _ _ _ _ _ _ _ _ _ _ _ _ _ _ _ _ _ _ _ _ _ _ _ _ _ _ _ _ _ _ _ _ _ _ _ _ _ _ _ _ _ _ _ _ _ _ _ _ _ _ _ _ _ _ _ ⟨h,T,R,tt,op,As,Gs,Hd ⟨HI.out.more (by omega),HLE.out.upto (by omega)⟩,HB.out⟩
 by_cases hw5:l[k].what=5
 ·skip
  go_wp2
  first | exact hR1.out _ _ _ _ _ _ _ _ _ _ _ _ _ _ _ _ _ _ _ _ _ _ _ _ _ _ _ _ _ _ _ _ _ _ _ _ _ _ _ _ _ _ _ _ _ _ _ _ _ _ _ _ _ _ _ _ _ _ _ _ _ _ _ _ _ _ _ _ _ _ _ _ _ _ _ _ _ _ _ _ _ _ _ _ _ _ _ _ _ _ _ _ _ _ _ _ _ _ _ _ _ _ _ _ _ _ _ _ _ _ _ _ _ _ _ _ _ _ _ _ _ _ _ _ _ _ _ _ _ _ _ _ _ _ _ _ _ _ _ _ _ _ _ _ _ _ _ _ _ _ _ _ _ _ _ _ _ _ _ _ _ _ _ _ _ _ _ _ _ _ _ _ _ _ _ _ _ _ _ _ ⟨h,T,R,tt,op,As,Gs,Hd ⟨HI.out.more (by omega),HLE.out.upto (by omega)⟩,HB.out⟩ | exact hR2.out _ _ _ _ _ _ _ _ _ _ _ _ _ _ _ _ _ _ _ _ _ _ _ _ _ _ _ _ _ _ _ _ _ _ _ _ _ _ _ _ _ _ _ _ _ _ _ _ _ _ _ _ _ _ _ _ _ _ _ _ _ _ _ _ _ _ _ _ _ _ _ _ _ _ _ _ _ _ _ _ _ _ _ _ _ _ _ _ _ _ _ _ _ _ _ _ _ _ _ _ _ _ _ _ _ _ _ _ _ _ _ _ _ _ _ _ _ _ _ _ _ _ _ _ _ _ _ _ _ _ _ _ _ _ _ _ _ _ _ _ _ _ _ _ _ _ _ _ _ _ _ _ _ _ _ _ _ _ _ _ _ _ _ _ _ _ _ _ _ _ _ _ _ _ _ _ _ _ _ _ ⟨h,T,R,tt,op,As,Gs,Hd ⟨HI.out.more (by omega),HLE.out.upto (by omega)⟩,HB.out⟩
 rcases HSR.out with ⟨rfl,_⟩ | ⟨i,hi,rfl,hwho⟩
 ·by_cases hw1:l[k].what=1
  ·skip
   go_wp2
   first | exact hR1.out _ _ _ _ _ _ _ _ _ _ _ _ _ _ _ _ _ _ _ _ _ _ _ _ _ _ _ _ _ _ _ _ _ _ _ _ _ _ _ _ _ _ _ _ _ _ _ _ _ _ _ _ _ _ _ _ _ _ _ _ _ _ _ _ _ _ _ _ _ _ _ _ _ _ _ _ _ _ _ _ _ _ _ _ _ _ _ _ _ _ _ _ _ _ _ _ _ _ _ _ _ _ _ _ _ _ _ _ _ _ _ _ _ _ _ _ _ _ _ _ _ _ _ _ _ _ _ _ _ _ _ _ _ _ _ _ _ _ _ _ _ _ _ _ _ _ _ _ _ _ _ _ _ _ _ _ _ _ _ _ _ _ _ _ _ _ _ _ _ _ _ _ _ _ _ _ _ _ _ _ ⟨h,T,R,tt,op,As,Gs,Hd ⟨HI.out.more (by omega),HLE.out.upto (by omega)⟩,HB.out⟩ | exact hR2.out _ _ _ _ _ _ _ _ _ _ _ _ _ _ _ _ _ _ _ _ _ _ _ _ _ _ _ _ _ _ _ _ _ _ _ _ _ _ _ _ _ _ _ _ _ _ _ _ _ _ _ _ _ _ _ _ _ _ _ _ _ _ _ _ _ _ _ _ _ _ _ _ _ _ _ _ _ _ _ _ _ _ _ _ _ _ _ _ _ _ _ _ _ _ _ _ _ _ _ _ _ _ _ _ _ _ _ _ _ _ _ _ _ _ _ _ _ _ _ _ _ _ _ _ _ _ _ _ _ _ _ _ _ _ _ _ _ _ _ _ _ _ _ _ _ _ _ _ _ _ _ _ _ _ _ _ _ _ _ _ _ _ _ _ _ _ _ _ _ _ _ _ _ _ _ _ _ _ _ _ ⟨h,T,R,tt,op,As,Gs,Hd ⟨HI.out.more (by omega),HLE.out.upto (by omega)⟩,HB.out⟩
  go_wp2
  first | exact hR1.out _ _ _ _ _ _ _ _ _ _ _ _ _ _ _ _ _ _ _ _ _ _ _ _ _ _ _ _ _ _ _ _ _ _ _ _ _ _ _ _ _ _ _ _ _ _ _ _ _ _ _ _ _ _ _ _ _ _ _ _ _ _ _ _ _ _ _ _ _ _ _ _ _ _ _ _ _ _ _ _ _ _ _ _ _ _ _ _ _ _ _ _ _ _ _ _ _ _ _ _ _ _ _ _ _ _ _ _ _ _ _ _ _ _ _ _ _ _ _ _ _ _ _ _ _ _ _ _ _ _ _ _ _ _ _ _ _ _ _ _ _ _ _ _ _ _ _ _ _ _ _ _ _ _ _ _ _ _ _ _ _ _ _ _ _ _ _ _ _ _ _ _ _ _ _ _ _ _ _ _ ⟨h,T,R,tt,op,As,Gs,Hd ⟨HI.out.more (by omega),HLE.out.upto (by omega)⟩,HB.out⟩ | exact hR2.out _ _ _ _ _ _ _ _ _ _ _ _ _ _ _ _ _ _ _ _ _ _ _ _ _ _ _ _ _ _ _ _ _ _ _ _ _ _ _ _ _ _ _ _ _ _ _ _ _ _ _ _ _ _ _ _ _ _ _ _ _ _ _ _ _ _ _ _ _ _ _ _ _ _ _ _ _ _ _ _ _ _ _ _ _ _ _ _ _ _ _ _ _ _ _ _ _ _ _ _ _ _ _ _ _ _ _ _ _ _ _ _ _ _ _ _ _ _ _ _ _ _ _ _ _ _ _ _ _ _ _ _ _ _ _ _ _ _ _ _ _ _ _ _ _ _ _ _ _ _ _ _ _ _ _ _ _ _ _ _ _ _ _ _ _ _ _ _ _ _ _ _ _ _ _ _ _ _ _ _ ⟨h,T,R,tt,op,As,Gs,Hd ⟨HI.out.more (by omega),HLE.out.upto (by omega)⟩,HB.out⟩
 ·by_cases hw1:l[k].what=1
  ·exact tg_close hR1 hR2 hlt1 hlt2 HKS HLE HNT HI HB HBK6 hi hwho hw1
  exact tg_ask hR1 hR2 hlt1 hlt2 HKS HLE HNT HI HB HBK6 hi hwho hw0 hw1 hw2 hw3 hw4 hw5
def sqT:Code→Code
 | .seq _ b=>b
 | c=>c
theorem topGrants_rest (A:Option Addr) (l:List HStp) (cc:Nat) (w wc w3 w4:World) (A1 A2:Option Addr) (ax gp c1 c2:Nat) (u13 u14 u15 u16 u17 u18 u19 u20 u21 u22 u23 u24 u25 u26 u27 u28 u29 u30 u79 u80 u81 u82 u83 u84 u85 u86 u87 u88 u89 u90 u91 u92 u93 u94 u95 u96 u97 u98 u99 u100 u101 u102 u103 u104 u105 u106 u107 u108 u109 u110 u111 u112 u113 u114 u115 u116 u117 u118 u119 u120 u121 u122 u123 u124 u125 u126 u127 u128 u129 u130 u131 u132 u133 u134 u135 u136 u137 u138 u139 u140 u141 u142 u143 u144 u145 u146 u147 u148 u149 u150 u151 u152 u153 u154 u155 u156 u157 u158 u159 u160 u161 u162 u163 u164 u165 u166 u167 u168 u169 u170 u171 u172 u173 u174 u175 u176 u177 u178 u179 u180 u181 u182 u183 u184 u185 u186 u187 u188 u189 u190 u191 u192 u193 u194 u195 u196 u197 u198 u199 u200 u201 u202 u203 u204 u205 u206 u207 u208 u209 u210 u211 u212 u213 u214 u215 u216 u217 u218 u219 u220 u221 u222 u223 u224 u225 u226 u227 u228 u229 u230 u231 u232 u233 u234 u235 u236 u237 u238 u239 u240 u241 u242 u243:Value) (hcut:∃ (h:Hl) (T R:Nat→Prop) (tt:List TkV) (op:List (Opn PCall (PAns × Int))) (As:List Int) (Gs:List Pf),Hid (TgS w.heap.size wc T R ax h 124 u13 u14 u15 tt op As Gs gp∧GrSz op As Gs 60)∧Below w.heap.size w wc) :
  Code.wp Tryz.prog (sqT (sqT (sqT (sqT (sqT (sqT (sqT (sqT (sqT (sqT (sqT (sqT (Tryz.f4.body.getD .skip))))))))))))) (bodyPost Tryz.prog Tryz.f4 (fun e w'=>e=.returned (.bool true)∧Below w.heap.size w w')) ⟨List.toArray (Value.slice A l.length cc::undef::Value.bool false::Value.bool true::ptrV ax::Value.nilIface::Value.pointer (some { block:=w3.heap.size,off:=0 })::Value.int IntKind.i64 1::Value.nilIface::Value.pointer (some { block:=w4.heap.size,off:=0 })::Value.int IntKind.i64 2::Value.nilIface::Value.pointer (some { block:=gp,off:=0 })::u13::u14::u15::u16::u17::u18::u19::u20::u21::u22::u23::u24::u25::u26::u27::u28::u29::u30::undef::undef::undef::undef::undef::undef::undef::undef::undef::undef::undef::undef::undef::undef::undef::Value.bool true::Value.tuple #[ptrV ax,Value.nilIface]::Value.tuple #[ptrV ax,Value.nilIface]::ptrV ax::Value.nilIface::Value.nilIface::Value.bool false::Value.bool false::Value.bool true::Value.bool false::Value.bool false::Value.tuple #[Value.agg #[Value.int IntKind.i64 noAns.pa,Value.int IntKind.i64 noAns.pn,Value.int IntKind.i64 noAns.ad,txt noAns.owner,Value.slice A1 noAns.list.length c1],Value.int IntKind.i64 1,Value.nilIface]::ptrV ax::Value.agg #[Value.int IntKind.i64 1,Value.string { data:=#[120] },Value.int IntKind.i64 0,Value.int IntKind.i64 0,Value.int IntKind.i64 0,Value.int IntKind.i64 0,Value.string { data:=#[111] }]::Value.tuple #[Value.agg #[Value.int IntKind.i64 noAns.pa,Value.int IntKind.i64 noAns.pn,Value.int IntKind.i64 noAns.ad,txt noAns.owner,Value.slice A1 noAns.list.length c1],Value.int IntKind.i64 1,Value.nilIface]::Value.agg #[Value.int IntKind.i64 noAns.pa,Value.int IntKind.i64 noAns.pn,Value.int IntKind.i64 noAns.ad,txt noAns.owner,Value.slice A1 noAns.list.length c1]::Value.int IntKind.i64 1::Value.nilIface::Value.tuple #[Value.agg #[Value.int IntKind.i64 noAns.pa,Value.int IntKind.i64 noAns.pn,Value.int IntKind.i64 noAns.ad,txt noAns.owner,Value.slice A2 noAns.list.length c2],Value.int IntKind.i64 2,Value.nilIface]::ptrV ax::Value.agg #[Value.int IntKind.i64 0,Value.int IntKind.i64 26]::Value.agg #[Value.int IntKind.i64 2,Value.string { data:=#[120] },Value.int IntKind.i64 0,Value.int IntKind.i64 26,Value.int IntKind.i64 0,Value.int IntKind.i64 0,Value.string { data:=#[111] }]::Value.tuple #[Value.agg #[Value.int IntKind.i64 noAns.pa,Value.int IntKind.i64 noAns.pn,Value.int IntKind.i64 noAns.ad,txt noAns.owner,Value.slice A2 noAns.list.length c2],Value.int IntKind.i64 2,Value.nilIface]::Value.agg #[Value.int IntKind.i64 noAns.pa,Value.int IntKind.i64 noAns.pn,Value.int IntKind.i64 noAns.ad,txt noAns.owner,Value.slice A2 noAns.list.length c2]::Value.int IntKind.i64 2::Value.nilIface::Value.nilIface::Value.bool false::Value.bool false::Value.nilIface::Value.bool false::Value.bool false::Value.agg #[Value.int IntKind.i64 0,Value.int IntKind.i64 26]::u79::u80::u81::u82::u83::u84::u85::u86::u87::u88::u89::u90::u91::u92::u93::u94::u95::u96::u97::u98::u99::u100::u101::u102::u103::u104::u105::u106::u107::u108::u109::u110::u111::u112::u113::u114::u115::u116::u117::u118::u119::u120::u121::u122::u123::u124::u125::u126::u127::u128::u129::u130::u131::u132::u133::u134::u135::u136::u137::u138::u139::u140::u141::u142::u143::u144::u145::u146::u147::u148::u149::u150::u151::u152::u153::u154::u155::u156::u157::u158::u159::u160::u161::u162::u163::u164::u165::u166::u167::u168::u169::u170::u171::u172::u173::u174::u175::u176::u177::u178::u179::u180::u181::u182::u183::u184::u185::u186::u187::u188::u189::u190::u191::u192::u193::u194::u195::u196::u197::u198::u199::u200::u201::u202::u203::u204::u205::u206::u207::u208::u209::u210::u211::u212::u213::u214::u215::u216::u217::u218::u219::u220::u221::u222::u223::u224::u225::u226::u227::u228::u229::u230::u231::u232::u233::u234::u235::u236::u237::u238::u239::u240::u241::u242::u243::undef::undef::undef::undef::undef::undef::undef::undef::undef::undef::undef::undef::undef::undef::undef::undef::undef::undef::undef::undef::undef::undef::undef::undef::undef::undef::undef::undef::undef::undef::undef::undef::undef::undef::undef::undef::undef::undef::undef::undef::undef::undef::undef::undef::undef::undef::undef::undef::undef::undef::undef::undef::undef::undef::undef::undef::undef::undef::undef::undef::undef::undef::undef::undef::undef::undef::undef::undef::undef::undef::undef::undef::undef::undef::undef::undef::undef::undef::undef::undef::undef::undef::undef::undef::undef::undef::undef::undef::undef::undef::undef::undef::undef::undef::undef::undef::undef::undef::undef::undef::undef::undef::undef::undef::undef::undef::undef::undef::undef::undef::undef::undef::undef::undef::undef::undef::undef::undef::undef::undef::undef::undef::undef::undef::undef::undef::undef::undef::undef::undef::undef::undef::[]),[]⟩ wc:=by
 conv=>arg 2;whnf
 obtain ⟨h,T,R,tt,op,As,Gs,HZ,hb⟩:=hcut
 generalize wc=wy at *
 obtain ⟨Av,cv,rfl,_⟩:=own_form HZ.out.1.m.ro
 obtain ⟨Aa,ca,rfl,hra⟩:=own_form HZ.out.1.g.ra
 obtain ⟨Ag,cg,rfl,hrg⟩:=own_form HZ.out.1.g.rg
 have HRA:=Hd hra
 have HRG:=Hd hrg
 have HGR:=Hd HZ.out.1.q.gr
 have HB:=Hd hb
 have h58:=HZ.out.2.gs (by omega)
 have HPB:=Hd HZ.out.1.g.pb
 have hla:As.length≤60:=by omega
 have hlg:Gs.length≤60:=by omega
 clear hra hrg hb
 go_upto_block 7 with fail
 go_cut [31] (fun iv wx=>Below wy.heap.size wy wx)
 case first =>
  as_aux_lemma =>
   go_wp2
   go_loopw [31] (fun iv wr=>∃ i:Nat,iv=.int .i64 i∧i≤As.length∧Below wy.heap.size wy wr) (fun iv _=>As.length - (intOf iv).toNat)
   case atStart=>exact ⟨0,by go_num,Nat.zero_le _,Below.refl _ _⟩
   case round =>
    obtain ⟨i,rfl,hi,hbr⟩:=hrel
    by_cases hil:i < As.length
    ·have hI:(i:Int) < (As.length:Int):=by omega
     obtain ⟨b0,o0,rfl,hb0,c0⟩:=(HRA.out.below hbr).numAt hil
     have hx:=HGR.out.ai _ (List.getElem_mem hil)
     have hx1:¬ (As[i] < 1):=by omega
     have hx2:¬ (62 < As[i]):=by omega
     have HND:=Hd (fun (j:Nat) (hj:j < i)=>show As[j]'(by omega)≠As[i] from fun e=>by
      have:=(List.pairwise_iff_getElem.1 HGR.out.an) j i (by omega) hil hj
      exact this e)
     have HIL:=Hd (And.intro hil trivial)
     go_wp2
     go_loopw [32] (fun jv ws=>∃ j:Nat,jv=.int .i64 j∧j≤i∧Below wy.heap.size wy ws) (fun jv _=>i - (intOf jv).toNat)
     case atStart=>exact ⟨0,by go_num,Nat.zero_le _,hbr⟩
     case round =>
      clear hbr c0
      obtain ⟨j,rfl,hj,hbs⟩:=hrel
      by_cases hjl:j < i
      ·have hJ:(j:Int) < (i:Int):=by omega
       have hJ2:(j:Int) < (As.length:Int):=by omega
       obtain ⟨b1,o1,e1,hb1,d0⟩:=(HRA.out.below hbs).numAt HIL.out.1
       cases e1
       obtain ⟨b1,o1,e1,hb1,d1⟩:=(HRA.out.below hbs).numAt (k:=j) (by omega)
       cases e1
       have hne:(As[j]'(by omega) == As[i])=false:=by simpa using HND.out j hjl
       clear hx hx1 hx2 hb1
       generalize As[j]'(by omega)=aj at *
       go_upto_region 68 with fail
       go_quiet (fail)
       generalize hWd:World.drewN wr nq=wd
       have hbd:Below wy.heap.size wy wd:=by rw [← hWd];exact ⟨hbs.os,hbs.tape,hbs.output,hbs.size,hbs.block⟩
       clear hWd d0 d1
       go_wp2
       go_roundw
       case rel=>exact ⟨j+1,by go_num,by omega,hbd⟩
       case measure=>simp [intOf];omega
      ·obtain rfl:j=i:=by omega
       have hJ:¬ ((j:Int) < (j:Int)):=by omega
       go_wp2
       go_roundw
       case rel=>exact ⟨j+1,by go_num,by omega,hbs⟩
       case measure=>simp [intOf];omega
    ·obtain rfl:i=As.length:=by omega
     have hI:¬ ((As.length:Int) < (As.length:Int)):=by omega
     go_wp2
     go_meet
     exact hbr
 case rest =>
  have HB2:=Hd hcut
  generalize wc=wd at *
  go_upto_block 11 with fail
  go_cut [33] (fun iv wx=>Below wd.heap.size wd wx)
  case first =>
   as_aux_lemma =>
    have HRG2:=Hd ((HRG.out.below HB2.out).more HB2.out.size)
    have HPB2:=Hd (HPB.out.below HB2.out HPB.out.lt)
    have HWR:=Hd (show ∀ (p:Pf) (i:Nat) (hi:i < Gs.length) W,Calls Tryz.prog 16 #[.agg #[.int .i64 Gs[i].1,.int .i64 Gs[i].2],.agg #[.int .i64 0,.int .i64 26]] W fun e w'=>e=.returned (.tuple #[.bool true,.nilIface])∧Below W.heap.size W w' from fun _ i hi W=>within_yes _ par (HGR.out.gi _ (List.getElem_mem hi)).1 (by decide) (HGR.out.gi _ (List.getElem_mem hi)).2.1 W)
    have HWN:=Hd (show ∀ (i j:Nat) (hi:i < Gs.length) (hj:j < i) W,(Calls Tryz.prog 16 #[.agg #[.int .i64 Gs[i].1,.int .i64 Gs[i].2],.agg #[.int .i64 (Gs[j]'(by omega)).1,.int .i64 (Gs[j]'(by omega)).2]] W fun e w'=>e=.returned (.tuple #[.bool false,.nilIface])∧Below W.heap.size W w')∧(Calls Tryz.prog 16 #[.agg #[.int .i64 (Gs[j]'(by omega)).1,.int .i64 (Gs[j]'(by omega)).2],.agg #[.int .i64 Gs[i].1,.int .i64 Gs[i].2]] W fun e w'=>e=.returned (.tuple #[.bool false,.nilIface])∧Below W.heap.size W w') from fun i j hi hj W=>by
     have h1:=(List.pairwise_iff_getElem.1 HGR.out.gn) j i (by omega) hi hj
     exact ⟨within_no _ _ (HGR.out.gi _ (List.getElem_mem hi)).1 (HGR.out.gi _ (List.getElem_mem _)).1 h1.2 W,within_no _ _ (HGR.out.gi _ (List.getElem_mem _)).1 (HGR.out.gi _ (List.getElem_mem hi)).1 h1.1 W⟩)
    clear HRG HPB HGR HZ HRA HB HB2
    go_wp2
    go_loopw [33] (fun iv wr=>∃ i:Nat,iv=.int .i64 i∧i≤Gs.length∧Below wd.heap.size wd wr) (fun iv _=>Gs.length - (intOf iv).toNat)
    case atStart=>exact ⟨0,by go_num,Nat.zero_le _,Below.refl _ _⟩
    case round =>
     obtain ⟨i,rfl,hi,hbr⟩:=hrel
     by_cases hil:i < Gs.length
     ·have hI:(i:Int) < (Gs.length:Int):=by omega
      obtain ⟨b0,o0,rfl,hb0,c0,c1⟩:=(HRG2.out.below hbr).pfAt hil
      have p0:=(HPB2.out.below hbr HPB2.out.lt).cell 0
      have p1:=(HPB2.out.below hbr HPB2.out.lt).cell 1
      simp at p0 p1
      have HW1:=Hd (fun W=>HWR.out par i hil W)
      have HW2:=Hd (fun j (hj:j < i) W=>HWN.out i j hil hj W)
      have HIL:=Hd (And.intro hil trivial)
      go_upto_region 73 with fail
      have hb1':b0 < wr.heap.size:=Nat.lt_of_lt_of_le hb0 hbr.size
      have hgp':gp < wr.heap.size:=Nat.lt_of_lt_of_le HPB2.out.lt hbr.size
      go_region_held3 (fun W=>W.cell? ⟨b0,o0+i * 2,none⟩=some (.int .i64 Gs[i].1)∧W.cell? ⟨b0,o0+i * 2+1,none⟩=some (.int .i64 Gs[i].2)∧W.cell? ⟨gp,0,none⟩=some (.int .i64 0)∧W.cell? ⟨gp,1,none⟩=some (.int .i64 26))
       (first
        | exact ⟨c0,c1,p0,p1⟩
        | exact ⟨(hba.cell (p:=⟨b0,o0+i * 2,none⟩) hb1').trans c0,(hba.cell (p:=⟨b0,o0+i * 2+1,none⟩) hb1').trans c1,(hba.cell (p:=⟨gp,0,none⟩) hgp').trans p0,(hba.cell (p:=⟨gp,1,none⟩) hgp').trans p1⟩)
       ((go_at_call 16;refine (HW1.out _).mono ?_;rintro e wa ⟨rfl,hba⟩))
      have hbw:Below wd.heap.size wd wa:=hbr.trans ⟨hba.os,hba.tape,hba.output,by have h1:=hbr.size;have h2:wr.heap.size≤wa.heap.size:=hba.size;omega,fun q hq=>hba.block q (Nat.lt_of_lt_of_le hq hbr.size)⟩
      clear c0 c1 p0 p1 hba hbr
      go_wp2
      go_loopw [36] (fun jv ws=>∃ j:Nat,jv=.int .i64 j∧j≤i∧Below wd.heap.size wd ws) (fun jv _=>i - (intOf jv).toNat)
      case atStart=>exact ⟨0,by go_num,Nat.zero_le _,hbw⟩
      case round =>
       clear hbw
       obtain ⟨j,rfl,hj,hbs⟩:=hrel
       by_cases hjl:j < i
       ·have hJ:(j:Int) < (i:Int):=by omega
        have hJ2:(j:Int) < (Gs.length:Int):=by omega
        obtain ⟨b1,o1,e1,hb1,d0,d1⟩:=(HRG2.out.below hbs).pfAt HIL.out.1
        cases e1
        obtain ⟨b1,o1,e1,hb1,f0,f1⟩:=(HRG2.out.below hbs).pfAt (k:=j) (by omega)
        cases e1
        have HW3:=Hd (HW2.out j hjl)
        clear hb1
        have hb1':b0 < wr.heap.size:=Nat.lt_of_lt_of_le hb0 hbs.size
        go_upto_region 79 with fail
        go_region_held3 (fun W=>W.cell? ⟨b0,o0+i * 2,none⟩=some (.int .i64 Gs[i].1)∧W.cell? ⟨b0,o0+i * 2+1,none⟩=some (.int .i64 Gs[i].2)∧W.cell? ⟨b0,o0+j * 2,none⟩=some (.int .i64 (Gs[j]'(by omega)).1)∧W.cell? ⟨b0,o0+j * 2+1,none⟩=some (.int .i64 (Gs[j]'(by omega)).2))
         (first
          | exact ⟨d0,d1,f0,f1⟩
          | exact ⟨(hba.cell (p:=⟨b0,o0+i * 2,none⟩) hb1').trans d0,(hba.cell (p:=⟨b0,o0+i * 2+1,none⟩) hb1').trans d1,(hba.cell (p:=⟨b0,o0+j * 2,none⟩) hb1').trans f0,(hba.cell (p:=⟨b0,o0+j * 2+1,none⟩) hb1').trans f1⟩)
         ((go_at_call 16;refine (HW3.out _).1.mono ?_;rintro e wa2 ⟨rfl,hba⟩))
        have hbw:Below wd.heap.size wd wa2:=hbs.trans ⟨hba.os,hba.tape,hba.output,by have h1:=hbs.size;have h2:wr.heap.size≤wa2.heap.size:=hba.size;omega,fun q hq=>hba.block q (Nat.lt_of_lt_of_le hq hbs.size)⟩
        clear d0 d1 f0 f1 hba hbs
        obtain ⟨b1,o1,e1,hb1,d0,d1⟩:=(HRG2.out.below hbw).pfAt HIL.out.1
        cases e1
        obtain ⟨b1,o1,e1,hb1,f0,f1⟩:=(HRG2.out.below hbw).pfAt (k:=j) (by omega)
        cases e1
        have hb1':b0 < wa2.heap.size:=Nat.lt_of_lt_of_le hb0 hbw.size
        go_upto_region 80 with fail
        go_region_held3 (fun W=>W.cell? ⟨b0,o0+i * 2,none⟩=some (.int .i64 Gs[i].1)∧W.cell? ⟨b0,o0+i * 2+1,none⟩=some (.int .i64 Gs[i].2)∧W.cell? ⟨b0,o0+j * 2,none⟩=some (.int .i64 (Gs[j]'(by omega)).1)∧W.cell? ⟨b0,o0+j * 2+1,none⟩=some (.int .i64 (Gs[j]'(by omega)).2))
         (first
          | exact ⟨d0,d1,f0,f1⟩
          | exact ⟨(hba.cell (p:=⟨b0,o0+i * 2,none⟩) hb1').trans d0,(hba.cell (p:=⟨b0,o0+i * 2+1,none⟩) hb1').trans d1,(hba.cell (p:=⟨b0,o0+j * 2,none⟩) hb1').trans f0,(hba.cell (p:=⟨b0,o0+j * 2+1,none⟩) hb1').trans f1⟩)
         ((go_at_call 16;refine (HW3.out _).2.mono ?_;rintro e wa3 ⟨rfl,hba⟩))
        have hbw2:Below wd.heap.size wd wa3:=hbw.trans ⟨hba.os,hba.tape,hba.output,by have h1:=hbw.size;have h2:wa2.heap.size≤wa3.heap.size:=hba.size;omega,fun q hq=>hba.block q (Nat.lt_of_lt_of_le hq hbw.size)⟩
        clear d0 d1 f0 f1 hba hbw hb1
        go_wp2
        go_roundw
        case rel=>exact ⟨j+1,by go_num,by omega,hbw2⟩
        case measure=>simp [intOf];omega
       ·obtain rfl:j=i:=by omega
        have hJ:¬ ((j:Int) < (j:Int)):=by omega
        go_wp2
        go_roundw
        case rel=>exact ⟨j+1,by go_num,by omega,hbs⟩
        case measure=>simp [intOf];omega
     ·obtain rfl:i=Gs.length:=by omega
      have hI:¬ ((Gs.length:Int) < (Gs.length:Int)):=by omega
      go_wp2
      go_meet
      exact hbr
  case rest =>
   have HB3:=Hd (HB2.out.trans (hcut.mono HB2.out.size))
   have HZ2:=Hd (HZ.out.1.bel HB3.out)
   have HBW:=Hd (HB.out.trans (HB3.out.mono HB.out.size))
   clear hcut HZ HRA HRG HPB HB HB2 HB3
   generalize wc=wz at *
   have HOV:=Hd (show ∀ L,RangeIs h.d.F [] topKey h.d.last L→(∀ i (hi:i < L.length),auAt L i L[i]=0)∧AllV (fun s=>tell h.d.F s h.d.last) L from fun L hL=>⟨aud_ok hL HZ2.out.q.ord.now,AllV.of hL HZ2.out.q.ord.now⟩)
   have p0:=HZ2.out.g.pb.cell 0
   have p1:=HZ2.out.g.pb.cell 1
   simp at p0 p1
   have hgp:=HZ2.out.g.pb.lt
   have HGVz:=Hd HZ2.out.x.gv
   have HC1:=Hd (show Calls Tryz.prog 14 #[ptrV ax] wz.drew (fun e w'=>∃ A L c,e=.returned (.slice A L.length c)∧OwnKV w' wz.heap.size (.slice A L.length c) L∧RangeIs h.d.F [] topKey h.d.last L∧L.length≤800000∧Below wz.heap.size wz w') from
    ((HZ2.out.x.bel ((Below.refl wz.heap.size wz).drew)).all_h (by omega)).mono (fun e w' q=>by
     obtain ⟨v,L,q1,q2,q3,q4,q5⟩:=q
     obtain ⟨A,c,hv,_⟩:=q2.rd
     subst hv
     exact ⟨A,L,c,q1,q2,q3,q4,((Below.refl wz.heap.size wz).drew).trans q5⟩))
   have HUS:=Hd (show ∀ (A5:Option Addr) (L5:List KV) (c5 b0:Nat) W,RangeIs h.d.F [] topKey h.d.last L5→L5.length≤800000→GV w.heap.size W→w.heap.size≤W.heap.size→OwnKV W b0 (.slice A5 L5.length c5) L5 →
     Calls Tryz.prog 17 #[.slice A5 L5.length c5,.string ⟨#[120]⟩,.agg #[.int .i64 0,.int .i64 26]] W fun e w'=>e=.returned (.tuple #[.int .i64 (As.length:Int),.int .i64 62,.nilIface])∧Below W.heap.size W w' from fun A5 L5 c5 b0 W hr hl hg hs ho =>
    (audUse_any A5 L5 c5 xN (by decide) par hl (all_lens hr HZ2.out.q.ord.now) W hs hg.txt (rd_of' ho)).mono fun e w' q=>by
     obtain ⟨t,a,f,q1,q2,q3⟩:=q
     obtain ⟨r1,r2,r3⟩:=use_end (HOV.out L5 hr).1 HGR.out (HOV.out L5 hr).2 (by omega) q2
     subst r1 r2 r3
     exact ⟨q1,q3⟩)
   have HPS:=Hd (show ∀ (A5:Option Addr) (L5:List KV) (c5 b0:Nat) W,RangeIs h.d.F [] topKey h.d.last L5→L5.length≤800000→GV w.heap.size W→w.heap.size≤W.heap.size→OwnKV W b0 (.slice A5 L5.length c5) L5 →
     Calls Tryz.prog 18 #[.slice A5 L5.length c5,.string ⟨#[120]⟩] W fun e w'=>∃ A6 c6,e=.returned (.tuple #[.slice A6 (Gs.length+1) c6,.nilIface])∧Below W.heap.size W w' from fun A5 L5 c5 b0 W hr hl hg hs ho =>
    (audPrefixes_any A5 L5 c5 xN (by decide) hl (all_lens hr HZ2.out.q.ord.now) W hs hg.txt (rd_of' ho)).mono fun e w' q=>by
     obtain ⟨v,P,f,q1,q2,q3,q4⟩:=q
     obtain ⟨r1,r2⟩:=pref_end (HOV.out L5 hr).1 HGR.out (HOV.out L5 hr).2 (by omega) q2
     subst r1
     obtain ⟨A6,c6,rfl,_⟩:=own_form q3
     rw [r2] at q1
     exact ⟨A6,c6,q1,q4⟩)
   skip
   go_upto_region 83 with fail
   go_region_held3 (fun W=>W.cell? ⟨gp,0,none⟩=some (.int .i64 0)∧W.cell? ⟨gp,1,none⟩=some (.int .i64 26))
    (first
     | exact ⟨p0,p1⟩
     | exact ⟨(hba.cell hgp).trans p0,(hba.cell hgp).trans p1⟩
     | exact ⟨(hbc.cell (Nat.lt_of_lt_of_le hgp hba.size)).trans ((hba.cell hgp).trans p0),(hbc.cell (Nat.lt_of_lt_of_le hgp hba.size)).trans ((hba.cell hgp).trans p1)⟩)
    ((first
     | (go_at_call 14;refine HC1.out.mono ?_;rintro e wa ⟨A5,L5,c5,rfl,hO5,hr5,hl5,hba⟩)
     | (go_at_call 17;refine (HUS.out A5 L5 c5 _ wa hr5 hl5 (HGVz.out.on (hba.mono HBW.out.size)) (Nat.le_trans HBW.out.size hba.size) hO5).mono ?_;rintro e wb ⟨rfl,hbc⟩)))
   have hbz:Below wz.heap.size wz wb:=hba.trans (hbc.mono hba.size)
   have HZ3:=Hd (HZ2.out.x.bel hbz)
   have HB4:=Hd (HBW.out.trans (hbz.mono HBW.out.size))
   have HC2:=Hd (HZ3.out.all_h (by omega))
   have HG4:=Hd (HGVz.out.on (hbz.mono HBW.out.size))
   clear hba hbc hbz hO5 hr5 hl5 p0 p1 HC1 HUS HZ2 HGVz HBW hgp
   go_wp2_with fail
   refine HC2.out.mono ?_
   rintro e w5 ⟨v6,L6,rfl,hO6,hr6,hl6,hb6⟩
   obtain ⟨A6,c6,rfl,_⟩:=hO6.rd
   have HB5:=Hd (HB4.out.trans (hb6.mono HB4.out.size))
   have HP:=Hd (HPS.out A6 L6 c6 _ w5 hr6 hl6 (HG4.out.on (hb6.mono HB4.out.size)) HB5.out.size hO6)
   clear HC2 hO6 hr6 hl6 hb6 HPS
   go_wp2_with fail
   refine HP.out.mono ?_
   rintro e w6 ⟨A7,c7,rfl,hb7⟩
   have HB6:=Hd (HB5.out.trans (hb7.mono HB5.out.size))
   clear HP hb7
   go_wp2
   go_ret
   exact ⟨rfl,HB6.out⟩
theorem topGrants_walk (A:Option Addr) (l:List HStp) (cc:Nat) (hm:l.length≤maxLen) (hS:∀ s ∈ l,HStpOk s) (w:World) (hV:GV w.heap.size w) (hl:Rd w w.heap.size A (cellsH l)) :
  Calls Tryz.prog 4 #[.slice A l.length cc] w fun e w'=>e=.returned (.bool true)∧Below w.heap.size w w':=by
 have HS0:=Hd hS
 have HGV:=Hd hV
 have HCW:=Hd gcalls
 clear hS hV
 go_enter Tryz.func4,Tryz.ntmps4
 go_wp2_with fail
 refine (one_any w HGV.out).mono ?_
 rintro e w1 ⟨rfl,hb1⟩
 have HNW:=Hd (hallNew_ok 100000 (by decide) w1 hb1.size (HGV.out.on hb1))
 have HB1:=Hd hb1
 clear hb1
 go_wp2_with fail
 refine HNW.out.mono ?_
 rintro e w2 ⟨ax,Tx,rfl,hx2,hTx,hb2⟩
 have HB:=Hd (HB1.out.trans (hb2.mono HB1.out.size))
 have HS:=Hd (show HK w.heap.size w2 Tx ax (Hl.new 100000) 0 from hx2)
 clear HNW hx2 hTx hb2 HB1
 have hox:=HS.out.once_h (by omega) oNet HCW.out.1
 rw [gone1] at hox
 simp only [fault_zero0] at hox
 unfold CallV oNet netC at hox
 unfold AnsV at hox
 have HO:=Hd hox
 clear hox
 go_wp2_with fail
 refine HO.out.mono ?_
 rintro e w3 ⟨v1,rfl,how3,T3,hnt3,hs3⟩
 obtain ⟨A1,c1,rfl,_⟩:=how3.form
 have HS3:=Hd (hs3.hk.bel ((Below.refl w3.heap.size w3).alloc (Nat.le_refl _) (.cells #[.int .i64 noAns.pa,.int .i64 noAns.pn,.int .i64 noAns.ad,txt noAns.owner,.slice A1 noAns.list.length c1] 46)))
 have HB3:=Hd (HB.out.trans ((hs3.belB HS.out.lo).alloc (Nat.le_trans HB.out.size hs3.size) (.cells #[.int .i64 noAns.pa,.int .i64 noAns.pn,.int .i64 noAns.ad,txt noAns.owner,.slice A1 noAns.list.length c1] 46)))
 clear HO hs3 how3 hnt3 HS HB
 go_upto_region 6 with fail
 refine wp_name (fun w3a HW=>?_)
 have hs0:=HS3.out
 have hb0:=HB3.out
 rw [← HW.out] at hs0 hb0
 have HS:=Hd hs0
 have HB:=Hd hb0
 clear HW HS3 HB3 hs0 hb0
 have hox:=HS.out.once_h (by omega) pAdd HCW.out.2
 rw [gone2] at hox
 simp only [fault_zero0] at hox
 unfold CallV pAdd at hox
 unfold AnsV at hox
 have HO:=Hd hox
 clear hox
 go_wp2_with fail
 refine HO.out.mono ?_
 rintro e w4 ⟨v2,rfl,how3,T3,hnt3,hs3⟩
 obtain ⟨A2,c2,rfl,_⟩:=how3.form
 have HS3:=Hd (hs3.hk.bel ((Below.refl w4.heap.size w4).alloc (Nat.le_refl _) (.cells #[.int .i64 noAns.pa,.int .i64 noAns.pn,.int .i64 noAns.ad,txt noAns.owner,.slice A2 noAns.list.length c2] 46)))
 have HB3:=Hd (HB.out.trans ((hs3.belB HS.out.lo).alloc (Nat.le_trans HB.out.size hs3.size) (.cells #[.int .i64 noAns.pa,.int .i64 noAns.pn,.int .i64 noAns.ad,txt noAns.owner,.slice A2 noAns.list.length c2] 46)))
 clear HO hs3 how3 hnt3 HS HB
 go_upto_region 7 with fail
 refine wp_name (fun w4a HW=>?_)
 have hs0:=HS3.out
 have hb0:=HB3.out
 rw [← HW.out] at hs0 hb0
 have HS:=Hd hs0
 have HB:=Hd hb0
 clear HW HS3 HB3 hs0 hb0
 have hx4:=HS.out
 have hb4:=HB.out
 clear HS HB
 have hbp:=hb4.alloc hb4.size (.cells #[.int .i64 0,.int .i64 26] 31)
 have hxp:=hx4.bel ((Below.refl w4a.heap.size w4a).alloc (Nat.le_refl _) (.cells #[.int .i64 0,.int .i64 26] 31))
 have hpp:=Blk.new w4a 31 #[.int .i64 0,.int .i64 26]
 have hnp:¬ T3 w4a.heap.size:=fun e=>Nat.lt_irrefl _ (hx4.lt _ e)
 go_upto_region 10 with fail
 refine wp_name (fun w5 HW=>?_)
 rw [← HW.out] at hbp hxp hpp
 have HT5:=Hd (TgS.new hxp hpp hnp hb4.size)
 have HB5:=Hd hbp
 clear HW hbp hxp hpp hnp hx4 hb4 HCW
 generalize w4a.heap.size=gp at *
 go_upto_block 0 with fail
 go_cut [13,14,15,16] (fun v va vg i wx=>∃ (h:Hl) (T R:Nat→Prop) (tt:List TkV) (op:List (Opn PCall (PAns × Int))) (As:List Int) (Gs:List Pf),Hid (TgS w.heap.size wx T R ax (h) 124 v va vg tt (op) (As) (Gs) gp∧GrSz op As Gs 60)∧Below w.heap.size w wx)
 case first =>
  go_wp2
  go_loopw [13,14,15,16] (fun v va vg i wr=>∃ (k:Nat) (h:Hl) (T R:Nat→Prop) (tt:List TkV) (op:List (Opn PCall (PAns × Int))) (As:List Int) (Gs:List Pf),i=.int .i64 k∧k≤l.length∧k≤60∧Hid (TgS w.heap.size wr T R ax (h) (2 * k+4) v va vg tt (op) (As) (Gs) gp∧GrSz op As Gs k)∧Below w.heap.size w wr) (fun _ _ _ i _=>60 - (intOf i).toNat)
  case atStart=>exact ⟨0,_,_,_,_,_,_,_,by go_num,by omega,by omega,Hd ⟨HT5.out,GrSz.new⟩,HB5.out⟩
  case round =>
   clear HT5 HB5
   obtain ⟨k,h,T,R,tt,op,As,Gs,rfl,hk1,hk2,HI0,hb⟩:=hrel
   by_cases hgo:k < l.length∧k < 60
   ·obtain ⟨hlt1,hlt2⟩:=hgo
    have HKS:=Hd (HS0.out l[k] (List.getElem_mem _))
    obtain ⟨b0,of0,rfl,hbb0,c0,c1,c2,c3,c4,c5,c6,c7,c8,c9⟩:=(hl.below hb).hstp hlt1
    have hI:(k:Int) < (l.length:Int):=by omega
    have hI3:(k:Int) < 60:=by omega
    obtain ⟨Av,cv,rfl,_⟩:=own_form HI0.out.1.m.ro
    obtain ⟨Aa,ca,rfl,_⟩:=own_form HI0.out.1.g.ra
    obtain ⟨Ag,cg,rfl,_⟩:=own_form HI0.out.1.g.rg
    have hb5:=hb.alloc hb.size (.cells #[.int .i64 l[k].what,txt l[k].who,.int .i64 l[k].n,.int .i64 l[k].call.what,txt l[k].call.name,.int .i64 l[k].call.pa,.int .i64 l[k].call.pn,.int .i64 l[k].call.len,.int .i64 l[k].call.ad,txt l[k].call.owner] 35)
    have hi5:=HI0.out.1.bel ((Below.refl wr.heap.size wr).alloc (Nat.le_refl _) (.cells #[.int .i64 l[k].what,txt l[k].who,.int .i64 l[k].n,.int .i64 l[k].call.what,txt l[k].call.name,.int .i64 l[k].call.pa,.int .i64 l[k].call.pn,.int .i64 l[k].call.len,.int .i64 l[k].call.ad,txt l[k].call.owner] 35))
    have hbk:=Blk.new wr 35 #[.int .i64 l[k].what,txt l[k].who,.int .i64 l[k].n,.int .i64 l[k].call.what,txt l[k].call.name,.int .i64 l[k].call.pa,.int .i64 l[k].call.pn,.int .i64 l[k].call.len,.int .i64 l[k].call.ad,txt l[k].call.owner]
    go_upto_region 17 with fail
    refine wp_name (fun w5 HW=>?_)
    rw [← HW.out] at hb5 hi5 hbk
    have HI5:=Hd hi5
    have HB5:=Hd hb5
    have HBK:=Hd hbk
    have HG5:=Hd hbk.lt
    have HLO:=Hd hi5.lo
    have HLE:=Hd HI0.out.2
    have HNT:=Hd (show (¬ T wr.heap.size)∧∀ q,(R q∨(Value.slice Av tt.length cv).ownBlock=some q∨(Value.slice Aa As.length ca).ownBlock=some q∨(Value.slice Ag Gs.length cg).ownBlock=some q∨q=gp)→q < wr.heap.size from ⟨fun e=>Nat.lt_irrefl _ (HI0.out.1.x.lt _ e),fun q e=>by
     rcases e with e | e | e
     ·exact HI0.out.1.m.rlt q e
     ·exact HI0.out.1.m.vlt q e
     ·exact HI0.out.1.g.lt q e⟩)
    generalize wr.heap.size=g5 at *
    clear HW hb5 hi5 hbk hb HI0 c0 c1 c2 c3 c4 c5 c6 c7 c8 c9
    go_upto_block 2 with fail
    go_cut [18,19] (fun kk jj ws=>∃ kv:Int,kk=.int .i64 kv∧Hid (Srch op l[k].who op.length kv)∧Below w5.heap.size w5 ws)
    case first =>
     go_wp2
     go_loopw [18,19] (fun kk jj ws=>∃ (j:Nat) (kv:Int),jj=.int .i64 j∧kk=.int .i64 kv∧j≤tt.length∧Hid (Srch op l[k].who j kv)∧Below w5.heap.size w5 ws) (fun _ j _=>tt.length - (intOf j).toNat)
     case atStart=>exact ⟨0,-1,by go_num,rfl,Nat.zero_le _,Hd (Srch.zero _ _),Below.refl _ _⟩
     case round =>
      obtain ⟨j,kv,rfl,rfl,hj,HSC,hbs⟩:=hrel
      have hsz:=hbs.size
      have h60:tt.length≤60:=by have:=HLO.out;have:=HLE.out.lo;omega
      have x1:=(HBK.out.below hbs HG5.out).cell 1
      simp at x1
      by_cases hjl:j < tt.length
      ·have hjo:j < op.length:=by have:=HLO.out;omega
       obtain ⟨gv,cv2,hvv,hgv,t,ht,htk,hcc,_⟩:=(HI5.out.bel hbs).rowO hjo
       cases hvv
       have y0:=hcc 0 _ rfl
       rw [htk.hwho,Nat.add_zero] at y0
       have hJ:(j:Int) < (tt.length:Int):=by omega
       have HHIT:=Hd (fun (q:op[j].who=l[k].who)=>Srch.hit (op:=op) (who:=l[k].who) hjo q)
       have HMISS:=Hd (fun (q:op[j].who≠l[k].who)=>HSC.out.miss hjo q)
       generalize op[j].who=wj at *
       clear ht htk hcc hjo HSC
       by_cases e:wj=l[k].who
       ·have HR:=Hd (HHIT.out e)
        subst e
        clear HHIT HMISS
        unfold txt at x1 y0
        go_upto_region 21 with fail
        go_quiet (fail)
        generalize hWd:World.drewN wr nq=wd
        have hbd:Below w5.heap.size w5 wd:=by rw [← hWd];exact ⟨hbs.os,hbs.tape,hbs.output,hbs.size,hbs.block⟩
        clear hWd x1 y0
        go_wp2
        go_roundw
        case rel=>exact ⟨j+1,(j:Int),by go_num,rfl,by omega,HR,hbd⟩
        case measure=>simp [intOf];omega
       ·have HR:=Hd (HMISS.out e)
        have hne:(wj == l[k].who)=false:=by simpa using e
        clear HHIT HMISS e
        unfold txt at x1 y0
        go_upto_region 21 with fail
        go_quiet (fail)
        generalize hWd:World.drewN wr nq=wd
        have hbd:Below w5.heap.size w5 wd:=by rw [← hWd];exact ⟨hbs.os,hbs.tape,hbs.output,hbs.size,hbs.block⟩
        clear hWd x1 y0
        go_wp2
        go_roundw
        case rel=>exact ⟨j+1,kv,by go_num,rfl,by omega,HR,hbd⟩
        case measure=>simp [intOf];omega
      ·obtain rfl:j=tt.length:=by omega
       have hJ:¬ ((tt.length:Int) < (tt.length:Int)):=by omega
       go_wp2
       go_meet
       exact ⟨kv,rfl,Hd (by have:=HSC.out;rwa [HLO.out] at this),hbs⟩
    case rest =>
     rename_i hK
     obtain ⟨kv,rfl,HSR,hbs⟩:=hcut
     generalize wc=w6 at *
     have HI:=Hd (HI5.out.bel hbs)
     have HB:=Hd (HB5.out.trans (hbs.mono HB5.out.size))
     have HBK6:=Hd (HBK.out.below hbs HG5.out)
     clear HBK hbs HG5 HI5 HB5
     refine hK _ _ ?_
     refine tg_turn (Hd ?r1) (Hd ?r2) hlt1 hlt2 HKS HLE HNT HI HB HBK6 HSR
     all_goals
      intro y13 y14 y15 y20 y21 y22 y23 y24 y25 y26 y27 y28 y29 y30 y79 y80 y81 y82 y83 y84 y85 y86 y87 y88 y89 y90 y91 y92 y93 y94 y95 y96 y97 y98 y99 y100 y101 y102 y103 y104 y105 y106 y107 y108 y109 y110 y111 y112 y113 y114 y115 y116 y117 y118 y119 y120 y121 y122 y123 y124 y125 y126 y127 y128 y129 y130 y131 y132 y133 y134 y135 y136 y137 y138 y139 y140 y141 y142 y143 y144 y145 y146 y147 y148 y149 y150 y151 y152 y153 y154 y155 y156 y157 y158 y159 y160 y161 y162 y163 y164 y165 y166 y167 y168 y169 y170 y171 y172 y173 y174 y175 y176 y177 y178 y179 y180 y181 y182 y183 y184 y185 y186 y187 y188 y189 y190 y191 y192 y193 y194 y195 y196 y197 y198 y199 y200 y201 y202 y203 y204 y205 y206 y207 y208 y209 y210 y211 y212 y213 y214 y215 y216 y217 y218 y219 y220 y221 y222 y223 y224 y225 y226 y227 y228 y229 y230 y231 y232 y233 y234 y235 y236 y237 y238 y239 y240 y241 y242 y243 w' hrel
      obtain ⟨h',T',R',tt',op',As',Gs',HI',hb'⟩:=hrel
      clear hK HI HB HBK6 HSR HLE HNT HKS
      go_wp2
      go_roundw
      case rel=>exact ⟨k+1,h',T',R',tt',op',As',Gs',by go_num,by omega,by omega,HI',hb'⟩
      case measure=>simp [intOf];omega
   ·by_cases hlt1:k < l.length
    ·have hI:(k:Int) < (l.length:Int):=by omega
     have hI4:¬ (k:Int) < 60:=by omega
     go_wp2
     go_meet
     exact ⟨h,T,R,tt,op,As,Gs,Hd ⟨HI0.out.1.more (by omega),HI0.out.2.upto hk2⟩,hb⟩
    ·have hI:¬ (k:Int) < (l.length:Int):=by omega
     go_wp2
     go_meet
     exact ⟨h,T,R,tt,op,As,Gs,Hd ⟨HI0.out.1.more (by omega),HI0.out.2.upto hk2⟩,hb⟩
 case rest =>
  rename_i hK
  exact hK _ _ (topGrants_rest A l cc w wc w3 w4 A1 A2 ax gp c1 c2 u13 u14 u15 u16 u17 u18 u19 u20 u21 u22 u23 u24 u25 u26 u27 u28 u29 u30 u79 u80 u81 u82 u83 u84 u85 u86 u87 u88 u89 u90 u91 u92 u93 u94 u95 u96 u97 u98 u99 u100 u101 u102 u103 u104 u105 u106 u107 u108 u109 u110 u111 u112 u113 u114 u115 u116 u117 u118 u119 u120 u121 u122 u123 u124 u125 u126 u127 u128 u129 u130 u131 u132 u133 u134 u135 u136 u137 u138 u139 u140 u141 u142 u143 u144 u145 u146 u147 u148 u149 u150 u151 u152 u153 u154 u155 u156 u157 u158 u159 u160 u161 u162 u163 u164 u165 u166 u167 u168 u169 u170 u171 u172 u173 u174 u175 u176 u177 u178 u179 u180 u181 u182 u183 u184 u185 u186 u187 u188 u189 u190 u191 u192 u193 u194 u195 u196 u197 u198 u199 u200 u201 u202 u203 u204 u205 u206 u207 u208 u209 u210 u211 u212 u213 u214 u215 u216 u217 u218 u219 u220 u221 u222 u223 u224 u225 u226 u227 u228 u229 u230 u231 u232 u233 u234 u235 u236 u237 u238 u239 u240 u241 u242 u243 hcut)
end Go.Proofs.YtkckcbhnnllkhaaGreatDoor
