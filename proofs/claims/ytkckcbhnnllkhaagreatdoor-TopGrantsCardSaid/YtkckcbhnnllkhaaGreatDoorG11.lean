/- Parts of the proof; conditions: as each theorem says. -/
import Derived.Test.YtkckcbhnnllkhaaGreatDoorProg
import Derived.Test.YtkckcbhnnllkhaaGreatDoorG10
import Derived.Test.YtkckcbhnnllkhaaGreatDoorG14
import Derived.Lib.AppendStr
import Derived.Laws.BytesString
import Derived.Laws.Strings
import Derived.Laws.Cover1
import Derived.WalkKit
import Derived.WalkLawsBesides
import Derived.WalkSpells
import Derived.Defers
import Derived.Recover
import Derived.Deep.QuietTactic
import Derived.BigQuiet
import Derived.Test.YtkckcbhnnllkhaaGreatDoorG27
import Derived.Maps.OwnOps
import Derived.Maps.OwnSet
set_option linter.unusedVariables false
set_option linter.unusedSimpArgs false
set_option maxRecDepth 100000
set_option maxHeartbeats 40000000
namespace Go.Proofs.YtkckcbhnnllkhaaGreatDoor
open Go.RowKit
theorem strKey:Maps.Keyed Tryz.prog 9:=Maps.string_keyed Tryz.underlying9
theorem txt_key (s:List UInt8) (h:s.length≤maxLen):∃ kl,keyOf Tryz.prog 9 (txt s)=some kl:=⟨_,WideMaps.keyOf_string_mk Tryz.underlying9 (by simpa [ByteArray.size] using h)⟩
theorem new_any (w:World):Calls Tryz.prog 33 #[] w fun e w'=>∃ t,e=.returned (.pointer (some ⟨t,0,none⟩))∧w.heap.size≤t∧Blk w' t 148 #[.map (some w.heap.size),.int .i64 0] ∧
  TabAt w' Tryz.prog 9 174 (fun g=>w.heap.size≤g) w.heap.size #[] 0 (fun _=>[])∧t≠w.heap.size∧Below w.heap.size w w':=by
 have hmk:=run_makeMap (P:=Tryz.prog) 146 w
 go_enter Tryz.func33,Tryz.ntmps33
 go_wp2
 go_ret
 refine ⟨w.heap.size+1,rfl,by omega,?_,(TabAt.new w (Nat.le_refl _)).alloc _,by omega,((Below.refl _ _).alloc (Nat.le_refl _) _).alloc (by simp) _⟩
 have:=heap_alloc_new (w.alloc (.map #[] 0)) (.cells #[.map (some w.heap.size),.int .i64 0] 148)
 rw [World.size_alloc] at this
 exact this
def keyB (s:List UInt8):Bool:=decide (s≠[]) && decide (s.length≤24)
theorem key_any (s:List UInt8) (hs:s.length≤maxLen) (w:World):Calls Tryz.prog 106 #[txt s] w fun e w'=>e=.returned (.bool (keyB s))∧w'=w:=by
 by_cases h:s=[]
 ·subst h
  go_enter Tryz.func106,Tryz.ntmps106
  go_wp2
  go_ret
  exact ⟨by rfl,rfl⟩
 ·go_enter Tryz.func106,Tryz.ntmps106
  go_wp2
  go_ret
  refine ⟨?_,rfl⟩
  show Ending.returned (.bool (!s.isEmpty && decide ((s.length:Int)≤24)))=_
  congr 2
  rw [Bool.eq_iff_iff]
  simp [keyB,List.isEmpty_iff]
  omega
def numB (n:Int):Bool:=decide (0≤n) && decide (n≤1000000)
theorem number_any (n:Int) (w:World):Calls Tryz.prog 78 #[.int .i64 n] w fun e w'=>e=.returned (.bool (numB n))∧w'=w:=by
 by_cases h:0≤n
 ·go_enter Tryz.func78,Tryz.ntmps78
  go_wp2
  go_ret
  exact ⟨by simp [numB,h],rfl⟩
 ·go_enter Tryz.func78,Tryz.ntmps78
  go_wp2
  go_ret
  exact ⟨by simp [numB];omega,rfl⟩
def fnd (l:List Ver) (n:Int):Nat→Nat
 | 0=>0
 | m+1=>match l[m]? with
  | some v=>if n < v.n then fnd l n m else m+1
  | none=>fnd l n m
theorem fnd_step {l:List Ver} {n:Int} {m:Nat} (h:m < l.length):fnd l n (m+1)=if n < l[m].n then fnd l n m else m+1:=by
 rw [fnd,List.getElem?_eq_getElem h]
theorem fnd_le (l:List Ver) (n:Int):∀ m,fnd l n m≤m
 | 0=>Nat.le_refl _
 | m+1=>by
  have:=fnd_le l n m
  rw [fnd]
  split
  ·split <;> omega
  ·omega
theorem find_any (A:Option Addr) (l:List Ver) (c:Nat) (n:Int) (hlen:l.length≤1000000) (w:World) (hl:Rd w w.heap.size A (cellsV l)) :
  Calls Tryz.prog 79 #[.slice A l.length c,.int .i64 n] w fun e w'=>e=.returned (.int .i64 ((fnd l n l.length:Int) - 1))∧w'=w:=by
 go_enter Tryz.func79,Tryz.ntmps79
 go_wp2
 go_loopw [5] (fun k wr=>wr=w∧∃ m:Nat,m≤l.length∧k=.int .i64 ((m:Int) - 1)∧fnd l n l.length=fnd l n m) (fun k _=>(intOf k+1).toNat)
 case atStart=>exact ⟨rfl,l.length,Nat.le_refl _,by go_num,rfl⟩
 case round =>
  obtain ⟨rfl,m,hm,rfl,hg⟩:=hrel
  cases m with
  | zero =>
   have HG:=Hd (show fnd l n l.length=0 by rw [hg];rfl)
   clear hg
   go_wp2
   go_ret
   exact ⟨by rw [HG.out];rfl,rfl⟩
  | succ m =>
   obtain ⟨b,off,rfl,hbb,c0,c1,c2⟩:=hl.ver (show m < l.length by omega)
   have hstep:=fnd_step (n:=n) (show m < l.length by omega)
   have e0:(((m+1:Nat):Int) - 1)=(m:Int):=by omega
   rw [e0]
   by_cases hf:n < l[m].n
   ·have HG:=Hd (show fnd l n l.length=fnd l n m by rw [hg,hstep,if_pos hf])
    clear hg hstep
    go_wp2
    go_roundw
    case rel=>exact ⟨trivial,m,by omega,rfl,HG.out⟩
    case measure=>simp [intOf]
   ·have HG:=Hd (show fnd l n l.length=m+1 by rw [hg,hstep,if_neg hf])
    clear hg hstep
    go_wp2
    go_ret
    exact ⟨by rw [HG.out,e0];rfl,rfl⟩
structure Good (F:List UInt8→List Ver) (top:Int) (n:Nat):Prop where
 len:∀ s,(F s).length≤n
 num:∀ s,∀ v ∈ F s,1≤v.n∧v.n≤top∧v.val.length≤12
 key:∀ s,F s≠[]→s≠[]∧s.length≤24
 rise:∀ s,(F s).Pairwise (fun x y=>x.n < y.n)
 top0:0≤top∧top≤1000000
theorem Good.new:Good (fun _=>[]) 0 0:=⟨by simp,by simp,by simp,by simp,by omega⟩
structure TblAt (w:World) (S:Nat→Prop) (t:Nat) (F:List UInt8→List Ver) (top:Int) (n:Nat):Prop where
 tab:∃ b es clock,Blk w t 148 #[.map (some b),.int .i64 top]∧TabAt w Tryz.prog 9 174 S b es clock F∧es.size≤n
 ht:S t
 good:Good F top n
def faultV (k:Int):Value:=if k=0 then .nilIface else .iface 71 (.int .i64 k)
def tell (F:List UInt8→List Ver) (s:List UInt8) (n:Int):Option (List UInt8):=match fnd (F s) n (F s).length with
 | 0=>none
 | k+1=>match (F s)[k]? with
  | some v=>if v.gone then none else some v.val
  | none=>none
def getV (F:List UInt8→List Ver) (s:List UInt8) (n:Int):List UInt8 × Int:=if numB n then match tell F s n with
  | some v=>(v,0)
  | none=>([],4)
 else ([],1)
theorem zeroRow (w:World):(zeroValue 171).run Tryz.prog w=.ok (.slice none 0 0) w:=by kernel_rfl
theorem get_any (t:Nat) (F:List UInt8→List Ver) (top:Int) (m:Nat) (S:Nat→Prop) (s:List UInt8) (hs:s.length≤maxLen) (n:Int) (hm:m≤1000000) (w:World) (hT:TblAt w S t F top m) :
  Calls Tryz.prog 108 #[.pointer (some ⟨t,0,none⟩),txt s,.int .i64 n] w fun e w'=>e=.returned (.tuple #[txt (getV F s n).1,faultV (getV F s n).2])∧w'=w:=by
 obtain ⟨⟨b,es,clock,hB,hM,hn⟩,ht,hg⟩:=hT
 obtain ⟨kl,hkl⟩:=txt_key s hs
 have hx:=hB.cell 0
 simp at hx
 have hlen:=hg.len s
 by_cases h0:numB n=true
 ·rcases hM.map.look strKey Tryz.underlying146 (zeroRow w) hkl false with ⟨h1,hrun⟩ | ⟨v,h1,hrun⟩
  ·have hF:=hM.none h1
   have hR:=Hd (show getV F s n=([],4) by simp [getV,h0,tell,hF,fnd])
   have hf:=find_any none [] 0 n (by simp) w (by intro h;simp [cellsV] at h)
   simp only [List.length_nil,fnd] at hf
   simp only [Bool.false_eq_true,if_false] at hrun
   have hnum:=number_any n w
   rw [h0] at hnum
   have HF:=Hd hf
   have HN:=Hd hnum
   clear hf hnum
   go_enter Tryz.func108,Tryz.ntmps108
   go_wp2_with fail
   refine HN.out.mono ?_
   rintro e w1 ⟨rfl,rfl⟩
   go_wp2_with fail
   refine HF.out.mono ?_
   rintro e w1 ⟨rfl,rfl⟩
   go_wp2
   go_ret2
   exact ⟨by rw [hR.out];rfl,rfl⟩
  ·obtain ⟨hne,hrow⟩:=hM.rows s v h1
   obtain ⟨A,c,rfl,hrd⟩:=own_form hrow
   have hf:=find_any A (F s) c n (by omega) w hrd
   have hnum:=number_any n w
   rw [h0] at hnum
   have HN:=Hd hnum
   clear hnum
   simp only [Bool.false_eq_true,if_false] at hrun
   generalize hk:fnd (F s) n (F s).length=k at hf
   have hkle:=fnd_le (F s) n (F s).length
   rw [hk] at hkle
   cases k with
   | zero =>
    have hR:=Hd (show getV F s n=([],4) by simp [getV,h0,tell,hk])
    have HF:=Hd hf
    clear hf
    go_enter Tryz.func108,Tryz.ntmps108
    go_wp2_with fail
    refine HN.out.mono ?_
    rintro e w1 ⟨rfl,rfl⟩
    go_wp2_with fail
    refine HF.out.mono ?_
    rintro e w1 ⟨rfl,rfl⟩
    go_wp2
    go_ret2
    exact ⟨by rw [hR.out];rfl,rfl⟩
   | succ k =>
    have hkl':k < (F s).length:=by omega
    obtain ⟨g,off,rfl,hgb,c0,c1,c2⟩:=hrd.ver hkl'
    have e0:(((k+1:Nat):Int) - 1)=(k:Int):=by omega
    rw [e0] at hf
    have HF:=Hd hf
    clear hf
    have hR0:getV F s n=if (F s)[k].gone then ([],4) else ((F s)[k].val,0):=by
     simp only [getV,h0,tell,hk,List.getElem?_eq_getElem hkl',if_true]
     split <;> simp_all
    by_cases hgone:(F s)[k].gone=true
    ·have hR:=Hd (show getV F s n=([],4) by rw [hR0,if_pos hgone])
     rw [hgone] at c2
     go_enter Tryz.func108,Tryz.ntmps108
     go_wp2_with fail
     refine HN.out.mono ?_
     rintro e w1 ⟨rfl,rfl⟩
     go_wp2_with fail
     refine HF.out.mono ?_
     rintro e w1 ⟨rfl,rfl⟩
     go_wp2
     go_ret2
     exact ⟨by rw [hR.out];rfl,rfl⟩
    ·have hR:=Hd (show getV F s n=((F s)[k].val,0) by rw [hR0,if_neg hgone])
     rw [Bool.not_eq_true] at hgone
     rw [hgone] at c2
     go_enter Tryz.func108,Tryz.ntmps108
     go_wp2_with fail
     refine HN.out.mono ?_
     rintro e w1 ⟨rfl,rfl⟩
     go_wp2_with fail
     refine HF.out.mono ?_
     rintro e w1 ⟨rfl,rfl⟩
     go_wp2
     go_ret2
     exact ⟨by rw [hR.out];rfl,rfl⟩
 ·rw [Bool.not_eq_true] at h0
  have hR:=Hd (show getV F s n=([],1) by simp [getV,h0])
  have hnum:=number_any n w
  rw [h0] at hnum
  go_enter Tryz.func108,Tryz.ntmps108
  go_wp2_with fail
  refine hnum.mono ?_
  rintro e w1 ⟨rfl,rfl⟩
  go_wp2
  go_ret2
  exact ⟨by rw [hR.out];rfl,rfl⟩
def putE (s:List UInt8) (v:Ver) (top:Int):Int:=if keyB s=false∨12 < v.val.length then 2 else if v.n < 1∨1000000 < v.n then 1 else if v.n < top then 7 else 0
def addV (l:List Ver) (v:Ver):List Ver:=match l.getLast? with
 | some u=>if u.n=v.n then l.dropLast++[v] else l++[v]
 | none=>[v]
def putV (F:List UInt8→List Ver) (s:List UInt8) (v:Ver):List UInt8→List Ver:=upd F s (addV (F s) v)
abbrev verV (v:Ver):Value:=.agg #[.int .i64 v.n,txt v.val,.bool v.gone]
theorem put_bad (t:Nat) (k:Value) (top:Int) (s:List UInt8) (hs:s.length≤maxLen) (v:Ver) (hv:v.val.length≤maxLen) (w:World) (hB:Blk w t 148 #[k,.int .i64 top]) (hp:putE s v top≠0) :
  Calls Tryz.prog 105 #[.pointer (some ⟨t,0,none⟩),txt s,verV v] w fun e w'=>e=.returned (faultV (putE s v top))∧Below w.heap.size w w':=by
 have hBk:=Blk.new w 174 #[.int .i64 v.n,txt v.val,.bool v.gone]
 have hb0:Below w.heap.size w (w.alloc (.cells #[.int .i64 v.n,txt v.val,.bool v.gone] 174)):=(Below.refl _ _).alloc (Nat.le_refl _) _
 have hB1:=hB.below hb0 hB.lt
 have hK:=fun W=>key_any s hs W
 by_cases h1:keyB s=false
 ·have hR:=Hd (show putE s v top=2 by unfold putE;rw [if_pos (.inl h1)])
  rw [h1] at hK
  have HK:=Hd hK
  clear hK
  go_enter Tryz.func105,Tryz.ntmps105
  go_wp2_with fail
  refine (HK.out _).mono ?_
  rintro e w1 ⟨rfl,rfl⟩
  go_wp2
  go_ret
  exact ⟨by rw [hR.out];rfl,hb0⟩
 ·rw [Bool.not_eq_false] at h1
  rw [h1] at hK
  have HK:=Hd hK
  clear hK
  by_cases h2:12 < v.val.length
  ·have hR:=Hd (show putE s v top=2 by unfold putE;rw [if_pos (.inr h2)])
   go_enter Tryz.func105,Tryz.ntmps105
   go_wp2_with fail
   refine (HK.out _).mono ?_
   rintro e w1 ⟨rfl,rfl⟩
   go_wp2
   go_ret
   exact ⟨by rw [hR.out];rfl,hb0⟩
  ·have hE:putE s v top=if v.n < 1∨1000000 < v.n then 1 else if v.n < top then 7 else 0:=by unfold putE;rw [if_neg (by simp [h1,h2])]
   by_cases h3:v.n < 1
   ·have hR:=Hd (show putE s v top=1 by rw [hE,if_pos (.inl h3)])
    clear hE hp
    go_enter Tryz.func105,Tryz.ntmps105
    go_wp2_with fail
    refine (HK.out _).mono ?_
    rintro e w1 ⟨rfl,rfl⟩
    go_wp2
    go_ret
    exact ⟨by rw [hR.out];rfl,hb0⟩
   ·by_cases h4:1000000 < v.n
    ·have hR:=Hd (show putE s v top=1 by rw [hE,if_pos (.inr h4)])
     clear hE hp
     go_enter Tryz.func105,Tryz.ntmps105
     go_wp2_with fail
     refine (HK.out _).mono ?_
     rintro e w1 ⟨rfl,rfl⟩
     go_wp2
     go_ret
     exact ⟨by rw [hR.out];rfl,hb0⟩
    ·have h5:v.n < top:=by
      rw [hE,if_neg (by omega)] at hp
      by_cases h:v.n < top
      ·exact h
      ·rw [if_neg h] at hp;exact absurd rfl hp
     have hR:=Hd (show putE s v top=7 by rw [hE,if_neg (by omega),if_pos h5])
     clear hE hp
     have x0:=hBk.cell 0
     have x1:=hBk.cell 1
     have y1:=hB1.cell 1
     simp at x0 x1 y1
     go_enter Tryz.func105,Tryz.ntmps105
     go_wp2_with fail
     refine (HK.out _).mono ?_
     rintro e w1 ⟨rfl,rfl⟩
     go_wp2_with fail
     go_quiet (fail)
     go_wp2
     go_ret
     exact ⟨by rw [hR.out];rfl,by first | exact hb0 | exact ⟨hb0.os,hb0.tape,hb0.output,hb0.size,hb0.block⟩⟩
theorem infoVer:(Tryz.prog.info? 174).map (fun i=>(i.zero,i.size,i.bytes))=some (some (.agg #[.int .i64 0,.string ⟨#[]⟩,.bool false]),3,32):=by kernel_rfl
theorem putE_zero {s:List UInt8} {v:Ver} {top:Int} (h:putE s v top=0):keyB s=true∧v.val.length≤12∧1≤v.n∧v.n≤1000000∧top≤v.n:=by
 unfold putE at h
 split at h
 ·simp at h
 ·rename_i h1
  split at h
  ·simp at h
  ·split at h
   ·simp at h
   ·cases hk:keyB s with
    | false=>exact absurd (.inl hk) h1
    | true =>
     have:¬ 12 < v.val.length:=fun h=>h1 (.inr h)
     exact ⟨rfl,by omega,by omega,by omega,by omega⟩
theorem addV_mem {l:List Ver} {v x:Ver} (h:x ∈ addV l v):x=v∨x ∈ l:=by
 unfold addV at h
 split at h
 ·split at h
  ·rcases List.mem_append.1 h with h | h
   ·exact .inr ((List.dropLast_sublist l).subset h)
   ·exact .inl (by simpa using h)
  ·rcases List.mem_append.1 h with h | h
   ·exact .inr h
   ·exact .inl (by simpa using h)
 ·exact .inl (by simpa using h)
theorem addV_len (l:List Ver) (v:Ver):(addV l v).length≤l.length+1:=by
 unfold addV
 split
 ·split
  ·simp
  ·simp
 ·simp
theorem addV_rise {l:List Ver} {v:Ver} (h:l.Pairwise (fun x y=>x.n < y.n)) (hv:∀ x ∈ l,x.n≤v.n):(addV l v).Pairwise (fun x y=>x.n < y.n):=by
 unfold addV
 split
 ·rename_i u hu
  have hl:l=l.dropLast++[u]:=by
   obtain ⟨ys,rfl⟩:=List.getLast?_eq_some_iff.1 hu
   simp
  rw [hl,List.pairwise_append] at h
  split
  ·rename_i he
   rw [List.pairwise_append]
   refine ⟨h.1,by simp,?_⟩
   intro x hx y hy
   simp at hy
   subst hy
   have:=h.2.2 x hx u (by simp)
   omega
  ·rename_i he
   rw [List.pairwise_append]
   refine ⟨by rw [hl,List.pairwise_append];exact h,by simp,?_⟩
   intro x hx y hy
   simp at hy
   subst hy
   have hu2:=hv u (by rw [hl];simp)
   rw [hl] at hx
   rcases List.mem_append.1 hx with hx | hx
   ·have:=h.2.2 x hx u (by simp)
    omega
   ·simp at hx
    subst hx
    omega
 ·simp
theorem Good.put {F:List UInt8→List Ver} {top:Int} {m:Nat} {s:List UInt8} {v:Ver} (h:Good F top m) (hp:putE s v top=0):Good (putV F s v) v.n (m+1):=by
 obtain ⟨p1,p2,p3,p4,p5⟩:=putE_zero hp
 unfold putV
 refine ⟨?_,?_,?_,?_,by omega⟩
 ·intro x
  by_cases hx:x=s
  ·subst hx
   rw [upd_same]
   have:=addV_len (F x) v
   have:=h.len x
   omega
  ·rw [upd_other _ _ hx]
   have:=h.len x
   omega
 ·intro x y hy
  by_cases hx:x=s
  ·subst hx
   rw [upd_same] at hy
   rcases addV_mem hy with rfl | hy
   ·exact ⟨p3,Int.le_refl _,p2⟩
   ·have:=h.num x y hy
    omega
  ·rw [upd_other _ _ hx] at hy
   have:=h.num x y hy
   omega
 ·intro x hx
  by_cases hxs:x=s
  ·subst hxs
   unfold keyB at p1
   simp at p1
   exact p1
  ·rw [upd_other _ _ hxs] at hx
   exact h.key x hx
 ·intro x
  by_cases hx:x=s
  ·subst hx
   rw [upd_same]
   exact addV_rise (h.rise x) (fun y hy=>by have:=h.num x y hy;omega)
  ·rw [upd_other _ _ hx]
   exact h.rise x
def encKV (p:KV):List Value:=[txt p.1,txt p.2]
theorem encKV_len (p:KV):(encKV p).length=2:=rfl
theorem encKV_one (p:KV):∀ u ∈ encKV p,u.oneCell'=true:=by
 intro u hu
 simp [encKV] at hu
 rcases hu with rfl | rfl <;> rfl
theorem infoKV:(Tryz.prog.info? 78).map (fun i=>(i.zero,i.size,i.bytes))=some (some (.agg #[.string ⟨#[]⟩,.string ⟨#[]⟩]),2,32):=by kernel_rfl
def OwnKV (w:World) (base:Nat) (v:Value) (l:List KV):Prop:=w.ownsRow base 78 2 v l.length (flatE encKV l)
theorem OwnKV.nil (w:World) (base:Nat):OwnKV w base (.slice none 0 0) []:=World.ownsRow_nil _ _ _ _
theorem OwnKV.rd {w:World} {base:Nat} {v:Value} {l:List KV} (h:OwnKV w base v l):∃ A c,v=.slice A l.length c∧Rd w w.heap.size A (flatE encKV l):=own_form h
theorem Rd.kv {w:World} {B:Nat} {A:Option Addr} {l:List KV} (h:Rd w B A (flatE encKV l)) {k:Nat} (hk:k < l.length) :
  ∃ b off,A=some ⟨b,off,none⟩∧b < B∧w.cell? ⟨b,off+k * 2,none⟩=some (txt l[k].1)∧w.cell? ⟨b,off+k * 2+1,none⟩=some (txt l[k].2):=by
 obtain ⟨b,off,e,hb,hc⟩:=Rd.elt encKV_len h hk (by decide)
 exact ⟨b,off,e,hb,hc 0 _ rfl,hc 1 _ rfl⟩
def inB (lo hi s:List UInt8):Bool:=!lessB s lo && lessB s hi
structure RangeIs (F:List UInt8→List Ver) (lo hi:List UInt8) (n:Int) (L:List KV):Prop where
 rise:Rise Prod.fst L
 mem:∀ s v,(s,v) ∈ L ↔ inB lo hi s=true∧tell F s n=some v
theorem tell_nil {F:List UInt8→List Ver} {s:List UInt8} {n:Int} (h:F s=[]):tell F s n=none:=by simp [tell,h,fnd]
structure RngRel (F:List UInt8→List Ver) (lo hi:List UInt8) (n:Int) (es:Array MapEntry) (left:List MapEntry) (out:List KV):Prop where
 nodup:(out.map Prod.fst).Nodup
 mem:∀ s v,(s,v) ∈ out ↔ inB lo hi s=true∧tell F s n=some v∧∀ x ∈ left,x.key≠txt s
 len:out.length+left.length≤es.size
section
variable {F : List UInt8 → List Ver} {lo hi : List UInt8} {n : Int} {es : Array MapEntry} {left left' : List MapEntry} {out : List KV}
theorem RngRel.start (ht:∀ s,F s≠[]→∃ v,Has es (txt s) v):RngRel F lo hi n es es.toList []:=by
 refine ⟨by simp,fun s v=>⟨fun h=>by simp at h,fun ⟨_,h2,h3⟩=>?_⟩,by simp⟩
 by_cases h:F s=[]
 ·rw [tell_nil h] at h2
  cases h2
 ·obtain ⟨v,x,hx,hk,_⟩:=ht s h
  exact absurd hk (h3 x hx)
theorem RngRel.skip (h:RngRel F lo hi n es left out) {e:MapEntry} {s:List UInt8} (hp:List.Perm left (e::left')) (hs:e.key=txt s) (hno:inB lo hi s=true→tell F s n=none):RngRel F lo hi n es left' out:=by
 refine ⟨h.nodup,fun s' v=>?_,by have:=h.len;have:=hp.length_eq;simp at this;omega⟩
 rw [h.mem]
 constructor
 ·rintro ⟨h1,h2,h3⟩
  exact ⟨h1,h2,fun x hx=>h3 x (hp.mem_iff.2 (List.mem_cons_of_mem _ hx))⟩
 ·rintro ⟨h1,h2,h3⟩
  refine ⟨h1,h2,fun x hx=>?_⟩
  rcases List.mem_cons.1 (hp.mem_iff.1 hx) with rfl | hx
  ·intro e2
   rw [hs] at e2
   have:=txt_inj e2
   subst this
   rw [hno h1] at h2
   cases h2
  ·exact h3 x hx
theorem RngRel.add (h:RngRel F lo hi n es left out) {e:MapEntry} {s v:List UInt8} (hp:List.Perm left (e::left')) (hs:e.key=txt s) (hin:inB lo hi s=true) (hv:tell F s n=some v) (hl:∀ x ∈ left',x.key≠e.key) :
  RngRel F lo hi n es left' (out++[(s,v)]):=by
 refine ⟨?_,fun s' v'=>?_,by have:=h.len;have:=hp.length_eq;simp at this ⊢;omega⟩
 ·rw [List.map_append,List.nodup_append]
  refine ⟨h.nodup,by simp,?_⟩
  intro a ha b hb
  simp at hb
  subst hb
  intro e2
  subst e2
  obtain ⟨⟨s1,v1⟩,h1,h2⟩:=List.mem_map.1 ha
  simp only at h2
  subst h2
  exact ((h.mem _ _).1 h1).2.2 e (hp.mem_iff.2 List.mem_cons_self) hs
 ·rw [List.mem_append,List.mem_singleton,h.mem]
  constructor
  ·rintro (⟨h1,h2,h3⟩ | h1)
   ·exact ⟨h1,h2,fun x hx=>h3 x (hp.mem_iff.2 (List.mem_cons_of_mem _ hx))⟩
   ·injection h1 with h1 h2
    subst h1
    subst h2
    exact ⟨hin,hv,fun x hx=>by rw [← hs];exact hl x hx⟩
  ·rintro ⟨h1,h2,h3⟩
   by_cases e2:s'=s
   ·subst e2
    rw [hv] at h2
    injection h2 with h2
    exact .inr (by rw [h2])
   ·refine .inl ⟨h1,h2,fun x hx=>?_⟩
    rcases List.mem_cons.1 (hp.mem_iff.1 hx) with rfl | hx
    ·intro e3
     rw [hs] at e3
     exact e2 (txt_inj e3).symm
    ·exact h3 x hx
theorem RngRel.done (h:RngRel F lo hi n es [] out) {L:List KV} (hp:L.Perm out) (hs:L.Pairwise (fun x y=>lessB y.1 x.1=false)):RangeIs F lo hi n L:=by
 refine ⟨Rise.of_sorted hs ((hp.map _).nodup_iff.2 h.nodup),fun s v=>?_⟩
 rw [hp.mem_iff,h.mem]
 simp
end
abbrev strV (l:List UInt8):Value:=.string ⟨l.toArray⟩
def bytesV (l:List UInt8):List Value:=l.map fun b=>.int .u8 (b.toNat:Int)
theorem bytesV_length (l:List UInt8):(bytesV l).length=l.length:=by simp [bytesV]
theorem bytesV_append (a b:List UInt8):bytesV (a++b)=bytesV a++bytesV b:=by simp [bytesV]
theorem bytesV_nil {l:List UInt8} (h:bytesV l=[]):l=[]:=by simpa [bytesV] using h
theorem bytesV_one (l:List UInt8):∀ u ∈ bytesV l,u.oneCell'=true:=by
 intro u hu
 simp only [bytesV,List.mem_map] at hu
 obtain ⟨b,_,rfl⟩:=hu
 rfl
theorem strCells_mk (l:List UInt8):Lib.strCells ⟨l.toArray⟩=bytesV l:=by simp [Lib.strCells,bytesV]
@[simp] theorem size_mk (l:List UInt8):(ByteArray.mk l.toArray).size=l.length:=by
 show l.toArray.size=l.length
 simp
theorem lessB_eq:∀ (x y:List UInt8),Op.bytesLess x y=lessB x y
 | _,[]=>by simp [Op.bytesLess,lessB]
 | [],_::_=>by simp [Op.bytesLess,lessB]
 | a::x,b::y=>by simp [Op.bytesLess,lessB,lessB_eq x y]
section
variable {w w' : World} {B B' : Nat} {A : Option Addr}
theorem Rd.bytesTake {l:List UInt8} (h:Rd w B A (bytesV l)) (n:Nat):Rd w B A (bytesV (l.take n)):=fun hn=>by
 obtain ⟨b,off,e,hb,hc⟩:=h (fun h=>hn (by rw [bytesV_nil h];simp [bytesV]))
 refine ⟨b,off,e,hb,fun j u hu=>hc j u ?_⟩
 simp only [bytesV,List.getElem?_map,List.getElem?_take] at hu ⊢
 split at hu
 ·exact hu
 ·cases hu
end
def Small (l:List Chg):Prop:=∀ c ∈ l,c.key.length≤maxLen∧c.val.length≤maxLen
def cellsC:List Chg→List Value
 | []=>[]
 | c::l=>strV c.key::strV c.val::.bool c.gone::cellsC l
theorem cellsC_length:∀ l,(cellsC l).length=l.length * 3
 | []=>rfl
 | c::l=>by simp [cellsC,cellsC_length l];omega
theorem cellsC_at:∀ (l:List Chg) (k:Nat) (h:k < l.length),(cellsC l)[3 * k]?=some (strV l[k].key)∧(cellsC l)[3 * k+1]?=some (strV l[k].val)∧(cellsC l)[3 * k+2]?=some (.bool l[k].gone)
 | c::l,0,_=>by simp [cellsC]
 | c::l,k+1,h=>by
  have ih:=cellsC_at l k (by simpa using h)
  have e1:3 * (k+1)=3 * k+1+1+1:=by omega
  rw [e1]
  simpa [cellsC] using ih
theorem Rd.chg {w:World} {B:Nat} {A:Option Addr} {l:List Chg} (h:Rd w B A (cellsC l)) {k:Nat} (hk:k < l.length) :
  ∃ b off,A=some ⟨b,off,none⟩∧b < B∧w.cell? ⟨b,off+k * 3,none⟩=some (strV l[k].key)∧w.cell? ⟨b,off+k * 3+1,none⟩=some (strV l[k].val)∧w.cell? ⟨b,off+k * 3+2,none⟩=some (.bool l[k].gone):=by
 obtain ⟨b,off,e,hb,hc⟩:=h (fun h=>by have:=cellsC_length l;rw [h] at this;simp at this;omega)
 rw [Nat.mul_comm k 3]
 obtain ⟨h1,h2,h3⟩:=cellsC_at l k hk
 exact ⟨b,off,e,hb,hc _ _ h1,hc _ _ h2,hc _ _ h3⟩
theorem infoU8:(Tryz.prog.info? 5).map (fun i=>(i.zero,i.size,i.bytes))=some (some (.int .u8 0),1,1):=by kernel_rfl
def keyOk (k:List UInt8):Bool:=decide (1≤k.length) && decide (k.length≤24)
theorem ckey_any (k:List UInt8) (hm:k.length≤maxLen) (w:World):Calls Tryz.prog 106 #[strV k] w fun e w'=>e=.returned (.bool (keyOk k))∧w'=w:=by
 have hwl:wrap64 (k.length:Int)=k.length:=by unfold maxLen at hm;unfold wrap64;omega
 rcases k with _ | ⟨x,k⟩
 ·go_enter Tryz.func106,Tryz.ntmps106
  go_wp2
  go_ret
  exact ⟨rfl,rfl⟩
 ·have hk:keyOk (x::k)=decide ((k.length:Int)+1≤24):=by
   by_cases h:k.length+1≤24
   ·have h2:(k.length:Int)+1≤24:=by omega
    simp [keyOk,h2];omega
   ·have h2:¬ (k.length:Int)+1≤24:=by omega
    simp [keyOk,h2];omega
  have hK:=Hd hk
  clear hk
  go_enter Tryz.func106,Tryz.ntmps106
  go_wp2
  go_ret
  exact ⟨by rw [hK.out];rfl,rfl⟩
def errV (k:Int):Value:=if k=0 then .nilIface else .iface 71 (.int .i64 k)
def prevC (l:List Chg) (k:Nat):Option Chg:=if k=0 then none else l[k - 1]?
def riseAt (p:Option Chg) (c:Chg):Bool:=match p with | none=>true | some q=>!(lessB c.key q.key || c.key == q.key)
theorem riseOk_cons (p:Option Chg) (c:Chg) (l:List Chg):riseOk p (c::l)=(oneOk c && riseAt p c && riseOk (some c) l):=by
 cases p <;> rfl
theorem rise_next {l:List Chg} {k:Nat} (h:k < l.length) (hg:riseOk none l=riseOk (prevC l k) (l.drop k)) (h1:oneOk l[k]=true) (h2:riseAt (prevC l k) l[k]=true):riseOk none l=riseOk (prevC l (k+1)) (l.drop (k+1)):=by
 rw [hg,List.drop_eq_getElem_cons h,riseOk_cons,h1,h2]
 simp [prevC,List.getElem?_eq_getElem h]
theorem rise_bad {l:List Chg} {k:Nat} (h20:l.length≤20) (h:k < l.length) (hg:riseOk none l=riseOk (prevC l k) (l.drop k)) (h1:oneOk l[k]=false∨riseAt (prevC l k) l[k]=false):errV (chgFault l)=.iface 71 (.int .i64 2):=by
 have e:riseOk none l=false:=by
  rw [hg,List.drop_eq_getElem_cons h,riseOk_cons]
  rcases h1 with h1 | h1 <;> simp [h1]
 unfold chgFault
 rw [if_neg (by omega),e]
 rfl
theorem rise_end {l:List Chg} (h20:l.length≤20) (hg:riseOk none l=riseOk (prevC l l.length) (l.drop l.length)):errV (chgFault l)=.nilIface:=by
 have e:riseOk none l=true:=by rw [hg];simp [riseOk]
 unfold chgFault
 rw [if_neg (by omega),if_pos e]
 rfl
theorem check_any (A:Option Addr) (l:List Chg) (c:Nat) (hm:l.length≤maxLen) (hS:Small l) (w:World) (hl:Rd w w.heap.size A (cellsC l)) :
  Calls Tryz.prog 104 #[.slice A l.length c] w fun e w'=>e=.returned (errV (chgFault l))∧Below w.heap.size w w':=by
 have hw:wrap64 (l.length:Int)=l.length:=by unfold maxLen at hm;unfold wrap64;omega
 by_cases h20:l.length≤20
 ·have h20':¬ (20:Int) < (l.length:Int):=by omega
  have HS:=Hd hS
  clear hS
  go_enter Tryz.func104,Tryz.ntmps104
  go_wp2
  go_loopw [3,4,11] (fun _ _ i wr=>∃ k:Nat,k≤l.length∧i=.int .i64 k∧Below w.heap.size w wr∧riseOk none l=riseOk (prevC l k) (l.drop k)) (fun _ _ i _=>l.length - (intOf i).toNat)
  case atStart=>exact ⟨0,Nat.zero_le _,rfl,Below.refl _ _,rfl⟩
  case round =>
   obtain ⟨k,hk,rfl,hb,hg⟩:=hrel
   by_cases hlt:k < l.length
   ·obtain ⟨b,off,rfl,hbb,c0,c1,c2⟩:=(hl.below hb).chg hlt
    have hs:=hb.size
    have hkey:=(HS.out l[k] (List.getElem_mem _)).1
    have hval:=(HS.out l[k] (List.getElem_mem _)).2
    have hwv:wrap64 (l[k].val.length:Int)=l[k].val.length:=by unfold maxLen at hval;unfold wrap64;omega
    go_wp2_with fail
    refine wp_name ?_
    intro w2 hW2
    have hB2:Blk w2 wr.heap.size 112 #[strV l[k].key,strV l[k].val,.bool l[k].gone]:=by rw [hW2.out];exact Blk.new _ _ _
    have hbw2:Below w.heap.size w w2:=by rw [hW2.out];exact hb.alloc hs _
    have hs2:=hbw2.size
    have hl2:=hB2.lt
    have k0:∀ x:BelW w2.heap.size w2,x.1.cell? ⟨wr.heap.size,0,none⟩=some (strV l[k].key):=BelW.cell (hB2.cell 0) hl2
    have k1:∀ x:BelW w2.heap.size w2,x.1.cell? ⟨wr.heap.size,1,none⟩=some (strV l[k].val):=BelW.cell (hB2.cell 1) hl2
    have k2:∀ x:BelW w2.heap.size w2,x.1.cell? ⟨wr.heap.size,2,none⟩=some (.bool l[k].gone):=BelW.cell (hB2.cell 2) hl2
    clear hW2 c0 c1 c2 hB2
    by_cases q1:keyOk l[k].key=true
    ·by_cases q2:l[k].val.length≤12
     ·have d2:decide ((12:Int) < (l[k].val.length:Int))=false:=by simp;omega
      by_cases q3:(l[k].gone && decide (0 < l[k].val.length))=true
      ·have g1:l[k].gone=true:=by simp at q3;exact q3.1
       have g2:l[k].val.isEmpty=false:=by simp at q3 ⊢;intro h;simp [h] at q3
       have g3:(l[k].val == [])=false:=by simp at q3 ⊢;intro h;simp [h] at q3
       rw [g1] at k2
       have HX:=Hd (rise_bad h20 hlt hg (.inl (by unfold oneOk;rw [q3];simp)))
       clear hg
       refine wp_region_bel w2.heap.size w2 (by kernel_rfl) (by kernel_rfl) (Below.refl _ _) ?_
       repeat (go_big_quiet_step ((go_at_call 106;exact Calls.bel_same ((ckey_any _ hkey _).mono fun e w' h=>⟨h.1,h.2.symm⟩))))
       refine wpQuiet_nil ?_
       intro w3 hb3
       have hbw3:=hbw2.trans (hb3.mono hs2)
       go_wp2
       go_ret
       exact ⟨by rw [HX.out];rfl,hbw3⟩
      ·have q3':(l[k].gone && decide (0 < l[k].val.length))=false:=by simpa using q3
       have q4:oneOk l[k]=true:=by unfold oneOk;rw [q3'];simp [keyOk] at q1;simp [q1,q2]
       rcases Nat.eq_zero_or_pos k with rfl | hk0
       ·have HX:=Hd (rise_next hlt hg q4 rfl)
        clear hg
        have d4:decide ((0:Int) < ((0:Nat):Int))=false:=by simp
        rcases hgo:l[0].gone with _ | _
        ·rw [hgo] at k2
         refine wp_region_bel w2.heap.size w2 (by kernel_rfl) (by kernel_rfl) (Below.refl _ _) ?_
         repeat (go_big_quiet_step ((go_at_call 106;exact Calls.bel_same ((ckey_any _ hkey _).mono fun e w' h=>⟨h.1,h.2.symm⟩))))
         refine wpQuiet_nil ?_
         intro w3 hb3
         have hbw3:=hbw2.trans (hb3.mono hs2)
         go_wp2
         go_roundw
         case rel=>exact ⟨0+1,by omega,by go_num,hbw3,HX.out⟩
         case measure=>simp [intOf];omega
        ·rw [hgo] at k2 q3'
         have g2:l[0].val.isEmpty=true:=by simpa using q3'
         have g3:(l[0].val == [])=true:=by simpa using q3'
         refine wp_region_bel w2.heap.size w2 (by kernel_rfl) (by kernel_rfl) (Below.refl _ _) ?_
         repeat (go_big_quiet_step ((go_at_call 106;exact Calls.bel_same ((ckey_any _ hkey _).mono fun e w' h=>⟨h.1,h.2.symm⟩))))
         refine wpQuiet_nil ?_
         intro w3 hb3
         have hbw3:=hbw2.trans (hb3.mono hs2)
         go_wp2
         go_roundw
         case rel=>exact ⟨0+1,by omega,by go_num,hbw3,HX.out⟩
         case measure=>simp [intOf];omega
       ·obtain ⟨j,rfl⟩:∃ j,k=j+1:=⟨k - 1,by omega⟩
        obtain ⟨b',off',he,hbb',e0,_,_⟩:=(hl.below hb).chg (k:=j) (by omega)
        obtain ⟨rfl,rfl⟩:b=b'∧off=off':=by simpa using he
        have k3:∀ x:BelW w2.heap.size w2,x.1.cell? ⟨b,off+j * 3,none⟩=some (strV l[j].key):=BelW.cell ((hbw2.cell (p:=⟨b,off+j * 3,none⟩) hbb).trans ((hb.cell (p:=⟨b,off+j * 3,none⟩) hbb).symm.trans e0)) (by show b < _;omega)
        clear he e0
        have hprev:prevC l (j+1)=some l[j]:=by simp [prevC,List.getElem?_eq_getElem (show j < l.length by omega)]
        have d4:decide ((0:Int) < ((j+1:Nat):Int))=true:=by simp
        have d4':decide ((0:Int) < (j:Int)+1)=true:=by simp
        rcases hle:(Op.bytesLess l[j+1].key l[j].key || l[j+1].key == l[j].key) with _ | _
        ·have HX:=Hd (rise_next hlt hg q4 (by rw [hprev];simp only [riseAt,← lessB_eq];rw [hle];rfl))
         clear hg
         rcases hgo:l[j+1].gone with _ | _
         ·rw [hgo] at k2
          refine wp_region_bel w2.heap.size w2 (by kernel_rfl) (by kernel_rfl) (Below.refl _ _) ?_
          repeat (go_big_quiet_step ((go_at_call 106;exact Calls.bel_same ((ckey_any _ hkey _).mono fun e w' h=>⟨h.1,h.2.symm⟩))))
          refine wpQuiet_nil ?_
          intro w3 hb3
          have hbw3:=hbw2.trans (hb3.mono hs2)
          go_wp2
          go_roundw
          case rel=>exact ⟨j+1+1,by omega,by go_num,hbw3,HX.out⟩
          case measure=>simp [intOf];omega
         ·rw [hgo] at k2 q3'
          have g2:l[j+1].val.isEmpty=true:=by simpa using q3'
          have g3:(l[j+1].val == [])=true:=by simpa using q3'
          refine wp_region_bel w2.heap.size w2 (by kernel_rfl) (by kernel_rfl) (Below.refl _ _) ?_
          repeat (go_big_quiet_step ((go_at_call 106;exact Calls.bel_same ((ckey_any _ hkey _).mono fun e w' h=>⟨h.1,h.2.symm⟩))))
          refine wpQuiet_nil ?_
          intro w3 hb3
          have hbw3:=hbw2.trans (hb3.mono hs2)
          go_wp2
          go_roundw
          case rel=>exact ⟨j+1+1,by omega,by go_num,hbw3,HX.out⟩
          case measure=>simp [intOf];omega
        ·have HX:=Hd (rise_bad h20 hlt hg (.inr (by rw [hprev];simp only [riseAt,← lessB_eq];rw [hle];rfl)))
         clear hg
         rcases hgo:l[j+1].gone with _ | _
         ·rw [hgo] at k2
          refine wp_region_bel w2.heap.size w2 (by kernel_rfl) (by kernel_rfl) (Below.refl _ _) ?_
          repeat (go_big_quiet_step ((go_at_call 106;exact Calls.bel_same ((ckey_any _ hkey _).mono fun e w' h=>⟨h.1,h.2.symm⟩))))
          refine wpQuiet_nil ?_
          intro w3 hb3
          have hbw3:=hbw2.trans (hb3.mono hs2)
          go_wp2
          go_ret
          exact ⟨by rw [HX.out];rfl,hbw3⟩
         ·rw [hgo] at k2 q3'
          have g2:l[j+1].val.isEmpty=true:=by simpa using q3'
          have g3:(l[j+1].val == [])=true:=by simpa using q3'
          refine wp_region_bel w2.heap.size w2 (by kernel_rfl) (by kernel_rfl) (Below.refl _ _) ?_
          repeat (go_big_quiet_step ((go_at_call 106;exact Calls.bel_same ((ckey_any _ hkey _).mono fun e w' h=>⟨h.1,h.2.symm⟩))))
          refine wpQuiet_nil ?_
          intro w3 hb3
          have hbw3:=hbw2.trans (hb3.mono hs2)
          go_wp2
          go_ret
          exact ⟨by rw [HX.out];rfl,hbw3⟩
     ·have d2:decide ((12:Int) < (l[k].val.length:Int))=true:=by simp;omega
      have HX:=Hd (rise_bad h20 hlt hg (.inl (by unfold oneOk;simp [q2])))
      clear hg
      refine wp_region_bel w2.heap.size w2 (by kernel_rfl) (by kernel_rfl) (Below.refl _ _) ?_
      repeat (go_big_quiet_step ((go_at_call 106;exact Calls.bel_same ((ckey_any _ hkey _).mono fun e w' h=>⟨h.1,h.2.symm⟩))))
      refine wpQuiet_nil ?_
      intro w3 hb3
      have hbw3:=hbw2.trans (hb3.mono hs2)
      go_wp2
      go_ret
      exact ⟨by rw [HX.out];rfl,hbw3⟩
    ·have q1':keyOk l[k].key=false:=by simpa using q1
     have HX:=Hd (rise_bad h20 hlt hg (.inl (by unfold oneOk;unfold keyOk at q1';simp only [q1',Bool.false_and])))
     clear hg
     refine wp_region_bel w2.heap.size w2 (by kernel_rfl) (by kernel_rfl) (Below.refl _ _) ?_
     repeat (go_big_quiet_step ((go_at_call 106;exact Calls.bel_same ((ckey_any _ hkey _).mono fun e w' h=>⟨h.1,h.2.symm⟩))))
     refine wpQuiet_nil ?_
     intro w3 hb3
     have hbw3:=hbw2.trans (hb3.mono hs2)
     go_wp2
     go_ret
     exact ⟨by rw [HX.out];rfl,hbw3⟩
   ·obtain rfl:k=l.length:=by omega
    have HE:=Hd (rise_end h20 hg)
    clear hg
    go_wp2
    go_ret
    exact ⟨by rw [HE.out];rfl,hb⟩
 ·have e:errV (chgFault l)=.iface 71 (.int .i64 3):=by unfold chgFault;rw [if_pos (by omega)];rfl
  have h20':(20:Int) < (l.length:Int):=by omega
  rw [e]
  clear e
  go_enter Tryz.func104,Tryz.ntmps104
  go_wp2
  go_ret
  exact ⟨rfl,Below.refl _ _⟩
theorem rest_any (n:Int) (h0:0≤n) (h1:n≤32) (w:World) :
  Calls Tryz.prog 50 #[.int .i64 n] w fun e w'=>e=.returned (.int .i64 (sz n - 1))∧w=w':=by
 have hs:=sz_le n h0
 have hp:=sz_pos n
 unfold sz at *
 go_enter Tryz.func50,Tryz.ntmps50
 go_wp2
 go_ret
 exact ⟨rfl,rfl⟩
theorem is_any (n:Int) (w:World) :
  Calls Tryz.prog 49 #[.int .i64 n] w fun e w'=>e=.returned (.bool (isA n))∧w=w':=by
 unfold isA
 by_cases h:0≤n
 all_goals
  go_enter Tryz.func49,Tryz.ntmps49
  go_wp2
  go_ret
  exact ⟨by simp [h] <;> omega,rfl⟩
theorem last_any (a n:Int) (hc:chk a n=0) (w:World) :
  Calls Tryz.prog 51 #[.agg #[.int .i64 a,.int .i64 n]] w fun e w'=>e=.returned (.int .i64 (lastA a n))∧Below w.heap.size w w':=by
 obtain ⟨h0,h3,h1,h2,h5⟩:=chk_zero.1 hc
 have ho:=or_rest hc
 have HO:=Hd ho
 clear ho h5 hc
 go_enter Tryz.func51,Tryz.ntmps51
 go_wp2
 go_quiet ((go_at_call 50;exact Calls.quiet_of_same ((rest_any _ h0 h3 _).mono fun e w' h=>⟨h.1,h.2.symm⟩)))
 go_wp2
 go_ret
 refine ⟨?_,?_⟩
 ·rw [← HO.out];rfl
 ·exact ((Below.refl _ _).alloc (Nat.le_refl _) _).trans (below_drewN (Below.refl _ _) _)
def errVa (k:Int):Value:=.iface 71 (.int .i64 k)
theorem checkA_any (a n:Int) (w:World) :
  Calls Tryz.prog 28 #[.agg #[.int .i64 a,.int .i64 n]] w fun e w'=>e=.returned (if chk a n=0 then .nilIface else errVa (chk a n))∧Below w.heap.size w w':=by
 unfold errVa
 by_cases h1:n < 0
 ·have hk:chk a n=1:=by unfold chk;rw [if_pos (.inl h1)]
  rw [hk]
  clear hk
  go_enter Tryz.func28,Tryz.ntmps28
  go_wp2
  go_ret
  exact ⟨rfl,(Below.refl _ _).alloc (Nat.le_refl _) _⟩
 by_cases h2:32 < n
 ·have hk:chk a n=1:=by unfold chk;rw [if_pos (.inr (.inl h2))]
  rw [hk]
  clear hk
  go_enter Tryz.func28,Tryz.ntmps28
  go_wp2
  go_ret
  exact ⟨rfl,(Below.refl _ _).alloc (Nat.le_refl _) _⟩
 have h1':0≤n:=by omega
 have h2':n≤32:=by omega
 clear h1 h2
 by_cases h3:isA a=false
 ·have hk:chk a n=1:=by unfold chk;rw [if_pos (.inr (.inr h3))]
  rw [hk]
  clear hk
  go_enter Tryz.func28,Tryz.ntmps28
  go_wp2_with (go_at_call 49;refine (is_any _ _).mono ?_;rintro e w' ⟨rfl,rfl⟩)
  go_ret
  exact ⟨rfl,(Below.refl _ _).alloc (Nat.le_refl _) _⟩
 have h3':isA a=true:=by simpa using h3
 have hk:chk a n=if a % sz n=0 then 0 else 2:=by unfold chk;rw [if_neg (by simp [h3'];omega)]
 obtain ⟨g1,g2⟩:=isA_true.1 h3'
 have hb:=and_rest h1' g1 g2
 rw [hk]
 clear hk h3
 have HB:=Hd hb
 clear hb
 by_cases h4:a % sz n=0
 ·have h5:(bits .and .i64 a (sz n - 1) != 0)=false:=by rw [HB.out,h4];rfl
  rw [if_pos h4]
  clear h4
  go_enter Tryz.func28,Tryz.ntmps28
  go_wp2_with (go_at_call 49;refine (is_any _ _).mono ?_;rintro e w' ⟨rfl,rfl⟩)
  go_quiet ((go_at_call 50;exact Calls.quiet_of_same ((rest_any _ h1' h2' _).mono fun e w' h=>⟨h.1,h.2.symm⟩)))
  go_wp2
  go_ret
  exact ⟨rfl,((Below.refl _ _).alloc (Nat.le_refl _) _).trans (below_drewN (Below.refl _ _) _)⟩
 ·have h5:(bits .and .i64 a (sz n - 1) != 0)=true:=by rw [HB.out,bne_iff_ne];exact h4
  rw [if_neg h4]
  clear h4
  go_enter Tryz.func28,Tryz.ntmps28
  go_wp2_with (go_at_call 49;refine (is_any _ _).mono ?_;rintro e w' ⟨rfl,rfl⟩)
  go_quiet ((go_at_call 50;exact Calls.quiet_of_same ((rest_any _ h1' h2' _).mono fun e w' h=>⟨h.1,h.2.symm⟩)))
  go_wp2
  go_ret
  exact ⟨rfl,((Below.refl _ _).alloc (Nat.le_refl _) _).trans (below_drewN (Below.refl _ _) _)⟩
theorem check_ok (a n:Int) (hc:chk a n=0) (w:World) :
  Calls Tryz.prog 28 #[.agg #[.int .i64 a,.int .i64 n]] w fun e w'=>e=.returned .nilIface∧Below w.heap.size w w' :=
 (checkA_any a n w).mono fun e w' h=>⟨by rw [h.1,if_pos hc],h.2⟩
theorem check_bad (a n:Int) (hc:chk a n≠0) (w:World) :
  Calls Tryz.prog 28 #[.agg #[.int .i64 a,.int .i64 n]] w fun e w'=>e=.returned (.iface 71 (.int .i64 (chk a n)))∧Below w.heap.size w w' :=
 (checkA_any a n w).mono fun e w' h=>⟨by rw [h.1,if_neg hc];rfl,h.2⟩
theorem ends_bad (a n:Int) (hc:chk a n≠0) (w:World) :
  Calls Tryz.prog 128 #[.agg #[.int .i64 a,.int .i64 n]] w fun e w'=>e=.returned (.tuple #[.int .i64 0,.int .i64 0,.iface 71 (.int .i64 (chk a n))])∧Below w.heap.size w w':=by
 go_enter Tryz.func128,Tryz.ntmps128
 go_wp2_with (go_at_call 28;refine (check_bad _ _ hc _).mono ?_;rintro e w1 ⟨rfl,hb1⟩)
 go_ret3
 exact ⟨rfl,((Below.refl _ _).alloc (Nat.le_refl _) _).trans (hb1.mono (by simp))⟩
theorem ends_ok (a n:Int) (hc:chk a n=0) (w:World) :
  Calls Tryz.prog 128 #[.agg #[.int .i64 a,.int .i64 n]] w fun e w'=>e=.returned (.tuple #[.int .i64 a,.int .i64 (lastA a n),.nilIface])∧Below w.heap.size w w':=by
 go_enter Tryz.func128,Tryz.ntmps128
 go_wp2_with (go_at_call 28;refine (check_ok _ _ hc _).mono ?_;rintro e w1 ⟨rfl,hb1⟩;obtain ⟨c0,c1⟩:=keep2 hb1 (new2 w _ _ _) (by simp))
 have hl:w.heap.size+1≤w1.heap.size:=by have:=hb1.size;simpa using this
 obtain ⟨k0,k1⟩:=bel2 (B:=w1.heap.size) ⟨c0,c1⟩ (by omega)
 refine wp_region_bel w1.heap.size w1 (by kernel_rfl) (by kernel_rfl) (Below.refl _ _) ?_
 repeat (go_big_quiet_step ((go_at_call 51;exact Calls.bel_of (Nat.le_refl _) (last_any _ _ hc _))))
 refine wpQuiet_nil ?_
 intro w2 hb2
 clear k0 k1 c0 c1
 go_wp2
 go_ret3
 exact ⟨rfl,((Below.refl _ _).alloc (Nat.le_refl _) _).trans ((hb1.mono (by simp)).trans (hb2.mono (by omega)))⟩
theorem infoPfx:(Tryz.prog.info? 31).map (fun i=>(i.zero,i.size,i.bytes))=some (some (.agg #[.int .i64 0,.int .i64 0]),2,16):=by kernel_rfl
theorem takeFilter_snoc {α:Type} (f:α→Bool) (l:List α) (k:Nat) (h:k < l.length):(l.take (k+1)).filter f=(l.take k).filter f++(if f l[k] then [l[k]] else []):=by
 rw [List.take_succ_eq_append_getElem h,List.filter_append]
 congr 1
 by_cases hf:f l[k] <;> simp [List.filter,hf]
theorem take_all {l:List Pf} {k:Nat} (h:k < l.length) (hv:∀ p ∈ l.take k,chkP p=0) (hc:chkP l[k]=0):∀ p ∈ l.take (k+1),chkP p=0:=by
 intro p hp
 rw [List.take_succ_eq_append_getElem h,List.mem_append] at hp
 rcases hp with hp | hp
 ·exact hv p hp
 ·simp at hp;subst hp;exact hc
def OwnRes2 (e:TypeId) (w:World) (l:List (Int × Int)) (en:Ending) (w':World):Prop:=∃ v,en=.returned (.tuple #[v,.nilIface])∧OwnP w' w.heap.size e v l∧Below w.heap.size w w'
theorem infoSp:(Tryz.prog.info? 138).map (fun i=>(i.zero,i.size,i.bytes))=some (some (.agg #[.int .i64 0,.int .i64 0]),2,16):=by kernel_rfl
/- two -/
/- fit -/
/- count -/
/- Has -/
/- Common, Others -/
theorem common_step (a b:List Sp) (i j:Nat) (hi:i < a.length) (hj:j < b.length):common (a.drop i) (b.drop j)=piece a[i] b[j]++if a[i].2 < b[j].2 then common (a.drop (i+1)) (b.drop j) else common (a.drop i) (b.drop (j+1)):=by
 conv=>lhs;rw [List.drop_eq_getElem_cons hi,List.drop_eq_getElem_cons hj,common]
 rw [← List.drop_eq_getElem_cons hi,← List.drop_eq_getElem_cons hj]
theorem common_end (a b:List Sp) (i j:Nat) (h:a.length≤i∨b.length≤j):common (a.drop i) (b.drop j)=[]:=by
 rcases h with h | h
 ·rw [List.drop_eq_nil_of_le h];cases b.drop j <;> simp [common]
 ·rw [List.drop_eq_nil_of_le h];cases a.drop i <;> simp [common]
theorem common_any (A B:Option Addr) (a b:List Sp) (c d:Nat) (ha:a.length≤100000) (hb:b.length≤100000) (w:World) (hl:Rd w w.heap.size A (cellsP a)) (hr:Rd w w.heap.size B (cellsP b)) :
  Calls Tryz.prog 174 #[.slice A a.length c,.slice B b.length d] w (OwnRes 138 w (common a b)):=by
 go_enter Tryz.func174,Tryz.ntmps174
 go_wp2
 go_loopw [5,6,7,8,9] (fun v vi vj _ _ wr=>∃ (i j:Nat) (O:List Sp),i≤a.length∧j≤b.length∧vi=.int .i64 i∧vj=.int .i64 j∧Below w.heap.size w wr∧OwnP wr w.heap.size 138 v O∧O.length≤i+j∧O++common (a.drop i) (b.drop j)=common a b) (fun _ vi vj _ _ _=>a.length+b.length - ((intOf vi).toNat+(intOf vj).toNat))
 case atStart=>exact ⟨0,0,[],Nat.zero_le _,Nat.zero_le _,rfl,rfl,Below.refl _ _,OwnP.nil _ _ _,by simp,rfl⟩
 case round =>
  obtain ⟨i,j,O,hi,hj,rfl,rfl,hbw,hown,hO,hg⟩:=hrel
  by_cases hilt:i < a.length
  ·by_cases hjlt:j < b.length
   ·obtain ⟨ba,offa,rfl,hba,c0,c1⟩:=hl.pair hilt
    obtain ⟨bb,offb,rfl,hbb,d0,d1⟩:=hr.pair hjlt
    have hs:=hbw.size
    have HK:=Hd (show ∀ W,Below w.heap.size w W→(∀ x:BelW W.heap.size W,x.1.cell? ⟨ba,offa+i * 2,none⟩=some (.int .i64 a[i].1))∧(∀ x:BelW W.heap.size W,x.1.cell? ⟨ba,offa+i * 2+1,none⟩=some (.int .i64 a[i].2)) ∧
      (∀ x:BelW W.heap.size W,x.1.cell? ⟨bb,offb+j * 2,none⟩=some (.int .i64 b[j].1))∧(∀ x:BelW W.heap.size W,x.1.cell? ⟨bb,offb+j * 2+1,none⟩=some (.int .i64 b[j].2)) from fun W hW=>⟨BelW.cell ((hW.cell hba).trans c0) (by have:=hW.size;simp;omega),
       BelW.cell ((hW.cell hba).trans c1) (by have:=hW.size;simp;omega),BelW.cell ((hW.cell hbb).trans d0) (by have:=hW.size;simp;omega),BelW.cell ((hW.cell hbb).trans d1) (by have:=hW.size;simp;omega)⟩)
    clear c0 c1 d0 d1
    obtain ⟨k0,k1,k2,k3⟩:=HK.out _ hbw
    rw [common_step a b i j hilt hjlt] at hg
    have hpc:piece a[i] b[j]=if (if a[i].1 < b[j].1 then b[j].1 else a[i].1)≤(if b[j].2 < a[i].2 then b[j].2 else a[i].2) then [((if a[i].1 < b[j].1 then b[j].1 else a[i].1),(if b[j].2 < a[i].2 then b[j].2 else a[i].2))] else []:=by
     unfold piece
     rw [show max a[i].1 b[j].1=(if a[i].1 < b[j].1 then b[j].1 else a[i].1) by split <;> omega,show min a[i].2 b[j].2=(if b[j].2 < a[i].2 then b[j].2 else a[i].2) by split <;> omega]
    go_wp2_with fail
    refine wp_region_bel wr.heap.size wr (by kernel_rfl) (by kernel_rfl) (Below.refl _ _) ?_
    repeat (go_big_quiet_step (fail))
    refine wpQuiet_nil ?_
    intro w2 hb2
    have hown2:=hown.below hb2
    have hb3:=hbw.trans (hb2.mono hs)
    have hs2:=hb3.size
    clear k0 k1 k2 k3 hb2 hown hbw
    generalize (if a[i].1 < b[j].1 then b[j].1 else a[i].1)=lo at hpc ⊢
    generalize (if b[j].2 < a[i].2 then b[j].2 else a[i].2)=hi' at hpc ⊢
    obtain ⟨hi,rfl⟩:∃ hi,hi=hi':=⟨_,rfl⟩
    by_cases h1:lo≤hi
    ·have HP:=Hd (hpc.trans (if_pos h1))
     clear hpc
     by_cases h2:a[i].2 < b[j].2
     ·have HG:=Hd (show O++[(lo,hi)]++common (a.drop (i+1)) (b.drop j)=common a b by rw [← hg,HP.out,if_pos h2,List.append_assoc])
      clear hg
      go_wp2_with (at_builtin;refine wpList_append_pair (p:=(lo,hi)) rfl _ _ 269 rfl Tryz.underlying269 infoSp w.heap.size _ _ rfl hown2 rfl (by omega) hs2 ?_;intro v4 w4 hown4 hb4)
      have hb5:=hb3.trans hb4
      obtain ⟨k0,k1,k2,k3⟩:=HK.out _ hb5
      have hs5:=hb5.size
      refine wp_region_bel w4.heap.size w4 (by kernel_rfl) (by kernel_rfl) (Below.refl _ _) ?_
      repeat (go_big_quiet_step (fail))
      refine wpQuiet_nil ?_
      intro w6 hb6
      have hown6:=hown4.below hb6
      have hb7:=hb5.trans (hb6.mono hs5)
      clear k0 k1 k2 k3 hb6 hown4 hown2 hb3 hb5
      go_wp2
      go_roundw
      case rel=>exact ⟨i+1,j,O++[(lo,hi)],by omega,by omega,by go_num,rfl,hb7,hown6,by simp;omega,HG.out⟩
      case measure=>simp [intOf];omega
     ·have HG:=Hd (show O++[(lo,hi)]++common (a.drop i) (b.drop (j+1))=common a b by rw [← hg,HP.out,if_neg h2,List.append_assoc])
      clear hg
      have h2':decide (a[i].2 < b[j].2)=false:=by simpa using h2
      go_wp2_with (at_builtin;refine wpList_append_pair (p:=(lo,hi)) rfl _ _ 269 rfl Tryz.underlying269 infoSp w.heap.size _ _ rfl hown2 rfl (by omega) hs2 ?_;intro v4 w4 hown4 hb4)
      have hb5:=hb3.trans hb4
      obtain ⟨k0,k1,k2,k3⟩:=HK.out _ hb5
      have hs5:=hb5.size
      refine wp_region_bel w4.heap.size w4 (by kernel_rfl) (by kernel_rfl) (Below.refl _ _) ?_
      repeat (go_big_quiet_step (fail))
      refine wpQuiet_nil ?_
      intro w6 hb6
      have hown6:=hown4.below hb6
      have hb7:=hb5.trans (hb6.mono hs5)
      clear k0 k1 k2 k3 hb6 hown4 hown2 hb3 hb5
      go_wp2
      go_roundw
      case rel=>exact ⟨i,j+1,O++[(lo,hi)],by omega,by omega,rfl,by go_num,hb7,hown6,by simp;omega,HG.out⟩
      case measure=>simp [intOf];omega
    ·have HP:=Hd (hpc.trans (if_neg h1))
     clear hpc
     by_cases h2:a[i].2 < b[j].2
     ·have HG:=Hd (show O++[]++common (a.drop (i+1)) (b.drop j)=common a b by rw [← hg,HP.out,if_pos h2,List.append_assoc])
      clear hg
      have h1':decide (lo≤hi)=false:=by simpa using h1
      go_wp2_with fail
      obtain ⟨v4,hv4⟩:∃ v4,v4=u5:=⟨_,rfl⟩
      have hown4:=hown2
      have hb5:=hb3
      obtain ⟨w4,rfl⟩:∃ w4:World,w4=w2:=⟨_,rfl⟩
      obtain ⟨k0,k1,k2,k3⟩:=HK.out _ hb5
      have hs5:=hb5.size
      refine wp_region_bel w4.heap.size w4 (by kernel_rfl) (by kernel_rfl) (Below.refl _ _) ?_
      repeat (go_big_quiet_step (fail))
      refine wpQuiet_nil ?_
      intro w6 hb6
      have hown6:=hown4.below hb6
      have hb7:=hb5.trans (hb6.mono hs5)
      clear k0 k1 k2 k3 hb6 hown4 hown2 hb3 hb5
      go_wp2
      go_roundw
      case rel=>exact ⟨i+1,j,O++[],by omega,by omega,by go_num,rfl,hb7,by simpa using hown6,by simp;omega,HG.out⟩
      case measure=>simp [intOf];omega
     ·have HG:=Hd (show O++[]++common (a.drop i) (b.drop (j+1))=common a b by rw [← hg,HP.out,if_neg h2,List.append_assoc])
      clear hg
      have h2':decide (a[i].2 < b[j].2)=false:=by simpa using h2
      have h1':decide (lo≤hi)=false:=by simpa using h1
      go_wp2_with fail
      obtain ⟨v4,hv4⟩:∃ v4,v4=u5:=⟨_,rfl⟩
      have hown4:=hown2
      have hb5:=hb3
      obtain ⟨w4,rfl⟩:∃ w4:World,w4=w2:=⟨_,rfl⟩
      obtain ⟨k0,k1,k2,k3⟩:=HK.out _ hb5
      have hs5:=hb5.size
      refine wp_region_bel w4.heap.size w4 (by kernel_rfl) (by kernel_rfl) (Below.refl _ _) ?_
      repeat (go_big_quiet_step (fail))
      refine wpQuiet_nil ?_
      intro w6 hb6
      have hown6:=hown4.below hb6
      have hb7:=hb5.trans (hb6.mono hs5)
      clear k0 k1 k2 k3 hb6 hown4 hown2 hb3 hb5
      go_wp2
      go_roundw
      case rel=>exact ⟨i,j+1,O++[],by omega,by omega,rfl,by go_num,hb7,by simpa using hown6,by simp;omega,HG.out⟩
      case measure=>simp [intOf];omega
   ·obtain rfl:j=b.length:=by omega
    have HG:=Hd (show O=common a b by rw [← hg,common_end a b i b.length (.inr (Nat.le_refl _)),List.append_nil])
    clear hg
    go_wp2
    go_ret
    exact ⟨_,rfl,HG.out ▸ hown,hbw⟩
  ·obtain rfl:i=a.length:=by omega
   have HG:=Hd (show O=common a b by rw [← hg,common_end a b a.length j (.inl (Nat.le_refl _)),List.append_nil])
   clear hg
   go_wp2
   go_ret
   exact ⟨_,rfl,HG.out ▸ hown,hbw⟩
theorem wpList_append_pair2 {P:Program} {ops:Array Oper} {rest:List Oper} {o:Oper} {a:Act} {Q:Exit→Act→World→Prop} {w1:World} {e:TypeId} {p:Int × Int} (hgd:o.guard=none) (s x:Operand) (t:TypeId)
  (ho:o.op=.call { callee:=.builtin .append,args:=#[s,x],argTypes:=#[t,t] }) (ht:P.underlying t=some (.slice e))
  (hinfo:(P.info? e).map (fun i=>(i.zero,i.size,i.bytes))=some (some (.agg #[.int .i64 0,.int .i64 0]),2,16))
  (base:Nat) (v:Value) (l:List (Int × Int)) (hs:a.eval s=v) (hown:OwnP w1 base e v l)
  (hx:a.eval x=.slice (some ⟨w1.heap.size,0,none⟩) 1 1) (hlen:l.length < 1000000000000) (hbase:base≤w1.heap.size)
  (h:∀ v' w',OwnP w' base e v' (l++[p])→Below base w1 w'→(∀ g t cs,Blk w1 g t cs→v.ownBlock≠some g→Blk w' g t cs)→wpList P ops Q rest (a.put o.dst v') w') :
  wpList P ops Q (o::rest) a (w1.alloc (.cells #[.int .i64 p.1,.int .i64 p.2] e)):=by
 obtain ⟨i0,hi0,hz0,hz1,hz2⟩:=info_parts hinfo
 refine wpList_append_own _ hgd s x t ho base e i0 _ 2 16 ht hi0 hz0 hz1 hz2 rfl (by decide) v l.length (cellsP l) hs (World.ownsRow.alloc hown _) ⟨w1.heap.size,0,none⟩ 1 1 [.int .i64 p.1,.int .i64 p.2] hx rfl ?_ ?_ ?_ ?_ ?_ ?_
 ·intro j u hj
  match j,hj with
  | 0,hj=>simp at hj;subst hj;simp [Addr.add]
  | 1,hj=>simp at hj;subst hj;simp [Addr.add]
  | j+2,hj=>simp at hj
 ·intro u hu
  simp at hu
  rcases hu with rfl | rfl <;> rfl
 ·unfold maxLen;omega
 ·omega
 ·simp;omega
 ·intro v' w' hown' hgrow _
  refine h v' w' ?_ ?_ ?_
  ·unfold OwnP
   rw [cellsP_append,List.length_append]
   exact hown'
  ·exact ((Below.refl _ _).alloc hbase _).grown hgrow (by simp;omega) (fun k hk=>hown.block k hk)
  ·intro g t cs hB hne
   exact (hB.alloc _).grown hgrow (fun e=>hne e.symm)
theorem OwnP.far {w:World} {base:Nat} {e:TypeId} {v:Value} {l:List (Int × Int)} (h:OwnP w base e v l) {g:Nat} (hg:w.heap.size≤g):v.ownBlock≠some g:=fun e=>by
 have:=(World.ownsRow.lt h g e).2
 omega
theorem others_step (l:List Sp) (k:Nat) (f:Int) (h:k < l.length):othersGo f (l.drop k)=(if f < l[k].1 then [(f,l[k].1 - 1)] else [])++othersGo (l[k].2+1) (l.drop (k+1)):=by
 rw [List.drop_eq_getElem_cons h,othersGo]
theorem others_any (A:Option Addr) (l:List Sp) (c:Nat) (hlen:l.length≤100000) (hv:Valid l) (w:World) (hl:Rd w w.heap.size A (cellsP l)) :
  Calls Tryz.prog 175 #[.slice A l.length c] w (OwnRes 138 w (others l)):=by
 have HV:=Hd hv
 clear hv
 go_enter Tryz.func175,Tryz.ntmps175
 go_wp2
 go_loopw [3,4,6,9] (fun v vf _ vi wr=>∃ (k:Nat) (f:Int) (O:List Sp),k≤l.length∧vi=.int .i64 k∧vf=.int .i64 f∧0≤f∧f≤4294967296∧Below w.heap.size w wr∧OwnP wr w.heap.size 138 v O∧O.length≤k∧O++othersGo f (l.drop k)=others l) (fun _ _ _ vi _=>l.length - (intOf vi).toNat)
 case atStart=>exact ⟨0,0,[],Nat.zero_le _,rfl,rfl,by omega,by omega,Below.refl _ _,OwnP.nil _ _ _,by simp,rfl⟩
 case round =>
  obtain ⟨k,f,O,hk,rfl,rfl,hf0,hf1,hb,hown,hO,hg⟩:=hrel
  by_cases hlt:k < l.length
  ·obtain ⟨b,off,rfl,hbb,c0,c1⟩:=(hl.below hb).pair hlt
   obtain ⟨s1,s2,s3⟩:=HV.out l[k] (List.getElem_mem _)
   unfold maxA at s3
   have hs:=hb.size
   rw [others_step l k f hlt] at hg
   by_cases h1:f < l[k].1
   ·have HG:=Hd (show O++[(f,l[k].1 - 1)]++othersGo (l[k].2+1) (l.drop (k+1))=others l by rw [← hg,if_pos h1,List.append_assoc])
    clear hg
    have hown1:=hown.alloc (.cells #[.int .i64 l[k].1,.int .i64 l[k].2] 138)
    have hb1:=hb.alloc hs (.cells #[.int .i64 l[k].1,.int .i64 l[k].2] 138)
    have hs1:=hb1.size
    have hlo:=(new2 wr (.int .i64 l[k].1) (.int .i64 l[k].2) 138).2
    have hBn:=Blk.new wr 138 #[.int .i64 l[k].1,.int .i64 l[k].2]
    have hfar:=hown.far (Nat.le_refl _)
    go_wp2_with (at_builtin;refine wpList_append_pair2 (p:=(f,l[k].1 - 1)) rfl _ _ 269 rfl Tryz.underlying269 infoSp w.heap.size _ _ rfl hown1 (by show Value.slice (some ⟨wr.heap.size+1,0,none⟩) 1 1=_;rw [World.size_alloc]) (by omega) hs1 ?_;intro v4 w4 hown4 hb4 hk4;obtain ⟨e0,e1,_⟩:=(hk4 _ _ _ hBn hfar).two)
    go_roundw
    case rel=>exact ⟨k+1,l[k].2+1,O++[(f,l[k].1 - 1)],by omega,by go_num,by go_num,by omega,by omega,hb1.trans hb4,hown4,by simp;omega,HG.out⟩
    case measure=>simp [intOf];omega
   ·have HG:=Hd (show O++othersGo (l[k].2+1) (l.drop (k+1))=others l by rw [← hg,if_neg h1,List.nil_append])
    clear hg
    have h1':decide (f < l[k].1)=false:=by simpa using h1
    have hown1:=hown.alloc (.cells #[.int .i64 l[k].1,.int .i64 l[k].2] 138)
    have hb1:=hb.alloc hs (.cells #[.int .i64 l[k].1,.int .i64 l[k].2] 138)
    go_wp2
    go_roundw
    case rel=>exact ⟨k+1,l[k].2+1,O,by omega,by go_num,by go_num,by omega,by omega,hb1,hown1,by omega,HG.out⟩
    case measure=>simp [intOf];omega
  ·obtain rfl:k=l.length:=by omega
   rw [List.drop_length,othersGo] at hg
   by_cases h1:f≤4294967295
   ·have HG:=Hd (show O++[(f,4294967295)]=others l by rw [← hg,if_pos (show f≤maxA from h1)];rfl)
    clear hg
    have hs1:=hb.size
    go_wp2_with (at_builtin;refine wpList_append_pair (p:=(f,4294967295)) rfl _ _ 269 rfl Tryz.underlying269 infoSp w.heap.size _ _ rfl hown rfl (by omega) hs1 ?_;intro v4 w4 hown4 hb4)
    go_ret
    exact ⟨_,rfl,HG.out ▸ hown4,hb.trans hb4⟩
   ·have HG:=Hd (show O=others l by rw [← hg,if_neg (show ¬ f≤maxA from h1),List.append_nil])
    clear hg
    have h1':decide (f≤4294967295)=false:=by simpa using h1
    go_wp2
    go_ret
    exact ⟨_,rfl,HG.out ▸ hown,hb⟩
theorem in_any (a n b m:Int) (hc:chk a n=0) (hd:chk b m=0) (w:World) :
  Calls Tryz.prog 29 #[.agg #[.int .i64 a,.int .i64 n],.agg #[.int .i64 b,.int .i64 m]] w fun e w'=>e=.returned (.bool (inP a n b m))∧Below w.heap.size w w':=by
 obtain ⟨⟨c0,c1⟩,c2,c3⟩:=new22 w (.int .i64 a) (.int .i64 n) (.int .i64 b) (.int .i64 m) 31 31
 obtain ⟨k0,k1⟩:=bel2 (B:=w.heap.size+2) ⟨c0,c1⟩ (by omega)
 obtain ⟨k2,k3⟩:=bel2 (B:=w.heap.size+2) ⟨c2,c3⟩ (by omega)
 clear c0 c1 c2 c3
 by_cases h:b≤a
 ·have hr:inP a n b m=decide (lastA a n≤lastA b m):=by simp [inP,h]
  rw [hr]
  clear hr
  go_enter Tryz.func29,Tryz.ntmps29
  go_wp2_with fail
  refine wp_region_bel (w.heap.size+2) _ (by kernel_rfl) (by kernel_rfl) (Below.refl _ _) ?_
  repeat (go_big_quiet_step ((go_at_call 51;refine Calls.bel_of (by simp) (last_any _ _ ?_ _);assumption)))
  refine wpQuiet_nil ?_
  intro w2 hb2
  clear k0 k1 k2 k3
  go_wp2
  go_ret
  exact ⟨rfl,(((Below.refl _ _).alloc (Nat.le_refl _) _).alloc (by simp) _).trans (hb2.mono (by omega))⟩
 ·have hr:inP a n b m=false:=by simp [inP];omega
  rw [hr]
  clear hr
  have h':decide (b≤a)=false:=by simpa using h
  clear h
  go_enter Tryz.func29,Tryz.ntmps29
  go_wp2_with fail
  refine wp_region_bel (w.heap.size+2) _ (by kernel_rfl) (by kernel_rfl) (Below.refl _ _) ?_
  repeat (go_big_quiet_step (fail))
  refine wpQuiet_nil ?_
  intro w2 hb2
  clear k0 k1 k2 k3
  go_wp2
  go_ret
  exact ⟨rfl,(((Below.refl _ _).alloc (Nat.le_refl _) _).alloc (by simp) _).trans (hb2.mono (by omega))⟩
theorem rd_new (w:World) (l:List (Int × Int)) (cs:Array Value) (t:TypeId) (g:Nat) (hg:g=w.heap.size) (hcs:cs.toList=cellsP l):Rd (w.alloc (.cells cs t)) (w.alloc (.cells cs t)).heap.size (some ⟨g,0,none⟩) (cellsP l):=fun _=>by
 subst hg
 refine ⟨w.heap.size,0,rfl,by simp,fun j u hj=>?_⟩
 rw [← hcs] at hj
 have:=(Blk.new w t cs).cell j
 rw [Nat.zero_add,this]
 simpa using hj
open Go.RowKit Go.Maps
theorem usable_bad (a n:Int) (hc:chk a n≠0) (w:World) :
  Calls Tryz.prog 93 #[.agg #[.int .i64 a,.int .i64 n]] w fun e w'=>e=.returned (.tuple #[.agg #[.int .i64 0,.int .i64 0],.iface 71 (.int .i64 (chk a n))])∧Below w.heap.size w w':=by
 go_enter Tryz.func93,Tryz.ntmps93
 go_wp2_with (go_at_call 128;refine (ends_bad _ _ hc _).mono ?_;rintro e w1 ⟨rfl,hb1⟩;obtain ⟨c0,c1,f0,f1⟩:=((Blk.new (w.alloc _) _ _).below hb1 (by simp)).two;simp only [World.size_alloc] at c0 c1 f0 f1)
 refine bodyPost_ret (v:=.tuple #[.agg #[.int .i64 0,.int .i64 0],.iface 71 (.int .i64 (chk a n))]) (by simp [results,Tryz.results93,go_sem,c0,c1]) rfl ⟨rfl,?_⟩
 exact (((((Below.refl _ _).alloc (Nat.le_refl _) _).alloc (by simp) _).trans (hb1.mono (by simp;omega))).setCell (by simp) _).setCell (by simp) _
theorem usable_ok (a n:Int) (hc:chk a n=0) (w:World) :
  Calls Tryz.prog 93 #[.agg #[.int .i64 a,.int .i64 n]] w fun e w'=>e=.returned (.tuple #[.agg #[.int .i64 (uLo a n),.int .i64 (uHi a n)],.nilIface])∧Below w.heap.size w w':=by
 obtain ⟨g1,g2,g3,g4,_⟩:=chk_zero.1 hc
 have g5:=last_le hc
 have g6:=last_ge a n
 by_cases h:n < 31
 ·have e1:uLo a n=a+1:=by simp [uLo,h]
  have e2:uHi a n=lastA a n - 1:=by simp [uHi,h]
  rw [e1,e2]
  clear e1 e2
  go_enter Tryz.func93,Tryz.ntmps93
  go_wp2_with (go_at_call 128;refine (ends_ok _ _ hc _).mono ?_;rintro e w1 ⟨rfl,hb1⟩;obtain ⟨d0,d1,_⟩:=(((Blk.new w _ _).alloc _).below hb1 (by simp;omega)).two;obtain ⟨c0,c1,f0,f1⟩:=((Blk.new (w.alloc _) _ _).below hb1 (by simp)).two;simp only [World.size_alloc] at c0 c1 f0 f1)
  refine bodyPost_ret (v:=.tuple #[.agg #[.int .i64 (a+1),.int .i64 (lastA a n - 1)],.nilIface]) (by simp [results,Tryz.results93,go_sem,c0,c1]) rfl ⟨rfl,?_⟩
  exact (((((Below.refl _ _).alloc (Nat.le_refl _) _).alloc (by simp) _).trans (hb1.mono (by simp;omega))).setCell (by simp) _).setCell (by simp) _
 ·have e1:uLo a n=a:=by simp [uLo,h]
  have e2:uHi a n=lastA a n:=by simp [uHi,h]
  rw [e1,e2]
  clear e1 e2
  go_enter Tryz.func93,Tryz.ntmps93
  go_wp2_with (go_at_call 128;refine (ends_ok _ _ hc _).mono ?_;rintro e w1 ⟨rfl,hb1⟩;obtain ⟨d0,d1,_⟩:=(((Blk.new w _ _).alloc _).below hb1 (by simp;omega)).two;obtain ⟨c0,c1,f0,f1⟩:=((Blk.new (w.alloc _) _ _).below hb1 (by simp)).two;simp only [World.size_alloc] at c0 c1 f0 f1)
  refine bodyPost_ret (v:=.tuple #[.agg #[.int .i64 a,.int .i64 (lastA a n)],.nilIface]) (by simp [results,Tryz.results93,go_sem,c0,c1]) rfl ⟨rfl,?_⟩
  exact (((((Below.refl _ _).alloc (Nat.le_refl _) _).alloc (by simp) _).trans (hb1.mono (by simp;omega))).setCell (by simp) _).setCell (by simp) _
abbrev mapI:TypeId:=139
theorem lawI:Keyed Tryz.prog 3:=int_keyed Tryz.underlying3
theorem zeroI (w:World):(zeroValue 3).run Tryz.prog w=.ok (.int .i64 0) w:=by kernel_rfl
def marksD (l:List Int):DataW Unit:=setOf (.lit (.int .i64 1)) (l.map (Lit.int .i64))
def OwnM (w:World) (b n:Nat) (l:List Int):Prop:=w.ownsMap Tryz.prog 3 (plainElem Tryz.prog 3) b n (marksD l)
def MarkPost (a n:Int) (used:List Int) (w:World) (e:Ending) (w':World):Prop :=
 Below w.heap.size w w' ∧
 ((used.all isA=true∧∃ b,e=.returned (.tuple #[.agg #[.int .i64 (uLo a n),.int .i64 (uHi a n)],.map (some b),.nilIface])∧w.heap.size≤b∧b < w'.heap.size∧OwnM w' b used.length (marks a n used)) ∨
  (used.all isA=false∧e=.returned (.tuple #[.agg #[.int .i64 (uLo a n),.int .i64 (uHi a n)],.map none,.iface 71 (.int .i64 1)])))
theorem marked_any (a n:Int) (A:Option Addr) (used:List Int) (c:Nat) (hc:chk a n=0) (hlen:used.length≤200) (w:World) (hl:Rd w w.heap.size A (used.map (Value.int .i64))) :
  Calls Tryz.prog 56 #[.agg #[.int .i64 a,.int .i64 n],.slice A used.length c] w (MarkPost a n used w):=by
 have hmm:=@run_makeMap Tryz.prog
 go_enter Tryz.func56,Tryz.ntmps56
 go_wp2_with fail
 refine (usable_ok _ _ hc _).mono ?_
 rintro e w1 ⟨rfl,hb1⟩
 have hB1:=(Blk.new (w.alloc (.cells #[.int .i64 a,.int .i64 n] 31)) 138 #[.int .i64 0,.int .i64 0]).below hb1 (by simp)
 simp only [World.size_alloc] at hB1
 have hs1:=hb1.size
 simp only [World.size_alloc] at hs1
 have hl1:Rd w1 w.heap.size A (used.map (Value.int .i64)):=((hl.alloc (Nat.le_refl _) _).alloc (by simp) _).below (hb1.mono (by simp;omega))
 have hbw:=((((Below.refl w.heap.size w).alloc (Nat.le_refl _) (.cells #[.int .i64 a,.int .i64 n] 31)).alloc (by simp) (.cells #[.int .i64 0,.int .i64 0] 138)).trans (hb1.mono (by simp;omega)))
 clear hb1 hl
 go_wp2
 go_loopw [11,29] (fun _ i wr=>∃ k:Nat,k≤used.length∧i=.int .i64 k∧Below (w1.heap.size+1) (w1.alloc (.cells #[.int .i64 (uLo a n),.int .i64 (uHi a n)] 138)) wr∧(used.take k).all isA=true∧OwnM wr (w1.heap.size+1) k (marks a n (used.take k)))
  (fun _ i _=>used.length - (intOf i).toNat)
 case atStart=>exact ⟨0,Nat.zero_le _,rfl,(Below.refl _ _).alloc (by simp) _,rfl,by have:=World.ownsMap_made (H:=Unit) (w1.alloc (.cells #[.int .i64 (uLo a n),.int .i64 (uHi a n)] 138)) Tryz.prog 3 (plainElem Tryz.prog 3);rw [World.size_alloc] at this;exact this⟩
 case round =>
  obtain ⟨k,hk,rfl,hb,hall,hown⟩:=hrel
  have hs:=hb.size
  simp only [World.size_alloc] at hs
  obtain ⟨d0,d1,_⟩:=((Blk.new w1 138 #[.int .i64 (uLo a n),.int .i64 (uHi a n)]).below hb (by omega)).two
  obtain ⟨e0,e1,g0,g1⟩:=((hB1.alloc _).below hb (by omega)).two
  by_cases hlt:k < used.length
  ·obtain ⟨b,off,rfl,hbb,c0⟩:=((hl1.alloc (by omega) _).below (hb.mono (by omega))).int hlt
   have hsn:=all_snoc isA used k hlt
   have hmk:=marks_snoc a n used k hlt
   have HS:=Hd hsn
   have HM:=Hd hmk
   have HA:=Hd hall
   clear hsn hmk hall
   by_cases hi:isA used[k]=true
   ·have hr:=isA_true.1 hi
    by_cases hu:inU a n used[k]=true
    ·have hlo:uLo a n≤used[k]:=by simp [inU] at hu;omega
     have hhi:used[k]≤uHi a n:=by simp [inU] at hu;omega
     go_wp2_with (first | (go_at_call 49;refine (is_any _ _).mono ?_;rintro e w' ⟨rfl,rfl⟩) | (at_mapUpdate;refine wpList_mapUpdate_own _ rfl _ _ _ mapI rfl 3 3 lawI Tryz.underlying139 _ (w1.heap.size+1) k _ rfl hown (by unfold maxLen;omega) _ _ _ rfl rfl (keyOf_int_mk Tryz.underlying3 (WalkArith.wf_i64 (by omega))) _ [] (plainElem_int Tryz.underlying3 (by decide)) ?_;intro w2 hown2 hg2))
     go_roundw
     case rel=>exact ⟨k+1,by omega,by go_num,hb.grown hg2 hs (fun j hj=>by cases hj;omega),by rw [HS.out,HA.out,hi];rfl,by unfold OwnM marksD;rw [HM.out,if_pos hu,List.map_append];exact setOf_snoc _ _ _ ▸ hown2⟩
     case measure=>simp [intOf];omega
    ·have hu':¬ (uLo a n≤used[k]∧used[k]≤uHi a n):=by simpa [inU] using hu
     have fin:OwnM wr (w1.heap.size+1) (k+1) (marks a n (used.take (k+1))):=by
      rw [HM.out,if_neg hu,List.append_nil];exact hown.mono (by omega)
     by_cases hlo:uLo a n≤used[k]
     ·have hhi:uHi a n < used[k]:=by omega
      clear hu'
      go_wp2_with (go_at_call 49;refine (is_any _ _).mono ?_;rintro e w' ⟨rfl,rfl⟩)
      go_roundw
      case rel=>exact ⟨k+1,by omega,by go_num,hb,by rw [HS.out,HA.out,hi];rfl,fin⟩
      case measure=>simp [intOf];omega
     ·have hlo':used[k] < uLo a n:=by omega
      clear hu' hlo
      go_wp2_with (go_at_call 49;refine (is_any _ _).mono ?_;rintro e w' ⟨rfl,rfl⟩)
      go_roundw
      case rel=>exact ⟨k+1,by omega,by go_num,hb,by rw [HS.out,HA.out,hi];rfl,fin⟩
      case measure=>simp [intOf];omega
   ·have hi':isA used[k]=false:=by simpa using hi
    have hbad:=all_of_bad isA used k hlt hi'
    have HBAD:=Hd hbad
    clear hbad hi
    go_wp2_with (go_at_call 49;refine (is_any _ _).mono ?_;rintro e w' ⟨rfl,rfl⟩)
    refine bodyPost_ret (v:=.tuple #[.agg #[.int .i64 (uLo a n),.int .i64 (uHi a n)],.map none,.iface 71 (.int .i64 1)]) (by simp [results,Tryz.results56,go_sem,e0,e1]) rfl ⟨?_,.inr ⟨HBAD.out,rfl⟩⟩
    exact ((hbw.trans (((Below.refl _ _).alloc (by omega) _).trans (hb.mono (by omega)))).setCell (by simp) _).setCell (by simp) _
  ·obtain rfl:k=used.length:=by omega
   rw [List.take_length] at hall hown
   have HA:=Hd hall
   clear hall
   go_wp2
   refine bodyPost_ret (v:=.tuple #[.agg #[.int .i64 (uLo a n),.int .i64 (uHi a n)],.map (some (w1.heap.size+1)),.nilIface]) (by simp [results,Tryz.results56,go_sem,e0,e1]) rfl ⟨?_,.inl ⟨HA.out,_,rfl,by omega,by simpa [World.setCell] using hown.lt,(hown.setCell (by simp;omega) _).setCell (by simp;omega) _⟩⟩
   exact ((hbw.trans (((Below.refl _ _).alloc (by omega) _).trans (hb.mono (by omega)))).setCell (by simp) _).setCell (by simp) _
def MarkBad (k:Int) (w:World) (e:Ending) (w':World):Prop:=∃ s0 s1,e=.returned (.tuple #[.agg #[.int .i64 s0,.int .i64 s1],.map none,.iface 71 (.int .i64 k)])∧Below w.heap.size w w'
theorem marked_bad (a n:Int) (A:Option Addr) (used:List Int) (c:Nat) (hf:usedFault a n used≠0) (hm:used.length≤maxLen) (w:World) (hl:Rd w w.heap.size A (used.map (Value.int .i64))) :
  Calls Tryz.prog 56 #[.agg #[.int .i64 a,.int .i64 n],.slice A used.length c] w (MarkBad (usedFault a n used) w):=by
 unfold maxLen at hm
 by_cases hc:chk a n=0
 ·by_cases h2:200 < used.length
  ·have e:usedFault a n used=3:=by simp [usedFault,hc,h2]
   rw [e]
   have hF:=Hd hf
   clear e hf
   go_enter Tryz.func56,Tryz.ntmps56
   go_wp2_with fail
   refine (usable_ok _ _ hc _).mono ?_
   rintro e w1 ⟨rfl,hb1⟩
   have hB1:=(Blk.new (w.alloc (.cells #[.int .i64 a,.int .i64 n] 31)) 138 #[.int .i64 0,.int .i64 0]).below hb1 (by simp)
   simp only [World.size_alloc] at hB1
   have hs1:=hb1.size
   simp only [World.size_alloc] at hs1
   obtain ⟨c0,c1,f0,f1⟩:=(hB1.alloc (.cells #[.int .i64 (uLo a n),.int .i64 (uHi a n)] 138)).two
   have hbw:=((((Below.refl w.heap.size w).alloc (Nat.le_refl _) (.cells #[.int .i64 a,.int .i64 n] 31)).alloc (by simp) (.cells #[.int .i64 0,.int .i64 0] 138)).trans (hb1.mono (by simp;omega)))
   clear hb1 hl
   go_wp2
   refine bodyPost_ret (v:=.tuple #[.agg #[.int .i64 (uLo a n),.int .i64 (uHi a n)],.map none,.iface 71 (.int .i64 3)]) (by simp [results,Tryz.results56,go_sem,c0,c1]) rfl ⟨_,_,rfl,?_⟩
   exact ((hbw.alloc (by omega) _).setCell (by simp) _).setCell (by simp) _
  ·have h3:used.all isA=false:=by
    cases h:used.all isA
    ·rfl
    ·exact absurd (usedFault_zero.2 ⟨hc,by omega,h⟩) hf
   have e:usedFault a n used=1:=by simp [usedFault,hc,h2,h3]
   rw [e]
   refine (marked_any a n A used c hc (by omega) w hl).mono ?_
   rintro e w' ⟨hb,⟨h,_⟩ | ⟨_,rfl⟩⟩
   ·rw [h] at h3;cases h3
   ·exact ⟨_,_,rfl,hb⟩
 ·have e:usedFault a n used=chk a n:=by simp [usedFault,hc]
  rw [e]
  clear e hf
  go_enter Tryz.func56,Tryz.ntmps56
  go_wp2_with fail
  refine (usable_bad _ _ hc _).mono ?_
  rintro e w1 ⟨rfl,hb1⟩
  have hB1:=(Blk.new (w.alloc (.cells #[.int .i64 a,.int .i64 n] 31)) 138 #[.int .i64 0,.int .i64 0]).below hb1 (by simp)
  simp only [World.size_alloc] at hB1
  have hs1:=hb1.size
  simp only [World.size_alloc] at hs1
  obtain ⟨c0,c1,f0,f1⟩:=(hB1.alloc (.cells #[.int .i64 0,.int .i64 0] 138)).two
  have hbw:=((((Below.refl w.heap.size w).alloc (Nat.le_refl _) (.cells #[.int .i64 a,.int .i64 n] 31)).alloc (by simp) (.cells #[.int .i64 0,.int .i64 0] 138)).trans (hb1.mono (by simp;omega)))
  clear hb1 hl
  go_wp2
  refine bodyPost_ret (v:=.tuple #[.agg #[.int .i64 0,.int .i64 0],.map none,.iface 71 (.int .i64 (chk a n))]) (by simp [results,Tryz.results56,go_sem,c0,c1]) rfl ⟨_,_,rfl,?_⟩
  exact ((hbw.alloc (by omega) _).setCell (by simp) _).setCell (by simp) _
theorem atKey_marks (l:List Int) (x c:Int) (h:(marksD l).atKey (.int .i64 x) (.lit (.int .i64 0))=.lit (.int .i64 c)):(x ∈ l→c=1)∧(x ∉ l→c=0):=by
 have key:(marksD l).atKey (.int .i64 x) (.lit (.int .i64 0))=if x ∈ l then .lit (.int .i64 1) else .lit (.int .i64 0):=by
  clear h
  unfold marksD
  generalize hn:l.length=n
  induction n generalizing l with
  | zero=>obtain rfl:=List.eq_nil_of_length_eq_zero hn;rfl
  | succ n ih =>
   obtain ⟨r,y,rfl⟩:∃ r y,l=r++[y]:=by
    have:l≠[]:=by intro e;rw [e] at hn;simp at hn
    exact ⟨l.dropLast,l.getLast this,(List.dropLast_concat_getLast this).symm⟩
   rw [List.map_append,List.map_cons,List.map_nil,setOf_snoc]
   by_cases e:x=y
   ·subst e
    rw [atKey_put_same (tidy_setOf _ _ (by simp [WideAt.IsKeyLit])).isMap (by simp [WideAt.IsKeyLit])]
    simp
   ·rw [atKey_put_other (by simpa using e),ih r (by simpa using hn)]
    simp [e]
 rw [key] at h
 refine ⟨fun hm=>?_,fun hm=>?_⟩
 ·rw [if_pos hm] at h;simp at h;exact h.symm
 ·rw [if_neg hm] at h;simp at h;exact h.symm
theorem uSpan {a n:Int} (hc:chk a n=0):uLo a n≤uHi a n+1∧0≤uLo a n∧uHi a n≤4294967295:=by
 obtain ⟨g1,g2,g3,g4,_⟩:=chk_zero.1 hc
 have g5:=last_le hc
 have g6:=last_ge a n
 unfold uLo uHi
 by_cases h:n < 31
 ·have:sz n=2 * sz (n+1):=sz_half n (by omega)
  have:=sz_half (n+1) (by omega)
  have:=sz_pos (n+1+1)
  simp only [h,if_true]
  unfold lastA at *
  omega
 ·simp only [h,if_false];omega
theorem next_bad (a n:Int) (A:Option Addr) (used:List Int) (c:Nat) (hf:usedFault a n used≠0) (hm:used.length≤maxLen) (w:World) (hl:Rd w w.heap.size A (used.map (Value.int .i64))) :
  Calls Tryz.prog 118 #[.agg #[.int .i64 a,.int .i64 n],.slice A used.length c] w fun e w'=>e=.returned (.tuple #[.int .i64 0,.iface 71 (.int .i64 (usedFault a n used))])∧Below w.heap.size w w':=by
 go_enter Tryz.func118,Tryz.ntmps118
 go_wp2_with fail
 refine (marked_bad a n A used c hf hm _ ((hl.alloc (Nat.le_refl _) _).more (by simp))).mono ?_
 rintro e w1 ⟨s0,s1,rfl,hb1⟩
 go_wp2
 go_ret2
 exact ⟨rfl,(((Below.refl _ _).alloc (Nat.le_refl _) _).trans (hb1.mono (by simp))).alloc (by have:=hb1.size;simp at this;omega) _⟩
theorem share_bad (a n:Int) (A:Option Addr) (used:List Int) (c:Nat) (hf:usedFault a n used≠0) (hm:used.length≤maxLen) (w:World) (hl:Rd w w.heap.size A (used.map (Value.int .i64))) :
  Calls Tryz.prog 31 #[.agg #[.int .i64 a,.int .i64 n],.slice A used.length c] w fun e w'=>e=.returned (.tuple #[.int .i64 0,.int .i64 0,.iface 71 (.int .i64 (usedFault a n used))])∧Below w.heap.size w w':=by
 go_enter Tryz.func31,Tryz.ntmps31
 go_wp2_with fail
 refine (marked_bad a n A used c hf hm _ ((hl.alloc (Nat.le_refl _) _).more (by simp))).mono ?_
 rintro e w1 ⟨s0,s1,rfl,hb1⟩
 go_wp2
 go_ret3
 exact ⟨rfl,(((Below.refl _ _).alloc (Nat.le_refl _) _).trans (hb1.mono (by simp))).alloc (by have:=hb1.size;simp at this;omega) _⟩
theorem size_marksD (l:List Int):Maps.size (marksD l)=(distinct l).length:=by
 unfold marksD
 rw [size_setOf _ _ (by simp [WideAt.IsKeyLit])]
 have key:∀ (l acc:List Int),(l.map (Lit.int .i64)).foldl addKey (acc.map (Lit.int .i64))=(l.foldl addNew acc).map (Lit.int .i64):=by
  intro l
  induction l with
  | nil=>intro acc;rfl
  | cons x r ih =>
   intro acc
   have:addKey (acc.map (Lit.int .i64)) (Lit.int .i64 x)=(addNew acc x).map (Lit.int .i64):=by
    unfold addKey addNew
    have e:(acc.map (Lit.int .i64)).any (fun y=>y.sameKey (Lit.int .i64 x))=decide (x ∈ acc):=by
     rw [Bool.eq_iff_iff]
     simp [Lit.sameKey]
    rw [e]
    by_cases h:x ∈ acc <;> simp [h]
   rw [List.map_cons,List.foldl_cons,this,ih,List.foldl_cons]
 have:=key l []
 simp only [List.map_nil] at this
 rw [this]
 simp [distinct]
theorem share_ok (a n:Int) (A:Option Addr) (used:List Int) (c:Nat) (hf:usedFault a n used=0) (w:World) (hl:Rd w w.heap.size A (used.map (Value.int .i64))) :
  Calls Tryz.prog 31 #[.agg #[.int .i64 a,.int .i64 n],.slice A used.length c] w fun e w'=>e=.returned (.tuple #[.int .i64 (distinct (marks a n used)).length,.int .i64 (uHi a n - uLo a n+1),.nilIface])∧Below w.heap.size w w':=by
 obtain ⟨hc,hlen,hall⟩:=usedFault_zero.1 hf
 obtain ⟨u1,u2,u3⟩:=uSpan hc
 have HA:=Hd hall
 clear hall hf
 go_enter Tryz.func31,Tryz.ntmps31
 go_wp2_with fail
 refine (marked_any a n A used c hc hlen _ ((hl.alloc (Nat.le_refl _) _).more (by simp))).mono ?_
 rintro e w1 ⟨hb1,⟨_,b,rfl,hbb,hlt,hown⟩ | ⟨h,_⟩⟩
 ·have hs:=hb1.size
  simp only [World.size_alloc] at hs
  have hown':=hown.alloc (.cells #[.int .i64 (uLo a n),.int .i64 (uHi a n)] 138)
  have hbw:=(((Below.refl _ _).alloc (Nat.le_refl w.heap.size) (.cells #[.int .i64 a,.int .i64 n] 31)).trans (hb1.mono (by simp))).alloc (by omega) (.cells #[.int .i64 (uLo a n),.int .i64 (uHi a n)] 138)
  obtain ⟨k0,k1⟩:=bel2 (B:=w1.heap.size+1) (new2 w1 (.int .i64 (uLo a n)) (.int .i64 (uHi a n)) 138) (by omega)
  have hlenR:∀ (x:BelW (w1.heap.size+1) (w1.alloc (.cells #[.int .i64 (uLo a n),.int .i64 (uHi a n)] 138))) (ty:TypeId),(Builtin.len_ #[mapI] ty #[.map (some b)]).run Tryz.prog x.1=.ok (.int .i64 (distinct (marks a n used)).length) x.1:=fun x ty=>by
   rw [← size_marksD]
   exact (hown'.kept (row:=none) ⟨x.2.os,x.2.tape,x.2.output,x.2.size,fun k hk _=>x.2.block k (by simpa using hk)⟩ (by simp)).len Tryz.underlying139 ty
  clear hb1 hown hown'
  go_wp2_with fail
  refine wp_region_bel (w1.heap.size+1) _ (by kernel_rfl) (by kernel_rfl) (Below.refl _ _) ?_
  repeat (go_big_quiet_step (fail))
  refine wpQuiet_nil ?_
  intro w2 hb2
  clear k0 k1 hlenR
  go_wp2
  go_ret3
  exact ⟨rfl,hbw.trans (hb2.mono (by omega))⟩
 ·rw [HA.out] at h;cases h
def NextPost (a n:Int) (used:List Int) (w:World) (e:Ending) (w':World):Prop :=
 Below w.heap.size w w'∧e=.returned (if nextOf a n used≤uHi a n then .tuple #[.int .i64 (nextOf a n used),.nilIface] else .tuple #[.int .i64 0,.iface 71 (.int .i64 4)])
theorem next_any (a n:Int) (A:Option Addr) (used:List Int) (c:Nat) (hf:usedFault a n used=0) (w:World) (hl:Rd w w.heap.size A (used.map (Value.int .i64))) :
  Calls Tryz.prog 118 #[.agg #[.int .i64 a,.int .i64 n],.slice A used.length c] w (NextPost a n used w):=by
 obtain ⟨hc,hlen,hall⟩:=usedFault_zero.1 hf
 obtain ⟨u1,u2,u3⟩:=uSpan hc
 have HA:=Hd hall
 clear hall hf
 go_enter Tryz.func118,Tryz.ntmps118
 go_wp2_with fail
 refine (marked_any a n A used c hc hlen _ ((hl.alloc (Nat.le_refl _) _).more (by simp))).mono ?_
 rintro e w1 ⟨hb1,⟨_,b,rfl,hbb,hlt,hown⟩ | ⟨h,_⟩⟩
 ·have hs:=hb1.size
  simp only [World.size_alloc] at hs
  have hown':=hown.alloc (.cells #[.int .i64 (uLo a n),.int .i64 (uHi a n)] 138)
  have hbw:=(((Below.refl _ _).alloc (Nat.le_refl w.heap.size) (.cells #[.int .i64 a,.int .i64 n] 31)).trans (hb1.mono (by simp))).alloc (by omega) (.cells #[.int .i64 (uLo a n),.int .i64 (uHi a n)] 138)
  clear hb1 hown
  go_wp2
  go_loop [9] (fun v=>∃ x:Int,v=.int .i64 x∧uLo a n≤x∧x≤uHi a n+1∧∀ z,uLo a n≤z→z < x→z ∈ marks a n used) (fun v=>(uHi a n+1 - intOf v).toNat)
  case atStart=>exact ⟨_,rfl,Int.le_refl _,u1,fun z h1 h2=>by omega⟩
  case round =>
   obtain ⟨x,rfl,x1,x2,hx⟩:=hrel
   have HX:=Hd hx
   clear hx
   go_wp2_with (at_lookup;refine wpList_lookup_own_int _ rfl _ _ mapI rfl 3 3 .i64 lawI Tryz.underlying139 Tryz.underlying3 (zeroI _) b _ _ rfl hown' _ _ rfl (keyOf_int_mk Tryz.underlying3 (WalkArith.wf_i64 (by omega))) ?_;intro cc hat hwc;have Hat:=Hd (atKey_marks _ _ _ hat);clear hat hwc)
   ·go_round
    case rel =>
     have hc1:cc=1:=by
      have:(cc == 1)=true:=by assumption
      simpa using this
     have hm:x ∈ marks a n used:=by
      refine Classical.byContradiction fun h=>?_
      have:=Hat.out.2 h
      omega
     have:=(mem_marks.1 hm).2
     refine ⟨x+1,rfl,by omega,by omega,fun z h1 h2=>?_⟩
     by_cases e:z=x
     ·subst e;exact hm
     ·exact HX.out z h1 (by omega)
    case measure =>
     have hc1:cc=1:=by
      have:(cc == 1)=true:=by assumption
      simpa using this
     have hm:x ∈ marks a n used:=by
      refine Classical.byContradiction fun h=>?_
      have:=Hat.out.2 h
      omega
     have:=(mem_marks.1 hm).2
     simp [intOf];omega
   all_goals
    have hc1:cc≠1:=by
     have:(cc == 1)=false:=by assumption
     simpa using this
    have hm:x ∉ marks a n used:=fun h=>hc1 (Hat.out.1 h)
    have hn:nextOf a n used=x:=nextOf_unique a n used x x1 x2 HX.out hm
    go_ret2
    refine ⟨hbw,?_⟩
    rw [hn]
   ·rw [if_neg (by omega)];rfl
   ·rw [if_pos (by omega)];rfl
 ·rw [HA.out] at h;cases h
def faV (k:Int):Value:=if k=0 then .nilIface else .iface 71 (.int .i64 k)
theorem faV_zero:faV 0=.nilIface:=rfl
theorem faV_num {k:Int} (h:k≠0):faV k=.iface 71 (.int .i64 k):=by unfold faV;rw [if_neg h]
def firstF (x y:Int):Int:=if x≠0 then x else y
theorem first_any (b:Nat) (x y:Int) (w:World) (h0:w.cell? ⟨b,0,none⟩=some (faV x)) (h1:w.cell? ⟨b,1,none⟩=some (faV y)) :
  Calls Tryz.prog 88 #[.slice (some ⟨b,0,none⟩) 2 2] w fun e w'=>e=.returned (faV (firstF x y))∧w=w':=by
 by_cases hx:x=0
 ·subst hx
  rw [faV_zero] at h0
  have hF:firstF 0 y=y:=rfl
  rw [hF]
  by_cases hy:y=0
  ·subst hy
   rw [faV_zero] at h1
   go_enter Tryz.func88,Tryz.ntmps88
   go_wp2
   refine wp_loop_rounds 3 ?_
   iterate 3 (rw [rounds_succ];go_wp2)
   go_ret
   exact ⟨rfl,rfl⟩
  ·rw [faV_num hy] at h1
   rw [faV_num hy]
   go_enter Tryz.func88,Tryz.ntmps88
   go_wp2
   refine wp_loop_rounds 3 ?_
   iterate 2 (rw [rounds_succ];go_wp2)
   go_ret
   exact ⟨rfl,rfl⟩
 ·have hF:firstF x y=x:=by unfold firstF;rw [if_pos hx]
  rw [faV_num hx] at h0
  rw [hF,faV_num hx]
  go_enter Tryz.func88,Tryz.ntmps88
  go_wp2
  refine wp_loop_rounds 3 ?_
  rw [rounds_succ]
  go_wp2
  go_ret
  exact ⟨rfl,rfl⟩
theorem any_snoc (f:Pf→Bool) (l:List Pf) (k:Nat) (h:k < l.length):(l.take (k+1)).any f=((l.take k).any f || f l[k]):=by
 rw [List.take_succ_eq_append_getElem h,List.any_append];simp
theorem any_hit (f:Pf→Bool) (l:List Pf) (k:Nat) (h:k < l.length) (q:f l[k]=true):l.any f=true:=List.any_eq_true.2 ⟨_,List.getElem_mem h,q⟩
theorem withinL_any (a:Int) (ha:chk a 32=0) (A:Option Addr) (l:List Pf) (c:Nat) (hm:l.length≤maxLen) (hl:∀ p ∈ l,chk p.1 p.2=0) (w:World) (hr:Rd w w.heap.size A (cellsP l)) :
  Calls Tryz.prog 55 #[.int .i64 a,.slice A l.length c] w fun e w'=>e=.returned (.bool (l.any fun p=>inP a 32 p.1 p.2))∧Below w.heap.size w w':=by
 unfold maxLen at hm
 have HL:=Hd hl
 have HA:=Hd ha
 clear hl ha
 go_enter Tryz.func55,Tryz.ntmps55
 go_wp2
 go_loopw [9] (fun i wr=>∃ k:Nat,k≤l.length∧i=.int .i64 k∧Below w.heap.size w wr∧Hid ((l.take k).any (fun p=>inP a 32 p.1 p.2)=false)) (fun i _=>l.length - (intOf i).toNat)
 case atStart=>exact ⟨0,Nat.zero_le _,rfl,Below.refl _ _,Hd rfl⟩
 case round =>
  obtain ⟨k,hk,rfl,hb,HN⟩:=hrel
  by_cases hlt:k < l.length
  ·obtain ⟨b0,of0,rfl,hbb,c0,c1⟩:=(hr.below hb).pair hlt
   have HQ:=Hd (HL.out l[k] (List.getElem_mem _))
   have hs:=hb.size
   go_wp2_with fail
   refine (in_any a 32 _ _ HA.out HQ.out _).mono ?_
   rintro e w2 ⟨rfl,hb2⟩
   have hbw:Below w.heap.size w w2:=(hb.alloc (by omega) _).trans (hb2.mono (by simp;omega))
   cases hi:inP a 32 l[k].1 l[k].2 with
   | true =>
    have HF:=Hd (any_hit (fun p=>inP a 32 p.1 p.2) l k hlt hi)
    clear hi
    go_wp2
    go_ret
    exact ⟨by rw [HF.out];rfl,hbw⟩
   | false =>
    have HF:=Hd (show (l.take (k+1)).any (fun p=>inP a 32 p.1 p.2)=false by rw [any_snoc _ _ _ hlt,HN.out,hi];rfl)
    clear hi
    go_wp2
    go_roundw
    case rel=>exact ⟨k+1,by omega,by go_num,hbw,HF⟩
    case measure=>simp [intOf];omega
  ·obtain rfl:k=l.length:=by omega
   have HF:=Hd (show l.any (fun p=>inP a 32 p.1 p.2)=false by have:=HN.out;rwa [List.take_length] at this)
   go_wp2
   go_ret
   exact ⟨by rw [HF.out];rfl,hb⟩
theorem index64 (a n b m:Int) (w:World):(Instr.index 80 (.agg #[.int .i64 a,.int .i64 n,.int .i64 b,.int .i64 m]) (.int .i64 0)).run Tryz.prog w=.ok (.agg #[.int .i64 a,.int .i64 n]) w ∧
  (Instr.index 80 (.agg #[.int .i64 a,.int .i64 n,.int .i64 b,.int .i64 m]) (.int .i64 1)).run Tryz.prog w=.ok (.agg #[.int .i64 b,.int .i64 m]) w:=⟨by kernel_rfl,by kernel_rfl⟩
def withinFault (p q:Pf):Int:=if chkP p≠0 then chkP p else chkP q
def WithinV (p q:Pf):Value:=if withinFault p q=0 then .tuple #[.bool (inQ p q),.nilIface] else .tuple #[.bool false,.iface 71 (.int .i64 (withinFault p q))]
theorem within_any (p q:Pf) (w:World) :
  Calls Tryz.prog 16 #[.agg #[.int .i64 p.1,.int .i64 p.2],.agg #[.int .i64 q.1,.int .i64 q.2]] w fun e w'=>e=.returned (WithinV p q)∧Below w.heap.size w w':=by
 have i0:=fun w=>(index64 p.1 p.2 q.1 q.2 w).1
 have i1:=fun w=>(index64 p.1 p.2 q.1 q.2 w).2
 go_enter Tryz.func16,Tryz.ntmps16
 go_wp2
 have hB1:=(Blk.new w 31 #[.int .i64 p.1,.int .i64 p.2]).alloc (.cells #[.int .i64 q.1,.int .i64 q.2] 31)
 have hB2:=Blk.new (w.alloc (.cells #[.int .i64 p.1,.int .i64 p.2] 31)) 31 #[.int .i64 q.1,.int .i64 q.2]
 have hb0:=((Below.refl w.heap.size w).alloc (Nat.le_refl _) (.cells #[.int .i64 p.1,.int .i64 p.2] 31)).alloc (by simp) (.cells #[.int .i64 q.1,.int .i64 q.2] 31)
 simp only [World.size_alloc] at hB2
 go_loopw [7,8,12] (fun _ _ i wr=>∃ k:Nat,k≤2∧i=.int .i64 k∧Below (w.heap.size+2) ((w.alloc (.cells #[.int .i64 p.1,.int .i64 p.2] 31)).alloc (.cells #[.int .i64 q.1,.int .i64 q.2] 31)) wr∧(0 < k→chkP p=0)∧(1 < k→chkP q=0)) (fun _ _ i _=>2 - (intOf i).toNat)
 case atStart=>exact ⟨0,by omega,rfl,Below.refl _ _,by omega,by omega⟩
 case round =>
  obtain ⟨k,hk,rfl,hb,v1,v2⟩:=hrel
  have hs:=hb.size
  simp only [World.size_alloc] at hs
  obtain ⟨c0,c1,_⟩:=(hB1.below hb (by omega)).two
  obtain ⟨d0,d1,_⟩:=(hB2.below hb (by omega)).two
  rcases show k=0∨k=1∨k=2 by omega with rfl | rfl | rfl
  ·by_cases hc:chkP p=0
   ·go_wp2_with (go_at_call 28;refine (check_ok _ _ hc _).mono ?_;rintro e w1 ⟨rfl,hb1⟩)
    go_roundw
    case rel=>exact ⟨1,by omega,by go_num,(hb.alloc (by omega) _).trans (hb1.mono (by simp;omega)),fun _=>hc,by omega⟩
    case measure=>simp [intOf]
   ·have HW:=Hd (show WithinV p q=.tuple #[.bool false,.iface 71 (.int .i64 (chkP p))] by simp [WithinV,withinFault,hc])
    go_wp2_with (go_at_call 28;refine (check_bad _ _ hc _).mono ?_;rintro e w1 ⟨rfl,hb1⟩)
    go_ret2
    exact ⟨by rw [HW.out];rfl,hb0.trans (((hb.alloc (by omega) _).trans (hb1.mono (by simp;omega))).mono (by omega))⟩
  ·have hp:=v1 (by omega)
   by_cases hc:chkP q=0
   ·go_wp2_with (go_at_call 28;refine (check_ok _ _ hc _).mono ?_;rintro e w1 ⟨rfl,hb1⟩)
    go_roundw
    case rel=>exact ⟨2,by omega,by go_num,(hb.alloc (by omega) _).trans (hb1.mono (by simp;omega)),fun _=>hp,fun _=>hc⟩
    case measure=>simp [intOf]
   ·have HW:=Hd (show WithinV p q=.tuple #[.bool false,.iface 71 (.int .i64 (chkP q))] by simp [WithinV,withinFault,hp,hc])
    go_wp2_with (go_at_call 28;refine (check_bad _ _ hc _).mono ?_;rintro e w1 ⟨rfl,hb1⟩)
    go_ret2
    exact ⟨by rw [HW.out];rfl,hb0.trans (((hb.alloc (by omega) _).trans (hb1.mono (by simp;omega))).mono (by omega))⟩
  ·have hp:=v1 (by omega)
   have hq:=v2 (by omega)
   have HW:=Hd (show WithinV p q=.tuple #[.bool (inP p.1 p.2 q.1 q.2),.nilIface] by simp [WithinV,withinFault,hp,hq,inQ])
   go_wp2_with (go_at_call 29;refine (in_any _ _ _ _ hp hq _).mono ?_;rintro e w1 ⟨rfl,hb1⟩)
   go_ret2
   exact ⟨by rw [HW.out];rfl,hb0.trans ((hb.mono (by omega)).trans (hb1.mono (by omega)))⟩
theorem within_ok (p q:Pf) (hp:chkP p=0) (hq:chkP q=0) (w:World) :
  Calls Tryz.prog 16 #[.agg #[.int .i64 p.1,.int .i64 p.2],.agg #[.int .i64 q.1,.int .i64 q.2]] w fun e w'=>e=.returned (.tuple #[.bool (inQ p q),.nilIface])∧Below w.heap.size w w' :=
 (within_any p q w).mono fun e w' h=>⟨by rw [h.1];simp [WithinV,withinFault,hp,hq],h.2⟩
end Go.Proofs.YtkckcbhnnllkhaaGreatDoor
