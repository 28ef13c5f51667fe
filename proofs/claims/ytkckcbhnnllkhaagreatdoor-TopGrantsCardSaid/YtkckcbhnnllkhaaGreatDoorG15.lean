/- Parts of the proof; conditions: as each theorem says. -/
import Derived.Test.YtkckcbhnnllkhaaGreatDoorG13
import Derived.Test.YtkckcbhnnllkhaaGreatDoorG11
import Derived.Test.YtkckcbhnnllkhaaGreatDoorG1
import Derived.Shelf.SlSortCmp.NoneTotal
import Derived.Test.YtkckcbhnnllkhaaGreatDoorG35
import Derived.BigRegion
import Derived.Lib.SliceRun
set_option linter.unusedVariables false
set_option linter.unusedSimpArgs false
set_option maxRecDepth 100000
set_option maxHeartbeats 40000000
namespace Go.Proofs.YtkckcbhnnllkhaaGreatDoor
open Go.RowKit Go.Sort Go.Shelf
theorem lessB_eq':∀ (x y:List UInt8),Op.bytesLess x y=lessB x y
 | _,[]=>by simp [Op.bytesLess,lessB]
 | [],_::_=>by simp [Op.bytesLess,lessB]
 | a::x,b::y=>by simp [Op.bytesLess,lessB,lessB_eq' x y]
def cfKV (x y:KV):Int:=if lessB x.1 y.1 then -1 else 1
theorem ltKV (x y:KV):ltOf cfKV x y=lessB x.1 y.1:=by
 unfold ltOf cfKV
 cases lessB x.1 y.1 <;> simp
theorem swoKV:SWO (ltOf cfKV) where
 irrefl x:=by rw [ltKV,lessB_irrefl]
 trans x y z h1 h2:=by rw [ltKV] at *;exact lessB_trans h1 h2
 ntrans x y z h1 h2:=by
  rw [ltKV] at *
  cases h:lessB x.1 z.1 with
  | false=>rfl
  | true =>
   rcases lessB_total x.1 y.1 with q | q | q
   ·rw [q] at h1;cases h1
   ·rw [q] at h;rw [h] at h2;cases h2
   ·have:=lessB_trans q h
    rw [this] at h2
    cases h2
theorem cmpKV (x y:KV) (W:World):Calls Tryz.prog 81 #[.agg #[txt x.1,txt x.2],.agg #[txt y.1,txt y.2]] W fun e w'=>e=.returned (.int .i64 (cfKV x y))∧∃ q os',w'=grow (W.drewN q) os':=by
 obtain ⟨x1,x2⟩:=x
 obtain ⟨y1,y2⟩:=y
 have hl:=lessB_eq' x1 y1
 have hR:cfKV (x1,x2) (y1,y2)=if lessB x1 y1 then -1 else 1:=rfl
 rw [hR,← hl]
 clear hl hR
 cases h:Op.bytesLess x1 y1
 ·go_enter Tryz.func81,Tryz.ntmps81
  go_wp2
  all_goals first | go_quiet (fail) | skip
  all_goals go_wp2
  all_goals go_ret
  all_goals exact ⟨rfl,0,_,by rw [alloc_eq_grow,alloc_eq_grow,grow_grow];rfl⟩
 ·go_enter Tryz.func81,Tryz.ntmps81
  go_wp2
  all_goals first | go_quiet (fail) | skip
  all_goals go_wp2
  all_goals go_ret
  all_goals exact ⟨rfl,0,_,by rw [alloc_eq_grow,alloc_eq_grow,grow_grow];rfl⟩
theorem sortKV_any (v:Value) (l:List KV) (base:Nat) (hlen:l.length≤1000000) (w:World) (hown:OwnKV w base v l) :
  Calls Tryz.prog 80 #[v,.func (.func 81) #[] #[]] w fun e w'=>e=.returned (.tuple #[])∧∃ L,OwnKV w' base v L∧L.Perm l∧L.Pairwise (fun x y=>lessB y.1 x.1=false)∧Below base w w':=by
 by_cases h:l=[]
 ·subst h
  obtain ⟨A,c,rfl,_⟩:=hown.rd
  have hcon:=AnyF.slices_SortFunc_none laySortP A c (.func (.func 81) #[] #[]) w
  change Calls Tryz.prog 80 _ _ _ at hcon
  refine hcon.mono ?_
  rintro e w' ⟨rfl,rfl⟩
  exact ⟨rfl,[],hown,List.Perm.refl _,List.Pairwise.nil,Below.refl _ _⟩
 ·obtain ⟨d,rfl⟩:∃ d:Array KV,d.toList=l:=⟨l.toArray,by simp⟩
  unfold OwnKV at hown
  rw [Array.length_toList] at hown hlen
  have hform:∃ g c,v=.slice (some ⟨g,0,none⟩) d.size c∧base≤g∧g < w.heap.size:=by
   rcases hown.2 with ⟨_,h0⟩ | ⟨g,cap,cur,e0,hb,hg,_⟩
   ·exact absurd (List.eq_nil_of_length_eq_zero (show d.toList.length=0 by simpa using h0)) h
   ·exact ⟨g,cap,e0,hb,(Array.getElem?_eq_some_iff.1 hg).1⟩
  obtain ⟨g,c,rfl,hb,hg⟩:=hform
  have hcon:=AnyQ.slices_SortFunc laySortP 2 Tryz.isAgg78 Tryz.sizeOf78 encKV (fun _=>rfl) encKV_one cfKV swoKV 81 #[] g 0 c d w
   (fun _ _=>by kernel_rfl) (fun _ _ _ _ x y=>cmpKV x y _) (holds_ownE (by decide) encKV_len hown rfl) hg (by omega)
  change Calls Tryz.prog 80 _ _ _ at hcon
  refine hcon.mono ?_
  rintro e w' ⟨rfl,d',n,os,hp,hs,rfl⟩
  refine ⟨rfl,d'.toList,?_,?_,?_,(Below.refl _ _).grown (grown_sortedE hg) (by omega) (fun k hk=>by injection hk with hk;omega)⟩
  ·unfold OwnKV
   rw [Array.length_toList,hp.1]
   exact own_sortedE (by decide) encKV_len hown hp.1
  ·have:=hp.2.2
   rw [show d.size=d'.size from hp.1.symm] at this
   have e1:d'.extract 0 d'.size=d':=by simp
   have e2:d.extract 0 d'.size=d:=by rw [hp.1];simp
   rw [e1,e2] at this
   exact this
  ·rw [List.pairwise_iff_getElem]
   intro i j hi hj hij
   have:=hs i j (Nat.zero_le _) hij (by rw [← hp.1];simpa using hj)
   rw [ltKV,getElem!_pos d' i (by simpa using hi),getElem!_pos d' j (by simpa using hj)] at this
   simpa using this
def encC (c:Chg):List Value:=[txt c.key,txt c.val,.bool c.gone]
theorem encC_len (c:Chg):(encC c).length=3:=rfl
theorem encC_one (c:Chg):∀ u ∈ encC c,u.oneCell'=true:=by
 intro u hu
 simp [encC] at hu
 rcases hu with rfl | rfl | rfl <;> rfl
theorem infoC:(Tryz.prog.info? 112).map (fun i=>(i.zero,i.size,i.bytes))=some (some (.agg #[.string ⟨#[]⟩,.string ⟨#[]⟩,.bool false]),3,40):=by kernel_rfl
theorem cellsC_flat:∀ l:List Chg,cellsC l=flatE encC l
 | []=>rfl
 | c::l=>by
  have ih:=cellsC_flat l
  unfold flatE at ih ⊢
  rw [List.flatMap_cons,← ih]
  rfl
def OwnC (w:World) (base:Nat) (v:Value) (l:List Chg):Prop:=w.ownsRow base 112 3 v l.length (flatE encC l)
theorem OwnC.nil (w:World) (base:Nat):OwnC w base (.slice none 0 0) []:=World.ownsRow_nil _ _ _ _
theorem OwnC.rd {w:World} {base:Nat} {v:Value} {l:List Chg} (h:OwnC w base v l):∃ A c,v=.slice A l.length c∧Rd w w.heap.size A (flatE encC l):=own_form h
def cfC (x y:Chg):Int:=if lessB x.key y.key then -1 else 1
theorem ltC (x y:Chg):ltOf cfC x y=lessB x.key y.key:=by
 unfold ltOf cfC
 cases lessB x.key y.key <;> simp
theorem swoC:SWO (ltOf cfC) where
 irrefl x:=by rw [ltC,lessB_irrefl]
 trans x y z h1 h2:=by rw [ltC] at *;exact lessB_trans h1 h2
 ntrans x y z h1 h2:=by
  rw [ltC] at *
  cases h:lessB x.key z.key with
  | false=>rfl
  | true =>
   rcases lessB_total x.key y.key with q | q | q
   ·rw [q] at h1;cases h1
   ·rw [q] at h;rw [h] at h2;cases h2
   ·have:=lessB_trans q h
    rw [this] at h2
    cases h2
theorem cmpC (x y:Chg) (W:World):Calls Tryz.prog 38 #[.agg #[txt x.key,txt x.val,.bool x.gone],.agg #[txt y.key,txt y.val,.bool y.gone]] W fun e w'=>e=.returned (.int .i64 (cfC x y))∧∃ q os',w'=grow (W.drewN q) os':=by
 obtain ⟨x1,x2,x3⟩:=x
 obtain ⟨y1,y2,y3⟩:=y
 have hl:=lessB_eq' x1 y1
 have hR:cfC ⟨x1,x2,x3⟩ ⟨y1,y2,y3⟩=if lessB x1 y1 then -1 else 1:=rfl
 rw [hR,← hl]
 clear hl hR
 cases h:Op.bytesLess x1 y1
 ·go_enter Tryz.func38,Tryz.ntmps38
  go_wp2
  all_goals first | go_quiet (fail) | skip
  all_goals go_wp2
  all_goals go_ret
  all_goals exact ⟨rfl,0,_,by rw [alloc_eq_grow,alloc_eq_grow,grow_grow];rfl⟩
 ·go_enter Tryz.func38,Tryz.ntmps38
  go_wp2
  all_goals first | go_quiet (fail) | skip
  all_goals go_wp2
  all_goals go_ret
  all_goals exact ⟨rfl,0,_,by rw [alloc_eq_grow,alloc_eq_grow,grow_grow];rfl⟩
theorem sortC_any (v:Value) (l:List Chg) (base:Nat) (hlen:l.length≤1000000) (w:World) (hown:OwnC w base v l) :
  Calls Tryz.prog 37 #[v,.func (.func 38) #[] #[]] w fun e w'=>e=.returned (.tuple #[])∧∃ L,OwnC w' base v L∧L.Perm l∧L.Pairwise (fun x y=>lessB y.key x.key=false)∧Below base w w':=by
 by_cases h:l=[]
 ·subst h
  obtain ⟨A,c,rfl,_⟩:=hown.rd
  have hcon:=AnyF.slices_SortFunc_none laySortC A c (.func (.func 38) #[] #[]) w
  change Calls Tryz.prog 37 _ _ _ at hcon
  refine hcon.mono ?_
  rintro e w' ⟨rfl,rfl⟩
  exact ⟨rfl,[],hown,List.Perm.refl _,List.Pairwise.nil,Below.refl _ _⟩
 ·obtain ⟨d,rfl⟩:∃ d:Array Chg,d.toList=l:=⟨l.toArray,by simp⟩
  unfold OwnC at hown
  rw [Array.length_toList] at hown hlen
  have hform:∃ g c,v=.slice (some ⟨g,0,none⟩) d.size c∧base≤g∧g < w.heap.size:=by
   rcases hown.2 with ⟨_,h0⟩ | ⟨g,cap,cur,e0,hb,hg,_⟩
   ·exact absurd (List.eq_nil_of_length_eq_zero (show d.toList.length=0 by simpa using h0)) h
   ·exact ⟨g,cap,e0,hb,(Array.getElem?_eq_some_iff.1 hg).1⟩
  obtain ⟨g,c,rfl,hb,hg⟩:=hform
  have hcon:=AnyQ.slices_SortFunc laySortC 3 Tryz.isAgg112 Tryz.sizeOf112 encC (fun _=>rfl) encC_one cfC swoC 38 #[] g 0 c d w
   (fun _ _=>by kernel_rfl) (fun _ _ _ _ x y=>cmpC x y _) (holds_ownE (by decide) encC_len hown rfl) hg (by omega)
  change Calls Tryz.prog 37 _ _ _ at hcon
  refine hcon.mono ?_
  rintro e w' ⟨rfl,d',n,os,hp,hs,rfl⟩
  refine ⟨rfl,d'.toList,?_,?_,?_,(Below.refl _ _).grown (grown_sortedE hg) (by omega) (fun k hk=>by injection hk with hk;omega)⟩
  ·unfold OwnC
   rw [Array.length_toList,hp.1]
   exact own_sortedE (by decide) encC_len hown hp.1
  ·have:=hp.2.2
   rw [show d.size=d'.size from hp.1.symm] at this
   have e1:d'.extract 0 d'.size=d':=by simp
   have e2:d.extract 0 d'.size=d:=by rw [hp.1];simp
   rw [e1,e2] at this
   exact this
  ·rw [List.pairwise_iff_getElem]
   intro i j hi hj hij
   have:=hs i j (Nat.zero_le _) hij (by rw [← hp.1];simpa using hj)
   rw [ltC,getElem!_pos d' i (by simpa using hi),getElem!_pos d' j (by simpa using hj)] at this
   simpa using this
theorem cmpKVd (x y:KV) (W:World):Calls Tryz.prog 173 #[.agg #[txt x.1,txt x.2],.agg #[txt y.1,txt y.2]] W fun e w'=>e=.returned (.int .i64 (cfKV x y))∧∃ q os',w'=grow (W.drewN q) os':=by
 obtain ⟨x1,x2⟩:=x
 obtain ⟨y1,y2⟩:=y
 have hl:=lessB_eq' x1 y1
 have hR:cfKV (x1,x2) (y1,y2)=if lessB x1 y1 then -1 else 1:=rfl
 rw [hR,← hl]
 clear hl hR
 cases h:Op.bytesLess x1 y1
 ·go_enter Tryz.func173,Tryz.ntmps173
  go_wp2
  all_goals first | go_quiet (fail) | skip
  all_goals go_wp2
  all_goals go_ret
  all_goals exact ⟨rfl,0,_,by rw [alloc_eq_grow,alloc_eq_grow,grow_grow];rfl⟩
 ·go_enter Tryz.func173,Tryz.ntmps173
  go_wp2
  all_goals first | go_quiet (fail) | skip
  all_goals go_wp2
  all_goals go_ret
  all_goals exact ⟨rfl,0,_,by rw [alloc_eq_grow,alloc_eq_grow,grow_grow];rfl⟩
theorem sortKVd_any (v:Value) (l:List KV) (base:Nat) (hlen:l.length≤1000000) (w:World) (hown:OwnKV w base v l) :
  Calls Tryz.prog 80 #[v,.func (.func 173) #[] #[]] w fun e w'=>e=.returned (.tuple #[])∧∃ L,OwnKV w' base v L∧L.Perm l∧L.Pairwise (fun x y=>lessB y.1 x.1=false)∧Below base w w':=by
 by_cases h:l=[]
 ·subst h
  obtain ⟨A,c,rfl,_⟩:=hown.rd
  have hcon:=AnyF.slices_SortFunc_none laySortP A c (.func (.func 173) #[] #[]) w
  change Calls Tryz.prog 80 _ _ _ at hcon
  refine hcon.mono ?_
  rintro e w' ⟨rfl,rfl⟩
  exact ⟨rfl,[],hown,List.Perm.refl _,List.Pairwise.nil,Below.refl _ _⟩
 ·obtain ⟨d,rfl⟩:∃ d:Array KV,d.toList=l:=⟨l.toArray,by simp⟩
  unfold OwnKV at hown
  rw [Array.length_toList] at hown hlen
  have hform:∃ g c,v=.slice (some ⟨g,0,none⟩) d.size c∧base≤g∧g < w.heap.size:=by
   rcases hown.2 with ⟨_,h0⟩ | ⟨g,cap,cur,e0,hb,hg,_⟩
   ·exact absurd (List.eq_nil_of_length_eq_zero (show d.toList.length=0 by simpa using h0)) h
   ·exact ⟨g,cap,e0,hb,(Array.getElem?_eq_some_iff.1 hg).1⟩
  obtain ⟨g,c,rfl,hb,hg⟩:=hform
  have hcon:=AnyQ.slices_SortFunc laySortP 2 Tryz.isAgg78 Tryz.sizeOf78 encKV (fun _=>rfl) encKV_one cfKV swoKV 173 #[] g 0 c d w
   (fun _ _=>by kernel_rfl) (fun _ _ _ _ x y=>cmpKVd x y _) (holds_ownE (by decide) encKV_len hown rfl) hg (by omega)
  change Calls Tryz.prog 80 _ _ _ at hcon
  refine hcon.mono ?_
  rintro e w' ⟨rfl,d',n,os,hp,hs,rfl⟩
  refine ⟨rfl,d'.toList,?_,?_,?_,(Below.refl _ _).grown (grown_sortedE hg) (by omega) (fun k hk=>by injection hk with hk;omega)⟩
  ·unfold OwnKV
   rw [Array.length_toList,hp.1]
   exact own_sortedE (by decide) encKV_len hown hp.1
  ·have:=hp.2.2
   rw [show d.size=d'.size from hp.1.symm] at this
   have e1:d'.extract 0 d'.size=d':=by simp
   have e2:d.extract 0 d'.size=d:=by rw [hp.1];simp
   rw [e1,e2] at this
   exact this
  ·rw [List.pairwise_iff_getElem]
   intro i j hi hj hij
   have:=hs i j (Nat.zero_le _) hij (by rw [← hp.1];simpa using hj)
   rw [ltKV,getElem!_pos d' i (by simpa using hi),getElem!_pos d' j (by simpa using hj)] at this
   simpa using this
open Go.RowKit
theorem sort_all (v:Value) (l:List Sp) (base:Nat) (hv:∀ s ∈ l,0≤s.1∧s.1≤4294967295) (hlen:l.length≤1000000) (w:World) (hown:OwnP w base 138 v l) :
  Calls Tryz.prog 192 #[v,.func (.func 193) #[] #[]] w fun e w'=>e=.returned (.tuple #[])∧∃ L,OwnP w' base 138 v L∧L.Perm l∧L.Pairwise (fun x y=>x.1≤y.1)∧Below base w w':=by
 by_cases h:l=[]
 ·subst h
  obtain ⟨A,c,rfl,_⟩:=hown.form
  have hcon:=AnyF.slices_SortFunc_none laySort A c (.func (.func 193) #[] #[]) w
  change Calls Tryz.prog 192 _ _ _ at hcon
  refine hcon.mono ?_
  rintro e w' ⟨rfl,rfl⟩
  exact ⟨rfl,[],hown,List.Perm.refl _,List.Pairwise.nil,Below.refl _ _⟩
 ·exact sort_any v l base hv hlen w hown h
theorem cloneS_any (A:Option Addr) (l:List Sp) (c:Nat) (hlen:l.length≤1000000) (w:World) (hl:Rd w w.heap.size A (cellsP l)) :
  Calls Tryz.prog 191 #[.slice A l.length c] w (OwnRes 138 w l):=by
 rcases A with _ | ad
 ·have h0:l=[]:=by
   rcases l with _ | ⟨s,r⟩
   ·rfl
   ·obtain ⟨b,off,e,_⟩:=hl (by simp [cellsP])
    cases e
  subst h0
  have q22:∀ (w:World) (a:Option Addr) (n c n' c':Nat),(binOp .eql 269 (.slice a n c) (.slice none n' c')).run Tryz.prog w=.ok (.bool a.isNone) w:=fun w a n c n' c'=>Lib.run_eql_slice_nil w _ _ a n c n' c' Tryz.underlying269
  go_enter Tryz.func191,Tryz.ntmps191
  go_wp2
  go_ret
  exact ⟨_,rfl,OwnP.nil _ _ _,Below.refl _ _⟩
 ·have hl2:=hl.alloc (Nat.le_refl _) (.cells #[] 138)
  have hm:=World.ownsRow_made (base:=w.heap.size) (e:=138) (size:=2) w #[] 0 (Nat.le_refl _) (by decide) rfl
  have hb0:=(Below.refl w.heap.size w).alloc (Nat.le_refl _) (.cells #[] 138)
  have q22:∀ (w:World) (a:Option Addr) (n c n' c':Nat),(binOp .eql 269 (.slice a n c) (.slice none n' c')).run Tryz.prog w=.ok (.bool a.isNone) w:=fun w a n c n' c'=>Lib.run_eql_slice_nil w _ _ a n c n' c' Tryz.underlying269
  go_enter Tryz.func191,Tryz.ntmps191
  go_wp2_with (at_builtin;refine wpList_append_rd rfl (.tmp 5) (.tmp 6) 269 rfl 138 Tryz.underlying269 _ 2 16 infoSp rfl (by decide) w.heap.size _ 0 [] rfl hm w.heap.size (some ad) l.length c _ rfl (by rw [cellsP_length]) hl2 (cellsP_one l) (by unfold maxLen;omega) (by omega) (by simp) ?_;intro v5 w5 hown5 hb5)
  go_ret
  rw [Nat.zero_add,List.nil_append] at hown5
  exact ⟨_,rfl,hown5,hb0.trans hb5⟩
theorem mergeL_norm {l L:List Sp} (hp:L.Perm l) (hs:L.Pairwise (fun x y=>x.1≤y.1)) (hv:Valid l):mergeL L=norm l:=normMerge hp hs hv
def mergeApp (O r:List Sp):List Sp:=match O.getLast? with
 | none=>mergeL r
 | some c=>O.dropLast++mergeGo c r
theorem mergeApp_snoc (O:List Sp) (c:Sp) (r:List Sp):mergeApp (O++[c]) r=O++mergeGo c r:=by
 unfold mergeApp
 rw [List.getLast?_append,List.getLast?_singleton,Option.some_or]
 simp
theorem mergeApp_in {O:List Sp} {c s:Sp} {r:List Sp} (h:s.1≤c.2+1):mergeApp (O++[(c.1,max c.2 s.2)]) r=mergeApp (O++[c]) (s::r):=by
 rw [mergeApp_snoc,mergeApp_snoc]
 conv=>rhs;rw [mergeGo,if_pos h]
theorem mergeApp_new {O:List Sp} {c s:Sp} {r:List Sp} (h:¬ s.1≤c.2+1):mergeApp (O++[c]++[s]) r=mergeApp (O++[c]) (s::r):=by
 rw [mergeApp_snoc,mergeApp_snoc]
 conv=>rhs;rw [mergeGo,if_neg h]
 simp
theorem mergeApp_end (O:List Sp):mergeApp O []=O:=by
 rcases List.eq_nil_or_concat O with rfl | ⟨O',c,rfl⟩
 ·rfl
 ·rw [List.concat_eq_append,mergeApp_snoc];rfl
theorem cells_set (O:List Sp) (q:Sp) (u:Int):(cellsP (O++[q])).set (O.length * 2+1) (.int .i64 u)=cellsP (O++[(q.1,u)]):=by
 rw [cellsP_append,cellsP_append,List.set_append_right _ _ (by rw [cellsP_length];omega),cellsP_length,show O.length * 2+1 - O.length * 2=1 by omega]
 rfl
theorem merge_any' (A:Option Addr) (l:List Sp) (c:Nat) (hv:∀ s ∈ l,0≤s.1∧s.1≤4294967295∧0≤s.2∧s.2≤4294967295) (hlen:l.length≤1000000) (w:World) (hl:Rd w w.heap.size A (cellsP l)) :
  Calls Tryz.prog 176 #[.slice A l.length c] w fun e w'=>∃ L,L.Perm l∧L.Pairwise (fun x y=>x.1≤y.1)∧OwnRes 138 w (mergeL L) e w':=by
 have HV:=Hd hv
 clear hv
 go_enter Tryz.func176,Tryz.ntmps176
 go_wp2_with fail
 refine (cloneS_any A l c hlen _ hl).mono ?_
 rintro e w1 ⟨v1,rfl,hown1,hb1⟩
 have hs1:=hb1.size
 go_wp2_with fail
 refine (sort_all v1 l w.heap.size (fun s hs=>⟨(HV.out s hs).1,(HV.out s hs).2.1⟩) hlen w1 hown1).mono ?_
 rintro e w2 ⟨rfl,L,hown2,hp,hpw,hb2⟩
 have hbw:=hb1.trans hb2
 have HVL:=Hd (show ∀ s ∈ L,0≤s.1∧s.1≤4294967295∧0≤s.2∧s.2≤4294967295 from fun s hs=>HV.out s (hp.mem_iff.1 hs))
 have hLl:L.length≤1000000:=by rw [hp.length_eq];exact hlen
 have HP:=Hd hp
 have HPW:=Hd hpw
 have hs2:=hbw.size
 obtain ⟨A2,c2,rfl,hr⟩:=hown2.form
 clear hp hpw hown1 hown2 hb1 hb2 HV hl hlen hs1
 go_wp2
 go_loopw [3,5,6,13] (fun v _ _ vi wr=>∃ (k:Nat) (O:List Sp),k≤L.length∧vi=.int .i64 k∧Below w2.heap.size w2 wr∧OwnP wr w2.heap.size 138 v O∧O.length≤k∧(∀ p ∈ O,0≤p.2∧p.2≤4294967295)∧mergeApp O (L.drop k)=mergeL L) (fun _ _ _ vi _=>L.length - (intOf vi).toNat)
 case atStart=>exact ⟨0,[],Nat.zero_le _,rfl,Below.refl _ _,OwnP.nil _ _ _,by simp,by simp,rfl⟩
 case round =>
  obtain ⟨k,O,hk,rfl,hb,hown,hO,hOl,hg⟩:=hrel
  by_cases hlt:k < L.length
  ·obtain ⟨b,off,rfl,hbb,c0,c1⟩:=(hr.below hb).pair hlt
   have hs:=hb.size
   obtain ⟨s1,s2,s3,s4⟩:=HVL.out L[k] (List.getElem_mem _)
   rw [List.drop_eq_getElem_cons hlt] at hg
   have hown':=hown.alloc (.cells #[.int .i64 L[k].1,.int .i64 L[k].2] 138)
   have hb':=hb.alloc hs (.cells #[.int .i64 L[k].1,.int .i64 L[k].2] 138)
   obtain ⟨k0,k1⟩:=bel2 (B:=wr.heap.size+1) (new2 wr (.int .i64 L[k].1) (.int .i64 L[k].2) 138) (by omega)
   by_cases hO0:O=[]
   ·subst hO0
    have HG:=Hd (show mergeApp [L[k]] (L.drop (k+1))=mergeL L from hg)
    clear hg hOl
    obtain ⟨Av,cv,hv,_⟩:=hown.form
    simp only [List.length_nil] at hv
    subst hv
    go_wp2_with fail
    refine wp_region_bel (wr.heap.size+1) _ (by kernel_rfl) (by kernel_rfl) (Below.refl _ _) ?_
    repeat (go_big_quiet_step (fail))
    refine wpQuiet_nil ?_
    intro w3 hb2
    have hb3:=hb'.trans (hb2.mono (by omega))
    have hs3:=hb3.size
    have hown2:=hown'.below (by simpa using hb2)
    obtain ⟨e0,e1,_⟩:=((Blk.new wr 138 #[.int .i64 L[k].1,.int .i64 L[k].2]).below hb2 (by omega)).two
    clear k0 k1 hb2 hown hown'
    go_wp2_with (at_builtin;refine wpList_append_pair (p:=L[k]) rfl _ _ 269 rfl Tryz.underlying269 infoSp w2.heap.size _ _ rfl hown2 rfl (by simp) hs3 ?_;intro v4 w4 hown4 hb4)
    go_roundw
    case rel=>exact ⟨k+1,[L[k]],by omega,by go_num,hb3.trans hb4,hown4,by simp,by intro p hp;simp at hp;subst hp;exact ⟨s3,s4⟩,HG.out⟩
    case measure=>simp [intOf];omega
   ·obtain ⟨O',q,rfl⟩:∃ O' q,O=O'++[q]:=⟨O.dropLast,O.getLast hO0,(List.dropLast_concat_getLast hO0).symm⟩
    have hq:=hOl q (by simp)
    obtain ⟨q1,q2⟩:=hq
    have hL:(O'++[q]).length=O'.length+1:=by simp
    obtain ⟨g,cap,hv⟩:∃ g cap,u3=.slice (some ⟨g,0,none⟩) (O'.length+1) cap:=by
     rcases hown.2 with ⟨_,h0⟩ | ⟨g,cap,cur,e0,_⟩
     ·rw [hL] at h0;omega
     ·exact ⟨g,cap,by rw [e0,hL]⟩
    subst hv
    unfold OwnP at hown
    rw [hL] at hown
    have hga:=World.ownsRow.lt hown g rfl
    have hcell:∀ j,j < (O'.length+1) * 2→wr.cell? ⟨g,j,none⟩=(cellsP (O'++[q]))[j]?:=fun j hj=>World.ownsRow.cellAt hown j hj
    have d0:wr.cell? ⟨g,O'.length * 2,none⟩=some (.int .i64 q.1):=by
     rw [hcell _ (by omega),Nat.mul_comm,(cellsP_at (O'++[q]) O'.length (by simp)).1];simp
    have d1:wr.cell? ⟨g,O'.length * 2+1,none⟩=some (.int .i64 q.2):=by
     rw [hcell _ (by omega),Nat.mul_comm,(cellsP_at (O'++[q]) O'.length (by simp)).2];simp
    clear hcell
    rw [hL] at hO
    have k2:∀ x:BelW (wr.heap.size+1) (wr.alloc (.cells #[.int .i64 L[k].1,.int .i64 L[k].2] 138)),x.1.cell? ⟨g,O'.length * 2+1,none⟩=some (.int .i64 q.2):=BelW.cell ((World.cell?_alloc_lt wr _ _ (by simp;omega)).trans d1) (by simp;omega)
    by_cases h1:L[k].1≤q.2+1
    ·have HG:=Hd (show mergeApp (O'++[(q.1,max q.2 L[k].2)]) (L.drop (k+1))=mergeL L by rw [mergeApp_in h1];exact hg)
     clear hg
     go_wp2_with fail
     refine wp_region_bel (wr.heap.size+1) _ (by kernel_rfl) (by kernel_rfl) (Below.refl _ _) ?_
     repeat (go_big_quiet_step (fail))
     refine wpQuiet_nil ?_
     intro w3 hb2
     have hb3:=hb'.trans (hb2.mono (by omega))
     have hown3:=own_below (World.ownsRow.alloc hown (.cells #[.int .i64 L[k].1,.int .i64 L[k].2] 138)) (by simpa using hb2)
     have e2:w3.cell? ⟨g,O'.length * 2+1,none⟩=some (.int .i64 q.2):=(k2 ⟨w3,hb2⟩)
     have f2:=World.ownsRow.frozenAt hown3 (O'.length * 2+1)
     obtain ⟨e0,e1,_⟩:=((Blk.new wr 138 #[.int .i64 L[k].1,.int .i64 L[k].2]).below hb2 (by omega)).two
     clear k0 k1 k2 hb2 hown hown' d0 d1 c0 c1
     go_wp2_with fail
     go_region
     have hst:=World.ownsRow.stored hown3 (O'.length * 2+1) (.int .i64 (max q.2 L[k].2))
     have hown4:OwnP ((w3.setCell ⟨g,O'.length * 2+1,none⟩ (.int .i64 (max q.2 L[k].2))).drew) w2.heap.size 138 (.slice (some ⟨g,0,none⟩) (O'.length+1) cap) (O'++[(q.1,max q.2 L[k].2)]):=by
      unfold OwnP
      rw [show (O'++[(q.1,max q.2 L[k].2)]).length=O'.length+1 by simp,← cells_set]
      exact World.ownsRow.drew hst.1
     have hb4:Below w2.heap.size w2 ((w3.setCell ⟨g,O'.length * 2+1,none⟩ (.int .i64 (max q.2 L[k].2))).drew):=(hb3.setCell (p:=⟨g,O'.length * 2+1,none⟩) hga.1 _).drew
     have HOL:=Hd hOl
     have HL:=Hd hL
     clear hst hown3 e2 f2 e0 e1 hOl hL hO0
     generalize ((w3.setCell ⟨g,O'.length * 2+1,none⟩ (.int .i64 (max q.2 L[k].2))).drew)=w4 at hown4 hb4 ⊢
     go_wp2
     go_roundw
     case rel=>exact ⟨k+1,O'++[(q.1,max q.2 L[k].2)],by omega,by go_num,hb4,hown4,by simp;omega,(by intro p hp;rcases List.mem_append.1 hp with hp | hp;exact HOL.out p (by simp [hp]);simp at hp;subst hp;exact ⟨by simp;omega,by simp;omega⟩),HG.out⟩
     case measure=>simp [intOf];omega
    ·have HG:=Hd (show mergeApp (O'++[q]++[L[k]]) (L.drop (k+1))=mergeL L by rw [mergeApp_new h1];exact hg)
     have h1':decide (L[k].1≤q.2+1)=false:=by simpa using h1
     clear hg
     go_wp2_with fail
     refine wp_region_bel (wr.heap.size+1) _ (by kernel_rfl) (by kernel_rfl) (Below.refl _ _) ?_
     repeat (go_big_quiet_step (fail))
     refine wpQuiet_nil ?_
     intro w3 hb2
     have hb3:=hb'.trans (hb2.mono (by omega))
     have hs3:=hb3.size
     have hown3:=own_below (World.ownsRow.alloc hown (.cells #[.int .i64 L[k].1,.int .i64 L[k].2] 138)) (by simpa using hb2)
     have hown4:OwnP w3 w2.heap.size 138 (.slice (some ⟨g,0,none⟩) (O'.length+1) cap) (O'++[q]):=by unfold OwnP;rw [hL];exact hown3
     obtain ⟨e0,e1,_⟩:=((Blk.new wr 138 #[.int .i64 L[k].1,.int .i64 L[k].2]).below hb2 (by omega)).two
     have HOL:=Hd hOl
     have HL:=Hd hL
     clear k0 k1 k2 hb2 hown hown' d0 d1 c0 c1 hown3 hOl hL hO0
     go_wp2_with (at_builtin;refine wpList_append_pair (p:=L[k]) rfl _ _ 269 rfl Tryz.underlying269 infoSp w2.heap.size _ _ rfl hown4 rfl (by rw [HL.out];omega) hs3 ?_;intro v5 w5 hown5 hb5)
     go_roundw
     case rel=>exact ⟨k+1,O'++[q]++[L[k]],by omega,by go_num,hb3.trans hb5,hown5,by simp;omega,(by intro p hp;rcases List.mem_append.1 hp with hp | hp;exact HOL.out p hp;simp at hp;subst hp;exact ⟨s3,s4⟩),HG.out⟩
     case measure=>simp [intOf];omega
  ·obtain rfl:k=L.length:=by omega
   have HO:=Hd (show O=mergeL L by rw [List.drop_length,mergeApp_end] at hg;exact hg)
   clear hg
   go_wp2
   go_ret
   exact ⟨L,HP.out,HPW.out,_,rfl,HO.out ▸ (own_of_base hown hs2),hbw.trans (hb.mono hs2)⟩
theorem merge_any (A:Option Addr) (l:List Sp) (c:Nat) (hv:Valid l) (hlen:l.length≤1000000) (w:World) (hl:Rd w w.heap.size A (cellsP l)) :
  Calls Tryz.prog 176 #[.slice A l.length c] w (OwnRes 138 w (norm l)) :=
 (merge_any' A l c (fun s hs=>by have:=hv s hs;unfold maxA at this;omega) hlen w hl).mono fun e w' ⟨L,hp,hpw,h⟩=>by rw [← mergeL_norm hp hpw hv];exact h
end Go.Proofs.YtkckcbhnnllkhaaGreatDoor
