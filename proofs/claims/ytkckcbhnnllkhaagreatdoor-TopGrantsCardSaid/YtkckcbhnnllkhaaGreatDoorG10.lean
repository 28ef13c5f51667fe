/- Parts of the proof; conditions: as each theorem says. -/
import Derived.WalkKit
import Derived.WalkLawsBesides
import Derived.WalkSpells
import Derived.Outline
import Derived.Deep.QuietTactic
import Derived.BigQuiet
import Derived.Lib.Hide
import Derived.Deep.AppendLies
import Derived.Maps.AppendAt
import Derived.OwnWalk
import Derived.Maps.RangeRun
import Derived.Maps.OwnSet
import Derived.Maps.RangeWalk
set_option linter.unusedVariables false
set_option linter.unusedSimpArgs false
namespace Go.Proofs.YtkckcbhnnllkhaaGreatDoor
theorem Hd {p:Prop} (h:p):Go.RowKit.Hid p:=Go.Lib.hid h
open Go.RowKit
def BelW (B:Nat) (W:World):={ x:World // Below B W x }
instance belNonempty (B:Nat) (W:World):Nonempty (BelW B W):=⟨⟨W,Below.refl _ _⟩⟩
section
variable {P : Program}
theorem wp_region_bel (B:Nat) (W:World) {id:Nat} {Q:Exit→Act→World→Prop} {a:Act} {w:World} {l:List Oper} (hm:P.follows .mixedOrders=true) (hB:Region.lexB .any l.toArray=true)
  (hw:Below B W w) (h:wpQuiet P l.toArray (fun w'=>∃ x:BelW B W,w'=x.1) (fun a'=>∀ w',Below B W w'→Q .normal a' w') l a):(Code.region id l.toArray true).wp P Q a w:=by
 refine wp_region_quiet (C:=fun w'=>∃ x:BelW B W,w'=x.1) hm hB ⟨⟨_,hw.drew⟩,rfl⟩ ?_
 have hq:(fun a'=>∀ w',(∃ x:BelW B W,w'=x.1)→Q .normal a' w')=(fun a'=>∀ w',Below B W w'→Q .normal a' w'):=by
  funext a'
  refine propext ⟨fun h w' hb=>h w' ⟨⟨w',hb⟩,rfl⟩,fun h w' hb=>?_⟩
  obtain ⟨x,rfl⟩:=hb
  exact h _ x.2
 rw [hq]
 simpa using h
theorem Calls.bel_of {f:FuncId} {args:Array Value} {B:Nat} {W:World} {x:BelW B W} {v:Value} (hB:B≤W.heap.size)
  (h:Calls P f args x.1 fun e w'=>e=.returned v∧Below x.1.heap.size x.1 w'):Calls P f args x.1 fun e w''=>e=.returned v∧∃ y:BelW B W,w''=y.1 :=
 h.mono fun _ w' ⟨he,hb⟩=>⟨he,⟨w',x.2.trans (hb.mono (Nat.le_trans hB x.2.size))⟩,rfl⟩
theorem Calls.bel_same {f:FuncId} {args:Array Value} {B:Nat} {W:World} {x:BelW B W} {v:Value}
  (h:Calls P f args x.1 fun e w'=>e=.returned v∧x.1=w'):Calls P f args x.1 fun e w''=>e=.returned v∧∃ y:BelW B W,w''=y.1 :=
 h.mono fun _ w' ⟨he,hb⟩=>⟨he,x,hb.symm⟩
theorem BelW.cell {B:Nat} {W:World} {a:Addr} {v:Value} (h:W.cell? a=some v) (hb:a.block < B) (x:BelW B W):x.1.cell? a=some v:=(x.2.cell hb).trans h
end
def cellsP:List (Int × Int)→List Value
 | []=>[]
 | p::l=>.int .i64 p.1::.int .i64 p.2::cellsP l
theorem cellsP_length:∀ l,(cellsP l).length=l.length * 2
 | []=>rfl
 | p::l=>by simp [cellsP,cellsP_length l];omega
theorem cellsP_append:∀ l m,cellsP (l++m)=cellsP l++cellsP m
 | [],m=>rfl
 | p::l,m=>by simp [cellsP,cellsP_append l m]
theorem cellsP_at:∀ (l:List (Int × Int)) (k:Nat) (h:k < l.length),(cellsP l)[2 * k]?=some (.int .i64 l[k].1)∧(cellsP l)[2 * k+1]?=some (.int .i64 l[k].2)
 | p::l,0,_=>by simp [cellsP]
 | p::l,k+1,h=>by
  have ih:=cellsP_at l k (by simpa using h)
  have e1:2 * (k+1)=2 * k+1+1:=by omega
  rw [e1]
  simpa [cellsP] using ih
theorem cellsP_one:∀ (l:List (Int × Int)),∀ u ∈ cellsP l,u.oneCell'=true
 | [],u,h=>by simp [cellsP] at h
 | p::l,u,h=>by
  simp only [cellsP,List.mem_cons] at h
  rcases h with rfl | rfl | h
  ·rfl
  ·rfl
  ·exact cellsP_one l u h
def Rd (w:World) (B:Nat) (A:Option Addr) (xs:List Value):Prop :=
 xs≠[]→∃ b off,A=some ⟨b,off,none⟩∧b < B∧∀ j u,xs[j]?=some u→w.cell? ⟨b,off+j,none⟩=some u
section
variable {w w' : World} {B B' : Nat} {A : Option Addr} {xs : List Value}
theorem Rd.nil:Rd w B A []:=fun h=>absurd rfl h
theorem Rd.keep (h:Rd w B A xs) (hk:∀ p:Addr,p.block < B→w'.cell? p=w.cell? p):Rd w' B A xs:=fun hn=>by
 obtain ⟨b,off,e,hb,hc⟩:=h hn
 exact ⟨b,off,e,hb,fun j u hu=>(hk _ hb).trans (hc j u hu)⟩
theorem Rd.more (h:Rd w B A xs) (hB:B≤B'):Rd w B' A xs:=fun hn=>by
 obtain ⟨b,off,e,hb,hc⟩:=h hn
 exact ⟨b,off,e,by omega,hc⟩
theorem Rd.below (h:Rd w B A xs) (hb:Below B w w'):Rd w' B A xs:=h.keep fun _ hp=>hb.cell hp
theorem Rd.alloc (h:Rd w B A xs) (hB:B≤w.heap.size) (o:Obj):Rd (w.alloc o) B A xs:=h.keep fun p hp=>World.cell?_alloc_lt w o p (by omega)
theorem Rd.of_own {base:Nat} {e:TypeId} {size n c:Nat} (h:w.ownsRow base e size (.slice A n c) n xs):Rd w w.heap.size A xs:=by
 intro hn
 rcases h.2 with ⟨h1,h2⟩ | ⟨g,cap,cur,hv,hg,hh,_,_,hs,ht⟩
 ·have:xs.length=0:=by rw [h.1,h2];simp
  exact absurd (List.eq_nil_of_length_eq_zero this) hn
 ·have hA:A=some ⟨g,0,none⟩:=by injection hv
  subst hA
  refine ⟨g,0,rfl,(Array.getElem?_eq_some_iff.1 hh).1,fun j u hu=>?_⟩
  have:=h.cells (g:=g) rfl j u hu
  rwa [show ((⟨g,0,none⟩:Addr).add j)=⟨g,0+j,none⟩ by unfold Addr.add;split <;> simp_all] at this
theorem own_form {base:Nat} {e:TypeId} {size n:Nat} {v:Value} (h:w.ownsRow base e size v n xs):∃ A c,v=.slice A n c∧Rd w w.heap.size A xs:=by
 rcases h.2 with ⟨h1,h2⟩ | ⟨g,cap,cur,hv,_⟩
 ·subst h2
  have hx:xs=[]:=List.eq_nil_of_length_eq_zero (by simpa using h.1)
  subst hx
  exact ⟨none,0,h1,Rd.nil⟩
 ·exact ⟨_,cap,hv,Rd.of_own (hv ▸ h)⟩
theorem Rd.pair {l:List (Int × Int)} (h:Rd w B A (cellsP l)) {k:Nat} (hk:k < l.length) :
  ∃ b off,A=some ⟨b,off,none⟩∧b < B∧w.cell? ⟨b,off+k * 2,none⟩=some (.int .i64 l[k].1)∧w.cell? ⟨b,off+k * 2+1,none⟩=some (.int .i64 l[k].2):=by
 obtain ⟨b,off,e,hb,hc⟩:=h (fun h=>by have:=cellsP_length l;rw [h] at this;simp at this;omega)
 rw [Nat.mul_comm k 2]
 exact ⟨b,off,e,hb,hc _ _ (cellsP_at l k hk).1,hc _ _ (cellsP_at l k hk).2⟩
end
theorem new2 (w:World) (u v:Value) (t:TypeId):(w.alloc (.cells #[u,v] t)).cell? ⟨w.heap.size,0,none⟩=some u∧(w.alloc (.cells #[u,v] t)).cell? ⟨w.heap.size,1,none⟩=some v :=
 ⟨World.cell?_alloc_at _ _ _ _ rfl,World.cell?_alloc_at _ _ _ _ rfl⟩
theorem keep2 {B:Nat} {w w':World} {g:Nat} {u v:Value} (hb:Below B w w') (h:w.cell? ⟨g,0,none⟩=some u∧w.cell? ⟨g,1,none⟩=some v) (hg:g < B) :
  w'.cell? ⟨g,0,none⟩=some u∧w'.cell? ⟨g,1,none⟩=some v:=⟨(hb.cell hg).trans h.1,(hb.cell hg).trans h.2⟩
theorem Rd.int {w:World} {B:Nat} {A:Option Addr} {l:List Int} (h:Rd w B A (l.map (Value.int .i64))) {k:Nat} (hk:k < l.length) :
  ∃ b off,A=some ⟨b,off,none⟩∧b < B∧w.cell? ⟨b,off+k,none⟩=some (.int .i64 l[k]):=by
 obtain ⟨b,off,e,hb,hc⟩:=h (fun h=>by have:=congrArg List.length h;simp at this;subst this;simp at hk)
 exact ⟨b,off,e,hb,hc k _ (by rw [List.getElem?_map,List.getElem?_eq_getElem hk];rfl)⟩
theorem own_below {w w':World} {base:Nat} {e:TypeId} {size:Nat} {v:Value} {n:Nat} {xs:List Value} (h:w.ownsRow base e size v n xs) (hb:Below w.heap.size w w'):w'.ownsRow base e size v n xs :=
 h.kept (row:=none) ⟨hb.os,hb.tape,hb.output,hb.size,fun k hk _=>hb.block k hk⟩ (by cases v.ownBlock <;> simp)
theorem own_of_base {w:World} {base base':Nat} {e:TypeId} {size:Nat} {v:Value} {n:Nat} {xs:List Value} (h:w.ownsRow base e size v n xs) (hb:base'≤base):w.ownsRow base' e size v n xs:=by
 refine ⟨h.1,?_⟩
 rcases h.2 with h2 | ⟨g,cap,cur,hv,hg,r⟩
 ·exact .inl h2
 ·exact .inr ⟨g,cap,cur,hv,by omega,r⟩
theorem new22 (w:World) (u v u' v':Value) (t t':TypeId):(((w.alloc (.cells #[u,v] t)).alloc (.cells #[u',v'] t')).cell? ⟨w.heap.size,0,none⟩=some u∧((w.alloc (.cells #[u,v] t)).alloc (.cells #[u',v'] t')).cell? ⟨w.heap.size,1,none⟩=some v) ∧
  (((w.alloc (.cells #[u,v] t)).alloc (.cells #[u',v'] t')).cell? ⟨w.heap.size+1,0,none⟩=some u'∧((w.alloc (.cells #[u,v] t)).alloc (.cells #[u',v'] t')).cell? ⟨w.heap.size+1,1,none⟩=some v'):=by
 refine ⟨keep2 (B:=w.heap.size+1) ((Below.refl _ _).alloc (by simp) _) (new2 w u v t) (by omega),?_⟩
 simp
theorem bel2 {B:Nat} {W:World} {g:Nat} {u v:Value} (h:W.cell? ⟨g,0,none⟩=some u∧W.cell? ⟨g,1,none⟩=some v) (hg:g < B) :
  (∀ x:BelW B W,x.1.cell? ⟨g,0,none⟩=some u)∧(∀ x:BelW B W,x.1.cell? ⟨g,1,none⟩=some v):=⟨BelW.cell h.1 hg,BelW.cell h.2 hg⟩
def Blk (w:World) (g:Nat) (t:TypeId) (cs:Array Value):Prop:=w.heap[g]?=some (.cells cs t (0,0))
section
variable {w w' : World} {g : Nat} {t : TypeId} {cs : Array Value}
theorem Blk.lt (h:Blk w g t cs):g < w.heap.size:=(Array.getElem?_eq_some_iff.1 h).1
theorem Blk.cell (h:Blk w g t cs) (i:Nat):w.cell? ⟨g,i,none⟩=cs[i]?:=cell_of_row w g i cs t (0,0) h
theorem Blk.frozen (h:Blk w g t cs) (i:Nat):w.frozen? ⟨g,i,none⟩=false:=by
 unfold Blk at h
 simp [World.frozen?,h]
theorem Blk.new (w:World) (t:TypeId) (cs:Array Value):Blk (w.alloc (.cells cs t)) w.heap.size t cs:=heap_alloc_new w _
theorem Blk.alloc (h:Blk w g t cs) (o:Obj):Blk (w.alloc o) g t cs:=(Below.heap_alloc w o g h.lt).trans h
theorem Blk.setCell (h:Blk w g t cs) (i:Nat) (u:Value):Blk (w.setCell ⟨g,i,none⟩ u) g t (cs.setIfInBounds i u):=by
 unfold Blk at h ⊢
 simp [World.setCell,Array.getElem?_modify,h]
theorem Blk.far (h:Blk w g t cs) {p:Addr} (hp:g≠p.block) (u:Value):Blk (w.setCell p u) g t cs:=(Below.heap_setCell w p u g hp).trans h
theorem Blk.below {B:Nat} (h:Blk w g t cs) (hb:Below B w w') (hg:g < B):Blk w' g t cs:=(hb.block g hg).trans h
theorem Blk.grown {row:Option Nat} (h:Blk w g t cs) (hb:w.grownBy w' row) (hg:some g≠row):Blk w' g t cs:=(hb.block g h.lt hg).trans h
theorem Blk.two {u v:Value} (h:Blk w g t #[u,v]):w.cell? ⟨g,0,none⟩=some u∧w.cell? ⟨g,1,none⟩=some v∧w.frozen? ⟨g,0,none⟩=false∧w.frozen? ⟨g,1,none⟩=false :=
 ⟨h.cell 0,h.cell 1,h.frozen 0,h.frozen 1⟩
end
def OwnP (w:World) (base:Nat) (e:TypeId) (v:Value) (l:List (Int × Int)):Prop:=w.ownsRow base e 2 v l.length (cellsP l)
theorem OwnP.below {w w':World} {base:Nat} {e:TypeId} {v:Value} {l:List (Int × Int)} (h:OwnP w base e v l) (hb:Below w.heap.size w w'):OwnP w' base e v l:=own_below h hb
theorem OwnP.alloc {w:World} {base:Nat} {e:TypeId} {v:Value} {l:List (Int × Int)} (h:OwnP w base e v l) (o:Obj):OwnP (w.alloc o) base e v l:=World.ownsRow.alloc h o
theorem OwnP.nil (w:World) (base:Nat) (e:TypeId):OwnP w base e (.slice none 0 0) []:=World.ownsRow_nil _ _ _ _
theorem OwnP.block {w:World} {base:Nat} {e:TypeId} {v:Value} {l:List (Int × Int)} (h:OwnP w base e v l):∀ k,v.ownBlock=some k→base≤k:=fun k hk=>(World.ownsRow.lt h k hk).1
theorem OwnP.form {w:World} {base:Nat} {e:TypeId} {v:Value} {l:List (Int × Int)} (h:OwnP w base e v l):∃ A c,v=.slice A l.length c∧Rd w w.heap.size A (cellsP l):=by
 rcases h.2 with ⟨h1,h2⟩ | ⟨g,cap,cur,hv,_⟩
 ·have:l=[]:=List.eq_nil_of_length_eq_zero h2
  subst this
  exact ⟨none,0,h1,Rd.nil⟩
 ·exact ⟨_,cap,hv,Rd.of_own (hv ▸ h)⟩
theorem wpList_append_pair {P:Program} {ops:Array Oper} {rest:List Oper} {o:Oper} {a:Act} {Q:Exit→Act→World→Prop} {w1:World} {e:TypeId} {p:Int × Int} (hgd:o.guard=none) (s x:Operand) (t:TypeId)
  (ho:o.op=.call { callee:=.builtin .append,args:=#[s,x],argTypes:=#[t,t] }) (ht:P.underlying t=some (.slice e))
  (hinfo:(P.info? e).map (fun i=>(i.zero,i.size,i.bytes))=some (some (.agg #[.int .i64 0,.int .i64 0]),2,16))
  (base:Nat) (v:Value) (l:List (Int × Int)) (hs:a.eval s=v) (hown:OwnP w1 base e v l)
  (hx:a.eval x=.slice (some ⟨w1.heap.size,0,none⟩) 1 1) (hlen:l.length < 1000000000000) (hbase:base≤w1.heap.size)
  (h:∀ v' w',OwnP w' base e v' (l++[p])→Below base w1 w'→wpList P ops Q rest (a.put o.dst v') w') :
  wpList P ops Q (o::rest) a (w1.alloc (.cells #[.int .i64 p.1,.int .i64 p.2] e)):=by
 obtain ⟨i0,hi0,hz0,hz1,hz2⟩:=info_parts hinfo
 refine wpList_append_own _ hgd s x t ho base e i0 _ 2 16 ht hi0 hz0 hz1 hz2 rfl (by decide) v l.length (cellsP l) hs (World.ownsRow.alloc hown _) ⟨w1.heap.size,0,none⟩ 1 1 [.int .i64 p.1,.int .i64 p.2] hx rfl ?_ ?_ ?_ ?_ ?_ ?_
 ·intro j u hj
  match j,hj with
  | 0,hj=>simp at hj;subst hj;simp [Addr.add]
  | 1,hj=>simp at hj;subst hj;simp [Addr.add]
  | j+2,hj=>simp at hj
 ·intro u hu
  simp at hu
  rcases hu with rfl | rfl <;> rfl
 ·unfold maxLen;omega
 ·omega
 ·simp;omega
 ·intro v' w' hown' hgrow _
  refine h v' w' ?_ ?_
  ·unfold OwnP
   rw [cellsP_append,List.length_append]
   exact hown'
  ·exact ((Below.refl _ _).alloc hbase _).grown hgrow (by simp;omega) (fun k hk=>hown.block k hk)
theorem wpList_append_rd {P:Program} {ops:Array Oper} {rest:List Oper} {o:Oper} {a:Act} {Q:Exit→Act→World→Prop} {w:World} (hgd:o.guard=none) (s x:Operand) (t:TypeId)
  (ho:o.op=.call { callee:=.builtin .append,args:=#[s,x],argTypes:=#[t,t] }) (e:TypeId) (ht:P.underlying t=some (.slice e)) (z:Value) (size bytes:Nat)
  (hinfo:(P.info? e).map (fun i=>(i.zero,i.size,i.bytes))=some (some z,size,bytes)) (hzs:z.cells.size=size) (hsz:0 < size)
  (base:Nat) (v:Value) (n:Nat) (xs:List Value) (hs:a.eval s=v) (hown:w.ownsRow base e size v n xs)
  (B:Nat) (A:Option Addr) (m c:Nat) (news:List Value) (hx:a.eval x=.slice A m c) (hl:news.length=m * size) (hr:Rd w B A news) (h1:∀ u ∈ news,u.oneCell'=true)
  (h63:n+m≤maxLen) (hbytes:(n+m) * bytes≤140737488355328) (hbase:base≤w.heap.size)
  (h:∀ v' w',w'.ownsRow base e size v' (n+m) (xs++news)→Below base w w'→wpList P ops Q rest (a.put o.dst v') w') :
  wpList P ops Q (o::rest) a w:=by
 obtain ⟨i0,hi0,hz0,hz1,hz2⟩:=info_parts hinfo
 have main:∀ ad,A=some ad→(∀ j u,news[j]?=some u→w.cell? (ad.add j)=some u)→wpList P ops Q (o::rest) a w:=fun ad hA hc=>by
  subst hA
  exact wpList_append_own _ hgd s x t ho base e i0 _ size bytes ht hi0 hz0 hz1 hz2 hzs hsz v n xs hs hown ad m c news hx hl hc h1 h63 hbytes hbase
   (fun v' w' g1 g2 _=>h v' w' g1 ((Below.refl _ _).grown g2 hbase (fun k hk=>(hown.lt k hk).1)))
 by_cases hn:news=[]
 ·subst hn
  have hm:m=0:=by
   rcases Nat.eq_zero_or_pos m with h0 | h0
   ·exact h0
   ·have:=Nat.mul_pos h0 hsz;rw [← hl] at this;simp at this
  subst hm
  rcases A with _ | ad
  ·refine wpList_plain hgd fun K hK=>?_
   unfold Oper.wp execOp
   have hrun:(Builtin.append_ #[t,t] o.type #[v,.slice none 0 c]).run P w=.ok v w:=by
    rcases hown.2 with ⟨rfl,rfl⟩ | ⟨g,cap,cur,rfl,_,_,hnc,_⟩
    ·simp [Builtin.append_,run_underlying ht,sizeOf,typeInfo,hi0,Builtin.lenOf,Builtin.firstCells]
    ·simp [Builtin.append_,run_underlying ht,sizeOf,typeInfo,hi0,Builtin.lenOf,Builtin.firstCells,hnc,storeCells]
   simp only [ho,resolve,invoke,builtin,Sem.run_bind,Sem.run_pure,Result.andThen_ok,List.map_toArray,List.map_cons,List.map_nil,hs,hx,hrun]
   exact hK _ _ (h v w (by simpa using hown) (Below.refl _ _))
  ·exact main ad rfl (fun j u hu=>by simp at hu)
 ·obtain ⟨b,off,rfl,hb,hc⟩:=hr hn
  exact main _ rfl (fun j u hu=>by
   have:=hc j u hu
   rwa [show ((⟨b,off,none⟩:Addr).add j)=⟨b,off+j,none⟩ by unfold Addr.add;split <;> simp_all])
theorem wpList_append_one {P:Program} {ops:Array Oper} {rest:List Oper} {o:Oper} {a:Act} {Q:Exit→Act→World→Prop} {w1:World} {e:TypeId} {u:Value} (hgd:o.guard=none) (s x:Operand) (t:TypeId)
  (ho:o.op=.call { callee:=.builtin .append,args:=#[s,x],argTypes:=#[t,t] }) (ht:P.underlying t=some (.slice e)) (z:Value) (bytes:Nat)
  (hinfo:(P.info? e).map (fun i=>(i.zero,i.size,i.bytes))=some (some z,1,bytes)) (hzs:z.cells.size=1) (hby:bytes≤1024)
  (base:Nat) (v:Value) (n:Nat) (xs:List Value) (hs:a.eval s=v) (hown:w1.ownsRow base e 1 v n xs)
  (hx:a.eval x=.slice (some ⟨w1.heap.size,0,none⟩) 1 1) (h1:u.oneCell'=true) (hlen:n < 10000000000) (hbase:base≤w1.heap.size)
  (h:∀ v' w',w'.ownsRow base e 1 v' (n+1) (xs++[u])→Below base w1 w'→wpList P ops Q rest (a.put o.dst v') w') :
  wpList P ops Q (o::rest) a (w1.alloc (.cells #[u] e)):=by
 obtain ⟨i0,hi0,hz0,hz1,hz2⟩:=info_parts hinfo
 refine wpList_append_own _ hgd s x t ho base e i0 _ 1 bytes ht hi0 hz0 hz1 hz2 hzs (by decide) v n xs hs (hown.alloc _) ⟨w1.heap.size,0,none⟩ 1 1 [u] hx rfl ?_ ?_ ?_ ?_ ?_ ?_
 ·intro j u' hj
  match j,hj with
  | 0,hj=>simp at hj;subst hj;simp [Addr.add]
  | j+1,hj=>simp at hj
 ·intro u' hu
  simp at hu
  subst hu
  exact h1
 ·unfold maxLen;omega
 ·have:=Nat.mul_le_mul (show n+1≤10000000000 by omega) hby;omega
 ·simp;omega
 ·intro v' w' hown' hgrow _
  exact h v' w' hown' (((Below.refl _ _).alloc hbase _).grown hgrow (by simp;omega) (fun k hk=>(hown.lt k hk).1))
def OwnRes (e:TypeId) (w:World) (l:List (Int × Int)) (en:Ending) (w':World):Prop:=∃ v,en=.returned v∧OwnP w' w.heap.size e v l∧Below w.heap.size w w'
theorem Blk.cls3 {w:World} {b:Nat} {t:TypeId} {cs:Array Value} (h:Blk w b t cs):w.cell? ⟨b,0,none⟩=cs[0]?∧w.cell? ⟨b,1,none⟩=cs[1]?∧w.cell? ⟨b,2,none⟩=cs[2]?:=⟨h.cell 0,h.cell 1,h.cell 2⟩
theorem Blk.cls5 {w:World} {b:Nat} {t:TypeId} {cs:Array Value} (h:Blk w b t cs):w.cell? ⟨b,0,none⟩=cs[0]?∧w.cell? ⟨b,1,none⟩=cs[1]?∧w.cell? ⟨b,2,none⟩=cs[2]?∧w.cell? ⟨b,3,none⟩=cs[3]?∧w.cell? ⟨b,4,none⟩=cs[4]?:=⟨h.cell 0,h.cell 1,h.cell 2,h.cell 3,h.cell 4⟩
theorem Blk.cls7 {w:World} {b:Nat} {t:TypeId} {cs:Array Value} (h:Blk w b t cs):w.cell? ⟨b,0,none⟩=cs[0]?∧w.cell? ⟨b,1,none⟩=cs[1]?∧w.cell? ⟨b,2,none⟩=cs[2]?∧w.cell? ⟨b,3,none⟩=cs[3]?∧w.cell? ⟨b,4,none⟩=cs[4]?∧w.cell? ⟨b,5,none⟩=cs[5]?∧w.cell? ⟨b,6,none⟩=cs[6]?:=⟨h.cell 0,h.cell 1,h.cell 2,h.cell 3,h.cell 4,h.cell 5,h.cell 6⟩
theorem Blk.cls9 {w:World} {b:Nat} {t:TypeId} {cs:Array Value} (h:Blk w b t cs):w.cell? ⟨b,0,none⟩=cs[0]?∧w.cell? ⟨b,1,none⟩=cs[1]?∧w.cell? ⟨b,2,none⟩=cs[2]?∧w.cell? ⟨b,3,none⟩=cs[3]?∧w.cell? ⟨b,4,none⟩=cs[4]?∧w.cell? ⟨b,5,none⟩=cs[5]?∧w.cell? ⟨b,6,none⟩=cs[6]?∧w.cell? ⟨b,7,none⟩=cs[7]?∧w.cell? ⟨b,8,none⟩=cs[8]?:=⟨h.cell 0,h.cell 1,h.cell 2,h.cell 3,h.cell 4,h.cell 5,h.cell 6,h.cell 7,h.cell 8⟩
theorem Blk.frs3 {w:World} {b:Nat} {t:TypeId} {cs:Array Value} (h:Blk w b t cs):w.frozen? ⟨b,0,none⟩=false∧w.frozen? ⟨b,1,none⟩=false∧w.frozen? ⟨b,2,none⟩=false:=⟨h.frozen 0,h.frozen 1,h.frozen 2⟩
theorem Blk.frs5 {w:World} {b:Nat} {t:TypeId} {cs:Array Value} (h:Blk w b t cs):w.frozen? ⟨b,0,none⟩=false∧w.frozen? ⟨b,1,none⟩=false∧w.frozen? ⟨b,2,none⟩=false∧w.frozen? ⟨b,3,none⟩=false∧w.frozen? ⟨b,4,none⟩=false:=⟨h.frozen 0,h.frozen 1,h.frozen 2,h.frozen 3,h.frozen 4⟩
abbrev txt (l:List UInt8):Value:=.string ⟨l.toArray⟩
open Go Go.RowKit Go.MapKept
open Go.ChangeMaps (modify_eq_set setBlock heap_setBlock_same heap_setBlock_other)
open Go.Maps (Keyed)
structure MapAt (w:World) (P:Program) (k:TypeId) (b:Nat) (es:Array MapEntry) (clock:Nat):Prop where
 hb:w.heap[b]?=some (.map es clock)
 size:es.size≤maxLen
 stamped:Stamped es clock
 keys:∀ x ∈ es.toList,∃ l,keyOf P k x.key=some l
def Has (es:Array MapEntry) (key v:Value):Prop:=∃ x ∈ es.toList,x.key=key∧x.val=v
section
variable {P : Program} {k : TypeId} {b : Nat} {es : Array MapEntry} {clock : Nat} {w : World}
theorem entry_one:∀ {l:List MapEntry},(l.map (·.key)).Nodup→∀ {x y:MapEntry},x ∈ l→y ∈ l→x.key=y.key→x=y
 | [],_,_,_,hx,_,_=>by cases hx
 | a::r,hn,x,y,hx,hy,h=>by
  rw [List.map_cons,List.nodup_cons] at hn
  rcases List.mem_cons.1 hx with ex | hx
  ·rcases List.mem_cons.1 hy with ey | hy
   ·exact ex.trans ey.symm
   ·exact absurd (List.mem_map.2 ⟨y,hy,h.symm.trans (by rw [ex])⟩) hn.1
  ·rcases List.mem_cons.1 hy with ey | hy
   ·exact absurd (List.mem_map.2 ⟨x,hx,h.trans (by rw [ey])⟩) hn.1
   ·exact entry_one hn.2 hx hy h
theorem nodup_inj {α:Type} {l:List α} (h:l.Nodup) {i j:Nat} {hi:i < l.length} {hj:j < l.length}:l[i]=l[j] ↔ i=j:=by
 constructor
 ·intro e
  rcases Nat.lt_trichotomy i j with q | q | q
  ·exact absurd e ((List.pairwise_iff_getElem.1 h) i j hi hj q)
  ·exact q
  ·exact absurd e.symm ((List.pairwise_iff_getElem.1 h) j i hj hi q)
 ·intro e;subst e;rfl
theorem filter_set_off {α:Type} (p:α→Bool):∀ (l:List α) (j:Nat) (y:α),(∀ x,l[j]?=some x→p x=false)→p y=false→(l.set j y).filter p=l.filter p
 | [],_,_,_,_=>rfl
 | a::r,0,y,h,hy=>by rw [List.set_cons_zero,List.filter_cons_of_neg (by simp [hy]),List.filter_cons_of_neg (by simp [h a rfl])]
 | a::r,j+1,y,h,hy=>by
  rw [List.set_cons_succ,List.filter_cons,List.filter_cons,filter_set_off p r j y (fun x hx=>h x (by simpa using hx)) hy]
theorem filter_erase_off {α:Type} (p:α→Bool):∀ (l:List α) (j:Nat),(∀ x,l[j]?=some x→p x=false)→(l.eraseIdx j).filter p=l.filter p
 | [],_,_=>rfl
 | a::r,0,h=>by rw [List.eraseIdx_cons_zero,List.filter_cons_of_neg (by simp [h a rfl])]
 | a::r,j+1,h=>by
  rw [List.eraseIdx_cons_succ,List.filter_cons,List.filter_cons,filter_erase_off p r j (fun x hx=>h x (by simpa using hx))]
theorem MapAt.one (h:MapAt w P k b es clock) {x y:MapEntry} (hx:x ∈ es.toList) (hy:y ∈ es.toList) (e:x.key=y.key):x=y:=entry_one h.stamped.2.2 hx hy e
theorem MapAt.same (h:MapAt w P k b es clock) {key u v:Value} (hu:Has es key u) (hv:Has es key v):u=v:=by
 obtain ⟨x,hx,x1,rfl⟩:=hu
 obtain ⟨y,hy,y1,rfl⟩:=hv
 rw [h.one hx hy (x1.trans y1.symm)]
theorem MapAt.lt (h:MapAt w P k b es clock):b < w.heap.size:=(Array.getElem?_eq_some_iff.1 h.hb).1
theorem MapAt.keep (h:MapAt w P k b es clock) {w':World} (e:w'.heap[b]?=w.heap[b]?):MapAt w' P k b es clock:=⟨e.trans h.hb,h.size,h.stamped,h.keys⟩
theorem MapAt.alloc (h:MapAt w P k b es clock) (o:Obj):MapAt (w.alloc o) P k b es clock:=h.keep (Below.heap_alloc w o b h.lt)
theorem MapAt.grown (h:MapAt w P k b es clock) {w':World} {row:Option Nat} (hg:w.grownBy w' row) (hne:some b≠row):MapAt w' P k b es clock:=h.keep (hg.block b h.lt hne)
theorem MapAt.new (w:World):MapAt (w.alloc (.map #[] 0)) P k w.heap.size #[] 0:=⟨heap_alloc_new w _,by simp,stamped_empty 0,by simp⟩
theorem MapAt.look {t e:TypeId} (h:MapAt w P k b es clock) (K:Keyed P k) (ht:P.underlying t=some (.map k e)) {z:Value} (hz:(zeroValue e).run P w=.ok z w) {key:Value} {kl:Lit} (hkey:keyOf P k key=some kl) (c:Bool) :
  ((∀ v,¬ Has es key v)∧(Instr.lookup t (.map (some b)) key c).run P w=.ok (if c then .tuple #[z,.bool false] else z) w) ∨
  (∃ v,Has es key v∧(Instr.lookup t (.map (some b)) key c).run P w=.ok (if c then .tuple #[v,.bool true] else v) w):=by
 rcases K.find w hkey es.toList h.keys with ⟨h1,h2⟩ | ⟨j,e0,h1,h2,h3⟩
 ·exact .inl ⟨fun v ⟨x,hx,x1,_⟩=>h2 x hx x1,by simp [Instr.lookup,run_underlying ht,MapKept.run_getObj_map h.hb,K.check w _ hkey,h1,hz,Result.andThen]⟩
 ·exact .inr ⟨e0.val,⟨e0,List.mem_of_getElem? h2,h3,rfl⟩,by simp [Instr.lookup,run_underlying ht,MapKept.run_getObj_map h.hb,K.check w _ hkey,h1,Result.andThen]⟩
theorem MapAt.store {t e:TypeId} (h:MapAt w P k b es clock) (K:Keyed P k) (ht:P.underlying t=some (.map k e)) (hn:es.size < maxLen) {key val:Value} {kl:Lit} (hkey:keyOf P k key=some kl) :
  ∃ es' clock',(Instr.mapUpdate t (.map (some b)) key val).run P w=.ok () (setBlock w b (.map es' clock'))∧MapAt (setBlock w b (.map es' clock')) P k b es' clock' ∧
   (∀ key' v',Has es' key' v' ↔ (key'=key∧v'=val)∨(key'≠key∧Has es key' v'))∧es'.size≤es.size+1 ∧
   ((∃ v,Has es key v)→clock'=clock∧(∀ x ∈ es'.toList,∃ y ∈ es.toList,y.born=x.born)∧∀ p:Nat→Bool,(∀ x ∈ es.toList,x.key=key→p x.born=false)→es'.toList.filter (fun x=>p x.born)=es.toList.filter (fun x=>p x.born)):=by
 rcases K.find w hkey es.toList h.keys with ⟨h1,h2⟩ | ⟨j,e0,h1,h2,h3⟩
 ·refine ⟨es.push ⟨key,val,clock⟩,clock+1,?_,⟨heap_setBlock_same h.hb _,by simp;omega,stamped_push h.stamped h2,?_⟩,?_,by simp,?_⟩
  ·simp [Instr.mapUpdate,run_underlying ht,MapKept.run_getObj_map h.hb,K.check w false hkey,h1,MapKept.run_setObj_map _ h.hb,Result.andThen,setBlock]
  ·intro x hx
   simp only [Array.toList_push,List.mem_append,List.mem_singleton] at hx
   rcases hx with hx | rfl
   ·exact h.keys x hx
   ·exact ⟨kl,hkey⟩
  ·intro key' v'
   unfold Has
   simp only [Array.toList_push,List.mem_append,List.mem_singleton]
   constructor
   ·rintro ⟨x,hx | rfl,x1,x2⟩
    ·exact .inr ⟨fun e=>h2 x hx (x1.trans e),x,hx,x1,x2⟩
    ·exact .inl ⟨x1.symm,x2.symm⟩
   ·rintro (⟨rfl,rfl⟩ | ⟨_,x,hx,x1,x2⟩)
    ·exact ⟨_,.inr rfl,rfl,rfl⟩
    ·exact ⟨x,.inl hx,x1,x2⟩
  ·rintro ⟨v,x,hx,x1,_⟩
   exact absurd x1 (h2 x hx)
 ·have hj:es[j]?=some e0:=by simpa using h2
  have hjl:j < es.toList.length:=(List.getElem?_eq_some_iff.1 h2).1
  have hje:es.toList[j]=e0:=(List.getElem?_eq_some_iff.1 h2).2
  have hkeyf:∀ e',es[j]?=some e'→({ e' with key:=key,val:=val }:MapEntry).key=e'.key:=fun e' he'=>by rw [hj] at he';cases he';exact h3.symm
  have hlist:(es.modify j (fun e'=>{ e' with key:=key,val:=val })).toList=es.toList.set j { e0 with val:=val }:=by
   rw [Array.toList_modify,modify_eq_set _ _ _ _ h2]
   rw [← h3]
  have hset:∀ x,x ∈ es.toList.set j { e0 with val:=val }→x={ e0 with val:=val }∨(x ∈ es.toList∧x.key≠key):=by
   intro x hx
   obtain ⟨i,hi,ex⟩:=List.getElem_of_mem hx
   rw [List.getElem_set] at ex
   split at ex
   ·exact .inl ex.symm
   ·rename_i hne
    have hi':i < es.toList.length:=by simpa using hi
    refine .inr ⟨ex ▸ List.getElem_mem hi',fun e1=>hne ?_⟩
    have hnd:=h.stamped.2.2
    have h4:(es.toList.map (·.key))[i]'(by simpa using hi')=(es.toList.map (·.key))[j]'(by simpa using hjl):=by
     simp only [List.getElem_map];rw [ex,e1,hje,h3]
    exact ((nodup_inj hnd).1 h4).symm
  refine ⟨es.modify j (fun e'=>{ e' with key:=key,val:=val }),clock,?_,⟨heap_setBlock_same h.hb _,by simpa using h.size,stamped_modify h.stamped _ _ (fun _ _=>rfl) (fun e' _ he'=>hkeyf e' he'),?_⟩,?_,by simp,?_⟩
  ·simp [Instr.mapUpdate,run_underlying ht,MapKept.run_getObj_map h.hb,K.check w false hkey,h1,hj,h3,K.stays w hkey,MapKept.run_setObj_map _ h.hb,Result.andThen,setBlock]
  ·intro x hx
   rw [hlist] at hx
   rcases hset x hx with rfl | ⟨hx',_⟩
   ·exact ⟨kl,by show keyOf P k e0.key=_;rw [h3];exact hkey⟩
   ·exact h.keys x hx'
  ·intro key' v'
   unfold Has
   rw [hlist]
   constructor
   ·rintro ⟨x,hx,x1,x2⟩
    rcases hset x hx with rfl | ⟨hx',hne⟩
    ·exact .inl ⟨x1.symm.trans h3,x2.symm⟩
    ·exact .inr ⟨fun e=>hne (x1.trans e),x,hx',x1,x2⟩
   ·rintro (⟨rfl,rfl⟩ | ⟨hne,x,hx,x1,x2⟩)
    ·exact ⟨{ e0 with val:=v' },List.mem_iff_getElem.2 ⟨j,by simpa using hjl,by simp⟩,h3,rfl⟩
    ·obtain ⟨i,hi,rfl⟩:=List.getElem_of_mem hx
     have hij:j≠i:=fun e=>hne (by subst e;rw [← x1,hje,h3])
     exact ⟨es.toList[i],List.mem_iff_getElem.2 ⟨i,by simpa using hi,by rw [List.getElem_set_ne hij]⟩,x1,x2⟩
  ·intro _
   refine ⟨rfl,?_,?_⟩
   ·intro x hx
    rw [hlist] at hx
    rcases hset x hx with rfl | ⟨hx',_⟩
    ·exact ⟨e0,List.mem_of_getElem? h2,rfl⟩
    ·exact ⟨x,hx',rfl⟩
   ·intro p hp
    have h5:p e0.born=false:=hp e0 (List.mem_of_getElem? h2) h3
    rw [hlist]
    exact filter_set_off _ _ _ _ (fun x hx=>by rw [h2] at hx;cases hx;exact h5) h5
theorem MapAt.drop {t e ty:TypeId} (h:MapAt w P k b es clock) (K:Keyed P k) (ht:P.underlying t=some (.map k e)) {key:Value} {kl:Lit} (hkey:keyOf P k key=some kl) :
  ∃ es',(Builtin.delete_ #[t,k] ty #[.map (some b),key]).run P w=.ok (.tuple #[]) (setBlock w b (.map es' clock))∧MapAt (setBlock w b (.map es' clock)) P k b es' clock ∧
   (∀ key' v',Has es' key' v' ↔ key'≠key∧Has es key' v')∧es'.toList.Sublist es.toList∧(∀ p:MapEntry→Bool,(∀ x ∈ es.toList,x.key=key→p x=false)→es'.toList.filter p=es.toList.filter p):=by
 rcases K.find w hkey es.toList h.keys with ⟨h1,h2⟩ | ⟨j,e0,h1,h2,h3⟩
 ·refine ⟨es,?_,⟨heap_setBlock_same h.hb _,h.size,h.stamped,h.keys⟩,?_,List.Sublist.refl _,fun _ _=>rfl⟩
  ·simp [Builtin.delete_,run_underlying ht,MapKept.run_getObj_map h.hb,K.check w _ hkey,h1,MapKept.run_setObj_map _ h.hb,Result.andThen,setBlock]
  ·intro key' v'
   exact ⟨fun ⟨x,hx,x1,x2⟩=>⟨fun e=>h2 x hx (x1.trans e),x,hx,x1,x2⟩,fun q=>q.2⟩
 ·have hjl:j < es.toList.length:=(List.getElem?_eq_some_iff.1 h2).1
  have hje:es.toList[j]=e0:=(List.getElem?_eq_some_iff.1 h2).2
  have hjs:j < es.size:=by simpa using hjl
  have hsub:(es.eraseIdxIfInBounds j).toList=es.toList.eraseIdx j:=by
   unfold Array.eraseIdxIfInBounds
   rw [dif_pos hjs]
   simp
  have hs:(es.eraseIdxIfInBounds j).toList.Sublist es.toList:=by rw [hsub];exact List.eraseIdx_sublist _ _
  refine ⟨es.eraseIdxIfInBounds j,?_,⟨heap_setBlock_same h.hb _,?_,stamped_erase h.stamped j,fun x hx=>h.keys x (hs.subset hx)⟩,?_,hs,fun p hp=>by rw [hsub];exact filter_erase_off _ _ _ (fun x hx=>by rw [h2] at hx;cases hx;exact hp e0 (List.mem_of_getElem? h2) h3)⟩
  ·simp [Builtin.delete_,run_underlying ht,MapKept.run_getObj_map h.hb,K.check w _ hkey,h1,MapKept.run_setObj_map _ h.hb,Result.andThen,setBlock]
  ·have:=hs.length_le
   simp only [Array.length_toList] at this
   exact Nat.le_trans this h.size
  ·intro key' v'
   unfold Has
   rw [hsub]
   constructor
   ·rintro ⟨x,hx,x1,x2⟩
    obtain ⟨i,hne,hi⟩:=List.mem_eraseIdx_iff_getElem?.1 hx
    refine ⟨fun e=>?_,x,List.mem_of_getElem? hi,x1,x2⟩
    have hxe:x=es.toList[j]:=h.one (List.mem_of_getElem? hi) (List.getElem_mem hjl) (by rw [x1,e,hje,h3])
    have hi':=List.getElem?_eq_some_iff.1 hi
    obtain ⟨hi1,hi2⟩:=hi'
    have hnd:=h.stamped.2.2
    have h4:(es.toList.map (·.key))[i]'(by simpa using hi1)=(es.toList.map (·.key))[j]'(by simpa using hjl):=by
     simp only [List.getElem_map];rw [hi2,hxe]
    exact hne ((nodup_inj hnd).1 h4)
   ·rintro ⟨hne,x,hx,x1,x2⟩
    obtain ⟨i,hi,rfl⟩:=List.getElem_of_mem hx
    refine ⟨es.toList[i],List.mem_eraseIdx_iff_getElem?.2 ⟨i,fun e=>hne ?_,List.getElem?_eq_getElem hi⟩,x1,x2⟩
    subst e
    rw [← x1,hje,h3]
theorem MapAt.len {t e:TypeId} (h:MapAt w P k b es clock) (ht:P.underlying t=some (.map k e)) (ty:TypeId):(Builtin.len_ #[t] ty #[.map (some b)]).run P w=.ok (.int .i64 es.size) w:=by
 simp [Builtin.len_,run_underlying ht,MapKept.run_getObj_map h.hb,goInt,Result.andThen]
theorem grown_setBlock {o:Obj} (h:MapAt w P k b es clock):w.grownBy (setBlock w b o) (some b) :=
 ⟨rfl,rfl,rfl,by simp [setBlock],fun i _ hi=>heap_setBlock_other h.hb _ (fun e=>hi (by rw [e]))⟩
end
open Go.ChangeMaps (setBlock heap_setBlock_same heap_setBlock_other)
def RangeAt (w:World) (b r:Nat) (es:Array MapEntry) (clock:Nat) (left:List MapEntry):Prop :=
 ∃ since seen c0,w.heap[r]?=some (.mapIter (some b) since seen c0)∧(∀ x ∈ es.toList,x.born < since)∧since≤c0∧since≤clock∧left=es.toList.filter (fun x=>!seen.contains x.born)
theorem perm_take {l:List MapEntry} (hn:(l.map (·.born)).Nodup) {e:MapEntry} (he:e ∈ l):List.Perm l (e::l.filter (fun x=>x.born != e.born)):=by
 induction l with
 | nil=>cases he
 | cons a r ih =>
  rw [List.map_cons,List.nodup_cons] at hn
  by_cases hae:a.born=e.born
  ·have:e=a:=by
    rcases List.mem_cons.1 he with h | h
    ·exact h
    ·exact absurd (List.mem_map.2 ⟨e,h,hae.symm⟩) hn.1
   subst this
   rw [List.filter_cons_of_neg (by simp)]
   have:r.filter (fun x=>x.born != e.born)=r:=List.filter_eq_self.2 (fun x hx=>by simpa using fun h=>hn.1 (List.mem_map.2 ⟨x,hx,h⟩))
   rw [this]
  ·rw [List.filter_cons_of_pos (by simpa using hae)]
   have he':e ∈ r:=by
    rcases List.mem_cons.1 he with h | h
    ·exact absurd (by rw [h]) hae
    ·exact h
   exact ((ih hn.2 he').cons a).trans (List.Perm.swap e a _)
section
variable {P : Program} {k : TypeId} {b r : Nat} {es : Array MapEntry} {clock : Nat} {w : World} {left : List MapEntry}
theorem RangeAt.lt (h:RangeAt w b r es clock left):r < w.heap.size:=by
 obtain ⟨_,_,_,h,_⟩:=h
 exact (Array.getElem?_eq_some_iff.1 h).1
theorem RangeAt.keep (h:RangeAt w b r es clock left) {w':World} (e:w'.heap[r]?=w.heap[r]?):RangeAt w' b r es clock left:=by
 obtain ⟨s,n,c,h1,h2⟩:=h
 exact ⟨s,n,c,e.trans h1,h2⟩
theorem RangeAt.below (h:RangeAt w b r es clock left) {w':World} {B:Nat} (hb:Below B w w') (hB:r < B):RangeAt w' b r es clock left:=h.keep (hb.block r hB)
theorem RangeAt.alloc (h:RangeAt w b r es clock left) (o:Obj):RangeAt (w.alloc o) b r es clock left:=h.keep (Below.heap_alloc w o r h.lt)
theorem RangeAt.sub (h:RangeAt w b r es clock left):∀ x ∈ left,x ∈ es.toList:=by
 obtain ⟨s,n,c,_,_,_,_,rfl⟩:=h
 exact fun x hx=>(List.mem_filter.1 hx).1
theorem RangeAt.begin (h:MapAt w P k b es clock):RangeAt (w.alloc (.mapIter (some b) clock #[] clock)) b w.heap.size es clock es.toList :=
 ⟨clock,#[],clock,heap_alloc_new w _,h.stamped.1,Nat.le_refl _,Nat.le_refl _,(List.filter_eq_self.2 (fun _ _=>by simp)).symm⟩
theorem range_run {t e:TypeId} (h:MapAt w P k b es clock) (ht:P.underlying t=some (.map k e)):(Instr.range t (.map (some b))).run P w=.ok (.pointer (some ⟨w.heap.size,0,none⟩)) (w.alloc (.mapIter (some b) clock #[] clock)) :=
 run_range_map w t k e b es clock ht h.hb
theorem RangeAt.next (h:RangeAt w b r es clock left) (m:MapAt w P k b es clock) (hbr:b≠r) (ty:TypeId) :
  (left=[]∧(Instr.next (.pointer (some ⟨r,0,none⟩)) false ty).run P w=.ok (.tuple #[.bool false]) w) ∨
  ∃ e left' w',e ∈ left∧List.Perm left (e::left')∧(Instr.next (.pointer (some ⟨r,0,none⟩)) false ty).run P w=.ok (.tuple #[.bool true,e.key,e.val]) w' ∧
   RangeAt w' b r es clock left'∧MapAt w' P k b es clock∧w.grownBy w' (some r)∧w'.heap.size=w.heap.size∧(∀ x ∈ left',x.key≠e.key) ∧
   (Instr.entry (.pointer (some ⟨r,0,none⟩))).run P w'=.ok (.tuple #[e.key,e.val]) w':=by
 obtain ⟨s,n,c,h1,h2,h3,h3',rfl⟩:=h
 have hleft:(leftOf es n).toList=es.toList.filter (fun x=>!n.contains x.born):=by unfold leftOf;simp
 rcases run_next_at (P:=P) w ty r b s c n es clock h1 m.hb h2 h3 with ⟨h0,hrun⟩ | ⟨e,he,w1,hw,hrun⟩
 ·refine .inl ⟨?_,hrun⟩
  rw [← hleft]
  exact List.eq_nil_of_length_eq_zero (by simpa using h0)
 ·right
  have hb1:w1.heap=w.heap:=by rcases hw with rfl | rfl <;> rfl
  have h1':w1.heap[r]?=some (.mapIter (some b) s n c):=by rw [hb1];exact h1
  rw [hleft] at he
  have heE:=(List.mem_filter.1 he).1
  have hset:=heap_set (o':=.mapIter (some b) s (n.push e.born) clock) h1'
  have hmap:(setBlock w1 r (.mapIter (some b) s (n.push e.born) clock)).heap[b]?=w.heap[b]?:=(hset.2 b hbr).trans (by rw [hb1])
  have hnb:((es.toList.filter (fun x=>!n.contains x.born)).map (·.born)).Nodup:=(List.filter_sublist.map _).nodup m.stamped.2.1
  have hleft':(es.toList.filter (fun x=>!n.contains x.born)).filter (fun x=>x.born != e.born)=es.toList.filter (fun x=>!(n.push e.born).contains x.born):=by
   rw [List.filter_filter]
   congr 1
   funext x
   rw [Bool.eq_iff_iff]
   simp [and_comm]
  refine ⟨e,_,_,he,perm_take hnb he,hrun,⟨s,n.push e.born,clock,hset.1,h2,h3',h3',hleft'⟩,m.keep hmap,?_,?_,?_,run_entry_at _ r b s n es clock e hset.1 (hmap.trans m.hb) heE m.stamped.2.1⟩
  ·refine ⟨?_,?_,?_,?_,?_⟩
   ·rcases hw with rfl | rfl <;> rfl
   ·rcases hw with rfl | rfl <;> rfl
   ·rcases hw with rfl | rfl <;> rfl
   ·simp [setBlock,hb1]
   ·intro i _ hi
    exact (hset.2 i (fun e=>hi (by rw [e]))).trans (by rw [hb1])
  ·simp [setBlock,hb1]
  ·intro x hx hxe
   have hx1:=(List.mem_filter.1 hx)
   have hx2:=(List.mem_filter.1 hx1.1).1
   have:=m.one hx2 heE hxe
   subst this
   simp at hx1
end
open Go.ChangeMaps (setBlock)
section
variable {P : Program} (w : World) {ops : Array Oper} {rest : List Oper} {o : Oper} {a : Act} {Q : Exit → Act → World → Prop}
theorem at_rng (hg:o.guard=none) (m:Operand) (t:TypeId) (hop:o.op=Op.range t m) (k e:TypeId) (ht:P.underlying t=some (.map k e))
  {b:Nat} {es:Array MapEntry} {clock:Nat} (hm:a.eval m=.map (some b)) (h:MapAt w P k b es clock)
  (hK:∀ w',RangeAt w' b w.heap.size es clock es.toList→MapAt w' P k b es clock→w.grownBy w' none→w'.heap.size=w.heap.size+1→wpList P ops Q rest (a.put o.dst (.pointer (some ⟨w.heap.size,0,none⟩))) w') :
  wpList P ops Q (o::rest) a w:=by
 refine wpList_plain hg fun K' hK'=>?_
 unfold Oper.wp
 simp only [execOp,hop,hm,Sem.run_bind,range_run h ht,Result.andThen]
 exact hK' _ _ (hK _ (RangeAt.begin h) (h.alloc _) (World.grownBy_alloc w _ none) (by simp))
end
open Go Go.RowKit
structure Fr (S:Nat→Prop) (w w':World):Prop where
 os:w'.os=w.os
 tape:w'.tape=w.tape
 output:w'.output=w.output
 size:w.heap.size≤w'.heap.size
 block:∀ k,k < w.heap.size→¬ S k→w'.heap[k]?=w.heap[k]?
def plus (S:Nat→Prop) (w:World):Nat→Prop:=fun g=>S g∨w.heap.size≤g
theorem plus.old {S:Nat→Prop} {w:World}:∀ g,S g→plus S w g:=fun _ h=>.inl h
section
variable {S S' : Nat → Prop} {a w w' : World}
theorem Fr.refl (S:Nat→Prop) (w:World):Fr S w w:=⟨rfl,rfl,rfl,Nat.le_refl _,fun _ _ _=>rfl⟩
theorem Fr.mono (h:Fr S w w') (hs:∀ g,g < w.heap.size→S g→S' g):Fr S' w w':=⟨h.os,h.tape,h.output,h.size,fun k hk hn=>h.block k hk (fun q=>hn (hs k hk q))⟩
theorem Fr.trans {b c:World} (h:Fr S a b) (k:Fr S' b c) (hs:∀ g,g < a.heap.size→S' g→S g):Fr S a c :=
 ⟨k.os.trans h.os,k.tape.trans h.tape,k.output.trans h.output,Nat.le_trans h.size k.size,fun i hi hn=>(k.block i (Nat.lt_of_lt_of_le hi h.size) (fun q=>hn (hs i hi q))).trans (h.block i hi hn)⟩
theorem Fr.then {b c:World} (h:Fr S a b) (k:Fr (plus S a) b c):Fr S a c:=h.trans k (fun g hg q=>by
 rcases q with q | q
 ·exact q
 ·omega)
theorem Fr.of_below (h:Below w.heap.size w w'):Fr S w w':=⟨h.os,h.tape,h.output,h.size,fun k hk _=>h.block k hk⟩
theorem Fr.below {B:Nat} (h:Fr S w w') (hB:B≤w.heap.size) (hs:∀ g,S g→B≤g):Below B w w':=⟨h.os,h.tape,h.output,h.size,fun k hk=>h.block k (by omega) (fun q=>by have:=hs k q;omega)⟩
theorem Fr.drew (h:Fr S a w):Fr S a w.drew:=⟨h.os,h.tape,h.output,h.size,h.block⟩
theorem Fr.drewN (h:Fr S a w) (n:Nat):Fr S a (w.drewN n):=⟨h.os,h.tape,h.output,h.size,h.block⟩
theorem Fr.alloc (h:Fr S a w) (o:Obj):Fr S a (w.alloc o):=h.trans (S':=fun _=>False) ⟨rfl,rfl,rfl,by simp,fun k hk _=>Below.heap_alloc _ _ _ hk⟩ (fun _ _ q=>q.elim)
theorem Fr.setCell (h:Fr S a w) {p:Addr} (hp:p.block < a.heap.size→S p.block) (u:Value):Fr S a (w.setCell p u) :=
 h.trans (S':=fun g=>g=p.block) ⟨rfl,rfl,rfl,by simp [World.setCell],fun k hk hn=>Below.heap_setCell _ _ _ _ hn⟩ (fun g hg q=>by subst q;exact hp hg)
theorem Fr.grown {row:Option Nat} (h:Fr S a w) (hg:w.grownBy w' row) (hr:∀ k,row=some k→k < a.heap.size→S k):Fr S a w' :=
 h.trans (S':=fun g=>row=some g) ⟨hg.os,hg.tape,hg.output,hg.size,fun k hk hn=>hg.block k hk (fun e=>hn e.symm)⟩ (fun g hg q=>hr g q hg)
theorem Fr.cell (h:Fr S w w') {p:Addr} (hp:p.block < w.heap.size) (hs:¬ S p.block):w'.cell? p=w.cell? p:=World.cell?_of_block (w:=w) (h.block p.block hp hs)
theorem Fr.frozen (h:Fr S w w') {p:Addr} (hp:p.block < w.heap.size) (hs:¬ S p.block):w'.frozen? p=w.frozen? p:=World.frozen?_of_block (w:=w) (h.block p.block hp hs)
theorem Blk.fr {g:Nat} {t:TypeId} {cs:Array Value} (h:Blk w g t cs) (f:Fr S w w') (hs:¬ S g):Blk w' g t cs:=(f.block g h.lt hs).trans h
theorem Fr.bel (h:Fr S a w) (k:Below w.heap.size w w'):Fr S a w':=h.trans (S':=fun _=>False) ⟨k.os,k.tape,k.output,k.size,fun i hi _=>k.block i hi⟩ (fun _ _ q=>q.elim)
theorem row_fr {base size n:Nat} {e:TypeId} {v:Value} {xs:List Value} (h:w.ownsRow base e size v n xs) (hk:∀ g,v.ownBlock=some g→w'.heap[g]?=w.heap[g]?):w'.ownsRow base e size v n xs:=by
 rcases h.2 with ⟨h3,h4⟩ | ⟨g2,cap,cur,rfl,hb,hh,r⟩
 ·exact ⟨h.1,.inl ⟨h3,h4⟩⟩
 ·exact ⟨h.1,.inr ⟨g2,cap,cur,rfl,hb,(hk g2 rfl).trans hh,r⟩⟩
theorem own_fr {base size n:Nat} {e:TypeId} {v:Value} {xs:List Value} (h:w.ownsRow base e size v n xs) (f:Fr S w w') (hs:∀ g,v.ownBlock=some g→¬ S g):w'.ownsRow base e size v n xs :=
 row_fr h (fun g e=>f.block g (World.ownsRow.lt h g e).2 (hs g e))
end
structure Ver where
 n:Int
 val:List UInt8
 gone:Bool
theorem txt_inj {a b:List UInt8} (h:txt a=txt b):a=b:=by
 unfold txt at h
 injection h with h
 injection h with h
 exact List.toArray_inj h
def cellsV:List Ver→List Value
 | []=>[]
 | c::l=>.int .i64 c.n::txt c.val::.bool c.gone::cellsV l
theorem cellsV_length:∀ l,(cellsV l).length=l.length * 3
 | []=>rfl
 | c::l=>by simp [cellsV,cellsV_length l];omega
theorem cellsV_append:∀ l m,cellsV (l++m)=cellsV l++cellsV m
 | [],m=>rfl
 | c::l,m=>by simp [cellsV,cellsV_append l m]
theorem cellsV_at:∀ (l:List Ver) (k:Nat) (h:k < l.length),(cellsV l)[3 * k]?=some (.int .i64 l[k].n)∧(cellsV l)[3 * k+1]?=some (txt l[k].val)∧(cellsV l)[3 * k+2]?=some (.bool l[k].gone)
 | c::l,0,_=>by simp [cellsV]
 | c::l,k+1,h=>by
  have ih:=cellsV_at l k (by simpa using h)
  have e1:3 * (k+1)=3 * k+1+1+1:=by omega
  rw [e1]
  simpa [cellsV] using ih
theorem cellsV_one:∀ (l:List Ver),∀ u ∈ cellsV l,u.oneCell'=true
 | [],u,h=>by simp [cellsV] at h
 | c::l,u,h=>by
  simp only [cellsV,List.mem_cons] at h
  rcases h with rfl | rfl | rfl | h
  ·rfl
  ·rfl
  ·rfl
  ·exact cellsV_one l u h
theorem Rd.ver {w:World} {B:Nat} {A:Option Addr} {l:List Ver} (h:Rd w B A (cellsV l)) {k:Nat} (hk:k < l.length) :
  ∃ b off,A=some ⟨b,off,none⟩∧b < B∧w.cell? ⟨b,off+k * 3,none⟩=some (.int .i64 l[k].n)∧w.cell? ⟨b,off+k * 3+1,none⟩=some (txt l[k].val)∧w.cell? ⟨b,off+k * 3+2,none⟩=some (.bool l[k].gone):=by
 obtain ⟨b,off,e,hb,hc⟩:=h (fun h=>by have:=cellsV_length l;rw [h] at this;simp at this;omega)
 rw [Nat.mul_comm k 3]
 obtain ⟨h1,h2,h3⟩:=cellsV_at l k hk
 exact ⟨b,off,e,hb,hc _ _ h1,hc _ _ h2,hc _ _ h3⟩
def upd (F:List UInt8→List Ver) (s:List UInt8) (L:List Ver):List UInt8→List Ver:=fun x=>if x=s then L else F x
theorem upd_same (F:List UInt8→List Ver) (s:List UInt8) (L:List Ver):upd F s L s=L:=by simp [upd]
theorem upd_other (F:List UInt8→List Ver) {s x:List UInt8} (L:List Ver) (h:x≠s):upd F s L x=F x:=by simp [upd,h]
structure TabAt (w:World) (P:Program) (k vt:TypeId) (S:Nat→Prop) (b:Nat) (es:Array MapEntry) (clock:Nat) (F:List UInt8→List Ver):Prop where
 map:MapAt w P k b es clock
 hb:S b
 keys:∀ x ∈ es.toList,∃ s,x.key=txt s
 rows:∀ s v,Has es (txt s) v→F s≠[]∧w.ownsRow 0 vt 3 v (F s).length (cellsV (F s))
 tells:∀ s,F s≠[]→∃ v,Has es (txt s) v
 own:∀ s v g,Has es (txt s) v→v.ownBlock=some g→S g
 apart:∀ s s' v v' g,Has es (txt s) v→Has es (txt s') v'→v.ownBlock=some g→v'.ownBlock=some g→s=s'
section
variable {P : Program} {k vt : TypeId} {S : Nat → Prop} {base b : Nat} {es : Array MapEntry} {clock : Nat} {w w' : World} {F : List UInt8 → List Ver}
theorem row_not_map {size n:Nat} {v:Value} {xs:List Value} (h:w.ownsRow base vt size v n xs) (m:MapAt w P k b es clock):v.ownBlock≠some b:=by
 intro e
 rcases h.2 with ⟨rfl,_⟩ | ⟨g,cap,cur,rfl,_,hh,_⟩
 ·cases e
 ·simp [Value.ownBlock] at e
  subst e
  rw [m.hb] at hh
  cases hh
theorem row_keep {size n:Nat} {v:Value} {xs:List Value} (h:w.ownsRow base vt size v n xs) (hk:∀ g,v.ownBlock=some g→w'.heap[g]?=w.heap[g]?):w'.ownsRow base vt size v n xs:=by
 rcases h.2 with ⟨h3,h4⟩ | ⟨g2,cap,cur,rfl,hb,hh,r⟩
 ·exact ⟨h.1,.inl ⟨h3,h4⟩⟩
 ·exact ⟨h.1,.inr ⟨g2,cap,cur,rfl,hb,(hk g2 rfl).trans hh,r⟩⟩
theorem TabAt.new (w:World) (hb:S w.heap.size):TabAt (w.alloc (.map #[] 0)) P k vt S w.heap.size #[] 0 (fun _=>[]) :=
 ⟨MapAt.new w,hb,by simp,fun s v ⟨x,hx,_⟩=>by simp at hx,fun s h=>absurd rfl h,fun s v g ⟨x,hx,_⟩=>by simp at hx,fun s s' v v' g ⟨x,hx,_⟩=>by simp at hx⟩
theorem TabAt.keep (h:TabAt w P k vt S b es clock F) (hm:w'.heap[b]?=w.heap[b]?) (hr:∀ s v g,Has es (txt s) v→v.ownBlock=some g→w'.heap[g]?=w.heap[g]?):TabAt w' P k vt S b es clock F :=
 ⟨h.map.keep hm,h.hb,h.keys,fun s v q=>⟨(h.rows s v q).1,row_keep (h.rows s v q).2 (hr s v · q)⟩,h.tells,h.own,h.apart⟩
theorem TabAt.row_lt (h:TabAt w P k vt S b es clock F) {s:List UInt8} {v:Value} (q:Has es (txt s) v) {g:Nat} (hg:v.ownBlock=some g):g < w.heap.size:=(World.ownsRow.lt (h.rows s v q).2 g hg).2
theorem TabAt.below (h:TabAt w P k vt S b es clock F) (hb:Below w.heap.size w w'):TabAt w' P k vt S b es clock F :=
 h.keep (hb.block b h.map.lt) (fun s v g q hg=>hb.block g (h.row_lt q hg))
theorem TabAt.alloc (h:TabAt w P k vt S b es clock F) (o:Obj):TabAt (w.alloc o) P k vt S b es clock F :=
 h.keep (Below.heap_alloc w o b h.map.lt) (fun s v g q hg=>Below.heap_alloc w o g (h.row_lt q hg))
theorem TabAt.turn (h:TabAt w P k vt S b es clock F) {s:List UInt8} {v:Value} {L:List Ver} (q:Has es (txt s) v) (hL:L≠[]) (hg:w.grownBy w' v.ownBlock) (ho:w'.ownsRow 0 vt 3 v L.length (cellsV L)) :
  TabAt w' P k vt S b es clock (upd F s L):=by
 have hbv:v.ownBlock≠some b:=row_not_map (h.rows s v q).2 h.map
 refine ⟨h.map.keep (hg.block b h.map.lt (Ne.symm hbv)),h.hb,h.keys,?_,?_,h.own,h.apart⟩
 ·intro x u hu
  by_cases hx:x=s
  ·subst hx
   rw [upd_same]
   rw [h.map.same hu q]
   exact ⟨hL,ho⟩
  ·rw [upd_other _ _ hx]
   refine ⟨(h.rows x u hu).1,row_keep (h.rows x u hu).2 (fun g e=>hg.block g (h.row_lt hu e) (fun e2=>hx (h.apart x s u v g hu q e e2.symm)))⟩
 ·intro x hx
  by_cases hxs:x=s
  ·subst hxs
   exact ⟨v,q⟩
  ·rw [upd_other _ _ hxs] at hx
   exact h.tells x hx
theorem TabAt.store (h:TabAt w P k vt S b es clock F) {s:List UInt8} {row:Option Nat} {v:Value} {L:List Ver} {es':Array MapEntry} {clock':Nat} {w1:World} (hL:L≠[])
  (hrow:∀ g,row=some g→g≠b∧∀ x u,x≠s→Has es (txt x) u→u.ownBlock≠some g)
  (hg:w.grownBy w1 row) (ho:w1.ownsRow 0 vt 3 v L.length (cellsV L)) (hv:∀ g,v.ownBlock=some g→row=some g∨w.heap.size≤g) (hvS:∀ g,v.ownBlock=some g→S g)
  (m:MapAt w' P k b es' clock') (hg2:w1.grownBy w' (some b)) (hasI:∀ key' v',Has es' key' v' ↔ (key'=txt s∧v'=v)∨(key'≠txt s∧Has es key' v')):TabAt w' P k vt S b es' clock' (upd F s L):=by
 have m1:MapAt w1 P k b es clock:=h.map.keep (hg.block b h.map.lt (fun e=>(hrow b e.symm).1 rfl))
 have hvb:v.ownBlock≠some b:=row_not_map ho m1
 have ho':w'.ownsRow 0 vt 3 v L.length (cellsV L):=row_keep ho (fun g e=>hg2.block g (World.ownsRow.lt ho g e).2 (fun e2=>hvb (by rw [e,e2])))
 have hold:∀ x u,x≠s→Has es (txt x) u→∀ g,u.ownBlock=some g→w'.heap[g]?=w.heap[g]?:=fun x u hx hu g e=>by
  have h1:=(h.row_lt hu e)
  rw [hg2.block g (Nat.lt_of_lt_of_le h1 hg.size) (fun e2=>row_not_map (h.rows x u hu).2 h.map (by rw [e,e2])),hg.block g h1 (fun e2=>(hrow g e2.symm).2 x u hx hu e)]
 have far:∀ x u,x≠s→Has es (txt x) u→∀ g,u.ownBlock=some g→v.ownBlock≠some g:=fun x u hx hu g e e2=>by
  rcases hv g e2 with e3 | e3
  ·exact (hrow g e3).2 x u hx hu e
  ·have:=(h.row_lt hu e)
   omega
 refine ⟨m,h.hb,?_,?_,?_,?_,?_⟩
 ·intro x hx
  rcases (hasI x.key x.val).1 ⟨x,hx,rfl,rfl⟩ with ⟨e,_⟩ | ⟨_,y,hy,e,_⟩
  ·exact ⟨s,e⟩
  ·obtain ⟨s',e'⟩:=h.keys y hy
   exact ⟨s',by rw [← e,e']⟩
 ·intro x u hu
  rcases (hasI _ _).1 hu with ⟨e,rfl⟩ | ⟨e,hu⟩
  ·rw [txt_inj e,upd_same]
   exact ⟨hL,ho'⟩
  ·have hx:x≠s:=fun e2=>e (by rw [e2])
   rw [upd_other _ _ hx]
   exact ⟨(h.rows x u hu).1,row_keep (h.rows x u hu).2 (hold x u hx hu)⟩
 ·intro x hx
  by_cases hxs:x=s
  ·subst hxs
   exact ⟨v,(hasI _ _).2 (.inl ⟨rfl,rfl⟩)⟩
  ·rw [upd_other _ _ hxs] at hx
   obtain ⟨u,hu⟩:=h.tells x hx
   exact ⟨u,(hasI _ _).2 (.inr ⟨fun e=>hxs (txt_inj e),hu⟩)⟩
 ·intro x u g hu e
  rcases (hasI _ _).1 hu with ⟨a1,a2⟩ | ⟨a1,a2⟩
  ·subst a2
   exact hvS g e
  ·exact h.own x u g a2 e
 ·intro x x' u u' g hu hu' e e'
  rcases (hasI _ _).1 hu with ⟨a1,a2⟩ | ⟨a1,a2⟩ <;> rcases (hasI _ _).1 hu' with ⟨b1,b2⟩ | ⟨b1,b2⟩
  ·exact txt_inj (a1.trans b1.symm)
  ·subst a2
   exact absurd e (far x' u' (fun e2=>b1 (by rw [e2])) b2 g e')
  ·subst b2
   exact absurd e' (far x u (fun e2=>a1 (by rw [e2])) a2 g e)
  ·exact h.apart x x' u u' g a2 b2 e e'
theorem TabAt.mono {S':Nat→Prop} (h:TabAt w P k vt S b es clock F) (hs:∀ g,S g→S' g):TabAt w P k vt S' b es clock F :=
 ⟨h.map,hs _ h.hb,h.keys,h.rows,h.tells,fun s v g q e=>hs g (h.own s v g q e),h.apart⟩
theorem TabAt.far {T:Nat→Prop} (h:TabAt w P k vt S b es clock F) (f:Fr T w w') (hd:∀ g,S g→¬ T g):TabAt w' P k vt S b es clock F :=
 h.keep (f.block b h.map.lt (hd b h.hb)) (fun s v g q hg=>f.block g (h.row_lt q hg) (hd g (h.own s v g q hg)))
theorem TabAt.none (h:TabAt w P k vt S b es clock F) {s:List UInt8} (q:∀ v,¬ Has es (txt s) v):F s=[]:=by
 cases e:F s with
 | nil=>rfl
 | cons a l =>
  obtain ⟨v,hv⟩:=h.tells s (by rw [e];simp)
  exact absurd hv (q v)
end
theorem info_prt {P:Program} {e:TypeId} {z:Value} {a b:Nat} (h:(P.info? e).map (fun i=>(i.zero,i.size,i.bytes))=some (some z,a,b)):∃ i,P.info? e=some i∧i.zero=some z∧i.size=a∧i.bytes=b:=by
 cases hi:P.info? e with
 | none=>rw [hi] at h;simp at h
 | some i =>
  rw [hi] at h
  simp at h
  exact ⟨i,rfl,h.1,h.2.1,h.2.2⟩
section
variable {P : Program} {w : World}
theorem step_append_ver {ops:Array Oper} {o:Oper} {a:Act} {K:Act→World→Prop} {Q:Exit→Act→World→Prop} {E:Prop} (hgd:o.guard=none) (s x:Operand) (t:TypeId)
  (ho:o.op=.call { callee:=.builtin .append,args:=#[s,x],argTypes:=#[t,t] }) (e:TypeId) (ht:P.underlying t=some (.slice e)) (z:Value) (bytes:Nat)
  (hinfo:(P.info? e).map (fun i=>(i.zero,i.size,i.bytes))=some (some z,3,bytes)) (hzs:z.cells.size=3) (hby:bytes≤1024)
  (base:Nat) (v:Value) (n:Nat) (xs:List Value) (hs:a.eval s=v) (hown:w.ownsRow base e 3 v n xs)
  (H:Nat) (p:Ver) (hx:a.eval x=.slice (some ⟨H,0,none⟩) 1 1) (hH:∀ j u,(cellsV [p])[j]?=some u→w.cell? ⟨H,j,none⟩=some u) (hlen:n < 1000000000) (hbase:base≤w.heap.size)
  (h:∀ v' w',w'.ownsRow base e 3 v' (n+1) (xs++cellsV [p])→w.grownBy w' v.ownBlock→(v'.ownBlock=v.ownBlock∨v'.ownBlock=some w.heap.size)→K (a.put o.dst v') w') :
  if Region.wanted o (yielded ops a.tmps)=true then Oper.wp P o a w K Q else E:=by
 have hw:Region.wanted o (yielded ops a.tmps)=true:=by simp [Region.wanted,hgd]
 rw [if_pos hw]
 obtain ⟨i0,hi0,hz0,hz1,hz2⟩:=info_prt hinfo
 obtain ⟨v',w',hr,g1,g2,_,g4⟩:=run_append_own_at (P:=P) w base t o.type e i0 z 3 bytes ht hi0 hz0 hz1 hz2 hzs (by decide) v n xs hown ⟨H,0,none⟩ 1 1 (cellsV [p]) rfl (by
  intro j u' hj
  have:=hH j u' hj
  cases j <;> simpa [Addr.add] using this) (cellsV_one _) (by unfold maxLen;omega) (by have:=Nat.mul_le_mul (show n+1≤10000000000 by omega) hby;omega) hbase
 unfold Oper.wp execOp
 simp only [ho,resolve,invoke,builtin,Sem.run_bind,Sem.run_pure,Result.andThen_ok,List.map_toArray,List.map_cons,List.map_nil,hs,hx,hr]
 exact h v' w' g1 g2 g4
end
theorem wp_name {P:Program} {c:Code} {Q:Exit→Act→World→Prop} {a:Act} {w:World} (h:∀ W,Hid (W=w)→c.wp P Q a W):c.wp P Q a w:=h w (Hd rfl)
def leftN (w:World) (b r:Nat):Nat:=match w.heap[b]?,w.heap[r]? with
 | some (.map es _),some (.mapIter _ _ seen _)=>(es.toList.filter (fun x=>!seen.contains x.born)).length
 | _,_=>0
theorem RangeAt.left_eq {P:Program} {k:TypeId} {b r:Nat} {es:Array MapEntry} {clock:Nat} {w:World} {left:List MapEntry} (h:RangeAt w b r es clock left) (m:MapAt w P k b es clock):leftN w b r=left.length:=by
 obtain ⟨s,n,c,h1,_,_,_,rfl⟩:=h
 unfold leftN
 rw [m.hb,h1]
section
variable {α : Type} {enc : α → List Value} {k : Nat}
def flatE (enc:α→List Value) (l:List α):List Value:=l.flatMap enc
theorem flatE_length (hk:∀ x,(enc x).length=k):∀ l:List α,(flatE enc l).length=l.length * k
 | []=>by simp [flatE]
 | x::l=>by
  have:=flatE_length hk l
  unfold flatE at this ⊢
  rw [List.flatMap_cons,List.length_append,this,hk,List.length_cons,Nat.add_mul,Nat.one_mul,Nat.add_comm]
theorem flatE_at (hk:∀ x,(enc x).length=k):∀ (l:List α) (i j:Nat) (hi:i < l.length),j < k→(flatE enc l)[i * k+j]?=(enc l[i])[j]?
 | x::l,0,j,_,hj=>by
  unfold flatE
  rw [List.flatMap_cons,Nat.zero_mul,Nat.zero_add,List.getElem?_append_left (by rw [hk];exact hj)]
  rfl
 | x::l,i+1,j,hi,hj=>by
  have ih:=flatE_at hk l i j (by simpa using hi) hj
  unfold flatE at ih ⊢
  rw [List.flatMap_cons,List.getElem?_append_right (by rw [hk,Nat.add_mul];omega),hk,show (i+1) * k+j - k=i * k+j by rw [Nat.add_mul];omega]
  exact ih
theorem flatE_append (l m:List α):flatE enc (l++m)=flatE enc l++flatE enc m:=by simp [flatE]
theorem Rd.elt {w:World} {B:Nat} {A:Option Addr} {l:List α} (hk:∀ x,(enc x).length=k) (h:Rd w B A (flatE enc l)) {i:Nat} (hi:i < l.length) (h0:0 < k) :
  ∃ b off,A=some ⟨b,off,none⟩∧b < B∧∀ j u,(enc l[i])[j]?=some u→w.cell? ⟨b,off+(i * k+j),none⟩=some u:=by
 obtain ⟨b,off,e,hb,hc⟩:=h (fun h=>by
  have:=flatE_length hk l
  rw [h] at this
  have h2:0 < l.length * k:=Nat.mul_pos (by omega) h0
  simp at this
  omega)
 refine ⟨b,off,e,hb,fun j u hu=>hc _ _ ?_⟩
 have hj:j < k:=by rw [← hk l[i]];exact (List.getElem?_eq_some_iff.1 hu).1
 rw [flatE_at hk l i j hi hj]
 exact hu
end
theorem wpList_append_elt {P:Program} {ops:Array Oper} {rest:List Oper} {o:Oper} {a:Act} {Q:Exit→Act→World→Prop} {w1:World} (hgd:o.guard=none) (s x:Operand) (t:TypeId)
  (ho:o.op=.call { callee:=.builtin .append,args:=#[s,x],argTypes:=#[t,t] }) (e:TypeId) (ht:P.underlying t=some (.slice e)) (z:Value) (k bytes:Nat)
  (hinfo:(P.info? e).map (fun i=>(i.zero,i.size,i.bytes))=some (some z,k,bytes)) (hzs:z.cells.size=k) (hk:0 < k) (hby:bytes≤1024)
  (base:Nat) (v:Value) (n:Nat) (xs:List Value) (hs:a.eval s=v) (hown:w1.ownsRow base e k v n xs) (cs:Array Value) (hcs:cs.size=k) (h1:∀ u ∈ cs.toList,u.oneCell'=true)
  (hx:a.eval x=.slice (some ⟨w1.heap.size,0,none⟩) 1 1) (hlen:n < 1000000000) (hbase:base≤w1.heap.size)
  (h:∀ v' w',w'.ownsRow base e k v' (n+1) (xs++cs.toList)→w1.grownBy w' v.ownBlock→(v'.ownBlock=v.ownBlock∨v'.ownBlock=some (w1.heap.size+1))→wpList P ops Q rest (a.put o.dst v') w') :
  wpList P ops Q (o::rest) a (w1.alloc (.cells cs e)):=by
 obtain ⟨i0,hi0,hz0,hz1,hz2⟩:=info_prt hinfo
 refine wpList_plain hgd fun K' hK'=>?_
 obtain ⟨v',w',hr,g1,g2,_,g4⟩:=run_append_own_at (P:=P) (w1.alloc (.cells cs e)) base t o.type e i0 z k bytes ht hi0 hz0 hz1 hz2 hzs hk v n xs (hown.alloc _) ⟨w1.heap.size,0,none⟩ 1 1 cs.toList (by simp [hcs]) (by
  intro j u' hj
  rw [show ((⟨w1.heap.size,0,none⟩:Addr).add j)=⟨w1.heap.size,0+j,none⟩ by unfold Addr.add;split <;> simp_all]
  rw [Nat.zero_add]
  have:=(Blk.new w1 e cs).cell j
  rw [this]
  simpa using hj) h1 (by unfold maxLen;omega) (by have:=Nat.mul_le_mul (show n+1≤10000000000 by omega) hby;omega) (by simp;omega)
 unfold Oper.wp execOp
 simp only [ho,resolve,invoke,builtin,Sem.run_bind,Sem.run_pure,Result.andThen_ok,List.map_toArray,List.map_cons,List.map_nil,hs,hx,hr]
 refine hK' _ _ (h v' w' g1 ((World.grownBy_alloc w1 _ _).trans g2) ?_)
 simpa using g4
open Go.ChangeMaps (setBlock heap_setBlock_same)
structure FMap {κ β:Type} (w:World) (P:Program) (k:TypeId) (b:Nat) (es:Array MapEntry) (clock:Nat) (kv:κ→Value) (ev:β→Value) (f:κ→Option β):Prop where
 map:MapAt w P k b es clock
 keys:∀ x ∈ es.toList,∃ s,x.key=kv s
 val:∀ s v,Has es (kv s) v→∃ y,f s=some y∧v=ev y
 has:∀ s y,f s=some y→Has es (kv s) (ev y)
noncomputable def updO {κ β:Type} (f:κ→Option β) (s:κ) (y:Option β):κ→Option β:=fun x=>open Classical in if x=s then y else f x
theorem updO_same {κ β:Type} (f:κ→Option β) (s:κ) (y:Option β):updO f s y s=y:=by simp [updO]
theorem updO_other {κ β:Type} (f:κ→Option β) {s x:κ} (y:Option β) (h:x≠s):updO f s y x=f x:=by simp [updO,h]
section
variable {κ β : Type} {P : Program} {k : TypeId} {b : Nat} {es : Array MapEntry} {clock : Nat} {w w' : World} {kv : κ → Value} {ev : β → Value} {f : κ → Option β}
theorem FMap.keep (h:FMap w P k b es clock kv ev f) (e:w'.heap[b]?=w.heap[b]?):FMap w' P k b es clock kv ev f:=⟨h.map.keep e,h.keys,h.val,h.has⟩
theorem FMap.far {T:Nat→Prop} (h:FMap w P k b es clock kv ev f) (g:Fr T w w') (hb:¬ T b):FMap w' P k b es clock kv ev f:=h.keep (g.block b h.map.lt hb)
theorem FMap.below {B:Nat} (h:FMap w P k b es clock kv ev f) (g:Below B w w') (hb:b < B):FMap w' P k b es clock kv ev f:=h.keep (g.block b hb)
theorem FMap.new (w:World):FMap (w.alloc (.map #[] 0)) P k w.heap.size #[] 0 kv ev (fun _=>none) :=
 ⟨MapAt.new w,by simp,fun s v ⟨x,hx,_⟩=>by simp at hx,fun s y h=>by cases h⟩
theorem FMap.empty (hb:w.heap[b]?=some (.map #[] clock)):FMap w P k b #[] clock kv ev (fun _=>none) :=
 ⟨⟨hb,by simp,stamped_empty clock,by simp⟩,by simp,fun s v ⟨x,hx,_⟩=>by simp at hx,fun s y h=>by cases h⟩
theorem FMap.none_of (h:FMap w P k b es clock kv ev f) {s:κ} (q:∀ v,¬ Has es (kv s) v):f s=none:=by
 cases e:f s with
 | none=>rfl
 | some y=>exact absurd (h.has s y e) (q _)
theorem FMap.look {t e:TypeId} (h:FMap w P k b es clock kv ev f) (K:Keyed P k) (ht:P.underlying t=some (.map k e)) {z:Value} (hz:(zeroValue e).run P w=.ok z w) (s:κ) {kl:Lit} (hkey:keyOf P k (kv s)=some kl) (c:Bool) :
  (f s=none∧(Instr.lookup t (.map (some b)) (kv s) c).run P w=.ok (if c then .tuple #[z,.bool false] else z) w) ∨
  (∃ y,f s=some y∧(Instr.lookup t (.map (some b)) (kv s) c).run P w=.ok (if c then .tuple #[ev y,.bool true] else ev y) w):=by
 rcases h.map.look K ht hz hkey c with ⟨h1,hrun⟩ | ⟨v,h1,hrun⟩
 ·exact .inl ⟨h.none_of h1,hrun⟩
 ·obtain ⟨y,hy,rfl⟩:=h.val s v h1
  exact .inr ⟨y,hy,hrun⟩
theorem FMap.store {t e:TypeId} (h:FMap w P k b es clock kv ev f) (K:Keyed P k) (ht:P.underlying t=some (.map k e)) (hn:es.size < maxLen) (kinj:∀ a b,kv a=kv b→a=b) (s:κ) (y:β) {kl:Lit} (hkey:keyOf P k (kv s)=some kl) :
  ∃ es' clock',(Instr.mapUpdate t (.map (some b)) (kv s) (ev y)).run P w=.ok () (setBlock w b (.map es' clock'))∧FMap (setBlock w b (.map es' clock')) P k b es' clock' kv ev (updO f s (some y)) ∧
   w.grownBy (setBlock w b (.map es' clock')) (some b)∧(setBlock w b (.map es' clock')).heap.size=w.heap.size∧es'.size≤es.size+1:=by
 obtain ⟨es',clock',hrun,h1,h2,h3,h4⟩:=h.map.store K ht hn (val:=ev y) hkey
 refine ⟨es',clock',hrun,⟨h1,?_,?_,?_⟩,grown_setBlock h.map,by simp [setBlock],h3⟩
 ·intro x hx
  rcases (h2 x.key x.val).1 ⟨x,hx,rfl,rfl⟩ with ⟨e,_⟩ | ⟨_,z,hz,e,_⟩
  ·exact ⟨s,e⟩
  ·obtain ⟨s',e'⟩:=h.keys z hz
   exact ⟨s',by rw [← e,e']⟩
 ·intro x v hv
  rcases (h2 _ _).1 hv with ⟨e,rfl⟩ | ⟨e,hv⟩
  ·rw [kinj _ _ e,updO_same]
   exact ⟨y,rfl,rfl⟩
  ·rw [updO_other _ _ (fun q=>e (by rw [q]))]
   exact h.val x v hv
 ·intro x z hz
  by_cases e:x=s
  ·subst e
   rw [updO_same] at hz
   injection hz with hz
   subst hz
   exact (h2 _ _).2 (.inl ⟨rfl,rfl⟩)
  ·rw [updO_other _ _ e] at hz
   exact (h2 _ _).2 (.inr ⟨fun q=>e (kinj _ _ q),h.has x z hz⟩)
theorem FMap.drop {t e ty:TypeId} (h:FMap w P k b es clock kv ev f) (K:Keyed P k) (ht:P.underlying t=some (.map k e)) (kinj:∀ a b,kv a=kv b→a=b) (s:κ) {kl:Lit} (hkey:keyOf P k (kv s)=some kl) :
  ∃ es',(Builtin.delete_ #[t,k] ty #[.map (some b),kv s]).run P w=.ok (.tuple #[]) (setBlock w b (.map es' clock))∧FMap (setBlock w b (.map es' clock)) P k b es' clock kv ev (updO f s none) ∧
   w.grownBy (setBlock w b (.map es' clock)) (some b)∧(setBlock w b (.map es' clock)).heap.size=w.heap.size:=by
 obtain ⟨es',hrun,h1,h2,h3,h4⟩:=h.map.drop K ht (ty:=ty) hkey
 refine ⟨es',hrun,⟨h1,?_,?_,?_⟩,grown_setBlock h.map,by simp [setBlock]⟩
 ·intro x hx
  obtain ⟨_,z,hz,e,_⟩:=(h2 x.key x.val).1 ⟨x,hx,rfl,rfl⟩
  obtain ⟨s',e'⟩:=h.keys z hz
  exact ⟨s',by rw [← e,e']⟩
 ·intro x v hv
  obtain ⟨e,hv⟩:=(h2 _ _).1 hv
  rw [updO_other _ _ (fun q=>e (by rw [q]))]
  exact h.val x v hv
 ·intro x z hz
  by_cases e:x=s
  ·subst e
   rw [updO_same] at hz
   cases hz
  ·rw [updO_other _ _ e] at hz
   exact (h2 _ _).2 ⟨fun q=>e (kinj _ _ q),h.has x z hz⟩
theorem FMap.count (h:FMap w P k b es clock kv ev f) (kinj:∀ a b,kv a=kv b→a=b) {l:List κ} (hn:l.Nodup) (hl:∀ s,s ∈ l ↔ f s≠none):es.size=l.length:=by
 have hp:(es.toList.map (·.key)).Perm (l.map kv):=by
  have hn2:(l.map kv).Nodup:=by
   unfold List.Nodup at hn ⊢
   rw [List.pairwise_map]
   exact hn.imp (fun q e=>q (kinj _ _ e))
  rw [List.perm_ext_iff_of_nodup h.map.stamped.2.2 hn2]
  intro v
  constructor
  ·intro hv
   obtain ⟨x,hx,rfl⟩:=List.mem_map.1 hv
   obtain ⟨s,e⟩:=h.keys x hx
   obtain ⟨y,hy,_⟩:=h.val s x.val ⟨x,hx,e,rfl⟩
   exact List.mem_map.2 ⟨s,(hl s).2 (by rw [hy];simp),e.symm⟩
  ·intro hv
   obtain ⟨s,hs,rfl⟩:=List.mem_map.1 hv
   cases e:f s with
   | none=>exact absurd e ((hl s).1 hs)
   | some y =>
    obtain ⟨x,hx,hk,_⟩:=h.has s y e
    exact List.mem_map.2 ⟨x,hx,hk⟩
 have:=hp.length_eq
 simpa using this
end
section
variable {κ β : Type} {P : Program} {k : TypeId} {b : Nat} {es : Array MapEntry} {clock : Nat} {w w' : World} {kv : κ → Value} {ev : β → Value} {f : κ → Option β}
theorem FMap.look_none {t e:TypeId} (h:FMap w P k b es clock kv ev f) (K:Keyed P k) (ht:P.underlying t=some (.map k e)) {z:Value} (hz:(zeroValue e).run P w=.ok z w) {s:κ} (hs:f s=none) {kl:Lit} (hkey:keyOf P k (kv s)=some kl) (c:Bool) :
  (Instr.lookup t (.map (some b)) (kv s) c).run P w=.ok (if c then .tuple #[z,.bool false] else z) w:=by
 rcases h.look K ht hz s hkey c with ⟨_,h2⟩ | ⟨y,h1,_⟩
 ·exact h2
 ·rw [hs] at h1;cases h1
theorem FMap.look_some {t e:TypeId} (h:FMap w P k b es clock kv ev f) (K:Keyed P k) (ht:P.underlying t=some (.map k e)) {z:Value} (hz:(zeroValue e).run P w=.ok z w) {s:κ} {y:β} (hs:f s=some y) {kl:Lit} (hkey:keyOf P k (kv s)=some kl) (c:Bool) :
  (Instr.lookup t (.map (some b)) (kv s) c).run P w=.ok (if c then .tuple #[ev y,.bool true] else ev y) w:=by
 rcases h.look K ht hz s hkey c with ⟨h1,_⟩ | ⟨y',h1,h2⟩
 ·rw [hs] at h1;cases h1
 ·rw [hs] at h1;injection h1 with h1;subst h1;exact h2
theorem FMap.drop2 {t e ty:TypeId} (h:FMap w P k b es clock kv ev f) (K:Keyed P k) (ht:P.underlying t=some (.map k e)) (kinj:∀ a b,kv a=kv b→a=b) (s:κ) {kl:Lit} (hkey:keyOf P k (kv s)=some kl) :
  ∃ es',(∀ ty,(Builtin.delete_ #[t,k] ty #[.map (some b),kv s]).run P w=.ok (.tuple #[]) (Go.ChangeMaps.setBlock w b (.map es' clock)))∧FMap (Go.ChangeMaps.setBlock w b (.map es' clock)) P k b es' clock kv ev (updO f s none) ∧
   w.grownBy (Go.ChangeMaps.setBlock w b (.map es' clock)) (some b)∧(Go.ChangeMaps.setBlock w b (.map es' clock)).heap.size=w.heap.size∧es'.size≤es.size:=by
 obtain ⟨es',hrun,h1,h2,h3,h4⟩:=h.map.drop K ht (ty:=ty) hkey
 refine ⟨es',fun ty'=>hrun,⟨h1,?_,?_,?_⟩,grown_setBlock h.map,by simp [Go.ChangeMaps.setBlock],by simpa using h3.length_le⟩
 ·intro x hx
  obtain ⟨_,z,hz,e,_⟩:=(h2 x.key x.val).1 ⟨x,hx,rfl,rfl⟩
  obtain ⟨s',e'⟩:=h.keys z hz
  exact ⟨s',by rw [← e,e']⟩
 ·intro x v hv
  obtain ⟨e,hv⟩:=(h2 _ _).1 hv
  rw [updO_other _ _ (fun q=>e (by rw [q]))]
  exact h.val x v hv
 ·intro x z hz
  by_cases e:x=s
  ·subst e
   rw [updO_same] at hz
   cases hz
  ·rw [updO_other _ _ e] at hz
   exact (h2 _ _).2 ⟨fun q=>e (kinj _ _ q),h.has x z hz⟩
end
def updP (F:List UInt8→List (Int × Int)) (s:List UInt8) (L:List (Int × Int)):List UInt8→List (Int × Int):=fun x=>if x=s then L else F x
theorem updP_same (F:List UInt8→List (Int × Int)) (s:List UInt8) (L:List (Int × Int)):updP F s L s=L:=by simp [updP]
theorem updP_other (F:List UInt8→List (Int × Int)) {s x:List UInt8} (L:List (Int × Int)) (h:x≠s):updP F s L x=F x:=by simp [updP,h]
structure PTab (w:World) (P:Program) (k vt:TypeId) (S:Nat→Prop) (b:Nat) (es:Array MapEntry) (clock:Nat) (F:List UInt8→List (Int × Int)):Prop where
 map:MapAt w P k b es clock
 hb:S b
 keys:∀ x ∈ es.toList,∃ s,x.key=txt s
 rows:∀ s v,Has es (txt s) v→F s≠[]∧w.ownsRow 0 vt 2 v (F s).length (cellsP (F s))
 tells:∀ s,F s≠[]→∃ v,Has es (txt s) v
 own:∀ s v g,Has es (txt s) v→v.ownBlock=some g→S g
 apart:∀ s s' v v' g,Has es (txt s) v→Has es (txt s') v'→v.ownBlock=some g→v'.ownBlock=some g→s=s'
section
variable {P : Program} {k vt : TypeId} {S : Nat → Prop} {base b : Nat} {es : Array MapEntry} {clock : Nat} {w w' : World} {F : List UInt8 → List (Int × Int)}
theorem PTab.new (w:World) (hb:S w.heap.size):PTab (w.alloc (.map #[] 0)) P k vt S w.heap.size #[] 0 (fun _=>[]) :=
 ⟨MapAt.new w,hb,by simp,fun s v ⟨x,hx,_⟩=>by simp at hx,fun s h=>absurd rfl h,fun s v g ⟨x,hx,_⟩=>by simp at hx,fun s s' v v' g ⟨x,hx,_⟩=>by simp at hx⟩
theorem PTab.keep (h:PTab w P k vt S b es clock F) (hm:w'.heap[b]?=w.heap[b]?) (hr:∀ s v g,Has es (txt s) v→v.ownBlock=some g→w'.heap[g]?=w.heap[g]?):PTab w' P k vt S b es clock F :=
 ⟨h.map.keep hm,h.hb,h.keys,fun s v q=>⟨(h.rows s v q).1,row_keep (h.rows s v q).2 (hr s v · q)⟩,h.tells,h.own,h.apart⟩
theorem PTab.row_lt (h:PTab w P k vt S b es clock F) {s:List UInt8} {v:Value} (q:Has es (txt s) v) {g:Nat} (hg:v.ownBlock=some g):g < w.heap.size:=(World.ownsRow.lt (h.rows s v q).2 g hg).2
theorem PTab.below (h:PTab w P k vt S b es clock F) (hb:Below w.heap.size w w'):PTab w' P k vt S b es clock F :=
 h.keep (hb.block b h.map.lt) (fun s v g q hg=>hb.block g (h.row_lt q hg))
theorem PTab.alloc (h:PTab w P k vt S b es clock F) (o:Obj):PTab (w.alloc o) P k vt S b es clock F :=
 h.keep (Below.heap_alloc w o b h.map.lt) (fun s v g q hg=>Below.heap_alloc w o g (h.row_lt q hg))
theorem PTab.store (h:PTab w P k vt S b es clock F) {s:List UInt8} {row:Option Nat} {v:Value} {L:List (Int × Int)} {es':Array MapEntry} {clock':Nat} {w1:World} (hL:L≠[])
  (hrow:∀ g,row=some g→g≠b∧∀ x u,x≠s→Has es (txt x) u→u.ownBlock≠some g)
  (hg:w.grownBy w1 row) (ho:w1.ownsRow 0 vt 2 v L.length (cellsP L)) (hv:∀ g,v.ownBlock=some g→row=some g∨w.heap.size≤g) (hvS:∀ g,v.ownBlock=some g→S g)
  (m:MapAt w' P k b es' clock') (hg2:w1.grownBy w' (some b)) (hasI:∀ key' v',Has es' key' v' ↔ (key'=txt s∧v'=v)∨(key'≠txt s∧Has es key' v')):PTab w' P k vt S b es' clock' (updP F s L):=by
 have m1:MapAt w1 P k b es clock:=h.map.keep (hg.block b h.map.lt (fun e=>(hrow b e.symm).1 rfl))
 have hvb:v.ownBlock≠some b:=row_not_map ho m1
 have ho':w'.ownsRow 0 vt 2 v L.length (cellsP L):=row_keep ho (fun g e=>hg2.block g (World.ownsRow.lt ho g e).2 (fun e2=>hvb (by rw [e,e2])))
 have hold:∀ x u,x≠s→Has es (txt x) u→∀ g,u.ownBlock=some g→w'.heap[g]?=w.heap[g]?:=fun x u hx hu g e=>by
  have h1:=(h.row_lt hu e)
  rw [hg2.block g (Nat.lt_of_lt_of_le h1 hg.size) (fun e2=>row_not_map (h.rows x u hu).2 h.map (by rw [e,e2])),hg.block g h1 (fun e2=>(hrow g e2.symm).2 x u hx hu e)]
 have far:∀ x u,x≠s→Has es (txt x) u→∀ g,u.ownBlock=some g→v.ownBlock≠some g:=fun x u hx hu g e e2=>by
  rcases hv g e2 with e3 | e3
  ·exact (hrow g e3).2 x u hx hu e
  ·have:=(h.row_lt hu e)
   omega
 refine ⟨m,h.hb,?_,?_,?_,?_,?_⟩
 ·intro x hx
  rcases (hasI x.key x.val).1 ⟨x,hx,rfl,rfl⟩ with ⟨e,_⟩ | ⟨_,y,hy,e,_⟩
  ·exact ⟨s,e⟩
  ·obtain ⟨s',e'⟩:=h.keys y hy
   exact ⟨s',by rw [← e,e']⟩
 ·intro x u hu
  rcases (hasI _ _).1 hu with ⟨e,rfl⟩ | ⟨e,hu⟩
  ·rw [txt_inj e,updP_same]
   exact ⟨hL,ho'⟩
  ·have hx:x≠s:=fun e2=>e (by rw [e2])
   rw [updP_other _ _ hx]
   exact ⟨(h.rows x u hu).1,row_keep (h.rows x u hu).2 (hold x u hx hu)⟩
 ·intro x hx
  by_cases hxs:x=s
  ·subst hxs
   exact ⟨v,(hasI _ _).2 (.inl ⟨rfl,rfl⟩)⟩
  ·rw [updP_other _ _ hxs] at hx
   obtain ⟨u,hu⟩:=h.tells x hx
   exact ⟨u,(hasI _ _).2 (.inr ⟨fun e=>hxs (txt_inj e),hu⟩)⟩
 ·intro x u g hu e
  rcases (hasI _ _).1 hu with ⟨a1,a2⟩ | ⟨a1,a2⟩
  ·subst a2
   exact hvS g e
  ·exact h.own x u g a2 e
 ·intro x x' u u' g hu hu' e e'
  rcases (hasI _ _).1 hu with ⟨a1,a2⟩ | ⟨a1,a2⟩ <;> rcases (hasI _ _).1 hu' with ⟨b1,b2⟩ | ⟨b1,b2⟩
  ·exact txt_inj (a1.trans b1.symm)
  ·subst a2
   exact absurd e (far x' u' (fun e2=>b1 (by rw [e2])) b2 g e')
  ·subst b2
   exact absurd e' (far x u (fun e2=>a1 (by rw [e2])) a2 g e)
  ·exact h.apart x x' u u' g a2 b2 e e'
theorem PTab.mono {S':Nat→Prop} (h:PTab w P k vt S b es clock F) (hs:∀ g,S g→S' g):PTab w P k vt S' b es clock F :=
 ⟨h.map,hs _ h.hb,h.keys,h.rows,h.tells,fun s v g q e=>hs g (h.own s v g q e),h.apart⟩
theorem PTab.far {T:Nat→Prop} (h:PTab w P k vt S b es clock F) (f:Fr T w w') (hd:∀ g,S g→¬ T g):PTab w' P k vt S b es clock F :=
 h.keep (f.block b h.map.lt (hd b h.hb)) (fun s v g q hg=>f.block g (h.row_lt q hg) (hd g (h.own s v g q hg)))
theorem PTab.none (h:PTab w P k vt S b es clock F) {s:List UInt8} (q:∀ v,¬ Has es (txt s) v):F s=[]:=by
 cases e:F s with
 | nil=>rfl
 | cons a l =>
  obtain ⟨v,hv⟩:=h.tells s (by rw [e];simp)
  exact absurd hv (q v)
end
section
variable {P : Program} {w : World}
theorem step_append_cs {ops:Array Oper} {o:Oper} {a:Act} {K:Act→World→Prop} {Q:Exit→Act→World→Prop} {E:Prop} (hgd:o.guard=none) (s x:Operand) (t:TypeId)
  (ho:o.op=.call { callee:=.builtin .append,args:=#[s,x],argTypes:=#[t,t] }) (e:TypeId) (ht:P.underlying t=some (.slice e)) (z:Value) (size bytes:Nat)
  (hinfo:(P.info? e).map (fun i=>(i.zero,i.size,i.bytes))=some (some z,size,bytes)) (hzs:z.cells.size=size) (hsz:0 < size) (hby:bytes≤1024)
  (base:Nat) (v:Value) (n:Nat) (xs:List Value) (hs:a.eval s=v) (hown:w.ownsRow base e size v n xs)
  (H:Nat) (cs:List Value) (hcl:cs.length=size) (hc1:∀ u ∈ cs,u.oneCell'=true) (hx:a.eval x=.slice (some ⟨H,0,none⟩) 1 1) (hH:∀ (j:Nat) u,cs[j]?=some u→w.cell? ⟨H,j,none⟩=some u) (hlen:n < 1000000000) (hbase:base≤w.heap.size)
  (h:∀ v' w',w'.ownsRow base e size v' (n+1) (xs++cs)→w.grownBy w' v.ownBlock→(v'.ownBlock=v.ownBlock∨v'.ownBlock=some w.heap.size)→K (a.put o.dst v') w') :
  if Region.wanted o (yielded ops a.tmps)=true then Oper.wp P o a w K Q else E:=by
 have hw:Region.wanted o (yielded ops a.tmps)=true:=by simp [Region.wanted,hgd]
 rw [if_pos hw]
 obtain ⟨i0,hi0,hz0,hz1,hz2⟩:=info_prt hinfo
 obtain ⟨v',w',hr,g1,g2,_,g4⟩:=run_append_own_at (P:=P) w base t o.type e i0 z size bytes ht hi0 hz0 hz1 hz2 hzs hsz v n xs hown ⟨H,0,none⟩ 1 1 cs (by omega) (by
  intro j u' hj
  have:=hH j u' hj
  cases j <;> simpa [Addr.add] using this) hc1 (by unfold maxLen;omega) (by have:=Nat.mul_le_mul (show n+1≤10000000000 by omega) hby;omega) hbase
 unfold Oper.wp execOp
 simp only [ho,resolve,invoke,builtin,Sem.run_bind,Sem.run_pure,Result.andThen_ok,List.map_toArray,List.map_cons,List.map_nil,hs,hx,hr]
 exact h v' w' g1 g2 g4
end
theorem ptab_look {P:Program} {k vt:TypeId} {S:Nat→Prop} {b:Nat} {es:Array MapEntry} {clock:Nat} {w:World} {F:List UInt8→List (Int × Int)} {t e:TypeId} (h:PTab w P k vt S b es clock F) (K:Maps.Keyed P k) (ht:P.underlying t=some (.map k e))
  (hz:∀ W,(zeroValue e).run P W=.ok (.slice none 0 0) W) (s:List UInt8) {kl:Lit} (hkey:keyOf P k (txt s)=some kl) :
  ∃ u,(∀ W',MapAt W' P k b es clock→(Instr.lookup t (.map (some b)) (txt s) false).run P W'=.ok u W')∧w.ownsRow 0 vt 2 u (F s).length (cellsP (F s)) ∧
   (∀ g,u.ownBlock=some g→S g∧g≠b∧∀ x r,x≠s→Has es (txt x) r→r.ownBlock≠some g):=by
 rcases h.map.look K ht (hz w) hkey false with ⟨h1,_⟩ | ⟨u,h1,_⟩
 ·refine ⟨.slice none 0 0,fun W' m=>?_,?_,fun g e=>?_⟩
  ·rcases m.look K ht (hz W') hkey false with ⟨_,hr⟩ | ⟨r,h2,_⟩
   ·simpa using hr
   ·exact absurd h2 (h1 r)
  ·rw [h.none h1]
   exact World.ownsRow_nil _ _ _ _
  ·simp [Value.ownBlock] at e
 ·refine ⟨u,fun W' m=>?_,(h.rows s u h1).2,fun g e=>⟨h.own s u g h1 e,fun e2=>row_not_map (h.rows s u h1).2 h.map (by rw [e,e2]),fun x r hx q2 e2=>hx (h.apart x s r u g q2 h1 e2 e)⟩⟩
  rcases m.look K ht (hz W') hkey false with ⟨h2,_⟩ | ⟨r,h2,hr⟩
  ·exact absurd h1 (h2 u)
  ·rw [m.same h1 h2]
   simpa using hr
theorem ptab_tight {P:Program} {k vt:TypeId} {S:Nat→Prop} {b:Nat} {es:Array MapEntry} {clock:Nat} {w:World} {F:List UInt8→List (Int × Int)} (h:PTab w P k vt S b es clock F):PTab w P k vt (fun g=>S g∧g < w.heap.size) b es clock F :=
 ⟨h.map,⟨h.hb,h.map.lt⟩,h.keys,h.rows,h.tells,fun s v g q e=>⟨h.own s v g q e,h.row_lt q e⟩,h.apart⟩
structure Stp where
 what:Int
 who:Int
 key:List UInt8
 to:List UInt8
 val:List UInt8
 n:Int
instance:Inhabited Stp:=⟨⟨0,0,[],[],[],0⟩⟩
end Go.Proofs.YtkckcbhnnllkhaaGreatDoor
