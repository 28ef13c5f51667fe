/- Parts of the proof; conditions: as each theorem says. -/
import Derived.Test.YtkckcbhnnllkhaaGreatDoorG33
import Derived.Test.YtkckcbhnnllkhaaGreatDoorG11
import Derived.Test.YtkckcbhnnllkhaaGreatDoorG7
import Derived.Test.YtkckcbhnnllkhaaGreatDoorG6
import Derived.RangeFuncNested
import Derived.RangeFuncBound
import Derived.RangeFuncCalls
import Derived.RangeFuncLeaves
import Derived.RangeFuncBox
import Derived.RangeFuncFrom
import Derived.Shelf.Abstract
import Derived.Shelf.RegionOpen
import Derived.OwnWalkIn
import Derived.TacticsInMore
import Derived.LoopNIn
import Derived.LoopIn
import Derived.Maps.AppendAt
import Derived.Sort.QuietIn
set_option linter.unusedVariables false
set_option linter.unusedSimpArgs false
set_option maxRecDepth 100000
set_option maxHeartbeats 40000000
namespace Go.Proofs.YtkckcbhnnllkhaaGreatDoor
open Go.RowKit Go.Shelf
attribute [local go_sem] Oper.semAt_some
theorem wide_fn (k:FuncId):Fence.wide.fn k:=trivial
theorem wide_depth:Fence.wide.depth=none:=rfl
attribute [local go_sem] wide_fn wide_depth
def TabVar (w:World):Prop:=_root_.Go.Proofs.TabAt 7 Lib.deBruijn64tab w
theorem TabVar.lt {w:World} (h:TabVar w):7 < w.heap.size:=World.block_lt_of_cell? w ⟨7,0,none⟩ (h 0 (by decide))
theorem TabVar.belowB {w w':World} {B:Nat} (h:TabVar w) (hb:Below B w w') (hB:7 < B):TabVar w':=fun j hj=>(hb.cell (p:=⟨7,j,none⟩) hB).trans (h j hj)
theorem tz_any (x:Nat) (hx:x < 18446744073709551616) (w:World) (ht:TabVar w) :
  Calls Tryz.prog 201 #[.int .u64 (x:Int)] w fun e w'=>e=.returned (.int .i64 (Lib.ctz 64 x:Int))∧w'=w:=Any7.bits_TrailingZeros64 layTz x hx w (fun _=>ht)
theorem u64_or_nat (a b:Nat) (ha:a < 18446744073709551616) (hb:b < 18446744073709551616):bits .or .u64 (a:Int) (b:Int)=((a ||| b:Nat):Int):=by
 have h3:=Nat.or_lt_two_pow (n:=64) (by simpa using ha) (by simpa using hb)
 have h1:(BitVec.ofInt 64 (a:Int)).toNat=a:=by simp [BitVec.toNat_ofInt];omega
 have h2:(BitVec.ofInt 64 (b:Int)).toNat=b:=by simp [BitVec.toNat_ofInt];omega
 show IntKind.u64.wrap ((BitVec.ofInt 64 (a:Int) ||| BitVec.ofInt 64 (b:Int)).toNat:Int)=_
 rw [BitVec.toNat_or,h1,h2,IntWalk.u64_in _ (by omega)]
theorem tz_at (Y:Nat) (hY:Y < 4294967296) (w:World) (ht:TabVar w) :
  Calls Tryz.prog 201 #[.int .u64 (bits .or .u64 (Y:Int) 4294967296)] w fun e w'=>e=.returned (.int .i64 (tzOf Y:Int))∧w'=w:=by
 have:=u64_or_nat Y 4294967296 (by omega) (by decide)
 rw [show ((4294967296:Nat):Int)=4294967296 from rfl] at this
 rw [this]
 refine tz_any _ ?_ w ht
 rw [or_top hY]
 omega
theorem len_at (z:Int) (h0:0≤z) (h1:z < 18446744073709551616) (w:World):Calls Tryz.prog 60 #[.int .u64 z] w fun e w'=>e=.returned (.int .i64 (Lib.bitLen z.toNat:Int))∧w'=w :=
 (Any.bits_Len layLen z w (by omega) (by omega)).mono fun e w' ⟨h1,h2⟩=>⟨h1,h2⟩
theorem two_pow_cast (s:Nat):((2:Int) ^ s)=((2 ^ s:Nat):Int):=by simp
theorem wrap_shl (Y s z:Nat) (hz:z=2 ^ s) (hY:Y≤4294967296) (hz2:z≤4294967296):wrap64 ((Y:Int)+wrap64 ((2:Int) ^ s))=(Y:Int)+(z:Int):=by
 rw [two_pow_cast,← hz]
 unfold wrap64
 omega
theorem abides_drewN {β:Type} {B:Nat} {J:β→World→Prop} (h:AbidesFrom B J) {s:β} {W:World} (hJ:J s W) (n:Nat):J s (W.drewN n) :=
 h s W (W.drewN n) none hJ ⟨rfl,rfl,rfl,Nat.le_refl _,fun _ _ _=>rfl⟩ (fun r e=>by cases e)
def KpB (Bn n₁:Nat) (W W':World):Prop:=W'.heap[Bn]?=W.heap[Bn]?∧Below n₁ W W'
theorem KpB.refl (Bn n₁:Nat) (W:World):KpB Bn n₁ W W:=⟨rfl,Below.refl _ _⟩
theorem KpB.trans {Bn n₁:Nat} {A B C:World} (h:KpB Bn n₁ A B) (k:KpB Bn n₁ B C):KpB Bn n₁ A C:=⟨k.1.trans h.1,Below.trans h.2 k.2⟩
theorem KpB.drewN {Bn n₁:Nat} {A B:World} (h:KpB Bn n₁ A B) (q:Nat):KpB Bn n₁ A (B.drewN q):=⟨h.1,below_drewN h.2 q⟩
theorem KpB.blk {Bn n₁:Nat} {A B:World} {t:TypeId} {cs:Array Value} (h:KpB Bn n₁ A B) (hb:Blk A Bn t cs):Blk B Bn t cs:=h.1.trans hb
theorem blocks1_in (n:Nat) (hn:1≤n) (l Bn n₀:Nat) (x hi:Int) (h0:0≤x) (h1:x≤hi+1) (h2:hi≤4294967295) (J Jx:List Pf→World→Prop)
  (hY:∀ pre (p:Pf) W,J pre W→pre.length < (cover x hi).length→YieldAt Fence.wide (n - 1) Tryz.prog l #[.agg #[.int .i64 p.1,.int .i64 p.2]] W fun e W' =>
   (e=.returned (.bool true)∧J (pre++[p]) W'∧KpB Bn n₀ W W')∨(e=.returned (.bool false)∧Jx (pre++[p]) W'))
  (W:World) (hJA:AbidesFrom W.heap.size J) (hg:7 < n₀) (hBk:Blk W Bn 138 #[.int .i64 x,.int .i64 hi]) (ht:TabVar W) (hJ0:J [] W) :
  CallsIn Fence.wide n Tryz.prog 203 #[.func (.yield l) #[] #[],.pointer (some ⟨Bn,0,none⟩)] W fun e W'=>(∃ v,e=.returned v) ∧
   ((∃ ys,ys=cover x hi∧J ys W')∨(∃ pre,pre <+: cover x hi∧Jx pre W')):=by
 refine callsIn_of_wp Tryz.func203 rfl trivial ?_ rfl
 simp only [Tryz.ntmps203,List.size_toArray,List.length_cons,List.length_nil,Nat.reduceAdd,Nat.reduceSub,Array.replicate_succ,Array.replicate_zero,List.push_toArray,List.append_toArray,List.nil_append,List.cons_append]
 obtain ⟨e0,e1,_⟩:=hBk.two
 gi_wp2
 gi_loopw [3,4] (fun p _ wr=>∃ (pre:List Pf) (y:Int),p=.int .i64 y∧0≤y∧y≤hi+1∧cover x hi=pre++cover y hi∧KpB Bn n₀ W wr∧J pre wr)
  (fun p _ _=>(hi+1 - intOf p).toNat)
 case atStart=>exact ⟨[],x,rfl,h0,h1,rfl,KpB.refl _ _ _,hJ0⟩
 case round =>
  obtain ⟨pre,y,rfl,y0,y1,hx,hb,hJs⟩:=hrel
  obtain ⟨d0,d1,_⟩:=(hb.blk hBk).two
  by_cases hle:y≤hi
  ·have hT:=ht.belowB hb.2 hg
   obtain ⟨Y,rfl⟩:∃ Y:Nat,y=(Y:Int):=⟨y.toNat,by omega⟩
   gi_wp2
   gi_quiet (first
    | (gi_at_call 201;go_loud (exact CallsIn.quiet_of_same (callsIn_wide.2 (tz_at Y (by omega) _ hT))))
    | (gi_at_call 60;go_loud (exact CallsIn.quiet_of_same (callsIn_wide.2 (len_at _ (by omega) (by omega) _)))))
   obtain ⟨s,hs⟩:∃ s,s=min (tzOf (Y:Int).toNat) (Lib.bitLen (hi - (Y:Int)+1).toNat - 1):=⟨_,rfl⟩
   obtain ⟨hs32,hblk⟩:=blk_size y0 hle (by unfold maxA;exact h2) hs
   obtain ⟨l1,_,_⟩:=len_facts (d:=(hi - (Y:Int)+1).toNat) (by omega) (by omega)
   have hL64:Lib.bitLen (hi - (Y:Int)+1).toNat≤64:=Lib.bitLen_le _ 64 (by decide) (by omega)
   have hsz:min ((tzOf Y:Nat):Int) (wrap64 ((Lib.bitLen (hi - (Y:Int)+1).toNat:Int) - 1))=(s:Int):=by
    rw [show wrap64 ((Lib.bitLen (hi - (Y:Int)+1).toNat:Int) - 1)=(Lib.bitLen (hi - (Y:Int)+1).toNat:Int) - 1 by unfold wrap64;omega,hs,Int.toNat_natCast]
    omega
   rw [hsz]
   obtain ⟨z,hz⟩:∃ z:Nat,z=2 ^ s:=⟨_,rfl⟩
   have hz32:z≤4294967296:=by rw [hz];exact (show 2 ^ s≤2 ^ 32 from Nat.pow_le_pow_right (by decide) hs32)
   have hz1:1≤z:=by rw [hz];exact Nat.two_pow_pos s
   have hstep:cover (Y:Int) hi=((Y:Int),32 - (s:Int))::cover ((Y:Int)+(z:Int)) hi:=by
    rw [cover_step hle,hblk]
    congr 2
    unfold lastA
    rw [sz_pow s hs32,← hz]
    omega
   have hnext:=(blk_spec y0 hle (by unfold maxA;exact h2)).2.1
   rw [hblk] at hnext
   unfold lastA at hnext
   rw [sz_pow s hs32,← hz] at hnext
   have hJq:=abides_drewN hJA hJs nq
   have hbq:KpB Bn n₀ W (wr.drewN nq):=hb.drewN nq
   obtain ⟨fn,tmps,assign,body,hy,hR⟩:=hY pre ((Y:Int),32 - (s:Int)) (wr.drewN nq) hJq (by rw [hx,hstep];simp)
   have HS:=Hd hs
   have HB:=Hd hblk
   have HST:=Hd hstep
   have HSZ:=Hd hsz
   have HV:=Hd (wrap_shl Y s z hz (by omega) hz32)
   have HX:=Hd hx
   clear hs hblk hstep hsz hx hJs hJq hb d0 d1 hT hz
   gi_wp2
   refine hR.mono ?_
   rintro e W3 (⟨rfl,hJ3,hk3⟩ | ⟨rfl,hJx3⟩)
   ·have hb3:=hbq.trans hk3
    gi_wp2
    rw [HV.out]
    go_roundw
    case rel=>exact ⟨pre++[((Y:Int),32 - (s:Int))],(Y:Int)+(z:Int),by go_num,by omega,by omega,by rw [HX.out,HST.out];simp,hb3,hJ3⟩
    case measure=>simp [intOf];omega
   ·gi_wp2
    refine bodyPost_ret (results_none rfl _ _ _) rfl ?_
    exact ⟨⟨_,rfl⟩,.inr ⟨pre++[((Y:Int),32 - (s:Int))],⟨cover ((Y:Int)+(z:Int)) hi,by rw [HX.out,HST.out];simp⟩,hJx3⟩⟩
  ·have HX:=Hd (show cover x hi=pre by rw [hx,cover_end hle,List.append_nil])
   clear hx
   gi_wp2
   go_end0
   exact ⟨⟨_,rfl⟩,.inl (by rw [HX.out];exact hJs)⟩
attribute [local go_sem] Oper.semAt_some wide_fn wide_depth
theorem cover_len (x hi:Int):(cover x hi).length≤(hi+1 - x).toNat:=by
 by_cases h:x≤hi
 ·have:=last_ge x (blkN x hi)
  have ih:=cover_len (lastA x (blkN x hi)+1) hi
  rw [cover_step h]
  simp only [List.length_cons]
  omega
 ·rw [cover_end h]
  simp
termination_by (hi+1 - x).toNat
decreasing_by
 have:=last_ge x (blkN x hi)
 omega
theorem is_lit (n:Int) (b:Bool) (h:isA n=b) (w:World):Calls Tryz.prog 49 #[.int .i64 n] w fun e w'=>e=.returned (.bool b)∧w'=w:=by
 rw [← h];exact (is_any n w).mono fun e w' q=>⟨q.1,q.2.symm⟩
theorem blocks_in (n:Nat) (x hi:Int) (w:World) :
  CallsIn Fence.wide n Tryz.prog 194 #[.agg #[.int .i64 x,.int .i64 hi]] w fun e w'=>e=.returned (.func (.func 203) #[] #[.pointer (some ⟨w.heap.size,0,none⟩)])∧w'=w.alloc (.cells #[.int .i64 x,.int .i64 hi] 138):=by
 refine callsIn_of_wp Tryz.func194 rfl trivial ?_ rfl
 simp only [Tryz.ntmps194,List.size_toArray,List.length_cons,List.length_nil,Nat.reduceAdd,Nat.reduceSub,Array.replicate_succ,Array.replicate_zero,List.push_toArray,List.append_toArray,List.nil_append,List.cons_append]
 gi_wp2
 go_ret
 exact ⟨rfl,rfl⟩
theorem blocks_stops (n:Nat) (hn:1≤n) (Bn n₀:Nat) (x hi:Int) (h0:0≤x) (h1:x≤hi+1) (h2:hi≤4294967295) (w:World) (hn₀:n₀≤w.heap.size) (hg:7 < n₀) (hBk:Blk w Bn 138 #[.int .i64 x,.int .i64 hi]) (ht:TabVar w) :
  SeqStopsK Fence.wide n Tryz.prog 203 #[.pointer (some ⟨Bn,0,none⟩)] (fun p:Pf=>#[.agg #[.int .i64 p.1,.int .i64 p.2]]) (KpB Bn n₀) (fun ys=>ys=cover x hi) (fun pre=>pre <+: cover x hi) (cover x hi).length w:=fun l J Jx W hW hJ _ hY hs =>
 blocks1_in n hn l Bn n₀ x hi h0 h1 h2 J Jx hY W hJ hg (hBk.below hW hBk.lt) (ht.belowB (hW.mono hn₀) hg) hs
theorem blk_own {β:Type} (g:Nat) (t:TypeId) (cs:Array Value):Own (fun (_:β) W=>Blk W g t cs):=fun s X Y row hs hg hrow =>
 hs.grown hg (fun e'=>by obtain ⟨o,ho,hc⟩:=hrow g e'.symm;rw [show X.heap[g]?=_ from hs] at ho;cases ho;cases hc)
theorem own_neO {w:World} {base g:Nat} {e t:TypeId} {size n:Nat} {v:Value} {xs:List Value} {cs:Array Value} (h:w.ownsRow base e size v n xs) (hb:Blk w g t cs) (hte:t≠e):some g≠v.ownBlock:=by
 rcases h.2 with ⟨rfl,_⟩ | ⟨g',cap,cur,rfl,_,hh,_⟩
 ·intro e;cases e
 ·intro e
  have:g=g':=by simpa [Value.ownBlock] using e
  subst this
  rw [show w.heap[g]?=_ from hb] at hh
  injection hh with hh
  injection hh with _ hh _
  exact hte hh
theorem kpB_b {S Bn n₁:Nat} (hBn:Bn < S) (hn:n₁≤S):∀ (W:World) (l:Nat) (o o':Obj),S≤l→W.heap[l]?=some o→o.isCells=false→o.isWalk=false→KpB Bn n₁ W (W.putObj l o'):=fun W l o o' hl ho hc hw =>
 ⟨World.putObj_heap_other (by omega),(Below.refl n₁ W).grown (grownBy_putObj' W l o') (Nat.le_trans hn (Nat.le_trans hl (Nat.le_of_lt (Array.getElem?_eq_some_iff.1 ho).1))) (fun k e=>by cases e;omega)⟩
theorem cells_two (W:World) (u v:Value) (t:TypeId):∀ j x,[u,v][j]?=some x→(W.alloc (.cells #[u,v] t)).cell? ((⟨W.heap.size,0,none⟩:Addr).add j)=some x:=fun j x hj=>by
 match j,hj with
 | 0,hj=>simp at hj;subst hj;simp [Addr.add]
 | 1,hj=>simp at hj;subst hj;simp [Addr.add]
 | j+2,hj=>simp at hj
theorem of_in (n:Nat) (hn:3≤n) (x hi:Int) (h0:0≤x) (h1:x≤hi) (h2:hi≤4294967295) (w:World) (ht:TabVar w) :
  CallsIn Fence.wide n Tryz.prog 177 #[.agg #[.int .i64 x,.int .i64 hi]] w fun e W'=>∃ v,e=.returned (.tuple #[v,.nilIface])∧OwnP W' w.heap.size 31 v (cover x hi)∧Below w.heap.size w W':=by
 have h1n:1≤n:=by omega
 obtain ⟨i0,hi0,hz0,hz1,hz2⟩:=info_parts infoPfx
 have HX:Hid (isA x=true):=Hd (isA_true.2 ⟨h0,by omega⟩)
 have HY:Hid (isA hi=true):=Hd (isA_true.2 ⟨by omega,h2⟩)
 have hlenc:(cover x hi).length≤4294967296:=by have:=cover_len x hi;omega
 have hgt:=ht.lt
 refine callsIn_of_wp_marks Tryz.func177 rfl trivial ?_ rfl
 simp only [Tryz.ntmps177,List.size_toArray,List.length_cons,List.length_nil,Nat.reduceAdd,Nat.reduceSub,Array.replicate_succ,Array.replicate_zero,List.push_toArray,List.append_toArray,List.nil_append,List.cons_append]
 gi_wp2_with (first
  | (gi_at_call 49;refine (callsIn_wide.2 (is_lit x true HX.out _)).mono ?_;rintro e w' ⟨rfl,rfl⟩)
  | (gi_at_call 49;refine (callsIn_wide.2 (is_lit hi true HY.out _)).mono ?_;rintro e w' ⟨rfl,rfl⟩)
  | (gi_at_call 194;refine (blocks_in _ _ _ _).mono ?_;rintro e w' ⟨rfl,rfl⟩))
 have bO:=(Boxed.new (w.alloc (.cells #[.int .i64 x,.int .i64 hi] 138)) 44 (.slice none 0 0)).alloc (.cells #[.int .i64 x,.int .i64 hi] 138)
 have bB:=Blk.new ((w.alloc (.cells #[.int .i64 x,.int .i64 hi] 138)).alloc (.cells #[.slice none 0 0] 44)) 138 #[.int .i64 x,.int .i64 hi]
 simp only [World.size_alloc] at bO bB
 have hB0:Below w.heap.size w (((w.alloc (.cells #[.int .i64 x,.int .i64 hi] 138)).alloc (.cells #[.slice none 0 0] 44)).alloc (.cells #[.int .i64 x,.int .i64 hi] 138)):=(((Below.refl _ w).alloc (Nat.le_refl _) _).alloc (by simp) _).alloc (by simp;omega) _
 have hsz:(((w.alloc (.cells #[.int .i64 x,.int .i64 hi] 138)).alloc (.cells #[.slice none 0 0] 44)).alloc (.cells #[.int .i64 x,.int .i64 hi] 138)).heap.size=w.heap.size+3:=by simp
 obtain ⟨W0,hW0⟩:∃ W0,((w.alloc (.cells #[.int .i64 x,.int .i64 hi] 138)).alloc (.cells #[.slice none 0 0] 44)).alloc (.cells #[.int .i64 x,.int .i64 hi] 138)=W0:=⟨_,rfl⟩
 rw [hW0] at bO bB hB0 hsz ⊢
 clear hW0
 refine wpIn_rangeFunc_ownH rfl h1n (gf:=203) (lb:=#[.pointer (some ⟨w.heap.size+1+1,0,none⟩)]) rfl trivial (enters_of Tryz.func203 (by kernel_rfl) rfl)
  (blocks_stops (n - 1) (by omega) (w.heap.size+1+1) w.heap.size x hi h0 (by omega) h2 W0 (by omega) hgt bB (ht.belowB hB0 hgt))
  (fun h k=>KpB.trans h k) (kpB_b (by omega) (by omega)) (Below.refl _ _) (fun _=>rfl)
  (fun pre W=>((∃ v,Boxed W (w.heap.size+1) 44 v∧W.ownsRow w.heap.size 31 2 v pre.length (cellsP pre)∧True)∧Blk W (w.heap.size+1+1) 138 #[.int .i64 x,.int .i64 hi])∧Below w.heap.size w W)
  (fun _ _ _=>False)
  (OwnFrom.and (OwnFrom.and (Own.from (holdsRow_own w.heap.size (w.heap.size+1) 44 31 2 (fun pre=>pre.length) (fun pre=>cellsP pre) (fun _ _=>True)) _) (Own.from (blk_own _ _ _) _)) (ownFrom_below (Nat.le_refl _) (by omega)))
  (fun _ _ _ _ _ hs _ _=>hs)
  ⟨⟨⟨_,bO,World.ownsRow_nil _ _ _ _,trivial⟩,bB⟩,hB0⟩
  (fun p a' W=>∃ Bx,w.heap.size+1+1 < Bx∧Blk W Bx 31 #[.int .i64 p.1,.int .i64 p.2]∧a'={ tmps:=#[.agg #[.int .i64 x,.int .i64 hi],.pointer (some ⟨w.heap.size,0,none⟩),.slice none 0 0,.nilIface,.pointer (some ⟨w.heap.size+1,0,none⟩),.pointer (some ⟨Bx,0,none⟩),.pointer (some ⟨w.heap.size,0,none⟩),.int .i64 x,.bool true,.bool false,.bool false,.pointer (some ⟨w.heap.size,1,none⟩),.int .i64 hi,.bool true,.bool false,.bool false,undef,.pointer (some ⟨w.heap.size,0,none⟩),.int .i64 x,.pointer (some ⟨w.heap.size,1,none⟩),.int .i64 hi,.bool (decide (hi < x)),undef,.agg #[.int .i64 x,.int .i64 hi],.func (.func 203) #[] #[.pointer (some ⟨w.heap.size+1+1,0,none⟩)],.agg #[.int .i64 p.1,.int .i64 p.2],undef,undef,undef,undef,undef],defers:=[] })
  (fun p a' _ X Y row hs hg hr=>by obtain ⟨Bx,q1,q2,q3⟩:=hs;exact ⟨Bx,q1,blk_own Bx _ _ () X Y row q2 hg (fun r e=>(hr r e).2),q3⟩)
  ?assign ?body ?done ?stop
 case assign =>
  rintro l pre p W K ⟨⟨⟨v,hv,hrow,_⟩,hb⟩,hB⟩ hK
  gi_wp2
  exact hK _ _ ((KeepsOthers.alloc _ _).from _) ⟨Below.heap_alloc W _ _ hb.lt,(Below.refl _ W).alloc hB.size _⟩ ⟨⟨⟨v,hv.alloc _,hrow.alloc _,trivial⟩,hb.alloc _⟩,hB.alloc hB.size _⟩ ⟨W.heap.size,hb.lt,Blk.new W _ _,rfl⟩
 case body =>
  rintro l pre p a' W hl ⟨r,hr⟩ ⟨⟨⟨v,hv,hrow,_⟩,hb⟩,hB⟩ ⟨Bx,hBx,hp,rfl⟩ hlt
  have hc:=hv.cell
  obtain ⟨p0,p1,_⟩:=hp.two
  have hWs:=hB.size
  gi_wp2_with (gi_at_builtin;refine wpListIn_append_own _ rfl _ _ 44 rfl w.heap.size 31 i0 _ 2 16 Tryz.underlying44 hi0 hz0 hz1 hz2 rfl (by decide) _ _ _ rfl (hrow.alloc _) ⟨W.heap.size,0,none⟩ 1 1 [.int .i64 p.1,.int .i64 p.2] rfl rfl (cells_two _ _ _ _) (by intro u hu;simp at hu;rcases hu with rfl | rfl <;> rfl) (by unfold maxLen;omega) (by omega) (by simp;omega) ?_;intro v' w1 hown' hgrow _;obtain ⟨g',cap',rfl⟩:=ownsRow_succ hown';obtain ⟨hv1,hv2,hr2,hk2,hb2⟩:=hv.appended (by decide) hrow hB.size (by omega) hown' hgrow;have hc1:=hv1.cell;have hf1:=hv1.frozen)
  have hBn:(w1.setCell ⟨w.heap.size+1,0,none⟩ (.slice (some ⟨g',0,none⟩) (pre.length+1) cap')).heap[w.heap.size+1+1]?=W.heap[w.heap.size+1+1]? :=
   (Below.heap_setCell w1 _ _ _ (by simp)).trans ((hgrow.block _ (by simp;have:=hb.lt;omega) (own_neO hrow hb (by decide))).trans (Below.heap_alloc W _ _ hb.lt))
  exact ⟨hk2.from _,⟨hBn,hb2⟩,⟨⟨_,hv2,by rw [List.length_append,cellsP_append];exact hr2,trivial⟩,hBn.trans hb⟩,hB.trans hb2⟩
 case done =>
  rintro D ys W hD rfl ⟨⟨⟨v,hv,hrow,_⟩,hb⟩,hB⟩ hK
  have hc:=hv.cell
  gi_wp2
  refine ⟨by simp,.inl ⟨_,_,rfl,run_takeDeferred hK,?_⟩⟩
  exact ⟨_,results_tmp2 rfl _ _ _,v,rfl,ownsRow_putObj hrow _ hK rfl,hB.trans (belowK_b (w:=w) (Nat.le_refl _) W D _ _ (by omega) hK rfl rfl)⟩
 case stop =>
  rintro D c pre W _ _ h _
  exact h.elim
end Go.Proofs.YtkckcbhnnllkhaaGreatDoor
