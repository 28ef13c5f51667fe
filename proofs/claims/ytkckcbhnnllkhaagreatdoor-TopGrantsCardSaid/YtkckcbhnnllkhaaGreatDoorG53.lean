/- Parts of the proof; conditions: as each theorem says. -/
import Derived.Test.YtkckcbhnnllkhaaGreatDoorG17
import Derived.Test.YtkckcbhnnllkhaaGreatDoorG37
import Derived.Test.YtkckcbhnnllkhaaGreatDoorProg
import Derived.ProofKit
import Derived.Test.YtkckcbhnnllkhaaGreatDoorRows
import Derived.Test.YtkckcbhnnllkhaaGreatDoorG31
import Derived.Lib.LaidTab
import Derived.LaidLaws
import Derived.Test.YtkckcbhnnllkhaaGreatDoorG26
import Derived.Stop.LaidErr
set_option linter.unusedVariables false
set_option linter.unusedSimpArgs false
namespace Go.Proofs.YtkckcbhnnllkhaaGreatDoor
open Go.ChangeShapes Go.WideShapes Go.ChangeAt Go.RowKit Go.Joins Go.Deep
theorem len_of {s:ByteArray} (h:s.size≤maxLen):s.data.toList.length≤9223372036854775807:=by
 have e:maxLen=9223372036854775807:=by unfold maxLen;decide
 rw [e] at h
 rw [Array.length_toList]
 exact h
section
variable {H : Type} {enc : TypeId × Value → H} {P : Program} {W : World} {base : Nat} {spare : Nat → Bool} {held : Bool} {r : Reach} {b0 : Nat}
structure CallT (P:Program) (tc tp ti ts:TypeId):Prop where
 call:∃ g0 g1 g2 g3 g4 g5:Field,P.underlying tc=some (.struct #[g0,g1,g2,g3,g4,g5])∧(g0.offset=0∧g1.offset=1∧g2.offset=2∧g3.offset=4∧g4.offset=5∧g5.offset=6)∧(g0.type=ti∧g1.type=ts∧g2.type=tp∧g3.type=ti∧g4.type=ti∧g5.type=ts)
 pfx:∃ h0 h1:Field,P.underlying tp=some (.struct #[h0,h1])∧(h0.offset=0∧h1.offset=1)∧(h0.type=ti∧h1.type=ti)
 uti:P.underlying ti=some (.int .i64)
 uts:P.underlying ts=some .string
 cc:P.cellsOf tc=7
 cp:P.cellsOf tp=2
 cci:P.cellsOf ti=1
 ccs:P.cellsOf ts=1
theorem open_call {tc tp ti ts:TypeId} (T:CallT P tc tp ti ts) {n:Nat} {u0 u1 u2 u3 u4 u5 u6:Value} {x:DataW H × List MemPlace} (h:DataW.trod enc P W base spare held n tc [u0,u1,u2,u3,u4,u5,u6]=some x) :
  ∃ c:PCall,PCallW c∧u0=.int .i64 c.what∧u1=txt c.name∧u2=.int .i64 c.pa∧u3=.int .i64 c.pn∧u4=.int .i64 c.len∧u5=.int .i64 c.ad∧u6=txt c.owner:=by
 obtain ⟨g0,g1,g2,g3,g4,g5,hc,⟨o0,o1,o2,o3,o4,o5⟩,⟨t0,t1,t2,t3,t4,t5⟩⟩:=T.call
 obtain ⟨h0,h1,hp,⟨p0,p1⟩,⟨s0,s1⟩⟩:=T.pfx
 obtain ⟨xs,n',_,_,_,hlen,hff⟩:=DataW.trod_struct hc h
 have q0:=hff 0 g0 rfl
 have q1:=hff 1 g1 rfl
 have q2:=hff 2 g2 rfl
 have q3:=hff 3 g3 rfl
 have q4:=hff 4 g4 rfl
 have q5:=hff 5 g5 rfl
 match xs,hlen with
 | [y0,y1,y2,y3,y4,y5],_ =>
  rw [t0,o0,T.cci] at q0
  rw [t1,o1,T.ccs] at q1
  rw [t2,o2,T.cp] at q2
  rw [t3,o3,T.cci] at q3
  rw [t4,o4,T.cci] at q4
  rw [t5,o5,T.ccs] at q5
  simp only [List.getElem?_cons_zero,List.getElem?_cons_succ,List.drop_zero,List.drop_succ_cons,List.take_succ_cons,List.take_zero] at q0 q1 q2 q3 q4 q5
  obtain ⟨ys,n2,_,_,_,hlen2,hgg⟩:=DataW.trod_struct hp q2
  have r0:=hgg 0 h0 rfl
  have r1:=hgg 1 h1 rfl
  match ys,hlen2 with
  | [v0,v1],_ =>
   rw [s0,p0,T.cci] at r0
   rw [s1,p1,T.cci] at r1
   simp only [List.getElem?_cons_zero,List.getElem?_cons_succ,List.drop_zero,List.drop_succ_cons,List.take_succ_cons,List.take_zero] at r0 r1
   obtain ⟨z0,e0,_,w0⟩:=DataW.trod_int T.uti q0
   obtain ⟨z1,e1,_,m1⟩:=DataW.trod_string T.uts q1
   obtain ⟨z2,e2,_,w2⟩:=DataW.trod_int T.uti r0
   obtain ⟨z3,e3,_,w3⟩:=DataW.trod_int T.uti r1
   obtain ⟨z4,e4,_,w4⟩:=DataW.trod_int T.uti q3
   obtain ⟨z5,e5,_,w5⟩:=DataW.trod_int T.uti q4
   obtain ⟨z6,e6,_,m6⟩:=DataW.trod_string T.uts q5
   simp at e0 e1 e2 e3 e4 e5 e6
   subst e0 e1 e2 e3 e4 e5 e6
   refine ⟨⟨z0,z1.data.toList,z2,z3,z4,z5,z6.data.toList⟩,⟨w0,?_,w2,w3,w4,w5,?_⟩,rfl,?_,rfl,rfl,rfl,rfl,?_⟩
   ·exact len_of m1
   ·exact len_of m6
   ·unfold txt;rw [str_data2]
   ·unfold txt;rw [str_data2]
theorem open_hstps {t e tc tp ti ts:TypeId} {f0 f1 f2 f3:Field} {v:Value} {d:DataW H} {p:List MemPlace} (ht:P.underlying t=some (.slice e)) (he:P.underlying e=some (.struct #[f0,f1,f2,f3]))
  (ce:P.cellsOf e=10) (of:f0.offset=0∧f1.offset=1∧f2.offset=2∧f3.offset=3) (tf:f0.type=ti∧f1.type=ts∧f2.type=ti∧f3.type=tc) (T:CallT P tc tp ti ts)
  (hv:Value.okWide P W r b0 t v) (h:DataW.Trod enc P W base spare held t v d p) :
  ∃ (A:Option Addr) (l:List HStp) (c:Nat),v=.slice A l.length c∧l.length≤maxLen∧(∀ s ∈ l,HStpOk s)∧Rd W W.heap.size A (cellsH l):=by
 obtain ⟨A,len,cap,rfl⟩:=okWide_slice ht hv
 obtain ⟨fuel,hf⟩:=h
 rcases open_slice ht hf with ⟨hcs,_⟩ | ⟨a,len',cap',m,n,D,Pl,hcs,_,hl,hm,hmm,_,hx⟩
 ·simp [Value.cells] at hcs
  obtain ⟨rfl,rfl,rfl⟩:=hcs
  exact ⟨none,[],0,rfl,by simp,(fun x hx=>by simp at hx),Rd.nil⟩
 ·simp [Value.cells] at hcs
  obtain ⟨rfl,rfl,rfl⟩:=hcs
  have hlm:len≤m:=by rw [hmm];split <;> omega
  have each:∀ i,i < len→∃ z:HStp,HStpOk z∧W.cell? (a.add (i * 10))=some (.int .i64 z.what)∧W.cell? (a.add (i * 10+1))=some (txt z.who)∧W.cell? (a.add (i * 10+2))=some (.int .i64 z.n)∧W.cell? (a.add (i * 10+3))=some (.int .i64 z.call.what)∧W.cell? (a.add (i * 10+4))=some (txt z.call.name)∧W.cell? (a.add (i * 10+5))=some (.int .i64 z.call.pa)∧W.cell? (a.add (i * 10+6))=some (.int .i64 z.call.pn)∧W.cell? (a.add (i * 10+7))=some (.int .i64 z.call.len)∧W.cell? (a.add (i * 10+8))=some (.int .i64 z.call.ad)∧W.cell? (a.add (i * 10+9))=some (txt z.call.owner):=fun i hi=>by
   obtain ⟨cs,g1,g2⟩:=hx i (by omega)
   rw [ce] at g1
   obtain ⟨xs,n',_,_,_,hlen,hff⟩:=DataW.trod_struct he g2
   have q0:=hff 0 f0 rfl
   have q1:=hff 1 f1 rfl
   have q2:=hff 2 f2 rfl
   have q3:=hff 3 f3 rfl
   obtain ⟨hlc,_,hcell⟩:=World.cells?_some g1
   match cs,hlc with
   | [u0,u1,u2,u3,u4,u5,u6,u7,u8,u9],_ =>
    match xs,hlen with
    | [y0,y1,y2,y3],_ =>
     rw [tf.1,of.1,T.cci] at q0
     rw [tf.2.1,of.2.1,T.ccs] at q1
     rw [tf.2.2.1,of.2.2.1,T.cci] at q2
     rw [tf.2.2.2,of.2.2.2,T.cc] at q3
     simp only [List.getElem?_cons_zero,List.getElem?_cons_succ,List.drop_zero,List.drop_succ_cons,List.take_succ_cons,List.take_zero] at q0 q1 q2 q3
     obtain ⟨z0,e0,_,w0⟩:=DataW.trod_int T.uti q0
     obtain ⟨z1,e1,_,m1⟩:=DataW.trod_string T.uts q1
     obtain ⟨z2,e2,_,w2⟩:=DataW.trod_int T.uti q2
     obtain ⟨c,hcw,e3,e4,e5,e6,e7,e8,e9⟩:=open_call T q3
     simp at e0 e1 e2
     subst e0 e1 e2 e3 e4 e5 e6 e7 e8 e9
     have c0:=hcell 0 (by omega)
     have c1:=hcell 1 (by omega)
     have c2:=hcell 2 (by omega)
     have c3:=hcell 3 (by omega)
     have c4:=hcell 4 (by omega)
     have c5:=hcell 5 (by omega)
     have c6:=hcell 6 (by omega)
     have c7:=hcell 7 (by omega)
     have c8:=hcell 8 (by omega)
     have c9:=hcell 9 (by omega)
     rw [add_add] at c0 c1 c2 c3 c4 c5 c6 c7 c8 c9
     simp at c0 c1 c2 c3 c4 c5 c6 c7 c8 c9
     refine ⟨⟨z0,z1.data.toList,z2,c⟩,⟨?_,w2,hcw⟩,c0,?_,c2,c3,c4,c5,c6,c7,c8,c9⟩
     ·exact len_of m1
     ·show W.cell? _=some (.string ⟨z1.data.toList.toArray⟩)
      rw [str_data2];exact c1
  obtain ⟨Z,hZ⟩:=choose_lt each
  refine ⟨some a,(List.range len).map Z,cap,by simp,by simp;omega,fun c hc=>?_,fun hne=>?_⟩
  ·obtain ⟨i,hi,rfl⟩:=List.mem_map.1 hc
   exact (hZ i (List.mem_range.1 hi)).1
  have h0:0 < len:=by
   rcases Nat.eq_zero_or_pos len with h0 | h0
   ·subst h0;exact absurd rfl hne
   ·exact h0
  have hs:a.spot=none:=by
   have:=World.cell?_spot (hZ 0 h0).2.1
   simpa [Addr.add] using this
  refine ⟨a.block,a.off,by obtain ⟨b,off,s⟩:=a;simp at hs;subst hs;rfl,?_,fun j u hu=>?_⟩
  ·have:=World.block_lt_of_cell? W _ (hZ 0 h0).2.1
   rw [add_none _ _ hs] at this
   exact this
  ·rw [← add_none _ _ hs]
   have hlen:((List.range len).map Z).length=len:=by simp
   have hj:j < len * 10:=by
    have:=cellsH_length ((List.range len).map Z)
    rw [hlen] at this
    rw [← this]
    exact (List.getElem?_eq_some_iff.1 hu).1
   obtain ⟨hc0,hc1,hc2,hc3,hc4,hc5,hc6,hc7,hc8,hc9⟩:=cellsH_at ((List.range len).map Z) (j / 10) (by omega)
   obtain ⟨_,z0,z1,z2,z3,z4,z5,z6,z7,z8,z9⟩:=hZ (j / 10) (by omega)
   simp only [List.getElem_map,List.getElem_range] at hc0 hc1 hc2 hc3 hc4 hc5 hc6 hc7 hc8 hc9
   rcases (show j % 10=0∨j % 10=1∨j % 10=2∨j % 10=3∨j % 10=4∨j % 10=5∨j % 10=6∨j % 10=7∨j % 10=8∨j % 10=9 by omega) with h | h | h | h | h | h | h | h | h | h
   ·have e:10 * (j / 10)=j:=by omega
    have e2:j / 10 * 10=j:=by omega
    rw [e,hu] at hc0
    rw [e2] at z0
    rw [z0,Option.some.inj hc0]
   ·have e:10 * (j / 10)+1=j:=by omega
    have e2:j / 10 * 10+1=j:=by omega
    rw [e,hu] at hc1
    rw [e2] at z1
    rw [z1,Option.some.inj hc1]
   ·have e:10 * (j / 10)+2=j:=by omega
    have e2:j / 10 * 10+2=j:=by omega
    rw [e,hu] at hc2
    rw [e2] at z2
    rw [z2,Option.some.inj hc2]
   ·have e:10 * (j / 10)+3=j:=by omega
    have e2:j / 10 * 10+3=j:=by omega
    rw [e,hu] at hc3
    rw [e2] at z3
    rw [z3,Option.some.inj hc3]
   ·have e:10 * (j / 10)+4=j:=by omega
    have e2:j / 10 * 10+4=j:=by omega
    rw [e,hu] at hc4
    rw [e2] at z4
    rw [z4,Option.some.inj hc4]
   ·have e:10 * (j / 10)+5=j:=by omega
    have e2:j / 10 * 10+5=j:=by omega
    rw [e,hu] at hc5
    rw [e2] at z5
    rw [z5,Option.some.inj hc5]
   ·have e:10 * (j / 10)+6=j:=by omega
    have e2:j / 10 * 10+6=j:=by omega
    rw [e,hu] at hc6
    rw [e2] at z6
    rw [z6,Option.some.inj hc6]
   ·have e:10 * (j / 10)+7=j:=by omega
    have e2:j / 10 * 10+7=j:=by omega
    rw [e,hu] at hc7
    rw [e2] at z7
    rw [z7,Option.some.inj hc7]
   ·have e:10 * (j / 10)+8=j:=by omega
    have e2:j / 10 * 10+8=j:=by omega
    rw [e,hu] at hc8
    rw [e2] at z8
    rw [z8,Option.some.inj hc8]
   ·have e:10 * (j / 10)+9=j:=by omega
    have e2:j / 10 * 10+9=j:=by omega
    rw [e,hu] at hc9
    rw [e2] at z9
    rw [z9,Option.some.inj hc9]
end
theorem callT:CallT Tryz.prog 33 31 3 9 :=
 ⟨⟨_,_,_,_,_,_,Tryz.underlying33,⟨rfl,rfl,rfl,rfl,rfl,rfl⟩,⟨rfl,rfl,rfl,rfl,rfl,rfl⟩⟩,⟨_,_,Tryz.underlying31,⟨rfl,rfl⟩,⟨rfl,rfl⟩⟩,Tryz.underlying3,Tryz.underlying9,by kernel_rfl,by kernel_rfl,by kernel_rfl,by kernel_rfl⟩
open Go.RowKit
def tabK64:List Int:=[0,1,56,2,57,49,28,3,61,58,42,50,38,29,17,4,62,47,59,36,45,43,51,22,53,39,33,30,24,18,12,5,63,55,48,27,60,41,37,16,46,35,44,21,52,32,23,11,54,26,40,15,34,20,31,10,25,14,19,9,13,8,7,6]
theorem tabK64_global : Tryz.prog.globalNamed "math/bits.deBruijn64tab" = some 7 := by kernel_rfl
theorem tzV_of {W : World} {r : List (String × DataW Unit)} (h : laidMet Tryz.prog (("math/bits.deBruijn64tab", Rows.laid_math_bits_deBruijn64tab) :: r) W) : TzV W := by
 have h' : laidMet Tryz.prog (("math/bits.deBruijn64tab", Lib.tabData .u8 tabK64) :: r) W := h
 have ht:=Lib.tabIs_of_head tabK64_global (t:=316) (e:=5) (n:=64) (by kernel_rfl) (by kernel_rfl) (by kernel_rfl) (by kernel_rfl) (by kernel_rfl) h'
 intro j hj
 have:=Lib.TabIs.cell ht tabK64_global j (by simpa [tabK64,Lib.deBruijn64tab] using hj)
 rw [this]
 have key:∀ j,j < 64→tabK64.getD j 0=((Lib.deBruijn64tab.getD j 0:Nat):Int):=by decide
 rw [key j (by simpa [Lib.deBruijn64tab] using hj)]
theorem keyV_of {W : World} {r : List (String × DataW Unit)} (h : laidMet Tryz.prog (("math/bits.deBruijn64tab", Rows.laid_math_bits_deBruijn64tab) :: r) W) : KeyV W.heap.size W := by
 have hz:=tzV_of h
 have hlt:7 < W.heap.size:=World.block_lt_of_cell? W ⟨7,0,none⟩ (hz 0 (by decide))
 exact fun w' hb j hj=>(hb.cell (p:=⟨7,j,none⟩) hlt).trans (hz j hj)
theorem starE : "*" ++ "errors.errorString" = "*errors.errorString" := by decide
theorem rowE (u : TypeId) (h : Tryz.prog.typeName? 3 u = some "*errors.errorString") : u = 312 :=
 typeName_ptr_named (nm := "errors.errorString") (by rw [starE]; kernel_rfl) (by kernel_rfl) (by decide) u (by rw [starE]; exact h)
theorem pow_global : Tryz.prog.globalNamed "internal/strconv.uint64pow10" = some 1 := by kernel_rfl
theorem txtV_of {W : World} {r1 r2 r3 : List (String × DataW Unit)} (hp : laidMet Tryz.prog (("internal/strconv.uint64pow10", Rows.laid_internal_strconv_uint64pow10) :: r1) W)
  (hs : laidMet Tryz.prog (("strconv.ErrSyntax", Rows.laid_strconv_ErrSyntax) :: r2) W) (hr : laidMet Tryz.prog (("strconv.ErrRange", Rows.laid_strconv_ErrRange) :: r3) W) (hsh : W.ShapedOpen Tryz.prog) : TxtV W.heap.size W := by
 have hp' : laidMet Tryz.prog (("internal/strconv.uint64pow10", Lib.tabData .u64 Lib.pow10Tab) :: r1) W := hp
 have ht:=Lib.tabIs_of_head pow_global (t:=296) (e:=203) (n:=20) (by kernel_rfl) (by kernel_rfl) (by kernel_rfl) (by kernel_rfl) (by kernel_rfl) hp'
 obtain ⟨a0,s0,hv0,-,-,-⟩:=laid_sentinel hs (g:=2) (by kernel_rfl) (ti:=26) (by kernel_rfl) Tryz.underlying26 rowE Tryz.underlying312 Tryz.underlying314 rfl rfl Tryz.underlying9 (by kernel_rfl) (by kernel_rfl)
 obtain ⟨a1,s1,hv1,-,-,-⟩:=laid_sentinel hr (g:=3) (by kernel_rfl) (ti:=26) (by kernel_rfl) Tryz.underlying26 rowE Tryz.underlying312 Tryz.underlying314 rfl rfl Tryz.underlying9 (by kernel_rfl) (by kernel_rfl)
 have h0:=World.var?_cell (g:=2) (by kernel_rfl) hv0 0
 have h1:=World.var?_cell (g:=3) (by kernel_rfl) hv1 0
 have c0:W.cell? ⟨2,0,none⟩=some (.iface 312 (.pointer (some a0))):=by simpa using h0
 have c1:W.cell? ⟨3,0,none⟩=some (.iface 312 (.pointer (some a1))):=by simpa using h1
 obtain ⟨m,hm⟩:=layCut.s1_3 W hsh
 exact ⟨Lib.tabBelow_of_tabIs ht,⟨_,c0,.inr ⟨_,_,rfl⟩⟩,⟨_,c1,.inr ⟨_,_,rfl⟩⟩,⟨m,hm⟩,World.block_lt_of_cell? _ _ c0,World.block_lt_of_cell? _ _ c1,World.block_lt_of_cell? _ _ hm⟩
end Go.Proofs.YtkckcbhnnllkhaaGreatDoor
