/- Parts of the proof; conditions: as each theorem says. -/
import Derived.Test.YtkckcbhnnllkhaaGreatDoorG45
import Derived.Test.YtkckcbhnnllkhaaGreatDoorG37
import Derived.Test.YtkckcbhnnllkhaaGreatDoorG41
import Derived.Test.YtkckcbhnnllkhaaGreatDoorG11
import Derived.Test.YtkckcbhnnllkhaaGreatDoorG48
import Derived.Test.YtkckcbhnnllkhaaGreatDoorG24
import Derived.Test.YtkckcbhnnllkhaaGreatDoorG16
set_option linter.unusedVariables false
set_option linter.unusedSimpArgs false
set_option maxRecDepth 100000
set_option maxHeartbeats 40000000
namespace Go.Proofs.YtkckcbhnnllkhaaGreatDoor
open Go.RowKit
section
variable {B : Nat} {w : World} {T : Nat → Prop} {d : Nat} {g : Dk} {id : Int} {k : Nat}
theorem DK.do_2 (h:DK B w T d g k) (hk:k≤40000) (hid:(Lit.int .i64 id).wf=true) (nm ow:List UInt8) (pa pn ln ad:Int) (hc:CallOk ⟨2,nm,pa,pn,ln,ad,ow⟩) (hn:nameB nm=true) (ho:nameB ow=true) (hp:chk pa pn=0) :
  Calls Tryz.prog 46 #[workV d id ⟨2,nm,pa,pn,ln,ad,ow⟩] w (DoR B w T d k (g.do2 id ⟨2,nm,pa,pn,ln,ad,ow⟩)):=by
 have hD1:=h.refl.alloc (.cells #[ptrV d,intV id,.int .i64 2,txt nm,.int .i64 pa,.int .i64 pn,.int .i64 ln,.int .i64 ad,txt ow] 120)
 have hX1:=Loc.new h 120 #[ptrV d,intV id,.int .i64 2,txt nm,.int .i64 pa,.int .i64 pn,.int .i64 ln,.int .i64 ad,txt ow]
 have hD2:=hD1.alloc (.cells #[.int .i64 0,.int .i64 0,.int .i64 0,.string { data:=#[] },.slice none 0 0] 46)
 have hX2:=hX1.alloc (.cells #[.int .i64 0,.int .i64 0,.int .i64 0,.string { data:=#[] },.slice none 0 0] 46)
 have hR2:=Loc.new hD1.dk 46 #[.int .i64 0,.int .i64 0,.int .i64 0,.string { data:=#[] },.slice none 0 0]
 have hD3:=hD2.alloc (.cells #[.int .i64 2,txt nm,.int .i64 pa,.int .i64 pn,.int .i64 ln,.int .i64 ad,txt ow] 33)
 have hX3:=hX2.alloc (.cells #[.int .i64 2,txt nm,.int .i64 pa,.int .i64 pn,.int .i64 ln,.int .i64 ad,txt ow] 33)
 have hC3:=Loc.new hD2.dk 33 #[.int .i64 2,txt nm,.int .i64 pa,.int .i64 pn,.int .i64 ln,.int .i64 ad,txt ow]
 have hR3:=hR2.alloc (.cells #[.int .i64 2,txt nm,.int .i64 pa,.int .i64 pn,.int .i64 ln,.int .i64 ad,txt ow] 33)
 rw [World.size_alloc] at hR3
 rw [World.size_alloc,World.size_alloc] at hC3
 have e2:=hX1.blk.cell 2
 have e3:=hX1.blk.cell 3
 have e4:=hX1.blk.cell 4
 have e5:=hX1.blk.cell 5
 have e6:=hX1.blk.cell 6
 have e7:=hX1.blk.cell 7
 have e8:=hX1.blk.cell 8
 simp at e2 e3 e4 e5 e6 e7 e8
 unfold workV
 dsimp only
 go_enter Tryz.func46,Tryz.ntmps46
 go_upto_region 2 with fail
 refine wp_name (fun w3 HW=>?_)
 rw [← HW.out] at hD3 hX3 hR3 hC3
 clear HW hD1 hD2 hX1 hX2 hR2 e2 e3 e4 e5 e6 e7 e8
 have HN:=Hd hn
 have HP:=Hd hp
 have HPK:=Hd (fun (W:World) (hB:B≤W.heap.size) hV=>pk_any nm HN.out (pa,pn) HP.out (B:=B) W hB hV)
 have HHAS:=Hd (fun W T' (q:DK B W T' d g k)=>q.has hk hid ⟨2,nm,pa,pn,ln,ad,ow⟩ (pkOf nm (pa,pn)) (by have:=pk_len (c:=⟨2,nm,pa,pn,ln,ad,ow⟩) HN.out (pa,pn) HP.out;unfold maxLen;simp only at this;omega))
 have HKL:=Hd (show (pkOf nm (pa,pn)).length≤maxLen by have:=pk_len (c:=⟨2,nm,pa,pn,ln,ad,ow⟩) HN.out (pa,pn) HP.out;unfold maxLen;simp only at this;omega)
 have HOL:=Hd (show ow.length≤maxLen by have:=hc.owner;unfold maxLen;simp only at this;omega)
 have HV:=Hd (show g.do2 id ⟨2,nm,pa,pn,ln,ad,ow⟩=if (g.has id (pkOf nm (pa,pn))).2.1≠0 then (noAns,(g.has id (pkOf nm (pa,pn))).2.1,(g.has id (pkOf nm (pa,pn))).2.2) else if (g.has id (pkOf nm (pa,pn))).1 then (noAns,6,(g.has id (pkOf nm (pa,pn))).2.2) else (g.has id (pkOf nm (pa,pn))).2.2.chg id ⟨pkOf nm (pa,pn),ow,false⟩ noAns from rfl)
 unfold workV at HHAS
 dsimp only at HPK HHAS
 generalize g.has id (pkOf nm (pa,pn))=rh at *
 generalize pkOf nm (pa,pn)=key at *
 clear hn hp hc ho
 have hks:∀ W:World,Blk W w.heap.size 120 #[ptrV d,intV id,.int .i64 2,txt nm,.int .i64 pa,.int .i64 pn,.int .i64 ln,.int .i64 ad,txt ow]→Blk W (w.heap.size+2) 33 #[.int .i64 2,txt nm,.int .i64 pa,.int .i64 pn,.int .i64 ln,.int .i64 ad,txt ow]→W.cell? ⟨w.heap.size,0,none⟩=some (ptrV d)∧W.cell? ⟨w.heap.size,1,none⟩=some (intV id)∧W.cell? ⟨w.heap.size,2,none⟩=some (.int .i64 2)∧W.cell? ⟨w.heap.size,3,none⟩=some (txt nm)∧W.cell? ⟨w.heap.size,4,none⟩=some (.int .i64 pa)∧W.cell? ⟨w.heap.size,5,none⟩=some (.int .i64 pn)∧W.cell? ⟨w.heap.size,6,none⟩=some (.int .i64 ln)∧W.cell? ⟨w.heap.size,7,none⟩=some (.int .i64 ad)∧W.cell? ⟨w.heap.size,8,none⟩=some (txt ow)∧W.cell? ⟨w.heap.size+2,0,none⟩=some (.int .i64 2)∧W.cell? ⟨w.heap.size+2,1,none⟩=some (txt nm)∧W.cell? ⟨w.heap.size+2,2,none⟩=some (.int .i64 pa)∧W.cell? ⟨w.heap.size+2,3,none⟩=some (.int .i64 pn)∧W.cell? ⟨w.heap.size+2,4,none⟩=some (.int .i64 ln)∧W.cell? ⟨w.heap.size+2,5,none⟩=some (.int .i64 ad)∧W.cell? ⟨w.heap.size+2,6,none⟩=some (txt ow):=fun W a b=>⟨a.cell 0,a.cell 1,a.cell 2,a.cell 3,a.cell 4,a.cell 5,a.cell 6,a.cell 7,a.cell 8,b.cell 0,b.cell 1,b.cell 2,b.cell 3,b.cell 4,b.cell 5,b.cell 6⟩
 obtain ⟨y0,y1,y2,y3,y4,y5,y6,y7,y8⟩:=hX3.blk.cls9
 obtain ⟨z0,z1,z2,z3,z4⟩:=hR3.blk.cls5
 obtain ⟨u0,u1,u2,u3,u4⟩:=hR3.blk.frs5
 obtain ⟨x0,x1,x2,x3,x4,x5,x6⟩:=hC3.blk.cls7
 simp at y0 y1 y2 y3 y4 y5 y6 y7 y8 z0 z1 z2 z3 z4 x0 x1 x2 x3 x4 x5 x6
 go_upto_region 4 with fail
 clear y0 y1 y2 y3 y4 y5 y6 y7 y8 z0 z1 z2 z3 z4 u0 u1 u2 u3 u4 x0 x1 x2 x3 x4 x5 x6
 have hXd:Blk w3.drew w.heap.size 120 #[ptrV d,intV id,.int .i64 2,txt nm,.int .i64 pa,.int .i64 pn,.int .i64 ln,.int .i64 ad,txt ow]:=hX3.blk
 have hCd:Blk w3.drew (w.heap.size+2) 33 #[.int .i64 2,txt nm,.int .i64 pa,.int .i64 pn,.int .i64 ln,.int .i64 ad,txt ow]:=hC3.blk
 go_region_held3 (fun W=>W.cell? ⟨w.heap.size,0,none⟩=some (ptrV d)∧W.cell? ⟨w.heap.size,1,none⟩=some (intV id)∧W.cell? ⟨w.heap.size,2,none⟩=some (.int .i64 2)∧W.cell? ⟨w.heap.size,3,none⟩=some (txt nm)∧W.cell? ⟨w.heap.size,4,none⟩=some (.int .i64 pa)∧W.cell? ⟨w.heap.size,5,none⟩=some (.int .i64 pn)∧W.cell? ⟨w.heap.size,6,none⟩=some (.int .i64 ln)∧W.cell? ⟨w.heap.size,7,none⟩=some (.int .i64 ad)∧W.cell? ⟨w.heap.size,8,none⟩=some (txt ow)∧W.cell? ⟨w.heap.size+2,0,none⟩=some (.int .i64 2)∧W.cell? ⟨w.heap.size+2,1,none⟩=some (txt nm)∧W.cell? ⟨w.heap.size+2,2,none⟩=some (.int .i64 pa)∧W.cell? ⟨w.heap.size+2,3,none⟩=some (.int .i64 pn)∧W.cell? ⟨w.heap.size+2,4,none⟩=some (.int .i64 ln)∧W.cell? ⟨w.heap.size+2,5,none⟩=some (.int .i64 ad)∧W.cell? ⟨w.heap.size+2,6,none⟩=some (txt ow))
  (first
   | with_reducible exact hks _ hXd hCd
   | with_reducible exact hks _ hX4.blk hC4.blk
   | with_reducible exact hks _ hX5.blk hC5.blk)
  ((first
   | (go_at_call 69;refine (HPK.out _ hD3.drew.dk.le hD3.drew.dk.gv).mono ?_;rintro e w4 ⟨rfl,hb4⟩;have hD4:=hD3.drew.bel hb4;have hX4:=hX3.bel (w2:=w4) ⟨hb4.os,hb4.tape,hb4.output,hb4.size,hb4.block⟩;have hR4:=hR3.bel (w2:=w4) ⟨hb4.os,hb4.tape,hb4.output,hb4.size,hb4.block⟩;have hC4:=hC3.bel (w2:=w4) ⟨hb4.os,hb4.tape,hb4.output,hb4.size,hb4.block⟩)
   | (go_at_call 43;refine (HHAS.out _ _ hD4.dk).mono ?_;rintro e w5 ⟨rfl,T5,hD45⟩;have hD5:=hD4.step hD45;have hX5:=hX4.step hD45;have hR5:=hR4.step hD45;have hC5:=hC4.step hD45)))
 clear hD3 hX3 hR3 hC3 hD4 hX4 hR4 hC4 hD45 hb4 hXd hCd
 obtain ⟨b,f,g1⟩:=rh
 dsimp only at HV hD5
 by_cases hf:f≠0
 ·have HR:=Hd (show g.do2 id ⟨2,nm,pa,pn,ln,ad,ow⟩=(noAns,f,g1) by rw [HV.out,if_pos hf])
  have HF:=Hd (fault_num hf)
  have HNZ:=Hd hf
  rw [HF.out]
  clear hf HV
  obtain ⟨y0,y1,y2,y3,y4,y5,y6,y7,y8⟩:=hX5.blk.cls9
  obtain ⟨z0,z1,z2,z3,z4⟩:=hR5.blk.cls5
  obtain ⟨u0,u1,u2,u3,u4⟩:=hR5.blk.frs5
  obtain ⟨x0,x1,x2,x3,x4,x5,x6⟩:=hC5.blk.cls7
  simp at y0 y1 y2 y3 y4 y5 y6 y7 y8 z0 z1 z2 z3 z4 x0 x1 x2 x3 x4 x5 x6
  go_wp2
  refine bodyPost_ret (v:=.tuple #[AnsV (.slice none 0 0) noAns,.iface 71 (.int .i64 f)]) (by simp [AnsV,noAns,results,Tryz.results46,go_sem,z0,z1,z2,z3,z4,u0,u1,u2,u3,u4]) rfl ?_
  unfold DoR
  refine ⟨_,_,_,noAns,T5,by rw [HR.out];exact congrArg (fun x=>Ending.returned (.tuple #[AnsV (.slice none 0 0) noAns,x])) HF.out.symm,fun q=>?_,?_⟩
  ·rw [HR.out] at q ⊢
   exact absurd q HNZ.out
  ·rw [HR.out]
   (repeat' (first | exact hD5 | refine DKto.set ?_ ?_ ?_ _ | exact hR5.out)) <;> simp
 obtain rfl:f=0:=Decidable.not_not.1 hf
 rw [show faultV 0=.nilIface from rfl]
 clear hf
 cases b with
 | true =>
  have HR:=Hd (show g.do2 id ⟨2,nm,pa,pn,ln,ad,ow⟩=(noAns,6,g1) from HV.out)
  clear HV
  obtain ⟨y0,y1,y2,y3,y4,y5,y6,y7,y8⟩:=hX5.blk.cls9
  obtain ⟨z0,z1,z2,z3,z4⟩:=hR5.blk.cls5
  obtain ⟨u0,u1,u2,u3,u4⟩:=hR5.blk.frs5
  obtain ⟨x0,x1,x2,x3,x4,x5,x6⟩:=hC5.blk.cls7
  simp at y0 y1 y2 y3 y4 y5 y6 y7 y8 z0 z1 z2 z3 z4 x0 x1 x2 x3 x4 x5 x6
  go_wp2
  refine bodyPost_ret (v:=.tuple #[AnsV (.slice none 0 0) noAns,.iface 71 (.int .i64 6)]) (by simp [AnsV,noAns,results,Tryz.results46,go_sem,z0,z1,z2,z3,z4,u0,u1,u2,u3,u4]) rfl ?_
  unfold DoR
  refine ⟨_,_,_,noAns,T5,by rw [HR.out];exact rfl,fun q=>?_,?_⟩
  ·rw [HR.out] at q ⊢
   exact absurd q (by simp)
  ·rw [HR.out]
   (repeat' (first | exact hD5 | refine DKto.set ?_ ?_ ?_ _ | exact hR5.out)) <;> simp
 | false =>
  have HR:=Hd (show g.do2 id ⟨2,nm,pa,pn,ln,ad,ow⟩=g1.chg id ⟨key,ow,false⟩ noAns from HV.out)
  clear HV
  have HPU:=Hd (fun W T' (q:DK B W T' d g1 k)=>q.put hid key ow HKL.out HOL.out)
  have HEQ:=Hd (show g1.chg id ⟨key,ow,false⟩ noAns=(noAns,(g1.change id ⟨key,ow,false⟩).1,(g1.change id ⟨key,ow,false⟩).2) by unfold Dk.chg;simp)
  generalize g1.change id ⟨key,ow,false⟩=r3 at *
  obtain ⟨y0,y1,y2,y3,y4,y5,y6,y7,y8⟩:=hX5.blk.cls9
  obtain ⟨z0,z1,z2,z3,z4⟩:=hR5.blk.cls5
  obtain ⟨u0,u1,u2,u3,u4⟩:=hR5.blk.frs5
  obtain ⟨x0,x1,x2,x3,x4,x5,x6⟩:=hC5.blk.cls7
  simp at y0 y1 y2 y3 y4 y5 y6 y7 y8 z0 z1 z2 z3 z4 x0 x1 x2 x3 x4 x5 x6
  go_upto_region 9 with fail
  clear y0 y1 y2 y3 y4 y5 y6 y7 y8 z0 z1 z2 z3 z4 u0 u1 u2 u3 u4 x0 x1 x2 x3 x4 x5 x6
  have hXd:Blk w5.drew w.heap.size 120 #[ptrV d,intV id,.int .i64 2,txt nm,.int .i64 pa,.int .i64 pn,.int .i64 ln,.int .i64 ad,txt ow]:=hX5.blk
  have hCd:Blk w5.drew (w.heap.size+2) 33 #[.int .i64 2,txt nm,.int .i64 pa,.int .i64 pn,.int .i64 ln,.int .i64 ad,txt ow]:=hC5.blk
  have hwn:w.heap.size≠w.heap.size+1:=by omega
  have hcn:w.heap.size+2≠w.heap.size+1:=by omega
  go_region_held3 (fun W=>W.cell? ⟨w.heap.size,0,none⟩=some (ptrV d)∧W.cell? ⟨w.heap.size,1,none⟩=some (intV id)∧W.cell? ⟨w.heap.size,2,none⟩=some (.int .i64 2)∧W.cell? ⟨w.heap.size,3,none⟩=some (txt nm)∧W.cell? ⟨w.heap.size,4,none⟩=some (.int .i64 pa)∧W.cell? ⟨w.heap.size,5,none⟩=some (.int .i64 pn)∧W.cell? ⟨w.heap.size,6,none⟩=some (.int .i64 ln)∧W.cell? ⟨w.heap.size,7,none⟩=some (.int .i64 ad)∧W.cell? ⟨w.heap.size,8,none⟩=some (txt ow)∧W.cell? ⟨w.heap.size+2,0,none⟩=some (.int .i64 2)∧W.cell? ⟨w.heap.size+2,1,none⟩=some (txt nm)∧W.cell? ⟨w.heap.size+2,2,none⟩=some (.int .i64 pa)∧W.cell? ⟨w.heap.size+2,3,none⟩=some (.int .i64 pn)∧W.cell? ⟨w.heap.size+2,4,none⟩=some (.int .i64 ln)∧W.cell? ⟨w.heap.size+2,5,none⟩=some (.int .i64 ad)∧W.cell? ⟨w.heap.size+2,6,none⟩=some (txt ow))
   (first
    | with_reducible exact hks _ hXd hCd
    | with_reducible exact hks _ hX6.blk hC6.blk
    | with_reducible exact hks _ hX7.blk hC7.blk
    | with_reducible exact hks _ (hX7.blk.far5 hwn _ _ _ _ _) (hC7.blk.far5 hcn _ _ _ _ _))
   ((first
    | (go_at_call 69;refine (HPK.out _ hD5.drew.dk.le hD5.drew.dk.gv).mono ?_;rintro e w6 ⟨rfl,hb6⟩;have hD6:=hD5.drew.bel hb6;have hX6:=hX5.bel (w2:=w6) ⟨hb6.os,hb6.tape,hb6.output,hb6.size,hb6.block⟩;have hR6:=hR5.bel (w2:=w6) ⟨hb6.os,hb6.tape,hb6.output,hb6.size,hb6.block⟩;have hC6:=hC5.bel (w2:=w6) ⟨hb6.os,hb6.tape,hb6.output,hb6.size,hb6.block⟩)
    | (go_at_call 45;refine (HPU.out _ _ hD6.dk).mono ?_;rintro e w7 ⟨rfl,T7,hD67⟩;have hD7:=hD6.step hD67;have hX7:=hX6.step hD67;have hR7:=hR6.step hD67;have hC7:=hC6.step hD67;have y0:=hX7.blk.cell 0;have y1:=hX7.blk.cell 1;have y2:=hX7.blk.cell 2;have y3:=hX7.blk.cell 3;have y4:=hX7.blk.cell 4;have y5:=hX7.blk.cell 5;have y6:=hX7.blk.cell 6;have y7:=hX7.blk.cell 7;have y8:=hX7.blk.cell 8; have z0:=hR7.blk.cell 0;have z1:=hR7.blk.cell 1;have z2:=hR7.blk.cell 2;have z3:=hR7.blk.cell 3;have z4:=hR7.blk.cell 4; have u0:=hR7.blk.frozen 0;have u1:=hR7.blk.frozen 1;have u2:=hR7.blk.frozen 2;have u3:=hR7.blk.frozen 3;have u4:=hR7.blk.frozen 4; have x0:=hC7.blk.cell 0;have x1:=hC7.blk.cell 1;have x2:=hC7.blk.cell 2;have x3:=hC7.blk.cell 3;have x4:=hC7.blk.cell 4;have x5:=hC7.blk.cell 5;have x6:=hC7.blk.cell 6; simp at y0 y1 y2 y3 y4 y5 y6 y7 y8 z0 z1 z2 z3 z4 x0 x1 x2 x3 x4 x5 x6)))
  clear hD5 hX5 hR5 hC5 hD6 hX6 hR6 hC6 hD67 hb6 hXd hCd
  go_wp2
  refine bodyPost_ret (v:=.tuple #[AnsV (.slice none 0 0) noAns,faultV r3.1]) (by simp [AnsV,noAns,results,Tryz.results46,go_sem,z0,z1,z2,z3,z4,u0,u1,u2,u3,u4]) rfl ?_
  unfold DoR
  refine ⟨_,_,_,noAns,T7,by rw [HR.out,HEQ.out],fun q=>?_,?_⟩
  ·rw [HR.out,HEQ.out] at q ⊢
   exact ⟨rfl,OwnP.nil _ _ _,own_none⟩
  ·rw [HR.out,HEQ.out]
   (repeat' (first | exact hD7 | refine DKto.set ?_ ?_ ?_ _ | exact hR7.out)) <;> simp
theorem DK.do_5 (h:DK B w T d g k) (hk:k≤40000) (hid:(Lit.int .i64 id).wf=true) (nm ow:List UInt8) (pa pn ln ad:Int) (hc:CallOk ⟨5,nm,pa,pn,ln,ad,ow⟩) (hn:nameB nm=true) (ha:isA ad=true) :
  Calls Tryz.prog 46 #[workV d id ⟨5,nm,pa,pn,ln,ad,ow⟩] w (DoR B w T d k (g.do2 id ⟨5,nm,pa,pn,ln,ad,ow⟩)):=by
 have hD1:=h.refl.alloc (.cells #[ptrV d,intV id,.int .i64 5,txt nm,.int .i64 pa,.int .i64 pn,.int .i64 ln,.int .i64 ad,txt ow] 120)
 have hX1:=Loc.new h 120 #[ptrV d,intV id,.int .i64 5,txt nm,.int .i64 pa,.int .i64 pn,.int .i64 ln,.int .i64 ad,txt ow]
 have hD2:=hD1.alloc (.cells #[.int .i64 0,.int .i64 0,.int .i64 0,.string { data:=#[] },.slice none 0 0] 46)
 have hX2:=hX1.alloc (.cells #[.int .i64 0,.int .i64 0,.int .i64 0,.string { data:=#[] },.slice none 0 0] 46)
 have hR2:=Loc.new hD1.dk 46 #[.int .i64 0,.int .i64 0,.int .i64 0,.string { data:=#[] },.slice none 0 0]
 have hD3:=hD2.alloc (.cells #[.int .i64 5,txt nm,.int .i64 pa,.int .i64 pn,.int .i64 ln,.int .i64 ad,txt ow] 33)
 have hX3:=hX2.alloc (.cells #[.int .i64 5,txt nm,.int .i64 pa,.int .i64 pn,.int .i64 ln,.int .i64 ad,txt ow] 33)
 have hC3:=Loc.new hD2.dk 33 #[.int .i64 5,txt nm,.int .i64 pa,.int .i64 pn,.int .i64 ln,.int .i64 ad,txt ow]
 have hR3:=hR2.alloc (.cells #[.int .i64 5,txt nm,.int .i64 pa,.int .i64 pn,.int .i64 ln,.int .i64 ad,txt ow] 33)
 rw [World.size_alloc] at hR3
 rw [World.size_alloc,World.size_alloc] at hC3
 have e2:=hX1.blk.cell 2
 have e3:=hX1.blk.cell 3
 have e4:=hX1.blk.cell 4
 have e5:=hX1.blk.cell 5
 have e6:=hX1.blk.cell 6
 have e7:=hX1.blk.cell 7
 have e8:=hX1.blk.cell 8
 simp at e2 e3 e4 e5 e6 e7 e8
 unfold workV
 dsimp only
 go_enter Tryz.func46,Tryz.ntmps46
 go_upto_region 2 with fail
 refine wp_name (fun w3 HW=>?_)
 rw [← HW.out] at hD3 hX3 hR3 hC3
 clear HW hD1 hD2 hX1 hX2 hR2 e2 e3 e4 e5 e6 e7 e8
 have HN:=Hd hn
 have HA:=Hd ha
 have HPK:=Hd (fun (W:World) (hB:B≤W.heap.size) hV=>ak_any nm HN.out ad HA.out (B:=B) W hB hV)
 have HHAS:=Hd (fun W T' (q:DK B W T' d g k)=>q.has hk hid ⟨5,nm,pa,pn,ln,ad,ow⟩ (akOf nm ad) (by have:=ak_len (c:=⟨5,nm,pa,pn,ln,ad,ow⟩) HN.out ad;unfold maxLen;simp only at this;omega))
 have HKL:=Hd (show (akOf nm ad).length≤maxLen by have:=ak_len (c:=⟨5,nm,pa,pn,ln,ad,ow⟩) HN.out ad;unfold maxLen;simp only at this;omega)
 have HV:=Hd (show g.do2 id ⟨5,nm,pa,pn,ln,ad,ow⟩=if (g.has id (akOf nm ad)).2.1≠0 then (noAns,(g.has id (akOf nm ad)).2.1,(g.has id (akOf nm ad)).2.2) else if (g.has id (akOf nm ad)).1=false then (noAns,4,(g.has id (akOf nm ad)).2.2) else (g.has id (akOf nm ad)).2.2.chg id ⟨akOf nm ad,[],true⟩ noAns from rfl)
 unfold workV at HHAS
 dsimp only at HPK HHAS
 generalize g.has id (akOf nm ad)=rh at *
 generalize akOf nm ad=key at *
 clear hn ha hc
 have hks:∀ W:World,Blk W w.heap.size 120 #[ptrV d,intV id,.int .i64 5,txt nm,.int .i64 pa,.int .i64 pn,.int .i64 ln,.int .i64 ad,txt ow]→Blk W (w.heap.size+2) 33 #[.int .i64 5,txt nm,.int .i64 pa,.int .i64 pn,.int .i64 ln,.int .i64 ad,txt ow]→W.cell? ⟨w.heap.size,0,none⟩=some (ptrV d)∧W.cell? ⟨w.heap.size,1,none⟩=some (intV id)∧W.cell? ⟨w.heap.size,2,none⟩=some (.int .i64 5)∧W.cell? ⟨w.heap.size,3,none⟩=some (txt nm)∧W.cell? ⟨w.heap.size,4,none⟩=some (.int .i64 pa)∧W.cell? ⟨w.heap.size,5,none⟩=some (.int .i64 pn)∧W.cell? ⟨w.heap.size,6,none⟩=some (.int .i64 ln)∧W.cell? ⟨w.heap.size,7,none⟩=some (.int .i64 ad)∧W.cell? ⟨w.heap.size,8,none⟩=some (txt ow)∧W.cell? ⟨w.heap.size+2,0,none⟩=some (.int .i64 5)∧W.cell? ⟨w.heap.size+2,1,none⟩=some (txt nm)∧W.cell? ⟨w.heap.size+2,2,none⟩=some (.int .i64 pa)∧W.cell? ⟨w.heap.size+2,3,none⟩=some (.int .i64 pn)∧W.cell? ⟨w.heap.size+2,4,none⟩=some (.int .i64 ln)∧W.cell? ⟨w.heap.size+2,5,none⟩=some (.int .i64 ad)∧W.cell? ⟨w.heap.size+2,6,none⟩=some (txt ow):=fun W a b=>⟨a.cell 0,a.cell 1,a.cell 2,a.cell 3,a.cell 4,a.cell 5,a.cell 6,a.cell 7,a.cell 8,b.cell 0,b.cell 1,b.cell 2,b.cell 3,b.cell 4,b.cell 5,b.cell 6⟩
 obtain ⟨y0,y1,y2,y3,y4,y5,y6,y7,y8⟩:=hX3.blk.cls9
 obtain ⟨z0,z1,z2,z3,z4⟩:=hR3.blk.cls5
 obtain ⟨u0,u1,u2,u3,u4⟩:=hR3.blk.frs5
 obtain ⟨x0,x1,x2,x3,x4,x5,x6⟩:=hC3.blk.cls7
 simp at y0 y1 y2 y3 y4 y5 y6 y7 y8 z0 z1 z2 z3 z4 x0 x1 x2 x3 x4 x5 x6
 go_upto_region 25 with fail
 clear y0 y1 y2 y3 y4 y5 y6 y7 y8 z0 z1 z2 z3 z4 u0 u1 u2 u3 u4 x0 x1 x2 x3 x4 x5 x6
 have hXd:Blk w3.drew w.heap.size 120 #[ptrV d,intV id,.int .i64 5,txt nm,.int .i64 pa,.int .i64 pn,.int .i64 ln,.int .i64 ad,txt ow]:=hX3.blk
 have hCd:Blk w3.drew (w.heap.size+2) 33 #[.int .i64 5,txt nm,.int .i64 pa,.int .i64 pn,.int .i64 ln,.int .i64 ad,txt ow]:=hC3.blk
 go_region_held3 (fun W=>W.cell? ⟨w.heap.size,0,none⟩=some (ptrV d)∧W.cell? ⟨w.heap.size,1,none⟩=some (intV id)∧W.cell? ⟨w.heap.size,2,none⟩=some (.int .i64 5)∧W.cell? ⟨w.heap.size,3,none⟩=some (txt nm)∧W.cell? ⟨w.heap.size,4,none⟩=some (.int .i64 pa)∧W.cell? ⟨w.heap.size,5,none⟩=some (.int .i64 pn)∧W.cell? ⟨w.heap.size,6,none⟩=some (.int .i64 ln)∧W.cell? ⟨w.heap.size,7,none⟩=some (.int .i64 ad)∧W.cell? ⟨w.heap.size,8,none⟩=some (txt ow)∧W.cell? ⟨w.heap.size+2,0,none⟩=some (.int .i64 5)∧W.cell? ⟨w.heap.size+2,1,none⟩=some (txt nm)∧W.cell? ⟨w.heap.size+2,2,none⟩=some (.int .i64 pa)∧W.cell? ⟨w.heap.size+2,3,none⟩=some (.int .i64 pn)∧W.cell? ⟨w.heap.size+2,4,none⟩=some (.int .i64 ln)∧W.cell? ⟨w.heap.size+2,5,none⟩=some (.int .i64 ad)∧W.cell? ⟨w.heap.size+2,6,none⟩=some (txt ow))
  (first
   | with_reducible exact hks _ hXd hCd
   | with_reducible exact hks _ hX4.blk hC4.blk
   | with_reducible exact hks _ hX5.blk hC5.blk)
  ((first
   | (go_at_call 72;refine (HPK.out _ hD3.drew.dk.le hD3.drew.dk.gv).mono ?_;rintro e w4 ⟨rfl,hb4⟩;have hD4:=hD3.drew.bel hb4;have hX4:=hX3.bel (w2:=w4) ⟨hb4.os,hb4.tape,hb4.output,hb4.size,hb4.block⟩;have hR4:=hR3.bel (w2:=w4) ⟨hb4.os,hb4.tape,hb4.output,hb4.size,hb4.block⟩;have hC4:=hC3.bel (w2:=w4) ⟨hb4.os,hb4.tape,hb4.output,hb4.size,hb4.block⟩)
   | (go_at_call 43;refine (HHAS.out _ _ hD4.dk).mono ?_;rintro e w5 ⟨rfl,T5,hD45⟩;have hD5:=hD4.step hD45;have hX5:=hX4.step hD45;have hR5:=hR4.step hD45;have hC5:=hC4.step hD45)))
 clear hD3 hX3 hR3 hC3 hD4 hX4 hR4 hC4 hD45 hb4 hXd hCd
 obtain ⟨b,f,g1⟩:=rh
 dsimp only at HV hD5
 by_cases hf:f≠0
 ·have HR:=Hd (show g.do2 id ⟨5,nm,pa,pn,ln,ad,ow⟩=(noAns,f,g1) by rw [HV.out,if_pos hf])
  have HF:=Hd (fault_num hf)
  have HNZ:=Hd hf
  rw [HF.out]
  clear hf HV
  obtain ⟨y0,y1,y2,y3,y4,y5,y6,y7,y8⟩:=hX5.blk.cls9
  obtain ⟨z0,z1,z2,z3,z4⟩:=hR5.blk.cls5
  obtain ⟨u0,u1,u2,u3,u4⟩:=hR5.blk.frs5
  obtain ⟨x0,x1,x2,x3,x4,x5,x6⟩:=hC5.blk.cls7
  simp at y0 y1 y2 y3 y4 y5 y6 y7 y8 z0 z1 z2 z3 z4 x0 x1 x2 x3 x4 x5 x6
  go_wp2
  refine bodyPost_ret (v:=.tuple #[AnsV (.slice none 0 0) noAns,.iface 71 (.int .i64 f)]) (by simp [AnsV,noAns,results,Tryz.results46,go_sem,z0,z1,z2,z3,z4,u0,u1,u2,u3,u4]) rfl ?_
  unfold DoR
  refine ⟨_,_,_,noAns,T5,by rw [HR.out];exact congrArg (fun x=>Ending.returned (.tuple #[AnsV (.slice none 0 0) noAns,x])) HF.out.symm,fun q=>?_,?_⟩
  ·rw [HR.out] at q ⊢
   exact absurd q HNZ.out
  ·rw [HR.out]
   (repeat' (first | exact hD5 | refine DKto.set ?_ ?_ ?_ _ | exact hR5.out)) <;> simp
 obtain rfl:f=0:=Decidable.not_not.1 hf
 rw [show faultV 0=.nilIface from rfl]
 clear hf
 cases b with
 | false =>
  have HR:=Hd (show g.do2 id ⟨5,nm,pa,pn,ln,ad,ow⟩=(noAns,4,g1) from HV.out)
  clear HV
  obtain ⟨y0,y1,y2,y3,y4,y5,y6,y7,y8⟩:=hX5.blk.cls9
  obtain ⟨z0,z1,z2,z3,z4⟩:=hR5.blk.cls5
  obtain ⟨u0,u1,u2,u3,u4⟩:=hR5.blk.frs5
  obtain ⟨x0,x1,x2,x3,x4,x5,x6⟩:=hC5.blk.cls7
  simp at y0 y1 y2 y3 y4 y5 y6 y7 y8 z0 z1 z2 z3 z4 x0 x1 x2 x3 x4 x5 x6
  go_wp2
  refine bodyPost_ret (v:=.tuple #[AnsV (.slice none 0 0) noAns,.iface 71 (.int .i64 4)]) (by simp [AnsV,noAns,results,Tryz.results46,go_sem,z0,z1,z2,z3,z4,u0,u1,u2,u3,u4]) rfl ?_
  unfold DoR
  refine ⟨_,_,_,noAns,T5,by rw [HR.out];exact rfl,fun q=>?_,?_⟩
  ·rw [HR.out] at q ⊢
   exact absurd q (by simp)
  ·rw [HR.out]
   (repeat' (first | exact hD5 | refine DKto.set ?_ ?_ ?_ _ | exact hR5.out)) <;> simp
 | true =>
  have HR:=Hd (show g.do2 id ⟨5,nm,pa,pn,ln,ad,ow⟩=g1.chg id ⟨key,[],true⟩ noAns from HV.out)
  clear HV
  have HPU:=Hd (fun W T' (q:DK B W T' d g1 k)=>q.drop hid key HKL.out)
  have HEQ:=Hd (show g1.chg id ⟨key,[],true⟩ noAns=(noAns,(g1.change id ⟨key,[],true⟩).1,(g1.change id ⟨key,[],true⟩).2) by unfold Dk.chg;simp)
  generalize g1.change id ⟨key,[],true⟩=r3 at *
  obtain ⟨y0,y1,y2,y3,y4,y5,y6,y7,y8⟩:=hX5.blk.cls9
  obtain ⟨z0,z1,z2,z3,z4⟩:=hR5.blk.cls5
  obtain ⟨u0,u1,u2,u3,u4⟩:=hR5.blk.frs5
  obtain ⟨x0,x1,x2,x3,x4,x5,x6⟩:=hC5.blk.cls7
  simp at y0 y1 y2 y3 y4 y5 y6 y7 y8 z0 z1 z2 z3 z4 x0 x1 x2 x3 x4 x5 x6
  go_upto_region 30 with fail
  clear y0 y1 y2 y3 y4 y5 y6 y7 y8 z0 z1 z2 z3 z4 u0 u1 u2 u3 u4 x0 x1 x2 x3 x4 x5 x6
  have hXd:Blk w5.drew w.heap.size 120 #[ptrV d,intV id,.int .i64 5,txt nm,.int .i64 pa,.int .i64 pn,.int .i64 ln,.int .i64 ad,txt ow]:=hX5.blk
  have hCd:Blk w5.drew (w.heap.size+2) 33 #[.int .i64 5,txt nm,.int .i64 pa,.int .i64 pn,.int .i64 ln,.int .i64 ad,txt ow]:=hC5.blk
  have hwn:w.heap.size≠w.heap.size+1:=by omega
  have hcn:w.heap.size+2≠w.heap.size+1:=by omega
  go_region_held3 (fun W=>W.cell? ⟨w.heap.size,0,none⟩=some (ptrV d)∧W.cell? ⟨w.heap.size,1,none⟩=some (intV id)∧W.cell? ⟨w.heap.size,2,none⟩=some (.int .i64 5)∧W.cell? ⟨w.heap.size,3,none⟩=some (txt nm)∧W.cell? ⟨w.heap.size,4,none⟩=some (.int .i64 pa)∧W.cell? ⟨w.heap.size,5,none⟩=some (.int .i64 pn)∧W.cell? ⟨w.heap.size,6,none⟩=some (.int .i64 ln)∧W.cell? ⟨w.heap.size,7,none⟩=some (.int .i64 ad)∧W.cell? ⟨w.heap.size,8,none⟩=some (txt ow)∧W.cell? ⟨w.heap.size+2,0,none⟩=some (.int .i64 5)∧W.cell? ⟨w.heap.size+2,1,none⟩=some (txt nm)∧W.cell? ⟨w.heap.size+2,2,none⟩=some (.int .i64 pa)∧W.cell? ⟨w.heap.size+2,3,none⟩=some (.int .i64 pn)∧W.cell? ⟨w.heap.size+2,4,none⟩=some (.int .i64 ln)∧W.cell? ⟨w.heap.size+2,5,none⟩=some (.int .i64 ad)∧W.cell? ⟨w.heap.size+2,6,none⟩=some (txt ow))
   (first
    | with_reducible exact hks _ hXd hCd
    | with_reducible exact hks _ hX6.blk hC6.blk
    | with_reducible exact hks _ hX7.blk hC7.blk
    | with_reducible exact hks _ (hX7.blk.far5 hwn _ _ _ _ _) (hC7.blk.far5 hcn _ _ _ _ _))
   ((first
    | (go_at_call 72;refine (HPK.out _ hD5.drew.dk.le hD5.drew.dk.gv).mono ?_;rintro e w6 ⟨rfl,hb6⟩;have hD6:=hD5.drew.bel hb6;have hX6:=hX5.bel (w2:=w6) ⟨hb6.os,hb6.tape,hb6.output,hb6.size,hb6.block⟩;have hR6:=hR5.bel (w2:=w6) ⟨hb6.os,hb6.tape,hb6.output,hb6.size,hb6.block⟩;have hC6:=hC5.bel (w2:=w6) ⟨hb6.os,hb6.tape,hb6.output,hb6.size,hb6.block⟩)
    | (go_at_call 74;refine (HPU.out _ _ hD6.dk).mono ?_;rintro e w7 ⟨rfl,T7,hD67⟩;have hD7:=hD6.step hD67;have hX7:=hX6.step hD67;have hR7:=hR6.step hD67;have hC7:=hC6.step hD67;have y0:=hX7.blk.cell 0;have y1:=hX7.blk.cell 1;have y2:=hX7.blk.cell 2;have y3:=hX7.blk.cell 3;have y4:=hX7.blk.cell 4;have y5:=hX7.blk.cell 5;have y6:=hX7.blk.cell 6;have y7:=hX7.blk.cell 7;have y8:=hX7.blk.cell 8; have z0:=hR7.blk.cell 0;have z1:=hR7.blk.cell 1;have z2:=hR7.blk.cell 2;have z3:=hR7.blk.cell 3;have z4:=hR7.blk.cell 4; have u0:=hR7.blk.frozen 0;have u1:=hR7.blk.frozen 1;have u2:=hR7.blk.frozen 2;have u3:=hR7.blk.frozen 3;have u4:=hR7.blk.frozen 4; have x0:=hC7.blk.cell 0;have x1:=hC7.blk.cell 1;have x2:=hC7.blk.cell 2;have x3:=hC7.blk.cell 3;have x4:=hC7.blk.cell 4;have x5:=hC7.blk.cell 5;have x6:=hC7.blk.cell 6; simp at y0 y1 y2 y3 y4 y5 y6 y7 y8 z0 z1 z2 z3 z4 x0 x1 x2 x3 x4 x5 x6)))
  clear hD5 hX5 hR5 hC5 hD6 hX6 hR6 hC6 hD67 hb6 hXd hCd
  go_wp2
  refine bodyPost_ret (v:=.tuple #[AnsV (.slice none 0 0) noAns,faultV r3.1]) (by simp [AnsV,noAns,results,Tryz.results46,go_sem,z0,z1,z2,z3,z4,u0,u1,u2,u3,u4]) rfl ?_
  unfold DoR
  refine ⟨_,_,_,noAns,T7,by rw [HR.out,HEQ.out],fun q=>?_,?_⟩
  ·rw [HR.out,HEQ.out] at q ⊢
   exact ⟨rfl,OwnP.nil _ _ _,own_none⟩
  ·rw [HR.out,HEQ.out]
   (repeat' (first | exact hD7 | refine DKto.set ?_ ?_ ?_ _ | exact hR7.out)) <;> simp
end
section
variable {B : Nat} {w : World} {T : Nat → Prop} {d : Nat} {g : Dk} {id : Int} {k : Nat}
theorem DK.do_8 (h:DK B w T d g k) (hk:k≤40000) (hid:(Lit.int .i64 id).wf=true) (nm ow:List UInt8) (pa pn ln ad:Int) (hc:CallOk ⟨8,nm,pa,pn,ln,ad,ow⟩) (hn:nameB nm=true) :
  Calls Tryz.prog 46 #[workV d id ⟨8,nm,pa,pn,ln,ad,ow⟩] w (DoR B w T d k (g.do2 id ⟨8,nm,pa,pn,ln,ad,ow⟩)):=by
 have hD1:=h.refl.alloc (.cells #[ptrV d,intV id,.int .i64 8,txt nm,.int .i64 pa,.int .i64 pn,.int .i64 ln,.int .i64 ad,txt ow] 120)
 have hX1:=Loc.new h 120 #[ptrV d,intV id,.int .i64 8,txt nm,.int .i64 pa,.int .i64 pn,.int .i64 ln,.int .i64 ad,txt ow]
 have hD2:=hD1.alloc (.cells #[.int .i64 0,.int .i64 0,.int .i64 0,.string { data:=#[] },.slice none 0 0] 46)
 have hX2:=hX1.alloc (.cells #[.int .i64 0,.int .i64 0,.int .i64 0,.string { data:=#[] },.slice none 0 0] 46)
 have hR2:=Loc.new hD1.dk 46 #[.int .i64 0,.int .i64 0,.int .i64 0,.string { data:=#[] },.slice none 0 0]
 have hD3:=hD2.alloc (.cells #[.int .i64 8,txt nm,.int .i64 pa,.int .i64 pn,.int .i64 ln,.int .i64 ad,txt ow] 33)
 have hX3:=hX2.alloc (.cells #[.int .i64 8,txt nm,.int .i64 pa,.int .i64 pn,.int .i64 ln,.int .i64 ad,txt ow] 33)
 have hC3:=Loc.new hD2.dk 33 #[.int .i64 8,txt nm,.int .i64 pa,.int .i64 pn,.int .i64 ln,.int .i64 ad,txt ow]
 have hR3:=hR2.alloc (.cells #[.int .i64 8,txt nm,.int .i64 pa,.int .i64 pn,.int .i64 ln,.int .i64 ad,txt ow] 33)
 rw [World.size_alloc] at hR3
 rw [World.size_alloc,World.size_alloc] at hC3
 have e2:=hX1.blk.cell 2
 have e3:=hX1.blk.cell 3
 have e4:=hX1.blk.cell 4
 have e5:=hX1.blk.cell 5
 have e6:=hX1.blk.cell 6
 have e7:=hX1.blk.cell 7
 have e8:=hX1.blk.cell 8
 simp at e2 e3 e4 e5 e6 e7 e8
 unfold workV
 dsimp only
 go_enter Tryz.func46,Tryz.ntmps46
 go_upto_region 2 with fail
 refine wp_name (fun w3 HW=>?_)
 rw [← HW.out] at hD3 hX3 hR3 hC3
 clear HW hD1 hD2 hX1 hX2 hR2 e2 e3 e4 e5 e6 e7 e8
 have HPFX:=Hd (hD3.dk.prefixes hk hid ⟨8,nm,pa,pn,ln,ad,ow⟩ hc)
 have hTs:=h.lt
 have hT3:=hD3.dk.lt
 unfold workV at HPFX
 dsimp only at HPFX
 have HV:=Hd (show g.do2 id ⟨8,nm,pa,pn,ln,ad,ow⟩=(⟨0,0,0,[],g.pfxsL id nm⟩,g.pfxsE id nm,(g.allF id 112 nm).2) from rfl)
 obtain ⟨y0,y1,y2,y3,y4,y5,y6,y7,y8⟩:=hX3.blk.cls9
 obtain ⟨z0,z1,z2,z3,z4⟩:=hR3.blk.cls5
 obtain ⟨u0,u1,u2,u3,u4⟩:=hR3.blk.frs5
 obtain ⟨x0,x1,x2,x3,x4,x5,x6⟩:=hC3.blk.cls7
 simp at y0 y1 y2 y3 y4 y5 y6 y7 y8 z0 z1 z2 z3 z4 x0 x1 x2 x3 x4 x5 x6
 go_wp2_with fail
 refine HPFX.out.mono ?_
 rintro e w4 ⟨v,rfl,hown,hlen,hS⟩
 have hD4:=hD3.step hS
 have hX4:=hX3.step hS
 have hR4:=hR3.step hS
 have hC4:=hC3.step hS
 have hnb:v.ownBlock≠some (w.heap.size+1):=fun q=>by
  have h1:=(World.ownsRow.lt hown _ q).1
  have h2:=hR3.blk.lt
  omega
 obtain ⟨A4,c4,rfl,_⟩:=hown.form
 have HOW:=Hd hown
 have HNB:=Hd hnb
 have HNT:=Hd (show ∀ q,(Value.slice A4 (g.pfxsL id nm).length c4).ownBlock=some q→¬ T q from row_out hown hT3)
 have HSZ:=Hd (show w.heap.size≤w3.heap.size from hD3.size)
 clear hD3 hX3 hR3 hC3 hS HPFX hown hnb y0 y1 y2 y3 y4 y5 y6 y7 y8 z0 z1 z2 z3 z4 u0 u1 u2 u3 u4 x0 x1 x2 x3 x4 x5 x6
 obtain ⟨y0,y1,y2,y3,y4,y5,y6,y7,y8⟩:=hX4.blk.cls9
 obtain ⟨z0,z1,z2,z3,z4⟩:=hR4.blk.cls5
 obtain ⟨u0,u1,u2,u3,u4⟩:=hR4.blk.frs5
 obtain ⟨x0,x1,x2,x3,x4,x5,x6⟩:=hC4.blk.cls7
 simp at y0 y1 y2 y3 y4 y5 y6 y7 y8 z0 z1 z2 z3 z4 x0 x1 x2 x3 x4 x5 x6
 go_wp2
 refine bodyPost_ret (v:=.tuple #[AnsV (.slice A4 (g.pfxsL id nm).length c4) noAns,faultV (g.pfxsE id nm)]) (by simp [AnsV,noAns,results,Tryz.results46,go_sem,z0,z1,z2,z3,z4,u0,u1,u2,u3,u4]) rfl ?_
 unfold DoR
 refine ⟨_,_,_,⟨0,0,0,[],g.pfxsL id nm⟩,T,by rw [HV.out];rfl,fun q=>?_,?_⟩
 ·rw [HV.out]
  exact ⟨rfl,own_fr (S:=fun q=>q=w.heap.size+1) (own_of_base HOW.out HSZ.out) (Fr.setCell (Fr.setCell (Fr.setCell (Fr.setCell (Fr.setCell (Fr.refl (fun q=>q=w.heap.size+1) w4) (p:=⟨w.heap.size+1,0,none⟩) (fun _=>rfl) _) (p:=⟨w.heap.size+1,1,none⟩) (fun _=>rfl) _) (p:=⟨w.heap.size+1,2,none⟩) (fun _=>rfl) _) (p:=⟨w.heap.size+1,3,none⟩) (fun _=>rfl) _) (p:=⟨w.heap.size+1,4,none⟩) (fun _=>rfl) _) (fun g e1 e2=>HNB.out (by rw [← e2];exact e1)),HNT.out⟩
 ·rw [HV.out]
  (repeat' (first | exact hD4 | refine DKto.set ?_ ?_ ?_ _ | exact hR4.out)) <;> simp
end
section
variable {B : Nat} {w : World} {T : Nat → Prop} {d : Nat} {g : Dk} {id : Int} {k : Nat}
theorem DK.do_4 (h:DK B w T d g k) (hk:k≤40000) (hid:(Lit.int .i64 id).wf=true) (nm ow:List UInt8) (pa pn ln ad:Int) (hc:CallOk ⟨4,nm,pa,pn,ln,ad,ow⟩) (hn:nameB nm=true) (ho:nameB ow=true) (ha:isA ad=true) :
  Calls Tryz.prog 46 #[workV d id ⟨4,nm,pa,pn,ln,ad,ow⟩] w (DoR B w T d k (g.do2 id ⟨4,nm,pa,pn,ln,ad,ow⟩)):=by
 have hD1:=h.refl.alloc (.cells #[ptrV d,intV id,.int .i64 4,txt nm,.int .i64 pa,.int .i64 pn,.int .i64 ln,.int .i64 ad,txt ow] 120)
 have hX1:=Loc.new h 120 #[ptrV d,intV id,.int .i64 4,txt nm,.int .i64 pa,.int .i64 pn,.int .i64 ln,.int .i64 ad,txt ow]
 have hD2:=hD1.alloc (.cells #[.int .i64 0,.int .i64 0,.int .i64 0,.string { data:=#[] },.slice none 0 0] 46)
 have hX2:=hX1.alloc (.cells #[.int .i64 0,.int .i64 0,.int .i64 0,.string { data:=#[] },.slice none 0 0] 46)
 have hR2:=Loc.new hD1.dk 46 #[.int .i64 0,.int .i64 0,.int .i64 0,.string { data:=#[] },.slice none 0 0]
 have hD3:=hD2.alloc (.cells #[.int .i64 4,txt nm,.int .i64 pa,.int .i64 pn,.int .i64 ln,.int .i64 ad,txt ow] 33)
 have hX3:=hX2.alloc (.cells #[.int .i64 4,txt nm,.int .i64 pa,.int .i64 pn,.int .i64 ln,.int .i64 ad,txt ow] 33)
 have hC3:=Loc.new hD2.dk 33 #[.int .i64 4,txt nm,.int .i64 pa,.int .i64 pn,.int .i64 ln,.int .i64 ad,txt ow]
 have hR3:=hR2.alloc (.cells #[.int .i64 4,txt nm,.int .i64 pa,.int .i64 pn,.int .i64 ln,.int .i64 ad,txt ow] 33)
 rw [World.size_alloc] at hR3
 rw [World.size_alloc,World.size_alloc] at hC3
 have e2:=hX1.blk.cell 2
 have e3:=hX1.blk.cell 3
 have e4:=hX1.blk.cell 4
 have e5:=hX1.blk.cell 5
 have e6:=hX1.blk.cell 6
 have e7:=hX1.blk.cell 7
 have e8:=hX1.blk.cell 8
 simp at e2 e3 e4 e5 e6 e7 e8
 unfold workV
 dsimp only
 go_enter Tryz.func46,Tryz.ntmps46
 go_upto_region 2 with fail
 refine wp_name (fun w3 HW=>?_)
 rw [← HW.out] at hD3 hX3 hR3 hC3
 clear HW hD1 hD2 hX1 hX2 hR2 e2 e3 e4 e5 e6 e7 e8
 have HN:=Hd hn
 have HA:=Hd ha
 have HOL:=Hd (show ow.length≤maxLen by have:=hc.owner;unfold maxLen;simp only at this;omega)
 have HKL:=Hd (show (akOf nm ad).length≤maxLen by have:=ak_len (c:=⟨4,nm,pa,pn,ln,ad,ow⟩) HN.out ad;unfold maxLen;simp only at this;omega)
 have HPFX:=Hd (hD3.dk.prefixes hk hid ⟨4,nm,pa,pn,ln,ad,ow⟩ hc)
 have hTs:=h.lt
 have hT3:=hD3.dk.lt
 have HV0:=Hd (show g.do2 id ⟨4,nm,pa,pn,ln,ad,ow⟩=if g.pfxsE id nm≠0 then (noAns,g.pfxsE id nm,(g.allF id 112 nm).2) else (g.allF id 112 nm).2.doPlace2 id ⟨4,nm,pa,pn,ln,ad,ow⟩ (g.pfxsL id nm) from rfl)
 have HLC:=Hd (pfxsL_chk g id nm)
 unfold workV at HPFX
 dsimp only at HPFX
 obtain ⟨y0,y1,y2,y3,y4,y5,y6,y7,y8⟩:=hX3.blk.cls9
 obtain ⟨z0,z1,z2,z3,z4⟩:=hR3.blk.cls5
 obtain ⟨u0,u1,u2,u3,u4⟩:=hR3.blk.frs5
 obtain ⟨x0,x1,x2,x3,x4,x5,x6⟩:=hC3.blk.cls7
 simp at y0 y1 y2 y3 y4 y5 y6 y7 y8 z0 z1 z2 z3 z4 x0 x1 x2 x3 x4 x5 x6
 go_wp2_with fail
 refine HPFX.out.mono ?_
 rintro e w4 ⟨v,rfl,hown,hlen,hS⟩
 have hD4:=hD3.step hS
 have hX4:=hX3.step hS
 have hR4:=hR3.step hS
 have hC4:=hC3.step hS
 clear hD3 hX3 hR3 hC3 HPFX y0 y1 y2 y3 y4 y5 y6 y7 y8 z0 z1 z2 z3 z4 u0 u1 u2 u3 u4 x0 x1 x2 x3 x4 x5 x6
 generalize g.pfxsE id nm=pe at *
 generalize g.pfxsL id nm=L at *
 generalize (g.allF id 112 nm).2=g0 at *
 by_cases hf:pe≠0
 ·have HR:=Hd (show g.do2 id ⟨4,nm,pa,pn,ln,ad,ow⟩=(noAns,pe,g0) by rw [HV0.out,if_pos hf])
  have HF:=Hd (fault_num hf)
  have HNZ:=Hd hf
  rw [HF.out]
  clear hf HV0 hown hS
  obtain ⟨y0,y1,y2,y3,y4,y5,y6,y7,y8⟩:=hX4.blk.cls9
  obtain ⟨z0,z1,z2,z3,z4⟩:=hR4.blk.cls5
  obtain ⟨u0,u1,u2,u3,u4⟩:=hR4.blk.frs5
  obtain ⟨x0,x1,x2,x3,x4,x5,x6⟩:=hC4.blk.cls7
  simp at y0 y1 y2 y3 y4 y5 y6 y7 y8 z0 z1 z2 z3 z4 x0 x1 x2 x3 x4 x5 x6
  go_wp2
  refine bodyPost_ret (v:=.tuple #[AnsV (.slice none 0 0) noAns,.iface 71 (.int .i64 pe)]) (by simp [AnsV,noAns,results,Tryz.results46,go_sem,z0,z1,z2,z3,z4,u0,u1,u2,u3,u4]) rfl ?_
  unfold DoR
  refine ⟨_,_,_,noAns,T,by rw [HR.out];exact congrArg (fun x=>Ending.returned (.tuple #[AnsV (.slice none 0 0) noAns,x])) HF.out.symm,fun q=>?_,?_⟩
  ·rw [HR.out] at q ⊢
   exact absurd q HNZ.out
  ·rw [HR.out]
   (repeat' (first | exact hD4 | refine DKto.set ?_ ?_ ?_ _ | exact hR4.out)) <;> simp
 obtain rfl:pe=0:=Decidable.not_not.1 hf
 rw [show faultV 0=.nilIface from rfl]
 clear hf
 have HPK:=Hd (fun (W:World) (hB:B≤W.heap.size) hV=>ak_any nm HN.out ad HA.out (B:=B) W hB hV)
 have HHAS:=Hd (fun W T' (q:DK B W T' d g0 k)=>q.has hk hid ⟨4,nm,pa,pn,ln,ad,ow⟩ (akOf nm ad) HKL.out)
 have HV:=Hd (show g.do2 id ⟨4,nm,pa,pn,ln,ad,ow⟩=if (g0.has id (akOf nm ad)).2.1≠0 then (noAns,(g0.has id (akOf nm ad)).2.1,(g0.has id (akOf nm ad)).2.2) else if coveredB ad L (0,-1)=false then (noAns,7,(g0.has id (akOf nm ad)).2.2) else if (g0.has id (akOf nm ad)).1 then (noAns,6,(g0.has id (akOf nm ad)).2.2) else (g0.has id (akOf nm ad)).2.2.chg id ⟨akOf nm ad,ow,false⟩ noAns by rw [HV0.out,if_neg (by simp)];rfl)
 unfold workV at HHAS
 dsimp only at HPK HHAS
 generalize g0.has id (akOf nm ad)=rh at *
 generalize akOf nm ad=key at *
 obtain ⟨A4,c4,rfl,_⟩:=hown.form
 have HOW:=Hd hown
 have HT4:=Hd (show ∀ q,(Value.slice A4 L.length c4).ownBlock=some q→¬ T q from row_out hown hT3)
 clear hn ha hc ho HV0 hown hS
 have hks:∀ W:World,Blk W w.heap.size 120 #[ptrV d,intV id,.int .i64 4,txt nm,.int .i64 pa,.int .i64 pn,.int .i64 ln,.int .i64 ad,txt ow]→Blk W (w.heap.size+2) 33 #[.int .i64 4,txt nm,.int .i64 pa,.int .i64 pn,.int .i64 ln,.int .i64 ad,txt ow]→W.cell? ⟨w.heap.size,0,none⟩=some (ptrV d)∧W.cell? ⟨w.heap.size,1,none⟩=some (intV id)∧W.cell? ⟨w.heap.size,2,none⟩=some (.int .i64 4)∧W.cell? ⟨w.heap.size,3,none⟩=some (txt nm)∧W.cell? ⟨w.heap.size,4,none⟩=some (.int .i64 pa)∧W.cell? ⟨w.heap.size,5,none⟩=some (.int .i64 pn)∧W.cell? ⟨w.heap.size,6,none⟩=some (.int .i64 ln)∧W.cell? ⟨w.heap.size,7,none⟩=some (.int .i64 ad)∧W.cell? ⟨w.heap.size,8,none⟩=some (txt ow)∧W.cell? ⟨w.heap.size+2,0,none⟩=some (.int .i64 4)∧W.cell? ⟨w.heap.size+2,1,none⟩=some (txt nm)∧W.cell? ⟨w.heap.size+2,2,none⟩=some (.int .i64 pa)∧W.cell? ⟨w.heap.size+2,3,none⟩=some (.int .i64 pn)∧W.cell? ⟨w.heap.size+2,4,none⟩=some (.int .i64 ln)∧W.cell? ⟨w.heap.size+2,5,none⟩=some (.int .i64 ad)∧W.cell? ⟨w.heap.size+2,6,none⟩=some (txt ow):=fun W a b=>⟨a.cell 0,a.cell 1,a.cell 2,a.cell 3,a.cell 4,a.cell 5,a.cell 6,a.cell 7,a.cell 8,b.cell 0,b.cell 1,b.cell 2,b.cell 3,b.cell 4,b.cell 5,b.cell 6⟩
 obtain ⟨y0,y1,y2,y3,y4,y5,y6,y7,y8⟩:=hX4.blk.cls9
 obtain ⟨z0,z1,z2,z3,z4⟩:=hR4.blk.cls5
 obtain ⟨u0,u1,u2,u3,u4⟩:=hR4.blk.frs5
 obtain ⟨x0,x1,x2,x3,x4,x5,x6⟩:=hC4.blk.cls7
 simp at y0 y1 y2 y3 y4 y5 y6 y7 y8 z0 z1 z2 z3 z4 x0 x1 x2 x3 x4 x5 x6
 go_upto_region 16 with fail
 clear y0 y1 y2 y3 y4 y5 y6 y7 y8 z0 z1 z2 z3 z4 u0 u1 u2 u3 u4 x0 x1 x2 x3 x4 x5 x6
 have hXd:Blk w4.drew w.heap.size 120 #[ptrV d,intV id,.int .i64 4,txt nm,.int .i64 pa,.int .i64 pn,.int .i64 ln,.int .i64 ad,txt ow]:=hX4.blk
 have hCd:Blk w4.drew (w.heap.size+2) 33 #[.int .i64 4,txt nm,.int .i64 pa,.int .i64 pn,.int .i64 ln,.int .i64 ad,txt ow]:=hC4.blk
 go_region_held3 (fun W=>W.cell? ⟨w.heap.size,0,none⟩=some (ptrV d)∧W.cell? ⟨w.heap.size,1,none⟩=some (intV id)∧W.cell? ⟨w.heap.size,2,none⟩=some (.int .i64 4)∧W.cell? ⟨w.heap.size,3,none⟩=some (txt nm)∧W.cell? ⟨w.heap.size,4,none⟩=some (.int .i64 pa)∧W.cell? ⟨w.heap.size,5,none⟩=some (.int .i64 pn)∧W.cell? ⟨w.heap.size,6,none⟩=some (.int .i64 ln)∧W.cell? ⟨w.heap.size,7,none⟩=some (.int .i64 ad)∧W.cell? ⟨w.heap.size,8,none⟩=some (txt ow)∧W.cell? ⟨w.heap.size+2,0,none⟩=some (.int .i64 4)∧W.cell? ⟨w.heap.size+2,1,none⟩=some (txt nm)∧W.cell? ⟨w.heap.size+2,2,none⟩=some (.int .i64 pa)∧W.cell? ⟨w.heap.size+2,3,none⟩=some (.int .i64 pn)∧W.cell? ⟨w.heap.size+2,4,none⟩=some (.int .i64 ln)∧W.cell? ⟨w.heap.size+2,5,none⟩=some (.int .i64 ad)∧W.cell? ⟨w.heap.size+2,6,none⟩=some (txt ow))
  (first
   | with_reducible exact hks _ hXd hCd
   | with_reducible exact hks _ hX5.blk hC5.blk
   | with_reducible exact hks _ hX6.blk hC6.blk)
  ((first
   | (go_at_call 72;refine (HPK.out _ hD4.drew.dk.le hD4.drew.dk.gv).mono ?_;rintro e w5 ⟨rfl,hb5⟩;have HOW5:=Hd (OwnP.below (w:=w4) HOW.out ⟨hb5.os,hb5.tape,hb5.output,hb5.size,hb5.block⟩);have hD5:=hD4.drew.bel hb5;have hX5:=hX4.bel (w2:=w5) ⟨hb5.os,hb5.tape,hb5.output,hb5.size,hb5.block⟩;have hR5:=hR4.bel (w2:=w5) ⟨hb5.os,hb5.tape,hb5.output,hb5.size,hb5.block⟩;have hC5:=hC4.bel (w2:=w5) ⟨hb5.os,hb5.tape,hb5.output,hb5.size,hb5.block⟩)
   | (go_at_call 43;refine (HHAS.out _ _ hD5.dk).mono ?_;rintro e w6 ⟨rfl,T6,hD56⟩;have HOW6:=Hd (own_fr HOW5.out hD56.fr HT4.out);have hD6:=hD5.step hD56;have hX6:=hX5.step hD56;have hR6:=hR5.step hD56;have hC6:=hC5.step hD56)))
 clear hD4 hX4 hR4 hC4 hD5 hX5 hR5 hC5 hD56 hb5 hXd hCd
 obtain ⟨b,f,g1⟩:=rh
 dsimp only at HV hD6
 by_cases hf:f≠0
 ·have HR:=Hd (show g.do2 id ⟨4,nm,pa,pn,ln,ad,ow⟩=(noAns,f,g1) by rw [HV.out,if_pos hf])
  have HF:=Hd (fault_num hf)
  have HNZ:=Hd hf
  rw [HF.out]
  clear hf HV
  obtain ⟨y0,y1,y2,y3,y4,y5,y6,y7,y8⟩:=hX6.blk.cls9
  obtain ⟨z0,z1,z2,z3,z4⟩:=hR6.blk.cls5
  obtain ⟨u0,u1,u2,u3,u4⟩:=hR6.blk.frs5
  obtain ⟨x0,x1,x2,x3,x4,x5,x6⟩:=hC6.blk.cls7
  simp at y0 y1 y2 y3 y4 y5 y6 y7 y8 z0 z1 z2 z3 z4 x0 x1 x2 x3 x4 x5 x6
  go_wp2
  refine bodyPost_ret (v:=.tuple #[AnsV (.slice none 0 0) noAns,.iface 71 (.int .i64 f)]) (by simp [AnsV,noAns,results,Tryz.results46,go_sem,z0,z1,z2,z3,z4,u0,u1,u2,u3,u4]) rfl ?_
  unfold DoR
  refine ⟨_,_,_,noAns,T6,by rw [HR.out];exact congrArg (fun x=>Ending.returned (.tuple #[AnsV (.slice none 0 0) noAns,x])) HF.out.symm,fun q=>?_,?_⟩
  ·rw [HR.out] at q ⊢
   exact absurd q HNZ.out
  ·rw [HR.out]
   (repeat' (first | exact hD6 | refine DKto.set ?_ ?_ ?_ _ | exact hR6.out)) <;> simp
 obtain rfl:f=0:=Decidable.not_not.1 hf
 rw [show faultV 0=.nilIface from rfl]
 clear hf
 obtain ⟨A6,c6,e6,hrd6⟩:=OwnP.form HOW6.out
 injection e6 with e61 e62 e63
 subst e61;subst e63
 clear e62
 have HCV:=Hd (covered_pl ad HA.out A4 L c4 (0,-1) (by omega) HLC.out w6 hrd6)
 dsimp only at HCV
 obtain ⟨y0,y1,y2,y3,y4,y5,y6,y7,y8⟩:=hX6.blk.cls9
 obtain ⟨z0,z1,z2,z3,z4⟩:=hR6.blk.cls5
 obtain ⟨u0,u1,u2,u3,u4⟩:=hR6.blk.frs5
 obtain ⟨x0,x1,x2,x3,x4,x5,x6⟩:=hC6.blk.cls7
 simp at y0 y1 y2 y3 y4 y5 y6 y7 y8 z0 z1 z2 z3 z4 x0 x1 x2 x3 x4 x5 x6
 go_wp2_with fail
 refine HCV.out.mono ?_
 rintro e w7 ⟨rfl,hb7⟩
 have hD7:=hD6.bel hb7;have hX7:=hX6.bel hb7;have hR7:=hR6.bel hb7;have hC7:=hC6.bel hb7
 clear hD6 hX6 hR6 hC6 hb7 HCV hrd6 HOW6 HOW y0 y1 y2 y3 y4 y5 y6 y7 y8 z0 z1 z2 z3 z4 u0 u1 u2 u3 u4 x0 x1 x2 x3 x4 x5 x6
 cases hcv:coveredB ad L (0,-1) with
 | false =>
  have HR:=Hd (show g.do2 id ⟨4,nm,pa,pn,ln,ad,ow⟩=(noAns,7,g1) by rw [HV.out,if_neg (by simp),if_pos hcv])
  clear hcv HV
  obtain ⟨y0,y1,y2,y3,y4,y5,y6,y7,y8⟩:=hX7.blk.cls9
  obtain ⟨z0,z1,z2,z3,z4⟩:=hR7.blk.cls5
  obtain ⟨u0,u1,u2,u3,u4⟩:=hR7.blk.frs5
  obtain ⟨x0,x1,x2,x3,x4,x5,x6⟩:=hC7.blk.cls7
  simp at y0 y1 y2 y3 y4 y5 y6 y7 y8 z0 z1 z2 z3 z4 x0 x1 x2 x3 x4 x5 x6
  go_wp2
  refine bodyPost_ret (v:=.tuple #[AnsV (.slice none 0 0) noAns,.iface 71 (.int .i64 7)]) (by simp [AnsV,noAns,results,Tryz.results46,go_sem,z0,z1,z2,z3,z4,u0,u1,u2,u3,u4]) rfl ?_
  unfold DoR
  refine ⟨_,_,_,noAns,T6,by rw [HR.out];exact rfl,fun q=>?_,?_⟩
  ·rw [HR.out] at q ⊢
   exact absurd q (by simp)
  ·rw [HR.out]
   (repeat' (first | exact hD7 | refine DKto.set ?_ ?_ ?_ _ | exact hR7.out)) <;> simp
 | true =>
 have HV2:=Hd (show g.do2 id ⟨4,nm,pa,pn,ln,ad,ow⟩=if b then (noAns,6,g1) else g1.chg id ⟨key,ow,false⟩ noAns by rw [HV.out,if_neg (by simp),if_neg (by rw [hcv];simp)])
 clear hcv HV
 cases b with
 | true =>
  have HR:=Hd (show g.do2 id ⟨4,nm,pa,pn,ln,ad,ow⟩=(noAns,6,g1) from HV2.out)
  clear HV2
  obtain ⟨y0,y1,y2,y3,y4,y5,y6,y7,y8⟩:=hX7.blk.cls9
  obtain ⟨z0,z1,z2,z3,z4⟩:=hR7.blk.cls5
  obtain ⟨u0,u1,u2,u3,u4⟩:=hR7.blk.frs5
  obtain ⟨x0,x1,x2,x3,x4,x5,x6⟩:=hC7.blk.cls7
  simp at y0 y1 y2 y3 y4 y5 y6 y7 y8 z0 z1 z2 z3 z4 x0 x1 x2 x3 x4 x5 x6
  go_wp2
  refine bodyPost_ret (v:=.tuple #[AnsV (.slice none 0 0) noAns,.iface 71 (.int .i64 6)]) (by simp [AnsV,noAns,results,Tryz.results46,go_sem,z0,z1,z2,z3,z4,u0,u1,u2,u3,u4]) rfl ?_
  unfold DoR
  refine ⟨_,_,_,noAns,T6,by rw [HR.out];exact rfl,fun q=>?_,?_⟩
  ·rw [HR.out] at q ⊢
   exact absurd q (by simp)
  ·rw [HR.out]
   (repeat' (first | exact hD7 | refine DKto.set ?_ ?_ ?_ _ | exact hR7.out)) <;> simp
 | false =>
  have HR:=Hd (show g.do2 id ⟨4,nm,pa,pn,ln,ad,ow⟩=g1.chg id ⟨key,ow,false⟩ noAns from HV2.out)
  clear HV2
  have HPU:=Hd (fun W T' (q:DK B W T' d g1 k)=>q.put hid key ow HKL.out HOL.out)
  have HEQ:=Hd (show g1.chg id ⟨key,ow,false⟩ noAns=(noAns,(g1.change id ⟨key,ow,false⟩).1,(g1.change id ⟨key,ow,false⟩).2) by unfold Dk.chg;simp)
  generalize g1.change id ⟨key,ow,false⟩=r3 at *
  obtain ⟨y0,y1,y2,y3,y4,y5,y6,y7,y8⟩:=hX7.blk.cls9
  obtain ⟨z0,z1,z2,z3,z4⟩:=hR7.blk.cls5
  obtain ⟨u0,u1,u2,u3,u4⟩:=hR7.blk.frs5
  obtain ⟨x0,x1,x2,x3,x4,x5,x6⟩:=hC7.blk.cls7
  simp at y0 y1 y2 y3 y4 y5 y6 y7 y8 z0 z1 z2 z3 z4 x0 x1 x2 x3 x4 x5 x6
  go_upto_region 23 with fail
  clear y0 y1 y2 y3 y4 y5 y6 y7 y8 z0 z1 z2 z3 z4 u0 u1 u2 u3 u4 x0 x1 x2 x3 x4 x5 x6
  have hXd:Blk w7.drew w.heap.size 120 #[ptrV d,intV id,.int .i64 4,txt nm,.int .i64 pa,.int .i64 pn,.int .i64 ln,.int .i64 ad,txt ow]:=hX7.blk
  have hCd:Blk w7.drew (w.heap.size+2) 33 #[.int .i64 4,txt nm,.int .i64 pa,.int .i64 pn,.int .i64 ln,.int .i64 ad,txt ow]:=hC7.blk
  have hwn:w.heap.size≠w.heap.size+1:=by omega
  have hcn:w.heap.size+2≠w.heap.size+1:=by omega
  go_region_held3 (fun W=>W.cell? ⟨w.heap.size,0,none⟩=some (ptrV d)∧W.cell? ⟨w.heap.size,1,none⟩=some (intV id)∧W.cell? ⟨w.heap.size,2,none⟩=some (.int .i64 4)∧W.cell? ⟨w.heap.size,3,none⟩=some (txt nm)∧W.cell? ⟨w.heap.size,4,none⟩=some (.int .i64 pa)∧W.cell? ⟨w.heap.size,5,none⟩=some (.int .i64 pn)∧W.cell? ⟨w.heap.size,6,none⟩=some (.int .i64 ln)∧W.cell? ⟨w.heap.size,7,none⟩=some (.int .i64 ad)∧W.cell? ⟨w.heap.size,8,none⟩=some (txt ow)∧W.cell? ⟨w.heap.size+2,0,none⟩=some (.int .i64 4)∧W.cell? ⟨w.heap.size+2,1,none⟩=some (txt nm)∧W.cell? ⟨w.heap.size+2,2,none⟩=some (.int .i64 pa)∧W.cell? ⟨w.heap.size+2,3,none⟩=some (.int .i64 pn)∧W.cell? ⟨w.heap.size+2,4,none⟩=some (.int .i64 ln)∧W.cell? ⟨w.heap.size+2,5,none⟩=some (.int .i64 ad)∧W.cell? ⟨w.heap.size+2,6,none⟩=some (txt ow))
   (first
    | with_reducible exact hks _ hXd hCd
    | with_reducible exact hks _ hX8.blk hC8.blk
    | with_reducible exact hks _ hX9.blk hC9.blk
    | with_reducible exact hks _ (hX9.blk.far5 hwn _ _ _ _ _) (hC9.blk.far5 hcn _ _ _ _ _))
   ((first
    | (go_at_call 72;refine (HPK.out _ hD7.drew.dk.le hD7.drew.dk.gv).mono ?_;rintro e w8 ⟨rfl,hb8⟩;have hD8:=hD7.drew.bel hb8;have hX8:=hX7.bel (w2:=w8) ⟨hb8.os,hb8.tape,hb8.output,hb8.size,hb8.block⟩;have hR8:=hR7.bel (w2:=w8) ⟨hb8.os,hb8.tape,hb8.output,hb8.size,hb8.block⟩;have hC8:=hC7.bel (w2:=w8) ⟨hb8.os,hb8.tape,hb8.output,hb8.size,hb8.block⟩)
    | (go_at_call 45;refine (HPU.out _ _ hD8.dk).mono ?_;rintro e w9 ⟨rfl,T9,hD89⟩;have hD9:=hD8.step hD89;have hX9:=hX8.step hD89;have hR9:=hR8.step hD89;have hC9:=hC8.step hD89;have y0:=hX9.blk.cell 0;have y1:=hX9.blk.cell 1;have y2:=hX9.blk.cell 2;have y3:=hX9.blk.cell 3;have y4:=hX9.blk.cell 4;have y5:=hX9.blk.cell 5;have y6:=hX9.blk.cell 6;have y7:=hX9.blk.cell 7;have y8:=hX9.blk.cell 8; have z0:=hR9.blk.cell 0;have z1:=hR9.blk.cell 1;have z2:=hR9.blk.cell 2;have z3:=hR9.blk.cell 3;have z4:=hR9.blk.cell 4; have u0:=hR9.blk.frozen 0;have u1:=hR9.blk.frozen 1;have u2:=hR9.blk.frozen 2;have u3:=hR9.blk.frozen 3;have u4:=hR9.blk.frozen 4; have x0:=hC9.blk.cell 0;have x1:=hC9.blk.cell 1;have x2:=hC9.blk.cell 2;have x3:=hC9.blk.cell 3;have x4:=hC9.blk.cell 4;have x5:=hC9.blk.cell 5;have x6:=hC9.blk.cell 6; simp at y0 y1 y2 y3 y4 y5 y6 y7 y8 z0 z1 z2 z3 z4 x0 x1 x2 x3 x4 x5 x6)))
  clear hD7 hX7 hR7 hC7 hD8 hX8 hR8 hC8 hD89 hb8 hXd hCd
  go_wp2
  refine bodyPost_ret (v:=.tuple #[AnsV (.slice none 0 0) noAns,faultV r3.1]) (by simp [AnsV,noAns,results,Tryz.results46,go_sem,z0,z1,z2,z3,z4,u0,u1,u2,u3,u4]) rfl ?_
  unfold DoR
  refine ⟨_,_,_,noAns,T9,by rw [HR.out,HEQ.out],fun q=>?_,?_⟩
  ·rw [HR.out,HEQ.out] at q ⊢
   exact ⟨rfl,OwnP.nil _ _ _,own_none⟩
  ·rw [HR.out,HEQ.out]
   (repeat' (first | exact hD9 | refine DKto.set ?_ ?_ ?_ _ | exact hR9.out)) <;> simp
end
section
variable {B : Nat} {w : World} {T : Nat → Prop} {d : Nat} {g : Dk} {id : Int} {k : Nat}
theorem DK.do_any (h:DK B w T d g k) (hk:k≤40000) (hid:(Lit.int .i64 id).wf=true) (c:PCall) (hc:CallOk c) (hf:callFault c=0) (h1:c.what≠1) :
  Calls Tryz.prog 46 #[workV d id c] w (DoR B w T d k (g.do2 id c)):=by
 obtain ⟨⟨w1,w2⟩,hn,how,hpf,had⟩:=callFault_zero hf
 obtain ⟨what,nm,pa,pn,ln,ad,ow⟩:=c
 simp only at w1 w2 hn how hpf had h1
 rcases (show what=2∨what=3∨what=4∨what=5∨what=6∨what=7∨what=8∨what=9 by omega) with rfl | rfl | rfl | rfl | rfl | rfl | rfl | rfl
 ·exact h.do_2 hk hid nm ow pa pn ln ad hc hn (how (by decide)) (hpf (by decide))
 ·exact h.do_3 hk hid nm ow pa pn ln ad hc hn (hpf (by decide))
 ·exact h.do_4 hk hid nm ow pa pn ln ad hc hn (how (by decide)) (had (by decide))
 ·exact h.do_5 hk hid nm ow pa pn ln ad hc hn (had (by decide))
 ·exact h.do_6 hk hid nm ow pa pn ln ad hc hn (hpf (by decide))
 ·exact h.do_7 hk hid nm ow pa pn ln ad hc hn (hpf (by decide))
 ·exact h.do_8 hk hid nm ow pa pn ln ad hc hn
 ·exact h.do_9 hk hid nm ow pa pn ln ad hc hn (had (by decide))
theorem nk_len {c:PCall} (hn:nameB c.name=true):c.nk.length≤100:=by
 have h8:=(nameB_iff.1 hn).2.2
 unfold PCall.nk nKey
 simp only [List.length_append,List.length_cons,List.length_nil]
 omega
theorem nk_any (net:List UInt8) (hn:nameB net=true) (w:World) :
  Calls Tryz.prog 44 #[txt net] w fun e w'=>e=.returned (txt (nKey net))∧Below w.heap.size w w' :=
 (netKey_any net (by have h8:=(nameB_iff.1 hn).2.2;omega) w).mono fun e w' q=>⟨q.1,by rw [← q.2];exact Below.refl _ _⟩
theorem DK.doC (h:DK B w T d g k) (hk:k≤40000) (hid:(Lit.int .i64 id).wf=true) (c:PCall) (hc:CallW c) :
  Calls Tryz.prog 24 #[ptrV d,intV id,CallV c] w fun e w'=>∃ v,e=.returned (.tuple #[AnsV v (g.doC id c).1,faultV (g.doC id c).2.1])∧OwnP w' w.heap.size 31 v (g.doC id c).1.list∧∃ T',(∀ q,v.ownBlock=some q→¬ T' q)∧DKto B w T d w' T' (g.doC id c).2.2 k:=by
 have hD1:=h.refl.alloc (.cells #[.int .i64 c.what,txt c.name,.int .i64 c.pa,.int .i64 c.pn,.int .i64 c.len,.int .i64 c.ad,txt c.owner] 33)
 have hC1:=Loc.new h 33 #[.int .i64 c.what,txt c.name,.int .i64 c.pa,.int .i64 c.pn,.int .i64 c.len,.int .i64 c.ad,txt c.owner]
 have hD2:=hD1.alloc (.cells #[.int .i64 0,.int .i64 0,.int .i64 0,.string { data:=#[] },.slice none 0 0] 46)
 have hC2:=hC1.alloc (.cells #[.int .i64 0,.int .i64 0,.int .i64 0,.string { data:=#[] },.slice none 0 0] 46)
 have hR2:=Loc.new hD1.dk 46 #[.int .i64 0,.int .i64 0,.int .i64 0,.string { data:=#[] },.slice none 0 0]
 rw [World.size_alloc] at hR2
 have HC:=Hd hc
 have HCK:=Hd (fun W=>checkC_any c hc W)
 have HNO:=Hd (g.doC_no id c)
 clear hc
 unfold CallV at HCK
 unfold CallV
 go_enter Tryz.func24,Tryz.ntmps24
 go_upto_region 1 with fail
 refine wp_name (fun w2 HW=>?_)
 rw [← HW.out] at hD2 hC2 hR2
 clear HW hD1 hC1
 obtain ⟨z0,z1,z2,z3,z4⟩:=hR2.blk.cls5
 obtain ⟨u0,u1,u2,u3,u4⟩:=hR2.blk.frs5
 obtain ⟨x0,x1,x2,x3,x4,x5,x6⟩:=hC2.blk.cls7
 simp at z0 z1 z2 z3 z4 x0 x1 x2 x3 x4 x5 x6
 go_wp2_with fail
 refine (HCK.out _).mono ?_
 rintro e w3 ⟨rfl,hb3⟩
 have hD3:=hD2.bel hb3
 have hC3:=hC2.bel hb3
 have hR3:=hR2.bel hb3
 clear hD2 hC2 hR2 hb3 HCK z0 z1 z2 z3 z4 u0 u1 u2 u3 u4 x0 x1 x2 x3 x4 x5 x6
 by_cases hf:callFault c≠0
 ·have HR:=Hd (show g.doC id c=(noAns,callFault c,g) by unfold Dk.doC;rw [if_pos hf])
  have HF:=Hd (fault_num hf)
  rw [HF.out]
  clear hf
  obtain ⟨z0,z1,z2,z3,z4⟩:=hR3.blk.cls5
  obtain ⟨u0,u1,u2,u3,u4⟩:=hR3.blk.frs5
  obtain ⟨x0,x1,x2,x3,x4,x5,x6⟩:=hC3.blk.cls7
  simp at z0 z1 z2 z3 z4 x0 x1 x2 x3 x4 x5 x6
  go_wp2
  refine bodyPost_ret (v:=.tuple #[AnsV (.slice none 0 0) noAns,.iface 71 (.int .i64 (callFault c))]) (by simp [AnsV,noAns,results,Tryz.results24,go_sem,z0,z1,z2,z3,z4,u0,u1,u2,u3,u4]) rfl ?_
  refine ⟨.slice none 0 0,by rw [HR.out];exact congrArg (fun x=>Ending.returned (.tuple #[AnsV (.slice none 0 0) noAns,x])) HF.out.symm,by rw [HR.out];exact OwnP.nil _ _ _,T,own_none,?_⟩
  rw [HR.out]
  (repeat' (first | exact hD3 | refine DKto.set ?_ ?_ ?_ _ | exact hR3.out)) <;> simp
 have hf:callFault c=0:=Decidable.not_not.1 hf
 rw [show faultV (callFault c)=.nilIface by rw [hf];rfl]
 obtain ⟨hwh,hn,how,hpf,had⟩:=callFault_zero hf
 have HN:=Hd hn
 have HO:=Hd how
 have HCO:=Hd (HC.out.ok hn)
 have HZ:=Hd hf
 have HV:=Hd (show g.doC id c=if (g.has id c.nk).2.1≠0 then (noAns,(g.has id c.nk).2.1,(g.has id c.nk).2.2) else if c.what=1 then (if (g.has id c.nk).1 then (noAns,6,(g.has id c.nk).2.2) else (g.has id c.nk).2.2.chg id ⟨c.nk,c.owner,false⟩ noAns) else if (g.has id c.nk).1=false then (noAns,4,(g.has id c.nk).2.2) else (g.has id c.nk).2.2.do2 id c by unfold Dk.doC;rw [if_neg (by rw [hf];simp)];rfl)
 have HPK:=Hd (fun (W:World)=>nk_any c.name HN.out W)
 have HKL:=Hd (show c.nk.length≤maxLen by have:=nk_len HN.out;unfold maxLen;omega)
 have HOL:=Hd (show c.owner.length≤maxLen by have:=HC.out.owner;unfold maxLen;omega)
 have HHAS:=Hd (fun W T' (q:DK B W T' d g k)=>q.has hk hid c c.nk HKL.out)
 unfold workV at HHAS
 rw [show nKey c.name=c.nk from rfl] at HPK
 generalize g.has id c.nk=rh at *
 generalize c.nk=key at *
 clear hf hn how hpf had hwh
 have hX4:=Loc.new hD3.dk 120 #[ptrV d,intV id,.int .i64 c.what,txt c.name,.int .i64 c.pa,.int .i64 c.pn,.int .i64 c.len,.int .i64 c.ad,txt c.owner]
 have hD4:=hD3.alloc (.cells #[ptrV d,intV id,.int .i64 c.what,txt c.name,.int .i64 c.pa,.int .i64 c.pn,.int .i64 c.len,.int .i64 c.ad,txt c.owner] 120)
 have hC4:=hC3.alloc (.cells #[ptrV d,intV id,.int .i64 c.what,txt c.name,.int .i64 c.pa,.int .i64 c.pn,.int .i64 c.len,.int .i64 c.ad,txt c.owner] 120)
 have hR4:=hR3.alloc (.cells #[ptrV d,intV id,.int .i64 c.what,txt c.name,.int .i64 c.pa,.int .i64 c.pn,.int .i64 c.len,.int .i64 c.ad,txt c.owner] 120)
 have HBX:=Hd (show w.heap.size+1 < w3.heap.size from hR3.blk.lt)
 obtain ⟨z0,z1,z2,z3,z4⟩:=hR3.blk.cls5
 obtain ⟨u0,u1,u2,u3,u4⟩:=hR3.blk.frs5
 obtain ⟨x0,x1,x2,x3,x4,x5,x6⟩:=hC3.blk.cls7
 simp at z0 z1 z2 z3 z4 x0 x1 x2 x3 x4 x5 x6
 go_upto_region 5 with fail
 refine wp_name (fun w4 HW=>?_)
 rw [← HW.out] at hD4 hC4 hR4 hX4
 clear HW hD3 hC3 hR3 z0 z1 z2 z3 z4 u0 u1 u2 u3 u4 x0 x1 x2 x3 x4 x5 x6
 generalize w3.heap.size=bx at *
 have hks:∀ W:World,Blk W bx 120 #[ptrV d,intV id,.int .i64 c.what,txt c.name,.int .i64 c.pa,.int .i64 c.pn,.int .i64 c.len,.int .i64 c.ad,txt c.owner]→Blk W w.heap.size 33 #[.int .i64 c.what,txt c.name,.int .i64 c.pa,.int .i64 c.pn,.int .i64 c.len,.int .i64 c.ad,txt c.owner]→W.cell? ⟨bx,0,none⟩=some (ptrV d)∧W.cell? ⟨bx,1,none⟩=some (intV id)∧W.cell? ⟨bx,2,none⟩=some (.int .i64 c.what)∧W.cell? ⟨bx,3,none⟩=some (txt c.name)∧W.cell? ⟨bx,4,none⟩=some (.int .i64 c.pa)∧W.cell? ⟨bx,5,none⟩=some (.int .i64 c.pn)∧W.cell? ⟨bx,6,none⟩=some (.int .i64 c.len)∧W.cell? ⟨bx,7,none⟩=some (.int .i64 c.ad)∧W.cell? ⟨bx,8,none⟩=some (txt c.owner)∧W.cell? ⟨w.heap.size,0,none⟩=some (.int .i64 c.what)∧W.cell? ⟨w.heap.size,1,none⟩=some (txt c.name)∧W.cell? ⟨w.heap.size,2,none⟩=some (.int .i64 c.pa)∧W.cell? ⟨w.heap.size,3,none⟩=some (.int .i64 c.pn)∧W.cell? ⟨w.heap.size,4,none⟩=some (.int .i64 c.len)∧W.cell? ⟨w.heap.size,5,none⟩=some (.int .i64 c.ad)∧W.cell? ⟨w.heap.size,6,none⟩=some (txt c.owner):=fun W a b=>⟨a.cell 0,a.cell 1,a.cell 2,a.cell 3,a.cell 4,a.cell 5,a.cell 6,a.cell 7,a.cell 8,b.cell 0,b.cell 1,b.cell 2,b.cell 3,b.cell 4,b.cell 5,b.cell 6⟩
 have hXd:Blk w4.drew bx 120 #[ptrV d,intV id,.int .i64 c.what,txt c.name,.int .i64 c.pa,.int .i64 c.pn,.int .i64 c.len,.int .i64 c.ad,txt c.owner]:=hX4.blk
 have hCd:Blk w4.drew w.heap.size 33 #[.int .i64 c.what,txt c.name,.int .i64 c.pa,.int .i64 c.pn,.int .i64 c.len,.int .i64 c.ad,txt c.owner]:=hC4.blk
 go_region_held3 (fun W=>W.cell? ⟨bx,0,none⟩=some (ptrV d)∧W.cell? ⟨bx,1,none⟩=some (intV id)∧W.cell? ⟨bx,2,none⟩=some (.int .i64 c.what)∧W.cell? ⟨bx,3,none⟩=some (txt c.name)∧W.cell? ⟨bx,4,none⟩=some (.int .i64 c.pa)∧W.cell? ⟨bx,5,none⟩=some (.int .i64 c.pn)∧W.cell? ⟨bx,6,none⟩=some (.int .i64 c.len)∧W.cell? ⟨bx,7,none⟩=some (.int .i64 c.ad)∧W.cell? ⟨bx,8,none⟩=some (txt c.owner)∧W.cell? ⟨w.heap.size,0,none⟩=some (.int .i64 c.what)∧W.cell? ⟨w.heap.size,1,none⟩=some (txt c.name)∧W.cell? ⟨w.heap.size,2,none⟩=some (.int .i64 c.pa)∧W.cell? ⟨w.heap.size,3,none⟩=some (.int .i64 c.pn)∧W.cell? ⟨w.heap.size,4,none⟩=some (.int .i64 c.len)∧W.cell? ⟨w.heap.size,5,none⟩=some (.int .i64 c.ad)∧W.cell? ⟨w.heap.size,6,none⟩=some (txt c.owner))
  (first
   | with_reducible exact hks _ hXd hCd
   | with_reducible exact hks _ hX5.blk hC5.blk
   | with_reducible exact hks _ hX6.blk hC6.blk)
  ((first
   | (go_at_call 44;refine (HPK.out _).mono ?_;rintro e w5 ⟨rfl,hb5⟩;have hD5:=hD4.drew.bel hb5;have hX5:=hX4.bel (w2:=w5) ⟨hb5.os,hb5.tape,hb5.output,hb5.size,hb5.block⟩;have hR5:=hR4.bel (w2:=w5) ⟨hb5.os,hb5.tape,hb5.output,hb5.size,hb5.block⟩;have hC5:=hC4.bel (w2:=w5) ⟨hb5.os,hb5.tape,hb5.output,hb5.size,hb5.block⟩)
   | (go_at_call 43;refine (HHAS.out _ _ hD5.dk).mono ?_;rintro e w6 ⟨rfl,T6,hD56⟩;have hD6:=hD5.step hD56;have hX6:=hX5.step hD56;have hR6:=hR5.step hD56;have hC6:=hC5.step hD56)))
 clear hD4 hX4 hR4 hC4 hD5 hX5 hR5 hC5 hD56 hb5 hXd hCd
 obtain ⟨b,f,g1⟩:=rh
 dsimp only at HV hD6
 by_cases hf:f≠0
 ·have HR:=Hd (show g.doC id c=(noAns,f,g1) by rw [HV.out,if_pos hf])
  have HF:=Hd (fault_num hf)
  rw [HF.out]
  clear hf HV
  obtain ⟨z0,z1,z2,z3,z4⟩:=hR6.blk.cls5
  obtain ⟨u0,u1,u2,u3,u4⟩:=hR6.blk.frs5
  obtain ⟨x0,x1,x2,x3,x4,x5,x6⟩:=hC6.blk.cls7
  obtain ⟨y0,y1,y2,y3,y4,y5,y6,y7,y8⟩:=hX6.blk.cls9
  simp at z0 z1 z2 z3 z4 x0 x1 x2 x3 x4 x5 x6 y0 y1 y2 y3 y4 y5 y6 y7 y8
  go_wp2
  refine bodyPost_ret (v:=.tuple #[AnsV (.slice none 0 0) noAns,.iface 71 (.int .i64 f)]) (by simp [AnsV,noAns,results,Tryz.results24,go_sem,z0,z1,z2,z3,z4,u0,u1,u2,u3,u4]) rfl ?_
  refine ⟨.slice none 0 0,by rw [HR.out];exact congrArg (fun x=>Ending.returned (.tuple #[AnsV (.slice none 0 0) noAns,x])) HF.out.symm,by rw [HR.out];exact OwnP.nil _ _ _,T6,own_none,?_⟩
  rw [HR.out]
  (repeat' (first | exact hD6 | refine DKto.set ?_ ?_ ?_ _ | exact hR6.out)) <;> simp
 obtain rfl:f=0:=Decidable.not_not.1 hf
 rw [show faultV 0=.nilIface from rfl]
 clear hf HHAS
 by_cases h1:c.what=1
 ·have h1b:(c.what == 1)=true:=by simpa using h1
  cases b with
  | true =>
   have HR:=Hd (show g.doC id c=(noAns,6,g1) by rw [HV.out,if_neg (by simp),if_pos h1];rfl)
   clear HV h1
   obtain ⟨z0,z1,z2,z3,z4⟩:=hR6.blk.cls5
   obtain ⟨u0,u1,u2,u3,u4⟩:=hR6.blk.frs5
   obtain ⟨x0,x1,x2,x3,x4,x5,x6⟩:=hC6.blk.cls7
   obtain ⟨y0,y1,y2,y3,y4,y5,y6,y7,y8⟩:=hX6.blk.cls9
   simp at z0 z1 z2 z3 z4 x0 x1 x2 x3 x4 x5 x6 y0 y1 y2 y3 y4 y5 y6 y7 y8
   go_wp2
   refine bodyPost_ret (v:=.tuple #[AnsV (.slice none 0 0) noAns,.iface 71 (.int .i64 6)]) (by simp [AnsV,noAns,results,Tryz.results24,go_sem,z0,z1,z2,z3,z4,u0,u1,u2,u3,u4]) rfl ?_
   refine ⟨.slice none 0 0,by rw [HR.out];exact rfl,by rw [HR.out];exact OwnP.nil _ _ _,T6,own_none,?_⟩
   rw [HR.out]
   (repeat' (first | exact hD6 | refine DKto.set ?_ ?_ ?_ _ | exact hR6.out)) <;> simp
  | false =>
   have HR:=Hd (show g.doC id c=g1.chg id ⟨key,c.owner,false⟩ noAns by rw [HV.out,if_neg (by simp),if_pos h1];rfl)
   clear HV h1
   have HPU:=Hd (fun W T' (q:DK B W T' d g1 k)=>q.put hid key c.owner HKL.out HOL.out)
   have HEQ:=Hd (show g1.chg id ⟨key,c.owner,false⟩ noAns=(noAns,(g1.change id ⟨key,c.owner,false⟩).1,(g1.change id ⟨key,c.owner,false⟩).2) by unfold Dk.chg;simp)
   generalize g1.change id ⟨key,c.owner,false⟩=r3 at *
   obtain ⟨z0,z1,z2,z3,z4⟩:=hR6.blk.cls5
   obtain ⟨u0,u1,u2,u3,u4⟩:=hR6.blk.frs5
   obtain ⟨x0,x1,x2,x3,x4,x5,x6⟩:=hC6.blk.cls7
   obtain ⟨y0,y1,y2,y3,y4,y5,y6,y7,y8⟩:=hX6.blk.cls9
   simp at z0 z1 z2 z3 z4 x0 x1 x2 x3 x4 x5 x6 y0 y1 y2 y3 y4 y5 y6 y7 y8
   go_upto_region 11 with fail
   clear z0 z1 z2 z3 z4 u0 u1 u2 u3 u4 x0 x1 x2 x3 x4 x5 x6 y0 y1 y2 y3 y4 y5 y6 y7 y8
   have hXd:Blk w6.drew bx 120 #[ptrV d,intV id,.int .i64 c.what,txt c.name,.int .i64 c.pa,.int .i64 c.pn,.int .i64 c.len,.int .i64 c.ad,txt c.owner]:=hX6.blk
   have hCd:Blk w6.drew w.heap.size 33 #[.int .i64 c.what,txt c.name,.int .i64 c.pa,.int .i64 c.pn,.int .i64 c.len,.int .i64 c.ad,txt c.owner]:=hC6.blk
   have hwn:bx≠w.heap.size+1:=by have:=HBX.out;omega
   have hcn:w.heap.size≠w.heap.size+1:=by omega
   go_region_held3 (fun W=>W.cell? ⟨bx,0,none⟩=some (ptrV d)∧W.cell? ⟨bx,1,none⟩=some (intV id)∧W.cell? ⟨bx,2,none⟩=some (.int .i64 c.what)∧W.cell? ⟨bx,3,none⟩=some (txt c.name)∧W.cell? ⟨bx,4,none⟩=some (.int .i64 c.pa)∧W.cell? ⟨bx,5,none⟩=some (.int .i64 c.pn)∧W.cell? ⟨bx,6,none⟩=some (.int .i64 c.len)∧W.cell? ⟨bx,7,none⟩=some (.int .i64 c.ad)∧W.cell? ⟨bx,8,none⟩=some (txt c.owner)∧W.cell? ⟨w.heap.size,0,none⟩=some (.int .i64 c.what)∧W.cell? ⟨w.heap.size,1,none⟩=some (txt c.name)∧W.cell? ⟨w.heap.size,2,none⟩=some (.int .i64 c.pa)∧W.cell? ⟨w.heap.size,3,none⟩=some (.int .i64 c.pn)∧W.cell? ⟨w.heap.size,4,none⟩=some (.int .i64 c.len)∧W.cell? ⟨w.heap.size,5,none⟩=some (.int .i64 c.ad)∧W.cell? ⟨w.heap.size,6,none⟩=some (txt c.owner))
    (first
     | with_reducible exact hks _ hXd hCd
     | with_reducible exact hks _ hX7.blk hC7.blk
     | with_reducible exact hks _ hX8.blk hC8.blk
     | with_reducible exact hks _ (hX8.blk.far5 hwn _ _ _ _ _) (hC8.blk.far5 hcn _ _ _ _ _))
    ((first
     | (go_at_call 44;refine (HPK.out _).mono ?_;rintro e w7 ⟨rfl,hb7⟩;have hD7:=hD6.drew.bel hb7;have hX7:=hX6.bel (w2:=w7) ⟨hb7.os,hb7.tape,hb7.output,hb7.size,hb7.block⟩;have hR7:=hR6.bel (w2:=w7) ⟨hb7.os,hb7.tape,hb7.output,hb7.size,hb7.block⟩;have hC7:=hC6.bel (w2:=w7) ⟨hb7.os,hb7.tape,hb7.output,hb7.size,hb7.block⟩)
     | (go_at_call 45;refine (HPU.out _ _ hD7.dk).mono ?_;rintro e w8 ⟨rfl,T8,hD78⟩;have hD8:=hD7.step hD78;have hX8:=hX7.step hD78;have hR8:=hR7.step hD78;have hC8:=hC7.step hD78;have z0:=hR8.blk.cell 0;have z1:=hR8.blk.cell 1;have z2:=hR8.blk.cell 2;have z3:=hR8.blk.cell 3;have z4:=hR8.blk.cell 4;have u0:=hR8.blk.frozen 0;have u1:=hR8.blk.frozen 1;have u2:=hR8.blk.frozen 2;have u3:=hR8.blk.frozen 3;have u4:=hR8.blk.frozen 4;have x0:=hC8.blk.cell 0;have x1:=hC8.blk.cell 1;have x2:=hC8.blk.cell 2;have x3:=hC8.blk.cell 3;have x4:=hC8.blk.cell 4;have x5:=hC8.blk.cell 5;have x6:=hC8.blk.cell 6;simp at z0 z1 z2 z3 z4 x0 x1 x2 x3 x4 x5 x6)))
   clear hD6 hX6 hR6 hC6 hD7 hX7 hR7 hC7 hD78 hb7 hXd hCd
   go_wp2
   refine bodyPost_ret (v:=.tuple #[AnsV (.slice none 0 0) noAns,faultV r3.1]) (by simp [AnsV,noAns,results,Tryz.results24,go_sem,z0,z1,z2,z3,z4,u0,u1,u2,u3,u4]) rfl ?_
   refine ⟨.slice none 0 0,by rw [HR.out,HEQ.out],by rw [HR.out,HEQ.out];exact OwnP.nil _ _ _,T8,own_none,?_⟩
   rw [HR.out,HEQ.out]
   (repeat' (first | exact hD8 | refine DKto.set ?_ ?_ ?_ _ | exact hR8.out)) <;> simp
 ·have h1b:(c.what == 1)=false:=by simpa using h1
  cases b with
  | false =>
   have HR:=Hd (show g.doC id c=(noAns,4,g1) by rw [HV.out,if_neg (by simp),if_neg h1];rfl)
   clear HV h1
   obtain ⟨z0,z1,z2,z3,z4⟩:=hR6.blk.cls5
   obtain ⟨u0,u1,u2,u3,u4⟩:=hR6.blk.frs5
   obtain ⟨x0,x1,x2,x3,x4,x5,x6⟩:=hC6.blk.cls7
   obtain ⟨y0,y1,y2,y3,y4,y5,y6,y7,y8⟩:=hX6.blk.cls9
   simp at z0 z1 z2 z3 z4 x0 x1 x2 x3 x4 x5 x6 y0 y1 y2 y3 y4 y5 y6 y7 y8
   go_wp2
   refine bodyPost_ret (v:=.tuple #[AnsV (.slice none 0 0) noAns,.iface 71 (.int .i64 4)]) (by simp [AnsV,noAns,results,Tryz.results24,go_sem,z0,z1,z2,z3,z4,u0,u1,u2,u3,u4]) rfl ?_
   refine ⟨.slice none 0 0,by rw [HR.out];exact rfl,by rw [HR.out];exact OwnP.nil _ _ _,T6,own_none,?_⟩
   rw [HR.out]
   (repeat' (first | exact hD6 | refine DKto.set ?_ ?_ ?_ _ | exact hR6.out)) <;> simp
  | true =>
   have HV2:=Hd (show g.doC id c=g1.do2 id c by rw [HV.out,if_neg (by simp),if_neg h1];rfl)
   have HDO:=Hd (hD6.dk.do_any hk hid c HCO.out HZ.out h1)
   clear HV h1
   rw [HV2.out] at HNO
   generalize g1.do2 id c=r at *
   unfold workV at HDO
   obtain ⟨z0,z1,z2,z3,z4⟩:=hR6.blk.cls5
   obtain ⟨u0,u1,u2,u3,u4⟩:=hR6.blk.frs5
   obtain ⟨x0,x1,x2,x3,x4,x5,x6⟩:=hC6.blk.cls7
   obtain ⟨y0,y1,y2,y3,y4,y5,y6,y7,y8⟩:=hX6.blk.cls9
   simp at z0 z1 z2 z3 z4 x0 x1 x2 x3 x4 x5 x6 y0 y1 y2 y3 y4 y5 y6 y7 y8
   go_wp2_with fail
   refine HDO.out.mono ?_
   rintro e w7 ⟨A7,n7,c7,a7,T7,rfl,ha7,hD67⟩
   have HS67:=Hd (show w.heap.size≤w6.heap.size from hD6.size)
   have HS6:=Hd (show w.heap.size+1 < w6.heap.size from hR6.blk.lt)
   have hD7:=hD6.step hD67
   have hR7:=hR6.step hD67
   clear hD6 hX6 hR6 hC6 hD67 HDO z0 z1 z2 z3 z4 u0 u1 u2 u3 u4 x0 x1 x2 x3 x4 x5 x6 y0 y1 y2 y3 y4 y5 y6 y7 y8
   obtain ⟨a,f,g2⟩:=r
   dsimp only at hD7 ha7 HV2
   unfold AnsV
   by_cases hf:f≠0
   ·have HF:=Hd (fault_num hf)
    have hno:a=noAns:=HNO.out hf
    subst hno
    have hD8:=hD7.alloc (.cells #[.int .i64 a7.pa,.int .i64 a7.pn,.int .i64 a7.ad,txt a7.owner,.slice A7 n7 c7] 46)
    have hR8:=hR7.alloc (.cells #[.int .i64 a7.pa,.int .i64 a7.pn,.int .i64 a7.ad,txt a7.owner,.slice A7 n7 c7] 46)
    rw [HF.out]
    clear hf hD7 hR7 ha7
    obtain ⟨z0,z1,z2,z3,z4⟩:=hR8.blk.cls5
    obtain ⟨u0,u1,u2,u3,u4⟩:=hR8.blk.frs5
    simp at z0 z1 z2 z3 z4
    go_wp2
    refine bodyPost_ret (v:=.tuple #[AnsV (.slice none 0 0) noAns,.iface 71 (.int .i64 f)]) (by simp [AnsV,noAns,results,Tryz.results24,go_sem,z0,z1,z2,z3,z4,u0,u1,u2,u3,u4]) rfl ?_
    refine ⟨.slice none 0 0,by rw [HV2.out];exact congrArg (fun x=>Ending.returned (.tuple #[AnsV (.slice none 0 0) noAns,x])) HF.out.symm,by rw [HV2.out];exact OwnP.nil _ _ _,T7,own_none,?_⟩
    rw [HV2.out]
    (repeat' (first | exact hD8 | refine DKto.set ?_ ?_ ?_ _ | exact hR8.out)) <;> simp
   obtain rfl:f=0:=Decidable.not_not.1 hf
   obtain ⟨rfl,how,hnt⟩:=ha7 rfl
   have hnb:(Value.slice A7 n7 c7).ownBlock≠some (w.heap.size+1):=fun q=>by
    have h1:=(World.ownsRow.lt how _ q).1
    have h2:=HS6.out
    omega
   have HOW:=Hd (how.alloc (.cells #[.int .i64 a7.pa,.int .i64 a7.pn,.int .i64 a7.ad,txt a7.owner,.slice A7 n7 c7] 46))
   have HNB:=Hd hnb
   have HNT:=Hd hnt
   have hD8:=hD7.alloc (.cells #[.int .i64 a7.pa,.int .i64 a7.pn,.int .i64 a7.ad,txt a7.owner,.slice A7 n7 c7] 46)
   have hR8:=hR7.alloc (.cells #[.int .i64 a7.pa,.int .i64 a7.pn,.int .i64 a7.ad,txt a7.owner,.slice A7 n7 c7] 46)
   rw [show faultV 0=.nilIface from rfl]
   clear hf hD7 hR7 hnb how hnt
   obtain ⟨z0,z1,z2,z3,z4⟩:=hR8.blk.cls5
   obtain ⟨u0,u1,u2,u3,u4⟩:=hR8.blk.frs5
   simp at z0 z1 z2 z3 z4
   go_wp2
   refine bodyPost_ret (v:=.tuple #[AnsV (.slice A7 n7 c7) a7,.nilIface]) (by simp [AnsV,noAns,results,Tryz.results24,go_sem,z0,z1,z2,z3,z4,u0,u1,u2,u3,u4]) rfl ?_
   refine ⟨.slice A7 n7 c7,by rw [HV2.out];rfl,?_,T7,HNT.out,?_⟩
   ·rw [HV2.out]
    exact own_fr (S:=fun q=>q=w.heap.size+1) (own_of_base HOW.out HS67.out) (Fr.setCell (Fr.setCell (Fr.setCell (Fr.setCell (Fr.setCell (Fr.refl (fun q=>q=w.heap.size+1) _) (p:=⟨w.heap.size+1,0,none⟩) (fun _=>rfl) _) (p:=⟨w.heap.size+1,1,none⟩) (fun _=>rfl) _) (p:=⟨w.heap.size+1,2,none⟩) (fun _=>rfl) _) (p:=⟨w.heap.size+1,3,none⟩) (fun _=>rfl) _) (p:=⟨w.heap.size+1,4,none⟩) (fun _=>rfl) _) (fun g e1 e2=>HNB.out (by rw [← e2];exact e1))
   ·rw [HV2.out]
    (repeat' (first | exact hD8 | refine DKto.set ?_ ?_ ?_ _ | exact hR8.out)) <;> simp
end
section
variable {B : Nat} {w : World} {T : Nat → Prop} {a : Nat} {h : Hl} {k : Nat}
theorem HK.ask_h (o:HK B w T a h k) (hk:k≤30000) (who:List UInt8) (hw:who.length≤9223372036854775807) (c:PCall) (hc:CallW c) :
  Calls Tryz.prog 10 #[ptrV a,txt who,CallV c] w fun e w'=>∃ v,e=.returned (.tuple #[AnsV v (h.ask who c).1,faultV (h.ask who c).2.1])∧OwnP w' w.heap.size 31 v (h.ask who c).1.list∧∃ T',(∀ q,v.ownBlock=some q→¬ T' q)∧HKto B w T a w' T' (h.ask who c).2.2 k:=by
 have HO:=Hd o
 have HOK:=Hd o.ok
 obtain ⟨d,m,To,es,clock,q1,q2,q3,q4,q5,q6,q7,q8,q9⟩:=o.ex
 have hD1:=q1.refl.alloc (.cells #[.int .i64 c.what,txt c.name,.int .i64 c.pa,.int .i64 c.pn,.int .i64 c.len,.int .i64 c.ad,txt c.owner] 33)
 have hC1:=Loc.new q1 33 #[.int .i64 c.what,txt c.name,.int .i64 c.pa,.int .i64 c.pn,.int .i64 c.len,.int .i64 c.ad,txt c.owner]
 have hA1:Loc (w.alloc (.cells #[.int .i64 c.what,txt c.name,.int .i64 c.pa,.int .i64 c.pn,.int .i64 c.len,.int .i64 c.ad,txt c.owner] 33)) To a 69 #[ptrV d,.map (some m)]:=(Loc.mk q2 q4).alloc _
 have hD2:=hD1.alloc (.cells #[.int .i64 0,.int .i64 0,.int .i64 0,.string { data:=#[] },.slice none 0 0] 46)
 have hC2:=hC1.alloc (.cells #[.int .i64 0,.int .i64 0,.int .i64 0,.string { data:=#[] },.slice none 0 0] 46)
 have hA2:=hA1.alloc (.cells #[.int .i64 0,.int .i64 0,.int .i64 0,.string { data:=#[] },.slice none 0 0] 46)
 have hR2:=Loc.new hD1.dk 46 #[.int .i64 0,.int .i64 0,.int .i64 0,.string { data:=#[] },.slice none 0 0]
 rw [World.size_alloc] at hR2
 have hM2:=q3.below (((Below.refl w.heap.size w).alloc (Nat.le_refl _) (.cells #[.int .i64 c.what,txt c.name,.int .i64 c.pa,.int .i64 c.pn,.int .i64 c.len,.int .i64 c.ad,txt c.owner] 33)).alloc (by simp) (.cells #[.int .i64 0,.int .i64 0,.int .i64 0,.string { data:=#[] },.slice none 0 0] 46)) q3.map.lt
 have HQ2:=Hd q2
 have HQ3:=Hd q3
 have HQ:=Hd (show ¬ To a∧¬ To m∧T a∧T m∧(∀ q,To q→T q)∧a≠m from ⟨q4,q5,q6,q7,q8,q9⟩)
 have HAW:=Hd (show a≠w.heap.size+1 by have:=q2.lt;omega)
 clear o q1 q2 q3 q4 q5 q6 q7 q8 q9 hD1 hC1 hA1
 unfold CallV
 go_enter Tryz.func10,Tryz.ntmps10
 go_upto_region 1 with fail
 refine wp_name (fun w2 HW=>?_)
 rw [← HW.out] at hD2 hC2 hR2 hA2 hM2
 clear HW
 obtain ⟨kl,hkl⟩:=txt_key who (len_max hw)
 rcases hM2.look strKey mapStr (zeroInt w2) who hkl true with ⟨hf,hrun⟩ | ⟨id,hf,hrun⟩
 ·simp only [if_true] at hrun
  have HR:=Hd (show h.ask who c=(noAns,4,h) by unfold Hl.ask;rw [hf])
  clear hf hM2
  have h0:=hA2.blk.cell 0
  have h1:=hA2.blk.cell 1
  simp at h0 h1
  obtain ⟨z0,z1,z2,z3,z4⟩:=hR2.blk.cls5
  obtain ⟨u0,u1,u2,u3,u4⟩:=hR2.blk.frs5
  simp at z0 z1 z2 z3 z4
  go_wp2
  refine bodyPost_ret (v:=.tuple #[AnsV (.slice none 0 0) noAns,.iface 71 (.int .i64 4)]) (by simp [AnsV,noAns,results,Tryz.results10,go_sem,z0,z1,z2,z3,z4,u0,u1,u2,u3,u4]) rfl ?_
  refine ⟨.slice none 0 0,by rw [HR.out];rfl,by rw [HR.out];exact OwnP.nil _ _ _,fun q=>T q∨To q,own_none,?_⟩
  rw [HR.out]
  refine HO.out.deskX (To1:=To) HQ2.out HQ3.out HQ.out (by omega) ?_
  (repeat' (first | exact hD2 | refine DKto.set ?_ ?_ ?_ _ | exact hR2.out)) <;> simp
 ·simp only [if_true] at hrun
  have HR:=Hd (show h.ask who c=((h.d.doC id c).1,(h.d.doC id c).2.1,⟨(h.d.doC id c).2.2,h.op⟩) by unfold Hl.ask;rw [hf])
  have hid:=HOK.out.ids _ (findH_mem hf)
  have HDO:=Hd (fun W T' (q:DK B W T' d h.d k)=>q.doC (by omega) hid c hc)
  unfold CallV at HDO
  unfold AnsV at HDO
  generalize h.d.doC id c=r at *
  clear hf hM2 hid hc
  have h0:=hA2.blk.cell 0
  have h1:=hA2.blk.cell 1
  simp at h0 h1
  go_upto_region 4 with fail
  clear h0 h1 hrun hkl
  have hks:∀ W:World,Blk W a 69 #[ptrV d,.map (some m)]→Blk W w.heap.size 33 #[.int .i64 c.what,txt c.name,.int .i64 c.pa,.int .i64 c.pn,.int .i64 c.len,.int .i64 c.ad,txt c.owner]→W.cell? ⟨a,0,none⟩=some (ptrV d)∧W.cell? ⟨w.heap.size,0,none⟩=some (.int .i64 c.what)∧W.cell? ⟨w.heap.size,1,none⟩=some (txt c.name)∧W.cell? ⟨w.heap.size,2,none⟩=some (.int .i64 c.pa)∧W.cell? ⟨w.heap.size,3,none⟩=some (.int .i64 c.pn)∧W.cell? ⟨w.heap.size,4,none⟩=some (.int .i64 c.len)∧W.cell? ⟨w.heap.size,5,none⟩=some (.int .i64 c.ad)∧W.cell? ⟨w.heap.size,6,none⟩=some (txt c.owner):=fun W a b=>⟨a.cell 0,b.cell 0,b.cell 1,b.cell 2,b.cell 3,b.cell 4,b.cell 5,b.cell 6⟩
  have hAd:Blk w2.drew a 69 #[ptrV d,.map (some m)]:=hA2.blk
  have hCd:Blk w2.drew w.heap.size 33 #[.int .i64 c.what,txt c.name,.int .i64 c.pa,.int .i64 c.pn,.int .i64 c.len,.int .i64 c.ad,txt c.owner]:=hC2.blk
  have hcn:w.heap.size≠w.heap.size+1:=by omega
  have han:=HAW.out
  go_region_held3 (fun W=>W.cell? ⟨a,0,none⟩=some (ptrV d)∧W.cell? ⟨w.heap.size,0,none⟩=some (.int .i64 c.what)∧W.cell? ⟨w.heap.size,1,none⟩=some (txt c.name)∧W.cell? ⟨w.heap.size,2,none⟩=some (.int .i64 c.pa)∧W.cell? ⟨w.heap.size,3,none⟩=some (.int .i64 c.pn)∧W.cell? ⟨w.heap.size,4,none⟩=some (.int .i64 c.len)∧W.cell? ⟨w.heap.size,5,none⟩=some (.int .i64 c.ad)∧W.cell? ⟨w.heap.size,6,none⟩=some (txt c.owner))
   (first
    | with_reducible exact hks _ hAd hCd
    | with_reducible exact hks _ hA3.blk hC3.blk
    | with_reducible exact hks _ (hA3.blk.far5 han _ _ _ _ _) (hC3.blk.far5 hcn _ _ _ _ _))
   ((first | (go_at_call 24;refine (HDO.out _ _ hD2.drew.dk).mono ?_;rintro e w3 ⟨v3,rfl,how3,T3,hnt3,hD23⟩;obtain ⟨A3,c3,rfl,_⟩:=how3.form;have HOW:=Hd how3;have HNT:=Hd hnt3;have hD3:=hD2.drew.step hD23;have hC3:=(hC2.bel (w2:=w2.drew) ((Below.refl _ _).drew)).step hD23;have hR3:=(hR2.bel (w2:=w2.drew) ((Below.refl _ _).drew)).step hD23;have hA3:=(hA2.bel (w2:=w2.drew) ((Below.refl _ _).drew)).step hD23;have z0:=hR3.blk.cell 0;have z1:=hR3.blk.cell 1;have z2:=hR3.blk.cell 2;have z3:=hR3.blk.cell 3;have z4:=hR3.blk.cell 4;have u0:=hR3.blk.frozen 0;have u1:=hR3.blk.frozen 1;have u2:=hR3.blk.frozen 2;have u3:=hR3.blk.frozen 3;have u4:=hR3.blk.frozen 4;simp at z0 z1 z2 z3 z4)))
  go_wp2
  refine bodyPost_ret (v:=.tuple #[AnsV (.slice A3 r.1.list.length c3) r.1,faultV r.2.1]) (by simp [AnsV,noAns,results,Tryz.results10,go_sem,z0,z1,z2,z3,z4,u0,u1,u2,u3,u4]) rfl ?_
  refine ⟨.slice A3 r.1.list.length c3,by rw [HR.out],?_,fun q=>T q∨T3 q,fun q e=>not_or.2 ⟨fun e2=>by have h1:=(World.ownsRow.lt HOW.out _ e).1;have h2:=HO.out.lt q e2;have h3:w.heap.size≤w2.drew.heap.size:=hD2.size;omega,HNT.out q e⟩,?_⟩
  ·rw [HR.out]
   have hnb:(Value.slice A3 r.1.list.length c3).ownBlock≠some (w.heap.size+1):=fun q=>by
    have h1:=(World.ownsRow.lt HOW.out _ q).1
    have h2:=hR2.blk.lt
    have h3:w2.drew.heap.size=w2.heap.size:=rfl
    omega
   exact own_fr (S:=fun q=>q=w.heap.size+1) (own_of_base HOW.out (show w.heap.size≤w2.drew.heap.size from hD2.size)) (Fr.setCell (Fr.setCell (Fr.setCell (Fr.setCell (Fr.setCell (Fr.refl (fun q=>q=w.heap.size+1) _) (p:=⟨w.heap.size+1,0,none⟩) (fun _=>rfl) _) (p:=⟨w.heap.size+1,1,none⟩) (fun _=>rfl) _) (p:=⟨w.heap.size+1,2,none⟩) (fun _=>rfl) _) (p:=⟨w.heap.size+1,3,none⟩) (fun _=>rfl) _) (p:=⟨w.heap.size+1,4,none⟩) (fun _=>rfl) _) (fun g e1 e2=>hnb (by rw [← e2];exact e1))
  rw [HR.out]
  refine HO.out.deskX (To1:=T3) HQ2.out HQ3.out HQ.out (by omega) ?_
  (repeat' (first | exact hD3 | refine DKto.set ?_ ?_ ?_ _ | exact hR3.out)) <;> simp
end
theorem join_first (b:Nat) (x:Int) (hx:x≠0) (w:World) (h0:w.cell? ⟨b,0,none⟩=some (.iface 71 (.int .i64 x))) :
  Calls Tryz.prog 27 #[.slice (some ⟨b,0,none⟩) 2 2] w fun e w'=>e=.returned (.iface 71 (.int .i64 x))∧w=w':=by
 go_enter Tryz.func27,Tryz.ntmps27
 go_wp2
 refine wp_loop_rounds 3 ?_
 rw [rounds_succ]
 go_wp2
 go_ret
 exact ⟨rfl,rfl⟩
theorem fault_shape (x:Int):faultV x=.nilIface∨faultV x=.iface 71 (.int .i64 x):=by
 unfold faultV
 by_cases h:x=0
 ·exact .inl (if_pos h)
 ·exact .inr (if_neg h)
section
variable {B : Nat} {w : World} {T : Nat → Prop} {a : Nat} {h : Hl} {k : Nat}
theorem HK.once_h (o:HK B w T a h k) (hk:k≤30000) (c:PCall) (hc:CallW c) :
  Calls Tryz.prog 15 #[ptrV a,CallV c] w fun e w'=>∃ v,e=.returned (.tuple #[AnsV v (h.once c).1,.int .i64 (h.once c).2.1,faultV (h.once c).2.2.1])∧OwnP w' w.heap.size 31 v (h.once c).1.list∧∃ T',(∀ q,v.ownBlock=some q→¬ T' q)∧HKto B w T a w' T' (h.once c).2.2.2 (k+2):=by
 have HO:=Hd o
 have HOK:=Hd o.ok
 obtain ⟨d,m,To,es,clock,q1,q2,q3,q4,q5,q6,q7,q8,q9⟩:=o.ex
 have hD1:=q1.refl.alloc (.cells #[.int .i64 c.what,txt c.name,.int .i64 c.pa,.int .i64 c.pn,.int .i64 c.len,.int .i64 c.ad,txt c.owner] 33)
 have hC1:=Loc.new q1 33 #[.int .i64 c.what,txt c.name,.int .i64 c.pa,.int .i64 c.pn,.int .i64 c.len,.int .i64 c.ad,txt c.owner]
 have hA1:Loc (w.alloc (.cells #[.int .i64 c.what,txt c.name,.int .i64 c.pa,.int .i64 c.pn,.int .i64 c.len,.int .i64 c.ad,txt c.owner] 33)) To a 69 #[ptrV d,.map (some m)]:=(Loc.mk q2 q4).alloc _
 have hD2:=hD1.alloc (.cells #[.int .i64 0,.int .i64 0,.int .i64 0,.string { data:=#[] },.slice none 0 0] 46)
 have hC2:=hC1.alloc (.cells #[.int .i64 0,.int .i64 0,.int .i64 0,.string { data:=#[] },.slice none 0 0] 46)
 have hA2:=hA1.alloc (.cells #[.int .i64 0,.int .i64 0,.int .i64 0,.string { data:=#[] },.slice none 0 0] 46)
 have hR2:=Loc.new hD1.dk 46 #[.int .i64 0,.int .i64 0,.int .i64 0,.string { data:=#[] },.slice none 0 0]
 rw [World.size_alloc] at hR2
 have hM2:=q3.below (((Below.refl w.heap.size w).alloc (Nat.le_refl _) (.cells #[.int .i64 c.what,txt c.name,.int .i64 c.pa,.int .i64 c.pn,.int .i64 c.len,.int .i64 c.ad,txt c.owner] 33)).alloc (by simp) (.cells #[.int .i64 0,.int .i64 0,.int .i64 0,.string { data:=#[] },.slice none 0 0] 46)) q3.map.lt
 have HQ2:=Hd q2
 have HQ3:=Hd q3
 have HQ:=Hd (show ¬ To a∧¬ To m∧T a∧T m∧(∀ q,To q→T q)∧a≠m from ⟨q4,q5,q6,q7,q8,q9⟩)
 have HAW:=Hd (show a≠w.heap.size+1 by have:=q2.lt;omega)
 clear o q1 q2 q3 q4 q5 q6 q7 q8 q9 hD1 hC1 hA1
 unfold CallV
 go_enter Tryz.func15,Tryz.ntmps15
 go_upto_region 1 with fail
 refine wp_name (fun w2 HW=>?_)
 rw [← HW.out] at hD2 hC2 hR2 hA2 hM2
 clear HW
 clear hM2
 have HBG:=Hd (hD2.dk.begin (by omega))
 have HBZ:=Hd (begin_zero (g:=h.d))
 have HIDS:=Hd (show 0≤h.d.ids∧h.d.ids≤(k:Int) from hD2.dk.s.ok.hids)
 have HV:=Hd (show h.once c=if h.d.begin.2.1≠0 then (noAns,0,h.d.begin.2.1,⟨h.d.begin.2.2,h.op⟩) else ((onceD h.d.begin.2.2 h.d.begin.1 c).1,(onceD h.d.begin.2.2 h.d.begin.1 c).2.1,(onceD h.d.begin.2.2 h.d.begin.1 c).2.2.1,⟨(onceD h.d.begin.2.2 h.d.begin.1 c).2.2.2,h.op⟩) from rfl)
 generalize h.d.begin=rb at *
 have h0:=hA2.blk.cell 0
 have h1:=hA2.blk.cell 1
 simp at h0 h1
 go_wp2_with fail
 refine HBG.out.mono ?_
 rintro e w3 ⟨rfl,T3,hD23⟩
 have hD3:=hD2.step hD23;have hC3:=hC2.step hD23;have hR3:=hR2.step hD23;have hA3:=hA2.step hD23
 clear hD2 hC2 hR2 hA2 hD23 HBG h0 h1
 obtain ⟨id,f,g1⟩:=rb
 dsimp only at HV HBZ hD3
 by_cases hz:f≠0
 ·have HR:=Hd (show h.once c=(noAns,0,f,⟨g1,h.op⟩) by rw [HV.out,if_pos hz])
  have HF:=Hd (show faultV f=.iface 71 (.int .i64 f) by unfold faultV;rw [if_neg hz])
  rw [HF.out]
  clear hz HV
  obtain ⟨z0,z1,z2,z3,z4⟩:=hR3.blk.cls5
  obtain ⟨u0,u1,u2,u3,u4⟩:=hR3.blk.frs5
  simp at z0 z1 z2 z3 z4
  go_wp2
  refine bodyPost_ret (v:=.tuple #[AnsV (.slice none 0 0) noAns,.int .i64 0,.iface 71 (.int .i64 f)]) (by simp [AnsV,noAns,results,Tryz.results15,go_sem,z0,z1,z2,z3,z4,u0,u1,u2,u3,u4]) rfl ?_
  refine ⟨.slice none 0 0,by rw [HR.out];exact congrArg (fun x=>Ending.returned (.tuple #[AnsV (.slice none 0 0) noAns,.int .i64 0,x])) HF.out.symm,by rw [HR.out];exact OwnP.nil _ _ _,fun q=>T q∨T3 q,own_none,?_⟩
  rw [HR.out]
  refine HO.out.deskX (To1:=T3) HQ2.out HQ3.out HQ.out (by omega) ?_
  refine DKto.more (k1:=(k+1)) ?_ (by omega)
  (repeat' (first | exact hD3 | refine DKto.set ?_ ?_ ?_ _ | exact hR3.out)) <;> simp
 obtain rfl:f=0:=Decidable.not_not.1 hz
 rw [show faultV 0=.nilIface from rfl]
 have hid:(Lit.int .i64 id).wf=true:=wf_i64 (by rw [HBZ.out rfl];have:=HIDS.out;omega)
 have HV2:=Hd (show h.once c=((onceD g1 id c).1,(onceD g1 id c).2.1,(onceD g1 id c).2.2.1,⟨(onceD g1 id c).2.2.2,h.op⟩) by rw [HV.out,if_neg (by simp)])
 have HW:=Hd (show onceD g1 id c=if (g1.doC id c).2.1≠0 then (noAns,0,(g1.doC id c).2.1,((g1.doC id c).2.2.abort id).2) else if ((g1.doC id c).2.2.commit id).2.1≠0 then (noAns,0,((g1.doC id c).2.2.commit id).2.1,((g1.doC id c).2.2.commit id).2.2) else ((g1.doC id c).1,((g1.doC id c).2.2.commit id).1,0,((g1.doC id c).2.2.commit id).2.2) from rfl)
 have HDO:=Hd (fun W T' (q:DK B W T' d g1 (k+1))=>q.doC (by omega) hid c hc)
 have HNO:=Hd (g1.doC_no id c)
 have HID:=Hd hid
 unfold CallV at HDO
 unfold AnsV at HDO
 generalize g1.doC id c=r at *
 clear hz hid hc HV
 have h0:=hA3.blk.cell 0
 have h1:=hA3.blk.cell 1
 simp at h0 h1
 go_upto_region 4 with fail
 clear h0 h1
 have hks:∀ W:World,Blk W a 69 #[ptrV d,.map (some m)]→Blk W w.heap.size 33 #[.int .i64 c.what,txt c.name,.int .i64 c.pa,.int .i64 c.pn,.int .i64 c.len,.int .i64 c.ad,txt c.owner]→W.cell? ⟨a,0,none⟩=some (ptrV d)∧W.cell? ⟨w.heap.size,0,none⟩=some (.int .i64 c.what)∧W.cell? ⟨w.heap.size,1,none⟩=some (txt c.name)∧W.cell? ⟨w.heap.size,2,none⟩=some (.int .i64 c.pa)∧W.cell? ⟨w.heap.size,3,none⟩=some (.int .i64 c.pn)∧W.cell? ⟨w.heap.size,4,none⟩=some (.int .i64 c.len)∧W.cell? ⟨w.heap.size,5,none⟩=some (.int .i64 c.ad)∧W.cell? ⟨w.heap.size,6,none⟩=some (txt c.owner):=fun W a b=>⟨a.cell 0,b.cell 0,b.cell 1,b.cell 2,b.cell 3,b.cell 4,b.cell 5,b.cell 6⟩
 have hAd:Blk w3.drew a 69 #[ptrV d,.map (some m)]:=hA3.blk
 have hCd:Blk w3.drew w.heap.size 33 #[.int .i64 c.what,txt c.name,.int .i64 c.pa,.int .i64 c.pn,.int .i64 c.len,.int .i64 c.ad,txt c.owner]:=hC3.blk
 have hcn:w.heap.size≠w.heap.size+1:=by omega
 have han:=HAW.out
 go_region_held3 (fun W=>W.cell? ⟨a,0,none⟩=some (ptrV d)∧W.cell? ⟨w.heap.size,0,none⟩=some (.int .i64 c.what)∧W.cell? ⟨w.heap.size,1,none⟩=some (txt c.name)∧W.cell? ⟨w.heap.size,2,none⟩=some (.int .i64 c.pa)∧W.cell? ⟨w.heap.size,3,none⟩=some (.int .i64 c.pn)∧W.cell? ⟨w.heap.size,4,none⟩=some (.int .i64 c.len)∧W.cell? ⟨w.heap.size,5,none⟩=some (.int .i64 c.ad)∧W.cell? ⟨w.heap.size,6,none⟩=some (txt c.owner))
  (first
   | with_reducible exact hks _ hAd hCd
   | with_reducible exact hks _ hA4.blk hC4.blk
   | with_reducible exact hks _ (hA4.blk.far5 han _ _ _ _ _) (hC4.blk.far5 hcn _ _ _ _ _))
  ((first | (go_at_call 24;refine (HDO.out _ _ hD3.drew.dk).mono ?_;rintro e w4 ⟨v4,rfl,how4,T4,hnt4,hD34⟩;obtain ⟨A4,c4,rfl,_⟩:=how4.form;have HOW:=Hd how4;have HNT:=Hd hnt4;have hD4:=hD3.drew.step hD34;have hC4:=(hC3.bel (w2:=w3.drew) ((Below.refl _ _).drew)).step hD34;have hR4:=(hR3.bel (w2:=w3.drew) ((Below.refl _ _).drew)).step hD34;have hA4:=(hA3.bel (w2:=w3.drew) ((Below.refl _ _).drew)).step hD34;have z0:=hR4.blk.cell 0;have z1:=hR4.blk.cell 1;have z2:=hR4.blk.cell 2;have z3:=hR4.blk.cell 3;have z4:=hR4.blk.cell 4;have u0:=hR4.blk.frozen 0;have u1:=hR4.blk.frozen 1;have u2:=hR4.blk.frozen 2;have u3:=hR4.blk.frozen 3;have u4:=hR4.blk.frozen 4;simp at z0 z1 z2 z3 z4)))
 go_upto_region 5 with fail
 refine wp_name (fun w5 HW5=>?_)
 have hD5:DKto B w To d w5 T4 r.2.2 (k+1):=by
  rw [HW5.out]
  (repeat' (first | exact hD4 | refine DKto.set ?_ ?_ ?_ _ | exact hR4.out)) <;> simp
 have hA5:Loc w5 T4 a 69 #[ptrV d,.map (some m)]:=by rw [HW5.out];exact ⟨hA4.blk.far5 HAW.out _ _ _ _ _,hA4.out⟩
 have hR5:Loc w5 T4 (w.heap.size+1) 46 #[.int .i64 r.1.pa,.int .i64 r.1.pn,.int .i64 r.1.ad,txt r.1.owner,.slice A4 r.1.list.length c4]:=by rw [HW5.out];exact (((((hR4.set 0 _).set 1 _).set 2 _).set 3 _).set 4 _)
 have HOW5:Hid (OwnP w5 w.heap.size 31 (.slice A4 r.1.list.length c4) r.1.list):=by
  have hnb:(Value.slice A4 r.1.list.length c4).ownBlock≠some (w.heap.size+1):=fun q=>by
   have h1:=(World.ownsRow.lt HOW.out _ q).1
   have h2:=hR3.blk.lt
   have h3:w3.drew.heap.size=w3.heap.size:=rfl
   omega
  rw [HW5.out]
  exact Hd (own_fr (S:=fun q=>q=w.heap.size+1) (own_of_base HOW.out (show w.heap.size≤w3.drew.heap.size from hD3.size)) (Fr.setCell (Fr.setCell (Fr.setCell (Fr.setCell (Fr.setCell (Fr.refl (fun q=>q=w.heap.size+1) _) (p:=⟨w.heap.size+1,0,none⟩) (fun _=>rfl) _) (p:=⟨w.heap.size+1,1,none⟩) (fun _=>rfl) _) (p:=⟨w.heap.size+1,2,none⟩) (fun _=>rfl) _) (p:=⟨w.heap.size+1,3,none⟩) (fun _=>rfl) _) (p:=⟨w.heap.size+1,4,none⟩) (fun _=>rfl) _) (fun g e1 e2=>hnb (by rw [← e2];exact e1)))
 have HRB:Hid (∀ q,(Value.slice A4 r.1.list.length c4).ownBlock=some q→¬ T4 q):=HNT
 have HNB5:Hid ((Value.slice A4 r.1.list.length c4).ownBlock≠some (w.heap.size+1)):=Hd (fun q=>by
   have h1:=(World.ownsRow.lt HOW.out _ q).1
   have h2:=hR3.blk.lt
   have h3:w3.drew.heap.size=w3.heap.size:=rfl
   omega)
 clear HW5 hD3 hA3 hR3 hC3 hD4 hA4 hR4 hC4 hD34 how4 hnt4 HOW HDO hks hAd hCd han hcn z0 z1 z2 z3 z4 u0 u1 u2 u3 u4
 by_cases hf:r.2.1≠0
 ·have HF:=Hd (fault_num hf)
  have HNZ:=Hd hf
  have HAB:=Hd (hD5.dk.abort HID.out)
  have HR:=Hd (show h.once c=(noAns,0,r.2.1,⟨(r.2.2.abort id).2,h.op⟩) by rw [HV2.out,HW.out,if_pos hf])
  rw [HF.out]
  clear hf HNO HV2 HW
  have h0:=hA5.blk.cell 0
  have h1:=hA5.blk.cell 1
  simp at h0 h1
  go_wp2_with fail
  refine HAB.out.mono ?_
  rintro e w6 ⟨rfl,T6,hD56⟩
  have hD6:=hD5.step hD56
  have hR6:=hR5.step hD56
  clear hD5 hA5 hR5 hD56 HAB h0 h1 HOW5
  rcases fault_shape (r.2.2.abort id).1 with hfs | hfs
  ·rw [hfs]
   clear hfs
   have hD7:=hD6.alloc (.cells #[.iface 71 (.int .i64 r.2.1),.nilIface] 26)
   have hR7:=hR6.alloc (.cells #[.iface 71 (.int .i64 r.2.1),.nilIface] 26)
   have hJ:(w6.alloc (.cells #[.iface 71 (.int .i64 r.2.1),.nilIface] 26)).cell? ⟨w6.heap.size,0,none⟩=some (.iface 71 (.int .i64 r.2.1)):=(Blk.new w6 26 #[.iface 71 (.int .i64 r.2.1),.nilIface]).cell 0
   have HJ:=Hd (join_first w6.heap.size r.2.1 HNZ.out _ hJ)
   clear hJ
   go_wp2_with fail
   refine HJ.out.mono ?_
   rintro e w7 ⟨rfl,rfl⟩
   clear HJ
   obtain ⟨z0,z1,z2,z3,z4⟩:=hR7.blk.cls5
   obtain ⟨u0,u1,u2,u3,u4⟩:=hR7.blk.frs5
   simp at z0 z1 z2 z3 z4
   go_wp2
   refine bodyPost_ret (v:=.tuple #[AnsV (.slice none 0 0) noAns,.int .i64 0,.iface 71 (.int .i64 r.2.1)]) (by simp [AnsV,noAns,results,Tryz.results15,go_sem,z0,z1,z2,z3,z4,u0,u1,u2,u3,u4]) rfl ?_
   refine ⟨.slice none 0 0,by rw [HR.out];exact congrArg (fun x=>Ending.returned (.tuple #[AnsV (.slice none 0 0) noAns,.int .i64 0,x])) HF.out.symm,by rw [HR.out];exact OwnP.nil _ _ _,fun q=>T q∨T6 q,own_none,?_⟩
   rw [HR.out]
   refine HO.out.deskX (To1:=T6) HQ2.out HQ3.out HQ.out (by omega) ?_
   refine DKto.more (k1:=(k+1)) ?_ (by omega)
   (repeat' (first | exact hD7 | refine DKto.set ?_ ?_ ?_ _ | exact hR7.out)) <;> simp
  ·rw [hfs]
   generalize (r.2.2.abort id).1=fy
   clear hfs
   have hD7:=hD6.alloc (.cells #[.iface 71 (.int .i64 r.2.1),.iface 71 (.int .i64 fy)] 26)
   have hR7:=hR6.alloc (.cells #[.iface 71 (.int .i64 r.2.1),.iface 71 (.int .i64 fy)] 26)
   have hJ:(w6.alloc (.cells #[.iface 71 (.int .i64 r.2.1),.iface 71 (.int .i64 fy)] 26)).cell? ⟨w6.heap.size,0,none⟩=some (.iface 71 (.int .i64 r.2.1)):=(Blk.new w6 26 #[.iface 71 (.int .i64 r.2.1),.iface 71 (.int .i64 fy)]).cell 0
   have HJ:=Hd (join_first w6.heap.size r.2.1 HNZ.out _ hJ)
   clear hJ
   go_wp2_with fail
   refine HJ.out.mono ?_
   rintro e w7 ⟨rfl,rfl⟩
   clear HJ
   obtain ⟨z0,z1,z2,z3,z4⟩:=hR7.blk.cls5
   obtain ⟨u0,u1,u2,u3,u4⟩:=hR7.blk.frs5
   simp at z0 z1 z2 z3 z4
   go_wp2
   refine bodyPost_ret (v:=.tuple #[AnsV (.slice none 0 0) noAns,.int .i64 0,.iface 71 (.int .i64 r.2.1)]) (by simp [AnsV,noAns,results,Tryz.results15,go_sem,z0,z1,z2,z3,z4,u0,u1,u2,u3,u4]) rfl ?_
   refine ⟨.slice none 0 0,by rw [HR.out];exact congrArg (fun x=>Ending.returned (.tuple #[AnsV (.slice none 0 0) noAns,.int .i64 0,x])) HF.out.symm,by rw [HR.out];exact OwnP.nil _ _ _,fun q=>T q∨T6 q,own_none,?_⟩
   rw [HR.out]
   refine HO.out.deskX (To1:=T6) HQ2.out HQ3.out HQ.out (by omega) ?_
   refine DKto.more (k1:=(k+1)) ?_ (by omega)
   (repeat' (first | exact hD7 | refine DKto.set ?_ ?_ ?_ _ | exact hR7.out)) <;> simp
 have hf:r.2.1=0:=Decidable.not_not.1 hf
 rw [show faultV r.2.1=.nilIface by rw [hf];rfl]
 have HCM:=Hd (hD5.dk.commit (id:=id) (by omega) HID.out)
 have HW2:=Hd (show onceD g1 id c=if (r.2.2.commit id).2.1≠0 then (noAns,0,(r.2.2.commit id).2.1,(r.2.2.commit id).2.2) else (r.1,(r.2.2.commit id).1,0,(r.2.2.commit id).2.2) by rw [HW.out,if_neg (by rw [hf];simp)])
 clear hf HW HNO
 generalize r.2.2.commit id=rc at *
 have h0:=hA5.blk.cell 0
 have h1:=hA5.blk.cell 1
 simp at h0 h1
 go_wp2_with fail
 refine HCM.out.mono ?_
 rintro e w6 ⟨rfl,T6,hD56⟩
 have hD6:=hD5.step hD56
 have hR6:=hR5.step hD56
 have HOW6:=Hd (own_fr HOW5.out hD56.fr HRB.out)
 have HNT6:=Hd (show ∀ q,(Value.slice A4 r.1.list.length c4).ownBlock=some q→¬ (T q∨T6 q) from fun q e=>not_or.2 ⟨fun e2=>by have h1:=(World.ownsRow.lt HOW5.out _ e).1;have h2:=HO.out.lt q e2;omega,fun e2=>(hD56.new q e2).elim (HNT.out q e) (fun e3=>by have h1:=(World.ownsRow.lt HOW5.out _ e).2;omega)⟩)
 clear hD5 hA5 hR5 HCM h0 h1 HOW5
 obtain ⟨n,f,g3⟩:=rc
 dsimp only at HW2 hD6
 by_cases hf:f≠0
 ·have HF:=Hd (fault_num hf)
  have HR:=Hd (show h.once c=(noAns,0,f,⟨g3,h.op⟩) by rw [HV2.out,HW2.out,if_pos hf])
  rw [HF.out]
  clear hf HV2 HW2 hD56 HOW6
  obtain ⟨z0,z1,z2,z3,z4⟩:=hR6.blk.cls5
  obtain ⟨u0,u1,u2,u3,u4⟩:=hR6.blk.frs5
  simp at z0 z1 z2 z3 z4
  go_wp2
  refine bodyPost_ret (v:=.tuple #[AnsV (.slice none 0 0) noAns,.int .i64 0,.iface 71 (.int .i64 f)]) (by simp [AnsV,noAns,results,Tryz.results15,go_sem,z0,z1,z2,z3,z4,u0,u1,u2,u3,u4]) rfl ?_
  refine ⟨.slice none 0 0,by rw [HR.out];exact congrArg (fun x=>Ending.returned (.tuple #[AnsV (.slice none 0 0) noAns,.int .i64 0,x])) HF.out.symm,by rw [HR.out];exact OwnP.nil _ _ _,fun q=>T q∨T6 q,own_none,?_⟩
  rw [HR.out]
  refine HO.out.deskX (To1:=T6) HQ2.out HQ3.out HQ.out (by omega) ?_
  refine DKto.more (k1:=(k+1+1)) ?_ (by omega)
  (repeat' (first | exact hD6 | refine DKto.set ?_ ?_ ?_ _ | exact hR6.out)) <;> simp
 obtain rfl:f=0:=Decidable.not_not.1 hf
 have HR:=Hd (show h.once c=(r.1,n,0,⟨g3,h.op⟩) by rw [HV2.out,HW2.out,if_neg (by simp)])
 rw [show faultV 0=.nilIface from rfl]
 clear hf HV2 HW2 hD56
 obtain ⟨z0,z1,z2,z3,z4⟩:=hR6.blk.cls5
 obtain ⟨u0,u1,u2,u3,u4⟩:=hR6.blk.frs5
 simp at z0 z1 z2 z3 z4
 go_wp2
 refine bodyPost_ret (v:=.tuple #[AnsV (.slice A4 r.1.list.length c4) r.1,.int .i64 n,.nilIface]) (by simp [AnsV,noAns,results,Tryz.results15,go_sem,z0,z1,z2,z3,z4,u0,u1,u2,u3,u4]) rfl ?_
 refine ⟨.slice A4 r.1.list.length c4,by rw [HR.out];rfl,?_,fun q=>T q∨T6 q,HNT6.out,?_⟩
 ·rw [HR.out]
  exact own_fr (S:=fun q=>q=w.heap.size+1) HOW6.out (Fr.setCell (Fr.setCell (Fr.setCell (Fr.setCell (Fr.setCell (Fr.refl (fun q=>q=w.heap.size+1) _) (p:=⟨w.heap.size+1,0,none⟩) (fun _=>rfl) _) (p:=⟨w.heap.size+1,1,none⟩) (fun _=>rfl) _) (p:=⟨w.heap.size+1,2,none⟩) (fun _=>rfl) _) (p:=⟨w.heap.size+1,3,none⟩) (fun _=>rfl) _) (p:=⟨w.heap.size+1,4,none⟩) (fun _=>rfl) _) (fun g e1 e2=>HNB5.out (by rw [← e2];exact e1))
 rw [HR.out]
 refine HO.out.deskX (To1:=T6) HQ2.out HQ3.out HQ.out (by omega) ?_
 (repeat' (first | exact hD6 | refine DKto.set ?_ ?_ ?_ _ | exact hR6.out)) <;> simp
end
theorem PCallW.w {c:PCall} (h:PCallW c):CallW c:=⟨h.what,h.name,h.pa,h.pn,h.len,h.ad,h.owner⟩
section
variable {B : Nat} {w w' : World} {Tx Ty T' : Nat → Prop} {ax ay bc : Nat} {cs : Array Value} {hx hy h' : Hl} {kx ky k' : Nat}
variable {b : Nat} {t : TypeId} {cb : Array Value}
variable {base : Nat} {v : Value} {l : List Pf}
end
theorem rd_of' {w:World} {base:Nat} {A:Option Addr} {c:Nat} {L:List KV} (h:OwnKV w base (.slice A L.length c) L):Rd w w.heap.size A (flatE encKV L):=by
 obtain ⟨A',c',e,h1⟩:=h.rd
 injection e with e1 e2 e3
 subst e1
 exact h1
theorem faultV_no {f:Int} (h:f≠0):faultV f=.iface 71 (.int .i64 f):=by unfold faultV;rw [if_neg h]
theorem fault_zero0:faultV 0=.nilIface:=rfl
def hQ:Hl:=⟨gNext (Dk.new 100000) ⟨nKey [113],[111],false⟩,[]⟩
section
variable {h : Hl}
theorem HOrd.hopen (o:HOrd h.d) (who:List UInt8):HOrd (h.open who).2.d:=by
 unfold Hl.open
 split
 ·exact o
 ·split
  ·exact o
  ·split
   ·exact o.begin
   ·exact o.begin
theorem HOrd.hask (o:HOrd h.d) (who:List UInt8) (c:PCall):HOrd (h.ask who c).2.2.d:=by
 unfold Hl.ask
 split
 ·exact o
 ·exact o.do _ c
theorem HOrd.hclose (o:HOrd h.d) (who:List UInt8):HOrd (h.close who).2.2.d:=by
 unfold Hl.close
 split
 ·exact o
 ·exact o.commit _
theorem HOrd.honce (o:HOrd h.d) (c:PCall):HOrd (h.once c).2.2.2.d:=by
 unfold Hl.once
 split
 ·exact o.begin
 ·show HOrd (onceD h.d.begin.2.2 h.d.begin.1 c).2.2.2
  unfold onceD
  split
  ·exact (o.begin.do _ c).abort _
  ·split
   ·exact (o.begin.do _ c).commit _
   ·exact (o.begin.do _ c).commit _
end
theorem inB_top {s:List UInt8} (h:(keyI s).kind≠0):inB [] topKey s=true:=by
 have hle:=keyI_le s
 have key:∃ b l,s=b::l∧b < 255:=by
  by_cases h1:(keyI s).kind=1
  ·exact ⟨_,_,(keyI_1 h1).1,by decide⟩
  ·by_cases h2:(keyI s).kind=2
   ·obtain ⟨x,q,_⟩:=keyI_2 h2
    exact ⟨_,_,q,by decide⟩
   ·obtain ⟨x,q,_⟩:=keyI_3 (show (keyI s).kind=3 by omega)
    exact ⟨_,_,q,by decide⟩
 obtain ⟨b,l,e,hb⟩:=key
 rw [e]
 unfold inB topKey
 rw [lessB_nil]
 show (!false && (decide (b < 255) || (b == 255 && lessB l _)))=true
 rw [decide_eq_true hb]
 rfl
theorem aud_ok {F:List UInt8→List Ver} {n:Int} {L:List KV} (hr:RangeIs F [] topKey n L) (ho:OrdV (fun s=>tell F s n)):∀ i (hi:i < L.length),auAt L i L[i]=0:=by
 intro i hi
 have hm:(L[i].1,L[i].2) ∈ L:=List.getElem_mem hi
 have ht:=((hr.mem _ _).1 hm).2
 have hk:=ho.each _ _ ht
 have hin:∀ s,tell F s n≠none→∃ v,(s,v) ∈ L:=fun s hs=>by
  obtain ⟨v,hv⟩:=some_ne hs
  exact ⟨v,(hr.mem s v).2 ⟨inB_top (ho.each s v hv).1,hv⟩⟩
 unfold auAt
 rw [if_neg,if_neg (fun q=>q (ownE_zero.2 hk))]
 ·split
  ·rfl
  ·rename_i h1
   obtain ⟨s',q1,q2,q3⟩:=ho.net L[i].1 (by show tell F _ n≠none;rw [ht];simp)
   obtain ⟨v',hv'⟩:=hin s' q1
   have hnet:netIn L (keyI L[i].1).net=true:=by
    unfold netIn
    refine List.any_eq_true.2 ⟨_,hv',decide_eq_true ?_⟩
    have:=(keyI_1 q2).1
    rw [q3] at this
    exact this
   rw [if_neg (by rw [hnet];decide),if_neg]
   rintro ⟨h3,h4⟩
   obtain ⟨s2,r1,r2,r3,r4⟩:=ho.cov L[i].1 (by show tell F _ n≠none;rw [ht];simp) h3
   obtain ⟨v2,hv2⟩:=hin s2 r1
   have:(pfxOf L (keyI L[i].1).net).any (fun q=>inP ((keyI L[i].1).ad:Int) 32 q.1 q.2)=true:=by
    refine List.any_eq_true.2 ⟨_,List.mem_filterMap.2 ⟨_,hv2,?_⟩,r4⟩
    unfold pfxAt
    rw [if_pos ⟨r2,r3⟩]
   rw [this] at h4
   cases h4
 ·rintro ⟨h1,h2⟩
  rw [getD_at L (show i - 1 < L.length by omega)] at h2
  have:=List.pairwise_iff_getElem.1 hr.rise (i - 1) i (by omega) hi (by omega)
  rw [this] at h2
  cases h2
def Same3 (g g':Dk):Prop:=g'.all=g.all∧g'.F=g.F∧g'.ns=g.ns
theorem Same3.refl (g:Dk):Same3 g g:=⟨rfl,rfl,rfl⟩
theorem Same3.trans {a b c:Dk} (h:Same3 a b) (k:Same3 b c):Same3 a c:=⟨k.1.trans h.1,k.2.1.trans h.2.1,k.2.2.trans h.2.2⟩
theorem get_keeps (g:Dk) (id:Int) (s:List UInt8):Same3 g (g.get id s).2.2:=by
 unfold Dk.get
 split
 ·exact Same3.refl g
 ·split
  ·exact Same3.refl g
  ·split
   ·exact Same3.refl g
   ·exact ⟨rfl,rfl,rfl⟩
theorem range_keeps (g:Dk) (id:Int) (lo hi:List UInt8):Same3 g (g.range id lo hi).2:=by
 unfold Dk.range
 split
 ·exact Same3.refl g
 ·split
  ·exact Same3.refl g
  ·exact ⟨rfl,rfl,rfl⟩
theorem run_keeps {α:Type} (id:Int):∀ (p:DP α) (g:Dk),Same3 g (p.run id g).2
 | .ret a,g=>Same3.refl g
 | .get s k,g=>(get_keeps g id s).trans (run_keeps id (k ((g.get id s).1,(g.get id s).2.1)) (g.get id s).2.2)
 | .range lo hi k,g=>(range_keeps g id lo hi).trans (run_keeps id (k ((g.range id lo hi).1,g.rangeL id lo hi)) (g.range id lo hi).2)
 | .chg c k,g=>Same3.trans (show Same3 g (g.change id c).2 from change_keeps g id c) (run_keeps id (k (g.change id c).1) (g.change id c).2)
theorem doC_keeps (g:Dk) (id:Int) (c:PCall):Same3 g (g.doC id c).2.2:=by
 rw [← doC_run g id c]
 exact run_keeps id (doP c) g
section
variable {h : Hl}
theorem open_keeps (h:Hl) (who:List UInt8):Same3 h.d (h.open who).2.d:=by
 unfold Hl.open
 split
 ·exact Same3.refl _
 ·split
  ·exact Same3.refl _
  ·split <;> exact begin_keeps h.d
theorem ask_keeps (h:Hl) (who:List UInt8) (c:PCall):Same3 h.d (h.ask who c).2.2.d:=by
 unfold Hl.ask
 split
 ·exact Same3.refl _
 ·exact doC_keeps _ _ _
end
section
variable {B : Nat} {w w' : World} {T T' : Nat → Prop} {a : Nat} {h h' : Hl} {k k' : Nat} {R : Nat → Prop} {v v' u : Value} {Ls : List (List KV)} {L : List KV}
end
theorem rise_at:∀ (l:List Chg) (p:Option Chg),riseOk p l=true→RiseC l∧∀ q,p=some q→∀ c ∈ l,lessB q.key c.key=true
 | [],p,_=>⟨List.Pairwise.nil,fun q _ c hc=>by cases hc⟩
 | x::l,p,h=>by
  unfold riseOk at h
  simp only [Bool.and_eq_true] at h
  obtain ⟨⟨h1,h2⟩,h3⟩:=h
  obtain ⟨h4,h5⟩:=rise_at l (some x) h3
  have h5:=h5 x rfl
  refine ⟨List.pairwise_cons.2 ⟨h5,h4⟩,?_⟩
  rintro q rfl c hc
  have hq:lessB q.key x.key=true:=by
   simp at h2
   exact lessB_of h2.1 (fun e=>h2.2 e.symm)
  rcases List.mem_cons.1 hc with rfl | hc
  ·exact hq
  ·exact lessB_trans hq (h5 c hc)
theorem rise_of {l:List Chg} (h:chgFault l=0):RiseC l:=(rise_at l none (chgFault_zero.1 h).2).1
def stZ:St:=⟨0,[],[],[]⟩
section
variable {ι α : Type} (P : ι → DP α)
noncomputable def runL (β:Base):List ι→St→List α × St
 | [],t=>([],t)
 | c::cs,t=>(((P c).runS β t).1::(runL β cs ((P c).runS β t).2).1,(runL β cs ((P c).runS β t).2).2)
theorem runL_app (β:Base) (ds:List ι):∀ (cs:List ι) (t:St),runL P β (cs++ds) t=((runL P β cs t).1++(runL P β ds (runL P β cs t).2).1,(runL P β ds (runL P β cs t).2).2)
 | [],t=>rfl
 | c::cs,t=>by
  show (((P c).runS β t).1::(runL P β (cs++ds) ((P c).runS β t).2).1,(runL P β (cs++ds) ((P c).runS β t).2).2)=_
  rw [runL_app β ds cs]
  rfl
theorem runL_snoc (β:Base) (c:ι) (cs:List ι) (t:St):runL P β (cs++[c]) t=((runL P β cs t).1++[((P c).runS β (runL P β cs t).2).1],((P c).runS β (runL P β cs t).2).2):=by
 rw [runL_app]
 rfl
theorem runL_len (β:Base):∀ (cs:List ι) (t:St),(runL P β cs t).1.length=cs.length
 | [],t=>rfl
 | c::cs,t=>by
  unfold runL
  rw [List.length_cons,List.length_cons,runL_len β cs]
theorem runL_le (β:Base):∀ (cs:List ι) (t:St),StLe t (runL P β cs t).2
 | [],t=>StLe.refl _
 | c::cs,t=>(DP.runS_le β (P c) t).trans (runL_le β cs _)
theorem runL_agree {β β':Base}:∀ (cs:List ι) (t:St),AgreeB β β' (runL P β cs t).2→runL P β' cs t=runL P β cs t
 | [],t,h=>rfl
 | c::cs,t,h=>by
  have e:=DP.runS_agree (P c) t (h.le (runL_le P β cs _))
  have e2:=runL_agree cs ((P c).runS β t).2 h
  unfold runL
  rw [e,e2]
end
structure SerG (g:Dk) (R:Int):Prop where
 F:g.F=replay noF 0 g.all
 good:GoodR g.F g.last
 nod:(g.op.map Tr.id).Nodup
 bnd:∀ t ∈ g.op,t.id≤g.ids∧0≤t.sees∧t.sees≤g.last
 down:g.lg.down=false
 left:g.lg.left < 0
 room:g.lg.room=R
 B:g.lg.B=frames g.all
 fit:((frames g.all).length:Int)≤R
 ok:∀ l ∈ g.all,chgFault l=0
section
variable {g : Dk} {R : Int}
theorem SerG.begin (h:SerG g R):SerG g.begin.2.2 R:=by
 unfold Dk.begin
 split
 ·exact h
 ·split
  ·exact h
  ·refine ⟨h.F,h.good,?_,fun t ht=>?_,h.down,h.left,h.room,h.B,h.fit,h.ok⟩
   ·show ((g.op++[_]).map Tr.id).Nodup
    rw [List.map_append,List.nodup_append]
    refine ⟨h.nod,by simp,?_⟩
    intro a ha b hb e
    simp at hb
    subst hb
    subst e
    obtain ⟨t,ht,e⟩:=List.mem_map.1 ha
    have:=(h.bnd t ht).1
    omega
   ·rcases List.mem_append.1 ht with ht | ht
    ·have:=h.bnd t ht
     exact ⟨by show t.id≤g.ids+1;omega,this.2⟩
    ·simp at ht
     subst ht
     exact ⟨Int.le_refl _,by show 0≤g.last;unfold Dk.last;omega,Int.le_refl _⟩
theorem SerG.set (h:SerG g R) {id:Int} {t:Tr} (ht:findT g.op id=some t) (s:St):SerG (g.set (t.put s)) R:=by
 have hm:=(findT_mem ht).1
 refine ⟨h.F,h.good,by show ((setT g.op _).map Tr.id).Nodup;rw [setT_ids];exact h.nod,fun u hu=>?_,h.down,h.left,h.room,h.B,h.fit,h.ok⟩
 rcases mem_set hu with rfl | hu
 ·exact h.bnd t hm
 ·exact h.bnd u hu
theorem SerG.erase (h:SerG g R) (id:Int):SerG { g with op:=eraseT g.op id } R :=
 ⟨h.F,h.good,h.nod.sublist (List.filter_sublist.map _),fun u hu=>h.bnd u (mem_erase hu),h.down,h.left,h.room,h.B,h.fit,h.ok⟩
structure CommitR (g g':Dk) (t:Tr) (n f:Int):Prop where
 op:g'.op=eraseT g.op t.id
 ids:g'.ids=g.ids
 way:(f≠0∧n=0∧g'.all=g.all∧g'.F=g.F)∨(f=0∧t.own=[]∧n=t.sees∧g'.all=g.all∧g'.F=g.F) ∨
  (f=0∧t.own≠[]∧n=g.last+1∧g'.all=g.all++[t.own]∧g'.F=appF g.F t.own (g.last+1)∧AgreeB (baseOf g t) (fun s=>tell g.F s g.last) t.st∧chgFault t.own=0)
theorem Lg.append_way {lg:Lg} (hd:lg.down=false) (hl:lg.left < 0) (l:List Chg) :
  ((lg.append l).1≠0∧(lg.append l).2=lg)∨(lg.append l=(0,{ lg with B:=lg.B++frame l })∧chgFault l=0∧((lg.B++frame l).length:Int)≤lg.room):=by
 unfold Lg.append
 by_cases h1:chgFault l=0
 ·rw [if_neg (by simp [h1])]
  by_cases h2:lg.room < (lg.B.length:Int)+2+((encL l).length:Int)
  ·rw [if_pos h2];exact .inl ⟨(by show (3:Int)≠0;decide),rfl⟩
  ·rw [if_neg h2,if_neg (by rw [hd];decide),if_neg (by omega)]
   refine .inr ⟨?_,h1,?_⟩
   ·unfold leftS
    rw [if_neg (by omega)]
   ·rw [List.length_append,frame_length]
    push_cast
    omega
 ·rw [if_pos h1];exact .inl ⟨h1,rfl⟩
theorem SerG.commit (h:SerG g R) {id:Int} {t:Tr} (ht:findT g.op id=some t):SerG (g.commit id).2.2 R∧CommitR g (g.commit id).2.2 t (g.commit id).1 (g.commit id).2.1:=by
 obtain ⟨hm,hid⟩:=findT_mem ht
 subst hid
 unfold Dk.commit
 rw [ht]
 simp only
 split
 ·exact ⟨h.erase t.id,⟨rfl,rfl,.inl ⟨(by show (6:Int)≠0;decide),rfl,rfl,rfl⟩⟩⟩
 ·rename_i hc
  split
  ·rename_i ho
   exact ⟨h.erase t.id,⟨rfl,rfl,.inr (.inl ⟨rfl,ho,rfl,rfl,rfl⟩)⟩⟩
  ·rename_i ho
   rcases Lg.append_way h.down h.left t.own with ⟨q1,q2⟩ | ⟨q1,q2,q3⟩
   ·rw [if_neg q1,q2]
    exact ⟨h.erase t.id,⟨rfl,rfl,.inl ⟨q1,rfl,rfl,rfl⟩⟩⟩
   ·rw [q1,if_pos rfl]
    have hag:=agree_of h.good hc (h.bnd t hm).2.2
    have hr:=rise_of q2
    have hB:g.lg.B++frame t.own=frames (g.all++[t.own]):=by rw [frames_append,frames_one,h.B]
    refine ⟨?_,⟨rfl,rfl,.inr (.inr ⟨rfl,ho,rfl,rfl,rfl,hag,q2⟩)⟩⟩
    have hlast:(Dk.put { g with lg:={ g.lg with B:=g.lg.B++frame t.own },op:=eraseT g.op t.id } t.own ((g.lg.B++frame t.own).length:Int)).last=g.last+1:=by unfold Dk.last Dk.put;simp
    have hF:(Dk.put { g with lg:={ g.lg with B:=g.lg.B++frame t.own },op:=eraseT g.op t.id } t.own ((g.lg.B++frame t.own).length:Int)).F=appF g.F t.own (g.last+1):=rfl
    refine ⟨?_,by rw [hlast,hF];exact h.good.app hr,h.nod.sublist (List.filter_sublist.map _),fun u hu=>?_,h.down,h.left,h.room,hB,?_,fun l hl=>?_⟩
    ·rw [hF]
     show _=replay noF 0 (g.all++[t.own])
     rw [replay_snoc,← h.F]
     unfold Dk.last
     simp
    ·have:=h.bnd u (mem_erase hu)
     exact ⟨this.1,this.2.1,by rw [hlast];omega⟩
    ·show ((frames (g.all++[t.own])).length:Int)≤R
     rw [← hB,← h.room]
     exact q3
    ·rcases List.mem_append.1 hl with hl | hl
     ·exact h.ok l hl
     ·simp at hl;subst hl;exact q2
theorem SerG.tell_old (h:SerG g R) {id:Int} {t:Tr} (ht:findT g.op id=some t) {n:Int} (hn:n≤g.last) (s:List UInt8):tell (g.commit id).2.2.F s n=tell g.F s n:=by
 rcases (h.commit ht).2.way with ⟨_,_,_,e⟩ | ⟨_,_,_,_,e⟩ | ⟨_,_,_,_,e,_,e2⟩
 ·rw [e]
 ·rw [e]
 ·rw [e];exact tell_app_old h.good (rise_of e2) hn s
end
structure Opn (ι α:Type) where
 who:List UInt8
 id:Int
 cs:List ι
 rs:List α
structure Ovr (ι α:Type) where
 who:List UInt8
 n:Nat
 cs:List ι
 rs:List α
section
variable {ι α : Type} (P : ι → DP α) (isC : ι → α → Bool)
structure OpI (g:Dk) (op:List (Opn ι α)):Prop where
 nod:(op.map Opn.id).Nodup
 each:∀ x ∈ op,∃ t,findT g.op x.id=some t∧runL P (baseOf g t) x.cs stZ=(x.rs,t.st)
def chgd (cs:List ι) (rs:List α):Bool:=(cs.zip rs).any fun p=>isC p.1 p.2
variable {P isC}
variable {g : Dk} {R : Int} {op : List (Opn ι α)} {ov : List (Ovr ι α)}
theorem OpI.nil (g:Dk):OpI P g ([]:List (Opn ι α)):=⟨List.Pairwise.nil,fun x hx=>(by cases hx)⟩
theorem OpI.bnd (o:OpI P g op) (h:SerG g R):∀ x ∈ op,x.id≤g.ids:=fun x hx=>by
 obtain ⟨t,ht,_⟩:=o.each x hx
 obtain ⟨h1,h2⟩:=findT_mem ht
 rw [← h2]
 exact (h.bnd t h1).1
theorem OpI.begin0 (o:OpI P g op) (h:SerG g R):OpI P g.begin.2.2 op:=by
 unfold Dk.begin
 split
 ·exact o
 ·split
  ·exact o
  ·refine ⟨o.nod,fun x hx=>?_⟩
   obtain ⟨t,ht,hr⟩:=o.each x hx
   refine ⟨t,?_,hr⟩
   unfold findT at ht ⊢
   rw [List.find?_append,ht]
   rfl
theorem OpI.begin (o:OpI P g op) (h:SerG g R) (who:List UInt8) (hf:g.begin.2.1=0):OpI P g.begin.2.2 (op++[⟨who,g.begin.1,[],[]⟩]):=by
 have o0:=o.begin0 h
 have e:g.begin=(g.ids+1,0,{ g with ids:=g.ids+1,op:=g.op++[⟨g.ids+1,g.last,0,[],[],[]⟩] }):=by
  unfold Dk.begin at hf ⊢
  by_cases h1:g.op.length=8
  ·rw [if_pos h1] at hf;cases hf
  ·rw [if_neg h1] at hf ⊢
   rw [h.down] at hf ⊢
   rfl
 have hb:=o.bnd h
 rw [e] at o0 ⊢
 refine ⟨?_,fun x hx=>?_⟩
 ·rw [List.map_append,List.nodup_append]
  refine ⟨o.nod,by simp,?_⟩
  intro a ha b hb' e2
  simp at hb'
  subst hb'
  subst e2
  obtain ⟨x,hx,e3⟩:=List.mem_map.1 ha
  have:=hb x hx
  omega
 ·rcases List.mem_append.1 hx with hx | hx
  ·exact o0.each x hx
  ·simp at hx
   subst hx
   refine ⟨⟨g.ids+1,g.last,0,[],[],[]⟩,?_,rfl⟩
   show findT (g.op++[_]) (g.ids+1)=_
   have hn:g.op.find? (fun t=>t.id == g.ids+1)=none:=by
    rw [List.find?_eq_none]
    intro t ht
    have:=(h.bnd t ht).1
    simp
    omega
   unfold findT
   rw [List.find?_append,hn]
   simp
theorem nodup_ne {op:List (Opn ι α)} (hn:(op.map Opn.id).Nodup) {i k:Nat} (hi:i < op.length) (hk:k < op.length) (h:i≠k):op[i].id≠op[k].id:=fun e=>h (by
 have h1:i < (op.map Opn.id).length:=by simpa using hi
 have h2:k < (op.map Opn.id).length:=by simpa using hk
 exact (List.getElem_inj (h₀:=h1) (h₁:=h2) hn).1 (by simpa using e))
theorem OpI.ask (o:OpI P g op) (h:SerG g R) {k:Nat} (hk:k < op.length) (c:ι):∃ t,findT g.op op[k].id=some t ∧
  (P c).run op[k].id g=(((P c).runS (baseOf g t) t.st).1,g.set (t.put ((P c).runS (baseOf g t) t.st).2))∧SerG ((P c).run op[k].id g).2 R∧((P c).run op[k].id g).2.all=g.all ∧
  OpI P ((P c).run op[k].id g).2 (op.set k ⟨op[k].who,op[k].id,op[k].cs++[c],op[k].rs++[((P c).run op[k].id g).1]⟩):=by
 obtain ⟨t,ht,hr⟩:=o.each op[k] (List.getElem_mem hk)
 have hrun:=DP.run_st op[k].id (P c) g t h.nod ht
 refine ⟨t,ht,hrun,by rw [hrun];exact h.set ht _,by rw [hrun];rfl,?_⟩
 rw [hrun]
 have hid:=(findT_mem ht).2
 refine ⟨?_,fun x hx=>?_⟩
 ·rw [List.map_set]
  have:(op.map Opn.id).set k op[k].id=op.map Opn.id:=by
   have h1:k < (op.map Opn.id).length:=by simpa using hk
   have e:op[k].id=(op.map Opn.id)[k]:=by simp
   rw [e,List.set_getElem_self]
  show ((op.map Opn.id).set k op[k].id).Nodup
  rw [this]
  exact o.nod
 ·obtain ⟨i,hi,rfl⟩:=List.getElem_of_mem hx
  rw [List.length_set] at hi
  rw [List.getElem_set]
  by_cases e:k=i
  ·subst e
   rw [if_pos rfl]
   refine ⟨t.put ((P c).runS (baseOf g t) t.st).2,?_,?_⟩
   ·show findT (setT g.op _) op[k].id=_
    have:=findT_set_same (l:=g.op) (u:=t.put ((P c).runS (baseOf g t) t.st).2) (t:=t) (by rw [Tr.put_id,hid];exact ht)
    rwa [Tr.put_id,hid] at this
   ·show runL P (baseOf g t) (op[k].cs++[c]) stZ=_
    rw [runL_snoc,hr]
    rfl
  ·rw [if_neg e]
   obtain ⟨u,hu,hru⟩:=o.each op[i] (List.getElem_mem hi)
   refine ⟨u,?_,hru⟩
   show findT (setT g.op _) op[i].id=_
   rw [findT_set_other (by rw [Tr.put_id,hid];exact nodup_ne o.nod hi hk (fun q=>e q.symm))]
   exact hu
theorem OpI.drop {g':Dk} (o:OpI P g op) {k:Nat} (hk:k < op.length) (he:g'.op=eraseT g.op op[k].id) (hF:∀ t ∈ g.op,∀ s,tell g'.F s t.sees=tell g.F s t.sees):OpI P g' (op.eraseIdx k):=by
 refine ⟨o.nod.sublist ((List.eraseIdx_sublist op k).map _),fun x hx=>?_⟩
 obtain ⟨i,hik,hi⟩:=List.mem_eraseIdx_iff_getElem?.1 hx
 obtain ⟨hi',rfl⟩:=List.getElem?_eq_some_iff.1 hi
 obtain ⟨u,hu,hru⟩:=o.each op[i] (List.getElem_mem hi')
 refine ⟨u,?_,?_⟩
 ·rw [he,findT_erase_other (nodup_ne o.nod hi' hk hik)]
  exact hu
 ·have:baseOf g' u=baseOf g u:=funext fun s=>hF u (findT_mem hu).1 s
  rw [this]
  exact hru
def TellsC (P:ι→DP α) (isC:ι→α→Bool):Prop:=∀ c β t,((P c).runS β t).2.own=[] ↔ t.own=[]∧isC c ((P c).runS β t).1=false
theorem chgd_own (hC:TellsC P isC) (β:Base):∀ (cs:List ι) (t:St),(runL P β cs t).2.own=[] ↔ t.own=[]∧chgd isC cs (runL P β cs t).1=false
 | [],t=>by simp [runL,chgd]
 | c::cs,t=>by
  have ih:=chgd_own hC β cs ((P c).runS β t).2
  unfold runL
  rw [ih,hC c β t]
  unfold chgd
  simp only [List.zip_cons_cons,List.any_cons,Bool.or_eq_false_iff]
  constructor
  ·rintro ⟨⟨a,b⟩,c⟩;exact ⟨a,b,c⟩
  ·rintro ⟨a,b,c⟩;exact ⟨⟨a,b⟩,c⟩
end
section
variable {ι α : Type} {P : ι → DP α} {g : Dk} {R : Int} {all : List (List Chg)} {m : Nat} {t : Tr}
end
def CO (p:DP (PAns × Int)):Prop:=∀ β t,((p.runS β t).1.2=0→(p.runS β t).2.own≠[])∧((p.runS β t).1.2≠0→(p.runS β t).2.own=t.own)
theorem CO.no {e:Int} (h:e≠0):CO (noP e):=fun β t=>⟨fun q=>absurd q h,fun _=>rfl⟩
theorem insC_ne (c:Chg):∀ l:List Chg,insC c l≠[]
 | []=>by simp [insC]
 | x::l=>by unfold insC;split <;> (try split) <;> simp
theorem CO.chg (c:Chg) (a:PAns):CO (chgP c a):=fun β t=>by
 show ((t.change c).1=0→(t.change c).2.own≠[])∧((t.change c).1≠0→(t.change c).2.own=t.own)
 unfold St.change
 split
 ·exact ⟨fun q=>absurd q (by show ¬ (2:Int)=0;decide),fun _=>rfl⟩
 ·split
  ·exact ⟨fun q=>absurd q (by show ¬ (3:Int)=0;decide),fun _=>rfl⟩
  ·exact ⟨fun _=>insC_ne _ _,fun q=>absurd rfl q⟩
theorem CO.ite {b:Prop} [Decidable b] {p q:DP (PAns × Int)} (h1:b→CO p) (h2:¬ b→CO q):CO (if b then p else q):=by
 by_cases h:b
 ·rw [if_pos h];exact h1 h
 ·rw [if_neg h];exact h2 h
theorem CO.bind {α:Type} {p:DP α} {f:α→DP (PAns × Int)} (hp:∀ β t,(p.runS β t).2.own=t.own) (h:∀ a,CO (f a)):CO (p.bind f):=fun β t=>by
 rw [DP.runS_bind]
 have:=h (p.runS β t).1 β (p.runS β t).2
 rw [hp] at this
 exact this
theorem has_own (s:List UInt8) (β:Base) (t:St):((hasP s).runS β t).2.own=t.own:=St.get_own β t s
theorem pfxs_own (net:List UInt8) (β:Base) (t:St):((pfxsP net).runS β t).2.own=t.own:=St.range_own β t _ _
theorem ads_own (net:List UInt8) (β:Base) (t:St):((adsP net).runS β t).2.own=t.own:=St.range_own β t _ _
theorem co_do2 (c:PCall) (h8:c.what≠8) (h9:c.what=2∨c.what=3∨c.what=4∨c.what=5∨c.what=6∨c.what=7):CO (do2P c):=by
 unfold do2P addP takeP placeP leaveP nextPP nextAP
 repeat' (first
  | with_reducible exact CO.chg _ _
  | (with_reducible refine CO.no ?_;first | assumption | decide)
  | with_reducible refine CO.ite (fun _=>?_) (fun _=>?_)
  | with_reducible refine CO.bind (has_own _) (fun _=>?_)
  | with_reducible refine CO.bind (pfxs_own _) (fun _=>?_)
  | with_reducible refine CO.bind (ads_own _) (fun _=>?_)
  | (exfalso;omega))
def isCh (c:PCall) (r:PAns × Int):Bool:=decide (r.2=0) && decide (c.what≠8) && decide (c.what≠9)
theorem noChg_ite {α:Type} {b:Prop} [Decidable b] {p q:DP α} (h1:b→p.noChg) (h2:¬ b→q.noChg):(if b then p else q).noChg:=by
 by_cases h:b
 ·rw [if_pos h];exact h1 h
 ·rw [if_neg h];exact h2 h
theorem noChg_bind {α γ:Type} {f:α→DP γ} (h:∀ a,(f a).noChg):∀ {p:DP α},p.noChg→(p.bind f).noChg
 | .ret a,_=>h a
 | .get s k,hp=>fun x=>noChg_bind h (hp x)
 | .range lo hi k,hp=>fun x=>noChg_bind h (hp x)
 | .chg c k,hp=>hp.elim
theorem doP_no (c:PCall) (h:c.what=8∨c.what=9):(doP c).noChg:=by
 have hn:∀ e,(noP e).noChg:=fun e=>trivial
 have hh:∀ s,(hasP s).noChg:=fun s=>by
  unfold hasP
  intro x
  exact trivial
 have hl:(listP c).noChg:=by
  unfold listP
  have h1:(pfxsP c.name).noChg:=by
   unfold pfxsP
   intro x
   exact trivial
  exact noChg_bind (f:=fun (l:Int × List Pf)=>(DP.ret ((⟨0,0,0,[],l.2⟩:PAns),l.1):DP (PAns × Int))) (fun _=>trivial) h1
 have hw:(whoP c).noChg:=by
  unfold whoP
  intro x
  exact noChg_ite (fun _=>trivial) fun _=>noChg_ite (fun _=>hn _) fun _=>fun y=>noChg_ite (fun _=>hn _) fun _=>noChg_ite (fun _=>hn _) fun _=>trivial
 unfold doP
 refine noChg_ite (fun _=>hn _) fun _=>noChg_bind (fun a=>noChg_ite (fun _=>hn _) fun _=>noChg_ite (fun e=>by omega) fun _=>noChg_ite (fun _=>hn _) fun _=>?_) (hh _)
 unfold do2P
 rw [if_neg (by omega),if_neg (by omega),if_neg (by omega),if_neg (by omega),if_neg (by omega),if_neg (by omega)]
 exact noChg_ite (fun _=>hl) fun _=>hw
theorem callFault_what {c:PCall} (h:callFault c=0):1≤c.what∧c.what≤9:=by
 unfold callFault at h
 split at h
 ·cases h
 ·omega
theorem doP_tells:TellsC doP isCh:=by
 intro c β t
 by_cases h:c.what=8∨c.what=9
 ·rw [DP.noChg_own β (doP c) t (doP_no c h)]
  have:isCh c ((doP c).runS β t).1=false:=by
   unfold isCh
   rcases h with h | h <;> simp [h]
  rw [this]
  simp
 ·have hco:CO (doP c):=by
   unfold doP
   by_cases hf:callFault c=0
   ·rw [if_neg (by simp [hf])]
    have hw:=callFault_what hf
    refine CO.bind (has_own _) (fun a=>CO.ite (fun q=>CO.no q) fun _=>CO.ite (fun _=>CO.ite (fun _=>CO.no (by decide)) fun _=>CO.chg _ _) fun q=>CO.ite (fun _=>CO.no (by decide)) fun _=>co_do2 c (fun e=>h (.inl e)) (by omega))
   ·rw [if_pos hf]
    exact CO.no hf
  obtain ⟨h1,h2⟩:=hco β t
  by_cases e:((doP c).runS β t).1.2=0
  ·have hc:isCh c ((doP c).runS β t).1=true:=by
    unfold isCh
    simp [e]
    omega
   rw [hc]
   simp [h1 e]
  ·rw [h2 e]
   have hc:isCh c ((doP c).runS β t).1=false:=by
    unfold isCh
    simp [e]
   rw [hc]
   simp
section
variable {h : Hl} {R : Int} {op : List (Opn PCall (PAns × Int))} {ov : List (Ovr PCall (PAns × Int))}
theorem begin_op0 (g:Dk):g.begin.2.1≠0→g.begin.2.2=g:=by
 unfold Dk.begin
 split
 ·exact fun _=>rfl
 ·split
  ·exact fun _=>rfl
  ·exact fun e=>absurd rfl e
theorem erase_idx {op:List (Opn PCall (PAns × Int))} (hn:(op.map Opn.who).Nodup) {k:Nat} (hk:k < op.length):eraseH (op.map (fun x=>(x.who,x.id))) op[k].who=(op.eraseIdx k).map (fun x=>(x.who,x.id)):=by
 induction op generalizing k with
 | nil=>simp at hk
 | cons x l ih =>
  rw [List.map_cons,List.nodup_cons] at hn
  rw [List.map_cons]
  unfold eraseH at ih ⊢
  rcases k with _ | k
  ·show List.filter _ (_::_)=_
   rw [List.filter_cons_of_neg (by simp)]
   show _=l.map _
   rw [List.filter_eq_self]
   intro p hp
   obtain ⟨y,hy,rfl⟩:=List.mem_map.1 hp
   simp
   intro e
   exact hn.1 (List.mem_map.2 ⟨y,hy,e⟩)
  ·have hk':k < l.length:=by simpa using hk
   rw [List.filter_cons_of_pos]
   ·show _=_::(l.eraseIdx k).map _
    rw [← ih hn.2 hk']
    rfl
   ·simp
    intro e
    exact hn.1 (List.mem_map.2 ⟨l[k],List.getElem_mem _,e.symm⟩)
end
def encCl (c:PCall):List Value:=[.int .i64 c.what,txt c.name,.int .i64 c.pa,.int .i64 c.pn,.int .i64 c.len,.int .i64 c.ad,txt c.owner]
def encAn (p:PAns × Value):List Value:=[.int .i64 p.1.pa,.int .i64 p.1.pn,.int .i64 p.1.ad,txt p.1.owner,p.2]
structure TkV where
 who:List UInt8
 n:Int
 cv:Value
 tv:Value
 ev:Value
def encT (t:TkV):List Value:=[txt t.who,.int .i64 t.n,t.cv,t.tv,t.ev]
theorem infoTk:(Tryz.prog.info? 40).map (fun i=>(i.zero,i.size,i.bytes))=some (some (.agg #[txt [],.int .i64 0,.slice none 0 0,.slice none 0 0,.slice none 0 0]),5,96):=by kernel_rfl
theorem infoCl:(Tryz.prog.info? 33).map (fun i=>(i.zero,i.size,i.bytes))=some (some (.agg #[.int .i64 0,txt [],.int .i64 0,.int .i64 0,.int .i64 0,.int .i64 0,txt []]),7,72):=by kernel_rfl
theorem infoAn:(Tryz.prog.info? 46).map (fun i=>(i.zero,i.size,i.bytes))=some (some (.agg #[.int .i64 0,.int .i64 0,.int .i64 0,txt [],.slice none 0 0]),5,64):=by kernel_rfl
def BIn (R:Nat→Prop) (v:Value):Prop:=∀ q,v.ownBlock=some q→R q
def CallsAt (w:World) (R:Nat→Prop) (v:Value) (cs:List PCall):Prop:=w.ownsRow 0 33 7 v cs.length (flatE encCl cs)∧BIn R v
def AnssAt (w:World) (R:Nat→Prop) (v:Value) (al:List PAns):Prop :=
 ∃ us:List Value,us.length=al.length∧w.ownsRow 0 46 5 v al.length (flatE encAn (al.zip us))∧BIn R v∧∀ i (h:i < al.length),∃ u,us[i]?=some u∧OwnP w 0 31 u al[i].list∧BIn R u
def ErrsAt (w:World) (R:Nat→Prop) (v:Value) (es:List Bool):Prop:=w.ownsRow 0 4 1 v es.length (es.map .bool)∧BIn R v
structure TalkAt (E:List (PAns × Int)→List Bool) (w:World) (R:Nat→Prop) (t:TkV) (who:List UInt8) (cs:List PCall) (rs:List (PAns × Int)):Prop where
 hwho:t.who=who
 wl:who.length≤9223372036854775807
 len:rs.length=cs.length
 ok:∀ c ∈ cs,CallW c
 calls:CallsAt w R t.cv cs
 told:AnssAt w R t.tv (rs.map Prod.fst)
 errs:ErrsAt w R t.ev (E rs)
section
variable {E : List (PAns × Int) → List Bool} {w w' : World} {R R' : Nat → Prop} {v u : Value} {cs : List PCall} {al : List PAns} {es : List Bool} {t : TkV} {who : List UInt8} {rs : List (PAns × Int)}
theorem CallsAt.fr {T:Nat→Prop} (h:CallsAt w R v cs) (f:Fr T w w') (hd:∀ q,R q→¬ T q):CallsAt w' R v cs:=⟨own_fr h.1 f (fun q e=>hd q (h.2 q e)),h.2⟩
theorem CallsAt.mono (h:CallsAt w R v cs) (hs:∀ q,R q→R' q):CallsAt w R' v cs:=⟨h.1,fun q e=>hs q (h.2 q e)⟩
theorem ErrsAt.fr {T:Nat→Prop} (h:ErrsAt w R v es) (f:Fr T w w') (hd:∀ q,R q→¬ T q):ErrsAt w' R v es:=⟨own_fr h.1 f (fun q e=>hd q (h.2 q e)),h.2⟩
theorem ErrsAt.mono (h:ErrsAt w R v es) (hs:∀ q,R q→R' q):ErrsAt w R' v es:=⟨h.1,fun q e=>hs q (h.2 q e)⟩
theorem AnssAt.fr {T:Nat→Prop} (h:AnssAt w R v al) (f:Fr T w w') (hd:∀ q,R q→¬ T q):AnssAt w' R v al:=by
 obtain ⟨us,h1,h2,h3,h4⟩:=h
 exact ⟨us,h1,own_fr h2 f (fun q e=>hd q (h3 q e)),h3,fun i hi=>by
  obtain ⟨u,a,b,c⟩:=h4 i hi
  exact ⟨u,a,own_fr b f (fun q e=>hd q (c q e)),c⟩⟩
theorem AnssAt.mono (h:AnssAt w R v al) (hs:∀ q,R q→R' q):AnssAt w R' v al:=by
 obtain ⟨us,h1,h2,h3,h4⟩:=h
 exact ⟨us,h1,h2,fun q e=>hs q (h3 q e),fun i hi=>by
  obtain ⟨u,a,b,c⟩:=h4 i hi
  exact ⟨u,a,b,fun q e=>hs q (c q e)⟩⟩
theorem TalkAt.fr {T:Nat→Prop} (h:TalkAt E w R t who cs rs) (f:Fr T w w') (hd:∀ q,R q→¬ T q):TalkAt E w' R t who cs rs:=⟨h.hwho,h.wl,h.len,h.ok,h.calls.fr f hd,h.told.fr f hd,h.errs.fr f hd⟩
theorem TalkAt.mono (h:TalkAt E w R t who cs rs) (hs:∀ q,R q→R' q):TalkAt E w R' t who cs rs:=⟨h.hwho,h.wl,h.len,h.ok,h.calls.mono hs,h.told.mono hs,h.errs.mono hs⟩
theorem BIn.nil (R:Nat→Prop):BIn R (.slice none 0 0):=fun q e=>by simp [Value.ownBlock] at e
theorem CallsAt.nil (w:World) (R:Nat→Prop):CallsAt w R (.slice none 0 0) []:=⟨World.ownsRow_nil _ _ _ _,BIn.nil R⟩
theorem ErrsAt.nil (w:World) (R:Nat→Prop):ErrsAt w R (.slice none 0 0) []:=⟨World.ownsRow_nil _ _ _ _,BIn.nil R⟩
theorem AnssAt.nil (w:World) (R:Nat→Prop):AnssAt w R (.slice none 0 0) []:=⟨[],rfl,World.ownsRow_nil _ _ _ _,BIn.nil R,fun i h=>by simp at h⟩
theorem TalkAt.new (hE:E []=[]) (w:World) (R:Nat→Prop) {who:List UInt8} (hw:who.length≤9223372036854775807):TalkAt E w R ⟨who,0,.slice none 0 0,.slice none 0 0,.slice none 0 0⟩ who [] [] :=
 ⟨rfl,hw,rfl,fun c hc=>(by cases hc),CallsAt.nil w R,AnssAt.nil w R,by rw [hE];exact ErrsAt.nil w R⟩
theorem own_bq {base size n:Nat} {e:TypeId} {xs:List Value} (h:w.ownsRow base e size v n xs):∀ q,v.ownBlock=some q→q < w.heap.size:=fun q e=>(World.ownsRow.lt h q e).2
end
def RowAt (w:World) (v:Value) (ts:List TkV):Prop:=w.ownsRow 0 40 5 v ts.length (flatE encT ts)
structure TpS (E:List (PAns × Int)→List Bool) (B:Nat) (w:World) (T R:Nat→Prop) (v:Value) (tt:List TkV) (op:List (Opn PCall (PAns × Int))) (vo:Value) (tc:List TkV) (ov:List (Ovr PCall (PAns × Int))):Prop where
 lo:tt.length=op.length
 ro:RowAt w v tt
 eo:∀ i (h:i < op.length),∃ t,tt[i]?=some t∧TalkAt E w R t op[i].who op[i].cs op[i].rs
 lc:tc.length=ov.length
 rc:RowAt w vo tc
 ec:∀ i (h:i < ov.length),∃ t,tc[i]?=some t∧TalkAt E w R t ov[i].who ov[i].cs ov[i].rs∧t.n=(ov[i].n:Int)
 no:BIn (fun q=>¬ R q∧¬ T q∧B≤q) v
 nc:BIn (fun q=>¬ R q∧¬ T q∧B≤q) vo
 dj:∀ q,v.ownBlock=some q→vo.ownBlock≠some q
 sep:∀ q,R q→¬ T q∧q < w.heap.size∧B≤q
section
variable {E : List (PAns × Int) → List Bool} {B : Nat} {w w' : World} {T T' R : Nat → Prop} {v vo v' : Value} {tt tc : List TkV} {op : List (Opn PCall (PAns × Int))} {ov : List (Ovr PCall (PAns × Int))}
theorem flatT_len:∀ x,(encT x).length=5:=fun x=>rfl
theorem flatCl_len:∀ x,(encCl x).length=7:=fun x=>rfl
theorem flatAn_len:∀ x,(encAn x).length=5:=fun x=>rfl
theorem TpS.call (s:TpS E B w T R v tt op vo tc ov) (f:Fr T w w') (hn:∀ q,T' q→T q∨w.heap.size≤q):TpS E B w' T' R v tt op vo tc ov:=by
 have hT:∀ q,q < w.heap.size→¬ T q→¬ T' q:=fun q h1 h2 h3=>(hn q h3).elim h2 (by omega)
 have hsz:=f.size
 exact ⟨s.lo,own_fr s.ro f (fun q e=>(s.no q e).2.1),fun i h=>by
   obtain ⟨t,a,b⟩:=s.eo i h
   exact ⟨t,a,b.fr f (fun q e=>(s.sep q e).1)⟩,
  s.lc,own_fr s.rc f (fun q e=>(s.nc q e).2.1),fun i h=>by
   obtain ⟨t,a,b,c⟩:=s.ec i h
   exact ⟨t,a,b.fr f (fun q e=>(s.sep q e).1),c⟩,
  fun q e=>⟨(s.no q e).1,hT q (own_bq s.ro q e) (s.no q e).2.1,(s.no q e).2.2⟩,
  fun q e=>⟨(s.nc q e).1,hT q (own_bq s.rc q e) (s.nc q e).2.1,(s.nc q e).2.2⟩,s.dj,
  fun q e=>⟨hT q (s.sep q e).2.1 (s.sep q e).1,by have:=(s.sep q e).2.1;omega,(s.sep q e).2.2⟩⟩
theorem TpS.step {a k':Nat} {h':Hl} (s:TpS E B w T R v tt op vo tc ov) (q:HKto B w T a w' T' h' k'):TpS E B w' T' R v tt op vo tc ov:=s.call q.fr q.new
theorem TpS.bel (s:TpS E B w T R v tt op vo tc ov) (hb:Below w.heap.size w w'):TpS E B w' T R v tt op vo tc ov:=s.call (Fr.of_below hb) (fun q h=>.inl h)
theorem TpS.row {tt':List TkV} {op':List (Opn PCall (PAns × Int))} {R':Nat→Prop} (s:TpS E B w T R v tt op vo tc ov) (hR:∀ q,R q→R' q) (hs:∀ q,R' q→R q∨(w.heap.size≤q∧q < w'.heap.size)) (hB:B≤w.heap.size)
  (f:Fr (fun q=>v.ownBlock=some q) w w') (lo:tt'.length=op'.length) (ro:RowAt w' v' tt') (hv:v'.ownBlock=v.ownBlock∨∀ q,v'.ownBlock=some q→w.heap.size≤q∧¬ R' q) (hT:∀ q,T q→q < w.heap.size)
  (eo:∀ i (h:i < op'.length),∃ t,tt'[i]?=some t∧TalkAt E w' R' t op'[i].who op'[i].cs op'[i].rs):TpS E B w' T R' v' tt' op' vo tc ov:=by
 have hsz:=f.size
 refine ⟨lo,ro,eo,s.lc,own_fr s.rc f (fun q e e2=>s.dj q e2 e),fun i h=>?_,fun q e=>?_,fun q e=>?_,fun q e e2=>?_,fun q e=>?_⟩
 ·obtain ⟨t,a,b,c⟩:=s.ec i h
  exact ⟨t,a,(b.fr f (fun q e e2=>(s.no q e2).1 e)).mono hR,c⟩
 ·rcases hv with hv | hv
  ·rw [hv] at e
   have h1:=s.no q e
   have h2:=own_bq s.ro q e
   exact ⟨fun e2=>(hs q e2).elim h1.1 (by omega),h1.2⟩
  ·have h1:=hv q e
   exact ⟨h1.2,fun e2=>by have:=hT q e2;omega,by omega⟩
 ·have h1:=s.nc q e
  have h2:=own_bq s.rc q e
  exact ⟨fun e3=>(hs q e3).elim h1.1 (by omega),h1.2⟩
 ·rcases hv with hv | hv
  ·rw [hv] at e;exact s.dj q e e2
  ·have h1:=hv q e
   have h2:=own_bq s.rc q e2
   omega
 ·rcases hs q e with h | h
  ·have:=s.sep q h;exact ⟨this.1,by omega,this.2.2⟩
  ·exact ⟨fun e2=>by have:=hT q e2;omega,h.2,by omega⟩
theorem TpS.opened (hE:E []=[]) (s:TpS E B w T R v tt op vo tc ov) (hB:B≤w.heap.size) {who:List UInt8} (hw:who.length≤9223372036854775807) (id:Int) (hown:w'.ownsRow 0 40 5 v' (tt.length+1) (flatE encT tt++encT ⟨who,0,.slice none 0 0,.slice none 0 0,.slice none 0 0⟩))
  (hg:w.grownBy w' v.ownBlock) (hat:v'.ownBlock=v.ownBlock∨v'.ownBlock=some (w.heap.size+1)) (hT:∀ q,T q→q < w.heap.size) :
  TpS E B w' T R v' (tt++[⟨who,0,.slice none 0 0,.slice none 0 0,.slice none 0 0⟩]) (op++[⟨who,id,[],[]⟩]) vo tc ov:=by
 have hf:Fr (fun q=>v.ownBlock=some q) w w':=(Fr.refl _ w).grown hg (fun q e _=>e)
 refine s.row (R':=R) (fun _ h=>h) (fun _ h=>.inl h) hB hf (by simp [s.lo]) ?_ ?_ hT (fun i h=>?_)
 ·unfold RowAt
  rw [flatE_append,List.length_append,List.length_singleton]
  have:flatE encT [(⟨who,0,.slice none 0 0,.slice none 0 0,.slice none 0 0⟩:TkV)]=encT ⟨who,0,.slice none 0 0,.slice none 0 0,.slice none 0 0⟩:=by simp [flatE]
  rw [this]
  exact hown
 ·rcases hat with h | h
  ·exact .inl h
  ·refine .inr fun q e=>?_
   rw [h] at e
   injection e with e
   exact ⟨by omega,fun e2=>by have:=(s.sep q e2).2.1;omega⟩
 ·rcases Nat.lt_or_ge i op.length with c | c
  ·obtain ⟨t,a,b⟩:=s.eo i c
   refine ⟨t,by rw [List.getElem?_append_left (by rw [s.lo];exact c)];exact a,?_⟩
   rw [List.getElem_append_left c]
   exact b.fr hf (fun q e e2=>(s.no q e2).1 e)
  ·have hi2:i=op.length:=by simp at h;omega
   subst hi2
   refine ⟨_,by rw [← s.lo,List.getElem?_append_right (Nat.le_refl _),Nat.sub_self];rfl,?_⟩
   rw [List.getElem_append_right (Nat.le_refl _)]
   simp
   exact TalkAt.new hE w' R hw
theorem TpS.closed (s:TpS E B w T R v tt op vo tc ov) (hB:B≤w.heap.size) {k:Nat} (hb:Below w.heap.size w w') (hown:w'.ownsRow w.heap.size 40 5 v' (tt.eraseIdx k).length (flatE encT (tt.eraseIdx k))) (hT:∀ q,T q→q < w.heap.size) :
  TpS E B w' T R v' (tt.eraseIdx k) (op.eraseIdx k) vo tc ov:=by
 refine s.row (R':=R) (fun _ h=>h) (fun _ h=>.inl h) hB (Fr.of_below hb) (by rw [List.length_eraseIdx,List.length_eraseIdx,s.lo]) (own_of_base hown (Nat.zero_le _)) (.inr fun q e=>?_) hT (fun i h=>?_)
 ·have h1:=World.ownsRow.lt hown q e
  exact ⟨h1.1,fun e2=>by have:=(s.sep q e2).2.1;omega⟩
 ·have hh:i < op.length:=by have:=List.length_eraseIdx_le op k;omega
  rw [List.getElem_eraseIdx,List.getElem?_eraseIdx]
  split
  ·obtain ⟨t,a,b⟩:=s.eo i hh
   exact ⟨t,a,b.fr (T:=fun _=>False) (Fr.of_below hb) (fun _ _ q=>q)⟩
  ·have h2:i+1 < op.length:=by
    rw [List.length_eraseIdx] at h
    split at h <;> omega
   obtain ⟨t,a,b⟩:=s.eo (i+1) h2
   exact ⟨t,a,b.fr (T:=fun _=>False) (Fr.of_below hb) (fun _ _ q=>q)⟩
theorem flatE_set {α:Type} {enc:α→List Value} {n:Nat} (hk:∀ x,(enc x).length=n):∀ (l:List α) (k j:Nat) (x:α) (u:Value) (h:k < l.length),j < n→enc x=(enc l[k]).set j u→flatE enc (l.set k x)=(flatE enc l).set (k * n+j) u
 | y::l,0,j,x,u,h,hj,e=>by
  unfold flatE
  rw [List.set_cons_zero,List.flatMap_cons,List.flatMap_cons,Nat.zero_mul,Nat.zero_add,List.set_append_left _ _ (by rw [hk];exact hj)]
  rw [e]
  rfl
 | y::l,k+1,j,x,u,h,hj,e=>by
  have ih:=flatE_set hk l k j x u (by simpa using h) hj e
  unfold flatE at ih ⊢
  rw [List.set_cons_succ,List.flatMap_cons,List.flatMap_cons,ih,List.set_append_right _ _ (by rw [hk,Nat.add_mul];omega),hk,show (k+1) * n+j - n=k * n+j by rw [Nat.add_mul];omega]
theorem TpS.widen {R':Nat→Prop} (s:TpS E B w T R v tt op vo tc ov) (hR:∀ q,R q→R' q) (hs:∀ q,R' q→R q∨(¬ T q∧q < w.heap.size∧B≤q∧v.ownBlock≠some q∧vo.ownBlock≠some q)):TpS E B w T R' v tt op vo tc ov :=
 ⟨s.lo,s.ro,fun i h=>by
   obtain ⟨t,a,b⟩:=s.eo i h
   exact ⟨t,a,b.mono hR⟩,
  s.lc,s.rc,fun i h=>by
   obtain ⟨t,a,b,c⟩:=s.ec i h
   exact ⟨t,a,b.mono hR,c⟩,
  fun q e=>⟨fun e2=>(hs q e2).elim (s.no q e).1 (fun e3=>e3.2.2.2.1 e),(s.no q e).2⟩,fun q e=>⟨fun e2=>(hs q e2).elim (s.nc q e).1 (fun e3=>e3.2.2.2.2 e),(s.nc q e).2⟩,s.dj,
  fun q e=>(hs q e).elim (s.sep q) (fun e3=>⟨e3.1,e3.2.1,e3.2.2.1⟩)⟩
end
def Srch (op:List (Opn PCall (PAns × Int))) (who:List UInt8) (j:Nat) (kv:Int):Prop :=
 (kv=-1∧∀ i (h:i < op.length),i < j→op[i].who≠who)∨∃ (i:Nat) (h:i < op.length),kv=(i:Int)∧op[i].who=who
section
variable {B : Nat} {w w' : World} {T T' R : Nat → Prop} {a k k' : Nat} {h h' : Hl} {v vo v' : Value} {tt tc : List TkV} {op op' : List (Opn PCall (PAns × Int))} {ov ov' : List (Ovr PCall (PAns × Int))}
theorem flatE_drop {α:Type} {enc:α→List Value} {n:Nat} (hk:∀ x,(enc x).length=n):∀ (l:List α) (k:Nat),flatE enc (l.drop k)=(flatE enc l).drop (k * n)
 | l,0=>by simp
 | [],k+1=>by simp [flatE]
 | c::l,k+1=>by
  have ih:=flatE_drop hk l k
  rw [List.drop_succ_cons,ih]
  unfold flatE
  rw [List.flatMap_cons,show (k+1) * n=n+k * n by rw [Nat.add_mul];omega,← List.drop_drop,List.drop_left' (hk c)]
theorem flatE_take {α:Type} {enc:α→List Value} {n:Nat} (hk:∀ x,(enc x).length=n) (l:List α) (k:Nat):flatE enc (l.take k)=(flatE enc l).take (k * n):=by
 rcases Nat.lt_or_ge k l.length with c | c
 ·have h:=flatE_append (enc:=enc) (l.take k) (l.drop k)
  rw [List.take_append_drop] at h
  have h2:(flatE enc (l.take k)).length=k * n:=by rw [flatE_length hk,List.length_take,Nat.min_eq_left (by omega)]
  rw [h,List.take_left' h2]
 ·rw [List.take_of_length_le c,List.take_of_length_le]
  rw [flatE_length hk]
  exact Nat.mul_le_mul_right n c
theorem Rd.head {α:Type} {enc:α→List Value} {n:Nat} (hk:∀ x,(enc x).length=n) {C:Nat} {A:Option Addr} {l:List α} (h:Rd w C A (flatE enc l)) (k:Nat):Rd w C A (flatE enc (l.take k)):=fun hn=>by
 obtain ⟨b,off,e1,e2,e3⟩:=h (fun e=>hn (by rw [flatE_take hk,e];simp))
 refine ⟨b,off,e1,e2,fun j u hu=>e3 j u ?_⟩
 rw [flatE_take hk,List.getElem?_take] at hu
 split at hu
 ·exact hu
 ·cases hu
theorem Rd.tail {α:Type} {enc:α→List Value} {n:Nat} (hk:∀ x,(enc x).length=n) {C b off:Nat} {l:List α} (h:Rd w C (some ⟨b,off,none⟩) (flatE enc l)) (k:Nat):Rd w C (some ⟨b,off+k * n,none⟩) (flatE enc (l.drop k)):=fun hn=>by
 obtain ⟨b',off',e1,e2,e3⟩:=h (fun e=>hn (by rw [flatE_drop hk,e];simp))
 injection e1 with e1
 injection e1 with e1 e4
 subst e1
 subst e4
 refine ⟨b,off+k * n,rfl,e2,fun j u hu=>?_⟩
 rw [flatE_drop hk,List.getElem?_drop] at hu
 rw [show off+k * n+j=off+(k * n+j) by omega]
 exact e3 _ u hu
theorem Rd.tailIf {α:Type} {enc:α→List Value} {n:Nat} (hk:∀ x,(enc x).length=n) {C b c:Nat} {l:List α} (h:Rd w C (some ⟨b,0,none⟩) (flatE enc l)) (k:Nat) (hc:l.length≤c):Rd w C (if c=k then some ⟨b,0,none⟩ else some ⟨b,k * n,none⟩) (flatE enc (l.drop k)):=by
 split
 ·rename_i e
  rw [List.drop_of_length_le (by omega)]
  exact Rd.nil
 ·have:=Rd.tail hk h k
  rwa [Nat.zero_add] at this
theorem TpS.beside {E:List (PAns × Int)→List Bool} {S:Nat→Prop} (s:TpS E B w T R v tt op vo tc ov) (f:Fr S w w') (h1:∀ q,S q→¬ R q) (h2:∀ q,S q→v.ownBlock≠some q) (h3:∀ q,S q→vo.ownBlock≠some q):TpS E B w' T R v tt op vo tc ov :=
 ⟨s.lo,own_fr s.ro f (fun q e e2=>h2 q e2 e),fun i h=>by
   obtain ⟨t,a,b⟩:=s.eo i h
   exact ⟨t,a,b.fr f (fun q e e2=>h1 q e2 e)⟩,
  s.lc,own_fr s.rc f (fun q e e2=>h3 q e2 e),fun i h=>by
   obtain ⟨t,a,b,c⟩:=s.ec i h
   exact ⟨t,a,b.fr f (fun q e e2=>h1 q e2 e),c⟩,s.no,s.nc,s.dj,fun q e=>⟨(s.sep q e).1,by have:=(s.sep q e).2.1;have:=f.size;omega,(s.sep q e).2.2⟩⟩
theorem own_cap {w:World} {base size n:Nat} {e:TypeId} {A:Option Addr} {c:Nat} {xs:List Value} (h:w.ownsRow base e size (.slice A n c) n xs):n≤c:=by
 obtain ⟨A',c',e1,e2,_⟩:=own_form3 h
 injection e1 with e1 e3 e4
 omega
theorem TalkAt.bel {E:List (PAns × Int)→List Bool} {t:TkV} {who:List UInt8} {cs:List PCall} {rs:List (PAns × Int)} (h:TalkAt E w R t who cs rs) (hb:Below w.heap.size w w'):TalkAt E w' R t who cs rs:=h.fr (T:=fun _=>False) (Fr.of_below hb) (fun _ _ q=>q)
theorem encT_one {E:List (PAns × Int)→List Bool} {t:TkV} {who:List UInt8} {cs:List PCall} {rs:List (PAns × Int)} (h:TalkAt E w R t who cs rs):∀ u ∈ encT t,u.oneCell'=true:=by
 obtain ⟨twho,tn,cv,tv,ev⟩:=t
 have h1:CallsAt w R cv cs:=h.calls
 obtain ⟨us,h2,h3,_⟩:AnssAt w R tv (rs.map Prod.fst):=h.told
 have h4:ErrsAt w R ev (E rs):=h.errs
 obtain ⟨Ac,cc,e1,r1⟩:=own_form h1.1
 obtain ⟨At,ct,e2,r2⟩:=own_form h3
 obtain ⟨Ae,ce,e3,r3⟩:=own_form h4.1
 subst e1
 subst e2
 subst e3
 intro u hu
 simp [encT] at hu
 rcases hu with rfl | rfl | rfl | rfl | rfl <;> rfl
theorem TpS.one {E:List (PAns × Int)→List Bool} (m:TpS E B w T R v tt op vo tc ov):∀ u ∈ flatE encT tt,u.oneCell'=true:=by
 intro u hu
 obtain ⟨t,ht,hx⟩:=List.mem_flatMap.1 hu
 obtain ⟨i,hi,rfl⟩:=List.getElem_of_mem ht
 obtain ⟨t,h1,h2⟩:=m.eo i (by rw [← m.lo];exact hi)
 rw [List.getElem?_eq_getElem hi] at h1
 rw [Option.some.inj h1] at hx
 exact encT_one h2 u hx
theorem one_take {tt:List TkV} (h:∀ u ∈ flatE encT tt,u.oneCell'=true) (k:Nat):∀ u ∈ flatE encT (tt.take k),u.oneCell'=true:=fun u hu=>h u (by rw [flatE_take flatT_len] at hu;exact List.mem_of_mem_take hu)
theorem one_drop {tt:List TkV} (h:∀ u ∈ flatE encT tt,u.oneCell'=true) (k:Nat):∀ u ∈ flatE encT (tt.drop k),u.oneCell'=true:=fun u hu=>h u (by rw [flatE_drop flatT_len] at hu;exact List.mem_of_mem_drop hu)
end
theorem Srch.zero (op:List (Opn PCall (PAns × Int))) (who:List UInt8):Srch op who 0 (-1):=.inl ⟨rfl,fun i h q=>by omega⟩
theorem Srch.hit {op:List (Opn PCall (PAns × Int))} {who:List UInt8} {j:Nat} (h:j < op.length) (e:op[j].who=who):Srch op who (j+1) (j:Int):=.inr ⟨j,h,rfl,e⟩
theorem Srch.miss {op:List (Opn PCall (PAns × Int))} {who:List UInt8} {j:Nat} {kv:Int} (s:Srch op who j kv) (h:j < op.length) (e:op[j].who≠who):Srch op who (j+1) kv:=by
 rcases s with ⟨s1,s2⟩ | s
 ·refine .inl ⟨s1,fun i hi q=>?_⟩
  rcases Nat.lt_or_ge i j with c | c
  ·exact s2 i hi c
  ·obtain rfl:i=j:=by omega
   exact e
 ·exact .inr s
section
variable {ι α : Type} {P : ι → DP α} {isC : ι → α → Bool} {all : List (List Chg)} {ov : List (Ovr ι α)} {n turn i : Nat}
end
section
variable {h : Hl} {all : List (List Chg)} {m : Nat} {who : List UInt8} {cs : List PCall} {rs : List (PAns × Int)} {k : Nat} {t : St}
end
theorem cut_len {n i:Nat} (h:i < n) (h60:n≤60):i+(n - (i+1))≤maxLen∧(i+(n - (i+1))) * 96≤140737488355328:=by
 unfold maxLen
 omega
theorem cut_len0 {n i:Nat} (h:i < n) (h60:n≤60):0+i≤maxLen∧(0+i) * 96≤140737488355328:=by
 unfold maxLen
 omega
theorem cut_erase {α:Type} {l:List α} {i:Nat} (h:i < l.length):i+(l.length - (i+1))=(l.eraseIdx i).length:=by
 rw [List.length_eraseIdx,if_pos h]
 omega
section
variable {op : List (Opn PCall (PAns × Int))} {ov : List (Ovr PCall (PAns × Int))} {k : Nat}
end
section
variable {E : List (PAns × Int) → List Bool} {B C : Nat} {w w' : World} {T T' R : Nat → Prop} {a k k' : Nat} {h h' : Hl} {v vo v' : Value} {tt tc : List TkV} {op op' : List (Opn PCall (PAns × Int))} {ov ov' : List (Ovr PCall (PAns × Int))}
theorem TalkAt.as {t:TkV} {who who':List UInt8} {cs:List PCall} {rs:List (PAns × Int)} (h:TalkAt E w R t who cs rs) (e:who=who'):TalkAt E w R t who' cs rs:=e ▸ h
theorem own_blk3 {v:Value} {base size n:Nat} {e:TypeId} {xs:List Value} (h:w.ownsRow base e size v n xs) (hn:xs≠[]):∃ (g c:Nat) (cur:Array Value),v=.slice (some ⟨g,0,none⟩) n c∧base≤g∧Blk w g e cur∧∀ (j:Nat) (u:Value),xs[j]?=some u→cur[j]?=some u:=by
 rcases h.2 with ⟨_,h3⟩ | ⟨g,c,cur,h3,h4,h5,_,_,h6,h7⟩
 ·exact absurd (List.eq_nil_of_length_eq_zero (by rw [h.1,h3,Nat.zero_mul])) hn
 ·refine ⟨g,c,cur,h3,h4,h5,fun j u hu=>?_⟩
  rw [← h7,List.getElem?_take] at hu
  split at hu
  ·rw [← hu,Array.getElem?_toList]
  ·cases hu
theorem TpS.rowI (s:TpS E B w T R v tt op vo tc ov) {i:Nat} (hi:i < op.length):∃ g c,v=.slice (some ⟨g,0,none⟩) tt.length c∧g < w.heap.size∧∃ t,tt[i]?=some t∧TalkAt E w R t op[i].who op[i].cs op[i].rs∧(∀ j u,(encT t)[j]?=some u→w.cell? ⟨g,i * 5+j,none⟩=some u)∧∀ j,w.frozen? ⟨g,j,none⟩=false:=by
 obtain ⟨t,h1,h2⟩:=s.eo i hi
 have hi':i < tt.length:=by rw [s.lo];exact hi
 have hro:=s.ro
 unfold RowAt at hro
 have hne:flatE encT tt≠[]:=fun e=>by
  have:=flatE_length flatT_len tt
  rw [e] at this
  simp at this
  omega
 obtain ⟨g,c,cur,e1,e2,e3,e4⟩:=own_blk3 hro hne
 obtain ⟨A,c2,e5,e6⟩:=own_form hro
 rw [e1] at e5
 injection e5 with e5
 subst e5
 obtain ⟨b,off,f1,f2,f3⟩:=Rd.elt flatT_len e6 hi' (by omega)
 injection f1 with f1
 injection f1 with f1 f4
 subst f1
 subst f4
 have ht:tt[i]=t:=by
  have:=List.getElem?_eq_getElem hi'
  rw [h1] at this
  exact (Option.some.inj this).symm
 refine ⟨g,c,e1,f2,t,h1,h2,fun j u hu=>?_,fun j=>e3.frozen j⟩
 rw [ht] at f3
 have:=f3 j u hu
 rwa [Nat.zero_add] at this
theorem AnssAt.at {A:Option Addr} {n c:Nat} {al:List PAns} (h:AnssAt w R (.slice A n c) al) {i:Nat} (hi:i < al.length) :
  ∃ b off A2 c2,A=some ⟨b,off,none⟩∧b < w.heap.size∧w.cell? ⟨b,off+i * 5,none⟩=some (.int .i64 al[i].pa)∧w.cell? ⟨b,off+i * 5+1,none⟩=some (.int .i64 al[i].pn)∧w.cell? ⟨b,off+i * 5+2,none⟩=some (.int .i64 al[i].ad) ∧
   w.cell? ⟨b,off+i * 5+3,none⟩=some (txt al[i].owner)∧w.cell? ⟨b,off+i * 5+4,none⟩=some (.slice A2 al[i].list.length c2)∧Rd w w.heap.size A2 (cellsP al[i].list):=by
 obtain ⟨us,h1,h2,_,h4⟩:=h
 obtain ⟨u,u1,u2,_⟩:=h4 i hi
 obtain ⟨A2,c2,e1,e2⟩:=u2.form
 obtain ⟨A',c',e3,e4⟩:=own_form h2
 injection e3 with e3
 subst e3
 have hz:i < (al.zip us).length:=by rw [List.length_zip];omega
 obtain ⟨b,off,f1,f2,f3⟩:=Rd.elt flatAn_len e4 hz (by omega)
 have hiu:i < us.length:=by omega
 have hz2:(al.zip us)[i]=(al[i],us[i]):=List.getElem_zip
 have hu:us[i]=u:=by
  rw [List.getElem?_eq_getElem hiu] at u1
  exact Option.some.inj u1
 rw [hz2,hu,e1] at f3
 simp only [← Nat.add_assoc] at f3
 exact ⟨b,off,A2,c2,f1,f2,f3 0 _ rfl,f3 1 _ rfl,f3 2 _ rfl,f3 3 _ rfl,f3 4 _ rfl,e2⟩
theorem CallsAt.at {A:Option Addr} {n c:Nat} {cs:List PCall} (h:CallsAt w R (.slice A n c) cs) {i:Nat} (hi:i < cs.length) :
  ∃ b off,A=some ⟨b,off,none⟩∧b < w.heap.size∧∀ j u,(encCl cs[i])[j]?=some u→w.cell? ⟨b,off+i * 7+j,none⟩=some u:=by
 obtain ⟨A',c',e3,e4⟩:=own_form h.1
 injection e3 with e3
 subst e3
 obtain ⟨b,off,f1,f2,f3⟩:=Rd.elt flatCl_len e4 hi (by omega)
 exact ⟨b,off,f1,f2,fun j u hu=>by rw [Nat.add_assoc];exact f3 j u hu⟩
theorem TalkAt.asked {t:TkV} {who:List UInt8} {cs:List PCall} {rs:List (PAns × Int)} {c:PCall} {r:PAns × Int} {cv tv ev u:Value} {us:List Value} {b1 b2:Nat} (h:TalkAt E w R t who cs rs) (hc:CallW c)
  (h1:w.ownsRow b1 33 7 cv (cs.length+1) (flatE encCl cs++encCl c)) (i1:BIn R cv)
  (h2:us.length=rs.length) (h3:∀ i (h:i < (rs.map Prod.fst).length),∃ u,us[i]?=some u∧OwnP w 0 31 u (rs.map Prod.fst)[i].list∧BIn R u)
  (h4:w.ownsRow b2 46 5 tv (cs.length+1) (flatE encAn ((rs.map Prod.fst).zip us)++encAn (r.1,u))) (i2:BIn R tv) (h5:OwnP w 0 31 u r.1.list) (i3:BIn R u)
  (h6:ErrsAt w R ev (E (rs++[r]))):TalkAt E w R ⟨t.who,t.n,cv,tv,ev⟩ who (cs++[c]) (rs++[r]):=by
 have hl:=h.len
 refine ⟨h.hwho,h.wl,by simp [hl],fun x hx=>?_,?_,?_,h6⟩
 ·rcases List.mem_append.1 hx with hx | hx
  ·exact h.ok x hx
  ·simp at hx;subst hx;exact hc
 ·refine ⟨?_,i1⟩
  rw [flatE_append,List.length_append,List.length_singleton,show flatE encCl [c]=encCl c by simp [flatE]]
  exact own_of_base h1 (Nat.zero_le _)
 ·refine ⟨us++[u],by simp [h2],?_,i2,fun i hi=>?_⟩
  ·have e:((rs++[r]).map Prod.fst).zip (us++[u])=(rs.map Prod.fst).zip us++[(r.1,u)]:=by
    rw [List.map_append,List.zip_append (by simp [h2])]
    rfl
   rw [e,flatE_append,show flatE encAn [(r.1,u)]=encAn (r.1,u) by simp [flatE],List.length_map,List.length_append,List.length_singleton,hl]
   exact own_of_base h4 (Nat.zero_le _)
  ·rw [List.length_map,List.length_append,List.length_singleton] at hi
   rcases Nat.lt_or_ge i rs.length with q | q
   ·obtain ⟨y,y1,y2,y3⟩:=h3 i (by simpa using q)
    refine ⟨y,by rw [List.getElem?_append_left (by omega)];exact y1,?_,y3⟩
    have:((rs++[r]).map Prod.fst)[i]'(by simp;omega)=(rs.map Prod.fst)[i]'(by simpa using q):=by simp [q]
    rw [this]
    exact y2
   ·obtain rfl:i=rs.length:=by omega
    refine ⟨u,by rw [← h2,List.getElem?_append_right (Nat.le_refl _),Nat.sub_self];rfl,?_,i3⟩
    have:((rs++[r]).map Prod.fst)[rs.length]'(by simp)=r.1:=by simp
    rw [this]
    exact h5
theorem one_calls' (cs:List PCall):∀ u ∈ flatE encCl cs,u.oneCell'=true:=by
 intro u hu
 obtain ⟨c,_,hx⟩:=List.mem_flatMap.1 hu
 simp [encCl] at hx
 rcases hx with rfl | rfl | rfl | rfl | rfl | rfl | rfl <;> rfl
theorem one_anss {al:List PAns} {us:List Value} (hl:al.length=us.length) (h:∀ i,i < al.length→∃ u,us[i]?=some u∧u.oneCell'=true):∀ u ∈ flatE encAn (al.zip us),u.oneCell'=true:=by
 intro u hu
 obtain ⟨p,hp,hx⟩:=List.mem_flatMap.1 hu
 obtain ⟨i,hi,rfl⟩:=List.getElem_of_mem hp
 have hi':i < al.length:=by rw [List.length_zip] at hi;omega
 obtain ⟨y,y1,y2⟩:=h i hi'
 rw [List.getElem?_eq_getElem (by omega)] at y1
 have y1:=Option.some.inj y1
 rw [List.getElem_zip] at hx
 simp [encAn] at hx
 rcases hx with rfl | rfl | rfl | rfl | rfl
 ·rfl
 ·rfl
 ·rfl
 ·rfl
 ·rw [y1];exact y2
end
theorem hexV1_inv {b:UInt8} {d:Nat} (h:hexV1 b=some d):b=hexD d:=by
 have hl:=hexV1_lt h
 apply UInt8.toNat_inj.1
 rw [hexD_toNat hl]
 unfold hexV1 at h
 split at h
 ·injection h with h;split <;> omega
 ·split at h
  ·injection h with h;split <;> omega
  ·cases h
theorem hexV_inv:∀ (k:Nat) (l:List UInt8) (v:Nat),l.length=k→hexV 0 l=some v→l=hexL k v
 | 0,l,v,hl,_=>by
  rw [List.length_eq_zero_iff.1 hl]
  rfl
 | k+1,l,v,hl,h=>by
  have hne:l≠[]:=fun e=>by rw [e] at hl;cases hl
  have e:=List.dropLast_concat_getLast hne
  generalize hb:l.getLast hne=b at e
  generalize hm:l.dropLast=m at e
  subst e
  rw [hexV_snoc] at h
  cases h1:hexV 0 m with
  | none=>rw [h1] at h;cases h
  | some u =>
   rw [h1] at h
   cases h2:hexV1 b with
   | none=>rw [h2] at h;cases h
   | some d =>
    rw [h2] at h
    have hv:u * 16+d=v:=by simpa using h
    have hd:=hexV1_lt h2
    have hlm:m.length=k:=by simp at hl;omega
    have ih:=hexV_inv k m u hlm h1
    rw [hexL,show v / 16=u by omega,show v % 16=d by omega,← ih,hexV1_inv h2]
theorem dec2_inv {y z:UInt8} {n:Nat} (h:dec2 y z=some n):y=UInt8.ofNat (48+n / 10)∧z=UInt8.ofNat (48+n % 10)∧n < 100:=by
 unfold dec2 at h
 split at h
 ·rename_i q
  injection h with h
  have e1:n / 10=y.toNat - 48:=by omega
  have e2:n % 10=z.toNat - 48:=by omega
  refine ⟨?_,?_,by omega⟩
  ·rw [e1,show 48+(y.toNat - 48)=y.toNat by omega];simp
  ·rw [e2,show 48+(z.toNat - 48)=z.toNat by omega];simp
 ·cases h
theorem addrV_inv {x:List UInt8} {a:Nat} (h:addrV x=some a):x=hexL 8 a:=by
 unfold addrV at h
 split at h
 ·rename_i q;exact hexV_inv 8 x a q h
 ·cases h
theorem pfxV_inv {x:List UInt8} {a n:Nat} (h:pfxV x=some (a,n)):x=hexL 8 a++[UInt8.ofNat (48+n / 10),UInt8.ofNat (48+n % 10)]:=by
 unfold pfxV at h
 split at h
 ·rename_i y z hd
  cases h1:hexV 0 (x.take 8) with
  | none=>rw [h1] at h;cases h
  | some a' =>
   cases h2:dec2 y z with
   | none=>rw [h1,h2] at h;cases h
   | some n' =>
    rw [h1,h2] at h
    simp only at h
    split at h
    ·injection h with h
     injection h with e1 e2
     subst e1
     subst e2
     have hl:(x.take 8).length=8:=by
      have:(x.drop 8).length=2:=by rw [hd];rfl
      rw [List.length_drop] at this
      rw [List.length_take]
      omega
     have e:=hexV_inv 8 _ _ hl h1
     have:=List.take_append_drop 8 x
     rw [← this,hd,e,(dec2_inv h2).1,(dec2_inv h2).2.1]
    ·cases h
 ·cases h
theorem keyI_inj {s s':List UInt8} (hk:(keyI s).kind≠0) (h:keyI s=keyI s'):s=s':=by
 have hle:=keyI_le s
 rcases (show (keyI s).kind=1∨(keyI s).kind=2∨(keyI s).kind=3 by omega) with k | k | k
 ·have a:=keyI_1 k
  have b:=keyI_1 (h ▸ k)
  rw [a.1,b.1,h]
 ·obtain ⟨x,a1,_,_,a4⟩:=keyI_2 k
  obtain ⟨y,b1,_,_,b4⟩:=keyI_2 (h ▸ k)
  rw [← h] at b1 b4
  rw [a1,b1,pfxV_inv a4,pfxV_inv b4]
 ·obtain ⟨x,a1,_,_,a4⟩:=keyI_3 k
  obtain ⟨y,b1,_,_,b4⟩:=keyI_3 (h ▸ k)
  rw [← h] at b1 b4
  rw [a1,b1,addrV_inv a4,addrV_inv b4]
theorem keyI_2eq {s:List UInt8} (h:(keyI s).kind=2):keyI s=⟨2,(keyI s).net,(keyI s).pa,(keyI s).pn,0⟩:=by
 unfold keyI at h ⊢
 generalize splitL 47 s=ps at *
 unfold keyW at h ⊢
 split at h
 ·split at h <;> simp_all [keyNo]
 ·split at h
  ·split at h
   ·split at h <;> simp_all [keyNo]
   ·split at h
    ·split at h <;> simp_all [keyNo]
    ·simp_all [keyNo]
  ·simp_all [keyNo]
 ·simp_all [keyNo]
theorem keyI_3eq {s:List UInt8} (h:(keyI s).kind=3):keyI s=⟨3,(keyI s).net,0,0,(keyI s).ad⟩:=by
 unfold keyI at h ⊢
 generalize splitL 47 s=ps at *
 unfold keyW at h ⊢
 split at h
 ·split at h <;> simp_all [keyNo]
 ·split at h
  ·split at h
   ·split at h <;> simp_all [keyNo]
   ·split at h
    ·split at h <;> simp_all [keyNo]
    ·simp_all [keyNo]
  ·simp_all [keyNo]
 ·simp_all [keyNo]
def xN:List UInt8:=[120]
def oN:List UInt8:=[111]
def par:Pf:=(0,26)
def gA:PCall:=⟨7,xN,0,26,0,0,oN⟩
def gP (n:Int):PCall:=⟨6,xN,0,26,n,0,oN⟩
def isG (c:PCall):Prop:=c=gA∨∃ n,c=gP n
def kPf (s:List UInt8):Pf:=(((keyI s).pa:Int),((keyI s).pn:Int))
def kAd (s:List UInt8):Int:=((keyI s).ad:Int)
structure GrV (V:Base) (As:List Int) (Gs:List Pf):Prop where
 net:V (nKey xN)≠none
 nets:∀ s,V s≠none→(keyI s).net=xN
 pf:∀ q,(∃ s,V s≠none∧(keyI s).kind=2∧q=kPf s) ↔ q=par∨q ∈ Gs
 ad:∀ a,(∃ s,V s≠none∧(keyI s).kind=3∧a=kAd s) ↔ a ∈ As
 an:As.Nodup
 ai:∀ a ∈ As,1≤a∧a≤62
 gn:Gs.Pairwise (fun p q=>inQ p q=false∧inQ q p=false)
 gi:∀ p ∈ Gs,chkP p=0∧inQ p par=true∧p≠par
theorem turn_ne {V:Base} {s v x:List UInt8}:turnV V ⟨s,v,false⟩ x≠none ↔ V x≠none∨x=s:=by
 by_cases e:x=s
 ·subst e
  rw [turnV_same V ⟨x,v,false⟩]
  simp
 ·rw [turnV_other V ⟨s,v,false⟩ e]
  simp [e]
section
variable {V : Base} {As : List Int} {Gs : List Pf}
theorem GrV.putA (h:GrV V As Gs) {a:Int} (h1:1≤a) (h2:a≤62) (hn:a ∉ As) (v:List UInt8):GrV (turnV V ⟨akOf xN a,v,false⟩) (As++[a]) Gs:=by
 have hk:=keyI_ak (net:=xN) (by decide) (a:=a) (isA_true.2 ⟨by omega,by omega⟩)
 refine ⟨turn_ne.2 (.inl h.net),fun s hs=>?_,fun q=>?_,fun b=>?_,?_,fun b hb=>?_,h.gn,h.gi⟩
 ·rcases turn_ne.1 hs with hs | rfl
  ·exact h.nets s hs
  ·rw [hk]
 ·rw [← h.pf q]
  constructor
  ·rintro ⟨s,hs,q1,q2⟩
   rcases turn_ne.1 hs with hs | rfl
   ·exact ⟨s,hs,q1,q2⟩
   ·rw [hk] at q1;cases q1
  ·rintro ⟨s,hs,q1,q2⟩
   exact ⟨s,turn_ne.2 (.inl hs),q1,q2⟩
 ·rw [List.mem_append,List.mem_singleton,← h.ad b]
  constructor
  ·rintro ⟨s,hs,q1,q2⟩
   rcases turn_ne.1 hs with hs | rfl
   ·exact .inl ⟨s,hs,q1,q2⟩
   ·refine .inr ?_
    rw [q2]
    unfold kAd
    rw [hk]
    show ((a.toNat:Nat):Int)=a
    omega
  ·rintro (⟨s,hs,q1,q2⟩ | rfl)
   ·exact ⟨s,turn_ne.2 (.inl hs),q1,q2⟩
   ·refine ⟨_,turn_ne.2 (.inr rfl),by rw [hk],?_⟩
    unfold kAd
    rw [hk]
    show b=((b.toNat:Nat):Int)
    omega
 ·rw [List.nodup_append]
  refine ⟨h.an,by simp,?_⟩
  intro x hx y hy e
  simp at hy
  subst hy
  subst e
  exact hn hx
 ·rcases List.mem_append.1 hb with hb | hb
  ·exact h.ai b hb
  ·simp at hb;subst hb;exact ⟨h1,h2⟩
theorem GrV.putP (h:GrV V As Gs) {p:Pf} (hc:chkP p=0) (h1:inQ p par=true) (h2:p≠par) (hn:∀ q ∈ Gs,inQ p q=false∧inQ q p=false) (v:List UInt8):GrV (turnV V ⟨pkOf xN p,v,false⟩) As (Gs++[p]):=by
 have hk:=keyI_pk (net:=xN) (by decide) (p:=p) hc
 have hpn:=pf_nat (p:=p) hc
 have hkp:kPf (pkOf xN p)=p:=by
  unfold kPf
  rw [hk]
  show (((p.1.toNat:Nat):Int),((p.2.toNat:Nat):Int))=p
  rw [hpn.1,hpn.2]
 refine ⟨turn_ne.2 (.inl h.net),fun s hs=>?_,fun q=>?_,fun b=>?_,h.an,h.ai,?_,fun q hq=>?_⟩
 ·rcases turn_ne.1 hs with hs | rfl
  ·exact h.nets s hs
  ·rw [hk]
 ·rw [List.mem_append,List.mem_singleton,← or_assoc,← h.pf q]
  constructor
  ·rintro ⟨s,hs,q1,q2⟩
   rcases turn_ne.1 hs with hs | rfl
   ·exact .inl ⟨s,hs,q1,q2⟩
   ·exact .inr (by rw [q2,hkp])
  ·rintro (⟨s,hs,q1,q2⟩ | rfl)
   ·exact ⟨s,turn_ne.2 (.inl hs),q1,q2⟩
   ·exact ⟨_,turn_ne.2 (.inr rfl),by rw [hk],hkp.symm⟩
 ·rw [← h.ad b]
  constructor
  ·rintro ⟨s,hs,q1,q2⟩
   rcases turn_ne.1 hs with hs | rfl
   ·exact ⟨s,hs,q1,q2⟩
   ·rw [hk] at q1;cases q1
  ·rintro ⟨s,hs,q1,q2⟩
   exact ⟨s,turn_ne.2 (.inl hs),q1,q2⟩
 ·rw [List.pairwise_append]
  refine ⟨h.gn,List.pairwise_singleton _ _,fun a ha b hb=>?_⟩
  simp at hb
  subst hb
  exact ⟨(hn a ha).2,(hn a ha).1⟩
 ·rcases List.mem_append.1 hq with hq | hq
  ·exact h.gi q hq
  ·simp at hq;subst hq;exact ⟨hc,h1,h2⟩
theorem par_u:uLo par.1 par.2=1∧uHi par.1 par.2=62∧lastP par=63:=by decide
theorem first_free {l:List Pf} {n:Int} (h:(firstR par l n).1=0):chkP (firstR par l n).2=0∧inQ (firstR par l n).2 par=true∧∀ q ∈ l,inQ (firstR par l n).2 q=false∧inQ q (firstR par l n).2=false:=by
 have hc:=firstR_chk par l n h
 refine ⟨hc,?_⟩
 unfold firstR at h ⊢
 by_cases hf:greatFault par l n=0
 ·rw [if_neg (by rw [hf];simp)] at h ⊢
  obtain ⟨f1,f2,f3⟩:=greatFault_zero.1 hf
  cases hg:greatL par l n with
  | nil=>rw [hg] at h;exact absurd (show (4:Int)=0 from h) (by decide)
  | cons b r =>
   simp only
   have hb:b ∈ greatL par l n:=by rw [hg];exact List.mem_cons_self
   obtain ⟨hb1,hb2⟩:=great_mem.1 hb
   obtain ⟨k1,k2,k3⟩:=block_facts f1 hb1
   have hbc:=chk_zero.1 k1
   have hlast:lastP (b.1,n)≤lastP b:=by
    show b.1+sz n - 1≤b.1+sz b.2 - 1
    have hp:=sz_times (m:=b.2) (n:=n) hbc.1 hb2 f3
    have hs:=sz_pos n
    have:(1:Int)≤((2 ^ (n - b.2).toNat:Nat):Int):=by
     have:=Nat.two_pow_pos (n - b.2).toNat
     omega
    have:=Int.mul_le_mul_of_nonneg_right this (Int.le_of_lt hs)
    omega
   have hge:=last_geP ((b.1,n):Pf)
   rw [inQ_iff] at k2
   refine ⟨inQ_iff.2 ⟨k2.1,by omega⟩,fun q hq=>?_⟩
   have hg1:=last_geP b
   have hm:memP (blocksL par l) b.1=true:=memP_iff.2 ⟨b,hb1,Int.le_refl _,hg1⟩
   unfold blocksL at hm
   rw [coverSet_addr (gaps_valid f1),gaps_mem f1] at hm
   have hm2:memP l b.1=false:=by simp at hm;exact hm.2
   constructor
   ·cases e:inQ (b.1,n) q with
    | false=>rfl
    | true =>
     rw [inQ_iff] at e
     have e1:q.1≤b.1:=e.1
     have e2:lastP (b.1,n)≤lastP q:=e.2
     have e3:b.1≤lastP (b.1,n):=hge
     have:=memP_iff.2 ⟨q,hq,e1,by omega⟩
     rw [hm2] at this
     cases this
   ·cases e:inQ q (b.1,n) with
    | false=>rfl
    | true =>
     rw [inQ_iff] at e
     have e1:b.1≤q.1:=e.1
     have e2:lastP q≤lastP (b.1,n):=e.2
     have:=(k3 q hq).2
     have h2:=inQ_iff.2 (show b.1≤q.1∧lastP q≤lastP b from ⟨e1,by omega⟩)
     rw [this] at h2
     cases h2
 ·rw [if_pos hf] at h
  exact absurd h hf
theorem next_free {used:List Int} (h:(nextR par used).1=0):1≤(nextR par used).2∧(nextR par used).2≤62∧(nextR par used).2 ∉ used:=by
 unfold nextR at h ⊢
 by_cases hf:usedFault par.1 par.2 used=0
 ·rw [if_neg (by rw [hf];simp)] at h ⊢
  by_cases hx:uHi par.1 par.2 < nextOf par.1 par.2 used
  ·rw [if_pos hx] at h;exact absurd h (by decide)
  ·rw [if_neg hx]
   have hs:=nextOf_spec par.1 par.2 used (by rw [par_u.1,par_u.2.1];decide)
   have hm:=hs.2.2.1
   rw [mem_marks,par_u.1,par_u.2.1] at hm
   rw [par_u.1,par_u.2.1] at hs
   rw [par_u.2.1] at hx
   refine ⟨hs.1,by show nextOf par.1 par.2 used≤62;omega,fun q=>hm ⟨q,hs.1,by omega⟩⟩
 ·rw [if_pos hf] at h;exact absurd h hf
end
section
variable {β : Base} {t : St} {As : List Int} {Gs : List Pf}
def QG (β:Base) (own:List Chg) (As:List Int) (Gs:List Pf) (w:Int) (a:PAns) (e:Int) (own':List Chg):Prop :=
 (e≠0∧own'=own)∨(e=0∧KeepO β own'∧GrV (seeB β own') (As++if w=7 then [a.ad] else []) (Gs++if w=7 then [] else [(a.pa,a.pn)]))
theorem gr_A (h:KeepO β t.own) (g:GrV (seeB β t.own) As Gs):Wp β (doP gA) t (QG β t.own As Gs 7):=by
 unfold doP
 refine Wp.ite (fun e=>Wp.no _ (.inl ⟨e,rfl⟩)) (fun hf=>?_)
 refine Wp.has _ _ (fun b e t1 e1 hy hno=>?_)
 refine Wp.ite (fun q=>Wp.no _ (.inl ⟨q,e1⟩)) (fun he=>?_)
 refine Wp.ite (fun w1=>absurd w1 (by decide)) (fun w1=>Wp.ite (fun _=>Wp.no _ (.inl ⟨by decide,e1⟩)) (fun hb=>?_))
 unfold do2P
 rw [if_neg (by decide),if_neg (by decide),if_neg (by decide),if_neg (by decide),if_neg (by decide),if_pos (by decide)]
 unfold nextAP
 refine Wp.pfxs _ _ (fun e2 L t2 e2' hL=>?_)
 refine Wp.ite (fun q=>Wp.no _ (.inl ⟨q,by rw [e2',e1]⟩)) (fun q2=>Wp.ite (fun _=>Wp.no _ (.inl ⟨by decide,by rw [e2',e1]⟩)) (fun q3=>?_))
 refine Wp.ads _ _ (fun e3 A t3 e3' hA=>?_)
 refine Wp.ite (fun q=>Wp.no _ (.inl ⟨q,by rw [e3',e2',e1]⟩)) (fun q4=>Wp.ite (fun q=>Wp.no _ (.inl ⟨q,by rw [e3',e2',e1]⟩)) (fun q5=>?_))
 have hown:t3.own=t.own:=by rw [e3',e2',e1]
 refine Wp.chg _ _ (fun e he=>.inl ⟨he,hown⟩) (fun _ _=>.inr ⟨rfl,?_⟩)
 have hA:=hA (Decidable.not_not.1 q4)
 rw [e2',e1] at hA
 obtain ⟨out,a1,a2⟩:=h.1.ads (net:=xN) (by decide)
 have a1:readAll adO (rangeB (seeB β t.own) (loK 97 gA.name) (hiK 97 gA.name))=some out:=a1
 rw [hA] at a1
 injection a1 with a1
 subst a1
 have q5:=Decidable.not_not.1 q5
 have r0:=next_free (used:=A.filter fun a=>inA a gA.pf) q5
 show KeepO β (insC ⟨akOf xN (nextR par (A.filter fun a=>inA a par)).2,oN,false⟩ t3.own)∧GrV (seeB β (insC ⟨akOf xN (nextR par (A.filter fun a=>inA a par)).2,oN,false⟩ t3.own)) (As++if (7:Int)=7 then [(nextR par (A.filter fun a=>inA a par)).2] else []) (Gs++if (7:Int)=7 then [] else [(0,0)])
 have r0:1≤(nextR par (A.filter fun a=>inA a par)).2∧(nextR par (A.filter fun a=>inA a par)).2≤62∧(nextR par (A.filter fun a=>inA a par)).2 ∉ A.filter fun a=>inA a par:=r0
 generalize (nextR par (A.filter fun a=>inA a par)).2=na at *
 obtain ⟨r1,r2,r3⟩:=r0
 have hni:na ∉ As:=fun q=>by
  refine r3 (List.mem_filter.2 ⟨?_,?_⟩)
  ·obtain ⟨s,s1,s2,s3⟩:=(g.ad _).2 q
   exact (a2 _).2 ⟨s,s1,s2,g.nets s s1,s3⟩
  ·have:=g.ai _ q
   exact inA_iff.2 ⟨by show (0:Int)≤_;omega,by show _≤lastP par;rw [par_u.2.2];omega⟩
 rw [hown]
 refine ⟨?_,?_⟩
 ·obtain ⟨s,s1,s2,s3⟩:=(g.pf par).2 (.inl rfl)
  refine h.adr (net:=xN) (by decide) (by decide) (isA_true.2 ⟨by omega,by omega⟩) ⟨_,g.net,by decide,by decide⟩ ⟨s,s1,s2,g.nets s s1,?_⟩
  have s3:(((keyI s).pa:Int),((keyI s).pn:Int))=par:=s3.symm
  rw [s3]
  exact inA_iff.2 ⟨by show (0:Int)≤_;omega,by rw [par_u.2.2];omega⟩
 ·rw [see_ins β h.2,if_pos rfl,if_pos rfl,List.append_nil]
  exact g.putA r1 r2 hni _
theorem gr_P (n:Int) (h:KeepO β t.own) (g:GrV (seeB β t.own) As Gs):Wp β (doP (gP n)) t (QG β t.own As Gs 6):=by
 unfold doP
 refine Wp.ite (fun e=>Wp.no _ (.inl ⟨e,rfl⟩)) (fun hf=>?_)
 refine Wp.has _ _ (fun b e t1 e1 hy hno=>?_)
 refine Wp.ite (fun q=>Wp.no _ (.inl ⟨q,e1⟩)) (fun he=>?_)
 refine Wp.ite (fun w1=>absurd w1 (show ¬ (6:Int)=1 by decide)) (fun w1=>Wp.ite (fun _=>Wp.no _ (.inl ⟨by decide,e1⟩)) (fun hb=>?_))
 unfold do2P
 rw [if_neg (show ¬ (gP n).what=2 from (show ¬ (6:Int)=2 by decide)),if_neg (show ¬ (gP n).what=3 from (show ¬ (6:Int)=3 by decide)),if_neg (show ¬ (gP n).what=4 from (show ¬ (6:Int)=4 by decide)),if_neg (show ¬ (gP n).what=5 from (show ¬ (6:Int)=5 by decide)),if_pos (show (gP n).what=6 from rfl)]
 unfold nextPP
 refine Wp.pfxs _ _ (fun e2 L t2 e2' hL=>?_)
 have hown:t2.own=t.own:=by rw [e2',e1]
 refine Wp.ite (fun q=>Wp.no _ (.inl ⟨q,hown⟩)) (fun q2=>Wp.ite (fun _=>Wp.no _ (.inl ⟨by decide,hown⟩)) (fun q3=>?_))
 refine Wp.ite (fun q=>Wp.no _ (.inl ⟨q,hown⟩)) (fun q4=>Wp.ite (fun _=>Wp.no _ (.inl ⟨by decide,hown⟩)) (fun q5=>?_))
 refine Wp.chg _ _ (fun e he=>.inl ⟨he,hown⟩) (fun _ _=>.inr ⟨rfl,?_⟩)
 have hL:=hL (Decidable.not_not.1 q2)
 rw [e1] at hL
 obtain ⟨out,a1,a2⟩:=h.1.pfxs (net:=xN) (by decide)
 have a1:readAll pfxO (rangeB (seeB β t.own) (loK 112 (gP n).name) (hiK 112 (gP n).name))=some out:=a1
 rw [hL] at a1
 injection a1 with a1
 subst a1
 have q4:(firstR par (withinL par L) n).1=0:=Decidable.not_not.1 q4
 have q5:(firstR par (withinL par L) n).2≠par:=q5
 obtain ⟨r1,r2,r3⟩:=first_free q4
 rw [hown]
 refine ⟨?_,?_⟩
 ·exact h.pfx (net:=xN) (v:=oN) (by decide) (by decide) (p:=(firstR par (withinL par L) n).2) r1 ⟨_,g.net,by decide,by decide⟩
 ·rw [see_ins β h.2,if_neg (show ¬ (6:Int)=7 by decide),if_neg (show ¬ (6:Int)=7 by decide),List.append_nil]
  refine g.putP r1 r2 q5 (fun q hq=>r3 q ?_) _
  obtain ⟨g1,g2,g3⟩:=g.gi q hq
  obtain ⟨s,s1,s2,s3⟩:=(g.pf q).2 (.inr hq)
  unfold withinL
  rw [List.mem_filter]
  refine ⟨(a2 q).2 ⟨s,s1,s2,g.nets s s1,s3⟩,?_⟩
  have g2:inP q.1 q.2 par.1 par.2=true:=g2
  rw [g2]
  simpa using g3
def gAs:List PCall→List (PAns × Int)→List Int
 | c::cs,r::rs=>(if r.2=0∧c.what=7 then [r.1.ad] else [])++gAs cs rs
 | _,_=>[]
def gPs:List PCall→List (PAns × Int)→List Pf
 | c::cs,r::rs=>(if r.2=0∧c.what≠7 then [(r.1.pa,r.1.pn)] else [])++gPs cs rs
 | _,_=>[]
theorem gr_one {c:PCall} (hc:isG c) (h:KeepO β t.own) (g:GrV (seeB β t.own) As Gs) :
  KeepO β ((doP c).runS β t).2.own∧GrV (seeB β ((doP c).runS β t).2.own) (As++gAs [c] [((doP c).runS β t).1]) (Gs++gPs [c] [((doP c).runS β t).1]):=by
 have key:∀ w,c.what=w→QG β t.own As Gs w ((doP c).runS β t).1.1 ((doP c).runS β t).1.2 ((doP c).runS β t).2.own→KeepO β ((doP c).runS β t).2.own∧GrV (seeB β ((doP c).runS β t).2.own) (As++gAs [c] [((doP c).runS β t).1]) (Gs++gPs [c] [((doP c).runS β t).1]):=by
  rintro w hw (⟨q1,q2⟩ | ⟨q1,q2,q3⟩)
  ·rw [q2]
   unfold gAs gPs gAs gPs
   rw [if_neg (fun q=>q1 q.1),if_neg (fun q=>q1 q.1)]
   simp
   exact ⟨h,g⟩
  ·refine ⟨q2,?_⟩
   unfold gAs gPs gAs gPs
   by_cases e:w=7
   ·rw [if_pos e,if_pos e] at q3
    rw [if_pos ⟨q1,by rw [hw];exact e⟩,if_neg (fun q=>q.2 (by rw [hw];exact e))]
    simpa using q3
   ·rw [if_neg e,if_neg e] at q3
    rw [if_neg (fun q=>e (by rw [← hw];exact q.2)),if_pos ⟨q1,by rw [hw];exact e⟩]
    simpa using q3
 rcases hc with rfl | ⟨n,rfl⟩
 ·exact key 7 rfl (gr_A h g)
 ·exact key 6 rfl (gr_P n h g)
theorem gr_run:∀ (cs:List PCall) (t:St) (As:List Int) (Gs:List Pf),(∀ c ∈ cs,isG c)→KeepO β t.own→GrV (seeB β t.own) As Gs →
  GrV (seeB β (runL doP β cs t).2.own) (As++gAs cs (runL doP β cs t).1) (Gs++gPs cs (runL doP β cs t).1)
 | [],t,As,Gs,_,h,g=>by
  show GrV (seeB β t.own) (As++gAs [] []) (Gs++gPs [] [])
  simpa [gAs,gPs] using g
 | c::cs,t,As,Gs,hc,h,g=>by
  obtain ⟨h1,g1⟩:=gr_one (hc c List.mem_cons_self) h g
  have ih:=gr_run cs ((doP c).runS β t).2 _ _ (fun x hx=>hc x (List.mem_cons_of_mem _ hx)) h1 g1
  unfold runL
  have e1:gAs (c::cs) (((doP c).runS β t).1::(runL doP β cs ((doP c).runS β t).2).1)=gAs [c] [((doP c).runS β t).1]++gAs cs (runL doP β cs ((doP c).runS β t).2).1:=by
   show (if _∧_ then _ else [])++gAs cs _=((if _∧_ then _ else [])++[])++gAs cs _
   rw [List.append_nil]
  have e2:gPs (c::cs) (((doP c).runS β t).1::(runL doP β cs ((doP c).runS β t).2).1)=gPs [c] [((doP c).runS β t).1]++gPs cs (runL doP β cs ((doP c).runS β t).2).1:=by
   show (if _∧_ then _ else [])++gPs cs _=((if _∧_ then _ else [])++[])++gPs cs _
   rw [List.append_nil]
  rw [e1,e2,← List.append_assoc,← List.append_assoc]
  exact ih
end
theorem gNo:∀ (cs:List PCall) (rs:List (PAns × Int)),(∀ c ∈ cs,isG c)→chgd isCh cs rs=false→gAs cs rs=[]∧gPs cs rs=[]
 | [],rs,_,_=>by cases rs <;> exact ⟨rfl,rfl⟩
 | c::cs,[],_,_=>⟨rfl,rfl⟩
 | c::cs,r::rs,hc,h=>by
  unfold chgd at h
  simp only [List.zip_cons_cons,List.any_cons,Bool.or_eq_false_iff] at h
  have ih:=gNo cs rs (fun x hx=>hc x (List.mem_cons_of_mem _ hx)) h.2
  have hr:r.2≠0:=fun e=>by
   have h1:=h.1
   unfold isCh at h1
   rw [e] at h1
   rcases hc c List.mem_cons_self with rfl | ⟨n,rfl⟩
   ·exact absurd h1 (by decide)
   ·have:(gP n).what=6:=rfl
    rw [this] at h1
    exact absurd h1 (by decide)
  unfold gAs gPs
  rw [if_neg (fun q=>hr q.1),if_neg (fun q=>hr q.1),ih.1,ih.2]
  exact ⟨rfl,rfl⟩
theorem gAs_snoc (c:PCall) (r:PAns × Int):∀ (cs:List PCall) (rs:List (PAns × Int)),cs.length=rs.length→gAs (cs++[c]) (rs++[r])=gAs cs rs++(if r.2=0∧c.what=7 then [r.1.ad] else [])
 | [],[],_=>by simp [gAs]
 | [],_::_,h=>by cases h
 | _::_,[],h=>by cases h
 | c'::cs,r'::rs,h=>by
  rw [List.cons_append,List.cons_append,gAs,gAs,gAs_snoc c r cs rs (by simpa using h),List.append_assoc]
theorem gPs_snoc (c:PCall) (r:PAns × Int):∀ (cs:List PCall) (rs:List (PAns × Int)),cs.length=rs.length→gPs (cs++[c]) (rs++[r])=gPs cs rs++(if r.2=0∧c.what≠7 then [(r.1.pa,r.1.pn)] else [])
 | [],[],_=>by simp [gPs]
 | [],_::_,h=>by cases h
 | _::_,[],h=>by cases h
 | c'::cs,r'::rs,h=>by
  rw [List.cons_append,List.cons_append,gPs,gPs,gPs_snoc c r cs rs (by simpa using h),List.append_assoc]
structure GrI (h:Hl) (op:List (Opn PCall (PAns × Int))) (As:List Int) (Gs:List Pf):Prop where
 s:SerG h.d 100000
 o:OpI doP h.d op
 hop:h.op=op.map (fun x=>(x.who,x.id))
 nod:(op.map Opn.who).Nodup
 ord:HOrd h.d
 gr:GrV (fun s=>tell h.d.F s h.d.last) As Gs
 cs:∀ x ∈ op,∀ c ∈ x.cs,isG c
section
variable {h : Hl} {op : List (Opn PCall (PAns × Int))} {As : List Int} {Gs : List Pf}
theorem find_who:∀ {op:List (Opn PCall (PAns × Int))},(op.map Opn.who).Nodup→∀ {k:Nat} (hk:k < op.length),findH (op.map (fun x=>(x.who,x.id))) op[k].who=some op[k].id:=by
 intro op hn
 unfold findH
 induction op with
 | nil=>intro k hk;simp at hk
 | cons x l ih =>
  intro k hk
  rw [List.map_cons,List.nodup_cons] at hn
  rw [List.map_cons]
  rcases k with _ | k
  ·rw [List.find?_cons_of_pos (by simp)]
   rfl
  ·have hk':k < l.length:=by simpa using hk
   rw [List.find?_cons_of_neg]
   ·exact ih hn.2 hk'
   ·simp
    intro e
    exact hn.1 (List.mem_map.2 ⟨l[k],List.getElem_mem _,e.symm⟩)
theorem GrI.open (q:GrI h op As Gs) (who:List UInt8):(h.open who).1≠0∧GrI (h.open who).2 op As Gs∨(h.open who).1=0∧GrI (h.open who).2 (op++[⟨who,h.d.begin.1,[],[]⟩]) As Gs:=by
 have ho:=q.ord.hopen who
 have hk:=open_keeps h who
 have hlast:(h.open who).2.d.last=h.d.last:=by unfold Dk.last;rw [hk.1]
 have hgr:GrV (fun s=>tell (h.open who).2.d.F s (h.open who).2.d.last) As Gs:=by rw [hlast,hk.2.1];exact q.gr
 clear hk hlast
 by_cases h1:nameB who=false
 ·have e:h.open who=(5,h):=by unfold Hl.open;rw [if_pos h1]
  rw [e]
  exact .inl ⟨(by show (5:Int)≠0;decide),q⟩
 ·by_cases hs:(findH h.op who).isSome=true
  ·have e:h.open who=(6,h):=by unfold Hl.open;rw [if_neg h1,if_pos hs]
   rw [e]
   exact .inl ⟨(by show (6:Int)≠0;decide),q⟩
  ·by_cases hb:h.d.begin.2.1≠0
   ·have e:h.open who=(h.d.begin.2.1,{ h with d:=h.d.begin.2.2 }):=by unfold Hl.open;rw [if_neg h1,if_neg hs,if_pos hb]
    rw [e]
    have e:=begin_op0 h.d hb
    refine .inl ⟨hb,?_⟩
    show GrI { h with d:=h.d.begin.2.2 } op As Gs
    rw [e]
    exact q
   ·have e9:h.open who=(0,⟨h.d.begin.2.2,h.op++[(who,h.d.begin.1)]⟩):=by unfold Hl.open;rw [if_neg h1,if_neg hs,if_neg hb]
    rw [e9] at ho hgr ⊢
    clear e9
    have hb0:h.d.begin.2.1=0:=Decidable.not_not.1 hb
    have hfn:findH h.op who=none:=by
     cases e:findH h.op who with
     | none=>rfl
     | some x=>rw [e] at hs;exact absurd rfl hs
    refine .inr ⟨rfl,q.s.begin,q.o.begin q.s who hb0,?_,?_,ho,hgr,?_⟩
    ·show h.op++[(who,h.d.begin.1)]=_
     rw [q.hop]
     simp
    ·rw [List.map_append,List.nodup_append]
     refine ⟨q.nod,by simp,?_⟩
     intro a ha b hb e
     simp at hb
     subst hb
     subst e
     obtain ⟨x,hx,rfl⟩:=List.mem_map.1 ha
     obtain ⟨k,hk,rfl⟩:=List.getElem_of_mem hx
     rw [q.hop,find_who q.nod hk] at hfn
     cases hfn
    ·intro x hx c hc
     rcases List.mem_append.1 hx with hx | hx
     ·exact q.cs x hx c hc
     ·simp at hx
      subst hx
      cases hc
theorem GrI.ask (q:GrI h op As Gs) {k:Nat} (hk:k < op.length) {c:PCall} (hc:isG c) :
  GrI (h.ask op[k].who c).2.2 (op.set k ⟨op[k].who,op[k].id,op[k].cs++[c],op[k].rs++[((h.ask op[k].who c).1,(h.ask op[k].who c).2.1)]⟩) As Gs:=by
 have ho:=q.ord.hask op[k].who c
 have hkp:=ask_keeps h op[k].who c
 have hgr:GrV (fun s=>tell (h.ask op[k].who c).2.2.d.F s (h.ask op[k].who c).2.2.d.last) As Gs:=by
  have hlast:(h.ask op[k].who c).2.2.d.last=h.d.last:=by unfold Dk.last;rw [hkp.1]
  rw [hlast,hkp.2.1];exact q.gr
 clear hkp
 unfold Hl.ask at ho hgr ⊢
 rw [q.hop,find_who q.nod hk,← q.hop] at ho hgr ⊢
 obtain ⟨t,ht,a1,a2,a3,a4⟩:=q.o.ask q.s hk c
 have e:h.d.doC op[k].id c=flat3 ((doP c).run op[k].id h.d):=(doC_run _ _ _).symm
 simp only [e] at ho hgr ⊢
 unfold flat3 at ho hgr ⊢
 refine ⟨a2,a4,?_,?_,ho,hgr,?_⟩
 ·rw [q.hop,List.map_set]
  have h1:k < (op.map (fun x=>(x.who,x.id))).length:=by simpa using hk
  have e2:(op[k].who,op[k].id)=(op.map (fun x=>(x.who,x.id)))[k]:=by simp
  show _=(op.map (fun x=>(x.who,x.id))).set k (op[k].who,op[k].id)
  rw [e2,List.set_getElem_self]
 ·rw [List.map_set]
  have h1:k < (op.map Opn.who).length:=by simpa using hk
  have e2:op[k].who=(op.map Opn.who)[k]:=by simp
  show ((op.map Opn.who).set k op[k].who).Nodup
  rw [e2,List.set_getElem_self]
  exact q.nod
 ·intro x hx c' hc'
  rcases List.mem_or_eq_of_mem_set hx with hx | rfl
  ·exact q.cs x hx c' hc'
  ·rcases List.mem_append.1 hc' with hc' | hc'
   ·exact q.cs _ (List.getElem_mem hk) c' hc'
   ·simp at hc'
    subst hc'
    exact hc
theorem GrI.close (q:GrI h op As Gs) {k:Nat} (hk:k < op.length) :
  ((h.close op[k].who).2.1≠0∧GrI (h.close op[k].who).2.2 (op.eraseIdx k) As Gs) ∨
  ((h.close op[k].who).2.1=0∧GrI (h.close op[k].who).2.2 (op.eraseIdx k) (As++gAs op[k].cs op[k].rs) (Gs++gPs op[k].cs op[k].rs)):=by
 have ho:=q.ord.hclose op[k].who
 unfold Hl.close at ho ⊢
 rw [q.hop,find_who q.nod hk] at ho ⊢
 rw [show eraseH (op.map (fun x=>(x.who,x.id))) op[k].who=(op.eraseIdx k).map (fun x=>(x.who,x.id)) from erase_idx q.nod hk] at ho ⊢
 have hnod:=q.nod.sublist ((List.eraseIdx_sublist op k).map _)
 have hcs:∀ x ∈ op.eraseIdx k,∀ c ∈ x.cs,isG c:=fun x hx=>q.cs x (List.mem_of_mem_eraseIdx hx)
 obtain ⟨t,ht,hr⟩:=q.o.each op[k] (List.getElem_mem hk)
 obtain ⟨hm,hid⟩:=findT_mem ht
 have hb:=q.s.bnd t hm
 obtain ⟨c1,c2⟩:=q.s.commit ht
 have hdrop:OpI doP (h.d.commit op[k].id).2.2 (op.eraseIdx k):=q.o.drop hk (by rw [c2.op,hid]) (fun u hu s=>q.s.tell_old ht (q.s.bnd u hu).2.2 s)
 rcases c2.way with ⟨w1,w2,w3,w4⟩ | ⟨w1,w2,w3,w4,w5⟩ | ⟨w1,w2,w3,w4,w5,w6,w7⟩
 ·have hlast:(h.d.commit op[k].id).2.2.last=h.d.last:=by unfold Dk.last;rw [w3]
  refine .inl ⟨w1,c1,hdrop,rfl,hnod,ho,?_,hcs⟩
  show GrV (fun s=>tell (h.d.commit op[k].id).2.2.F s (h.d.commit op[k].id).2.2.last) As Gs
  rw [hlast,w4]
  exact q.gr
 ·have hlast:(h.d.commit op[k].id).2.2.last=h.d.last:=by unfold Dk.last;rw [w4]
  refine .inr ⟨w1,c1,hdrop,rfl,hnod,ho,?_,hcs⟩
  have hch:chgd isCh op[k].cs op[k].rs=false:=by
   have:=chgd_own doP_tells (baseOf h.d t) op[k].cs stZ
   rw [hr] at this
   exact (this.1 w2).2
  obtain ⟨e1,e2⟩:=gNo _ _ (q.cs _ (List.getElem_mem hk)) hch
  rw [e1,e2,List.append_nil,List.append_nil]
  show GrV (fun s=>tell (h.d.commit op[k].id).2.2.F s (h.d.commit op[k].id).2.2.last) As Gs
  rw [hlast,w5]
  exact q.gr
 ·have hlast:(h.d.commit op[k].id).2.2.last=h.d.last+1:=by unfold Dk.last;rw [w4];simp
  refine .inr ⟨w1,c1,hdrop,rfl,hnod,ho,?_,hcs⟩
  show GrV (fun s=>tell (h.d.commit op[k].id).2.2.F s (h.d.commit op[k].id).2.2.last) _ _
  rw [hlast,w5]
  have hta:=tell_app q.s.good (rise_of w7)
  rw [hta]
  have hag:AgreeB (baseOf h.d t) (fun s=>tell h.d.F s h.d.last) (runL doP (baseOf h.d t) op[k].cs stZ).2:=by rw [hr];exact w6
  have hrun:=runL_agree doP op[k].cs stZ hag
  rw [hr] at hrun
  have hg:=gr_run (β:=fun s=>tell h.d.F s h.d.last) op[k].cs stZ As Gs (q.cs _ (List.getElem_mem hk)) ⟨by show OrdV (seeB _ []);rw [seeB_nil];exact q.ord.now,List.Pairwise.nil⟩ (by show GrV (seeB _ []) As Gs;rw [seeB_nil];exact q.gr)
  rw [hrun] at hg
  exact hg
end
def pAdd:PCall:=⟨2,[120],0,26,0,0,[111]⟩
def px2:Chg:=⟨pkOf [120] (0,26),[111],false⟩
def glg1:Lg:=⟨-1,false,100000,frame [ox1],0⟩
def glg2:Lg:=⟨-1,false,100000,frame [ox1]++frame [px2],0⟩
def gd1:Dk:=dkNext (Dk.new 100000) ox1 glg1
def gd2:Dk:=dkNext gd1 px2 glg2
theorem ppk_lit:pkOf [120] (0,26)=[112,47,120,47,48,48,48,48,48,48,48,48,50,54]:=by
 have e1:=dec_one (n:=2) (by decide)
 have e2:=dec_one (n:=6) (by decide)
 show [112,47]++[120]++[47]++hexL 8 0++Go.Lib.decDigits 2++Go.Lib.decDigits 6=_
 rw [e1,e2]
 decide
theorem px2_lit:px2=⟨[112,47,120,47,48,48,48,48,48,48,48,48,50,54],[111],false⟩:=by unfold px2;rw [ppk_lit]
theorem gg0:GoodR (Dk.new 100000).F (Dk.new 100000).last:=GoodR.nil _
theorem gg1:GoodR gd1.F gd1.last:=dkNext_good gg0 _ _
theorem gg2:GoodR gd2.F gd2.last:=dkNext_good gg1 _ _
theorem gb0 (s:List UInt8):baD (Dk.new 100000) s=none:=tell_nought'
theorem gb1 (s:List UInt8):baD gd1 s=if s=nKey [120] then some [111] else none:=by
 unfold gd1
 rw [dkNext_base gg0,ox1,see_put,gb0]
theorem gb2 (s:List UInt8):baD gd2 s=if s=pkOf [120] (0,26) then some [111] else if s=nKey [120] then some [111] else none:=by
 unfold gd2
 rw [dkNext_base gg1,px2,see_put,gb1]
theorem gapp1:(Dk.new 100000).lg.append [ox1]=(0,glg1):=by
 have hf:chgFault [ox1]=0:=by decide
 have hl:(encL [ox1]).length≤40:=by decide
 unfold Lg.append
 rw [if_neg (by rw [hf];simp),if_neg (by show ¬ (100000:Int) < (([]:List UInt8).length:Int)+2+((encL [ox1]).length:Int);simp;omega),if_neg (by decide),if_neg (by decide)]
 rfl
theorem gfault2:chgFault [px2]=0:=by rw [px2_lit];decide
theorem glen2:(encL [px2]).length≤60:=by rw [px2_lit];decide
theorem gapp2:glg1.append [px2]=(0,glg2):=by
 have hf:=gfault2
 have hl:=glen2
 have hl1:(frame [ox1]).length≤60:=by decide
 unfold Lg.append
 rw [if_neg (by rw [hf];simp),if_neg (by show ¬ (100000:Int) < ((frame [ox1]).length:Int)+2+((encL [px2]).length:Int);omega),if_neg (by decide),if_neg (by decide)]
 rfl
theorem gone1:(Hl.new 100000).once oNet=(noAns,1,0,⟨gd1,[]⟩):=by
 have hr:aloneRun (Hl.new 100000).d oNet=_:=net_run (nm:=[120]) (ow:=[111]) (by decide) (by decide) (β:=baD (Dk.new 100000)) (t:=st0) (by decide) (by decide) (by show seeB _ [] _=_;rw [seeB_nil];exact gb0 _) rfl
 exact once_own rfl rfl rfl gg0.noLater oNet hr rfl rfl gapp1
theorem gone2:(⟨gd1,[]⟩:Hl).once pAdd=(noAns,2,0,⟨gd2,[]⟩):=by
 have hr:aloneRun (⟨gd1,[]⟩:Hl).d pAdd=_:=addS (c:=pAdd) (β:=baD gd1) (t:=st0) rfl (by decide) (by decide) (by decide) (v:=[111]) (by show seeB _ [] _=_;rw [seeB_nil];exact (gb1 _).trans (if_pos rfl)) (by show seeB _ [] _=_;rw [seeB_nil];exact (gb1 _).trans (if_neg (by decide)))
 exact once_own rfl rfl rfl gg1.noLater pAdd hr rfl rfl gapp2
theorem gord2:HOrd gd2:=by
 have h1:=HOrd.honce (h:=Hl.new 100000) (HOrd.new 100000) oNet
 rw [gone1] at h1
 have h2:=HOrd.honce (h:=⟨gd1,[]⟩) h1 pAdd
 rw [gone2] at h2
 exact h2
theorem gser2:SerG gd2 100000:=by
 refine ⟨rfl,gg2,List.Pairwise.nil,fun t ht=>(by cases ht),rfl,(by show (-1:Int) < 0;decide),rfl,?_,?_,?_⟩
 ·show frame [ox1]++frame [px2]=frames [[ox1],[px2]]
  rw [show ([[ox1],[px2]]:List (List Chg))=[[ox1]]++[[px2]] from rfl,frames_append,frames_one,frames_one]
 ·show ((frames [[ox1],[px2]]).length:Int)≤100000
  rw [show ([[ox1],[px2]]:List (List Chg))=[[ox1]]++[[px2]] from rfl,frames_append,frames_one,frames_one,List.length_append,frame_length,frame_length]
  have hl:=glen2
  have hl1:(encL [ox1]).length≤60:=by decide
  omega
 ·intro l hl
  have hl:l=[ox1]∨l=[px2]:=by simpa [gd2,gd1,dkNext,Dk.put,Dk.new] using hl
  rcases hl with rfl | rfl
  ·decide
  ·exact gfault2
theorem ggr2:GrI ⟨gd2,[]⟩ [] [] []:=by
 have hk:=keyI_pk (net:=[120]) (by decide) (p:=(0,26)) (by decide)
 have hn:∀ s,baD gd2 s≠none ↔ s=pkOf [120] (0,26)∨s=nKey [120]:=fun s=>by
  rw [gb2]
  by_cases e:s=pkOf [120] (0,26)
  ·simp [e]
  ·by_cases e2:s=nKey [120]
   ·simp [e2]
   ·rw [if_neg e,if_neg e2]
    simp [e,e2]
 refine ⟨gser2,OpI.nil _,rfl,List.Pairwise.nil,gord2,?_,fun x hx=>(by cases hx)⟩
 show GrV (baD gd2) [] []
 refine ⟨(hn _).2 (.inr rfl),fun s hs=>?_,fun q=>?_,fun a=>?_,List.Pairwise.nil,fun a ha=>(by cases ha),List.Pairwise.nil,fun a ha=>(by cases ha)⟩
 ·rcases (hn s).1 hs with rfl | rfl
  ·rw [hk];rfl
  ·decide
 ·constructor
  ·rintro ⟨s,s1,s2,rfl⟩
   rcases (hn s).1 s1 with rfl | rfl
   ·left
    unfold kPf
    rw [hk]
    rfl
   ·exact absurd s2 (by decide)
  ·rintro (rfl | q)
   ·refine ⟨pkOf [120] (0,26),(hn _).2 (.inl rfl),by rw [hk],?_⟩
    unfold kPf
    rw [hk]
    rfl
   ·cases q
 ·constructor
  ·rintro ⟨s,s1,s2,rfl⟩
   rcases (hn s).1 s1 with rfl | rfl
   ·rw [hk] at s2;cases s2
   ·exact absurd s2 (by decide)
  ·intro q;cases q
theorem nodup_filterMap {α γ:Type} (f:α→Option γ):∀ (l:List α),l.Nodup→(∀ a ∈ l,∀ b ∈ l,∀ c,f a=some c→f b=some c→a=b)→(l.filterMap f).Nodup
 | [],_,_=>List.Pairwise.nil
 | a::l,hn,hf=>by
  rw [List.nodup_cons] at hn
  have ih:=nodup_filterMap f l hn.2 (fun x hx y hy=>hf x (List.mem_cons_of_mem _ hx) y (List.mem_cons_of_mem _ hy))
  rw [List.filterMap_cons]
  split
  ·exact ih
  ·rename_i b hb
   rw [List.nodup_cons]
   refine ⟨fun q=>?_,ih⟩
   obtain ⟨x,hx,e⟩:=List.mem_filterMap.1 q
   have:=hf a List.mem_cons_self x (List.mem_cons_of_mem _ hx) b hb e
   subst this
   exact hn.1 hx
theorem same_length {α:Type} [DecidableEq α] {l m:List α} (h1:l.Nodup) (h2:m.Nodup) (h:∀ a,a ∈ l ↔ a ∈ m):l.length=m.length :=
 ((List.perm_ext_iff_of_nodup h1 h2).2 h).length_eq
section
variable {V : Base} {As : List Int} {Gs : List Pf} {L : List KV}
structure AllV (V:Base) (L:List KV):Prop where
 nod:L.Nodup
 mem:∀ s v,(s,v) ∈ L ↔ V s=some v
theorem AllV.ne (h:AllV V L) {s:List UInt8}:V s≠none ↔ ∃ v,(s,v) ∈ L:=by
 constructor
 ·intro q
  obtain ⟨v,hv⟩:=some_ne q
  exact ⟨v,(h.mem s v).2 hv⟩
 ·rintro ⟨v,hv⟩
  rw [(h.mem s v).1 hv]
  simp
theorem gr_net (h:GrV V As Gs) (a:AllV V L):netIn L xN=true:=by
 obtain ⟨v,hv⟩:=a.ne.1 h.net
 unfold netIn
 rw [List.any_eq_true]
 exact ⟨_,hv,by simp⟩
theorem gr_pfx (h:GrV V As Gs) (a:AllV V L):(pfxOf L xN).length=Gs.length+1∧par ∈ pfxOf L xN:=by
 have hm:∀ q,q ∈ pfxOf L xN ↔ q ∈ par::Gs:=fun q=>by
  rw [List.mem_cons,← h.pf q]
  unfold pfxOf
  rw [List.mem_filterMap]
  constructor
  ·rintro ⟨⟨s,v⟩,x1,x2⟩
   unfold pfxAt at x2
   split at x2
   ·rename_i c
    injection x2 with x2
    exact ⟨s,a.ne.2 ⟨v,x1⟩,c.1,x2.symm⟩
   ·cases x2
  ·rintro ⟨s,x1,x2,rfl⟩
   obtain ⟨v,hv⟩:=a.ne.1 x1
   refine ⟨(s,v),hv,?_⟩
   unfold pfxAt
   rw [if_pos ⟨x2,h.nets s x1⟩]
   rfl
 have hn1:(pfxOf L xN).Nodup:=by
  refine nodup_filterMap _ _ a.nod (fun x hx y hy c e1 e2=>?_)
  obtain ⟨s,v⟩:=x
  obtain ⟨s',v'⟩:=y
  unfold pfxAt at e1 e2
  split at e1
  ·rename_i c1
   split at e2
   ·rename_i c2
    injection e1 with e1
    injection e2 with e2
    rw [← e2] at e1
    injection e1 with p1 p2
    have ek:keyI s=keyI s':=by
     rw [keyI_2eq c1.1,keyI_2eq c2.1,c1.2,c2.2]
     have p1:((keyI s).pa:Int)=((keyI s').pa:Int):=p1
     have p2:((keyI s).pn:Int)=((keyI s').pn:Int):=p2
     rw [show (keyI s).pa=(keyI s').pa by omega,show (keyI s).pn=(keyI s').pn by omega]
    have es:=keyI_inj (by have:=c1.1;simp at this;omega) ek
    subst es
    have q1:=(a.mem s v).1 hx
    have q2:=(a.mem s v').1 hy
    rw [q1] at q2
    injection q2 with q2
    rw [q2]
   ·cases e2
  ·cases e1
 have hn2:(par::Gs).Nodup:=by
  rw [List.nodup_cons]
  refine ⟨fun q=>(h.gi _ q).2.2 rfl,?_⟩
  refine h.gn.imp fun {p q} hpq e=>?_
  subst e
  have:=hpq.1
  rw [show inQ p p=true from inQ_iff.2 ⟨Int.le_refl _,Int.le_refl _⟩] at this
  cases this
 have:=same_length hn1 hn2 hm
 exact ⟨by rw [this];rfl,(hm par).2 List.mem_cons_self⟩
def usedIn (L:List KV) (net:List UInt8) (p:Pf):List Int:=(spotsOf L).filterMap fun x=>if x.1=net∧inA x.2 p=true then some x.2 else none
theorem gr_used (h:GrV V As Gs) (a:AllV V L):(usedIn L xN par).Nodup∧(∀ x,x ∈ usedIn L xN par ↔ x ∈ As)∧(usedIn L xN par).length=As.length:=by
 have hsn:(spotsOf L).Nodup:=by
  refine nodup_filterMap _ _ a.nod (fun x hx y hy c e1 e2=>?_)
  obtain ⟨s,v⟩:=x
  obtain ⟨s',v'⟩:=y
  unfold spotAt at e1 e2
  split at e1
  ·rename_i c1
   split at e2
   ·rename_i c2
    injection e1 with e1
    injection e2 with e2
    rw [← e2] at e1
    injection e1 with p1 p2
    have ek:keyI s=keyI s':=by
     rw [keyI_3eq c1,keyI_3eq c2]
     have p1:(keyI s).net=(keyI s').net:=p1
     have p2:((keyI s).ad:Int)=((keyI s').ad:Int):=p2
     rw [p1,show (keyI s).ad=(keyI s').ad by omega]
    have es:=keyI_inj (by simp at c1;omega) ek
    subst es
    have q1:=(a.mem s v).1 hx
    have q2:=(a.mem s v').1 hy
    rw [q1] at q2
    injection q2 with q2
    rw [q2]
   ·cases e2
  ·cases e1
 have hn:(usedIn L xN par).Nodup:=by
  refine nodup_filterMap _ _ hsn (fun x hx y hy c e1 e2=>?_)
  split at e1
  ·rename_i c1
   split at e2
   ·rename_i c2
    injection e1 with e1
    injection e2 with e2
    exact Prod.ext (c1.1.trans c2.1.symm) (e1.trans e2.symm)
   ·cases e2
  ·cases e1
 have hm:∀ x,x ∈ usedIn L xN par ↔ x ∈ As:=fun x=>by
  rw [← h.ad x]
  unfold usedIn spotsOf
  rw [List.mem_filterMap]
  constructor
  ·rintro ⟨⟨n,b⟩,x1,x2⟩
   obtain ⟨⟨s,v⟩,y1,y2⟩:=List.mem_filterMap.1 x1
   unfold spotAt at y2
   split at y2
   ·rename_i c
    injection y2 with y2
    injection y2 with z1 z2
    split at x2
    ·injection x2 with x2
     exact ⟨s,a.ne.2 ⟨v,y1⟩,c,by rw [← x2];exact z2.symm⟩
    ·cases x2
   ·cases y2
  ·rintro ⟨s,s1,s2,rfl⟩
   obtain ⟨v,hv⟩:=a.ne.1 s1
   refine ⟨(xN,kAd s),List.mem_filterMap.2 ⟨(s,v),hv,?_⟩,?_⟩
   ·unfold spotAt
    rw [if_pos s2,h.nets s s1]
    rfl
   ·have hA:=h.ai _ ((h.ad (kAd s)).1 ⟨s,s1,s2,rfl⟩)
    rw [if_pos ⟨rfl,inA_iff.2 ⟨by show (0:Int)≤_;omega,by rw [par_u.2.2];omega⟩⟩]
 exact ⟨hn,hm,same_length hn h.an hm⟩
end
def eN (_:List (PAns × Int)):List Bool:=[]
def fz (cs:List PCall) (rs:List (PAns × Int)):List (PCall × (PAns × Int)):=(cs.zip rs).filter fun p=>decide (p.2.2=0)
def gO (x:Opn PCall (PAns × Int)):Opn PCall (PAns × Int):=⟨x.who,x.id,(fz x.cs x.rs).map Prod.fst,(fz x.cs x.rs).map Prod.snd⟩
theorem gO_len (x:Opn PCall (PAns × Int)):(gO x).rs.length=(gO x).cs.length:=by simp [gO]
theorem gO_le (x:Opn PCall (PAns × Int)):(gO x).cs.length≤x.cs.length:=by
 unfold gO fz
 simp only [List.length_map]
 refine Nat.le_trans (List.length_filter_le _ _) ?_
 rw [List.length_zip]
 omega
theorem gO_rs (x:Opn PCall (PAns × Int)):∀ r ∈ (gO x).rs,r.2=0:=fun r hr=>by
 unfold gO fz at hr
 obtain ⟨p,hp,rfl⟩:=List.mem_map.1 hr
 simpa using (List.mem_filter.1 hp).2
theorem fz_grants:∀ (cs:List PCall) (rs:List (PAns × Int)),gAs ((fz cs rs).map Prod.fst) ((fz cs rs).map Prod.snd)=gAs cs rs∧gPs ((fz cs rs).map Prod.fst) ((fz cs rs).map Prod.snd)=gPs cs rs
 | [],rs=>by cases rs <;> exact ⟨rfl,rfl⟩
 | c::cs,[]=>⟨rfl,rfl⟩
 | c::cs,r::rs=>by
  have ih:=fz_grants cs rs
  by_cases h:r.2=0
  ·have e:fz (c::cs) (r::rs)=(c,r)::fz cs rs:=by
    unfold fz
    rw [List.zip_cons_cons,List.filter_cons_of_pos (by simpa using h)]
   rw [e,List.map_cons,List.map_cons,gAs,gAs,gPs,gPs,ih.1,ih.2]
   exact ⟨rfl,rfl⟩
  ·have e:fz (c::cs) (r::rs)=fz cs rs:=by
    unfold fz
    rw [List.zip_cons_cons,List.filter_cons_of_neg (by simpa using h)]
   rw [e,gAs,gPs,if_neg (fun q=>h q.1),if_neg (fun q=>h q.1),ih.1,ih.2]
   exact ⟨rfl,rfl⟩
theorem fz_snoc {cs:List PCall} {rs:List (PAns × Int)} (h:rs.length=cs.length) (c:PCall) (r:PAns × Int):fz (cs++[c]) (rs++[r])=fz cs rs++(if r.2=0 then [(c,r)] else []):=by
 unfold fz
 rw [List.zip_append h.symm,List.filter_append]
 congr 1
 by_cases e:r.2=0 <;> simp [e]
theorem gO_no {x:Opn PCall (PAns × Int)} (hl:x.rs.length=x.cs.length) (c:PCall) {r:PAns × Int} (h:r.2≠0):gO ⟨x.who,x.id,x.cs++[c],x.rs++[r]⟩=gO x:=by
 unfold gO
 rw [fz_snoc hl,if_neg h,List.append_nil]
theorem gO_yes {x:Opn PCall (PAns × Int)} (hl:x.rs.length=x.cs.length) (c:PCall) {r:PAns × Int} (h:r.2=0):gO ⟨x.who,x.id,x.cs++[c],x.rs++[r]⟩=⟨x.who,x.id,(gO x).cs++[c],(gO x).rs++[r]⟩:=by
 unfold gO
 rw [fz_snoc hl,if_pos h,List.map_append,List.map_append]
 rfl
theorem told_A {cs:List PCall} {rs:List (PAns × Int)} (hl:rs.length=cs.length) (h0:∀ r ∈ rs,r.2=0) {j:Nat} (hj:j < cs.length) (hw:cs[j].what=7) :
  gAs (cs.take (j+1)) (rs.take (j+1))=gAs (cs.take j) (rs.take j)++[(rs[j]'(by omega)).1.ad]∧gPs (cs.take (j+1)) (rs.take (j+1))=gPs (cs.take j) (rs.take j):=by
 have hj2:j < rs.length:=by omega
 rw [List.take_succ_eq_append_getElem hj,List.take_succ_eq_append_getElem hj2,gAs_snoc _ _ _ _ (by simp [hl]),gPs_snoc _ _ _ _ (by simp [hl]),if_pos ⟨h0 _ (List.getElem_mem hj2),hw⟩,if_neg (fun q=>q.2 hw),List.append_nil]
 exact ⟨rfl,rfl⟩
theorem told_P {cs:List PCall} {rs:List (PAns × Int)} (hl:rs.length=cs.length) (h0:∀ r ∈ rs,r.2=0) {j:Nat} (hj:j < cs.length) (hw:cs[j].what≠7) :
  gAs (cs.take (j+1)) (rs.take (j+1))=gAs (cs.take j) (rs.take j)∧gPs (cs.take (j+1)) (rs.take (j+1))=gPs (cs.take j) (rs.take j)++[((rs[j]'(by omega)).1.pa,(rs[j]'(by omega)).1.pn)]:=by
 have hj2:j < rs.length:=by omega
 rw [List.take_succ_eq_append_getElem hj,List.take_succ_eq_append_getElem hj2,gAs_snoc _ _ _ _ (by simp [hl]),if_neg (fun q=>hw q.2),gPs_snoc _ _ _ _ (by simp [hl]),if_pos ⟨h0 _ (List.getElem_mem hj2),hw⟩,List.append_nil]
 exact ⟨rfl,rfl⟩
theorem gAs_len:∀ (cs:List PCall) (rs:List (PAns × Int)),(gAs cs rs).length+(gPs cs rs).length≤cs.length
 | [],rs=>by cases rs <;> simp [gAs,gPs]
 | c::cs,[]=>by simp [gAs,gPs]
 | c::cs,r::rs=>by
  have ih:=gAs_len cs rs
  rw [gAs,gPs,List.length_append,List.length_append]
  by_cases h:r.2=0
  ·by_cases w:c.what=7
   ·rw [if_pos ⟨h,w⟩,if_neg (fun q=>q.2 w)];simp;omega
   ·rw [if_neg (fun q=>w q.2),if_pos ⟨h,w⟩];simp;omega
  ·rw [if_neg (fun q=>h q.1),if_neg (fun q=>h q.1)];simp;omega
theorem cellsP_snoc:∀ (l:List Pf) (p:Pf),cellsP (l++[p])=cellsP l++(#[.int .i64 p.1,.int .i64 p.2]:Array Value).toList
 | [],p=>rfl
 | q::l,p=>by
  rw [List.cons_append,cellsP,cellsP,cellsP_snoc l p]
  rfl
structure GsS (B:Nat) (w:World) (T R:Nat→Prop) (v va vg:Value) (As:List Int) (Gs:List Pf) (gp:Nat):Prop where
 ra:w.ownsRow 0 3 1 va As.length (As.map (Value.int .i64))
 rg:w.ownsRow 0 31 2 vg Gs.length (cellsP Gs)
 pb:Blk w gp 31 #[.int .i64 0,.int .i64 26]
 out:∀ q,(va.ownBlock=some q∨vg.ownBlock=some q∨q=gp)→¬ R q∧¬ T q∧B≤q∧v.ownBlock≠some q
 d:∀ q,va.ownBlock=some q→vg.ownBlock≠some q∧q≠gp
 dg:vg.ownBlock≠some gp
section
variable {B : Nat} {w w' : World} {T T' R R' S : Nat → Prop} {v v' va va' vg vg' : Value} {As : List Int} {Gs : List Pf} {gp : Nat}
theorem GsS.lt (s:GsS B w T R v va vg As Gs gp):∀ q,(va.ownBlock=some q∨vg.ownBlock=some q∨q=gp)→q < w.heap.size:=fun q e=>by
 rcases e with e | e | e
 ·exact own_bq s.ra q e
 ·exact own_bq s.rg q e
 ·rw [e];exact s.pb.lt
theorem GsS.fr (s:GsS B w T R v va vg As Gs gp) (f:Fr S w w') (hS:∀ q,(va.ownBlock=some q∨vg.ownBlock=some q∨q=gp)→¬ S q)
  (hout:∀ q,q < w.heap.size→¬ R q∧¬ T q∧v.ownBlock≠some q→¬ R' q∧¬ T' q∧v'.ownBlock≠some q):GsS B w' T' R' v' va vg As Gs gp :=
 ⟨own_fr s.ra f (fun q e=>hS q (.inl e)),own_fr s.rg f (fun q e=>hS q (.inr (.inl e))),s.pb.fr f (hS gp (.inr (.inr rfl))),fun q e=>by
  obtain ⟨h1,h2,h3,h4⟩:=s.out q e
  obtain ⟨k1,k2,k3⟩:=hout q (s.lt q e) ⟨h1,h2,h4⟩
  exact ⟨k1,k2,h3,k3⟩,s.d,s.dg⟩
theorem GsS.bel (s:GsS B w T R v va vg As Gs gp) (hb:Below w.heap.size w w'):GsS B w' T R v va vg As Gs gp:=s.fr (S:=fun _=>False) (Fr.of_below hb) (fun _ _ q=>q) (fun _ _ h=>h)
theorem GsS.step {a k:Nat} {h:Hl} (s:GsS B w T R v va vg As Gs gp) (q:HKto B w T a w' T' h k):GsS B w' T' R v va vg As Gs gp :=
 s.fr q.fr (fun q e=>(s.out q e).2.1) (fun x hx h=>⟨h.1,fun e=>(q.new x e).elim h.2.1 (by omega),h.2.2⟩)
theorem GsS.addA (s:GsS B w T R v va vg As Gs gp) {a:Int} (hB:B≤w.heap.size) (hT:∀ q,T q→q < w.heap.size) (hR:∀ q,R q→q < w.heap.size) (hv:∀ q,v.ownBlock=some q→q < w.heap.size)
  (hown:w'.ownsRow 0 3 1 va' (As.length+1) (As.map (Value.int .i64)++(#[.int .i64 a]:Array Value).toList)) (hg:w.grownBy w' va.ownBlock) (hat:va'.ownBlock=va.ownBlock∨va'.ownBlock=some (w.heap.size+1)) :
  GsS B w' T R v va' vg (As++[a]) Gs gp∧Fr (fun q=>va.ownBlock=some q) w w':=by
 have f:Fr (fun q=>va.ownBlock=some q) w w':=(Fr.refl _ w).grown hg (fun q e _=>e)
 have hn:∀ q,va'.ownBlock=some q→va.ownBlock=some q∨q=w.heap.size+1:=fun q e=>by
  rcases hat with h | h
  ·exact .inl (h.symm.trans e)
  ·rw [h] at e;injection e with e;exact .inr e.symm
 refine ⟨⟨?_,own_fr s.rg f (fun q e e2=>(s.d q e2).1 e),s.pb.fr f (fun e=>(s.d gp e).2 rfl),fun q e=>?_,fun q e=>?_,s.dg⟩,f⟩
 ·rw [List.length_append,List.map_append]
  exact hown
 ·rcases e with e | e
  ·rcases hn q e with e | e
   ·exact s.out q (.inl e)
   ·subst e
    exact ⟨fun x=>by have:=hR _ x;omega,fun x=>by have:=hT _ x;omega,by omega,fun x=>by have:=hv _ x;omega⟩
  ·exact s.out q (.inr e)
 ·rcases hn q e with e | e
  ·exact s.d q e
  ·subst e
   exact ⟨fun x=>by have:=s.lt _ (.inr (.inl x));omega,fun x=>by have:=s.lt _ (.inr (.inr x));omega⟩
theorem GsS.addP (s:GsS B w T R v va vg As Gs gp) {p:Pf} (hB:B≤w.heap.size) (hT:∀ q,T q→q < w.heap.size) (hR:∀ q,R q→q < w.heap.size) (hv:∀ q,v.ownBlock=some q→q < w.heap.size)
  (hown:w'.ownsRow 0 31 2 vg' (Gs.length+1) (cellsP Gs++(#[.int .i64 p.1,.int .i64 p.2]:Array Value).toList)) (hg:w.grownBy w' vg.ownBlock) (hat:vg'.ownBlock=vg.ownBlock∨vg'.ownBlock=some (w.heap.size+1)) :
  GsS B w' T R v va vg' As (Gs++[p]) gp∧Fr (fun q=>vg.ownBlock=some q) w w':=by
 have f:Fr (fun q=>vg.ownBlock=some q) w w':=(Fr.refl _ w).grown hg (fun q e _=>e)
 have hn:∀ q,vg'.ownBlock=some q→vg.ownBlock=some q∨q=w.heap.size+1:=fun q e=>by
  rcases hat with h | h
  ·exact .inl (h.symm.trans e)
  ·rw [h] at e;injection e with e;exact .inr e.symm
 refine ⟨⟨own_fr s.ra f (fun q e e2=>(s.d q e).1 e2),?_,s.pb.fr f s.dg,fun q e=>?_,fun q e=>⟨fun x=>?_,(s.d q e).2⟩,fun e=>?_⟩,f⟩
 ·rw [List.length_append]
  have:cellsP (Gs++[p])=cellsP Gs++(#[.int .i64 p.1,.int .i64 p.2]:Array Value).toList:=cellsP_snoc Gs p
  rw [this]
  exact hown
 ·rcases e with e | e | e
  ·exact s.out q (.inl e)
  ·rcases hn q e with e | e
   ·exact s.out q (.inr (.inl e))
   ·subst e
    exact ⟨fun x=>by have:=hR _ x;omega,fun x=>by have:=hT _ x;omega,by omega,fun x=>by have:=hv _ x;omega⟩
  ·exact s.out q (.inr (.inr e))
 ·rcases hn q x with x | x
  ·exact (s.d q e).1 x
  ·have:=s.lt q (.inl e);omega
 ·rcases hn gp e with e | e
  ·exact s.dg e
  ·have:=s.pb.lt;omega
end
structure TgS (B:Nat) (w:World) (T R:Nat→Prop) (a:Nat) (h:Hl) (k:Nat) (v va vg:Value) (tt:List TkV) (op:List (Opn PCall (PAns × Int))) (As:List Int) (Gs:List Pf) (gp:Nat):Prop where
 x:HK B w T a h k
 q:GrI h op As Gs
 m:TpS eN B w T R v tt (op.map gO) (.slice none 0 0) [] []
 g:GsS B w T R v va vg As Gs gp
section
variable {B : Nat} {w w' : World} {T T' R R' S : Nat → Prop} {a k k' : Nat} {h h' : Hl} {v v' va va' vg vg' : Value} {tt : List TkV} {op : List (Opn PCall (PAns × Int))} {As : List Int} {Gs : List Pf} {gp : Nat}
theorem TgS.bel (s:TgS B w T R a h k v va vg tt op As Gs gp) (hb:Below w.heap.size w w'):TgS B w' T R a h k v va vg tt op As Gs gp:=⟨s.x.bel hb,s.q,s.m.bel hb,s.g.bel hb⟩
theorem TgS.more (s:TgS B w T R a h k v va vg tt op As Gs gp) (hk:k≤k'):TgS B w T R a h k' v va vg tt op As Gs gp:=⟨s.x.more hk,s.q,s.m,s.g⟩
theorem GrI.lens (q:GrI h op As Gs) {x:Opn PCall (PAns × Int)} (hx:x ∈ op):x.rs.length=x.cs.length:=by
 obtain ⟨t,_,hr⟩:=q.o.each x hx
 have:=runL_len doP (baseOf h.d t) x.cs stZ
 rw [hr] at this
 exact this
theorem map_erase {α γ:Type} (f:α→γ):∀ (l:List α) (i:Nat),(l.map f).eraseIdx i=(l.eraseIdx i).map f
 | [],i=>rfl
 | x::l,0=>rfl
 | x::l,i+1=>by
  rw [List.map_cons,List.eraseIdx_cons_succ,List.eraseIdx_cons_succ,List.map_cons,map_erase f l i]
theorem TpS.asked2 {E:List (PAns × Int)→List Bool} {vo:Value} {tc:List TkV} {op':List (Opn PCall (PAns × Int))} {ov:List (Ovr PCall (PAns × Int))} {g c:Nat} (s:TpS E B w T R (.slice (some ⟨g,0,none⟩) tt.length c) tt op' vo tc ov) (hB:B≤w.heap.size) (hT:∀ q,T q→q < w.heap.size) {k:Nat} (hk:k < tt.length)
  {cv tv:Value} {x:Opn PCall (PAns × Int)} (hx:∀ w',Fr (fun q=>q=g) w w'→TalkAt E w' R (TkV.mk tt[k].who tt[k].n cv tv tt[k].ev) x.who x.cs x.rs) :
  TpS E B ((w.setCell ⟨g,k * 5+2,none⟩ cv).setCell ⟨g,k * 5+3,none⟩ tv) T R (.slice (some ⟨g,0,none⟩) tt.length c) (tt.set k ⟨tt[k].who,tt[k].n,cv,tv,tt[k].ev⟩) (op'.set k x) vo tc ov∧Fr (fun q=>q=g) w ((w.setCell ⟨g,k * 5+2,none⟩ cv).setCell ⟨g,k * 5+3,none⟩ tv):=by
 have hro:=s.ro
 unfold RowAt at hro
 obtain ⟨r1,g1⟩:=World.ownsRow.stored hro (k * 5+2) cv
 obtain ⟨r2,g2⟩:=World.ownsRow.stored r1 (k * 5+3) tv
 have f1:Fr (fun q=>q=g) w (w.setCell ⟨g,k * 5+2,none⟩ cv):=(Fr.refl _ w).grown g1 (fun q e _=>by injection e with e;exact e.symm)
 have f2:=f1.grown g2 (fun q e _=>by injection e with e;exact e.symm)
 have hf:Fr (fun q=>(Value.slice (some ⟨g,0,none⟩) tt.length c).ownBlock=some q) w ((w.setCell ⟨g,k * 5+2,none⟩ cv).setCell ⟨g,k * 5+3,none⟩ tv):=f2.mono (fun q _ e=>by subst e;rfl)
 have e1:=flatE_set flatT_len tt k 2 ⟨tt[k].who,tt[k].n,cv,tt[k].tv,tt[k].ev⟩ cv hk (by omega) rfl
 have e2:=flatE_set flatT_len (tt.set k ⟨tt[k].who,tt[k].n,cv,tt[k].tv,tt[k].ev⟩) k 3 ⟨tt[k].who,tt[k].n,cv,tv,tt[k].ev⟩ tv (by simpa using hk) (by omega) (by simp [encT])
 rw [e1,List.set_set] at e2
 rw [← e2] at r2
 refine ⟨s.row (R':=R) (fun _ h=>h) (fun _ h=>.inl h) hB hf (by simp [s.lo]) ?_ (.inl rfl) hT (fun i h=>?_),f2⟩
 ·unfold RowAt
  rw [List.length_set]
  exact r2
 ·rw [List.length_set] at h
  rw [List.getElem_set,List.getElem?_set]
  by_cases e:k=i
  ·subst e
   rw [if_pos rfl,if_pos rfl,if_pos (by simpa using hk)]
   exact ⟨_,rfl,hx _ f2⟩
  ·rw [if_neg e,if_neg e]
   obtain ⟨t,a,b⟩:=s.eo i h
   exact ⟨t,a,b.fr hf (fun q e e2=>(s.no q e2).1 e)⟩
end
end Go.Proofs.YtkckcbhnnllkhaaGreatDoor
