/- Parts of the proof; conditions: as each theorem says. -/
import Derived.Test.YtkckcbhnnllkhaaGreatDoorG38
import Derived.Test.YtkckcbhnnllkhaaGreatDoorG42
set_option linter.unusedVariables false
set_option linter.unusedSimpArgs false
set_option maxRecDepth 100000
set_option maxHeartbeats 40000000
namespace Go.Proofs.YtkckcbhnnllkhaaGreatDoor
open Go.RowKit
def CallV (c:PCall):Value:=.agg #[.int .i64 c.what,txt c.name,.int .i64 c.pa,.int .i64 c.pn,.int .i64 c.len,.int .i64 c.ad,txt c.owner]
def workCells (d:Nat) (id:Int) (c:PCall):Array Value:=#[ptrV d,intV id,.int .i64 c.what,txt c.name,.int .i64 c.pa,.int .i64 c.pn,.int .i64 c.len,.int .i64 c.ad,txt c.owner]
def workV (d:Nat) (id:Int) (c:PCall):Value:=.agg #[ptrV d,intV id,.int .i64 c.what,txt c.name,.int .i64 c.pa,.int .i64 c.pn,.int .i64 c.len,.int .i64 c.ad,txt c.owner]
structure CallOk (c:PCall):Prop where
 what:(Lit.int .i64 c.what).wf=true
 name:c.name.length≤2000000000
 pa:(Lit.int .i64 c.pa).wf=true
 pn:(Lit.int .i64 c.pn).wf=true
 len:(Lit.int .i64 c.len).wf=true
 ad:(Lit.int .i64 c.ad).wf=true
 owner:c.owner.length≤9223372036854775807
structure CallW (c:PCall):Prop where
 what:(Lit.int .i64 c.what).wf=true
 name:c.name.length≤9223372036854775807
 pa:(Lit.int .i64 c.pa).wf=true
 pn:(Lit.int .i64 c.pn).wf=true
 len:(Lit.int .i64 c.len).wf=true
 ad:(Lit.int .i64 c.ad).wf=true
 owner:c.owner.length≤9223372036854775807
theorem CallW.ok {c:PCall} (h:CallW c) (hn:nameB c.name=true):CallOk c:=⟨h.what,by have:=(nameB_iff.1 hn).2.2;omega,h.pa,h.pn,h.len,h.ad,h.owner⟩
section
variable {B : Nat} {w : World} {T : Nat → Prop} {d : Nat} {g : Dk} {id : Int} {k : Nat}
theorem DK.has (h:DK B w T d g k) (hk:k≤40000) (hid:(Lit.int .i64 id).wf=true) (c:PCall) (s:List UInt8) (hs:s.length≤maxLen) :
  Calls Tryz.prog 43 #[workV d id c,txt s] w fun e w'=>e=.returned (.tuple #[.bool (g.has id s).1,faultV (g.has id s).2.1])∧∃ T',DKto B w T d w' T' (g.has id s).2.2 k:=by
 have hD1:=h.refl.alloc (.cells (workCells d id c) 120)
 have hL1:=Loc.new h 120 (workCells d id c)
 have e0:=hL1.blk.cell 0
 have e1:=hL1.blk.cell 1
 simp [workCells] at e0 e1
 have hG:Calls Tryz.prog 66 #[ptrV d,intV id,txt s] (w.alloc (.cells (workCells d id c) 120)) fun e w'=>e=.returned (.tuple #[txt (g.get id s).1,faultV (g.get id s).2.1])∧∃ T',DKto B w T d w' T' (g.has id s).2.2 k :=
  (hD1.dk.get hk hid s hs).mono fun e w' q=>⟨q.1,by obtain ⟨T2,q2⟩:=q.2;exact ⟨T2,hD1.step q2⟩⟩
 unfold workCells at hG
 have HG:=Hd hG
 have HH:=Hd (show (g.has id s).1=decide ((g.get id s).2.1=0)∧(g.has id s).2.1=if (g.get id s).2.1=4 then 0 else (g.get id s).2.1 from ⟨rfl,rfl⟩)
 clear hG hD1 hL1
 generalize g.has id s=r at *
 generalize (g.get id s).2.1=x at *
 generalize (g.get id s).1=y at *
 unfold workV
 go_enter Tryz.func43,Tryz.ntmps43
 go_wp2_with fail
 refine HG.out.mono ?_
 rintro e w2 ⟨rfl,hR⟩
 replace hR:=Hd hR
 clear e0 e1 HG
 by_cases h0:x=0
 ·subst h0
  rw [show faultV 0=.nilIface from rfl]
  go_wp2_with fail
  refine (isNone_nil _).mono ?_
  rintro e w3 ⟨rfl,rfl⟩
  go_wp2
  go_ret2
  exact ⟨by rw [HH.out.1,HH.out.2];rfl,hR.out⟩
 ·have hf:faultV x=.iface 71 (.int .i64 x):=by unfold faultV;rw [if_neg h0]
  rw [hf]
  by_cases h4:x=4
  ·subst h4
   have hI:=Hd (isNone_num 4)
   go_wp2_with fail
   refine (hI.out _).mono ?_
   rintro e w3 ⟨rfl,rfl⟩
   go_wp2
   go_ret2
   exact ⟨by rw [HH.out.1,HH.out.2];rfl,hR.out⟩
  ·have hb:(x == 4)=false:=by simpa using h4
   have hI:=Hd (isNone_num x)
   rw [hb] at hI
   have HF:=Hd (show faultV (if x=4 then 0 else x)=.iface 71 (.int .i64 x)∧decide (x=0)=false by rw [if_neg h4];exact ⟨hf,decide_eq_false h0⟩)
   clear hf hb
   go_wp2_with fail
   refine (hI.out _).mono ?_
   rintro e w3 ⟨rfl,rfl⟩
   go_wp2
   go_ret2
   exact ⟨by rw [HH.out.1,HH.out.2,HF.out.1,HF.out.2];rfl,hR.out⟩
end
end Go.Proofs.YtkckcbhnnllkhaaGreatDoor
