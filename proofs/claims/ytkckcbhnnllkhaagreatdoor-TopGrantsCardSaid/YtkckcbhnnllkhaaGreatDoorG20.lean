/- Parts of the proof; conditions: as each theorem says. -/
import Derived.Test.YtkckcbhnnllkhaaGreatDoorG10
import Derived.Test.YtkckcbhnnllkhaaGreatDoorG11
import Derived.DeepKeys4
set_option linter.unusedVariables false
set_option linter.unusedSimpArgs false
set_option maxRecDepth 100000
set_option maxHeartbeats 40000000
namespace Go.Proofs.YtkckcbhnnllkhaaGreatDoor
open Go.RowKit
abbrev intV (n:Int):Value:=.int .i64 n
abbrev spanV (p:List UInt8 × List UInt8):Value:=.agg #[txt p.1,txt p.2]
theorem intKey:Maps.Keyed Tryz.prog 3:=Maps.int_keyed Tryz.underlying3
theorem wf_i64 {n:Int} (h:-9223372036854775808≤n∧n≤9223372036854775807):(Lit.int .i64 n).wf=true:=by
 unfold Lit.wf
 rw [Bool.and_eq_true]
 exact ⟨decide_eq_true (by show (-9223372036854775808:Int)≤_;omega),decide_eq_true (by show _≤(9223372036854775807:Int);omega)⟩
theorem int_key (n:Int) (h:(Lit.int .i64 n).wf=true):∃ kl,keyOf Tryz.prog 3 (intV n)=some kl:=⟨_,Maps.keyOf_int_mk Tryz.underlying3 h⟩
theorem reachKey:Maps.Keyed Tryz.prog 152 :=
 Maps.Keyed.of_law (deep_law_laid (by kernel_rfl) (m:=3) (by omega) (of_decide_eq_true (by kernel_rfl)) (by kernel_rfl) (by rw [Tryz.underlying152]))
theorem reach_key (p:List UInt8 × List UInt8) (h1:p.1.length≤maxLen) (h2:p.2.length≤maxLen):∃ kl,keyOf Tryz.prog 152 (spanV p)=some kl:=by
 obtain ⟨a,b⟩:=p
 have hk:Tryz.prog.keyType 152=true:=by kernel_rfl
 have hf:(spanV (a,b)).formed Tryz.prog 152=true:=by
  have:Tryz.prog.cellsOf 152=2:=by kernel_rfl
  simp [Value.formed,Tryz.underlying152,this]
 have hc:(spanV (a,b)).cells.toList=[txt a,txt b]:=rfl
 have h1':a.toArray.size≤maxLen:=by simpa using h1
 have h2':b.toArray.size≤maxLen:=by simpa using h2
 have ht:Tryz.prog.types.size=(Tryz.prog.types.size - 1)+1:=by kernel_rfl
 have hs:Tryz.prog.cellsOf 9=1:=by kernel_rfl
 have hr:Tryz.prog.cellsOf 152=2:=by kernel_rfl
 unfold keyOf
 simp only [Tryz.underlying152,hk,hf,Bool.and_true,if_true,hc]
 generalize Tryz.prog.types.size=n at ht ⊢
 obtain ⟨m,rfl⟩:∃ m,n=m+1:=⟨n - 1,ht⟩
 have:Tryz.prog.keyLits (m+1+1) 152 [txt a,txt b]=some [.string a,.string b]:=by
  have h3:a.length≤maxLen:=h1
  have h4:b.length≤maxLen:=h2
  have e1:∀ (x:List UInt8) (h:x.length≤maxLen),Tryz.prog.keyLits (m+1) 9 [txt x]=some [.string x]:=by
   intro x h
   simp only [Program.keyLits,Tryz.underlying9]
   rw [if_pos (by simpa [ByteArray.size] using h)]
  unfold Program.keyLits
  simp only [Tryz.underlying152,hr,hs,List.length_cons,List.length_nil]
  rw [if_pos (by simp)]
  simp only [List.mapM_cons,List.mapM_nil,hs,List.drop_zero,List.drop_succ_cons,List.take_succ_cons,List.take_zero,e1 a h3,e1 b h4]
  rfl
 rw [this]
 exact ⟨_,rfl⟩
theorem zeroPtr (w:World):(zeroValue 102).run Tryz.prog w=.ok (.pointer none) w:=by kernel_rfl
theorem zeroInt (w:World):(zeroValue 3).run Tryz.prog w=.ok (.int .i64 0) w:=by kernel_rfl
theorem zeroChg (w:World):(zeroValue 112).run Tryz.prog w=.ok (.agg #[txt [],txt [],.bool false]) w:=by kernel_rfl
end Go.Proofs.YtkckcbhnnllkhaaGreatDoor
