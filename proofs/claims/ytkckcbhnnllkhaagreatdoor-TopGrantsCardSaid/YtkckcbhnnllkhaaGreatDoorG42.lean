/- Parts of the proof; conditions: as each theorem says. -/
import Derived.Test.YtkckcbhnnllkhaaGreatDoorProg
import Derived.Test.YtkckcbhnnllkhaaGreatDoorG10
import Derived.LaidEql
import Derived.Stop.Asserts
import Derived.RowKitTokens
import Derived.Test.YtkckcbhnnllkhaaGreatDoorG11
set_option linter.unusedVariables false
set_option linter.unusedSimpArgs false
set_option maxRecDepth 100000
set_option maxHeartbeats 40000000
namespace Go.Proofs.YtkckcbhnnllkhaaGreatDoor
open Go.RowKit Go.Extern Go.Extern.Stop Go.Stop
noncomputable def HBi:Nat:=Tryz.prog.globals.size
theorem isE_typeOf (v:Value) (w:World):(ReflectliteType.typeOf #[.iface 71 v]).run Tryz.prog w=.ok (.iface 241 (.agg #[.pointer (some ⟨HBi,71,none⟩)])) w:=by kernel_rfl
theorem isE_comparable (w : World) : ((ReflectliteType.method fun t => do Rtype.noPackHeld "Comparable" t; (fun a => Value.bool a.comparable) <$> typeInfo t) #[.agg #[.pointer (some ⟨HBi, 71, none⟩)]]).run Tryz.prog w = .ok (.bool true) w := by kernel_rfl
theorem isE_method (n : Nat) (v : Value) (w : World) : (Go.method (n + 1) 241 v "Comparable").run Tryz.prog w = .ok (240, v) w := by kernel_rfl
theorem isE_noIs (v:Value) (xT:TypeId) (w:World):(Instr.typeAssert (.iface 71 v) xT 243 true).run Tryz.prog w=.ok (.tuple #[.nilIface,.bool false]) w:=run_typeAssert_lacksB Tryz.underlying243 (by kernel_rfl) (by kernel_rfl) v xT w
theorem isE_noUnwrap (v:Value) (xT:TypeId) (w:World):(Instr.typeAssert (.iface 71 v) xT 246 true).run Tryz.prog w=.ok (.tuple #[.nilIface,.bool false]) w:=run_typeAssert_lacksB Tryz.underlying246 (by kernel_rfl) (by kernel_rfl) v xT w
theorem isE_noUnwraps (v:Value) (xT:TypeId) (w:World):(Instr.typeAssert (.iface 71 v) xT 247 true).run Tryz.prog w=.ok (.tuple #[.nilIface,.bool false]) w:=run_typeAssert_lacksB Tryz.underlying247 (by kernel_rfl) (by kernel_rfl) v xT w
theorem isE_comp:(Tryz.prog.info? 71).map (·.comparable)=some true:=by kernel_rfl
theorem isE_eql (a b:Int) (w:World):(binOp .eql 26 (.iface 71 (.int .i64 a)) (.iface 71 (.int .i64 b))).run Tryz.prog w=.ok (.bool (a == b)) w:=by
 obtain ⟨i,hi,hcmp⟩:=Option.map_eq_some_iff.1 isE_comp
 have h:∀ d:Nat,(Op.equalIn (d+2) 26 (.iface 71 (.int .i64 a)) (.iface 71 (.int .i64 b))).run Tryz.prog w=.ok (a == b) w:=fun d=>by
  simp [Op.equalIn,run_underlying Tryz.underlying26,run_underlying Tryz.underlying71,typeInfo,hi,hcmp]
 simp only [binOp]
 simp [Op.equal,Op.maxDepth,h 9998]
theorem isNone_nil (w:World):Calls Tryz.prog 67 #[.nilIface,.iface 71 (.int .i64 4)] w fun e w'=>e=.returned (.bool false)∧w=w':=by
 have hn:=run_eql_iface_nil_left (P:=Tryz.prog) w 71 (.int .i64 4) Tryz.underlying26
 go_enter Tryz.func67,Tryz.ntmps67
 go_wp2
 go_ret
 exact ⟨rfl,rfl⟩
theorem isNone_num (k:Int) (w:World):Calls Tryz.prog 67 #[.iface 71 (.int .i64 k),.iface 71 (.int .i64 4)] w fun e w'=>e=.returned (.bool (k == 4))∧w=w':=by
 have h8:=@run_callFunc_extern Tryz.prog 109 _ ReflectliteType.typeOf Tryz.func109 (by kernel_rfl) (by kernel_rfl) (by kernel_rfl) (by kernel_rfl)
 have h32 := @run_callFunc_extern Tryz.prog 240 _ (ReflectliteType.method fun t => do Rtype.noPackHeld "Comparable" t; pure (.bool (← typeInfo t).comparable)) Tryz.func240 (by kernel_rfl) (by kernel_rfl) (by kernel_rfl) (by kernel_rfl)
 have tT:=isE_typeOf
 have cT:=isE_comparable
 have mR:=isE_method
 have nE:=isE_noIs
 have uE:=isE_noUnwrap
 have vE:=isE_noUnwraps
 have eE:=isE_eql
 by_cases hk:k=4
 ·subst hk
  go_enter Tryz.func67,Tryz.ntmps67
  go_wp2
  refine wp_loop_rounds 1 ?_
  rw [rounds_succ]
  go_wp2
  go_ret
  exact ⟨rfl,rfl⟩
 ·have hkb:(k == 4)=false:=by simpa using hk
  go_enter Tryz.func67,Tryz.ntmps67
  go_wp2
  refine wp_loop_rounds 1 ?_
  rw [rounds_succ]
  go_wp2
  go_ret
  exact ⟨by rw [hkb];rfl,rfl⟩
end Go.Proofs.YtkckcbhnnllkhaaGreatDoor
