/- Parts of the proof; conditions: as each theorem says. -/
import Derived.Test.YtkckcbhnnllkhaaGreatDoorG12
import Derived.Test.YtkckcbhnnllkhaaGreatDoorG17
import Derived.Lib.SliceRun
set_option linter.unusedVariables false
set_option linter.unusedSimpArgs false
set_option maxRecDepth 100000
set_option maxHeartbeats 40000000
namespace Go.Proofs.YtkckcbhnnllkhaaGreatDoor
open Go.RowKit
theorem new_ok (room:Int) (hr:0≤room∧room≤100000) (w:World) (b0:Nat) (hb:b0≤w.heap.size) :
  Calls Tryz.prog 32 #[.int .i64 room] w fun e w'=>e=.returned (.tuple #[.pointer (some ⟨w.heap.size,0,none⟩),.nilIface])∧LogAt w' b0 w.heap.size (.slice none 0 0) (-1) false room [] 0∧Below w.heap.size w w':=by
 obtain ⟨h1,h2⟩:=hr
 have d1:decide (room < 0)=false:=decide_eq_false (by omega)
 have d2:decide ((100000:Int) < room)=false:=decide_eq_false (by omega)
 go_enter Tryz.func32,Tryz.ntmps32
 go_wp2
 go_ret2
 refine ⟨rfl,⟨Blk.new _ _ _,hb,World.ownsRow_nil _ _ _ _,by omega,⟨h1,h2,by simp;omega⟩,by simp,by simp;omega⟩,(Below.refl _ _).alloc (Nat.le_refl _) _⟩
section
variable {w : World} {b0 g : Nat} {v : Value} {left room : Int} {down : Bool} {B : List UInt8} {safe : Nat}
theorem LK.of_nil {w w':World} {g:Nat} {v:Value} (h:LK w w' g .nilIface):LK w w' g v:=⟨h.os,h.tape,h.output,h.size,fun k hk h1 _=>h.block k hk h1 (by simp [Value.ownBlock])⟩
theorem leftS_range {left:Int} (h:-1≤left∧left≤9223372036854775807) (h0:left≠0):-1≤leftS left∧leftS left≤9223372036854775807:=by
 unfold leftS
 split <;> omega
end
theorem own_empty (w:World) (e:TypeId) {base:Nat} (hb:base≤w.heap.size):(w.alloc (.cells #[] e)).ownsRow base e 1 (.slice (some ⟨w.heap.size,0,none⟩) 0 0) 0 [] :=
 ⟨rfl,.inr ⟨w.heap.size,0,#[],rfl,hb,heap_alloc_new w _,Nat.le_refl _,by simp,rfl,rfl⟩⟩
theorem clone_nil (w:World) :
  Calls Tryz.prog 65 #[.slice none 0 0] w fun e w'=>e=.returned (.slice none 0 0)∧w'=w:=by
 have k1:∀ w:World,(binOp .eql 101 (.slice none 0 0) (.slice none 0 0)).run Tryz.prog w=.ok (.bool true) w:=fun w=>Lib.run_eql_slice_nil (P:=Tryz.prog) w 101 5 none 0 0 0 0 Tryz.underlying101
 go_enter Tryz.func65,Tryz.ntmps65
 go_wp2
 go_ret
 exact ⟨rfl,rfl⟩
theorem clone_some (a:Addr) (l:List UInt8) (m c:Nat) (hm:m=l.length) (hl:l.length≤1000000000) (w:World) (hr:Rd w w.heap.size (some a) (bytesV l)) :
  Calls Tryz.prog 65 #[.slice (some a) m c] w fun e w'=>∃ v,e=.returned v∧w'.ownsRow w.heap.size 5 1 v l.length (bytesV l)∧Below w.heap.size w w':=by
 subst hm
 have k1:∀ w:World,(binOp .eql 101 (.slice (some a) l.length c) (.slice none 0 0)).run Tryz.prog w=.ok (.bool false) w:=fun w=>Lib.run_eql_slice_nil (P:=Tryz.prog) w 101 5 (some a) l.length c 0 0 Tryz.underlying101
 go_enter Tryz.func65,Tryz.ntmps65
 go_wp2_with (at_builtin;refine wpList_append_rd rfl _ _ 101 rfl 5 Tryz.underlying101 _ 1 1 infoU8 rfl (by decide) w.heap.size _ 0 [] rfl (own_empty w 5 (Nat.le_refl _)) w.heap.size (some a) l.length c (bytesV l) rfl (by rw [bytesV_length];omega) (hr.alloc (Nat.le_refl _) _) (bytesV_one _) (by unfold maxLen;omega) (by omega) (by simp) ?_;intro v1 w1 hown1 hb1)
 go_ret
 refine ⟨v1,rfl,?_,((Below.refl _ _).alloc (Nat.le_refl _) _).trans hb1⟩
 simpa using hown1
theorem clone_any (A:Option Addr) (l:List UInt8) (m c:Nat) (hA:A=none→m=0∧c=0) (hm:m=l.length) (hl:l.length≤1000000000) (w:World) (hr:Rd w w.heap.size A (bytesV l)) :
  Calls Tryz.prog 65 #[.slice A m c] w fun e w'=>∃ v,e=.returned v∧w'.ownsRow w.heap.size 5 1 v l.length (bytesV l)∧Below w.heap.size w w':=by
 rcases A with _ | a
 ·obtain ⟨rfl,rfl⟩:=hA rfl
  have:l=[]:=List.eq_nil_of_length_eq_zero hm.symm
  subst this
  refine (clone_nil w).mono ?_
  rintro e w' ⟨rfl,rfl⟩
  exact ⟨_,rfl,World.ownsRow_nil _ _ _ _,Below.refl _ _⟩
 ·exact clone_some a l m c hm hl w hr
theorem own_form3 {w:World} {base size n:Nat} {e:TypeId} {v:Value} {xs:List Value} (h:w.ownsRow base e size v n xs):∃ A c,v=.slice A n c∧n≤c∧(A=none→n=0∧c=0)∧Rd w w.heap.size A xs:=by
 obtain ⟨A,c,rfl,hc,hr⟩:=own_form2 h
 refine ⟨A,c,rfl,hc,fun e=>?_,hr⟩
 subst e
 rcases h.2 with ⟨h1,h2⟩ | ⟨g,cap,cur,hv,_⟩
 ·injection h1 with _ _ h3
  exact ⟨h2,h3⟩
 ·cases hv
theorem LogAt.bytes_ok {w:World} {b0 g:Nat} {v:Value} {left room:Int} {down:Bool} {B:List UInt8} {safe:Nat} (h:LogAt w b0 g v left down room B safe) :
  Calls Tryz.prog 41 #[.pointer (some ⟨g,0,none⟩)] w fun e w'=>∃ v,e=.returned v∧w'.ownsRow w.heap.size 5 1 v B.length (bytesV B)∧Below w.heap.size w w':=by
 obtain ⟨⟨x0,x1,x2,x3,x4⟩,z0,z1,z3,z4⟩:=h.cells
 obtain ⟨A,c,rfl,_,hA,hr⟩:=own_form3 h.ho
 have hBl:B.length≤1000000000:=by have:=h.hr;omega
 have H:=Hd h
 clear h
 go_enter Tryz.func41,Tryz.ntmps41
 go_wp2_with fail
 refine (clone_any A B B.length c hA rfl hBl w hr).mono ?_
 rintro e w1 ⟨v1,rfl,ho,hb⟩
 go_wp2
 go_ret
 exact ⟨v1,rfl,ho,hb⟩
section
variable {w : World} {b0 g : Nat} {v : Value} {left room : Int} {down : Bool} {B : List UInt8} {safe : Nat}
end
end Go.Proofs.YtkckcbhnnllkhaaGreatDoor
