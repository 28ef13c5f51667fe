/- Parts of the proof; conditions: as each theorem says. -/
import Derived.Test.YtkckcbhnnllkhaaGreatDoorG26
import Derived.Test.YtkckcbhnnllkhaaGreatDoorG28
import Derived.Lib.AtoiErrMem
set_option linter.unusedVariables false
set_option linter.unusedSimpArgs false
set_option maxRecDepth 100000
set_option maxHeartbeats 40000000
namespace Go.Proofs.YtkckcbhnnllkhaaGreatDoor
open Go.RowKit
theorem bytes_conv (s:ByteArray) (w:World):∃ cap W,(convert 9 101 (.string s)).run Tryz.prog w=.ok (.slice (some ⟨w.heap.size,0,none⟩) s.size cap) W∧Below w.heap.size w W∧w.heap.size < W.heap.size ∧
  ∀ k (h:k < s.size),W.cell? ⟨w.heap.size,k,none⟩=some (.int .u8 (s[k].toNat:Int)):=by
 refine ⟨_,_,Lib.run_convert_string_bytes w _ _ 5 s Tryz.underlying9 Tryz.underlying101 Tryz.underlying5,Lib.bytesWorld_below _ _ _,?_,fun k h=>?_⟩
 ·rw [Lib.bytesWorld_size];exact Nat.lt_succ_self _
 ·rw [Lib.bytesWorld_cell w _ s k h]
  have hl:k < s.data.toList.length:=by simpa using h
  rw [List.getD_eq_getElem?_getD,List.getElem?_eq_getElem hl]
  rfl
theorem size_list (s:ByteArray):s.data.toList.length=s.size:=Array.length_toList
theorem take_byte1 (s:ByteArray) (k:Nat) (h:k < s.size):s.data.toList.take (k+1)=s.data.toList.take k++[s[k]]:=by
 rw [List.take_succ_eq_append_getElem (by simpa using h)];rfl
theorem byte_mem1 (s:ByteArray) (k:Nat) (h:k < s.size):s[k] ∈ s.data.toList:=by
 have:s[k]=s.data.toList[k]'(by simpa using h):=rfl
 rw [this];exact List.getElem_mem _
def NameV (b:Bool):Value:=if b=true then .nilIface else .iface 71 (.int .i64 5)
theorem name_any (s:ByteArray) (hs:s.size≤9223372036854775807) (w:World) :
  Calls Tryz.prog 20 #[.string s] w fun e w'=>e=.returned (NameV (nameB s.data.toList))∧Below w.heap.size w w':=by
 obtain ⟨cap,W,hcv,hbW,hzW,hcell⟩:=bytes_conv s w
 have HC:=Hd hcell
 have hno:∀ b ∈ s.data.toList,¬ (97≤b.toNat∧b.toNat≤122)→nameB s.data.toList=false:=fun b hb h=>by
  cases e:nameB s.data.toList with
  | false=>rfl
  | true=>exact absurd ((nameB_iff.1 e).1 b hb) h
 have HN:=Hd hno
 clear hcell hno
 go_enter Tryz.func20,Tryz.ntmps20
 go_wp2
 clear hcv
 go_loopw [4,8] (fun _ i wr=>∃ k:Nat,k≤s.size∧i=.int .i64 (k:Int)∧Hid (∀ b ∈ s.data.toList.take k,97≤b.toNat∧b.toNat≤122)∧W=wr) (fun _ i _=>s.size - (intOf i).toNat)
 case atStart=>exact ⟨0,Nat.zero_le _,rfl,Hd (by simp),rfl⟩
 case round =>
  obtain ⟨k,hk,rfl,HD,rfl⟩:=hrel
  by_cases hlt:k < s.size
  ·have hc:=HC.out k hlt
   have HM:=Hd (byte_mem1 s k hlt)
   have HT:=Hd (take_byte1 s k hlt)
   by_cases d1:(s[k].toNat:Int) < 97
   ·go_wp2
    go_ret
    exact ⟨by rw [HN.out _ HM.out (by omega)];rfl,hbW⟩
   ·by_cases d2:122 < (s[k].toNat:Int)
    ·go_wp2
     go_ret
     exact ⟨by rw [HN.out _ HM.out (by omega)];rfl,hbW⟩
    ·go_wp2
     go_roundw
     case rel =>
      refine ⟨k+1,by omega,by go_num,Hd ?_,by first | rfl | trivial⟩
      rw [HT.out]
      intro b hb
      rcases List.mem_append.1 hb with hb | hb
      ·exact HD.out b hb
      ·rw [List.mem_singleton] at hb
       rw [hb];omega
     case measure=>simp [intOf];omega
  ·obtain rfl:k=s.size:=by omega
   have hall:s.data.toList.take s.size=s.data.toList:=List.take_of_length_le (by rw [size_list];exact Nat.le_refl _)
   have HA:=Hd (hall ▸ HD.out)
   clear hall
   by_cases e0:s.size=0
   ·have hb:nameB s.data.toList=false:=by
     cases e:nameB s.data.toList with
     | false=>rfl
     | true=>have:=(nameB_iff.1 e).2.1;rw [size_list] at this;omega
    have hse:s.toList=[]:=by rw [Lib.toList_data];exact List.eq_nil_of_length_eq_zero (by rw [size_list];exact e0)
    have hse2:s.toList.isEmpty=true:=by rw [hse];rfl
    have HB:=Hd hb
    clear hb
    go_wp2
    go_ret
    exact ⟨by rw [HB.out];rfl,hbW⟩
   ·have hse:¬ s.toList=[]:=by
     rw [Lib.toList_data]
     intro h
     have:=size_list s;rw [h] at this;simp at this;omega
    have hse2:s.toList.isEmpty=false:=by simpa using hse
    by_cases e8:8 < s.size
    ·have hb:nameB s.data.toList=false:=by
      cases e:nameB s.data.toList with
      | false=>rfl
      | true=>have:=(nameB_iff.1 e).2.2;rw [size_list] at this;omega
     have HB:=Hd hb
     clear hb
     go_wp2
     go_ret
     exact ⟨by rw [HB.out];rfl,hbW⟩
    ·have hb:nameB s.data.toList=true:=nameB_iff.2 ⟨HA.out,by rw [size_list];omega,by rw [size_list];omega⟩
     have HB:=Hd hb
     clear hb
     go_wp2
     go_ret
     exact ⟨by rw [HB.out];rfl,hbW⟩
end Go.Proofs.YtkckcbhnnllkhaaGreatDoor
