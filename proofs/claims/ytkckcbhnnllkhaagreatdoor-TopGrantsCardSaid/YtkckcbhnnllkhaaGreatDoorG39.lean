/- Parts of the proof; conditions: as each theorem says. -/
import Derived.Test.YtkckcbhnnllkhaaGreatDoorG29
import Derived.Deep.DeepCutAuto
set_option linter.unusedVariables false
set_option linter.unusedSimpArgs false
set_option maxRecDepth 100000
set_option maxHeartbeats 40000000
namespace Go.Proofs.YtkckcbhnnllkhaaGreatDoor
open Go.RowKit
theorem lower_any (c:UInt8) (h1:97≤c.toNat) (h2:c.toNat≤102) (w:World) :
  Calls Tryz.prog 196 #[.int .u8 (c.toNat:Int)] w fun e w'=>e=.returned (.int .u8 (c.toNat:Int))∧w=w':=by
 have hb:bits .or .u8 (c.toNat:Int) 32=(c.toNat:Int):=by
  obtain ⟨n,hn⟩:∃ n,c.toNat=n:=⟨_,rfl⟩
  rw [hn] at h1 h2 ⊢
  have h3:n=97∨n=98∨n=99∨n=100∨n=101∨n=102:=by omega
  rcases h3 with rfl | rfl | rfl | rfl | rfl | rfl <;> rfl
 have HB:=Hd hb
 clear hb
 go_enter Tryz.func196,Tryz.ntmps196
 go_wp2
 go_ret
 refine ⟨?_,rfl⟩
 show Ending.returned (.int .u8 (bits .or .u8 (c.toNat:Int) 32))=_
 rw [HB.out]
theorem hexV_take (s:ByteArray) (k:Nat) (h:k < s.size) {v d:Nat} (hv:hexV 0 (s.data.toList.take k)=some v) (hd:hexV1 s[k]=some d):hexV 0 (s.data.toList.take (k+1))=some (v * 16+d):=by
 rw [take_byte1 s k h,hexV_snoc,hv,hd];rfl
theorem parseUint16 (s:ByteArray) (h1:1≤s.size) (h8:s.size≤8) (hx:∀ k (h:k < s.size),(hexV1 s[k]).isSome=true) (w:World) :
  Calls Tryz.prog 182 #[.string s,.int .i64 16,.int .i64 64] w fun e w'=>(∃ v:Nat,hexV 0 s.data.toList=some v∧e=.returned (.tuple #[.int .u64 (v:Int),.nilIface]))∧Below w.heap.size w w':=by
 obtain ⟨cap,W,hcv,hbW,hzW,hcell⟩:=bytes_conv s w
 have HC:=Hd hcell
 have HX:=Hd hx
 have hse:¬ s.toList=[]:=by
  rw [Lib.toList_data]
  intro h
  have:=size_list s;rw [h] at this;simp at this;omega
 have hse2:s.toList.isEmpty=false:=by simpa using hse
 clear hcell hx
 go_enter Tryz.func182,Tryz.ntmps182
 go_wp2
 clear hcv hse hse2
 have hC:(4294967296:Int)≤1152921504606846976:=by decide
 have hM:(4294967296:Int)≤IntKind.u64.wrap (IntKind.u64.wrap 18446744073709551616 - 1):=by decide
 generalize (1152921504606846976:Int)=C at *
 generalize IntKind.u64.wrap (IntKind.u64.wrap 18446744073709551616 - 1)=M at *
 generalize IntKind.u64.wrap 18446744073709551616=M2 at *
 go_loopw [12,13,15,16,17,101] (fun un n _ _ _ i wr=>∃ (k v:Nat),k≤s.size∧un=.bool false∧i=.int .i64 (k:Int)∧n=.int .u64 (v:Int)∧v < 16 ^ k∧Hid (hexV 0 (s.data.toList.take k)=some v)∧W=wr) (fun _ _ _ _ _ i _=>s.size - (intOf i).toNat)
 case atStart=>exact ⟨0,0,Nat.zero_le _,rfl,rfl,rfl,by decide,Hd rfl,rfl⟩
 case round =>
  obtain ⟨k,v,hk,rfl,rfl,rfl,hv,HD,rfl⟩:=hrel
  by_cases hlt:k < s.size
  ·have hc:=HC.out k hlt
   obtain ⟨d,hd⟩:=Option.isSome_iff_exists.1 (HX.out k hlt)
   have HN:=Hd (hexV_take s k hlt HD.out hd)
   have hd16:=hexV1_lt hd
   have hv28:v < 268435456:=Nat.lt_of_lt_of_le hv (Nat.le_trans (Nat.pow_le_pow_right (by decide) (show k≤7 by omega)) (by decide))
   have hvk:v * 16+d < 16 ^ (k+1):=by rw [Nat.pow_succ];omega
   have HVK:=Hd hvk
   clear hvk hv
   generalize s[k]=c at *
   have hcd:(48≤c.toNat∧c.toNat≤57∧d=c.toNat - 48)∨(97≤c.toNat∧c.toNat≤102∧d=c.toNat - 87):=by
    unfold hexV1 at hd
    split at hd
    ·rename_i q
     injection hd with hd
     exact .inl ⟨q.1,q.2,hd.symm⟩
    ·split at hd
     ·rename_i q
      injection hd with hd
      exact .inr ⟨q.1,q.2,hd.symm⟩
     ·cases hd
   clear hd
   have n95:((c.toNat:Int) == 95)=false:=by rw [beq_eq_false_iff_ne];omega
   go_upto_block 5 with fail
   go_cut [12,16] (fun un x wx=>un=.bool false∧x=.int .u8 (d:Int)∧W=wx)
   case first =>
    rcases hcd with ⟨q1,q2,q3⟩ | ⟨q1,q2,q3⟩
    ·have e1:(c.toNat:Int) - 48=(d:Int):=by omega
     have HE:=Hd e1
     have HQ:=Hd q3
     clear e1 q3
     go_wp2
     go_meet
     case rel=>exact ⟨rfl,by rw [HE.out],by first | rfl | trivial⟩
    ·have nd1:decide ((c.toNat:Int)≤57)=false:=by simp;omega
     have HQ:=Hd q3
     clear q3
     go_wp2_with (go_at_call 196;refine (lower_any c q1 q2 _).mono ?_;rintro e w' ⟨rfl,rfl⟩)
     go_meet
     case rel=>exact ⟨rfl,by rw [show (c.toNat:Int) - 97+10=(d:Int) by have:=HQ.out;omega],by first | rfl | trivial⟩
   case rest =>
    obtain ⟨rfl,rfl,rfl⟩:=hcut
    have nd:decide (16≤(d:Int))=false:=by simp;omega
    have nc:decide (C≤(v:Int))=false:=by simp;omega
    have w1:IntKind.u64.wrap ((v:Int) * 16)=(v:Int) * 16:=by rw [IntKind.wrap_u64];omega
    have w2:IntKind.u64.wrap ((v:Int) * 16+(d:Int))=(v:Int) * 16+(d:Int):=by rw [IntKind.wrap_u64];omega
    have n1:decide ((v:Int) * 16+(d:Int) < (v:Int) * 16)=false:=by simp;omega
    have n2:decide (M < (v:Int) * 16+(d:Int))=false:=by simp;omega
    go_wp2
    go_roundw
    case rel =>
     exact ⟨k+1,v * 16+d,by omega,rfl,by go_num,by go_num,HVK.out,HN,by first | rfl | trivial⟩
    case measure=>simp [intOf];omega
  ·obtain rfl:k=s.size:=by omega
   have hall:s.data.toList.take s.size=s.data.toList:=List.take_of_length_le (by rw [size_list];exact Nat.le_refl _)
   have HA:=Hd (hall ▸ HD.out)
   clear hall
   go_wp2
   go_ret2
   exact ⟨⟨v,HA.out,rfl⟩,hbW⟩
theorem hexV_len {s:ByteArray} {v:Nat} (h:hexV 0 s.data.toList=some v) (h8:s.size≤8):v < 4294967296:=by
 have h1:=hexV_lt _ _ _ h
 rw [size_list] at h1
 have:(0+1) * 16 ^ s.size≤16 ^ 8:=by rw [Nat.zero_add,Nat.one_mul];exact Nat.pow_le_pow_right (by decide) h8
 omega
theorem parseInt16i (s:ByteArray) (h1:1≤s.size) (h8:s.size≤8) (hx:∀ k (h:k < s.size),(hexV1 s[k]).isSome=true) (w:World) :
  Calls Tryz.prog 165 #[.string s,.int .i64 16,.int .i64 64] w fun e w'=>(∃ v:Nat,hexV 0 s.data.toList=some v∧e=.returned (.tuple #[.int .i64 (v:Int),.nilIface]))∧Below w.heap.size w w':=by
 have hp:=parseUint16 s h1 h8 hx w
 have h0:0 < s.size:=by omega
 have hc:(48:Int)≤(s[0].toNat:Int):=by
  have:=hx 0 h0
  unfold hexV1 at this
  split at this
  ·omega
  ·split at this
   ·omega
   ·cases this
 have n43:((s[0].toNat:Int) == 43)=false:=by rw [beq_eq_false_iff_ne];omega
 have n45:((s[0].toNat:Int) == 45)=false:=by rw [beq_eq_false_iff_ne];omega
 have hse:¬ s.toList=[]:=by
  rw [Lib.toList_data]
  intro h
  have:=size_list s;rw [h] at this;simp at this;omega
 have hse2:s.toList.isEmpty=false:=by simpa using hse
 have HP:=Hd hp
 clear hp hx
 go_enter Tryz.func165,Tryz.ntmps165
 go_wp2_with fail
 refine HP.out.mono ?_
 rintro e w1 ⟨⟨v,hv,rfl⟩,hb⟩
 have hvl:=hexV_len hv h8
 have HV:=Hd hv
 clear hv
 go_upto_region 17 with fail
 have hC:(4294967296:Int)≤9223372036854775808:=by decide
 generalize (9223372036854775808:Int)=C at *
 have nc:decide (C≤(v:Int))=false:=by simp;omega
 have w1:IntKind.i64.wrap (v:Int)=(v:Int):=IntWalk.i64_in _ (by omega)
 go_wp2
 go_ret2
 exact ⟨⟨v,HV.out,rfl⟩,hb⟩
theorem parseInt16 (s:ByteArray) (h1:1≤s.size) (h8:s.size≤8) (hx:∀ k (h:k < s.size),(hexV1 s[k]).isSome=true) (w:World) :
  Calls Tryz.prog 149 #[.string s,.int .i64 16,.int .i64 64] w fun e w'=>(∃ v:Nat,hexV 0 s.data.toList=some v∧e=.returned (.tuple #[.int .i64 (v:Int),.nilIface]))∧Below w.heap.size w w':=by
 have HP:=Hd (parseInt16i s h1 h8 hx w)
 clear hx
 go_enter Tryz.func149,Tryz.ntmps149
 go_wp2_with fail
 refine HP.out.mono ?_
 rintro e w1 ⟨⟨v,hv,rfl⟩,hb⟩
 have HV:=Hd hv
 clear hv
 go_wp2
 go_ret2
 exact ⟨⟨v,HV.out,rfl⟩,hb⟩
end Go.Proofs.YtkckcbhnnllkhaaGreatDoor
