/- Parts of the proof; conditions: as each theorem says. -/
import Derived.Test.YtkckcbhnnllkhaaGreatDoorG29
import Derived.Test.YtkckcbhnnllkhaaGreatDoorG6
import Derived.Deep.DeepCutAuto
import Derived.Test.YtkckcbhnnllkhaaGreatDoorG10
set_option linter.unusedVariables false
set_option linter.unusedSimpArgs false
set_option maxRecDepth 100000
set_option maxHeartbeats 40000000
namespace Go.Proofs.YtkckcbhnnllkhaaGreatDoor
open Go.RowKit
def byteC (l:List UInt8):Array Value:=(l.map fun b=>Value.int .u8 (b.toNat:Int)).toArray
theorem byteC_get (l:List UInt8) (i:Nat) (h:i < l.length):(byteC l)[i]?=some (.int .u8 (l[i].toNat:Int)):=by
 unfold byteC;simp [h]
theorem byteC_set (l:List UInt8) (i:Nat) (b:UInt8):(byteC l).setIfInBounds i (.int .u8 (b.toNat:Int))=byteC (l.set i b):=by
 unfold byteC;simp [List.map_set]
theorem drop_set (l:List UInt8) (i:Nat) (b:UInt8) (h:i < l.length):(l.set i b).drop i=b::l.drop (i+1):=by
 rw [List.drop_eq_getElem_cons (by simpa using h)]
 congr 1
 ·simp
 ·rw [List.drop_set_of_lt (by omega)]
def digS:ByteArray:=⟨#[48,49,50,51,52,53,54,55,56,57,97,98,99,100,101,102,103,104,105,106,107,108,109,110,111,112,113,114,115,116,117,118,119,120,121,122]⟩
theorem lt36 {d:Nat} (h:d < 16):d < digS.size:=by show d < 36;omega
theorem digS_at:∀ d (h:d < 16),((digS[d]'(by show d < 36;omega)).toNat:Int)=((hexD d).toNat:Int):=by decide
theorem and15 (x:Nat) (h:x < 4294967296):bits .and .u64 (x:Int) 15=((x % 16:Nat):Int):=by
 have h1:=ofInt_u64 x (by omega)
 have h2:=ofInt_u64 15 (by omega)
 show IntKind.u64.wrap ((BitVec.ofInt 64 (x:Int) &&& BitVec.ofInt 64 ((15:Nat):Int)).toNat:Int)=_
 rw [BitVec.toNat_and,h1,h2,show (15:Nat)=2 ^ 4 - 1 from rfl,Nat.and_two_pow_sub_one_eq_mod,IntKind.wrap_u64]
 have:x % 2 ^ 4 < 16:=Nat.mod_lt _ (by decide)
 omega
theorem zero65:Tryz.zeroCells297=byteC (List.replicate 65 0):=by kernel_rfl
theorem pow2_any (w:World):Calls Tryz.prog 189 #[.int .i64 16] w fun e w'=>e=.returned (.bool true)∧w=w':=by
 go_enter Tryz.func189,Tryz.ntmps189
 go_wp2
 go_ret
 exact ⟨rfl,rfl⟩
def TzV (w:World):Prop:=_root_.Go.Proofs.TabAt 7 Lib.deBruijn64tab w
theorem addr_add (b j k:Nat):(⟨b,j,none⟩:Addr).add k=⟨b,j+k,none⟩:=by unfold Addr.add;split <;> simp_all
theorem slice65 (b j:Nat) (hj:j≤64):∀ W:World,(Instr.sliceAt 297 (.pointer (some ⟨b,0,none⟩)) (some (.int .i64 (j:Int))) none none).run Tryz.prog W=.ok (.slice (some ⟨b,j,none⟩) (65 - j) (65 - j)) W:=fun W=>by
 have hal:Tryz.prog.arrayLen 297=65:=by kernel_rfl
 have hel:Tryz.prog.elem 297=5:=by kernel_rfl
 rw [run_sliceAt_array_l W 297 ⟨b,0,none⟩ (by kernel_rfl) .i64 (j:Int) (by omega) (by rw [hal];omega),hal,hel,Tryz.sizeOf5]
 unfold slicedAt
 show Result.ok _ _=_
 rw [if_neg (by omega)]
 simp [Addr.add]
 omega
theorem formatBits_any (a:Nat) (ha:a < 4294967296) (w:World) (hz:∀ w':World,Below w.heap.size w w'→TzV w') :
  Calls Tryz.prog 172 #[.slice none 0 0,.int .u64 (a:Int),.int .i64 16,.bool false,.bool false] w fun e w'=>e=.returned (.tuple #[.slice none 0 0,txt (hexM a)])∧Below w.heap.size w w':=by
 go_enter Tryz.func172,Tryz.ntmps172
 go_wp2_with fail
 refine (pow2_any _).mono ?_
 rintro e w1 ⟨rfl,rfl⟩
 have htz:=Any7.bits_TrailingZeros layTzz 16 (by omega)
 have HTZ:=Hd htz
 clear htz
 go_wp2_with fail
 refine (HTZ.out _ (fun _=>hz _ ((Below.refl _ _).alloc (Nat.le_refl _) _))).mono ?_
 rintro e w1 ⟨rfl,hw1⟩
 rw [hw1]
 clear hw1
 have h4:Lib.ctz 64 16=4:=by decide
 rw [h4]
 go_upto_block 0 with fail
 have hblk0:Blk (w.alloc (.cells Tryz.zeroCells297 297)) w.heap.size 297 (byteC (List.replicate 65 0)):=by rw [← zero65];exact Blk.new _ _ _
 have hbe0:Below w.heap.size w (w.alloc (.cells Tryz.zeroCells297 297)):=(Below.refl _ _).alloc (Nat.le_refl _) _
 generalize w.alloc (.cells Tryz.zeroCells297 297)=W at *
 have hl16:(hexM a).length≤8:=hexM_len 7 a (by omega)
 have HL:=Hd hl16
 clear hl16 h4
 go_cut [1,13] (fun u i wx=>∃ (x j:Nat) (cs acc:List UInt8),x < 16∧u=.int .u64 (x:Int)∧cs.length=65∧acc.length≤7∧j+acc.length=64∧i=.int .i64 ((j:Int)+1)∧Blk wx w.heap.size 297 (byteC cs)∧Below w.heap.size w wx∧Hid (cs.drop (j+1)=acc∧hexM a=hexM x++acc))
 case first =>
  go_wp2_with fail
  go_loopw [1,13] (fun u i wx=>∃ (x j:Nat) (cs acc:List UInt8),x < 4294967296∧u=.int .u64 (x:Int)∧cs.length=65∧acc.length≤7∧j+acc.length=64∧i=.int .i64 ((j:Int)+1)∧Blk wx w.heap.size 297 (byteC cs)∧Below w.heap.size w wx∧Hid (cs.drop (j+1)=acc∧hexM a=hexM x++acc)) (fun u _ _=>(intOf u).toNat)
  case atStart=>exact ⟨a,64,List.replicate 65 0,[],ha,rfl,by simp,by simp,rfl,rfl,hblk0,hbe0,Hd ⟨by simp,by simp⟩⟩
  case round =>
   obtain ⟨x,j,cs,acc,hx,rfl,hcs,hacc,hj,rfl,hblk,hbe,HD⟩:=hrel
   by_cases hlt:16≤x
   ·have hstep:hexM x=hexM (x / 16)++[hexD (x % 16)]:=by rw [hexM,dif_neg (by omega)]
    have hacc7:acc.length≤6:=by
     have h1:=HL.out
     rw [HD.out.2,hstep] at h1
     have h2:=hexM_pos (x / 16)
     simp at h1
     omega
    have han:=and15 x hx
    have hx16:x % 16 < 16:=Nat.mod_lt _ (by decide)
    have hdg:=digS_at (x % 16) hx16
    have hold:=byteC_get cs j (by omega)
    have hcell:wr.cell? ⟨w.heap.size,j,none⟩=some (.int .u8 (cs[j].toNat:Int)):=(hblk.cell _).trans hold
    have hfr:wr.frozen? ⟨w.heap.size,j,none⟩=false:=hblk.frozen _
    have HB:=Hd hblk
    generalize (cs[j].toNat:Int)=z at *
    clear hold hblk
    have HS:=Hd hstep
    have HJ:=Hd hj
    have hj0:57≤j:=by omega
    have hj1:j≤64:=by omega
    clear hstep hj
    go_wp2_with fail
    go_roundw
    case rel =>
     refine ⟨x / 16,j - 1,cs.set j (hexD (x % 16)),hexD (x % 16)::acc,by omega,by go_num,by simpa using hcs,by simp;omega,by have:=HJ.out;simp;omega,?_,?_,?_,Hd ⟨?_,?_⟩⟩
     ·congr 1;omega
     ·show Blk (wr.setCell ⟨w.heap.size,j,none⟩ (.int .u8 ((digS[x % 16]'(lt36 hx16)).toNat:Int))) _ _ _
      rw [hdg,← byteC_set]
      exact HB.out.setCell _ _
     ·exact hbe.setCell (Nat.le_refl _) _
     ·rw [show j - 1+1=j by omega,drop_set cs _ _ (by omega),HD.out.1]
     ·rw [HD.out.2,HS.out];simp
    case measure=>simp [intOf];omega
   ·go_wp2
    go_meet
    case rel=>exact ⟨x,j,cs,acc,by omega,rfl,hcs,hacc,hj,rfl,hblk,hbe,HD⟩
 case rest =>
  obtain ⟨x,j,cs,acc,hx,rfl,hcs,hacc,hj,rfl,hblk,hbe,HD⟩:=hcut
  have hj0:57≤j:=by omega
  have hj1:j≤64:=by omega
  have hdg:=digS_at x hx
  have hold:=byteC_get cs j (by omega)
  have hcell:wc.cell? ⟨w.heap.size,j,none⟩=some (.int .u8 (cs[j].toNat:Int)):=(hblk.cell _).trans hold
  have hfr:wc.frozen? ⟨w.heap.size,j,none⟩=false:=hblk.frozen _
  have HB:=Hd hblk
  have HJ:=Hd hj
  generalize (cs[j].toNat:Int)=z at *
  clear hold hblk hj
  go_upto_region 30 with fail
  have hblk2:Blk (wc.setCell ⟨w.heap.size,j,none⟩ (.int .u8 ((digS[x]'(lt36 hx)).toNat:Int))) w.heap.size 297 (byteC (cs.set j (hexD x))):=by
   rw [hdg,← byteC_set]
   exact HB.out.setCell _ _
  have hbe2:Below w.heap.size w (wc.setCell ⟨w.heap.size,j,none⟩ (.int .u8 ((digS[x]'(lt36 hx)).toNat:Int))):=hbe.setCell (Nat.le_refl _) _
  refine wp_name (fun W2 HW2=>?_)
  have e2:W2=wc.setCell ⟨w.heap.size,j,none⟩ (.int .u8 ((digS[x]'(lt36 hx)).toNat:Int)):=HW2.out
  rw [← e2] at hblk2 hbe2
  clear HW2 e2 hdg hcell hfr HB hbe hz HTZ
  have hfin:(cs.set j (hexD x)).drop j=hexM a:=by
   rw [drop_set cs _ _ (by omega),HD.out.1,HD.out.2]
   conv=>rhs;rw [hexM,dif_pos hx]
   rfl
  have hlen:(cs.set j (hexD x)).length=65:=by simpa using hcs
  generalize cs.set j (hexD x)=cs2 at *
  have HF:=Hd hfin
  have HL2:=Hd hlen
  have HB2:=Hd hblk2
  have hsl:=slice65 w.heap.size j hj1
  have hcv:(convert 101 9 (.slice (some ⟨w.heap.size,j,none⟩) (65 - j) (65 - j))).run Tryz.prog W2=.ok (.string ⟨(hexM a).toArray⟩) W2:=by
   have hlm:(hexM a).length=65 - j:=by rw [← hfin,List.length_drop,hlen]
   have:=run_convert_bytes_back (P:=Tryz.prog) W2 101 9 5 ⟨w.heap.size,j,none⟩ (65 - j) (hexM a) Tryz.underlying101 Tryz.underlying5 Tryz.underlying9 (fun k hk=>by
    rw [addr_add,hblk2.cell,byteC_get cs2 (j+k) (by omega)]
    have e:(hexM a)[k]=cs2[j+k]'(by omega):=by
     have:=congrArg (fun l:List UInt8=>l[k]?) hfin
     simp only [List.getElem?_drop] at this
     rw [List.getElem?_eq_getElem (by omega),List.getElem?_eq_getElem hk] at this
     exact (Option.some.inj this).symm
    rw [e])
   rw [hlm] at this
   exact this
  clear hfin hlen hblk2
  go_wp2
  go_ret2
  exact ⟨rfl,hbe2⟩
theorem formatInt_any (a:Nat) (ha:a < 4294967296) (w:World) (hz:∀ w':World,Below w.heap.size w w'→TzV w') :
  Calls Tryz.prog 134 #[.int .i64 (a:Int),.int .i64 16] w fun e w'=>e=.returned (txt (hexM a))∧Below w.heap.size w w':=by
 have inner:Calls Tryz.prog 155 #[.int .i64 (a:Int),.int .i64 16] w fun e w'=>e=.returned (txt (hexM a))∧Below w.heap.size w w':=by
  have hu:IntKind.u64.wrap (a:Int)=(a:Int):=by rw [IntKind.wrap_u64];omega
  have HF:=Hd (formatBits_any a ha w hz)
  clear hz
  go_enter Tryz.func155,Tryz.ntmps155
  go_wp2_with fail
  refine HF.out.mono ?_
  rintro e w1 ⟨rfl,hb⟩
  go_wp2
  go_ret
  exact ⟨rfl,hb⟩
 have HI:=Hd inner
 clear inner hz
 go_enter Tryz.func134,Tryz.ntmps134
 go_wp2_with fail
 refine HI.out.mono ?_
 rintro e w1 ⟨rfl,hb⟩
 go_wp2
 go_ret
 exact ⟨rfl,hb⟩
end Go.Proofs.YtkckcbhnnllkhaaGreatDoor
