/- Parts of the proof; conditions: as each theorem says. -/
import Derived.Test.YtkckcbhnnllkhaaGreatDoorG36
import Derived.Test.YtkckcbhnnllkhaaGreatDoorG11
import Derived.Test.YtkckcbhnnllkhaaGreatDoorG46
set_option linter.unusedVariables false
set_option linter.unusedSimpArgs false
set_option maxRecDepth 100000
set_option maxHeartbeats 40000000
namespace Go.Proofs.YtkckcbhnnllkhaaGreatDoor
open Go.RowKit
def GapsRes (w:World) (p:Pf) (l:List Pf) (e:Ending) (w':World):Prop:=Below w.heap.size w w'∧(freeFault p l=0→∃ v,e=.returned (.tuple #[v,.nilIface])∧OwnP w' w.heap.size 138 v (gapsL p l)) ∧
 (freeFault p l≠0→e=.returned (.tuple #[.slice none 0 0,.iface 71 (.int .i64 (freeFault p l))]))
theorem GapsRes.bad {w w':World} {p:Pf} {l:List Pf} {n:Int} (h:freeFault p l=n) (hn:n≠0) (hb:Below w.heap.size w w'):GapsRes w p l (.returned (.tuple #[.slice none 0 0,.iface 71 (.int .i64 n)])) w' :=
 ⟨hb,fun h0=>absurd (h.symm.trans h0) hn,fun _=>by rw [h]⟩
theorem gaps_all (p:Pf) (A:Option Addr) (l:List Pf) (c:Nat) (hm:l.length≤maxLen) (w:World) (hl:Rd w w.heap.size A (cellsP l)) :
  Calls Tryz.prog 157 #[.agg #[.int .i64 p.1,.int .i64 p.2],.slice A l.length c] w (GapsRes w p l):=by
 unfold maxLen at hm
 by_cases hp:chkP p=0
 ·by_cases h60:l.length≤60
  ·have HP:=Hd hp
   clear hp
   go_enter Tryz.func157,Tryz.ntmps157
   go_wp2_with fail
   refine (ends_ok p.1 p.2 HP.out _).mono ?_
   rintro e w0 ⟨rfl,hb0⟩
   have hbA:=((Below.refl w.heap.size w).alloc (Nat.le_refl _) (.cells #[.int .i64 p.1,.int .i64 p.2] 31)).trans (hb0.mono (by simp))
   clear hb0
   go_wp2
   go_loopw [9,11,12,13,14,30] (fun v _ _ _ _ i wr=>∃ k:Nat,k≤l.length∧i=.int .i64 k∧Below w.heap.size w wr∧OwnP wr w.heap.size 138 v (spansP (l.take k))∧firstP l=firstP (l.drop k)∧∀ q ∈ l.take k,chkP q=0) (fun _ _ _ _ _ i _=>l.length - (intOf i).toNat)
   case atStart=>exact ⟨0,Nat.zero_le _,rfl,hbA,OwnP.nil _ _ _,rfl,by simp⟩
   case round =>
    obtain ⟨k,hk,rfl,hb,hown,hg,hv⟩:=hrel
    by_cases hlt:k < l.length
    ·have hs:=hb.size
     obtain ⟨b,off,rfl,hbb,c0,c1⟩:=(hl.below hb).pair hlt
     have hst:=firstP_step l k hlt
     by_cases hc:chkP l[k]=0
     ·have HC:=Hd hc
      have HG:=Hd (show firstP l=firstP (l.drop (k+1)) by rw [hg,hst,if_neg (by simp [hc])])
      have HV:=Hd (take_all hlt hv hc)
      have HS:=Hd (spansP_snoc l k hlt)
      obtain ⟨X,hX⟩:∃ X,X=spansP (l.take k):=⟨_,rfl⟩
      have hXl:X.length≤200:=by rw [hX];simp [spansP];omega
      rw [← hX] at hown
      have HX:=Hd hX
      clear hX hg hv hst hc
      go_wp2_with fail
      refine (ends_ok l[k].1 l[k].2 HC.out _).mono ?_
      rintro e w2 ⟨rfl,hb2⟩
      have hb3:=(hb.alloc hs (.cells #[.int .i64 l[k].1,.int .i64 l[k].2] 31)).trans (hb2.mono (by simp;omega))
      have hs3:=hb3.size
      have hown3:=(hown.alloc (.cells #[.int .i64 l[k].1,.int .i64 l[k].2] 31)).below hb2
      clear hb2 hb hown c0 c1
      go_wp2_with (at_builtin;refine wpList_append_pair (p:=(l[k].1,lastA l[k].1 l[k].2)) rfl _ _ 269 rfl Tryz.underlying269 infoSp w.heap.size _ _ rfl hown3 rfl (by omega) hs3 ?_;intro v5 w5 hown5 hb5)
      go_roundw
      case rel=>exact ⟨k+1,by omega,by go_num,hb3.trans hb5,by rw [HS.out,← HX.out];exact hown5,HG.out,HV.out⟩
      case measure=>simp [intOf];omega
     ·have HC:=Hd hc
      have HB:=Hd (show freeFault p l=chk l[k].1 l[k].2 by unfold freeFault;rw [if_neg (by simp [HP.out]),if_neg (by omega),hg,hst,if_pos hc];rfl)
      clear hg hv hst hc
      go_wp2_with fail
      refine (ends_bad l[k].1 l[k].2 HC.out _).mono ?_
      rintro e w2 ⟨rfl,hb2⟩
      go_wp2
      go_ret2
      exact GapsRes.bad HB.out HC.out ((hb.alloc hs _).trans (hb2.mono (by simp;omega)))
    ·obtain rfl:k=l.length:=by omega
     rw [List.take_length] at hown hv
     have hs:=hb.size
     have HF:=Hd (show firstP l=0 by rw [hg,List.drop_length];rfl)
     have HV:=Hd hv
     have hXl:(spansP l).length≤200:=by simp [spansP];omega
     have hNl:(norm (spansP l)).length≤200:=Nat.le_trans (norm_length _) hXl
     have hOl:(others (norm (spansP l))).length≤201:=by have:=othersGo_length (norm (spansP l)) 0;unfold others;omega
     obtain ⟨A2,c2,rfl,hr2⟩:=hown.form
     have HZ:=Hd (show freeFault p l=0 from freeFault_zero.2 ⟨HP.out,h60,HV.out⟩)
     have hbX:=hb.alloc hs (.cells #[.int .i64 p.1,.int .i64 (lastA p.1 p.2)] 138)
     have hrX:=(hr2.alloc (Nat.le_refl _) (.cells #[.int .i64 p.1,.int .i64 (lastA p.1 p.2)] 138)).more (show wr.heap.size≤(wr.alloc (.cells #[.int .i64 p.1,.int .i64 (lastA p.1 p.2)] 138)).heap.size by simp)
     have hrN:=rd_new wr [(p.1,lastP p)] #[.int .i64 p.1,.int .i64 (lastA p.1 p.2)] 138 _ rfl rfl
     clear hg hv hr2 hown
     go_wp2_with fail
     refine (merge_any A2 (spansP l) c2 (spansP_valid HV.out) (by omega) _ hrX).mono ?_
     rintro e w3 ⟨v3,rfl,hown3,hb3⟩
     obtain ⟨A3,c3,rfl,hr3⟩:=hown3.form
     have hs3:=hb3.size
     go_wp2_with fail
     refine (others_any A3 _ c3 (by omega) (norm_valid (spansP_valid HV.out)) _ hr3).mono ?_
     rintro e w4 ⟨v4,rfl,hown4,hb4⟩
     obtain ⟨A4,c4,rfl,hr4⟩:=hown4.form
     have hs4:=hb4.size
     go_wp2_with fail
     refine (common_any (some ⟨wr.heap.size,0,none⟩) A4 [(p.1,lastP p)] _ 1 c4 (by simp) (by omega) _ ((((hrN.below hb3).more hs3).below hb4).more hs4) hr4).mono ?_
     rintro e w5 ⟨v5,rfl,hown5,hb5⟩
     have hz:w.heap.size≤(wr.alloc (.cells #[.int .i64 p.1,.int .i64 (lastA p.1 p.2)] 138)).heap.size:=by simp;omega
     have hbZ:=((hbX.trans (hb3.mono hz)).trans (hb4.mono (by omega))).trans (hb5.mono (by omega))
     have hOw:=own_of_base hown5 (show w.heap.size≤w4.heap.size by omega)
     go_wp2
     go_ret2
     exact ⟨hbZ,fun _=>⟨_,rfl,hOw⟩,fun h=>absurd HZ.out h⟩
  ·have HP:=Hd hp
   have HZ:=Hd (show freeFault p l=3 by unfold freeFault;rw [if_neg (by simp [hp]),if_pos (by omega)])
   have hbig:(60:Int) < (l.length:Int):=by omega
   clear hp
   go_enter Tryz.func157,Tryz.ntmps157
   go_wp2_with fail
   refine (ends_ok p.1 p.2 HP.out _).mono ?_
   rintro e w0 ⟨rfl,hb0⟩
   have hbA:=((Below.refl w.heap.size w).alloc (Nat.le_refl _) (.cells #[.int .i64 p.1,.int .i64 p.2] 31)).trans (hb0.mono (by simp))
   clear hb0
   go_wp2
   go_ret2
   exact GapsRes.bad HZ.out (by decide) hbA
 ·have HZ:=Hd (show freeFault p l=chk p.1 p.2 by unfold freeFault;rw [if_pos hp];rfl)
  have HP:=Hd hp
  clear hp
  go_enter Tryz.func157,Tryz.ntmps157
  go_wp2_with fail
  refine (ends_bad p.1 p.2 HP.out _).mono ?_
  rintro e w0 ⟨rfl,hb0⟩
  have hbA:=((Below.refl w.heap.size w).alloc (Nat.le_refl _) (.cells #[.int .i64 p.1,.int .i64 p.2] 31)).trans (hb0.mono (by simp))
  clear hb0
  go_wp2
  go_ret2
  exact GapsRes.bad HZ.out HP.out hbA
theorem gaps_bad (p:Pf) (A:Option Addr) (l:List Pf) (c:Nat) (hm:l.length≤maxLen) (hf:freeFault p l≠0) (w:World) (hl:Rd w w.heap.size A (cellsP l)) :
  Calls Tryz.prog 157 #[.agg #[.int .i64 p.1,.int .i64 p.2],.slice A l.length c] w fun e w'=>e=.returned (.tuple #[.slice none 0 0,.iface 71 (.int .i64 (freeFault p l))])∧Below w.heap.size w w':=(gaps_all p A l c hm w hl).mono fun e w' h=>⟨h.2.2 hf,h.1⟩
theorem gaps_ok (p:Pf) (A:Option Addr) (l:List Pf) (c:Nat) (hm:l.length≤maxLen) (hf:freeFault p l=0) (w:World) (hl:Rd w w.heap.size A (cellsP l)) :
  Calls Tryz.prog 157 #[.agg #[.int .i64 p.1,.int .i64 p.2],.slice A l.length c] w (OwnRes2 138 w (gapsL p l)):=(gaps_all p A l c hm w hl).mono fun e w' h=>by obtain ⟨v,q1,q2⟩:=h.2.1 hf;exact ⟨v,q1,q2,h.1⟩
def GreatRes (w:World) (p:Pf) (l:List Pf) (n:Int) (e:Ending) (w':World):Prop:=Below w.heap.size w w'∧(greatFault p l n=0→∃ v,e=.returned (.tuple #[v,.nilIface])∧OwnP w' w.heap.size 31 v (greatL p l n)) ∧
 (greatFault p l n≠0→e=.returned (.tuple #[.slice none 0 0,.iface 71 (.int .i64 (greatFault p l n))]))
theorem GreatRes.bad {w w':World} {p:Pf} {l:List Pf} {n k:Int} (h:greatFault p l n=k) (hn:k≠0) (hb:Below w.heap.size w w'):GreatRes w p l n (.returned (.tuple #[.slice none 0 0,.iface 71 (.int .i64 k)])) w' :=
 ⟨hb,fun h0=>absurd (h.symm.trans h0) hn,fun _=>by rw [h]⟩
theorem great_all (p:Pf) (A:Option Addr) (l:List Pf) (c:Nat) (n:Int) (hm:l.length≤maxLen) (w:World) (ht:TabVar w) (hl:Rd w w.heap.size A (cellsP l)) :
  Calls Tryz.prog 137 #[.agg #[.int .i64 p.1,.int .i64 p.2],.slice A l.length c,.int .i64 n] w (GreatRes w p l n):=by
 have hgt:=ht.lt
 have hbA:=(Below.refl w.heap.size w).alloc (Nat.le_refl _) (.cells #[.int .i64 p.1,.int .i64 p.2] 31)
 by_cases hf:freeFault p l=0
 ·have HF:=Hd hf
  clear hf
  have finish:(p.2≤n∧n≤32)∨¬ (p.2≤n∧n≤32):=Classical.em _
  rcases finish with hin | hout
  ·obtain ⟨hn1,hn2⟩:=hin
   have hn1':¬ n < p.2:=by omega
   have hn2':¬ 32 < n:=by omega
   have HZ:=Hd (show greatFault p l n=0 from greatFault_zero.2 ⟨HF.out,hn1,hn2⟩)
   go_enter Tryz.func137,Tryz.ntmps137
   go_wp2_with fail
   refine (gaps_ok p A l c hm HF.out _ ((hl.alloc (Nat.le_refl _) _).more (by simp))).mono ?_
   rintro e w1 ⟨v1,rfl,hown1,hb1⟩
   obtain ⟨A1,c1,rfl,hr1⟩:=hown1.form
   have hB1:=(Blk.new w 31 #[.int .i64 p.1,.int .i64 p.2]).below hb1 (by simp)
   obtain ⟨x0,x1,_⟩:=hB1.two
   have hb2:=hbA.trans (hb1.mono (by simp))
   have hs2:=hb2.size
   clear hb1 hown1
   go_wp2_with fail
   refine (all_any A1 _ c1 (gaps_valid HF.out) (gaps_len HF.out) _ (ht.belowB hb2 hgt) hr1).mono ?_
   rintro e w3 ⟨v3,rfl,hown3,hb3⟩
   have hb4:=hb2.trans (hb3.mono hs2)
   have hs4:=hb4.size
   obtain ⟨A3,c3,rfl,hr3⟩:=hown3.form
   have hBl:=coverSet_len (gaps_valid HF.out)
   have hGl:=gaps_len HF.out
   obtain ⟨L,hL⟩:∃ L,L=coverSet (gapsL p l):=⟨_,rfl⟩
   rw [← hL] at hr3 hBl
   rw [← hL]
   have hLb:L.length≤64 * 4294967296:=Nat.le_trans hBl (Nat.mul_le_mul_right _ hGl)
   have HG:=Hd (show L.filter (fitB n)=greatL p l n by rw [hL];rfl)
   clear hown3 hb3 hr1 x0 x1 hB1 hb2 hL hBl hGl
   go_wp2
   go_loopw [10,12,34] (fun v _ i wr=>∃ k:Nat,k≤L.length∧i=.int .i64 k∧Below w3.heap.size w3 wr∧OwnP wr w3.heap.size 31 v ((L.take k).filter (fitB n))) (fun _ _ i _=>L.length - (intOf i).toNat)
   case atStart=>exact ⟨0,Nat.zero_le _,rfl,Below.refl _ _,OwnP.nil _ _ _⟩
   case round =>
    obtain ⟨k,hk,rfl,hb,hown⟩:=hrel
    by_cases hlt:k < L.length
    ·have hs:=hb.size
     obtain ⟨b,off,rfl,hbb,d0,d1⟩:=(hr3.below hb).pair hlt
     have hsn:=takeFilter_snoc (fitB n) L k hlt
     have hfl:((L.take k).filter (fitB n)).length≤k:=Nat.le_trans (List.length_filter_le _ _) (List.length_take_le _ _)
     have hbx:=hb.alloc hs (.cells #[.int .i64 L[k].1,.int .i64 L[k].2] 31)
     have hownx:=hown.alloc (.cells #[.int .i64 L[k].1,.int .i64 L[k].2] 31)
     have hsx:=hbx.size
     by_cases hle:L[k].2≤n
     ·rw [if_pos (by simpa [fitB] using hle)] at hsn
      have HS:=Hd hsn
      clear hsn hb hown
      go_wp2_with (at_builtin;go_loud (refine wpList_append_pair (p:=L[k]) rfl _ _ 44 rfl Tryz.underlying44 infoPfx w3.heap.size _ _ rfl hownx (by simp [go_sem]) (by omega) hsx ?_);intro v5 w5 hown5 hb5)
      go_roundw
      case rel=>exact ⟨k+1,by omega,by go_num,hbx.trans hb5,by rw [HS.out];exact hown5⟩
      case measure=>simp [intOf];omega
     ·rw [if_neg (by simpa [fitB] using hle),List.append_nil] at hsn
      have HS:=Hd hsn
      have hle':n < L[k].2:=by omega
      clear hsn hb hown
      go_wp2
      go_roundw
      case rel=>exact ⟨k+1,by omega,by go_num,hbx,by rw [HS.out];exact hownx⟩
      case measure=>simp [intOf];omega
    ·obtain rfl:k=L.length:=by omega
     rw [List.take_length,HG.out] at hown
     have hs:=hb.size
     go_wp2
     go_ret2
     exact ⟨hb4.trans (hb.mono hs4),fun _=>⟨_,rfl,own_of_base hown hs4⟩,fun h=>absurd HZ.out h⟩
  ·have HZ:=Hd (show greatFault p l n=1 by unfold greatFault;rw [if_neg (by simp [HF.out]),if_pos (by omega)])
   go_enter Tryz.func137,Tryz.ntmps137
   go_wp2_with fail
   refine (gaps_ok p A l c hm HF.out _ ((hl.alloc (Nat.le_refl _) _).more (by simp))).mono ?_
   rintro e w1 ⟨v1,rfl,hown1,hb1⟩
   obtain ⟨A1,c1,rfl,hr1⟩:=hown1.form
   have hB1:=(Blk.new w 31 #[.int .i64 p.1,.int .i64 p.2]).below hb1 (by simp)
   obtain ⟨x0,x1,_⟩:=hB1.two
   have hb2:=hbA.trans (hb1.mono (by simp))
   clear hb1 hown1
   by_cases h1:n < p.2
   ·go_wp2
    go_ret2
    exact GreatRes.bad HZ.out (by decide) hb2
   ·have h2:32 < n:=by omega
    go_wp2
    go_ret2
    exact GreatRes.bad HZ.out (by decide) hb2
 ·have HZ:=Hd (show greatFault p l n=freeFault p l by unfold greatFault;rw [if_pos hf])
  have HF:=Hd hf
  clear hf
  go_enter Tryz.func137,Tryz.ntmps137
  go_wp2_with fail
  refine (gaps_bad p A l c hm HF.out _ ((hl.alloc (Nat.le_refl _) _).more (by simp))).mono ?_
  rintro e w1 ⟨rfl,hb1⟩
  go_wp2
  go_ret2
  exact GreatRes.bad HZ.out HF.out (hbA.trans (hb1.mono (by simp)))
theorem great_bad (p:Pf) (A:Option Addr) (l:List Pf) (c:Nat) (n:Int) (hm:l.length≤maxLen) (hf:greatFault p l n≠0) (w:World) (ht:TabVar w) (hl:Rd w w.heap.size A (cellsP l)) :
  Calls Tryz.prog 137 #[.agg #[.int .i64 p.1,.int .i64 p.2],.slice A l.length c,.int .i64 n] w fun e w'=>e=.returned (.tuple #[.slice none 0 0,.iface 71 (.int .i64 (greatFault p l n))])∧Below w.heap.size w w':=(great_all p A l c n hm w ht hl).mono fun e w' h=>⟨h.2.2 hf,h.1⟩
theorem great_good (p:Pf) (A:Option Addr) (l:List Pf) (c:Nat) (n:Int) (hm:l.length≤maxLen) (hf:greatFault p l n=0) (w:World) (ht:TabVar w) (hl:Rd w w.heap.size A (cellsP l)) :
  Calls Tryz.prog 137 #[.agg #[.int .i64 p.1,.int .i64 p.2],.slice A l.length c,.int .i64 n] w (OwnRes2 31 w (greatL p l n)):=(great_all p A l c n hm w ht hl).mono fun e w' h=>by obtain ⟨v,q1,q2⟩:=h.2.1 hf;exact ⟨v,q1,q2,h.1⟩
theorem first_bad (p:Pf) (A:Option Addr) (l:List Pf) (c:Nat) (n:Int) (hm:l.length≤maxLen) (hf:greatFault p l n≠0) (w:World) (ht:TabVar w) (hl:Rd w w.heap.size A (cellsP l)) :
  Calls Tryz.prog 117 #[.agg #[.int .i64 p.1,.int .i64 p.2],.slice A l.length c,.int .i64 n] w fun e w'=>e=.returned (.tuple #[.agg #[.int .i64 0,.int .i64 0],.iface 71 (.int .i64 (greatFault p l n))])∧Below w.heap.size w w':=by
 have hgt:=ht.lt
 have HF:=Hd hf
 clear hf
 have hbA:=((Below.refl w.heap.size w).alloc (Nat.le_refl _) (.cells #[.int .i64 p.1,.int .i64 p.2] 31)).alloc (by simp) (.cells #[.int .i64 0,.int .i64 0] 31)
 go_enter Tryz.func117,Tryz.ntmps117
 go_wp2_with fail
 refine (great_bad p A l c n hm HF.out _ (ht.belowB hbA hgt) ((hl.below hbA).more (by simp;omega))).mono ?_
 rintro e w1 ⟨rfl,hb1⟩
 have hB1:=(Blk.new (w.alloc (.cells #[.int .i64 p.1,.int .i64 p.2] 31)) 31 #[.int .i64 0,.int .i64 0]).below hb1 (by simp)
 rw [World.size_alloc] at hB1
 have hb2:=hbA.trans (hb1.mono (by simp;omega))
 have hs2:=hb2.size
 obtain ⟨x0,x1,_⟩:=hB1.two
 have hz1:=hB1.frozen 0
 have hz2:=hB1.frozen 1
 clear hb1
 go_wp2
 refine bodyPost_ret (v:=.tuple #[.agg #[.int .i64 0,.int .i64 0],.iface 71 (.int .i64 (greatFault p l n))]) (by simp [results,Tryz.results117,go_sem,x0,x1]) rfl ⟨rfl,?_⟩
 exact (hb2.setCell (by simp) _).setCell (by simp) _
theorem first_none (p:Pf) (A:Option Addr) (l:List Pf) (c:Nat) (n:Int) (hm:l.length≤maxLen) (hf:greatFault p l n=0) (hg:greatL p l n=[]) (w:World) (ht:TabVar w) (hl:Rd w w.heap.size A (cellsP l)) :
  Calls Tryz.prog 117 #[.agg #[.int .i64 p.1,.int .i64 p.2],.slice A l.length c,.int .i64 n] w fun e w'=>e=.returned (.tuple #[.agg #[.int .i64 0,.int .i64 0],.iface 71 (.int .i64 4)])∧Below w.heap.size w w':=by
 have hgt:=ht.lt
 have HF:=Hd hf
 have HG:=Hd hg
 clear hf hg
 have hbA:=((Below.refl w.heap.size w).alloc (Nat.le_refl _) (.cells #[.int .i64 p.1,.int .i64 p.2] 31)).alloc (by simp) (.cells #[.int .i64 0,.int .i64 0] 31)
 go_enter Tryz.func117,Tryz.ntmps117
 go_wp2_with fail
 refine (great_good p A l c n hm HF.out _ (ht.belowB hbA hgt) ((hl.below hbA).more (by simp;omega))).mono ?_
 rintro e w1 ⟨v1,rfl,hown1,hb1⟩
 rw [HG.out] at hown1
 obtain ⟨A1,c1,rfl,_⟩:=hown1.form
 have hB1:=(Blk.new (w.alloc (.cells #[.int .i64 p.1,.int .i64 p.2] 31)) 31 #[.int .i64 0,.int .i64 0]).below hb1 (by simp)
 rw [World.size_alloc] at hB1
 have hb2:=hbA.trans (hb1.mono (by simp;omega))
 have hs2:=hb2.size
 obtain ⟨x0,x1,_⟩:=hB1.two
 have hz1:=hB1.frozen 0
 have hz2:=hB1.frozen 1
 clear hb1 hown1
 go_wp2
 refine bodyPost_ret (v:=.tuple #[.agg #[.int .i64 0,.int .i64 0],.iface 71 (.int .i64 4)]) (by simp [results,Tryz.results117,go_sem,x0,x1]) rfl ⟨rfl,?_⟩
 exact (hb2.setCell (by simp) _).setCell (by simp) _
theorem first_ok (p:Pf) (A:Option Addr) (l:List Pf) (c:Nat) (n:Int) (b:Pf) (r:List Pf) (hm:l.length≤maxLen) (hf:greatFault p l n=0) (hg:greatL p l n=b::r) (w:World) (ht:TabVar w) (hl:Rd w w.heap.size A (cellsP l)) :
  Calls Tryz.prog 117 #[.agg #[.int .i64 p.1,.int .i64 p.2],.slice A l.length c,.int .i64 n] w fun e w'=>e=.returned (.tuple #[.agg #[.int .i64 b.1,.int .i64 n],.nilIface])∧Below w.heap.size w w':=by
 have hgt:=ht.lt
 have HF:=Hd hf
 have HG:=Hd hg
 clear hf hg
 have hbA:=((Below.refl w.heap.size w).alloc (Nat.le_refl _) (.cells #[.int .i64 p.1,.int .i64 p.2] 31)).alloc (by simp) (.cells #[.int .i64 0,.int .i64 0] 31)
 go_enter Tryz.func117,Tryz.ntmps117
 go_wp2_with fail
 refine (great_good p A l c n hm HF.out _ (ht.belowB hbA hgt) ((hl.below hbA).more (by simp;omega))).mono ?_
 rintro e w1 ⟨v1,rfl,hown1,hb1⟩
 rw [HG.out] at hown1
 obtain ⟨A1,c1,rfl,hr1⟩:=hown1.form
 obtain ⟨b1,off1,rfl,hbb,d0,_⟩:=hr1.pair (k:=0) (by simp)
 simp only [Nat.zero_mul,Nat.add_zero,List.getElem_cons_zero] at d0
 have hl0:0 < (b::r).length:=by simp
 have hl1:¬ (((b::r).length:Int)=0):=by simp;omega
 obtain ⟨M,hM⟩:∃ M,M=(b::r).length:=⟨_,rfl⟩
 rw [← hM] at hl0 hl1
 rw [← hM]
 clear hM hr1
 have hB1:=(Blk.new (w.alloc (.cells #[.int .i64 p.1,.int .i64 p.2] 31)) 31 #[.int .i64 0,.int .i64 0]).below hb1 (by simp)
 rw [World.size_alloc] at hB1
 have hb2:=hbA.trans (hb1.mono (by simp;omega))
 have hs2:=hb2.size
 obtain ⟨x0,x1,_⟩:=hB1.two
 have hz1:=hB1.frozen 0
 have hz2:=hB1.frozen 1
 clear hb1 hown1
 go_wp2
 refine bodyPost_ret (v:=.tuple #[.agg #[.int .i64 b.1,.int .i64 n],.nilIface]) (by simp [results,Tryz.results117,go_sem,x0,x1]) rfl ⟨rfl,?_⟩
 exact (hb2.setCell (by simp) _).setCell (by simp) _
/- Many -/
end Go.Proofs.YtkckcbhnnllkhaaGreatDoor
