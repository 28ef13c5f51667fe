/- Parts of the proof; conditions: as each theorem says. -/
import Derived.Test.YtkckcbhnnllkhaaGreatDoorG10
import Derived.Test.YtkckcbhnnllkhaaGreatDoorG25
import Derived.Test.YtkckcbhnnllkhaaGreatDoorG3
import Derived.Test.YtkckcbhnnllkhaaGreatDoorG4
import Derived.Test.YtkckcbhnnllkhaaGreatDoorG5
import Derived.Lib.AppendIntMem
set_option linter.unusedVariables false
set_option linter.unusedSimpArgs false
namespace Go.Proofs.YtkckcbhnnllkhaaGreatDoor
open Go.RowKit
theorem txt_of (s:ByteArray):Value.string s=txt s.data.toList:=by unfold txt;simp
theorem data_toList (s:List UInt8):(⟨s.toArray⟩:ByteArray).data.toList=s:=by simp
theorem data_size (s:List UInt8):(⟨s.toArray⟩:ByteArray).size=s.length:=by simp [ByteArray.size]
structure TxtV (B:Nat) (w:World):Prop where
 pow : Lib.TabBelow Tryz.prog B w "internal/strconv.uint64pow10" .u64 Lib.pow10Tab
 syn:∃ ev,w.cell? ⟨2,0,none⟩=some ev∧(ev=.nilIface∨∃ te pe,ev=.iface te pe)
 rng:∃ ev,w.cell? ⟨3,0,none⟩=some ev∧(ev=.nilIface∨∃ te pe,ev=.iface te pe)
 mx:∃ m,w.cell? ⟨0,0,none⟩=some (.int .i64 m)
 ls:2 < B
 lr:3 < B
 lm:0 < B
theorem TxtV.on {B:Nat} {w w':World} (h:TxtV B w) (hb:Below B w w'):TxtV B w':=by
 obtain ⟨ev,h1,h2⟩:=h.syn
 obtain ⟨er,h3,h4⟩:=h.rng
 obtain ⟨m,h5⟩:=h.mx
 exact ⟨h.pow.on hb,⟨ev,(hb.cell (p:=⟨_,_,_⟩) h.ls).trans h1,h2⟩,⟨er,(hb.cell (p:=⟨_,_,_⟩) h.lr).trans h3,h4⟩,⟨m,(hb.cell (p:=⟨_,_,_⟩) h.lm).trans h5⟩,h.ls,h.lr,h.lm⟩
theorem itoa_any (n:Int) (h0:-9223372036854775808≤n) (hn:n≤9223372036854775807) {B:Nat} (w:World) (hB:B≤w.heap.size) (hV:TxtV B w) :
  Calls Tryz.prog 112 #[.int .i64 n] w fun e w'=>e=.returned (txt (Lib.itoa n))∧Below w.heap.size w w':=by
 have h:=Any.strconv_Itoa layItoa n h0 hn w hV.pow.here
 refine h.mono fun e w' q=>?_
 obtain ⟨q1,k,os,q2⟩:=q
 exact ⟨q1,by rw [q2];exact Lib.below_grow _ _ (Nat.le_refl _) _ _⟩
theorem itoaN_any (n:Nat) (hn:n≤9223372036854775807) {B:Nat} (w:World) (hB:B≤w.heap.size) (hV:TxtV B w) :
  Calls Tryz.prog 112 #[.int .i64 (n:Int)] w fun e w'=>e=.returned (txt (Lib.decDigits n))∧Below w.heap.size w w':=by
 have h:=itoa_any (n:Int) (by omega) (by omega) w hB hV
 rw [itoa_nat] at h
 exact h
theorem pieces_eq (s:List UInt8) (c:UInt8):(Lib.splitB ⟨#[c]⟩ 0 (Lib.countB ⟨s.toArray⟩ ⟨#[c]⟩) ⟨s.toArray⟩).map Value.string=(splitL c s).map txt:=by
 have h:=Lib.splitB_data ⟨#[c]⟩ 0 (Lib.countB ⟨s.toArray⟩ ⟨#[c]⟩) ⟨s.toArray⟩
 have e:Lib.splitK [c] 0 (Lib.count s [c]) s=splitL c s:=split_one c s
 have h2:(Lib.splitB ⟨#[c]⟩ 0 (Lib.countB ⟨s.toArray⟩ ⟨#[c]⟩) ⟨s.toArray⟩).map (·.data.toList)=splitL c s:=by
  rw [← e]
  simpa [Lib.countB] using h
 rw [← h2,List.map_map]
 exact List.map_congr_left fun x _=>txt_of x
theorem split_any (s:List UInt8) (c:UInt8) (hs:s.length < 4294967281) {B:Nat} (w:World) (hV:TxtV B w) :
  Calls Tryz.prog 125 #[txt s,.string ⟨#[c]⟩] w fun e w'=>e=.returned (.slice (some ⟨w.heap.size,0,none⟩) (splitL c s).length (splitL c s).length)∧w'=w.alloc (.cells ((splitL c s).map txt).toArray 9):=by
 obtain ⟨m,hm⟩:=hV.mx
 have h:=Any.strings_Split { laySplit with } laySplit.i9 ⟨s.toArray⟩ ⟨#[c]⟩ m w (by rw [data_size];exact hs) hm (by show 1≤1;omega)
 have e1:=pieces_eq s c
 have e2:Lib.countB ⟨s.toArray⟩ ⟨#[c]⟩+1=(splitL c s).length:=by
  rw [splitL_length]
 rw [e1,e2] at h
 exact h
theorem cut_any (s:List UInt8) (c:UInt8) (hs:s.length < 4294967281) {B:Nat} (w:World) (hV:TxtV B w) :
  Calls Tryz.prog 54 #[txt s,.string ⟨#[c]⟩] w fun e w'=>e=.returned (.tuple #[txt (Lib.cut s [c]).1,txt (Lib.cut s [c]).2.1,.bool (Lib.cut s [c]).2.2])∧∃ n,w'=w.drewN n:=by
 obtain ⟨m,hm⟩:=hV.mx
 have h:=Any.strings_Cut { layCut with } ⟨s.toArray⟩ ⟨#[c]⟩ m w (by rw [data_size];exact hs) hm
 rw [data_toList s] at h
 exact h
end Go.Proofs.YtkckcbhnnllkhaaGreatDoor
