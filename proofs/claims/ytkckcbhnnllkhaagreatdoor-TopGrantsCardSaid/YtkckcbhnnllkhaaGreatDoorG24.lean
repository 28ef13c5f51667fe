/- Parts of the proof; conditions: as each theorem says. -/
import Derived.Test.YtkckcbhnnllkhaaGreatDoorG23
import Derived.Test.YtkckcbhnnllkhaaGreatDoorG2
import Derived.Shelf.Strings.Repeat
import Derived.Deep.RegionHeld3
import Derived.Test.YtkckcbhnnllkhaaGreatDoorG16
set_option linter.unusedVariables false
set_option linter.unusedSimpArgs false
set_option maxRecDepth 100000
set_option maxHeartbeats 40000000
namespace Go.Proofs.YtkckcbhnnllkhaaGreatDoor
open Go.RowKit
open Go.ChangeMaps (setBlock)
theorem repExtra:Go.Proofs.Builder.Extra Tryz.prog layRep_ren where
 sizeBuilder:=by kernel_rfl
 liesBuilder:=by kernel_rfl
 t5:=Tryz.underlying5
 a5:=Tryz.isAgg5
 z5:=Tryz.sizeOf5
 v5:=Tryz.zeroValue5
 infoByte:=by kernel_rfl
 cellsByte:=by kernel_rfl
 sizeByte:=by kernel_rfl
 neB5:=by decide
def topKey:List UInt8:=[255,255,255,255,255,255,255,255,255,255,255,255,255,255,255,255,255,255,255,255,255,255,255,255,255]
theorem rep_top:Lib.repeatL ((⟨#[255]⟩:ByteArray).data.toList) 25=topKey:=by decide
theorem repeat_top (w:World):Calls Tryz.prog 48 #[.string ⟨#[255]⟩,.int .i64 25] w fun e w'=>e=.returned (txt topKey)∧Below w.heap.size w w':=by
 have h:=Any.strings_Repeat layRep repExtra (⟨#[255]⟩:ByteArray) 25 w (by decide) (by decide)
 change Calls Tryz.prog 48 _ _ _ at h
 rw [rep_top] at h
 exact h
section
variable {w w' : World} {O : Nat → Nat} {d : Nat} {M : Mem} {g : Dk} {id : Int} {k : Nat}
theorem DeskAt.all_s (h:DeskAt w O d M g) (hk:g.all.length≤40000) :
  Calls Tryz.prog 26 #[ptrV d] w fun e w'=>∃ v L,e=.returned v∧OwnKV w' w.heap.size v L∧RangeIs g.F [] topKey g.last L∧L.length≤800000∧Below w.heap.size w w':=by
 have x1:=h.hB.cell 1
 have x2:=h.hB.cell 2
 simp at x1 x2
 have hnum:numB g.last=true:=numB_of (by unfold Dk.last;omega)
 have HRep:=Hd repeat_top
 have hDB:=h.hB
 have HR:=Hd (fun w' (hb:Below w.heap.size w w')=>show Calls Tryz.prog 47 #[.pointer (some ⟨M.tb,0,none⟩),txt [],txt topKey,.int .i64 g.last] w' (fun e w2=>∃ A c L,e=.returned (.tuple #[.slice A L.length c,.nilIface])∧OwnKV w2 w'.heap.size (.slice A L.length c) L∧RangeIs g.F [] topKey g.last L∧L.length≤800000∧Below w'.heap.size w' w2) from by
  obtain ⟨n,top,hn,_,hT⟩:=(h.below hb).tab
  refine (range_ok M.tb g.F top n (by omega) _ [] topKey g.last w' hT hnum).mono (fun e w2 q=>?_)
  obtain ⟨v,L,q1,q2,q3,q4,q5⟩:=q
  obtain ⟨A,c,hv,_⟩:=q2.rd
  subst hv
  exact ⟨A,c,L,q1,q2,q3,by omega,q5⟩)
 have hkk:∀ W,Blk W d 100 #[ptrV M.lg,ptrV M.tb,.int .i64 g.last,.int .i64 g.ids,.map (some M.ob),M.ev]→W.cell? ⟨d,1,none⟩=some (ptrV M.tb)∧W.cell? ⟨d,2,none⟩=some (.int .i64 g.last):=fun W e1=>⟨e1.cell 1,e1.cell 2⟩
 clear h
 go_enter Tryz.func26,Tryz.ntmps26
 go_wp2_with fail
 go_region_held3 (fun W=>W.cell? ⟨d,1,none⟩=some (ptrV M.tb)∧W.cell? ⟨d,2,none⟩=some (.int .i64 g.last))
  (first
   | exact hkk _ hDB
   | exact hkk _ (hDB.below hb4 hDB.lt)
   | exact hkk _ ((hDB.below hb4 hDB.lt).below hb5 (hDB.below hb4 hDB.lt).lt))
  ((first
   | (go_at_call 48;refine (HRep.out _).mono ?_;rintro e w4 ⟨rfl,hb4⟩;have hb4:Below w.heap.size w w4:=⟨hb4.os,hb4.tape,hb4.output,hb4.size,hb4.block⟩)
   | (go_at_call 47;refine (HR.out _ hb4).mono ?_;rintro e w5 ⟨A5,c5,L,rfl,hK5,hR5,hlen5,hb5⟩)))
 have HB5:=Hd (hb4.trans (hb5.mono hb4.size))
 have HK5:=Hd (own_of_base hK5 hb4.size)
 have HR5:=Hd hR5
 clear hb4 hb5 hK5 hR5
 go_wp2
 go_ret
 exact ⟨_,L,rfl,HK5.out,HR5.out,hlen5,HB5.out⟩
end
section
variable {w w' : World} {S : Nat → Prop} {d : Nat} {g g' : Dk} {id : Int} {k : Nat}
theorem DeskS.drop_s (h:DeskS w S d g k) (hS:∀ q,w.heap.size≤q→S q) (hid:(Lit.int .i64 id).wf=true) (s:List UInt8) (hs:s.length≤maxLen) :
  Calls Tryz.prog 74 #[ptrV d,intV id,txt s] w fun e w'=>e=.returned (faultV (g.change id ⟨s,[],true⟩).1)∧Fr S w w'∧DeskS w' S d (g.change id ⟨s,[],true⟩).2 k:=by
 have okn:=h.ok.change (id:=id) ⟨s,[],true⟩
 obtain ⟨⟨O,M,h1,h2⟩,ok⟩:=h
 exact (h2.drop_to ok hid s hs).mono fun e w' q=>⟨q.1,q.2.up h1 hS okn⟩
theorem DeskS.all_s (h:DeskS w S d g k) (hk:k≤40000) :
  Calls Tryz.prog 26 #[ptrV d] w fun e w'=>∃ v L,e=.returned v∧OwnKV w' w.heap.size v L∧RangeIs g.F [] topKey g.last L∧L.length≤800000∧Below w.heap.size w w':=by
 obtain ⟨⟨O,M,h1,h2⟩,ok⟩:=h
 exact h2.all_s (by have:=ok.hall.1;omega)
end
section
variable {w w' : World} {R R' : Nat → Prop} {v v' u : Value} {Ls : List (List KV)} {L : List KV}
end
section
variable {w w' : World} {b0 d k k' : Nat} {g g' : Dk} {v : Value} {Ls : List (List KV)}
end
end Go.Proofs.YtkckcbhnnllkhaaGreatDoor
