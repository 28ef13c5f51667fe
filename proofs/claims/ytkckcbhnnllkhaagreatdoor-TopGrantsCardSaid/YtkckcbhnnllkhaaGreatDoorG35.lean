/- Parts of the proof; conditions: as each theorem says. -/
import Derived.Test.YtkckcbhnnllkhaaGreatDoorG11
import Derived.Test.YtkckcbhnnllkhaaGreatDoorG1
set_option linter.unusedVariables false
set_option linter.unusedSimpArgs false
namespace Go.Proofs.YtkckcbhnnllkhaaGreatDoor
open Go.RowKit Go.Sort Go.Shelf
abbrev VS:={ s:Sp // 0≤s.1∧s.1≤4294967295 }
instance:Inhabited VS:=⟨⟨(0,0),by decide⟩⟩
def encV (x:VS):List Value:=[.int .i64 x.1.1,.int .i64 x.1.2]
def cfV (x y:VS):Int:=x.1.1 - y.1.1
theorem ltV (x y:VS):ltOf cfV x y=decide (x.1.1 < y.1.1):=by
 unfold ltOf cfV
 by_cases h:x.1.1 < y.1.1
 ·simp [h];omega
 ·simp [h];omega
theorem swoV:SWO (ltOf cfV) where
 irrefl x:=by rw [ltV];simp
 trans x y z h1 h2:=by rw [ltV] at *;simp at *;omega
 ntrans x y z h1 h2:=by rw [ltV] at *;simp at *;omega
theorem cmp_closure (x y:VS) (W:World):Calls Tryz.prog 193 #[.agg #[.int .i64 x.1.1,.int .i64 x.1.2],.agg #[.int .i64 y.1.1,.int .i64 y.1.2]] W fun e w'=>e=.returned (.int .i64 (cfV x y))∧∃ q os',w'=grow (W.drewN q) os':=by
 obtain ⟨⟨x1,x2⟩,hx⟩:=x
 obtain ⟨⟨y1,y2⟩,hy⟩:=y
 simp only at hx hy
 obtain ⟨a1,a2⟩:=hx
 obtain ⟨b1,b2⟩:=hy
 simp only [cfV]
 go_enter Tryz.func193,Tryz.ntmps193
 go_wp2
 go_ret
 exact ⟨rfl,0,_,by rw [alloc_eq_grow,alloc_eq_grow,grow_grow];rfl⟩
theorem cellsP_mod (l:List Sp) (t:Nat) (h:t < l.length * 2):(cellsP l)[t]?=some (if t % 2=0 then .int .i64 (l[t / 2]'(by omega)).1 else .int .i64 (l[t / 2]'(by omega)).2):=by
 have:=cellsP_at l (t / 2) (by omega)
 split
 ·rename_i h0
  rw [← this.1]
  congr 1
  omega
 ·rename_i h0
  rw [← this.2]
  congr 1
  omega
theorem flat_cells (d:Array VS):(flatK encV 2 d).toList=cellsP (d.toList.map Subtype.val):=by
 apply List.ext_getElem?
 intro t
 by_cases h:t < d.size * 2
 ·rw [cellsP_mod _ t (by simpa using h)]
  have hz:t < (flatK encV 2 d).size:=by rw [size_flatK];exact h
  rw [List.getElem?_eq_getElem (by simpa using hz)]
  have:=get_flatK encV 2 d t h
  rw [getElem!_pos (flatK encV 2 d) t hz] at this
  rw [Array.getElem_toList,this,getElem!_pos d (t / 2) (by omega)]
  congr 1
  have hm:t % 2=0∨t % 2=1:=by omega
  rcases hm with hm | hm <;> simp [hm,encV]
 ·rw [List.getElem?_eq_none (by rw [Array.length_toList,size_flatK];omega),List.getElem?_eq_none (by rw [cellsP_length];simp;omega)]
theorem holds_own {w:World} {base:Nat} {e:TypeId} {g n c:Nat} {d:Array VS} (h:w.ownsRow base e 2 (.slice (some ⟨g,0,none⟩) n c) n (cellsP (d.toList.map Subtype.val))) (hn:d.size=n):HoldsK encV 2 w g 0 d:=by
 intro j hj
 rw [size_flatK] at hj
 have e1:(flatK encV 2 d).toList[j]?=(cellsP (d.toList.map Subtype.val))[j]?:=by rw [flat_cells]
 rw [Array.getElem?_toList,Array.getElem?_eq_getElem (by rw [size_flatK];exact hj)] at e1
 rcases h.2 with ⟨h1,_⟩ | ⟨g',cap,cur,e0,hb,hg,hnc,hm,hs,ht⟩
 ·cases h1
 ·injection e0 with e1' _ e3
  injection e1' with e1'
  injection e1' with e1'
  subst e1';subst e3
  rw [getElem!_pos (flatK encV 2 d) j (by rw [size_flatK];exact hj)]
  refine ⟨?_,by simp [World.frozen?,hg]⟩
  rw [Nat.zero_add]
  have:w.cell? ⟨g,j,none⟩=cur[j]?:=cell_of_row w g j cur e (0,0) hg
  rw [this,id,e1,← ht,List.getElem?_take,if_pos (by omega),Array.getElem?_toList]
theorem own_sorted {w:World} {base:Nat} {e:TypeId} {g n c q:Nat} {d d':Array VS} {os:Array Obj} (h:w.ownsRow base e 2 (.slice (some ⟨g,0,none⟩) n c) n (cellsP (d.toList.map Subtype.val))) (hn:d'.size=n) :
  (sortWorldK encV 2 w g 0 q d' os).ownsRow base e 2 (.slice (some ⟨g,0,none⟩) n c) n (cellsP (d'.toList.map Subtype.val)):=by
 rcases h.2 with ⟨h1,_⟩ | ⟨g',cap,cur,e0,hb,hg,hnc,hm,hs,ht⟩
 ·cases h1
 ·injection e0 with e1' _ e3
  injection e1' with e1'
  injection e1' with e1'
  subst e1';subst e3
  have hlt:g < w.heap.size:=(Array.getElem?_eq_some_iff.1 hg).1
  refine ⟨by rw [cellsP_length];simp [hn],.inr ⟨g,c,putCells id 0 (flatK encV 2 d') cur,rfl,hb,?_,hnc,hm,by simpa [putCells] using hs,?_⟩⟩
  ·unfold sortWorldK grow putRowK putRow mapBlock
   simp only
   rw [Array.getElem?_append_left (by simpa [Sort.ahead] using hlt)]
   simp [Sort.ahead,Array.getElem?_modify,hg,onCells]
  ·rw [← flat_cells]
   apply List.ext_getElem?
   intro j
   rw [List.getElem?_take,Array.getElem?_toList,Array.getElem?_toList]
   by_cases hj:j < n * 2
   ·have hjc:j < cur.size:=by omega
    have hjf:j < (flatK encV 2 d').size:=by rw [size_flatK];omega
    rw [if_pos hj]
    simp only [putCells,Array.getElem?_mapIdx,Array.getElem?_eq_getElem hjc,Option.map_some]
    rw [if_pos (by omega),Array.getElem?_eq_getElem hjf]
    simp only [Nat.sub_zero,id]
    rw [getElem!_pos (flatK encV 2 d') j hjf]
   ·rw [if_neg hj,Array.getElem?_eq_none (by rw [size_flatK];omega)]
theorem below_sorted {w:World} {B g q:Nat} {d:Array VS} {os:Array Obj} (hB:B≤g) (hg:g < w.heap.size):Below B w (sortWorldK encV 2 w g 0 q d os):=by
 refine ⟨rfl,rfl,rfl,?_,fun k hk=>?_⟩
 ·unfold sortWorldK grow putRowK putRow mapBlock
  simp [Sort.ahead]
 ·unfold sortWorldK grow putRowK putRow mapBlock
  simp only
  rw [Array.getElem?_append_left (by simp [Sort.ahead];omega)]
  simp [Sort.ahead,Array.getElem?_modify,show g≠k by omega]
theorem sort_any (v:Value) (l:List Sp) (base:Nat) (hv:∀ s ∈ l,0≤s.1∧s.1≤4294967295) (hlen:l.length≤1000000) (w:World) (hown:OwnP w base 138 v l) (hl0:l≠[]) :
  Calls Tryz.prog 192 #[v,.func (.func 193) #[] #[]] w fun e w'=>e=.returned (.tuple #[])∧∃ L,OwnP w' base 138 v L∧L.Perm l∧L.Pairwise (fun x y=>x.1≤y.1)∧Below base w w':=by
 obtain ⟨d,rfl⟩:∃ d:Array VS,d.toList.map Subtype.val=l:=by
  refine ⟨(l.attachWith _ hv).toArray,?_⟩
  simp [List.attachWith,List.map_pmap]
 unfold OwnP at hown
 rw [List.length_map,Array.length_toList] at hown hlen
 have hform:∃ g c,v=.slice (some ⟨g,0,none⟩) d.size c∧base≤g∧g < w.heap.size:=by
  rcases hown.2 with ⟨_,h0⟩ | ⟨g,cap,cur,e0,hb,hg,_⟩
  ·exact absurd (by simp [List.eq_nil_of_length_eq_zero (show d.toList.length=0 by simpa using h0)]) hl0
  ·exact ⟨g,cap,e0,hb,(Array.getElem?_eq_some_iff.1 hg).1⟩
 obtain ⟨g,c,rfl,hb,hg⟩:=hform
 have hcon:=AnyQ.slices_SortFunc laySort 2 Tryz.isAgg138 Tryz.sizeOf138 encV (fun _=>rfl) (fun x v hv=>by simp [encV] at hv;rcases hv with rfl | rfl <;> rfl) cfV swoV 193 #[] g 0 c d w
  (fun _ _=>by kernel_rfl) (fun _ _ _ _ x y=>cmp_closure x y _) (holds_own hown rfl) hg (by omega)
 change Calls Tryz.prog 192 _ _ _ at hcon
 refine hcon.mono ?_
 rintro e w' ⟨rfl,d',n,os,hp,hs,rfl⟩
 refine ⟨rfl,d'.toList.map Subtype.val,?_,?_,?_,below_sorted hb hg⟩
 ·unfold OwnP
  rw [List.length_map,Array.length_toList,hp.1]
  exact own_sorted hown hp.1
 ·have:=hp.2.2
  rw [show d.size=d'.size from hp.1.symm] at this
  have e1:d'.extract 0 d'.size=d':=by simp
  have e2:d.extract 0 d'.size=d:=by rw [hp.1];simp
  rw [e1,e2] at this
  exact this.map _
 ·rw [List.pairwise_map,List.pairwise_iff_getElem]
  intro i j hi hj hij
  have:=hs i j (Nat.zero_le _) hij (by rw [← hp.1];simpa using hj)
  rw [ltV,getElem!_pos d' i (by simpa using hi),getElem!_pos d' j (by simpa using hj)] at this
  simpa using this
end Go.Proofs.YtkckcbhnnllkhaaGreatDoor
