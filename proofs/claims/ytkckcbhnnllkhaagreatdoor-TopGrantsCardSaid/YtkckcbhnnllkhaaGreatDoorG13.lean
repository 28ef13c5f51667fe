/- Parts of the proof; conditions: as each theorem says. -/
import Derived.Shelf.SlSortCmp.WholeK
import Derived.Test.YtkckcbhnnllkhaaGreatDoorG10
set_option linter.unusedVariables false
set_option linter.unusedSimpArgs false
namespace Go.Proofs.YtkckcbhnnllkhaaGreatDoor
open Go Go.RowKit Go.Sort Go.Shelf
section
variable {α : Type} [Inhabited α] {enc : α → List Value} {k : Nat}
theorem flat_cellsE (hk0:0 < k) (hk:∀ x,(enc x).length=k) (d:Array α):(flatK enc k d).toList=flatE enc d.toList:=by
 apply List.ext_getElem?
 intro t
 have hz:(flatK enc k d).size=d.size * k:=size_flatK enc k d
 by_cases h:t < d.size * k
 ·have hd:t / k < d.size:=(Nat.div_lt_iff_lt_mul hk0).2 h
  have hm:t % k < k:=Nat.mod_lt _ hk0
  have e1:=flatE_at hk d.toList (t / k) (t % k) (by simpa using hd) hm
  rw [Nat.mul_comm,Nat.div_add_mod] at e1
  rw [e1,List.getElem?_eq_getElem (by simpa [hz] using h)]
  have:=get_flatK enc k d t h
  rw [getElem!_pos (flatK enc k d) t (by omega)] at this
  rw [Array.getElem_toList,this,getElem!_pos d (t / k) hd]
  rw [List.getElem?_eq_getElem (by rw [hk];exact hm)]
  congr 1
  rw [getElem!_pos (enc d[t / k]) (t % k) (by rw [hk];exact hm)]
  rfl
 ·rw [List.getElem?_eq_none (by rw [Array.length_toList];omega),List.getElem?_eq_none (by rw [flatE_length hk];simp;omega)]
theorem holds_ownE (hk0:0 < k) (hk:∀ x,(enc x).length=k) {w:World} {base:Nat} {e:TypeId} {g n c:Nat} {d:Array α} (h:w.ownsRow base e k (.slice (some ⟨g,0,none⟩) n c) n (flatE enc d.toList)) (hn:d.size=n):HoldsK enc k w g 0 d:=by
 intro j hj
 rw [size_flatK] at hj
 have e1:(flatK enc k d).toList[j]?=(flatE enc d.toList)[j]?:=by rw [flat_cellsE hk0 hk]
 rw [Array.getElem?_toList,Array.getElem?_eq_getElem (by rw [size_flatK];exact hj)] at e1
 rcases h.2 with ⟨h1,_⟩ | ⟨g',cap,cur,e0,hb,hg,hnc,hm,hs,ht⟩
 ·cases h1
 ·injection e0 with e1' _ e3
  injection e1' with e1'
  injection e1' with e1'
  subst e1';subst e3
  rw [getElem!_pos (flatK enc k d) j (by rw [size_flatK];exact hj)]
  refine ⟨?_,by simp [World.frozen?,hg]⟩
  rw [Nat.zero_add]
  have:w.cell? ⟨g,j,none⟩=cur[j]?:=cell_of_row w g j cur e (0,0) hg
  rw [this,id,e1,← ht,List.getElem?_take,if_pos (by subst hn;omega),Array.getElem?_toList]
theorem own_sortedE (hk0:0 < k) (hk:∀ x,(enc x).length=k) {w:World} {base:Nat} {e:TypeId} {g n c q:Nat} {xs:List Value} {d':Array α} {os:Array Obj} (h:w.ownsRow base e k (.slice (some ⟨g,0,none⟩) n c) n xs) (hn:d'.size=n) :
  (sortWorldK enc k w g 0 q d' os).ownsRow base e k (.slice (some ⟨g,0,none⟩) n c) n (flatE enc d'.toList):=by
 rcases h.2 with ⟨h1,_⟩ | ⟨g',cap,cur,e0,hb,hg,hnc,hm,hs,ht⟩
 ·cases h1
 ·injection e0 with e1' _ e3
  injection e1' with e1'
  injection e1' with e1'
  subst e1';subst e3
  have hlt:g < w.heap.size:=(Array.getElem?_eq_some_iff.1 hg).1
  refine ⟨by rw [flatE_length hk];simp [hn],.inr ⟨g,c,putCells id 0 (flatK enc k d') cur,rfl,hb,?_,hnc,hm,by simpa [putCells] using hs,?_⟩⟩
  ·unfold sortWorldK grow putRowK putRow mapBlock
   simp only
   rw [Array.getElem?_append_left (by simpa [Sort.ahead] using hlt)]
   simp [Sort.ahead,Array.getElem?_modify,hg,onCells]
  ·rw [← flat_cellsE hk0 hk]
   apply List.ext_getElem?
   intro j
   rw [List.getElem?_take,Array.getElem?_toList,Array.getElem?_toList]
   have hcs:n * k≤cur.size:=by rw [hs];exact Nat.mul_le_mul_right k hnc
   by_cases hj:j < n * k
   ·have hjc:j < cur.size:=by omega
    have hjf:j < (flatK enc k d').size:=by rw [size_flatK,hn];exact hj
    rw [if_pos hj]
    simp only [putCells,Array.getElem?_mapIdx,Array.getElem?_eq_getElem hjc,Option.map_some]
    rw [if_pos (by omega),Array.getElem?_eq_getElem hjf]
    simp only [Nat.sub_zero,id]
    rw [getElem!_pos (flatK enc k d') j hjf]
   ·rw [if_neg hj,Array.getElem?_eq_none (by rw [size_flatK,hn];omega)]
theorem grown_sortedE {w:World} {g q:Nat} {d:Array α} {os:Array Obj} (hg:g < w.heap.size):w.grownBy (sortWorldK enc k w g 0 q d os) (some g):=by
 refine ⟨rfl,rfl,rfl,?_,fun i hi hne=>?_⟩
 ·unfold sortWorldK grow putRowK putRow mapBlock
  simp [Sort.ahead]
 ·unfold sortWorldK grow putRowK putRow mapBlock
  simp only
  rw [Array.getElem?_append_left (by simp [Sort.ahead];omega)]
  simp [Sort.ahead,Array.getElem?_modify,show g≠i from fun e=>hne (by rw [e])]
end
end Go.Proofs.YtkckcbhnnllkhaaGreatDoor
