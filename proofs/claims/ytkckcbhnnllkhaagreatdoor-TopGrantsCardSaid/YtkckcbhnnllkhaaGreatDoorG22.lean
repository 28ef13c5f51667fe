/- Parts of the proof; conditions: as each theorem says. -/
import Derived.Test.YtkckcbhnnllkhaaGreatDoorG21
import Derived.Test.YtkckcbhnnllkhaaGreatDoorG10
import Derived.Deep.RegionHeld3
import Derived.StillTail
import Derived.StillTailTactics
import Derived.Test.YtkckcbhnnllkhaaGreatDoorG15
set_option linter.unusedVariables false
set_option linter.unusedSimpArgs false
set_option maxRecDepth 100000
set_option maxHeartbeats 40000000
namespace Go.Proofs.YtkckcbhnnllkhaaGreatDoor
open Go.RowKit
open Go.ChangeMaps (setBlock)
theorem own_count {w:World} {k:Nat} {eo:Array MapEntry} {co ob:Nat} {t:Tr} (hF:FMap w Tryz.prog 9 ob eo co txt chgV (findO t.own)) (hr:RiseC t.own):eo.size=t.own.length:=by
 have:=hF.count txtV_inj (l:=t.own.map Chg.key) (Rise.nodup hr) (fun s=>by
  constructor
  ·intro hs e
   obtain ⟨c,hc,e2⟩:=List.mem_map.1 hs
   exact findO_none.1 e c hc e2
  ·intro hs
   cases e:findO t.own s with
   | none=>exact absurd e hs
   | some c=>exact List.mem_map.2 ⟨c,((findO_iff hr).1 e).1,((findO_iff hr).1 e).2⟩)
 simpa using this
theorem oneOk_of {c:Chg} (hk:keyB c.key=true) (hv:c.val.length≤12) (hg:c.gone=true→c.val=[]):oneOk c=true:=by
 unfold keyB at hk
 unfold oneOk
 simp at hk
 have h1:1≤c.key.length:=List.length_pos_iff.2 hk.1
 cases e:c.gone
 ·simp [h1,hk.2,hv]
 ·simp [h1,hk.2,hv,hg e]
theorem oneOk_parts {c:Chg} (h:oneOk c=true):keyB c.key=true∧c.key.length≤24∧c.val.length≤12∧(c.gone=true→c.val=[]):=by
 unfold oneOk at h
 simp at h
 obtain ⟨⟨⟨h1,h2⟩,h3⟩,h4⟩:=h
 refine ⟨?_,h2,h3,fun e=>?_⟩
 ·unfold keyB
  simp [h2,List.length_pos_iff.1 (show 0 < c.key.length by omega)]
 ·rcases h4 with h4 | h4
  ·rw [e] at h4;cases h4
  ·first | exact h4 | exact List.eq_nil_of_length_eq_zero (by omega)
theorem TrAt.own_turn {w w':World} {S:Nat→Prop} {bk kb sb ob:Nat} {ek es eo':Array MapEntry} {ck cs co':Nat} {t:Tr} {own':List Chg} (hB:Blk w bk 106 #[.int .i64 t.sees,.int .i64 t.asked,.map (some kb),.map (some sb),.map (some ob)])
  (h1:FMap w Tryz.prog 9 kb ek ck txt oneV (keysF t.keys)) (h2:FMap w Tryz.prog 152 sb es cs spanV oneV (spansF t.spans)) (m:MapAt w' Tryz.prog 9 ob eo' co') (hg:w.grownBy w' (some ob)) (h3:FMap w' Tryz.prog 9 ob eo' co' txt chgV (findO own'))
  (hk:S kb) (hs:S sb) (ho:S ob) (hb:S bk) (n1:kb≠sb) (n2:kb≠ob) (n3:sb≠ob) (n4:bk≠ob) (l1:(ek.size:Int)≤t.asked) (l2:(es.size:Int)≤t.asked) (hr:RiseC own') (hl:own'.length≤20∧∀ c ∈ own',oneOk c=true) (ha:0≤t.asked∧t.asked≤100) :
  TrAt w' S bk { t with own:=own' } :=
 ⟨⟨kb,sb,ob,ek,ck,es,cs,eo',co',hB.grown hg (fun e=>n4 (by injection e)),h1.keep (hg.block _ h1.map.lt (fun e=>n2 (by injection e))),h2.keep (hg.block _ h2.map.lt (fun e=>n3 (by injection e))),h3,hk,hs,ho,n1,n2,n3,l1,l2⟩,hb,hr,hl,ha⟩
theorem change_store {w:World} {O:Nat→Nat} {d:Nat} {M:Mem} {g:Dk} {id:Int} {k:Nat} (h:DeskAt w O d M g) (ok:DkOk g k) {t:Tr} (ht:findT g.op id=some t) (c:Chg) {kl:Lit} (hkl:keyOf Tryz.prog 9 (txt c.key)=some kl) (hk1:keyB c.key=true) (hv:c.val.length≤12) (hcg:c.gone=true→c.val=[]) :
  ∃ ob s n kb sb,Blk w (M.bk id) 106 #[s,n,kb,sb,.map (some ob)]∧(∀ ty,(Builtin.len_ #[104] ty #[.map (some ob)]).run Tryz.prog w=.ok (.int .i64 t.own.length) w) ∧
   (¬ (findO t.own c.key=none∧t.own.length=20)→∃ es' clock',(Instr.mapUpdate 104 (.map (some ob)) (txt c.key) (chgV c)).run Tryz.prog w.drew=.ok () (setBlock w.drew ob (.map es' clock')) ∧
    DeskTo w O d { g with op:=setT g.op { t with own:=insC c t.own } } (setBlock w.drew ob (.map es' clock'))):=by
 obtain ⟨htm,hti⟩:=findT_mem ht
 have hbd:Below w.heap.size w w.drew:=⟨rfl,rfl,rfl,Nat.le_refl _,fun _ _=>rfl⟩
 replace h:=h.below hbd
 have hT:=h.tr t htm
 rw [hti] at hT
 obtain ⟨⟨kb,sb,ob,ek,ck,es,cs,eo,co,hB,hF1,hF2,hF3,s1,s2,s3,n1,n2,n3,l1,l2⟩,hS,hrise,hown,hask⟩:=hT
 have hcnt:=own_count (k:=0) hF3 hrise
 have hlen:=(hF3.keep (w':=w) rfl).map.len Tryz.underlying104
 rw [hcnt] at hlen
 refine ⟨ob,_,_,_,_,hB,hlen,fun hfull=>?_⟩
 obtain ⟨es',clock',hst,hM',hg',hsz',hle'⟩:=hF3.store strKey Tryz.underlying104 (by rw [hcnt];have:=hown.1;unfold maxLen;omega) txtV_inj c.key c hkl
 rw [← findO_ins hrise c] at hM'
 have hins:(insC c t.own).length≤20∧∀ x ∈ insC c t.own,oneOk x=true:=by
  refine ⟨?_,fun x hx=>?_⟩
  ·rw [insC_len hrise]
   split
   ·rename_i q
    have:t.own.length≠20:=fun e=>hfull ⟨q,e⟩
    have:=hown.1
    omega
   ·exact hown.1
  ·rcases (insC_mem hrise).1 hx with rfl | ⟨hx,_⟩
   ·exact oneOk_of hk1 hv hcg
   ·exact hown.2 x hx
 have hTr:=TrAt.own_turn (S:=plus (fun q=>O q=TrS id) w.drew) hB hF1 hF2 hM'.map hg' hM' (.inl s1) (.inl s2) (.inl s3) (.inl hS) n1 n2 n3 (blk_not_map hB hF3.map) l1 l2 (insC_rise hrise) hins hask
 have hf:Fr (fun q=>O q=TrS id) w.drew (setBlock w.drew ob (.map es' clock')):=(Fr.refl _ _).grown hg' (fun q e _=>by injection e with e;rw [← e];exact s3)
 refine ⟨es',clock',hst,?_⟩
 subst hti
 have:=h.turn_tr (t':={ t with own:=insC c t.own }) ok.pos ht hf hTr
 exact DeskTo.trans (fun q e=>.inl e) (Fr.of_below hbd) (DeskTo.of this h.bound (by unfold TrS;omega) hf)
section
variable {w w' : World} {O : Nat → Nat} {d : Nat} {M : Mem} {g : Dk} {id : Int} {k : Nat}
theorem DeskAt.change_to (h:DeskAt w O d M g) (ok:DkOk g k) (hid:(Lit.int .i64 id).wf=true) (c:Chg) (hck:c.key.length≤maxLen) (hcv:c.val.length≤maxLen) (hcg:c.gone=true→c.val=[]) :
  Calls Tryz.prog 68 #[ptrV d,intV id,chgV c] w fun e w'=>e=.returned (faultV (g.change id c).1)∧DeskTo w O d (g.change id c).2 w':=by
 have hb0:Below w.heap.size w (w.alloc (.cells #[txt c.key,txt c.val,.bool c.gone] 112)):=(Below.refl _ _).alloc (Nat.le_refl _) _
 have hbk:=Blk.new w 112 #[txt c.key,txt c.val,.bool c.gone]
 obtain ⟨y0,y1,y2⟩:=hbk.cls3
 simp at y0 y1 y2
 replace h:=h.below hb0
 have HB:=Hd (fun g' w' (q:DeskTo (w.alloc (.cells #[txt c.key,txt c.val,.bool c.gone] 112)) O d g' w')=>DeskTo.trans (O:=O) (fun q e=>.inl e) (Fr.of_below hb0) q)
 clear hb0 hbk
 cases ht:findT g.op id with
 | none =>
  have HO:=Hd (h.of_none hid ht)
  have H:=Hd h
  have HE:=Hd (show g.change id c=(4,g) by unfold Dk.change;rw [ht])
  clear h
  go_enter Tryz.func68,Tryz.ntmps68
  go_wp2_with fail
  refine HO.out.mono ?_
  rintro e w1 ⟨rfl,rfl⟩
  go_wp2
  go_ret
  rw [HE.out]
  exact ⟨rfl,HB.out _ _ (DeskTo.same H.out)⟩
 | some t =>
  obtain ⟨htm,hti⟩:=findT_mem ht
  have hT:=h.tr t htm
  rw [hti] at hT
  obtain ⟨⟨kb,sb,ob,ek,ck,es,cs,eo,co,hB,hF1,hF2,hF3,s1,s2,s3,n1,n2,n3,l1,l2⟩,hS,hrise,hown,hask⟩:=hT
  have hB4:=hB.cell 4
  simp at hB4
  have HO:=Hd (h.of_some hid ht)
  have HK:=Hd (fun W=>key_any c.key hck W)
  have H:=Hd h
  clear h
  by_cases hk1:keyB c.key=false
  ·have HE:=Hd (show g.change id c=(2,g) by unfold Dk.change;rw [ht];simp only;rw [if_pos (.inl hk1)])
   have HN:=Hd hk1
   clear hF1 hF2 hF3
   go_enter Tryz.func68,Tryz.ntmps68
   go_wp2_with fail
   refine HO.out.mono ?_
   rintro e w1 ⟨rfl,rfl⟩
   go_wp2_with fail
   refine (HK.out _).mono ?_
   rw [HN.out]
   rintro e w1 ⟨rfl,rfl⟩
   go_wp2
   go_ret
   rw [HE.out]
   exact ⟨rfl,HB.out _ _ (DeskTo.same H.out)⟩
  ·have hk1':keyB c.key=true:=by simpa using hk1
   have HN:=Hd hk1'
   by_cases hv:12 < c.val.length
   ·have HE:=Hd (show g.change id c=(2,g) by unfold Dk.change;rw [ht];simp only;rw [if_pos (.inr hv)])
    clear hF1 hF2 hF3
    have hvI:(12:Int) < (c.val.length:Int):=by omega
    go_enter Tryz.func68,Tryz.ntmps68
    go_wp2_with fail
    refine HO.out.mono ?_
    rintro e w1 ⟨rfl,rfl⟩
    go_wp2_with fail
    refine (HK.out _).mono ?_
    rw [HN.out]
    rintro e w1 ⟨rfl,rfl⟩
    go_wp2
    go_ret
    rw [HE.out]
    exact ⟨rfl,HB.out _ _ (DeskTo.same H.out)⟩
   ·have hvI:¬ (12:Int) < (c.val.length:Int):=by omega
    obtain ⟨kl,hkl⟩:=txt_key c.key hck
    have hcnt:=own_count (k:=0) hF3 hrise
    have hlook:∀ W:World,W.heap[ob]?=(w.alloc (.cells #[txt c.key,txt c.val,.bool c.gone] 112)).heap[ob]?→(Instr.lookup 104 (.map (some ob)) (txt c.key) true).run Tryz.prog W=.ok (.tuple #[match findO t.own c.key with | some y=>chgV y | none=>.agg #[txt [],txt [],.bool false],.bool (findO t.own c.key).isSome]) W:=fun W hW=>by
     cases e:findO t.own c.key with
     | none=>simpa using (hF3.keep hW).look_none strKey Tryz.underlying104 (zeroChg W) e hkl true
     | some y=>simpa using (hF3.keep hW).look_some strKey Tryz.underlying104 (zeroChg W) e hkl true
    generalize hy:(match findO t.own c.key with | some y=>chgV y | none=>(.agg #[txt [],txt [],.bool false]:Value))=y at hlook
    obtain ⟨a,b,e,rfl⟩:∃ (a b:List UInt8) (e:Bool),y=.agg #[txt a,txt b,.bool e]:=by
     rw [← hy]
     cases findO t.own c.key with
     | none=>exact ⟨_,_,_,rfl⟩
     | some y=>exact ⟨_,_,_,rfl⟩
    clear hy
    have hob:=hF3.map.lt
    have r1:=hlook (w.alloc (.cells #[txt c.key,txt c.val,.bool c.gone] 112)).drew rfl
    have r2:=hlook ((w.alloc (.cells #[txt c.key,txt c.val,.bool c.gone] 112)).alloc (.cells #[txt [],txt [],.bool false] 112)).drew (Below.heap_alloc _ _ _ hob)
    have HS:=Hd (fun W (hD:DeskAt W O d M g)=>change_store hD ok ht c hkl hk1' (by omega) hcg)
    have HC:=Hd hcnt
    have HH:=Hd (⟨hk1,hv⟩:¬ keyB c.key=false∧¬ 12 < c.val.length)
    clear hlook hF1 hF2 hF3 hcnt
    go_enter Tryz.func68,Tryz.ntmps68
    go_wp2_with fail
    refine HO.out.mono ?_
    rintro e w1 ⟨rfl,rfl⟩
    go_wp2_with fail
    refine (HK.out _).mono ?_
    rw [HN.out]
    rintro e w1 ⟨rfl,rfl⟩
    go_wp2_with fail
    have hbk0:=Blk.new w 112 #[txt c.key,txt c.val,.bool c.gone]
    have hz:=Blk.new (w.alloc (.cells #[txt c.key,txt c.val,.bool c.gone] 112)) 112 #[txt [],txt [],.bool false]
    rw [show (w.alloc (.cells #[txt c.key,txt c.val,.bool c.gone] 112)).heap.size=w.heap.size+1 by simp] at hz
    obtain ⟨z0,z1,z2⟩:=hz.cls3
    obtain ⟨f0,f1,f2⟩:=hz.frs3
    simp at z0 z1 z2
    have hkk:∀ W,Blk W w.heap.size 112 #[txt c.key,txt c.val,.bool c.gone]→Blk W (M.bk id) 106 #[.int .i64 t.sees,.int .i64 t.asked,.map (some kb),.map (some sb),.map (some ob)]→W.cell? ⟨w.heap.size,0,none⟩=some (txt c.key)∧W.cell? ⟨M.bk id,4,none⟩=some (.map (some ob)):=fun W h1 h2=>⟨h1.cell 0,h2.cell 4⟩
    go_region_held3 (fun W=>W.cell? ⟨w.heap.size,0,none⟩=some (txt c.key)∧W.cell? ⟨M.bk id,4,none⟩=some (.map (some ob)))
     (first
      | exact hkk _ hbk0 hB
      | exact hkk _ (hbk0.alloc _) (hB.alloc _)
      | exact hkk _ ((hbk0.alloc _).far (by simp;omega) _) ((hB.alloc _).far (by simp;omega) _)) (fail)
    all_goals
     generalize hW2:World.drew ((w.alloc (.cells #[txt c.key,txt c.val,.bool c.gone] 112)).alloc (.cells #[.string ⟨a.toArray⟩,.string ⟨b.toArray⟩,.bool e] 112))=W2
     have hb2:Below (w.alloc (.cells #[txt c.key,txt c.val,.bool c.gone] 112)).heap.size (w.alloc (.cells #[txt c.key,txt c.val,.bool c.gone] 112)) W2:=by
      have h2:=(Below.refl _ _).alloc (Nat.le_refl _) (w:=(w.alloc (.cells #[txt c.key,txt c.val,.bool c.gone] 112))) (.cells #[.string ⟨a.toArray⟩,.string ⟨b.toArray⟩,.bool e] 112)
      rw [← hW2]
      exact ⟨h2.os,h2.tape,h2.output,h2.size,h2.block⟩
     have D2:=H.out.below hb2
     have hbx2:=hbk0.below hb2 (by simp)
     have HB2:=Hd hb2
     clear hW2 r1 r2 hz z0 z1 z2 f0 f1 f2 hkk hB hB4 y0 y1 y2 hb2 hbk0
     obtain ⟨x0,x1,x2⟩:=hbx2.cls3
     simp at x0 x1 x2
     obtain ⟨ob',s',n',kb',sb',hB2,hl2,hst⟩:=HS.out W2 D2
     have x4:=hB2.cell 4
     simp at x4
     clear D2 hB2 hbx2
     by_cases hfull:findO t.own c.key=none∧t.own.length=20
     ·have HE:=Hd (show g.change id c=(3,g) by unfold Dk.change;rw [ht];simp only;rw [if_neg (by rintro (q | q);exact HH.out.1 q;exact HH.out.2 q),if_pos hfull])
      rw [hfull.2] at hl2
      simp only [hfull.1,Option.isSome_none]
      clear hst
      go_wp2
      go_ret
      rw [HE.out]
      exact ⟨rfl,HB.out _ _ (DeskTo.below H.out HB2.out)⟩
     ·have HE:=Hd (show g.change id c=(0,{ g with op:=setT g.op { t with own:=insC c t.own } }) by unfold Dk.change;rw [ht];simp only;rw [if_neg (by rintro (q | q);exact HH.out.1 q;exact HH.out.2 q),if_neg hfull])
      obtain ⟨es',clock',hup,hDT⟩:=hst hfull
      have HDT:=Hd hDT
      clear hDT hst
      cases hsm:(findO t.own c.key).isSome with
      | true =>
       go_wp2
       go_still_tail 7,(by kernel_rfl)
       go_wp2
       go_ret
       rw [HE.out]
       exact ⟨rfl,HB.out _ _ (DeskTo.trans (fun q e=>.inl e) (Fr.of_below HB2.out) HDT.out)⟩
      | false =>
       have hne:((t.own.length:Int) == 20)=false:=by
        have:t.own.length≠20:=fun e=>hfull ⟨by simpa using hsm,e⟩
        simp
        omega
       go_wp2
       go_still_tail 7,(by kernel_rfl)
       go_wp2
       go_ret
       rw [HE.out]
       exact ⟨rfl,HB.out _ _ (DeskTo.trans (fun q e=>.inl e) (Fr.of_below HB2.out) HDT.out)⟩
theorem DeskAt.put_to (h:DeskAt w O d M g) (ok:DkOk g k) (hid:(Lit.int .i64 id).wf=true) (s v:List UInt8) (hs:s.length≤maxLen) (hv:v.length≤maxLen) :
  Calls Tryz.prog 45 #[ptrV d,intV id,txt s,txt v] w fun e w'=>e=.returned (faultV (g.change id ⟨s,v,false⟩).1)∧DeskTo w O d (g.change id ⟨s,v,false⟩).2 w':=by
 have HC:=Hd (h.change_to ok hid ⟨s,v,false⟩ hs hv (fun e=>by cases e))
 clear h
 go_enter Tryz.func45,Tryz.ntmps45
 go_wp2_with fail
 refine HC.out.mono ?_
 rintro e w1 ⟨rfl,hD⟩
 have HD:=Hd hD
 clear hD
 go_wp2
 go_ret
 exact ⟨rfl,HD.out⟩
theorem DeskAt.drop_to (h:DeskAt w O d M g) (ok:DkOk g k) (hid:(Lit.int .i64 id).wf=true) (s:List UInt8) (hs:s.length≤maxLen) :
  Calls Tryz.prog 74 #[ptrV d,intV id,txt s] w fun e w'=>e=.returned (faultV (g.change id ⟨s,[],true⟩).1)∧DeskTo w O d (g.change id ⟨s,[],true⟩).2 w':=by
 have HC:=Hd (h.change_to ok hid ⟨s,[],true⟩ hs (by simp) (fun _=>rfl))
 clear h
 go_enter Tryz.func74,Tryz.ntmps74
 go_wp2_with fail
 refine HC.out.mono ?_
 rintro e w1 ⟨rfl,hD⟩
 have HD:=Hd hD
 clear hD
 go_wp2
 go_ret
 exact ⟨rfl,HD.out⟩
end
theorem keysF_snoc (l:List (List UInt8)) (s:List UInt8):keysF (l++[s])=updO (keysF l) s (some ()):=by
 funext x
 by_cases e:x=s
 ·rw [e,updO_same];simp [keysF]
 ·rw [updO_other _ _ e];simp [keysF,e]
theorem spansF_snoc (l:List (List UInt8 × List UInt8)) (s:List UInt8 × List UInt8):spansF (l++[s])=updO (spansF l) s (some ()):=by
 funext x
 by_cases e:x=s
 ·rw [e,updO_same];simp [spansF]
 ·rw [updO_other _ _ e];simp [spansF,e]
section
variable {w w' : World} {O : Nat → Nat} {d : Nat} {M : Mem} {g : Dk} {id : Int} {k : Nat}
theorem DeskAt.tr_cells (h:DeskAt w O d M g) {t:Tr} (ht:findT g.op id=some t):∃ kb sb ob,Blk w (M.bk id) 106 #[.int .i64 t.sees,.int .i64 t.asked,.map (some kb),.map (some sb),.map (some ob)]:=by
 obtain ⟨htm,hti⟩:=findT_mem ht
 have hT:=h.tr t htm
 rw [hti] at hT
 obtain ⟨⟨kb,sb,ob,ek,ck,es,cs,eo,co,hB,_⟩,_⟩:=hT
 exact ⟨kb,sb,ob,hB⟩
theorem DeskAt.tr_asked (h:DeskAt w O d M g) {t:Tr} (ht:findT g.op id=some t):0≤t.asked∧t.asked≤100∧RiseC t.own∧t.own.length≤20∧∀ c ∈ t.own,oneOk c=true:=by
 obtain ⟨htm,hti⟩:=findT_mem ht
 have hT:=h.tr t htm
 exact ⟨hT.asked.1,hT.asked.2,hT.rise,hT.own.1,hT.own.2⟩
theorem key_store (h:DeskAt w O d M g) (ok:DkOk g k) {t:Tr} (ht:findT g.op id=some t) (ha:t.asked < 100) (s:List UInt8) (hs:s.length≤maxLen) {kb sb ob:Nat} (w':World)
  (hB0:Blk w (M.bk id) 106 #[.int .i64 t.sees,.int .i64 t.asked,.map (some kb),.map (some sb),.map (some ob)])
  (hB1:Blk w' (M.bk id) 106 #[.int .i64 t.sees,.int .i64 (t.asked+1),.map (some kb),.map (some sb),.map (some ob)]) (hf:Fr (fun q=>q=M.bk id) w w') :
  ∃ es' clock' eo co,(Instr.mapUpdate 67 (.map (some kb)) (txt s) (.int .i64 1)).run Tryz.prog w'=.ok () (setBlock w' kb (.map es' clock')) ∧
   Blk (setBlock w' kb (.map es' clock')) (M.bk id) 106 #[.int .i64 t.sees,.int .i64 (t.asked+1),.map (some kb),.map (some sb),.map (some ob)] ∧
   FMap (setBlock w' kb (.map es' clock')) Tryz.prog 9 ob eo co txt chgV (findO t.own) ∧
   Fr (fun q=>O q=TrS id) w (setBlock w' kb (.map es' clock')) ∧
   DeskAt (setBlock w' kb (.map es' clock')) (give O (TrS id) w (setBlock w' kb (.map es' clock'))) d M { g with op:=setT g.op { t with asked:=t.asked+1,keys:=t.keys++[s] } }:=by
 obtain ⟨htm,hti⟩:=findT_mem ht
 have hT:=h.tr t htm
 rw [hti] at hT
 obtain ⟨⟨kb2,sb2,ob2,ek,ck,es,cs,eo,co,hB,hF1,hF2,hF3,s1,s2,s3,n1,n2,n3,l1,l2⟩,hS,hrise,hown,hask⟩:=hT
 have e:=hB.symm.trans hB0
 simp at e
 obtain ⟨rfl,rfl,rfl⟩:=e
 have g1:=hF1.far hf (fun e=>blk_not_map hB0 hF1.map e.symm)
 have g2:=hF2.far hf (fun e=>blk_not_map hB0 hF2.map e.symm)
 have g3:=hF3.far hf (fun e=>blk_not_map hB0 hF3.map e.symm)
 obtain ⟨kl,hkl⟩:=txt_key s hs
 obtain ⟨es',clock',hst,hM',hg',hsz',hle'⟩:=g1.store strKey Tryz.underlying67 (by unfold maxLen;omega) txtV_inj s () hkl
 rw [← keysF_snoc] at hM'
 have hB2:=hB1.grown hg' (fun e=>blk_not_map hB0 hF1.map (by injection e))
 have k2:=g2.keep (hg'.block _ g2.map.lt (fun e=>n1 (by injection e with e;exact e.symm)))
 have k3:=g3.keep (hg'.block _ g3.map.lt (fun e=>n2 (by injection e with e;exact e.symm)))
 have hf2:Fr (fun q=>O q=TrS id) w (setBlock w' kb2 (.map es' clock')):=(hf.mono (fun q _ e=>by rw [e];exact hS)).grown hg' (fun q e _=>by injection e with e;rw [← e];exact s1)
 refine ⟨es',clock',eo,co,hst,hB2,k3,hf2,?_⟩
 subst hti
 refine h.turn_tr (t':={ t with asked:=t.asked+1,keys:=t.keys++[s] }) ok.pos ht hf2 ?_
 exact ⟨⟨kb2,sb2,ob2,es',clock',es,cs,eo,co,hB2,hM',k2,k3,.inl s1,.inl s2,.inl s3,n1,n2,n3,by show (es'.size:Int)≤t.asked+1;omega,by show (es.size:Int)≤t.asked+1;omega⟩,.inl hS,hrise,hown,by show 0≤t.asked+1∧t.asked+1≤100;omega⟩
theorem DeskAt.sees_ok (ok:DkOk g k) (hk:k≤50000) {t:Tr} (ht:findT g.op id=some t):numB t.sees=true:=by
 have h1:=ok.each t (findT_mem ht).1
 have h2:=ok.hall.1
 unfold Dk.last at h1
 exact numB_of (by omega)
theorem getO_table {F:List UInt8→List Ver} {own:List Chg} {n:Int} {s:List UInt8} (h:findO own s=none) (hn:numB n=true):getV F s n=getO F own n s:=by
 unfold getV getO over
 rw [h,if_pos hn]
 rfl
theorem getO_own {F:List UInt8→List Ver} {own:List Chg} {n:Int} {s:List UInt8} {c:Chg} (h:findO own s=some c):getO F own n s=if c.gone then ([],4) else (c.val,0):=by
 unfold getO over
 rw [h]
 simp only
 cases c.gone <;> rfl
theorem DeskAt.get_to (h:DeskAt w O d M g) (ok:DkOk g k) (hk:k≤50000) (hid:(Lit.int .i64 id).wf=true) (s:List UInt8) (hs:s.length≤maxLen) :
  Calls Tryz.prog 66 #[ptrV d,intV id,txt s] w fun e w'=>e=.returned (.tuple #[txt (g.get id s).1,faultV (g.get id s).2.1])∧DeskTo w O d (g.get id s).2.2 w':=by
 cases ht:findT g.op id with
 | none =>
  have HO:=Hd (h.of_none hid ht)
  have H:=Hd h
  have HE:=Hd (show g.get id s=([],4,g) by unfold Dk.get;rw [ht])
  clear h
  go_enter Tryz.func66,Tryz.ntmps66
  go_wp2_with fail
  refine HO.out.mono ?_
  rintro e w1 ⟨rfl,rfl⟩
  go_wp2
  go_ret2
  rw [HE.out]
  exact ⟨rfl,DeskTo.same H.out⟩
 | some t =>
  obtain ⟨kb,sb,ob,hB⟩:=h.tr_cells ht
  obtain ⟨ha1,ha2,hrise,_,_⟩:=h.tr_asked ht
  have HO:=Hd (h.of_some hid ht)
  have HK:=Hd (fun W=>key_any s hs W)
  have H:=Hd h
  clear h
  by_cases hk1:keyB s=false
  ·have HE:=Hd (show g.get id s=([],2,g) by unfold Dk.get;rw [ht];simp only;rw [if_pos hk1])
   have HN:=Hd hk1
   go_enter Tryz.func66,Tryz.ntmps66
   go_wp2_with fail
   refine HO.out.mono ?_
   rintro e w1 ⟨rfl,rfl⟩
   go_wp2_with fail
   refine (HK.out _).mono ?_
   rw [HN.out]
   rintro e w1 ⟨rfl,rfl⟩
   go_wp2
   go_ret2
   rw [HE.out]
   exact ⟨rfl,DeskTo.same H.out⟩
  ·have hk1':keyB s=true:=by simpa using hk1
   have HN:=Hd hk1'
   by_cases hfull:t.asked=100
   ·have HE:=Hd (show g.get id s=([],3,g) by unfold Dk.get;rw [ht];simp only;rw [if_neg hk1,if_pos hfull])
    rw [hfull] at hB
    have HA:=Hd (ask_full hB)
    go_enter Tryz.func66,Tryz.ntmps66
    go_wp2_with fail
    refine HO.out.mono ?_
    rintro e w1 ⟨rfl,rfl⟩
    go_wp2_with fail
    refine (HK.out _).mono ?_
    rw [HN.out]
    rintro e w1 ⟨rfl,rfl⟩
    go_wp2_with fail
    refine HA.out.mono ?_
    rintro e w1 ⟨rfl,rfl⟩
    go_wp2
    go_ret2
    rw [HE.out]
    exact ⟨rfl,DeskTo.same H.out⟩
   ·have HE:=Hd (show g.get id s=((getO g.F t.own t.sees s).1,(getO g.F t.own t.sees s).2,{ g with op:=setT g.op { t with asked:=t.asked+1,keys:=t.keys++[s] } }) by unfold Dk.get;rw [ht];simp only;rw [if_neg hk1,if_neg hfull])
    have HA:=Hd (ask_ok (show 0≤t.asked∧t.asked < 100 by omega) hB)
    have hnum:=Hd (DeskAt.sees_ok ok hk ht)
    have hkb:=Hd hk
    obtain ⟨kl,hkl⟩:=txt_key s hs
    go_enter Tryz.func66,Tryz.ntmps66
    go_wp2_with fail
    refine HO.out.mono ?_
    rintro e w1 ⟨rfl,rfl⟩
    go_wp2_with fail
    refine (HK.out _).mono ?_
    rw [HN.out]
    rintro e w1 ⟨rfl,rfl⟩
    go_wp2_with fail
    refine HA.out.mono ?_
    rintro e w2 ⟨rfl,hB2,hf2,hsz2⟩
    obtain ⟨es',clock',eo,co,hst,hB3,hF3,hf3,hD3⟩:=key_store H.out ok ht (by omega) s hs w2 hB hB2 hf2
    have y2:=hB2.cell 2
    simp at y2
    have y4:=hB3.cell 4
    have y0:=hB3.cell 0
    have yt:=hD3.hB.cell 1
    simp at y4 y0 yt
    have hD:=Hd hD3
    have hF:=Hd hf3
    cases hfo:findO t.own s with
    | some c =>
     have hrun:=hF3.look_some strKey Tryz.underlying104 (zeroChg _) hfo hkl true
     have HG:=Hd (getO_own (F:=g.F) (n:=t.sees) hfo)
     simp only [if_true] at hrun
     have HB4:=Hd (fun o=>DeskTo.trans (O:=O) (give_plus H.out.bound) (hf3.mono (fun q _ e=>by rw [e];unfold TrS;omega)) (DeskTo.below hD3 ((Below.refl _ _).alloc (Nat.le_refl _) o)))
     clear hD3 hf3 hF3 hB3 hB2 hf2 hB hD hF
     obtain ⟨ck,cv,cg⟩:=c
     cases cg
     ·go_wp2
      go_ret2
      rw [HE.out,HG.out]
      exact ⟨rfl,HB4.out _⟩
     ·go_wp2
      go_ret2
      rw [HE.out,HG.out]
      exact ⟨rfl,HB4.out _⟩
    | none =>
     have hrun:=hF3.look_none strKey Tryz.underlying104 (zeroChg _) hfo hkl true
     simp only [if_true] at hrun
     have HG:=Hd (getO_table (F:=g.F) hfo hnum.out)
     have HB3:=Hd hB3
     clear hD3 hf3 hF3 hB3 hB2 hf2 hB
     go_wp2_with fail
     generalize hW4:(setBlock w2 kb (.map es' clock')).alloc (.cells #[.string ⟨#[]⟩,.string ⟨#[]⟩,.bool false] 112)=w4
     have hb4:∀ q,Below (setBlock w2 kb (.map es' clock')).heap.size (setBlock w2 kb (.map es' clock')) (w4.drewN q):=fun q=>by
      have h2:=(Below.refl _ _).alloc (Nat.le_refl _) (w:=setBlock w2 kb (.map es' clock')) (.cells #[.string ⟨#[]⟩,.string ⟨#[]⟩,.bool false] 112)
      rw [← hW4]
      exact ⟨h2.os,h2.tape,h2.output,h2.size,h2.block⟩
     have y5:=(HB3.out.below (hb4 0) HB3.out.lt).cell 0
     have y6:=(hD.out.below (hb4 0)).hB.cell 1
     have y5:w4.cell? ⟨M.bk id,0,none⟩=_:=y5
     have y6:w4.cell? ⟨d,1,none⟩=_:=y6
     simp at y5 y6
     have HT:=Hd (fun q=>show Calls Tryz.prog 108 #[.pointer (some ⟨M.tb,0,none⟩),txt s,.int .i64 t.sees] (w4.drewN q) (fun e w'=>e=.returned (.tuple #[txt (getV g.F s t.sees).1,faultV (getV g.F s t.sees).2])∧w'=w4.drewN q) from by
      obtain ⟨n,top,hn,_,hT⟩:=(hD.out.below (hb4 q)).tab
      exact get_any M.tb g.F top n _ s hs t.sees (by have:=ok.hall.1;have:n≤20 * g.all.length:=hn;have:=hkb.out;omega) _ hT)
     have HB4:=Hd (fun q=>DeskTo.trans (O:=O) (give_plus H.out.bound) (hF.out.mono (fun q _ e=>by rw [e];unfold TrS;omega)) (DeskTo.below hD.out (hb4 q)))
     clear hb4 hW4 hD hF HB3
     rw [HG.out] at HT
     go_quiet ((go_at_call 108;exact Calls.quiet_of_same ((HT.out _).mono fun e w' h=>⟨h.1,h.2⟩)))
     go_wp2
     go_ret2
     rw [HE.out]
     exact ⟨rfl,HB4.out _⟩
end
def Dk.new (room:Int):Dk:=⟨⟨-1,false,room,[],0⟩,fun _=>[],[],0,0,[],[]⟩
theorem DkOk.new (room:Int):DkOk (Dk.new room) 0 :=
 ⟨by simp [Dk.new],by simp [Dk.new],by simp [Dk.new],⟨by simp [Dk.new],by simp [Dk.new]⟩,⟨by simp [Dk.new],by simp [Dk.new],by simp [Dk.new,frames],[],by simp [Dk.new,frames],trivial,fun _=>rfl⟩,by simp [Dk.new],⟨rfl,fun i hi=>by simp [Dk.new] at hi⟩⟩
theorem tblNew_ok (w:World):Calls Tryz.prog 33 #[] w fun e w'=>∃ t,e=.returned (.pointer (some ⟨t,0,none⟩))∧TblAt w' (fun q=>w.heap.size≤q) t (fun _=>[]) 0 0∧Below w.heap.size w w' :=
 (new_any w).mono fun e w' ⟨t,h1,h2,h3,h4,h5,h6⟩=>⟨t,h1,⟨⟨_,_,_,h3,h4,Nat.le_refl _⟩,h2,Good.new⟩,h6⟩
theorem deskNew_ok (room:Int) (hr:0≤room∧room≤100000) (w:World) :
  Calls Tryz.prog 19 #[.int .i64 room] w fun e w'=>∃ d,e=.returned (.tuple #[ptrV d,.nilIface])∧w.heap.size≤d∧DeskS w' (fun q=>w.heap.size≤q) d (Dk.new room) 0∧Below w.heap.size w w':=by
 have HL:=Hd (logNew_ok room hr w)
 go_enter Tryz.func19,Tryz.ntmps19
 go_wp2_with fail
 refine HL.out.mono ?_
 rintro e w1 ⟨rfl,hL,hb1⟩
 have HL1:=Hd hL.tight
 have HB1:=Hd hb1
 clear hL hb1
 go_wp2_with fail
 refine (tblNew_ok w1).mono ?_
 rintro e w2 ⟨tb,rfl,hT,hb2⟩
 have HT2:=Hd hT.tight
 have HB2:=Hd hb2
 clear hT hb2
 have hmk:=run_makeMap (P:=Tryz.prog) 98 w2
 go_wp2
 go_ret2
 refine ⟨w2.heap.size+1,by simp,?_⟩
 have hs1:=HB1.out.size
 have hs2:=HB2.out.size
 have h1:∀ (W:World) (o:Obj),(W.alloc o).heap.size=W.heap.size+1:=fun W o=>by simp
 have hb3:Below w2.heap.size w2 (w2.alloc (.map #[] 0)):=(Below.refl _ _).alloc (Nat.le_refl _) _
 have hb4:Below w2.heap.size w2 ((w2.alloc (.map #[] 0)).alloc (.cells #[ptrV w.heap.size,ptrV tb,.int .i64 0,.int .i64 0,.map (some w2.heap.size),.slice none 0 0] 100)):=hb3.alloc (by simp only [h1];omega) _
 have hB:=Blk.new (w2.alloc (.map #[] 0)) 100 #[ptrV w.heap.size,ptrV tb,.int .i64 0,.int .i64 0,.map (some w2.heap.size),.slice none 0 0]
 have hM:((w2.alloc (.map #[] 0)).alloc (.cells #[ptrV w.heap.size,ptrV tb,.int .i64 0,.int .i64 0,.map (some w2.heap.size),.slice none 0 0] 100)).heap[w2.heap.size]?=some (.map #[] 0):=by
  rw [Below.heap_alloc _ _ _ (by simp only [h1];omega)]
  exact heap_alloc_new _ _
 rw [h1] at hB
 have hsz:((w2.alloc (.map #[] 0)).alloc (.cells #[ptrV w.heap.size,ptrV tb,.int .i64 0,.int .i64 0,.map (some w2.heap.size),.slice none 0 0] 100)).heap.size=w2.heap.size+2:=by simp only [h1]
 generalize hW:(w2.alloc (.map #[] 0)).alloc (.cells #[ptrV w.heap.size,ptrV tb,.int .i64 0,.int .i64 0,.map (some w2.heap.size),.slice none 0 0] 100)=w3 at *
 have e0:w3=w3:=rfl
 refine ⟨by omega,⟨⟨fun q=>if q < w.heap.size then 0 else if q < w1.heap.size then 1 else if q < w2.heap.size then 2 else if q=w2.heap.size then 4 else if q=w2.heap.size+1 then 3 else 0,
  ⟨w.heap.size,tb,w2.heap.size,.slice none 0 0,fun _=>0⟩,fun q hq=>?_,?_⟩,DkOk.new room⟩,HB1.out.trans ((HB2.out.mono hs1).trans (hb4.mono (by omega)))⟩
 ·by_cases c:q < w.heap.size
  ·simp [c] at hq
  ·omega
 ·have hl:=(HL1.out.far (T:=fun _=>False) (Fr.of_below HB2.out) (fun _ _ q=>q)).far (T:=fun _=>False) (Fr.of_below hb4) (fun _ _ q=>q)
  have ht:=HT2.out.far (T:=fun _=>False) (Fr.of_below hb4) (fun _ _ q=>q)
  refine ⟨hB,?_,hl.mono ?_,⟨0,0,by simp [Dk.new],by simp [Dk.new,Dk.last],ht.mono ?_⟩,?_,⟨#[],0,?_⟩,fun q e=>by simp [Value.ownBlock] at e,World.ownsRow_nil _ _ _ _,by simp [Dk.new],fun q hq=>?_⟩
  ·rw [if_neg (by omega),if_neg (by omega),if_neg (by omega),if_neg (by omega),if_pos rfl]
  ·rintro q ⟨q1,q2⟩
   rw [if_neg (by omega),if_pos q2]
  ·rintro q ⟨q1,q2⟩
   rw [if_neg (by omega),if_neg (by omega),if_pos q2]
  ·show (if w2.heap.size < w.heap.size then 0 else if w2.heap.size < w1.heap.size then 1 else if w2.heap.size < w2.heap.size then 2 else if w2.heap.size=w2.heap.size then 4 else if w2.heap.size=w2.heap.size+1 then 3 else 0)=4
   rw [if_neg (by omega),if_neg (by omega),if_neg (by omega),if_pos rfl]
  ·exact FMap.empty hM
  ·rw [hsz]
   rcases Nat.lt_or_ge q (w2.heap.size+2) with c | c
   ·exact c
   ·rw [if_neg (by omega),if_neg (by omega),if_neg (by omega),if_neg (by omega),if_neg (by omega)] at hq
    exact absurd rfl hq
structure SoRel (f:List UInt8→Option (List UInt8)) (es:Array MapEntry) (left:List MapEntry) (out:List KV):Prop where
 nodup:(out.map Prod.fst).Nodup
 mem:∀ s v,(s,v) ∈ out ↔ f s=some v∧∀ x ∈ left,x.key≠txt s
 len:out.length+left.length≤es.size
section
variable {f : List UInt8 → Option (List UInt8)} {es : Array MapEntry} {left left' : List MapEntry} {out : List KV}
theorem SoRel.start {w:World} {P:Program} {k:TypeId} {b:Nat} {clock:Nat} (h:FMap w P k b es clock txt txt f):SoRel f es es.toList []:=by
 refine ⟨by simp,fun s v=>⟨fun h=>by simp at h,fun ⟨h1,h2⟩=>?_⟩,by simp⟩
 obtain ⟨x,hx,hk,_⟩:=h.has s v h1
 exact absurd hk (h2 x hx)
theorem SoRel.add (h:SoRel f es left out) {e:MapEntry} {s v:List UInt8} (hp:List.Perm left (e::left')) (hs:e.key=txt s) (hv:f s=some v) (hl:∀ x ∈ left',x.key≠e.key):SoRel f es left' (out++[(s,v)]):=by
 refine ⟨?_,fun s' v'=>?_,by have:=h.len;have:=hp.length_eq;simp at this ⊢;omega⟩
 ·rw [List.map_append,List.nodup_append]
  refine ⟨h.nodup,by simp,?_⟩
  intro a ha b hb
  simp at hb
  subst hb
  intro e2
  subst e2
  obtain ⟨⟨s1,v1⟩,h1,h2⟩:=List.mem_map.1 ha
  simp only at h2
  subst h2
  exact ((h.mem _ _).1 h1).2 e (hp.mem_iff.2 List.mem_cons_self) hs
 ·rw [List.mem_append,List.mem_singleton,h.mem]
  constructor
  ·rintro (⟨h1,h3⟩ | h1)
   ·exact ⟨h1,fun x hx=>h3 x (hp.mem_iff.2 (List.mem_cons_of_mem _ hx))⟩
   ·injection h1 with h1 h2
    subst h1
    subst h2
    exact ⟨hv,fun x hx=>by rw [← hs];exact hl x hx⟩
  ·rintro ⟨h2,h3⟩
   by_cases e2:s'=s
   ·subst e2
    rw [hv] at h2
    injection h2 with h2
    exact .inr (by rw [h2])
   ·refine .inl ⟨h2,fun x hx=>?_⟩
    rcases List.mem_cons.1 (hp.mem_iff.1 hx) with rfl | hx
    ·intro e3
     rw [hs] at e3
     exact e2 (txt_inj e3).symm
    ·exact h3 x hx
theorem SoRel.done (h:SoRel f es [] out) {L:List KV} (hp:L.Perm out) (hs:L.Pairwise (fun x y=>lessB y.1 x.1=false)):Rise Prod.fst L∧∀ s v,(s,v) ∈ L ↔ f s=some v:=by
 refine ⟨Rise.of_sorted hs ((hp.map _).nodup_iff.2 h.nodup),fun s v=>?_⟩
 rw [hp.mem_iff,h.mem]
 simp
end
theorem sorted_ok (b:Nat) (es:Array MapEntry) (clock:Nat) (f:List UInt8→Option (List UInt8)) (hsz:es.size≤1000000) (w:World) (hF:FMap w Tryz.prog 9 b es clock txt txt f) :
  Calls Tryz.prog 156 #[.map (some b)] w fun e w'=>∃ v L,e=.returned v∧OwnKV w' w.heap.size v L∧Rise Prod.fst L∧(∀ s x,(s,x) ∈ L ↔ f s=some x)∧L.length≤es.size∧Below w.heap.size w w':=by
 have hm0:=hF.map
 have hblt:=hm0.lt
 have HF:=Hd hF
 clear hF
 go_enter Tryz.func156,Tryz.ntmps156
 go_wp2_with (first | (at_range;refine at_rng _ rfl _ _ rfl 9 9 Tryz.underlying267 rfl hm0 ?_;intro w4 hR4 hM4 hg4 hs4;go_frame))
 have hb4:Below w.heap.size w w4:=(Below.refl _ _).grown hg4 (Nat.le_refl _) (fun k hk=>by cases hk)
 clear hm0 hM4
 generalize hH:w.heap.size=H at *
 have hRel0:=Hd (SoRel.start HF.out)
 go_loopw [3] (fun o wr=>∃ (left:List MapEntry) (out:List KV),OwnKV wr (H+1) o out∧RangeAt wr b H es clock left∧Below H w wr∧Hid (SoRel f es left out)∧H+1≤wr.heap.size)
  (fun _ wr=>leftN wr b H)
 case atStart=>exact ⟨es.toList,[],OwnKV.nil _ _,hR4,hb4,hRel0,by omega⟩
 case round =>
  obtain ⟨left,out,hownr,hR,hb,hrel,hsz2⟩:=hrel
  have hM5:=HF.out.below hb hblt
  have HLN:=Hd (hR.left_eq hM5.map)
  rcases hR.next hM5.map (by omega) 0 with ⟨h0,hrun⟩ | ⟨⟨ek1,ev1,eb1⟩,left',w',h1,h2,hrun,h3,h4,h5,h6,h7,h8⟩
  ·subst h0
   have hol:out.length≤es.size:=by have:=hrel.out.len;simpa using this
   have HS:=Hd (sortKVd_any u3 out (H+1) (by omega) wr hownr)
   clear hownr hM5 hR
   go_wp2_with fail
   refine HS.out.mono ?_
   rintro e w5 ⟨rfl,L,hown5,hp,hsrt,hb5⟩
   obtain ⟨g1,g2⟩:=hrel.out.done hp hsrt
   have HG1:=Hd g1
   have HG2:=Hd g2
   have HB5:=Hd (hb.trans (hb5.mono (by omega)))
   have HLL:=Hd (show L.length≤es.size by rw [hp.length_eq];exact hol)
   have HO:=Hd (own_of_base hown5 (show H≤H+1 by omega))
   clear g1 g2 hb5 hb hsrt hp hown5 hrel
   go_wp2
   go_ret
   exact ⟨u3,L,rfl,by rw [hH];exact HO.out,HG1.out,HG2.out,HLL.out,by rw [hH];exact HB5.out⟩
  ·obtain ⟨s,hs⟩:=HF.out.keys _ (hR.sub _ h1)
   obtain ⟨x,hx,hv⟩:=HF.out.val s ev1 ⟨_,hR.sub _ h1,hs,rfl⟩
   simp only at hs hv h7 h8 hrun
   subst hs
   subst hv
   have HRA:=Hd (hrel.out.add (s:=s) h2 rfl hx h7)
   have hol:out.length < 1000000000:=by have:=hrel.out.len;omega
   have hb':Below H w w':=hb.grown h5 (by omega) (fun k hk=>by injection hk with hk;omega)
   have hownA:=own_far hownr h5 (by omega)
   have hszA:H+1≤w'.heap.size:=by omega
   have HP:=Hd h2.length_eq
   have h1c:=encKV_one (s,x)
   clear h6 hrel hM5 hR hownr hb h1 h2 h7
   go_wp2_with (at_builtin;go_must (refine wpList_append_elt rfl _ _ 52 rfl 78 Tryz.underlying52 _ 2 32 infoKV rfl (by decide) (by decide) (H+1) _ out.length (flatE encKV out) rfl hownA #[txt s,txt x] rfl h1c rfl hol hszA ?_);intro v6 w6 hown6 hg6 hat6)
   have hne6:∀ q,u3.ownBlock=some q→H+1≤q:=fun q hq=>(World.ownsRow.lt hownA q hq).1
   have hblk:w6.heap[H]?=w'.heap[H]?:=hg6.block H h3.lt (fun e=>by have:=hne6 H e.symm;omega)
   have h36:=h3.keep hblk
   have h46:=h4.grown hg6 (fun e=>by have:=hne6 b e.symm;omega)
   have hb6:=hb'.grown hg6 (by omega) (fun q hq=>by have:=hne6 q hq;omega)
   have hsz6:H+1≤w6.heap.size:=Nat.le_trans hszA hg6.size
   clear hblk
   go_roundw
   case rel=>exact ⟨left',out++[(s,x)],by unfold OwnKV;rw [flatE_append,List.length_append];exact hown6,h36,hb6,HRA,hsz6⟩
   case measure=>rw [h36.left_eq h46,HLN.out,HP.out];simp
def DeskIn (w:World) (O:Nat→Nat) (d:Nat) (g':Dk) (w':World):Prop:=∃ O' M',DeskAt w' O' d M' g'∧(∀ q,O' q≠0→O q≠0)∧Fr (fun q=>O q≠0) w w'
section
variable {w w' : World} {O : Nat → Nat} {d : Nat} {M : Mem} {g g' : Dk} {id : Int} {k : Nat} {S : Nat → Prop}
theorem DeskIn.same (h:DeskAt w O d M g):DeskIn w O d g w:=⟨O,M,h,fun q e=>e,Fr.refl _ _⟩
theorem DeskIn.below {wc:World} (h:DeskIn w O d g' w') (hb:Below w'.heap.size w' wc):DeskIn w O d g' wc:=by
 obtain ⟨O2,M2,h1,h2,h3⟩:=h
 exact ⟨O2,M2,h1.below hb,h2,h3.bel hb⟩
theorem give_same {c:Nat} (hs:w'.heap.size=w.heap.size):∀ q,give O c w w' q≠0→O q≠0:=by
 intro q hq
 unfold give at hq
 split at hq
 ·exact hq
 ·split at hq
  ·omega
  ·exact absurd rfl hq
theorem span_store (h:DeskAt w O d M g) (ok:DkOk g k) {t:Tr} (ht:findT g.op id=some t) (ha:t.asked < 100) (p:List UInt8 × List UInt8) (hp1:p.1.length≤maxLen) (hp2:p.2.length≤maxLen) {kb sb ob:Nat} (w':World)
  (hB0:Blk w (M.bk id) 106 #[.int .i64 t.sees,.int .i64 t.asked,.map (some kb),.map (some sb),.map (some ob)])
  (hB1:Blk w' (M.bk id) 106 #[.int .i64 t.sees,.int .i64 (t.asked+1),.map (some kb),.map (some sb),.map (some ob)]) (hf:Fr (fun q=>q=M.bk id) w w') (hsz:w'.heap.size=w.heap.size) :
  ∃ es' clock' eo co,(Instr.mapUpdate 103 (.map (some sb)) (spanV p) (.int .i64 1)).run Tryz.prog w'=.ok () (setBlock w' sb (.map es' clock')) ∧
   Blk (setBlock w' sb (.map es' clock')) (M.bk id) 106 #[.int .i64 t.sees,.int .i64 (t.asked+1),.map (some kb),.map (some sb),.map (some ob)] ∧
   FMap (setBlock w' sb (.map es' clock')) Tryz.prog 9 ob eo co txt chgV (findO t.own) ∧
   DeskAt (setBlock w' sb (.map es' clock')) (give O (TrS id) w (setBlock w' sb (.map es' clock'))) d M { g with op:=setT g.op { t with asked:=t.asked+1,spans:=t.spans++[p] } } ∧
   DeskIn w O d { g with op:=setT g.op { t with asked:=t.asked+1,spans:=t.spans++[p] } } (setBlock w' sb (.map es' clock')):=by
 obtain ⟨htm,hti⟩:=findT_mem ht
 have hT:=h.tr t htm
 rw [hti] at hT
 obtain ⟨⟨kb2,sb2,ob2,ek,ck,es,cs,eo,co,hB,hF1,hF2,hF3,s1,s2,s3,n1,n2,n3,l1,l2⟩,hS,hrise,hown,hask⟩:=hT
 have e:=hB.symm.trans hB0
 simp at e
 obtain ⟨rfl,rfl,rfl⟩:=e
 have g1:=hF1.far hf (fun e=>blk_not_map hB0 hF1.map e.symm)
 have g2:=hF2.far hf (fun e=>blk_not_map hB0 hF2.map e.symm)
 have g3:=hF3.far hf (fun e=>blk_not_map hB0 hF3.map e.symm)
 obtain ⟨kl,hkl⟩:=reach_key p hp1 hp2
 obtain ⟨es',clock',hst,hM',hg',hsz',hle'⟩:=g2.store reachKey Tryz.underlying103 (by unfold maxLen;omega) spanV_inj p () hkl
 rw [← spansF_snoc] at hM'
 have hB2:=hB1.grown hg' (fun e=>blk_not_map hB0 hF2.map (by injection e))
 have k1:=g1.keep (hg'.block _ g1.map.lt (fun e=>n1 (by injection e)))
 have k3:=g3.keep (hg'.block _ g3.map.lt (fun e=>n3 (by injection e with e;exact e.symm)))
 have hf2:Fr (fun q=>O q=TrS id) w (setBlock w' sb2 (.map es' clock')):=(hf.mono (fun q _ e=>by rw [e];exact hS)).grown hg' (fun q e _=>by injection e with e;rw [← e];exact s2)
 have D:DeskAt (setBlock w' sb2 (.map es' clock')) (give O (TrS id) w (setBlock w' sb2 (.map es' clock'))) d M { g with op:=setT g.op { t with asked:=t.asked+1,spans:=t.spans++[p] } }:=by
  subst hti
  refine h.turn_tr (t':={ t with asked:=t.asked+1,spans:=t.spans++[p] }) ok.pos ht hf2 ?_
  exact ⟨⟨kb2,sb2,ob2,ek,ck,es',clock',eo,co,hB2,k1,hM',k3,.inl s1,.inl s2,.inl s3,n1,n2,n3,by show (ek.size:Int)≤t.asked+1;omega,by show (es'.size:Int)≤t.asked+1;omega⟩,.inl hS,hrise,hown,by show 0≤t.asked+1∧t.asked+1≤100;omega⟩
 exact ⟨es',clock',eo,co,hst,hB2,k3,D,_,_,D,give_same (by rw [hsz',hsz]),hf2.mono (fun q _ e=>by rw [e];unfold TrS;omega)⟩
end
noncomputable def mapF (l:List KV):List UInt8→Option (List UInt8):=l.foldl (fun f p=>updO f p.1 (some p.2)) (fun _=>none)
theorem mapF_step (l:List KV) {j:Nat} (hj:j < l.length):mapF (l.take (j+1))=updO (mapF (l.take j)) l[j].1 (some l[j].2):=by
 unfold mapF
 rw [List.take_succ_eq_append_getElem hj,List.foldl_append]
 rfl
theorem mapF_iff {l:List KV} (h:Rise Prod.fst l) (s v:List UInt8):mapF l s=some v ↔ (s,v) ∈ l:=by
 have key:∀ j,j≤l.length→(mapF (l.take j) s=some v ↔ (s,v) ∈ l.take j):=by
  intro j
  induction j with
  | zero=>intro _;simp [mapF]
  | succ j ih =>
   intro hj
   have hj':j < l.length:=by omega
   have ih:=ih (by omega)
   rw [mapF_step l hj',List.take_succ_eq_append_getElem hj',List.mem_append,List.mem_singleton]
   by_cases e:s=l[j].1
   ·rw [e,updO_same]
    constructor
    ·intro q
     injection q with q
     exact .inr (by rw [← q])
    ·rintro (q | q)
     ·exfalso
      obtain ⟨i,hi,e2⟩:=List.getElem_of_mem q
      have hi':i < j:=by simp at hi;omega
      have hr:=List.pairwise_iff_getElem.1 h i j (by omega) hj' hi'
      rw [List.getElem_take] at e2
      rw [e2] at hr
      simp only at hr
      rw [lessB_irrefl] at hr
      cases hr
     ·have:=congrArg Prod.snd q
      simp only at this
      rw [← this]
   ·rw [updO_other _ _ e,ih]
    constructor
    ·exact .inl
    ·rintro (q | q)
     ·exact q
     ·exact absurd (congrArg Prod.fst q) e
 have:=key l.length (Nat.le_refl _)
 rwa [List.take_length] at this
structure OvRel (f0:List UInt8→Option (List UInt8)) (own:List Chg) (lo hi:List UInt8) (left:List MapEntry) (f:List UInt8→Option (List UInt8)):Prop where
 done:∀ s c,inB lo hi s=true→findO own s=some c→(∀ x ∈ left,x.key≠txt s)→f s=if c.gone then none else some c.val
 same:∀ s,(inB lo hi s=false∨findO own s=none∨∃ x ∈ left,x.key=txt s)→f s=f0 s
section
variable {f0 f : List UInt8 → Option (List UInt8)} {own : List Chg} {lo hi : List UInt8} {left left' : List MapEntry}
theorem OvRel.start {w:World} {P:Program} {k:TypeId} {b:Nat} {es:Array MapEntry} {clock:Nat} (h:FMap w P k b es clock txt chgV (findO own)):OvRel f0 own lo hi es.toList f0:=by
 refine ⟨fun s c _ h2 h3=>?_,fun s _=>rfl⟩
 obtain ⟨x,hx,hk,_⟩:=h.has s c h2
 exact absurd hk (h3 x hx)
theorem OvRel.skip (h:OvRel f0 own lo hi left f) {e:MapEntry} {s:List UInt8} (hp:List.Perm left (e::left')) (hs:e.key=txt s) (hin:inB lo hi s=false):OvRel f0 own lo hi left' f:=by
 refine ⟨fun s' c h1 h2 h3=>h.done s' c h1 h2 (fun x hx=>?_),fun s' h1=>h.same s' ?_⟩
 ·rcases List.mem_cons.1 (hp.mem_iff.1 hx) with rfl | hx
  ·intro e2
   rw [hs] at e2
   have:=txt_inj e2
   subst this
   rw [hin] at h1
   cases h1
  ·exact h3 x hx
 ·rcases h1 with h1 | h1 | ⟨x,hx,hk⟩
  ·exact .inl h1
  ·exact .inr (.inl h1)
  ·exact .inr (.inr ⟨x,hp.mem_iff.2 (List.mem_cons_of_mem _ hx),hk⟩)
theorem OvRel.turn (h:OvRel f0 own lo hi left f) {e:MapEntry} {s:List UInt8} {c:Chg} (hp:List.Perm left (e::left')) (hs:e.key=txt s) (hin:inB lo hi s=true) (hc:findO own s=some c) (hl:∀ x ∈ left',x.key≠e.key) :
  OvRel f0 own lo hi left' (updO f s (if c.gone then none else some c.val)):=by
 refine ⟨fun s' c' h1 h2 h3=>?_,fun s' h1=>?_⟩
 ·by_cases e2:s'=s
  ·subst e2
   rw [updO_same]
   rw [hc] at h2
   injection h2 with h2
   rw [h2]
  ·rw [updO_other _ _ e2]
   refine h.done s' c' h1 h2 (fun x hx=>?_)
   rcases List.mem_cons.1 (hp.mem_iff.1 hx) with rfl | hx
   ·intro e3
    rw [hs] at e3
    exact e2 (txt_inj e3).symm
   ·exact h3 x hx
 ·have e2:s'≠s:=by
   rintro rfl
   rcases h1 with h1 | h1 | ⟨x,hx,hk⟩
   ·rw [hin] at h1;cases h1
   ·rw [hc] at h1;cases h1
   ·exact hl x hx (by rw [hk,hs])
  rw [updO_other _ _ e2]
  refine h.same s' ?_
  rcases h1 with h1 | h1 | ⟨x,hx,hk⟩
  ·exact .inl h1
  ·exact .inr (.inl h1)
  ·exact .inr (.inr ⟨x,hp.mem_iff.2 (List.mem_cons_of_mem _ hx),hk⟩)
theorem OvRel.over {F:List UInt8→List Ver} {n:Int} {L L':List KV} (h:OvRel (mapF L) own lo hi [] f) (hL:RangeIs F lo hi n L) (h1:Rise Prod.fst L') (h2:∀ s v,(s,v) ∈ L' ↔ f s=some v):OverIs F own lo hi n L':=by
 refine ⟨h1,fun s v=>?_⟩
 rw [h2]
 cases hin:inB lo hi s with
 | false =>
  rw [h.same s (.inl hin),mapF_iff hL.rise,hL.mem,hin]
  simp
 | true =>
  cases hf:findO own s with
  | none =>
   rw [h.same s (.inr (.inl hf)),mapF_iff hL.rise,hL.mem,hin]
   unfold Go.Proofs.YtkckcbhnnllkhaaGreatDoor.over
   rw [hf]
  | some c =>
   rw [h.done s c hin hf (fun x hx=>by cases hx)]
   unfold Go.Proofs.YtkckcbhnnllkhaaGreatDoor.over
   rw [hf]
   simp
end
end Go.Proofs.YtkckcbhnnllkhaaGreatDoor
