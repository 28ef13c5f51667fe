/- Parts of the proof; conditions: as each theorem says. -/
import Derived.Test.YtkckcbhnnllkhaaGreatDoorG16
import Derived.Test.YtkckcbhnnllkhaaGreatDoorG19
import Derived.Test.YtkckcbhnnllkhaaGreatDoorG20
import Derived.Deep.RegionHeld3
set_option linter.unusedVariables false
set_option linter.unusedSimpArgs false
set_option maxRecDepth 100000
set_option maxHeartbeats 40000000
namespace Go.Proofs.YtkckcbhnnllkhaaGreatDoor
open Go.RowKit
theorem intV_inj (a b:Int) (h:intV a=intV b):a=b:=by injection h
theorem txtV_inj (a b:List UInt8) (h:txt a=txt b):a=b:=txt_inj h
abbrev chgV (c:Chg):Value:=.agg #[txt c.key,txt c.val,.bool c.gone]
theorem spanV_inj (a b:List UInt8 × List UInt8) (h:spanV a=spanV b):a=b:=by
 obtain ⟨a1,a2⟩:=a
 obtain ⟨b1,b2⟩:=b
 simp only [spanV] at h
 injection h with h
 have h1:=congrArg (fun x:Array Value=>x[0]?) h
 have h2:=congrArg (fun x:Array Value=>x[1]?) h
 simp at h1 h2
 rw [h1,h2]
def keysF (l:List (List UInt8)) (s:List UInt8):Option Unit:=if s ∈ l then some () else none
def spansF (l:List (List UInt8 × List UInt8)) (p:List UInt8 × List UInt8):Option Unit:=if p ∈ l then some () else none
abbrev oneV:Unit→Value:=fun _=>.int .i64 1
abbrev ptrV (b:Nat):Value:=.pointer (some ⟨b,0,none⟩)
structure TrAt (w:World) (S:Nat→Prop) (bk:Nat) (t:Tr):Prop where
 ex:∃ kb sb ob ek ck es cs eo co,Blk w bk 106 #[.int .i64 t.sees,.int .i64 t.asked,.map (some kb),.map (some sb),.map (some ob)] ∧
  FMap w Tryz.prog 9 kb ek ck txt oneV (keysF t.keys)∧FMap w Tryz.prog 152 sb es cs spanV oneV (spansF t.spans)∧FMap w Tryz.prog 9 ob eo co txt chgV (findO t.own) ∧
  S kb∧S sb∧S ob∧kb≠sb∧kb≠ob∧sb≠ob∧(ek.size:Int)≤t.asked∧(es.size:Int)≤t.asked
 hS:S bk
 rise:RiseC t.own
 own:t.own.length≤20∧∀ c ∈ t.own,oneOk c=true
 asked:0≤t.asked∧t.asked≤100
structure Mem where
 lg:Nat
 tb:Nat
 ob:Nat
 ev:Value
 bk:Int→Nat
def TrS (id:Int):Nat:=6+id.toNat
structure DeskAt (w:World) (O:Nat→Nat) (d:Nat) (M:Mem) (g:Dk):Prop where
 hB:Blk w d 100 #[ptrV M.lg,ptrV M.tb,.int .i64 g.last,.int .i64 g.ids,.map (some M.ob),M.ev]
 hd:O d=3
 log:LogS w (fun q=>O q=1) M.lg g.lg
 tab:∃ n top,n≤20 * g.all.length∧top≤g.last∧TblAt w (fun q=>O q=2) M.tb g.F top n
 hob:O M.ob=4
 op:∃ eo co,FMap w Tryz.prog 3 M.ob eo co intV ptrV (fun id=>(findT g.op id).map (fun _=>M.bk id))
 hev:∀ q,M.ev.ownBlock=some q→O q=5
 ends:w.ownsRow 0 3 1 M.ev g.ends.length (g.ends.map (Value.int .i64))
 tr:∀ t ∈ g.op,TrAt w (fun q=>O q=TrS t.id) (M.bk t.id) t
 bound:∀ q,O q≠0→q < w.heap.size
def give (O:Nat→Nat) (c:Nat) (w w':World):Nat→Nat:=fun q=>if q < w.heap.size then O q else if q < w'.heap.size then c else 0
section
variable {w w' : World} {O : Nat → Nat} {c : Nat}
theorem give_bound (h:∀ q,O q≠0→q < w.heap.size) (hs:w.heap.size≤w'.heap.size):∀ q,give O c w w' q≠0→q < w'.heap.size:=by
 intro q hq
 unfold give at hq
 split at hq
 ·omega
 ·split at hq
  ·assumption
  ·exact absurd rfl hq
theorem give_other {c':Nat} (h:∀ q,O q≠0→q < w.heap.size) (hc:c'≠0):∀ q,O q=c'→give O c w w' q=c':=by
 intro q hq
 have:=h q (by omega)
 unfold give
 rw [if_pos this]
 exact hq
theorem give_own (h:∀ q,O q≠0→q < w.heap.size) (hc:c≠0):∀ q,plus (fun q=>O q=c) w q∧q < w'.heap.size→give O c w w' q=c:=by
 rintro q ⟨h1 | h1,h2⟩
 ·exact give_other h hc q h1
 ·unfold give
  rw [if_neg (by omega),if_pos h2]
theorem give_plus (h:∀ q,O q≠0→q < w.heap.size):∀ q,give O c w w' q≠0→plus (fun q=>O q≠0) w q:=by
 intro q hq
 unfold give at hq
 split at hq
 ·exact .inl hq
 ·exact .inr (by omega)
end
section
variable {w w' : World} {S : Nat → Prop} {bk : Nat} {t : Tr}
theorem blk_not_map {P:Program} {k tt:TypeId} {g b:Nat} {cs:Array Value} {es:Array MapEntry} {clock:Nat} (h:Blk w g tt cs) (m:MapAt w P k b es clock):g≠b:=by
 rintro rfl
 have:=m.hb
 unfold Blk at h
 rw [h] at this
 cases this
theorem TrAt.lt (h:TrAt w S bk t):bk < w.heap.size:=by
 obtain ⟨⟨kb,sb,ob,ek,ck,es,cs,eo,co,h1,_⟩,_⟩:=h
 exact h1.lt
theorem TrAt.mono {S':Nat→Prop} (h:TrAt w S bk t) (hs:∀ q,S q→S' q):TrAt w S' bk t:=by
 obtain ⟨⟨kb,sb,ob,ek,ck,es,cs,eo,co,h1,h2,h3,h4,h5,h6,h7,r⟩,hS,h8⟩:=h
 exact ⟨⟨kb,sb,ob,ek,ck,es,cs,eo,co,h1,h2,h3,h4,hs _ h5,hs _ h6,hs _ h7,r⟩,hs _ hS,h8,by assumption,by assumption⟩
theorem TrAt.far {T:Nat→Prop} (h:TrAt w S bk t) (f:Fr T w w') (hd:∀ q,S q→¬ T q):TrAt w' S bk t:=by
 obtain ⟨⟨kb,sb,ob,ek,ck,es,cs,eo,co,h1,h2,h3,h4,h5,h6,h7,r⟩,hS,h8⟩:=h
 exact ⟨⟨kb,sb,ob,ek,ck,es,cs,eo,co,h1.fr f (hd _ hS),h2.far f (hd _ h5),h3.far f (hd _ h6),h4.far f (hd _ h7),h5,h6,h7,r⟩,hS,h8,by assumption,by assumption⟩
theorem TrAt.tight (h:TrAt w S bk t):TrAt w (fun q=>S q∧q < w.heap.size) bk t:=by
 have hlt:=h.lt
 obtain ⟨⟨kb,sb,ob,ek,ck,es,cs,eo,co,h1,h2,h3,h4,h5,h6,h7,r⟩,hS,h8⟩:=h
 exact ⟨⟨kb,sb,ob,ek,ck,es,cs,eo,co,h1,h2,h3,h4,⟨h5,h2.map.lt⟩,⟨h6,h3.map.lt⟩,⟨h7,h4.map.lt⟩,r⟩,⟨hS,hlt⟩,h8,by assumption,by assumption⟩
end
section
variable {w w' : World} {O : Nat → Nat} {c d : Nat} {M : Mem} {g : Dk}
theorem DeskAt.log_stand (h:DeskAt w O d M g) (f:Fr (fun q=>O q=c) w w') (hc:c≠1):LogS w' (fun q=>give O c w w' q=1) M.lg g.lg :=
 (h.log.far f (fun q e e2=>hc (e2.symm.trans e))).mono (give_other h.bound (by decide))
theorem DeskAt.tab_stand (h:DeskAt w O d M g) (f:Fr (fun q=>O q=c) w w') (hc:c≠2):∃ n top,n≤20 * g.all.length∧top≤g.last∧TblAt w' (fun q=>give O c w w' q=2) M.tb g.F top n:=by
 obtain ⟨n,top,hn,ht,h1⟩:=h.tab
 exact ⟨n,top,hn,ht,(h1.far f (fun q e e2=>hc (e2.symm.trans e))).mono (give_other h.bound (by decide))⟩
theorem DeskAt.op_stand (h:DeskAt w O d M g) (f:Fr (fun q=>O q=c) w w') (hc:c≠4):∃ eo co,FMap w' Tryz.prog 3 M.ob eo co intV ptrV (fun id=>(findT g.op id).map (fun _=>M.bk id)):=by
 obtain ⟨eo,co,h1⟩:=h.op
 exact ⟨eo,co,h1.far f (fun e2=>hc (e2.symm.trans h.hob))⟩
theorem DeskAt.ends_stand (h:DeskAt w O d M g) (f:Fr (fun q=>O q=c) w w') (hc:c≠5):w'.ownsRow 0 3 1 M.ev g.ends.length (g.ends.map (Value.int .i64)) :=
 own_fr h.ends f (fun q e e2=>hc (e2.symm.trans (h.hev q e)))
theorem DeskAt.blk_stand (h:DeskAt w O d M g) (f:Fr (fun q=>O q=c) w w') (hc:c≠3):Blk w' d 100 #[ptrV M.lg,ptrV M.tb,.int .i64 g.last,.int .i64 g.ids,.map (some M.ob),M.ev] :=
 h.hB.fr f (fun e2=>hc (e2.symm.trans h.hd))
theorem DeskAt.tr_stand (h:DeskAt w O d M g) (f:Fr (fun q=>O q=c) w w') {t:Tr} (ht:t ∈ g.op) (hc:c≠TrS t.id):TrAt w' (fun q=>give O c w w' q=TrS t.id) (M.bk t.id) t :=
 ((h.tr t ht).far f (fun q e e2=>hc (e2.symm.trans e))).mono (give_other h.bound (by unfold TrS;omega))
theorem TrS_inj {a b:Int} (ha:1≤a) (hb:1≤b) (h:TrS a=TrS b):a=b:=by unfold TrS at h;omega
theorem setT_mem {l:List Tr} {u t:Tr} (h:t ∈ setT l u):t=u∨(t ∈ l∧t.id≠u.id):=by
 obtain ⟨x,hx,rfl⟩:=List.mem_map.1 h
 by_cases e:x.id=u.id
 ·rw [if_pos e];exact .inl rfl
 ·rw [if_neg e];exact .inr ⟨hx,e⟩
theorem DeskAt.turn_tr (h:DeskAt w O d M g) (hp:∀ t ∈ g.op,1≤t.id) {t t':Tr} (ht:findT g.op t'.id=some t) (f:Fr (fun q=>O q=TrS t'.id) w w') (hT:TrAt w' (plus (fun q=>O q=TrS t'.id) w) (M.bk t'.id) t') :
  DeskAt w' (give O (TrS t'.id) w w') d M { g with op:=setT g.op t' }:=by
 obtain ⟨hm,hid⟩:=findT_mem ht
 have h1:1≤t'.id:=by rw [← hid];exact hp t hm
 refine ⟨h.blk_stand f (by unfold TrS;omega),give_other h.bound (by decide) _ h.hd,h.log_stand f (by unfold TrS;omega),h.tab_stand f (by unfold TrS;omega),give_other h.bound (by decide) _ h.hob,?_,fun q e=>give_other h.bound (by decide) _ (h.hev q e),h.ends_stand f (by unfold TrS;omega),?_,give_bound h.bound f.size⟩
 ·obtain ⟨eo,co,h2⟩:=h.op_stand f (by unfold TrS;omega)
  refine ⟨eo,co,?_⟩
  have:(fun id=>(findT (setT g.op t') id).map (fun _=>M.bk id))=(fun id=>(findT g.op id).map (fun _=>M.bk id)):=by
   funext id
   by_cases e:id=t'.id
   ·rw [e,findT_set_same ht,ht];rfl
   ·rw [findT_set_other e]
  simp only [this]
  exact h2
 ·intro u hu
  rcases setT_mem hu with rfl | ⟨hu,hne⟩
  ·exact hT.tight.mono (give_own h.bound (by unfold TrS;omega))
  ·exact h.tr_stand f hu (fun e=>hne (TrS_inj (hp u hu) h1 e.symm))
theorem DeskAt.turn_log (h:DeskAt w O d M g) {lg':Lg} (f:Fr (fun q=>O q=1) w w') (hL:LogS w' (plus (fun q=>O q=1) w) M.lg lg') :
  DeskAt w' (give O 1 w w') d M { g with lg:=lg' } :=
 ⟨h.blk_stand f (by decide),give_other h.bound (by decide) _ h.hd,hL.tight.mono (give_own h.bound (by decide)),h.tab_stand f (by decide),give_other h.bound (by decide) _ h.hob,h.op_stand f (by decide),fun q e=>give_other h.bound (by decide) _ (h.hev q e),h.ends_stand f (by decide),
  fun t ht=>h.tr_stand f ht (by unfold TrS;omega),give_bound h.bound f.size⟩
theorem DeskAt.turn_tab (h:DeskAt w O d M g) {F':List UInt8→List Ver} (f:Fr (fun q=>O q=2) w w') {n:Nat} {top:Int} (hn:n≤20 * g.all.length) (ht:top≤g.last) (hT:TblAt w' (plus (fun q=>O q=2) w) M.tb F' top n) :
  DeskAt w' (give O 2 w w') d M { g with F:=F' } :=
 ⟨h.blk_stand f (by decide),give_other h.bound (by decide) _ h.hd,h.log_stand f (by decide),⟨n,top,hn,ht,hT.tight.mono (give_own h.bound (by decide))⟩,give_other h.bound (by decide) _ h.hob,h.op_stand f (by decide),fun q e=>give_other h.bound (by decide) _ (h.hev q e),h.ends_stand f (by decide),
  fun t ht=>h.tr_stand f ht (by unfold TrS;omega),give_bound h.bound f.size⟩
theorem DeskAt.turn_op (h:DeskAt w O d M g) {op':List Tr} (f:Fr (fun q=>O q=4) w w') (hs:∀ t ∈ op',t ∈ g.op) {eo:Array MapEntry} {co:Nat} (hM:FMap w' Tryz.prog 3 M.ob eo co intV ptrV (fun id=>(findT op' id).map (fun _=>M.bk id))) :
  DeskAt w' (give O 4 w w') d M { g with op:=op' } :=
 ⟨h.blk_stand f (by decide),give_other h.bound (by decide) _ h.hd,h.log_stand f (by decide),h.tab_stand f (by decide),give_other h.bound (by decide) _ h.hob,⟨eo,co,hM⟩,fun q e=>give_other h.bound (by decide) _ (h.hev q e),h.ends_stand f (by decide),
  fun t ht=>h.tr_stand f (hs t ht) (by unfold TrS;omega),give_bound h.bound f.size⟩
theorem DeskAt.turn_ids (h:DeskAt w O d M g) (f:Fr (fun q=>O q=3) w w') {i:Int} (hB:Blk w' d 100 #[ptrV M.lg,ptrV M.tb,.int .i64 g.last,.int .i64 i,.map (some M.ob),M.ev]) :
  DeskAt w' (give O 3 w w') d M { g with ids:=i } :=
 ⟨hB,give_other h.bound (by decide) _ h.hd,h.log_stand f (by decide),h.tab_stand f (by decide),give_other h.bound (by decide) _ h.hob,h.op_stand f (by decide),fun q e=>give_other h.bound (by decide) _ (h.hev q e),h.ends_stand f (by decide),
  fun t ht=>h.tr_stand f ht (by unfold TrS;omega),give_bound h.bound f.size⟩
theorem DeskAt.turn_ends (h:DeskAt w O d M g) (f:Fr (fun q=>O q=3∨O q=5) w w') {all':List (List Chg)} {ends':List Int} {ev':Value} (ha:g.all.length≤all'.length)
  (hB:Blk w' d 100 #[ptrV M.lg,ptrV M.tb,.int .i64 (all'.length:Int),.int .i64 g.ids,.map (some M.ob),ev']) (he:w'.ownsRow 0 3 1 ev' ends'.length (ends'.map (Value.int .i64)))
  (hv:∀ q,ev'.ownBlock=some q→O q=5∨w.heap.size≤q) :
  DeskAt w' (give O 5 w w') d { M with ev:=ev' } { g with all:=all',ends:=ends' }:=by
 refine ⟨hB,give_other h.bound (by decide) _ h.hd,(h.log.far f (fun q e e2=>by omega)).mono (give_other h.bound (by decide)),?_,give_other h.bound (by decide) _ h.hob,?_,?_,he,
  fun t ht=>((h.tr t ht).far f (fun q e e2=>by unfold TrS at e;omega)).mono (give_other h.bound (by unfold TrS;omega)),give_bound h.bound f.size⟩
 ·obtain ⟨n,top,hn,ht,h1⟩:=h.tab
  refine ⟨n,top,by show n≤20 * all'.length;omega,by unfold Dk.last at ht;show top≤(all'.length:Int);omega,(h1.far f (fun q e e2=>by omega)).mono (give_other h.bound (by decide))⟩
 ·obtain ⟨eo,co,h1⟩:=h.op
  exact ⟨eo,co,h1.far f (fun e2=>by have:=h.hob;omega)⟩
 ·intro q e
  have hlt:=(World.ownsRow.lt he q e).2
  refine give_own h.bound (by decide) q ⟨?_,hlt⟩
  exact hv q e
theorem DeskAt.given (h:DeskAt w O d M g) (f:Below w.heap.size w w') (c:Nat):DeskAt w' (give O c w w') d M g:=by
 have f:Fr (fun _=>False) w w':=Fr.of_below f
 refine ⟨h.hB.fr f (fun q=>q),give_other h.bound (by decide) _ h.hd,(h.log.far f (fun _ _ q=>q)).mono (give_other h.bound (by decide)),?_,give_other h.bound (by decide) _ h.hob,?_,fun q e=>give_other h.bound (by decide) _ (h.hev q e),own_fr h.ends f (fun _ _ q=>q),
  fun t ht=>((h.tr t ht).far f (fun _ _ q=>q)).mono (give_other h.bound (by unfold TrS;omega)),give_bound h.bound f.size⟩
 ·obtain ⟨n,top,hn,ht,h1⟩:=h.tab
  exact ⟨n,top,hn,ht,(h1.far f (fun _ _ q=>q)).mono (give_other h.bound (by decide))⟩
 ·obtain ⟨eo,co,h1⟩:=h.op
  exact ⟨eo,co,h1.far f (fun q=>q)⟩
theorem DeskAt.add (h:DeskAt w O d M g) {t:Tr} {b:Nat} (hid:∀ u ∈ g.op,u.id≠t.id) (hT:TrAt w (fun q=>O q=TrS t.id) b t) (f:Fr (fun q=>O q=4) w w') {eo:Array MapEntry} {co:Nat}
  (hM:FMap w' Tryz.prog 3 M.ob eo co intV ptrV (updO (fun id=>(findT g.op id).map (fun _=>M.bk id)) t.id (some b))) :
  DeskAt w' (give O 4 w w') d { M with bk:=fun id=>if id=t.id then b else M.bk id } { g with op:=g.op++[t] }:=by
 refine ⟨h.blk_stand f (by decide),give_other h.bound (by decide) _ h.hd,h.log_stand f (by decide),h.tab_stand f (by decide),give_other h.bound (by decide) _ h.hob,⟨eo,co,?_⟩,fun q e=>give_other h.bound (by decide) _ (h.hev q e),h.ends_stand f (by decide),?_,give_bound h.bound f.size⟩
 ·have:(fun id=>(findT (g.op++[t]) id).map (fun _=>if id=t.id then b else M.bk id))=updO (fun id=>(findT g.op id).map (fun _=>M.bk id)) t.id (some b):=by
   funext id
   have hn:findT g.op t.id=none:=findT_none.2 hid
   unfold findT at hn
   by_cases e:id=t.id
   ·subst e
    rw [updO_same]
    unfold findT
    rw [List.find?_append,hn]
    simp
   ·rw [updO_other _ _ e]
    unfold findT
    rw [List.find?_append]
    cases e2:g.op.find? (fun u=>u.id == id) with
    | some u=>simp [e]
    | none=>simp [show (t.id == id)=false by simpa using fun q=>e q.symm]
  simp only [this]
  exact hM
 ·intro u hu
  rcases List.mem_append.1 hu with hu | hu
  ·have:=h.tr_stand f hu (by unfold TrS;omega)
   simp only [if_neg (hid u hu)]
   exact this
  ·simp at hu
   subst hu
   simp only [if_true]
   exact (hT.far f (fun q e e2=>by rw [e] at e2;unfold TrS at e2;omega)).mono (give_other h.bound (by unfold TrS;omega))
theorem DeskAt.below (h:DeskAt w O d M g) (f:Below w.heap.size w w'):DeskAt w' O d M g:=by
 have f:Fr (fun _=>False) w w':=Fr.of_below f
 refine ⟨h.hB.fr f (fun q=>q),h.hd,h.log.far f (fun _ _ q=>q),?_,h.hob,?_,h.hev,own_fr h.ends f (fun _ _ q=>q),fun t ht=>(h.tr t ht).far f (fun _ _ q=>q),fun q hq=>Nat.lt_of_lt_of_le (h.bound q hq) f.size⟩
 ·obtain ⟨n,top,hn,ht,h1⟩:=h.tab
  exact ⟨n,top,hn,ht,h1.far f (fun _ _ q=>q)⟩
 ·obtain ⟨eo,co,h1⟩:=h.op
  exact ⟨eo,co,h1.far f (fun q=>q)⟩
theorem DeskAt.far {T:Nat→Prop} (h:DeskAt w O d M g) (f:Fr T w w') (hd:∀ q,O q≠0→¬ T q):DeskAt w' O d M g:=by
 refine ⟨h.hB.fr f (hd _ (by rw [h.hd];decide)),h.hd,h.log.far f (fun q e=>hd q (by rw [e];decide)),?_,h.hob,?_,h.hev,own_fr h.ends f (fun q e=>hd q (by rw [h.hev q e];decide)),fun t ht=>(h.tr t ht).far f (fun q e=>hd q (by rw [e];unfold TrS;omega)),fun q hq=>Nat.lt_of_lt_of_le (h.bound q hq) f.size⟩
 ·obtain ⟨n,top,hn,ht,h1⟩:=h.tab
  exact ⟨n,top,hn,ht,h1.far f (fun q e=>hd q (by rw [e];decide))⟩
 ·obtain ⟨eo,co,h1⟩:=h.op
  exact ⟨eo,co,h1.far f (hd _ (by rw [h.hob];decide))⟩
end
def DeskTo (w:World) (O:Nat→Nat) (d:Nat) (g':Dk) (w':World):Prop:=∃ O' M',DeskAt w' O' d M' g'∧(∀ q,O' q≠0→plus (fun q=>O q≠0) w q)∧Fr (fun q=>O q≠0) w w'
def DeskS (w:World) (S:Nat→Prop) (d:Nat) (g:Dk) (k:Nat):Prop:=(∃ O M,(∀ q,O q≠0→S q)∧DeskAt w O d M g)∧DkOk g k
section
variable {w w' : World} {O O' : Nat → Nat} {c d : Nat} {M M' : Mem} {g g' : Dk} {S : Nat → Prop}
theorem DeskTo.of (h:DeskAt w' (give O c w w') d M' g') (hb:∀ q,O q≠0→q < w.heap.size) (hc:c≠0) (f:Fr (fun q=>O q=c) w w'):DeskTo w O d g' w' :=
 ⟨_,M',h,give_plus hb,f.mono (fun q _ e=>by rw [e];exact hc)⟩
theorem DeskTo.same (h:DeskAt w O d M g):DeskTo w O d g w:=⟨O,M,h,fun q e=>.inl e,Fr.refl _ _⟩
theorem DeskTo.below (h:DeskAt w O d M g) (f:Below w.heap.size w w'):DeskTo w O d g w':=⟨O,M,h.below f,fun q e=>.inl e,Fr.of_below f⟩
theorem plus_ne {w w':World} (hs:w.heap.size≤w'.heap.size) (hO:∀ q,O' q≠0→plus (fun q=>O q≠0) w q) {q:Nat} (h:plus (fun q=>O' q≠0) w' q):plus (fun q=>O q≠0) w q:=by
 rcases h with h | h
 ·exact hO q h
 ·exact .inr (by omega)
theorem DeskTo.trans {wc:World} (hO:∀ q,O' q≠0→plus (fun q=>O q≠0) w q) (f:Fr (fun q=>O q≠0) w w') (h:DeskTo w' O' d g' wc):DeskTo w O d g' wc:=by
 obtain ⟨O2,M2,h1,h2,h3⟩:=h
 exact ⟨O2,M2,h1,fun q e=>plus_ne f.size hO (h2 q e),f.then (h3.mono (fun q _ e=>hO q e))⟩
theorem DeskTo.s (h:DeskTo w O d g' w') (hS:∀ q,O q≠0→S q) {k:Nat} (ok:DkOk g' k):Fr S w w'∧DeskS w' (plus S w) d g' k:=by
 obtain ⟨O2,M2,h1,h2,h3⟩:=h
 refine ⟨h3.mono (fun q _ e=>hS q e),⟨O2,M2,fun q e=>?_,h1⟩,ok⟩
 rcases h2 q e with h | h
 ·exact .inl (hS q h)
 ·exact .inr h
theorem DeskS.far {T:Nat→Prop} {k:Nat} (h:DeskS w S d g k) (f:Fr T w w') (hd:∀ q,S q→¬ T q):DeskS w' S d g k:=by
 obtain ⟨⟨O,M,h1,h2⟩,ok⟩:=h
 exact ⟨⟨O,M,h1,h2.far f (fun q e=>hd q (h1 q e))⟩,ok⟩
theorem DeskS.mono {S':Nat→Prop} {k:Nat} (h:DeskS w S d g k) (hs:∀ q,S q→S' q):DeskS w S' d g k:=by
 obtain ⟨⟨O,M,h1,h2⟩,ok⟩:=h
 exact ⟨⟨O,M,fun q e=>hs q (h1 q e),h2⟩,ok⟩
theorem DeskS.below {k:Nat} (h:DeskS w S d g k) (f:Below w.heap.size w w'):DeskS w' S d g k:=h.far (T:=fun _=>False) (Fr.of_below f) (fun _ _ q=>q)
end
open Go.ChangeMaps (setBlock)
section
variable {w w' : World} {O : Nat → Nat} {d : Nat} {M : Mem} {g : Dk} {id : Int}
theorem DeskAt.of_some (h:DeskAt w O d M g) (hid:(Lit.int .i64 id).wf=true) {t:Tr} (ht:findT g.op id=some t) :
  Calls Tryz.prog 35 #[ptrV d,intV id] w fun e w'=>e=.returned (.tuple #[ptrV (M.bk id),.nilIface])∧w'=w:=by
 obtain ⟨eo,co,hF⟩:=h.op
 obtain ⟨kl,hkl⟩:=int_key id hid
 have hx:=h.hB.cell 4
 simp at hx
 rcases hF.look intKey Tryz.underlying98 (zeroPtr w) id hkl true with ⟨h1,hrun⟩ | ⟨y,h1,hrun⟩
 ·simp [ht] at h1
 ·simp [ht] at h1
  subst h1
  simp only [if_true] at hrun
  clear hF h
  go_enter Tryz.func35,Tryz.ntmps35
  go_wp2
  go_ret2
  exact ⟨rfl,rfl⟩
theorem DeskAt.of_none (h:DeskAt w O d M g) (hid:(Lit.int .i64 id).wf=true) (ht:findT g.op id=none) :
  Calls Tryz.prog 35 #[ptrV d,intV id] w fun e w'=>e=.returned (.tuple #[.pointer none,.iface 71 (.int .i64 4)])∧w'=w:=by
 obtain ⟨eo,co,hF⟩:=h.op
 obtain ⟨kl,hkl⟩:=int_key id hid
 have hx:=h.hB.cell 4
 simp at hx
 rcases hF.look intKey Tryz.underlying98 (zeroPtr w) id hkl true with ⟨h1,hrun⟩ | ⟨y,h1,hrun⟩
 ·simp only [if_true] at hrun
  clear hF h
  go_enter Tryz.func35,Tryz.ntmps35
  go_wp2
  go_ret2
  exact ⟨rfl,rfl⟩
 ·simp [ht] at h1
theorem ask_full {bk:Nat} {s a b c:Value} (hB:Blk w bk 106 #[s,.int .i64 100,a,b,c]) :
  Calls Tryz.prog 107 #[ptrV bk] w fun e w'=>e=.returned (.iface 71 (.int .i64 3))∧w'=w:=by
 have x1:=hB.cell 1
 simp at x1
 go_enter Tryz.func107,Tryz.ntmps107
 go_wp2
 go_ret
 exact ⟨rfl,rfl⟩
theorem ask_ok {bk:Nat} {s a b c:Value} {n:Int} (hn:0≤n∧n < 100) (hB:Blk w bk 106 #[s,.int .i64 n,a,b,c]) :
  Calls Tryz.prog 107 #[ptrV bk] w fun e w'=>e=.returned .nilIface∧Blk w' bk 106 #[s,.int .i64 (n+1),a,b,c]∧Fr (fun q=>q=bk) w w'∧w'.heap.size=w.heap.size:=by
 have x1:=hB.cell 1
 have z1:=hB.frozen 1
 simp at x1
 obtain ⟨h1,h2⟩:=hn
 have e1:(n == 100)=false:=by simp;omega
 go_enter Tryz.func107,Tryz.ntmps107
 go_wp2
 go_ret
 exact ⟨rfl,hB.setCell 1 (.int .i64 (n+1)),Fr.setCell (S:=fun q=>q=bk) (Fr.refl _ _) (p:=⟨bk,1,none⟩) (fun _=>rfl) _,by simp [World.setCell]⟩
theorem findT_erase (l:List Tr) (id:Int) (bk:Int→Nat):(fun x=>(findT (eraseT l id) x).map (fun _=>bk x))=updO (fun x=>(findT l x).map (fun _=>bk x)) id none:=by
 funext x
 by_cases e:x=id
 ·rw [e,updO_same,findT_erase_same];rfl
 ·rw [updO_other _ _ e,findT_erase_other e]
end
section
variable {w w' : World} {O : Nat → Nat} {d : Nat} {M : Mem} {g : Dk} {id : Int} {k : Nat}
theorem open_count {eo:Array MapEntry} {co:Nat} (hF:FMap w Tryz.prog 3 M.ob eo co intV ptrV (fun id=>(findT g.op id).map (fun _=>M.bk id))) (hn:(g.op.map Tr.id).Nodup):eo.size=g.op.length:=by
 have:=hF.count intV_inj hn (fun s=>by
  constructor
  ·intro hs e
   obtain ⟨t,ht,e2⟩:=List.mem_map.1 hs
   simp at e
   rw [findT_none] at e
   exact e t ht e2
  ·intro hs
   cases e:findT g.op s with
   | none=>simp [e] at hs
   | some t=>exact List.mem_map.2 ⟨t,(findT_mem e).1,(findT_mem e).2⟩)
 simpa using this
theorem DeskAt.begin_full (h:DeskAt w O d M g) (ok:DkOk g k) (hn:g.op.length=8) :
  Calls Tryz.prog 21 #[ptrV d] w fun e w'=>e=.returned (.tuple #[.int .i64 0,.iface 71 (.int .i64 3)])∧w'=w:=by
 have hx:=h.hB.cell 4
 simp at hx
 obtain ⟨eo,co,hF⟩:=h.op
 have hc:=open_count hF ok.ids
 rw [hn] at hc
 have hrun:=hF.map.len Tryz.underlying98
 rw [hc] at hrun
 clear hF h
 go_enter Tryz.func21,Tryz.ntmps21
 go_wp2
 go_ret2
 exact ⟨rfl,rfl⟩
theorem DeskAt.begin_down (h:DeskAt w O d M g) (ok:DkOk g k) (hn:g.op.length≠8) (hd:g.lg.down=true) :
  Calls Tryz.prog 21 #[ptrV d] w fun e w'=>e=.returned (.tuple #[.int .i64 0,.iface 71 (.int .i64 8)])∧w'=w:=by
 have hx:=h.hB.cell 4
 have hx0:=h.hB.cell 0
 simp at hx hx0
 obtain ⟨eo,co,hF⟩:=h.op
 have hc:=open_count hF ok.ids
 have hrun:=hF.map.len Tryz.underlying98
 rw [hc] at hrun
 have hne:((g.op.length:Int) == 8)=false:=by simp;omega
 have HD:=Hd h.log.down_ok
 have HDn:=Hd hd
 clear hF h
 go_enter Tryz.func21,Tryz.ntmps21
 go_wp2_with fail
 refine HD.out.mono ?_
 rw [HDn.out]
 rintro e w1 ⟨rfl,rfl⟩
 go_wp2
 go_ret2
 exact ⟨rfl,rfl⟩
abbrev beginW (w2:World) (n:Int) (a b c:Nat):World:=((((w2.alloc (.map #[] 0)).alloc (.map #[] 0)).alloc (.map #[] 0)).alloc (.cells #[.int .i64 n,.int .i64 0,.map (some a),.map (some b),.map (some c)] 106)).drew
theorem beginW_block (w2:World) (n:Int) (a b c:Nat):(∀ q,w2.heap.size≤q→q < w2.heap.size+3→(beginW w2 n a b c).heap[q]?=some (.map #[] 0))∧Blk (beginW w2 n a b c) (w2.heap.size+1+1+1) 106 #[.int .i64 n,.int .i64 0,.map (some a),.map (some b),.map (some c)] ∧
  Below w2.heap.size w2 (beginW w2 n a b c)∧(beginW w2 n a b c).heap.size=w2.heap.size+4:=by
 have h1:∀ (W:World) (o:Obj),(W.alloc o).heap.size=W.heap.size+1:=fun W o=>by simp
 refine ⟨fun q h2 h3=>?_,?_,?_,by simp [beginW,World.drew]⟩
 ·show ((((w2.alloc (.map #[] 0)).alloc (.map #[] 0)).alloc (.map #[] 0)).alloc _).heap[q]?=_
  rw [Below.heap_alloc _ _ _ (by simp only [h1];omega)]
  rcases Nat.lt_or_ge q (w2.heap.size+2) with c1 | c1
  ·rw [Below.heap_alloc _ _ _ (by simp only [h1];omega)]
   rcases Nat.lt_or_ge q (w2.heap.size+1) with c2 | c2
   ·rw [Below.heap_alloc _ _ _ (by simp only [h1];omega)]
    have:q=w2.heap.size:=by omega
    subst this
    exact heap_alloc_new _ _
   ·have:q=(w2.alloc (.map #[] 0)).heap.size:=by rw [h1];omega
    subst this
    exact heap_alloc_new _ _
  ·have:q=((w2.alloc (.map #[] 0)).alloc (.map #[] 0)).heap.size:=by simp only [h1];omega
   subst this
   exact heap_alloc_new _ _
 ·have:=Blk.new (((w2.alloc (.map #[] 0)).alloc (.map #[] 0)).alloc (.map #[] 0)) 106 #[.int .i64 n,.int .i64 0,.map (some a),.map (some b),.map (some c)]
  simp only [h1] at this
  exact this
 ·have h2:Below w2.heap.size w2 ((((w2.alloc (.map #[] 0)).alloc (.map #[] 0)).alloc (.map #[] 0)).alloc (.cells #[.int .i64 n,.int .i64 0,.map (some a),.map (some b),.map (some c)] 106)) :=
   ((((Below.refl _ _).alloc (Nat.le_refl _) _).alloc (by simp only [h1];omega) _).alloc (by simp only [h1];omega) _).alloc (by simp only [h1];omega) _
  exact ⟨h2.os,h2.tape,h2.output,h2.size,h2.block⟩
theorem begin_end (h:DeskAt w O d M g) (ok:DkOk g k) (hk:k≤100000) (hn:g.op.length≠8) (w2:World) (hW:w2=w.setCell ⟨d,3,none⟩ (.int .i64 (g.ids+1))) (a b c:Nat)
  (ha:w2.heap.size≤a∧a < w2.heap.size+3) (hb:w2.heap.size≤b∧b < w2.heap.size+3) (hc:w2.heap.size≤c∧c < w2.heap.size+3) (hab:a≠b) (hac:a≠c) (hbc:b≠c) :
  ∃ es' clock',(Instr.mapUpdate 98 (.map (some M.ob)) (.int .i64 (g.ids+1)) (.pointer (some ⟨w2.heap.size+1+1+1,0,none⟩))).run Tryz.prog (beginW w2 g.last a b c)=.ok () (setBlock (beginW w2 g.last a b c) M.ob (.map es' clock')) ∧
   DeskTo w O d { g with ids:=g.ids+1,op:=g.op++[⟨g.ids+1,g.last,0,[],[],[]⟩] } (setBlock (beginW w2 g.last a b c) M.ob (.map es' clock')) ∧
   Blk (setBlock (beginW w2 g.last a b c) M.ob (.map es' clock')) d 100 #[ptrV M.lg,ptrV M.tb,.int .i64 g.last,.int .i64 (g.ids+1),.map (some M.ob),M.ev]:=by
 have hids:=ok.hids
 have f1:Fr (fun q=>O q=3) w w2:=by rw [hW];exact Fr.setCell (Fr.refl _ _) (p:=⟨d,3,none⟩) (fun _=>h.hd) _
 have hB:Blk w2 d 100 #[ptrV M.lg,ptrV M.tb,.int .i64 g.last,.int .i64 (g.ids+1),.map (some M.ob),M.ev]:=by rw [hW];exact h.hB.setCell 3 (.int .i64 (g.ids+1))
 have D1:=h.turn_ids f1 hB
 obtain ⟨q1,q2,q3,q4⟩:=beginW_block w2 g.last a b c
 have D2:=D1.given q3 (TrS (g.ids+1))
 obtain ⟨eo,co,hF⟩:=D2.op
 have hcount:=open_count hF ok.ids
 have hwf:(Lit.int .i64 (g.ids+1)).wf=true:=wf_i64 (by omega)
 obtain ⟨kl,hkl⟩:=int_key (g.ids+1) hwf
 obtain ⟨es',clock',hrun,h1,h2,h3,h4⟩:=hF.store intKey Tryz.underlying98 (by have h8:g.op.length≤8:=ok.many;have h9:eo.size=g.op.length:=hcount;unfold maxLen;omega) intV_inj (g.ids+1) (w2.heap.size+1+1+1) hkl
 refine ⟨es',clock',hrun,?_⟩
 have f2:Fr (fun q=>give (give O 3 w w2) (TrS (g.ids+1)) w2 (beginW w2 g.last a b c) q=4) (beginW w2 g.last a b c) (setBlock (beginW w2 g.last a b c) M.ob (.map es' clock')) :=
  (Fr.refl _ _).grown h2 (fun k e _=>by injection e with e;rw [← e];exact D2.hob)
 have hown:∀ q,w2.heap.size≤q→q < w2.heap.size+4→give (give O 3 w w2) (TrS (g.ids+1)) w2 (beginW w2 g.last a b c) q=TrS (g.ids+1):=fun q e1 e2=>by
  unfold give
  rw [if_neg (by omega),if_pos (by rw [q4];exact e2)]
 have hT:TrAt (beginW w2 g.last a b c) (fun q=>give (give O 3 w w2) (TrS (g.ids+1)) w2 (beginW w2 g.last a b c) q=TrS (g.ids+1)) (w2.heap.size+1+1+1) ⟨g.ids+1,g.last,0,[],[],[]⟩:=by
  have e1:keysF []=fun _=>none:=by funext s;simp [keysF]
  have e2:spansF []=fun _=>none:=by funext s;simp [spansF]
  have e3:findO []=fun _=>none:=by funext s;rfl
  refine ⟨⟨a,b,c,#[],0,#[],0,#[],0,q2,?_,?_,?_,hown a ha.1 (by omega),hown b hb.1 (by omega),hown c hc.1 (by omega),hab,hac,hbc,by simp,by simp⟩,hown _ (by omega) (by omega),List.Pairwise.nil,⟨by simp,by simp⟩,by simp⟩
  ·rw [e1];exact FMap.empty (q1 a ha.1 ha.2)
  ·rw [e2];exact FMap.empty (q1 b hb.1 hb.2)
  ·rw [e3];exact FMap.empty (q1 c hc.1 hc.2)
 have D3:=D2.add (t:=⟨g.ids+1,g.last,0,[],[],[]⟩) (fun u hu=>by have:=(ok.each u hu).2.1;show u.id≠g.ids+1;omega) hT f2 h1
 refine ⟨?_,D3.hB⟩
 refine DeskTo.trans (O':=give O 3 w w2) (give_plus h.bound) (f1.mono (fun q _ e=>by rw [e];decide)) ?_
 refine DeskTo.trans (O':=give (give O 3 w w2) (TrS (g.ids+1)) w2 (beginW w2 g.last a b c)) (give_plus D1.bound) (Fr.of_below q3) ?_
 exact DeskTo.of D3 D2.bound (by decide) f2
theorem DeskAt.begin_on (h:DeskAt w O d M g) (ok:DkOk g k) (hk:k≤100000) (hn:g.op.length≠8) (hd:g.lg.down=false) :
  Calls Tryz.prog 21 #[ptrV d] w fun e w'=>e=.returned (.tuple #[.int .i64 (g.ids+1),.nilIface])∧DeskTo w O d { g with ids:=g.ids+1,op:=g.op++[⟨g.ids+1,g.last,0,[],[],[]⟩] } w':=by
 have hx:=h.hB.cell 4
 have hx0:=h.hB.cell 0
 have hx2:=h.hB.cell 2
 have hx3:=h.hB.cell 3
 have hz3:=h.hB.frozen 3
 simp at hx hx0 hx2 hx3
 obtain ⟨eo,co,hF⟩:=h.op
 have hc:=open_count hF ok.ids
 have hrun:=hF.map.len Tryz.underlying98
 rw [hc] at hrun
 have hne:((g.op.length:Int) == 8)=false:=by simp;omega
 have hids:=ok.hids
 obtain ⟨hi1,hi2⟩:=hids
 have hi3:g.ids≤100000:=by omega
 have HD:=Hd h.log.down_ok
 have HDn:=Hd hd
 have HF:=Hd hF
 have H:=Hd h
 clear hF h hi2
 go_enter Tryz.func21,Tryz.ntmps21
 go_wp2_with fail
 refine HD.out.mono ?_
 rw [HDn.out]
 rintro e w1 ⟨rfl,rfl⟩
 go_wp2_with fail
 have hB2:Blk (w1.setCell ⟨d,3,none⟩ (.int .i64 (g.ids+1))) d 100 #[ptrV M.lg,ptrV M.tb,.int .i64 g.last,.int .i64 (g.ids+1),.map (some M.ob),M.ev]:=H.out.hB.setCell 3 (.int .i64 (g.ids+1))
 have hM2:MapAt (w1.setCell ⟨d,3,none⟩ (.int .i64 (g.ids+1))) Tryz.prog 3 M.ob eo co:=HF.out.map.keep (Below.heap_setCell _ _ _ _ (fun e=>blk_not_map H.out.hB HF.out.map e.symm))
 generalize hW2:w1.setCell ⟨d,3,none⟩ (.int .i64 (g.ids+1))=w2 at *
 have y2:=hB2.cell 2
 have y3:=hB2.cell 3
 have y4:=hB2.cell 4
 simp at y2 y3 y4
 clear hx hx0 hx2 hx3 hz3 hrun
 have hm1:=fun W=>run_makeMap (P:=Tryz.prog) 67 W
 have hm2:=fun W=>run_makeMap (P:=Tryz.prog) 103 W
 have hm3:=fun W=>run_makeMap (P:=Tryz.prog) 104 W
 have HE:=begin_end H.out ok hk hn w2 hW2.symm
 have n0:w2.heap.size≤w2.heap.size∧w2.heap.size < w2.heap.size+3:=by omega
 have n1:w2.heap.size≤w2.heap.size+1∧w2.heap.size+1 < w2.heap.size+3:=by omega
 have n2:w2.heap.size≤w2.heap.size+1+1∧w2.heap.size+1+1 < w2.heap.size+3:=by omega
 have n3:w2.heap.size≠w2.heap.size+1:=by omega
 have n4:w2.heap.size≠w2.heap.size+1+1:=by omega
 have n5:w2.heap.size+1≠w2.heap.size+1+1:=by omega
 obtain ⟨e1,c1,r1,D1,B1⟩:=HE _ _ _ n0 n1 n2 n3 n4 n5
 obtain ⟨e2,c2,r2,D2,B2⟩:=HE _ _ _ n0 n2 n1 n4 n3 n5.symm
 obtain ⟨e3,c3,r3,D3,B3⟩:=HE _ _ _ n1 n0 n2 n3.symm n5 n4
 obtain ⟨e4,c4,r4,D4,B4⟩:=HE _ _ _ n1 n2 n0 n5 n3.symm n4.symm
 obtain ⟨e5,c5,r5,D5,B5⟩:=HE _ _ _ n2 n0 n1 n4.symm n5.symm n3
 obtain ⟨e6,c6,r6,D6,B6⟩:=HE _ _ _ n2 n1 n0 n5.symm n4.symm n3.symm
 have G1:=Hd D1
 have G2:=Hd D2
 have G3:=Hd D3
 have G4:=Hd D4
 have G5:=Hd D5
 have G6:=Hd D6
 clear HE n0 n1 n2 n3 n4 n5 D1 D2 D3 D4 D5 D6
 have hkk:∀ W,Blk W d 100 #[ptrV M.lg,ptrV M.tb,.int .i64 g.last,.int .i64 (g.ids+1),.map (some M.ob),M.ev]→W.cell? ⟨d,2,none⟩=some (.int .i64 g.last)∧W.cell? ⟨d,3,none⟩=some (.int .i64 (g.ids+1))∧W.cell? ⟨d,4,none⟩=some (.map (some M.ob)):=fun W hW=>⟨hW.cell 2,hW.cell 3,hW.cell 4⟩
 go_region_held3 (fun w'=>w'.cell? ⟨d,2,none⟩=some (.int .i64 g.last)∧w'.cell? ⟨d,3,none⟩=some (.int .i64 (g.ids+1))∧w'.cell? ⟨d,4,none⟩=some (.map (some M.ob)))
  (first
   | exact hkk _ hB2
   | exact hkk _ (hB2.alloc _)
   | exact hkk _ ((hB2.alloc _).alloc _)
   | exact hkk _ (((hB2.alloc _).alloc _).alloc _)
   | exact hkk _ ((((hB2.alloc _).alloc _).alloc _).alloc _)
   | exact hkk _ B1
   | exact hkk _ B2
   | exact hkk _ B3
   | exact hkk _ B4
   | exact hkk _ B5
   | exact hkk _ B6) (fail)
 all_goals go_wp2
 all_goals go_ret2
 all_goals first
  | exact ⟨rfl,G1.out⟩
  | exact ⟨rfl,G2.out⟩
  | exact ⟨rfl,G3.out⟩
  | exact ⟨rfl,G4.out⟩
  | exact ⟨rfl,G5.out⟩
  | exact ⟨rfl,G6.out⟩
end
section
variable {w w' : World} {O : Nat → Nat} {d : Nat} {M : Mem} {g : Dk} {id : Int}
theorem DeskAt.abort_to (h:DeskAt w O d M g) (hid:(Lit.int .i64 id).wf=true) :
  Calls Tryz.prog 22 #[ptrV d,intV id] w fun e w'=>e=.returned (faultV (g.abort id).1)∧DeskTo w O d (g.abort id).2 w':=by
 have hx:=h.hB.cell 4
 simp at hx
 obtain ⟨kl,hkl⟩:=int_key id hid
 cases ht:findT g.op id with
 | none =>
  have HO:=Hd (h.of_none hid ht)
  have H:=Hd h
  have HE:=Hd (show g.abort id=(4,g) by unfold Dk.abort;rw [ht])
  clear h
  go_enter Tryz.func22,Tryz.ntmps22
  go_wp2_with fail
  refine HO.out.mono ?_
  rintro e w1 ⟨rfl,rfl⟩
  go_wp2
  go_ret
  rw [HE.out]
  exact ⟨rfl,DeskTo.same H.out⟩
 | some t =>
  have HO:=Hd (h.of_some hid ht)
  obtain ⟨eo,co,hF⟩:=h.op
  obtain ⟨es',hrun,h1,h2,h3⟩:=hF.drop (ty:=0) intKey Tryz.underlying98 intV_inj id hkl
  have H:=Hd h
  have HE:=Hd (show g.abort id=(0,{ g with op:=eraseT g.op id }) by unfold Dk.abort;rw [ht])
  have HM:=Hd h1
  have HG:=Hd h2
  clear h hF h1 h2
  go_enter Tryz.func22,Tryz.ntmps22
  go_wp2_with fail
  refine HO.out.mono ?_
  rintro e w1 ⟨rfl,rfl⟩
  go_wp2
  go_ret
  rw [HE.out]
  have f:Fr (fun q=>O q=4) w1 _:=(Fr.refl _ _).grown HG.out (fun k e _=>by injection e with e;rw [← e];exact H.out.hob)
  refine ⟨rfl,DeskTo.of (H.out.turn_op f (fun t ht=>(List.mem_filter.1 ht).1) (by rw [findT_erase];exact HM.out)) H.out.bound (by decide) f⟩
end
end Go.Proofs.YtkckcbhnnllkhaaGreatDoor
