/- Parts of the proof; conditions: as each theorem says. -/
import Derived.Test.YtkckcbhnnllkhaaGreatDoorG23
import Derived.Test.YtkckcbhnnllkhaaGreatDoorG24
import Derived.Test.YtkckcbhnnllkhaaGreatDoorG21
import Derived.Test.YtkckcbhnnllkhaaGreatDoorG26
import Derived.Test.YtkckcbhnnllkhaaGreatDoorG31
import Derived.Test.YtkckcbhnnllkhaaGreatDoorG37
set_option linter.unusedVariables false
set_option linter.unusedSimpArgs false
namespace Go.Proofs.YtkckcbhnnllkhaaGreatDoor
open Go.RowKit
structure GV (B:Nat) (w:World):Prop where
 txt:TxtV B w
 key:KeyV B w
theorem GV.on {B:Nat} {w w':World} (h:GV B w) (hb:Below B w w'):GV B w':=⟨h.txt.on hb,h.key.on hb⟩
structure DK (B:Nat) (w:World) (T:Nat→Prop) (d:Nat) (g:Dk) (k:Nat):Prop where
 s:DeskS w T d g k
 lt:∀ q,T q→q < w.heap.size
 lo:∀ q,T q→B≤q
 le:B≤w.heap.size
 gv:GV B w
structure DKto (B:Nat) (w:World) (T:Nat→Prop) (d:Nat) (w':World) (T':Nat→Prop) (g':Dk) (k':Nat):Prop where
 dk:DK B w' T' d g' k'
 fr:Fr T w w'
 new:∀ q,T' q→T q∨w.heap.size≤q
 le:B≤w.heap.size
section
variable {B : Nat} {w w' w1 w2 : World} {T T1 T2 : Nat → Prop} {d : Nat} {g g1 g2 : Dk} {k k1 k2 : Nat}
theorem DK.refl (h:DK B w T d g k):DKto B w T d w T g k:=⟨h,Fr.refl _ _,fun _ q=>.inl q,h.le⟩
theorem DK.bel (h:DK B w T d g k) (hb:Below w.heap.size w w'):DK B w' T d g k :=
 ⟨h.s.below hb,fun q e=>Nat.lt_of_lt_of_le (h.lt q e) hb.size,h.lo,Nat.le_trans h.le hb.size,h.gv.on (hb.mono h.le)⟩
theorem DK.more (h:DK B w T d g k) (hk:k≤k1):DK B w T d g k1:=⟨h.s.more hk,h.lt,h.lo,h.le,h.gv⟩
theorem DKto.more (h:DKto B w T d w1 T1 g1 k1) (hk:k1≤k2):DKto B w T d w1 T1 g1 k2:=⟨h.dk.more hk,h.fr,h.new,h.le⟩
theorem DKto.bel (h:DKto B w T d w1 T1 g1 k1) (hb:Below w1.heap.size w1 w2):DKto B w T d w2 T1 g1 k1:=⟨h.dk.bel hb,h.fr.bel hb,h.new,h.le⟩
theorem DKto.alloc (h:DKto B w T d w1 T1 g1 k1) (o:Obj):DKto B w T d (w1.alloc o) T1 g1 k1:=h.bel ((Below.refl _ _).alloc (Nat.le_refl _) o)
theorem DKto.step (h:DKto B w T d w1 T1 g1 k1) (h2:DKto B w1 T1 d w2 T2 g2 k2):DKto B w T d w2 T2 g2 k2 :=
 ⟨h2.dk,h.fr.trans h2.fr (fun q hq e=>(h.new q e).resolve_right (by omega)),fun q e=>(h2.new q e).elim (h.new q) (fun e=>.inr (Nat.le_trans h.fr.size e)),h.le⟩
theorem DKto.set (h:DKto B w T d w1 T1 g1 k1) {p:Addr} (hp:w.heap.size≤p.block) (hn:¬ T1 p.block) (u:Value):DKto B w T d (w1.setCell p u) T1 g1 k1:=by
 have hf:Fr (fun q=>p.block=q) w1 (w1.setCell p u):=(Fr.refl (fun q=>p.block=q) w1).setCell (fun _=>rfl) u
 have hle:=h.le
 exact ⟨⟨h.dk.s.far hf (fun q e1 e2=>hn (by rw [e2];exact e1)),fun q e=>Nat.lt_of_lt_of_le (h.dk.lt q e) hf.size,h.dk.lo,Nat.le_trans h.dk.le hf.size,h.dk.gv.on (hf.below h.dk.le (fun q e=>by subst e;omega))⟩,h.fr.setCell (fun q=>by omega) u,h.new,h.le⟩
theorem DKto.size (h:DKto B w T d w1 T1 g1 k1):w.heap.size≤w1.heap.size:=h.fr.size
theorem DKto.outs (h:DKto B w T d w1 T1 g1 k1) {b:Nat} (hb:b < w.heap.size) (hn:¬ T b):¬ T1 b:=fun q=>(h.new b q).elim hn (by omega)
theorem DK.to (h:DK B w T d g k) (f:Fr (plus T w) w w1) (h':DeskS w1 (plus T w) d g1 k1):∃ T1,DKto B w T d w1 T1 g1 k1:=by
 refine ⟨fun q=>plus T w q∧q < w1.heap.size,⟨h'.tight,fun q e=>e.2,fun q e=>e.1.elim (h.lo q) (fun e=>Nat.le_trans h.le e),Nat.le_trans h.le f.size,h.gv.on (f.below h.le (fun q e=>e.elim (h.lo q) (fun e=>Nat.le_trans h.le e)))⟩,f.mono (fun q hq e=>e.resolve_right (by omega)),fun q e=>e.1,h.le⟩
theorem DK.plus (h:DK B w T d g k):DeskS w (plus T w) d g k:=h.s.mono (fun q e=>.inl e)
variable {id : Int}
theorem DK.get (h:DK B w T d g k) (hk:k≤40000) (hid:(Lit.int .i64 id).wf=true) (s:List UInt8) (hs:s.length≤maxLen) :
  Calls Tryz.prog 66 #[ptrV d,intV id,txt s] w fun e w'=>e=.returned (.tuple #[txt (g.get id s).1,faultV (g.get id s).2.1])∧∃ T',DKto B w T d w' T' (g.get id s).2.2 k :=
 (h.plus.get_s (fun q e=>.inr e) hk hid s hs).mono fun e w' q=>⟨q.1,h.to q.2.1 q.2.2⟩
theorem DK.put (h:DK B w T d g k) (hid:(Lit.int .i64 id).wf=true) (s v:List UInt8) (hs:s.length≤maxLen) (hv:v.length≤maxLen) :
  Calls Tryz.prog 45 #[ptrV d,intV id,txt s,txt v] w fun e w'=>e=.returned (faultV (g.change id ⟨s,v,false⟩).1)∧∃ T',DKto B w T d w' T' (g.change id ⟨s,v,false⟩).2 k :=
 (h.plus.put_s (fun q e=>.inr e) hid s v hs hv).mono fun e w' q=>⟨q.1,h.to q.2.1 q.2.2⟩
theorem DK.drop (h:DK B w T d g k) (hid:(Lit.int .i64 id).wf=true) (s:List UInt8) (hs:s.length≤maxLen) :
  Calls Tryz.prog 74 #[ptrV d,intV id,txt s] w fun e w'=>e=.returned (faultV (g.change id ⟨s,[],true⟩).1)∧∃ T',DKto B w T d w' T' (g.change id ⟨s,[],true⟩).2 k :=
 (h.plus.drop_s (fun q e=>.inr e) hid s hs).mono fun e w' q=>⟨q.1,h.to q.2.1 q.2.2⟩
theorem DK.begin (h:DK B w T d g k) (hk:k≤40000) :
  Calls Tryz.prog 21 #[ptrV d] w fun e w'=>e=.returned (.tuple #[.int .i64 g.begin.1,faultV g.begin.2.1])∧∃ T',DKto B w T d w' T' g.begin.2.2 (k+1) :=
 (h.plus.begin_s (fun q e=>.inr e) hk).mono fun e w' q=>⟨q.1,h.to q.2.1 q.2.2⟩
theorem DK.commit (h:DK B w T d g k) (hk:k≤40000) (hid:(Lit.int .i64 id).wf=true) :
  Calls Tryz.prog 23 #[ptrV d,intV id] w fun e w'=>e=.returned (.tuple #[.int .i64 (g.commit id).1,faultV (g.commit id).2.1])∧∃ T',DKto B w T d w' T' (g.commit id).2.2 (k+1) :=
 (h.plus.commit_s (fun q e=>.inr e) hk hid).mono fun e w' q=>⟨q.1,h.to q.2.1 q.2.2⟩
theorem DK.keys_len (h:DK B w T d g k) {lo hi:List UInt8} {L:List KV} (hL:RangeO g id lo hi L):∀ x ∈ L,x.1.length≤24:=by
 intro x hx
 obtain ⟨m,_,top,_,hgd⟩:=h.s.good
 unfold RangeO at hL
 cases ht:findT g.op id with
 | none=>rw [ht] at hL;simp only at hL;subst hL;cases hx
 | some t =>
  rw [ht] at hL
  simp only at hL
  by_cases q:t.asked=100
  ·rw [if_pos q] at hL;subst hL;cases hx
  ·rw [if_neg q] at hL
   obtain ⟨s,v⟩:=x
   have hv:=((hL.mem s v).1 hx).2
   unfold over at hv
   cases hf:findO t.own s with
   | none=>rw [hf] at hv;exact (tell_some hgd hv).1
   | some c =>
    obtain ⟨_,_,h3,_⟩:=h.s.trs t (findT_mem ht).1
    have hm:c ∈ t.own∧c.key=s:=by
     unfold findO at hf
     exact ⟨List.mem_of_find?_eq_some hf,by simpa using List.find?_some hf⟩
    have:=h3 c hm.1
    unfold oneOk at this
    simp at this
    have h5:=this.1.1.2
    rw [hm.2] at h5
    exact h5
theorem DK.range (h:DK B w T d g k) (hk:k≤40000) (hid:(Lit.int .i64 id).wf=true) (lo hi:List UInt8) (hlo:lo.length≤maxLen) (hhi:hi.length≤maxLen) :
  Calls Tryz.prog 136 #[ptrV d,intV id,txt lo,txt hi] w fun e w'=>∃ v,e=.returned (.tuple #[v,faultV (g.range id lo hi).1])∧OwnKV w' w.heap.size v (g.rangeL id lo hi)∧((g.rangeL id lo hi).length≤1000000∧∀ x ∈ g.rangeL id lo hi,x.1.length≤24)∧DKto B w T d w' T (g.range id lo hi).2 k :=
 (h.s.range_s hk hid lo hi hlo hhi).mono fun e w' q=>by
  obtain ⟨v,L,q1,q2,q3,q4,q5,q6⟩:=q
  have e:=Dk.rangeL_eq q3
  exact ⟨v,q1,by rw [e];exact q2,by rw [e];exact ⟨q4,h.keys_len q3⟩,⟨q6.mono (fun q e=>e.1),fun q e=>Nat.lt_of_lt_of_le (h.lt q e) q5.size,h.lo,Nat.le_trans h.le q5.size,h.gv.on (q5.below h.le h.lo)⟩,q5,fun q e=>.inl e,h.le⟩
structure Loc (w:World) (T:Nat→Prop) (b:Nat) (t:TypeId) (cs:Array Value):Prop where
 blk:Blk w b t cs
 out:¬ T b
variable {b : Nat} {t : TypeId} {cs : Array Value}
theorem Loc.step (h:Loc w1 T1 b t cs) (h2:DKto B w1 T1 d w2 T2 g2 k2):Loc w2 T2 b t cs:=⟨h.blk.fr h2.fr h.out,h2.outs h.blk.lt h.out⟩
theorem Loc.bel (h:Loc w1 T1 b t cs) (hb:Below w1.heap.size w1 w2):Loc w2 T1 b t cs:=⟨h.blk.below hb h.blk.lt,h.out⟩
theorem Loc.alloc (h:Loc w1 T1 b t cs) (o:Obj):Loc (w1.alloc o) T1 b t cs:=h.bel ((Below.refl _ _).alloc (Nat.le_refl _) o)
theorem Loc.new (h:DK B w1 T1 d g1 k1) (t:TypeId) (cs:Array Value):Loc (w1.alloc (.cells cs t)) T1 w1.heap.size t cs:=⟨Blk.new _ _ _,fun q=>by have:=h.lt _ q;omega⟩
theorem Loc.set (h:Loc w1 T1 b t cs) (i:Nat) (u:Value):Loc (w1.setCell ⟨b,i,none⟩ u) T1 b t (cs.setIfInBounds i u):=⟨h.blk.setCell i u,h.out⟩
theorem row_out {base size n:Nat} {e:TypeId} {v:Value} {xs:List Value} (h:w1.ownsRow base e size v n xs) (hl:∀ q,T1 q→q < base):∀ q,v.ownBlock=some q→¬ T1 q:=fun q e1 e2=>by have:=(World.ownsRow.lt h q e1).1;have:=hl q e2;omega
end
open Go.ChangeMaps (setBlock)
structure HlOk (h:Hl) (k:Nat):Prop where
 nod:(h.op.map Prod.fst).Nodup
 ids:∀ p ∈ h.op,(Lit.int .i64 p.2).wf=true
 len:h.op.length≤k
structure HK (B:Nat) (w:World) (T:Nat→Prop) (a:Nat) (h:Hl) (k:Nat):Prop where
 ex:∃ d m To es clock,DK B w To d h.d k∧Blk w a 69 #[ptrV d,.map (some m)]∧FMap w Tryz.prog 9 m es clock txt intV (findH h.op)∧¬ To a∧¬ To m∧T a∧T m∧(∀ q,To q→T q)∧a≠m
 ok:HlOk h k
 lt:∀ q,T q→q < w.heap.size
 lo:∀ q,T q→B≤q
structure HKto (B:Nat) (w:World) (T:Nat→Prop) (a:Nat) (w':World) (T':Nat→Prop) (h':Hl) (k':Nat):Prop where
 hk:HK B w' T' a h' k'
 fr:Fr T w w'
 new:∀ q,T' q→T q∨w.heap.size≤q
 le:B≤w.heap.size
theorem findH_mem {l:List (List UInt8 × Int)} {who:List UInt8} {id:Int} (h:findH l who=some id):(who,id) ∈ l:=by
 unfold findH at h
 obtain ⟨p,h1,h2⟩:=Option.map_eq_some_iff.1 h
 have h3:=List.mem_of_find?_eq_some h1
 have h4:p.1=who:=by simpa using List.find?_some h1
 rw [← h4,← h2]
 exact h3
theorem findH_none {l:List (List UInt8 × Int)} {who:List UInt8}:findH l who=none ↔ who ∉ l.map Prod.fst:=by
 unfold findH
 rw [Option.map_eq_none_iff,List.find?_eq_none]
 simp only [beq_iff_eq,List.mem_map,not_exists,not_and]
theorem findH_add {l:List (List UInt8 × Int)} {who:List UInt8} {id:Int} (h:findH l who=none):findH (l++[(who,id)])=updO (findH l) who (some id):=by
 funext s
 by_cases e:s=who
 ·subst e
  rw [updO_same]
  unfold findH at h ⊢
  rw [Option.map_eq_none_iff] at h
  rw [List.find?_append,h]
  simp
 ·rw [updO_other _ _ e]
  unfold findH
  rw [List.find?_append]
  cases l.find? (fun p=>p.1 == s) with
  | some p=>rfl
  | none =>
   have:(who == s)=false:=by simpa using fun q=>e q.symm
   simp [this]
theorem findH_erase (l:List (List UInt8 × Int)) (who:List UInt8):findH (eraseH l who)=updO (findH l) who none:=by
 funext s
 unfold eraseH
 by_cases e:s=who
 ·subst e
  rw [updO_same]
  rw [findH_none]
  intro q
  obtain ⟨p,hp,e⟩:=List.mem_map.1 q
  have:=(List.mem_filter.1 hp).2
  simp at this
  exact this e
 ·rw [updO_other _ _ e]
  unfold findH
  rw [List.find?_filter]
  congr 2
  funext p
  by_cases e2:p.1=s
  ·simp [e2,e]
  ·simp [e2]
section
variable {B : Nat} {w w' w1 w2 : World} {T T1 T2 : Nat → Prop} {a : Nat} {h h1 h2 : Hl} {k k1 k2 : Nat}
theorem HlOk.more (o:HlOk h k) (hk:k≤k1):HlOk h k1:=⟨o.nod,o.ids,Nat.le_trans o.len hk⟩
theorem HK.le (o:HK B w T a h k):B≤w.heap.size:=by
 obtain ⟨d,m,To,es,clock,h1,_⟩:=o.ex
 exact h1.le
theorem HK.gv (o:HK B w T a h k):GV B w:=by
 obtain ⟨d,m,To,es,clock,h1,_⟩:=o.ex
 exact h1.gv
theorem HK.more (o:HK B w T a h k) (hk:k≤k1):HK B w T a h k1:=by
 obtain ⟨d,m,To,es,clock,h1,h2⟩:=o.ex
 exact ⟨⟨d,m,To,es,clock,h1.more hk,h2⟩,o.ok.more hk,o.lt,o.lo⟩
theorem HK.bel (o:HK B w T a h k) (hb:Below w.heap.size w w'):HK B w' T a h k:=by
 obtain ⟨d,m,To,es,clock,h1,h2,h3,r⟩:=o.ex
 exact ⟨⟨d,m,To,es,clock,h1.bel hb,h2.below hb h2.lt,h3.below hb h3.map.lt,r⟩,o.ok,fun q e=>Nat.lt_of_lt_of_le (o.lt q e) hb.size,o.lo⟩
theorem HK.refl (o:HK B w T a h k):HKto B w T a w T h k:=⟨o,Fr.refl _ _,fun _ q=>.inl q,o.le⟩
theorem HKto.more (o:HKto B w T a w1 T1 h1 k1) (hk:k1≤k2):HKto B w T a w1 T1 h1 k2:=⟨o.hk.more hk,o.fr,o.new,o.le⟩
theorem HKto.bel (o:HKto B w T a w1 T1 h1 k1) (hb:Below w1.heap.size w1 w2):HKto B w T a w2 T1 h1 k1:=⟨o.hk.bel hb,o.fr.bel hb,o.new,o.le⟩
theorem HKto.step (o:HKto B w T a w1 T1 h1 k1) (o2:HKto B w1 T1 a w2 T2 h2 k2):HKto B w T a w2 T2 h2 k2 :=
 ⟨o2.hk,o.fr.trans o2.fr (fun q hq e=>(o.new q e).resolve_right (by omega)),fun q e=>(o2.new q e).elim (o.new q) (fun e=>.inr (Nat.le_trans o.fr.size e)),o.le⟩
theorem HKto.size (o:HKto B w T a w1 T1 h1 k1):w.heap.size≤w1.heap.size:=o.fr.size
theorem HKto.belB (o:HKto B w T a w1 T1 h1 k1) (hlo:∀ q,T q→B≤q):Below B w w1:=o.fr.below o.le hlo
theorem HK.deskX {d m:Nat} {To To1:Nat→Prop} {es:Array MapEntry} {clock:Nat} {g1:Dk} (o:HK B w T a h k)
  (q2:Blk w a 69 #[ptrV d,.map (some m)]) (q3:FMap w Tryz.prog 9 m es clock txt intV (findH h.op)) (q:¬ To a∧¬ To m∧T a∧T m∧(∀ q,To q→T q)∧a≠m) (hk:k≤k1)
  (s:DKto B w To d w1 To1 g1 k1):HKto B w T a w1 (fun q=>T q∨To1 q) ⟨g1,h.op⟩ k1:=by
 obtain ⟨q4,q5,q6,q7,q8,q9⟩:=q
 have hs:=s.size
 have ha:=q2.lt
 have hm:=q3.map.lt
 exact ⟨⟨⟨d,m,To1,es,clock,s.dk,q2.fr s.fr q4,q3.far s.fr q5,s.outs ha q4,s.outs hm q5,.inl q6,.inl q7,fun q e=>.inr e,q9⟩,⟨o.ok.nod,o.ok.ids,Nat.le_trans o.ok.len hk⟩,fun q e=>e.elim (fun e=>Nat.lt_of_lt_of_le (o.lt q e) hs) (s.dk.lt q),fun q e=>e.elim (o.lo q) (s.dk.lo q)⟩,s.fr.mono (fun q _ e=>q8 q e),fun q e=>e.elim .inl (fun e=>(s.new q e).imp (q8 q) id),o.le⟩
theorem HK.desk {d m:Nat} {To To1:Nat→Prop} {es:Array MapEntry} {clock:Nat} {g1:Dk} (o:HK B w T a h k)
  (q2:Blk w a 69 #[ptrV d,.map (some m)]) (q3:FMap w Tryz.prog 9 m es clock txt intV (findH h.op)) (q4:¬ To a) (q5:¬ To m) (q6:T a) (q7:T m) (q8:∀ q,To q→T q) (q9:a≠m)
  (s:DKto B w To d w1 To1 g1 k1) (hk:k≤k1):∃ T1,HKto B w T a w1 T1 ⟨g1,h.op⟩ k1∧T1 a∧T1 m∧(∀ q,To1 q→T1 q) :=
 ⟨_,o.deskX q2 q3 ⟨q4,q5,q6,q7,q8,q9⟩ hk s,.inl q6,.inl q7,fun q e=>.inr e⟩
theorem HK.turn {d m:Nat} {To:Nat→Prop} {es es1:Array MapEntry} {clock clock1:Nat} {op1:List (List UInt8 × Int)} (o:HK B w T a h k) (q1:DK B w To d h.d k)
  (q2:Blk w a 69 #[ptrV d,.map (some m)]) (q3:FMap w Tryz.prog 9 m es clock txt intV (findH h.op)) (q4:¬ To a) (q5:¬ To m) (q6:T a) (q7:T m) (q8:∀ q,To q→T q) (q9:a≠m)
  (hg:w.grownBy w1 (some m)) (hs:w1.heap.size=w.heap.size) (hF:FMap w1 Tryz.prog 9 m es1 clock1 txt intV (findH op1)) (ok:HlOk ⟨h.d,op1⟩ k):HKto B w T a w1 T ⟨h.d,op1⟩ k∧DK B w1 To d h.d k∧Blk w1 a 69 #[ptrV d,.map (some m)]:=by
 have f:Fr (fun q=>q=m) w w1:=(Fr.refl _ _).grown hg (fun k e _=>by injection e with e;exact e.symm)
 have fb:Below B w w1:=f.below q1.le (fun q e=>by rw [e];exact o.lo m q7)
 have D:DK B w1 To d h.d k:=⟨q1.s.far f (fun q e1 e2=>q5 (by rw [← e2];exact e1)),fun q e=>by rw [hs];exact q1.lt q e,q1.lo,by rw [hs];exact q1.le,q1.gv.on fb⟩
 have hB:=q2.fr f q9
 exact ⟨⟨⟨⟨d,m,To,es1,clock1,D,hB,hF,q4,q5,q6,q7,q8,q9⟩,ok,fun q e=>by rw [hs];exact o.lt q e,o.lo⟩,f.mono (fun q _ e=>by rw [e];exact q7),fun q e=>.inl e,o.le⟩,D,hB⟩
theorem HK.far {S:Nat→Prop} (o:HK B w T a h k) (f:Fr S w w1) (hd:∀ q,S q→¬ T q) (hS:∀ q,S q→B≤q):HK B w1 T a h k:=by
 obtain ⟨d,m,To,es,clock,q1,q2,q3,q4,q5,q6,q7,q8,q9⟩:=o.ex
 have fb:Below B w w1:=f.below q1.le hS
 exact ⟨⟨d,m,To,es,clock,⟨q1.s.far f (fun q e1 e2=>hd q e2 (q8 q e1)),fun q e=>Nat.lt_of_lt_of_le (q1.lt q e) f.size,q1.lo,Nat.le_trans q1.le f.size,q1.gv.on fb⟩,q2.fr f (fun e=>hd a e q6),q3.far f (fun e=>hd m e q7),q4,q5,q6,q7,q8,q9⟩,o.ok,fun q e=>Nat.lt_of_lt_of_le (o.lt q e) f.size,o.lo⟩
end
end Go.Proofs.YtkckcbhnnllkhaaGreatDoor
