/- Parts of the proof; conditions: as each theorem says. -/
import Derived.Test.YtkckcbhnnllkhaaGreatDoorG32
import Derived.Lib.TrailingZeros
set_option linter.unusedVariables false
set_option linter.unusedSimpArgs false
namespace Go.Proofs.YtkckcbhnnllkhaaGreatDoor
theorem or_top {x:Nat} (h:x < 4294967296):x ||| 4294967296=4294967296+x:=by
 have:=Nat.two_pow_add_eq_or_of_lt (i:=32) (b:=x) (by simpa using h) 1
 simp only [Nat.mul_one] at this
 rw [Nat.or_comm]
 exact this.symm
def tzOf (x:Nat):Nat:=Lib.ctz 64 (x ||| 4294967296)
theorem tz_facts {x:Nat} (h:x < 4294967296):tzOf x≤32∧2 ^ tzOf x ∣ x∧∀ m,m≤32→2 ^ m ∣ x→m≤tzOf x:=by
 have e:=or_top h
 obtain ⟨m,hm,hlt⟩:=Lib.ctzFrom_spec 64 (x ||| 4294967296) (by omega) (by rw [e];omega)
 have hT:tzOf x=Lib.ctzFrom 64 (x ||| 4294967296):=by
  unfold tzOf Lib.ctz
  rw [if_neg (by omega)]
 rw [← hT] at hm hlt
 generalize tzOf x=T at hm hlt ⊢
 have hdv:2 ^ T ∣ x ||| 4294967296:=⟨2 * m+1,hm⟩
 rw [e] at hdv hm
 have hT32:T≤32:=by
  refine Nat.le_of_not_lt fun hgt=>?_
  have:(2:Nat) ^ 33 ∣ 4294967296+x:=Nat.dvd_trans (Nat.pow_dvd_pow 2 hgt) hdv
  obtain ⟨c,hc⟩:=this
  rcases c with _ | c
  ·omega
  ·omega
 have h32:∀ m,m≤32→(2:Nat) ^ m ∣ 4294967296:=fun m hm=>by
  have:=Nat.pow_dvd_pow 2 hm
  simpa using this
 refine ⟨hT32,(Nat.dvd_add_right (h32 T hT32)).1 hdv,fun k hk hkx=>Nat.le_of_not_lt fun hlt'=>?_⟩
 have h1:(2:Nat) ^ (T+1) ∣ 4294967296+x:=Nat.dvd_trans (Nat.pow_dvd_pow 2 hlt') (Nat.dvd_add (h32 k hk) hkx)
 rw [hm,Nat.pow_succ] at h1
 have h2:2 ∣ 2 * m+1:=Nat.dvd_of_mul_dvd_mul_left (Nat.pow_pos (by decide)) h1
 omega
theorem len_facts {d:Nat} (h0:1≤d) (h:d < 2 ^ 64):1≤Lib.bitLen d∧2 ^ (Lib.bitLen d - 1)≤d∧∀ m,m≤32→2 ^ m≤d→m≤Lib.bitLen d - 1:=by
 have h1:1≤Lib.bitLen d:=Nat.le_of_not_lt fun hlt=>by
  have:=(bitLen_iff d 0 h (by omega)).2 (by omega)
  simp at this;omega
 have h64:Lib.bitLen d≤64:=(bitLen_iff d 64 h (Nat.le_refl _)).1 h
 refine ⟨h1,Nat.le_of_not_lt fun hlt=>?_,fun m hm hd=>Nat.le_of_not_lt fun hlt=>?_⟩
 ·have:=(bitLen_iff d (Lib.bitLen d - 1) h (by omega)).1 hlt
  omega
 ·have:=(bitLen_iff d m h (by omega)).2 (by omega)
  omega
theorem sz_pow (s:Nat) (h:s≤32):sz (32 - (s:Int))=((2 ^ s:Nat):Int):=by
 unfold sz
 rw [show (32 - (32 - (s:Int))).toNat=s by omega]
 simp
theorem blk_size {x hi:Int} (h0:0≤x) (h1:x≤hi) (h2:hi≤maxA) {s:Nat} (hs:s=min (tzOf x.toNat) (Lib.bitLen (hi - x+1).toNat - 1)):s≤32∧blkN x hi=32 - (s:Int):=by
 unfold maxA at h2
 obtain ⟨t1,t2,t3⟩:=tz_facts (x:=x.toNat) (by omega)
 obtain ⟨l1,l2,l3⟩:=len_facts (d:=(hi - x+1).toNat) (by omega) (by omega)
 have hs32:s≤32:=by omega
 have hsz:=sz_pow s hs32
 have hdv:(2:Nat) ^ s ∣ x.toNat:=Nat.dvd_trans (Nat.pow_dvd_pow 2 (by omega)) t2
 have hle:(2:Nat) ^ s≤(hi - x+1).toNat:=Nat.le_trans (Nat.pow_le_pow_right (by decide) (by omega)) l2
 refine ⟨hs32,blk_unique h0 h1 (by unfold maxA;omega) ?_ ?_ ?_⟩
 ·rw [chk_zero]
  refine ⟨by omega,by omega,h0,by omega,?_⟩
  rw [hsz]
  obtain ⟨c,hc⟩:=hdv
  rw [show x=((2 ^ s * c:Nat):Int) by omega,Int.natCast_mul]
  exact Int.mul_emod_right _ _
 ·unfold lastA
  rw [hsz]
  omega
 ·intro m hm hl
  obtain ⟨m1,m2,_,_,m5⟩:=chk_zero.1 hm
  obtain ⟨k,hk⟩:∃ k:Nat,m=32 - (k:Int):=⟨(32 - m).toNat,by omega⟩
  subst hk
  have hk32:k≤32:=by omega
  rw [sz_pow k hk32] at m5
  unfold lastA at hl
  rw [sz_pow k hk32] at hl
  have d1:(2:Nat) ^ k ∣ x.toNat:=by
   have:=Int.dvd_of_emod_eq_zero m5
   have e:x=(x.toNat:Int):=by omega
   rw [e] at this
   exact Int.natCast_dvd_natCast.1 this
  have a1:=t3 k hk32 d1
  have a2:=l3 k hk32 (by omega)
  omega
end Go.Proofs.YtkckcbhnnllkhaaGreatDoor
