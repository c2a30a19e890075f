/- Operations on bit vectors of a width,as operations on natural numbers. -/
import Derived.Test.YtkobnfjeehnhlaaGreatDoorFIBits
set_option linter.all false
namespace Go.FI
def toI (n a:Nat):Int:=if a < 2 ^ (n - 1) then a else (a:Int) - 2 ^ n
def opN (k:Int) (n a b:Nat):Nat :=
 if k=5 then (a + b) % 2 ^ n else if k=6 then (a + (2 ^ n - b)) % 2 ^ n else if k=7 then a * b % 2 ^ n
 else if k=8 then a &&& b else if k=9 then a ||| b else if k=10 then a ^^^ b
 else if k=11 then a * 2 ^ b % 2 ^ n else if k=12 then a / 2 ^ b else if k=13 then (toI n a / 2 ^ (min b 64) % 2 ^ n).toNat
 else if k=14 then (if b=0 then 2 ^ n - 1 else a / b) else if k=15 then (if b=0 then a else a % b)
 else if k=16 then (if a=b then 1 else 0) else if k=17 then (if a < b then 1 else 0)
 else if k=18 then (if toI n a < toI n b then 1 else 0) else 0
def unN (k:Int) (n a:Nat):Nat:=if k=3 then 2 ^ n - 1 - a else (2 ^ n - a) % 2 ^ n
section
variable {n a b:Nat}
theorem two_dvd {m n:Nat} (h:n ≤ m):((2:Int) ^ n) ∣ 2 ^ m:=by
 rw [← pow_nat,← pow_nat];exact Int.natCast_dvd_natCast.2 (Nat.pow_dvd_pow 2 h)
theorem w64 (x:Int):IntKind.u64.wrap x=x % 18446744073709551616:=by
 simp [IntKind.wrap,IntKind.bits,IntKind.signed]
theorem fin_mod (hn:n ≤ 64) (X:Int):band .u64 (IntKind.u64.wrap X) (2 ^ n - 1)=X % 2 ^ n:=by
 rw [w64,band_mask (Int.emod_nonneg _ (by decide)) (Int.emod_lt_of_pos _ (by decide)) hn]
 exact Int.emod_emod_of_dvd X (two_dvd (m:=64) hn)
theorem fin_in (hn:n ≤ 64) {X:Int} (h0:0 ≤ X) (h1:X < 18446744073709551616):band .u64 X (2 ^ n - 1)=X % 2 ^ n:=band_mask h0 h1 hn
theorem fin_lt (hn:n ≤ 64) {X:Nat} (h1:X < 2 ^ n):band .u64 X (2 ^ n - 1)=(X:Int):=by
 have:=pow64 hn
 have h2:((X:Nat):Int) < 2 ^ n:=by rw [← pow_nat];exact Int.ofNat_lt.2 h1
 rw [fin_in hn (by omega) (by omega),Int.emod_eq_of_lt (by omega) h2]
theorem nat_mod (x:Nat):((x % 2 ^ n:Nat):Int)=(x:Int) % 2 ^ n:=by rw [Int.natCast_emod,pow_nat]
theorem lt64 (hn:n ≤ 64) (h:a < 2 ^ n):a < 18446744073709551616:=Nat.lt_of_lt_of_le h (Nat.pow_le_pow_right (by decide) hn:2 ^ n ≤ 2 ^ 64)
theorem X_add (hn:n ≤ 64):band .u64 (IntKind.u64.wrap ((a:Int) + b)) (2 ^ n - 1)=(opN 5 n a b:Nat):=by
 rw [fin_mod hn];simp only [opN,if_true];rw [nat_mod];congr 1
theorem X_sub (hn:n ≤ 64) (hb:b < 2 ^ n):band .u64 (IntKind.u64.wrap ((a:Int) - b)) (2 ^ n - 1)=(opN 6 n a b:Nat):=by
 rw [fin_mod hn]
 have e:opN 6 n a b=(a + (2 ^ n - b)) % 2 ^ n:=rfl
 rw [e,nat_mod,Int.natCast_add,Int.ofNat_sub (Nat.le_of_lt hb),pow_nat]
 rw [show (a:Int) + (2 ^ n - b)=(a - b) + 2 ^ n by omega,Int.add_emod_right]
theorem X_mul (hn:n ≤ 64):band .u64 (IntKind.u64.wrap ((a:Int) * b)) (2 ^ n - 1)=(opN 7 n a b:Nat):=by
 rw [fin_mod hn]
 have e:opN 7 n a b=a * b % 2 ^ n:=rfl
 rw [e,nat_mod,Int.natCast_mul]
theorem X_and (hn:n ≤ 64) (ha:a < 2 ^ n) (hb:b < 2 ^ n):band .u64 (band .u64 a b) (2 ^ n - 1)=(opN 8 n a b:Nat):=by
 have h1:=lt64 hn ha
 have h2:=lt64 hn hb
 have e:=band_nat (a:=(a:Int)) (b:=(b:Int)) (by omega) (by omega) (by omega) (by omega)
 rw [e,Int.toNat_natCast,Int.toNat_natCast]
 exact fin_lt hn (Nat.lt_of_le_of_lt Nat.and_le_left ha)
theorem X_or (hn:n ≤ 64) (ha:a < 2 ^ n) (hb:b < 2 ^ n):band .u64 (bor .u64 a b) (2 ^ n - 1)=(opN 9 n a b:Nat):=by
 have h1:=lt64 hn ha
 have h2:=lt64 hn hb
 have e:=bor_nat (a:=(a:Int)) (b:=(b:Int)) (by omega) (by omega) (by omega) (by omega)
 rw [e,Int.toNat_natCast,Int.toNat_natCast]
 exact fin_lt hn (Nat.or_lt_two_pow ha hb)
theorem bxor_nat {a b:Int} (ha:0 ≤ a) (ha':a < 18446744073709551616) (hb:0 ≤ b) (hb':b < 18446744073709551616):bxor .u64 a b=((a.toNat ^^^ b.toNat:Nat):Int):=by
 have e:(BitVec.ofInt IntKind.u64.bits a ^^^ BitVec.ofInt IntKind.u64.bits b).toNat=a.toNat ^^^ b.toNat:=by
  rw [BitVec.toNat_xor];rw [show IntKind.u64.bits=64 from rfl,toNat_ofInt ha ha',toNat_ofInt hb hb']
 unfold bxor
 rw [e]
 have:=Nat.xor_lt_two_pow (n:=64) (x:=a.toNat) (y:=b.toNat) (by omega) (by omega)
 rw [wrapu (by omega)];omega
theorem X_xor (hn:n ≤ 64) (ha:a < 2 ^ n) (hb:b < 2 ^ n):band .u64 (bxor .u64 a b) (2 ^ n - 1)=(opN 10 n a b:Nat):=by
 have h1:=lt64 hn ha
 have h2:=lt64 hn hb
 have e:=bxor_nat (a:=(a:Int)) (b:=(b:Int)) (by omega) (by omega) (by omega) (by omega)
 rw [e,Int.toNat_natCast,Int.toNat_natCast]
 exact fin_lt hn (Nat.xor_lt_two_pow ha hb)
theorem min_few (b:Nat):(min (b:Int) 64).toNat=min b 64:=by omega
theorem X_shl (hn:n ≤ 64):band .u64 (shl .u64 a (min (b:Int) 64)) (2 ^ n - 1)=(opN 11 n a b:Nat):=by
 unfold shl
 rw [fin_mod hn,min_few]
 have e:opN 11 n a b=a * 2 ^ b % 2 ^ n:=rfl
 rw [e,nat_mod,Int.natCast_mul,pow_nat]
 show (a:Int) * 2 ^ (min (min b 64) 64) % 2 ^ n=_
 by_cases h:b ≤ 64
 ·rw [show min (min b 64) 64=b by omega]
 ·rw [show min (min b 64) 64=64 by omega]
  have h1:(a:Int) * 2 ^ 64 % 2 ^ n=0:=Int.emod_eq_zero_of_dvd (Int.dvd_mul_of_dvd_right (two_dvd hn))
  have h2:(a:Int) * 2 ^ b % 2 ^ n=0:=Int.emod_eq_zero_of_dvd (Int.dvd_mul_of_dvd_right (two_dvd (by omega)))
  rw [h1,h2]
theorem X_shr (hn:n ≤ 64) (ha:a < 2 ^ n):band .u64 (shr .u64 a (min (b:Int) 64)) (2 ^ n - 1)=(opN 12 n a b:Nat):=by
 have h1:=lt64 hn ha
 have e:opN 12 n a b=a / 2 ^ b:=rfl
 have hs:shr .u64 a (min (b:Int) 64)=((a / 2 ^ b:Nat):Int):=by
  unfold shr
  rw [min_few]
  show (a:Int).fdiv (2 ^ (min (min b 64) 64))=_
  rw [Int.fdiv_eq_ediv_of_nonneg _ (Int.le_of_lt (pow_pos' _)),Int.natCast_ediv,pow_nat]
  by_cases h:b ≤ 64
  ·rw [show min (min b 64) 64=b by omega]
  ·rw [show min (min b 64) 64=64 by omega,Int.ediv_eq_zero_of_lt (by omega) (by show (a:Int) < 18446744073709551616;omega),Int.ediv_eq_zero_of_lt (by omega) (Int.lt_of_lt_of_le (by show (a:Int) < 18446744073709551616;omega) (show (18446744073709551616:Int) ≤ 2 ^ b from pow_le (m:=64) (by omega)))]
 rw [hs,e]
 exact fin_lt hn (Nat.lt_of_le_of_lt (Nat.div_le_self _ _) ha)
theorem X_sgn (hn0:1 ≤ n) (hn:n ≤ 64) (ha:a < 2 ^ n):shr .i64 (IntKind.i64.wrap (shl .u64 a (64 - (n:Int)))) (64 - (n:Int))=toI n a:=by
 obtain ⟨u,hu⟩:∃ u:Nat,n + u=64:=⟨64 - n,by omega⟩
 have hu':(64 - (n:Int))=(u:Int):=by omega
 rw [hu']
 have hp:(2:Int) ^ n * 2 ^ u=18446744073709551616:=by rw [← Int.pow_add,hu];rfl
 have hpu:=pow_pos' u
 have hh:(2:Int) ^ (n - 1) * 2 ^ u=9223372036854775808:=by rw [← Int.pow_add,show n - 1 + u=63 by omega];rfl
 have han:(a:Int) < 2 ^ n:=by rw [← pow_nat];exact Int.ofNat_lt.2 ha
 have hs:shl .u64 a u=(a:Int) * 2 ^ u:=by
  unfold shl
  rw [show min ((u:Int).toNat) IntKind.u64.bits=u by show min ((u:Int).toNat) 64=u;omega,w64]
  exact Int.emod_eq_of_lt (Int.mul_nonneg (by omega) (by omega)) (by rw [← hp];exact Int.mul_lt_mul_of_pos_right han hpu)
 rw [hs]
 unfold shr
 rw [show min ((u:Int).toNat) IntKind.i64.bits=u by show min ((u:Int).toNat) 64=u;omega,Int.fdiv_eq_ediv_of_nonneg _ (by omega)]
 have hwr:∀ x:Int,0 ≤ x→x < 18446744073709551616→IntKind.i64.wrap x=if x < 9223372036854775808 then x else x - 18446744073709551616:=by
  intro x h0 h1
  show (if (true && decide (x % 18446744073709551616 ≥ 9223372036854775808))=true then x % 18446744073709551616 - 18446744073709551616 else x % 18446744073709551616)=_
  rw [Int.emod_eq_of_lt h0 h1]
  simp only [Bool.true_and,decide_eq_true_eq]
  split<;>split<;>omega
 rw [hwr _ (Int.mul_nonneg (by omega) (by omega)) (by rw [← hp];exact Int.mul_lt_mul_of_pos_right han hpu)]
 unfold toI
 have e2:=pow_nat (n - 1)
 by_cases hc:a < 2 ^ (n - 1)
 ·have hc':(a:Int) < 2 ^ (n - 1):=by rw [← e2];exact Int.ofNat_lt.2 hc
  rw [if_pos (by rw [← hh];exact Int.mul_lt_mul_of_pos_right hc' hpu),if_pos hc]
  exact Int.mul_ediv_cancel _ (by omega)
 ·have hc':(2:Int) ^ (n - 1) ≤ a:=by rw [← e2];exact Int.ofNat_le.2 (by omega)
  have:¬ (a:Int) * 2 ^ u < 9223372036854775808:=by
   rw [← hh];exact Int.not_lt.2 (Int.mul_le_mul_of_nonneg_right hc' (by omega))
  rw [if_neg this,if_neg hc,← hp,← Int.sub_mul]
  exact Int.mul_ediv_cancel _ (by omega)
theorem X_sar (hn:n ≤ 64):band .u64 (IntKind.u64.wrap (shr .i64 (toI n a) (min (b:Int) 64))) (2 ^ n - 1)=(opN 13 n a b:Nat):=by
 rw [fin_mod hn]
 have e:opN 13 n a b=(toI n a / 2 ^ (min b 64) % 2 ^ n).toNat:=rfl
 have hp:=pow_pos' n
 rw [e,Int.toNat_of_nonneg (Int.emod_nonneg _ (by omega))]
 unfold shr
 rw [min_few]
 show ((toI n a).fdiv (2 ^ (min (min b 64) 64))) % 2 ^ n=_
 rw [Int.fdiv_eq_ediv_of_nonneg _ (Int.le_of_lt (pow_pos' _)),show min (min b 64) 64=min b 64 by omega]
theorem X_div0 (hn:n ≤ 64):band .u64 18446744073709551615 (2 ^ n - 1)=(opN 14 n a 0:Nat):=by
 rw [fin_in hn (by decide) (by decide)]
 have e:opN 14 n a 0=2 ^ n - 1:=rfl
 have h1:=pow64 hn
 have h2:=pow_pos' n
 have h3:=pow_nat n
 rw [e]
 have:(18446744073709551615:Int) % 2 ^ n=2 ^ n - 1:=by
  obtain ⟨c,hc⟩:=two_dvd (m:=64) hn
  have hc:(18446744073709551616:Int)=2 ^ n * c:=hc
  have:(18446744073709551615:Int)=(2 ^ n - 1) + 2 ^ n * (c - 1):=by rw [Int.mul_sub,← hc];omega
  rw [this,Int.add_mul_emod_self_left,Int.emod_eq_of_lt (by omega) (by omega)]
 rw [this]
 have h4:1 ≤ 2 ^ n:=Nat.one_le_two_pow
 omega
theorem X_div (hn:n ≤ 64) (ha:a < 2 ^ n) (hb:b ≠ 0):band .u64 ((a / b:Nat):Int) (2 ^ n - 1)=(opN 14 n a b:Nat):=by
 have e:opN 14 n a b=a / b:=by simp [opN,hb]
 rw [e];exact fin_lt hn (Nat.lt_of_le_of_lt (Nat.div_le_self _ _) ha)
theorem X_rem0 (hn:n ≤ 64) (ha:a < 2 ^ n):band .u64 (a:Int) (2 ^ n - 1)=(opN 15 n a 0:Nat):=fin_lt hn ha
theorem X_rem (hn:n ≤ 64) (ha:a < 2 ^ n) (hb:b ≠ 0):band .u64 ((a % b:Nat):Int) (2 ^ n - 1)=(opN 15 n a b:Nat):=by
 have e:opN 15 n a b=a % b:=by simp [opN,hb]
 rw [e];exact fin_lt hn (Nat.lt_of_le_of_lt (Nat.mod_le _ _) ha)
theorem X_one (hn0:1 ≤ n) (hn:n ≤ 64) (c:Bool):band .u64 (if c=true then 1 else 0) (2 ^ n - 1)=(if c=true then 1 else 0):=by
 have h2:1 < 2 ^ n:=Nat.lt_of_lt_of_le (by decide:1 < 2 ^ 1) (Nat.pow_le_pow_right (by decide) hn0)
 cases c
 ·exact fin_lt (X:=0) hn (by omega)
 ·exact fin_lt (X:=1) hn h2
theorem opN_lt (hn0:1 ≤ n) (ha:a < 2 ^ n) (hb:b < 2 ^ n) (k:Int):opN k n a b < 2 ^ n:=by
 have h2:1 < 2 ^ n:=Nat.lt_of_lt_of_le (by decide:1 < 2 ^ 1) (Nat.pow_le_pow_right (by decide) hn0)
 have h0:0 < 2 ^ n:=by omega
 unfold opN
 by_cases k5:k=5
 ·rw [if_pos k5];exact Nat.mod_lt _ h0
 rw [if_neg k5]
 by_cases k6:k=6
 ·rw [if_pos k6];exact Nat.mod_lt _ h0
 rw [if_neg k6]
 by_cases k7:k=7
 ·rw [if_pos k7];exact Nat.mod_lt _ h0
 rw [if_neg k7]
 by_cases k8:k=8
 ·rw [if_pos k8];exact Nat.lt_of_le_of_lt Nat.and_le_left ha
 rw [if_neg k8]
 by_cases k9:k=9
 ·rw [if_pos k9];exact Nat.or_lt_two_pow ha hb
 rw [if_neg k9]
 by_cases k10:k=10
 ·rw [if_pos k10];exact Nat.xor_lt_two_pow ha hb
 rw [if_neg k10]
 by_cases k11:k=11
 ·rw [if_pos k11];exact Nat.mod_lt _ h0
 rw [if_neg k11]
 by_cases k12:k=12
 ·rw [if_pos k12];exact Nat.lt_of_le_of_lt (Nat.div_le_self _ _) ha
 rw [if_neg k12]
 by_cases k13:k=13
 ·rw [if_pos k13]
  have hp:=pow_pos' n
  have h1:=Int.emod_lt_of_pos (toI n a / 2 ^ (min b 64)) hp
  have h3:=Int.emod_nonneg (toI n a / 2 ^ (min b 64)) (b:=2 ^ n) (by omega)
  have h4:=pow_nat n
  omega
 rw [if_neg k13]
 by_cases k14:k=14
 ·rw [if_pos k14]
  by_cases hb0:b=0
  ·rw [if_pos hb0];omega
  ·rw [if_neg hb0];exact Nat.lt_of_le_of_lt (Nat.div_le_self _ _) ha
 rw [if_neg k14]
 by_cases k15:k=15
 ·rw [if_pos k15]
  by_cases hb0:b=0
  ·rw [if_pos hb0];exact ha
  ·rw [if_neg hb0];exact Nat.lt_of_le_of_lt (Nat.mod_le _ _) ha
 rw [if_neg k15]
 have key:∀ c:Prop,[Decidable c]→(if c then 1 else 0) < 2 ^ n:=fun c _=>by
  by_cases hc:c
  ·rw [if_pos hc];exact h2
  ·rw [if_neg hc];exact h0
 by_cases k16:k=16
 ·rw [if_pos k16];exact key _
 rw [if_neg k16]
 by_cases k17:k=17
 ·rw [if_pos k17];exact key _
 rw [if_neg k17]
 by_cases k18:k=18
 ·rw [if_pos k18];exact key _
 rw [if_neg k18];exact h0
theorem unN_lt (ha:a < 2 ^ n) (k:Int):unN k n a < 2 ^ n:=by
 have h0:0 < 2 ^ n:=Nat.pow_pos (by decide)
 unfold unN
 split
 ·omega
 ·exact Nat.mod_lt _ h0
theorem X_not (hn:n ≤ 64) (ha:a < 2 ^ n):band .u64 (bxor .u64 18446744073709551615 a) (2 ^ n - 1)=(unN 3 n a:Nat):=by
 have h1:=lt64 hn ha
 rw [bxor_nat (by decide) (by decide) (by omega) (by omega)]
 have e:unN 3 n a=2 ^ n - 1 - a:=rfl
 have hx:((18446744073709551615:Int).toNat ^^^ (a:Int).toNat)=18446744073709551615 - a:=by
  rw [Int.toNat_natCast]
  have:(18446744073709551615:Int).toNat=2 ^ 64 - 1:=rfl
  rw [this]
  have h:a < 2 ^ 64:=h1
  apply Nat.eq_of_testBit_eq
  intro i
  have e:18446744073709551615 - a=2 ^ 64 - (a + 1):=by omega
  rw [e,Nat.testBit_two_pow_sub_succ h,Nat.testBit_xor,Nat.testBit_two_pow_sub_one]
  by_cases hi:i < 64
  ·simp [hi]
  ·have hb:=Nat.testBit_lt_two_pow (x:=a) (i:=i) (Nat.lt_of_lt_of_le h (Nat.pow_le_pow_right (by decide) (by omega:64 ≤ i)))
   simp [hi,hb]
 have h2:=pow64 hn
 have h3:=pow_nat n
 rw [hx,fin_in hn (by omega) (by omega),e]
 obtain ⟨c,hc⟩:=two_dvd (m:=64) hn
 have hc:(18446744073709551616:Int)=2 ^ n * c:=hc
 have h4:((18446744073709551615 - a:Nat):Int)=((2 ^ n - 1 - a:Nat):Int) + 2 ^ n * (c - 1):=by
  rw [Int.mul_sub,← hc];omega
 rw [h4,Int.add_mul_emod_self_left,Int.emod_eq_of_lt (by omega) (by omega)]
theorem X_neg (hn:n ≤ 64) (ha:a < 2 ^ n):band .u64 (IntKind.u64.wrap (0 - (a:Int))) (2 ^ n - 1)=(unN 4 n a:Nat):=by
 rw [fin_mod hn]
 have e:unN 4 n a=(2 ^ n - a) % 2 ^ n:=rfl
 rw [e,nat_mod,Int.ofNat_sub (Nat.le_of_lt ha),pow_nat,show (2:Int) ^ n - a=(0 - a) + 2 ^ n by omega,Int.add_emod_right]
end
def exN (s:Bool) (n m a:Nat):Nat:=if s=true then (toI n a % 2 ^ m).toNat else a
theorem exN_lt {s:Bool} {n m a:Nat} (hnm:n ≤ m) (ha:a < 2 ^ n):exN s n m a < 2 ^ m:=by
 unfold exN
 split
 ·have hp:=pow_pos' m
  have h1:=Int.emod_lt_of_pos (toI n a) hp
  have h3:=Int.emod_nonneg (toI n a) (b:=2 ^ m) (by omega)
  have h4:=pow_nat m
  omega
 ·exact Nat.lt_of_lt_of_le ha (Nat.pow_le_pow_right (by decide) hnm)
end Go.FI
