/- Bit operations on the interpreter's integers,as operations on natural numbers. -/
import Derived.Test.YtkobnfjeehnhlaaGreatDoorFITm
set_option linter.all false
namespace Go.FI
theorem wrapu {n:Int} (h:0 ≤ n):IntKind.u64.wrap n=n % 18446744073709551616:=by
 simp [IntKind.wrap,IntKind.bits,IntKind.signed]
theorem toNat_ofInt {a:Int} (h0:0 ≤ a) (h1:a < 18446744073709551616):(BitVec.ofInt 64 a).toNat=a.toNat:=by
 rw [BitVec.toNat_ofInt];omega
theorem band_nat {a b:Int} (ha:0 ≤ a) (ha':a < 18446744073709551616) (hb:0 ≤ b) (hb':b < 18446744073709551616):band .u64 a b=((a.toNat &&& b.toNat:Nat):Int):=by
 have e:(BitVec.ofInt IntKind.u64.bits a &&& BitVec.ofInt IntKind.u64.bits b).toNat=a.toNat &&& b.toNat:=by
  rw [BitVec.toNat_and];rw [show IntKind.u64.bits=64 from rfl,toNat_ofInt ha ha',toNat_ofInt hb hb']
 unfold band
 rw [e]
 have:a.toNat &&& b.toNat ≤ a.toNat:=Nat.and_le_left
 rw [wrapu (by omega)];omega
theorem or_lt64 {a b:Nat} (ha:a < 18446744073709551616) (hb:b < 18446744073709551616):a ||| b < 18446744073709551616:=Nat.or_lt_two_pow (n:=64) ha hb
theorem bor_nat {a b:Int} (ha:0 ≤ a) (ha':a < 18446744073709551616) (hb:0 ≤ b) (hb':b < 18446744073709551616):bor .u64 a b=((a.toNat ||| b.toNat:Nat):Int):=by
 have e:(BitVec.ofInt IntKind.u64.bits a ||| BitVec.ofInt IntKind.u64.bits b).toNat=a.toNat ||| b.toNat:=by
  rw [BitVec.toNat_or];rw [show IntKind.u64.bits=64 from rfl,toNat_ofInt ha ha',toNat_ofInt hb hb']
 unfold bor
 rw [e]
 have:=or_lt64 (a:=a.toNat) (b:=b.toNat) (by omega) (by omega)
 rw [wrapu (by omega)];omega
theorem pow_pos' (n:Nat):(0:Int) < 2 ^ n:=Int.pow_pos (by decide)
theorem pow_nat (n:Nat):((2 ^ n:Nat):Int)=2 ^ n:=by simp
theorem pow_le {m n:Nat} (h:m ≤ n):(2:Int) ^ m ≤ 2 ^ n:=by
 rw [← pow_nat,← pow_nat];exact Int.ofNat_le.2 (Nat.pow_le_pow_right (by decide) h)
theorem pow64 {n:Nat} (h:n ≤ 64):(2:Int) ^ n ≤ 18446744073709551616:=pow_le h
theorem band_mask {a:Int} {n:Nat} (ha:0 ≤ a) (ha':a < 18446744073709551616) (hn:n ≤ 64):band .u64 a (2 ^ n - 1)=a % 2 ^ n:=by
 have h1:=pow64 hn
 have h2:=pow_pos' n
 rw [band_nat ha ha' (by omega) (by omega)]
 have e:((2:Int) ^ n - 1).toNat=2 ^ n - 1:=by
  rw [← pow_nat];omega
 rw [e,Nat.and_two_pow_sub_one_eq_mod]
 rw [Int.natCast_emod,pow_nat]
 congr 1;omega
theorem shr_mask {n:Nat} (h:n ≤ 64):shr .u64 18446744073709551615 (64 - (n:Int))=2 ^ n - 1:=by
 have:∀ n:Nat,n < 65→shr .u64 18446744073709551615 (64 - n)=2 ^ n - 1:=by decide +kernel
 exact this n (by omega)
theorem shr_nat {a:Int} {n:Nat} (ha:0 ≤ a) (hn:n ≤ 64):shr .u64 a n=((a.toNat >>> n:Nat):Int):=by
 unfold shr
 have:min ((n:Int).toNat) IntKind.u64.bits=n:=by rw [Int.toNat_natCast];exact Nat.min_eq_left hn
 rw [this,Nat.shiftRight_eq_div_pow,Int.natCast_ediv,pow_nat,Int.fdiv_eq_ediv_of_nonneg _ (by have:=pow_pos' n;omega)]
 congr 1;omega
theorem shl_nat {a:Int} {n:Nat} (ha:0 ≤ a) (hn:n ≤ 64) (hb:a * 2 ^ n < 18446744073709551616):shl .u64 a n=((a.toNat <<< n:Nat):Int):=by
 unfold shl
 have:min ((n:Int).toNat) IntKind.u64.bits=n:=by rw [Int.toNat_natCast];exact Nat.min_eq_left hn
 have h0:0 ≤ a * 2 ^ n:=Int.mul_nonneg ha (by have:=pow_pos' n;omega)
 rw [this,wrapu h0,Nat.shiftLeft_eq,Int.natCast_mul,pow_nat]
 rw [show ((a.toNat:Nat):Int)=a by omega]
 omega
end Go.FI
