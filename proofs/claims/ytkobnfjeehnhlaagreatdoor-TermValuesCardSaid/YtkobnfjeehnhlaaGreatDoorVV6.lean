/- Parts of the proof, one behind the other. -/
import Derived.Test.YtkobnfjeehnhlaaGreatDoorVV5
import Derived.Test.YtkobnfjeehnhlaaGreatDoorVV4
set_option linter.all false
namespace Go.Proofs.YtkobnfjeehnhlaaGreatDoor.Fi
open Go.FI
theorem d_SB {P:Prop} (h:P:=by first|omega|(simp only[EVL]<;>omega)|(simp only[A0n,Nat.reduceEqDiff,↓reduceIte];done)|assumption|(simp (disch:=omega) only[A06,A0a,A04, *];done)|with_unfolding_all rfl):P:=h
theorem A22 (w:Int):∀ h nx,lim T 57 [.int .i64 w] h nx=some (.bool (decide (1 ≤ w∧w ≤ 64)),h,nx):=by
 refine A05 tg57 rfl rfl rfl ?_
 simp (disch:=first | exact d_SB | fail) only [c57,EVS,Nat.reduceAdd,Nat.reduceSub,Int.reduceToNat,Nat.reduceMul,Nat.reduceEqDiff,Nat.reduceLeDiff,Int.reduceEq,Int.reduceLT,Int.reduceLE,↓reduceIte]
 repeat' (refine A1g (fun hb=>?_) (fun hb=>?_)<;>have h:=hb<;>(try simp only [decide_eq_true_eq,decide_eq_false_iff_not,Int.not_lt,Int.not_le] at h)<;>(simp (disch:=first | exact d_SB | fail) only [hb,c57,EVS,Nat.reduceAdd,Nat.reduceSub,Int.reduceToNat,Nat.reduceMul,Nat.reduceEqDiff,Nat.reduceLeDiff,Int.reduceEq,Int.reduceLT,Int.reduceLE,↓reduceIte])<;>(try clear hb))
 all_goals simp_all
 all_goals omega
theorem A1j (w:Int):∀ h nx,lim T 48 [.int .i64 w] h nx=some (.bool (decide (1 ≤ w∧w ≤ 64)),h,nx):=by
 refine A05 tg48 rfl rfl rfl ?_
 simp (disch:=first | exact d_SB | fail) only [c48,EVS,Nat.reduceAdd,Nat.reduceSub,Int.reduceToNat,Nat.reduceMul,Nat.reduceEqDiff,Nat.reduceLeDiff,Int.reduceEq,Int.reduceLT,Int.reduceLE,↓reduceIte]
 repeat' (refine A1g (fun hb=>?_) (fun hb=>?_)<;>have h:=hb<;>(try simp only [decide_eq_true_eq,decide_eq_false_iff_not,Int.not_lt,Int.not_le] at h)<;>(simp (disch:=first | exact d_SB | fail) only [hb,c48,EVS,Nat.reduceAdd,Nat.reduceSub,Int.reduceToNat,Nat.reduceMul,Nat.reduceEqDiff,Nat.reduceLeDiff,Int.reduceEq,Int.reduceLT,Int.reduceLE,↓reduceIte])<;>(try clear hb))
 all_goals simp_all
 all_goals omega
def Axx (w:Int):Int:=if 1 ≤ w∧w ≤ 64 then 2 ^ w.toNat - 1 else 0
theorem A9h (w:Int):∀ h nx,lim T 58 [.int .i64 w] h nx=some (.int .u64 (Axx w),h,nx):=by
 refine A05 tg58 rfl rfl rfl ?_
 simp (disch:=first | exact d_SB | fail) only [c58,A22,EVS,Nat.reduceAdd,Nat.reduceSub,Int.reduceToNat,Nat.reduceMul,Nat.reduceEqDiff,Nat.reduceLeDiff,Int.reduceEq,Int.reduceLT,Int.reduceLE,↓reduceIte]
 repeat' (refine A1g (fun hb=>?_) (fun hb=>?_)<;>have h:=hb<;>(try simp only [decide_eq_true_eq,decide_eq_false_iff_not,Int.not_lt,Int.not_le] at h)<;>(simp (disch:=first | exact d_SB | fail) only [hb,c58,EVS,Nat.reduceAdd,Nat.reduceSub,Int.reduceToNat,Nat.reduceMul,Nat.reduceEqDiff,Nat.reduceLeDiff,Int.reduceEq,Int.reduceLT,Int.reduceLE,↓reduceIte])<;>(try clear hb))
 ·have:=Aof (n:=w.toNat) (by omega)
  rw [show ((w.toNat:Nat):Int)=w by omega] at this
  rw [this];exact (if_pos h).symm
 ·exact (if_neg h).symm
theorem A2a (w:Int) (h1:1 ≤ w) (h2:w ≤ 64):∀ h nx,lim T 58 [.int .i64 w] h nx=some (.int .u64 (2 ^ w.toNat - 1),h,nx):=by
 have:=A9h w
 rwa [Axx,if_pos ⟨h1,h2⟩] at this
def okS (w x:Int):Prop:=1 ≤ w∧w ≤ 64∧x < 2 ^ w.toNat
open Classical in
theorem A81 (w x:Int):∀ h nx,lim T 20 [.int .i64 w,.int .u64 x] h nx=some (.bool (decide (okS w x)),h,nx):=by
 refine A05 tg20 rfl rfl rfl ?_
 simp (disch:=first | exact d_SB | fail) only [c20,A22,EVS,Nat.reduceAdd,Nat.reduceSub,Int.reduceToNat,Nat.reduceMul,Nat.reduceEqDiff,Nat.reduceLeDiff,Int.reduceEq,Int.reduceLT,Int.reduceLE,↓reduceIte]
 repeat' (refine A1g (fun hb=>?_) (fun hb=>?_)<;>have h:=hb<;>(try simp only [decide_eq_true_eq,decide_eq_false_iff_not,Int.not_lt,Int.not_le] at h)<;>(simp (disch:=first | exact d_SB | fail) only [hb,c20,EVS,Nat.reduceAdd,Nat.reduceSub,Int.reduceToNat,Nat.reduceMul,Nat.reduceEqDiff,Nat.reduceLeDiff,Int.reduceEq,Int.reduceLT,Int.reduceLE,↓reduceIte])<;>(try clear hb))
 ·have h3:=A2a w h.1 h.2
  simp (disch:=first | exact d_SB | fail) only [c20,h3,EVS,Nat.reduceAdd,Nat.reduceSub,Int.reduceToNat,Nat.reduceMul,Nat.reduceEqDiff,Nat.reduceLeDiff,Int.reduceEq,Int.reduceLT,Int.reduceLE,↓reduceIte]
  exact decide_eq_decide.2 ⟨fun e=>⟨h.1,h.2,by omega⟩,fun e=>by have:=e.2.2;omega⟩
 ·exact (decide_eq_false fun hn=>h ⟨hn.1,hn.2.1⟩).symm
def A2n (w:Int):Prop:=w=8 ∨ w=16 ∨ w=32 ∨ w=64
instance (w:Int):Decidable (A2n w):=inferInstanceAs (Decidable (w=8 ∨ w=16 ∨ w=32 ∨ w=64))
theorem A3a (w:Int):∀ h nx,lim T 49 [.int .i64 w] h nx=some (.bool (decide (A2n w)),h,nx):=by
 refine A05 tg49 rfl rfl rfl ?_
 simp (disch:=first | exact d_SB | fail) only [c49,EVS,Nat.reduceAdd,Nat.reduceSub,Int.reduceToNat,Nat.reduceMul,Nat.reduceEqDiff,Nat.reduceLeDiff,Int.reduceEq,Int.reduceLT,Int.reduceLE,↓reduceIte]
 repeat' (refine A1g (fun hb=>?_) (fun hb=>?_)<;>have h:=hb<;>(try simp only [decide_eq_true_eq,decide_eq_false_iff_not,Int.not_lt,Int.not_le] at h)<;>(simp (disch:=first | exact d_SB | fail) only [hb,c49,EVS,Nat.reduceAdd,Nat.reduceSub,Int.reduceToNat,Nat.reduceMul,Nat.reduceEqDiff,Nat.reduceLeDiff,Int.reduceEq,Int.reduceLT,Int.reduceLE,↓reduceIte])<;>(try clear hb))
 all_goals simp_all [A2n]
theorem d_SN {P:Prop} (h:P:=by first|omega|(simp only[EVL]<;>omega)|(simp only[A0n,Nat.reduceEqDiff,↓reduceIte];done)|assumption|(simp (disch:=omega) only[A06,A0a,A04, *];done)|(simp only [TL];done)|with_unfolding_all rfl):P:=h
def okAt (s:List UInt8) (i:Nat):Prop:=(97 ≤ (s.getD i 0).toNat∧(s.getD i 0).toNat ≤ 122) ∨ (65 ≤ (s.getD i 0).toNat∧(s.getD i 0).toNat ≤ 90) ∨ (i ≠ 0∧((s.getD i 0).toNat=95 ∨ (48 ≤ (s.getD i 0).toNat∧(s.getD i 0).toNat ≤ 57)))
def A9m (s:List UInt8):Prop:=1 ≤ s.length∧s.length ≤ 24∧∀ i,i < s.length→okAt s i
open Classical in
theorem An6 (s:List UInt8) (h1:1 ≤ s.length) (h2:s.length ≤ 24):∀ (k i:Nat),i + k=s.length→(∀ j,j < i→okAt s j) →
  @Ok Out (runs T [.code b86_0,.inL (some 12) b86_0,.inB 0,.code k86_1] [(0,.str s),(15,.int .i64 s.length),(16,.int .i64 i)] [] 12) ⟨fun x=>resV c86.res x=some (.bool (decide (A9m s)))⟩:=by
 intro k
 induction k with
 |zero =>
  intro i hi hok
  have:¬ (i:Int) < s.length:=by omega
  simp (disch:=first | exact d_SN | fail) only [unf b86_0.eq_1,unf k86_1.eq_1,c86,this,EVS,Nat.reduceAdd,Nat.reduceSub,Int.reduceToNat,Nat.reduceMul,Nat.reduceEqDiff,Nat.reduceLeDiff,Int.reduceEq,Int.reduceLT,Int.reduceLE,↓reduceIte]
  exact (decide_eq_true ⟨h1,h2,fun j hj=>hok j (by omega)⟩).symm
 |succ k ih =>
  intro i hi hok
  have hs:okAt s i→∀ j,j < i + 1→okAt s j:=fun ho j hj=>by
   by_cases e:j=i
   ·subst e;exact ho
   ·exact hok j (by omega)
  have:(i:Int) < s.length:=by omega
  simp (disch:=first | exact d_SN | fail) only [unf b86_0.eq_1,c86,this,EVS,Nat.reduceAdd,Nat.reduceSub,Int.reduceToNat,Nat.reduceMul,Nat.reduceEqDiff,Nat.reduceLeDiff,Int.reduceEq,Int.reduceLT,Int.reduceLE,↓reduceIte]
  repeat' (refine A1g (fun hb=>?_) (fun hb=>?_)<;>have h:=hb<;>(try simp only [decide_eq_true_eq,decide_eq_false_iff_not,Int.not_lt,Int.not_le] at h)<;>(simp (disch:=first | exact d_SN | fail) only [hb,c86,EVS,Nat.reduceAdd,Nat.reduceSub,Int.reduceToNat,Nat.reduceMul,Nat.reduceEqDiff,Nat.reduceLeDiff,Int.reduceEq,Int.reduceLT,Int.reduceLE,↓reduceIte])<;>(try clear hb))
  all_goals first
   |exact A0s (by decide) (by simp [A19,low]) (by simp [A0b,cutH]) (ih (i + 1) (by omega) (hs (by unfold okAt;omega)))
   |exact (decide_eq_false fun hn=>by have:=hn.2.2 i (by omega);unfold okAt at this;omega).symm
open Classical in
theorem Ajk (s:List UInt8):∀ h nx,lim T 86 [.str s] h nx=some (.bool (decide (A9m s)),h,nx):=by
 refine A05 tg86 rfl rfl rfl ?_
 simp (disch:=first | exact d_SN | fail) only [c86,EVS,Nat.reduceAdd,Nat.reduceSub,Int.reduceToNat,Nat.reduceMul,Nat.reduceEqDiff,Nat.reduceLeDiff,Int.reduceEq,Int.reduceLT,Int.reduceLE,↓reduceIte]
 repeat' (refine A1g (fun hb=>?_) (fun hb=>?_)<;>have h:=hb<;>(try simp only [decide_eq_true_eq,decide_eq_false_iff_not,Int.not_lt,Int.not_le] at h)<;>(simp (disch:=first | exact d_SN | fail) only [hb,c86,EVS,Nat.reduceAdd,Nat.reduceSub,Int.reduceToNat,Nat.reduceMul,Nat.reduceEqDiff,Nat.reduceLeDiff,Int.reduceEq,Int.reduceLT,Int.reduceLE,↓reduceIte])<;>(try clear hb))
 ·exact (decide_eq_false fun hn=>by have:=hn.1;omega).symm
 ·exact (decide_eq_false fun hn=>by have:=hn.2.1;omega).symm
 ·exact An6 s (by omega) (by omega) s.length 0 (by omega) (by omega)
def strip (s:List UInt8):List UInt8:=if 2 ≤ s.length∧s.take 2=[114,46] then s.drop 2 else s
theorem Aa5 (s p:List UInt8):∀ h nx,lim T 149 [.str s,.str p] h nx=some (.bool (decide (p.length ≤ s.length∧s.take p.length=p)),h,nx):=by
 refine A05 B1c rfl rfl rfl ?_
 simp (disch:=first | exact d_SN | fail) only [c149,EVS,Nat.reduceAdd,Nat.reduceSub,Int.reduceToNat,Nat.reduceMul,Nat.reduceEqDiff,Nat.reduceLeDiff,Int.reduceEq,Int.reduceLT,Int.reduceLE,↓reduceIte]
 repeat' (refine A1g (fun hb=>?_) (fun hb=>?_)<;>have h:=hb<;>(try simp only [decide_eq_true_eq,decide_eq_false_iff_not,Int.not_lt,Int.not_le] at h)<;>(simp (disch:=first | exact d_SN | fail) only [hb,c149,EVS,Nat.reduceAdd,Nat.reduceSub,Int.reduceToNat,Nat.reduceMul,Nat.reduceEqDiff,Nat.reduceLeDiff,Int.reduceEq,Int.reduceLT,Int.reduceLE,↓reduceIte])<;>(try clear hb))
 ·have h:p.length ≤ s.length:=by omega
  by_cases e:s.take p.length=p
  ·simp [e,h]
  ·simp [e,h]
 ·simp only [eq_comm (a:=false),decide_eq_false_iff_not];omega
theorem Afd (s p:List UInt8):∀ h nx,lim T 135 [.str s,.str p] h nx=some (.str (if p.length ≤ s.length∧s.take p.length=p then s.drop p.length else s),h,nx):=by
 refine A05 Aya rfl rfl rfl ?_
 simp (disch:=first | exact d_SN | fail) only [c135,Aa5,EVS,Nat.reduceAdd,Nat.reduceSub,Int.reduceToNat,Nat.reduceMul,Nat.reduceEqDiff,Nat.reduceLeDiff,Int.reduceEq,Int.reduceLT,Int.reduceLE,↓reduceIte]
 repeat' (refine A1g (fun hb=>?_) (fun hb=>?_)<;>have h:=hb<;>(try simp only [decide_eq_true_eq,decide_eq_false_iff_not,Int.not_lt,Int.not_le] at h)<;>(simp (disch:=first | exact d_SN | fail) only [hb,c135,Aa5,EVS,Nat.reduceAdd,Nat.reduceSub,Int.reduceToNat,Nat.reduceMul,Nat.reduceEqDiff,Nat.reduceLeDiff,Int.reduceEq,Int.reduceLT,Int.reduceLE,↓reduceIte])<;>(try clear hb))
 ·first | rfl | rw [if_pos h]
 ·first | rfl | rw [if_neg h]
theorem Aia (s:List UInt8):∀ h nx,lim T 87 [.str s,.str [114,46]] h nx=some (.str (strip s),h,nx):=by
 refine A05 tg87 rfl rfl rfl ?_
 simp (disch:=first | exact d_SN | fail) only [c87,Afd,EVS,Nat.reduceAdd,Nat.reduceSub,Int.reduceToNat,Nat.reduceMul,Nat.reduceEqDiff,Nat.reduceLeDiff,Int.reduceEq,Int.reduceLT,Int.reduceLE,↓reduceIte]
 rfl
open Classical in
theorem Ad5 (s:List UInt8):∀ h nx,lim T 55 [.str s] h nx=some (.bool (decide (A9m (strip s))),h,nx):=by
 refine A05 tg55 rfl rfl rfl ?_
 simp (disch:=first | exact d_SN | fail) only [c55,Aia,Ajk,EVS,Nat.reduceAdd,Nat.reduceSub,Int.reduceToNat,Nat.reduceMul,Nat.reduceEqDiff,Nat.reduceLeDiff,Int.reduceEq,Int.reduceLT,Int.reduceLE,↓reduceIte]
def A0y (k:Int):Int:=if k < 3 then 0 else if k < 5 then 1 else if k < 19 then 2 else if k=19 then 3 else if k=20 then 2 else if k ≤ 24 then 1 else 0
def howS (k:Int):Int:=if k < 3 then 0 else if k < 16 then 1 else if k < 19 then 2 else if k=19 then 3 else if k=20 then 4 else if k=21 then 5 else if k < 24 then 6 else if k=24 then 7 else 0
def Asz (k:Nat):List UInt8:=match k with
 |3=>[110,111,116] | 4=>[110,101,103] | 5=>[97,100,100] | 6=>[115,117,98] | 7=>[109,117,108] | 8=>[97,110,100] | 9=>[111,114] | 10=>[120,111,114] | 11=>[115,104,108] | 12=>[115,104,114] | 13=>[115,97,114]
 |14=>[117,100,105,118] | 15=>[117,114,101,109] | 16=>[101,113] | 17=>[117,108,116] | 18=>[115,108,116] | 19=>[105,116,101] | 20=>[99,111,110,99,97,116] | 21=>[101,120,116,114,97,99,116]
 |22=>[122,101,120,116] | 23=>[115,101,120,116] | 24=>[108,111,97,100] | _=>[]
def Aw9 (a:Option FV) (b:FV):Bool:=match a with
 |some v=>eqv v b
 |none=>false
theorem Apg {a:Option FV} {b:FV} (h:Aw9 a b=true):a=some b:=by
 cases a with
 |none=>cases h
 |some v=>rw [A5j h]
theorem Awd:∀ n:Nat,n < 25→eqvs (List.take (n * 3 + 3 - n * 3) (List.drop (n * 3) gl0)) [.str (Asz n),.int .i64 (A0y n),.int .i64 (howS n)]=true:=by decide +kernel
theorem As1:gl0.length=75:=by decide +kernel
theorem Azj:∀ n:Nat,n < 25→Aw9 (A0l gl0 none (n * 3 + 1)) (.int .i64 (A0y n))=true:=by decide +kernel
theorem Af5 (k:Int) (h0:0 ≤ k):∀ h nx,lim T 118 [.int .u8 k] h nx=some (.tup [if k ≤ 24 then .agg [.str (Asz k.toNat),.int .i64 (A0y k),.int .i64 (howS k)] else .agg [.str [],.int .i64 0,.int .i64 0],.bool (decide (0 < A0y k))],h,nx):=by
 refine A05 B05 rfl rfl rfl ?_
 simp (disch:=first | exact d_SN | fail) only [c118,EVS,Nat.reduceAdd,Nat.reduceSub,Int.reduceToNat,Nat.reduceMul,Nat.reduceEqDiff,Nat.reduceLeDiff,Int.reduceEq,Int.reduceLT,Int.reduceLE,↓reduceIte]
 repeat' (refine A1g (fun hb=>?_) (fun hb=>?_)<;>have h:=hb<;>(try simp only [decide_eq_true_eq,decide_eq_false_iff_not,Int.not_lt,Int.not_le] at h)<;>(simp (disch:=first | exact d_SN | fail) only [hb,c118,EVS,Nat.reduceAdd,Nat.reduceSub,Int.reduceToNat,Nat.reduceMul,Nat.reduceEqDiff,Nat.reduceLeDiff,Int.reduceEq,Int.reduceLT,Int.reduceLE,↓reduceIte])<;>(try clear hb))
 ·rw [if_neg (by omega),show A0y k=0 by unfold A0y;repeat' split<;>omega];rfl
 ·have h1:=A3w (Awd k.toNat (by omega))
  have h2:=Apg (Azj k.toNat (by omega))
  have h3:k.toNat * 3 + 3 ≤ gl0.length:=by rw [As1];omega
  have e:((k.toNat:Nat):Int)=k:=by omega
  rw [e] at h1 h2
  simp (disch:=first | exact d_SN | fail) only [c118,h1,h2,h3,EVS,Nat.reduceAdd,Nat.reduceSub,Int.reduceToNat,Nat.reduceMul,Nat.reduceEqDiff,Nat.reduceLeDiff,Int.reduceEq,Int.reduceLT,Int.reduceLE,↓reduceIte]
  rw [if_pos (by omega)]
theorem Acq (t:Te) (w:Int):∀ h nx,lim T 154 [.agg [.int .u8 (t).k,.int .i64 (t).w,.int .u64 (t).b,.str (t).s,.int .i64 (t).lo,.lst (t).e ((t).l.map tV)],.eptr [.int .i64 w] 0] h nx=some (.bool (decide (t.w ≠ w)),h,nx):=by
 refine A05 Azm rfl rfl (by simp [pures,A0i,A2m]) ?_
 simp (disch:=first | exact d_SN | fail) only [c154,TL,EVS,Nat.reduceAdd,Nat.reduceSub,Int.reduceToNat,Nat.reduceMul,Nat.reduceEqDiff,Nat.reduceLeDiff,Int.reduceEq,Int.reduceLT,Int.reduceLE,↓reduceIte]
 simp
theorem Akv (e:Bool) (l:List Te) (w:Int) (hl:l.length ≤ 1000000):∀ (k i:Nat),i + k=l.length→(∀ j,j < i→(l.getD j default).w=w) →
  @Ok Out (runs T [.code b169_0,.inL (some 4) b169_0,.inB 0,.code k169_1] [(0,.lst e (l.map tV)),(1,.fn 154 [.eptr [.int .i64 w] 0]),(7,.int .i64 l.length),(8,.int .i64 i)] [] 4) ⟨fun x=>@Ok FV (resV c169.res x) ⟨fun v=>∃ r:Int,v=.int .i64 r∧(0 ≤ r ↔ ¬ ∀ j,j < l.length→(l.getD j default).w=w)⟩⟩:=by
 intro k
 induction k with
 |zero =>
  intro i hi hok
  have:¬ (i:Int) < l.length:=by omega
  simp (disch:=first | exact d_SN | fail) only [unf b169_0.eq_1,unf k169_1.eq_1,c169,this,TL,EVS,Nat.reduceAdd,Nat.reduceSub,Int.reduceToNat,Nat.reduceMul,Nat.reduceEqDiff,Nat.reduceLeDiff,Int.reduceEq,Int.reduceLT,Int.reduceLE,↓reduceIte]
  exact ⟨_,rfl,⟨fun hh=>by omega,fun hh=>absurd (fun j hj=>hok j (by omega)) hh⟩⟩
 |succ k ih =>
  intro i hi hok
  have:(i:Int) < l.length:=by omega
  simp (disch:=first | exact d_SN | fail) only [unf b169_0.eq_1,c169,this,TL,Acq,EVS,Nat.reduceAdd,Nat.reduceSub,Int.reduceToNat,Nat.reduceMul,Nat.reduceEqDiff,Nat.reduceLeDiff,Int.reduceEq,Int.reduceLT,Int.reduceLE,↓reduceIte]
  repeat' (refine A1g (fun hb=>?_) (fun hb=>?_)<;>have h:=hb<;>(try simp only [decide_eq_true_eq,decide_eq_false_iff_not,Int.not_lt,Int.not_le] at h)<;>(simp (disch:=first | exact d_SN | fail) only [hb,c169,TL,EVS,Nat.reduceAdd,Nat.reduceSub,Int.reduceToNat,Nat.reduceMul,Nat.reduceEqDiff,Nat.reduceLeDiff,Int.reduceEq,Int.reduceLT,Int.reduceLE,↓reduceIte])<;>(try clear hb))
  ·exact ⟨_,rfl,⟨fun _ hh=>h (hh i (by omega)),fun _=>by omega⟩⟩
  ·exact A0s (by decide) (by simp [A19,low,lows,TL]) (by simp [cutH,A0b,A16,lows,low,TL]) (ih (i + 1) (by omega) (fun j hj=>by
    by_cases ej:j=i
    ·subst ej;omega
    ·exact hok j (by omega)))
theorem Ank (e:Bool) (l:List Te) (w:Int) (hl:l.length ≤ 1000000):∃ r:Int,(0 ≤ r ↔ ¬ ∀ j,j < l.length→(l.getD j default).w=w)∧∀ h nx,lim T 169 [.lst e (l.map tV),.fn 154 [.eptr [.int .i64 w] 0]] h nx=some (.int .i64 r,h,nx):=by
 obtain ⟨v,⟨r,rfl,hr⟩,hh⟩:=A4l (p:=fun v=>∃ r:Int,v=.int .i64 r∧(0 ≤ r ↔ ¬ ∀ j,j < l.length→(l.getD j default).w=w)) Aze rfl (args:=[.lst e (l.map tV),.fn 154 [.eptr [.int .i64 w] 0]]) rfl (by simp [pures,A0i,A2m]) (by
  simp (disch:=first | exact d_SN | fail) only [c169,TL,EVS,Nat.reduceAdd,Nat.reduceSub,Int.reduceToNat,Nat.reduceMul,Nat.reduceEqDiff,Nat.reduceLeDiff,Int.reduceEq,Int.reduceLT,Int.reduceLE,↓reduceIte]
  exact Akv e l w hl l.length 0 (by omega) (by omega))
 exact ⟨r,hr,hh⟩
def allW (l:List Te) (w:Int):Prop:=∀ j,j < l.length→(l.getD j default).w=w
open Classical in
theorem Aih (e:Bool) (l:List Te) (w:Int) (hl:l.length ≤ 1000000) (h:Heap) (nx:Nat):isfR T c153 [.lst e (l.map tV),.fn 154 [.eptr [.int .i64 w] 0]] h nx=some (.bool (decide (¬ allW l w)),h,nx):=by
 obtain ⟨r,hr,hh⟩:=Ank e l w hl
 refine A7g rfl ?_
 simp (disch:=first | exact d_SN | fail) only [c153,TL,hh,EVS,Nat.reduceAdd,Nat.reduceSub,Int.reduceToNat,Nat.reduceMul,Nat.reduceEqDiff,Nat.reduceLeDiff,Int.reduceEq,Int.reduceLT,Int.reduceLE,↓reduceIte]
 exact decide_eq_decide.2 hr
theorem Anj (a b:FV) (h:Heap) (nx:Nat):lim T 153 [a,b] h nx=@FI.B (List FV) (FV × Heap × Nat) (frzs h deep [a,b]) ⟨fun q=>isfR T c153 q h nx⟩:=A6v Azl rfl rfl
def A1p (w:Int):Prop:=1 ≤ w∧w ≤ 64
instance (w:Int):Decidable (A1p w):=inferInstanceAs (Decidable (_∧_))
def subW (t:Te) (i:Nat):Int:=(t.l.getD i default).w
def A1x (t:Te) (how:Int):Prop :=
 if how=1 then allW t.l t.w else if how=2 then t.w=1∧subW t 1=subW t 0 else if how=3 then subW t 0=1∧subW t 1=t.w∧subW t 2=t.w
 else if how=4 then A1p (subW t 0)∧A1p (subW t 1)∧subW t 0 + subW t 1=t.w
 else if how=5 then 0 ≤ t.lo∧A1p (subW t 0)∧t.w ≤ subW t 0∧t.lo ≤ subW t 0 - t.w
 else if how=6 then subW t 0 ≤ t.w else A2n t.w
open Classical in
theorem Afw (t:Te) (k:Int) (hk:3 ≤ k∧k ≤ 24) (hp:t.l.length=A0y k) (hw:A1p t.w):∀ h nx,lim T 119 [.agg [.int .u8 (t).k,.int .i64 (t).w,.int .u64 (t).b,.str (t).s,.int .i64 (t).lo,.lst (t).e ((t).l.map tV)],.int .i64 (howS k)] h nx=some (.bool (decide (A1x t (howS k))),h,nx):=by
 obtain ⟨w1,w2⟩:=id hw
 refine A05 Ayh rfl rfl (by simp [pures,A0i,A2m]) ?_
 have hl1:1 ≤ t.l.length:=by unfold A0y at hp;(repeat' split at hp)<;>omega
 have cs:(howS k=1) ∨ (howS k=2∧2 ≤ t.l.length) ∨ (howS k=3∧3 ≤ t.l.length) ∨ (howS k=4∧2 ≤ t.l.length) ∨ howS k=5 ∨ howS k=6 ∨ howS k=7:=by
  unfold howS A0y at *
  (repeat' split)<;>(repeat' split at hp)<;>omega
 have hl2:t.l.length ≤ 1000000:=by unfold A0y at hp;(repeat' split at hp)<;>omega
 rcases cs with e | ⟨e,h2⟩ | ⟨e,h2⟩ | ⟨e,h2⟩ | e | e | e<;>rw [e]
 ·have hc:=Aih t.e t.l t.w hl2
  simp (disch:=first | exact d_SN | fail) only [c119,TL,Anj,Ahk A0a,hc,EVS,Nat.reduceAdd,Nat.reduceSub,Int.reduceToNat,Nat.reduceMul,Nat.reduceEqDiff,Nat.reduceLeDiff,Int.reduceEq,Int.reduceLT,Int.reduceLE,↓reduceIte]
  simp [A1x]
 ·simp (disch:=first | exact d_SN | fail) only [c119,TL,EVS,Nat.reduceAdd,Nat.reduceSub,Int.reduceToNat,Nat.reduceMul,Nat.reduceEqDiff,Nat.reduceLeDiff,Int.reduceEq,Int.reduceLT,Int.reduceLE,↓reduceIte]
  repeat' (refine A1g (fun hb=>?_) (fun hb=>?_)<;>have h:=hb<;>(try simp only [decide_eq_true_eq,decide_eq_false_iff_not,Int.not_lt,Int.not_le] at h)<;>(simp (disch:=first | exact d_SN | fail) only [hb,c119,TL,EVS,Nat.reduceAdd,Nat.reduceSub,Int.reduceToNat,Nat.reduceMul,Nat.reduceEqDiff,Nat.reduceLeDiff,Int.reduceEq,Int.reduceLT,Int.reduceLE,↓reduceIte])<;>(try clear hb))
  all_goals (simp only [A1x,Int.reduceEq,↓reduceIte];unfold subW;(try unfold A1p);first | exact decide_eq_decide.2 (by omega) | exact (decide_eq_false (by omega)).symm)
 ·simp (disch:=first | exact d_SN | fail) only [c119,TL,EVS,Nat.reduceAdd,Nat.reduceSub,Int.reduceToNat,Nat.reduceMul,Nat.reduceEqDiff,Nat.reduceLeDiff,Int.reduceEq,Int.reduceLT,Int.reduceLE,↓reduceIte]
  repeat' (refine A1g (fun hb=>?_) (fun hb=>?_)<;>have h:=hb<;>(try simp only [decide_eq_true_eq,decide_eq_false_iff_not,Int.not_lt,Int.not_le] at h)<;>(simp (disch:=first | exact d_SN | fail) only [hb,c119,TL,EVS,Nat.reduceAdd,Nat.reduceSub,Int.reduceToNat,Nat.reduceMul,Nat.reduceEqDiff,Nat.reduceLeDiff,Int.reduceEq,Int.reduceLT,Int.reduceLE,↓reduceIte])<;>(try clear hb))
  all_goals (simp only [A1x,Int.reduceEq,↓reduceIte];unfold subW;(try unfold A1p);first | exact decide_eq_decide.2 (by omega) | exact (decide_eq_false (by omega)).symm)
 ·simp (disch:=first | exact d_SN | fail) only [c119,TL,A1j,EVS,Nat.reduceAdd,Nat.reduceSub,Int.reduceToNat,Nat.reduceMul,Nat.reduceEqDiff,Nat.reduceLeDiff,Int.reduceEq,Int.reduceLT,Int.reduceLE,↓reduceIte]
  repeat' (refine A1g (fun hb=>?_) (fun hb=>?_)<;>have h:=hb<;>(try simp only [decide_eq_true_eq,decide_eq_false_iff_not,Int.not_lt,Int.not_le] at h)<;>(simp (disch:=first | exact d_SN | fail) only [hb,c119,TL,A1j,EVS,Nat.reduceAdd,Nat.reduceSub,Int.reduceToNat,Nat.reduceMul,Nat.reduceEqDiff,Nat.reduceLeDiff,Int.reduceEq,Int.reduceLT,Int.reduceLE,↓reduceIte])<;>(try clear hb))
  all_goals (simp only [A1x,Int.reduceEq,↓reduceIte];unfold subW;(try unfold A1p);first | exact decide_eq_decide.2 (by omega) | exact (decide_eq_false (by omega)).symm)
 ·simp (disch:=first | exact d_SN | fail) only [c119,TL,A1j,EVS,Nat.reduceAdd,Nat.reduceSub,Int.reduceToNat,Nat.reduceMul,Nat.reduceEqDiff,Nat.reduceLeDiff,Int.reduceEq,Int.reduceLT,Int.reduceLE,↓reduceIte]
  repeat' (refine A1g (fun hb=>?_) (fun hb=>?_)<;>have h:=hb<;>(try simp only [decide_eq_true_eq,decide_eq_false_iff_not,Int.not_lt,Int.not_le] at h)<;>(simp (disch:=first | exact d_SN | fail) only [hb,c119,TL,A1j,EVS,Nat.reduceAdd,Nat.reduceSub,Int.reduceToNat,Nat.reduceMul,Nat.reduceEqDiff,Nat.reduceLeDiff,Int.reduceEq,Int.reduceLT,Int.reduceLE,↓reduceIte])<;>(try clear hb))
  all_goals (simp only [A1x,Int.reduceEq,↓reduceIte];unfold subW;(try unfold A1p);first | exact decide_eq_decide.2 (by omega) | exact (decide_eq_false (by omega)).symm)
 ·simp (disch:=first | exact d_SN | fail) only [c119,TL,EVS,Nat.reduceAdd,Nat.reduceSub,Int.reduceToNat,Nat.reduceMul,Nat.reduceEqDiff,Nat.reduceLeDiff,Int.reduceEq,Int.reduceLT,Int.reduceLE,↓reduceIte]
  simp [A1x,subW]
 ·simp (disch:=first | exact d_SN | fail) only [c119,TL,A3a,EVS,Nat.reduceAdd,Nat.reduceSub,Int.reduceToNat,Nat.reduceMul,Nat.reduceEqDiff,Nat.reduceLeDiff,Int.reduceEq,Int.reduceLT,Int.reduceLE,↓reduceIte]
  simp [A1x,subW]
def A1r (t:Te):Prop:=A1p t.w∧(if 3 ≤ t.k∧t.k ≤ 24 then t.b=0∧t.s=[]∧(t.lo=0 ∨ howS t.k=5)∧t.l.length=A0y t.k∧A1x t (howS t.k)
 else t.l.length=0∧t.lo=0∧((t.k=1∧t.s=[]∧okS t.w t.b) ∨ (t.k=2∧t.b=0∧A9m (strip t.s))))
theorem Aef (k:Int):0 < A0y k ↔ 3 ≤ k∧k ≤ 24:=by
 unfold A0y;(repeat' split)<;>omega
open Classical in
theorem Ak7 (t:Te) (h0:0 ≤ t.k) (hl:t.l.length ≤ 1000000):∀ h nx,lim T 72 [.agg [.int .u8 (t).k,.int .i64 (t).w,.int .u64 (t).b,.str (t).s,.int .i64 (t).lo,.lst (t).e ((t).l.map tV)]] h nx=some (.bool (decide (A1r t)),h,nx):=by
 have hsh:=Af5 t.k h0
 have hpp:=Aef t.k
 have hwd:A1p t.w ↔ 1 ≤ t.w∧t.w ≤ 64:=Iff.rfl
 by_cases hw:1 ≤ t.w∧t.w ≤ 64
 ·by_cases hk:3 ≤ t.k∧t.k ≤ 24
  ·rw [if_pos hk.2,decide_eq_true (hpp.2 hk)] at hsh
   refine A05 tg72 rfl rfl (by simp [pures,A0i,A2m]) ?_
   by_cases hp:(t.l.length:Int)=A0y t.k
   ·have hwd:=Afw t t.k hk hp hw
    simp (disch:=first | exact d_SN | fail) only [c72,TL,A1j,hw,hsh,hwd,EVS,Nat.reduceAdd,Nat.reduceSub,Int.reduceToNat,Nat.reduceMul,Nat.reduceEqDiff,Nat.reduceLeDiff,Int.reduceEq,Int.reduceLT,Int.reduceLE,↓reduceIte]
    repeat' (refine A1g (fun hb=>?_) (fun hb=>?_)<;>have h:=hb<;>(try simp only [decide_eq_true_eq,decide_eq_false_iff_not,Int.not_lt,Int.not_le] at h)<;>(simp (disch:=first | exact d_SN | fail) only [hb,c72,TL,hwd,EVS,Nat.reduceAdd,Nat.reduceSub,Int.reduceToNat,Nat.reduceMul,Nat.reduceEqDiff,Nat.reduceLeDiff,Int.reduceEq,Int.reduceLT,Int.reduceLE,↓reduceIte])<;>(try clear hb))
    all_goals (unfold A1r;rw [if_pos hk])
    all_goals first | (simp_all;done) | (simp_all;omega)
   ·simp (disch:=first | exact d_SN | fail) only [c72,TL,A1j,hw,hsh,EVS,Nat.reduceAdd,Nat.reduceSub,Int.reduceToNat,Nat.reduceMul,Nat.reduceEqDiff,Nat.reduceLeDiff,Int.reduceEq,Int.reduceLT,Int.reduceLE,↓reduceIte]
    repeat' (refine A1g (fun hb=>?_) (fun hb=>?_)<;>have h:=hb<;>(try simp only [decide_eq_true_eq,decide_eq_false_iff_not,Int.not_lt,Int.not_le] at h)<;>(simp (disch:=first | exact d_SN | fail) only [hb,c72,TL,hp,EVS,Nat.reduceAdd,Nat.reduceSub,Int.reduceToNat,Nat.reduceMul,Nat.reduceEqDiff,Nat.reduceLeDiff,Int.reduceEq,Int.reduceLT,Int.reduceLE,↓reduceIte])<;>(try clear hb))
    all_goals (unfold A1r;rw [if_pos hk])
    all_goals first | (simp_all;done) | (simp_all;omega)
  ·have hpn:¬ 0 < A0y t.k:=fun hh=>hk (hpp.1 hh)
   rw [decide_eq_false hpn] at hsh
   refine A05 tg72 rfl rfl (by simp [pures,A0i,A2m]) ?_
   have hif:∃ cs:FV,(if t.k ≤ 24 then FV.agg [.str (Asz t.k.toNat),.int .i64 (A0y t.k),.int .i64 (howS t.k)] else FV.agg [.str [],.int .i64 0,.int .i64 0])=cs∧∃ a b c,cs=.agg [.str a,.int .i64 b,.int .i64 c]:=by
    split<;>exact ⟨_,rfl,_,_,_,rfl⟩
   obtain ⟨cs,hcs,a,b,c,rfl⟩:=hif
   rw [hcs] at hsh
   simp (disch:=first | exact d_SN | fail) only [c72,TL,A1j,hw,hsh,EVS,Nat.reduceAdd,Nat.reduceSub,Int.reduceToNat,Nat.reduceMul,Nat.reduceEqDiff,Nat.reduceLeDiff,Int.reduceEq,Int.reduceLT,Int.reduceLE,↓reduceIte]
   repeat' (refine A1g (fun hb=>?_) (fun hb=>?_)<;>have h:=hb<;>(try simp only [decide_eq_true_eq,decide_eq_false_iff_not,Int.not_lt,Int.not_le] at h)<;>(simp (disch:=first | exact d_SN | fail) only [hb,c72,TL,A81,Ad5,EVS,Nat.reduceAdd,Nat.reduceSub,Int.reduceToNat,Nat.reduceMul,Nat.reduceEqDiff,Nat.reduceLeDiff,Int.reduceEq,Int.reduceLT,Int.reduceLE,↓reduceIte])<;>(try clear hb))
   all_goals (unfold A1r;rw [if_neg hk])
   all_goals first | (simp_all;done) | (simp_all;omega)
 ·refine A05 tg72 rfl rfl (by simp [pures,A0i,A2m]) ?_
  simp (disch:=first | exact d_SN | fail) only [c72,TL,A1j,hw,EVS,Nat.reduceAdd,Nat.reduceSub,Int.reduceToNat,Nat.reduceMul,Nat.reduceEqDiff,Nat.reduceLeDiff,Int.reduceEq,Int.reduceLT,Int.reduceLE,↓reduceIte]
  exact (decide_eq_false fun hh=>hw hh.1).symm
abbrev Mem:=List (Int × Int)
def ceV (p:Int × Int):FV:=.agg [.int .u64 p.1,.int .u8 p.2]
theorem pu_m (l:Mem):pures (l.map ceV)=true:=A4s (fun _=>rfl) _
theorem lo_m (b:Nat) (l:Mem):lows b (l.map ceV)=true:=A5a (fun _=>rfl) _
theorem gd_m {l:Mem} {i:Nat} {d:FV} (h:i < l.length):(l.map ceV).getD i d=.agg [.int .u64 (l.getD i (0,0)).1,.int .u8 (l.getD i (0,0)).2]:=getD_map _ h
theorem A0p:type_of% (And.intro pu_m <| And.intro lo_m <| @gd_m):=And.intro pu_m <| And.intro lo_m <| @gd_m
theorem d_SL {P:Prop} (h:P:=by first|omega|(simp only[EVL]<;>omega)|(simp only[A0n,Nat.reduceEqDiff,↓reduceIte];done)|assumption|(simp (disch:=omega) only[A06,A0a,A04, *];done)|(simp only [A0p];done)|with_unfolding_all rfl):P:=h
theorem Aam (i:Nat):((i:Int) - 1).toNat=i - 1:=by omega
theorem upTo {p:Nat→Prop} {i:Nat} (h:∀ j,j < i→p j) (hi:p i):∀ j,j < i + 1→p j:=fun j hj=>by
 by_cases e:j=i
 ·subst e;exact hi
 ·exact h j (by omega)
def Ad0 (m:Mem) (i:Nat):Prop:=(m.getD i (0,0)).2 ≠ 0∧(i ≠ 0→(m.getD (i - 1) (0,0)).1 < (m.getD i (0,0)).1)
def memS (m:Mem):Prop:=m.length ≤ 4096∧∀ i,i < m.length→Ad0 m i
open Classical in
noncomputable def chkM (m:Mem):Int:=if memS m then 0 else 8
theorem Aku {m:Mem} (h1:m.length ≤ 4096) (h2:∀ i,i < m.length→Ad0 m i):0=chkM m:=(if_pos ⟨h1,h2⟩).symm
theorem Abi {m:Mem} (h:¬ memS m):8=chkM m:=(if_neg h).symm
theorem A92 (e:Bool) (m:Mem) (hl:m.length ≤ 4096):∀ (k i:Nat),i + k=m.length→(∀ j,j < i→Ad0 m j) →
  @Ok Out (runs T [.code b15_0,.inL (some 7) b15_0,.inB 0,.code k15_1] [(0,.lst e (m.map ceV)),(8,.lst e (m.map ceV)),(9,.int .i64 m.length),(10,.int .i64 i)] [] 7) ⟨fun x=>resV c15.res x=some (.int .i64 (chkM m))⟩:=by
 intro k
 induction k with
 |zero =>
  intro i hi hok
  have:¬ (i:Int) < m.length:=by omega
  simp (disch:=first | exact d_SL | fail) only [unf b15_0.eq_1,unf k15_1.eq_1,c15,this,EVS,Nat.reduceAdd,Nat.reduceSub,Int.reduceToNat,Nat.reduceMul,Nat.reduceEqDiff,Nat.reduceLeDiff,Int.reduceEq,Int.reduceLT,Int.reduceLE,↓reduceIte]
  exact Aku hl fun j hj=>hok j (by omega)
 |succ k ih =>
  intro i hi hok
  have:(i:Int) < m.length:=by omega
  simp (disch:=first | exact d_SL | fail) only [unf b15_0.eq_1,c15,this,A0p,EVS,Nat.reduceAdd,Nat.reduceSub,Int.reduceToNat,Nat.reduceMul,Nat.reduceEqDiff,Nat.reduceLeDiff,Int.reduceEq,Int.reduceLT,Int.reduceLE,↓reduceIte]
  repeat' (refine A1g (fun hb=>?_) (fun hb=>?_)<;>have h:=hb<;>(try simp only [decide_eq_true_eq,decide_eq_false_iff_not,Int.not_lt,Int.not_le] at h)<;>(simp (disch:=first | exact d_SL | fail) only [hb,c15,A0p,gd_m,Aam,EVS,Nat.reduceAdd,Nat.reduceSub,Int.reduceToNat,Nat.reduceMul,Nat.reduceEqDiff,Nat.reduceLeDiff,Int.reduceEq,Int.reduceLT,Int.reduceLE,↓reduceIte])<;>(try clear hb))
  all_goals first
   |exact A0s (by decide) (by simp [A19,low,lows,A0p]) (by simp [cutH,A0b,A16,lows,low,A0p]) (ih (i + 1) (by omega) (upTo hok ⟨by omega,fun _=>by omega⟩))
   |exact Abi fun hg=>by
     have:=hg.2 i (by omega);unfold Ad0 at this;omega
theorem A2h (e:Bool) (m:Mem) (h0:m.length ≤ 9223372036854775807):∀ h nx,lim T 15 [.lst e (m.map ceV)] h nx=some (.int .i64 (chkM m),h,nx):=by
 refine A05 tg15 rfl rfl (by simp [pures,A0i,pu_m]) ?_
 simp (disch:=first | exact d_SL | fail) only [c15,A0p,EVS,Nat.reduceAdd,Nat.reduceSub,Int.reduceToNat,Nat.reduceMul,Nat.reduceEqDiff,Nat.reduceLeDiff,Int.reduceEq,Int.reduceLT,Int.reduceLE,↓reduceIte]
 repeat' (refine A1g (fun hb=>?_) (fun hb=>?_)<;>have h:=hb<;>(try simp only [decide_eq_true_eq,decide_eq_false_iff_not,Int.not_lt,Int.not_le] at h)<;>(simp (disch:=first | exact d_SL | fail) only [hb,c15,A0p,EVS,Nat.reduceAdd,Nat.reduceSub,Int.reduceToNat,Nat.reduceMul,Nat.reduceEqDiff,Nat.reduceLeDiff,Int.reduceEq,Int.reduceLT,Int.reduceLE,↓reduceIte])<;>(try clear hb))
 ·exact Abi fun hg=>by have:=hg.1;omega
 ·exact A92 e m (by omega) m.length 0 (by omega) (by omega)
theorem A95 (a b c:Int):∀ h nx,lim T 82 [.agg [.int .u64 a,.int .u8 b],.int .u64 c] h nx=some (.int .i64 (if a < c then -1 else if c < a then 1 else 0),h,nx):=by
 refine A05 tg82 rfl rfl rfl ?_
 simp (disch:=first | exact d_SL | fail) only [c82,EVS,Nat.reduceAdd,Nat.reduceSub,Int.reduceToNat,Nat.reduceMul,Nat.reduceEqDiff,Nat.reduceLeDiff,Int.reduceEq,Int.reduceLT,Int.reduceLE,↓reduceIte]
 repeat' (refine A1g (fun hb=>?_) (fun hb=>?_)<;>have h:=hb<;>(try simp only [decide_eq_true_eq,decide_eq_false_iff_not,Int.not_lt,Int.not_le] at h)<;>(simp (disch:=first | exact d_SL | fail) only [hb,c82,EVS,Nat.reduceAdd,Nat.reduceSub,Int.reduceToNat,Nat.reduceMul,Nat.reduceEqDiff,Nat.reduceLeDiff,Int.reduceEq,Int.reduceLT,Int.reduceLE,↓reduceIte])<;>(try clear hb))
 all_goals ((repeat' split)<;>first | rfl | omega)
def lbM (m:Mem) (a:Int):Nat:=(m.takeWhile fun p=>decide (p.1 < a)).length
theorem Axy (m:Mem) (a:Int):lbM m a ≤ m.length:=(List.takeWhile_prefix _).length_le
theorem Acr {m:Mem} (h:∀ i,i < m.length→Ad0 m i):∀ (k i:Nat),i + k + 1 < m.length→(m.getD i (0,0)).1 < (m.getD (i + k + 1) (0,0)).1:=by
 intro k
 induction k with
 |zero=>intro i hi;have:=(h (i + 1) (by omega)).2 (by omega);simpa using this
 |succ k ih =>
  intro i hi
  have h1:=ih i (by omega)
  have h2:=(h (i + (k + 1) + 1) (by omega)).2 (by omega)
  have e:i + (k + 1) + 1 - 1=i + k + 1:=by omega
  rw [e] at h2
  omega
theorem Ao2:∀ (m:Mem) (a:Int) (i:Nat),i < lbM m a→(m.getD i (0,0)).1 < a:=by
 intro m
 induction m with
 |nil=>intro a i h;simp [lbM] at h
 |cons p m ih =>
  intro a i h
  by_cases hp:p.1 < a
  ·cases i with
   |zero=>simpa using hp
   |succ i =>
    have:i < lbM m a:=by simp [lbM,List.takeWhile_cons,hp] at h;simpa [lbM] using h
    simpa using ih a i this
  ·simp [lbM,List.takeWhile_cons,hp] at h
theorem Atm:∀ (m:Mem) (a:Int),lbM m a < m.length→a ≤ (m.getD (lbM m a) (0,0)).1:=by
 intro m
 induction m with
 |nil=>intro a h;simp at h
 |cons p m ih =>
  intro a h
  by_cases hp:p.1 < a
  ·have e:lbM (p::m) a=lbM m a + 1:=by simp [lbM,List.takeWhile_cons,hp]
   rw [e] at h ⊢
   simpa using ih a (by simpa using h)
  ·have e:lbM (p::m) a=0:=by simp [lbM,List.takeWhile_cons,hp]
   rw [e];simp;omega
theorem Adk {m:Mem} (hs:∀ i,i < m.length→Ad0 m i) (a:Int) (i:Nat) (hi:i < m.length):(m.getD i (0,0)).1 < a ↔ i < lbM m a:=by
 constructor
 ·intro h
  rcases Nat.lt_or_ge i (lbM m a) with h1 | h1
  ·exact h1
  ·exfalso
   have h2:=Atm m a (by omega)
   rcases Nat.eq_or_lt_of_le h1 with h3 | h3
   ·rw [h3] at h2;omega
   ·have:=Acr hs (i - lbM m a - 1) (lbM m a) (by omega)
    rw [show lbM m a + (i - lbM m a - 1) + 1=i by omega] at this
    omega
 ·exact Ao2 m a i
def A5h (m:Mem) (a:Int):Bool:=decide (lbM m a < m.length∧(m.getD (lbM m a) (0,0)).1=a)
theorem Aph (i j:Nat) (h:i + j ≤ 1000000):shr .u64 ((i:Int) + (j:Int)) 1=(((i + j) / 2:Nat):Int):=by
 rw [show (1:Int)=((1:Nat):Int) from rfl,All (by omega) (by omega),Nat.shiftRight_eq_div_pow]
 omega
theorem Ao3 (e:Bool) (m:Mem) (a:Int) (hs:memS m):∀ (k i j:Nat),j - i ≤ k→i ≤ lbM m a→lbM m a ≤ j→j ≤ m.length →
  @Ok Out (runs T [.code b81_0,.inL (some 8) b81_0,.inB 0,.code k81_1] [(0,.lst e (m.map ceV)),(1,.int .u64 a),(2,.fn 82 []),(8,.int .i64 m.length),(9,.int .i64 i),(10,.int .i64 j)] [] 8) ⟨fun x=>resV c81.res x=some (.tup [.int .i64 (lbM m a),.bool (A5h m a)])⟩:=by
 obtain ⟨h1,h2⟩:=hs
 intro k
 induction k with
 |zero =>
  intro i j hk hi hj hm
  have e:i=lbM m a:=by omega
  have:¬ (i:Int) < j:=by omega
  simp (disch:=first | exact d_SL | fail) only [unf b81_0.eq_1,unf k81_1.eq_1,c81,this,A0p,EVS,Nat.reduceAdd,Nat.reduceSub,Int.reduceToNat,Nat.reduceMul,Nat.reduceEqDiff,Nat.reduceLeDiff,Int.reduceEq,Int.reduceLT,Int.reduceLE,↓reduceIte]
  repeat' (refine A1g (fun hb=>?_) (fun hb=>?_)<;>have h:=hb<;>(try simp only [decide_eq_true_eq,decide_eq_false_iff_not,Int.not_lt,Int.not_le] at h)<;>(simp (disch:=first | exact d_SL | fail) only [hb,c81,A0p,gd_m,A95,EVS,Nat.reduceAdd,Nat.reduceSub,Int.reduceToNat,Nat.reduceMul,Nat.reduceEqDiff,Nat.reduceLeDiff,Int.reduceEq,Int.reduceLT,Int.reduceLE,↓reduceIte])<;>(try clear hb))
  ·rw [← e]
   congr 2;simp only [List.cons.injEq,FV.bool.injEq,and_true,true_and]
   unfold A5h
   refine decide_eq_decide.2 ?_
   rw [← e]
   constructor
   ·intro hx
    refine ⟨by omega,?_⟩
    split at hx
    ·omega
    ·split at hx<;>omega
   ·rintro ⟨_,hx⟩;rw [if_neg (by omega),if_neg (by omega)]
  ·rw [e]
   congr 2;simp only [List.cons.injEq,FV.bool.injEq,and_true,true_and]
   exact (decide_eq_false fun hx=>by have:=hx.1;omega).symm
 |succ k ih =>
  intro i j hk hi hj hm
  by_cases hij:i < j
  ·have:(i:Int) < j:=by omega
   have hh:=Aph i j (by omega)
   have hc:=Adk h2 a ((i + j) / 2) (by omega)
   simp (disch:=first | exact d_SL | fail) only [unf b81_0.eq_1,c81,this,A0p,hh,A95,EVS,Nat.reduceAdd,Nat.reduceSub,Int.reduceToNat,Nat.reduceMul,Nat.reduceEqDiff,Nat.reduceLeDiff,Int.reduceEq,Int.reduceLT,Int.reduceLE,↓reduceIte]
   repeat' (refine A1g (fun hb=>?_) (fun hb=>?_)<;>have h:=hb<;>(try simp only [decide_eq_true_eq,decide_eq_false_iff_not,Int.not_lt,Int.not_le] at h)<;>(simp (disch:=first | exact d_SL | fail) only [hb,c81,A0p,gd_m,A95,EVS,Nat.reduceAdd,Nat.reduceSub,Int.reduceToNat,Nat.reduceMul,Nat.reduceEqDiff,Nat.reduceLeDiff,Int.reduceEq,Int.reduceLT,Int.reduceLE,↓reduceIte])<;>(try clear hb))
   ·have:(m.getD ((i + j) / 2) (0,0)).1 < a:=by
     rcases Int.lt_or_le (m.getD ((i + j) / 2) (0,0)).1 a with h0 | h0
     ·exact h0
     ·rw [if_neg (by omega)] at h;split at h<;>omega
    exact A0s (by decide) (by simp [A19,low,lows,A0p]) (by simp [cutH,A0b,A16,lows,low,A0p]) (ih ((i + j) / 2 + 1) j (by omega) (by omega) hj hm)
   ·have:¬ (m.getD ((i + j) / 2) (0,0)).1 < a:=fun h0=>by
     rw [if_pos h0] at h;omega
    exact A0s (by decide) (by simp [A19,low,lows,A0p]) (by simp [cutH,A0b,A16,lows,low,A0p]) (ih i ((i + j) / 2) (by omega) hi (by omega) (by omega))
  ·exact ih i j (by omega) hi hj hm
theorem Aq0 (e:Bool) (m:Mem) (a:Int) (hs:memS m):∀ h nx,lim T 81 [.lst e (m.map ceV),.int .u64 a,.fn 82 []] h nx=some (.tup [.int .i64 (lbM m a),.bool (A5h m a)],h,nx):=by
 have h1:=hs.1
 refine A05 tg81 rfl rfl (by simp [pures,A0i,pu_m]) ?_
 simp (disch:=first | exact d_SL | fail) only [c81,A0p,EVS,Nat.reduceAdd,Nat.reduceSub,Int.reduceToNat,Nat.reduceMul,Nat.reduceEqDiff,Nat.reduceLeDiff,Int.reduceEq,Int.reduceLT,Int.reduceLE,↓reduceIte]
 exact Ao3 e m a hs m.length 0 m.length (by omega) (by omega) (Axy m a) (by omega)
def A35 (m:Mem) (a:Int):Int:=if A5h m a=true then (m.getD (lbM m a) (0,0)).2 else 0
def A1i (w at_:Int) (i:Nat):Int:=(at_ + i) % 18446744073709551616 % 2 ^ w.toNat
def ldS (m:Mem) (w at_:Int):Nat→Nat
 |0=>0
 |i + 1=>ldS m w at_ i ||| (A35 m (A1i w at_ i)).toNat <<< (8 * i)
def okM (m:Mem):Prop:=∀ p ∈ m,0 ≤ p.1∧p.1 < 18446744073709551616∧0 ≤ p.2∧p.2 < 256
theorem Acf {m:Mem} (h:okM m) (a:Int):0 ≤ A35 m a∧A35 m a < 256:=by
 unfold A35
 split
 ·rename_i hf
  unfold A5h at hf
  have:=h _ (A0r (d:=(0,0)) (of_decide_eq_true hf).1)
  omega
 ·omega
theorem Aea {m:Mem} (h:okM m) (w at_:Int):∀ n,ldS m w at_ n < 2 ^ (8 * n):=by
 intro n
 induction n with
 |zero=>simp [ldS]
 |succ n ih =>
  have hb:=Acf h (A1i w at_ n)
  simp only [ldS]
  refine Nat.or_lt_two_pow (Nat.lt_of_lt_of_le ih (Nat.pow_le_pow_right (by decide) (by omega))) ?_
  rw [Nat.shiftLeft_eq,show 8 * (n + 1)=8 + 8 * n by omega,Nat.pow_add]
  exact Nat.mul_lt_mul_of_pos_right (by omega) (Nat.pow_pos (by decide))
theorem Agc (e:Bool) (m:Mem) (w at_:Int) (n:Nat) (hs:memS m) (hm:okM m) (hw:1 ≤ w) (hw':w ≤ 64) (ha:0 ≤ at_) (ha':at_ < 18446744073709551616) (hn:n ≤ 8):∀ (k i:Nat),i + k=n →
  @Ok Out (runs T [.code b50_0,.inL (some 5) b50_0,.inB 0,.code k50_1] [(0,.lst e (m.map ceV)),(1,.int .i64 w),(2,.int .u64 at_),(9,.int .u64 (ldS m w at_ i:Nat)),(15,.int .i64 n),(16,.int .i64 i)] [] 5) ⟨fun x=>resV c50.res x=some (.int .u64 (ldS m w at_ n:Nat))⟩:=by
 obtain ⟨h1,h2⟩:=hs
 intro k
 induction k with
 |zero =>
  intro i hi
  have:¬ (i:Int) < n:=by omega
  simp (disch:=first | exact d_SL | fail) only [unf b50_0.eq_1,unf k50_1.eq_1,c50,this,A0p,EVS,Nat.reduceAdd,Nat.reduceSub,Int.reduceToNat,Nat.reduceMul,Nat.reduceEqDiff,Nat.reduceLeDiff,Int.reduceEq,Int.reduceLT,Int.reduceLE,↓reduceIte]
  rw [show i=n by omega]
 |succ k ih =>
  intro i hi
  have:(i:Int) < n:=by omega
  have hw1:IntKind.u64.wrap i=i:=by rw [Ahv (by omega)];omega
  have hw2:IntKind.u64.wrap (at_ + i)=(at_ + i) % 18446744073709551616:=Ahv (by omega)
  have hm1:=A9b (a:=(at_ + i) % 18446744073709551616) (n:=w.toNat) (by omega) (by omega) (by omega)
  have hb:=Aq0 e m (A1i w at_ i) ⟨h1,h2⟩
  unfold A1i at hb
  have hbd:=Acf hm (A1i w at_ i)
  have hbv:A35 m (A1i w at_ i)=if A5h m (A1i w at_ i)=true then (m.getD (lbM m (A1i w at_ i)) (0,0)).2 else 0:=rfl
  have hlt:=Aea hm w at_ i
  have hp8:(2:Nat) ^ (8 * i) ≤ 2 ^ 56:=Nat.pow_le_pow_right (by decide) (by omega)
  have hsl:=Alz (a:=A35 m (A1i w at_ i)) (n:=8 * i) hbd.1 (by omega) (by
   have h8:((2:Int) ^ (8 * i)) ≤ 2 ^ 56:=Aap (by omega)
   have:=Int.mul_le_mul (show A35 m (A1i w at_ i) ≤ 255 by omega) h8 (by have:=A1c (8 * i);omega) (by decide)
   omega)
  have hls:ldS m w at_ (i + 1)=ldS m w at_ i ||| (A35 m (A1i w at_ i)).toNat <<< (8 * i):=rfl
  have hl2:=Aea hm w at_ (i + 1)
  have hq8:(2:Nat) ^ (8 * (i + 1)) ≤ 2 ^ 64:=Nat.pow_le_pow_right (by decide) (by omega)
  have hs2:(A35 m (A1i w at_ i)).toNat <<< (8 * i) ≤ ldS m w at_ (i + 1):=by rw [hls];exact Nat.right_le_or
  have hor:=Afg (a:=(ldS m w at_ i:Nat)) (b:=((A35 m (A1i w at_ i)).toNat <<< (8 * i):Nat)) (by omega) (by omega) (Int.natCast_nonneg _) (by omega)
  simp only [Int.toNat_natCast,← hls] at hor
  rw [← hsl] at hor
  simp only [Int.natCast_mul,Int.cast_ofNat_Int] at hor
  cases hf:A5h m (A1i w at_ i) with
  |true =>
   have hlm:lbM m (A1i w at_ i) < m.length:=by unfold A5h at hf;exact (of_decide_eq_true hf).1
   rw [if_pos hf] at hbv
   rw [hbv] at hor hbd
   unfold A1i at hor hbd hf hlm
   simp (disch:=first | exact d_SL | fail) only [unf b50_0.eq_1,c50,this,A0p,A2a w hw hw',hw1,hw2,hm1,hb,hf,hlm,gd_m,hor,EVS,Nat.reduceAdd,Nat.reduceSub,Int.reduceToNat,Nat.reduceMul,Nat.reduceEqDiff,Nat.reduceLeDiff,Int.reduceEq,Int.reduceLT,Int.reduceLE,↓reduceIte]
   exact A0s (by decide) (by simp [A19,low,lows,A0p]) (by simp [cutH,A0b,A16,lows,low,A0p]) (ih (i + 1) (by omega))
  |false =>
   rw [if_neg (by simp [hf])] at hbv
   have heq:ldS m w at_ (i + 1)=ldS m w at_ i:=by rw [hls,hbv];simp
   have hih:=ih (i + 1) (by omega)
   rw [heq] at hih
   unfold A1i at hf
   simp (disch:=first | exact d_SL | fail) only [unf b50_0.eq_1,c50,this,A0p,A2a w hw hw',hw1,hw2,hm1,hb,hf,EVS,Nat.reduceAdd,Nat.reduceSub,Int.reduceToNat,Nat.reduceMul,Nat.reduceEqDiff,Nat.reduceLeDiff,Int.reduceEq,Int.reduceLT,Int.reduceLE,↓reduceIte]
   exact A0s (by decide) (by simp [A19,low,lows,A0p]) (by simp [cutH,A0b,A16,lows,low,A0p]) (hih)
theorem A9g (e:Bool) (m:Mem) (w at_:Int) (n:Nat) (hs:memS m) (hm:okM m) (hw:1 ≤ w) (hw':w ≤ 64) (ha:0 ≤ at_) (ha':at_ < 18446744073709551616) (hn:n ≤ 64):∀ h nx,lim T 50 [.lst e (m.map ceV),.int .i64 w,.int .u64 at_,.int .i64 n] h nx=some (.int .u64 (ldS m w at_ (n / 8):Nat),h,nx):=by
 refine A05 tg50 rfl rfl (by simp [pures,A0i,pu_m]) ?_
 simp (disch:=first | exact d_SL | fail) only [c50,A0p,As6,EVS,Nat.reduceAdd,Nat.reduceSub,Int.reduceToNat,Nat.reduceMul,Nat.reduceEqDiff,Nat.reduceLeDiff,Int.reduceEq,Int.reduceLT,Int.reduceLE,↓reduceIte]
 exact Agc e m w at_ (n / 8) hs hm hw hw' ha ha' (by omega) (n / 8) 0 (by omega)
theorem d_SC {P:Prop} (h:P:=by first|omega|(simp only[EVL]<;>omega)|(simp only[A0n,Nat.reduceEqDiff,↓reduceIte];done)|assumption|(simp (disch:=omega) only[A06,A0a,A04, *];done)|(simp only [TL];done)|with_unfolding_all rfl):P:=h
abbrev vaP (b:Nat) (h0:Heap) (en:Env0) (h:Heap):Prop:=hget h (b + 8)=some (.lp 0 0)∧hget h (b + 1)=some (.row 1 [.nilm])∧hget h (b + 2)=some (.row 1 [.bool false])∧hget h (b + 4)=some (.row 1 [.map (b + 3)])∧hget h (b + 3)=some (.mp (en.map kvV))∧∀ i,i < b→hget h i=hget h0 i
abbrev vaQ (b:Nat) (h0:Heap) (_:Unit) (h:Heap):Prop:=hget h (b + 8)=some (.lp 2 1)∧hget h (b + 1)=some (.row 1 [.nilm])∧hget h (b + 2)=some (.row 1 [.bool false])∧∀ i,i < b→hget h i=hget h0 i
def VarR (b:Nat) (h0:Heap) (r:FV × Heap × Nat):Env0 ⊕ Unit→Prop
 |.inl en=>r.1=.tup [.map (b + 3),.bool true]∧hget r.2.1 (b + 3)=some (.mp (en.map kvV))∧b + 4 ≤ r.2.2∧∀ i,i < b→hget r.2.1 i=hget h0 i
 |.inr _=>r.1=.tup [.nilm,.bool false]∧b ≤ r.2.2∧∀ i,i < b→hget r.2.1 i=hget h0 i
theorem A5l (t:Te) (hl:size t ≤ 1000000) (h0:Heap) (b:Nat):∃ r,lim T 62 [.agg [.int .u8 (t).k,.int .i64 (t).w,.int .u64 (t).b,.str (t).s,.int .i64 (t).lo,.lst (t).e ((t).l.map tV)]] h0 b=some r∧VarR b h0 r (A4n t):=by
 rw [Ab1 tg62 rfl rfl]
 suffices hh:@Ok Out (runs T [.code c62.body] (params 0 [.agg [.int .u8 (t).k,.int .i64 (t).w,.int .u64 (t).b,.str (t).s,.int .i64 (t).lo,.lst (t).e ((t).l.map tV)]]) h0 b) ⟨fun x=>@Ok FV (finV c62.res x) ⟨fun v=>VarR b h0 (v,x.2.2.1,x.2.2.2) (A4n t)⟩⟩ by
  obtain ⟨x,h1,v,h2,h3⟩:=hh
  exact ⟨(v,x.2.2.1,x.2.2.2),by rw [h1,A12,h2,A12],h3⟩
 simp (disch:=first | exact d_SC | fail) only [c62,A56,TL,Nat.add_assoc,EVS,Nat.reduceAdd,Nat.reduceSub,Int.reduceToNat,Nat.reduceMul,Nat.reduceEqDiff,Nat.reduceLeDiff,Int.reduceEq,Int.reduceLT,Int.reduceLE,↓reduceIte]
 refine Abp (A9f 1006200 (b + 8) (b + 9) [.ptr (b + 1) 1 0 0,.ptr (b + 2) 1 0 0,.ptr (b + 4) 1 0 0] varG (vaP b h0) (vaQ b h0) (fun a h h' hp hk=>⟨(hk _ (by omega)).trans hp.1,(hk _ (by omega)).trans hp.2.1,(hk _ (by omega)).trans hp.2.2.1,(hk _ (by omega)).trans hp.2.2.2.1,(hk _ (by omega)).trans hp.2.2.2.2.1,fun i hi=>(hk _ (by omega)).trans (hp.2.2.2.2.2 i hi)⟩) t hl ?_ [] _ _ (by omega) ⟨?_,?_,?_,?_,?_,?_⟩) fun r hr=>?_
 ·intro x hx en h nx hb hp
  obtain ⟨p1,p2,p3,p4,p5,p6⟩:=hp
  rw [A8m Ale rfl rfl p1]
  show @Ok _ _ ⟨fun r=>ResR _ _ _ _ _ r _⟩
  simp only [Ab9]
  by_cases hk:x.k=2
  ·cases hlk:lkE en x.s with
   |none =>
    have hg:varG en x=.inl (en ++ [(x.s,x.w)]):=by simp [varG,hk,hlk]
    have hf:=Arv x.s en
    have hu:=B13 x.s x.w en hlk
    rw [hlk] at hf
    simp only [Option.map_none] at hf
    rw [hg]
    simp (disch:=first | exact d_SC | fail) only [unf a62_1.eq_1,unf b62_0.eq_1,p1,p2,p3,p4,p5,hk,A04,A0z p1,hf,hu,EVS,Nat.reduceAdd,Nat.reduceSub,Int.reduceToNat,Nat.reduceMul,Nat.reduceEqDiff,Nat.reduceLeDiff,Int.reduceEq,Int.reduceLT,Int.reduceLE,↓reduceIte]
    exact ⟨rfl,⟨by (simp (disch:=omega) only [A06,A0a,A04,A1h,Option.map_some, *]),by (simp (disch:=omega) only [A06,A0a,A04,A1h,Option.map_some, *]),by (simp (disch:=omega) only [A06,A0a,A04,A1h,Option.map_some, *]),by (simp (disch:=omega) only [A06,A0a,A04,A1h,Option.map_some, *]),by (simp (disch:=omega) only [A06,A0a,A04,A1h,Option.map_some, *]),fun i hi=>by simp (disch:=omega) only [A06,A04];exact p6 i hi⟩,by dsimp only;omega,fun i hi hl=>by simp (disch:=omega) only [A06,A04]⟩
   |some w =>
    have hf:=Arv x.s en
    rw [hlk] at hf
    simp only [Option.map_some] at hf
    by_cases hw:w=x.w
    ·have hg:varG en x=.inl en:=by simp [varG,hk,hlk,hw]
     subst hw
     have hu:=B1j x.s x.w en hlk
     rw [hg]
     simp (disch:=first | exact d_SC | fail) only [unf a62_1.eq_1,unf b62_0.eq_1,p1,p2,p3,p4,p5,hk,A04,A0z p1,hf,hu,EVS,Nat.reduceAdd,Nat.reduceSub,Int.reduceToNat,Nat.reduceMul,Nat.reduceEqDiff,Nat.reduceLeDiff,Int.reduceEq,Int.reduceLT,Int.reduceLE,↓reduceIte]
     exact ⟨rfl,⟨by (simp (disch:=omega) only [A06,A0a,A04,A1h,Option.map_some, *]),by (simp (disch:=omega) only [A06,A0a,A04,A1h,Option.map_some, *]),by (simp (disch:=omega) only [A06,A0a,A04,A1h,Option.map_some, *]),by (simp (disch:=omega) only [A06,A0a,A04,A1h,Option.map_some, *]),by (simp (disch:=omega) only [A06,A0a,A04,A1h,Option.map_some, *]),fun i hi=>by simp (disch:=omega) only [A06,A04];exact p6 i hi⟩,by dsimp only;omega,fun i hi hl=>by simp (disch:=omega) only [A06,A04]⟩
    ·have hg:varG en x=.inr ():=by simp [varG,hk,hlk,hw]
     rw [hg]
     simp (disch:=first | exact d_SC | fail) only [unf a62_1.eq_1,unf b62_0.eq_1,p1,p2,p3,p4,p5,hk,A04,A0z p1,hf,hw,EVS,Nat.reduceAdd,Nat.reduceSub,Int.reduceToNat,Nat.reduceMul,Nat.reduceEqDiff,Nat.reduceLeDiff,Int.reduceEq,Int.reduceLT,Int.reduceLE,↓reduceIte]
     exact ⟨rfl,⟨by (simp (disch:=omega) only [A06,A0a,A04,A1h,Option.map_some, *]),by (simp (disch:=omega) only [A06,A0a,A04,A1h,Option.map_some, *]),by (simp (disch:=omega) only [A06,A0a,A04,A1h,Option.map_some, *]),fun i hi=>by simp (disch:=omega) only [A06,A04];exact p6 i hi⟩,by dsimp only;omega,fun i hi hl=>by simp (disch:=omega) only [A06,A04]⟩
  ·have hg:varG en x=.inl en:=by simp [varG,hk]
   rw [hg]
   simp (disch:=first | exact d_SC | fail) only [unf a62_1.eq_1,unf b62_0.eq_1,p1,p2,p3,p4,p5,hk,A04,A0z p1,EVS,Nat.reduceAdd,Nat.reduceSub,Int.reduceToNat,Nat.reduceMul,Nat.reduceEqDiff,Nat.reduceLeDiff,Int.reduceEq,Int.reduceLT,Int.reduceLE,↓reduceIte]
   exact ⟨rfl,⟨by (simp (disch:=omega) only [A06,A0a,A04,A1h,Option.map_some, *]),by (simp (disch:=omega) only [A06,A0a,A04,A1h,Option.map_some, *]),by (simp (disch:=omega) only [A06,A0a,A04,A1h,Option.map_some, *]),by (simp (disch:=omega) only [A06,A0a,A04,A1h,Option.map_some, *]),by (simp (disch:=omega) only [A06,A0a,A04,A1h,Option.map_some, *]),fun i hi=>by simp (disch:=omega) only [A06,A04];exact p6 i hi⟩,by dsimp only;omega,fun i hi hl=>by simp (disch:=omega) only [A06,A04]⟩
 ·(simp (disch:=omega) only [A06,A0a,A04,A1h,Option.map_some, *])
 ·(simp (disch:=omega) only [A06,A0a,A04,A1h,Option.map_some, *])
 ·(simp (disch:=omega) only [A06,A0a,A04,A1h,Option.map_some, *])
 ·(simp (disch:=omega) only [A06,A0a,A04,A1h,Option.map_some, *])
 ·simp (disch:=omega) only [A06,A0a];rfl
 ·intro i hi;(simp (disch:=omega) only [A06,A0a,A04,A1h,Option.map_some, *])
 ·obtain ⟨v,h',nx'⟩:=r
  unfold A4n
  cases hv:A20 varG [] (A0k t) with
  |inl en =>
   rw [hv] at hr
   obtain ⟨rfl,⟨p1,p2,p3,p4,p5,p6⟩,hf⟩:=hr
   dsimp only at p1 p2 p3 p4 p5 p6
   refine ⟨rfl,?_⟩
   simp (disch:=first | exact d_SC | fail) only [unf k62_2.eq_1,c62,p1,p2,p3,p4,p5,A04,A1h,Option.map_some,EVS,Nat.reduceAdd,Nat.reduceSub,Int.reduceToNat,Nat.reduceMul,Nat.reduceEqDiff,Nat.reduceLeDiff,Int.reduceEq,Int.reduceLT,Int.reduceLE,↓reduceIte]
   exact ⟨rfl,by (simp (disch:=omega) only [A06,A0a,A04,A1h,Option.map_some, *]),by dsimp only;have:=hf.1;dsimp only at this;omega,fun i hi=>by simp (disch:=omega) only [A04];exact p6 i hi⟩
  |inr u =>
   rw [hv] at hr
   obtain ⟨rfl,⟨p1,p2,p3,p6⟩,hf⟩:=hr
   dsimp only at p1 p2 p3 p6
   refine ⟨rfl,?_⟩
   simp (disch:=first | exact d_SC | fail) only [unf k62_2.eq_1,c62,p1,p2,p3,A04,EVS,Nat.reduceAdd,Nat.reduceSub,Int.reduceToNat,Nat.reduceMul,Nat.reduceEqDiff,Nat.reduceLeDiff,Int.reduceEq,Int.reduceLT,Int.reduceLE,↓reduceIte]
   exact ⟨rfl,by dsimp only;have:=hf.1;dsimp only at this;omega,fun i hi=>by simp (disch:=omega) only [A04];exact p6 i hi⟩
def A1a (t:Te):Prop:=∀ x ∈ A0k t,A1r x
open Classical in
noncomputable def A15 (t:Te):Int :=
 if 400 < size t ∨ 60 < depth t then 4 else if A1a t then match A4n t with
  |.inl _=>0
  |.inr _=>14
 else 8
def KOk (t:Te):Prop:=∀ x ∈ A0k t,0 ≤ x.k
open Classical in
noncomputable def chkG (_:Unit) (x:Te):Unit ⊕ Unit:=if A1r x then .inl () else .inr ()
theorem Aon:∀ xs:List Te,(∀ x ∈ xs,A1r x)→A20 chkG () xs=.inl ():=by
 intro xs
 induction xs with
 |nil=>intro _;rfl
 |cons x xs ih =>
  intro h
  have:chkG () x=.inl ():=if_pos (h x (by simp))
  simp only [A20,this]
  exact ih fun y hy=>h y (by simp [hy])
theorem Ao4:∀ xs:List Te,¬ (∀ x ∈ xs,A1r x)→A20 chkG () xs=.inr ():=by
 intro xs
 induction xs with
 |nil=>intro h;exact absurd (fun x hx=>by cases hx) h
 |cons x xs ih =>
  intro h
  by_cases hx:A1r x
  ·have:chkG () x=.inl ():=if_pos hx
   simp only [A20,this]
   refine ih fun hh=>h fun y hy=>?_
   rcases List.mem_cons.1 hy with rfl | hy
   ·exact hx
   ·exact hh y hy
  ·have:chkG () x=.inr ():=if_neg hx
   simp only [A20,this]
abbrev ckP (t:Te) (_:Unit) (h:Heap):Prop:=hget h 12=some (.lp 0 0)∧hget h 1=some (.row 1 [.int .i64 0])∧hget h 0=some (.row 6 [.agg [.int .u8 (t).k,.int .i64 (t).w,.int .u64 (t).b,.str (t).s,.int .i64 (t).lo,.lst (t).e ((t).l.map tV)]])
abbrev ckQ (_:Unit) (h:Heap):Prop:=hget h 12=some (.lp 2 1)∧hget h 1=some (.row 1 [.int .i64 8])
theorem A70 {t:Te} (h:400 < size t ∨ 60 < depth t):4=A15 t:=(if_pos h).symm
theorem Aeb {t:Te} (h:¬ (400 < size t ∨ 60 < depth t)) (hn:¬ A1a t):8=A15 t:=by unfold A15;rw [if_neg h,if_neg hn]
theorem Ags {t:Te} (h:¬ (400 < size t ∨ 60 < depth t)) (hn:A1a t):A15 t=match A4n t with | .inl _=>0 | .inr _=>14:=by unfold A15;rw [if_neg h,if_pos hn]
theorem Aja (t:Te) (hl:size t ≤ 1000000) (hk:KOk t) (h:Heap) (nx:Nat):isfR T c31 [.agg [.int .u8 (t).k,.int .i64 (t).w,.int .u64 (t).b,.str (t).s,.int .i64 (t).lo,.lst (t).e ((t).l.map tV)]] h nx=some (.int .i64 (A15 t),h,nx):=by
 refine A7g rfl ?_
 have hs:=Amy t hl
 have hd:=Ajb t hl
 simp (disch:=first | exact d_SC | fail) only [c31,A56,TL,hs,hd,EVS,Nat.reduceAdd,Nat.reduceSub,Int.reduceToNat,Nat.reduceMul,Nat.reduceEqDiff,Nat.reduceLeDiff,Int.reduceEq,Int.reduceLT,Int.reduceLE,↓reduceIte]
 repeat' (refine A1g (fun hb=>?_) (fun hb=>?_)<;>have h:=hb<;>(try simp only [decide_eq_true_eq,decide_eq_false_iff_not,Int.not_lt,Int.not_le] at h)<;>(simp (disch:=first | exact d_SC | fail) only [hb,c31,A56,TL,hs,hd,EVS,Nat.reduceAdd,Nat.reduceSub,Int.reduceToNat,Nat.reduceMul,Nat.reduceEqDiff,Nat.reduceLeDiff,Int.reduceEq,Int.reduceLT,Int.reduceLE,↓reduceIte])<;>(try clear hb))
 ·exact A70 (by omega)
 ·exact A70 (by omega)
 ·rename_i hs1 
  have hm:¬ (400 < size t ∨ 60 < depth t):=by omega
  refine Abp (A9f 1003100 12 13 [.ptr 1 1 0 0] chkG (ckP t) ckQ (fun a h h' hp hk=>⟨(hk _ (by omega)).trans hp.1,(hk _ (by omega)).trans hp.2.1,(hk _ (by omega)).trans hp.2.2⟩) t hl ?_ () _ _ (by omega) ⟨rfl,rfl,rfl⟩) fun r hr=>?_
  ·intro x hx u h nx hb hp
   obtain ⟨p1,p2,p3⟩:=hp
   have hn:=Ak7 x (hk x hx) (Nat.le_trans (An9 hx) hl)
   rw [A8m An8 rfl rfl p1]
   show @Ok _ _ ⟨fun r=>ResR _ _ _ _ _ r _⟩
   simp only [Ac8]
   by_cases hx:A1r x
   ·have hg:chkG u x=.inl ():=if_pos hx
    rw [hg]
    simp (disch:=first | exact d_SC | fail) only [unf a31_1.eq_1,unf b31_0.eq_1,p1,p2,p3,A04,A0z p1,hn,hx,EVS,Nat.reduceAdd,Nat.reduceSub,Int.reduceToNat,Nat.reduceMul,Nat.reduceEqDiff,Nat.reduceLeDiff,Int.reduceEq,Int.reduceLT,Int.reduceLE,↓reduceIte]
    exact ⟨rfl,⟨by (simp (disch:=omega) only [A06,A0a,A04,A1h,Option.map_some, *]),by (simp (disch:=omega) only [A06,A0a,A04,A1h,Option.map_some, *]),by (simp (disch:=omega) only [A06,A0a,A04,A1h,Option.map_some, *])⟩,⟨by dsimp only;omega,fun i hi hl=>by simp (disch:=omega) only [A06,A04]⟩⟩
   ·have hg:chkG u x=.inr ():=if_neg hx
    rw [hg]
    simp (disch:=first | exact d_SC | fail) only [unf a31_1.eq_1,unf b31_0.eq_1,p1,p2,p3,A04,A0z p1,hn,hx,EVS,Nat.reduceAdd,Nat.reduceSub,Int.reduceToNat,Nat.reduceMul,Nat.reduceEqDiff,Nat.reduceLeDiff,Int.reduceEq,Int.reduceLT,Int.reduceLE,↓reduceIte]
    exact ⟨rfl,⟨by (simp (disch:=omega) only [A06,A0a,A04,A1h,Option.map_some, *]),by (simp (disch:=omega) only [A06,A0a,A04,A1h,Option.map_some, *])⟩,⟨by dsimp only;omega,fun i hi hl=>by simp (disch:=omega) only [A06,A04]⟩⟩
  ·obtain ⟨v,h',nx'⟩:=r
   by_cases hn:A1a t
   ·rw [Aon _ hn] at hr
    obtain ⟨rfl,⟨p1,p2,p3⟩,hf⟩:=hr
    dsimp only at p1 p2 p3
    have hf:=hf.1
    dsimp only at hf
    refine ⟨rfl,?_⟩
    rw [Ags hm hn]
    simp (disch:=first | exact d_SC | fail) only [unf k31_2.eq_1,c31,p1,p2,p3,A04,EVS,Nat.reduceAdd,Nat.reduceSub,Int.reduceToNat,Nat.reduceMul,Nat.reduceEqDiff,Nat.reduceLeDiff,Int.reduceEq,Int.reduceLT,Int.reduceLE,↓reduceIte]
    refine A09 (A5l t hl _ _) fun r hr=>?_
    obtain ⟨v,h2,nx2⟩:=r
    cases hv:A4n t with
    |inl en =>
     rw [hv] at hr
     obtain ⟨rfl,q1,q2,q3⟩:=hr
     have q4:=(q3 1 (by omega)).trans (by (simp (disch:=omega) only [A06,A0a,A04,A1h,Option.map_some, *]):_=some (Obj.row 1 [.int .i64 0]))
     dsimp only at q4
     refine ⟨rfl,?_⟩
     simp (disch:=first | exact d_SC | fail) only [c31,q4,A04,A1h,Option.map_some,EVS,Nat.reduceAdd,Nat.reduceSub,Int.reduceToNat,Nat.reduceMul,Nat.reduceEqDiff,Nat.reduceLeDiff,Int.reduceEq,Int.reduceLT,Int.reduceLE,↓reduceIte]
    |inr u =>
     rw [hv] at hr
     obtain ⟨rfl,q2,q3⟩:=hr
     have q4:=(q3 1 (by omega)).trans (by (simp (disch:=omega) only [A06,A0a,A04,A1h,Option.map_some, *]):_=some (Obj.row 1 [.int .i64 0]))
     dsimp only at q4
     refine ⟨rfl,?_⟩
     simp (disch:=first | exact d_SC | fail) only [c31,q4,A04,A1h,Option.map_some,EVS,Nat.reduceAdd,Nat.reduceSub,Int.reduceToNat,Nat.reduceMul,Nat.reduceEqDiff,Nat.reduceLeDiff,Int.reduceEq,Int.reduceLT,Int.reduceLE,↓reduceIte]
   ·rw [Ao4 _ hn] at hr
    obtain ⟨rfl,⟨p1,p2⟩,hf⟩:=hr
    dsimp only at p1 p2
    refine ⟨rfl,?_⟩
    simp (disch:=first | exact d_SC | fail) only [c31,p1,p2,A04,EVS,Nat.reduceAdd,Nat.reduceSub,Int.reduceToNat,Nat.reduceMul,Nat.reduceEqDiff,Nat.reduceLeDiff,Int.reduceEq,Int.reduceLT,Int.reduceLE,↓reduceIte]
    exact Aeb hm hn
theorem Am3 (a:FV) (h:Heap) (nx:Nat):lim T 31 [a] h nx=@FI.B (List FV) (FV × Heap × Nat) (frzs h deep [a]) ⟨fun q=>isfR T c31 q h nx⟩:=A6v tg31 rfl rfl
theorem Aht (t:Te) (hl:size t ≤ 1000000) (hk:KOk t):∀ h nx,lim T 31 [.agg [.int .u8 (t).k,.int .i64 (t).w,.int .u64 (t).b,.str (t).s,.int .i64 (t).lo,.lst (t).e ((t).l.map tV)]] h nx=some (.int .i64 (A15 t),h,nx):=by
 intro h nx
 rw [Am3,A1w (by simp [pures,A0i,A2m]) (show (1:Nat) ≤ deep by decide),A12]
 exact Aja t hl hk h nx
theorem d_G1 {P:Prop} (h:P:=by first|omega|(simp only[EVL]<;>omega)|(simp only[A0n,Nat.reduceEqDiff,↓reduceIte];done)|assumption|(simp (disch:=omega) only[A06,A0a,A04, *];done)|(simp only [TL];done)|with_unfolding_all rfl):P:=h
theorem Ahn (t:Te) (limit dp:Nat) (hl:limit ≤ 500) (hdp:dp ≤ 80) (hd1:1 ≤ dp) (hlen:t.l.length ≤ 9223372036854775807)
  (ih:∀ x ∈ t.l,∀ (limit dp:Nat),limit ≤ 500→dp ≤ 80→∃ (n:Nat) (is:Bool),1 ≤ n∧n ≤ limit + 1∧(is=true→n ≤ limit→n=size x∧depth x ≤ dp)∧∀ h nx,lim T 39 [.agg [.int .u8 (x).k,.int .i64 (x).w,.int .u64 (x).b,.str (x).s,.int .i64 (x).lo,.lst (x).e ((x).l.map tV)],.int .i64 limit,.int .i64 dp] h nx=some (.tup [.int .i64 n,.bool is],h,nx)) :
  ∀ (k i n:Nat),i + k=t.l.length→1 ≤ n→n ≤ limit + 1 →
  @Ok Out (runs T [.code b39_0,.inL (some 7) b39_0,.inB 0,.code k39_1] [(1,.int .i64 limit),(2,.int .i64 dp),(3,.ptr 0 1 0 0),(8,.int .i64 n),(9,.int .i64 i)] [(0,.row 6 [.agg [.int .u8 (t).k,.int .i64 (t).w,.int .u64 (t).b,.str (t).s,.int .i64 (t).lo,.lst (t).e ((t).l.map tV)]])] 7)
   ⟨fun x=>@Ok FV (resV c39.res x) ⟨fun v=>∃ (m:Nat) (is:Bool),v=.tup [.int .i64 m,.bool is]∧1 ≤ m∧m ≤ limit + 1∧(is=true→m ≤ limit→m=n + A4m (t.l.drop i)∧A24 (t.l.drop i) + 1 ≤ dp)⟩⟩:=by
 intro k
 induction k with
 |zero =>
  intro i n hi h1 h2
  have:¬ (i:Int) < t.l.length:=by omega
  simp (disch:=first | exact d_G1 | fail) only [unf b39_0.eq_1,unf k39_1.eq_1,c39,this,TL,EVS,Nat.reduceAdd,Nat.reduceSub,Int.reduceToNat,Nat.reduceMul,Nat.reduceEqDiff,Nat.reduceLeDiff,Int.reduceEq,Int.reduceLT,Int.reduceLE,↓reduceIte]
  exact ⟨n,true,rfl,h1,h2,fun _ _=>by rw [List.drop_eq_nil_of_le (by omega)];exact ⟨rfl,by show 0 + 1 ≤ dp;omega⟩⟩
 |succ k ihk =>
  intro i n hi h1 h2
  have:(i:Int) < t.l.length:=by omega
  by_cases hn:n ≤ limit
  ·have hnl:(n:Int) ≤ limit:=by omega
   obtain ⟨m,is,m1,m2,m3,hx⟩:=ih _ (A0r (d:=default) (show i < t.l.length by omega)) (limit - n) (dp - 1) (by omega) (by omega)
   rw [show ((limit - n:Nat):Int)=(limit:Int) - n by omega,show ((dp - 1:Nat):Int)=(dp:Int) - 1 by omega] at hx
   cases is with
   |true =>
    simp (disch:=first | exact d_G1 | fail) only [unf b39_0.eq_1,c39,this,hnl,TL,hx,EVS,Nat.reduceAdd,Nat.reduceSub,Int.reduceToNat,Nat.reduceMul,Nat.reduceEqDiff,Nat.reduceLeDiff,Int.reduceEq,Int.reduceLT,Int.reduceLE,↓reduceIte]
    refine A0s (by decide) (by simp [A19,low,lows,TL]) (by simp [cutH,A0b,A16,lows,low,TL]) (A7a (ihk (i + 1) (n + m) (by omega) (by omega) (by omega)) fun x v hv=>?_)
    obtain ⟨m',is',e,q1,q2,q3⟩:=hv
    refine ⟨m',is',e,q1,q2,fun e1 e2=>?_⟩
    obtain ⟨r1,r2⟩:=q3 e1 e2
    have hm:=m3 rfl (by omega)
    rw [Aag (by omega),A5x (by omega)]
    omega
   |false =>
    simp (disch:=first | exact d_G1 | fail) only [unf b39_0.eq_1,c39,this,hnl,TL,hx,EVS,Nat.reduceAdd,Nat.reduceSub,Int.reduceToNat,Nat.reduceMul,Nat.reduceEqDiff,Nat.reduceLeDiff,Int.reduceEq,Int.reduceLT,Int.reduceLE,↓reduceIte]
    exact ⟨n,false,rfl,h1,h2,fun e=>by cases e⟩
  ·have hnl:¬ (n:Int) ≤ limit:=by omega
   simp (disch:=first | exact d_G1 | fail) only [unf b39_0.eq_1,unf k39_1.eq_1,c39,this,hnl,TL,EVS,Nat.reduceAdd,Nat.reduceSub,Int.reduceToNat,Nat.reduceMul,Nat.reduceEqDiff,Nat.reduceLeDiff,Int.reduceEq,Int.reduceLT,Int.reduceLE,↓reduceIte]
   exact ⟨n,true,rfl,h1,h2,fun _ e=>absurd e hn⟩
theorem Aj9 (t:Te) (ht:TOk t):∀ (limit dp:Nat),limit ≤ 500→dp ≤ 80→∃ (n:Nat) (is:Bool),1 ≤ n∧n ≤ limit + 1∧(is=true→n ≤ limit→n=size t∧depth t ≤ dp)∧∀ h nx,lim T 39 [.agg [.int .u8 (t).k,.int .i64 (t).w,.int .u64 (t).b,.str (t).s,.int .i64 (t).lo,.lst (t).e ((t).l.map tV)],.int .i64 limit,.int .i64 dp] h nx=some (.tup [.int .i64 n,.bool is],h,nx):=by
 induction t using Tm'.ind with
 |h t ih =>
 intro limit dp hl hdp
 have hlen:t.l.length ≤ 9223372036854775807:=ht.self.2.2.2.2.2
 obtain ⟨v,⟨n,is,rfl,q1,q2,q3⟩,hh⟩:=A4l (p:=fun v=>∃ (m:Nat) (is:Bool),v=.tup [.int .i64 m,.bool is]∧1 ≤ m∧m ≤ limit + 1∧(is=true→m ≤ limit→m=size t∧depth t ≤ dp)) tg39 rfl (args:=[.agg [.int .u8 (t).k,.int .i64 (t).w,.int .u64 (t).b,.str (t).s,.int .i64 (t).lo,.lst (t).e ((t).l.map tV)],.int .i64 limit,.int .i64 dp]) rfl (by simp [pures,A0i,A2m]) (by
  by_cases hd:dp=0
  ·have hd':(dp:Int)=0:=by omega
   simp (disch:=first | exact d_G1 | fail) only [c39,TL,hd',EVS,Nat.reduceAdd,Nat.reduceSub,Int.reduceToNat,Nat.reduceMul,Nat.reduceEqDiff,Nat.reduceLeDiff,Int.reduceEq,Int.reduceLT,Int.reduceLE,↓reduceIte]
   exact ⟨1,false,rfl,by omega,by omega,fun e=>by cases e⟩
  ·have hd':¬ (dp:Int)=0:=by omega
   simp (disch:=first | exact d_G1 | fail) only [c39,TL,hd',EVS,Nat.reduceAdd,Nat.reduceSub,Int.reduceToNat,Nat.reduceMul,Nat.reduceEqDiff,Nat.reduceLeDiff,Int.reduceEq,Int.reduceLT,Int.reduceLE,↓reduceIte]
   refine A7a (Ahn t limit dp hl hdp (by omega) hlen (fun x hx=>ih x hx (ht.sub hx)) t.l.length 0 1 (by omega) (by omega) (by omega)) fun x v hv=>?_
   rw [List.drop_zero] at hv
   rw [size_eq,A59];exact hv)
 exact ⟨n,is,q1,q2,q3,hh⟩
theorem Akb (t:Te) (hlen:t.l.length ≤ 9223372036854775807)
  (ih:∀ x ∈ t.l,∃ b:Bool,(b=false→∀ y ∈ A0k x,y.s.length ≤ 200)∧∀ h nx,lim T 40 [.agg [.int .u8 (x).k,.int .i64 (x).w,.int .u64 (x).b,.str (x).s,.int .i64 (x).lo,.lst (x).e ((x).l.map tV)]] h nx=some (.bool b,h,nx)) :
  ∀ (k i:Nat),i + k=t.l.length→(∀ j,j < i→∀ y ∈ A0k (t.l.getD j default),y.s.length ≤ 200) →
  @Ok Out (runs T [.code b40_0,.inL (some 3) b40_0,.inB 0,.code k40_1] [(1,.ptr 0 1 0 0),(3,.int .i64 i)] [(0,.row 6 [.agg [.int .u8 (t).k,.int .i64 (t).w,.int .u64 (t).b,.str (t).s,.int .i64 (t).lo,.lst (t).e ((t).l.map tV)]])] 3)
   ⟨fun x=>@Ok FV (resV c40.res x) ⟨fun v=>∃ b:Bool,v=.bool b∧(b=false→∀ y ∈ A0k t,y.s.length ≤ 200)⟩⟩:=by
 intro k
 induction k with
 |zero =>
  intro i hi hok
  have:¬ (i:Int) < t.l.length:=by omega
  simp (disch:=first | exact d_G1 | fail) only [unf b40_0.eq_1,unf k40_1.eq_1,c40,this,TL,EVS,Nat.reduceAdd,Nat.reduceSub,Int.reduceToNat,Nat.reduceMul,Nat.reduceEqDiff,Nat.reduceLeDiff,Int.reduceEq,Int.reduceLT,Int.reduceLE,↓reduceIte]
  refine ⟨_,rfl,fun e=>?_⟩
  have e:=of_decide_eq_false e
  refine Aco.2 ⟨by omega,fun x hx=>?_⟩
  obtain ⟨j,hj,rfl⟩:=List.mem_iff_getElem.1 hx
  have:=hok j (by omega)
  simpa [List.getD,hj] using this
 |succ k ihk =>
  intro i hi hok
  have:(i:Int) < t.l.length:=by omega
  obtain ⟨b,hb,hx⟩:=ih _ (A0r (d:=default) (show i < t.l.length by omega))
  cases b with
  |true =>
   simp (disch:=first | exact d_G1 | fail) only [unf b40_0.eq_1,c40,this,TL,hx,EVS,Nat.reduceAdd,Nat.reduceSub,Int.reduceToNat,Nat.reduceMul,Nat.reduceEqDiff,Nat.reduceLeDiff,Int.reduceEq,Int.reduceLT,Int.reduceLE,↓reduceIte]
   exact ⟨true,rfl,fun e=>by cases e⟩
  |false =>
   simp (disch:=first | exact d_G1 | fail) only [unf b40_0.eq_1,c40,this,TL,hx,EVS,Nat.reduceAdd,Nat.reduceSub,Int.reduceToNat,Nat.reduceMul,Nat.reduceEqDiff,Nat.reduceLeDiff,Int.reduceEq,Int.reduceLT,Int.reduceLE,↓reduceIte]
   exact A0s (by decide) (by simp [A19,low,lows,TL]) (by simp [cutH,A0b,A16,lows,low,TL]) (ihk (i + 1) (by omega) (fun j hj=>by
    by_cases e:j=i
    ·subst e;exact hb rfl
    ·exact hok j (by omega)))
theorem Alo (t:Te) (ht:TOk t):∃ b:Bool,(b=false→∀ y ∈ A0k t,y.s.length ≤ 200)∧∀ h nx,lim T 40 [.agg [.int .u8 (t).k,.int .i64 (t).w,.int .u64 (t).b,.str (t).s,.int .i64 (t).lo,.lst (t).e ((t).l.map tV)]] h nx=some (.bool b,h,nx):=by
 induction t using Tm'.ind with
 |h t ih =>
 have hlen:t.l.length ≤ 9223372036854775807:=ht.self.2.2.2.2.2
 have hsl:t.s.length ≤ 9223372036854775807:=ht.self.2.2.2.1
 obtain ⟨v,⟨b,rfl,hb⟩,hh⟩:=A4l (p:=fun v=>∃ b:Bool,v=.bool b∧(b=false→∀ y ∈ A0k t,y.s.length ≤ 200)) tg40 rfl (args:=[.agg [.int .u8 (t).k,.int .i64 (t).w,.int .u64 (t).b,.str (t).s,.int .i64 (t).lo,.lst (t).e ((t).l.map tV)]]) rfl (by simp [pures,A0i,A2m]) (by
  simp (disch:=first | exact d_G1 | fail) only [c40,TL,EVS,Nat.reduceAdd,Nat.reduceSub,Int.reduceToNat,Nat.reduceMul,Nat.reduceEqDiff,Nat.reduceLeDiff,Int.reduceEq,Int.reduceLT,Int.reduceLE,↓reduceIte]
  exact Akb t hlen (fun x hx=>ih x hx (ht.sub hx)) t.l.length 0 (by omega) (fun j hj=>by omega))
 exact ⟨b,hb,hh⟩
def Aql (t:Te):Prop:=size t ≤ 500∧depth t ≤ 80∧∀ y ∈ A0k t,y.s.length ≤ 200
theorem Ahz (t:Te) (ht:TOk t):∃ b:Bool,(b=false→Aql t)∧∀ h nx,lim T 9 [.agg [.int .u8 (t).k,.int .i64 (t).w,.int .u64 (t).b,.str (t).s,.int .i64 (t).lo,.lst (t).e ((t).l.map tV)]] h nx=some (.bool b,h,nx):=by
 obtain ⟨n,is,n1,n2,n3,hc⟩:=Aj9 t ht 500 80 (by omega) (by omega)
 obtain ⟨b,hb,hlg⟩:=Alo t ht
 simp only [Int.cast_ofNat_Int] at hc
 obtain ⟨v,⟨b,rfl,hb⟩,hh⟩:=A4l (p:=fun v=>∃ b:Bool,v=.bool b∧(b=false→Aql t)) tg9 rfl (args:=[.agg [.int .u8 (t).k,.int .i64 (t).w,.int .u64 (t).b,.str (t).s,.int .i64 (t).lo,.lst (t).e ((t).l.map tV)]]) rfl (by simp [pures,A0i,A2m]) (by
  cases is with
  |false =>
   simp (disch:=first | exact d_G1 | fail) only [c9,TL,hc,EVS,Nat.reduceAdd,Nat.reduceSub,Int.reduceToNat,Nat.reduceMul,Nat.reduceEqDiff,Nat.reduceLeDiff,Int.reduceEq,Int.reduceLT,Int.reduceLE,↓reduceIte]
   exact ⟨true,rfl,fun e=>by cases e⟩
  |true =>
   by_cases hn:(500:Int) < n
   ·simp (disch:=first | exact d_G1 | fail) only [c9,TL,hc,hn,EVS,Nat.reduceAdd,Nat.reduceSub,Int.reduceToNat,Nat.reduceMul,Nat.reduceEqDiff,Nat.reduceLeDiff,Int.reduceEq,Int.reduceLT,Int.reduceLE,↓reduceIte]
    exact ⟨true,rfl,fun e=>by cases e⟩
   ·have hq:=n3 rfl (by omega)
    simp (disch:=first | exact d_G1 | fail) only [c9,TL,hc,hn,hlg,EVS,Nat.reduceAdd,Nat.reduceSub,Int.reduceToNat,Nat.reduceMul,Nat.reduceEqDiff,Nat.reduceLeDiff,Int.reduceEq,Int.reduceLT,Int.reduceLE,↓reduceIte]
    exact ⟨b,rfl,fun e=>⟨by omega,hq.2,hb e⟩⟩)
 exact ⟨b,hb,hh⟩
theorem d_G2 {P:Prop} (h:P:=by first|omega|(simp only[EVL]<;>omega)|(simp only[A0n,Nat.reduceEqDiff,↓reduceIte];done)|assumption|(simp (disch:=omega) only[A06,A0a,A04, *];done)|(simp only [TL,EnL];done)|with_unfolding_all rfl):P:=h
def Acv (env:Env) (i:Nat):Prop:=A9m (strip (env.getD i ([],0,0)).1)∧okS (env.getD i ([],0,0)).2.1 (env.getD i ([],0,0)).2.2∧(i ≠ 0→Op.bytesLess (env.getD (i - 1) ([],0,0)).1 (env.getD i ([],0,0)).1=true)
open Classical in
noncomputable def chkB (env:Env):Int:=if env.length ≤ 1000∧∀ i,i < env.length→Acv env i then 0 else 8
theorem Ajn {env:Env} (h1:env.length ≤ 1000) (h2:∀ i,i < env.length→Acv env i):0=chkB env:=(if_pos ⟨h1,h2⟩).symm
theorem Aay {env:Env} (h:¬ (env.length ≤ 1000∧∀ i,i < env.length→Acv env i)):8=chkB env:=(if_neg h).symm
theorem Aal (i:Nat):((i:Int) - 1).toNat=i - 1:=by omega
theorem Atq {p:Nat→Prop} {i:Nat} (h:∀ j,j < i→p j) (hi:p i):∀ j,j < i + 1→p j:=fun j hj=>by
 by_cases e:j=i
 ·subst e;exact hi
 ·exact h j (by omega)
theorem Af6 (e:Bool) (env:Env) (hl:env.length ≤ 1000):∀ (k i:Nat),i + k=env.length→(∀ j,j < i→Acv env j) →
  @Ok Out (runs T [.code b17_0,.inL (some 7) b17_0,.inB 0,.code k17_1] [(0,.lst e (env.map bdV)),(8,.lst e (env.map bdV)),(9,.int .i64 env.length),(10,.int .i64 i)] [] 7) ⟨fun x=>resV c17.res x=some (.int .i64 (chkB env))⟩:=by
 intro k
 induction k with
 |zero =>
  intro i hi hok
  have:¬ (i:Int) < env.length:=by omega
  simp (disch:=first | exact d_G2 | fail) only [unf b17_0.eq_1,unf k17_1.eq_1,c17,this,EVS,Nat.reduceAdd,Nat.reduceSub,Int.reduceToNat,Nat.reduceMul,Nat.reduceEqDiff,Nat.reduceLeDiff,Int.reduceEq,Int.reduceLT,Int.reduceLE,↓reduceIte]
  exact Ajn hl fun j hj=>hok j (by omega)
 |succ k ih =>
  intro i hi hok
  have:(i:Int) < env.length:=by omega
  simp (disch:=first | exact d_G2 | fail) only [unf b17_0.eq_1,c17,this,EnL,Ad5,EVS,Nat.reduceAdd,Nat.reduceSub,Int.reduceToNat,Nat.reduceMul,Nat.reduceEqDiff,Nat.reduceLeDiff,Int.reduceEq,Int.reduceLT,Int.reduceLE,↓reduceIte]
  repeat' (refine A1g (fun hb=>?_) (fun hb=>?_)<;>have h:=hb<;>(try simp only [decide_eq_true_eq,decide_eq_false_iff_not,Int.not_lt,Int.not_le] at h)<;>(simp (disch:=first | exact d_G2 | fail) only [hb,c17,EnL,gd_e,Aal,A81,EVS,Nat.reduceAdd,Nat.reduceSub,Int.reduceToNat,Nat.reduceMul,Nat.reduceEqDiff,Nat.reduceLeDiff,Int.reduceEq,Int.reduceLT,Int.reduceLE,↓reduceIte])<;>(try clear hb))
  all_goals first
   |exact A0s (by decide) (by simp [A19,low,EnL]) (by simp [cutH,A0b]) (ih (i + 1) (by omega) (Atq hok ⟨by assumption,by assumption,fun _=>by first | omega | assumption⟩))
   |exact Aay fun hg=>by
     obtain ⟨q1,q2,q3⟩:=hg.2 i (by omega)
     first | exact absurd q1 (by assumption) | exact absurd q2 (by assumption) | (have:=q3 (by omega);simp_all;done)
theorem A8z (e:Bool) (env:Env) (hl:env.length ≤ 1100):∀ h nx,lim T 17 [.lst e (env.map bdV)] h nx=some (.int .i64 (chkB env),h,nx):=by
 refine A05 tg17 rfl rfl (by simp [pures,A0i,pu_e]) ?_
 simp (disch:=first | exact d_G2 | fail) only [c17,EnL,EVS,Nat.reduceAdd,Nat.reduceSub,Int.reduceToNat,Nat.reduceMul,Nat.reduceEqDiff,Nat.reduceLeDiff,Int.reduceEq,Int.reduceLT,Int.reduceLE,↓reduceIte]
 repeat' (refine A1g (fun hb=>?_) (fun hb=>?_)<;>have h:=hb<;>(try simp only [decide_eq_true_eq,decide_eq_false_iff_not,Int.not_lt,Int.not_le] at h)<;>(simp (disch:=first | exact d_G2 | fail) only [hb,c17,EnL,EVS,Nat.reduceAdd,Nat.reduceSub,Int.reduceToNat,Nat.reduceMul,Nat.reduceEqDiff,Nat.reduceLeDiff,Int.reduceEq,Int.reduceLT,Int.reduceLE,↓reduceIte])<;>(try clear hb))
 ·exact Aay fun hg=>by have:=hg.1;omega
 ·exact Af6 e env (by omega) env.length 0 (by omega) (by omega)
theorem A8t (n:List UInt8) (w x:Int) (s:List UInt8):∀ h nx,lim T 42 [.agg [.str n,.int .i64 w,.int .u64 x],.str s] h nx=some (.int .i64 (Go.Lib.compareBytes n s),h,nx):=by
 have a:∀ h nx,lim T 73 [.str n,.str s] h nx=some (.int .i64 (Go.Lib.compareBytes n s),h,nx):=by
  refine A05 tg73 rfl rfl rfl ?_
  simp (disch:=first | exact d_G2 | fail) only [c73,EVS,Nat.reduceAdd,Nat.reduceSub,Int.reduceToNat,Nat.reduceMul,Nat.reduceEqDiff,Nat.reduceLeDiff,Int.reduceEq,Int.reduceLT,Int.reduceLE,↓reduceIte]
 have b:∀ h nx,lim T 43 [.str n,.str s] h nx=some (.int .i64 (Go.Lib.compareBytes n s),h,nx):=by
  refine A05 tg43 rfl rfl rfl ?_
  simp (disch:=first | exact d_G2 | fail) only [c43,a,EVS,Nat.reduceAdd,Nat.reduceSub,Int.reduceToNat,Nat.reduceMul,Nat.reduceEqDiff,Nat.reduceLeDiff,Int.reduceEq,Int.reduceLT,Int.reduceLE,↓reduceIte]
 refine A05 tg42 rfl rfl rfl ?_
 simp (disch:=first | exact d_G2 | fail) only [c42,b,EVS,Nat.reduceAdd,Nat.reduceSub,Int.reduceToNat,Nat.reduceMul,Nat.reduceEqDiff,Nat.reduceLeDiff,Int.reduceEq,Int.reduceLT,Int.reduceLE,↓reduceIte]
abbrev PS (env:Env) (s:List UInt8) (r:FV):Prop:=∃ i:Nat,i ≤ env.length∧(∀ k,k < i→Op.bytesLess (nm env k) s=true)∧(∀ k,i ≤ k→k < env.length→¬ Op.bytesLess (nm env k) s=true)∧r=.tup [.int .i64 i,.bool (decide (i < env.length∧(env.getD i ([],0,0)).1=s))]
theorem Ape (e:Bool) (env:Env) (s:List UInt8) (hl:env.length ≤ 1100)
  (mono:∀ a b,a < b→b < env.length→Op.bytesLess (nm env a) (nm env b)=true):∀ (n i j:Nat),j - i ≤ n→i ≤ j→j ≤ env.length→(∀ k,k < i→Op.bytesLess (nm env k) s=true)→(∀ k,j ≤ k→k < env.length→¬ Op.bytesLess (nm env k) s=true) →
  @Ok Out (runs T [.code b41_0,.inL (some 8) b41_0,.inB 0,.code k41_1] [(0,.lst e (env.map bdV)),(1,.str s),(2,.fn 42 []),(8,.int .i64 env.length),(9,.int .i64 i),(10,.int .i64 j)] [] 8) ⟨fun x=>@Ok FV (resV c41.res x) ⟨PS env s⟩⟩:=by
 intro n
 induction n with
 |zero =>
  intro i j hn hij hj lo hi
  have:¬ (i:Int) < j:=by omega
  have e:j=i:=by omega
  subst e
  simp (disch:=first | exact d_G2 | fail) only [unf b41_0.eq_1,unf k41_1.eq_1,c41,this,EnL,EVS,Nat.reduceAdd,Nat.reduceSub,Int.reduceToNat,Nat.reduceMul,Nat.reduceEqDiff,Nat.reduceLeDiff,Int.reduceEq,Int.reduceLT,Int.reduceLE,↓reduceIte]
  repeat' (refine A1g (fun hb=>?_) (fun hb=>?_)<;>have h:=hb<;>(try simp only [decide_eq_true_eq,decide_eq_false_iff_not,Int.not_lt,Int.not_le] at h)<;>(simp (disch:=first | exact d_G2 | fail) only [hb,c41,EnL,gd_e,A8t,EVS,Nat.reduceAdd,Nat.reduceSub,Int.reduceToNat,Nat.reduceMul,Nat.reduceEqDiff,Nat.reduceLeDiff,Int.reduceEq,Int.reduceLT,Int.reduceLE,↓reduceIte])<;>(try clear hb))
  ·refine ⟨j,hj,lo,hi,?_⟩
   rw [show decide (Go.Lib.compareBytes (List.getD env j ([],0,0)).1 s=0)=decide (j < env.length∧(env.getD j ([],0,0)).1=s) from decide_eq_decide.2 ((Ayp _ _).trans ⟨fun h'=>⟨by omega,h'⟩,fun h'=>h'.2⟩)]
  ·refine ⟨j,hj,lo,hi,?_⟩
   rw [show decide (j < env.length∧(env.getD j ([],0,0)).1=s)=false from decide_eq_false fun h'=>by omega]
 |succ n ih =>
  intro i j hn hij hj lo hi
  by_cases hlt:i < j
  ·have:(i:Int) < j:=by omega
   have hx:((i:Int) + j) / 2=((i + j) / 2:Nat):=by omega
   have hx1:(i + j) / 2 < env.length:=by omega
   simp (disch:=first | exact d_G2 | fail) only [unf b41_0.eq_1,c41,this,EnL,shr1,hx,A8t,EVS,Nat.reduceAdd,Nat.reduceSub,Int.reduceToNat,Nat.reduceMul,Nat.reduceEqDiff,Nat.reduceLeDiff,Int.reduceEq,Int.reduceLT,Int.reduceLE,↓reduceIte]
   repeat' (refine A1g (fun hb=>?_) (fun hb=>?_)<;>have h:=hb<;>(try simp only [decide_eq_true_eq,decide_eq_false_iff_not,Int.not_lt,Int.not_le] at h)<;>(simp (disch:=first | exact d_G2 | fail) only [hb,c41,EnL,gd_e,A8t,EVS,Nat.reduceAdd,Nat.reduceSub,Int.reduceToNat,Nat.reduceMul,Nat.reduceEqDiff,Nat.reduceLeDiff,Int.reduceEq,Int.reduceLT,Int.reduceLE,↓reduceIte])<;>(try clear hb))
   ·rw [Ab8] at h
    refine A0s (by decide) (by simp [A19,low,lows,EnL]) (by simp [cutH,A0b]) (ih ((i + j) / 2 + 1) j (by omega) (by omega) hj (fun k hk=>?_) hi)
    by_cases e:k=(i + j) / 2
    ·rw [e];exact h
    ·exact A3b (mono k ((i + j) / 2) (by omega) hx1) h
   ·refine A0s (by decide) (by simp [A19,low,lows,EnL]) (by simp [cutH,A0b]) (ih i ((i + j) / 2) (by omega) (by omega) (by omega) lo (fun k hk hk' hb=>?_))
    have h':¬ Op.bytesLess (nm env ((i + j) / 2)) s=true:=fun hb=>by have hb':Go.Lib.compareBytes (List.getD env ((i + j) / 2) ([],0,0)).1 s < 0:=(Ab8 _ _).2 hb;omega
    by_cases e:k=(i + j) / 2
    ·rw [e] at hb;exact h' hb
    ·exact h' (A3b (mono ((i + j) / 2) k (by omega) hk') hb)
  ·exact ih i j (by omega) hij hj lo hi
theorem Afe (e:Bool) (env:Env) (s:List UInt8) (hl:env.length ≤ 1100) (mono:∀ a b,a < b→b < env.length→Op.bytesLess (nm env a) (nm env b)=true) :
  ∃ r,PS env s r∧∀ h nx,lim T 41 [.lst e (env.map bdV),.str s,.fn 42 []] h nx=some (r,h,nx):=by
 refine A4l tg41 rfl rfl (by simp [pures,A0i,pu_e]) ?_
 simp (disch:=first | exact d_G2 | fail) only [c41,EnL,EVS,Nat.reduceAdd,Nat.reduceSub,Int.reduceToNat,Nat.reduceMul,Nat.reduceEqDiff,Nat.reduceLeDiff,Int.reduceEq,Int.reduceLT,Int.reduceLE,↓reduceIte]
 exact Ape e env s hl mono env.length 0 env.length (by omega) (by omega) (by omega) (by omega) (by omega)
theorem Adt {env:Env} (h:chkB env=0):env.length ≤ 1000∧∀ i,i < env.length→Acv env i:=by
 unfold chkB at h
 split at h
 ·assumption
 ·cases h
theorem Apa {env:Env} (h:¬ chkB env=0):chkB env=8:=by
 unfold chkB at h ⊢
 split at h
 ·exact absurd rfl h
 ·rename_i hn;rw [if_neg hn]
theorem Atc {env:Env} (h:∀ i,i < env.length→Acv env i):∀ a b,a < b→b < env.length→Op.bytesLess (nm env a) (nm env b)=true:=by
 intro a b hab hb
 induction b with
 |zero=>omega
 |succ b ih =>
  have:=(h (b + 1) hb).2.2 (by omega)
  simp only [Nat.add_sub_cancel] at this
  by_cases e:a=b
  ·rw [e];exact this
  ·exact A3b (ih (by omega) (by omega)) this
theorem d_X1 {P:Prop} (h:P:=by first|omega|(simp only[EVL]<;>omega)|(simp only[A0n,Nat.reduceEqDiff,↓reduceIte];done)|assumption|(simp (disch:=omega) only[A06,A0a,A04, *];done)|(simp only [BiL];done)|with_unfolding_all rfl):P:=h
theorem A3z (w:Int):∀ h nx,lim T 51 [.int .i64 w] h nx=some (.bool (decide (1 ≤ w∧w ≤ 64)),h,nx):=by
 refine A05 tg51 rfl rfl rfl ?_
 simp (disch:=first | exact d_X1 | fail) only [c51,EVS,Nat.reduceAdd,Nat.reduceSub,Int.reduceToNat,Nat.reduceMul,Nat.reduceEqDiff,Nat.reduceLeDiff,Int.reduceEq,Int.reduceLT,Int.reduceLE,↓reduceIte]
 repeat' (refine A1g (fun hb=>?_) (fun hb=>?_)<;>have h:=hb<;>(try simp only [decide_eq_true_eq,decide_eq_false_iff_not,Int.not_lt,Int.not_le] at h)<;>(simp (disch:=first | exact d_X1 | fail) only [hb,c51,EVS,Nat.reduceAdd,Nat.reduceSub,Int.reduceToNat,Nat.reduceMul,Nat.reduceEqDiff,Nat.reduceLeDiff,Int.reduceEq,Int.reduceLT,Int.reduceLE,↓reduceIte])<;>(try clear hb))
 all_goals simp_all
 all_goals omega
theorem Auz:∀ n:Nat,n < 63→(2:Int) ^ n ≤ 4611686018427387904:=by decide +kernel
theorem A48 (n:Nat) (hn:n ≤ 63):∀ h nx,lim T 83 [.int .i64 n] h nx=some (.int .u64 (2 ^ n),h,nx):=by
 have key:∀ (k i:Nat),i + k=n→@Ok Out (runs T [.code b83_0,.inL (some 3) b83_0,.inB 0,.code k83_1] [(0,.int .i64 n),(3,.int .u64 (2 ^ i)),(4,.int .i64 i)] [] 3) ⟨fun x=>resV c83.res x=some (.int .u64 (2 ^ n))⟩:=by
  intro k
  induction k with
  |zero =>
   intro i hi
   have:¬ (i:Int) < n:=by omega
   simp (disch:=first | exact d_X1 | fail) only [unf b83_0.eq_1,unf k83_1.eq_1,c83,this,EVS,Nat.reduceAdd,Nat.reduceSub,Int.reduceToNat,Nat.reduceMul,Nat.reduceEqDiff,Nat.reduceLeDiff,Int.reduceEq,Int.reduceLT,Int.reduceLE,↓reduceIte]
   rw [show i=n by omega]
  |succ k ih =>
   intro i hi
   have:(i:Int) < n:=by omega
   have hp:=Auz i (by omega)
   have hp0:(0:Int) ≤ 2 ^ i:=Int.pow_nonneg (by decide)
   have hs:(2:Int) ^ (i + 1)=2 ^ i + 2 ^ i:=by rw [Int.pow_succ];omega
   have hw:IntKind.u64.wrap (2 ^ i + 2 ^ i)=2 ^ (i + 1):=by
    rw [hs]
    exact A2t (Int.add_nonneg hp0 hp0) (Int.le_trans (Int.add_le_add hp hp) (by decide))
   simp (disch:=first | exact d_X1 | fail) only [unf b83_0.eq_1,c83,this,hw,EVS,Nat.reduceAdd,Nat.reduceSub,Int.reduceToNat,Nat.reduceMul,Nat.reduceEqDiff,Nat.reduceLeDiff,Int.reduceEq,Int.reduceLT,Int.reduceLE,↓reduceIte]
   exact A0s (by decide) (by simp [A19,low,lows,BiL]) (by simp [cutH,A0b,A16,lows,low,BiL]) (ih (i + 1) (by omega))
 refine A05 tg83 rfl rfl rfl ?_
 simp (disch:=first | exact d_X1 | fail) only [c83,EVS,Nat.reduceAdd,Nat.reduceSub,Int.reduceToNat,Nat.reduceMul,Nat.reduceEqDiff,Nat.reduceLeDiff,Int.reduceEq,Int.reduceLT,Int.reduceLE,↓reduceIte]
 exact key n 0 (by omega)
theorem Ani (x i:Nat) (hi:i ≤ 63) (hx:x < 18446744073709551616):∀ h nx,lim T 155 [.int .u64 x,.int .i64 i] h nx=some (.int .i64 ((decide (x / 2 ^ i % 2=1)).toNat:Nat),h,nx):=by
 have hp:=A48 i hi
 have hq:(0:Int) < 2 ^ i:=Int.pow_pos (by decide)
 have h0:((2:Int) ^ i=0)=False:=eq_false (by omega)
 have h00:decide ((2:Int) ^ i=0)=false:=decide_eq_false (by omega)
 have hd:(x:Int).tdiv (2 ^ i)=((x / 2 ^ i:Nat):Int):=by rw [← A0j];rw [Int.tdiv_eq_ediv_of_nonneg (Int.natCast_nonneg _)];rfl
 have hw:IntKind.u64.wrap ((x / 2 ^ i:Nat):Int)=((x / 2 ^ i:Nat):Int):=A2t (Int.natCast_nonneg _) (by have:=Nat.div_le_self x (2 ^ i);omega)
 have hm:((x / 2 ^ i:Nat):Int).tmod 2=((x / 2 ^ i % 2:Nat):Int):=by rw [Int.tmod_eq_emod_of_nonneg (Int.natCast_nonneg _)];rfl
 refine A05 Ayg rfl rfl rfl ?_
 rcases Nat.mod_two_eq_zero_or_one (x / 2 ^ i) with h | h
 ·rw [h] at hm ⊢
  have z:decide (((0:Nat):Int)=1)=false:=rfl
  simp (disch:=first | exact d_X1 | fail) only [c155,hp,h0,h00,hd,hw,hm,z,EVS,Nat.reduceAdd,Nat.reduceSub,Int.reduceToNat,Nat.reduceMul,Nat.reduceEqDiff,Nat.reduceLeDiff,Int.reduceEq,Int.reduceLT,Int.reduceLE,↓reduceIte]
  rfl
 ·rw [h] at hm ⊢
  have z:decide (((1:Nat):Int)=1)=true:=rfl
  simp (disch:=first | exact d_X1 | fail) only [c155,hp,h0,h00,hd,hw,hm,z,EVS,Nat.reduceAdd,Nat.reduceSub,Int.reduceToNat,Nat.reduceMul,Nat.reduceEqDiff,Nat.reduceLeDiff,Int.reduceEq,Int.reduceLT,Int.reduceLE,↓reduceIte]
  rfl
theorem Aji (h0:Heap) (n0 w x:Nat) (hw:w ≤ 64) (hx:x < 18446744073709551616) (id:Nat) (hid:n0 ≤ id):∀ (k i:Nat) (h:Heap) (nx:Nat),i + k=w→id < nx→(∀ q,q < n0→hget h q=hget h0 q)→hget h id=some (.row 1 ((A08 i x).map biV)) →
  @Ok Out (runs T [.code b125_0,.inL none b125_0,.inB 0,.code k125_1] [(0,.int .i64 w),(1,.int .u64 x),(5,.sref 1 id i 0 i),(6,.int .i64 i)] h nx)
   ⟨fun y=>@Ok FV (finV c125.res y) ⟨fun v=>NewB h0 n0 (A08 w x) (v,y.2.2.1,y.2.2.2)⟩⟩:=by
 intro k
 induction k with
 |zero =>
  intro i h nx hi hn hq hg
  have d1:decide ((i:Int) < w)=false:=by simp;omega
  have hi':i=w:=by omega
  subst hi'
  have hl:=A18 i x
  simp (disch:=first | exact d_X1 | fail) only [unf b125_0.eq_1,unf k125_1.eq_1,c125,d1,EVS,Nat.reduceAdd,Nat.reduceSub,Int.reduceToNat,Nat.reduceMul,Nat.reduceEqDiff,Nat.reduceLeDiff,Int.reduceEq,Int.reduceLT,Int.reduceLE,↓reduceIte]
  exact ⟨⟨id,by rw [hl],hid,by dsimp only;omega,hg⟩,by dsimp only;omega,hq⟩
 |succ k ih =>
  intro i h nx hi hn hq hg
  have d1:decide ((i:Int) < w)=true:=by simp;omega
  have hb:=Ani x i (by omega) hx
  have hl:((A08 i x).map biV).length=i:=by rw [List.length_map,A18]
  have hl2:=A18 i x
  simp (disch:=first | exact d_X1 | fail) only [unf b125_0.eq_1,c125,BiL,d1,hb,hg,hl,hl2,EVS,Nat.reduceAdd,Nat.reduceSub,Int.reduceToNat,Nat.reduceMul,Nat.reduceEqDiff,Nat.reduceLeDiff,Int.reduceEq,Int.reduceLT,Int.reduceLE,↓reduceIte]
  refine A0c (ih (i + 1) _ _ (by omega) (by omega) (fun q hq'=>?_) ?_)
  ·rw [A06 (by omega),A04 (by omega)];exact hq q hq'
  ·rw [A06 (by omega),A0z hg,Adi,List.map_append];rfl
theorem A29 (w x:Nat) (hw:w ≤ 64) (hx:x < 18446744073709551616) (h:Heap) (nx:Nat):∃ r,lim T 125 [.int .i64 w,.int .u64 x] h nx=some r∧NewB h nx (A08 w x) r:=by
 refine A25 Azu rfl rfl ?_
 simp (disch:=first | exact d_X1 | fail) only [c125,EVS,Nat.reduceAdd,Nat.reduceSub,Int.reduceToNat,Nat.reduceMul,Nat.reduceEqDiff,Nat.reduceLeDiff,Int.reduceEq,Int.reduceLT,Int.reduceLE,↓reduceIte]
 exact Aji h nx w x hw hx (nx + 1) (by omega) w 0 _ _ (by omega) (by omega) (fun q hq=>by rw [A06 (by omega)]) A0a
theorem A5w (a:FV) (h:Heap) (nx:Nat):lim T 128 [a] h nx=@FI.B (List FV) (FV × Heap × Nat) (frzs h deep [a]) ⟨fun q=>isfR T c128 q h nx⟩:=A6v B1e rfl rfl
theorem Ad1 (e:Bool) (l:List Bool) (hl:l.length ≤ 64):∀ (k i:Nat),i + k=l.length →
  @Ok Out (runs T [.code b128_0,.inL (some 3) b128_0,.inB 0,.code k128_1] [(0,.lst e (l.map biV)),(3,.int .u64 (numB (l.take i):Nat)),(4,.int .i64 i)] [] 3) ⟨fun y=>finV c128.res y=some (.int .u64 (numB l:Nat))⟩:=by
 intro k
 induction k with
 |zero =>
  intro i hi
  have d1:decide ((i:Int) < l.length)=false:=by simp;omega
  simp (disch:=first | exact d_X1 | fail) only [unf b128_0.eq_1,unf k128_1.eq_1,c128,BiL,d1,EVS,Nat.reduceAdd,Nat.reduceSub,Int.reduceToNat,Nat.reduceMul,Nat.reduceEqDiff,Nat.reduceLeDiff,Int.reduceEq,Int.reduceLT,Int.reduceLE,↓reduceIte]
 |succ k ih =>
  intro i hi
  have d1:decide ((i:Int) < l.length)=true:=by simp;omega
  have hil:i < l.length:=by omega
  have hp:=A48 i (by omega)
  have hih:=ih (i + 1) (by omega)
  have ht:numB (l.take (i + 1))=numB (l.take i) + 2 ^ i * (l.getD i false).toNat:=by
   rw [List.take_add_one,A3s,List.length_take,Nat.min_eq_left (by omega)]
   simp [List.getD,hil,numB]
  have hlt:=A2k (l.take (i + 1))
  rw [List.length_take] at hlt
  have h64:(2:Nat) ^ (min (i + 1) l.length) ≤ 2 ^ 64:=Nat.pow_le_pow_right (by decide) (by omega)
  cases hb:l.getD i false with
  |true =>
   have z:decide (((true.toNat:Nat):Int)=1)=true:=rfl
   have hw:IntKind.u64.wrap ((numB (l.take i):Int) + 2 ^ i)=(numB (l.take (i + 1)):Nat):=by
    rw [hb,Bool.toNat_true,Nat.mul_one] at ht
    rw [ht,← A0j]
    generalize 2 ^ i=P at *
    exact A2t (by omega) (by omega)
   simp (disch:=first | exact d_X1 | fail) only [unf b128_0.eq_1,c128,BiL,d1,hb,z,hp,hw,EVS,Nat.reduceAdd,Nat.reduceSub,Int.reduceToNat,Nat.reduceMul,Nat.reduceEqDiff,Nat.reduceLeDiff,Int.reduceEq,Int.reduceLT,Int.reduceLE,↓reduceIte]
   exact A0s (by decide) (by simp [A19,low,lows,BiL]) (by simp [cutH,A0b,A16,lows,low,BiL]) (hih)
  |false =>
   have z:decide (((false.toNat:Nat):Int)=1)=false:=rfl
   rw [ht,hb,Bool.toNat_false,Nat.mul_zero,Nat.add_zero] at hih
   simp (disch:=first | exact d_X1 | fail) only [unf b128_0.eq_1,c128,BiL,d1,hb,z,hp,EVS,Nat.reduceAdd,Nat.reduceSub,Int.reduceToNat,Nat.reduceMul,Nat.reduceEqDiff,Nat.reduceLeDiff,Int.reduceEq,Int.reduceLT,Int.reduceLE,↓reduceIte]
   exact A0s (by decide) (by simp [A19,low,lows,BiL]) (by simp [cutH,A0b,A16,lows,low,BiL]) (hih)
theorem A60 (e:Bool) (l:List Bool) (hl:l.length ≤ 64) (h:Heap) (nx:Nat):isfR T c128 [.lst e (l.map biV)] h nx=some (.int .u64 (numB l:Nat),h,nx):=by
 refine A7g rfl ?_
 simp (disch:=first | exact d_X1 | fail) only [c128,EVS,Nat.reduceAdd,Nat.reduceSub,Int.reduceToNat,Nat.reduceMul,Nat.reduceEqDiff,Nat.reduceLeDiff,Int.reduceEq,Int.reduceLT,Int.reduceLE,↓reduceIte]
 exact Ad1 e l hl l.length 0 (by omega)
theorem A1y (e:Bool) (l:List Bool) (hl:l.length ≤ 64):∀ h nx,lim T 128 [.lst e (l.map biV)] h nx=some (.int .u64 (numB l:Nat),h,nx):=by
 intro h nx
 rw [A5w,A1w (by simp [pures,A0i,Ae8]) (show (1:Nat) ≤ deep by decide),A12]
 exact A60 e l hl h nx
theorem d_X2 {P:Prop} (h:P:=by first|omega|(simp only[EVL]<;>omega)|(simp only[A0n,Nat.reduceEqDiff,↓reduceIte];done)|assumption|(simp (disch:=omega) only[A06,A0a,A04, *];done)|(simp only [BiL];done)|with_unfolding_all rfl):P:=h
theorem Ad3 (h0:Heap) (v:FV) (l:List Bool) (hl:l.length ≤ 100) (n0:Nat) (hb:BV h0 n0 v l) (id:Nat) (hid:n0 ≤ id):∀ (k i:Nat) (h:Heap) (nx:Nat),i + k=l.length→id < nx→(∀ q,q < n0→hget h q=hget h0 q)→hget h id=some (.row 1 (((l.take i).map not).map biV)) →
  @Ok Out (runs T [.code b124_0,.inL none b124_0,.inB 0,.code k124_1] [(0,v),(3,.sref 1 id i 0 i),(4,.int .i64 i)] h nx)
   ⟨fun x=>@Ok FV (finV c124.res x) ⟨fun v=>NewB h0 n0 (l.map not) (v,x.2.2.1,x.2.2.2)⟩⟩:=by
 intro k
 induction k with
 |zero =>
  intro i h nx hi hn hx hg
  have d1:decide ((i:Int) < l.length)=false:=by simp;omega
  have hfin:NewB h0 n0 (l.map not) (.sref 1 id i 0 i,h,nx + 4 + 2):=by
   have e:=List.take_of_length_le (show l.length ≤ i by omega)
   rw [e] at hg
   have hi':i=(l.map not).length:=by rw [List.length_map];omega
   exact ⟨⟨id,by rw [hi'],hid,by dsimp only;omega,hg⟩,by dsimp only;omega,hx⟩
  rcases hb with ⟨e,rfl⟩ | ⟨id',rfl,h2,h3⟩
  ·simp (disch:=first | exact d_X2 | fail) only [unf b124_0.eq_1,unf k124_1.eq_1,c124,BiL,d1,EVS,Nat.reduceAdd,Nat.reduceSub,Int.reduceToNat,Nat.reduceMul,Nat.reduceEqDiff,Nat.reduceLeDiff,Int.reduceEq,Int.reduceLT,Int.reduceLE,↓reduceIte]
   exact hfin
  ·have g:=(hx id' h2).trans h3
   simp (disch:=first | exact d_X2 | fail) only [unf b124_0.eq_1,unf k124_1.eq_1,c124,BiL,d1,g,EVS,Nat.reduceAdd,Nat.reduceSub,Int.reduceToNat,Nat.reduceMul,Nat.reduceEqDiff,Nat.reduceLeDiff,Int.reduceEq,Int.reduceLT,Int.reduceLE,↓reduceIte]
   exact hfin
 |succ k ih =>
  intro i h nx hi hn hx hg
  have d1:decide ((i:Int) < l.length)=true:=by simp;omega
  have hil:i < l.length:=by omega
  have hlen:(((l.take i).map not).map biV).length=i:=by simp;omega
  have hlen2:(l.take i).length=i:=by simp;omega
  have hwr:IntKind.i64.wrap (1 - ((l.getD i false).toNat:Nat))=((!(l.getD i false)).toNat:Nat):=by cases l.getD i false<;>rfl
  rcases hb with ⟨e,rfl⟩ | ⟨id',rfl,h2,h3⟩
  ·simp (disch:=first | exact d_X2 | fail) only [unf b124_0.eq_1,c124,BiL,d1,hg,hlen,hlen2,hwr,EVS,Nat.reduceAdd,Nat.reduceSub,Int.reduceToNat,Nat.reduceMul,Nat.reduceEqDiff,Nat.reduceLeDiff,Int.reduceEq,Int.reduceLT,Int.reduceLE,↓reduceIte]
   have ei:(i:Int) + 1=((i + 1:Nat):Int):=by omega
   refine A0c (ih (i + 1) _ _ (by omega) (by omega) (fun q hq=>?_) ?_)
   ·rw [A06 (by omega),A04 (by omega)];exact hx q hq
   ·rw [A06 (by omega),A0z hg,A58 hil,List.map_append,List.map_append];rfl
  ·have g:=(hx id' h2).trans h3
   simp (disch:=first | exact d_X2 | fail) only [unf b124_0.eq_1,c124,BiL,d1,g,hg,hlen,hlen2,hwr,EVS,Nat.reduceAdd,Nat.reduceSub,Int.reduceToNat,Nat.reduceMul,Nat.reduceEqDiff,Nat.reduceLeDiff,Int.reduceEq,Int.reduceLT,Int.reduceLE,↓reduceIte]
   have ei:(i:Int) + 1=((i + 1:Nat):Int):=by omega
   refine A0c (ih (i + 1) _ _ (by omega) (by omega) (fun q hq=>?_) ?_)
   ·rw [A06 (by omega),A04 (by omega)];exact hx q hq
   ·rw [A06 (by omega),A0z hg,A58 hil,List.map_append,List.map_append];rfl
theorem A4u (v:FV) (l:List Bool) (hl:l.length ≤ 100) (h:Heap) (nx:Nat) (hb:BV h nx v l):∃ r,lim T 124 [v] h nx=some r∧NewB h nx (l.map not) r:=by
 refine A25 B1g rfl rfl ?_
 rcases hb with ⟨e,rfl⟩ | ⟨id',rfl,h2,h3⟩
 ·simp (disch:=first | exact d_X2 | fail) only [c124,BiL,EVS,Nat.reduceAdd,Nat.reduceSub,Int.reduceToNat,Nat.reduceMul,Nat.reduceEqDiff,Nat.reduceLeDiff,Int.reduceEq,Int.reduceLT,Int.reduceLE,↓reduceIte]
  exact Ad3 h _ l hl nx (.inl ⟨e,rfl⟩) (nx + 1) (by omega) l.length 0 _ _ (by omega) (by omega) (fun q hq=>by rw [A06 (by omega)]) (by exact A0a)
 ·simp (disch:=first | exact d_X2 | fail) only [c124,BiL,EVS,Nat.reduceAdd,Nat.reduceSub,Int.reduceToNat,Nat.reduceMul,Nat.reduceEqDiff,Nat.reduceLeDiff,Int.reduceEq,Int.reduceLT,Int.reduceLE,↓reduceIte]
  exact Ad3 h _ l hl nx (.inr ⟨id',rfl,h2,h3⟩) (nx + 1) (by omega) l.length 0 _ _ (by omega) (by omega) (fun q hq=>by rw [A06 (by omega)]) (by exact A0a)
def carB:List Bool→List Bool→Bool→Nat→Bool
 |a::p,b::q,c,i + 1=>carB p q (decide ((a.toNat + b.toNat + c.toNat) / 2=1)) i
 |_,_,c,_=>c
theorem Ak3:∀ (i:Nat) (a b:List Bool) (c:Bool),i < a.length→a.length=b.length→carB a b c (i + 1)=decide (((a.getD i false).toNat + (b.getD i false).toNat + (carB a b c i).toNat) / 2=1)∧(addB a b c).getD i false=decide (((a.getD i false).toNat + (b.getD i false).toNat + (carB a b c i).toNat) % 2=1):=by
 intro i
 induction i with
 |zero =>
  intro a b c hi hl
  cases a with
  |nil=>simp at hi
  |cons x a =>
   cases b with
   |nil=>simp at hl
   |cons y b=>simp [carB,addB]
 |succ i ih =>
  intro a b c hi hl
  cases a with
  |nil=>simp at hi
  |cons x a =>
   cases b with
   |nil=>simp at hl
   |cons y b =>
    have:=ih a b (decide ((x.toNat + y.toNat + c.toNat) / 2=1)) (by simpa using hi) (by simpa using hl)
    simpa [carB,addB] using this
theorem Akw (h0:Heap) (v w:FV) (a b:List Bool) (c:Bool) (hl:a.length ≤ 100) (hab:a.length=b.length) (n0:Nat) (hb:BV h0 n0 v a) (hb2:BV h0 n0 w b) (id:Nat) (hid:n0 ≤ id):∀ (k i:Nat) (h:Heap) (nx:Nat),i + k=a.length→id < nx→(∀ q,q < n0→hget h q=hget h0 q)→hget h id=some (.row 1 (((addB a b c).take i).map biV)) →
  @Ok Out (runs T [.code b126_0,.inL none b126_0,.inB 0,.code k126_1] [(0,v),(1,w),(2,.int .i64 ((carB a b c i).toNat:Nat)),(7,.sref 1 id i 0 i),(8,.int .i64 i)] h nx)
   ⟨fun x=>@Ok FV (finV c126.res x) ⟨fun v=>NewB h0 n0 (addB a b c) (v,x.2.2.1,x.2.2.2)⟩⟩:=by
 have hal:=A49 a b c hab
 intro k
 induction k with
 |zero =>
  intro i h nx hi hn hx hg
  have d1:decide ((i:Int) < a.length)=false:=by simp;omega
  have hfin:∀ nx',id < nx'→n0 ≤ nx'→NewB h0 n0 (addB a b c) (.sref 1 id i 0 i,h,nx'):=by
   intro nx' g1 g2
   have e:=List.take_of_length_le (show (addB a b c).length ≤ i by omega)
   rw [e] at hg
   have hi':i=(addB a b c).length:=by omega
   exact ⟨⟨id,by rw [hi'],hid,g1,hg⟩,g2,hx⟩
  rcases hb with ⟨e,rfl⟩ | ⟨id',rfl,h2,h3⟩
  ·simp (disch:=first | exact d_X2 | fail) only [unf b126_0.eq_1,unf k126_1.eq_1,c126,BiL,d1,EVS,Nat.reduceAdd,Nat.reduceSub,Int.reduceToNat,Nat.reduceMul,Nat.reduceEqDiff,Nat.reduceLeDiff,Int.reduceEq,Int.reduceLT,Int.reduceLE,↓reduceIte]
   exact hfin _ (by omega) (by omega)
  ·have g:=(hx id' h2).trans h3
   simp (disch:=first | exact d_X2 | fail) only [unf b126_0.eq_1,unf k126_1.eq_1,c126,BiL,d1,g,EVS,Nat.reduceAdd,Nat.reduceSub,Int.reduceToNat,Nat.reduceMul,Nat.reduceEqDiff,Nat.reduceLeDiff,Int.reduceEq,Int.reduceLT,Int.reduceLE,↓reduceIte]
   exact hfin _ (by omega) (by omega)
 |succ k ih =>
  intro i h nx hi hn hx hg
  have d1:decide ((i:Int) < a.length)=true:=by simp;omega
  have hil:i < a.length:=by omega
  have hlen:(((addB a b c).take i).map biV).length=i:=by simp;omega
  obtain ⟨hc1,hc2⟩:=Ak3 i a b c hil hab
  have key:∀ x y z:Bool,IntKind.i64.wrap (IntKind.i64.wrap (((x.toNat:Nat):Int) + (y.toNat:Nat)) + (z.toNat:Nat))=((x.toNat + y.toNat + z.toNat:Nat):Int)∧((x.toNat + y.toNat + z.toNat:Nat):Int).tmod 2=((decide ((x.toNat + y.toNat + z.toNat) % 2=1)).toNat:Nat)∧IntKind.i64.wrap (((x.toNat + y.toNat + z.toNat:Nat):Int).tdiv 2)=((decide ((x.toNat + y.toNat + z.toNat) / 2=1)).toNat:Nat):=by
   intro x y z;cases x<;>cases y<;>cases z<;>exact ⟨rfl,rfl,rfl⟩
  obtain ⟨k1,k2,k3⟩:=key (a.getD i false) (b.getD i false) (carB a b c i)
  rw [← hc2] at k2
  rw [← hc1] at k3
  have hil2:i < b.length:=by omega
  have hail:i < (addB a b c).length:=by omega
  have hnext:∀ (y:FV) (nx' z:Nat),n0 ≤ z→id < z→id < nx'→@Ok Out (runs T [.code b126_0,.inL none b126_0,.inB 0,.code k126_1] [(0,v),(1,w),(2,.int .i64 ((carB a b c (i + 1)).toNat:Nat)),(7,.sref 1 id (i + 1) 0 (i + 1)),(8,.int .i64 ((i:Int) + 1))] ((z,.row 1 [y])::hset h id (.row 1 (((addB a b c).take i).map biV ++ [.int .i64 (((addB a b c).getD i false).toNat:Nat)]))) nx')
   ⟨fun x=>@Ok FV (finV c126.res x) ⟨fun v=>NewB h0 n0 (addB a b c) (v,x.2.2.1,x.2.2.2)⟩⟩:=by
   intro y nx' z z1 z2 z3
   refine ih (i + 1) _ _ (by omega) z3 (fun q hq=>?_) ?_
   ·rw [A06 (by omega),A04 (by omega)];exact hx q hq
   ·rw [A06 (by omega),A0z hg,A58 hail,List.map_append];rfl
  rcases hb with ⟨e,rfl⟩ | ⟨id',rfl,h2,h3⟩
  ·rcases hb2 with ⟨e2,rfl⟩ | ⟨id2,rfl,h4,h5⟩
   ·simp (disch:=first | exact d_X2 | fail) only [unf b126_0.eq_1,c126,BiL,d1,hg,hlen,k1,k2,k3,EVS,Nat.reduceAdd,Nat.reduceSub,Int.reduceToNat,Nat.reduceMul,Nat.reduceEqDiff,Nat.reduceLeDiff,Int.reduceEq,Int.reduceLT,Int.reduceLE,↓reduceIte]
    exact A0c (hnext _ _ _ (by omega) (by omega) (by omega))
   ·have g2:=(hx id2 h4).trans h5
    simp (disch:=first | exact d_X2 | fail) only [unf b126_0.eq_1,c126,BiL,d1,hg,hlen,k1,k2,k3,g2,EVS,Nat.reduceAdd,Nat.reduceSub,Int.reduceToNat,Nat.reduceMul,Nat.reduceEqDiff,Nat.reduceLeDiff,Int.reduceEq,Int.reduceLT,Int.reduceLE,↓reduceIte]
    exact A0c (hnext _ _ _ (by omega) (by omega) (by omega))
  ·have g:=(hx id' h2).trans h3
   rcases hb2 with ⟨e2,rfl⟩ | ⟨id2,rfl,h4,h5⟩
   ·simp (disch:=first | exact d_X2 | fail) only [unf b126_0.eq_1,c126,BiL,d1,hg,hlen,k1,k2,k3,g,EVS,Nat.reduceAdd,Nat.reduceSub,Int.reduceToNat,Nat.reduceMul,Nat.reduceEqDiff,Nat.reduceLeDiff,Int.reduceEq,Int.reduceLT,Int.reduceLE,↓reduceIte]
    exact A0c (hnext _ _ _ (by omega) (by omega) (by omega))
   ·have g2:=(hx id2 h4).trans h5
    simp (disch:=first | exact d_X2 | fail) only [unf b126_0.eq_1,c126,BiL,d1,hg,hlen,k1,k2,k3,g,g2,EVS,Nat.reduceAdd,Nat.reduceSub,Int.reduceToNat,Nat.reduceMul,Nat.reduceEqDiff,Nat.reduceLeDiff,Int.reduceEq,Int.reduceLT,Int.reduceLE,↓reduceIte]
    exact A0c (hnext _ _ _ (by omega) (by omega) (by omega))
theorem A4t (v w:FV) (a b:List Bool) (c:Bool) (hl:a.length ≤ 100) (hab:a.length=b.length) (h:Heap) (nx:Nat) (hb:BV h nx v a) (hb2:BV h nx w b):∃ r,lim T 126 [v,w,.int .i64 (c.toNat:Nat)] h nx=some r∧NewB h nx (addB a b c) r:=by
 refine A25 Az9 rfl rfl ?_
 have hh:=Akw h v w a b c hl hab nx hb hb2
 have hc:carB a b c 0=c:=by cases a<;>cases b<;>rfl
 have fin:∀ nx',nx + 1 < nx'→@Ok Out (runs T [.code b126_0,.inL none b126_0,.inB 0,.code k126_1] [(0,v),(1,w),(2,.int .i64 (c.toNat:Nat)),(7,.sref 1 (nx + 1) 0 0 0),(8,.int .i64 0)] ((nx + 1,.row 1 [])::h) nx')
   ⟨fun x=>@Ok FV (finV c126.res x) ⟨fun v=>NewB h nx (addB a b c) (v,x.2.2.1,x.2.2.2)⟩⟩:=fun nx' hn=>by
  have h1:=hh (nx + 1) (by omega) a.length 0 ((nx + 1,.row 1 [])::h) nx' (by omega) hn (fun q hq=>by rw [A06 (by omega)]) A0a
  rw [hc] at h1
  exact h1
 rcases hb with ⟨e,rfl⟩ | ⟨id',rfl,h2,h3⟩
 ·rcases hb2 with ⟨e2,rfl⟩ | ⟨id2,rfl,h4,h5⟩
  ·simp (disch:=first | exact d_X2 | fail) only [c126,BiL,EVS,Nat.reduceAdd,Nat.reduceSub,Int.reduceToNat,Nat.reduceMul,Nat.reduceEqDiff,Nat.reduceLeDiff,Int.reduceEq,Int.reduceLT,Int.reduceLE,↓reduceIte]
   exact fin _ (by omega)
  ·simp (disch:=first | exact d_X2 | fail) only [c126,BiL,EVS,Nat.reduceAdd,Nat.reduceSub,Int.reduceToNat,Nat.reduceMul,Nat.reduceEqDiff,Nat.reduceLeDiff,Int.reduceEq,Int.reduceLT,Int.reduceLE,↓reduceIte]
   exact fin _ (by omega)
 ·rcases hb2 with ⟨e2,rfl⟩ | ⟨id2,rfl,h4,h5⟩
  ·simp (disch:=first | exact d_X2 | fail) only [c126,BiL,EVS,Nat.reduceAdd,Nat.reduceSub,Int.reduceToNat,Nat.reduceMul,Nat.reduceEqDiff,Nat.reduceLeDiff,Int.reduceEq,Int.reduceLT,Int.reduceLE,↓reduceIte]
   exact fin _ (by omega)
  ·simp (disch:=first | exact d_X2 | fail) only [c126,BiL,EVS,Nat.reduceAdd,Nat.reduceSub,Int.reduceToNat,Nat.reduceMul,Nat.reduceEqDiff,Nat.reduceLeDiff,Int.reduceEq,Int.reduceLT,Int.reduceLE,↓reduceIte]
   exact fin _ (by omega)
theorem A3m (n:Nat) (hn:n ≤ 100) (h:Heap) (nx:Nat):∃ r,lim T 127 [.int .i64 n] h nx=some r∧NewB h nx (List.replicate n false) r:=by
 refine A25 B0x rfl rfl ?_
 simp (disch:=first | exact d_X2 | fail) only [c127,BiL,EVS,Nat.reduceAdd,Nat.reduceSub,Int.reduceToNat,Nat.reduceMul,Nat.reduceEqDiff,Nat.reduceLeDiff,Int.reduceEq,Int.reduceLT,Int.reduceLE,↓reduceIte]
 exact ⟨⟨_,by rw [List.length_replicate],by omega,by dsimp only;omega,by rw [List.map_replicate];exact A0a⟩,by dsimp only;omega,fun i hi=>A06 (by omega)⟩
theorem Ac2 (v:FV) (l:List Bool) (hl:l.length ≤ 100) (h0:l ≠ []) (h:Heap) (nx:Nat) (hb:BV h nx v l):∃ r,lim T 156 [v] h nx=some r∧NewB h nx (upB l) r:=by
 have hpos:=List.length_pos_iff.2 h0
 have hlk:A9o 1 (l.map biV)=true:=Agi (fun _=>rfl) l
 have e1:((l.length:Int) - 1).toNat=l.length - 1:=by omega
 have htk:List.take (l.length - 1) (l.map biV)=l.dropLast.map biV:=by rw [List.dropLast_eq_take,List.map_take]
 have hdl:l.dropLast.length=l.length - 1:=List.length_dropLast
 refine A25 B0g rfl rfl ?_
 rcases hb with ⟨e,rfl⟩ | ⟨id',rfl,h2,h3⟩
 ·simp (disch:=first | exact d_X2 | fail) only [c156,BiL,hlk,e1,htk,EVS,Nat.reduceAdd,Nat.reduceSub,Int.reduceToNat,Nat.reduceMul,Nat.reduceEqDiff,Nat.reduceLeDiff,Int.reduceEq,Int.reduceLT,Int.reduceLE,↓reduceIte]
  exact ⟨⟨_,by rw [Nat.add_comm 1];rfl,by omega,by dsimp only;omega,A0a⟩,by dsimp only;omega,fun i hi=>A06 (by omega)⟩
 ·simp (disch:=first | exact d_X2 | fail) only [c156,BiL,h3,hlk,e1,htk,EVS,Nat.reduceAdd,Nat.reduceSub,Int.reduceToNat,Nat.reduceMul,Nat.reduceEqDiff,Nat.reduceLeDiff,Int.reduceEq,Int.reduceLT,Int.reduceLE,↓reduceIte]
  exact ⟨⟨_,by rw [Nat.add_comm 1];rfl,by omega,by dsimp only;omega,A0a⟩,by dsimp only;omega,fun i hi=>A06 (by omega)⟩
theorem d_X3 {P:Prop} (h:P:=by first|omega|(simp only[EVL]<;>omega)|(simp only[A0n,Nat.reduceEqDiff,↓reduceIte];done)|assumption|(simp (disch:=omega) only[A06,A0a,A04, *];done)|(simp only [BiL];done)|with_unfolding_all rfl):P:=h
def SrB (h:Heap) (nx:Nat) (v:FV) (l:List Bool):Prop:=∃ id,v=.sref 1 id l.length 0 l.length∧id < nx∧hget h id=some (.row 1 (l.map biV))
theorem SrB.bv {h:Heap} {nx:Nat} {v:FV} {l:List Bool} (hs:SrB h nx v l):BV h nx v l:=.inr hs
theorem SrB.mono {h h':Heap} {nx nx':Nat} {v:FV} {l:List Bool} (hb:SrB h nx v l) (hn:nx ≤ nx') (he:∀ i,i < nx→hget h' i=hget h i):SrB h' nx' v l:=by
 obtain ⟨id,h1,h2,h3⟩:=hb
 exact ⟨id,h1,by omega,by rw [he id h2];exact h3⟩
theorem A1v {h:Heap} {nx:Nat} {l:List Bool} {r:FV × Heap × Nat} (hr:NewB h nx l r):SrB r.2.1 r.2.2 r.1 l:=by
 obtain ⟨⟨id,h1,_,h3,h4⟩,_⟩:=hr
 exact ⟨id,h1,h3,h4⟩
theorem A0o {h:Heap} {nx:Nat} {l:List Bool} {r:FV × Heap × Nat} (hr:NewB h nx l r):A1z r.1=false:=by
 obtain ⟨⟨id,h1,_⟩,_⟩:=hr
 rw [h1];rfl
theorem Akt {d:Bool} (b:List Bool) (R:List Bool) (hbl:b.length ≤ 100) (Q:Post Out)
  (next:∀ (va vo:FV) (h:Heap) (nx:Nat) (t:Tm),SrB h nx vo R→@Ok Out (runs T [.code k129_1] ((0,va)::(1,.lst d (b.map biV))::(5,vo)::t) h nx) Q) :
  ∀ (k i:Nat) (A O:List Bool) (va vo:FV) (h:Heap) (nx:Nat),i + k=b.length→A.length ≤ 100→A ≠ []→O.length=A.length→mulB O A (b.drop i)=R→BV h nx va A→SrB h nx vo O →
  @Ok Out (runs T [.code b129_0,.inL none b129_0,.inB 0,.code k129_1] [(0,va),(1,.lst d (b.map biV)),(5,vo),(6,.int .i64 i)] h nx) Q:=by
 intro k
 induction k with
 |zero =>
  intro i A O va vo h nx hi hA hA0 hO hR hva hvo
  have d1:decide ((i:Int) < b.length)=false:=by simp;omega
  rw [List.drop_eq_nil_of_le (by omega)] at hR
  have hR:O=R:=hR
  subst hR
  simp (disch:=first | exact d_X3 | fail) only [unf b129_0.eq_1,c129,BiL,d1,EVS,Nat.reduceAdd,Nat.reduceSub,Int.reduceToNat,Nat.reduceMul,Nat.reduceEqDiff,Nat.reduceLeDiff,Int.reduceEq,Int.reduceLT,Int.reduceLE,↓reduceIte]
  exact next _ _ _ _ _ (hvo.mono (by omega) (fun i _=>rfl))
 |succ k ih =>
  intro i A O va vo h nx hi hA hA0 hO hR hva hvo
  have d1:decide ((i:Int) < b.length)=true:=by simp;omega
  have hil:i < b.length:=by omega
  have hd:b.drop i=b.getD i false::b.drop (i + 1):=by rw [List.drop_eq_getElem_cons hil];simp [List.getD,hil]
  rw [hd] at hR
  simp only [mulB] at hR
  have hu:=Ag8 A hA0
  cases hb:b.getD i false with
  |true =>
   have z:decide (((true.toNat:Nat):Int)=1)=true:=rfl
   rw [hb,if_pos rfl] at hR
   simp (disch:=first | exact d_X3 | fail) only [unf b129_0.eq_1,c129,BiL,d1,hb,z,EVS,Nat.reduceAdd,Nat.reduceSub,Int.reduceToNat,Nat.reduceMul,Nat.reduceEqDiff,Nat.reduceLeDiff,Int.reduceEq,Int.reduceLT,Int.reduceLE,↓reduceIte]
   have ha:∃ r,lim T 126 [vo,va,.int .i64 0] h (nx + 4 + 5 + 4)=some r∧NewB h (nx + 4 + 5 + 4) (addB O A false) r:=A4t vo va O A false (by omega) hO h _ (hvo.bv.mono (by omega) (fun _ _=>rfl)) (hva.mono (by omega) (fun _ _=>rfl))
   refine A09 ha fun r hr=>?_
   have hs:=A1v (l:=addB O A false) hr
   have hp:=A0o (l:=addB O A false) hr
   obtain ⟨_,x1,x2⟩:=hr
   obtain ⟨v1,h1,n1⟩:=r
   dsimp only at hs hp x1 x2
   refine ⟨hp,?_⟩
   simp (disch:=first | exact d_X3 | fail) only [c129,BiL,EVS,Nat.reduceAdd,Nat.reduceSub,Int.reduceToNat,Nat.reduceMul,Nat.reduceEqDiff,Nat.reduceLeDiff,Int.reduceEq,Int.reduceLT,Int.reduceLE,↓reduceIte]
   refine A09 (Ac2 va A hA hA0 h1 _ (hva.mono (by omega) (fun q hq=>x2 q (by omega)))) fun r hr=>?_
   have hs2:=A1v (l:=upB A) hr
   have hp:=A0o (l:=upB A) hr
   obtain ⟨_,y1,y2⟩:=hr
   obtain ⟨v2,h2,n2⟩:=r
   dsimp only at hs2 hp y1 y2
   refine ⟨hp,?_⟩
   simp (disch:=first | exact d_X3 | fail) only [c129,BiL,EVS,Nat.reduceAdd,Nat.reduceSub,Int.reduceToNat,Nat.reduceMul,Nat.reduceEqDiff,Nat.reduceLeDiff,Int.reduceEq,Int.reduceLT,Int.reduceLE,↓reduceIte]
   refine A0c (ih (i + 1) (upB A) (addB O A false) _ _ _ _ (by omega) (by omega) (by simp [upB]) (by rw [A49 _ _ _ hO,hO,hu]) hR (hs2.bv.mono (by omega) (fun _ _=>rfl)) (hs.mono (by omega) (fun q hq=>y2 q (by omega))))
  |false =>
   have z:decide (((false.toNat:Nat):Int)=1)=false:=rfl
   rw [hb,if_neg (by decide)] at hR
   simp (disch:=first | exact d_X3 | fail) only [unf b129_0.eq_1,c129,BiL,d1,hb,z,EVS,Nat.reduceAdd,Nat.reduceSub,Int.reduceToNat,Nat.reduceMul,Nat.reduceEqDiff,Nat.reduceLeDiff,Int.reduceEq,Int.reduceLT,Int.reduceLE,↓reduceIte]
   refine A09 (Ac2 va A hA hA0 h _ (hva.mono (by omega) (fun _ _=>rfl))) fun r hr=>?_
   have hs2:=A1v (l:=upB A) hr
   have hp:=A0o (l:=upB A) hr
   obtain ⟨_,y1,y2⟩:=hr
   obtain ⟨v2,h2,n2⟩:=r
   dsimp only at hs2 hp y1 y2
   refine ⟨hp,?_⟩
   simp (disch:=first | exact d_X3 | fail) only [c129,BiL,EVS,Nat.reduceAdd,Nat.reduceSub,Int.reduceToNat,Nat.reduceMul,Nat.reduceEqDiff,Nat.reduceLeDiff,Int.reduceEq,Int.reduceLT,Int.reduceLE,↓reduceIte]
   refine A0c (ih (i + 1) (upB A) O _ _ _ _ (by omega) (by omega) (by simp [upB]) (by omega) hR (hs2.bv.mono (by omega) (fun _ _=>rfl)) (hvo.mono (by omega) (fun q hq=>y2 q (by omega))))
theorem SrB.frz {h:Heap} {nx:Nat} {v:FV} {l:List Bool} (hs:SrB h nx v l) {k:Nat} (hk:l.length + 2 ≤ k):FI.frz h k v=some (.lst false (l.map biV)):=by
 obtain ⟨m,rfl⟩:∃ m,k=m + 1:=⟨k - 1,by omega⟩
 obtain ⟨id,rfl,h3,h4⟩:=hs
 rw [Aa0 (by decide),el_r,h4,A7d,A2d ⟨by simp,by omega⟩,A12,Aio]
 have e:List.take (0 + l.length - 0) (List.drop 0 (l.map biV))=l.map biV:=by rw [List.drop_zero];exact List.take_of_length_le (by simp)
 rw [e,A1w (Ae8 l) (by simp;omega),A12]
theorem Ak6 (e d:Bool) (a b:List Bool) (ha:a.length ≤ 100) (ha0:a ≠ []) (hb:b.length ≤ 100):∀ args h nx,args.length=2→frzs h deep args=some [.lst e (a.map biV),.lst d (b.map biV)]→lim T 129 args h nx=some (.lst false ((mulB (List.replicate a.length false) a b).map biV),A2i h (idL h deep args),nx):=by
 have hlen:=(Agz b (List.replicate a.length false) a (by simp) ha0).2
 intro args H0 nx0 hal hf0
 refine Afk B10 rfl hal hf0 ?_
 simp (disch:=first | exact d_X3 | fail) only [c129,BiL,EVS,Nat.reduceAdd,Nat.reduceSub,Int.reduceToNat,Nat.reduceMul,Nat.reduceEqDiff,Nat.reduceLeDiff,Int.reduceEq,Int.reduceLT,Int.reduceLE,↓reduceIte]
 refine A09 (A3m a.length ha _ _) fun r hr=>?_
 have hs:=A1v (l:=List.replicate a.length false) hr
 have hp:=A0o (l:=List.replicate a.length false) hr
 obtain ⟨_,x1,x2⟩:=hr
 obtain ⟨v1,h1,n1⟩:=r
 dsimp only at hs hp x1 x2
 refine ⟨hp,?_⟩
 simp (disch:=first | exact d_X3 | fail) only [c129,BiL,EVS,Nat.reduceAdd,Nat.reduceSub,Int.reduceToNat,Nat.reduceMul,Nat.reduceEqDiff,Nat.reduceLeDiff,Int.reduceEq,Int.reduceLT,Int.reduceLE,↓reduceIte]
 refine Akt b (mulB (List.replicate a.length false) a b) hb _ (fun va vo h nx t hvo=>?_) b.length 0 a (List.replicate a.length false) _ _ _ _ (by omega) ha ha0 (by simp) (by rw [List.drop_zero]) (.inl ⟨e,rfl⟩) (hs.mono (by omega) (fun _ _=>rfl))
 have hf:=hvo.frz (k:=1152921504606846976) (by omega)
 simp (disch:=first | exact d_X3 | fail) only [unf k129_1.eq_1,c129,BiL,EVS,Nat.reduceAdd,Nat.reduceSub,Int.reduceToNat,Nat.reduceMul,Nat.reduceEqDiff,Nat.reduceLeDiff,Int.reduceEq,Int.reduceLT,Int.reduceLE,↓reduceIte]
 exact hf
theorem A9i (a b:FV) (h:Heap) (nx:Nat):lim T 134 [a,b] h nx=@FI.B (List FV) (FV × Heap × Nat) (frzs h deep [a,b]) ⟨fun q=>isfR T c134 q h nx⟩:=A6v B0m rfl rfl
theorem Air (e d:Bool) (a b:List Bool) (hl:a.length ≤ 100) (hab:a.length=b.length):∀ (i:Nat),i ≤ a.length→a.drop i=b.drop i →
  @Ok Out (runs T [.code b134_0,.inL (some 5) b134_0,.inB 0,.code k134_1] [(0,.lst e (a.map biV)),(1,.lst d (b.map biV)),(5,.int .i64 ((i:Int) - 1))] [] 5) ⟨fun y=>finV c134.res y=some (.bool (decide (numB a < numB b)))⟩:=by
 intro i
 induction i with
 |zero =>
  intro _ he
  have he:a=b:=he
  have d1:decide (0 ≤ ((0:Nat):Int) - 1)=false:=rfl
  simp (disch:=first | exact d_X3 | fail) only [unf b134_0.eq_1,unf k134_1.eq_1,c134,BiL,d1,EVS,Nat.reduceAdd,Nat.reduceSub,Int.reduceToNat,Nat.reduceMul,Nat.reduceEqDiff,Nat.reduceLeDiff,Int.reduceEq,Int.reduceLT,Int.reduceLE,↓reduceIte]
  rw [decide_eq_false (Akn he)]
 |succ i ih =>
  intro hi he
  have e1:(((i + 1:Nat):Int) - 1)=(i:Int):=by omega
  have d1:decide (0 ≤ (i:Int))=true:=by simp
  have hil:i < a.length:=by omega
  have hil2:i < b.length:=by omega
  rw [e1]
  have hk:∀ x y:Bool,decide (((x.toNat:Nat):Int)=(y.toNat:Nat))=(x == y):=by decide
  have hk2:∀ x y:Bool,decide (((x.toNat:Nat):Int) < (y.toNat:Nat))=(!x && y):=by decide
  by_cases hq:a.getD i false=b.getD i false
  ·have hd:a.drop i=b.drop i:=by
    rw [List.drop_eq_getElem_cons hil,List.drop_eq_getElem_cons hil2,he]
    congr 1
    simpa [List.getD,hil,hil2] using hq
   have hih:=ih (by omega) hd
   have hq2:(a.getD i false == b.getD i false)=true:=by rw [hq];exact beq_self_eq_true _
   simp (disch:=first | exact d_X3 | fail) only [unf b134_0.eq_1,c134,BiL,d1,hk,hq2,EVS,Nat.reduceAdd,Nat.reduceSub,Int.reduceToNat,Nat.reduceMul,Nat.reduceEqDiff,Nat.reduceLeDiff,Int.reduceEq,Int.reduceLT,Int.reduceLE,↓reduceIte]
   exact A0s (by decide) (by simp [A19,low,lows,BiL]) (by simp [cutH,A0b,A16,lows,low,BiL]) (hih)
  ·have hla:=As9 hab hil he hq
   have hq2:(a.getD i false == b.getD i false)=false:=by simpa using hq
   have hr:decide (numB a < numB b)=(!(a.getD i false) && b.getD i false):=by
    rw [decide_eq_decide.2 hla]
    have:∀ x y:Bool,¬ x=y→decide (x=false)=(!x && y):=by decide
    exact this _ _ hq
   rw [hr]
   simp (disch:=first | exact d_X3 | fail) only [unf b134_0.eq_1,c134,BiL,d1,hk,hk2,hq2,EVS,Nat.reduceAdd,Nat.reduceSub,Int.reduceToNat,Nat.reduceMul,Nat.reduceEqDiff,Nat.reduceLeDiff,Int.reduceEq,Int.reduceLT,Int.reduceLE,↓reduceIte]
theorem Ach (e d:Bool) (a b:List Bool) (hl:a.length ≤ 100) (hab:a.length=b.length) (h:Heap) (nx:Nat):isfR T c134 [.lst e (a.map biV),.lst d (b.map biV)] h nx=some (.bool (decide (numB a < numB b)),h,nx):=by
 refine A7g rfl ?_
 simp (disch:=first | exact d_X3 | fail) only [c134,BiL,EVS,Nat.reduceAdd,Nat.reduceSub,Int.reduceToNat,Nat.reduceMul,Nat.reduceEqDiff,Nat.reduceLeDiff,Int.reduceEq,Int.reduceLT,Int.reduceLE,↓reduceIte]
 exact Air e d a b hl hab a.length (Nat.le_refl _) (by rw [List.drop_length,hab,List.drop_length])
theorem A2s (b:Bool):∀ h nx,lim T 133 [.bool b] h nx=some (.int .u64 (b.toNat:Nat),h,nx):=by
 refine A05 B0q rfl rfl rfl ?_
 cases b with
 |true=>simp (disch:=first | exact d_X3 | fail) only [c133,EVS,Nat.reduceAdd,Nat.reduceSub,Int.reduceToNat,Nat.reduceMul,Nat.reduceEqDiff,Nat.reduceLeDiff,Int.reduceEq,Int.reduceLT,Int.reduceLE,↓reduceIte];rfl
 |false=>simp (disch:=first | exact d_X3 | fail) only [c133,EVS,Nat.reduceAdd,Nat.reduceSub,Int.reduceToNat,Nat.reduceMul,Nat.reduceEqDiff,Nat.reduceLeDiff,Int.reduceEq,Int.reduceLT,Int.reduceLE,↓reduceIte];rfl
theorem d_X4 {P:Prop} (h:P:=by first|omega|(simp only[EVL]<;>omega)|(simp only[A0n,Nat.reduceEqDiff,↓reduceIte];done)|assumption|(simp (disch:=omega) only[A06,A0a,A04, *];done)|(simp only [BiL];done)|with_unfolding_all rfl):P:=h
theorem Ad9 (x:Nat) (hx:x < 18446744073709551616):∀ h nx,lim T 131 [.int .u64 x] h nx=some (.int .i64 (min x 64:Nat),h,nx):=by
 refine A05 B0j rfl rfl rfl ?_
 have key:∀ (k i:Nat),i + k=min x 64→@Ok Out (runs T [.code b131_0,.inL (some 2) b131_0,.inB 0,.code k131_1] [(0,.int .u64 x),(3,.int .i64 i)] [] 2) ⟨fun y=>resV c131.res y=some (.int .i64 (min x 64:Nat))⟩:=by
  intro k
  induction k with
  |zero =>
   intro i hi
   have hi':i=min x 64:=by omega
   by_cases h64:i < 64
   ·have d1:decide ((i:Int) < 64)=true:=by simp;omega
    have d2:decide ((i:Int) < x)=false:=by simp;omega
    simp (disch:=first | exact d_X4 | fail) only [unf b131_0.eq_1,unf k131_1.eq_1,c131,d1,d2,EVS,Nat.reduceAdd,Nat.reduceSub,Int.reduceToNat,Nat.reduceMul,Nat.reduceEqDiff,Nat.reduceLeDiff,Int.reduceEq,Int.reduceLT,Int.reduceLE,↓reduceIte]
    rw [hi']
   ·have d1:decide ((i:Int) < 64)=false:=by simp;omega
    simp (disch:=first | exact d_X4 | fail) only [unf b131_0.eq_1,unf k131_1.eq_1,c131,d1,EVS,Nat.reduceAdd,Nat.reduceSub,Int.reduceToNat,Nat.reduceMul,Nat.reduceEqDiff,Nat.reduceLeDiff,Int.reduceEq,Int.reduceLT,Int.reduceLE,↓reduceIte]
    rw [hi']
  |succ k ih =>
   intro i hi
   have d1:decide ((i:Int) < 64)=true:=by simp;omega
   have d2:decide ((i:Int) < x)=true:=by simp;omega
   simp (disch:=first | exact d_X4 | fail) only [unf b131_0.eq_1,c131,d1,d2,EVS,Nat.reduceAdd,Nat.reduceSub,Int.reduceToNat,Nat.reduceMul,Nat.reduceEqDiff,Nat.reduceLeDiff,Int.reduceEq,Int.reduceLT,Int.reduceLE,↓reduceIte]
   exact A0s (by decide) (by simp [A19,low,lows,BiL]) (by simp [cutH,A0b,A16,lows,low,BiL]) (ih (i + 1) (by omega))
 simp (disch:=first | exact d_X4 | fail) only [c131,EVS,Nat.reduceAdd,Nat.reduceSub,Int.reduceToNat,Nat.reduceMul,Nat.reduceEqDiff,Nat.reduceLeDiff,Int.reduceEq,Int.reduceLT,Int.reduceLE,↓reduceIte]
 exact key (min x 64) 0 (by omega)
theorem Ag1 (e:Bool) (a R:List Bool) (n:Int) (f:Bool) (hl:a.length ≤ 100) (hn:-64 ≤ n∧n ≤ 64) (hR:R.length=a.length)
  (H:∀ i,i < a.length→((i:Int) + n < 0∧R.getD i false=false) ∨ (0 ≤ (i:Int) + n∧(a.length:Int) ≤ (i:Int) + n∧R.getD i false=f) ∨ (0 ≤ (i:Int) + n∧(i:Int) + n < a.length∧R.getD i false=a.getD ((i:Int) + n).toNat false)):∀ (k i:Nat),i + k=a.length →
  @Ok Out (runs T [.code b130_0,.inL (some 3) b130_0,.inB 0,.code k130_1] [(0,.lst e (a.map biV)),(1,.int .i64 n),(2,.int .i64 (f.toNat:Nat)),(7,.sref 1 1 i 0 i),(8,.int .i64 i)] [(1,.row 1 ((R.take i).map biV))] 3) ⟨fun y=>resV c130.res y=some (.lst false (R.map biV))⟩:=by
 intro k
 induction k with
 |zero =>
  intro i hi
  have d1:decide ((i:Int) < a.length)=false:=by simp;omega
  have hi':i=R.length:=by omega
  have hl2:((R.take i).map biV).length=i:=by simp;omega
  rw [hi',List.take_length] at hl2 ⊢
  rw [hi'] at d1
  simp (disch:=first | exact d_X4 | fail) only [unf b130_0.eq_1,unf k130_1.eq_1,c130,BiL,d1,hl2,EVS,Nat.reduceAdd,Nat.reduceSub,Int.reduceToNat,Nat.reduceMul,Nat.reduceEqDiff,Nat.reduceLeDiff,Int.reduceEq,Int.reduceLT,Int.reduceLE,↓reduceIte]
  skip
 |succ k ih =>
  intro i hi
  have d1:decide ((i:Int) < a.length)=true:=by simp;omega
  have hil:i < a.length:=by omega
  have hl2:((R.take i).map biV).length=i:=by simp;omega
  have hih:=ih (i + 1) (by omega)
  rw [A58 (by omega:i < R.length),List.map_append] at hih
  rcases H i hil with ⟨h1,h2⟩ | ⟨h1,h3,h2⟩ | ⟨h1,h3,h2⟩
  ·rw [h2] at hih
   have d2:decide ((i:Int) + n < 0)=true:=decide_eq_true h1
   simp (disch:=first | exact d_X4 | fail) only [unf b130_0.eq_1,c130,BiL,d1,d2,hl2,EVS,Nat.reduceAdd,Nat.reduceSub,Int.reduceToNat,Nat.reduceMul,Nat.reduceEqDiff,Nat.reduceLeDiff,Int.reduceEq,Int.reduceLT,Int.reduceLE,↓reduceIte]
   exact A0s (by decide) (by simp [A19,low,lows,BiL]) (by simp [cutH,A0b,A16,lows,low,BiL,-List.map_take]) hih
  ·rw [h2] at hih
   have d2:decide ((i:Int) + n < 0)=false:=decide_eq_false (by omega)
   have d3:decide ((a.length:Int) ≤ (i:Int) + n)=true:=decide_eq_true h3
   simp (disch:=first | exact d_X4 | fail) only [unf b130_0.eq_1,c130,BiL,d1,d2,d3,hl2,EVS,Nat.reduceAdd,Nat.reduceSub,Int.reduceToNat,Nat.reduceMul,Nat.reduceEqDiff,Nat.reduceLeDiff,Int.reduceEq,Int.reduceLT,Int.reduceLE,↓reduceIte]
   exact A0s (by decide) (by simp [A19,low,lows,BiL]) (by simp [cutH,A0b,A16,lows,low,BiL,-List.map_take]) hih
  ·rw [h2] at hih
   have d2:decide ((i:Int) + n < 0)=false:=decide_eq_false (by omega)
   have d3:decide ((a.length:Int) ≤ (i:Int) + n)=false:=decide_eq_false (by omega)
   simp (disch:=first | exact d_X4 | fail) only [unf b130_0.eq_1,c130,BiL,d1,d2,d3,hl2,EVS,Nat.reduceAdd,Nat.reduceSub,Int.reduceToNat,Nat.reduceMul,Nat.reduceEqDiff,Nat.reduceLeDiff,Int.reduceEq,Int.reduceLT,Int.reduceLE,↓reduceIte]
   exact A0s (by decide) (by simp [A19,low,lows,BiL]) (by simp [cutH,A0b,A16,lows,low,BiL,-List.map_take]) hih
theorem A8x (e:Bool) (a R:List Bool) (n:Int) (f:Bool) (hl:a.length ≤ 100) (hn:-64 ≤ n∧n ≤ 64) (hR:R.length=a.length)
  (H:∀ i,i < a.length→((i:Int) + n < 0∧R.getD i false=false) ∨ (0 ≤ (i:Int) + n∧(a.length:Int) ≤ (i:Int) + n∧R.getD i false=f) ∨ (0 ≤ (i:Int) + n∧(i:Int) + n < a.length∧R.getD i false=a.getD ((i:Int) + n).toNat false)):∀ args h nx,args.length=3→frzs h deep args=some [.lst e (a.map biV),.int .i64 n,.int .i64 (f.toNat:Nat)]→lim T 130 args h nx=some (.lst false (R.map biV),A2i h (idL h deep args),nx):=by
 intro args H0 nx0 hal hf0
 refine Afk B09 rfl hal hf0 ?_
 have:=Ag1 e a R n f hl hn hR H a.length 0 (by omega)
 simp (disch:=first | exact d_X4 | fail) only [c130,BiL,EVS,Nat.reduceAdd,Nat.reduceSub,Int.reduceToNat,Nat.reduceMul,Nat.reduceEqDiff,Nat.reduceLeDiff,Int.reduceEq,Int.reduceLT,Int.reduceLE,↓reduceIte]
 exact this
theorem Aak (e:Bool) (a:List Bool) (n:Nat) (f:Bool) (hl:a.length ≤ 100) (hn:n ≤ 64):∀ args h nx,args.length=3→frzs h deep args=some [.lst e (a.map biV),.int .i64 n,.int .i64 (f.toNat:Nat)]→lim T 130 args h nx=some (.lst false ((A7z a n f).map biV),A2i h (idL h deep args),nx):=by
 refine A8x e a (A7z a n f) n f hl (by omega) (A9c a n f) fun i hi=>?_
 rw [Al8 a n f i hi]
 split
 ·exact .inr (.inl ⟨by omega,by omega,rfl⟩)
 ·exact .inr (.inr ⟨by omega,by omega,by rw [show ((i:Int) + n).toNat=i + n by omega]⟩)
theorem Amu (e:Bool) (a:List Bool) (n:Nat) (hl:a.length ≤ 100) (hn:n ≤ 64):∀ args h nx,args.length=3→frzs h deep args=some [.lst e (a.map biV),.int .i64 (-(n:Int)),.int .i64 ((false.toNat:Nat):Int)]→lim T 130 args h nx=some (.lst false ((upsB a n).map biV),A2i h (idL h deep args),nx):=by
 refine A8x e a (upsB a n) (-(n:Int)) false hl (by omega) (Ah0 a n) fun i hi=>?_
 rw [Apc a n i hi]
 split
 ·exact .inl ⟨by omega,rfl⟩
 ·exact .inr (.inr ⟨by omega,by omega,by rw [show ((i:Int) + -(n:Int)).toNat=i - n by omega]⟩)
theorem Alp (e:Bool) (a b:List Bool) (hl:a.length ≤ 64) (hab:a.length=b.length) (hB:0 < numB b) (W:List Bool) (hW:W=b ++ [false]) (wid:Nat) (Q:Post Out)
  (next:∀ (vq vr:FV) (q r:List Bool) (h:Heap) (nx:Nat) (t:Tm),q.length=a.length→r.length=a.length + 1→numB q=numB a / numB b→numB r=numB a % numB b→SrB h nx vq q→BV h nx vr r→@Ok Out (runs T [.code k132_1] ((0,.lst e (a.map biV))::(6,vq)::(7,vr)::t) h nx) Q) :
  ∀ (i:Nat) (q r:List Bool) (qid:Nat) (vr:FV) (h:Heap) (nx:Nat),i ≤ a.length→q.length=a.length→r.length=a.length + 1→(∀ j,j < i→q.getD j false=false)→numB q=numB a / 2 ^ i / numB b * 2 ^ i→numB r=numB a / 2 ^ i % numB b→(wid ≠ qid∧wid < nx)→qid < nx→hget h qid=some (.row 1 (q.map biV))→BV h nx vr r→hget h wid=some (.row 1 (W.map biV)) →
  @Ok Out (runs T [.code b132_0,.inL none b132_0,.inB 0,.code k132_1] [(0,.lst e (a.map biV)),(6,.sref 1 qid q.length 0 q.length),(7,vr),(8,.sref 1 wid W.length 0 W.length),(9,.int .i64 ((i:Int) - 1))] h nx) Q:=by
 intro i
 induction i with
 |zero =>
  intro q r qid vr h nx hi hq hr hz hnq hnr hq1 hq2 hq3 hvr hwd
  have d1:decide (0 ≤ ((0:Nat):Int) - 1)=false:=rfl
  simp (disch:=first | exact d_X4 | fail) only [unf b132_0.eq_1,c132,BiL,d1,EVS,Nat.reduceAdd,Nat.reduceSub,Int.reduceToNat,Nat.reduceMul,Nat.reduceEqDiff,Nat.reduceLeDiff,Int.reduceEq,Int.reduceLT,Int.reduceLE,↓reduceIte]
  rw [Nat.pow_zero,Nat.div_one] at hnq hnr
  exact next _ _ q r _ _ _ hq hr (by omega) hnr ⟨qid,rfl,by omega,hq3⟩ (hvr.mono (by omega) (fun _ _=>rfl))
 |succ i ih =>
  intro q r qid vr h nx hi hq hr hz hnq hnr hq1 hq2 hq3 hvr hwd
  have hq11:=hq1.1
  have hq12:=hq1.2
  have e1:(((i + 1:Nat):Int) - 1)=(i:Int):=by omega
  have d1:decide (0 ≤ (i:Int))=true:=by simp
  have hil:i < a.length:=by omega
  rw [e1]
  simp (disch:=first | exact d_X4 | fail) only [unf b132_0.eq_1,c132,BiL,d1,EVS,Nat.reduceAdd,Nat.reduceSub,Int.reduceToNat,Nat.reduceMul,Nat.reduceEqDiff,Nat.reduceLeDiff,Int.reduceEq,Int.reduceLT,Int.reduceLE,↓reduceIte]
  have hr0:r ≠ []:=fun h=>by rw [h] at hr;simp at hr
  refine A09 (Ac2 vr r (by omega) hr0 h _ (hvr.mono (by omega) (fun _ _=>rfl))) fun x hx=>?_
  have hp:=A0o (l:=upB r) hx
  obtain ⟨⟨id1,g1,g2,g3,g4⟩,x1,x2⟩:=hx
  obtain ⟨v1,h1,n1⟩:=x
  dsimp only at hp g1 g2 g3 g4 x1 x2
  subst g1
  refine ⟨hp,?_⟩
  have hul:=Ag8 r hr0
  have hset:(upB r).map biV=.int .i64 0::r.dropLast.map biV:=rfl
  have hb2:((upB r).map biV).set 0 (.int .i64 ((a.getD i false).toNat:Nat))=(a.getD i false::r.dropLast).map biV:=by rw [hset];rfl
  have hRl:(a.getD i false::r.dropLast).length=r.length:=by rw [List.length_cons,List.length_dropLast];omega
  have hRn:numB (a.getD i false::r.dropLast)=2 * numB r + (a.getD i false).toNat:=by
   have h1:=Akq r hr0
   unfold upB at h1
   simp only [numB,Bool.toNat_false,Nat.zero_add] at h1 ⊢
   have h2:=Nat.mod_lt (numB a / 2 ^ (i + 1)) hB
   have h3:=A2k b
   have h4:(2:Nat) ^ r.length=2 * 2 ^ b.length:=by rw [hr,hab,Nat.pow_succ,Nat.mul_comm]
   rw [h4,Nat.mod_eq_of_lt (by omega)] at h1
   omega
  have i5:∀ Y,hget (FI.hset h1 id1 Y) id1=some Y:=fun Y=>A0z g4
  have gW:∀ Y,hget (FI.hset h1 id1 Y) wid=some (.row 1 (W.map biV)):=fun Y=>by rw [A04 (by omega),x2 wid (by omega)];exact hwd
  have gq:∀ Y,hget (FI.hset h1 id1 Y) qid=some (.row 1 (q.map biV)):=fun Y=>by rw [A04 (by omega),x2 qid (by omega)];exact hq3
  have hWl:W.length=r.length:=by rw [hW,List.length_append,hr,hab];rfl
  have pR:pures ((a.getD i false::r.dropLast).map biV)=true:=Ae8 _
  have pW:pures (W.map biV)=true:=Ae8 W
  have c1:=fun h nx=>Ach false false (a.getD i false::r.dropLast) W (by omega) (by omega) h nx
  generalize hRR:a.getD i false::r.dropLast=R at *
  simp (disch:=first | exact d_X4 | fail) only [c132,BiL,g4,hul,hb2,A9i,i5,gW,hRl,hWl,c1,EVS,Nat.reduceAdd,Nat.reduceSub,Int.reduceToNat,Nat.reduceMul,Nat.reduceEqDiff,Nat.reduceLeDiff,Int.reduceEq,Int.reduceLT,Int.reduceLE,↓reduceIte]
  have hWn:numB W=numB b:=by rw [hW,A3s];simp [numB]
  have hbit:(a.getD i false).toNat=numB a / 2 ^ i % 2:=by
   have h1:=A94 a i hil
   have h2:=A2k (a.take i)
   rw [List.length_take,Nat.min_eq_left (by omega)] at h2
   have h3:numB a / 2 ^ i=(a.getD i false).toNat + 2 * numB (a.drop (i + 1)):=by
    rw [h1,Nat.add_mul_div_left _ _ (Nat.pow_pos (by decide)),Nat.div_eq_of_lt h2,Nat.zero_add]
   rw [h3]
   have:=(a.getD i false).toNat_le
   omega
  have hb1:=(a.getD i false).toNat_le
  have hst:=Ao0 (X:=numB a / 2 ^ (i + 1)) hB (b:=(a.getD i false).toNat) hb1
  have hX:2 * (numB a / 2 ^ (i + 1)) + (a.getD i false).toNat=numB a / 2 ^ i:=by rw [hbit];exact (Ash _ _).symm
  rw [hX,← hnr,← hRn,← hWn] at hst
  by_cases hlt:numB R < numB W
  ·have d2:decide (numB R < numB W)=true:=decide_eq_true hlt
   rw [if_neg (by omega),if_neg (by omega)] at hst
   simp (disch:=first | exact d_X4 | fail) only [c132,BiL,d2,EVS,Nat.reduceAdd,Nat.reduceSub,Int.reduceToNat,Nat.reduceMul,Nat.reduceEqDiff,Nat.reduceLeDiff,Int.reduceEq,Int.reduceLT,Int.reduceLE,↓reduceIte]
   have hih:=ih q R qid (.sref 1 id1 r.length 0 r.length) (FI.hset h1 id1 (.row 1 (R.map biV))) (n1 + 7 + 4 + 3) (by omega) hq (by omega) (fun j hj=>hz j (by omega))
    (by rw [hnq,← hWn,hst.2,Nat.pow_succ,Nat.add_zero,Nat.mul_comm (2 ^ i) 2,← Nat.mul_assoc,Nat.mul_comm _ 2])
    (by rw [← hWn];exact hst.1.symm) ⟨hq1.1,by omega⟩ (by omega) (gq _) (.inr ⟨id1,by rw [hRl],by omega,i5 _⟩) (gW _)
   rw [hWl] at hih
   exact A0c hih
  ·have d2:decide (numB R < numB W)=false:=decide_eq_false hlt
   rw [if_pos (by omega),if_pos (by omega)] at hst
   simp (disch:=first | exact d_X4 | fail) only [c132,BiL,d2,EVS,Nat.reduceAdd,Nat.reduceSub,Int.reduceToNat,Nat.reduceMul,Nat.reduceEqDiff,Nat.reduceLeDiff,Int.reduceEq,Int.reduceLT,Int.reduceLE,↓reduceIte]
   refine A09 (A4u (.sref 1 wid r.length 0 r.length) W (by omega) _ _ (.inr ⟨wid,by rw [hWl],by omega,gW _⟩)) fun x hx=>?_
   have hp2:=A0o (l:=W.map not) hx
   have hs2:=A1v (l:=W.map not) hx
   obtain ⟨_,y1,y2⟩:=hx
   obtain ⟨v2,h2,n2⟩:=x
   dsimp only at hp2 hs2 y1 y2
   refine ⟨hp2,?_⟩
   simp (disch:=first | exact d_X4 | fail) only [c132,BiL,EVS,Nat.reduceAdd,Nat.reduceSub,Int.reduceToNat,Nat.reduceMul,Nat.reduceEqDiff,Nat.reduceLeDiff,Int.reduceEq,Int.reduceLT,Int.reduceLE,↓reduceIte]
   have ha:∀ nx',n2 ≤ nx'→∃ x,lim T 126 [.sref 1 id1 r.length 0 r.length,v2,.int .i64 1] h2 nx'=some x∧NewB h2 nx' (addB R (W.map not) true) x:=fun nx' hn =>
    A4t (.sref 1 id1 r.length 0 r.length) v2 R (W.map not) true (by omega) (by rw [List.length_map];omega) h2 nx' (.inr ⟨id1,by rw [hRl],by omega,by rw [y2 id1 (by omega)];exact i5 _⟩) (hs2.bv.mono hn (fun _ _=>rfl))
   refine A09 (ha _ (by omega)) fun x hx=>?_
   have hp3:=A0o (l:=addB R (W.map not) true) hx
   obtain ⟨⟨id3,t1,t2,t3,t4⟩,z1,z2⟩:=hx
   obtain ⟨v3,h3,n3⟩:=x
   dsimp only at hp3 t1 t2 t3 t4 z1 z2
   refine ⟨hp3,?_⟩
   have gq3:hget h3 qid=some (.row 1 (q.map biV)):=by rw [z2 qid (by omega),y2 qid (by omega)];exact gq _
   simp (disch:=first | exact d_X4 | fail) only [c132,BiL,gq3,EVS,Nat.reduceAdd,Nat.reduceSub,Int.reduceToNat,Nat.reduceMul,Nat.reduceEqDiff,Nat.reduceLeDiff,Int.reduceEq,Int.reduceLT,Int.reduceLE,↓reduceIte]
   have hal:(addB R (W.map not) true).length=R.length:=A49 _ _ _ (by rw [List.length_map];omega)
   have hms:(q.map biV).set i (.int .i64 1)=(q.set i true).map biV:=by rw [List.map_set];rfl
   have han:numB (addB R (W.map not) true)=numB R - numB W:=by
    rw [A6e _ _ _ (by rw [List.length_map];omega)]
    have h5:=A86 W
    have h6:=A2k R
    rw [hWl,← hRl] at h5
    rw [show numB R + numB (W.map not) + true.toNat=(numB R - numB W) + 2 ^ R.length by simp only [Bool.toNat_true];omega,Nat.add_mod_right,Nat.mod_eq_of_lt (by omega)]
   have hih:=ih (q.set i true) (addB R (W.map not) true) qid v3 (FI.hset h3 qid (.row 1 ((q.map biV).set i (.int .i64 1)))) (n3 + 4 + 3) (by omega) (by rw [List.length_set];exact hq) (by omega)
    (fun j hj=>by
     have:=hz j (by omega)
     rw [List.getD,List.getElem?_set_ne (by omega)];exact this)
    (by
     rw [Aoy q i (by omega) (hz i (by omega)),hnq,← hWn,hst.2,Nat.pow_succ,Nat.add_mul,Nat.one_mul,Nat.mul_comm (2 ^ i) 2,← Nat.mul_assoc,Nat.mul_comm _ 2])
    (by rw [han,← hWn];exact hst.1.symm) ⟨hq1.1,by omega⟩ (by omega) (by rw [A0z gq3,hms]) (.inr ⟨id3,t1,by omega,by rw [A04 (by omega)];exact t4⟩)
    (by rw [A04 (by omega),z2 wid (by omega),y2 wid (by omega)];exact gW _)
   rw [hWl,List.length_set] at hih
   exact A0c hih
theorem d_X5 {P:Prop} (h:P:=by first|omega|(simp only[EVL]<;>omega)|(simp only[A0n,Nat.reduceEqDiff,↓reduceIte];done)|assumption|(simp (disch:=omega) only[A06,A0a,A04, *];done)|(simp only [BiL];done)|with_unfolding_all rfl):P:=h
theorem Ag3 (e d:Bool) (a b:List Bool) (hl:a.length ≤ 64) (h0:a ≠ []) (hab:a.length=b.length) (v:FV) (P:FV→Prop) (hP:∀ (q r:List Bool) (e2:Bool),q.length=a.length→r.length=a.length→numB q=(if numB b=0 then 2 ^ a.length - 1 else numB a / numB b)→numB r=(if numB b=0 then numB a else numB a % numB b)→P (.tup [.lst false (q.map biV),.lst e2 (r.map biV)])):∃ r,P r∧∀ args h nx,args.length=2→frzs h deep args=some [.lst e (a.map biV),.lst d (b.map biV)]→lim T 132 args h nx=some (r,A2i h (idL h deep args),nx):=by
 have hnb:=A1y d b (by omega)
 refine Apf (ws:=[.lst e (a.map biV),.lst d (b.map biV)]) B0z rfl rfl ?_
 by_cases hz:numB b=0
 ·have z:decide (((numB b:Nat):Int)=0)=true:=by rw [hz];rfl
  simp (disch:=first | exact d_X5 | fail) only [c132,BiL,hnb,z,EVS,Nat.reduceAdd,Nat.reduceSub,Int.reduceToNat,Nat.reduceMul,Nat.reduceEqDiff,Nat.reduceLeDiff,Int.reduceEq,Int.reduceLT,Int.reduceLE,↓reduceIte]
  refine A09 (A3m a.length (by omega) _ _) fun x hx=>?_
  have hp:=A0o (l:=List.replicate a.length false) hx
  have hs:=A1v (l:=List.replicate a.length false) hx
  obtain ⟨_,x1,x2⟩:=hx
  obtain ⟨v1,h1,n1⟩:=x
  dsimp only at hp hs x1 x2
  refine ⟨hp,?_⟩
  simp (disch:=first | exact d_X5 | fail) only [c132,BiL,EVS,Nat.reduceAdd,Nat.reduceSub,Int.reduceToNat,Nat.reduceMul,Nat.reduceEqDiff,Nat.reduceLeDiff,Int.reduceEq,Int.reduceLT,Int.reduceLE,↓reduceIte]
  refine A09 (A4u v1 (List.replicate a.length false) (by rw [List.length_replicate];omega) _ _ (hs.bv.mono (by omega) (fun _ _=>rfl))) fun x hx=>?_
  have hp:=A0o (l:=(List.replicate a.length false).map not) hx
  have hs:=A1v (l:=(List.replicate a.length false).map not) hx
  obtain ⟨_,x1,x2⟩:=hx
  obtain ⟨v1,h1,n1⟩:=x
  dsimp only at hp hs x1 x2
  refine ⟨hp,?_⟩
  have hlr:((List.replicate a.length false).map not).length=a.length:=by simp
  have hf:∀ k,200 ≤ k→FI.frz h1 k v1=some (.lst false (((List.replicate a.length false).map not).map biV)):=fun k hk=>hs.frz (k:=k) (by omega)
  simp (disch:=first | exact d_X5 | fail) only [c132,BiL,hf,EVS,Nat.reduceAdd,Nat.reduceSub,Int.reduceToNat,Nat.reduceMul,Nat.reduceEqDiff,Nat.reduceLeDiff,Int.reduceEq,Int.reduceLT,Int.reduceLE,↓reduceIte]
  have hnn:=A86 (List.replicate a.length false)
  rw [A2f,List.length_replicate] at hnn
  exact hP _ a e (by simp) rfl (by rw [if_pos hz];omega) (by rw [if_pos hz])
 ·have z:decide (((numB b:Nat):Int)=0)=false:=by simp;omega
  have hlk:A9o 1 (b.map biV)=true:=Agi (fun _=>rfl) b
  simp (disch:=first | exact d_X5 | fail) only [c132,BiL,hnb,z,EVS,Nat.reduceAdd,Nat.reduceSub,Int.reduceToNat,Nat.reduceMul,Nat.reduceEqDiff,Nat.reduceLeDiff,Int.reduceEq,Int.reduceLT,Int.reduceLE,↓reduceIte]
  refine A09 (A3m a.length (by omega) _ _) fun x hx=>?_
  have hp:=A0o (l:=List.replicate a.length false) hx
  obtain ⟨⟨qid,k1,k2,k3,k4⟩,x1,x2⟩:=hx
  obtain ⟨v1,h1,n1⟩:=x
  dsimp only at hp k1 k2 k3 k4 x1 x2
  subst k1
  refine ⟨hp,?_⟩
  simp (disch:=first | exact d_X5 | fail) only [c132,BiL,EVS,Nat.reduceAdd,Nat.reduceSub,Int.reduceToNat,Nat.reduceMul,Nat.reduceEqDiff,Nat.reduceLeDiff,Int.reduceEq,Int.reduceLT,Int.reduceLE,↓reduceIte]
  refine A09 (A3m (a.length + 1) (by omega) _ _) fun x hx=>?_
  have hp:=A0o (l:=List.replicate (a.length + 1) false) hx
  have hs:=A1v (l:=List.replicate (a.length + 1) false) hx
  obtain ⟨_,y1,y2⟩:=hx
  obtain ⟨v2,h2,n2⟩:=x
  dsimp only at hp hs y1 y2
  refine ⟨hp,?_⟩
  simp (disch:=first | exact d_X5 | fail) only [c132,BiL,hlk,EVS,Nat.reduceAdd,Nat.reduceSub,Int.reduceToNat,Nat.reduceMul,Nat.reduceEqDiff,Nat.reduceLeDiff,Int.reduceEq,Int.reduceLT,Int.reduceLE,↓reduceIte]
  have hWm:(b ++ [false]).map biV=b.map biV ++ [.int .i64 0]:=by rw [List.map_append];rfl
  have hWl:(b ++ [false]).length=b.length + 1:=by rw [List.length_append];rfl
  have hlt:numB a / 2 ^ a.length=0:=Nat.div_eq_of_lt (A2k a)
  have hlp:=Alp (e:=e) a b hl hab (by omega) (b ++ [false]) rfl n2
  rw [hWl] at hlp
  refine hlp _ (fun vq vr q r h nx t e1 e2 e3 e4 hq hr=>?_) a.length (List.replicate a.length false) (List.replicate (a.length + 1) false) qid v2 _ _ (Nat.le_refl _) (by simp) (by simp) (fun j hj=>by simp [List.getD,hj]) (by rw [A2f,hlt,Nat.zero_div,Nat.zero_mul]) (by rw [A2f,hlt,Nat.zero_mod]) ⟨by omega,by omega⟩ (by omega) (by rw [A06 (by omega),A06 (by omega),y2 qid (by omega)];exact k4) (hs.bv.mono (by omega) (fun i hi=>by rw [A06 (by omega),A06 (by omega)])) (by rw [A06 (by omega),hWm];exact A0a)
  have hfq:∀ k,200 ≤ k→FI.frz h k vq=some (.lst false (q.map biV)):=fun k hk=>hq.frz (k:=k) (by omega)
  have hlk2:A9o 1 (r.map biV)=true:=Agi (fun _=>rfl) r
  have htk:List.take a.length (r.map biV)=(r.take a.length).map biV:=List.map_take.symm
  have htl:(r.take a.length).length=a.length:=by rw [List.length_take];omega
  have hfz:∀ k,200 ≤ k→FI.frzs h k ((r.take a.length).map biV)=some ((r.take a.length).map biV):=fun k hk=>A1w (Ae8 _) (by rw [List.length_map];omega)
  have hrl:r.length=a.length + 1:=e2
  have hbl:=A2k b
  have hml:=Nat.mod_lt (numB a) (show 0 < numB b by omega)
  have fin:∀ e6,P (.tup [.lst false (q.map biV),.lst e6 ((r.take a.length).map biV)]):=fun e6=>hP q (r.take a.length) e6 e1 htl (by rw [if_neg hz];exact e3) (by rw [if_neg hz,A8y r _ (by omega),e4];exact Nat.mod_eq_of_lt (by rw [hab];omega))
  rcases hr with ⟨e5,rfl⟩ | ⟨rid,rfl,r1,r2⟩
  ·simp (disch:=first | exact d_X5 | fail) only [unf k132_1.eq_1,c132,BiL,hfq,hlk2,htk,EVS,Nat.reduceAdd,Nat.reduceSub,Int.reduceToNat,Nat.reduceMul,Nat.reduceEqDiff,Nat.reduceLeDiff,Int.reduceEq,Int.reduceLT,Int.reduceLE,↓reduceIte]
   exact fin _
  ·simp (disch:=first | exact d_X5 | fail) only [unf k132_1.eq_1,c132,BiL,hfq,r2,htk,hfz,EVS,Nat.reduceAdd,Nat.reduceSub,Int.reduceToNat,Nat.reduceMul,Nat.reduceEqDiff,Nat.reduceLeDiff,Int.reduceEq,Int.reduceLT,Int.reduceLE,↓reduceIte]
   exact fin _
theorem d_X6 {P:Prop} (h:P:=by first|omega|(simp only[EVL]<;>omega)|(simp only[A0n,Nat.reduceEqDiff,↓reduceIte];done)|assumption|(simp (disch:=omega) only[A06,A0a,A04, *];done)|(simp only [BiL];done)|with_unfolding_all rfl):P:=h
open Classical in
theorem A87 (w x:Int) (hx:x < 18446744073709551616):∀ h nx,lim T 53 [.int .i64 w,.int .u64 x] h nx=some (.bool (decide (okS w x)),h,nx):=by
 refine A05 tg53 rfl rfl rfl ?_
 simp (disch:=first | exact d_X6 | fail) only [c53,A3z,EVS,Nat.reduceAdd,Nat.reduceSub,Int.reduceToNat,Nat.reduceMul,Nat.reduceEqDiff,Nat.reduceLeDiff,Int.reduceEq,Int.reduceLT,Int.reduceLE,↓reduceIte]
 repeat' (refine A1g (fun hb=>?_) (fun hb=>?_)<;>have h:=hb<;>(try simp only [decide_eq_true_eq,decide_eq_false_iff_not,Int.not_lt,Int.not_le] at h)<;>(simp (disch:=first | exact d_X6 | fail) only [hb,c53,EVS,Nat.reduceAdd,Nat.reduceSub,Int.reduceToNat,Nat.reduceMul,Nat.reduceEqDiff,Nat.reduceLeDiff,Int.reduceEq,Int.reduceLT,Int.reduceLE,↓reduceIte])<;>(try clear hb))
 ·exact (decide_eq_true ⟨by omega,by omega,by rw [h];show x < 18446744073709551616;omega⟩).symm
 ·have h3:=A48 w.toNat (by omega)
  rw [show ((w.toNat:Nat):Int)=w by omega] at h3
  simp (disch:=first | exact d_X6 | fail) only [c53,h3,EVS,Nat.reduceAdd,Nat.reduceSub,Int.reduceToNat,Nat.reduceMul,Nat.reduceEqDiff,Nat.reduceLeDiff,Int.reduceEq,Int.reduceLT,Int.reduceLE,↓reduceIte]
  exact decide_eq_decide.2 ⟨fun e=>⟨by omega,by omega,e⟩,fun e=>e.2.2⟩
 ·exact (decide_eq_false fun hn=>h ⟨hn.1,hn.2.1⟩).symm
theorem A4j (n a:Nat) (h1:1 ≤ n) (h2:n ≤ 64) (ha:a < 2 ^ n):∀ h nx,lim T 53 [.int .i64 n,.int .u64 a] h nx=some (.bool true,h,nx):=fun h nx=>by
 have h64:=lt64 h2 ha
 have h3:((a:Nat):Int) < 2 ^ n:=by rw [← A0j];omega
 have h4:okS n a:=⟨by omega,by omega,by rw [Int.toNat_natCast];exact h3⟩
 rw [A87 _ _ (by omega)];simp [h4]
theorem A2r {v:FV} {l:List Bool} {h:Heap} {n0:Nat} (hs:SrB h n0 v l) (hl:l.length ≤ 64) (nx:Nat):lim T 128 [v] h nx=some (.int .u64 (numB l:Nat),h,nx):=by
 have hf:frzs h deep [v]=some [.lst false (l.map biV)]:=A34 (n:=deep - 1) (hs.frz (by have:deep=1152921504606846976:=rfl;omega)) rfl
 rw [A5w,hf,A12]
 exact A60 false l hl h nx
theorem A2u (n:Nat) (h1:1 ≤ n) (h2:n ≤ 64):∀ h nx,lim T 51 [.int .i64 n] h nx=some (.bool true,h,nx):=fun h nx=>by
 rw [A3z,decide_eq_true];omega
theorem Aei (k:Int) (n a:Nat) (hk:k=3 ∨ k=4) (h1:1 ≤ n) (h2:n ≤ 64) (ha:a < 2 ^ n):∀ h nx,lim T 76 [.int .u8 k,.int .i64 n,.int .u64 a] h nx=some (.tup [.int .u64 (unN k n a:Nat),.int .i64 0],h,nx):=by
 have c1:=A2u n h1 h2
 have c2:=A4j n a h1 h2 ha
 have hbl:=A18 n a
 have hbn:=A30 n a
 rw [Nat.mod_eq_of_lt ha] at hbn
 have hnn:=A86 (A08 n a)
 rw [hbl,hbn] at hnn
 refine A05 tg76 rfl rfl rfl ?_
 rcases hk with rfl | rfl
 ·simp (disch:=first | exact d_X6 | fail) only [c76,BiL,c1,c2,EVS,Nat.reduceAdd,Nat.reduceSub,Int.reduceToNat,Nat.reduceMul,Nat.reduceEqDiff,Nat.reduceLeDiff,Int.reduceEq,Int.reduceLT,Int.reduceLE,↓reduceIte]
  refine A09 (A29 n a h2 (lt64 h2 ha) _ _) fun x hx=>?_
  have hp0:=A0o (l:=A08 n a) hx
  have hs0:=A1v (l:=A08 n a) hx
  obtain ⟨_,w1,w2⟩:=hx
  obtain ⟨v0,h0',n0⟩:=x
  dsimp only at hp0 hs0 w1 w2
  refine ⟨hp0,?_⟩
  simp (disch:=first | exact d_X6 | fail) only [c76,BiL,EVS,Nat.reduceAdd,Nat.reduceSub,Int.reduceToNat,Nat.reduceMul,Nat.reduceEqDiff,Nat.reduceLeDiff,Int.reduceEq,Int.reduceLT,Int.reduceLE,↓reduceIte]
  refine A09 (A4u v0 (A08 n a) (by omega) _ _ (hs0.bv.mono (by omega) (fun _ _=>rfl))) fun x hx=>?_
  have hp:=A0o (l:=(A08 n a).map not) hx
  have hs:=A1v (l:=(A08 n a).map not) hx
  obtain ⟨_,x1,x2⟩:=hx
  obtain ⟨v1,h1',n1⟩:=x
  dsimp only at hp hs x1 x2
  refine ⟨hp,?_⟩
  have c4:=A2r hs (by rw [List.length_map];omega)
  simp (disch:=first | exact d_X6 | fail) only [c76,BiL,c4,EVS,Nat.reduceAdd,Nat.reduceSub,Int.reduceToNat,Nat.reduceMul,Nat.reduceEqDiff,Nat.reduceLeDiff,Int.reduceEq,Int.reduceLT,Int.reduceLE,↓reduceIte]
  have e:numB ((A08 n a).map not)=unN 3 n a:=by unfold unN;rw [if_pos rfl];omega
  rw [e]
 ·simp (disch:=first | exact d_X6 | fail) only [c76,BiL,c1,c2,EVS,Nat.reduceAdd,Nat.reduceSub,Int.reduceToNat,Nat.reduceMul,Nat.reduceEqDiff,Nat.reduceLeDiff,Int.reduceEq,Int.reduceLT,Int.reduceLE,↓reduceIte]
  refine A09 (A29 n a h2 (lt64 h2 ha) _ _) fun x hx=>?_
  have hp0:=A0o (l:=A08 n a) hx
  have hs0:=A1v (l:=A08 n a) hx
  obtain ⟨_,w1,w2⟩:=hx
  obtain ⟨v0,h0',n0⟩:=x
  dsimp only at hp0 hs0 w1 w2
  refine ⟨hp0,?_⟩
  simp (disch:=first | exact d_X6 | fail) only [c76,BiL,EVS,Nat.reduceAdd,Nat.reduceSub,Int.reduceToNat,Nat.reduceMul,Nat.reduceEqDiff,Nat.reduceLeDiff,Int.reduceEq,Int.reduceLT,Int.reduceLE,↓reduceIte]
  refine A09 (A4u v0 (A08 n a) (by omega) _ _ (hs0.bv.mono (by omega) (fun _ _=>rfl))) fun x hx=>?_
  have hp:=A0o (l:=(A08 n a).map not) hx
  have hs:=A1v (l:=(A08 n a).map not) hx
  obtain ⟨_,x1,x2⟩:=hx
  obtain ⟨v1,h1',n1⟩:=x
  dsimp only at hp hs x1 x2
  refine ⟨hp,?_⟩
  simp (disch:=first | exact d_X6 | fail) only [c76,BiL,EVS,Nat.reduceAdd,Nat.reduceSub,Int.reduceToNat,Nat.reduceMul,Nat.reduceEqDiff,Nat.reduceLeDiff,Int.reduceEq,Int.reduceLT,Int.reduceLE,↓reduceIte]
  refine A09 (A3m n (by omega) _ _) fun x hx=>?_
  have hp2:=A0o (l:=List.replicate n false) hx
  have hs2:=A1v (l:=List.replicate n false) hx
  obtain ⟨_,y1,y2⟩:=hx
  obtain ⟨v2,h2',n2⟩:=x
  dsimp only at hp2 hs2 y1 y2
  refine ⟨hp2,?_⟩
  simp (disch:=first | exact d_X6 | fail) only [c76,BiL,EVS,Nat.reduceAdd,Nat.reduceSub,Int.reduceToNat,Nat.reduceMul,Nat.reduceEqDiff,Nat.reduceLeDiff,Int.reduceEq,Int.reduceLT,Int.reduceLE,↓reduceIte]
  have hl1:((A08 n a).map not).length=n:=by rw [List.length_map,hbl]
  have ha2:∀ nx',n2 ≤ nx'→∃ x,lim T 126 [v1,v2,.int .i64 1] h2' nx'=some x∧NewB h2' nx' (addB ((A08 n a).map not) (List.replicate n false) true) x:=fun nx' hn =>
   A4t v1 v2 ((A08 n a).map not) (List.replicate n false) true (by omega) (by rw [hl1,List.length_replicate]) h2' nx' (hs.bv.mono (by omega) (fun i hi=>y2 i (by omega))) (hs2.bv.mono hn (fun _ _=>rfl))
  refine A09 (ha2 _ (by omega)) fun x hx=>?_
  have hp3:=A0o (l:=addB ((A08 n a).map not) (List.replicate n false) true) hx
  have hs3:=A1v (l:=addB ((A08 n a).map not) (List.replicate n false) true) hx
  obtain ⟨_,z1,z2⟩:=hx
  obtain ⟨v3,h3',n3⟩:=x
  dsimp only at hp3 hs3 z1 z2
  refine ⟨hp3,?_⟩
  have hal:=A49 ((A08 n a).map not) (List.replicate n false) true (by rw [hl1,List.length_replicate])
  have c4:=A2r hs3 (by omega)
  simp (disch:=first | exact d_X6 | fail) only [c76,BiL,c4,EVS,Nat.reduceAdd,Nat.reduceSub,Int.reduceToNat,Nat.reduceMul,Nat.reduceEqDiff,Nat.reduceLeDiff,Int.reduceEq,Int.reduceLT,Int.reduceLE,↓reduceIte]
  have e:numB (addB ((A08 n a).map not) (List.replicate n false) true)=unN 4 n a:=by
   rw [A6e _ _ _ (by rw [hl1,List.length_replicate]),hl1,A2f]
   unfold unN
   rw [if_neg (by decide)]
   congr 1
   simp only [Bool.toNat_true];omega
  rw [e]
theorem Ae7 (n a m b:Nat) (h1:1 ≤ n) (m1:1 ≤ m) (h2:n + m ≤ 64) (ha:a < 2 ^ n) (hb:b < 2 ^ m):∀ h nx,lim T 77 [.int .i64 n,.int .u64 a,.int .i64 m,.int .u64 b] h nx=some (.tup [.int .u64 (a * 2 ^ m + b:Nat),.int .i64 0],h,nx):=by
 have c1:=A2u n h1 (by omega)
 have c1':=A2u m m1 (by omega)
 have c2:=A4j n a h1 (by omega) ha
 have c2':=A4j m b m1 (by omega) hb
 have hbl:=A18 n a
 have hbl':=A18 m b
 have hbn:=A30 n a
 rw [Nat.mod_eq_of_lt ha] at hbn
 have hbn':=A30 m b
 rw [Nat.mod_eq_of_lt hb] at hbn'
 have d1:decide ((64:Int) < (n:Int) + m)=false:=by simp;omega
 refine A05 tg77 rfl rfl rfl ?_
 simp (disch:=first | exact d_X6 | fail) only [c77,BiL,c1,c1',c2,c2',d1,EVS,Nat.reduceAdd,Nat.reduceSub,Int.reduceToNat,Nat.reduceMul,Nat.reduceEqDiff,Nat.reduceLeDiff,Int.reduceEq,Int.reduceLT,Int.reduceLE,↓reduceIte]
 refine A09 (A29 m b (by omega) (lt64 (by omega) hb) _ _) fun x hx=>?_
 have hp0:=A0o (l:=A08 m b) hx
 obtain ⟨⟨id1,t1,t2,t3,t4⟩,w1,w2⟩:=hx
 obtain ⟨v0,h0',n0⟩:=x
 dsimp only at hp0 t1 t2 t3 t4 w1 w2
 subst t1
 refine ⟨hp0,?_⟩
 simp (disch:=first | exact d_X6 | fail) only [c77,BiL,EVS,Nat.reduceAdd,Nat.reduceSub,Int.reduceToNat,Nat.reduceMul,Nat.reduceEqDiff,Nat.reduceLeDiff,Int.reduceEq,Int.reduceLT,Int.reduceLE,↓reduceIte]
 refine A09 (A29 n a (by omega) (lt64 (by omega) ha) _ _) fun x hx=>?_
 have hp1:=A0o (l:=A08 n a) hx
 obtain ⟨⟨id2,u1,u2,u3,u4⟩,y1,y2⟩:=hx
 obtain ⟨v1,h1',n1⟩:=x
 dsimp only at hp1 u1 u2 u3 u4 y1 y2
 subst u1
 refine ⟨hp1,?_⟩
 have g1:hget h1' id1=some (.row 1 ((A08 m b).map biV)):=by rw [y2 id1 (by omega)];exact t4
 have hlen:((A08 m b).map biV).length=m:=by rw [List.length_map,hbl']
 have hll:(A08 m b ++ A08 n a).length=m + n:=by rw [List.length_append,hbl,hbl']
 have hs:SrB (FI.hset h1' id1 (.row 1 ((A08 m b).map biV ++ (A08 n a).map biV))) (id1 + 1) (.sref 1 id1 (m + n) 0 (m + n)) (A08 m b ++ A08 n a):=⟨id1,by rw [hll],by omega,by rw [A0z g1,List.map_append]⟩
 have c4:=A2r hs (by omega)
 have hv:numB (A08 m b ++ A08 n a)=a * 2 ^ m + b:=by rw [A3s,hbl',hbn,hbn',Nat.mul_comm,Nat.add_comm]
 rw [hv] at c4
 simp (disch:=first | exact d_X6 | fail) only [c77,BiL,g1,u4,hbl,hbl',hlen,c4,EVS,Nat.reduceAdd,Nat.reduceSub,Int.reduceToNat,Nat.reduceMul,Nat.reduceEqDiff,Nat.reduceLeDiff,Int.reduceEq,Int.reduceLT,Int.reduceLE,↓reduceIte]
theorem Af2 {id off len:Nat} {l:List Bool} {h:Heap} (hg:hget h id=some (.row 1 (l.map biV))) (hl:l.length ≤ 64) (ho:off + len ≤ l.length) (nx:Nat):lim T 128 [.sref 1 id l.length off len] h nx=some (.int .u64 (numB ((l.drop off).take len):Nat),h,nx):=by
 have hf:FI.frz h (1152921504606846974 + 1) (.sref 1 id l.length off len)=some (.lst false (((l.drop off).take len).map biV)):=by
  rw [Aa0 (by decide),el_r,hg,A7d,A2d ⟨by simp,ho⟩,A12,Aio]
  have e:List.take (off + len - off) (List.drop off (l.map biV))=((l.drop off).take len).map biV:=by rw [List.map_take,List.map_drop];congr 1;omega
  rw [e,A1w (Ae8 _) (by simp;omega),A12]
 have hf2:frzs h deep [.sref 1 id l.length off len]=some [.lst false (((l.drop off).take len).map biV)]:=A34 (n:=1152921504606846975) hf rfl
 rw [A5w,hf2,A12]
 exact A60 false _ (by simp;omega) h nx
theorem Ace (n a lo m:Nat) (h1:1 ≤ n) (h2:n ≤ 64) (ha:a < 2 ^ n) (m1:1 ≤ m) (m2:lo + m ≤ n):∀ h nx,lim T 78 [.int .i64 n,.int .u64 a,.int .i64 lo,.int .i64 m] h nx=some (.tup [.int .u64 (a / 2 ^ lo % 2 ^ m:Nat),.int .i64 0],h,nx):=by
 have c1:=A2u n h1 h2
 have c2:=A4j n a h1 h2 ha
 have hbl:=A18 n a
 have hbn:=A30 n a
 rw [Nat.mod_eq_of_lt ha] at hbn
 have d1:decide ((lo:Int) < 0)=false:=by simp
 have d2:decide ((m:Int) < 1)=false:=by simp;omega
 have d3:decide ((n:Int) < lo)=false:=by simp;omega
 have d4:decide ((n:Int) < m)=false:=by simp;omega
 have d5:decide ((n:Int) < (lo:Int) + m)=false:=by simp;omega
 refine A05 tg78 rfl rfl rfl ?_
 simp (disch:=first | exact d_X6 | fail) only [c78,BiL,c1,c2,d1,d2,d3,d4,d5,EVS,Nat.reduceAdd,Nat.reduceSub,Int.reduceToNat,Nat.reduceMul,Nat.reduceEqDiff,Nat.reduceLeDiff,Int.reduceEq,Int.reduceLT,Int.reduceLE,↓reduceIte]
 refine A09 (A29 n a (by omega) (lt64 (by omega) ha) _ _) fun x hx=>?_
 have hp0:=A0o (l:=A08 n a) hx
 obtain ⟨⟨id1,t1,t2,t3,t4⟩,w1,w2⟩:=hx
 obtain ⟨v0,h0',n0⟩:=x
 dsimp only at hp0 t1 t2 t3 t4 w1 w2
 subst t1
 refine ⟨hp0,?_⟩
 have e1:((lo:Int) + m).toNat - lo=m:=by omega
 have c4:=Af2 t4 (by omega) (show lo + m ≤ (A08 n a).length by omega)
 have hv:numB (((A08 n a).drop lo).take m)=a / 2 ^ lo % 2 ^ m:=by
  rw [A8y _ _ (by rw [List.length_drop];omega),Ad6 _ _ (by omega),hbn]
 rw [hv,hbl] at c4
 simp (disch:=first | exact d_X6 | fail) only [c78,BiL,t4,hbl,e1,c4,EVS,Nat.reduceAdd,Nat.reduceSub,Int.reduceToNat,Nat.reduceMul,Nat.reduceEqDiff,Nat.reduceLeDiff,Int.reduceEq,Int.reduceLT,Int.reduceLE,↓reduceIte]
theorem d_X7 {P:Prop} (h:P:=by first|omega|(simp only[EVL]<;>omega)|(simp only[A0n,Nat.reduceEqDiff,↓reduceIte];done)|assumption|(simp (disch:=omega) only[A06,A0a,A04, *];done)|(simp only [BiL];done)|with_unfolding_all rfl):P:=h
theorem Aki (s top:Bool) (to:Nat) (hto:to ≤ 64) (id:Nat) (Q:Post Out):∀ (k:Nat) (L:List Bool) (h:Heap) (nx:Nat),L.length + k=to→id < nx→hget h id=some (.row 1 (L.map biV)) →
  (∀ h nx,hget h id=some (.row 1 ((L ++ List.replicate k (s && top)).map biV))→@Ok Out (runs T [.code k79_1] [(2,.int .i64 to),(3,.bool s),(10,.sref 1 id to 0 to),(11,.int .i64 (top.toNat:Nat)),(40,.bool false)] h nx) Q) →
  @Ok Out (runs T [.code b79_0,.inL none b79_0,.inB 0,.code k79_1] [(2,.int .i64 to),(3,.bool s),(10,.sref 1 id L.length 0 L.length),(11,.int .i64 (top.toNat:Nat))] h nx) Q:=by
 intro k
 induction k with
 |zero =>
  intro L h nx hi hn hg next
  have d1:decide ((L.length:Int) < to)=false:=by simp;omega
  simp (disch:=first | exact d_X7 | fail) only [unf b79_0.eq_1,c79,BiL,d1,EVS,Nat.reduceAdd,Nat.reduceSub,Int.reduceToNat,Nat.reduceMul,Nat.reduceEqDiff,Nat.reduceLeDiff,Int.reduceEq,Int.reduceLT,Int.reduceLE,↓reduceIte]
  rw [List.replicate_zero,List.append_nil] at next
  have hL:L.length=to:=by omega
  rw [hL]
  exact next _ _ hg
 |succ k ih =>
  intro L h nx hi hn hg next
  have d1:decide ((L.length:Int) < to)=true:=by simp;omega
  have hl:(L.map biV).length=L.length:=List.length_map _
  have hlen:(L ++ [s && top]).length=L.length + 1:=by rw [List.length_append];rfl
  have hn2:∀ h nx,hget h id=some (.row 1 (((L ++ [s && top]) ++ List.replicate k (s && top)).map biV))→@Ok Out (runs T [.code k79_1] [(2,.int .i64 to),(3,.bool s),(10,.sref 1 id to 0 to),(11,.int .i64 (top.toNat:Nat)),(40,.bool false)] h nx) Q:=fun h nx hh=>next h nx (by rw [hh,List.append_assoc];rfl)
  have hih:=fun h nx a b=>ih (L ++ [s && top]) h nx (by omega) a b hn2
  rw [hlen] at hih
  cases s with
  |true =>
   rw [Bool.true_and] at hih
   simp (disch:=first | exact d_X7 | fail) only [unf b79_0.eq_1,c79,BiL,d1,hg,hl,EVS,Nat.reduceAdd,Nat.reduceSub,Int.reduceToNat,Nat.reduceMul,Nat.reduceEqDiff,Nat.reduceLeDiff,Int.reduceEq,Int.reduceLT,Int.reduceLE,↓reduceIte]
   refine A0c (hih _ _ (by omega) ?_)
   rw [A06 (by omega),A0z hg,List.map_append];rfl
  |false =>
   rw [Bool.false_and] at hih
   simp (disch:=first | exact d_X7 | fail) only [unf b79_0.eq_1,c79,BiL,d1,hg,hl,EVS,Nat.reduceAdd,Nat.reduceSub,Int.reduceToNat,Nat.reduceMul,Nat.reduceEqDiff,Nat.reduceLeDiff,Int.reduceEq,Int.reduceLT,Int.reduceLE,↓reduceIte]
   refine A0c (hih _ _ (by omega) ?_)
   rw [A06 (by omega),A0z hg,List.map_append];rfl
theorem Aoo (s:Bool) (n m a:Nat) (h1:1 ≤ n) (hnm:n ≤ m) (ha:a < 2 ^ n):numB (A08 n a ++ List.replicate (m - n) (s && decide (a / 2 ^ (n - 1) % 2=1)))=exN s n m a:=by
 have hbl:=A18 n a
 have hbn:=A30 n a
 rw [Nat.mod_eq_of_lt ha] at hbn
 rw [A3s,hbl,hbn]
 have hp:(2:Nat) ^ n=2 * 2 ^ (n - 1):=by rw [← Nat.pow_succ'];congr 1;omega
 have hpm:(2:Nat) ^ m=2 ^ n * 2 ^ (m - n):=by rw [← Nat.pow_add];congr 1;omega
 have hr1:=A96 (m - n)
 have hr0:=A2f (m - n)
 have hle:(2:Nat) ^ n ≤ 2 ^ m:=Nat.pow_le_pow_right (by decide) hnm
 unfold exN toI
 cases s with
 |false=>rw [if_neg (by decide),Bool.false_and,hr0];omega
 |true =>
  rw [if_pos rfl,Bool.true_and]
  by_cases ht:a < 2 ^ (n - 1)
  ·rw [if_pos ht,Nat.div_eq_of_lt ht,decide_eq_false (by decide),hr0,Nat.mul_zero,Nat.add_zero]
   have:((a:Int) % 2 ^ m)=a:=Int.emod_eq_of_lt (by omega) (by rw [← A0j];omega)
   rw [this,Int.toNat_natCast]
  ·have hd:a / 2 ^ (n - 1)=1:=by
    have e:a=(a - 2 ^ (n - 1)) + 2 ^ (n - 1) * 1:=by omega
    rw [e,Nat.add_mul_div_left _ _ (Nat.pow_pos (by decide)),Nat.div_eq_of_lt (by omega)]
   rw [if_neg ht,hd,decide_eq_true (by decide)]
   have e2:((a:Int) - 2 ^ n) % 2 ^ m=((a + (2 ^ m - 2 ^ n):Nat):Int):=by
    rw [← A0j,← A0j]
    have e3:((a:Int) - ((2 ^ n:Nat):Int))=((a + (2 ^ m - 2 ^ n):Nat):Int) - ((2 ^ m:Nat):Int):=by omega
    rw [e3,Int.sub_emod_right]
    exact Int.emod_eq_of_lt (by omega) (by omega)
   rw [e2,Int.toNat_natCast]
   have:2 ^ n * numB (List.replicate (m - n) true)=2 ^ m - 2 ^ n:=by
    rw [hpm,← hr1,Nat.mul_add,Nat.mul_one,Nat.add_sub_cancel]
   omega
theorem Adb (s:Bool) (n a m:Nat) (h1:1 ≤ n) (h2:m ≤ 64) (hnm:n ≤ m) (ha:a < 2 ^ n):∀ h nx,lim T 79 [.int .i64 n,.int .u64 a,.int .i64 m,.bool s] h nx=some (.tup [.int .u64 (exN s n m a:Nat),.int .i64 0],h,nx):=by
 have c1:=A2u n h1 (by omega)
 have c1':=A2u m (by omega) h2
 have c2:=A4j n a h1 (by omega) ha
 have hbl:=A18 n a
 have d1:decide ((m:Int) < n)=false:=by simp;omega
 have e1:((n:Int) - 1).toNat=n - 1:=by omega
 have hgd:(A08 n a).getD (n - 1) false=decide (a / 2 ^ (n - 1) % 2=1):=by
  have:n - 1 < n:=by omega
  simp [A08,List.getD,this]
 refine A05 tg79 rfl rfl rfl ?_
 simp (disch:=first | exact d_X7 | fail) only [c79,BiL,c1,c1',c2,d1,EVS,Nat.reduceAdd,Nat.reduceSub,Int.reduceToNat,Nat.reduceMul,Nat.reduceEqDiff,Nat.reduceLeDiff,Int.reduceEq,Int.reduceLT,Int.reduceLE,↓reduceIte]
 refine A09 (A29 n a (by omega) (lt64 (by omega) ha) _ _) fun x hx=>?_
 have hp0:=A0o (l:=A08 n a) hx
 obtain ⟨⟨id1,t1,t2,t3,t4⟩,w1,w2⟩:=hx
 obtain ⟨v0,h0',n0⟩:=x
 dsimp only at hp0 t1 t2 t3 t4 w1 w2
 subst t1
 refine ⟨hp0,?_⟩
 simp (disch:=first | exact d_X7 | fail) only [c79,BiL,t4,hbl,e1,hgd,EVS,Nat.reduceAdd,Nat.reduceSub,Int.reduceToNat,Nat.reduceMul,Nat.reduceEqDiff,Nat.reduceLeDiff,Int.reduceEq,Int.reduceLT,Int.reduceLE,↓reduceIte]
 have hlp:=fun Q=>Aki s (decide (a / 2 ^ (n - 1) % 2=1)) m h2 id1 Q (m - n) (A08 n a) h0' (n0 + 6) (by omega) (by omega) t4
 simp only [hbl] at hlp
 refine hlp _ fun h nx hh=>?_
 have hll:(A08 n a ++ List.replicate (m - n) (s && decide (a / 2 ^ (n - 1) % 2=1))).length=m:=by rw [List.length_append,hbl,List.length_replicate];omega
 have hs:SrB h (id1 + 1) (.sref 1 id1 m 0 m) (A08 n a ++ List.replicate (m - n) (s && decide (a / 2 ^ (n - 1) % 2=1))):=⟨id1,by rw [hll],by omega,hh⟩
 have c4:=A2r hs (by omega)
 rw [Aoo s n m a h1 hnm ha] at c4
 simp (disch:=first | exact d_X7 | fail) only [unf k79_1.eq_1,c79,BiL,c4,EVS,Nat.reduceAdd,Nat.reduceSub,Int.reduceToNat,Nat.reduceMul,Nat.reduceEqDiff,Nat.reduceLeDiff,Int.reduceEq,Int.reduceLT,Int.reduceLE,↓reduceIte]
theorem Avo {P:Prop} (h:P:=by first|omega|(simp only[EVL]<;>omega)|(simp only[A0n,Nat.reduceEqDiff,↓reduceIte];done)|assumption|(simp (disch:=omega) only[A06,A0a,A04, *];done)|(simp only [BiL];done)|with_unfolding_all rfl):P:=h
theorem Afo {n a:Nat} (h1:1 ≤ n) (ha:a < 2 ^ n):(a / 2 ^ (n - 1) % 2=1) ↔ ¬ a < 2 ^ (n - 1):=by
 have e:2 ^ n=2 ^ (n - 1) + 2 ^ (n - 1):=by
  obtain ⟨m,rfl⟩:∃ m,n=m + 1:=⟨n - 1,by omega⟩
  rw [Nat.add_sub_cancel,Nat.pow_succ];omega
 by_cases h:a < 2 ^ (n - 1)
 ·rw [Nat.div_eq_of_lt h];simp [h]
 ·have:a / 2 ^ (n - 1)=1:=by
   rw [Nat.div_eq_iff (Nat.pow_pos (by decide))];omega
  rw [this];simp [h]
theorem Ase {n a s:Nat} (h1:1 ≤ n) (ha:a < 2 ^ n):(toI n a / 2 ^ s % 2 ^ n).toNat=a / 2 ^ s + (if decide (a / 2 ^ (n - 1) % 2=1)=true then 2 ^ n - 2 ^ (n - s) else 0):=by
 have tb:=Afo h1 ha
 have e2:=A0j n
 have e3:=A0j s
 by_cases h:a < 2 ^ (n - 1)
 ·rw [if_neg (by simp only [decide_eq_true_eq,tb];omega)]
  unfold toI
  rw [if_pos h,Nat.add_zero,← e2,← e3,← Int.natCast_ediv,← Int.natCast_emod,Int.toNat_natCast]
  exact Nat.mod_eq_of_lt (Nat.lt_of_le_of_lt (Nat.div_le_self _ _) ha)
 ·rw [if_pos (by simp only [decide_eq_true_eq,tb];omega)]
  unfold toI
  rw [if_neg h]
  have hS:=A1c s
  have hP:=A1c n
  have haP:(a:Int) < 2 ^ n:=by rw [← e2];exact Int.ofNat_lt.2 ha
  rcases Nat.lt_or_ge n s with hs | hs
  ·have hle:(2:Int) ^ n ≤ 2 ^ s:=Aap (by omega)
   have hd:((a:Int) - 2 ^ n) / 2 ^ s=-1:=by
    rw [Int.ediv_eq_iff_of_pos hS];omega
   have h0:a / 2 ^ s=0:=Nat.div_eq_of_lt (Nat.lt_of_lt_of_le ha (Nat.pow_le_pow_right (by decide) (by omega)))
   rw [hd,h0,show n - s=0 by omega,show (-1:Int) % 2 ^ n=2 ^ n - 1 by rw [← Int.add_emod_right,Int.emod_eq_of_lt (by omega) (by omega)];omega]
   have:2 ^ 0=1:=rfl
   omega
  ·have hQ:(2:Int) ^ n=2 ^ s * 2 ^ (n - s):=by rw [← Int.pow_add];congr 1;omega
   have hQ':(2:Nat) ^ n=2 ^ s * 2 ^ (n - s):=by rw [← Nat.pow_add];congr 1;omega
   have hd:((a:Int) - 2 ^ n) / 2 ^ s=(a:Int) / 2 ^ s - 2 ^ (n - s):=by
    rw [hQ,Int.sub_mul_ediv_left _ _ (by omega)]
   have hq:=A0j (n - s)
   have hdn:((a / 2 ^ s:Nat):Int)=(a:Int) / 2 ^ s:=by rw [Int.natCast_ediv,e3]
   have hlt:a / 2 ^ s < 2 ^ (n - s):=by rw [Nat.div_lt_iff_lt_mul (Nat.pow_pos (by decide))];rw [hQ',Nat.mul_comm] at ha;exact ha
   have hle:(2:Int) ^ (n - s) ≤ 2 ^ n:=Aap (by omega)
   have hle':(2:Nat) ^ (n - s) ≤ 2 ^ n:=Nat.pow_le_pow_right (by decide) (by omega)
   have hlt':((a / 2 ^ s:Nat):Int) < 2 ^ (n - s):=by rw [← hq];exact Int.ofNat_lt.2 hlt
   rw [hd,← hdn]
   clear hd hdn hQ hQ' haP h ha tb
   generalize (2:Int) ^ n=P at *
   generalize (2:Int) ^ (n - s)=Q at *
   generalize (2:Nat) ^ n=P' at *
   generalize (2:Nat) ^ (n - s)=Q' at *
   generalize a / 2 ^ s=A at *
   have h5:((A:Int) - Q) % P=(A:Int) - Q + P:=by
    rw [← Int.add_emod_right,Int.emod_eq_of_lt (by omega) (by omega)]
   rw [h5];omega
theorem Avs {n a b:Nat} (h1:1 ≤ n) (ha:a < 2 ^ n) (hb:b < 2 ^ n):toI n a < toI n b ↔ (if decide (a / 2 ^ (n - 1) % 2=1)=decide (b / 2 ^ (n - 1) % 2=1) then a < b else decide (a / 2 ^ (n - 1) % 2=1)=true):=by
 have ta:=Afo h1 ha
 have tb:=Afo h1 hb
 have e2:=A0j n
 unfold toI
 by_cases h:a < 2 ^ (n - 1)<;>by_cases h':b < 2 ^ (n - 1)
 ·have z1:decide (a / 2 ^ (n - 1) % 2=1)=false:=decide_eq_false (by rw [ta];omega)
  have z2:decide (b / 2 ^ (n - 1) % 2=1)=false:=decide_eq_false (by rw [tb];omega)
  rw [z1,z2,if_pos h,if_pos h',if_pos rfl];omega
 ·have z1:decide (a / 2 ^ (n - 1) % 2=1)=false:=decide_eq_false (by rw [ta];omega)
  have z2:decide (b / 2 ^ (n - 1) % 2=1)=true:=decide_eq_true (by rw [tb];omega)
  rw [z1,z2,if_pos h,if_neg h',if_neg (by decide)];simp;omega
 ·have z1:decide (a / 2 ^ (n - 1) % 2=1)=true:=decide_eq_true (by rw [ta];omega)
  have z2:decide (b / 2 ^ (n - 1) % 2=1)=false:=decide_eq_false (by rw [tb];omega)
  rw [z1,z2,if_neg h,if_pos h',if_neg (by decide)];simp;omega
 ·have z1:decide (a / 2 ^ (n - 1) % 2=1)=true:=decide_eq_true (by rw [ta];omega)
  have z2:decide (b / 2 ^ (n - 1) % 2=1)=true:=decide_eq_true (by rw [tb];omega)
  rw [z1,z2,if_neg h,if_neg h',if_pos rfl];omega
theorem Aso {n a b:Nat} (h2:n ≤ 64):a * 2 ^ min b 64 % 2 ^ n=a * 2 ^ b % 2 ^ n:=by
 rcases Nat.lt_or_ge b 64 with h | h
 ·rw [Nat.min_eq_left (by omega)]
 ·have z:∀ m,n ≤ m→a * 2 ^ m % 2 ^ n=0:=fun m hm=>by
   rw [show m=n + (m - n) by omega,Nat.pow_add,← Nat.mul_assoc,Nat.mul_right_comm,Nat.mul_mod_left]
  rw [Nat.min_eq_right h,z 64 h2,z b (by omega)]
theorem Ab0 (x i:Nat):decide (x / 2 ^ i % 2=1)=x.testBit i:=Nat.testBit_eq_decide_div_mod_eq.symm
def bitF (k:Int) (x y:Bool):Bool:=if k=8 then x && y else if k=9 then x || y else x != y
theorem Av3 {k:Int} (hk:k=8 ∨ k=9 ∨ k=10) (n a b i:Nat):decide (opN k n a b / 2 ^ i % 2=1)=bitF k (decide (a / 2 ^ i % 2=1)) (decide (b / 2 ^ i % 2=1)):=by
 rw [Ab0,Ab0,Ab0]
 rcases hk with rfl | rfl | rfl
 ·exact Nat.testBit_and ..
 ·exact Nat.testBit_or ..
 ·exact Nat.testBit_xor ..
theorem Ah9 {n x i:Nat} (hi:i < n):(A08 n x).getD i false=decide (x / 2 ^ i % 2=1):=by simp [A08,List.getD,hi]
theorem Ap8 (k:Int) (hk:k=8 ∨ k=9 ∨ k=10) (n a b:Nat) (h2:n ≤ 64) (id1 id2 id3:Nat) (n13:id1 ≠ id3) (n23:id2 ≠ id3) (Q:Post Out)
  (next:∀ h nx,hget h id3=some (.row 1 ((A08 n (opN k n a b)).map biV))→id3 < nx →
   @Ok Out (runs T [.code k80_1] [(0,.int .u8 k),(1,.int .i64 n),(10,.sref 1 id1 n 0 n),(11,.sref 1 id2 n 0 n),(13,.sref 1 id3 n 0 n),(14,.int .i64 n),(70,.bool false)] h nx) Q) :
  ∀ (r i:Nat) (h:Heap) (nx:Nat),i + r=n→id1 < nx→id2 < nx→id3 < nx→hget h id1=some (.row 1 ((A08 n a).map biV))→hget h id2=some (.row 1 ((A08 n b).map biV))→hget h id3=some (.row 1 ((A08 i (opN k n a b)).map biV)) →
  @Ok Out (runs T [.code b80_0,.inL none b80_0,.inB 1,.inB 0,.code k80_1] [(0,.int .u8 k),(1,.int .i64 n),(10,.sref 1 id1 n 0 n),(11,.sref 1 id2 n 0 n),(13,.sref 1 id3 i 0 i),(14,.int .i64 i)] h nx) Q:=by
 intro r
 induction r with
 |zero =>
  intro i h nx hi l1 l2 l3 q1 q2 q3
  have d1:decide ((i:Int) < n)=false:=by simp;omega
  have e:i=n:=by omega
  subst e
  simp (disch:=first | exact Avo | fail) only [unf b80_0.eq_1,c80,BiL,d1,EVS,Nat.reduceAdd,Nat.reduceSub,Int.reduceToNat,Nat.reduceMul,Nat.reduceEqDiff,Nat.reduceLeDiff,Int.reduceEq,Int.reduceLT,Int.reduceLE,↓reduceIte]
  exact next h _ q3 (by omega)
 |succ r ih =>
  intro i h nx hi l1 l2 l3 q1 q2 q3
  have hil:i < n:=by omega
  have d1:decide ((i:Int) < n)=true:=by simp;omega
  have la:=A18 n a
  have lb:=A18 n b
  have lx:=A18 i (opN k n a b)
  have ga:=Ah9 (x:=a) hil
  have gb:=Ah9 (x:=b) hil
  have hbo:=Av3 hk n a b i
  have hx:=Adi i (opN k n a b)
  rw [hbo] at hx
  have z1:(((true).toNat:Nat):Int)=1:=rfl
  have z0:(((false).toNat:Nat):Int)=0:=rfl
  cases ea:decide (a / 2 ^ i % 2=1)<;>cases eb:decide (b / 2 ^ i % 2=1)<;>rw [ea] at ga hx<;>rw [eb] at gb hx
  all_goals
   rcases hk with rfl | rfl | rfl
   all_goals
    simp (disch:=first | exact Avo | fail) only [unf b80_0.eq_1,c80,BiL,d1,la,lb,lx,q1,q2,q3,ga,gb,z1,z0,Int.reduceAdd,decide_true,decide_false,EVS,Nat.reduceAdd,Nat.reduceSub,Int.reduceToNat,Nat.reduceMul,Nat.reduceEqDiff,Nat.reduceLeDiff,Int.reduceEq,Int.reduceLT,Int.reduceLE,↓reduceIte]
    exact A0c (ih (i + 1) _ _ (by omega) (by omega) (by omega) (by omega) (by rw [A06 (by omega),A04 (Ne.symm n13)];exact q1) (by rw [A06 (by omega),A04 (Ne.symm n23)];exact q2) (by rw [A06 (by omega),A0z q3,hx,List.map_append];rfl))
theorem d_X8 {P:Prop} (h:P:=by first|omega|(simp only[EVL]<;>omega)|(simp only[A0n,Nat.reduceEqDiff,↓reduceIte];done)|assumption|(simp (disch:=omega) only[A06,A0a,A04, *];done)|(simp only [BiL];done)|with_unfolding_all rfl):P:=h
theorem Acs (k:Int) (n a b:Nat) (k1:5 ≤ k) (k2:k ≤ 18) (h1:1 ≤ n) (h2:n ≤ 64) (ha:a < 2 ^ n) (hb:b < 2 ^ n):∀ h nx,lim T 80 [.int .u8 k,.int .i64 n,.int .u64 a,.int .u64 b] h nx=some (.tup [.int .u64 (opN k n a b:Nat),.int .i64 0],h,nx):=by
 have c1:=A2u n h1 h2
 have c2:=A4j n a h1 h2 ha
 have c2':=A4j n b h1 h2 hb
 have hbl:=A18 n a
 have hbl':=A18 n b
 have hbn:=A30 n a
 rw [Nat.mod_eq_of_lt ha] at hbn
 have hbn':=A30 n b
 rw [Nat.mod_eq_of_lt hb] at hbn'
 have e1:((n:Int) - 1).toNat=n - 1:=by omega
 have d1:decide (k < 5)=false:=decide_eq_false (by omega)
 have d2:decide (18 < k)=false:=decide_eq_false (by omega)
 have hgd:∀ x,(A08 n x).getD (n - 1) false=decide (x / 2 ^ (n - 1) % 2=1):=fun x=>by
  have:n - 1 < n:=by omega
  simp [A08,List.getD,this]
 refine A05 tg80 rfl rfl rfl ?_
 simp (disch:=first | exact d_X8 | fail) only [c80,BiL,c1,c2,c2',d1,d2,EVS,Nat.reduceAdd,Nat.reduceSub,Int.reduceToNat,Nat.reduceMul,Nat.reduceEqDiff,Nat.reduceLeDiff,Int.reduceEq,Int.reduceLT,Int.reduceLE,↓reduceIte]
 refine A09 (A29 n a (by omega) (lt64 (by omega) ha) _ _) fun x hx=>?_
 have hp0:=A0o (l:=A08 n a) hx
 obtain ⟨⟨id1,t1,t2,t3,t4⟩,w1,w2⟩:=hx
 obtain ⟨v0,h0',n0⟩:=x
 dsimp only at hp0 t1 t2 t3 t4 w1 w2
 subst t1
 refine ⟨hp0,?_⟩
 simp (disch:=first | exact d_X8 | fail) only [c80,BiL,EVS,Nat.reduceAdd,Nat.reduceSub,Int.reduceToNat,Nat.reduceMul,Nat.reduceEqDiff,Nat.reduceLeDiff,Int.reduceEq,Int.reduceLT,Int.reduceLE,↓reduceIte]
 refine A09 (A29 n b (by omega) (lt64 (by omega) hb) _ _) fun x hx=>?_
 have hp1:=A0o (l:=A08 n b) hx
 obtain ⟨⟨id2,u1,u2,u3,u4⟩,y1,y2⟩:=hx
 obtain ⟨v1,h1',n1⟩:=x
 dsimp only at hp1 u1 u2 u3 u4 y1 y2
 subst u1
 refine ⟨hp1,?_⟩
 have g1:hget h1' id1=some (.row 1 ((A08 n a).map biV)):=by rw [y2 id1 (by omega)];exact t4
 have sA:∀ nx',n1 ≤ nx'→SrB ((n1 + 6,.row 1 [])::h1') nx' (.sref 1 id1 n 0 n) (A08 n a):=fun nx' hn=>⟨id1,by rw [hbl],by omega,by rw [A06 (by omega)];exact g1⟩
 have sB:∀ nx',n1 ≤ nx'→SrB ((n1 + 6,.row 1 [])::h1') nx' (.sref 1 id2 n 0 n) (A08 n b):=fun nx' hn=>⟨id2,by rw [hbl'],by omega,by rw [A06 (by omega)];exact u4⟩
 have op:∀ {X:Nat},opN k n a b=X→FV.tup [.int .u64 (X:Nat),.int .i64 0]=.tup [.int .u64 (opN k n a b:Nat),.int .i64 0]:=fun e=>by rw [e]
 by_cases k5:k=5
 ·subst k5
  simp (disch:=first | exact d_X8 | fail) only [c80,BiL,g1,hbl,hbl',e1,hgd,EVS,Nat.reduceAdd,Nat.reduceSub,Int.reduceToNat,Nat.reduceMul,Nat.reduceEqDiff,Nat.reduceLeDiff,Int.reduceEq,Int.reduceLT,Int.reduceLE,↓reduceIte]
  refine A09 (A4t (.sref 1 id1 n 0 n) (.sref 1 id2 n 0 n) (A08 n a) (A08 n b) false (by omega) (by omega) _ _ (sA _ (by omega)).bv (sB _ (by omega)).bv) fun x hx=>?_
  have hp3:=A0o (l:=addB (A08 n a) (A08 n b) false) hx
  have hs3:=A1v (l:=addB (A08 n a) (A08 n b) false) hx
  obtain ⟨_,z1,z2⟩:=hx
  obtain ⟨v3,h3',n3⟩:=x
  dsimp only at hp3 hs3 z1 z2
  refine ⟨hp3,?_⟩
  have c4:=A2r hs3 (by rw [A49 _ _ _ (by omega)];omega)
  rw [A6e _ _ _ (by omega),hbl,hbn,hbn'] at c4
  simp (disch:=first | exact d_X8 | fail) only [unf k80_1.eq_1,c80,BiL,c4,EVS,Nat.reduceAdd,Nat.reduceSub,Int.reduceToNat,Nat.reduceMul,Nat.reduceEqDiff,Nat.reduceLeDiff,Int.reduceEq,Int.reduceLT,Int.reduceLE,↓reduceIte]
  exact op (by simp [opN])
 by_cases k6:k=6
 ·subst k6
  simp (disch:=first | exact d_X8 | fail) only [c80,BiL,g1,hbl,hbl',e1,hgd,EVS,Nat.reduceAdd,Nat.reduceSub,Int.reduceToNat,Nat.reduceMul,Nat.reduceEqDiff,Nat.reduceLeDiff,Int.reduceEq,Int.reduceLT,Int.reduceLE,↓reduceIte]
  refine A09 (A4u (.sref 1 id2 n 0 n) (A08 n b) (by omega) _ _ (sB _ (by omega)).bv) fun x hx=>?_
  have hp2:=A0o (l:=(A08 n b).map not) hx
  have hs2:=A1v (l:=(A08 n b).map not) hx
  obtain ⟨_,q1,q2⟩:=hx
  obtain ⟨v2,h2',n2⟩:=x
  dsimp only at hp2 hs2 q1 q2
  refine ⟨hp2,?_⟩
  simp (disch:=first | exact d_X8 | fail) only [c80,BiL,EVS,Nat.reduceAdd,Nat.reduceSub,Int.reduceToNat,Nat.reduceMul,Nat.reduceEqDiff,Nat.reduceLeDiff,Int.reduceEq,Int.reduceLT,Int.reduceLE,↓reduceIte]
  have hnl:((A08 n b).map not).length=n:=by rw [List.length_map,hbl']
  have ha2:∀ nx',n2 ≤ nx'→∃ x,lim T 126 [.sref 1 id1 n 0 n,v2,.int .i64 1] h2' nx'=some x∧NewB h2' nx' (addB (A08 n a) ((A08 n b).map not) true) x:=fun nx' hn =>
   A4t _ v2 (A08 n a) ((A08 n b).map not) true (by omega) (by omega) h2' nx' ((sA (n1 + 7) (by omega)).bv.mono (by omega) (fun i hi=>q2 i (by omega))) (hs2.bv.mono hn (fun _ _=>rfl))
  refine A09 (ha2 _ (by omega)) fun x hx=>?_
  have hp3:=A0o (l:=addB (A08 n a) ((A08 n b).map not) true) hx
  have hs3:=A1v (l:=addB (A08 n a) ((A08 n b).map not) true) hx
  obtain ⟨_,z1,z2⟩:=hx
  obtain ⟨v3,h3',n3⟩:=x
  dsimp only at hp3 hs3 z1 z2
  refine ⟨hp3,?_⟩
  have hnn:=A86 (A08 n b)
  rw [hbl',hbn'] at hnn
  have c4:=A2r hs3 (by rw [A49 _ _ _ (by omega)];omega)
  rw [A6e _ _ _ (by omega),hbl,hbn] at c4
  simp (disch:=first | exact d_X8 | fail) only [unf k80_1.eq_1,c80,BiL,c4,EVS,Nat.reduceAdd,Nat.reduceSub,Int.reduceToNat,Nat.reduceMul,Nat.reduceEqDiff,Nat.reduceLeDiff,Int.reduceEq,Int.reduceLT,Int.reduceLE,↓reduceIte]
  refine op ?_
  have e:opN 6 n a b=(a + (2 ^ n - b)) % 2 ^ n:=rfl
  rw [e];congr 1;simp only [Bool.toNat_true];omega
 have fA:∀ k,100 ≤ k→FI.frz ((n1 + 6,.row 1 [])::h1') k (.sref 1 id1 n 0 n)=some (.lst false ((A08 n a).map biV)):=fun k hk=>(sA n1 (Nat.le_refl _)).frz (by omega)
 have fB:∀ k,100 ≤ k→FI.frz ((n1 + 6,.row 1 [])::h1') k (.sref 1 id2 n 0 n)=some (.lst false ((A08 n b).map biV)):=fun k hk=>(sB n1 (Nat.le_refl _)).frz (by omega)
 have fAB:frzs ((n1 + 6,.row 1 [])::h1') deep [.sref 1 id1 n 0 n,.sref 1 id2 n 0 n]=some [.lst false ((A08 n a).map biV),.lst false ((A08 n b).map biV)] :=
  A34 (n:=1152921504606846975) (fA _ (by decide)) (A34 (n:=1152921504606846974) (fB _ (by decide)) rfl)
 have hne:A08 n a ≠ []:=fun h=>by rw [h] at hbl;simp at hbl;omega
 by_cases k7:k=7
 ·subst k7
  have c5:=fun nx=>Ak6 false false (A08 n a) (A08 n b) (by omega) hne (by omega) [.sref 1 id1 n 0 n,.sref 1 id2 n 0 n] _ nx rfl fAB
  obtain ⟨m1,m2⟩:=Agz (A08 n b) (List.replicate (A08 n a).length false) (A08 n a) (by simp) hne
  have c4:=A1y false _ (show (mulB (List.replicate (A08 n a).length false) (A08 n a) (A08 n b)).length ≤ 64 by omega)
  rw [m1,A2f,hbl,hbn,hbn',Nat.zero_add] at c4
  rw [hbl] at c5
  simp (disch:=first | exact d_X8 | fail) only [c80,BiL,g1,hbl,hbl',e1,hgd,c5,EVS,Nat.reduceAdd,Nat.reduceSub,Int.reduceToNat,Nat.reduceMul,Nat.reduceEqDiff,Nat.reduceLeDiff,Int.reduceEq,Int.reduceLT,Int.reduceLE,↓reduceIte]
  simp (disch:=first | exact d_X8 | fail) only [unf k80_1.eq_1,c80,BiL,c4,EVS,Nat.reduceAdd,Nat.reduceSub,Int.reduceToNat,Nat.reduceMul,Nat.reduceEqDiff,Nat.reduceLeDiff,Int.reduceEq,Int.reduceLT,Int.reduceLE,↓reduceIte]
  exact op rfl
 by_cases k14:k=14 ∨ k=15
 ·obtain ⟨r,⟨q,rm,e2,rfl,l1,l2,l3,l4⟩,c5⟩:=Ag3 false false (A08 n a) (A08 n b) (by omega) hne (by omega) (.int .i64 0) (fun v=>∃ (q rm:List Bool) (e2:Bool),v=.tup [.lst false (q.map biV),.lst e2 (rm.map biV)]∧q.length=(A08 n a).length∧rm.length=(A08 n a).length∧numB q=(if numB (A08 n b)=0 then 2 ^ (A08 n a).length - 1 else numB (A08 n a) / numB (A08 n b))∧numB rm=(if numB (A08 n b)=0 then numB (A08 n a) else numB (A08 n a) % numB (A08 n b)))
   (fun q rm e2 a1 a2 a3 a4=>⟨q,rm,e2,rfl,a1,a2,a3,a4⟩)
  have c6:=fun nx=>c5 [.sref 1 id1 n 0 n,.sref 1 id2 n 0 n] _ nx rfl fAB
  rw [hbl,hbn,hbn'] at l3
  rw [hbn,hbn'] at l4
  rcases k14 with rfl | rfl
  ·have c4:=A1y false q (by omega)
   rw [l3] at c4
   simp (disch:=first | exact d_X8 | fail) only [c80,BiL,g1,hbl,hbl',e1,hgd,c6,EVS,Nat.reduceAdd,Nat.reduceSub,Int.reduceToNat,Nat.reduceMul,Nat.reduceEqDiff,Nat.reduceLeDiff,Int.reduceEq,Int.reduceLT,Int.reduceLE,↓reduceIte]
   simp (disch:=first | exact d_X8 | fail) only [unf k80_1.eq_1,c80,BiL,c4,EVS,Nat.reduceAdd,Nat.reduceSub,Int.reduceToNat,Nat.reduceMul,Nat.reduceEqDiff,Nat.reduceLeDiff,Int.reduceEq,Int.reduceLT,Int.reduceLE,↓reduceIte]
   exact op rfl
  ·have c4:=A1y e2 rm (by omega)
   rw [l4] at c4
   simp (disch:=first | exact d_X8 | fail) only [c80,BiL,g1,hbl,hbl',e1,hgd,c6,EVS,Nat.reduceAdd,Nat.reduceSub,Int.reduceToNat,Nat.reduceMul,Nat.reduceEqDiff,Nat.reduceLeDiff,Int.reduceEq,Int.reduceLT,Int.reduceLE,↓reduceIte]
   simp (disch:=first | exact d_X8 | fail) only [unf k80_1.eq_1,c80,BiL,c4,EVS,Nat.reduceAdd,Nat.reduceSub,Int.reduceToNat,Nat.reduceMul,Nat.reduceEqDiff,Nat.reduceLeDiff,Int.reduceEq,Int.reduceLT,Int.reduceLE,↓reduceIte]
   exact op rfl
 by_cases k16:k=16
 ·subst k16
  by_cases he:a=b
  ·have z:decide ((a:Int)=b)=true:=decide_eq_true (by omega)
   have c4:=A2s true
   simp (disch:=first | exact d_X8 | fail) only [c80,BiL,g1,hbl,hbl',e1,hgd,z,c4,EVS,Nat.reduceAdd,Nat.reduceSub,Int.reduceToNat,Nat.reduceMul,Nat.reduceEqDiff,Nat.reduceLeDiff,Int.reduceEq,Int.reduceLT,Int.reduceLE,↓reduceIte]
   exact op (by simp [opN,he])
  ·have z:decide ((a:Int)=b)=false:=decide_eq_false (by omega)
   have c4:=A2s false
   simp (disch:=first | exact d_X8 | fail) only [c80,BiL,g1,hbl,hbl',e1,hgd,z,c4,EVS,Nat.reduceAdd,Nat.reduceSub,Int.reduceToNat,Nat.reduceMul,Nat.reduceEqDiff,Nat.reduceLeDiff,Int.reduceEq,Int.reduceLT,Int.reduceLE,↓reduceIte]
   exact op (by simp [opN,he])
 have c7:=fun h nx=>Ach false false (A08 n a) (A08 n b) (by omega) (by omega) h nx
 rw [hbn,hbn'] at c7
 by_cases k17:k=17
 ·subst k17
  have c4:=A2s (decide (a < b))
  have cL:∀ nx,lim T 134 [.sref 1 id1 n 0 n,.sref 1 id2 n 0 n] ((n1 + 6,.row 1 [])::h1') nx=some (.bool (decide (a < b)),(n1 + 6,.row 1 [])::h1',nx):=fun nx=>by rw [A9i,fAB,A12];exact c7 _ _
  simp (disch:=first | exact d_X8 | fail) only [c80,BiL,g1,hbl,hbl',e1,hgd,cL,c4,EVS,Nat.reduceAdd,Nat.reduceSub,Int.reduceToNat,Nat.reduceMul,Nat.reduceEqDiff,Nat.reduceLeDiff,Int.reduceEq,Int.reduceLT,Int.reduceLE,↓reduceIte]
  refine op ?_
  by_cases he:a < b<;>simp [opN,he]
 have c8:=Ad9 b (lt64 h2 hb)
 have fA3:∀ x y:Int,frzs ((n1 + 6,.row 1 [])::h1') deep [.sref 1 id1 n 0 n,.int .i64 x,.int .i64 y]=some [.lst false ((A08 n a).map biV),.int .i64 x,.int .i64 y]:=fun x y =>
  A34 (n:=1152921504606846975) (fA _ (by decide)) rfl
 have hmin:a / 2 ^ min b 64=a / 2 ^ b:=by
  rcases Nat.lt_or_ge b 64 with h | h
  ·rw [Nat.min_eq_left (by omega)]
  ·rw [Nat.min_eq_right h,Nat.div_eq_of_lt (Nat.lt_of_lt_of_le ha (Nat.pow_le_pow_right (by decide) h2)),Nat.div_eq_of_lt (Nat.lt_of_lt_of_le ha (Nat.pow_le_pow_right (by decide) (by omega)))]
 by_cases k12:k=12
 ·subst k12
  have c5:∀ nx,lim T 130 [.sref 1 id1 n 0 n,.int .i64 (min b 64:Nat),.int .i64 0] ((n1 + 6,.row 1 [])::h1') nx=some (.lst false ((A7z (A08 n a) (min b 64) false).map biV),A2i ((n1 + 6,.row 1 [])::h1') (idL ((n1 + 6,.row 1 [])::h1') deep [.sref 1 id1 n 0 n,.int .i64 (min b 64:Nat),.int .i64 0]),nx):=fun nx =>
   Aak false (A08 n a) (min b 64) false (by omega) (by omega) _ _ nx rfl (fA3 _ _)
  have c4:=A1y false (A7z (A08 n a) (min b 64) false) (by rw [A9c];omega)
  rw [Ae6,hbn,hmin] at c4
  simp (disch:=first | exact d_X8 | fail) only [c80,BiL,g1,hbl,hbl',e1,hgd,c8,c5,EVS,Nat.reduceAdd,Nat.reduceSub,Int.reduceToNat,Nat.reduceMul,Nat.reduceEqDiff,Nat.reduceLeDiff,Int.reduceEq,Int.reduceLT,Int.reduceLE,↓reduceIte]
  simp (disch:=first | exact d_X8 | fail) only [unf k80_1.eq_1,c80,BiL,c4,EVS,Nat.reduceAdd,Nat.reduceSub,Int.reduceToNat,Nat.reduceMul,Nat.reduceEqDiff,Nat.reduceLeDiff,Int.reduceEq,Int.reduceLT,Int.reduceLE,↓reduceIte]
  exact op rfl
 by_cases k13:k=13
 ·subst k13
  have c5:∀ nx,lim T 130 [.sref 1 id1 n 0 n,.int .i64 (min b 64:Nat),.int .i64 ((decide (a / 2 ^ (n - 1) % 2=1)).toNat:Nat)] ((n1 + 6,.row 1 [])::h1') nx=some (.lst false ((A7z (A08 n a) (min b 64) (decide (a / 2 ^ (n - 1) % 2=1))).map biV),A2i ((n1 + 6,.row 1 [])::h1') (idL ((n1 + 6,.row 1 [])::h1') deep [.sref 1 id1 n 0 n,.int .i64 (min b 64:Nat),.int .i64 ((decide (a / 2 ^ (n - 1) % 2=1)).toNat:Nat)]),nx):=fun nx =>
   Aak false (A08 n a) (min b 64) _ (by omega) (by omega) _ _ nx rfl (fA3 _ _)
  have c4:=A1y false (A7z (A08 n a) (min b 64) (decide (a / 2 ^ (n - 1) % 2=1))) (by rw [A9c];omega)
  rw [Ae6,hbn,hbl,← Ase h1 ha] at c4
  simp (disch:=first | exact d_X8 | fail) only [c80,BiL,g1,hbl,hbl',e1,hgd,c8,c5,EVS,Nat.reduceAdd,Nat.reduceSub,Int.reduceToNat,Nat.reduceMul,Nat.reduceEqDiff,Nat.reduceLeDiff,Int.reduceEq,Int.reduceLT,Int.reduceLE,↓reduceIte]
  simp (disch:=first | exact d_X8 | fail) only [unf k80_1.eq_1,c80,BiL,c4,EVS,Nat.reduceAdd,Nat.reduceSub,Int.reduceToNat,Nat.reduceMul,Nat.reduceEqDiff,Nat.reduceLeDiff,Int.reduceEq,Int.reduceLT,Int.reduceLE,↓reduceIte]
  exact op rfl
 by_cases k11:k=11
 ·subst k11
  have hneg:IntKind.i64.wrap (0 - ((min b 64:Nat):Int))=-((min b 64:Nat):Int):=by rw [wrap64 (by omega) (by omega)];omega
  have c5:∀ nx,lim T 130 [.sref 1 id1 n 0 n,.int .i64 (-((min b 64:Nat):Int)),.int .i64 0] ((n1 + 6,.row 1 [])::h1') nx=some (.lst false ((upsB (A08 n a) (min b 64)).map biV),A2i ((n1 + 6,.row 1 [])::h1') (idL ((n1 + 6,.row 1 [])::h1') deep [.sref 1 id1 n 0 n,.int .i64 (-((min b 64:Nat):Int)),.int .i64 0]),nx):=fun nx =>
   Amu false (A08 n a) (min b 64) (by omega) (by omega) _ _ nx rfl (fA3 _ _)
  have c4:=A1y false (upsB (A08 n a) (min b 64)) (by rw [Ah0];omega)
  rw [Aq3,hbn,hbl,Aso h2] at c4
  simp (disch:=first | exact d_X8 | fail) only [c80,BiL,g1,hbl,hbl',e1,hgd,c8,hneg,c5,EVS,Nat.reduceAdd,Nat.reduceSub,Int.reduceToNat,Nat.reduceMul,Nat.reduceEqDiff,Nat.reduceLeDiff,Int.reduceEq,Int.reduceLT,Int.reduceLE,↓reduceIte]
  simp (disch:=first | exact d_X8 | fail) only [unf k80_1.eq_1,c80,BiL,c4,EVS,Nat.reduceAdd,Nat.reduceSub,Int.reduceToNat,Nat.reduceMul,Nat.reduceEqDiff,Nat.reduceLeDiff,Int.reduceEq,Int.reduceLT,Int.reduceLE,↓reduceIte]
  exact op rfl
 by_cases k18:k=18
 ·subst k18
  have hlt:=Avs h1 ha hb
  have cL:∀ nx,lim T 134 [.sref 1 id1 n 0 n,.sref 1 id2 n 0 n] ((n1 + 6,.row 1 [])::h1') nx=some (.bool (decide (a < b)),(n1 + 6,.row 1 [])::h1',nx):=fun nx=>by rw [A9i,fAB,A12];exact c7 _ _
  have c4:=A2s (decide (a < b))
  have ct:=A2s true
  have cf:=A2s false
  have op18:∀ {p:Prop} [Decidable p] {q:Bool},(toI n a < toI n b ↔ p)→(q=true ↔ p)→FV.tup [.int .u64 (q.toNat:Nat),.int .i64 0]=.tup [.int .u64 (opN 18 n a b:Nat),.int .i64 0]:=fun {p} _ {q} e1 e2=>by
   refine op ?_
   have e:opN 18 n a b=if toI n a < toI n b then 1 else 0:=rfl
   rw [e]
   by_cases hp:p
   ·rw [if_pos (e1.2 hp),e2.2 hp];rfl
   ·rw [if_neg fun h=>hp (e1.1 h)]
    cases q with
    |false=>rfl
    |true=>exact absurd (e2.1 rfl) hp
  have z1:(((true).toNat:Nat):Int)=1:=rfl
  have z0:(((false).toNat:Nat):Int)=0:=rfl
  have q2':hget ((n1 + 6,Obj.row 1 [])::h1') id2=some (.row 1 ((A08 n b).map biV)):=by rw [A06 (by omega)];exact u4
  cases ea:decide (a / 2 ^ (n - 1) % 2=1)<;>cases eb:decide (b / 2 ^ (n - 1) % 2=1)
  all_goals
   have hga:=hgd a
   have hgb:=hgd b
   rw [ea] at hga
   rw [eb] at hgb
   rw [ea,eb] at hlt
   simp (disch:=first | exact d_X8 | fail) only [c80,BiL,g1,hbl,hbl',e1,hga,hgb,z1,z0,u4,cL,c4,ct,cf,EVS,Nat.reduceAdd,Nat.reduceSub,Int.reduceToNat,Nat.reduceMul,Nat.reduceEqDiff,Nat.reduceLeDiff,Int.reduceEq,Int.reduceLT,Int.reduceLE,↓reduceIte]
   first | exact op18 (q:=decide (a < b)) (p:=a < b) (by simpa using hlt) (by simp) | exact op18 (q:=false) (p:=False) (by simpa using hlt) (by simp) | exact op18 (q:=true) (p:=True) (by simpa using hlt) (by simp)
 have hk3:k=8 ∨ k=9 ∨ k=10:=by omega
 have hxl:opN k n a b < 2 ^ n:=Ar3 h1 ha hb k
 have hlx:=A18 n (opN k n a b)
 have hnx:=A30 n (opN k n a b)
 rw [Nat.mod_eq_of_lt hxl] at hnx
 have fin:∀ (h:Heap),hget h (n1 + 6)=some (.row 1 ((A08 n (opN k n a b)).map biV))→∀ m,lim T 128 [.sref 1 (n1 + 6) n 0 n] h m=some (.int .u64 (opN k n a b:Nat),h,m):=fun h hg m=>by
  have:=A2r (v:=.sref 1 (n1 + 6) n 0 n) (l:=A08 n (opN k n a b)) (h:=h) (n0:=n1 + 7) ⟨n1 + 6,by rw [hlx],by omega,hg⟩ (by omega) m
  rw [hnx] at this
  exact this
 rcases hk3 with rfl | rfl | rfl
 all_goals
  simp (disch:=first | exact d_X8 | fail) only [c80,BiL,g1,hbl,hbl',e1,hgd,EVS,Nat.reduceAdd,Nat.reduceSub,Int.reduceToNat,Nat.reduceMul,Nat.reduceEqDiff,Nat.reduceLeDiff,Int.reduceEq,Int.reduceLT,Int.reduceLE,↓reduceIte]
  refine Ap8 _ (by decide) n a b h2 id1 id2 (n1 + 6) (by omega) (by omega) _ (fun h nx hg hl=>?_) n 0 _ _ (by omega) (by omega) (by omega) (by omega) (by rw [A06 (by omega)];exact g1) (by rw [A06 (by omega)];exact u4) A0a
  have c4:=fin h hg
  simp (disch:=first | exact d_X8 | fail) only [unf k80_1.eq_1,c80,BiL,c4,EVS,Nat.reduceAdd,Nat.reduceSub,Int.reduceToNat,Nat.reduceMul,Nat.reduceEqDiff,Nat.reduceLeDiff,Int.reduceEq,Int.reduceLT,Int.reduceLE,↓reduceIte]
theorem A2o (t:Te):A1a t ↔ A1r t∧∀ x ∈ t.l,A1a x:=Aco
theorem Adj {t:Te} (h:A1a t):1 ≤ t.w∧t.w ≤ 64:=(h t (A3p t)).1
theorem Ay3 {l:List Te} {w:Int} (h:l.length=1):allW l w ↔ (l.getD 0 default).w=w :=
 ⟨fun hh=>hh 0 (by omega),fun hh j hj=>by rw [show j=0 by omega];exact hh⟩
theorem Avz {l:List Te} {w:Int} (h:l.length=2):allW l w ↔ (l.getD 0 default).w=w∧(l.getD 1 default).w=w :=
 ⟨fun hh=>⟨hh 0 (by omega),hh 1 (by omega)⟩,fun hh j hj=>by
  rcases (by omega:j=0 ∨ j=1) with rfl | rfl
  ·exact hh.1
  ·exact hh.2⟩
theorem A80 {t:Te} (h:t.k=3 ∨ t.k=4):A1r t ↔ A1p t.w∧t.b=0∧t.s=[]∧t.lo=0∧t.l.length=1∧subW t 0=t.w:=by
 have e1:howS t.k=1:=by unfold howS;(repeat' split)<;>omega
 have e2:A0y t.k=1:=by unfold A0y;(repeat' split)<;>omega
 have e3:((t.l.length:Int)=1) ↔ t.l.length=1:=by omega
 unfold A1r
 rw [if_pos (by omega),e1,e2,e3]
 simp only [A1x,Int.reduceEq,↓reduceIte,or_false,or_true,true_and]
 exact ⟨fun ⟨a,b,c,d,e,f⟩=>⟨a,b,c,d,e,(Ay3 e).1 f⟩,fun ⟨a,b,c,d,e,f⟩=>⟨a,b,c,d,e,(Ay3 e).2 f⟩⟩
theorem Aaq {t:Te} (h:5 ≤ t.k∧t.k ≤ 15):A1r t ↔ A1p t.w∧t.b=0∧t.s=[]∧t.lo=0∧t.l.length=2∧subW t 0=t.w∧subW t 1=t.w:=by
 have e1:howS t.k=1:=by unfold howS;(repeat' split)<;>omega
 have e2:A0y t.k=2:=by unfold A0y;(repeat' split)<;>omega
 have e3:((t.l.length:Int)=2) ↔ t.l.length=2:=by omega
 unfold A1r
 rw [if_pos (by omega),e1,e2,e3]
 simp only [A1x,Int.reduceEq,↓reduceIte,or_false,or_true,true_and]
 exact ⟨fun ⟨a,b,c,d,e,f⟩=>⟨a,b,c,d,e,(Avz e).1 f⟩,fun ⟨a,b,c,d,e,f⟩=>⟨a,b,c,d,e,(Avz e).2 f⟩⟩
theorem A8a {t:Te} (h:16 ≤ t.k∧t.k ≤ 18):A1r t ↔ A1p t.w∧t.b=0∧t.s=[]∧t.lo=0∧t.l.length=2∧t.w=1∧subW t 1=subW t 0:=by
 have e1:howS t.k=2:=by unfold howS;(repeat' split)<;>omega
 have e2:A0y t.k=2:=by unfold A0y;(repeat' split)<;>omega
 have e3:((t.l.length:Int)=2) ↔ t.l.length=2:=by omega
 unfold A1r
 rw [if_pos (by omega),e1,e2,e3]
 simp only [A1x,Int.reduceEq,↓reduceIte,or_false,or_true,true_and]
theorem A8b {t:Te} (h:t.k=19):A1r t ↔ A1p t.w∧t.b=0∧t.s=[]∧t.lo=0∧t.l.length=3∧subW t 0=1∧subW t 1=t.w∧subW t 2=t.w:=by
 have e1:howS t.k=3:=by unfold howS;(repeat' split)<;>omega
 have e2:A0y t.k=3:=by unfold A0y;(repeat' split)<;>omega
 have e3:((t.l.length:Int)=3) ↔ t.l.length=3:=by omega
 unfold A1r
 rw [if_pos (by omega),e1,e2,e3]
 simp only [A1x,Int.reduceEq,↓reduceIte,or_false,or_true,true_and]
theorem A82 {t:Te} (h:t.k=20):A1r t ↔ A1p t.w∧t.b=0∧t.s=[]∧t.lo=0∧t.l.length=2∧A1p (subW t 0)∧A1p (subW t 1)∧subW t 0 + subW t 1=t.w:=by
 have e1:howS t.k=4:=by unfold howS;(repeat' split)<;>omega
 have e2:A0y t.k=2:=by unfold A0y;(repeat' split)<;>omega
 have e3:((t.l.length:Int)=2) ↔ t.l.length=2:=by omega
 unfold A1r
 rw [if_pos (by omega),e1,e2,e3]
 simp only [A1x,Int.reduceEq,↓reduceIte,or_false,or_true,true_and]
theorem Abl {t:Te} (h:t.k=21):A1r t ↔ A1p t.w∧t.b=0∧t.s=[]∧True∧t.l.length=1∧0 ≤ t.lo∧A1p (subW t 0)∧t.w ≤ subW t 0∧t.lo ≤ subW t 0 - t.w:=by
 have e1:howS t.k=5:=by unfold howS;(repeat' split)<;>omega
 have e2:A0y t.k=1:=by unfold A0y;(repeat' split)<;>omega
 have e3:((t.l.length:Int)=1) ↔ t.l.length=1:=by omega
 unfold A1r
 rw [if_pos (by omega),e1,e2,e3]
 simp only [A1x,Int.reduceEq,↓reduceIte,or_false,or_true,true_and]
theorem A84 {t:Te} (h:t.k=22 ∨ t.k=23):A1r t ↔ A1p t.w∧t.b=0∧t.s=[]∧t.lo=0∧t.l.length=1∧subW t 0 ≤ t.w:=by
 have e1:howS t.k=6:=by unfold howS;(repeat' split)<;>omega
 have e2:A0y t.k=1:=by unfold A0y;(repeat' split)<;>omega
 have e3:((t.l.length:Int)=1) ↔ t.l.length=1:=by omega
 unfold A1r
 rw [if_pos (by omega),e1,e2,e3]
 simp only [A1x,Int.reduceEq,↓reduceIte,or_false,or_true,true_and]
theorem A8c {t:Te} (h:t.k=24):A1r t ↔ A1p t.w∧t.b=0∧t.s=[]∧t.lo=0∧t.l.length=1∧A2n t.w:=by
 have e1:howS t.k=7:=by unfold howS;(repeat' split)<;>omega
 have e2:A0y t.k=1:=by unfold A0y;(repeat' split)<;>omega
 have e3:((t.l.length:Int)=1) ↔ t.l.length=1:=by omega
 unfold A1r
 rw [if_pos (by omega),e1,e2,e3]
 simp only [A1x,Int.reduceEq,↓reduceIte,or_false,or_true,true_and]
theorem Aff {t:Te} (h:t.k=1):A1r t ↔ A1p t.w∧t.l.length=0∧t.lo=0∧t.s=[]∧okS t.w t.b:=by
 unfold A1r
 rw [if_neg (by omega)]
 simp only [h,Int.reduceEq,true_and,false_and,or_false]
theorem Akd {t:Te} (h:t.k=2):A1r t ↔ A1p t.w∧t.l.length=0∧t.lo=0∧t.b=0∧A9m (strip t.s):=by
 unfold A1r
 rw [if_neg (by omega)]
 simp only [h,Int.reduceEq,true_and,false_and,false_or]
theorem A3u {t:Te} (h:t.k < 1 ∨ 24 < t.k):¬ A1r t:=by
 unfold A1r
 rw [if_neg (by omega)]
 rintro ⟨_,_,_,⟨h1,_⟩ | ⟨h1,_⟩⟩<;>omega
theorem Aee {t:Te} (h:A1r t):(1 ≤ t.w∧t.w ≤ 64)∧(3 ≤ t.k→t.k ≤ 24∧t.b=0∧t.s=[]∧(t.lo=0 ∨ t.k=21)∧0 < t.l.length):=by
 refine ⟨h.1,fun h3=>?_⟩
 have h24:t.k ≤ 24:=by
  rcases Int.lt_or_le 24 t.k with h' | h'
  ·exact absurd h (A3u (.inr h'))
  ·exact h'
 have h2:=h.2
 rw [if_pos ⟨h3,h24⟩] at h2
 obtain ⟨a,b,c,d,_⟩:=h2
 have hp:=(Aef t.k).2 ⟨h3,h24⟩
 have hh:howS t.k=5→t.k=21:=by unfold howS;(repeat' split)<;>omega
 exact ⟨h24,a,b,c.imp id hh,by omega⟩
theorem d_B1 {P:Prop} (h:P:=by first|omega|(simp only[EVL]<;>omega)|(simp only[A0n,Nat.reduceEqDiff,↓reduceIte];done)|assumption|(simp (disch:=omega) only[A06,A0a,A04, *];done)|(simp only [TL];done)|with_unfolding_all rfl):P:=h
theorem Afx (n:Nat) (h1:1 ≤ n) (h2:n ≤ 64) (e:Bool) (L:List Nat) (hL:∀ x ∈ L,x < 2 ^ n) (hl:L.length ≤ 10):∀ (k i:Nat),i + k=L.length →
  @Ok Out (runs T [.code b59_0,.inL (some 7) b59_0,.inB 0,.code k59_1] [(0,.int .i64 n),(10,.lst e (L.map fun x:Nat=>.int .u64 x)),(11,.int .i64 L.length),(12,.int .i64 i)] [] 7) ⟨fun x=>finV c59.res x=some (.int .i64 0)⟩:=by
 have hm:=A2a n (by omega) (by omega)
 intro k
 induction k with
 |zero =>
  intro i hi
  have:¬ (i:Int) < L.length:=by omega
  simp (disch:=first | exact d_B1 | fail) only [unf b59_0.eq_1,unf k59_1.eq_1,c59,this,EVS,Nat.reduceAdd,Nat.reduceSub,Int.reduceToNat,Nat.reduceMul,Nat.reduceEqDiff,Nat.reduceLeDiff,Int.reduceEq,Int.reduceLT,Int.reduceLE,↓reduceIte]
 |succ k ih =>
  intro i hi
  have:(i:Int) < L.length:=by omega
  have hgd:(L.map fun x:Nat=>FV.int .u64 x).getD i .undef=.int .u64 ((L.getD i 0:Nat):Int):=by simp [List.getD,show i < L.length by omega]
  have hx:¬ ((2:Int) ^ n - 1) < ((L.getD i 0:Nat):Int):=by
   have h3:=hL _ (A0r (d:=0) (show i < L.length by omega))
   have h4:=A0j n
   omega
  have hd:decide (((2:Int) ^ n - 1) < ((L.getD i 0:Nat):Int))=false:=decide_eq_false hx
  have hp:pures (L.map fun x:Nat=>FV.int .u64 x)=true:=A4s (fun _=>rfl) _
  have hlo:lows 7 (L.map fun x:Nat=>FV.int .u64 x)=true:=A5a (fun _=>rfl) _
  have e1:(((n:Nat):Int)).toNat=n:=by omega
  rw [e1] at hm
  simp (disch:=first | exact d_B1 | fail) only [unf b59_0.eq_1,c59,this,hgd,hm,hd,EVS,Nat.reduceAdd,Nat.reduceSub,Int.reduceToNat,Nat.reduceMul,Nat.reduceEqDiff,Nat.reduceLeDiff,Int.reduceEq,Int.reduceLT,Int.reduceLE,↓reduceIte]
  exact A0s (by decide) (by simp [A19,low,hlo]) (by simp [cutH,A0b]) (ih (i + 1) (by omega))
theorem A9d (n:Nat) (h1:1 ≤ n) (h2:n ≤ 64) (e:Bool) (L:List Nat) (hL:∀ x ∈ L,x < 2 ^ n) (hl:L.length ≤ 10) (h:Heap) (nx:Nat):isfR T c59 [.int .i64 n,.lst e (L.map fun x:Nat=>.int .u64 x)] h nx=some (.int .i64 0,h,nx):=by
 refine A7g rfl ?_
 have hw:decide ((1:Int) ≤ n∧(n:Int) ≤ 64)=true:=decide_eq_true (by omega)
 simp (disch:=first | exact d_B1 | fail) only [c59,A22,hw,EVS,Nat.reduceAdd,Nat.reduceSub,Int.reduceToNat,Nat.reduceMul,Nat.reduceEqDiff,Nat.reduceLeDiff,Int.reduceEq,Int.reduceLT,Int.reduceLE,↓reduceIte]
 exact Afx n h1 h2 e L hL hl L.length 0 (by omega)
theorem A3g (a b:FV) (h:Heap) (nx:Nat):lim T 59 [a,b] h nx=@FI.B (List FV) (FV × Heap × Nat) (frzs h deep [a,b]) ⟨fun q=>isfR T c59 q h nx⟩:=A6v tg59 rfl rfl
theorem Aga (n a:Nat) (h1:1 ≤ n) (h2:n ≤ 64) (ha:a < 2 ^ n) (e:Bool) (h:Heap) (nx:Nat):isfR T c59 [.int .i64 n,.lst e [.int .u64 a]] h nx=some (.int .i64 0,h,nx):=A9d n h1 h2 e [a] (by simpa using ha) (by simp) h nx
theorem Ass (n a b:Nat) (h1:1 ≤ n) (h2:n ≤ 64) (ha:a < 2 ^ n) (hb:b < 2 ^ n) (e:Bool) (h:Heap) (nx:Nat):isfR T c59 [.int .i64 n,.lst e [.int .u64 a,.int .u64 b]] h nx=some (.int .i64 0,h,nx):=A9d n h1 h2 e [a,b] (by simp [ha,hb]) (by simp) h nx
theorem A4k (n a:Nat) (h1:1 ≤ n) (h2:n ≤ 64) (ha:a < 2 ^ n):∀ h nx,lim T 60 [.int .i64 n,.int .u64 a] h nx=some (.int .i64 (toI n a),h,nx):=by
 have hx:=B0u h1 h2 ha
 refine A05 tg60 rfl rfl rfl ?_
 simp (disch:=first | exact d_B1 | fail) only [c60,hx,EVS,Nat.reduceAdd,Nat.reduceSub,Int.reduceToNat,Nat.reduceMul,Nat.reduceEqDiff,Nat.reduceLeDiff,Int.reduceEq,Int.reduceLT,Int.reduceLE,↓reduceIte]
theorem Aar (b:Nat):∀ h nx,lim T 96 [.int .u64 b] h nx=some (.int .u64 (min (b:Int) 64),h,nx):=by
 refine A05 tg96 rfl rfl rfl ?_
 simp (disch:=first | exact d_B1 | fail) only [c96,EVS,Nat.reduceAdd,Nat.reduceSub,Int.reduceToNat,Nat.reduceMul,Nat.reduceEqDiff,Nat.reduceLeDiff,Int.reduceEq,Int.reduceLT,Int.reduceLE,↓reduceIte]
theorem Abz (c:Bool):∀ h nx,lim T 102 [.bool c] h nx=some (.int .u64 (if c=true then 1 else 0),h,nx):=by
 refine A05 B0r rfl rfl rfl ?_
 cases c<;>simp (disch:=first | exact d_B1 | fail) only [c102,EVS,Nat.reduceAdd,Nat.reduceSub,Int.reduceToNat,Nat.reduceMul,Nat.reduceEqDiff,Nat.reduceLeDiff,Int.reduceEq,Int.reduceLT,Int.reduceLE,↓reduceIte]
theorem d_B2 {P:Prop} (h:P:=by first|omega|(simp only[EVL]<;>omega)|(simp only[A0n,Nat.reduceEqDiff,↓reduceIte];done)|assumption|(simp (disch:=omega) only[A06,A0a,A04, *];done)|(simp only [TL];done)|with_unfolding_all rfl):P:=h
section
variable (n a b:Nat) (w:FV)
theorem Apd:∀ h nx,lim T 89 [.int .i64 n,.int .u64 a,.int .u64 b] h nx=some (.int .u64 (IntKind.u64.wrap ((a:Int) + b)),h,nx):=by
 refine A05 tg89 rfl rfl rfl ?_
 simp (disch:=first | exact d_B2 | fail) only [c89,EVS,Nat.reduceAdd,Nat.reduceSub,Int.reduceToNat,Nat.reduceMul,Nat.reduceEqDiff,Nat.reduceLeDiff,Int.reduceEq,Int.reduceLT,Int.reduceLE,↓reduceIte]
theorem Aoj:∀ h nx,lim T 90 [.int .i64 n,.int .u64 a,.int .u64 b] h nx=some (.int .u64 (IntKind.u64.wrap ((a:Int) - b)),h,nx):=by
 refine A05 tg90 rfl rfl rfl ?_
 simp (disch:=first | exact d_B2 | fail) only [c90,EVS,Nat.reduceAdd,Nat.reduceSub,Int.reduceToNat,Nat.reduceMul,Nat.reduceEqDiff,Nat.reduceLeDiff,Int.reduceEq,Int.reduceLT,Int.reduceLE,↓reduceIte]
theorem Apq:∀ h nx,lim T 91 [.int .i64 n,.int .u64 a,.int .u64 b] h nx=some (.int .u64 (IntKind.u64.wrap ((a:Int) * b)),h,nx):=by
 refine A05 tg91 rfl rfl rfl ?_
 simp (disch:=first | exact d_B2 | fail) only [c91,EVS,Nat.reduceAdd,Nat.reduceSub,Int.reduceToNat,Nat.reduceMul,Nat.reduceEqDiff,Nat.reduceLeDiff,Int.reduceEq,Int.reduceLT,Int.reduceLE,↓reduceIte]
theorem Aol:∀ h nx,lim T 92 [.int .i64 n,.int .u64 a,.int .u64 b] h nx=some (.int .u64 (band .u64 a b),h,nx):=by
 refine A05 tg92 rfl rfl rfl ?_
 simp (disch:=first | exact d_B2 | fail) only [c92,EVS,Nat.reduceAdd,Nat.reduceSub,Int.reduceToNat,Nat.reduceMul,Nat.reduceEqDiff,Nat.reduceLeDiff,Int.reduceEq,Int.reduceLT,Int.reduceLE,↓reduceIte]
theorem Ao7:∀ h nx,lim T 93 [.int .i64 n,.int .u64 a,.int .u64 b] h nx=some (.int .u64 (bor .u64 a b),h,nx):=by
 refine A05 tg93 rfl rfl rfl ?_
 simp (disch:=first | exact d_B2 | fail) only [c93,EVS,Nat.reduceAdd,Nat.reduceSub,Int.reduceToNat,Nat.reduceMul,Nat.reduceEqDiff,Nat.reduceLeDiff,Int.reduceEq,Int.reduceLT,Int.reduceLE,↓reduceIte]
theorem Ap5:∀ h nx,lim T 94 [.int .i64 n,.int .u64 a,.int .u64 b] h nx=some (.int .u64 (bxor .u64 a b),h,nx):=by
 refine A05 tg94 rfl rfl rfl ?_
 simp (disch:=first | exact d_B2 | fail) only [c94,EVS,Nat.reduceAdd,Nat.reduceSub,Int.reduceToNat,Nat.reduceMul,Nat.reduceEqDiff,Nat.reduceLeDiff,Int.reduceEq,Int.reduceLT,Int.reduceLE,↓reduceIte]
theorem Aot:∀ h nx,lim T 95 [.int .i64 n,.int .u64 a,.int .u64 b] h nx=some (.int .u64 (shl .u64 a (min (b:Int) 64)),h,nx):=by
 refine A05 tg95 rfl rfl rfl ?_
 simp (disch:=first | exact d_B2 | fail) only [c95,Aar,EVS,Nat.reduceAdd,Nat.reduceSub,Int.reduceToNat,Nat.reduceMul,Nat.reduceEqDiff,Nat.reduceLeDiff,Int.reduceEq,Int.reduceLT,Int.reduceLE,↓reduceIte]
theorem Apo:∀ h nx,lim T 97 [.int .i64 n,.int .u64 a,.int .u64 b] h nx=some (.int .u64 (shr .u64 a (min (b:Int) 64)),h,nx):=by
 refine A05 tg97 rfl rfl rfl ?_
 simp (disch:=first | exact d_B2 | fail) only [c97,Aar,EVS,Nat.reduceAdd,Nat.reduceSub,Int.reduceToNat,Nat.reduceMul,Nat.reduceEqDiff,Nat.reduceLeDiff,Int.reduceEq,Int.reduceLT,Int.reduceLE,↓reduceIte]
theorem Ajx:∀ h nx,lim T 99 [.int .i64 n,.int .u64 a,.int .u64 b] h nx=some (.int .u64 (if b=0 then 18446744073709551615 else IntKind.u64.wrap ((a / b:Nat):Int)),h,nx):=by
 refine A05 tg99 rfl rfl rfl ?_
 by_cases hb:b=0
 ·subst hb
  have z:decide (((0:Nat):Int)=0)=true:=rfl
  simp (disch:=first | exact d_B2 | fail) only [c99,z,EVS,Nat.reduceAdd,Nat.reduceSub,Int.reduceToNat,Nat.reduceMul,Nat.reduceEqDiff,Nat.reduceLeDiff,Int.reduceEq,Int.reduceLT,Int.reduceLE,↓reduceIte]
 ·have z:decide ((b:Int)=0)=false:=decide_eq_false (by omega)
  have z2:((b:Int)=0)=False:=eq_false (by omega)
  simp (disch:=first | exact d_B2 | fail) only [c99,z,EVS,Nat.reduceAdd,Nat.reduceSub,Int.reduceToNat,Nat.reduceMul,Nat.reduceEqDiff,Nat.reduceLeDiff,Int.reduceEq,Int.reduceLT,Int.reduceLE,↓reduceIte]
  rw [if_neg hb,Int.tdiv_eq_ediv_of_nonneg (by omega)];rfl
theorem Am9:∀ h nx,lim T 100 [.int .i64 n,.int .u64 a,.int .u64 b] h nx=some (.int .u64 (if b=0 then (a:Int) else ((a % b:Nat):Int)),h,nx):=by
 refine A05 B15 rfl rfl rfl ?_
 by_cases hb:b=0
 ·subst hb
  have z:decide (((0:Nat):Int)=0)=true:=rfl
  simp (disch:=first | exact d_B2 | fail) only [c100,z,EVS,Nat.reduceAdd,Nat.reduceSub,Int.reduceToNat,Nat.reduceMul,Nat.reduceEqDiff,Nat.reduceLeDiff,Int.reduceEq,Int.reduceLT,Int.reduceLE,↓reduceIte]
 ·have z:decide ((b:Int)=0)=false:=decide_eq_false (by omega)
  simp (disch:=first | exact d_B2 | fail) only [c100,z,EVS,Nat.reduceAdd,Nat.reduceSub,Int.reduceToNat,Nat.reduceMul,Nat.reduceEqDiff,Nat.reduceLeDiff,Int.reduceEq,Int.reduceLT,Int.reduceLE,↓reduceIte]
  rw [if_neg hb,Int.tmod_eq_emod_of_nonneg (by omega)];rfl
theorem Amv:∀ h nx,lim T 101 [.int .i64 n,.int .u64 a,.int .u64 b] h nx=some (.int .u64 (if decide ((a:Int)=b)=true then 1 else 0),h,nx):=by
 refine A05 B1b rfl rfl rfl ?_
 simp (disch:=first | exact d_B2 | fail) only [c101,Abz,EVS,Nat.reduceAdd,Nat.reduceSub,Int.reduceToNat,Nat.reduceMul,Nat.reduceEqDiff,Nat.reduceLeDiff,Int.reduceEq,Int.reduceLT,Int.reduceLE,↓reduceIte]
theorem Ak9:∀ h nx,lim T 103 [.int .i64 n,.int .u64 a,.int .u64 b] h nx=some (.int .u64 (if decide ((a:Int) < b)=true then 1 else 0),h,nx):=by
 refine A05 Ay7 rfl rfl rfl ?_
 simp (disch:=first | exact d_B2 | fail) only [c103,Abz,EVS,Nat.reduceAdd,Nat.reduceSub,Int.reduceToNat,Nat.reduceMul,Nat.reduceEqDiff,Nat.reduceLeDiff,Int.reduceEq,Int.reduceLT,Int.reduceLE,↓reduceIte]
variable {n a b}
theorem Aoq (h1:1 ≤ n) (h2:n ≤ 64) (ha:a < 2 ^ n):∀ h nx,lim T 98 [.int .i64 n,.int .u64 a,.int .u64 b] h nx=some (.int .u64 (IntKind.u64.wrap (shr .i64 (toI n a) (min (b:Int) 64))),h,nx):=by
 refine A05 tg98 rfl rfl rfl ?_
 simp (disch:=first | exact d_B2 | fail) only [c98,Aar,A4k n a h1 h2 ha,EVS,Nat.reduceAdd,Nat.reduceSub,Int.reduceToNat,Nat.reduceMul,Nat.reduceEqDiff,Nat.reduceLeDiff,Int.reduceEq,Int.reduceLT,Int.reduceLE,↓reduceIte]
theorem Ajr (h1:1 ≤ n) (h2:n ≤ 64) (ha:a < 2 ^ n) (hb:b < 2 ^ n):∀ h nx,lim T 104 [.int .i64 n,.int .u64 a,.int .u64 b] h nx=some (.int .u64 (if decide (toI n a < toI n b)=true then 1 else 0),h,nx):=by
 refine A05 Azh rfl rfl rfl ?_
 simp (disch:=first | exact d_B2 | fail) only [c104,Abz,A4k n a h1 h2 ha,A4k n b h1 h2 hb,EVS,Nat.reduceAdd,Nat.reduceSub,Int.reduceToNat,Nat.reduceMul,Nat.reduceEqDiff,Nat.reduceLeDiff,Int.reduceEq,Int.reduceLT,Int.reduceLE,↓reduceIte]
end
theorem A2j (k:Nat) (hk:k < 19):∀ h nx,lim T 61 [.int .u8 k] h nx=some (([.nilf,.nilf,.nilf,.nilf,.nilf,.fn 89 [],.fn 90 [],.fn 91 [],.fn 92 [],.fn 93 [],.fn 94 [],.fn 95 [],.fn 97 [],.fn 98 [],.fn 99 [],.fn 100 [],.fn 101 [],.fn 103 [],.fn 104 []]:List FV).getD k .undef,h,nx):=by
 have key:∀ k:Nat,k < 19→(match FI.call T 100 61 [.int .u8 k] [] 0 with | some (v,_,_)=>eqv v (([.nilf,.nilf,.nilf,.nilf,.nilf,.fn 89 [],.fn 90 [],.fn 91 [],.fn 92 [],.fn 93 [],.fn 94 [],.fn 95 [],.fn 97 [],.fn 98 [],.fn 99 [],.fn 100 [],.fn 101 [],.fn 103 [],.fn 104 []]:List FV).getD k .undef) | none=>false)=true:=by decide +kernel
 have:=key k hk
 split at this
 ·rename_i v h' nx' hc
  rw [← A5j this]
  exact A5r tg61 rfl (Ada T _ _ _ _ _ _ hc) (by decide)
 ·cases this
theorem Aew (k:Int) (n a b:Nat) (k1:5 ≤ k) (k2:k ≤ 18) (h1:1 ≤ n) (h2:n ≤ 64) (ha:a < 2 ^ n) (hb:b < 2 ^ n):∀ h nx,lim T 25 [.int .u8 k,.int .i64 n,.int .u64 a,.int .u64 b] h nx=some (.tup [.int .u64 (opN k n a b:Nat),.int .i64 0],h,nx):=by
 have hw:decide ((1:Int) ≤ n∧(n:Int) ≤ 64)=true:=decide_eq_true (by omega)
 have hm:=A2a n (by omega) (by omega)
 rw [show ((n:Nat):Int).toNat=n by omega] at hm
 have hc:=fun e h nx=>Ass n a b h1 h2 ha hb e h nx
 have key:∀ (f:Nat) (X:Int),(∀ h nx,lim T 61 [.int .u8 k] h nx=some (.fn f [],h,nx))→(∀ h nx,lim T f [.int .i64 n,.int .u64 a,.int .u64 b] h nx=some (.int .u64 X,h,nx))→band .u64 X (2 ^ n - 1)=(opN k n a b:Nat) →
   ∀ h nx,lim T 25 [.int .u8 k,.int .i64 n,.int .u64 a,.int .u64 b] h nx=some (.tup [.int .u64 (opN k n a b:Nat),.int .i64 0],h,nx):=by
  intro f X ho hf hx
  have d1:decide (k < 5)=false:=decide_eq_false (by omega)
  have d2:decide ((18:Int) < k)=false:=decide_eq_false (by omega)
  refine A05 tg25 rfl rfl rfl ?_
  simp (disch:=first | exact d_B2 | fail) only [c25,A22,hw,d1,d2,A3g,hc,ho,hf,hm,hx,EVS,Nat.reduceAdd,Nat.reduceSub,Int.reduceToNat,Nat.reduceMul,Nat.reduceEqDiff,Nat.reduceLeDiff,Int.reduceEq,Int.reduceLT,Int.reduceLE,↓reduceIte]
 have hk:k=5 ∨ k=6 ∨ k=7 ∨ k=8 ∨ k=9 ∨ k=10 ∨ k=11 ∨ k=12 ∨ k=13 ∨ k=14 ∨ k=15 ∨ k=16 ∨ k=17 ∨ k=18:=by omega
 rcases hk with rfl | rfl | rfl | rfl | rfl | rfl | rfl | rfl | rfl | rfl | rfl | rfl | rfl | rfl
 ·exact key _ _ (A2j 5 (by decide)) (Apd n a b) (Ays (n:=n) (a:=a) (b:=b) h2)
 ·exact key _ _ (A2j 6 (by decide)) (Aoj n a b) (Ayo (n:=n) (a:=a) (b:=b) h2 hb)
 ·exact key _ _ (A2j 7 (by decide)) (Apq n a b) (Ayb (n:=n) (a:=a) (b:=b) h2)
 ·exact key _ _ (A2j 8 (by decide)) (Aol n a b) (Az6 h2 ha hb)
 ·exact key _ _ (A2j 9 (by decide)) (Ao7 n a b) (X_or h2 ha hb)
 ·exact key _ _ (A2j 10 (by decide)) (Ap5 n a b) (B02 h2 ha hb)
 ·exact key _ _ (A2j 11 (by decide)) (Aot n a b) (Az1 (n:=n) (a:=a) (b:=b) h2)
 ·exact key _ _ (A2j 12 (by decide)) (Apo n a b) (B1a (n:=n) (a:=a) (b:=b) h2 ha)
 ·exact key _ _ (A2j 13 (by decide)) (Aoq h1 h2 ha) (B1o (n:=n) (a:=a) (b:=b) h2)
 ·refine key _ _ (A2j 14 (by decide)) (Ajx n a b) ?_
  by_cases hz:b=0
  ·subst hz
   rw [if_pos rfl];exact Avx h2
  ·rw [if_neg hz,w64,Int.emod_eq_of_lt (Int.natCast_nonneg _) (by have:=lt64 h2 ha;have:=Nat.div_le_self a b;exact Int.ofNat_lt.2 (by omega:a / b < 18446744073709551616))]
   exact Ayy h2 ha hz
 ·refine key _ _ (A2j 15 (by decide)) (Am9 n a b) ?_
  by_cases hz:b=0
  ·subst hz
   rw [if_pos rfl];exact Axv h2 ha
  ·rw [if_neg hz];exact Azr h2 ha hz
 ·refine key _ _ (A2j 16 (by decide)) (Amv n a b) ?_
  rw [Asg h1 h2]
  have e:opN 16 n a b=if a=b then 1 else 0:=rfl
  rw [e]
  by_cases c:(a:Int)=b
  ·rw [if_pos (decide_eq_true c),if_pos (by omega)];rfl
  ·rw [if_neg (by simpa using c),if_neg (by omega)];rfl
 ·refine key _ _ (A2j 17 (by decide)) (Ak9 n a b) ?_
  rw [Asg h1 h2]
  have e:opN 17 n a b=if a < b then 1 else 0:=rfl
  rw [e]
  by_cases c:(a:Int) < b
  ·rw [if_pos (decide_eq_true c),if_pos (by omega)];rfl
  ·rw [if_neg (by simpa using c),if_neg (by omega)];rfl
 ·refine key _ _ (A2j 18 (by decide)) (Ajr h1 h2 ha hb) ?_
  rw [Asg h1 h2]
  have e:opN 18 n a b=if toI n a < toI n b then 1 else 0:=rfl
  rw [e]
  by_cases c:toI n a < toI n b
  ·rw [if_pos (decide_eq_true c),if_pos (by omega)];rfl
  ·rw [if_neg (by simpa using c),if_neg (by omega)];rfl
theorem Ahw (k:Int) (n a:Nat) (hk:k=3 ∨ k=4) (h1:1 ≤ n) (h2:n ≤ 64) (ha:a < 2 ^ n):∀ h nx,lim T 21 [.int .u8 k,.int .i64 n,.int .u64 a] h nx=some (.tup [.int .u64 (unN k n a:Nat),.int .i64 0],h,nx):=by
 have hw:decide ((1:Int) ≤ n∧(n:Int) ≤ 64)=true:=decide_eq_true (by omega)
 have hm:=A2a n (by omega) (by omega)
 rw [show ((n:Nat):Int).toNat=n by omega] at hm
 have hc:=fun e h nx=>Aga n a h1 h2 ha e h nx
 refine A05 tg21 rfl rfl rfl ?_
 rcases hk with rfl | rfl
 ·have hx:=Azb h2 ha
  simp (disch:=first | exact d_B2 | fail) only [c21,A22,hw,A3g,hc,hm,hx,EVS,Nat.reduceAdd,Nat.reduceSub,Int.reduceToNat,Nat.reduceMul,Nat.reduceEqDiff,Nat.reduceLeDiff,Int.reduceEq,Int.reduceLT,Int.reduceLE,↓reduceIte]
  rw [show (if IntKind.u64.signed=true then (-1:Int) else IntKind.u64.max)=18446744073709551615 from rfl,hx]
 ·have hx:=Azp h2 ha
  simp (disch:=first | exact d_B2 | fail) only [c21,A22,hw,A3g,hc,hm,hx,EVS,Nat.reduceAdd,Nat.reduceSub,Int.reduceToNat,Nat.reduceMul,Nat.reduceEqDiff,Nat.reduceLeDiff,Int.reduceEq,Int.reduceLT,Int.reduceLE,↓reduceIte]
theorem Ads (n a lo m:Nat) (h1:1 ≤ n) (h2:n ≤ 64) (ha:a < 2 ^ n) (m1:1 ≤ m) (m2:lo + m ≤ n):∀ h nx,lim T 23 [.int .i64 n,.int .u64 a,.int .i64 lo,.int .i64 m] h nx=some (.tup [.int .u64 (a / 2 ^ lo % 2 ^ m:Nat),.int .i64 0],h,nx):=by
 have hm:=A2a m (by omega) (by omega)
 rw [show ((m:Nat):Int).toNat=m by omega] at hm
 have hc:=fun e h nx=>Aga n a h1 h2 ha e h nx
 have hl:=lt64 h2 ha
 have d1:decide ((lo:Int) < 0)=false:=decide_eq_false (by omega)
 have d2:decide ((m:Int) < 1)=false:=decide_eq_false (by omega)
 have d3:decide ((n:Int) < m)=false:=decide_eq_false (by omega)
 have d4:decide ((n:Int) - m < lo)=false:=decide_eq_false (by omega)
 have hs:=All (a:=(a:Int)) (n:=lo) (by omega) (by omega)
 have hx:band .u64 (((a:Int).toNat >>> lo:Nat):Int) (2 ^ m - 1)=(a / 2 ^ lo % 2 ^ m:Nat):=by
  rw [Int.toNat_natCast,Nat.shiftRight_eq_div_pow,Ah7 (by omega) (Int.natCast_nonneg _) (Int.ofNat_lt.2 (by have:=Nat.div_le_self a (2 ^ lo);omega:a / 2 ^ lo < 18446744073709551616)),A7i]
 rw [Int.toNat_natCast] at hs hx
 refine A05 tg23 rfl rfl rfl ?_
 simp (disch:=first | exact d_B2 | fail) only [c23,A3g,hc,d1,d2,d3,d4,hs,hm,hx,EVS,Nat.reduceAdd,Nat.reduceSub,Int.reduceToNat,Nat.reduceMul,Nat.reduceEqDiff,Nat.reduceLeDiff,Int.reduceEq,Int.reduceLT,Int.reduceLE,↓reduceIte]
theorem Ag2 (n a m b:Nat) (h1:1 ≤ n) (m1:1 ≤ m) (h2:n + m ≤ 64) (ha:a < 2 ^ n) (hb:b < 2 ^ m):∀ h nx,lim T 22 [.int .i64 n,.int .u64 a,.int .i64 m,.int .u64 b] h nx=some (.tup [.int .u64 (a * 2 ^ m + b:Nat),.int .i64 0],h,nx):=by
 have hw1:decide ((1:Int) ≤ n∧(n:Int) ≤ 64)=true:=decide_eq_true (by omega)
 have hw2:decide ((1:Int) ≤ m∧(m:Int) ≤ 64)=true:=decide_eq_true (by omega)
 have hw3:decide ((1:Int) ≤ (n:Int) + m∧(n:Int) + m ≤ 64)=true:=decide_eq_true (by omega)
 have o1:okS n a:=⟨by omega,by omega,by rw [show ((n:Nat):Int).toNat=n by omega,← A0j];exact Int.ofNat_lt.2 ha⟩
 have o2:okS m b:=⟨by omega,by omega,by rw [show ((m:Nat):Int).toNat=m by omega,← A0j];exact Int.ofNat_lt.2 hb⟩
 have hab:a * 2 ^ m < 2 ^ (n + m):=by rw [Nat.pow_add];exact Nat.mul_lt_mul_of_pos_right ha (Nat.pow_pos (by decide))
 have h64:(2:Nat) ^ (n + m) ≤ 2 ^ 64:=Nat.pow_le_pow_right (by decide) h2
 have h64':(2:Nat) ^ 64=18446744073709551616:=rfl
 have hb64:b < 18446744073709551616:=lt64 (by omega) hb
 have hs:=Alz (a:=(a:Int)) (n:=m) (by omega) (by omega) (by rw [← A0j,← Int.natCast_mul];exact Int.ofNat_lt.2 (by omega:a * 2 ^ m < 18446744073709551616))
 rw [Int.toNat_natCast,Nat.shiftLeft_eq] at hs
 have hx:bor .u64 ((a * 2 ^ m:Nat):Int) b=((a * 2 ^ m + b:Nat):Int):=by
  rw [Afg (Int.natCast_nonneg _) (Int.ofNat_lt.2 (by omega:a * 2 ^ m < 18446744073709551616)) (by omega) (by omega),Int.toNat_natCast,Int.toNat_natCast,Nat.mul_comm,Nat.two_pow_add_eq_or_of_lt hb]
 refine A05 tg22 rfl rfl rfl ?_
 simp (disch:=first | exact d_B2 | fail) only [c22,A22,A81,hw1,hw2,hw3,o1,o2,decide_true,hs,hx,EVS,Nat.reduceAdd,Nat.reduceSub,Int.reduceToNat,Nat.reduceMul,Nat.reduceEqDiff,Nat.reduceLeDiff,Int.reduceEq,Int.reduceLT,Int.reduceLE,↓reduceIte]
theorem Aeq (s:Bool) (n a m:Nat) (h1:1 ≤ n) (h2:m ≤ 64) (hnm:n ≤ m) (ha:a < 2 ^ n):∀ h nx,lim T 24 [.int .i64 n,.int .u64 a,.int .i64 m,.bool s] h nx=some (.tup [.int .u64 (exN s n m a:Nat),.int .i64 0],h,nx):=by
 have hw1:decide ((1:Int) ≤ n∧(n:Int) ≤ 64)=true:=decide_eq_true (by omega)
 have hw2:decide ((1:Int) ≤ m∧(m:Int) ≤ 64)=true:=decide_eq_true (by omega)
 have d1:decide ((m:Int) < n)=false:=decide_eq_false (by omega)
 have hc:=fun e h nx=>Aga n a h1 (by omega) ha e h nx
 have hm:=A2a m (by omega) (by omega)
 rw [show ((m:Nat):Int).toNat=m by omega] at hm
 have hg:=A4k n a h1 (by omega) ha
 refine A05 tg24 rfl rfl rfl ?_
 cases s with
 |false =>
  have e:exN false n m a=a:=rfl
  rw [e]
  simp (disch:=first | exact d_B2 | fail) only [c24,A22,hw1,hw2,d1,A3g,hc,EVS,Nat.reduceAdd,Nat.reduceSub,Int.reduceToNat,Nat.reduceMul,Nat.reduceEqDiff,Nat.reduceLeDiff,Int.reduceEq,Int.reduceLT,Int.reduceLE,↓reduceIte]
 |true =>
  have hx:band .u64 (IntKind.u64.wrap (toI n a)) (2 ^ m - 1)=(exN true n m a:Nat):=by
   have e:exN true n m a=(toI n a % 2 ^ m).toNat:=rfl
   have hp:=A1c m
   rw [A5p h2,e,Int.toNat_of_nonneg (Int.emod_nonneg _ (by omega))]
  simp (disch:=first | exact d_B2 | fail) only [c24,A22,hw1,hw2,d1,A3g,hc,hg,hm,hx,EVS,Nat.reduceAdd,Nat.reduceSub,Int.reduceToNat,Nat.reduceMul,Nat.reduceEqDiff,Nat.reduceLeDiff,Int.reduceEq,Int.reduceLT,Int.reduceLE,↓reduceIte]
def ldN (m:Mem) (a at_ w:Nat):Nat:=ldS m a at_ (w / 8)
theorem Ay5 {m:Mem} (hm:okM m) (a at_ w:Nat) (hw:A2n w):ldN m a at_ w < 2 ^ w:=by
 have:=Aea hm a at_ (w / 8)
 rwa [show 8 * (w / 8)=w by unfold A2n at hw;omega] at this
abbrev vM (ρ:List UInt8→Nat) (m:Mem) (t:Te):Nat:=valT ρ (ldN m) t
def A7s (ρ:List UInt8→Nat) (t:Te):Prop:=∀ x ∈ A0k t,x.k=2→ρ x.s < 2 ^ x.w.toNat
theorem Aft {w b:Int} (h:okS w b) (h0:0 ≤ b):b.toNat < 2 ^ w.toNat:=by
 have h1:=h.2.2
 rw [← A0j] at h1
 omega
theorem mp0 {f:Te→Nat} {l:List Te} {i:Nat} (h:i < l.length):(l.map f).getD i 0=f (l.getD i default):=by simp [List.getD,h]
theorem mpw {l:List Te} {i:Nat} (h:i < l.length):(l.map Tm'.w).getD i 0=(l.getD i default).w:=by simp [List.getD,h]
theorem Aqr {ρ:List UInt8→Nat} {m:Mem} (hm:okM m) (t:Te) (hn:A1a t) (ht:TOk t) (hρ:A7s ρ t):vM ρ m t < 2 ^ t.w.toNat:=by
 induction t using Tm'.ind with
 |h t ih =>
 have hself:=(A2o t).1 hn
 have hw:=(hself.1).1
 have hsub:∀ i,i < t.l.length→vM ρ m (t.l.getD i default) < 2 ^ (t.l.getD i default).w.toNat∧1 ≤ (t.l.getD i default).w∧(t.l.getD i default).w ≤ 64:=fun i hi=>by
  have hmem:=A0r (d:=(default:Te)) hi
  exact ⟨ih _ hmem (hself.2 _ hmem) (ht.sub hmem) (fun x hx=>hρ x (A3h hmem hx)),(hself.2 _ hmem _ (A3p _)).1⟩
 have hk:=ht.self.1
 have hb:=ht.self.2.2.1
 unfold vM at hsub ⊢
 rw [A79]
 unfold vop
 by_cases k1:t.k=1
 ·rw [if_pos k1];exact Aft ((Aff k1).1 hself.1).2.2.2.2 hb.1
 rw [if_neg k1]
 by_cases k2:t.k=2
 ·rw [if_pos k2];exact hρ t (A3p t) k2
 rw [if_neg k2]
 by_cases k3:t.k=3 ∨ t.k=4
 ·rw [if_pos k3]
  obtain ⟨_,_,_,_,hl,hs⟩:=(A80 k3).1 hself.1
  rw [mp0 (by omega),mpw (by omega)]
  have:=(hsub 0 (by omega)).1
  unfold subW at hs
  rw [hs] at this ⊢
  exact Axd this _
 rw [if_neg k3]
 by_cases k19:t.k=19
 ·rw [if_pos k19]
  obtain ⟨_,_,_,_,hl,hs0,hs1,hs2⟩:=(A8b k19).1 hself.1
  rw [mp0 (by omega),mp0 (by omega),mp0 (by omega)]
  have h1:=(hsub 1 (by omega)).1
  have h2:=(hsub 2 (by omega)).1
  unfold subW at hs1 hs2
  rw [hs1] at h1
  rw [hs2] at h2
  split
  ·exact h1
  ·exact h2
 rw [if_neg k19]
 by_cases k20:t.k=20
 ·rw [if_pos k20]
  obtain ⟨_,_,_,_,hl,hw0,hw1,hs⟩:=(A82 k20).1 hself.1
  rw [mp0 (by omega),mp0 (by omega),mpw (by omega)]
  have h0:=(hsub 0 (by omega)).1
  have h1:=(hsub 1 (by omega)).1
  unfold A1p at hw0 hw1
  unfold subW at hs hw0 hw1
  rw [show t.w.toNat=(t.l.getD 0 default).w.toNat + (t.l.getD 1 default).w.toNat by omega,Nat.pow_add]
  calc _ < valT ρ (ldN m) (t.l.getD 0 default) * 2 ^ (t.l.getD 1 default).w.toNat + 2 ^ (t.l.getD 1 default).w.toNat:=by omega
   _=(valT ρ (ldN m) (t.l.getD 0 default) + 1) * 2 ^ (t.l.getD 1 default).w.toNat:=by rw [Nat.add_mul,Nat.one_mul]
   _ ≤ _:=Nat.mul_le_mul_right _ h0
 rw [if_neg k20]
 by_cases k21:t.k=21
 ·rw [if_pos k21];exact Nat.mod_lt _ (Nat.pow_pos (by decide))
 rw [if_neg k21]
 by_cases k22:t.k=22 ∨ t.k=23
 ·rw [if_pos k22]
  obtain ⟨_,_,_,_,hl,hs⟩:=(A84 k22).1 hself.1
  rw [mp0 (by omega),mpw (by omega)]
  have h0:=hsub 0 (by omega)
  unfold subW at hs
  exact Avt (by omega) h0.1
 rw [if_neg k22]
 by_cases k24:t.k=24
 ·rw [if_pos k24]
  obtain ⟨_,_,_,_,hl,hs⟩:=(A8c k24).1 hself.1
  have hw':=hw
  unfold A1p at hw'
  exact Ay5 hm _ _ _ (by rw [show ((t.w.toNat:Nat):Int)=t.w by omega];exact hs)
 rw [if_neg k24]
 have h24:1 ≤ t.k∧t.k ≤ 24:=by
  rcases Int.lt_or_le t.k 1 with h | h
  ·exact absurd hself.1 (A3u (.inl h))
  ·rcases Int.lt_or_le 24 t.k with h' | h'
   ·exact absurd hself.1 (A3u (.inr h'))
   ·exact ⟨h,h'⟩
 by_cases k5:t.k ≤ 15
 ·obtain ⟨_,_,_,_,hl,hs0,hs1⟩:=(Aaq ⟨by omega,k5⟩).1 hself.1
  rw [mp0 (by omega),mp0 (by omega),mpw (by omega)]
  have h0:=hsub 0 (by omega)
  have h1:=hsub 1 (by omega)
  unfold subW at hs0 hs1
  rw [hs0] at h0 ⊢
  rw [hs1] at h1
  exact Ar3 (by omega) h0.1 h1.1 _
 ·have hk3:16 ≤ t.k∧t.k ≤ 18:=by omega
  obtain ⟨_,_,_,_,hl,hs0,hs1⟩:=(A8a hk3).1 hself.1
  rw [mp0 (by omega),mp0 (by omega),mpw (by omega),hs0]
  show opN t.k _ _ _ < 2
  have key:∀ c:Prop,[Decidable c]→(if c then 1 else 0) < 2:=fun c _=>by split<;>omega
  rcases (by omega:t.k=16 ∨ t.k=17 ∨ t.k=18) with e | e | e<;>rw [e]
  ·exact key _
  ·exact key _
  ·exact key _
theorem d_V6 {P:Prop} (h:P:=by first|omega|(simp only[EVL]<;>omega)|(simp only[A0n,Nat.reduceEqDiff,↓reduceIte];done)|assumption|(simp (disch:=omega) only[A06,A0a,A04, *];done)|(simp only [TL,A0p];done)|with_unfolding_all rfl):P:=h
def rhoU (E:EnvU) (s:List UInt8):Nat:=(lkU E s).getD 0
abbrev VR (h:Heap) (nx v:Nat) (r:FV × Heap × Nat):Prop:=r.1=.int .u64 v∧Ext h r.2.1 nx r.2.2
theorem Aj3 (E:EnvU) (mid:Nat) (e:Bool) (m:Mem) (t:Te) (hl:t.l.length ≤ 3) (b0:Nat) (hmid:mid < b0) (h0:Heap) (h0m:hget h0 mid=some (.mp (E.map kvU)))
  (ih:∀ x ∈ t.l,∀ h nx,mid < nx→hget h mid=some (.mp (E.map kvU))→∃ r,lim T 44 [.agg [.int .u8 (x).k,.int .i64 (x).w,.int .u64 (x).b,.str (x).s,.int .i64 (x).lo,.lst (x).e ((x).l.map tV)],.map mid,.lst e (m.map ceV)] h nx=some r∧VR h nx (vM (rhoU E) m x) r) (Q:Post Out)
  (next:∀ (h:Heap) (nx:Nat) (cs:List FV) (x:Tm),cs.length=3→(∀ j,j < t.l.length→cs[j]? = some (.int .u64 (vM (rhoU E) m (t.l.getD j default):Nat)))→b0 + 9 ≤ nx→hget h b0=some (.row 6 [.agg [.int .u8 (t).k,.int .i64 (t).w,.int .u64 (t).b,.str (t).s,.int .i64 (t).lo,.lst (t).e ((t).l.map tV)]])→hget h (b0 + 8)=some (.row 3 [.agg cs])→(∀ j,j < b0→hget h j=hget h0 j) →
   @Ok Out (runs T [.code k44_1] ((1,.map mid)::(2,.lst e (m.map ceV))::(3,.ptr b0 1 0 0)::(7,.ptr (b0 + 8) 1 0 0)::x) h nx) Q) :
  ∀ (k i:Nat) (h:Heap) (nx:Nat) (cs:List FV),i + k=t.l.length→cs.length=3→(∀ j,j < i→cs[j]? = some (.int .u64 (vM (rhoU E) m (t.l.getD j default):Nat)))→(∀ v ∈ cs,v.one=true)→b0 + 9 ≤ nx→hget h b0=some (.row 6 [.agg [.int .u8 (t).k,.int .i64 (t).w,.int .u64 (t).b,.str (t).s,.int .i64 (t).lo,.lst (t).e ((t).l.map tV)]])→hget h (b0 + 8)=some (.row 3 [.agg cs])→(∀ j,j < b0→hget h j=hget h0 j) →
  @Ok Out (runs T [.code b44_0,.inL none b44_0,.inB 1,.code k44_1] [(1,.map mid),(2,.lst e (m.map ceV)),(3,.ptr b0 1 0 0),(7,.ptr (b0 + 8) 1 0 0),(25,.lst t.e (t.l.map tV)),(26,.int .i64 t.l.length),(27,.int .i64 i)] h nx) Q:=by
 intro k
 induction k with
 |zero =>
  intro i h nx cs hi hc hv ho hn q1 q2 q3
  have d1:decide ((i:Int) < t.l.length)=false:=by simp;omega
  simp (disch:=first | exact d_V6 | fail) only [unf b44_0.eq_1,c44,d1,EVS,Nat.reduceAdd,Nat.reduceSub,Int.reduceToNat,Nat.reduceMul,Nat.reduceEqDiff,Nat.reduceLeDiff,Int.reduceEq,Int.reduceLT,Int.reduceLE,↓reduceIte]
  exact next _ _ cs _ hc (fun j hj=>hv j (by omega)) (by omega) q1 q2 q3
 |succ k ihk =>
  intro i h nx cs hi hc hv ho hn q1 q2 q3
  have d1:decide ((i:Int) < t.l.length)=true:=by simp;omega
  have hil:i < t.l.length:=by omega
  simp (disch:=first | exact d_V6 | fail) only [unf b44_0.eq_1,c44,d1,TL,Nat.add_assoc,EVS,Nat.reduceAdd,Nat.reduceSub,Int.reduceToNat,Nat.reduceMul,Nat.reduceEqDiff,Nat.reduceLeDiff,Int.reduceEq,Int.reduceLT,Int.reduceLE,↓reduceIte]
  refine A09 (ih _ (A0r (d:=default) hil) _ _ (by omega) ?_) fun r hr=>?_
  ·simp (disch:=omega) only [A06];rw [q3 mid hmid];exact h0m
  obtain ⟨v,h',nx'⟩:=r
  obtain ⟨rfl,e1,e2⟩:=hr
  dsimp only at e1 e2
  refine ⟨rfl,?_⟩
  have f1:=(e2 (b0 + 8) (by omega)).trans ((by simp (disch:=omega) only [A06]:_=hget h (b0 + 8)).trans q2)
  have f0:=(e2 b0 (by omega)).trans ((by simp (disch:=omega) only [A06]:_=hget h b0).trans q1)
  have hi3:i < cs.length:=by omega
  have ei:(i:Int) + 1=((i + 1:Nat):Int):=by omega
  have hsp:List.take (i * 1) cs ++ [FV.int .u64 (vM (rhoU E) m (t.l.getD i default):Nat)] ++ List.drop (i * 1 + 1) cs=cs.set i (.int .u64 (vM (rhoU E) m (t.l.getD i default):Nat)):=by
   rw [Nat.mul_one,List.set_eq_take_append_cons_drop,if_pos hi3];simp
  simp (disch:=first | exact d_V6 | fail) only [c44,TL,f1,hc,hsp,ei,EVS,Nat.reduceAdd,Nat.reduceSub,Int.reduceToNat,Nat.reduceMul,Nat.reduceEqDiff,Nat.reduceLeDiff,Int.reduceEq,Int.reduceLT,Int.reduceLE,↓reduceIte]
  refine A0c (ihk (i + 1) _ _ (cs.set i (.int .u64 (vM (rhoU E) m (t.l.getD i default):Nat))) (by omega) (by rw [List.length_set];exact hc) (fun j hj=>?_) (fun v hv'=>?_) (by omega) ?_ (A0z f1) (fun j hj=>?_))
  ·by_cases hji:j=i
   ·subst hji;rw [List.getElem?_set_self hi3]
   ·rw [List.getElem?_set_ne (by omega)];exact hv j (by omega)
  ·rcases (List.mem_or_eq_of_mem_set hv').symm with rfl | h
   ·rfl
   ·exact ho v h
  ·rw [A04 (by omega)];exact f0
  ·rw [A04 (by omega),e2 j (by omega)]
   exact (by simp (disch:=omega) only [A06]:_=hget h j).trans (q3 j hj)
theorem Ahu (E:EnvU) (mid:Nat) (e:Bool) (m:Mem) (hm:okM m) (hms:memS m) (t:Te) (hn:A1a t) (ht:TOk t) (hρ:A7s (rhoU E) t):∀ h nx,mid < nx→hget h mid=some (.mp (E.map kvU)) →
  ∃ r,lim T 44 [.agg [.int .u8 (t).k,.int .i64 (t).w,.int .u64 (t).b,.str (t).s,.int .i64 (t).lo,.lst (t).e ((t).l.map tV)],.map mid,.lst e (m.map ceV)] h nx=some r∧VR h nx (vM (rhoU E) m t) r:=by
 induction t using Tm'.ind with
 |h t ih =>
 intro h nx hmid hget0
 have hself:=(A2o t).1 hn
 have hb:=ht.self.2.2.1
 have hval:=A79 (rhoU E) (ldN m) t
 have hk24:1 ≤ t.k∧t.k ≤ 24:=by
  rcases Int.lt_or_le t.k 1 with h | h
  ·exact absurd hself.1 (A3u (.inl h))
  ·rcases Int.lt_or_le 24 t.k with h' | h'
   ·exact absurd hself.1 (A3u (.inr h'))
   ·exact ⟨h,h'⟩
 refine A25 tg44 rfl rfl ?_
 by_cases k1:t.k=1
 ·have hv:vM (rhoU E) m t=t.b.toNat:=by unfold vM;rw [hval,vop,if_pos k1]
  rw [hv]
  simp (disch:=first | exact d_V6 | fail) only [c44,k1,TL,EVS,Nat.reduceAdd,Nat.reduceSub,Int.reduceToNat,Nat.reduceMul,Nat.reduceEqDiff,Nat.reduceLeDiff,Int.reduceEq,Int.reduceLT,Int.reduceLE,↓reduceIte]
  exact ⟨by show FV.int .u64 t.b=.int .u64 ((t.b.toNat:Nat):Int);rw [Int.toNat_of_nonneg hb.1],by dsimp only;omega,fun i hi=>A06 (by omega)⟩
 by_cases k2:t.k=2
 ·have hv:vM (rhoU E) m t=rhoU E t.s:=by unfold vM;rw [hval,vop,if_neg k1,if_pos k2]
  rw [hv]
  have hf:=Avg t.s E
  unfold rhoU
  cases hlk:lkU E t.s with
  |none =>
   rw [hlk] at hf
   simp only [Option.map_none] at hf
   simp (disch:=first | exact d_V6 | fail) only [c44,k2,TL,hget0,hf,EVS,Nat.reduceAdd,Nat.reduceSub,Int.reduceToNat,Nat.reduceMul,Nat.reduceEqDiff,Nat.reduceLeDiff,Int.reduceEq,Int.reduceLT,Int.reduceLE,↓reduceIte]
   exact ⟨rfl,by dsimp only;omega,fun i hi=>A06 (by omega)⟩
  |some w =>
   rw [hlk] at hf
   simp only [Option.map_some] at hf
   simp (disch:=first | exact d_V6 | fail) only [c44,k2,TL,hget0,hf,EVS,Nat.reduceAdd,Nat.reduceSub,Int.reduceToNat,Nat.reduceMul,Nat.reduceEqDiff,Nat.reduceLeDiff,Int.reduceEq,Int.reduceLT,Int.reduceLE,↓reduceIte]
   exact ⟨rfl,by dsimp only;omega,fun i hi=>A06 (by omega)⟩
 have hp:t.l.length ≤ 3:=by
  have h2:=hself.1.2
  rw [if_pos (by omega)] at h2
  have:=h2.2.2.2.1
  unfold A0y at this
  (repeat' split at this)<;>omega
 have d1:decide (t.k=1)=false:=decide_eq_false k1
 have d2:decide (t.k=2)=false:=decide_eq_false k2
 have ih':∀ x ∈ t.l,∀ h nx,mid < nx→hget h mid=some (.mp (E.map kvU))→∃ r,lim T 44 [.agg [.int .u8 (x).k,.int .i64 (x).w,.int .u64 (x).b,.str (x).s,.int .i64 (x).lo,.lst (x).e ((x).l.map tV)],.map mid,.lst e (m.map ceV)] h nx=some r∧VR h nx (vM (rhoU E) m x) r:=fun x hx=>ih x hx (hself.2 x hx) (ht.sub hx) (fun y hy=>hρ y (A3h hx hy))
 simp (disch:=first | exact d_V6 | fail) only [c44,d1,d2,TL,Nat.add_assoc,EVS,Nat.reduceAdd,Nat.reduceSub,Int.reduceToNat,Nat.reduceMul,Nat.reduceEqDiff,Nat.reduceLeDiff,Int.reduceEq,Int.reduceLT,Int.reduceLE,↓reduceIte]
 refine Aj3 E mid e m t hp nx hmid h hget0 ih' _ (fun h' nx' cs x hc hv hnx q1 q2 q3=>?_) t.l.length 0 _ _ [.int .u64 0,.int .u64 0,.int .u64 0] (by omega) rfl (fun j hj=>by omega) (by simp [FV.one]) (by omega) ?_ ?_ (fun j hj=>by simp (disch:=omega) only [A06])
 ·have hsub:∀ i,i < t.l.length→vM (rhoU E) m (t.l.getD i default) < 2 ^ (t.l.getD i default).w.toNat∧1 ≤ (t.l.getD i default).w∧(t.l.getD i default).w ≤ 64:=fun i hi=>by
   have hmem:=A0r (d:=(default:Te)) hi
   exact ⟨Aqr hm _ (hself.2 _ hmem) (ht.sub hmem) (fun x hx=>hρ x (A3h hmem hx)),(hself.2 _ hmem _ (A3p _)).1⟩
  have hw:=(hself.1).1
  have fin:∀ nx'',nx' ≤ nx''→Ext h h' nx nx'':=fun nx'' h2=>⟨by omega,fun i hi=>q3 i hi⟩
  have hvm:vM (rhoU E) m t=vop (ldN m) t.k t.w t.b t.lo (rhoU E t.s) (t.l.map Tm'.w) (t.l.map (vM (rhoU E) m)):=hval
  have fin2:∀ (X:Nat) (nx'':Nat),vM (rhoU E) m t=X→nx' ≤ nx''→VR h nx (vM (rhoU E) m t) (.int .u64 X,h',nx''):=fun X nx'' e1 h2=>⟨by rw [e1],fin nx'' h2⟩
  have z0:∀ i,i < t.l.length→(((t.l.getD i default).w.toNat:Nat):Int)=(t.l.getD i default).w:=fun i hi=>Int.toNat_of_nonneg (by have:=hsub i hi;omega)
  have zw:((t.w.toNat:Nat):Int)=t.w:=Int.toNat_of_nonneg (by unfold A1p at hw;omega)
  by_cases k3:t.k=3 ∨ t.k=4
  ·obtain ⟨_,_,_,_,hl,hs⟩:=(A80 k3).1 hself.1
   have w0:=hsub 0 (by omega)
   have c0:A0l cs none 0=_:=hv 0 (by omega)
   have hu:=Ahw t.k (t.l.getD 0 default).w.toNat _ k3 (by omega) (by omega) w0.1
   rw [z0 0 (by omega)] at hu
   have hx:=hvm
   rw [vop,if_neg k1,if_neg k2,if_pos k3,mp0 (by omega),mpw (by omega)] at hx
   rcases k3 with k3 | k3
   ·rw [k3] at hu hx
    simp (disch:=first | exact d_V6 | fail) only [unf k44_1.eq_1,c44,TL,k3,q1,q2,c0,hu,EVS,Nat.reduceAdd,Nat.reduceSub,Int.reduceToNat,Nat.reduceMul,Nat.reduceEqDiff,Nat.reduceLeDiff,Int.reduceEq,Int.reduceLT,Int.reduceLE,↓reduceIte]
    refine fin2 _ _ hx ?_
    first | omega | (dsimp only;omega)
   ·rw [k3] at hu hx
    simp (disch:=first | exact d_V6 | fail) only [unf k44_1.eq_1,c44,TL,k3,q1,q2,c0,hu,EVS,Nat.reduceAdd,Nat.reduceSub,Int.reduceToNat,Nat.reduceMul,Nat.reduceEqDiff,Nat.reduceLeDiff,Int.reduceEq,Int.reduceLT,Int.reduceLE,↓reduceIte]
    refine fin2 _ _ hx ?_
    first | omega | (dsimp only;omega)
  by_cases k19:t.k=19
  ·obtain ⟨_,_,_,_,hl,hs,_,_⟩:=(A8b k19).1 hself.1
   have w0:=hsub 0 (by omega)
   have c0:A0l cs none 0=_:=hv 0 (by omega)
   have c1:A0l cs none 1=_:=hv 1 (by omega)
   have c2:A0l cs none 2=_:=hv 2 (by omega)
   have hx:=hvm
   rw [vop,if_neg k1,if_neg k2,if_neg k3,if_pos k19,mp0 (by omega),mp0 (by omega),mp0 (by omega)] at hx
   have ta:((2:Int) - ((0:Nat):Int)).toNat * 1=2:=rfl
   have tb:((2:Int) - ((1:Nat):Int)).toNat * 1=1:=rfl
   unfold subW at hs
   rw [hs] at w0
   have h01:vM (rhoU E) m (t.l.getD 0 default) < 2:=w0.1
   rcases (by omega:vM (rhoU E) m (t.l.getD 0 default)=0 ∨ vM (rhoU E) m (t.l.getD 0 default)=1) with e0 | e0
   ·rw [e0] at c0 hx
    rw [if_neg (by omega)] at hx
    simp (disch:=first | exact d_V6 | fail) only [unf k44_1.eq_1,c44,TL,k19,q1,q2,c0,c2,ta,EVS,Nat.reduceAdd,Nat.reduceSub,Int.reduceToNat,Nat.reduceMul,Nat.reduceEqDiff,Nat.reduceLeDiff,Int.reduceEq,Int.reduceLT,Int.reduceLE,↓reduceIte]
    refine fin2 _ _ hx ?_
    first | omega | (dsimp only;omega)
   ·rw [e0] at c0 hx
    rw [if_pos rfl] at hx
    simp (disch:=first | exact d_V6 | fail) only [unf k44_1.eq_1,c44,TL,k19,q1,q2,c0,c1,tb,EVS,Nat.reduceAdd,Nat.reduceSub,Int.reduceToNat,Nat.reduceMul,Nat.reduceEqDiff,Nat.reduceLeDiff,Int.reduceEq,Int.reduceLT,Int.reduceLE,↓reduceIte]
    refine fin2 _ _ hx ?_
    first | omega | (dsimp only;omega)
  by_cases k20:t.k=20
  ·obtain ⟨_,_,_,_,hl,hw0,hw1,hs⟩:=(A82 k20).1 hself.1
   have w0:=hsub 0 (by omega)
   have w1:=hsub 1 (by omega)
   have c0:A0l cs none 0=_:=hv 0 (by omega)
   have c1:A0l cs none 1=_:=hv 1 (by omega)
   unfold A1p at hw
   unfold subW at hs
   have hu:=Ag2 (t.l.getD 0 default).w.toNat _ (t.l.getD 1 default).w.toNat _ (by omega) (by omega) (by omega) w0.1 w1.1
   rw [z0 0 (by omega),z0 1 (by omega)] at hu
   have hx:=hvm
   rw [vop,if_neg k1,if_neg k2,if_neg k3,if_neg k19,if_pos k20,mp0 (by omega),mp0 (by omega),mpw (by omega)] at hx
   simp (disch:=first | exact d_V6 | fail) only [unf k44_1.eq_1,c44,TL,k20,q1,q2,c0,c1,hu,EVS,Nat.reduceAdd,Nat.reduceSub,Int.reduceToNat,Nat.reduceMul,Nat.reduceEqDiff,Nat.reduceLeDiff,Int.reduceEq,Int.reduceLT,Int.reduceLE,↓reduceIte]
   refine fin2 _ _ hx ?_
   first | omega | (dsimp only;omega)
  by_cases k21:t.k=21
  ·obtain ⟨_,_,_,_,hl,hlo,hw0,_,hs⟩:=(Abl k21).1 hself.1
   have w0:=hsub 0 (by omega)
   have c0:A0l cs none 0=_:=hv 0 (by omega)
   unfold A1p at hw
   unfold subW at hs
   have zl:((t.lo.toNat:Nat):Int)=t.lo:=Int.toNat_of_nonneg hlo
   have hu:=Ads (t.l.getD 0 default).w.toNat _ t.lo.toNat t.w.toNat (by omega) (by omega) w0.1 (by omega) (by omega)
   rw [z0 0 (by omega),zl,zw] at hu
   have hx:=hvm
   rw [vop,if_neg k1,if_neg k2,if_neg k3,if_neg k19,if_neg k20,if_pos k21,mp0 (by omega)] at hx
   simp (disch:=first | exact d_V6 | fail) only [unf k44_1.eq_1,c44,TL,k21,q1,q2,c0,hu,EVS,Nat.reduceAdd,Nat.reduceSub,Int.reduceToNat,Nat.reduceMul,Nat.reduceEqDiff,Nat.reduceLeDiff,Int.reduceEq,Int.reduceLT,Int.reduceLE,↓reduceIte]
   refine fin2 _ _ hx ?_
   first | omega | (dsimp only;omega)
  by_cases k22:t.k=22 ∨ t.k=23
  ·obtain ⟨_,_,_,_,hl,hs⟩:=(A84 k22).1 hself.1
   have w0:=hsub 0 (by omega)
   have c0:A0l cs none 0=_:=hv 0 (by omega)
   unfold A1p at hw
   unfold subW at hs
   have hu:=Aeq (decide (t.k=23)) (t.l.getD 0 default).w.toNat _ t.w.toNat (by omega) (by omega) (by omega) w0.1
   rw [z0 0 (by omega),zw] at hu
   have hx:=hvm
   rw [vop,if_neg k1,if_neg k2,if_neg k3,if_neg k19,if_neg k20,if_neg k21,if_pos k22,mp0 (by omega),mpw (by omega)] at hx
   rcases k22 with k22 | k22
   ·rw [k22] at hu hx
    rw [show decide ((22:Int)=23)=false from rfl] at hu hx
    simp (disch:=first | exact d_V6 | fail) only [unf k44_1.eq_1,c44,TL,k22,q1,q2,c0,hu,EVS,Nat.reduceAdd,Nat.reduceSub,Int.reduceToNat,Nat.reduceMul,Nat.reduceEqDiff,Nat.reduceLeDiff,Int.reduceEq,Int.reduceLT,Int.reduceLE,↓reduceIte]
    refine fin2 _ _ hx ?_
    first | omega | (dsimp only;omega)
   ·rw [k22] at hu hx
    rw [show decide ((23:Int)=23)=true from rfl] at hu hx
    simp (disch:=first | exact d_V6 | fail) only [unf k44_1.eq_1,c44,TL,k22,q1,q2,c0,hu,EVS,Nat.reduceAdd,Nat.reduceSub,Int.reduceToNat,Nat.reduceMul,Nat.reduceEqDiff,Nat.reduceLeDiff,Int.reduceEq,Int.reduceLT,Int.reduceLE,↓reduceIte]
    refine fin2 _ _ hx ?_
    first | omega | (dsimp only;omega)
  by_cases k24:t.k=24
  ·obtain ⟨_,_,_,_,hl,hs⟩:=(A8c k24).1 hself.1
   have w0:=hsub 0 (by omega)
   have c0:A0l cs none 0=_:=hv 0 (by omega)
   unfold A1p at hw
   have h64:2 ^ (t.l.getD 0 default).w.toNat ≤ 2 ^ 64:=Nat.pow_le_pow_right (by decide) (by omega)
   have e64:(2:Nat) ^ 64=18446744073709551616:=rfl
   have hu:=A9g e m (t.l.getD 0 default).w (vM (rhoU E) m (t.l.getD 0 default):Nat) t.w.toNat hms hm (by omega) (by omega) (by omega) (by omega) (by omega)
   rw [zw] at hu
   have hx:=hvm
   rw [vop,if_neg k1,if_neg k2,if_neg k3,if_neg k19,if_neg k20,if_neg k21,if_neg k22,if_pos k24,mp0 (by omega),mpw (by omega),ldN,z0 0 (by omega)] at hx
   simp (disch:=first | exact d_V6 | fail) only [unf k44_1.eq_1,c44,TL,k24,q1,q2,c0,hu,EVS,Nat.reduceAdd,Nat.reduceSub,Int.reduceToNat,Nat.reduceMul,Nat.reduceEqDiff,Nat.reduceLeDiff,Int.reduceEq,Int.reduceLT,Int.reduceLE,↓reduceIte]
   refine fin2 _ _ hx ?_
   first | omega | (dsimp only;omega)
  have e3:decide (t.k=3)=false:=decide_eq_false (fun e=>k3 (.inl e))
  have e4:decide (t.k=4)=false:=decide_eq_false (fun e=>k3 (.inr e))
  have e19:decide (t.k=19)=false:=decide_eq_false k19
  have e20:decide (t.k=20)=false:=decide_eq_false k20
  have e21:decide (t.k=21)=false:=decide_eq_false k21
  have e22:decide (t.k=22)=false:=decide_eq_false (fun e=>k22 (.inl e))
  have e23:decide (t.k=23)=false:=decide_eq_false (fun e=>k22 (.inr e))
  have e24:decide (t.k=24)=false:=decide_eq_false k24
  have hl2:t.l.length=2∧(t.l.getD 1 default).w=(t.l.getD 0 default).w:=by
   by_cases k5:t.k ≤ 15
   ·obtain ⟨_,_,_,_,hl,hs0,hs1⟩:=(Aaq ⟨by omega,k5⟩).1 hself.1
    unfold subW at hs0 hs1
    exact ⟨hl,hs1.trans hs0.symm⟩
   ·obtain ⟨_,_,_,_,hl,_,hs1⟩:=(A8a (t:=t) (by omega)).1 hself.1
    unfold subW at hs1
    exact ⟨hl,hs1⟩
  have w0:=hsub 0 (by omega)
  have w1:=hsub 1 (by omega)
  have c0:A0l cs none 0=_:=hv 0 (by omega)
  have c1:A0l cs none 1=_:=hv 1 (by omega)
  rw [hl2.2] at w1
  have hu:=Aew t.k (t.l.getD 0 default).w.toNat _ _ (by omega) (by omega) (by omega) (by omega) w0.1 w1.1
  rw [z0 0 (by omega)] at hu
  have hx:=hvm
  rw [vop,if_neg k1,if_neg k2,if_neg k3,if_neg k19,if_neg k20,if_neg k21,if_neg k22,if_neg k24,mp0 (by omega),mp0 (by omega),mpw (by omega)] at hx
  simp (disch:=first | exact d_V6 | fail) only [unf k44_1.eq_1,c44,TL,e3,e4,e19,e20,e21,e22,e23,e24,q1,q2,c0,c1,hu,EVS,Nat.reduceAdd,Nat.reduceSub,Int.reduceToNat,Nat.reduceMul,Nat.reduceEqDiff,Nat.reduceLeDiff,Int.reduceEq,Int.reduceLT,Int.reduceLE,↓reduceIte]
  refine fin2 _ _ hx ?_
  first | omega | (dsimp only;omega)
 ·simp (disch:=omega) only [A06,A0a]
 ·simp (disch:=omega) only [A06,A0a]
theorem d_G3 {P:Prop} (h:P:=by first|omega|(simp only[EVL]<;>omega)|(simp only[A0n,Nat.reduceEqDiff,↓reduceIte];done)|assumption|(simp (disch:=omega) only[A06,A0a,A04, *];done)|(simp only [TL,A0p,EnL];done)|with_unfolding_all rfl):P:=h
abbrev PgB (env:Env) (r:FV):Prop:=∃ b,r=.bool b∧(b=false→env.length ≤ 1100)
theorem Aev {e} (env:Env) (hl:env.length ≤ 1100):∀ (k i:Nat),i + k=env.length →
  @Ok Out (runs T [.code b10_0,.inL (some 10) b10_0,.inB 0,.code k10_1] [(0,.lst e (env.map bdV)),(5,.int .i64 i)] [] 10) ⟨fun x=>@Ok FV (resV c10.res x) ⟨PgB env⟩⟩:=by
 intro k
 induction k with
 |zero =>
  intro i hi
  have:¬ (i:Int) < env.length:=by omega
  simp (disch:=first | exact d_G3 | fail) only [unf b10_0.eq_1,unf k10_1.eq_1,c10,this,EnL,EVS,Nat.reduceAdd,Nat.reduceSub,Int.reduceToNat,Nat.reduceMul,Nat.reduceEqDiff,Nat.reduceLeDiff,Int.reduceEq,Int.reduceLT,Int.reduceLE,↓reduceIte]
  exact ⟨_,rfl,fun _=>hl⟩
 |succ k ih =>
  intro i hi
  have:(i:Int) < env.length:=by omega
  simp (disch:=first | exact d_G3 | fail) only [unf b10_0.eq_1,c10,this,EnL,EVS,Nat.reduceAdd,Nat.reduceSub,Int.reduceToNat,Nat.reduceMul,Nat.reduceEqDiff,Nat.reduceLeDiff,Int.reduceEq,Int.reduceLT,Int.reduceLE,↓reduceIte]
  repeat' (refine A1g (fun hb=>?_) (fun hb=>?_)<;>have h:=hb<;>(try simp only [decide_eq_true_eq,decide_eq_false_iff_not,Int.not_lt,Int.not_le] at h)<;>(simp (disch:=first | exact d_G3 | fail) only [hb,c10,EnL,EVS,Nat.reduceAdd,Nat.reduceSub,Int.reduceToNat,Nat.reduceMul,Nat.reduceEqDiff,Nat.reduceLeDiff,Int.reduceEq,Int.reduceLT,Int.reduceLE,↓reduceIte])<;>(try clear hb))
  ·exact ⟨_,rfl,fun e=>by cases e⟩
  ·exact A0s (by decide) (by simp [A19,low,EnL]) (by simp [cutH,A0b]) (ih (i + 1) (by omega))
theorem Ag6 {e d} (env:Env) (xs:List FV) (hp:pures xs=true) (h0:xs.length ≤ 9223372036854775807):∃ r,(∃ b,r=.bool b∧(b=false→env.length ≤ 1100∧xs.length ≤ 4200))∧∀ h nx,lim T 10 [.lst e (env.map bdV),.lst d xs] h nx=some (r,h,nx):=by
 refine A4l tg10 rfl rfl (by simp [pures,A0i,pu_e,hp]) ?_
 simp (disch:=first | exact d_G3 | fail) only [c10,EnL,EVS,Nat.reduceAdd,Nat.reduceSub,Int.reduceToNat,Nat.reduceMul,Nat.reduceEqDiff,Nat.reduceLeDiff,Int.reduceEq,Int.reduceLT,Int.reduceLE,↓reduceIte]
 repeat' (refine A1g (fun hb=>?_) (fun hb=>?_)<;>have h:=hb<;>(try simp only [decide_eq_true_eq,decide_eq_false_iff_not,Int.not_lt,Int.not_le] at h)<;>(simp (disch:=first | exact d_G3 | fail) only [hb,c10,EVS,Nat.reduceAdd,Nat.reduceSub,Int.reduceToNat,Nat.reduceMul,Nat.reduceEqDiff,Nat.reduceLeDiff,Int.reduceEq,Int.reduceLT,Int.reduceLE,↓reduceIte])<;>(try clear hb))
 ·exact ⟨_,rfl,fun e=>by cases e⟩
 ·exact ⟨_,rfl,fun e=>by cases e⟩
 ·refine A7a (Aev env (by omega) env.length 0 (by omega)) fun x v hv=>?_
  obtain ⟨b,rfl,hb⟩:=hv
  exact ⟨b,rfl,fun hf=>⟨hb hf,by omega⟩⟩
theorem d_RB {P:Prop} (h:P:=by first|omega|(simp only[EVL]<;>omega)|(simp only[A0n,Nat.reduceEqDiff,↓reduceIte];done)|assumption|(simp (disch:=omega) only[A06,A0a,A04, *];done)|(simp only [EnL];done)|with_unfolding_all rfl):P:=h
theorem Ajh (e:Bool) (env:Env) (s:List UInt8) (hl:env.length ≤ 1100):∀ (k i:Nat),i + k=env.length→(∀ j,j < i→¬ nm env j=s) →
  @Ok Out (runs T [.code b46_0,.inL (some 3) b46_0,.inB 0,.code k46_1] [(0,.lst e (env.map bdV)),(1,.str s),(4,.ptr 0 1 0 0),(6,.int .i64 i)] [(0,.row 3 [.agg [.str [],.int .i64 0,.int .u64 0]])] 3) ⟨fun x=>resV c46.res x=some (match A37 env s with
   |some q=>.tup [bdV q,.bool true]
   |none=>.tup [.agg [.str [],.int .i64 0,.int .u64 0],.bool false])⟩:=by
 intro k
 induction k with
 |zero =>
  intro i hi hj
  have d1:decide ((i:Int) < env.length)=false:=by simp;omega
  have hb:A37 env s=none:=Akf env s fun k hk=>hj k (by omega)
  rw [hb]
  simp (disch:=first | exact d_RB | fail) only [unf b46_0.eq_1,unf k46_1.eq_1,c46,d1,EnL,EVS,Nat.reduceAdd,Nat.reduceSub,Int.reduceToNat,Nat.reduceMul,Nat.reduceEqDiff,Nat.reduceLeDiff,Int.reduceEq,Int.reduceLT,Int.reduceLE,↓reduceIte]
 |succ k ih =>
  intro i hi hj
  have hil:i < env.length:=by omega
  have d1:decide ((i:Int) < env.length)=true:=by simp;omega
  by_cases hn:(env.getD i ([],0,0)).1=s
  ·have hb:=Am1 env s i hil hj hn
   have hn':((env.getD i ([],0,0)).1 == s)=true:=by simpa using hn
   rw [hb]
   simp (disch:=first | exact d_RB | fail) only [unf b46_0.eq_1,c46,d1,EnL,hn',EVS,Nat.reduceAdd,Nat.reduceSub,Int.reduceToNat,Nat.reduceMul,Nat.reduceEqDiff,Nat.reduceLeDiff,Int.reduceEq,Int.reduceLT,Int.reduceLE,↓reduceIte]
   rfl
  ·have hn':((env.getD i ([],0,0)).1 == s)=false:=by simpa using hn
   simp (disch:=first | exact d_RB | fail) only [unf b46_0.eq_1,c46,d1,EnL,hn',EVS,Nat.reduceAdd,Nat.reduceSub,Int.reduceToNat,Nat.reduceMul,Nat.reduceEqDiff,Nat.reduceLeDiff,Int.reduceEq,Int.reduceLT,Int.reduceLE,↓reduceIte]
   exact A0s (by decide) (by simp [A19,low,lows,EnL]) (by simp [cutH,A0b,A16,lows,low]) (ih (i + 1) (by omega) (fun j hjl=>by
    by_cases e:j=i
    ·subst e;exact hn
    ·exact hj j (by omega)))
theorem A8s (e:Bool) (env:Env) (s:List UInt8) (hl:env.length ≤ 1100):∀ h nx,lim T 46 [.lst e (env.map bdV),.str s] h nx=some (match A37 env s with
   |some q=>.tup [bdV q,.bool true]
   |none=>.tup [.agg [.str [],.int .i64 0,.int .u64 0],.bool false],h,nx):=by
 refine A05 tg46 rfl rfl (by simp [pures,A0i,pu_e]) ?_
 have lp:=Ajh e env s hl env.length 0 (by omega) (fun j hj=>by omega)
 simp (disch:=first | exact d_RB | fail) only [c46,EnL,EVS,Nat.reduceAdd,Nat.reduceSub,Int.reduceToNat,Nat.reduceMul,Nat.reduceEqDiff,Nat.reduceLeDiff,Int.reduceEq,Int.reduceLT,Int.reduceLE,↓reduceIte]
 exact lp
theorem Asp {P:Prop} (h:P:=by first|omega|(simp only[EVL]<;>omega)|(simp only[A0n,Nat.reduceEqDiff,↓reduceIte];done)|assumption|(simp (disch:=omega) only[A06,A0a,A04, *];done)|(simp only [A0p];done)|with_unfolding_all rfl):P:=h
open Classical in
noncomputable def A6w (m:Mem) (w at_:Int) (n:Nat):FV :=
 if memS m then if (1 ≤ w∧w ≤ 64)∧A2n n then if okS w at_ then .tup [.int .u64 (ldS m w at_ (n / 8):Nat),.int .i64 0] else .tup [.int .u64 0,.int .i64 8] else .tup [.int .u64 0,.int .i64 14] else .tup [.int .u64 0,.int .i64 8]
theorem Anh (e : Bool) (m : Mem) (w at_ : Int) (n : Nat) (hm : okM m) (h0 : m.length ≤ 9223372036854775807) (ha : 0 ≤ at_) (ha' : at_ < 18446744073709551616) : ∀ h nx, lim T 13 [.lst e (m.map ceV), .int .i64 w, .int .u64 at_, .int .i64 n] h nx = some (A6w m w at_ n, h, nx) := by
  have c1 := A2h e m h0
  refine A05 tg13 rfl rfl (by simp [pures, A0i, pu_m]) ?_
  simp (disch := first | exact Asp | fail) only [c13, A0p, c1, EVS, Nat.reduceAdd, Nat.reduceSub, Int.reduceToNat, Nat.reduceMul, Nat.reduceEqDiff, Nat.reduceLeDiff, Int.reduceEq, Int.reduceLT, Int.reduceLE, ↓reduceIte]
  repeat' (refine A1g (fun hb => ?_) (fun hb => ?_) <;> have h := hb <;> (try simp only [decide_eq_true_eq, decide_eq_false_iff_not, Int.not_lt, Int.not_le] at h) <;> (simp (disch := first | exact Asp | fail) only [hb, c13, A0p, A1j, A3a, A81, EVS, Nat.reduceAdd, Nat.reduceSub, Int.reduceToNat, Nat.reduceMul, Nat.reduceEqDiff, Nat.reduceLeDiff, Int.reduceEq, Int.reduceLT, Int.reduceLE, ↓reduceIte]) <;> (try clear hb))
  all_goals first
    | (have hmS : memS m := by
        unfold chkM at *
        by_cases hh : memS m
        · exact hh
        · simp_all)
    | (have hmS : ¬ memS m := by
        intro hh
        unfold chkM at *
        simp_all)
  · rename_i hq1 hq2 hq3 
    have h64 : n ≤ 64 := by unfold A2n at hq3; omega
    have c2 := A9g e m w at_ n hmS hm hq2.1 hq2.2 ha ha' h64
    simp (disch := first | exact Asp | fail) only [c13, A0p, c2, EVS, Nat.reduceAdd, Nat.reduceSub, Int.reduceToNat, Nat.reduceMul, Nat.reduceEqDiff, Nat.reduceLeDiff, Int.reduceEq, Int.reduceLT, Int.reduceLE, ↓reduceIte]
    simp [A6w, hmS, hq2, hq3, h]
  · simp_all [A6w]
  · simp_all [A6w]
  · simp only [A6w, if_pos hmS]
    rw [if_neg (by intro hq; exact h hq.1)]
  · simp_all [A6w, chkM]
theorem d_Q5 {P:Prop} (h:P:=by first|omega|(simp only[EVL]<;>omega)|(simp only[A0n,Nat.reduceEqDiff,↓reduceIte];done)|assumption|(simp (disch:=omega) only[A06,A0a,A04, *];done)|(simp only [A38];done)|with_unfolding_all rfl):P:=h
theorem Aom (q:Nat) (x:Int) (h:Heap) (nx:Nat) (hs:hget h q=some (.row 1 [.int .u64 x])) :
  ∃ r,lim T 159 [.ptr q 1 0 0] h nx=some r∧(∃ y:Int,r.1=.int .u64 y∧hget r.2.1 q=some (.row 1 [.int .u64 y]))∧(∀ i,i ≠ q→hget r.2.1 i=hget h i)∧nx ≤ r.2.2:=by
 refine A25 Azc rfl rfl ?_
 simp (disch:=first | exact d_Q5 | fail) only [c159,hs,SR,EVS,Nat.reduceAdd,Nat.reduceSub,Int.reduceToNat,Nat.reduceMul,Nat.reduceEqDiff,Nat.reduceLeDiff,Int.reduceEq,Int.reduceLT,Int.reduceLE,↓reduceIte]
 exact ⟨⟨_,rfl,rfl⟩,fun i hi=>A04 (Ne.symm hi),by omega⟩
end Go.Proofs.YtkobnfjeehnhlaaGreatDoor.Fi
