/- Parts of the proof, one behind the other. -/
import Derived.Test.YtkobnfjeehnhlaaGreatDoorVV6
import Derived.KernelRfl
import Derived.Test.YtkobnfjeehnhlaaGreatDoorVV4
set_option linter.all false
namespace Go.Proofs.YtkobnfjeehnhlaaGreatDoor.Fi
open Go.FI
theorem d_Q6 {P:Prop} (h:P:=by first|omega|(simp only[EVL]<;>omega)|(simp only[A0n,Nat.reduceEqDiff,↓reduceIte];done)|assumption|(simp (disch:=omega) only[A06,A0a,A04, *];done)|(simp only [A38];done)|with_unfolding_all rfl):P:=h
theorem up0 (id n a:Nat) (d:Array Bd) (h:Heap) (ha:a < n) (hN:n ≤ 1000000) (hn:d.size=n) (hr:hget h id=some (rowB d)) (rest:List I) (Q:Post Out):∀ (k i j:Nat) (nx:Nat) (x:Tm),j < n→j + 1 - i ≤ k→i ≤ n + 1 →
  (∀ nx':Nat,nx ≤ nx'→@Ok Out (runs T (.code k143_9::rest) [(0,.sref 3 id n 0 n),(1,.int .i64 a),(4,.fn 67 []),(12,.int .i64 (Go.Sort.scanUp (fun x=>ltB x d[a]!) d j i:Nat)),(13,.int .i64 j),(47,.bool false)] h nx') Q) →
  @Ok Out (runs T (.code b143_0::.inL none b143_0::.inB 0::.code k143_9::rest) ((0,.sref 3 id n 0 n)::(1,.int .i64 a)::(4,.fn 67 [])::(12,.int .i64 i)::(13,.int .i64 j)::x) h nx) Q:=by
 have hr':=hr
 rw [A1u] at hr'
 intro k
 induction k with
 |zero =>
  intro i j nx x hj hk hi next
  have h1:decide (i ≤ j)=false:=by simp;omega
  rw [A52 (by omega)] at next
  simp (disch:=first | exact d_Q6 | fail) only [unf b143_0.eq_1,c143,nle,h1,EVS,Nat.reduceAdd,Nat.reduceSub,Int.reduceToNat,Nat.reduceMul,Nat.reduceEqDiff,Nat.reduceLeDiff,Int.reduceEq,Int.reduceLT,Int.reduceLE,↓reduceIte]
  exact next _ (by omega)
 |succ k ih =>
  intro i j nx x hj hk hi next
  by_cases hc:i ≤ j
  ·have h1:decide (i ≤ j)=true:=by simp;omega
   cases hb:ltB d[i]! d[a]! with
   |true =>
    rw [Abk hc (by simp [hb])] at next
    simp (disch:=first | exact d_Q6 | fail) only [unf b143_0.eq_1,c143,nle,na1,h1,A0h,hr',SR,A1d,hb,EVS,Nat.reduceAdd,Nat.reduceSub,Int.reduceToNat,Nat.reduceMul,Nat.reduceEqDiff,Nat.reduceLeDiff,Int.reduceEq,Int.reduceLT,Int.reduceLE,↓reduceIte]
    exact A0c (ih (i + 1) j _ _ hj (by omega) (by omega) fun nx' h2=>next nx' (by omega))
   |false =>
    rw [Abe (by simp [hb])] at next
    simp (disch:=first | exact d_Q6 | fail) only [unf b143_0.eq_1,c143,nle,h1,A0h,hr',SR,A1d,hb,EVS,Nat.reduceAdd,Nat.reduceSub,Int.reduceToNat,Nat.reduceMul,Nat.reduceEqDiff,Nat.reduceLeDiff,Int.reduceEq,Int.reduceLT,Int.reduceLE,↓reduceIte]
    exact next _ (by omega)
  ·have h1:decide (i ≤ j)=false:=by simp;omega
   rw [A52 hc] at next
   simp (disch:=first | exact d_Q6 | fail) only [unf b143_0.eq_1,c143,nle,h1,EVS,Nat.reduceAdd,Nat.reduceSub,Int.reduceToNat,Nat.reduceMul,Nat.reduceEqDiff,Nat.reduceLeDiff,Int.reduceEq,Int.reduceLT,Int.reduceLE,↓reduceIte]
   exact next _ (by omega)
theorem dn0 (id n a:Nat) (d:Array Bd) (h:Heap) (ha:a < n) (hN:n ≤ 1000000) (hn:d.size=n) (hr:hget h id=some (rowB d)) (rest:List I) (Q:Post Out) (i:Nat) (hi1:1 ≤ i) (hi2:i ≤ n + 1):∀ (j:Nat) (nx:Nat) (x:Tm),j < n →
  (∀ nx':Nat,nx ≤ nx'→@Ok Out (runs T (.code k143_8::rest) [(0,.sref 3 id n 0 n),(1,.int .i64 a),(4,.fn 67 []),(12,.int .i64 i),(13,.int .i64 (Go.Sort.scanDown (fun x=>!ltB x d[a]!) d i j:Nat)),(66,.bool false)] h nx') Q) →
  @Ok Out (runs T (.code b143_1::.inL none b143_1::.inB 2::.code k143_8::rest) ((0,.sref 3 id n 0 n)::(1,.int .i64 a)::(4,.fn 67 [])::(12,.int .i64 i)::(13,.int .i64 j)::x) h nx) Q:=by
 have hr':=hr
 rw [A1u] at hr'
 intro j
 induction j with
 |zero =>
  intro nx x hj next
  have h1:decide ((i:Int) ≤ ((0:Nat):Int))=false:=by simp;omega
  rw [A3f (by omega)] at next
  simp (disch:=first | exact d_Q6 | fail) only [unf b143_1.eq_1,c143,h1,EVS,Nat.reduceAdd,Nat.reduceSub,Int.reduceToNat,Nat.reduceMul,Nat.reduceEqDiff,Nat.reduceLeDiff,Int.reduceEq,Int.reduceLT,Int.reduceLE,↓reduceIte]
  exact next _ (by omega)
 |succ j ih =>
  intro nx x hj next
  have e1:((j + 1:Nat):Int) - 1=(j:Nat):=by omega
  by_cases hc:i ≤ j + 1
  ·have h1:decide ((i:Int) ≤ ((j + 1:Nat):Int))=true:=by simp;omega
   cases hb:ltB d[j + 1]! d[a]! with
   |false =>
    rw [A72 hc (by simp [hb])] at next
    simp (disch:=first | exact d_Q6 | fail) only [unf b143_1.eq_1,c143,e1,h1,A0h,hr',SR,A1d,hb,EVS,Nat.reduceAdd,Nat.reduceSub,Int.reduceToNat,Nat.reduceMul,Nat.reduceEqDiff,Nat.reduceLeDiff,Int.reduceEq,Int.reduceLT,Int.reduceLE,↓reduceIte]
    exact A0c (ih _ _ (by omega) fun nx' h2=>next nx' (by omega))
   |true =>
    rw [A7b (by simp [hb])] at next
    simp (disch:=first | exact d_Q6 | fail) only [unf b143_1.eq_1,c143,h1,A0h,hr',SR,A1d,hb,EVS,Nat.reduceAdd,Nat.reduceSub,Int.reduceToNat,Nat.reduceMul,Nat.reduceEqDiff,Nat.reduceLeDiff,Int.reduceEq,Int.reduceLT,Int.reduceLE,↓reduceIte]
    exact next _ (by omega)
  ·have h1:decide ((i:Int) ≤ ((j + 1:Nat):Int))=false:=by simp;omega
   rw [A3f hc] at next
   simp (disch:=first | exact d_Q6 | fail) only [unf b143_1.eq_1,c143,h1,EVS,Nat.reduceAdd,Nat.reduceSub,Int.reduceToNat,Nat.reduceMul,Nat.reduceEqDiff,Nat.reduceLeDiff,Int.reduceEq,Int.reduceLT,Int.reduceLE,↓reduceIte]
   exact next _ (by omega)
theorem up1 (id n a:Nat) (d:Array Bd) (h:Heap) (ha:a < n) (hN:n ≤ 1000000) (hn:d.size=n) (hr:hget h id=some (rowB d)) (rest:List I) (Q:Post Out):∀ (k i j:Nat) (nx:Nat) (x:Tm),j < n→j + 1 - i ≤ k→i ≤ n + 1 →
  (∀ nx':Nat,nx ≤ nx'→@Ok Out (runs T (.code k143_5::rest) [(0,.sref 3 id n 0 n),(1,.int .i64 a),(4,.fn 67 []),(12,.int .i64 (Go.Sort.scanUp (fun x=>ltB x d[a]!) d j i:Nat)),(13,.int .i64 j),(120,.bool false)] h nx') Q) →
  @Ok Out (runs T (.code b143_2::.inL none b143_2::.inB 6::.code k143_5::rest) ((0,.sref 3 id n 0 n)::(1,.int .i64 a)::(4,.fn 67 [])::(12,.int .i64 i)::(13,.int .i64 j)::x) h nx) Q:=by
 have hr':=hr
 rw [A1u] at hr'
 intro k
 induction k with
 |zero =>
  intro i j nx x hj hk hi next
  have h1:decide (i ≤ j)=false:=by simp;omega
  rw [A52 (by omega)] at next
  simp (disch:=first | exact d_Q6 | fail) only [unf b143_2.eq_1,c143,nle,h1,EVS,Nat.reduceAdd,Nat.reduceSub,Int.reduceToNat,Nat.reduceMul,Nat.reduceEqDiff,Nat.reduceLeDiff,Int.reduceEq,Int.reduceLT,Int.reduceLE,↓reduceIte]
  exact next _ (by omega)
 |succ k ih =>
  intro i j nx x hj hk hi next
  by_cases hc:i ≤ j
  ·have h1:decide (i ≤ j)=true:=by simp;omega
   cases hb:ltB d[i]! d[a]! with
   |true =>
    rw [Abk hc (by simp [hb])] at next
    simp (disch:=first | exact d_Q6 | fail) only [unf b143_2.eq_1,c143,nle,na1,h1,A0h,hr',SR,A1d,hb,EVS,Nat.reduceAdd,Nat.reduceSub,Int.reduceToNat,Nat.reduceMul,Nat.reduceEqDiff,Nat.reduceLeDiff,Int.reduceEq,Int.reduceLT,Int.reduceLE,↓reduceIte]
    exact A0c (ih (i + 1) j _ _ hj (by omega) (by omega) fun nx' h2=>next nx' (by omega))
   |false =>
    rw [Abe (by simp [hb])] at next
    simp (disch:=first | exact d_Q6 | fail) only [unf b143_2.eq_1,c143,nle,h1,A0h,hr',SR,A1d,hb,EVS,Nat.reduceAdd,Nat.reduceSub,Int.reduceToNat,Nat.reduceMul,Nat.reduceEqDiff,Nat.reduceLeDiff,Int.reduceEq,Int.reduceLT,Int.reduceLE,↓reduceIte]
    exact next _ (by omega)
  ·have h1:decide (i ≤ j)=false:=by simp;omega
   rw [A52 hc] at next
   simp (disch:=first | exact d_Q6 | fail) only [unf b143_2.eq_1,c143,nle,h1,EVS,Nat.reduceAdd,Nat.reduceSub,Int.reduceToNat,Nat.reduceMul,Nat.reduceEqDiff,Nat.reduceLeDiff,Int.reduceEq,Int.reduceLT,Int.reduceLE,↓reduceIte]
   exact next _ (by omega)
theorem dn1 (id n a:Nat) (d:Array Bd) (h:Heap) (ha:a < n) (hN:n ≤ 1000000) (hn:d.size=n) (hr:hget h id=some (rowB d)) (rest:List I) (Q:Post Out) (i:Nat) (hi1:1 ≤ i) (hi2:i ≤ n + 1):∀ (j:Nat) (nx:Nat) (x:Tm),j < n →
  (∀ nx':Nat,nx ≤ nx'→@Ok Out (runs T (.code k143_4::rest) [(0,.sref 3 id n 0 n),(1,.int .i64 a),(4,.fn 67 []),(12,.int .i64 i),(13,.int .i64 (Go.Sort.scanDown (fun x=>!ltB x d[a]!) d i j:Nat)),(139,.bool false)] h nx') Q) →
  @Ok Out (runs T (.code b143_3::.inL none b143_3::.inB 8::.code k143_4::rest) ((0,.sref 3 id n 0 n)::(1,.int .i64 a)::(4,.fn 67 [])::(12,.int .i64 i)::(13,.int .i64 j)::x) h nx) Q:=by
 have hr':=hr
 rw [A1u] at hr'
 intro j
 induction j with
 |zero =>
  intro nx x hj next
  have h1:decide ((i:Int) ≤ ((0:Nat):Int))=false:=by simp;omega
  rw [A3f (by omega)] at next
  simp (disch:=first | exact d_Q6 | fail) only [unf b143_3.eq_1,c143,h1,EVS,Nat.reduceAdd,Nat.reduceSub,Int.reduceToNat,Nat.reduceMul,Nat.reduceEqDiff,Nat.reduceLeDiff,Int.reduceEq,Int.reduceLT,Int.reduceLE,↓reduceIte]
  exact next _ (by omega)
 |succ j ih =>
  intro nx x hj next
  have e1:((j + 1:Nat):Int) - 1=(j:Nat):=by omega
  by_cases hc:i ≤ j + 1
  ·have h1:decide ((i:Int) ≤ ((j + 1:Nat):Int))=true:=by simp;omega
   cases hb:ltB d[j + 1]! d[a]! with
   |false =>
    rw [A72 hc (by simp [hb])] at next
    simp (disch:=first | exact d_Q6 | fail) only [unf b143_3.eq_1,c143,e1,h1,A0h,hr',SR,A1d,hb,EVS,Nat.reduceAdd,Nat.reduceSub,Int.reduceToNat,Nat.reduceMul,Nat.reduceEqDiff,Nat.reduceLeDiff,Int.reduceEq,Int.reduceLT,Int.reduceLE,↓reduceIte]
    exact A0c (ih _ _ (by omega) fun nx' h2=>next nx' (by omega))
   |true =>
    rw [A7b (by simp [hb])] at next
    simp (disch:=first | exact d_Q6 | fail) only [unf b143_3.eq_1,c143,h1,A0h,hr',SR,A1d,hb,EVS,Nat.reduceAdd,Nat.reduceSub,Int.reduceToNat,Nat.reduceMul,Nat.reduceEqDiff,Nat.reduceLeDiff,Int.reduceEq,Int.reduceLT,Int.reduceLE,↓reduceIte]
    exact next _ (by omega)
  ·have h1:decide ((i:Int) ≤ ((j + 1:Nat):Int))=false:=by simp;omega
   rw [A3f hc] at next
   simp (disch:=first | exact d_Q6 | fail) only [unf b143_3.eq_1,c143,h1,EVS,Nat.reduceAdd,Nat.reduceSub,Int.reduceToNat,Nat.reduceMul,Nat.reduceEqDiff,Nat.reduceLeDiff,Int.reduceEq,Int.reduceLT,Int.reduceLE,↓reduceIte]
   exact next _ (by omega)
theorem up2 (id n a:Nat) (d:Array Bd) (h:Heap) (ha:a < n) (hN:n ≤ 1000000) (hn:d.size=n) (hr:hget h id=some (rowB d)) (rest:List I) (Q:Post Out):∀ (k i j:Nat) (nx:Nat) (x:Tm),j < n→j + 1 - i ≤ k→i ≤ n + 1 →
  (∀ nx':Nat,nx ≤ nx'→@Ok Out (runs T (.code k142_3::rest) [(0,.sref 3 id n 0 n),(1,.int .i64 a),(4,.fn 67 []),(11,.int .i64 (Go.Sort.scanUp (fun x=>!ltB d[a]! x) d j i:Nat)),(12,.int .i64 j),(47,.bool false)] h nx') Q) →
  @Ok Out (runs T (.code b142_0::.inL none b142_0::.inB 2::.code k142_3::rest) ((0,.sref 3 id n 0 n)::(1,.int .i64 a)::(4,.fn 67 [])::(11,.int .i64 i)::(12,.int .i64 j)::x) h nx) Q:=by
 have hr':=hr
 rw [A1u] at hr'
 intro k
 induction k with
 |zero =>
  intro i j nx x hj hk hi next
  have h1:decide (i ≤ j)=false:=by simp;omega
  rw [A52 (by omega)] at next
  simp (disch:=first | exact d_Q6 | fail) only [unf b142_0.eq_1,c142,nle,h1,EVS,Nat.reduceAdd,Nat.reduceSub,Int.reduceToNat,Nat.reduceMul,Nat.reduceEqDiff,Nat.reduceLeDiff,Int.reduceEq,Int.reduceLT,Int.reduceLE,↓reduceIte]
  exact next _ (by omega)
 |succ k ih =>
  intro i j nx x hj hk hi next
  by_cases hc:i ≤ j
  ·have h1:decide (i ≤ j)=true:=by simp;omega
   cases hb:ltB d[a]! d[i]! with
   |false =>
    rw [Abk hc (by simp [hb])] at next
    simp (disch:=first | exact d_Q6 | fail) only [unf b142_0.eq_1,c142,nle,na1,h1,A0h,hr',SR,A1d,hb,EVS,Nat.reduceAdd,Nat.reduceSub,Int.reduceToNat,Nat.reduceMul,Nat.reduceEqDiff,Nat.reduceLeDiff,Int.reduceEq,Int.reduceLT,Int.reduceLE,↓reduceIte]
    exact A0c (ih (i + 1) j _ _ hj (by omega) (by omega) fun nx' h2=>next nx' (by omega))
   |true =>
    rw [Abe (by simp [hb])] at next
    simp (disch:=first | exact d_Q6 | fail) only [unf b142_0.eq_1,c142,nle,h1,A0h,hr',SR,A1d,hb,EVS,Nat.reduceAdd,Nat.reduceSub,Int.reduceToNat,Nat.reduceMul,Nat.reduceEqDiff,Nat.reduceLeDiff,Int.reduceEq,Int.reduceLT,Int.reduceLE,↓reduceIte]
    exact next _ (by omega)
  ·have h1:decide (i ≤ j)=false:=by simp;omega
   rw [A52 hc] at next
   simp (disch:=first | exact d_Q6 | fail) only [unf b142_0.eq_1,c142,nle,h1,EVS,Nat.reduceAdd,Nat.reduceSub,Int.reduceToNat,Nat.reduceMul,Nat.reduceEqDiff,Nat.reduceLeDiff,Int.reduceEq,Int.reduceLT,Int.reduceLE,↓reduceIte]
   exact next _ (by omega)
theorem dn2 (id n a:Nat) (d:Array Bd) (h:Heap) (ha:a < n) (hN:n ≤ 1000000) (hn:d.size=n) (hr:hget h id=some (rowB d)) (rest:List I) (Q:Post Out) (i:Nat) (hi1:1 ≤ i) (hi2:i ≤ n + 1):∀ (j:Nat) (nx:Nat) (x:Tm),j < n →
  (∀ nx':Nat,nx ≤ nx'→@Ok Out (runs T (.code k142_2::rest) [(0,.sref 3 id n 0 n),(1,.int .i64 a),(4,.fn 67 []),(11,.int .i64 i),(12,.int .i64 (Go.Sort.scanDown (fun x=>ltB d[a]! x) d i j:Nat)),(65,.bool false)] h nx') Q) →
  @Ok Out (runs T (.code b142_1::.inL none b142_1::.inB 4::.code k142_2::rest) ((0,.sref 3 id n 0 n)::(1,.int .i64 a)::(4,.fn 67 [])::(11,.int .i64 i)::(12,.int .i64 j)::x) h nx) Q:=by
 have hr':=hr
 rw [A1u] at hr'
 intro j
 induction j with
 |zero =>
  intro nx x hj next
  have h1:decide ((i:Int) ≤ ((0:Nat):Int))=false:=by simp;omega
  rw [A3f (by omega)] at next
  simp (disch:=first | exact d_Q6 | fail) only [unf b142_1.eq_1,c142,h1,EVS,Nat.reduceAdd,Nat.reduceSub,Int.reduceToNat,Nat.reduceMul,Nat.reduceEqDiff,Nat.reduceLeDiff,Int.reduceEq,Int.reduceLT,Int.reduceLE,↓reduceIte]
  exact next _ (by omega)
 |succ j ih =>
  intro nx x hj next
  have e1:((j + 1:Nat):Int) - 1=(j:Nat):=by omega
  by_cases hc:i ≤ j + 1
  ·have h1:decide ((i:Int) ≤ ((j + 1:Nat):Int))=true:=by simp;omega
   cases hb:ltB d[a]! d[j + 1]! with
   |true =>
    rw [A72 hc (by simp [hb])] at next
    simp (disch:=first | exact d_Q6 | fail) only [unf b142_1.eq_1,c142,e1,h1,A0h,hr',SR,A1d,hb,EVS,Nat.reduceAdd,Nat.reduceSub,Int.reduceToNat,Nat.reduceMul,Nat.reduceEqDiff,Nat.reduceLeDiff,Int.reduceEq,Int.reduceLT,Int.reduceLE,↓reduceIte]
    exact A0c (ih _ _ (by omega) fun nx' h2=>next nx' (by omega))
   |false =>
    rw [A7b (by simp [hb])] at next
    simp (disch:=first | exact d_Q6 | fail) only [unf b142_1.eq_1,c142,h1,A0h,hr',SR,A1d,hb,EVS,Nat.reduceAdd,Nat.reduceSub,Int.reduceToNat,Nat.reduceMul,Nat.reduceEqDiff,Nat.reduceLeDiff,Int.reduceEq,Int.reduceLT,Int.reduceLE,↓reduceIte]
    exact next _ (by omega)
  ·have h1:decide ((i:Int) ≤ ((j + 1:Nat):Int))=false:=by simp;omega
   rw [A3f hc] at next
   simp (disch:=first | exact d_Q6 | fail) only [unf b142_1.eq_1,c142,h1,EVS,Nat.reduceAdd,Nat.reduceSub,Int.reduceToNat,Nat.reduceMul,Nat.reduceEqDiff,Nat.reduceLeDiff,Int.reduceEq,Int.reduceLT,Int.reduceLE,↓reduceIte]
   exact next _ (by omega)
theorem d_Q7 {P:Prop} (h:P:=by first|omega|(simp only[EVL]<;>omega)|(simp only[A0n,Nat.reduceEqDiff,↓reduceIte];done)|assumption|(simp (disch:=omega) only[A06,A0a,A04, *];done)|(simp only [A38];done)|with_unfolding_all rfl):P:=h
theorem Acd {a:Nat}:∀ (k i j:Nat) (d:Array Bd),j + 1 - i ≤ k→(Go.Sort.partLoop ltB a i j d).2.size=d.size:=by
 intro k
 induction k with
 |zero =>
  intro i j d hk
  rw [Go.Sort.partLoop_eq]
  split
  ·rfl
  ·rename_i h
   have:=Go.Sort.partLoop_guard ltB a i j d h
   omega
 |succ k ih =>
  intro i j d hk
  rw [Go.Sort.partLoop_eq]
  split
  ·rfl
  ·rename_i h
   have:=Go.Sort.partLoop_guard ltB a i j d h
   rw [ih _ _ _ (by omega),A1s]
theorem Ary (id n a:Nat) (ha:a < n) (hN:n ≤ 1000000) (Q:Post Out):∀ (k i j:Nat) (d:Array Bd) (h:Heap) (nx:Nat),j + 1 - i ≤ k→1 ≤ i→i ≤ n + 1→j < n→d.size=n→hget h id=some (rowB d) →
  (∀ (h':Heap) (nx':Nat) (iv:Int),nx ≤ nx'→RowR h id (Go.Sort.partLoop ltB a i j d).2 h'→(Go.Sort.partLoop ltB a i j d).1 < n→@Ok Out (runs T [.code k143_7] [(0,.sref 3 id n 0 n),(1,.int .i64 a),(4,.fn 67 []),(12,.int .i64 iv),(13,.int .i64 (Go.Sort.partLoop ltB a i j d).1),(144,.bool true)] h' nx') Q) →
  @Ok Out (runs T [.code b143_6,.inL none b143_6,.inB 4,.code k143_7] [(0,.sref 3 id n 0 n),(1,.int .i64 a),(4,.fn 67 []),(12,.int .i64 i),(13,.int .i64 j)] h nx) Q:=by
 intro k
 induction k with
 |zero =>
  intro i j d h nx hk hi1 hi2 hj hn hr next
  have g:=@Go.Sort.partLoop_eq _ _ ltB a i j d
  have g2:=Go.Sort.partLoop_guard ltB a i j d
  have u1:=Go.Sort.scanUp_ge (fun x=>ltB x d[a]!) d j i
  have u2:=@A63 (fun x=>ltB x d[a]!) d j i
  generalize hI:Go.Sort.scanUp (fun x=>ltB x d[a]!) d j i=i2 at *
  have u3:=Go.Sort.scanDown_le (fun x=>!ltB x d[a]!) d i2 j
  generalize hJ:Go.Sort.scanDown (fun x=>!ltB x d[a]!) d i2 j=j2 at *
  have hgt:i2 > j2:=by
   rcases Nat.lt_or_ge j2 i2 with h | h
   ·exact h
   ·have:=g2 (by omega);omega
  rw [if_pos hgt] at g
  rw [g] at next
  have d1:decide ((j2:Int) < i2)=true:=by simp;omega
  simp (disch:=first | exact d_Q7 | fail) only [unf b143_6.eq_1,c143,EVS,Nat.reduceAdd,Nat.reduceSub,Int.reduceToNat,Nat.reduceMul,Nat.reduceEqDiff,Nat.reduceLeDiff,Int.reduceEq,Int.reduceLT,Int.reduceLE,↓reduceIte]
  refine up1 id n a d h ha hN hn hr _ _ (j + 1 - i) i j _ _ hj (Nat.le_refl _) hi2 fun nx1 hn1=>?_
  rw [hI]
  simp (disch:=first | exact d_Q7 | fail) only [unf k143_5.eq_1,c143,EVS,Nat.reduceAdd,Nat.reduceSub,Int.reduceToNat,Nat.reduceMul,Nat.reduceEqDiff,Nat.reduceLeDiff,Int.reduceEq,Int.reduceLT,Int.reduceLE,↓reduceIte]
  refine dn1 id n a d h ha hN hn hr _ _ i2 (by omega) (by omega) j _ _ hj fun nx2 hn2=>?_
  rw [hJ]
  simp (disch:=first | exact d_Q7 | fail) only [unf k143_4.eq_1,c143,nlt,w_xb,d1,EVS,Nat.reduceAdd,Nat.reduceSub,Int.reduceToNat,Nat.reduceMul,Nat.reduceEqDiff,Nat.reduceLeDiff,Int.reduceEq,Int.reduceLT,Int.reduceLE,↓reduceIte]
  exact next _ _ _ (by omega) (.refl hr) (by dsimp only;omega)
 |succ k ih =>
  intro i j d h nx hk hi1 hi2 hj hn hr next
  have g:=@Go.Sort.partLoop_eq _ _ ltB a i j d
  have g2:=Go.Sort.partLoop_guard ltB a i j d
  have u1:=Go.Sort.scanUp_ge (fun x=>ltB x d[a]!) d j i
  have u2:=@A63 (fun x=>ltB x d[a]!) d j i
  generalize hI:Go.Sort.scanUp (fun x=>ltB x d[a]!) d j i=i2 at *
  have u3:=Go.Sort.scanDown_le (fun x=>!ltB x d[a]!) d i2 j
  generalize hJ:Go.Sort.scanDown (fun x=>!ltB x d[a]!) d i2 j=j2 at *
  by_cases hgt:i2 > j2
  ·rw [if_pos hgt] at g
   rw [g] at next
   have d1:decide ((j2:Int) < i2)=true:=by simp;omega
   simp (disch:=first | exact d_Q7 | fail) only [unf b143_6.eq_1,c143,EVS,Nat.reduceAdd,Nat.reduceSub,Int.reduceToNat,Nat.reduceMul,Nat.reduceEqDiff,Nat.reduceLeDiff,Int.reduceEq,Int.reduceLT,Int.reduceLE,↓reduceIte]
   refine up1 id n a d h ha hN hn hr _ _ (j + 1 - i) i j _ _ hj (Nat.le_refl _) hi2 fun nx1 hn1=>?_
   rw [hI]
   simp (disch:=first | exact d_Q7 | fail) only [unf k143_5.eq_1,c143,EVS,Nat.reduceAdd,Nat.reduceSub,Int.reduceToNat,Nat.reduceMul,Nat.reduceEqDiff,Nat.reduceLeDiff,Int.reduceEq,Int.reduceLT,Int.reduceLE,↓reduceIte]
   refine dn1 id n a d h ha hN hn hr _ _ i2 (by omega) (by omega) j _ _ hj fun nx2 hn2=>?_
   rw [hJ]
   simp (disch:=first | exact d_Q7 | fail) only [unf k143_4.eq_1,c143,nlt,w_xb,d1,EVS,Nat.reduceAdd,Nat.reduceSub,Int.reduceToNat,Nat.reduceMul,Nat.reduceEqDiff,Nat.reduceLeDiff,Int.reduceEq,Int.reduceLT,Int.reduceLE,↓reduceIte]
   exact next _ _ _ (by omega) (.refl hr) (by dsimp only;omega)
  ·rw [if_neg hgt] at g
   rw [g] at next
   have g3:=g2 hgt
   have d1:decide ((j2:Int) < i2)=false:=by simp;omega
   have e1:((i2:Nat):Int) + 1=((i2 + 1:Nat):Int):=by omega
   have e2:((j2:Nat):Int) - 1=((j2 - 1:Nat):Int):=by omega
   have hr':=hr
   rw [A1u] at hr'
   simp (disch:=first | exact d_Q7 | fail) only [unf b143_6.eq_1,c143,EVS,Nat.reduceAdd,Nat.reduceSub,Int.reduceToNat,Nat.reduceMul,Nat.reduceEqDiff,Nat.reduceLeDiff,Int.reduceEq,Int.reduceLT,Int.reduceLE,↓reduceIte]
   refine up1 id n a d h ha hN hn hr _ _ (j + 1 - i) i j _ _ hj (Nat.le_refl _) hi2 fun nx1 hn1=>?_
   rw [hI]
   simp (disch:=first | exact d_Q7 | fail) only [unf k143_5.eq_1,c143,EVS,Nat.reduceAdd,Nat.reduceSub,Int.reduceToNat,Nat.reduceMul,Nat.reduceEqDiff,Nat.reduceLeDiff,Int.reduceEq,Int.reduceLT,Int.reduceLE,↓reduceIte]
   refine dn1 id n a d h ha hN hn hr _ _ i2 (by omega) (by omega) j _ _ hj fun nx2 hn2=>?_
   rw [hJ]
   simp (disch:=first | exact d_Q7 | fail) only [unf k143_4.eq_1,c143,w_xb,d1,e1,e2,hr',SR,EVS,Nat.reduceAdd,Nat.reduceSub,Int.reduceToNat,Nat.reduceMul,Nat.reduceEqDiff,Nat.reduceLeDiff,Int.reduceEq,Int.reduceLT,Int.reduceLE,↓reduceIte]
   refine A0c (ih (i2 + 1) (j2 - 1) (Go.Sort.swp d i2 j2) _ _ (by omega) (by omega) (by omega) (by omega) (by rw [A1s];exact hn) (A0z hr) fun h' nx' iv hn' hx hb=>next _ _ _ (by omega) ((RowR.one hr).trans hx) hb)
theorem Am2 (id n a b p:Nat) (d:Array Bd) (hab:a + 1 < b) (hb:b ≤ n) (hp1:a ≤ p) (hp2:p < b) (hN:n ≤ 1000000) (hn:d.size=n) (h:Heap) (nx:Nat) (hr:hget h id=some (rowB d)) :
  ∃ r,lim T 143 [.sref 3 id n 0 n,.int .i64 a,.int .i64 b,.int .i64 p,.fn 67 []] h nx=some r∧r.1=.tup [.int .i64 (Go.Sort.partition ltB d a b p).1,.bool (Go.Sort.partition ltB d a b p).2.1]∧RowN id (Go.Sort.partition ltB d a b p).2.2 h nx r.2.1 r.2.2:=by
 refine A25 B0c rfl rfl ?_
 have e1:(b:Int) - 1=((b - 1:Nat):Int):=by omega
 have e0:(a:Int) + 1=((a + 1:Nat):Int):=by omega
 have hr0:=hr
 rw [A1u] at hr0
 have hr1:RowR h id (Go.Sort.swp d a p) (hset h id (.row 3 ((Go.Sort.swp d a p).toList.map bS))):=RowR.one hr
 have hs1:(Go.Sort.swp d a p).size=n:=by rw [A1s];exact hn
 have gp:Go.Sort.partition ltB d a b p=(let i:=Go.Sort.scanUp (fun x=>ltB x (Go.Sort.swp d a p)[a]!) (Go.Sort.swp d a p) (b - 1) (a + 1);let j:=Go.Sort.scanDown (fun x=>!ltB x (Go.Sort.swp d a p)[a]!) (Go.Sort.swp d a p) i (b - 1);if i > j then (j,true,Go.Sort.swp (Go.Sort.swp d a p) j a) else
   (((Go.Sort.partLoop ltB a (i + 1) (j - 1) (Go.Sort.swp (Go.Sort.swp d a p) i j)).1,false,Go.Sort.swp (Go.Sort.partLoop ltB a (i + 1) (j - 1) (Go.Sort.swp (Go.Sort.swp d a p) i j)).2 (Go.Sort.partLoop ltB a (i + 1) (j - 1) (Go.Sort.swp (Go.Sort.swp d a p) i j)).1 a):Nat × Bool × Array Bd)):=rfl
 dsimp only at gp
 generalize Go.Sort.partition ltB d a b p=P at *
 simp (disch:=first | exact d_Q7 | fail) only [c143,hr0,SR,e0,e1,EVS,Nat.reduceAdd,Nat.reduceSub,Int.reduceToNat,Nat.reduceMul,Nat.reduceEqDiff,Nat.reduceLeDiff,Int.reduceEq,Int.reduceLT,Int.reduceLE,↓reduceIte]
 generalize Go.Sort.swp d a p=d1 at *
 have hq:=hr1.1
 generalize hset h id (.row 3 (d1.toList.map bS))=hh at *
 have u1:=Go.Sort.scanUp_ge (fun x=>ltB x d1[a]!) d1 (b - 1) (a + 1)
 have u2:=@A63 (fun x=>ltB x d1[a]!) d1 (b - 1) (a + 1)
 have hq':=hq
 rw [A1u] at hq'
 refine up0 id n a d1 hh (by omega) hN hs1 hq _ _ _ (a + 1) (b - 1) _ _ (by omega) (Nat.le_refl _) (by omega) fun nx1 hn1=>?_
 generalize hI:Go.Sort.scanUp (fun x=>ltB x d1[a]!) d1 (b - 1) (a + 1)=i2 at *
 simp (disch:=first | exact d_Q7 | fail) only [unf k143_9.eq_1,c143,EVS,Nat.reduceAdd,Nat.reduceSub,Int.reduceToNat,Nat.reduceMul,Nat.reduceEqDiff,Nat.reduceLeDiff,Int.reduceEq,Int.reduceLT,Int.reduceLE,↓reduceIte]
 refine dn0 id n a d1 hh (by omega) hN hs1 hq _ _ i2 (by omega) (by omega) (b - 1) _ _ (by omega) fun nx2 hn2=>?_
 have u3:=Go.Sort.scanDown_le (fun x=>!ltB x d1[a]!) d1 i2 (b - 1)
 generalize hJ:Go.Sort.scanDown (fun x=>!ltB x d1[a]!) d1 i2 (b - 1)=j2 at *
 by_cases hgt:i2 > j2
 ·have dc:decide ((j2:Int) < i2)=true:=by simp;omega
  rw [if_pos hgt] at gp
  subst gp
  simp (disch:=first | exact d_Q7 | fail) only [unf k143_8.eq_1,c143,dc,hq',SR,EVS,Nat.reduceAdd,Nat.reduceSub,Int.reduceToNat,Nat.reduceMul,Nat.reduceEqDiff,Nat.reduceLeDiff,Int.reduceEq,Int.reduceLT,Int.reduceLE,↓reduceIte]
  exact ⟨(hr1.trans (RowR.one hq)).1,by omega,fun i hi1 hi2=>(hr1.trans (RowR.one hq)).2 i hi2⟩
 ·have dc:decide ((j2:Int) < i2)=false:=by simp;omega
  rw [if_neg hgt] at gp
  have f1:((i2:Nat):Int) + 1=((i2 + 1:Nat):Int):=by omega
  have f2:((j2:Nat):Int) - 1=((j2 - 1:Nat):Int):=by omega
  have hr2:RowR hh id (Go.Sort.swp d1 i2 j2) (hset hh id (.row 3 ((Go.Sort.swp d1 i2 j2).toList.map bS))):=RowR.one hq
  have hs2:(Go.Sort.swp d1 i2 j2).size=n:=by rw [A1s];exact hs1
  simp (disch:=first | exact d_Q7 | fail) only [unf k143_8.eq_1,c143,dc,f1,f2,hq',SR,EVS,Nat.reduceAdd,Nat.reduceSub,Int.reduceToNat,Nat.reduceMul,Nat.reduceEqDiff,Nat.reduceLeDiff,Int.reduceEq,Int.reduceLT,Int.reduceLE,↓reduceIte]
  refine Ary id n a (by omega) hN _ _ (i2 + 1) (j2 - 1) _ _ _ (Nat.le_refl _) (by omega) (by omega) (by omega) hs2 hr2.1 fun h' nx' iv hn' hx hb=>?_
  have hs3:(Go.Sort.partLoop ltB a (i2 + 1) (j2 - 1) (Go.Sort.swp d1 i2 j2)).2.size=n:=by rw [Acd _ _ _ _ (Nat.le_refl _)];exact hs2
  have hx':=hx.1
  rw [A1u] at hx'
  generalize Go.Sort.partLoop ltB a (i2 + 1) (j2 - 1) (Go.Sort.swp d1 i2 j2)=R at *
  subst gp
  simp (disch:=first | exact d_Q7 | fail) only [unf k143_7.eq_1,c143,hx',SR,EVS,Nat.reduceAdd,Nat.reduceSub,Int.reduceToNat,Nat.reduceMul,Nat.reduceEqDiff,Nat.reduceLeDiff,Int.reduceEq,Int.reduceLT,Int.reduceLE,↓reduceIte]
  have fin:=((hr1.trans hr2).trans hx).trans (RowR.one (d:=Go.Sort.swp R.2 R.1 a) hx.1)
  exact ⟨fin.1,by omega,fun i hi1 hi2=>fin.2 i hi2⟩
theorem d_Q8 {P:Prop} (h:P:=by first|omega|(simp only[EVL]<;>omega)|(simp only[A0n,Nat.reduceEqDiff,↓reduceIte];done)|assumption|(simp (disch:=omega) only[A06,A0a,A04, *];done)|(simp only [A38];done)|with_unfolding_all rfl):P:=h
theorem Asu (id n a:Nat) (ha:a < n) (hN:n ≤ 1000000) (Q:Post Out):∀ (k i j:Nat) (d:Array Bd) (h:Heap) (nx:Nat),j + 1 - i < k→1 ≤ i→i ≤ n + 1→j < n→d.size=n→hget h id=some (rowB d) →
  (∀ (h':Heap) (nx':Nat) (jv:Int),nx ≤ nx'→RowR h id (Go.Sort.partEqLoop ltB a i j d).2 h'→(Go.Sort.partEqLoop ltB a i j d).1 ≤ n + 1→@Ok Out (runs T [.code k142_5] [(0,.sref 3 id n 0 n),(1,.int .i64 a),(4,.fn 67 []),(11,.int .i64 (Go.Sort.partEqLoop ltB a i j d).1),(12,.int .i64 jv),(70,.bool true)] h' nx') Q) →
  @Ok Out (runs T [.code b142_4,.inL none b142_4,.inB 0,.code k142_5] [(0,.sref 3 id n 0 n),(1,.int .i64 a),(4,.fn 67 []),(11,.int .i64 i),(12,.int .i64 j)] h nx) Q:=by
 intro k
 induction k with
 |zero=>intro i j d h nx hk;omega
 |succ k ih =>
  intro i j d h nx hk hi1 hi2 hj hn hr next
  have g:=@Go.Sort.partEqLoop_eq _ _ ltB a i j d
  have g2:=Go.Sort.partEqLoop_guard ltB a i j d
  have u1:=Go.Sort.scanUp_ge (fun x=>!ltB d[a]! x) d j i
  have u2:=@A63 (fun x=>!ltB d[a]! x) d j i
  generalize hI:Go.Sort.scanUp (fun x=>!ltB d[a]! x) d j i=i2 at *
  have u3:=Go.Sort.scanDown_le (fun x=>ltB d[a]! x) d i2 j
  generalize hJ:Go.Sort.scanDown (fun x=>ltB d[a]! x) d i2 j=j2 at *
  by_cases hgt:i2 > j2
  ·rw [if_pos hgt] at g
   rw [g] at next
   have d1:decide ((j2:Int) < i2)=true:=by simp;omega
   simp (disch:=first | exact d_Q8 | fail) only [unf b142_4.eq_1,c142,EVS,Nat.reduceAdd,Nat.reduceSub,Int.reduceToNat,Nat.reduceMul,Nat.reduceEqDiff,Nat.reduceLeDiff,Int.reduceEq,Int.reduceLT,Int.reduceLE,↓reduceIte]
   refine up2 id n a d h ha hN hn hr _ _ (j + 1 - i) i j _ _ hj (Nat.le_refl _) hi2 fun nx1 hn1=>?_
   rw [hI]
   simp (disch:=first | exact d_Q8 | fail) only [unf k142_3.eq_1,c142,EVS,Nat.reduceAdd,Nat.reduceSub,Int.reduceToNat,Nat.reduceMul,Nat.reduceEqDiff,Nat.reduceLeDiff,Int.reduceEq,Int.reduceLT,Int.reduceLE,↓reduceIte]
   refine dn2 id n a d h ha hN hn hr _ _ i2 (by omega) (by omega) j _ _ hj fun nx2 hn2=>?_
   rw [hJ]
   simp (disch:=first | exact d_Q8 | fail) only [unf k142_2.eq_1,c142,nlt,w_xb,d1,EVS,Nat.reduceAdd,Nat.reduceSub,Int.reduceToNat,Nat.reduceMul,Nat.reduceEqDiff,Nat.reduceLeDiff,Int.reduceEq,Int.reduceLT,Int.reduceLE,↓reduceIte]
   exact next _ _ _ (by omega) (.refl hr) (by dsimp only;omega)
  ·rw [if_neg hgt] at g
   rw [g] at next
   have g3:=g2 hgt
   have d1:decide ((j2:Int) < i2)=false:=by simp;omega
   have e1:((i2:Nat):Int) + 1=((i2 + 1:Nat):Int):=by omega
   have e2:((j2:Nat):Int) - 1=((j2 - 1:Nat):Int):=by omega
   have hr':=hr
   rw [A1u] at hr'
   simp (disch:=first | exact d_Q8 | fail) only [unf b142_4.eq_1,c142,EVS,Nat.reduceAdd,Nat.reduceSub,Int.reduceToNat,Nat.reduceMul,Nat.reduceEqDiff,Nat.reduceLeDiff,Int.reduceEq,Int.reduceLT,Int.reduceLE,↓reduceIte]
   refine up2 id n a d h ha hN hn hr _ _ (j + 1 - i) i j _ _ hj (Nat.le_refl _) hi2 fun nx1 hn1=>?_
   rw [hI]
   simp (disch:=first | exact d_Q8 | fail) only [unf k142_3.eq_1,c142,EVS,Nat.reduceAdd,Nat.reduceSub,Int.reduceToNat,Nat.reduceMul,Nat.reduceEqDiff,Nat.reduceLeDiff,Int.reduceEq,Int.reduceLT,Int.reduceLE,↓reduceIte]
   refine dn2 id n a d h ha hN hn hr _ _ i2 (by omega) (by omega) j _ _ hj fun nx2 hn2=>?_
   rw [hJ]
   simp (disch:=first | exact d_Q8 | fail) only [unf k142_2.eq_1,c142,w_xb,d1,e1,e2,hr',SR,EVS,Nat.reduceAdd,Nat.reduceSub,Int.reduceToNat,Nat.reduceMul,Nat.reduceEqDiff,Nat.reduceLeDiff,Int.reduceEq,Int.reduceLT,Int.reduceLE,↓reduceIte]
   refine A0c (ih (i2 + 1) (j2 - 1) (Go.Sort.swp d i2 j2) _ _ (by omega) (by omega) (by omega) (by omega) (by rw [A1s];exact hn) (A0z hr) fun h' nx' iv hn' hx hb=>next _ _ _ (by omega) ((RowR.one hr).trans hx) hb)
theorem Ahx (id n a b p:Nat) (d:Array Bd) (hab:a + 1 < b) (hb:b ≤ n) (hp1:a ≤ p) (hp2:p < b) (hN:n ≤ 1000000) (hn:d.size=n) (h:Heap) (nx:Nat) (hr:hget h id=some (rowB d)) :
  ∃ r,lim T 142 [.sref 3 id n 0 n,.int .i64 a,.int .i64 b,.int .i64 p,.fn 67 []] h nx=some r∧r.1=.int .i64 (Go.Sort.partitionEqual ltB d a b p).1∧RowN id (Go.Sort.partitionEqual ltB d a b p).2 h nx r.2.1 r.2.2:=by
 refine A25 B0v rfl rfl ?_
 have e1:(b:Int) - 1=((b - 1:Nat):Int):=by omega
 have e0:(a:Int) + 1=((a + 1:Nat):Int):=by omega
 have hr0:=hr
 rw [A1u] at hr0
 have hr1:RowR h id (Go.Sort.swp d a p) (hset h id (.row 3 ((Go.Sort.swp d a p).toList.map bS))):=RowR.one hr
 have hs1:(Go.Sort.swp d a p).size=n:=by rw [A1s];exact hn
 have gp:Go.Sort.partitionEqual ltB d a b p=Go.Sort.partEqLoop ltB a (a + 1) (b - 1) (Go.Sort.swp d a p):=rfl
 rw [gp]
 simp (disch:=first | exact d_Q8 | fail) only [c142,hr0,SR,e0,e1,EVS,Nat.reduceAdd,Nat.reduceSub,Int.reduceToNat,Nat.reduceMul,Nat.reduceEqDiff,Nat.reduceLeDiff,Int.reduceEq,Int.reduceLT,Int.reduceLE,↓reduceIte]
 refine Asu id n a (by omega) hN _ _ (a + 1) (b - 1) _ _ _ (Nat.lt_succ_self _) (by omega) (by omega) (by omega) hs1 hr1.1 fun h' nx' iv hn' hx hb=>?_
 simp (disch:=first | exact d_Q8 | fail) only [unf k142_5.eq_1,c142,EVS,Nat.reduceAdd,Nat.reduceSub,Int.reduceToNat,Nat.reduceMul,Nat.reduceEqDiff,Nat.reduceLeDiff,Int.reduceEq,Int.reduceLT,Int.reduceLE,↓reduceIte]
 exact (hr1.trans hx).n (by omega)
theorem d_Q9 {P:Prop} (h:P:=by first|omega|(simp only[EVL]<;>omega)|(simp only[A0n,Nat.reduceEqDiff,↓reduceIte];done)|assumption|(simp (disch:=omega) only[A06,A0a,A04, *];done)|(simp only [A38];done)|with_unfolding_all rfl):P:=h
theorem Atb {b i:Nat} {d:Array Bd}:∀ k,b - i ≤ k→i ≤ b→i ≤ Go.Sort.scanSorted ltB d b i∧Go.Sort.scanSorted ltB d b i ≤ b:=by
 intro k
 induction k generalizing i with
 |zero=>intro hk hi;rw [Go.Sort.scanSorted,if_neg (by simp;omega)];omega
 |succ k ih =>
  intro hk hi
  rw [Go.Sort.scanSorted]
  split
  ·rename_i hc
   simp only [Bool.and_eq_true,decide_eq_true_eq] at hc
   have:=ih (i:=i + 1) (by omega) (by omega)
   omega
  ·omega
theorem At0 (id n b:Nat) (A S:Int) (d:Array Bd) (h:Heap) (hb:b ≤ n) (hN:n ≤ 1000000) (hn:d.size=n) (hr:hget h id=some (rowB d)) (rest:List I) (Q:Post Out):∀ (k i:Nat) (nx:Nat) (x:Tm),b - i ≤ k→1 ≤ i→i ≤ b →
  (∀ nx':Nat,nx ≤ nx'→@Ok Out (runs T (.code k141_4::rest) [(0,.sref 3 id n 0 n),(1,.int .i64 A),(2,.int .i64 b),(3,.fn 67 []),(9,.int .i64 (Go.Sort.scanSorted ltB d b i:Nat)),(10,.int .i64 S),(36,.bool false)] h nx') Q) →
  @Ok Out (runs T (.code b141_0::.inL none b141_0::.inB 2::.code k141_4::rest) ((0,.sref 3 id n 0 n)::(1,.int .i64 A)::(2,.int .i64 b)::(3,.fn 67 [])::(9,.int .i64 i)::(10,.int .i64 S)::x) h nx) Q:=by
 have hr':=hr
 rw [A1u] at hr'
 intro k
 induction k with
 |zero =>
  intro i nx x hk hi hib next
  have h1:decide (i < b)=false:=by simp;omega
  rw [Go.Sort.scanSorted,if_neg (by simp;omega)] at next
  simp (disch:=first | exact d_Q9 | fail) only [unf b141_0.eq_1,c141,nlt,h1,EVS,Nat.reduceAdd,Nat.reduceSub,Int.reduceToNat,Nat.reduceMul,Nat.reduceEqDiff,Nat.reduceLeDiff,Int.reduceEq,Int.reduceLT,Int.reduceLE,↓reduceIte]
  exact next _ (by omega)
 |succ k ih =>
  intro i nx x hk hi hib next
  have e1:((i:Nat):Int) - 1=((i - 1:Nat):Int):=by omega
  by_cases hc:i < b
  ·have h1:decide (i < b)=true:=by simp;omega
   cases hb:ltB d[i]! d[i - 1]! with
   |false =>
    rw [Go.Sort.scanSorted,if_pos (by simp [hb];omega)] at next
    simp (disch:=first | exact d_Q9 | fail) only [unf b141_0.eq_1,c141,nlt,na1,e1,h1,A0h,hr',SR,A1d,hb,EVS,Nat.reduceAdd,Nat.reduceSub,Int.reduceToNat,Nat.reduceMul,Nat.reduceEqDiff,Nat.reduceLeDiff,Int.reduceEq,Int.reduceLT,Int.reduceLE,↓reduceIte]
    exact A0c (ih (i + 1) _ _ (by omega) (by omega) (by omega) fun nx' h2=>next nx' (by omega))
   |true =>
    rw [Go.Sort.scanSorted,if_neg (by simp [hb])] at next
    simp (disch:=first | exact d_Q9 | fail) only [unf b141_0.eq_1,c141,nlt,e1,h1,A0h,hr',SR,A1d,hb,EVS,Nat.reduceAdd,Nat.reduceSub,Int.reduceToNat,Nat.reduceMul,Nat.reduceEqDiff,Nat.reduceLeDiff,Int.reduceEq,Int.reduceLT,Int.reduceLE,↓reduceIte]
    exact next _ (by omega)
  ·have h1:decide (i < b)=false:=by simp;omega
   rw [Go.Sort.scanSorted,if_neg (by simp;omega)] at next
   simp (disch:=first | exact d_Q9 | fail) only [unf b141_0.eq_1,c141,nlt,h1,EVS,Nat.reduceAdd,Nat.reduceSub,Int.reduceToNat,Nat.reduceMul,Nat.reduceEqDiff,Nat.reduceLeDiff,Int.reduceEq,Int.reduceLT,Int.reduceLE,↓reduceIte]
   exact next _ (by omega)
theorem Arx:∀ (j:Nat) (d:Array Bd),(Go.Sort.shiftDown ltB j d).size=d.size:=by
 intro j
 induction j with
 |zero=>intro d;rfl
 |succ j ih=>intro d;rw [Go.Sort.shiftDown];split<;>simp [ih,A1s]
theorem Asq {b:Nat}:∀ (k j:Nat) (d:Array Bd),b - j ≤ k→(Go.Sort.shiftUp ltB b j d).size=d.size:=by
 intro k
 induction k with
 |zero=>intro j d hk;rw [Go.Sort.shiftUp,if_neg (by omega)]
 |succ k ih =>
  intro j d hk
  rw [Go.Sort.shiftUp]
  split
  ·split
   ·rfl
   ·rw [ih _ _ (by omega),A1s]
  ·rfl
theorem Aoe (id n:Nat) (A B S:Int) (i:Nat) (hN:n ≤ 1000000) (rest:List I) (Q:Post Out):∀ (j:Nat) (d:Array Bd) (h:Heap) (nx:Nat) (x:Tm),j < n→d.size=n→hget h id=some (rowB d) →
  (∀ (h':Heap) (nx':Nat) (x:Tm),nx ≤ nx'→RowR h id (Go.Sort.shiftDown ltB j d) h'→@Ok Out (runs T (.code k141_3::rest) ((0,.sref 3 id n 0 n)::(1,.int .i64 A)::(2,.int .i64 B)::(3,.fn 67 [])::(9,.int .i64 i)::(10,.int .i64 S)::x) h' nx') Q) →
  @Ok Out (runs T (.code b141_1::.inL none b141_1::.inB 4::.code k141_3::rest) ((0,.sref 3 id n 0 n)::(1,.int .i64 A)::(2,.int .i64 B)::(3,.fn 67 [])::(9,.int .i64 i)::(10,.int .i64 S)::(11,.int .i64 j)::x) h nx) Q:=by
 intro j
 induction j with
 |zero =>
  intro d h nx x hj hn hr next
  have h1:decide ((1:Int) ≤ ((0:Nat):Int))=false:=by decide
  simp (disch:=first | exact d_Q9 | fail) only [unf b141_1.eq_1,c141,h1,EVS,Nat.reduceAdd,Nat.reduceSub,Int.reduceToNat,Nat.reduceMul,Nat.reduceEqDiff,Nat.reduceLeDiff,Int.reduceEq,Int.reduceLT,Int.reduceLE,↓reduceIte]
  exact next _ _ _ (by omega) (.refl hr)
 |succ j ih =>
  intro d h nx x hj hn hr next
  have h1:decide ((1:Int) ≤ ((j + 1:Nat):Int))=true:=by simp;omega
  have e1:((j + 1:Nat):Int) - 1=(j:Nat):=by omega
  have hr':=hr
  rw [A1u] at hr'
  cases hb:ltB d[j + 1]! d[j]! with
  |false =>
   rw [Go.Sort.shiftDown,if_pos (by simp [hb])] at next
   simp (disch:=first | exact d_Q9 | fail) only [unf b141_1.eq_1,c141,h1,e1,A0h,hr',SR,A1d,hb,w_xb,EVS,Nat.reduceAdd,Nat.reduceSub,Int.reduceToNat,Nat.reduceMul,Nat.reduceEqDiff,Nat.reduceLeDiff,Int.reduceEq,Int.reduceLT,Int.reduceLE,↓reduceIte]
   exact next _ _ _ (by omega) (.refl hr)
  |true =>
   rw [Go.Sort.shiftDown,if_neg (by simp [hb])] at next
   simp (disch:=first | exact d_Q9 | fail) only [unf b141_1.eq_1,c141,h1,e1,A0h,hr',SR,A1d,hb,w_xb,EVS,Nat.reduceAdd,Nat.reduceSub,Int.reduceToNat,Nat.reduceMul,Nat.reduceEqDiff,Nat.reduceLeDiff,Int.reduceEq,Int.reduceLT,Int.reduceLE,↓reduceIte]
   exact A0c (ih (Go.Sort.swp d (j + 1) j) _ _ _ (by omega) (by rw [A1s];exact hn) (A0z hr) fun h' nx' x hn' hx=>next _ _ _ (by omega) ((RowR.one hr).trans hx))
theorem Aod (id n b:Nat) (A S:Int) (i:Nat) (hb:b ≤ n) (hN:n ≤ 1000000) (rest:List I) (Q:Post Out):∀ (k j:Nat) (d:Array Bd) (h:Heap) (nx:Nat) (x:Tm),b - j ≤ k→1 ≤ j→j ≤ n + 1→d.size=n→hget h id=some (rowB d) →
  (∀ (h':Heap) (nx':Nat) (x:Tm),nx ≤ nx'→RowR h id (Go.Sort.shiftUp ltB b j d) h'→@Ok Out (runs T rest ((0,.sref 3 id n 0 n)::(1,.int .i64 A)::(2,.int .i64 b)::(3,.fn 67 [])::(9,.int .i64 i)::(10,.int .i64 S)::x) h' nx') Q) →
  @Ok Out (runs T (.code b141_2::.inL none b141_2::.inB 6::rest) ((0,.sref 3 id n 0 n)::(1,.int .i64 A)::(2,.int .i64 b)::(3,.fn 67 [])::(9,.int .i64 i)::(10,.int .i64 S)::(12,.int .i64 j)::x) h nx) Q:=by
 intro k
 induction k with
 |zero =>
  intro j d h nx x hk hj1 hj hn hr next
  have h1:decide (j < b)=false:=by simp;omega
  rw [Go.Sort.shiftUp,if_neg (by omega)] at next
  simp (disch:=first | exact d_Q9 | fail) only [unf b141_2.eq_1,c141,nlt,h1,EVS,Nat.reduceAdd,Nat.reduceSub,Int.reduceToNat,Nat.reduceMul,Nat.reduceEqDiff,Nat.reduceLeDiff,Int.reduceEq,Int.reduceLT,Int.reduceLE,↓reduceIte]
  exact next _ _ _ (by omega) (.refl hr)
 |succ k ih =>
  intro j d h nx x hk hj1 hj hn hr next
  have e1:((j:Nat):Int) - 1=((j - 1:Nat):Int):=by omega
  have hr':=hr
  rw [A1u] at hr'
  by_cases hc:j < b
  ·have h1:decide (j < b)=true:=by simp;omega
   cases hb:ltB d[j]! d[j - 1]! with
   |false =>
    rw [Go.Sort.shiftUp,if_pos hc,if_pos (by simp [hb])] at next
    simp (disch:=first | exact d_Q9 | fail) only [unf b141_2.eq_1,c141,nlt,h1,e1,A0h,hr',SR,A1d,hb,w_xb,EVS,Nat.reduceAdd,Nat.reduceSub,Int.reduceToNat,Nat.reduceMul,Nat.reduceEqDiff,Nat.reduceLeDiff,Int.reduceEq,Int.reduceLT,Int.reduceLE,↓reduceIte]
    exact next _ _ _ (by omega) (.refl hr)
   |true =>
    rw [Go.Sort.shiftUp,if_pos hc,if_neg (by simp [hb])] at next
    simp (disch:=first | exact d_Q9 | fail) only [unf b141_2.eq_1,c141,nlt,na1,h1,e1,A0h,hr',SR,A1d,hb,w_xb,EVS,Nat.reduceAdd,Nat.reduceSub,Int.reduceToNat,Nat.reduceMul,Nat.reduceEqDiff,Nat.reduceLeDiff,Int.reduceEq,Int.reduceLT,Int.reduceLE,↓reduceIte]
    exact A0c (ih (j + 1) (Go.Sort.swp d j (j - 1)) _ _ _ (by omega) (by omega) (by omega) (by rw [A1s];exact hn) (A0z hr) fun h' nx' x hn' hx=>next _ _ _ (by omega) ((RowR.one hr).trans hx))
  ·have h1:decide (j < b)=false:=by simp;omega
   rw [Go.Sort.shiftUp,if_neg (by omega)] at next
   simp (disch:=first | exact d_Q9 | fail) only [unf b141_2.eq_1,c141,nlt,h1,EVS,Nat.reduceAdd,Nat.reduceSub,Int.reduceToNat,Nat.reduceMul,Nat.reduceEqDiff,Nat.reduceLeDiff,Int.reduceEq,Int.reduceLT,Int.reduceLE,↓reduceIte]
   exact next _ _ _ (by omega) (.refl hr)
theorem A9t {P:Prop} (h:P:=by first|omega|(simp only[EVL]<;>omega)|(simp only[A0n,Nat.reduceEqDiff,↓reduceIte];done)|assumption|(simp (disch:=omega) only[A06,A0a,A04, *];done)|(simp only [A38];done)|with_unfolding_all rfl):P:=h
theorem Ata (id n a b:Nat) (hab:a < b) (hb:b ≤ n) (hN:n ≤ 1000000):∀ (s i m:Nat) (d:Array Bd) (h:Heap) (nx:Nat),m + s=5→a < i→i ≤ b→d.size=n→hget h id=some (rowB d) →
  @Ok Out (runs T [.code b141_6,.inL none b141_6,.inB 0,.code k141_7] [(0,.sref 3 id n 0 n),(1,.int .i64 a),(2,.int .i64 b),(3,.fn 67 []),(9,.int .i64 i),(10,.int .i64 m)] h nx)
   ⟨fun x=>@Ok FV (finV c141.res x) ⟨fun v=>v=.bool (Go.Sort.partialIns ltB a b s i d).2∧RowR h id (Go.Sort.partialIns ltB a b s i d).1 x.2.2.1∧nx ≤ x.2.2.2⟩⟩:=by
 intro s
 induction s with
 |zero =>
  intro i m d h nx hm hai hib hn hr
  have h1:decide ((m:Int) < 5)=false:=by simp;omega
  simp (disch:=first | exact A9t | fail) only [unf b141_6.eq_1,unf k141_7.eq_1,c141,h1,EVS,Nat.reduceAdd,Nat.reduceSub,Int.reduceToNat,Nat.reduceMul,Nat.reduceEqDiff,Nat.reduceLeDiff,Int.reduceEq,Int.reduceLT,Int.reduceLE,↓reduceIte]
  exact ⟨rfl,.refl hr,by omega⟩
 |succ s ih =>
  intro i m d h nx hm hai hib hn hr
  have h1:decide ((m:Int) < 5)=true:=by simp;omega
  have hsz:=Atb (d:=d) (b - i) (Nat.le_refl _) hib
  rw [Go.Sort.partialIns_succ]
  simp (disch:=first | exact A9t | fail) only [unf b141_6.eq_1,c141,h1,EVS,Nat.reduceAdd,Nat.reduceSub,Int.reduceToNat,Nat.reduceMul,Nat.reduceEqDiff,Nat.reduceLeDiff,Int.reduceEq,Int.reduceLT,Int.reduceLE,↓reduceIte]
  refine At0 id n b a m d h hb hN hn hr _ _ (b - i) i _ _ (Nat.le_refl _) (by omega) hib fun nx1 hn1=>?_
  generalize Go.Sort.scanSorted ltB d b i=q at *
  by_cases hq:q=b
  ·subst hq
   rw [if_pos rfl]
   simp (disch:=first | exact A9t | fail) only [unf k141_4.eq_1,c141,EVS,Nat.reduceAdd,Nat.reduceSub,Int.reduceToNat,Nat.reduceMul,Nat.reduceEqDiff,Nat.reduceLeDiff,Int.reduceEq,Int.reduceLT,Int.reduceLE,↓reduceIte]
   exact ⟨.refl hr,by omega⟩
  ·rw [if_neg hq]
   have hq':¬ (q:Int)=b:=by omega
   have e0:(b:Int) - a=((b - a:Nat):Int):=by omega
   by_cases h50:b - a < 50
   ·rw [if_pos h50]
    have d50:decide (((b - a:Nat):Int) < 50)=true:=by simp;omega
    simp (disch:=first | exact A9t | fail) only [unf k141_4.eq_1,c141,hq',e0,d50,EVS,Nat.reduceAdd,Nat.reduceSub,Int.reduceToNat,Nat.reduceMul,Nat.reduceEqDiff,Nat.reduceLeDiff,Int.reduceEq,Int.reduceLT,Int.reduceLE,↓reduceIte]
    exact ⟨.refl hr,by omega⟩
   ·rw [if_neg h50]
    have d50:decide (((b - a:Nat):Int) < 50)=false:=by simp;omega
    have e1:((q:Nat):Int) - 1=((q - 1:Nat):Int):=by omega
    have e2:((q:Nat):Int) - a=((q - a:Nat):Int):=by omega
    have e3:((b:Nat):Int) - q=((b - q:Nat):Int):=by omega
    have e4:((m:Nat):Int) + 1=((m + 1:Nat):Int):=by omega
    have e5:((q:Nat):Int) + 1=((q + 1:Nat):Int):=by omega
    have hr':=hr
    rw [A1u] at hr'
    have hs1:(Go.Sort.swp d q (q - 1)).size=n:=by rw [A1s];exact hn
    have hr1:RowR h id (Go.Sort.swp d q (q - 1)) (hset h id (.row 3 ((Go.Sort.swp d q (q - 1)).toList.map bS))):=RowR.one hr
    have tail:∀ (h':Heap) (nx':Nat) (x:Tm),nx ≤ nx'→RowR h id (Go.Sort.fixDown ltB a q (Go.Sort.swp d q (q - 1))) h' →
      @Ok Out (runs T (.code k141_3::.inB 1::.code k141_5::.inL none b141_6::.inB 0::.code k141_7::[]) ((0,.sref 3 id n 0 n)::(1,.int .i64 a)::(2,.int .i64 b)::(3,.fn 67 [])::(9,.int .i64 q)::(10,.int .i64 m)::x) h' nx')
       ⟨fun x=>@Ok FV (finV c141.res x) ⟨fun v=>v=.bool (Go.Sort.partialIns ltB a b s q (Go.Sort.fixUp ltB b q (Go.Sort.fixDown ltB a q (Go.Sort.swp d q (q - 1))))).2∧RowR h id (Go.Sort.partialIns ltB a b s q (Go.Sort.fixUp ltB b q (Go.Sort.fixDown ltB a q (Go.Sort.swp d q (q - 1))))).1 x.2.2.1∧nx ≤ x.2.2.2⟩⟩:=by
     intro h' nx' x hnx hx
     have hs2:(Go.Sort.fixDown ltB a q (Go.Sort.swp d q (q - 1))).size=n:=by
      unfold Go.Sort.fixDown
      split
      ·rw [Arx];exact hs1
      ·exact hs1
     generalize Go.Sort.fixDown ltB a q (Go.Sort.swp d q (q - 1))=d2 at *
     by_cases hu:b - q ≥ 2
     ·have du:decide ((2:Int) ≤ ((b - q:Nat):Int))=true:=by simp;omega
      simp (disch:=first | exact A9t | fail) only [unf k141_3.eq_1,c141,e3,e5,du,EVS,Nat.reduceAdd,Nat.reduceSub,Int.reduceToNat,Nat.reduceMul,Nat.reduceEqDiff,Nat.reduceLeDiff,Int.reduceEq,Int.reduceLT,Int.reduceLE,↓reduceIte]
      refine Aod id n b a m q hb hN _ _ (b - (q + 1)) (q + 1) d2 h' _ _ (Nat.le_refl _) (by omega) (by omega) hs2 hx.1 fun h3 nx3 x3 hn3 hx3=>?_
      have ef:Go.Sort.fixUp ltB b q d2=Go.Sort.shiftUp ltB b (q + 1) d2:=if_pos hu
      rw [ef]
      simp (disch:=first | exact A9t | fail) only [unf k141_5.eq_1,c141,e4,EVS,Nat.reduceAdd,Nat.reduceSub,Int.reduceToNat,Nat.reduceMul,Nat.reduceEqDiff,Nat.reduceLeDiff,Int.reduceEq,Int.reduceLT,Int.reduceLE,↓reduceIte]
      refine A0c (A0e (ih q (m + 1) _ h3 _ (by omega) (by omega) (by omega) (by rw [Asq _ _ _ (Nat.le_refl _)];exact hs2) hx3.1) fun y hy=>A0e hy fun v hv=>?_)
      exact ⟨hv.1,(hx.trans hx3).trans hv.2.1,by have:=hv.2.2;omega⟩
     ·have du:decide ((2:Int) ≤ ((b - q:Nat):Int))=false:=by simp;omega
      have ef:Go.Sort.fixUp ltB b q d2=d2:=if_neg hu
      rw [ef]
      simp (disch:=first | exact A9t | fail) only [unf k141_3.eq_1,unf k141_5.eq_1,c141,e3,e4,du,EVS,Nat.reduceAdd,Nat.reduceSub,Int.reduceToNat,Nat.reduceMul,Nat.reduceEqDiff,Nat.reduceLeDiff,Int.reduceEq,Int.reduceLT,Int.reduceLE,↓reduceIte]
      refine A0c (A0e (ih q (m + 1) _ h' _ (by omega) (by omega) (by omega) hs2 hx.1) fun y hy=>A0e hy fun v hv=>?_)
      exact ⟨hv.1,hx.trans hv.2.1,by have:=hv.2.2;omega⟩
    by_cases hd:q - a ≥ 2
    ·have dd:decide ((2:Int) ≤ ((q - a:Nat):Int))=true:=by simp;omega
     simp (disch:=first | exact A9t | fail) only [unf k141_4.eq_1,c141,hq',e0,e1,e2,d50,dd,hr',SR,EVS,Nat.reduceAdd,Nat.reduceSub,Int.reduceToNat,Nat.reduceMul,Nat.reduceEqDiff,Nat.reduceLeDiff,Int.reduceEq,Int.reduceLT,Int.reduceLE,↓reduceIte]
     refine Aoe id n a b m q hN _ _ (q - 1) _ _ _ _ (by omega) hs1 hr1.1 fun h3 nx3 x3 hn3 hx3=>?_
     exact tail _ _ _ (by omega) (by rw [show Go.Sort.fixDown ltB a q (Go.Sort.swp d q (q - 1))=Go.Sort.shiftDown ltB (q - 1) (Go.Sort.swp d q (q - 1)) from if_pos hd];exact hr1.trans hx3)
    ·have dd:decide ((2:Int) ≤ ((q - a:Nat):Int))=false:=by simp;omega
     simp (disch:=first | exact A9t | fail) only [unf k141_4.eq_1,c141,hq',e0,e1,e2,d50,dd,hr',SR,EVS,Nat.reduceAdd,Nat.reduceSub,Int.reduceToNat,Nat.reduceMul,Nat.reduceEqDiff,Nat.reduceLeDiff,Int.reduceEq,Int.reduceLT,Int.reduceLE,↓reduceIte]
     exact tail _ _ _ (by omega) (by rw [show Go.Sort.fixDown ltB a q (Go.Sort.swp d q (q - 1))=Go.Sort.swp d q (q - 1) from if_neg hd];exact hr1)
theorem Ai3 (id n a b:Nat) (d:Array Bd) (hab:a < b) (hb:b ≤ n) (hN:n ≤ 1000000) (hn:d.size=n) (h:Heap) (nx:Nat) (hr:hget h id=some (rowB d)) :
  ∃ r,lim T 141 [.sref 3 id n 0 n,.int .i64 a,.int .i64 b,.fn 67 []] h nx=some r∧r.1=.bool (Go.Sort.partialInsertionSort ltB d a b).2∧RowN id (Go.Sort.partialInsertionSort ltB d a b).1 h nx r.2.1 r.2.2:=by
 refine A25 Az7 rfl rfl ?_
 have e0:(a:Int) + 1=((a + 1:Nat):Int):=by omega
 simp (disch:=first | exact A9t | fail) only [c141,e0,EVS,Nat.reduceAdd,Nat.reduceSub,Int.reduceToNat,Nat.reduceMul,Nat.reduceEqDiff,Nat.reduceLeDiff,Int.reduceEq,Int.reduceLT,Int.reduceLE,↓reduceIte]
 refine A0e (Ata id n a b hab hb hN 5 (a + 1) 0 d h _ rfl (by omega) (by omega) hn hr) fun x hq=>A0e hq fun v hv=>?_
 exact ⟨hv.1,hv.2.1.n (by have:=hv.2.2;dsimp only;omega)⟩
theorem Afb {P:Prop} (h:P:=by first|omega|(simp only[EVL]<;>omega)|(simp only[A0n,Nat.reduceEqDiff,↓reduceIte];done)|assumption|(simp (disch:=omega) only[A06,A0a,A04, *];done)|(simp only [A38];done)|with_unfolding_all rfl):P:=h
def Axi (x:Nat):Bool:=match FI.call T 100 158 [.int .i64 x] [] 0 with
 |some (.int .u64 m,_,_)=>decide (1 ≤ m∧m ≤ 2 * x)
 |_=>false
theorem Axr:∀ x:Nat,x < 501→1 ≤ x→Axi x=true:=by decide +kernel
theorem Ams (x:Nat) (h1:1 ≤ x) (h2:x < 501):∃ M:Nat,1 ≤ M∧M ≤ 2 * x∧∀ h nx,lim T 158 [.int .i64 x] h nx=some (.int .u64 M,h,nx):=by
 have:=Axr x h2 h1
 unfold Axi at this
 split at this
 ·rename_i m h' nx' hc
  have hm:=of_decide_eq_true this
  refine ⟨m.toNat,by omega,by omega,fun h nx=>?_⟩
  rw [show ((m.toNat:Nat):Int)=m by omega]
  exact A5r Ayc rfl (Ada T _ _ _ _ _ _ hc) (by decide) h nx
 ·cases this
def Au0 (x:Nat):Bool:=match FI.call T 100 106 [.int .u64 x] [] 0 with
 |some (.int .i64 m,_,_)=>decide (0 ≤ m∧m ≤ 64)
 |_=>false
theorem Ax2:∀ x:Nat,x < 501→Au0 x=true:=by decide +kernel
theorem Amw (x:Nat) (h2:x < 501):∃ L:Nat,L ≤ 64∧∀ h nx,lim T 106 [.int .u64 x] h nx=some (.int .i64 L,h,nx):=by
 have:=Ax2 x h2
 unfold Au0 at this
 split at this
 ·rename_i m h' nx' hc
  have hm:=of_decide_eq_true this
  refine ⟨m.toNat,by omega,fun h nx=>?_⟩
  rw [show ((m.toNat:Nat):Int)=m by omega]
  exact A5r Ayk rfl (Ada T _ _ _ _ _ _ hc) (by decide) h nx
 ·cases this
theorem Asi (y:Int) (M:Nat) (h1:M < 18446744073709551616):0 ≤ band .u64 y M∧band .u64 y M ≤ M:=by
 unfold band
 have e:(BitVec.ofInt IntKind.u64.bits y &&& BitVec.ofInt IntKind.u64.bits (M:Int)).toNat ≤ M:=by
  rw [BitVec.toNat_and]
  refine Nat.le_trans Nat.and_le_right ?_
  show (BitVec.ofInt 64 (M:Int)).toNat ≤ M
  rw [BitVec.toNat_ofInt]
  show ((M:Int) % ((2 ^ 64:Nat):Int)).toNat ≤ M
  omega
 rw [A2t (by omega) (by omega)]
 omega
theorem Ap2 (id n a b M q:Nat) (hM:1 ≤ M) (hM2:M ≤ 2 * (b - a)) (h8:8 ≤ b - a) (hb:b ≤ n) (hN:n ≤ 500) (hq:q ≠ id):∀ (k i:Nat) (d:Array Bd) (h:Heap) (nx:Nat) (s:Int),a + ((b - a) / 4) * 2 + 2 - i ≤ k→a ≤ i→d.size=n→hget h id=some (rowB d)→hget h q=some (.row 1 [.int .u64 s]) →
  @Ok Out (runs T [.code b138_0,.inL none b138_0,.inB 0] [(0,.sref 3 id n 0 n),(1,.int .i64 a),(8,.int .i64 (b - a:Nat)),(9,.ptr q 1 0 0),(10,.int .u64 M),(11,.int .i64 i)] h nx)
   ⟨fun x=>@Ok FV (finV c138.res x) ⟨fun v=>v=.tup []∧∃ d',Go.Sort.PermIn a b d d'∧hget x.2.2.1 id=some (rowB d')∧nx ≤ x.2.2.2∧∀ j,j ≠ id→j ≠ q→hget x.2.2.1 j=hget h j⟩⟩:=by
 have e2:((b - a:Nat):Int).tdiv 4=(((b - a) / 4:Nat):Int):=by rw [Int.tdiv_eq_ediv_of_nonneg (by omega)];omega
 have e3:(((b - a) / 4:Nat):Int) * 2=(((b - a) / 4 * 2:Nat):Int):=by omega
 have e6:((M:Nat):Int) - 1=((M - 1:Nat):Int):=by omega
 intro k
 induction k with
 |zero =>
  intro i d h nx s hk hi hn hr hs
  have h1:decide (i ≤ a + (b - a) / 4 * 2 + 1)=false:=by simp;omega
  simp (disch:=first | exact Afb | fail) only [unf b138_0.eq_1,c138,e2,e3,NA,h1,EVS,Nat.reduceAdd,Nat.reduceSub,Int.reduceToNat,Nat.reduceMul,Nat.reduceEqDiff,Nat.reduceLeDiff,Int.reduceEq,Int.reduceLT,Int.reduceLE,↓reduceIte]
  exact ⟨rfl,d,Go.Sort.permIn_refl d a b,hr,by omega,fun _ _ _=>trivial⟩
 |succ k ih =>
  intro i d h nx s hk hi hn hr hs
  by_cases hc:i ≤ a + (b - a) / 4 * 2 + 1
  ·have h1:decide (i ≤ a + (b - a) / 4 * 2 + 1)=true:=by simp;omega
   simp (disch:=first | exact Afb | fail) only [unf b138_0.eq_1,c138,e2,e3,NA,h1,EVS,Nat.reduceAdd,Nat.reduceSub,Int.reduceToNat,Nat.reduceMul,Nat.reduceEqDiff,Nat.reduceLeDiff,Int.reduceEq,Int.reduceLT,Int.reduceLE,↓reduceIte]
   refine A09 (Aom q s h _ hs) fun r hr1=>?_
   obtain ⟨⟨y,p1,p2⟩,p3,p4⟩:=hr1
   rw [p1]
   refine ⟨rfl,?_⟩
   have hr2:=(p3 id (Ne.symm hq)).trans hr
   obtain ⟨o1,o2⟩:=Asi y (M - 1) (by omega)
   generalize hO:band .u64 y ((M - 1:Nat):Int)=O at o1 o2
   obtain ⟨O,rfl⟩:∃ O':Nat,O=O':=⟨O.toNat,by omega⟩
   have key:∀ o:Nat,o < b - a→∀ (h':Heap) (nx':Nat) (s':Int),nx ≤ nx'→hget h' id=some (rowB (Go.Sort.swp d i (a + o)))→hget h' q=some (.row 1 [.int .u64 s'])→(∀ j,j ≠ id→j ≠ q→hget h' j=hget h j) →
     @Ok Out (runs T [.code b138_0,.inL none b138_0,.inB 0] [(0,.sref 3 id n 0 n),(1,.int .i64 a),(8,.int .i64 (b - a:Nat)),(9,.ptr q 1 0 0),(10,.int .u64 M),(11,.int .i64 (i + 1:Nat))] h' nx')
      ⟨fun x=>@Ok FV (finV c138.res x) ⟨fun v=>v=.tup []∧∃ d',Go.Sort.PermIn a b d d'∧hget x.2.2.1 id=some (rowB d')∧nx ≤ x.2.2.2∧∀ j,j ≠ id→j ≠ q→hget x.2.2.1 j=hget h j⟩⟩:=by
    intro o ho h' nx' s' hnx k1 k2 k3
    refine A0e (ih (i + 1) _ h' nx' s' (by omega) (by omega) (by rw [A1s];exact hn) k1 k2) fun x hx=>A0e hx fun v hv=>?_
    obtain ⟨v1,d',v2,v3,v4,v5⟩:=hv
    exact ⟨v1,d',Go.Sort.permIn_trans _ _ _ a b (Go.Sort.swp_permIn d a b i (a + o) hi (by omega) (by omega) (by omega) (by omega)) v2,v3,by omega,fun j j1 j2=>(v5 j j1 j2).trans (k3 j j1 j2)⟩
   have hr3:=hr2
   rw [A1u] at hr3
   by_cases hg:b - a ≤ O
   ·have dg:decide (((b - a:Nat):Int) ≤ (O:Int))=true:=by simp;omega
    have eg:(O:Int) - ((b - a:Nat):Int)=((O - (b - a):Nat):Int):=by omega
    simp (disch:=first | exact Afb | fail) only [c138,e6,hO,dg,eg,na,na1,hr3,SR,EVS,Nat.reduceAdd,Nat.reduceSub,Int.reduceToNat,Nat.reduceMul,Nat.reduceEqDiff,Nat.reduceLeDiff,Int.reduceEq,Int.reduceLT,Int.reduceLE,↓reduceIte]
    refine A0c (key (O - (b - a)) (by omega) _ _ y (by omega) ?_ ?_ fun j j1 j2=>?_)
    ·exact A0z hr2
    ·rw [A04 (Ne.symm hq)];exact p2
    ·rw [A04 (Ne.symm j1)];exact p3 j j2
   ·have dg:decide (((b - a:Nat):Int) ≤ (O:Int))=false:=by simp;omega
    simp (disch:=first | exact Afb | fail) only [c138,e6,hO,dg,na,na1,hr3,SR,EVS,Nat.reduceAdd,Nat.reduceSub,Int.reduceToNat,Nat.reduceMul,Nat.reduceEqDiff,Nat.reduceLeDiff,Int.reduceEq,Int.reduceLT,Int.reduceLE,↓reduceIte]
    refine A0c (key O (by omega) _ _ y (by omega) ?_ ?_ fun j j1 j2=>?_)
    ·exact A0z hr2
    ·rw [A04 (Ne.symm hq)];exact p2
    ·rw [A04 (Ne.symm j1)];exact p3 j j2
  ·have h1:decide (i ≤ a + (b - a) / 4 * 2 + 1)=false:=by simp;omega
   simp (disch:=first | exact Afb | fail) only [unf b138_0.eq_1,c138,e2,e3,NA,h1,EVS,Nat.reduceAdd,Nat.reduceSub,Int.reduceToNat,Nat.reduceMul,Nat.reduceEqDiff,Nat.reduceLeDiff,Int.reduceEq,Int.reduceLT,Int.reduceLE,↓reduceIte]
   exact ⟨rfl,d,Go.Sort.permIn_refl d a b,hr,by omega,fun _ _ _=>trivial⟩
theorem Apj (id n a b:Nat) (d:Array Bd) (hab:a ≤ b) (hb:b ≤ n) (hN:n ≤ 500) (hn:d.size=n) (h:Heap) (nx:Nat) (hid:id < nx) (hr:hget h id=some (rowB d)) :
  ∃ r,lim T 138 [.sref 3 id n 0 n,.int .i64 a,.int .i64 b,.fn 67 []] h nx=some r∧r.1=.tup []∧∃ d',Go.Sort.PermIn a b d d'∧RowN id d' h nx r.2.1 r.2.2:=by
 refine A25 Azx rfl rfl ?_
 have e1:(b:Int) - a=((b - a:Nat):Int):=by omega
 by_cases h8:8 ≤ b - a
 ·have d8:decide ((8:Int) ≤ ((b - a:Nat):Int))=true:=by simp;omega
  obtain ⟨M,m1,m2,hM⟩:=Ams (b - a) (by omega) (by omega)
  have e2:((b - a:Nat):Int).tdiv 4=(((b - a) / 4:Nat):Int):=by rw [Int.tdiv_eq_ediv_of_nonneg (by omega)];omega
  have e3:(((b - a) / 4:Nat):Int) * 2=(((b - a) / 4 * 2:Nat):Int):=by omega
  have e4:((a + (b - a) / 4 * 2:Nat):Int) - 1=((a + (b - a) / 4 * 2 - 1:Nat):Int):=by omega
  simp (disch:=first | exact Afb | fail) only [c138,e1,e2,e3,e4,d8,na,hM,SR,EVS,Nat.reduceAdd,Nat.reduceSub,Int.reduceToNat,Nat.reduceMul,Nat.reduceEqDiff,Nat.reduceLeDiff,Int.reduceEq,Int.reduceLT,Int.reduceLE,↓reduceIte]
  refine A0e (Ap2 id n a b M (nx + 8) m1 m2 h8 hb hN (by omega) _ (a + (b - a) / 4 * 2 - 1) d _ _ ((b - a:Nat):Int) (Nat.le_refl _) (by omega) hn ?_ ?_) fun x hx=>A0e hx fun v hv=>?_
  ·rw [A06 (by omega)];exact hr
  ·exact A0a
  ·obtain ⟨v1,d',v2,v3,v4,v5⟩:=hv
   exact ⟨v1,d',v2,v3,by dsimp only;omega,fun i i1 i2=>(v5 i i2 (by omega)).trans (A06 (by omega))⟩
 ·have d8:decide ((8:Int) ≤ ((b - a:Nat):Int))=false:=by simp;omega
  simp (disch:=first | exact Afb | fail) only [c138,e1,d8,EVS,Nat.reduceAdd,Nat.reduceSub,Int.reduceToNat,Nat.reduceMul,Nat.reduceEqDiff,Nat.reduceLeDiff,Int.reduceEq,Int.reduceLT,Int.reduceLE,↓reduceIte]
  exact ⟨rfl,d,Go.Sort.permIn_refl d a b,hr,by omega,fun _ _ _=>rfl⟩
open Go.Sort (PermIn SortedIn Below SWO)
def SrtR (id n a b:Nat) (d:Array Bd) (h:Heap) (nx:Nat) (h':Heap) (nx':Nat):Prop:=∃ d',PermIn a b d d'∧SortedIn ltB a b d'∧d'.size=n∧RowN id d' h nx h' nx'
abbrev PQ (id n a b:Nat) (d:Array Bd) (h:Heap) (nx:Nat):Post Out:=⟨fun x=>@Ok FV (finV c105.res x) ⟨fun v=>v=.tup []∧SrtR id n a b d h nx x.2.2.1 x.2.2.2⟩⟩
abbrev HD (id n:Nat) (a b l:Nat) (wb wp:Bool):Tm:=[(0,.sref 3 id n 0 n),(1,.int .i64 a),(2,.int .i64 b),(3,.int .i64 l),(4,.fn 67 []),(10,.bool wb),(11,.bool wp)]
abbrev LP:List I:=[.code b105_0,.inL none b105_0,.inB 0]
abbrev IHp (id n m:Nat):Prop:=∀ (a b l:Nat) (wb wp:Bool) (d:Array Bd) (h:Heap) (nx:Nat),b - a < m→a ≤ b→b ≤ n→l ≤ 64→d.size=n→id < nx→Below ltB a b d→hget h id=some (rowB d)→@Ok Out (runs T LP (HD id n a b l wb wp) h nx) (PQ id n a b d h nx)
theorem Ai7 {P:Prop} (h:P:=by first|omega|(simp only[EVL]<;>omega)|(simp only[A0n,Nat.reduceEqDiff,↓reduceIte];done)|assumption|(simp (disch:=omega) only[A06,A0a,A04, *];done)|(simp only [A38];done)|with_unfolding_all rfl):P:=h
open Go.Sort (PermIn SortedIn Below SWO)
theorem Ael {e:Option Out} {id n a b:Nat} {d0 d:Array Bd} {h0 h:Heap} {nx0 nx:Nat} (hp:PermIn a b d0 d) (hr:RowN id d h0 nx0 h nx) (hk:@Ok Out e (PQ id n a b d h nx)):@Ok Out e (PQ id n a b d0 h0 nx0) :=
 A0e hk fun _ hx=>A0e hx fun _ hv=>by
  obtain ⟨v1,d',v2,v3,v4,v5⟩:=hv
  exact ⟨v1,d',Go.Sort.permIn_trans _ _ _ a b hp v2,v3,v4,RowN.trans hr v5⟩
theorem Ac3 (id n a b l:Nat) (d:Array Bd) (h:Heap) (nx:Nat) (ha:a ≤ n) (hb:b ≤ n) (hl:l ≤ 64) (hN:n ≤ 500) (hh:∀ nx',nx ≤ nx'→@Ok Out (runs T LP (HD id n a b l true true) h nx') (PQ id n a b d h nx')) :
  ∃ r,lim T 105 [.sref 3 id n 0 n,.int .i64 a,.int .i64 b,.int .i64 l,.fn 67 []] h nx=some r∧r.1=.tup []∧SrtR id n a b d h nx r.2.1 r.2.2:=by
 refine A25 B1n rfl rfl ?_
 simp (disch:=first | exact Ai7 | fail) only [c105,EVS,Nat.reduceAdd,Nat.reduceSub,Int.reduceToNat,Nat.reduceMul,Nat.reduceEqDiff,Nat.reduceLeDiff,Int.reduceEq,Int.reduceLT,Int.reduceLE,↓reduceIte]
 refine A0e (hh _ (by omega)) fun x hx=>A0e hx fun v hv=>?_
 obtain ⟨v1,d',v2,v3,v4,v5⟩:=hv
 exact ⟨v1,d',v2,v3,v4,RowN.up v5 (by omega) (Nat.le_refl _)⟩
abbrev LQ (c:C):List I:=[.code c,.inB 1,.inL none b105_0,.inB 0]
theorem st4 (id n m:Nat) (hN:n ≤ 500) (ih:IHp id n m) (a b l p:Nat) (wb wp:Bool) (d:Array Bd) (h:Heap) (nx:Nat) (x:Tm) (hm:b - a ≤ m) (h12:a + 12 < b) (hb:b ≤ n) (hl:l ≤ 64) (hn:d.size=n) (hid:id < nx) (hp1:a ≤ p) (hp2:p < b) (hB:Below ltB a b d) (hr:hget h id=some (rowB d)) :
  @Ok Out (runs T (LQ q105_4) ((0,.sref 3 id n 0 n)::(1,.int .i64 a)::(2,.int .i64 b)::(3,.int .i64 l)::(4,.fn 67 [])::(10,.bool wb)::(11,.bool wp)::(12,.int .i64 (b - a:Nat))::(13,.int .i64 p)::x) h nx) (PQ id n a b d h nx):=by
 have hps:=Am2 id n a b p d (by omega) hb hp1 hp2 (by omega) hn
 rcases hx:Go.Sort.partition ltB d a b p with ⟨mid,ap,d4⟩
 rw [hx] at hps
 obtain ⟨g1,g2,hs4,hBa,hBr,hleft,hright⟩:=Go.Sort.round_part swoB (Go.Sort.partition_holds _) hp1 hp2 (by omega) hB hx
 simp (disch:=first | exact Ai7 | fail) only [unf q105_4.eq_1,EVS,Nat.reduceAdd,Nat.reduceSub,Int.reduceToNat,Nat.reduceMul,Nat.reduceEqDiff,Nat.reduceLeDiff,Int.reduceEq,Int.reduceLT,Int.reduceLE,↓reduceIte]
 refine A09 (hps h _ hr) fun r hr1=>?_
 obtain ⟨r1,r2⟩:=hr1
 dsimp only at r1 r2
 rw [r1]
 refine ⟨rfl,?_⟩
 have e1:((mid:Nat):Int) - a=((mid - a:Nat):Int):=by omega
 have e2:((b:Nat):Int) - mid=((b - mid:Nat):Int):=by omega
 have e3:((mid:Nat):Int) + 1=((mid + 1:Nat):Int):=by omega
 by_cases hc:mid - a < b - mid
 ·have dc:decide (((mid - a:Nat):Int) < ((b - mid:Nat):Int))=true:=by simp;omega
  simp (disch:=first | exact Ai7 | fail) only [unf q105_3.eq_1,e1,e2,e3,dc,EVS,Nat.reduceAdd,Nat.reduceSub,Int.reduceToNat,Nat.reduceMul,Nat.reduceEqDiff,Nat.reduceLeDiff,Int.reduceEq,Int.reduceLT,Int.reduceLE,↓reduceIte]
  refine A09 (Ac3 id n a mid l d4 _ _ (by omega) (by omega) hl hN fun nx' hnx=>ih a mid l true true d4 _ nx' (by omega) g1 (by omega) hl (by omega) (by have:=r2.2.1;omega) hBa r2.1) fun r3 hr3=>?_
  obtain ⟨q1,d5,q2,q3,q4,q5⟩:=hr3
  rw [q1]
  refine ⟨rfl,?_⟩
  obtain ⟨hBL,hfin⟩:=hleft d5 q2 q3
  simp (disch:=first | exact Ai7 | fail) only [e3,EVS,Nat.reduceAdd,Nat.reduceSub,Int.reduceToNat,Nat.reduceMul,Nat.reduceEqDiff,Nat.reduceLeDiff,Int.reduceEq,Int.reduceLT,Int.reduceLE,↓reduceIte]
  refine A0c (A0e (ih (mid + 1) b l _ ap d5 _ _ (by omega) (by omega) hb hl q4 (by have:=r2.2.1;have:=q5.2.1;omega) hBL q5.1) fun y hy=>A0e hy fun v hv=>?_)
  obtain ⟨v1,d6,v2,v3,v4,v5⟩:=hv
  obtain ⟨f1,f2⟩:=hfin d6 v2 v3
  exact ⟨v1,d6,f1,f2,v4,((RowN.up r2 (by omega) (Nat.le_refl _)).trans (RowN.up q5 (by omega) (Nat.le_refl _))).trans (RowN.up v5 (by omega) (Nat.le_refl _))⟩
 ·have dc:decide (((mid - a:Nat):Int) < ((b - mid:Nat):Int))=false:=by simp;omega
  simp (disch:=first | exact Ai7 | fail) only [unf q105_3.eq_1,e1,e2,e3,dc,EVS,Nat.reduceAdd,Nat.reduceSub,Int.reduceToNat,Nat.reduceMul,Nat.reduceEqDiff,Nat.reduceLeDiff,Int.reduceEq,Int.reduceLT,Int.reduceLE,↓reduceIte]
  refine A09 (Ac3 id n (mid + 1) b l d4 _ _ (by omega) (by omega) hl hN fun nx' hnx=>ih (mid + 1) b l true true d4 _ nx' (by omega) (by omega) (by omega) hl (by omega) (by have:=r2.2.1;omega) hBr r2.1) fun r3 hr3=>?_
  obtain ⟨q1,d5,q2,q3,q4,q5⟩:=hr3
  rw [q1]
  refine ⟨rfl,?_⟩
  obtain ⟨hBL,hfin⟩:=hright d5 q2 q3
  simp (disch:=first | exact Ai7 | fail) only [e3,EVS,Nat.reduceAdd,Nat.reduceSub,Int.reduceToNat,Nat.reduceMul,Nat.reduceEqDiff,Nat.reduceLeDiff,Int.reduceEq,Int.reduceLT,Int.reduceLE,↓reduceIte]
  refine A0c (A0e (ih a mid l _ ap d5 _ _ (by omega) g1 (by omega) hl q4 (by have:=r2.2.1;have:=q5.2.1;omega) hBL q5.1) fun y hy=>A0e hy fun v hv=>?_)
  obtain ⟨v1,d6,v2,v3,v4,v5⟩:=hv
  obtain ⟨f1,f2⟩:=hfin d6 v2 v3
  exact ⟨v1,d6,f1,f2,v4,((RowN.up r2 (by omega) (Nat.le_refl _)).trans (RowN.up q5 (by omega) (Nat.le_refl _))).trans (RowN.up v5 (by omega) (Nat.le_refl _))⟩
theorem A39 {P:Prop} (h:P:=by first|omega|(simp only[EVL]<;>omega)|(simp only[A0n,Nat.reduceEqDiff,↓reduceIte];done)|assumption|(simp (disch:=omega) only[A06,A0a,A04, *];done)|(simp only [A38];done)|with_unfolding_all rfl):P:=h
open Go.Sort (PermIn SortedIn Below SWO)
theorem st5 (id n m:Nat) (hN:n ≤ 500) (ih:IHp id n m) (a b l p:Nat) (wb wp:Bool) (d:Array Bd) (h:Heap) (nx:Nat) (x:Tm) (hm:b - a ≤ m) (h12:a + 12 < b) (hb:b ≤ n) (hl:l ≤ 64) (hn:d.size=n) (hid:id < nx) (hp1:a ≤ p) (hp2:p < b) (hB:Below ltB a b d) (hr:hget h id=some (rowB d)) :
  @Ok Out (runs T (LQ q105_5) ((0,.sref 3 id n 0 n)::(1,.int .i64 a)::(2,.int .i64 b)::(3,.int .i64 l)::(4,.fn 67 [])::(10,.bool wb)::(11,.bool wp)::(12,.int .i64 (b - a:Nat))::(13,.int .i64 p)::x) h nx) (PQ id n a b d h nx):=by
 have hr':=hr
 rw [A1u] at hr'
 by_cases ha:0 < a
 ·have da:decide ((0:Int) < (a:Int))=true:=by simp;omega
  have e1:((a:Nat):Int) - 1=((a - 1:Nat):Int):=by omega
  cases hlt:ltB d[a - 1]! d[p]! with
  |true =>
   simp (disch:=first | exact A39 | fail) only [unf q105_5.eq_1,unf q105_2.eq_1,da,e1,A0h,hr',SR,A1d,hlt,EVS,Nat.reduceAdd,Nat.reduceSub,Int.reduceToNat,Nat.reduceMul,Nat.reduceEqDiff,Nat.reduceLeDiff,Int.reduceEq,Int.reduceLT,Int.reduceLE,↓reduceIte]
   exact A0e (st4 id n m hN ih a b l p wb wp d h _ _ hm h12 hb hl hn (by omega) hp1 hp2 hB hr) fun y hy=>A0e hy fun v hv=>by
    obtain ⟨v1,d6,v2,v3,v4,v5⟩:=hv
    exact ⟨v1,d6,v2,v3,v4,RowN.up v5 (by omega) (Nat.le_refl _)⟩
  |false =>
   have hps:=Ahx id n a b p d (by omega) hb hp1 hp2 (by omega) hn
   rcases hx:Go.Sort.partitionEqual ltB d a b p with ⟨mid,d4⟩
   rw [hx] at hps
   obtain ⟨g1,g2,hs4,hB4,hfin⟩:=Go.Sort.round_eq swoB (Go.Sort.partitionEqual_holds _) ha hp1 hp2 (by omega) hB hlt hx
   simp (disch:=first | exact A39 | fail) only [unf q105_5.eq_1,unf q105_2.eq_1,da,e1,A0h,hr',SR,A1d,hlt,EVS,Nat.reduceAdd,Nat.reduceSub,Int.reduceToNat,Nat.reduceMul,Nat.reduceEqDiff,Nat.reduceLeDiff,Int.reduceEq,Int.reduceLT,Int.reduceLE,↓reduceIte]
   refine A09 (hps h _ hr) fun r hr1=>?_
   obtain ⟨r1,r2⟩:=hr1
   dsimp only at r1 r2
   rw [r1]
   refine ⟨rfl,?_⟩
   simp (disch:=first | exact A39 | fail) only [w_xb,EVS,Nat.reduceAdd,Nat.reduceSub,Int.reduceToNat,Nat.reduceMul,Nat.reduceEqDiff,Nat.reduceLeDiff,Int.reduceEq,Int.reduceLT,Int.reduceLE,↓reduceIte]
   refine A0c (A0e (ih mid b l wb wp d4 _ _ (by omega) g2 hb hl (by omega) (by have:=r2.2.1;omega) hB4 r2.1) fun y hy=>A0e hy fun v hv=>?_)
   obtain ⟨v1,d6,v2,v3,v4,v5⟩:=hv
   obtain ⟨f1,f2⟩:=hfin d6 v2 v3
   exact ⟨v1,d6,f1,f2,v4,(RowN.up r2 (by omega) (Nat.le_refl _)).trans (RowN.up v5 (by omega) (Nat.le_refl _))⟩
 ·have da:decide ((0:Int) < (a:Int))=false:=by simp;omega
  simp (disch:=first | exact A39 | fail) only [unf q105_5.eq_1,unf q105_2.eq_1,da,EVS,Nat.reduceAdd,Nat.reduceSub,Int.reduceToNat,Nat.reduceMul,Nat.reduceEqDiff,Nat.reduceLeDiff,Int.reduceEq,Int.reduceLT,Int.reduceLE,↓reduceIte]
  exact A0e (st4 id n m hN ih a b l p wb wp d h _ _ hm h12 hb hl hn (by omega) hp1 hp2 hB hr) fun y hy=>A0e hy fun v hv=>by
   obtain ⟨v1,d6,v2,v3,v4,v5⟩:=hv
   exact ⟨v1,d6,v2,v3,v4,RowN.up v5 (by omega) (Nat.le_refl _)⟩
theorem st6 (id n m:Nat) (hN:n ≤ 500) (ih:IHp id n m) (a b l p:Nat) (t:Int) (wb wp:Bool) (d:Array Bd) (h:Heap) (nx:Nat) (x:Tm) (hm:b - a ≤ m) (h12:a + 12 < b) (hb:b ≤ n) (hl:l ≤ 64) (hn:d.size=n) (hid:id < nx) (hp1:a ≤ p) (hp2:p < b) (hB:Below ltB a b d) (hr:hget h id=some (rowB d)) :
  @Ok Out (runs T (LQ q105_6) ((0,.sref 3 id n 0 n)::(1,.int .i64 a)::(2,.int .i64 b)::(3,.int .i64 l)::(4,.fn 67 [])::(10,.bool wb)::(11,.bool wp)::(12,.int .i64 (b - a:Nat))::(13,.int .i64 p)::(14,.int .i64 t)::x) h nx) (PQ id n a b d h nx):=by
 have skip:∀ nx' x,nx ≤ nx'→@Ok Out (runs T (LQ q105_5) ((0,.sref 3 id n 0 n)::(1,.int .i64 a)::(2,.int .i64 b)::(3,.int .i64 l)::(4,.fn 67 [])::(10,.bool wb)::(11,.bool wp)::(12,.int .i64 (b - a:Nat))::(13,.int .i64 p)::x) h nx') (PQ id n a b d h nx):=fun nx' x hnx =>
  Ael (Go.Sort.permIn_refl d a b) (RowN.refl hr hnx) (st5 id n m hN ih a b l p wb wp d h nx' x hm h12 hb hl hn (by omega) hp1 hp2 hB hr)
 cases wb with
 |false =>
  simp (disch:=first | exact A39 | fail) only [unf q105_6.eq_1,EVS,Nat.reduceAdd,Nat.reduceSub,Int.reduceToNat,Nat.reduceMul,Nat.reduceEqDiff,Nat.reduceLeDiff,Int.reduceEq,Int.reduceLT,Int.reduceLE,↓reduceIte]
  exact skip _ _ (by omega)
 |true =>
  cases wp with
  |false =>
   simp (disch:=first | exact A39 | fail) only [unf q105_6.eq_1,EVS,Nat.reduceAdd,Nat.reduceSub,Int.reduceToNat,Nat.reduceMul,Nat.reduceEqDiff,Nat.reduceLeDiff,Int.reduceEq,Int.reduceLT,Int.reduceLE,↓reduceIte]
   exact skip _ _ (by omega)
  |true =>
   by_cases ht:t=1
   ·subst ht
    have hps:=Ai3 id n a b d (by omega) hb (by omega) hn
    have hpi:=Go.Sort.partialInsertionSort_holds (lt:=ltB) swoB d a b (by omega) (by omega) hB
    rcases hx:Go.Sort.partialInsertionSort ltB d a b with ⟨d3,done⟩
    rw [hx] at hps hpi
    dsimp only at hpi
    simp (disch:=first | exact A39 | fail) only [unf q105_6.eq_1,EVS,Nat.reduceAdd,Nat.reduceSub,Int.reduceToNat,Nat.reduceMul,Nat.reduceEqDiff,Nat.reduceLeDiff,Int.reduceEq,Int.reduceLT,Int.reduceLE,↓reduceIte]
    refine A09 (hps h _ hr) fun r hr1=>?_
    obtain ⟨r1,r2⟩:=hr1
    dsimp only at r1 r2
    rw [r1]
    refine ⟨rfl,?_⟩
    have s3:d3.size=n:=hpi.1.1.trans hn
    cases done with
    |true =>
     simp (disch:=first | exact A39 | fail) only [c105,EVS,Nat.reduceAdd,Nat.reduceSub,Int.reduceToNat,Nat.reduceMul,Nat.reduceEqDiff,Nat.reduceLeDiff,Int.reduceEq,Int.reduceLT,Int.reduceLE,↓reduceIte]
     exact ⟨rfl,d3,hpi.1,hpi.2 rfl,s3,RowN.up r2 (by omega) (by first | omega | (dsimp only;omega))⟩
    |false =>
     simp (disch:=first | exact A39 | fail) only [c105,EVS,Nat.reduceAdd,Nat.reduceSub,Int.reduceToNat,Nat.reduceMul,Nat.reduceEqDiff,Nat.reduceLeDiff,Int.reduceEq,Int.reduceLT,Int.reduceLE,↓reduceIte]
     refine Ael hpi.1 (RowN.up r2 (by omega) ?_) (st5 id n m hN ih a b l p true true d3 r.2.1 _ _ hm h12 hb hl s3 (by have:=r2.2.1;omega) hp1 hp2 (hB.perm (by omega) hpi.1) r2.1)
     omega
   ·have ht':decide (t=1)=false:=by simp;exact ht
    simp (disch:=first | exact A39 | fail) only [unf q105_6.eq_1,ht',EVS,Nat.reduceAdd,Nat.reduceSub,Int.reduceToNat,Nat.reduceMul,Nat.reduceEqDiff,Nat.reduceLeDiff,Int.reduceEq,Int.reduceLT,Int.reduceLE,↓reduceIte]
    exact skip _ _ (by omega)
theorem st7 (id n m:Nat) (hN:n ≤ 500) (ih:IHp id n m) (a b l p:Nat) (t:Int) (wb wp:Bool) (d:Array Bd) (h:Heap) (nx:Nat) (x:Tm) (hm:b - a ≤ m) (h12:a + 12 < b) (hb:b ≤ n) (hl:l ≤ 64) (hn:d.size=n) (hid:id < nx) (hp1:a ≤ p) (hp2:p < b) (hB:Below ltB a b d) (hr:hget h id=some (rowB d)) :
  @Ok Out (runs T (LQ q105_7) ((0,.sref 3 id n 0 n)::(1,.int .i64 a)::(2,.int .i64 b)::(3,.int .i64 l)::(4,.fn 67 [])::(10,.bool wb)::(11,.bool wp)::(12,.int .i64 (b - a:Nat))::(13,.int .i64 p)::(14,.int .i64 t)::x) h nx) (PQ id n a b d h nx):=by
 by_cases ht:t=2
 ·subst ht
  have hps:=Ao9 id n a b (.fn 67 []) d (by omega) hb (by omega) hn
  have hrv:=Go.Sort.reverseRange_holds d a b (by omega) (by omega)
  generalize Go.Sort.reverseRange d a b=d3 at *
  have e1:((b:Nat):Int) - 1=((b - 1:Nat):Int):=by omega
  have e2:((p:Nat):Int) - a=((p - a:Nat):Int):=by omega
  have e3:((b - 1:Nat):Int) - ((p - a:Nat):Int)=((b - 1 - (p - a):Nat):Int):=by omega
  simp (disch:=first | exact A39 | fail) only [unf q105_7.eq_1,EVS,Nat.reduceAdd,Nat.reduceSub,Int.reduceToNat,Nat.reduceMul,Nat.reduceEqDiff,Nat.reduceLeDiff,Int.reduceEq,Int.reduceLT,Int.reduceLE,↓reduceIte]
  refine A09 (hps h _ hr) fun r hr1=>?_
  obtain ⟨r1,r2⟩:=hr1
  rw [r1]
  refine ⟨rfl,?_⟩
  simp (disch:=first | exact A39 | fail) only [unf q105_1.eq_1,e1,e2,e3,EVS,Nat.reduceAdd,Nat.reduceSub,Int.reduceToNat,Nat.reduceMul,Nat.reduceEqDiff,Nat.reduceLeDiff,Int.reduceEq,Int.reduceLT,Int.reduceLE,↓reduceIte]
  have s3:d3.size=n:=hrv.1.trans hn
  refine Ael hrv (RowN.up r2 (by omega) ?_) (st6 id n m hN ih a b l (b - 1 - (p - a)) 1 wb wp d3 r.2.1 _ _ hm h12 hb hl s3 (by have:=r2.2.1;omega) (by omega) (by omega) (hB.perm (by omega) hrv) r2.1)
  omega
 ·have ht':decide (t=2)=false:=by simp;exact ht
  simp (disch:=first | exact A39 | fail) only [unf q105_7.eq_1,ht',EVS,Nat.reduceAdd,Nat.reduceSub,Int.reduceToNat,Nat.reduceMul,Nat.reduceEqDiff,Nat.reduceLeDiff,Int.reduceEq,Int.reduceLT,Int.reduceLE,↓reduceIte]
  exact Ael (Go.Sort.permIn_refl d a b) (RowN.refl hr (by omega)) (st6 id n m hN ih a b l p t wb wp d h _ _ hm h12 hb hl hn (by omega) hp1 hp2 hB hr)
theorem st8 (id n m:Nat) (hN:n ≤ 500) (ih:IHp id n m) (a b l:Nat) (wb wp:Bool) (d:Array Bd) (h:Heap) (nx:Nat) (x:Tm) (hm:b - a ≤ m) (h12:a + 12 < b) (hb:b ≤ n) (hl:l ≤ 64) (hn:d.size=n) (hid:id < nx) (hB:Below ltB a b d) (hr:hget h id=some (rowB d)) :
  @Ok Out (runs T (LQ q105_8) ((0,.sref 3 id n 0 n)::(1,.int .i64 a)::(2,.int .i64 b)::(3,.int .i64 l)::(4,.fn 67 [])::(10,.bool wb)::(11,.bool wp)::(12,.int .i64 (b - a:Nat))::x) h nx) (PQ id n a b d h nx):=by
 simp (disch:=first | exact A39 | fail) only [unf q105_8.eq_1,EVS,Nat.reduceAdd,Nat.reduceSub,Int.reduceToNat,Nat.reduceMul,Nat.reduceEqDiff,Nat.reduceLeDiff,Int.reduceEq,Int.reduceLT,Int.reduceLE,↓reduceIte]
 refine A09 (choose_spec id n a b d (by omega) hb (by omega) hn h _ (by omega) hr) fun r hr1=>?_
 obtain ⟨⟨p,t,r1,p1,p2⟩,r2⟩:=hr1
 rw [r1]
 refine ⟨rfl,?_⟩
 simp (disch:=first | exact A39 | fail) only [c105,EVS,Nat.reduceAdd,Nat.reduceSub,Int.reduceToNat,Nat.reduceMul,Nat.reduceEqDiff,Nat.reduceLeDiff,Int.reduceEq,Int.reduceLT,Int.reduceLE,↓reduceIte]
 refine Ael (Go.Sort.permIn_refl d a b) (RowN.up r2 (by omega) ?_) (st7 id n m hN ih a b l p t wb wp d r.2.1 _ _ hm h12 hb hl hn (by have:=r2.2.1;omega) p1 p2 hB r2.1)
 omega
theorem Aow (id n:Nat) (hN:n ≤ 500):∀ m,IHp id n m:=by
 intro m
 induction m with
 |zero=>intro a b l wb wp d h nx hm;omega
 |succ m ih =>
  intro a b l wb wp d h nx hm hab hb hl hn hid hB hr
  have e1:((b:Nat):Int) - a=((b - a:Nat):Int):=by omega
  by_cases h12:b - a ≤ 12
  ·have d12:decide (((b - a:Nat):Int) ≤ 12)=true:=by simp;omega
   have hps:=Aq4 id n a b d (by omega) hb (by omega) hn
   obtain ⟨i1,i2⟩:=Go.Sort.insertionSort_holds (lt:=ltB) swoB d a b hab (by omega)
   generalize Go.Sort.insertionSort ltB d a b=d3 at *
   simp (disch:=first | exact A39 | fail) only [unf b105_0.eq_1,c105,e1,d12,EVS,Nat.reduceAdd,Nat.reduceSub,Int.reduceToNat,Nat.reduceMul,Nat.reduceEqDiff,Nat.reduceLeDiff,Int.reduceEq,Int.reduceLT,Int.reduceLE,↓reduceIte]
   refine A09 (hps h _ hr) fun r hr1=>?_
   obtain ⟨r1,r2⟩:=hr1
   rw [r1]
   refine ⟨rfl,?_⟩
   simp (disch:=first | exact A39 | fail) only [c105,EVS,Nat.reduceAdd,Nat.reduceSub,Int.reduceToNat,Nat.reduceMul,Nat.reduceEqDiff,Nat.reduceLeDiff,Int.reduceEq,Int.reduceLT,Int.reduceLE,↓reduceIte]
   exact ⟨rfl,d3,i1,i2,i1.1.trans hn,RowN.up r2 (by omega) (by first | omega | (dsimp only;omega))⟩
  ·have d12:decide (((b - a:Nat):Int) ≤ 12)=false:=by simp;omega
   by_cases hl0:l=0
   ·subst hl0
    have hps:=Alr id n a b d (by omega) hb (by omega) hn
    obtain ⟨i1,i2⟩:=Go.Sort.heapSort_holds (lt:=ltB) swoB d a b hab (by omega)
    generalize Go.Sort.heapSort ltB d a b=d3 at *
    have z0:(((0:Nat):Int)=0)=True:=by simp
    simp (disch:=first | exact A39 | fail) only [unf b105_0.eq_1,c105,e1,d12,unf q105_10.eq_1,z0,decide_true,EVS,Nat.reduceAdd,Nat.reduceSub,Int.reduceToNat,Nat.reduceMul,Nat.reduceEqDiff,Nat.reduceLeDiff,Int.reduceEq,Int.reduceLT,Int.reduceLE,↓reduceIte]
    refine A09 (hps h _ hr) fun r hr1=>?_
    obtain ⟨r1,r2⟩:=hr1
    rw [r1]
    refine ⟨rfl,?_⟩
    simp (disch:=first | exact A39 | fail) only [c105,EVS,Nat.reduceAdd,Nat.reduceSub,Int.reduceToNat,Nat.reduceMul,Nat.reduceEqDiff,Nat.reduceLeDiff,Int.reduceEq,Int.reduceLT,Int.reduceLE,↓reduceIte]
    exact ⟨rfl,d3,i1,i2,i1.1.trans hn,RowN.up r2 (by omega) (by first | omega | (dsimp only;omega))⟩
   ·have dl:decide ((l:Int)=0)=false:=by simp;exact hl0
    have el:((l:Nat):Int) - 1=((l - 1:Nat):Int):=by omega
    cases wb with
    |true =>
     simp (disch:=first | exact A39 | fail) only [unf b105_0.eq_1,c105,e1,d12,dl,unf q105_10.eq_1,unf q105_9.eq_1,EVS,Nat.reduceAdd,Nat.reduceSub,Int.reduceToNat,Nat.reduceMul,Nat.reduceEqDiff,Nat.reduceLeDiff,Int.reduceEq,Int.reduceLT,Int.reduceLE,↓reduceIte]
     exact Ael (Go.Sort.permIn_refl d a b) (RowN.refl hr (by omega)) (st8 id n m hN ih a b l true wp d h _ _ (by omega) (by omega) hb hl hn (by omega) hB hr)
    |false =>
     simp (disch:=first | exact A39 | fail) only [unf b105_0.eq_1,c105,e1,d12,dl,unf q105_10.eq_1,unf q105_9.eq_1,EVS,Nat.reduceAdd,Nat.reduceSub,Int.reduceToNat,Nat.reduceMul,Nat.reduceEqDiff,Nat.reduceLeDiff,Int.reduceEq,Int.reduceLT,Int.reduceLE,↓reduceIte]
     refine A09 (Apj id n a b d hab hb hN hn h _ (by omega) hr) fun r hr1=>?_
     obtain ⟨r1,d1,k1,r2⟩:=hr1
     rw [r1]
     refine ⟨rfl,?_⟩
     simp (disch:=first | exact A39 | fail) only [c105,el,EVS,Nat.reduceAdd,Nat.reduceSub,Int.reduceToNat,Nat.reduceMul,Nat.reduceEqDiff,Nat.reduceLeDiff,Int.reduceEq,Int.reduceLT,Int.reduceLE,↓reduceIte]
     refine Ael k1 (RowN.up r2 (by omega) ?_) (st8 id n m hN ih a b (l - 1) false wp d1 r.2.1 _ _ (by omega) (by omega) hb (by omega) (k1.1.trans hn) (by have:=r2.2.1;omega) (hB.perm (by omega) k1) r2.1)
     omega
theorem Aj0 (id n:Nat) (d:Array Bd) (hN:n ≤ 500) (hn:d.size=n) (h:Heap) (nx:Nat) (hid:id < nx) (hr:hget h id=some (rowB d)) :
  ∃ r,lim T 66 [.sref 3 id n 0 n,.fn 67 []] h nx=some r∧r.1=.tup []∧SrtR id n 0 n d h nx r.2.1 r.2.2:=by
 obtain ⟨L,l1,hL⟩:=Amw n (by omega)
 refine A25 tg66 rfl rfl ?_
 simp (disch:=first | exact A39 | fail) only [c66,hL,EVS,Nat.reduceAdd,Nat.reduceSub,Int.reduceToNat,Nat.reduceMul,Nat.reduceEqDiff,Nat.reduceLeDiff,Int.reduceEq,Int.reduceLT,Int.reduceLE,↓reduceIte]
 refine A09 (Ac3 id n 0 n L d h _ (by omega) (Nat.le_refl _) l1 hN fun nx' hnx=>Aow id n hN (n + 1) 0 n L true true d h nx' (by omega) (by omega) (Nat.le_refl _) l1 hn (by omega) (.inl rfl) hr) fun r hr1=>?_
 obtain ⟨r1,d6,v2,v3,v4,v5⟩:=hr1
 rw [r1]
 refine ⟨rfl,?_⟩
 simp (disch:=first | exact A39 | fail) only [c66,EVS,Nat.reduceAdd,Nat.reduceSub,Int.reduceToNat,Nat.reduceMul,Nat.reduceEqDiff,Nat.reduceLeDiff,Int.reduceEq,Int.reduceLT,Int.reduceLE,↓reduceIte]
 exact ⟨rfl,d6,v2,v3,v4,RowN.up v5 (by omega) (by first | omega | (dsimp only;omega))⟩
theorem d_V1 {P:Prop} (h:P:=by first|omega|(simp only[EVL]<;>omega)|(simp only[A0n,Nat.reduceEqDiff,↓reduceIte];done)|assumption|(simp (disch:=omega) only[A06,A0a,A04, *];done)|(simp only [A38,A11,List.length_map];done)|with_unfolding_all rfl):P:=h
open Go.Sort (PermIn SortedIn)
theorem bS0:bS=bd0:=rfl
def VP (q iid:Nat) (dn:List (FV × FV)) (m:Tm) (h:Heap) (nx:Nat):Prop:=∃ D:Env0,dn=D.map kvV∧A0g m c27.keep0=[(2,.lst true []),(3,.int .i64 0),(7,.sref 3 q D.length 0 D.length),(21,.ptr iid 1 0 0)]∧hget h q=some (.row 3 (D.map bd0))∧q < nx∧iid < nx∧iid ≠ q
theorem Al7 (q iid:Nat) (en:Env0) (hen:en.length ≤ 400) (dn:List (FV × FV)) (e:FV × FV) (rest:List (FV × FV)) (m:Tm) (h:Heap) (nx:Nat) (hp:(dn ++ e::rest).Perm (en.map kvV)) (hP:VP q iid dn m h nx) :
  ∃ y,A6i (rops (np (lim T))) (runs T) c27 e (A0g m c27.keep0) h nx=some y∧VP q iid (dn ++ [e]) y.1 y.2.1 y.2.2:=by
 obtain ⟨D,rfl,h1,h2,h3,h4,h5⟩:=hP
 have he:e ∈ en.map kvV:=hp.mem_iff.1 (by simp)
 obtain ⟨p,_,rfl⟩:=List.mem_map.1 he
 have hlen:D.length + 1 ≤ 400:=by
  have:=hp.length_eq
  simp only [List.length_append,List.length_map,List.length_cons] at this
  omega
 rw [h1]
 unfold A6i
 show @Ok (Tm × Heap × Nat) (@FI.B (Tm × Heap × Nat) (Tm × Heap × Nat) (rops _ _ _ _ _ _) ⟨_⟩) ⟨_⟩
 simp only [c27,kvV]
 simp (disch:=first | exact d_V1 | fail) only [EVS,Nat.reduceAdd,Nat.reduceSub,Int.reduceToNat,Nat.reduceMul,Nat.reduceEqDiff,Nat.reduceLeDiff,Int.reduceEq,Int.reduceLT,Int.reduceLE,↓reduceIte]
 refine Anu ?_
 simp (disch:=first | exact d_V1 | fail) only [c27,unf b27_0.eq_1,h2,EVS,Nat.reduceAdd,Nat.reduceSub,Int.reduceToNat,Nat.reduceMul,Nat.reduceEqDiff,Nat.reduceLeDiff,Int.reduceEq,Int.reduceLT,Int.reduceLE,↓reduceIte]
 exact ⟨D ++ [p],by simp [kvV],by simp,by rw [A0z h2];simp [bd0],by omega,by omega,h5⟩
theorem Aox (t:Te) (q iid:Nat) (en:Env0) (hv:A4n t=.inl en) (hen:en.length ≤ 400) (dn:List (FV × FV)) (m:Tm) (h:Heap) (nx:Nat) (hp:dn.Perm (en.map kvV)) (hP:VP q iid dn m h nx) :
  bnd (runs T [.code c27.post] (A0g m c27.keep0) h nx) (resM c27.res)=some (.tup [.lst false ((insE [] (A0d t)).map bd0),.int .i64 0]):=by
 obtain ⟨D,rfl,h1,h2,h3,h4,h5⟩:=hP
 have hpD:D.Perm en:=by
  have:=hp.map (fun e:FV × FV=>match e with | (.str n,.int _ w)=>(n,w) | _=>(([]:List UInt8),(0:Int)))
  simpa [List.map_map,Function.comp_def,kvV] using this
 have hlen:D.length ≤ 400:=by rw [hpD.length_eq];exact hen
 rw [h1]
 refine Aye ?_
 show @Ok FV (@FI.B Out FV (runs _ _ _ _ _) ⟨_⟩) ⟨_⟩
 refine Anu ?_
 simp only [c27]
 simp (disch:=first | exact d_V1 | fail) only [unf k27_1.eq_1,EVS,Nat.reduceAdd,Nat.reduceSub,Int.reduceToNat,Nat.reduceMul,Nat.reduceEqDiff,Nat.reduceLeDiff,Int.reduceEq,Int.reduceLT,Int.reduceLE,↓reduceIte]
 refine A09 (Aj0 q D.length D.toArray (by omega) (by simp) h _ (by omega) h2) fun r hr=>?_
 obtain ⟨r1,d',p1,p2,p3,p4⟩:=hr
 rw [r1]
 refine ⟨rfl,?_⟩
 obtain ⟨s1,s2⟩:=Ajm (n:=D.length) (by simp) p3 p1 p2 (by
  show ND D
  exact List.Perm.pairwise hpD.symm (Ac4 hv) (fun h=>Ne.symm h))
 have hone:=Aob hv s1 fun p=>by rw [s2];exact hpD.mem_iff
 have hrow:=p4.1
 have hl:d'.toList.length=D.length:=by rw [← p3];simp
 unfold rowB at hrow
 rw [bS0,hone] at hrow
 rw [hone] at hl
 generalize insE [] (A0d t)=L at *
 have hl2:L.length ≤ 400:=by omega
 rw [← hl]
 simp (disch:=first | exact d_V1 | fail) only [Aqk,Avv,c27,hrow,EVS,Nat.reduceAdd,Nat.reduceSub,Int.reduceToNat,Nat.reduceMul,Nat.reduceEqDiff,Nat.reduceLeDiff,Int.reduceEq,Int.reduceLT,Int.reduceLE,↓reduceIte]
open Classical in
noncomputable def Abh (e:Bool) (t:Te):FV:=if A15 t=0 then .tup [.lst e ((insE [] (A0d t)).map bd0),.int .i64 0] else .tup [.lst true [],.int .i64 (A15 t)]
theorem Ant (t:Te) (hl:size t ≤ 1000000) (hk:KOk t):∀ h nx,lim T 27 [.agg [.int .u8 (t).k,.int .i64 (t).w,.int .u64 (t).b,.str (t).s,.int .i64 (t).lo,.lst (t).e ((t).l.map tV)]] h nx=some (Abh false t,h,nx):=by
 have hck:=Aht t hl hk
 refine Ay2 tg27 (Az8 rfl (by simp [pures,A0i,A2m]) ?_)
 refine Agw ?_
 simp (disch:=first | exact d_V1 | fail) only [c27,EVS,Nat.reduceAdd,Nat.reduceSub,Int.reduceToNat,Nat.reduceMul,Nat.reduceEqDiff,Nat.reduceLeDiff,Int.reduceEq,Int.reduceLT,Int.reduceLE,↓reduceIte]
 refine Agw ?_
 by_cases hc:A15 t=0
 ·have hv:∃ en,A4n t=.inl en∧size t ≤ 400:=by
   unfold A15 at hc
   split at hc
   ·cases hc
   ·split at hc
    ·split at hc
     ·rename_i en he;exact ⟨en,he,by omega⟩
     ·cases hc
    ·cases hc
  obtain ⟨en,hv,hs⟩:=hv
  have hvv:Abh false t=.tup [.lst false ((insE [] (A0d t)).map bd0),.int .i64 0]:=if_pos hc
  rw [hvv]
  simp (disch:=first | exact d_V1 | fail) only [c27,TL,hck,hc,EVS,Nat.reduceAdd,Nat.reduceSub,Int.reduceToNat,Nat.reduceMul,Nat.reduceEqDiff,Nat.reduceLeDiff,Int.reduceEq,Int.reduceLT,Int.reduceLE,↓reduceIte]
  refine Agw ?_
  simp (disch:=first | exact d_V1 | fail) only [c27,TL,EVS,Nat.reduceAdd,Nat.reduceSub,Int.reduceToNat,Nat.reduceMul,Nat.reduceEqDiff,Nat.reduceLeDiff,Int.reduceEq,Int.reduceLT,Int.reduceLE,↓reduceIte]
  refine A09 (A5l t hl _ _) fun r hr=>?_
  obtain ⟨v,h',nx'⟩:=r
  rw [hv] at hr
  obtain ⟨rfl,q1,q2,q3⟩:=hr
  dsimp only at q1 q2 q3
  refine ⟨rfl,?_⟩
  simp (disch:=first | exact d_V1 | fail) only [c27,EVS,Nat.reduceAdd,Nat.reduceSub,Int.reduceToNat,Nat.reduceMul,Nat.reduceEqDiff,Nat.reduceLeDiff,Int.reduceEq,Int.reduceLT,Int.reduceLE,↓reduceIte]
  refine Agw ?_
  simp (disch:=first | exact d_V1 | fail) only [c27,EVS,Nat.reduceAdd,Nat.reduceSub,Int.reduceToNat,Nat.reduceMul,Nat.reduceEqDiff,Nat.reduceLeDiff,Int.reduceEq,Int.reduceLT,Int.reduceLE,↓reduceIte]
  refine As2 ?_
  refine ⟨18,en.map kvV,rfl,by (simp (disch:=omega) only [A06,A0a,A04,A1h,Option.map_some, *]),?_⟩
  have hlen:en.length ≤ 400:=by
   have h1:=(List.perm_ext_iff_of_nodup (List.Pairwise.imp (fun {a b} hab e=>hab (by rw [e])) (Ac4 hv)) (A4w (A0d t) [] [] List.Pairwise.nil (fun _=>Iff.rfl) (by simpa using (A4c hv).1)).1.nodup).2 fun p=>by rw [Ad4 hv,(A4w (A0d t) [] [] List.Pairwise.nil (fun _=>Iff.rfl) (by simpa using (A4c hv).1)).2 p];simp
   have h2:∀ (L out:Env0),(insE out L).length ≤ out.length + L.length:=by
    intro L
    induction L with
    |nil=>intro out;exact Nat.le_refl _
    |cons p L ih=>intro out;have:=ih (A4b out p);have:=A8n out p;simp only [insE,List.length_cons];omega
   have h3:=h2 (A0d t) []
   have h4:(A0d t).length ≤ size t:=by have:=A6c (A0k t);rw [A3d] at this;exact this
   have h5:=h1.length_eq
   simp only [List.length_nil] at h3
   omega
  refine Ahp (en:=en.map kvV) (VP nx' (nx' + 1)) (fun dn m h nx hP=>?_) (fun dn e rest m h nx hp hP=>Al7 nx' (nx' + 1) en hlen dn e rest m h nx hp hP) (fun dn m h nx hp hP=>Aox t nx' (nx' + 1) en hv hlen dn m h nx hp hP) _ _ [] _ _ _ (Nat.le_refl _) (List.Perm.refl _) ?_
  ·obtain ⟨D,_,h1,_⟩:=hP
   rw [h1]
   simp [gt,c27,eqv]
  ·refine ⟨[],rfl,?_,?_,by dsimp only;omega,by dsimp only;omega,by omega⟩
   ·simp [A0g,gt,put,c27]
   ·simp (disch:=omega) only [A06,A0a,A04,List.map_nil]
 ·have hvv:Abh false t=.tup [.lst true [],.int .i64 (A15 t)]:=if_neg hc
  rw [hvv]
  have hc':decide (A15 t=0)=false:=by simp;exact hc
  simp (disch:=first | exact d_V1 | fail) only [c27,TL,hck,hc',EVS,Nat.reduceAdd,Nat.reduceSub,Int.reduceToNat,Nat.reduceMul,Nat.reduceEqDiff,Nat.reduceLeDiff,Int.reduceEq,Int.reduceLT,Int.reduceLE,↓reduceIte]
  simp (disch:=first | exact d_V1 | fail) only [Aqk,Avv,EVS,Nat.reduceAdd,Nat.reduceSub,Int.reduceToNat,Nat.reduceMul,Nat.reduceEqDiff,Nat.reduceLeDiff,Int.reduceEq,Int.reduceLT,Int.reduceLE,↓reduceIte]
theorem d_V7 {P:Prop} (h:P:=by first|omega|(simp only[EVL]<;>omega)|(simp only[A0n,Nat.reduceEqDiff,↓reduceIte];done)|assumption|(simp (disch:=omega) only[A06,A0a,A04, *];done)|(simp only [TL,A0p,EnL,A11];done)|with_unfolding_all rfl):P:=h
theorem Apt {env:Env} (mono:∀ a b,a < b→b < env.length→Op.bytesLess (nm env a) (nm env b)=true) {s:List UInt8} {i:Nat} (lo:∀ k,k < i→Op.bytesLess (nm env k) s=true) (hi:∀ k,i ≤ k→k < env.length→¬ Op.bytesLess (nm env k) s=true) :
  A37 env s=if i < env.length∧(env.getD i ([],0,0)).1=s then some (env.getD i ([],0,0)) else none:=by
 have ne:∀ k,k < i→¬ nm env k=s:=fun k hk e=>by have:=lo k hk;rw [e,A51] at this;cases this
 split
 ·rename_i h
  exact Am1 env s i h.1 ne h.2
 ·rename_i h
  refine Akf env s fun k hk e=>?_
  by_cases h1:k < i
  ·exact ne k h1 e
  ·by_cases h2:k=i
   ·subst h2;exact h ⟨hk,e⟩
   ·have:=hi i (by omega) (by omega)
    rw [← e] at this
    exact this (mono i k (by omega) hk)
def oneE (env:Env) (p:List UInt8 × Int):Int:=match A37 env p.1 with
 |none=>16
 |some q=>if q.2.1=p.2 then 0 else 14
def A23 (env:Env):Env0→Int
 |[]=>0
 |p::r=>if oneE env p=0 then A23 env r else oneE env p
def rhoE (env:Env) (s:List UInt8):Nat:=match A37 env s with
 |some q=>q.2.2.toNat
 |none=>0
open Classical in
noncomputable def A7u (t:Te) (env:Env) (m:Mem):Int :=
 if A15 t=0 then if chkB env=0 then if chkM m=0 then A23 env (insE [] (A0d t)) else 8 else 8 else A15 t
open Classical in
noncomputable def valV (t:Te) (env:Env) (m:Mem):FV:=.tup [.int .u64 (if A7u t env m=0 then vM (rhoE env) m t else 0:Nat),.int .i64 (A7u t env m)]
def upE (env:Env) (p:List UInt8 × Int):List UInt8 × Nat:=(p.1,rhoE env p.1)
theorem Als {env:Env} {s:List UInt8}:∀ {L:Env0},(∀ p ∈ L,p.1 ≠ s)→lkU (L.map (upE env)) s=none:=by
 intro L
 induction L with
 |nil=>intro _;rfl
 |cons p L ih =>
  intro h
  simp only [List.map_cons,upE,lkU]
  rw [if_neg (fun e=>h p (by simp) e.symm)]
  exact ih fun q hq=>h q (by simp [hq])
theorem As4 {env:Env} {s:List UInt8}:∀ {L:Env0},(∃ p ∈ L,p.1=s)→lkU (L.map (upE env)) s=some (rhoE env s):=by
 intro L
 induction L with
 |nil=>rintro ⟨p,hp,_⟩;cases hp
 |cons p L ih =>
  rintro ⟨q,hq,rfl⟩
  simp only [List.map_cons,upE,lkU]
  by_cases e:q.1=p.1
  ·rw [if_pos e,e]
  ·rw [if_neg e]
   rcases List.mem_cons.1 hq with rfl | hq
   ·exact absurd rfl e
   ·exact ih ⟨q,hq,rfl⟩
theorem Ais {env:Env}:∀ {L:Env0},(∀ p ∈ L,oneE env p=0)→A23 env L=0:=by
 intro L
 induction L with
 |nil=>intro _;rfl
 |cons p L ih =>
  intro h
  simp only [A23]
  rw [if_pos (h p (by simp))]
  exact ih fun q hq=>h q (by simp [hq])
theorem Af3 {env:Env}:∀ {L:Env0},A23 env L=0→∀ p ∈ L,oneE env p=0:=by
 intro L
 induction L with
 |nil=>intro _ p hp;cases hp
 |cons q L ih =>
  intro h p hp
  simp only [A23] at h
  by_cases hq:oneE env q=0
  ·rw [if_pos hq] at h
   rcases List.mem_cons.1 hp with rfl | hp
   ·exact hq
   ·exact ih h p hp
  ·rw [if_neg hq] at h;exact absurd h hq
theorem Ann {env:Env} {p:List UInt8 × Int} {R:Env0} (hp:oneE env p ≠ 0):∀ {L:Env0},(∀ q ∈ L,oneE env q=0)→A23 env (L ++ p::R)=oneE env p:=by
 intro L
 induction L with
 |nil=>intro _;simp only [List.nil_append,A23];rw [if_neg hp]
 |cons q L ih =>
  intro h
  simp only [List.cons_append,A23]
  rw [if_pos (h q (by simp))]
  exact ih fun r hr=>h r (by simp [hr])
theorem As3 {L:Env0} (h:SL L) {i:Nat} (hi:i < L.length):∀ p ∈ L.take i,p.1 ≠ (L.getD i ([],0)).1:=by
 intro p hp e
 obtain ⟨j,hj,rfl⟩:=List.mem_iff_getElem.1 hp
 rw [List.length_take] at hj
 have:=List.pairwise_iff_getElem.1 h j i (by omega) hi (by omega)
 rw [List.getElem_take] at e
 have e2:L.getD i ([],0)=L[i]:=by simp [List.getD,hi]
 rw [e,e2,A51] at this
 cases this
theorem Aaj {L:Env0} {i:Nat} (h:i < L.length):L.take (i + 1)=L.take i ++ [L.getD i ([],0)]:=by
 rw [List.take_add_one];simp [List.getD,h]
theorem Aad {L:Env0} {i:Nat} (h:i < L.length):L.drop i=L.getD i ([],0)::L.drop (i + 1):=by
 rw [List.drop_eq_getElem_cons h];simp [List.getD,h]
theorem lo_u (b:Nat) (E:EnvU):((E.map kvU).all fun e=>low b e.1 && low b e.2)=true:=by
 rw [List.all_eq_true];intro x hx;obtain ⟨p,_,rfl⟩:=List.mem_map.1 hx;rfl
abbrev VQ (t:Te) (env:Env) (m:Mem) (L:Env0):Post Out:=⟨fun x=>finV c11.res x=some (.tup [.int .u64 (if A23 env L=0 then vM (rhoE env) m t else 0:Nat),.int .i64 (A23 env L)])⟩
theorem Abd {env:Env} (hx:∀ p ∈ env,0 ≤ p.2.2∧p.2.2 ≤ 18446744073709551615) {s:List UInt8} {q:List UInt8 × Int × Int} (h:A37 env s=some q):q ∈ env∧q.1=s∧0 ≤ q.2.2:=by
 have hm:=List.mem_of_find?_eq_some h
 have hp:=List.find?_some h
 exact ⟨hm,by simpa using hp,(hx q hm).1⟩
theorem Alk (e d:Bool) (env:Env) (m:Mem) (hm:okM m) (hms:memS m) (hl:env.length ≤ 1000) (hx:∀ p ∈ env,0 ≤ p.2.2∧p.2.2 ≤ 18446744073709551615) (hg:∀ i,i < env.length→Acv env i) (t:Te) (hn:A1a t) (ht:TOk t) (hs:size t ≤ 1000000) (L:Env0) (hL:SL L) (hLt:∀ p,p ∈ L ↔ p ∈ A0d t) (hll:L.length ≤ 1000) :
  ∀ (k i:Nat),i + k=L.length→(∀ p ∈ L.take i,oneE env p=0) →
  @Ok Out (runs T [.code b11_0,.inL (some 27) b11_0,.inB 0,.code k11_1] [(1,.lst e (env.map bdV)),(2,.lst d (m.map ceV)),(3,.ptr 0 1 0 0),(12,.map 22),(36,.lst false (L.map bd0)),(37,.int .i64 L.length),(38,.int .i64 i)] [(22,.mp (((L.take i).map (upE env)).map kvU)),(0,.row 6 [.agg [.int .u8 (t).k,.int .i64 (t).w,.int .u64 (t).b,.str (t).s,.int .i64 (t).lo,.lst (t).e ((t).l.map tV)]])] 27) (VQ t env m L):=by
 have mono:=Atc hg
 intro k
 induction k with
 |zero =>
  intro i hi hz
  have d1:decide ((i:Int) < L.length)=false:=by simp;omega
  rw [List.take_of_length_le (by omega)] at hz ⊢
  have hE:∀ x ∈ A0k t,x.k=2→rhoU (L.map (upE env)) x.s=rhoE env x.s:=fun x hx hk=>by
   unfold rhoU
   rw [As4 ⟨(x.s,x.w),(hLt _).2 ?_,rfl⟩];rfl
   have:∀ xs:List Te,x ∈ xs→(x.s,x.w) ∈ varL xs:=by
    intro xs
    induction xs with
    |nil=>intro h;cases h
    |cons y ys ih =>
     intro h
     simp only [varL]
     rcases List.mem_cons.1 h with rfl | h
     ·rw [if_pos hk];simp
     ·split
      ·exact List.mem_cons_of_mem _ (ih h)
      ·exact ih h
   exact this _ hx
  have hvar:∀ x ∈ A0k t,x.k=2→(x.s,x.w) ∈ L:=fun x hx hk=>by
   refine (hLt _).2 ?_
   have:∀ xs:List Te,x ∈ xs→(x.s,x.w) ∈ varL xs:=by
    intro xs
    induction xs with
    |nil=>intro h;cases h
    |cons y ys ih =>
     intro h
     simp only [varL]
     rcases List.mem_cons.1 h with rfl | h
     ·rw [if_pos hk];simp
     ·split
      ·exact List.mem_cons_of_mem _ (ih h)
      ·exact ih h
   exact this _ hx
  have hb:A7s (rhoU (L.map (upE env))) t:=fun x hxn hk=>by
   rw [hE x hxn hk]
   have h1:=hz _ (hvar x hxn hk)
   unfold oneE at h1
   unfold rhoE
   cases hq:A37 env x.s with
   |none=>rw [hq] at h1;cases h1
   |some q =>
    rw [hq] at h1
    simp only at h1 ⊢
    split at h1
    ·rename_i hw
     obtain ⟨q1,q2,q3⟩:=Abd hx hq
     obtain ⟨j,hj,rfl⟩:=List.mem_iff_getElem.1 q1
     have hgj:=(hg j hj).2.1
     have ej:env.getD j ([],0,0)=env[j]:=by simp [List.getD,hj]
     rw [ej,hw] at hgj
     exact Aft hgj q3
    ·cases h1
  have hv:=fun nx (hnx:22 < nx)=>Ahu (L.map (upE env)) 22 d m hm hms t hn ht hb [(22,.mp ((L.map (upE env)).map kvU)),(0,.row 6 [.agg [.int .u8 (t).k,.int .i64 (t).w,.int .u64 (t).b,.str (t).s,.int .i64 (t).lo,.lst (t).e ((t).l.map tV)]])] nx hnx rfl
  have hcg:vM (rhoU (L.map (upE env))) m t=vM (rhoE env) m t:=Aiw t hE
  rw [hcg] at hv
  have hf:=Ais hz
  simp (disch:=first | exact d_V7 | fail) only [unf b11_0.eq_1,unf k11_1.eq_1,c11,d1,TL,EVS,Nat.reduceAdd,Nat.reduceSub,Int.reduceToNat,Nat.reduceMul,Nat.reduceEqDiff,Nat.reduceLeDiff,Int.reduceEq,Int.reduceLT,Int.reduceLE,↓reduceIte]
  refine A09 (hv _ (by omega)) fun r hr=>?_
  obtain ⟨v,h',nx'⟩:=r
  obtain ⟨rfl,e1,e2⟩:=hr
  refine ⟨rfl,?_⟩
  simp (disch:=first | exact d_V7 | fail) only [c11,EVS,Nat.reduceAdd,Nat.reduceSub,Int.reduceToNat,Nat.reduceMul,Nat.reduceEqDiff,Nat.reduceLeDiff,Int.reduceEq,Int.reduceLT,Int.reduceLE,↓reduceIte]
  rw [hf,if_pos rfl]
 |succ k ih =>
  intro i hi hz
  have hil:i < L.length:=by omega
  have d1:decide ((i:Int) < L.length)=true:=by simp;omega
  have ei:(i:Int) + 1=((i + 1:Nat):Int):=by omega
  obtain ⟨r,⟨j,hj,lo,hi',rfl⟩,hr⟩:=Afe e env (L.getD i ([],0)).1 (by omega) mono
  have hbd:=Apt mono lo hi'
  have hfat:oneE env (L.getD i ([],0)) ≠ 0→A23 env L=oneE env (L.getD i ([],0)):=fun hne=>by
   have hLd:L=L.take i ++ L.getD i ([],0)::L.drop (i + 1):=by
    rw [← Aad hil];exact (List.take_append_drop i L).symm
   rw [hLd,Ann hne hz,← hLd]
  by_cases hc:j < env.length∧(env.getD j ([],0,0)).1=(L.getD i ([],0)).1
  ·rw [if_pos hc] at hbd
   have hjl:=hc.1
   by_cases hw:(env.getD j ([],0,0)).2.1=(L.getD i ([],0)).2
   ·have ho:oneE env (L.getD i ([],0))=0:=by unfold oneE;rw [hbd];exact if_pos hw
    have hru:rhoE env (L.getD i ([],0)).1=(env.getD j ([],0,0)).2.2.toNat:=by unfold rhoE;rw [hbd]
    have hx0:=(hx _ (A0r (d:=([],0,0)) hjl)).1
    have hu:=Ayi (L.getD i ([],0)).1 (rhoE env (L.getD i ([],0)).1) ((L.take i).map (upE env)) (Als (As3 hL hil))
    rw [hru,Int.toNat_of_nonneg hx0] at hu
    simp (disch:=first | exact d_V7 | fail) only [unf b11_0.eq_1,c11,d1,ei,A11,EnL,hr,hc,hw,hu,decide_true,EVS,Nat.reduceAdd,Nat.reduceSub,Int.reduceToNat,Nat.reduceMul,Nat.reduceEqDiff,Nat.reduceLeDiff,Int.reduceEq,Int.reduceLT,Int.reduceLE,↓reduceIte]
    have hE:(L.take i).map (upE env) ++ [((L.getD i ([],0)).1,(env.getD j ([],0,0)).2.2.toNat)]=(L.take (i + 1)).map (upE env):=by
     rw [Aaj hil,List.map_append];simp only [upE,List.map_cons,List.map_nil,hru]
    rw [hE]
    have hlo:lows 27 (env.map bdV)=true:=lo_e 27 env
    have hlm:lows 27 (m.map ceV)=true:=lo_m 27 m
    have hlb:lows 27 (L.map bd0)=true:=Asc 27 L
    have hlt:lows 27 (t.l.map tV)=true:=Ak4 27 t.l
    have hlu:=lo_u 27 ((L.take (i + 1)).map (upE env))
    refine A0s (by decide) (by simp [A19,low,hlo,hlm,hlb]) (by show (((((L.take (i + 1)).map (upE env)).map kvU).all fun e=>low 27 e.1 && low 27 e.2) && (lows 27 [.agg [.int .u8 (t).k,.int .i64 (t).w,.int .u64 (t).b,.str (t).s,.int .i64 (t).lo,.lst (t).e ((t).l.map tV)]] && true))=true;rw [hlu];simp [lows,low,hlt]) (ih (i + 1) (by omega) (fun p hp=>?_))
    rw [Aaj hil,List.mem_append,List.mem_singleton] at hp
    rcases hp with hp | rfl
    ·exact hz p hp
    ·exact ho
   ·have ho:oneE env (L.getD i ([],0))=14:=by unfold oneE;rw [hbd];exact if_neg hw
    have hf:A23 env L=14:=by rw [hfat (by rw [ho];decide),ho]
    have hd:decide ((env.getD j ([],0,0)).2.1=(L.getD i ([],0)).2)=false:=decide_eq_false hw
    simp (disch:=first | exact d_V7 | fail) only [unf b11_0.eq_1,c11,d1,ei,A11,EnL,hr,hc,hd,decide_true,EVS,Nat.reduceAdd,Nat.reduceSub,Int.reduceToNat,Nat.reduceMul,Nat.reduceEqDiff,Nat.reduceLeDiff,Int.reduceEq,Int.reduceLT,Int.reduceLE,↓reduceIte]
    rw [hf];rfl
  ·rw [if_neg hc] at hbd
   have ho:oneE env (L.getD i ([],0))=16:=by unfold oneE;rw [hbd]
   have hf:A23 env L=16:=by rw [hfat (by rw [ho];decide),ho]
   simp (disch:=first | exact d_V7 | fail) only [unf b11_0.eq_1,c11,d1,ei,A11,EnL,hr,hc,decide_false,EVS,Nat.reduceAdd,Nat.reduceSub,Int.reduceToNat,Nat.reduceMul,Nat.reduceEqDiff,Nat.reduceLeDiff,Int.reduceEq,Int.reduceLT,Int.reduceLE,↓reduceIte]
   rw [hf];rfl
theorem A8f {t:Te} (h:A15 t=0):size t ≤ 400:=by
 unfold A15 at h
 split at h
 ·cases h
 ·omega
theorem A3t {t:Te} (h:A15 t=0):A1a t∧∃ en,A4n t=.inl en:=by
 unfold A15 at h
 split at h
 ·cases h
 ·split at h
  ·split at h
   ·rename_i hn _ en he;exact ⟨hn,en,he⟩
   ·cases h
  ·cases h
theorem Ahe (t:Te):(insE [] (A0d t)).length ≤ size t:=by
 have h2:∀ (L out:Env0),(insE out L).length ≤ out.length + L.length:=by
  intro L
  induction L with
  |nil=>intro out;exact Nat.le_refl _
  |cons p L ih=>intro out;have:=ih (A4b out p);have:=A8n out p;simp only [insE,List.length_cons];omega
 have h3:=h2 (A0d t) []
 have h4:(A0d t).length ≤ size t:=by have:=A6c (A0k t);rw [A3d] at this;exact this
 simp only [List.length_nil] at h3
 omega
theorem Afn {m:Mem} (h:chkM m=0):memS m:=by
 unfold chkM at h
 split at h
 ·assumption
 ·cases h
theorem Afy (e d:Bool) (t:Te) (ht:TOk t) (hs:size t ≤ 1000000) (hk:KOk t) (env:Env) (hl:env.length ≤ 1100) (hx:∀ p ∈ env,0 ≤ p.2.2∧p.2.2 ≤ 18446744073709551615) (m:Mem) (hm:okM m) (h0:m.length ≤ 9223372036854775807) (h:Heap) (nx:Nat):isfR T c11 [.agg [.int .u8 (t).k,.int .i64 (t).w,.int .u64 (t).b,.str (t).s,.int .i64 (t).lo,.lst (t).e ((t).l.map tV)],.lst e (env.map bdV),.lst d (m.map ceV)] h nx=some (valV t env m,h,nx):=by
 have c1:=Ant t hs hk
 have c2:=A8z e env hl
 have c3:=A2h d m h0
 refine A7g rfl ?_
 unfold valV A7u
 by_cases k1:A15 t=0
 ·rw [if_pos k1]
  have hv:Abh false t=.tup [.lst false ((insE [] (A0d t)).map bd0),.int .i64 0]:=if_pos k1
  rw [hv] at c1
  by_cases k2:chkB env=0
  ·rw [if_pos k2]
   by_cases k3:chkM m=0
   ·rw [if_pos k3]
    obtain ⟨hn,en,he⟩:=A3t k1
    obtain ⟨hl2,hg⟩:=Adt k2
    obtain ⟨q1,q2⟩:=A4w (A0d t) [] [] List.Pairwise.nil (fun _=>Iff.rfl) (by simpa using (A4c he).1)
    have hsz:=A8f k1
    have hil:=Ahe t
    simp (disch:=first | exact d_V7 | fail) only [c11,TL,c1,c2,c3,k2,k3,EVS,Nat.reduceAdd,Nat.reduceSub,Int.reduceToNat,Nat.reduceMul,Nat.reduceEqDiff,Nat.reduceLeDiff,Int.reduceEq,Int.reduceLT,Int.reduceLE,↓reduceIte]
    exact Alk e d env m hm (Afn k3) hl2 hx hg t hn ht hs _ q1 (fun p=>by rw [q2];simp) (by omega) (insE [] (A0d t)).length 0 (by omega) (fun p hp=>by simp at hp)
   ·rw [if_neg k3]
    have k3':chkM m=8:=by
     unfold chkM at k3 ⊢
     split at k3
     ·exact absurd rfl k3
     ·rename_i hh;rw [if_neg hh]
    simp (disch:=first | exact d_V7 | fail) only [c11,TL,c1,c2,c3,k2,k3',EVS,Nat.reduceAdd,Nat.reduceSub,Int.reduceToNat,Nat.reduceMul,Nat.reduceEqDiff,Nat.reduceLeDiff,Int.reduceEq,Int.reduceLT,Int.reduceLE,↓reduceIte]
    rfl
  ·rw [if_neg k2]
   have k2':=Apa k2
   simp (disch:=first | exact d_V7 | fail) only [c11,TL,c1,c2,k2',EVS,Nat.reduceAdd,Nat.reduceSub,Int.reduceToNat,Nat.reduceMul,Nat.reduceEqDiff,Nat.reduceLeDiff,Int.reduceEq,Int.reduceLT,Int.reduceLE,↓reduceIte]
   rfl
 ·rw [if_neg k1]
  have hv:Abh false t=.tup [.lst true [],.int .i64 (A15 t)]:=if_neg k1
  rw [hv] at c1
  have d1:decide (A15 t=0)=false:=decide_eq_false k1
  simp (disch:=first | exact d_V7 | fail) only [c11,TL,c1,d1,EVS,Nat.reduceAdd,Nat.reduceSub,Int.reduceToNat,Nat.reduceMul,Nat.reduceEqDiff,Nat.reduceLeDiff,Int.reduceEq,Int.reduceLT,Int.reduceLE,↓reduceIte]
  rw [if_neg k1];rfl
theorem Aib (a b c:FV) (h:Heap) (nx:Nat):lim T 11 [a,b,c] h nx=@FI.B (List FV) (FV × Heap × Nat) (frzs h deep [a,b,c]) ⟨fun q=>isfR T c11 q h nx⟩:=A6v tg11 rfl rfl
theorem Afh (e d:Bool) (t:Te) (ht:TOk t) (hs:size t ≤ 1000000) (hk:KOk t) (env:Env) (hl:env.length ≤ 1100) (hx:∀ p ∈ env,0 ≤ p.2.2∧p.2.2 ≤ 18446744073709551615) (m:Mem) (hm:okM m) (h0:m.length ≤ 9223372036854775807):∀ h nx,lim T 11 [.agg [.int .u8 (t).k,.int .i64 (t).w,.int .u64 (t).b,.str (t).s,.int .i64 (t).lo,.lst (t).e ((t).l.map tV)],.lst e (env.map bdV),.lst d (m.map ceV)] h nx=some (valV t env m,h,nx):=by
 intro h nx
 rw [Aib,A1w (by simp [pures,A0i,A2m,pu_e,pu_m]) (show (3:Nat) ≤ deep by decide),A12]
 exact Afy e d t ht hs hk env hl hx m hm h0 h nx
theorem Apv {t:Te} {en:Env0} (h:A4n t=.inl en) (p:List UInt8 × Int):p ∈ insE [] (A0d t) ↔ p ∈ A0d t:=by
 have:=(A4w (A0d t) [] [] List.Pairwise.nil (fun _=>Iff.rfl) (by simpa using (A4c h).1)).2 p
 simpa using this
theorem Agb {t:Te} {env:Env} {m:Mem} (h:A7u t env m=0):A15 t=0∧chkB env=0∧chkM m=0∧∀ p ∈ A0d t,oneE env p=0:=by
 unfold A7u at h
 split at h
 ·rename_i h1
  split at h
  ·rename_i h2
   split at h
   ·rename_i h3
    obtain ⟨_,en,he⟩:=A3t h1
    exact ⟨h1,h2,h3,fun p hp=>Af3 h p ((Apv he p).2 hp)⟩
   ·cases h
  ·cases h
 ·rename_i h1;exact absurd h h1
theorem Auq {t:Te} {env:Env} {m:Mem} (hx:∀ p ∈ env,0 ≤ p.2.2∧p.2.2 ≤ 18446744073709551615) (h:A7u t env m=0):A7s (rhoE env) t:=by
 obtain ⟨h1,h2,h3,h4⟩:=Agb h
 obtain ⟨_,hg⟩:=Adt h2
 intro x hxn hk
 have hm:(x.s,x.w) ∈ A0d t:=by
  have:∀ xs:List Te,x ∈ xs→(x.s,x.w) ∈ varL xs:=by
   intro xs
   induction xs with
   |nil=>intro h;cases h
   |cons y ys ih =>
    intro h
    simp only [varL]
    rcases List.mem_cons.1 h with rfl | h
    ·rw [if_pos hk];simp
    ·split
     ·exact List.mem_cons_of_mem _ (ih h)
     ·exact ih h
  exact this _ hxn
 have h1:=h4 _ hm
 unfold oneE at h1
 unfold rhoE
 cases hq:A37 env x.s with
 |none=>rw [hq] at h1;cases h1
 |some q =>
  rw [hq] at h1
  simp only at h1 ⊢
  split at h1
  ·rename_i hw
   obtain ⟨q1,q2,q3⟩:=Abd hx hq
   obtain ⟨j,hj,rfl⟩:=List.mem_iff_getElem.1 q1
   have hgj:=(hg j hj).2.1
   have ej:env.getD j ([],0,0)=env[j]:=by simp [List.getD,hj]
   rw [ej,hw] at hgj
   exact Aft hgj q3
  ·cases h1
theorem Au3 {m:Mem} (h:∀ p ∈ m,(IntKind.u64.min ≤ p.1∧p.1 ≤ IntKind.u64.max)∧(IntKind.u8.min ≤ p.2∧p.2 ≤ IntKind.u8.max)):okM m:=fun p hp=>by
 have h1:=h p hp
 simp [IntKind.min,IntKind.max,IntKind.signed,IntKind.bits] at h1
 omega
theorem d_R1 {P:Prop} (h:P:=by first|omega|(simp only[EVL]<;>omega)|(simp only[A0n,Nat.reduceEqDiff,↓reduceIte];done)|assumption|(simp (disch:=omega) only[A06,A0a,A04, *];done)|(simp only [TL];done)|with_unfolding_all rfl):P:=h
open Classical in
theorem Ajj (s:List UInt8) (h1:1 ≤ s.length) (h2:s.length ≤ 24):∀ (k i:Nat),i + k=s.length→(∀ j,j < i→okAt s j) →
  @Ok Out (runs T [.code b88_0,.inL (some 10) b88_0,.inB 0,.code k88_1] [(0,.str s),(3,.int .i64 i)] [] 10) ⟨fun x=>resV c88.res x=some (.bool (decide (A9m s)))⟩:=by
 intro k
 induction k with
 |zero =>
  intro i hi hok
  have:¬ (i:Int) < s.length:=by omega
  simp (disch:=first | exact d_R1 | fail) only [unf b88_0.eq_1,unf k88_1.eq_1,c88,this,EVS,Nat.reduceAdd,Nat.reduceSub,Int.reduceToNat,Nat.reduceMul,Nat.reduceEqDiff,Nat.reduceLeDiff,Int.reduceEq,Int.reduceLT,Int.reduceLE,↓reduceIte]
  exact (decide_eq_true ⟨h1,h2,fun j hj=>hok j (by omega)⟩).symm
 |succ k ih =>
  intro i hi hok
  have hs:okAt s i→∀ j,j < i + 1→okAt s j:=fun ho j hj=>by
   by_cases e:j=i
   ·subst e;exact ho
   ·exact hok j (by omega)
  have:(i:Int) < s.length:=by omega
  simp (disch:=first | exact d_R1 | fail) only [unf b88_0.eq_1,c88,this,EVS,Nat.reduceAdd,Nat.reduceSub,Int.reduceToNat,Nat.reduceMul,Nat.reduceEqDiff,Nat.reduceLeDiff,Int.reduceEq,Int.reduceLT,Int.reduceLE,↓reduceIte]
  repeat' (refine A1g (fun hb=>?_) (fun hb=>?_)<;>have h:=hb<;>(try simp only [decide_eq_true_eq,decide_eq_false_iff_not,Int.not_lt,Int.not_le] at h)<;>(simp (disch:=first | exact d_R1 | fail) only [hb,c88,EVS,Nat.reduceAdd,Nat.reduceSub,Int.reduceToNat,Nat.reduceMul,Nat.reduceEqDiff,Nat.reduceLeDiff,Int.reduceEq,Int.reduceLT,Int.reduceLE,↓reduceIte])<;>(try clear hb))
  all_goals first
   |exact A0s (by decide) (by simp [A19,low]) (by simp [A0b,cutH]) (ih (i + 1) (by omega) (hs (by unfold okAt;omega)))
   |exact (decide_eq_false fun hn=>by have:=hn.2.2 i (by omega);unfold okAt at this;omega).symm
open Classical in
theorem Aai (s:List UInt8):∀ h nx,lim T 88 [.str s] h nx=some (.bool (decide (A9m s)),h,nx):=by
 refine A05 tg88 rfl rfl rfl ?_
 simp (disch:=first | exact d_R1 | fail) only [c88,EVS,Nat.reduceAdd,Nat.reduceSub,Int.reduceToNat,Nat.reduceMul,Nat.reduceEqDiff,Nat.reduceLeDiff,Int.reduceEq,Int.reduceLT,Int.reduceLE,↓reduceIte]
 repeat' (refine A1g (fun hb=>?_) (fun hb=>?_)<;>have h:=hb<;>(try simp only [decide_eq_true_eq,decide_eq_false_iff_not,Int.not_lt,Int.not_le] at h)<;>(simp (disch:=first | exact d_R1 | fail) only [hb,c88,EVS,Nat.reduceAdd,Nat.reduceSub,Int.reduceToNat,Nat.reduceMul,Nat.reduceEqDiff,Nat.reduceLeDiff,Int.reduceEq,Int.reduceLT,Int.reduceLE,↓reduceIte])<;>(try clear hb))
 ·exact (decide_eq_false fun hn=>by have:=hn.1;omega).symm
 ·exact (decide_eq_false fun hn=>by have:=hn.2.1;omega).symm
 ·exact Ajj s (by omega) (by omega) s.length 0 (by omega) (by omega)
open Classical in
theorem A5e (s:List UInt8):∀ h nx,lim T 56 [.str s] h nx=some (.bool (decide (A9m (strip s))),h,nx):=by
 refine A05 tg56 rfl rfl rfl ?_
 simp (disch:=first | exact d_R1 | fail) only [c56,Aai,EVS,Nat.reduceAdd,Nat.reduceSub,Int.reduceToNat,Nat.reduceMul,Nat.reduceEqDiff,Nat.reduceLeDiff,Int.reduceEq,Int.reduceLT,Int.reduceLE,↓reduceIte]
 repeat' (refine A1g (fun hb=>?_) (fun hb=>?_)<;>have h:=hb<;>(try simp only [decide_eq_true_eq,decide_eq_false_iff_not,Int.not_lt,Int.not_le] at h)<;>(simp (disch:=first | exact d_R1 | fail) only [hb,c56,Aai,EVS,Nat.reduceAdd,Nat.reduceSub,Int.reduceToNat,Nat.reduceMul,Nat.reduceEqDiff,Nat.reduceLeDiff,Int.reduceEq,Int.reduceLT,Int.reduceLE,↓reduceIte])<;>(try clear hb))
 ·have e:strip s=s.drop 2:=if_pos ⟨by omega,by simpa using h⟩
  rw [e]
 ·have e:strip s=s:=if_neg fun hn=>by simp [hn.2] at h
  rw [e]
 ·by_cases e:2 ≤ s.length∧s.take 2=[114,46]
  ·have e1:s=[114,46]:=by
    have:=e.2
    rwa [List.take_of_length_le (by omega)] at this
   subst e1
   have e2:¬ A9m [114,46]:=fun hn=>by
    have:=hn.2.2 1 (by simp)
    simp [okAt] at this
   have e3:¬ A9m (strip [114,46]):=fun hn=>by
    have:=hn.1
    simp [strip] at this
   rw [decide_eq_false e2,decide_eq_false e3]
  ·have e:strip s=s:=if_neg e
   rw [e]
theorem A8g (w:Int):∀ h nx,lim T 52 [.int .i64 w] h nx=some (.bool (decide (A2n w)),h,nx):=by
 refine A05 tg52 rfl rfl rfl ?_
 simp (disch:=first | exact d_R1 | fail) only [c52,EVS,Nat.reduceAdd,Nat.reduceSub,Int.reduceToNat,Nat.reduceMul,Nat.reduceEqDiff,Nat.reduceLeDiff,Int.reduceEq,Int.reduceLT,Int.reduceLE,↓reduceIte]
 repeat' (refine A1g (fun hb=>?_) (fun hb=>?_)<;>have h:=hb<;>(try simp only [decide_eq_true_eq,decide_eq_false_iff_not,Int.not_lt,Int.not_le] at h)<;>(simp (disch:=first | exact d_R1 | fail) only [hb,c52,EVS,Nat.reduceAdd,Nat.reduceSub,Int.reduceToNat,Nat.reduceMul,Nat.reduceEqDiff,Nat.reduceLeDiff,Int.reduceEq,Int.reduceLT,Int.reduceLE,↓reduceIte])<;>(try clear hb))
 all_goals simp_all [A2n]
theorem Aig (t:Te) (ih:∀ x ∈ t.l,∀ h nx,lim T 121 [.agg [.int .u8 (x).k,.int .i64 (x).w,.int .u64 (x).b,.str (x).s,.int .i64 (x).lo,.lst (x).e ((x).l.map tV)]] h nx=some (.int .i64 (size x),h,nx)) (hl:t.l.length ≤ 1000000):∀ (k i n:Nat),i + k=t.l.length→n + A4m (t.l.drop i) ≤ 1000000 →
  @Ok Out (runs T [.code b121_0,.inL (some 4) b121_0,.inB 0,.code k121_1] [(1,.ptr 0 1 0 0),(3,.int .i64 n),(4,.int .i64 i)] [(0,.row 6 [.agg [.int .u8 (t).k,.int .i64 (t).w,.int .u64 (t).b,.str (t).s,.int .i64 (t).lo,.lst (t).e ((t).l.map tV)]])] 4) ⟨fun x=>resV c121.res x=some (.int .i64 ((n + A4m (t.l.drop i):Nat):Int))⟩:=by
 intro k
 induction k with
 |zero =>
  intro i n hi h0
  have:¬ (i:Int) < t.l.length:=by omega
  simp (disch:=first | exact d_R1 | fail) only [unf b121_0.eq_1,unf k121_1.eq_1,c121,this,TL,EVS,Nat.reduceAdd,Nat.reduceSub,Int.reduceToNat,Nat.reduceMul,Nat.reduceEqDiff,Nat.reduceLeDiff,Int.reduceEq,Int.reduceLT,Int.reduceLE,↓reduceIte]
  rw [List.drop_eq_nil_of_le (by omega)]
  show (n:Int)=((n + 0:Nat):Int)
  omega
 |succ k ihk =>
  intro i n hi h0
  have:(i:Int) < t.l.length:=by omega
  have hx:=ih _ (A0r (d:=default) (show i < t.l.length by omega))
  rw [Aag (show i < t.l.length by omega)] at h0 ⊢
  have hq:=ihk (i + 1) (n + size (t.l.getD i default)) (by omega) (by omega)
  simp (disch:=first | exact d_R1 | fail) only [unf b121_0.eq_1,c121,this,TL,hx,EVS,Nat.reduceAdd,Nat.reduceSub,Int.reduceToNat,Nat.reduceMul,Nat.reduceEqDiff,Nat.reduceLeDiff,Int.reduceEq,Int.reduceLT,Int.reduceLE,↓reduceIte]
  rw [Nat.add_assoc] at hq
  exact A0s (by decide) (by simp [A19,low,lows,TL]) (by simp [cutH,A0b,A16,lows,low,TL]) hq
theorem Ai2 (t:Te) (hl:size t ≤ 1000000):∀ h nx,lim T 121 [.agg [.int .u8 (t).k,.int .i64 (t).w,.int .u64 (t).b,.str (t).s,.int .i64 (t).lo,.lst (t).e ((t).l.map tV)]] h nx=some (.int .i64 (size t),h,nx):=by
 induction t using Tm'.ind with
 |h t ih =>
 have hsz:=A3i t.l
 have hse:=size_eq t
 refine A05 Ayl rfl rfl (by simp [pures,A0i,A2m]) ?_
 simp (disch:=first | exact d_R1 | fail) only [c121,TL,EVS,Nat.reduceAdd,Nat.reduceSub,Int.reduceToNat,Nat.reduceMul,Nat.reduceEqDiff,Nat.reduceLeDiff,Int.reduceEq,Int.reduceLT,Int.reduceLE,↓reduceIte]
 have:=Aig t (fun x hx=>ih x hx (by have:=A53 hx;omega)) (by omega) t.l.length 0 1 (by omega) (by rw [List.drop_zero];omega)
 rw [List.drop_zero] at this
 rw [size_eq]
 exact this
theorem Age (t:Te) (ih:∀ x ∈ t.l,∀ h nx,lim T 122 [.agg [.int .u8 (x).k,.int .i64 (x).w,.int .u64 (x).b,.str (x).s,.int .i64 (x).lo,.lst (x).e ((x).l.map tV)]] h nx=some (.int .i64 (depth x),h,nx)) (hl:t.l.length ≤ 1000000) (hd:depth t ≤ 1000000):∀ (k i:Nat) (d:Int),i + k=t.l.length→0 ≤ d→d ≤ 1000000 →
  @Ok Out (runs T [.code b122_0,.inL (some 4) b122_0,.inB 0,.code k122_1] [(1,.ptr 0 1 0 0),(3,.int .i64 d),(4,.int .i64 i)] [(0,.row 6 [.agg [.int .u8 (t).k,.int .i64 (t).w,.int .u64 (t).b,.str (t).s,.int .i64 (t).lo,.lst (t).e ((t).l.map tV)]])] 4) ⟨fun x=>resV c122.res x=some (.int .i64 (max d (A24 (t.l.drop i)) + 1))⟩:=by
 intro k
 induction k with
 |zero =>
  intro i d hi h0 h1
  have:¬ (i:Int) < t.l.length:=by omega
  simp (disch:=first | exact d_R1 | fail) only [unf b122_0.eq_1,unf k122_1.eq_1,c122,this,TL,EVS,Nat.reduceAdd,Nat.reduceSub,Int.reduceToNat,Nat.reduceMul,Nat.reduceEqDiff,Nat.reduceLeDiff,Int.reduceEq,Int.reduceLT,Int.reduceLE,↓reduceIte]
  rw [List.drop_eq_nil_of_le (by omega)]
  show d + 1=max d ((0:Nat):Int) + 1
  omega
 |succ k ihk =>
  intro i d hi h0 h1
  have:(i:Int) < t.l.length:=by omega
  have hx:=ih _ (A0r (d:=default) (show i < t.l.length by omega))
  have hdx:depth (t.l.getD i default) ≤ A24 t.l:=Aa9 (A0r (by omega))
  rw [A59] at hd
  simp (disch:=first | exact d_R1 | fail) only [unf b122_0.eq_1,c122,this,TL,hx,EVS,Nat.reduceAdd,Nat.reduceSub,Int.reduceToNat,Nat.reduceMul,Nat.reduceEqDiff,Nat.reduceLeDiff,Int.reduceEq,Int.reduceLT,Int.reduceLE,↓reduceIte]
  have hq:=ihk (i + 1) (max d (depth (t.l.getD i default))) (by omega) (by omega) (by omega)
  rw [A5x (by omega)]
  have e:max d ((max (depth (t.l.getD i default)) (A24 (t.l.drop (i + 1))):Nat):Int)=max (max d (depth (t.l.getD i default))) (A24 (t.l.drop (i + 1))):=by omega
  rw [e]
  exact A0s (by decide) (by simp [A19,low,lows,TL]) (by simp [cutH,A0b,A16,lows,low,TL]) hq
theorem Aes (t:Te) (hl:size t ≤ 1000000):∀ h nx,lim T 122 [.agg [.int .u8 (t).k,.int .i64 (t).w,.int .u64 (t).b,.str (t).s,.int .i64 (t).lo,.lst (t).e ((t).l.map tV)]] h nx=some (.int .i64 (depth t),h,nx):=by
 induction t using Tm'.ind with
 |h t ih =>
 have hsz:=A3i t.l
 have hds:=Aan t
 have hse:=size_eq t
 refine A05 Azt rfl rfl (by simp [pures,A0i,A2m]) ?_
 simp (disch:=first | exact d_R1 | fail) only [c122,TL,EVS,Nat.reduceAdd,Nat.reduceSub,Int.reduceToNat,Nat.reduceMul,Nat.reduceEqDiff,Nat.reduceLeDiff,Int.reduceEq,Int.reduceLT,Int.reduceLE,↓reduceIte]
 have:=Age t (fun x hx=>ih x hx (by have:=A53 hx;omega)) (by omega) (by omega) t.l.length 0 0 (by omega) (by omega) (by omega)
 rw [A59]
 rw [List.drop_zero,show max (0:Int) (A24 t.l)=A24 t.l by omega] at this
 exact_mod_cast this
theorem d_X9 {P:Prop} (h:P:=by first|omega|(simp only[EVL]<;>omega)|(simp only[A0n,Nat.reduceEqDiff,↓reduceIte];done)|assumption|(simp (disch:=omega) only[A06,A0a,A04, *];done)|(simp only [A0p,EnL];done)|with_unfolding_all rfl):P:=h
theorem Aj5 (w:Int) (h1:1 ≤ w) (h2:w ≤ 64):∀ h nx,lim T 85 [.int .i64 w] h nx=some (.int .u64 (2 ^ w.toNat - 1),h,nx):=by
 refine A05 tg85 rfl rfl rfl ?_
 have c1:=A3z w
 have c2:=A48 (w.toNat - 1) (by omega)
 have e1:((w.toNat - 1:Nat):Int)=w - 1:=by omega
 rw [e1] at c2
 have e2:(2:Int) ^ w.toNat=2 ^ (w.toNat - 1) + 2 ^ (w.toNat - 1):=by
  obtain ⟨n,hn⟩:∃ n,w.toNat=n + 1:=⟨w.toNat - 1,by omega⟩
  rw [hn,Nat.add_sub_cancel,Int.pow_succ];omega
 have hp:=A1c (w.toNat - 1)
 have h64:=Aer (n:=w.toNat) (by omega)
 have d1:decide (1 ≤ w∧w ≤ 64)=true:=decide_eq_true ⟨h1,h2⟩
 have w1:IntKind.u64.wrap (2 ^ (w.toNat - 1) - 1)=2 ^ (w.toNat - 1) - 1:=A2t (by omega) (by omega)
 have w2:IntKind.u64.wrap (2 ^ (w.toNat - 1) - 1 + 2 ^ (w.toNat - 1))=2 ^ w.toNat - 1:=by rw [A2t (by omega) (by omega)];omega
 simp (disch:=first | exact d_X9 | fail) only [c85,c1,d1,c2,w1,w2,EVS,Nat.reduceAdd,Nat.reduceSub,Int.reduceToNat,Nat.reduceMul,Nat.reduceEqDiff,Nat.reduceLeDiff,Int.reduceEq,Int.reduceLT,Int.reduceLE,↓reduceIte]
theorem Az0 {m:Mem} (hs:memS m) {a:Int} {i:Nat} (hi:i < m.length) (h:(m.getD i (0,0)).1=a):lbM m a=i:=by
 have h1:=Adk hs.2 a i hi
 rcases Nat.lt_trichotomy (lbM m a) i with h2 | h2 | h2
 ·exfalso
  have h3:=Atm m a (by omega)
  have h4:=Acr hs.2 (i - lbM m a - 1) (lbM m a) (by omega)
  rw [show lbM m a + (i - lbM m a - 1) + 1=i by omega] at h4
  omega
 ·exact h2
 ·exfalso;have:=h1.2 h2;omega
theorem Apb {m:Mem} (hs:memS m) {a:Int} {i:Nat} (hi:i < m.length) (h:(m.getD i (0,0)).1=a):A35 m a=(m.getD i (0,0)).2:=by
 have h1:=Az0 hs hi h
 unfold A35 A5h
 rw [h1,if_pos (decide_eq_true ⟨hi,h⟩)]
theorem Apk {m:Mem} {a:Int} (h:∀ j,j < m.length→(m.getD j (0,0)).1 ≠ a):A35 m a=0:=by
 unfold A35
 split
 ·rename_i hf
  unfold A5h at hf
  have hf:=of_decide_eq_true hf
  exact absurd hf.2 (h _ hf.1)
 ·rfl
theorem Aeg (e:Bool) (m:Mem) (a:Int) (hs:memS m) (hm:okM m):∀ (k i:Nat),i + k=m.length→(∀ j,j < i→(m.getD j (0,0)).1 ≠ a) →
  @Ok Out (runs T [.code b84_0,.inL (some 2) b84_0,.inB 0,.code k84_1] [(0,.lst e (m.map ceV)),(1,.int .u64 a),(5,.int .i64 i)] [] 2) ⟨fun x=>resV c84.res x=some (.int .u64 (A35 m a))⟩:=by
 have hl:=hs.1
 intro k
 induction k with
 |zero =>
  intro i hi hj
  have d1:decide ((i:Int) < m.length)=false:=by simp;omega
  rw [Apk fun j hjl=>hj j (by omega)]
  simp (disch:=first | exact d_X9 | fail) only [unf b84_0.eq_1,unf k84_1.eq_1,c84,d1,EVS,Nat.reduceAdd,Nat.reduceSub,Int.reduceToNat,Nat.reduceMul,Nat.reduceEqDiff,Nat.reduceLeDiff,Int.reduceEq,Int.reduceLT,Int.reduceLE,↓reduceIte]
 |succ k ih =>
  intro i hi hj
  have hil:i < m.length:=by omega
  have d1:decide ((i:Int) < m.length)=true:=by simp;omega
  by_cases ha:(m.getD i (0,0)).1=a
  ·have hb:=Apb hs hil ha
   have hbd:=hm _ (A0r (d:=(0,0)) hil)
   have hw:IntKind.u64.wrap (m.getD i (0,0)).2=(m.getD i (0,0)).2:=A2t (by omega) (by omega)
   rw [hb]
   have d2:decide ((m.getD i (0,0)).1=a)=true:=decide_eq_true ha
   simp (disch:=first | exact d_X9 | fail) only [unf b84_0.eq_1,c84,d1,A0p,d2,hw,EVS,Nat.reduceAdd,Nat.reduceSub,Int.reduceToNat,Nat.reduceMul,Nat.reduceEqDiff,Nat.reduceLeDiff,Int.reduceEq,Int.reduceLT,Int.reduceLE,↓reduceIte]
  ·have d2:decide ((m.getD i (0,0)).1=a)=false:=decide_eq_false ha
   simp (disch:=first | exact d_X9 | fail) only [unf b84_0.eq_1,c84,d1,A0p,d2,EVS,Nat.reduceAdd,Nat.reduceSub,Int.reduceToNat,Nat.reduceMul,Nat.reduceEqDiff,Nat.reduceLeDiff,Int.reduceEq,Int.reduceLT,Int.reduceLE,↓reduceIte]
   exact A0s (by decide) (by simp [A19,low,lows,A0p,EnL]) (by simp [cutH,A0b,A16,lows,low,A0p,EnL]) (ih (i + 1) (by omega) (fun j hjl=>by
    by_cases e:j=i
    ·subst e;exact ha
    ·exact hj j (by omega)))
theorem Af8 (e:Bool) (m:Mem) (a:Int) (hs:memS m) (hm:okM m):∀ h nx,lim T 84 [.lst e (m.map ceV),.int .u64 a] h nx=some (.int .u64 (A35 m a),h,nx):=by
 refine A05 tg84 rfl rfl (by simp [pures,A0i,pu_m]) ?_
 have lp:=Aeg e m a hs hm m.length 0 (by omega) (fun j hj=>by omega)
 simp (disch:=first | exact d_X9 | fail) only [c84,A0p,EVS,Nat.reduceAdd,Nat.reduceSub,Int.reduceToNat,Nat.reduceMul,Nat.reduceEqDiff,Nat.reduceLeDiff,Int.reduceEq,Int.reduceLT,Int.reduceLE,↓reduceIte]
 exact lp
def facN (i:Nat):Int:=if i < 8 then 2 ^ (8 * i) else 0
theorem Ahd (w at_:Int) (i:Nat):0 ≤ A1i w at_ i∧A1i w at_ i < 2 ^ w.toNat:=by
 have:=A1c w.toNat
 exact ⟨Int.emod_nonneg _ (by omega),Int.emod_lt_of_pos _ (by omega)⟩
theorem Aix {w at_:Int} (hw:1 ≤ w) (hw':w ≤ 64) (i:Nat):A1i w at_ (i + 1)=if A1i w at_ i=2 ^ w.toNat - 1 then 0 else A1i w at_ i + 1:=by
 have hb:=Ahd w at_ i
 have hp:=A1c w.toNat
 have hd:((2:Int) ^ w.toNat) ∣ 18446744073709551616:=A76 (m:=64) (by omega)
 have e:∀ j:Nat,A1i w at_ j=(at_ + j) % 2 ^ w.toNat:=fun j=>Int.emod_emod_of_dvd _ hd
 rw [e (i + 1),e i] at *
 have e2:(at_ + ((i + 1:Nat):Int)) % 2 ^ w.toNat=((at_ + i) % 2 ^ w.toNat + 1) % 2 ^ w.toNat:=by
  rw [Int.emod_add_emod];congr 1;omega
 rw [e2]
 split
 ·rename_i h
  rw [h,show (2:Int) ^ w.toNat - 1 + 1=2 ^ w.toNat by omega,Int.emod_self]
 ·exact Int.emod_eq_of_lt (by omega) (by omega)
theorem Ack (e:Bool) (m:Mem) (w at_:Int) (n:Nat) (hs:memS m) (hm:okM m) (hw:1 ≤ w) (hw':w ≤ 64) (hn:n ≤ 64):∀ (k i:Nat),i + k=n / 8 →
  @Ok Out (runs T [.code b54_0,.inL (some 4) b54_0,.inB 0,.code k54_1] [(0,.lst e (m.map ceV)),(1,.int .i64 w),(2,.int .u64 (A1i w at_ i)),(3,.int .i64 n),(9,.int .u64 (ldS m w at_ i:Nat)),(10,.int .u64 (facN i)),(11,.int .i64 i)] [] 4) ⟨fun x=>resV c54.res x=some (.int .u64 (ldS m w at_ (n / 8):Nat))⟩:=by
 have eq:(n:Int).tdiv 8=((n / 8:Nat):Int):=rfl
 have hmk:=Aj5 w hw hw'
 intro k
 induction k with
 |zero =>
  intro i hi
  have d1:decide ((i:Int) < ((n / 8:Nat):Int))=false:=decide_eq_false (by omega)
  have hi':i=n / 8:=by omega
  subst hi'
  simp (disch:=first | exact d_X9 | fail) only [unf b54_0.eq_1,unf k54_1.eq_1,c54,eq,d1,EVS,Nat.reduceAdd,Nat.reduceSub,Int.reduceToNat,Nat.reduceMul,Nat.reduceEqDiff,Nat.reduceLeDiff,Int.reduceEq,Int.reduceLT,Int.reduceLE,↓reduceIte]
 |succ k ih =>
  intro i hi
  have hi8:i < 8:=by omega
  have d1:decide ((i:Int) < ((n / 8:Nat):Int))=true:=decide_eq_true (by omega)
  have hb:=Af8 e m (A1i w at_ i) hs hm
  have hbd:=Acf hm (A1i w at_ i)
  have hlt:=Aea hm w at_ i
  have hlt2:=Aea hm w at_ (i + 1)
  have ha:=Ahd w at_ i
  have hp64:=Aer (n:=w.toNat) (by omega)
  have hf:facN i=2 ^ (8 * i):=if_pos hi8
  have hp8:(2:Nat) ^ (8 * (i + 1)) ≤ 2 ^ 64:=Nat.pow_le_pow_right (by decide) (by omega)
  have e64:(2:Nat) ^ 64=18446744073709551616:=rfl
  have hc8:=A0j (8 * i)
  have hadd:ldS m w at_ (i + 1)=2 ^ (8 * i) * (A35 m (A1i w at_ i)).toNat + ldS m w at_ i:=by
   show ldS m w at_ i ||| (A35 m (A1i w at_ i)).toNat <<< (8 * i)=_
   rw [Nat.shiftLeft_eq,Nat.or_comm,Nat.mul_comm,← Nat.two_pow_add_eq_or_of_lt hlt]
  have hbn:(((A35 m (A1i w at_ i)).toNat:Nat):Int)=A35 m (A1i w at_ i):=Int.toNat_of_nonneg hbd.1
  have hprod:facN i * A35 m (A1i w at_ i)=((2 ^ (8 * i) * (A35 m (A1i w at_ i)).toNat:Nat):Int):=by rw [hf,Int.natCast_mul,hbn,hc8]
  have q1:IntKind.u64.wrap (facN i * A35 m (A1i w at_ i))=facN i * A35 m (A1i w at_ i):=by rw [hprod];exact A2t (by omega) (by omega)
  have q2:IntKind.u64.wrap (((ldS m w at_ i:Nat):Int) + facN i * A35 m (A1i w at_ i))=((ldS m w at_ (i + 1):Nat):Int):=by rw [hprod,A2t (by omega) (by omega)];omega
  have q3:IntKind.u64.wrap (facN i * 256)=facN (i + 1):=by
   have e256:(2:Int) ^ (8 * i) * 256=2 ^ (8 * (i + 1)):=by rw [show 8 * (i + 1)=8 * i + 8 by omega,Int.pow_add];rfl
   rw [hf,e256]
   by_cases h7:i + 1 < 8
   ·have:(2:Int) ^ (8 * (i + 1)) ≤ 2 ^ 56:=Aap (by omega)
    have:=A1c (8 * (i + 1))
    rw [A2t (by omega) (by omega)];exact (if_pos h7).symm
   ·rw [show i + 1=8 by omega];rfl
  have hs':=Aix (at_:=at_) hw hw' i
  have hq:=ih (i + 1) (by omega)
  by_cases hm1:A1i w at_ i=2 ^ w.toNat - 1
  ·rw [if_pos hm1] at hs'
   rw [hs'] at hq
   have d2:decide (A1i w at_ i=2 ^ w.toNat - 1)=true:=decide_eq_true hm1
   simp (disch:=first | exact d_X9 | fail) only [unf b54_0.eq_1,c54,eq,d1,d2,A0p,hb,hmk,q1,q2,q3,EVS,Nat.reduceAdd,Nat.reduceSub,Int.reduceToNat,Nat.reduceMul,Nat.reduceEqDiff,Nat.reduceLeDiff,Int.reduceEq,Int.reduceLT,Int.reduceLE,↓reduceIte]
   exact A0s (by decide) (by simp [A19,low,lows,A0p,EnL]) (by simp [cutH,A0b,A16,lows,low,A0p,EnL]) (hq)
  ·rw [if_neg hm1] at hs'
   rw [hs'] at hq
   have d2:decide (A1i w at_ i=2 ^ w.toNat - 1)=false:=decide_eq_false hm1
   have q4:IntKind.u64.wrap (A1i w at_ i + 1)=A1i w at_ i + 1:=A2t (by omega) (by omega)
   simp (disch:=first | exact d_X9 | fail) only [unf b54_0.eq_1,c54,eq,d1,d2,A0p,hb,hmk,q1,q2,q3,q4,EVS,Nat.reduceAdd,Nat.reduceSub,Int.reduceToNat,Nat.reduceMul,Nat.reduceEqDiff,Nat.reduceLeDiff,Int.reduceEq,Int.reduceLT,Int.reduceLE,↓reduceIte]
   exact A0s (by decide) (by simp [A19,low,lows,A0p,EnL]) (by simp [cutH,A0b,A16,lows,low,A0p,EnL]) (hq)
theorem A7r (e:Bool) (m:Mem) (w at_:Int) (n:Nat) (hs:memS m) (hm:okM m) (hw:1 ≤ w) (hw':w ≤ 64) (ha:0 ≤ at_) (ha':at_ < 2 ^ w.toNat) (hn:n ≤ 64):∀ h nx,lim T 54 [.lst e (m.map ceV),.int .i64 w,.int .u64 at_,.int .i64 n] h nx=some (.int .u64 (ldS m w at_ (n / 8):Nat),h,nx):=by
 refine A05 tg54 rfl rfl (by simp [pures,A0i,pu_m]) ?_
 have lp:=Ack e m w at_ n hs hm hw hw' hn (n / 8) 0 (by omega)
 have hp64:=Aer (n:=w.toNat) (by omega)
 have e0:A1i w at_ 0=at_:=by
  show (at_ + (0:Nat)) % 18446744073709551616 % 2 ^ w.toNat=at_
  rw [show at_ + ((0:Nat):Int)=at_ by omega,Int.emod_eq_of_lt ha (by omega),Int.emod_eq_of_lt ha ha']
 rw [e0] at lp
 simp (disch:=first | exact d_X9 | fail) only [c54,A0p,EVS,Nat.reduceAdd,Nat.reduceSub,Int.reduceToNat,Nat.reduceMul,Nat.reduceEqDiff,Nat.reduceLeDiff,Int.reduceEq,Int.reduceLT,Int.reduceLE,↓reduceIte]
 exact lp
theorem Afr (e:Bool) (m:Mem) (hl:m.length ≤ 4096):∀ (k i:Nat),i + k=m.length→(∀ j,j < i→Ad0 m j) →
  @Ok Out (runs T [.code b16_0,.inL (some 5) b16_0,.inB 0,.code k16_1] [(0,.lst e (m.map ceV)),(3,.int .i64 i)] [] 5) ⟨fun x=>resV c16.res x=some (.int .i64 (chkM m))⟩:=by
 intro k
 induction k with
 |zero =>
  intro i hi hok
  have:¬ (i:Int) < m.length:=by omega
  simp (disch:=first | exact d_X9 | fail) only [unf b16_0.eq_1,unf k16_1.eq_1,c16,this,EVS,Nat.reduceAdd,Nat.reduceSub,Int.reduceToNat,Nat.reduceMul,Nat.reduceEqDiff,Nat.reduceLeDiff,Int.reduceEq,Int.reduceLT,Int.reduceLE,↓reduceIte]
  exact Aku hl fun j hj=>hok j (by omega)
 |succ k ih =>
  intro i hi hok
  have:(i:Int) < m.length:=by omega
  simp (disch:=first | exact d_X9 | fail) only [unf b16_0.eq_1,c16,this,A0p,EVS,Nat.reduceAdd,Nat.reduceSub,Int.reduceToNat,Nat.reduceMul,Nat.reduceEqDiff,Nat.reduceLeDiff,Int.reduceEq,Int.reduceLT,Int.reduceLE,↓reduceIte]
  repeat' (refine A1g (fun hb=>?_) (fun hb=>?_)<;>have h:=hb<;>(try simp only [decide_eq_true_eq,decide_eq_false_iff_not,Int.not_lt,Int.not_le] at h)<;>(simp (disch:=first | exact d_X9 | fail) only [hb,c16,A0p,gd_m,Aam,EVS,Nat.reduceAdd,Nat.reduceSub,Int.reduceToNat,Nat.reduceMul,Nat.reduceEqDiff,Nat.reduceLeDiff,Int.reduceEq,Int.reduceLT,Int.reduceLE,↓reduceIte])<;>(try clear hb))
  all_goals first
   |exact A0s (by decide) (by simp [A19,low,lows,A0p,EnL]) (by simp [cutH,A0b,A16,lows,low,A0p,EnL]) (ih (i + 1) (by omega) (upTo hok ⟨by omega,fun _=>by omega⟩))
   |exact Abi fun hg=>by
     have:=hg.2 i (by omega);unfold Ad0 at this;omega
theorem A5v (e:Bool) (m:Mem) (h0:m.length ≤ 9223372036854775807):∀ h nx,lim T 16 [.lst e (m.map ceV)] h nx=some (.int .i64 (chkM m),h,nx):=by
 refine A05 tg16 rfl rfl (by simp [pures,A0i,pu_m]) ?_
 simp (disch:=first | exact d_X9 | fail) only [c16,A0p,EVS,Nat.reduceAdd,Nat.reduceSub,Int.reduceToNat,Nat.reduceMul,Nat.reduceEqDiff,Nat.reduceLeDiff,Int.reduceEq,Int.reduceLT,Int.reduceLE,↓reduceIte]
 repeat' (refine A1g (fun hb=>?_) (fun hb=>?_)<;>have h:=hb<;>(try simp only [decide_eq_true_eq,decide_eq_false_iff_not,Int.not_lt,Int.not_le] at h)<;>(simp (disch:=first | exact d_X9 | fail) only [hb,c16,A0p,EVS,Nat.reduceAdd,Nat.reduceSub,Int.reduceToNat,Nat.reduceMul,Nat.reduceEqDiff,Nat.reduceLeDiff,Int.reduceEq,Int.reduceLT,Int.reduceLE,↓reduceIte])<;>(try clear hb))
 ·exact Abi fun hg=>by have:=hg.1;omega
 ·exact Afr e m (by omega) m.length 0 (by omega) (by omega)
theorem B11 {a b:List UInt8} (h:(Op.bytesLess a b || a == b)=false):Op.bytesLess b a=true:=by
 rcases Ac0 a b with h1 | h1 | h1
 ·rw [h1] at h;simp at h
 ·exact h1
 ·rw [h1] at h;simp at h
theorem Avc {a b:List UInt8} (h:(Op.bytesLess a b || a == b)=true) (h2:Op.bytesLess b a=true):False:=by
 rw [Bool.or_eq_true,beq_iff_eq] at h
 rcases h with h | h
 ·have:=A3b h h2;rw [A51] at this;cases this
 ·rw [h,A51] at h2;cases h2
theorem Aoh (e:Bool) (env:Env) (hl:env.length ≤ 1000) (hx:∀ p ∈ env,0 ≤ p.2.2∧p.2.2 ≤ 18446744073709551615):∀ (k i:Nat),i + k=env.length→(∀ j,j < i→Acv env j) →
  @Ok Out (runs T [.code b18_0,.inL (some 5) b18_0,.inB 0,.code k18_1] [(0,.lst e (env.map bdV)),(3,.int .i64 i)] [] 5) ⟨fun x=>resV c18.res x=some (.int .i64 (chkB env))⟩:=by
 intro k
 induction k with
 |zero =>
  intro i hi hok
  have:¬ (i:Int) < env.length:=by omega
  simp (disch:=first | exact d_X9 | fail) only [unf b18_0.eq_1,unf k18_1.eq_1,c18,this,EVS,Nat.reduceAdd,Nat.reduceSub,Int.reduceToNat,Nat.reduceMul,Nat.reduceEqDiff,Nat.reduceLeDiff,Int.reduceEq,Int.reduceLT,Int.reduceLE,↓reduceIte]
  exact Ajn hl fun j hj=>hok j (by omega)
 |succ k ih =>
  intro i hi hok
  have:(i:Int) < env.length:=by omega
  have hxi:=hx _ (A0r (d:=([],0,0)) (show i < env.length by omega))
  have hk:=A87 (env.getD i ([],0,0)).2.1 (env.getD i ([],0,0)).2.2 (by omega)
  simp (disch:=first | exact d_X9 | fail) only [unf b18_0.eq_1,c18,this,EnL,A5e,hk,EVS,Nat.reduceAdd,Nat.reduceSub,Int.reduceToNat,Nat.reduceMul,Nat.reduceEqDiff,Nat.reduceLeDiff,Int.reduceEq,Int.reduceLT,Int.reduceLE,↓reduceIte]
  repeat' (refine A1g (fun hb=>?_) (fun hb=>?_)<;>have h:=hb<;>(try simp only [decide_eq_true_eq,decide_eq_false_iff_not,Int.not_lt,Int.not_le] at h)<;>(simp (disch:=first | exact d_X9 | fail) only [hb,c18,EnL,gd_e,Aal,hk,EVS,Nat.reduceAdd,Nat.reduceSub,Int.reduceToNat,Nat.reduceMul,Nat.reduceEqDiff,Nat.reduceLeDiff,Int.reduceEq,Int.reduceLT,Int.reduceLE,↓reduceIte])<;>(try clear hb))
  all_goals first
   |exact A0s (by decide) (by simp [A19,low,EnL]) (by simp [cutH,A0b]) (ih (i + 1) (by omega) (Atq hok ⟨by assumption,by assumption,fun _=>by first | omega | exact B11 (by assumption)⟩))
   |exact Aay fun hg=>by
     obtain ⟨q1,q2,q3⟩:=hg.2 i (by omega)
     first | exact absurd q1 (by assumption) | exact absurd q2 (by assumption) | exact Avc (by assumption) (q3 (by omega))
theorem A7o (e:Bool) (env:Env) (hl:env.length ≤ 1100) (hx:∀ p ∈ env,0 ≤ p.2.2∧p.2.2 ≤ 18446744073709551615):∀ h nx,lim T 18 [.lst e (env.map bdV)] h nx=some (.int .i64 (chkB env),h,nx):=by
 refine A05 tg18 rfl rfl (by simp [pures,A0i,pu_e]) ?_
 simp (disch:=first | exact d_X9 | fail) only [c18,EnL,EVS,Nat.reduceAdd,Nat.reduceSub,Int.reduceToNat,Nat.reduceMul,Nat.reduceEqDiff,Nat.reduceLeDiff,Int.reduceEq,Int.reduceLT,Int.reduceLE,↓reduceIte]
 repeat' (refine A1g (fun hb=>?_) (fun hb=>?_)<;>have h:=hb<;>(try simp only [decide_eq_true_eq,decide_eq_false_iff_not,Int.not_lt,Int.not_le] at h)<;>(simp (disch:=first | exact d_X9 | fail) only [hb,c18,EnL,EVS,Nat.reduceAdd,Nat.reduceSub,Int.reduceToNat,Nat.reduceMul,Nat.reduceEqDiff,Nat.reduceLeDiff,Int.reduceEq,Int.reduceLT,Int.reduceLE,↓reduceIte])<;>(try clear hb))
 ·exact Aay fun hg=>by have:=hg.1;omega
 ·exact Aoh e env (by omega) hx env.length 0 (by omega) (by omega)
theorem A5b {P:Prop} (h:P:=by first|omega|(simp only[EVL]<;>omega)|(simp only[A0n,Nat.reduceEqDiff,↓reduceIte];done)|assumption|(simp (disch:=omega) only[A06,A0a,A04, *];done)|(simp only [TL,A0p,EnL];done)|with_unfolding_all rfl):P:=h
abbrev uV (x:Nat):FV:=.int .u64 (x:Nat)
theorem Av5 (b:Nat) (l:List Nat):lows b (l.map uV)=true:=A5a (fun _=>rfl) _
theorem Aok (env:Env) (m:Mem) (e d:Bool) (hm:okM m) (hms:memS m) (t:Te) (hn:A1a t) (ht:TOk t) (hρ:A7s (rhoE env) t) (hpos:0 < t.l.length) (nx:Nat) :
  @Ok Out (runs T [.code k47_1] [(1,.lst e (env.map bdV)),(2,.lst d (m.map ceV)),(3,.ptr 0 1 0 0),(9,.sref 1 8 t.l.length 0 t.l.length),(10,.int .i64 t.l.length),(43,.bool false)] [(8,.row 1 ((t.l.map (vM (rhoE env) m)).map uV)),(0,.row 6 [.agg [.int .u8 (t).k,.int .i64 (t).w,.int .u64 (t).b,.str (t).s,.int .i64 (t).lo,.lst (t).e ((t).l.map tV)]])] nx) ⟨fun x=>resV c47.res x=some (.int .u64 (vM (rhoE env) m t:Nat))⟩:=by
 have hself:=(A2o t).1 hn
 have hb:=ht.self.2.2.1
 have hk24:1 ≤ t.k∧t.k ≤ 24:=by
  rcases Int.lt_or_le t.k 1 with h | h
  ·exact absurd hself.1 (A3u (.inl h))
  ·rcases Int.lt_or_le 24 t.k with h' | h'
   ·exact absurd hself.1 (A3u (.inr h'))
   ·exact ⟨h,h'⟩
 have k1:¬ t.k=1:=fun h=>by have:=((Aff h).1 hself.1);omega
 have k2:¬ t.k=2:=fun h=>by have:=((Akd h).1 hself.1);omega
 have hsub:∀ i,i < t.l.length→vM (rhoE env) m (t.l.getD i default) < 2 ^ (t.l.getD i default).w.toNat∧1 ≤ (t.l.getD i default).w∧(t.l.getD i default).w ≤ 64:=fun i hi=>by
  have hmem:=A0r (d:=(default:Te)) hi
  exact ⟨Aqr hm _ (hself.2 _ hmem) (ht.sub hmem) (fun x hx=>hρ x (A3h hmem hx)),(hself.2 _ hmem _ (A3p _)).1⟩
 have hw:=(hself.1).1
 have hvm:vM (rhoE env) m t=vop (ldN m) t.k t.w t.b t.lo (rhoE env t.s) (t.l.map Tm'.w) (t.l.map (vM (rhoE env) m)):=A79 (rhoE env) (ldN m) t
 have z0:∀ i,i < t.l.length→(((t.l.getD i default).w.toNat:Nat):Int)=(t.l.getD i default).w:=fun i hi=>Int.toNat_of_nonneg (by have:=hsub i hi;omega)
 have zw:((t.w.toNat:Nat):Int)=t.w:=Int.toNat_of_nonneg (by unfold A1p at hw;omega)
 have hvl:((t.l.map (vM (rhoE env) m)).map uV).length=t.l.length:=by simp
 have hv:∀ j,j < t.l.length→((t.l.map (vM (rhoE env) m)).map uV)[j]? = some (.int .u64 (vM (rhoE env) m (t.l.getD j default):Nat)):=fun j hj=>by simp [List.getD,hj]
 have hgd:∀ j,j < t.l.length→∀ x,((t.l.map (vM (rhoE env) m)).map uV).getD j x=.int .u64 (vM (rhoE env) m (t.l.getD j default):Nat):=fun j hj x=>by simp [List.getD,hj]
 generalize hvs:(t.l.map (vM (rhoE env) m)).map uV=vs at *
 have zz0:decide (((0:Nat):Int)=1)=false:=rfl
 have zz1:decide (((1:Nat):Int)=1)=true:=rfl
 have q1:True:=trivial
 have q2:True:=trivial
 by_cases k3:t.k=3 ∨ t.k=4
 ·obtain ⟨_,_,_,_,hl,hs⟩:=(A80 k3).1 hself.1
  have w0:=hsub 0 (by omega)
  have c0:=hv 0 (by omega)
  have g0:=hgd 0 (by omega)
  have hu:=Aei t.k (t.l.getD 0 default).w.toNat _ k3 (by omega) (by omega) w0.1
  rw [z0 0 (by omega)] at hu
  have hx:=hvm
  rw [vop,if_neg k1,if_neg k2,if_pos k3,mp0 (by omega),mpw (by omega)] at hx
  rcases k3 with k3 | k3
  ·rw [k3] at hu hx
   rw [hx]
   simp (disch:=first | exact A5b | fail) only [unf k47_1.eq_1,c47,TL,k3,q1,q2,hvl,c0,hu,g0,EVS,Nat.reduceAdd,Nat.reduceSub,Int.reduceToNat,Nat.reduceMul,Nat.reduceEqDiff,Nat.reduceLeDiff,Int.reduceEq,Int.reduceLT,Int.reduceLE,↓reduceIte]
  ·rw [k3] at hu hx
   rw [hx]
   simp (disch:=first | exact A5b | fail) only [unf k47_1.eq_1,c47,TL,k3,q1,q2,hvl,c0,hu,g0,EVS,Nat.reduceAdd,Nat.reduceSub,Int.reduceToNat,Nat.reduceMul,Nat.reduceEqDiff,Nat.reduceLeDiff,Int.reduceEq,Int.reduceLT,Int.reduceLE,↓reduceIte]
 by_cases k19:t.k=19
 ·obtain ⟨_,_,_,_,hl,hs,_,_⟩:=(A8b k19).1 hself.1
  have w0:=hsub 0 (by omega)
  have c0:=hv 0 (by omega)
  have g0:=hgd 0 (by omega)
  have c1:=hv 1 (by omega)
  have g1:=hgd 1 (by omega)
  have c2:=hv 2 (by omega)
  have g2:=hgd 2 (by omega)
  have hx:=hvm
  rw [vop,if_neg k1,if_neg k2,if_neg k3,if_pos k19,mp0 (by omega),mp0 (by omega),mp0 (by omega)] at hx
  have ta:((2:Int) - ((0:Nat):Int)).toNat * 1=2:=rfl
  have tb:((2:Int) - ((1:Nat):Int)).toNat * 1=1:=rfl
  unfold subW at hs
  rw [hs] at w0
  have h01:vM (rhoE env) m (t.l.getD 0 default) < 2:=w0.1
  rcases (by omega:vM (rhoE env) m (t.l.getD 0 default)=0 ∨ vM (rhoE env) m (t.l.getD 0 default)=1) with e0 | e0
  ·rw [e0] at c0 g0 hx
   rw [if_neg (by omega)] at hx
   rw [hx]
   simp (disch:=first | exact A5b | fail) only [unf k47_1.eq_1,c47,TL,k19,zz0,zz1,q1,q2,hvl,c0,c2,ta,g0,g2,EVS,Nat.reduceAdd,Nat.reduceSub,Int.reduceToNat,Nat.reduceMul,Nat.reduceEqDiff,Nat.reduceLeDiff,Int.reduceEq,Int.reduceLT,Int.reduceLE,↓reduceIte]
  ·rw [e0] at c0 g0 hx
   rw [if_pos rfl] at hx
   rw [hx]
   simp (disch:=first | exact A5b | fail) only [unf k47_1.eq_1,c47,TL,k19,zz0,zz1,q1,q2,hvl,c0,c1,tb,g0,g1,EVS,Nat.reduceAdd,Nat.reduceSub,Int.reduceToNat,Nat.reduceMul,Nat.reduceEqDiff,Nat.reduceLeDiff,Int.reduceEq,Int.reduceLT,Int.reduceLE,↓reduceIte]
 by_cases k20:t.k=20
 ·obtain ⟨_,_,_,_,hl,hw0,hw1,hs⟩:=(A82 k20).1 hself.1
  have w0:=hsub 0 (by omega)
  have w1:=hsub 1 (by omega)
  have c0:=hv 0 (by omega)
  have g0:=hgd 0 (by omega)
  have c1:=hv 1 (by omega)
  have g1:=hgd 1 (by omega)
  unfold A1p at hw
  unfold subW at hs
  have hu:=Ae7 (t.l.getD 0 default).w.toNat _ (t.l.getD 1 default).w.toNat _ (by omega) (by omega) (by omega) w0.1 w1.1
  rw [z0 0 (by omega),z0 1 (by omega)] at hu
  have hx:=hvm
  rw [vop,if_neg k1,if_neg k2,if_neg k3,if_neg k19,if_pos k20,mp0 (by omega),mp0 (by omega),mpw (by omega)] at hx
  rw [hx]
  simp (disch:=first | exact A5b | fail) only [unf k47_1.eq_1,c47,TL,k20,q1,q2,hvl,c0,c1,hu,g0,g1,EVS,Nat.reduceAdd,Nat.reduceSub,Int.reduceToNat,Nat.reduceMul,Nat.reduceEqDiff,Nat.reduceLeDiff,Int.reduceEq,Int.reduceLT,Int.reduceLE,↓reduceIte]
 by_cases k21:t.k=21
 ·obtain ⟨_,_,_,_,hl,hlo,hw0,_,hs⟩:=(Abl k21).1 hself.1
  have w0:=hsub 0 (by omega)
  have c0:=hv 0 (by omega)
  have g0:=hgd 0 (by omega)
  unfold A1p at hw
  unfold subW at hs
  have zl:((t.lo.toNat:Nat):Int)=t.lo:=Int.toNat_of_nonneg hlo
  have hu:=Ace (t.l.getD 0 default).w.toNat _ t.lo.toNat t.w.toNat (by omega) (by omega) w0.1 (by omega) (by omega)
  rw [z0 0 (by omega),zl,zw] at hu
  have hx:=hvm
  rw [vop,if_neg k1,if_neg k2,if_neg k3,if_neg k19,if_neg k20,if_pos k21,mp0 (by omega)] at hx
  rw [hx]
  simp (disch:=first | exact A5b | fail) only [unf k47_1.eq_1,c47,TL,k21,q1,q2,hvl,c0,hu,g0,EVS,Nat.reduceAdd,Nat.reduceSub,Int.reduceToNat,Nat.reduceMul,Nat.reduceEqDiff,Nat.reduceLeDiff,Int.reduceEq,Int.reduceLT,Int.reduceLE,↓reduceIte]
 by_cases k22:t.k=22 ∨ t.k=23
 ·obtain ⟨_,_,_,_,hl,hs⟩:=(A84 k22).1 hself.1
  have w0:=hsub 0 (by omega)
  have c0:=hv 0 (by omega)
  have g0:=hgd 0 (by omega)
  unfold A1p at hw
  unfold subW at hs
  have hu:=Adb (decide (t.k=23)) (t.l.getD 0 default).w.toNat _ t.w.toNat (by omega) (by omega) (by omega) w0.1
  rw [z0 0 (by omega),zw] at hu
  have hx:=hvm
  rw [vop,if_neg k1,if_neg k2,if_neg k3,if_neg k19,if_neg k20,if_neg k21,if_pos k22,mp0 (by omega),mpw (by omega)] at hx
  rcases k22 with k22 | k22
  ·rw [k22] at hu hx
   rw [show decide ((22:Int)=23)=false from rfl] at hu hx
   rw [hx]
   simp (disch:=first | exact A5b | fail) only [unf k47_1.eq_1,c47,TL,k22,q1,q2,hvl,c0,hu,g0,EVS,Nat.reduceAdd,Nat.reduceSub,Int.reduceToNat,Nat.reduceMul,Nat.reduceEqDiff,Nat.reduceLeDiff,Int.reduceEq,Int.reduceLT,Int.reduceLE,↓reduceIte]
  ·rw [k22] at hu hx
   rw [show decide ((23:Int)=23)=true from rfl] at hu hx
   rw [hx]
   simp (disch:=first | exact A5b | fail) only [unf k47_1.eq_1,c47,TL,k22,q1,q2,hvl,c0,hu,g0,EVS,Nat.reduceAdd,Nat.reduceSub,Int.reduceToNat,Nat.reduceMul,Nat.reduceEqDiff,Nat.reduceLeDiff,Int.reduceEq,Int.reduceLT,Int.reduceLE,↓reduceIte]
 by_cases k24:t.k=24
 ·obtain ⟨_,_,_,_,hl,hs⟩:=(A8c k24).1 hself.1
  have w0:=hsub 0 (by omega)
  have c0:=hv 0 (by omega)
  have g0:=hgd 0 (by omega)
  unfold A1p at hw
  have h64:2 ^ (t.l.getD 0 default).w.toNat ≤ 2 ^ 64:=Nat.pow_le_pow_right (by decide) (by omega)
  have e64:(2:Nat) ^ 64=18446744073709551616:=rfl
  have hpw:=w0.1
  rw [← Int.ofNat_lt,A0j] at hpw
  have hu:=A7r d m (t.l.getD 0 default).w (vM (rhoE env) m (t.l.getD 0 default):Nat) t.w.toNat hms hm (by omega) (by omega) (by omega) hpw (by omega)
  rw [zw] at hu
  have hx:=hvm
  rw [vop,if_neg k1,if_neg k2,if_neg k3,if_neg k19,if_neg k20,if_neg k21,if_neg k22,if_pos k24,mp0 (by omega),mpw (by omega),ldN,z0 0 (by omega)] at hx
  rw [hx]
  simp (disch:=first | exact A5b | fail) only [unf k47_1.eq_1,c47,TL,k24,q1,q2,hvl,c0,hu,g0,EVS,Nat.reduceAdd,Nat.reduceSub,Int.reduceToNat,Nat.reduceMul,Nat.reduceEqDiff,Nat.reduceLeDiff,Int.reduceEq,Int.reduceLT,Int.reduceLE,↓reduceIte]
 have e3:decide (t.k=3)=false:=decide_eq_false (fun e=>k3 (.inl e))
 have e4:decide (t.k=4)=false:=decide_eq_false (fun e=>k3 (.inr e))
 have e19:decide (t.k=19)=false:=decide_eq_false k19
 have e20:decide (t.k=20)=false:=decide_eq_false k20
 have e21:decide (t.k=21)=false:=decide_eq_false k21
 have e22:decide (t.k=22)=false:=decide_eq_false (fun e=>k22 (.inl e))
 have e23:decide (t.k=23)=false:=decide_eq_false (fun e=>k22 (.inr e))
 have e24:decide (t.k=24)=false:=decide_eq_false k24
 have hl2:t.l.length=2∧(t.l.getD 1 default).w=(t.l.getD 0 default).w:=by
  by_cases k5:t.k ≤ 15
  ·obtain ⟨_,_,_,_,hl,hs0,hs1⟩:=(Aaq ⟨by omega,k5⟩).1 hself.1
   unfold subW at hs0 hs1
   exact ⟨hl,hs1.trans hs0.symm⟩
  ·obtain ⟨_,_,_,_,hl,_,hs1⟩:=(A8a (t:=t) (by omega)).1 hself.1
   unfold subW at hs1
   exact ⟨hl,hs1⟩
 have w0:=hsub 0 (by omega)
 have w1:=hsub 1 (by omega)
 have c0:=hv 0 (by omega)
 have g0:=hgd 0 (by omega)
 have c1:=hv 1 (by omega)
 have g1:=hgd 1 (by omega)
 rw [hl2.2] at w1
 have hu:=Acs t.k (t.l.getD 0 default).w.toNat _ _ (by omega) (by omega) (by omega) (by omega) w0.1 w1.1
 rw [z0 0 (by omega)] at hu
 have hx:=hvm
 rw [vop,if_neg k1,if_neg k2,if_neg k3,if_neg k19,if_neg k20,if_neg k21,if_neg k22,if_neg k24,mp0 (by omega),mp0 (by omega),mpw (by omega)] at hx
 rw [hx]
 simp (disch:=first | exact A5b | fail) only [unf k47_1.eq_1,c47,TL,e3,e4,e19,e20,e21,e22,e23,e24,q1,q2,hvl,c0,c1,hu,g0,g1,EVS,Nat.reduceAdd,Nat.reduceSub,Int.reduceToNat,Nat.reduceMul,Nat.reduceEqDiff,Nat.reduceLeDiff,Int.reduceEq,Int.reduceLT,Int.reduceLE,↓reduceIte]
theorem Anm (env:Env) (m:Mem) (e d:Bool) (t:Te) (hl:t.l.length ≤ 3) (ih:∀ x ∈ t.l,∀ h nx,lim T 47 [.agg [.int .u8 (x).k,.int .i64 (x).w,.int .u64 (x).b,.str (x).s,.int .i64 (x).lo,.lst (x).e ((x).l.map tV)],.lst e (env.map bdV),.lst d (m.map ceV)] h nx=some (.int .u64 (vM (rhoE env) m x:Nat),h,nx)) (Q:Post Out)
  (next:∀ nx,@Ok Out (runs T [.code k47_1] [(1,.lst e (env.map bdV)),(2,.lst d (m.map ceV)),(3,.ptr 0 1 0 0),(9,.sref 1 8 t.l.length 0 t.l.length),(10,.int .i64 t.l.length),(43,.bool false)] [(8,.row 1 ((t.l.map (vM (rhoE env) m)).map uV)),(0,.row 6 [.agg [.int .u8 (t).k,.int .i64 (t).w,.int .u64 (t).b,.str (t).s,.int .i64 (t).lo,.lst (t).e ((t).l.map tV)]])] nx) Q):∀ (k i:Nat),i + k=t.l.length →
  @Ok Out (runs T [.code b47_0,.inL (some 10) b47_0,.inB 0,.code k47_1] [(1,.lst e (env.map bdV)),(2,.lst d (m.map ceV)),(3,.ptr 0 1 0 0),(9,.sref 1 8 i 0 i),(10,.int .i64 i)] [(8,.row 1 (((t.l.map (vM (rhoE env) m)).take i).map uV)),(0,.row 6 [.agg [.int .u8 (t).k,.int .i64 (t).w,.int .u64 (t).b,.str (t).s,.int .i64 (t).lo,.lst (t).e ((t).l.map tV)]])] 10) Q:=by
 intro k
 induction k with
 |zero =>
  intro i hi
  have d1:decide ((i:Int) < t.l.length)=false:=by simp;omega
  have hi':i=t.l.length:=by omega
  subst hi'
  have hq:=next
  rw [← List.take_of_length_le (l:=t.l.map (vM (rhoE env) m)) (i:=t.l.length) (by simp)] at hq
  simp (disch:=first | exact A5b | fail) only [unf b47_0.eq_1,c47,TL,d1,EVS,Nat.reduceAdd,Nat.reduceSub,Int.reduceToNat,Nat.reduceMul,Nat.reduceEqDiff,Nat.reduceLeDiff,Int.reduceEq,Int.reduceLT,Int.reduceLE,↓reduceIte]
  exact next _
 |succ k ihk =>
  intro i hi
  have hil:i < t.l.length:=by omega
  have d1:decide ((i:Int) < t.l.length)=true:=by simp;omega
  have hx:=ih _ (A0r (d:=default) hil)
  have hlen:(((t.l.map (vM (rhoE env) m)).take i).map uV).length=i:=by simp;omega
  simp (disch:=first | exact A5b | fail) only [unf b47_0.eq_1,c47,TL,d1,hx,hlen,EVS,Nat.reduceAdd,Nat.reduceSub,Int.reduceToNat,Nat.reduceMul,Nat.reduceEqDiff,Nat.reduceLeDiff,Int.reduceEq,Int.reduceLT,Int.reduceLE,↓reduceIte]
  have e2:((t.l.map (vM (rhoE env) m)).take i).map uV ++ [.int .u64 (vM (rhoE env) m (t.l.getD i default):Nat)]=((t.l.map (vM (rhoE env) m)).take (i + 1)).map uV:=by
   rw [List.take_add_one,List.map_append];simp [List.getD,hil]
  rw [e2]
  exact A0s (by decide) (by simp [A19,low,lows,A0p,EnL]) (by simp [cutH,A0b,A16,lows,low,TL,Av5,-List.map_take,-List.map_map]) (ihk (i + 1) (by omega))
theorem Ae9 (env:Env) (hle:env.length ≤ 1100) (m:Mem) (e d:Bool) (hm:okM m) (hms:memS m) (hx:∀ p ∈ env,0 ≤ p.2.2∧p.2.2 ≤ 18446744073709551615) (t:Te) (hn:A1a t) (ht:TOk t) (hρ:A7s (rhoE env) t):∀ h nx,lim T 47 [.agg [.int .u8 (t).k,.int .i64 (t).w,.int .u64 (t).b,.str (t).s,.int .i64 (t).lo,.lst (t).e ((t).l.map tV)],.lst e (env.map bdV),.lst d (m.map ceV)] h nx=some (.int .u64 (vM (rhoE env) m t:Nat),h,nx):=by
 induction t using Tm'.ind with
 |h t ih =>
 have hself:=(A2o t).1 hn
 have hb:=ht.self.2.2.1
 have hval:vM (rhoE env) m t=vop (ldN m) t.k t.w t.b t.lo (rhoE env t.s) (t.l.map Tm'.w) (t.l.map (vM (rhoE env) m)):=A79 (rhoE env) (ldN m) t
 refine A05 tg47 rfl rfl (by simp [pures,A0i,A2m,pu_e,pu_m]) ?_
 by_cases k1:t.k=1
 ·have hv:vM (rhoE env) m t=t.b.toNat:=by rw [hval,vop,if_pos k1]
  rw [hv,Int.toNat_of_nonneg hb.1]
  simp (disch:=first | exact A5b | fail) only [c47,k1,TL,EVS,Nat.reduceAdd,Nat.reduceSub,Int.reduceToNat,Nat.reduceMul,Nat.reduceEqDiff,Nat.reduceLeDiff,Int.reduceEq,Int.reduceLT,Int.reduceLE,↓reduceIte]
 by_cases k2:t.k=2
 ·have hv:vM (rhoE env) m t=rhoE env t.s:=by rw [hval,vop,if_neg k1,if_pos k2]
  rw [hv]
  have hrb:=A8s e env t.s hle
  cases hq:A37 env t.s with
  |none =>
   have e0:rhoE env t.s=0:=by unfold rhoE;rw [hq]
   rw [hq] at hrb
   rw [e0]
   simp (disch:=first | exact A5b | fail) only [c47,k2,TL,hrb,EVS,Nat.reduceAdd,Nat.reduceSub,Int.reduceToNat,Nat.reduceMul,Nat.reduceEqDiff,Nat.reduceLeDiff,Int.reduceEq,Int.reduceLT,Int.reduceLE,↓reduceIte]
   rfl
  |some q =>
   have e0:((rhoE env t.s:Nat):Int)=q.2.2:=by
    unfold rhoE;rw [hq];exact Int.toNat_of_nonneg (Abd hx hq).2.2
   have hrb':∀ h nx,lim T 46 [.lst e (env.map bdV),.str t.s] h nx=some (.tup [.agg [.str q.1,.int .i64 q.2.1,.int .u64 q.2.2],.bool true],h,nx):=fun h nx=>by rw [hrb,hq];rfl
   rw [e0]
   simp (disch:=first | exact A5b | fail) only [c47,k2,TL,hrb',EVS,Nat.reduceAdd,Nat.reduceSub,Int.reduceToNat,Nat.reduceMul,Nat.reduceEqDiff,Nat.reduceLeDiff,Int.reduceEq,Int.reduceLT,Int.reduceLE,↓reduceIte]
 have d1:decide (t.k=1)=false:=decide_eq_false k1
 have d2:decide (t.k=2)=false:=decide_eq_false k2
 have hpp:0 < t.l.length∧t.l.length ≤ 3:=by
  have hk24:1 ≤ t.k∧t.k ≤ 24:=by
   rcases Int.lt_or_le t.k 1 with h | h
   ·exact absurd hself.1 (A3u (.inl h))
   ·rcases Int.lt_or_le 24 t.k with h' | h'
    ·exact absurd hself.1 (A3u (.inr h'))
    ·exact ⟨h,h'⟩
  have h2:=hself.1.2
  rw [if_pos (by omega)] at h2
  have:=h2.2.2.2.1
  unfold A0y at this
  constructor
  ·(repeat' split at this)<;>omega
  ·(repeat' split at this)<;>omega
 have lp:=Anm env m e d t hpp.2 (fun x hx'=>ih x hx' (hself.2 x hx') (ht.sub hx') (fun y hy=>hρ y (A3h hx' hy))) _ (fun nx=>Aok env m e d hm hms t hn ht hρ hpp.1 nx) t.l.length 0 (by omega)
 rw [List.take_zero] at lp
 simp (disch:=first | exact A5b | fail) only [c47,d1,d2,TL,EVS,Nat.reduceAdd,Nat.reduceSub,Int.reduceToNat,Nat.reduceMul,Nat.reduceEqDiff,Nat.reduceLeDiff,Int.reduceEq,Int.reduceLT,Int.reduceLE,↓reduceIte]
 exact lp
theorem d_R2 {P:Prop} (h:P:=by first|omega|(simp only[EVL]<;>omega)|(simp only[A0n,Nat.reduceEqDiff,↓reduceIte];done)|assumption|(simp (disch:=omega) only[A06,A0a,A04, *];done)|(simp only [A11];done)|with_unfolding_all rfl):P:=h
set_option maxHeartbeats 1000000 in
open Classical in
theorem Aif (t:Te) (ht:Ap4 t) (hs:∀ x ∈ t.l,A1a x) (hl:t.l.length ≤ 1000000) (i:Int) :
  @Ok Out (runs T [.code k123_1] [(1,.ptr 0 1 0 0),(3,.int .i64 i),(11,.bool false)] [(0,.row 6 [.agg [.int .u8 (t).k,.int .i64 (t).w,.int .u64 (t).b,.str (t).s,.int .i64 (t).lo,.lst (t).e ((t).l.map tV)]])] 8) ⟨fun x=>resV c123.res x=some (.bool (decide (A1r t)))⟩:=by
 obtain ⟨⟨k1,k2⟩,⟨w1,w2⟩,⟨b1,b2⟩,_,⟨l1,l2⟩,_⟩:=ht
 have hok:=A87 t.w t.b b2
 have hsub:∀ i,i < t.l.length→1 ≤ subW t i∧subW t i ≤ 64:=fun i hi=>Adj (hs _ (A0r hi))
 have s0:0 < t.l.length→1 ≤ (t.l.getD 0 default).w∧(t.l.getD 0 default).w ≤ 64:=hsub 0
 have s1:1 < t.l.length→1 ≤ (t.l.getD 1 default).w∧(t.l.getD 1 default).w ≤ 64:=hsub 1
 simp (disch:=first | exact d_R2 | fail) only [unf k123_1.eq_1,c123,A11,A3z,EVS,Nat.reduceAdd,Nat.reduceSub,Int.reduceToNat,Nat.reduceMul,Nat.reduceEqDiff,Nat.reduceLeDiff,Int.reduceEq,Int.reduceLT,Int.reduceLE,↓reduceIte]
 repeat' (refine A1g (fun hb=>?_) (fun hb=>?_)<;>have h:=hb<;>(try simp only [decide_eq_true_eq,decide_eq_false_iff_not,Int.not_lt,Int.not_le] at h)<;>(simp (disch:=first | exact d_R2 | fail) only [hb,c123,A11,hok,A5e,A8g,EVS,Nat.reduceAdd,Nat.reduceSub,Int.reduceToNat,Nat.reduceMul,Nat.reduceEqDiff,Nat.reduceLeDiff,Int.reduceEq,Int.reduceLT,Int.reduceLE,↓reduceIte])<;>(try clear hb))
 all_goals (first | refine decide_eq_decide.2 ?_ | refine (decide_eq_true ?_).symm | refine (decide_eq_false ?_).symm)
 all_goals (first | rw [Aff (by assumption)] | rw [Akd (by assumption)] | rw [A80 (by omega)] | rw [Aaq (by omega)] | rw [A8a (by omega)] | rw [A8b (by omega)] | rw [A82 (by omega)] | rw [Abl (by omega)] | rw [A84 (by omega)] | rw [A8c (by omega)] | skip)
 all_goals (try unfold A1p)
 all_goals (try unfold subW)
 all_goals first | (exfalso;omega) | (exact A3u (by omega)) | (simp_all;done) | (simp_all;omega) | (have hS:t.s=[]:=eq_of_beq (by assumption);simp only [hS,true_and];omega) | (intro hn;have hq:=Aee hn;have hS:=(hq.2 (by omega)).2.2.1;simp only [hS,true_and] at *; first | omega | (simp_all;done)) | (intro hn;have hq:=Aee hn;omega)
theorem d_R3 {P:Prop} (h:P:=by first|omega|(simp only[EVL]<;>omega)|(simp only[A0n,Nat.reduceEqDiff,↓reduceIte];done)|assumption|(simp (disch:=omega) only[A06,A0a,A04, *];done)|(simp only [A11];done)|with_unfolding_all rfl):P:=h
open Classical in
theorem Afu (t:Te) (ht:TOk t) (hl:t.l.length ≤ 1000000) (ih:∀ x ∈ t.l,∀ h nx,lim T 123 [.agg [.int .u8 (x).k,.int .i64 (x).w,.int .u64 (x).b,.str (x).s,.int .i64 (x).lo,.lst (x).e ((x).l.map tV)]] h nx=some (.bool (decide (A1a x)),h,nx)):∀ (k i:Nat),i + k=t.l.length→(∀ j,j < i→A1a (t.l.getD j default)) →
  @Ok Out (runs T [.code b123_0,.inL (some 3) b123_0,.inB 0,.code k123_1] [(1,.ptr 0 1 0 0),(3,.int .i64 i)] [(0,.row 6 [.agg [.int .u8 (t).k,.int .i64 (t).w,.int .u64 (t).b,.str (t).s,.int .i64 (t).lo,.lst (t).e ((t).l.map tV)]])] 3) ⟨fun x=>resV c123.res x=some (.bool (decide (A1a t)))⟩:=by
 intro k
 induction k with
 |zero =>
  intro i hi hok
  have:¬ (i:Int) < t.l.length:=by omega
  have hall:∀ x ∈ t.l,A1a x:=fun x hx=>by
   obtain ⟨j,hj,rfl⟩:=List.mem_iff_getElem.1 hx
   have:=hok j (by omega)
   simpa [List.getD,hj] using this
  have hd:decide (A1a t)=decide (A1r t):=decide_eq_decide.2 ((A2o t).trans ⟨fun h=>h.1,fun h=>⟨h,hall⟩⟩)
  rw [hd]
  simp (disch:=first | exact d_R3 | fail) only [unf b123_0.eq_1,this,A11,EVS,Nat.reduceAdd,Nat.reduceSub,Int.reduceToNat,Nat.reduceMul,Nat.reduceEqDiff,Nat.reduceLeDiff,Int.reduceEq,Int.reduceLT,Int.reduceLE,↓reduceIte]
  exact Aif t ht.self hall hl i
 |succ k ihk =>
  intro i hi hok
  have:(i:Int) < t.l.length:=by omega
  have hx:=ih _ (A0r (d:=default) (show i < t.l.length by omega))
  by_cases hs:A1a (t.l.getD i default)
  ·rw [decide_eq_true hs] at hx
   simp (disch:=first | exact d_R3 | fail) only [unf b123_0.eq_1,c123,this,A11,hx,EVS,Nat.reduceAdd,Nat.reduceSub,Int.reduceToNat,Nat.reduceMul,Nat.reduceEqDiff,Nat.reduceLeDiff,Int.reduceEq,Int.reduceLT,Int.reduceLE,↓reduceIte]
   exact A0s (by decide) (by simp [A19,low,lows,A11]) (by simp [cutH,A0b,A16,lows,low,A11]) (ihk (i + 1) (by omega) (fun j hj=>by
    by_cases e:j=i
    ·subst e;exact hs
    ·exact hok j (by omega)))
  ·rw [decide_eq_false hs] at hx
   simp (disch:=first | exact d_R3 | fail) only [unf b123_0.eq_1,c123,this,A11,hx,EVS,Nat.reduceAdd,Nat.reduceSub,Int.reduceToNat,Nat.reduceMul,Nat.reduceEqDiff,Nat.reduceLeDiff,Int.reduceEq,Int.reduceLT,Int.reduceLE,↓reduceIte]
   exact (decide_eq_false fun hh=>hs (((A2o t).1 hh).2 _ (A0r (by omega)))).symm
open Classical in
theorem Afl (t:Te) (ht:TOk t) (hl:size t ≤ 1000000):∀ h nx,lim T 123 [.agg [.int .u8 (t).k,.int .i64 (t).w,.int .u64 (t).b,.str (t).s,.int .i64 (t).lo,.lst (t).e ((t).l.map tV)]] h nx=some (.bool (decide (A1a t)),h,nx):=by
 induction t using Tm'.ind with
 |h t ih =>
 have hsz:=A3i t.l
 have hse:=size_eq t
 refine A05 Ayt rfl rfl (by simp [pures,A0i,A2m]) ?_
 simp (disch:=first | exact d_R3 | fail) only [c123,A11,EVS,Nat.reduceAdd,Nat.reduceSub,Int.reduceToNat,Nat.reduceMul,Nat.reduceEqDiff,Nat.reduceLeDiff,Int.reduceEq,Int.reduceLT,Int.reduceLE,↓reduceIte]
 exact Afu t ht (by omega) (fun x hx=>ih x hx (ht.sub hx) (by have:=A53 hx;omega)) t.l.length 0 (by omega) (fun j hj=>by omega)
theorem Ans (t:Te) (hl:t.l.length ≤ 1000000) (ih:∀ x ∈ t.l,∀ h nx,lim T 75 [.agg [.int .u8 (x).k,.int .i64 (x).w,.int .u64 (x).b,.str (x).s,.int .i64 (x).lo,.lst (x).e ((x).l.map tV)]] h nx=some (.lst false ((A0d x).map bd0),h,nx)):∀ (k i n:Nat) (L:Env0) (h:Heap) (nx:Nat),i + k=t.l.length→n=L.length→(L ++ varL (A26 (t.l.drop i))).length ≤ 1000000→3 ≤ nx→hget h 0=some (.row 6 [.agg [.int .u8 (t).k,.int .i64 (t).w,.int .u64 (t).b,.str (t).s,.int .i64 (t).lo,.lst (t).e ((t).l.map tV)]])→hget h 2=some (.row 3 (L.map bd0)) →
  @Ok Out (runs T [.code b75_0,.inL none b75_0,.inB 0,.code k75_1] [(1,.ptr 0 1 0 0),(3,.sref 3 2 n 0 n),(4,.int .i64 i)] h nx) ⟨fun x=>resV c75.res x=some (.lst false ((L ++ varL (A26 (t.l.drop i))).map bd0))⟩:=by
 intro k
 induction k with
 |zero =>
  intro i n L h nx hi hn hb hx h0 h2
  have:¬ (i:Int) < t.l.length:=by omega
  rw [List.drop_eq_nil_of_le (by omega)] at hb ⊢
  simp only [A26,varL,List.append_nil] at hb
  simp (disch:=first | exact d_R3 | fail) only [unf b75_0.eq_1,unf k75_1.eq_1,c75,this,A11,h0,h2,EVS,Nat.reduceAdd,Nat.reduceSub,Int.reduceToNat,Nat.reduceMul,Nat.reduceEqDiff,Nat.reduceLeDiff,Int.reduceEq,Int.reduceLT,Int.reduceLE,↓reduceIte]
  simp only [A26,varL,List.append_nil]
 |succ k ihk =>
  intro i n L h nx hi hn hb hx h0 h2
  have:(i:Int) < t.l.length:=by omega
  have hx':=ih _ (A0r (d:=default) (show i < t.l.length by omega))
  rw [Aik (show i < t.l.length by omega),← List.append_assoc] at hb ⊢
  have hb2:(L ++ A0d (t.l.getD i default)).length ≤ 1000000:=by rw [List.length_append] at hb;omega
  rw [List.length_append] at hb2
  simp (disch:=first | exact d_R3 | fail) only [unf b75_0.eq_1,c75,this,A11,hx',h0,h2,EVS,Nat.reduceAdd,Nat.reduceSub,Int.reduceToNat,Nat.reduceMul,Nat.reduceEqDiff,Nat.reduceLeDiff,Int.reduceEq,Int.reduceLT,Int.reduceLE,↓reduceIte]
  rw [← List.map_append]
  exact A0c (ihk (i + 1) _ _ _ _ (by omega) (by rw [List.length_append];omega) hb (by omega) (by rw [A04 (by decide)];exact h0) (A0z h2))
theorem A9z (t:Te) (hl:size t ≤ 1000000):∀ h nx,lim T 75 [.agg [.int .u8 (t).k,.int .i64 (t).w,.int .u64 (t).b,.str (t).s,.int .i64 (t).lo,.lst (t).e ((t).l.map tV)]] h nx=some (.lst false ((A0d t).map bd0),h,nx):=by
 induction t using Tm'.ind with
 |h t ih =>
 have hsz:=A3i t.l
 have hse:=size_eq t
 have hvl:=A6c (A0k t)
 rw [A3d] at hvl
 have hvl:(A0d t).length ≤ size t:=hvl
 have lp:=Ans t (by omega) (fun x hx=>ih x hx (by have:=A53 hx;omega)) t.l.length 0
 rw [Aj6] at hvl ⊢
 refine A05 tg75 rfl rfl (by simp [pures,A0i,A2m]) ?_
 by_cases hk:t.k=2
 ·rw [if_pos hk] at hvl ⊢
  simp (disch:=first | exact d_R3 | fail) only [c75,A11,hk,EVS,Nat.reduceAdd,Nat.reduceSub,Int.reduceToNat,Nat.reduceMul,Nat.reduceEqDiff,Nat.reduceLeDiff,Int.reduceEq,Int.reduceLT,Int.reduceLE,↓reduceIte]
  have:=lp 1 [(t.s,t.w)] [(12,.row 3 [.agg [.str t.s,.int .i64 t.w,.int .u64 0]]),(2,.row 3 [.agg [.str t.s,.int .i64 t.w,.int .u64 0]]),(0,.row 6 [.agg [.int .u8 (t).k,.int .i64 (t).w,.int .u64 (t).b,.str (t).s,.int .i64 (t).lo,.lst (t).e ((t).l.map tV)]])] 16 (by omega) rfl (by rw [List.drop_zero];omega) (by omega) rfl rfl
  rw [List.drop_zero] at this
  rw [hk] at this
  exact this
 ·rw [if_neg hk] at hvl ⊢
  simp (disch:=first | exact d_R3 | fail) only [c75,A11,hk,EVS,Nat.reduceAdd,Nat.reduceSub,Int.reduceToNat,Nat.reduceMul,Nat.reduceEqDiff,Nat.reduceLeDiff,Int.reduceEq,Int.reduceLT,Int.reduceLE,↓reduceIte]
  have:=lp 0 [] [(2,.row 3 []),(0,.row 6 [.agg [.int .u8 (t).k,.int .i64 (t).w,.int .u64 (t).b,.str (t).s,.int .i64 (t).lo,.lst (t).e ((t).l.map tV)]])] 7 (by omega) rfl (by rw [List.drop_zero];omega) (by omega) rfl rfl
  rw [List.drop_zero] at this
  exact this
theorem Agg {L:Env0}:Cons L ↔ ∀ i k,i < L.length→k < i→(L.getD k ([],0)).1=(L.getD i ([],0)).1→(L.getD k ([],0)).2=(L.getD i ([],0)).2:=by
 constructor
 ·intro h i k hi hk e
  have h1:=A0r (d:=(([],0):List UInt8 × Int)) hi
  have h2:=A0r (d:=(([],0):List UInt8 × Int)) (show k < L.length by omega)
  generalize L.getD i ([],0)=p at *
  generalize L.getD k ([],0)=q at *
  obtain ⟨a,b⟩:=p
  obtain ⟨c,d⟩:=q
  dsimp only at e ⊢
  subst e
  exact h _ _ _ h2 h1
 ·intro h s v w hv hw
  obtain ⟨i,hi,e1⟩:=List.mem_iff_getElem.1 hv
  obtain ⟨k,hk,e2⟩:=List.mem_iff_getElem.1 hw
  have g1:L.getD i ([],0)=(s,v):=by simp [List.getD,hi,e1]
  have g2:L.getD k ([],0)=(s,w):=by simp [List.getD,hk,e2]
  rcases Nat.lt_trichotomy i k with h1 | h1 | h1
  ·have:=h k i hk h1;rw [g1,g2] at this;exact this rfl
  ·subst h1;rw [g1] at g2;cases g2;rfl
  ·have:=h i k hi h1;rw [g1,g2] at this;exact (this rfl).symm
abbrev CQ (L:Env0) (v:Int):Prop:=(Cons L→v=0)∧(¬ Cons L→v=14)
theorem Ac9 (L:Env0) (hl:L.length ≤ 1000000) (i:Nat) (hi':i < L.length) (hok:∀ a b,a < i→b < a→(L.getD b ([],0)).1=(L.getD a ([],0)).1→(L.getD b ([],0)).2=(L.getD a ([],0)).2) (hp:Heap) (hlow:A0b 17 (cutH 17 hp)=true) (hlow2:A0b 22 (cutH 22 hp)=true) (hcc:cutH 22 hp=hp) (hcd:cutH 17 hp=hp)
  (next:(∀ b,b < i→(L.getD b ([],0)).1=(L.getD i ([],0)).1→(L.getD b ([],0)).2=(L.getD i ([],0)).2)→@Ok Out (runs T [.code b74_2,.inL (some 17) b74_2,.inB 0,.code k74_3] [(3,.lst false (L.map bd0)),(4,.int .i64 ((i + 1:Nat):Int))] hp 17) ⟨fun x=>@Ok FV (resV c74.res x) ⟨fun v=>∃ r:Int,v=.int .i64 r∧CQ L r⟩⟩):∀ (k j:Nat),j + k=i→(∀ b,b < j→(L.getD b ([],0)).1=(L.getD i ([],0)).1→(L.getD b ([],0)).2=(L.getD i ([],0)).2) →
  @Ok Out (runs T [.code b74_0,.inL (some 22) b74_0,.inB 2,.inB 1,.code k74_1,.inL (some 17) b74_2,.inB 0,.code k74_3] [(3,.lst false (L.map bd0)),(4,.int .i64 i),(5,.int .i64 j)] hp 22) ⟨fun x=>@Ok FV (resV c74.res x) ⟨fun v=>∃ r:Int,v=.int .i64 r∧CQ L r⟩⟩:=by
 intro k
 induction k with
 |zero =>
  intro j hj hb
  have:¬ (j:Int) < i:=by omega
  simp (disch:=first | exact d_R3 | fail) only [unf b74_0.eq_1,unf k74_1.eq_1,c74,this,A11,EVS,Nat.reduceAdd,Nat.reduceSub,Int.reduceToNat,Nat.reduceMul,Nat.reduceEqDiff,Nat.reduceLeDiff,Int.reduceEq,Int.reduceLT,Int.reduceLE,↓reduceIte]
  exact A0s (by decide) (by simp [A19,low,A11]) hlow (by rw [hcd];exact next (fun b hb'=>hb b (by omega)))
 |succ k ih =>
  intro j hj hb
  have:(j:Int) < i:=by omega
  by_cases h1:(L.getD j ([],0)).1=(L.getD i ([],0)).1
  ·by_cases h2:(L.getD j ([],0)).2=(L.getD i ([],0)).2
   ·simp (disch:=first | exact d_R3 | fail) only [unf b74_0.eq_1,c74,this,A11,h1,h2,EVS,Nat.reduceAdd,Nat.reduceSub,Int.reduceToNat,Nat.reduceMul,Nat.reduceEqDiff,Nat.reduceLeDiff,Int.reduceEq,Int.reduceLT,Int.reduceLE,↓reduceIte]
    exact A0s (by decide) (by simp [A19,low,A11]) hlow2 (by rw [hcc];exact ih (j + 1) (by omega) (fun b hb' e=>by
     by_cases hbj:b=j
     ·subst hbj;exact h2
     ·exact hb b (by omega) e))
   ·simp (disch:=first | exact d_R3 | fail) only [unf b74_0.eq_1,c74,this,A11,h1,h2,EVS,Nat.reduceAdd,Nat.reduceSub,Int.reduceToNat,Nat.reduceMul,Nat.reduceEqDiff,Nat.reduceLeDiff,Int.reduceEq,Int.reduceLT,Int.reduceLE,↓reduceIte]
    exact ⟨14,rfl,fun hc=>absurd (Agg.1 hc i j hi' (by omega) h1) h2,fun _=>rfl⟩
  ·have h1':((L.getD j ([],0)).1 == (L.getD i ([],0)).1)=false:=by simpa using h1
   simp (disch:=first | exact d_R3 | fail) only [unf b74_0.eq_1,c74,this,A11,h1',EVS,Nat.reduceAdd,Nat.reduceSub,Int.reduceToNat,Nat.reduceMul,Nat.reduceEqDiff,Nat.reduceLeDiff,Int.reduceEq,Int.reduceLT,Int.reduceLE,↓reduceIte]
   exact A0s (by decide) (by simp [A19,low,A11]) hlow2 (by rw [hcc];exact ih (j + 1) (by omega) (fun b hb' e=>by
    by_cases hbj:b=j
    ·subst hbj;exact absurd e h1
    ·exact hb b (by omega) e))
theorem A9p (L:Env0) (hl:L.length ≤ 1000000) (hp:Heap) (hlow:A0b 17 (cutH 17 hp)=true) (hlow2:A0b 22 (cutH 22 hp)=true) (hcc:cutH 22 hp=hp) (hcd:cutH 17 hp=hp):∀ (k i:Nat),i + k=L.length→(∀ a b,a < i→b < a→(L.getD b ([],0)).1=(L.getD a ([],0)).1→(L.getD b ([],0)).2=(L.getD a ([],0)).2) →
  @Ok Out (runs T [.code b74_2,.inL (some 17) b74_2,.inB 0,.code k74_3] [(3,.lst false (L.map bd0)),(4,.int .i64 i)] hp 17) ⟨fun x=>@Ok FV (resV c74.res x) ⟨fun v=>∃ r:Int,v=.int .i64 r∧CQ L r⟩⟩:=by
 intro k
 induction k with
 |zero =>
  intro i hi hok
  have:¬ (i:Int) < L.length:=by omega
  simp (disch:=first | exact d_R3 | fail) only [unf b74_2.eq_1,unf k74_3.eq_1,c74,this,A11,EVS,Nat.reduceAdd,Nat.reduceSub,Int.reduceToNat,Nat.reduceMul,Nat.reduceEqDiff,Nat.reduceLeDiff,Int.reduceEq,Int.reduceLT,Int.reduceLE,↓reduceIte]
  exact ⟨0,rfl,fun _=>rfl,fun hc=>absurd (Agg.2 fun a b ha hb e=>hok a b (by omega) hb e) hc⟩
 |succ k ih =>
  intro i hi hok
  have:(i:Int) < L.length:=by omega
  simp (disch:=first | exact d_R3 | fail) only [unf b74_2.eq_1,c74,this,A11,EVS,Nat.reduceAdd,Nat.reduceSub,Int.reduceToNat,Nat.reduceMul,Nat.reduceEqDiff,Nat.reduceLeDiff,Int.reduceEq,Int.reduceLT,Int.reduceLE,↓reduceIte]
  exact Ac9 L hl i (by omega) hok hp hlow hlow2 hcc hcd (fun hb=>ih (i + 1) (by omega) (fun a b ha hb' e=>by
   by_cases hai:a=i
   ·subst hai;exact hb b hb' e
   ·exact hok a b (by omega) hb' e)) i 0 (by omega) (fun b hb=>by omega)
open Classical in
theorem Ag7 (t:Te) (ht:TOk t) (hl:size t ≤ 1000000):∀ h nx,lim T 74 [.agg [.int .u8 (t).k,.int .i64 (t).w,.int .u64 (t).b,.str (t).s,.int .i64 (t).lo,.lst (t).e ((t).l.map tV)]] h nx=some (.int .i64 (A15 t),h,nx):=by
 have hs:=Ai2 t hl
 have hd:=Aes t hl
 have hf:=Afl t ht hl
 have hli:=A9z t hl
 have hvl:(A0d t).length ≤ size t:=by have:=A6c (A0k t);rw [A3d] at this;exact this
 refine A05 tg74 rfl rfl (by simp [pures,A0i,A2m]) ?_
 by_cases hm:400 < size t ∨ 60 < depth t
 ·rw [← A70 hm]
  simp (disch:=first | exact d_R3 | fail) only [c74,A11,hs,hd,EVS,Nat.reduceAdd,Nat.reduceSub,Int.reduceToNat,Nat.reduceMul,Nat.reduceEqDiff,Nat.reduceLeDiff,Int.reduceEq,Int.reduceLT,Int.reduceLE,↓reduceIte]
  repeat' (refine A1g (fun hb=>?_) (fun hb=>?_)<;>have h:=hb<;>(try simp only [decide_eq_true_eq,decide_eq_false_iff_not,Int.not_lt,Int.not_le] at h)<;>(simp (disch:=first | exact d_R3 | fail) only [hb,c74,A11,hs,hd,EVS,Nat.reduceAdd,Nat.reduceSub,Int.reduceToNat,Nat.reduceMul,Nat.reduceEqDiff,Nat.reduceLeDiff,Int.reduceEq,Int.reduceLT,Int.reduceLE,↓reduceIte])<;>(try clear hb))
  all_goals omega
 ·by_cases hn:A1a t
  ·rw [decide_eq_true hn] at hf
   have h1:¬ (400:Int) < size t:=by omega
   have h2:¬ (60:Int) < depth t:=by omega
   rw [Ags hm hn]
   simp (disch:=first | exact d_R3 | fail) only [c74,A11,hs,hd,h1,h2,hf,hli,EVS,Nat.reduceAdd,Nat.reduceSub,Int.reduceToNat,Nat.reduceMul,Nat.reduceEqDiff,Nat.reduceLeDiff,Int.reduceEq,Int.reduceLT,Int.reduceLE,↓reduceIte]
   have lp:=A9p (A0d t) (by omega) [(0,.row 6 [.agg [.int .u8 (t).k,.int .i64 (t).w,.int .u64 (t).b,.str (t).s,.int .i64 (t).lo,.lst (t).e ((t).l.map tV)]])] (by simp [cutH,A0b,A16,lows,low,A11]) (by simp [cutH,A0b,A16,lows,low,A11]) rfl rfl (A0d t).length 0 (by omega) (fun a b ha=>by omega)
   obtain ⟨x,h1,v,h2,r,rfl,hr⟩:=lp
   refine ⟨x,h1,?_⟩
   show resV c74.res x=_
   rw [h2]
   cases hv:A4n t with
   |inl en=>rw [hr.1 (A4c hv).1]
   |inr u=>rw [hr.2 (Aoz hv)]
  ·rw [decide_eq_false hn] at hf
   have h1:¬ (400:Int) < size t:=by omega
   have h2:¬ (60:Int) < depth t:=by omega
   rw [← Aeb hm hn]
   simp (disch:=first | exact d_R3 | fail) only [c74,A11,hs,hd,h1,h2,hf,EVS,Nat.reduceAdd,Nat.reduceSub,Int.reduceToNat,Nat.reduceMul,Nat.reduceEqDiff,Nat.reduceLeDiff,Int.reduceEq,Int.reduceLT,Int.reduceLE,↓reduceIte]
theorem Av4 (l:Env0):A9o 3 (l.map bd0)=true:=Agi (fun _=>rfl) l
theorem Axs {l:Env0} {i:Nat} (h:i < l.length):(l.map bd0)[i]? = some (.agg [.str (l.getD i ([],0)).1,.int .i64 (l.getD i ([],0)).2,.int .u64 0]):=by simp [List.getD,h,bd0]
theorem lk_n {es:Nat}:A9o es []=true:=rfl
theorem Ae1:type_of% (And.intro Av4 <| And.intro @Axs <| And.intro @lk_n <| @List.length_map.{0,0}):=And.intro Av4 <| And.intro @Axs <| And.intro @lk_n <| @List.length_map.{0,0}
theorem A9v {P:Prop} (h:P:=by first|omega|(simp only[EVL]<;>omega)|(simp only[A0n,Nat.reduceEqDiff,↓reduceIte];done)|assumption|(simp (disch:=omega) only[A06,A0a,A04, *];done)|(simp only [A11,Ae1];done)|with_unfolding_all rfl):P:=h
theorem Aha {l:Env0} {p:List UInt8 × Int} {k:Nat} (hk:posE p.1 l=k) (h:k=l.length ∨ (l.getD k ([],0)).1 ≠ p.1):A4b l p=l.take k ++ [p] ++ l.drop k:=by
 subst hk;exact if_pos h
theorem Ak0 {l : Env0} {p : List UInt8 × Int} {k : Nat} (hk : posE p.1 l = k) (h1 : k ≠ l.length) (h2 : (l.getD k ([], 0)).1 = p.1) : A4b l p = l := by
  subst hk; exact if_neg (by rintro (h | h); · exact h1 h
                             · exact h h2)
theorem Amj {out L:Env0} {i:Nat} (h:i < L.length):insE out (L.drop i)=insE (A4b out (L.getD i ([],0))) (L.drop (i + 1)):=by
 rw [List.drop_eq_getElem_cons h]
 simp [insE,List.getD,h]
def OutR (h:Heap) (nx:Nat) (v:FV) (O:Env0):Prop:=(∃ e,v=.lst e []∧O=[]) ∨ ∃ id,v=.sref 3 id O.length 0 O.length∧hget h id=some (.row 3 (O.map bd0))∧id < nx
abbrev RQ (t:Te):Post Out:=⟨fun x=>@Ok FV (resV c45.res x) ⟨fun v=>∃ e,v=.tup [.lst e ((insE [] (A0d t)).map bd0),.int .i64 0]⟩⟩
theorem B1h (t:Te) (L:Env0) (hL:L=A0d t) (hlen:L.length ≤ 1000) (i:Nat) (hi:i < L.length) (O:Env0) (hO:O.length ≤ 1000) (v:FV) :
  ∀ (k j:Nat) (h:Heap) (nx:Nat),j + k=O.length→OutR h nx v O→(∀ a,a < j→Op.bytesLess (O.getD a ([],0)).1 (L.getD i ([],0)).1=true) →
  (∀ (h:Heap) (nx:Nat) (v:FV),OutR h nx v (A4b O (L.getD i ([],0)))→@Ok Out (runs T [.code b45_3,.inL none b45_3,.inB 0,.code k45_4] [(4,v),(5,.lst false (L.map bd0)),(6,.int .i64 (i + 1:Nat))] h nx) (RQ t)) →
  @Ok Out (runs T [.code b45_0,.inL none b45_0,.inB 2,.code k45_1,.inB 1,.code k45_2,.inL none b45_3,.inB 0,.code k45_4] [(4,v),(5,.lst false (L.map bd0)),(6,.int .i64 i),(7,.int .i64 j)] h nx) (RQ t):=by
 have hii:(i:Int) < L.length:=by omega
 have ei:(i:Int) + 1=((i + 1:Nat):Int):=by omega
 intro k
 induction k with
 |zero =>
  intro j h nx hj hr hb next
  have hp:posE (L.getD i ([],0)).1 O=j:=An3 (by omega) (fun a ha=>hb a ha) (fun hh=>by omega)
  have hst:=Aha hp (.inl (by omega))
  have hjO:j=O.length:=by omega
  subst hjO
  rw [List.take_of_length_le (Nat.le_refl _),List.drop_of_length_le (Nat.le_refl _),List.append_nil] at hst
  rw [hst] at next
  rcases hr with ⟨e,rfl,rfl⟩ | ⟨id,rfl,h1,h2⟩
  ·have d1:decide (((0:Nat):Int) < ((0:Nat):Int))=false:=by decide
   simp (disch:=first | exact A9v | fail) only [unf b45_0.eq_1,unf k45_1.eq_1,unf k45_2.eq_1,c45,A11,Ae1,eq_self,hii,ei,d1,← List.map_drop,← List.map_take,EVS,Nat.reduceAdd,Nat.reduceSub,Int.reduceToNat,Nat.reduceMul,Nat.reduceEqDiff,Nat.reduceLeDiff,Int.reduceEq,Int.reduceLT,Int.reduceLE,↓reduceIte]
   exact A0c (next _ _ _ (.inr ⟨nx + 17 + 17,by simp,by (simp (disch:=omega) only [A06,A0a,A04,A1h,Option.map_some, *]);simp [bd0],by omega⟩))
  ·have d1:decide ((O.length:Int) < O.length)=false:=by simp
   simp (disch:=first | exact A9v | fail) only [unf b45_0.eq_1,unf k45_1.eq_1,unf k45_2.eq_1,c45,A11,Ae1,eq_self,hii,ei,h1,d1,← List.map_drop,← List.map_take,EVS,Nat.reduceAdd,Nat.reduceSub,Int.reduceToNat,Nat.reduceMul,Nat.reduceEqDiff,Nat.reduceLeDiff,Int.reduceEq,Int.reduceLT,Int.reduceLE,↓reduceIte]
   exact A0c (next _ _ _ (.inr ⟨nx + 17 + 17,by simp,by (simp (disch:=omega) only [A06,A0a,A04,A1h,Option.map_some, *]);simp [bd0],by omega⟩))
 |succ k ih =>
  intro j h nx hj hr hb next
  rcases hr with ⟨e,rfl,rfl⟩ | ⟨id,rfl,h1,h2⟩
  ·simp at hj
  ·have hjl:(j:Int) < O.length:=by omega
   have ej:(j:Int) + 1=((j + 1:Nat):Int):=by omega
   have hne:¬ (j:Int)=O.length:=by omega
   cases hless:Op.bytesLess (O.getD j ([],0)).1 (L.getD i ([],0)).1 with
   |true =>
    simp (disch:=first | exact A9v | fail) only [unf b45_0.eq_1,c45,A11,Ae1,hii,hjl,ej,h1,hless,EVS,Nat.reduceAdd,Nat.reduceSub,Int.reduceToNat,Nat.reduceMul,Nat.reduceEqDiff,Nat.reduceLeDiff,Int.reduceEq,Int.reduceLT,Int.reduceLE,↓reduceIte]
    refine A0c (ih (j + 1) _ _ (by omega) (.inr ⟨id,rfl,h1,by omega⟩) (fun a ha=>?_) next)
    by_cases e:a=j
    ·subst e;exact hless
    ·exact hb a (by omega)
   |false =>
    have hp:posE (L.getD i ([],0)).1 O=j:=An3 (by omega) hb (fun _=>hless)
    by_cases heq:(O.getD j ([],0)).1=(L.getD i ([],0)).1
    ·rw [Ak0 hp (by omega) heq] at next
     have hbe:((O.getD j ([],0)).1 == (L.getD i ([],0)).1)=true:=by simpa using heq
     simp (disch:=first | exact A9v | fail) only [unf b45_0.eq_1,unf k45_1.eq_1,unf k45_2.eq_1,c45,A11,Ae1,hii,hjl,hne,ei,h1,hless,hbe,EVS,Nat.reduceAdd,Nat.reduceSub,Int.reduceToNat,Nat.reduceMul,Nat.reduceEqDiff,Nat.reduceLeDiff,Int.reduceEq,Int.reduceLT,Int.reduceLE,↓reduceIte]
     exact A0c (next _ _ _ (.inr ⟨id,rfl,h1,by omega⟩))
    ·have hst:=Aha hp (.inr heq)
     rw [hst] at next
     have hbe:((O.getD j ([],0)).1 == (L.getD i ([],0)).1)=false:=by simpa using heq
     have hO2:(O.take j).length=j:=by rw [List.length_take];omega
     simp (disch:=first | exact A9v | fail) only [unf b45_0.eq_1,unf k45_1.eq_1,unf k45_2.eq_1,c45,A11,Ae1,eq_self,hii,hjl,hne,ei,h1,hless,hbe,← List.map_drop,← List.map_take,EVS,Nat.reduceAdd,Nat.reduceSub,Int.reduceToNat,Nat.reduceMul,Nat.reduceEqDiff,Nat.reduceLeDiff,Int.reduceEq,Int.reduceLT,Int.reduceLE,↓reduceIte]
     refine A0c (next _ _ _ (.inr ⟨nx + 17 + 17,?_,?_,by omega⟩))
     ·simp [hO2];omega
     ·(simp (disch:=omega) only [A06,A0a,A04,A1h,Option.map_some, *]);simp [bd0]
theorem Auo (t:Te) (L:Env0) (hL:L=A0d t) (hlen:L.length ≤ 500):∀ (k i:Nat) (O:Env0) (v:FV) (h:Heap) (nx:Nat),i + k=L.length→O.length ≤ i→OutR h nx v O→insE O (L.drop i)=insE [] L →
  @Ok Out (runs T [.code b45_3,.inL none b45_3,.inB 0,.code k45_4] [(4,v),(5,.lst false (L.map bd0)),(6,.int .i64 i)] h nx) (RQ t):=by
 intro k
 induction k with
 |zero =>
  intro i O v h nx hi hO hr hI
  have d1:decide ((i:Int) < L.length)=false:=by simp;omega
  rw [List.drop_of_length_le (by omega)] at hI
  have hI:O=insE [] L:=hI
  rcases hr with ⟨e,rfl,rfl⟩ | ⟨id,rfl,h1,h2⟩
  ·simp (disch:=first | exact A9v | fail) only [unf b45_3.eq_1,unf k45_4.eq_1,c45,A11,Ae1,d1,EVS,Nat.reduceAdd,Nat.reduceSub,Int.reduceToNat,Nat.reduceMul,Nat.reduceEqDiff,Nat.reduceLeDiff,Int.reduceEq,Int.reduceLT,Int.reduceLE,↓reduceIte]
   rw [← hL,← hI]
   exact ⟨e,rfl⟩
  ·simp (disch:=first | exact A9v | fail) only [unf b45_3.eq_1,unf k45_4.eq_1,c45,A11,Ae1,d1,h1,EVS,Nat.reduceAdd,Nat.reduceSub,Int.reduceToNat,Nat.reduceMul,Nat.reduceEqDiff,Nat.reduceLeDiff,Int.reduceEq,Int.reduceLT,Int.reduceLE,↓reduceIte]
   rw [← hL,← hI]
   exact ⟨_,rfl⟩
 |succ k ih =>
  intro i O v h nx hi hO hr hI
  have d1:decide ((i:Int) < L.length)=true:=by simp;omega
  rw [Amj (by omega)] at hI
  simp (disch:=first | exact A9v | fail) only [unf b45_3.eq_1,c45,A11,d1,EVS,Nat.reduceAdd,Nat.reduceSub,Int.reduceToNat,Nat.reduceMul,Nat.reduceEqDiff,Nat.reduceLeDiff,Int.reduceEq,Int.reduceLT,Int.reduceLE,↓reduceIte]
  refine B1h t L hL (by omega) i (by omega) O (by omega) v O.length 0 h _ (by omega) ?_ (fun a ha=>by omega) (fun h' nx' v' hr'=>ih (i + 1) _ v' h' nx' (by omega) (by have:=A8n O (L.getD i ([],0));omega) hr' hI)
  rcases hr with hr | ⟨id,h1,h2,h3⟩
  ·exact .inl hr
  ·exact .inr ⟨id,h1,h2,by omega⟩
theorem Ail {t:Te} (h:A15 t=0):size t ≤ 400:=by
 unfold A15 at h
 split at h
 ·cases h
 ·omega
theorem Aiq (t:Te) (ht:TOk t) (hl:size t ≤ 1000000):∃ e,∀ h nx,lim T 45 [.agg [.int .u8 (t).k,.int .i64 (t).w,.int .u64 (t).b,.str (t).s,.int .i64 (t).lo,.lst (t).e ((t).l.map tV)]] h nx=some (Abh e t,h,nx):=by
 have hc:=Ag7 t ht hl
 have hli:=A9z t hl
 obtain ⟨v,⟨e,rfl⟩,hh⟩:=A4l (p:=fun v=>∃ e,v=Abh e t) tg45 rfl (args:=[.agg [.int .u8 (t).k,.int .i64 (t).w,.int .u64 (t).b,.str (t).s,.int .i64 (t).lo,.lst (t).e ((t).l.map tV)]]) rfl (by simp [pures,A0i,A2m]) (by
  by_cases h0:A15 t=0
  ·have hs:=Ail h0
   have hvl:(A0d t).length ≤ size t:=by have:=A6c (A0k t);rw [A3d] at this;exact this
   simp (disch:=first | exact A9v | fail) only [c45,A11,hc,hli,h0,EVS,Nat.reduceAdd,Nat.reduceSub,Int.reduceToNat,Nat.reduceMul,Nat.reduceEqDiff,Nat.reduceLeDiff,Int.reduceEq,Int.reduceLT,Int.reduceLE,↓reduceIte]
   refine A7a (Auo t (A0d t) rfl (by omega) (A0d t).length 0 [] _ _ _ (by omega) (by simp) (.inl ⟨true,rfl,rfl⟩) rfl) fun _ v hv=>?_
   obtain ⟨e,rfl⟩:=hv
   exact ⟨e,(if_pos h0).symm⟩
  ·simp (disch:=first | exact A9v | fail) only [c45,A11,hc,h0,EVS,Nat.reduceAdd,Nat.reduceSub,Int.reduceToNat,Nat.reduceMul,Nat.reduceEqDiff,Nat.reduceLeDiff,Int.reduceEq,Int.reduceLT,Int.reduceLE,↓reduceIte]
   exact ⟨true,(if_neg h0).symm⟩)
 exact ⟨e,hh⟩
theorem A4q {P:Prop} (h:P:=by first|omega|(simp only[EVL]<;>omega)|(simp only[A0n,Nat.reduceEqDiff,↓reduceIte];done)|assumption|(simp (disch:=omega) only[A06,A0a,A04, *];done)|(simp only [TL,A0p,EnL,A11];done)|with_unfolding_all rfl):P:=h
abbrev rvP (t:Te) (env:Env) (m:Mem) (L:Env0):FV:=.tup [.int .u64 (if A23 env L=0 then vM (rhoE env) m t else 0:Nat),.int .i64 (A23 env L)]
theorem Akj (e d e3:Bool) (env:Env) (m:Mem) (hm:okM m) (hms:memS m) (hle:env.length ≤ 1100) (hx:∀ p ∈ env,0 ≤ p.2.2∧p.2.2 ≤ 18446744073709551615) (t:Te) (hn:A1a t) (ht:TOk t) (L:Env0) (hll:L.length ≤ 1000) (hb:A23 env L=0→A7s (rhoE env) t) :
  ∀ (k i:Nat),i + k=L.length→A23 env L=A23 env (L.drop i) →
  @Ok Out (runs T [.code b12_0,.inL (some 23) b12_0,.inB 1,.code k12_1] [(1,.lst e (env.map bdV)),(2,.lst d (m.map ceV)),(3,.ptr 0 1 0 0),(8,.lst e3 (L.map bd0)),(10,.int .i64 i)] [(0,.row 6 [.agg [.int .u8 (t).k,.int .i64 (t).w,.int .u64 (t).b,.str (t).s,.int .i64 (t).lo,.lst (t).e ((t).l.map tV)]])] 23) ⟨fun x=>resV c12.res x=some (rvP t env m L)⟩:=by
 intro k
 induction k with
 |zero =>
  intro i hi hz
  have d1:decide ((i:Int) < L.length)=false:=by simp;omega
  have hf:A23 env L=0:=by rw [hz,List.drop_eq_nil_of_le (by omega)];rfl
  have hv:=Ae9 env hle m e d hm hms hx t hn ht (hb hf)
  have e0:rvP t env m L=.tup [.int .u64 (vM (rhoE env) m t:Nat),.int .i64 0]:=by unfold rvP;rw [hf,if_pos rfl]
  rw [e0]
  simp (disch:=first | exact A4q | fail) only [unf b12_0.eq_1,unf k12_1.eq_1,c12,TL,A11,d1,hv,EVS,Nat.reduceAdd,Nat.reduceSub,Int.reduceToNat,Nat.reduceMul,Nat.reduceEqDiff,Nat.reduceLeDiff,Int.reduceEq,Int.reduceLT,Int.reduceLE,↓reduceIte]
 |succ k ih =>
  intro i hi hz
  have hil:i < L.length:=by omega
  have d1:decide ((i:Int) < L.length)=true:=by simp;omega
  have hd:=Aad hil
  have hrb:=A8s e env (L.getD i ([],0)).1 hle
  rw [hd] at hz
  simp only [A23] at hz
  cases hq:A37 env (L.getD i ([],0)).1 with
  |none =>
   have ho:oneE env (L.getD i ([],0))=16:=by unfold oneE;rw [hq]
   rw [ho,if_neg (by decide)] at hz
   rw [hq] at hrb
   have e0:rvP t env m L=.tup [.int .u64 0,.int .i64 16]:=by unfold rvP;rw [hz,if_neg (by decide)];rfl
   rw [e0]
   simp (disch:=first | exact A4q | fail) only [unf b12_0.eq_1,c12,TL,A11,d1,hrb,EVS,Nat.reduceAdd,Nat.reduceSub,Int.reduceToNat,Nat.reduceMul,Nat.reduceEqDiff,Nat.reduceLeDiff,Int.reduceEq,Int.reduceLT,Int.reduceLE,↓reduceIte]
  |some q =>
   have hrb':∀ h nx,lim T 46 [.lst e (env.map bdV),.str (L.getD i ([],0)).1] h nx=some (.tup [.agg [.str q.1,.int .i64 q.2.1,.int .u64 q.2.2],.bool true],h,nx):=fun h nx=>by rw [hrb,hq];rfl
   by_cases hw:q.2.1=(L.getD i ([],0)).2
   ·have ho:oneE env (L.getD i ([],0))=0:=by unfold oneE;rw [hq];exact if_pos hw
    rw [ho,if_pos rfl] at hz
    have d2:decide (q.2.1=(L.getD i ([],0)).2)=true:=decide_eq_true hw
    simp (disch:=first | exact A4q | fail) only [unf b12_0.eq_1,c12,TL,A11,d1,hrb',d2,EVS,Nat.reduceAdd,Nat.reduceSub,Int.reduceToNat,Nat.reduceMul,Nat.reduceEqDiff,Nat.reduceLeDiff,Int.reduceEq,Int.reduceLT,Int.reduceLE,↓reduceIte]
    exact A0s (by decide) (by simp [A19,low,lows,A0p,EnL,A11]) (by simp [cutH,A0b,A16,lows,low,TL]) (ih (i + 1) (by omega) hz)
   ·have ho:oneE env (L.getD i ([],0))=14:=by unfold oneE;rw [hq];exact if_neg hw
    rw [ho,if_neg (by decide)] at hz
    have d2:decide (q.2.1=(L.getD i ([],0)).2)=false:=decide_eq_false hw
    have e0:rvP t env m L=.tup [.int .u64 0,.int .i64 14]:=by unfold rvP;rw [hz,if_neg (by decide)];rfl
    rw [e0]
    simp (disch:=first | exact A4q | fail) only [unf b12_0.eq_1,c12,TL,A11,d1,hrb',d2,EVS,Nat.reduceAdd,Nat.reduceSub,Int.reduceToNat,Nat.reduceMul,Nat.reduceEqDiff,Nat.reduceLeDiff,Int.reduceEq,Int.reduceLT,Int.reduceLE,↓reduceIte]
theorem Aem {env:Env} {m:Mem} {t:Te} (hx:∀ p ∈ env,0 ≤ p.2.2∧p.2.2 ≤ 18446744073709551615) (hc:A15 t=0) (hb:chkB env=0) (hm:chkM m=0) (hf:A23 env (insE [] (A0d t))=0):A7s (rhoE env) t :=
 Auq (m:=m) hx (by unfold A7u;rw [if_pos hc,if_pos hb,if_pos hm];exact hf)
theorem Afq (e d:Bool) (t:Te) (ht:TOk t) (hs:size t ≤ 1000000) (env:Env) (hl:env.length ≤ 1100) (hx:∀ p ∈ env,0 ≤ p.2.2∧p.2.2 ≤ 18446744073709551615) (m:Mem) (hm:okM m) (h0:m.length ≤ 9223372036854775807):∀ h nx,lim T 12 [.agg [.int .u8 (t).k,.int .i64 (t).w,.int .u64 (t).b,.str (t).s,.int .i64 (t).lo,.lst (t).e ((t).l.map tV)],.lst e (env.map bdV),.lst d (m.map ceV)] h nx=some (valV t env m,h,nx):=by
 refine A05 tg12 rfl rfl (by simp [pures,A0i,A2m,pu_e,pu_m]) ?_
 obtain ⟨e3,c1⟩:=Aiq t ht hs
 have c2:=A7o e env hl hx
 have c3:=A5v d m h0
 unfold valV A7u
 by_cases k1:A15 t=0
 ·rw [if_pos k1]
  have hv:Abh e3 t=.tup [.lst e3 ((insE [] (A0d t)).map bd0),.int .i64 0]:=if_pos k1
  rw [hv] at c1
  by_cases k2:chkB env=0
  ·rw [if_pos k2]
   rw [k2] at c2
   by_cases k3:chkM m=0
   ·rw [if_pos k3]
    rw [k3] at c3
    obtain ⟨hn,en,he⟩:=A3t k1
    have hsz:=A8f k1
    have hil:=Ahe t
    simp (disch:=first | exact A4q | fail) only [c12,TL,c1,c2,c3,EVS,Nat.reduceAdd,Nat.reduceSub,Int.reduceToNat,Nat.reduceMul,Nat.reduceEqDiff,Nat.reduceLeDiff,Int.reduceEq,Int.reduceLT,Int.reduceLE,↓reduceIte]
    exact Akj e d e3 env m hm (Afn k3) hl hx t hn ht _ (by omega) (Aem hx k1 k2 k3) (insE [] (A0d t)).length 0 (by omega) rfl
   ·rw [if_neg k3]
    have d3:decide (chkM m=0)=false:=decide_eq_false k3
    simp (disch:=first | exact A4q | fail) only [c12,TL,c1,c2,c3,d3,EVS,Nat.reduceAdd,Nat.reduceSub,Int.reduceToNat,Nat.reduceMul,Nat.reduceEqDiff,Nat.reduceLeDiff,Int.reduceEq,Int.reduceLT,Int.reduceLE,↓reduceIte]
    rfl
  ·rw [if_neg k2]
   have d2:decide (chkB env=0)=false:=decide_eq_false k2
   simp (disch:=first | exact A4q | fail) only [c12,TL,c1,c2,d2,EVS,Nat.reduceAdd,Nat.reduceSub,Int.reduceToNat,Nat.reduceMul,Nat.reduceEqDiff,Nat.reduceLeDiff,Int.reduceEq,Int.reduceLT,Int.reduceLE,↓reduceIte]
   rfl
 ·rw [if_neg k1]
  have hv:Abh e3 t=.tup [.lst true [],.int .i64 (A15 t)]:=if_neg k1
  rw [hv] at c1
  have d1:decide (A15 t=0)=false:=decide_eq_false k1
  simp (disch:=first | exact A4q | fail) only [c12,TL,c1,d1,EVS,Nat.reduceAdd,Nat.reduceSub,Int.reduceToNat,Nat.reduceMul,Nat.reduceEqDiff,Nat.reduceLeDiff,Int.reduceEq,Int.reduceLT,Int.reduceLE,↓reduceIte]
  rw [if_neg k1];rfl
noncomputable def Aiz (m:Mem) (w at_ n:Int):FV:=if 0 ≤ n then A6w m w at_ n.toNat else if chkM m=0 then .tup [.int .u64 0,.int .i64 14] else .tup [.int .u64 0,.int .i64 8]
theorem Ap1 (e:Bool) (m:Mem) (w at_ n:Int) (hm:okM m) (h0:m.length ≤ 9223372036854775807) (ha:0 ≤ at_) (ha':at_ < 18446744073709551616):∀ h nx,lim T 13 [.lst e (m.map ceV),.int .i64 w,.int .u64 at_,.int .i64 n] h nx=some (Aiz m w at_ n,h,nx):=by
 unfold Aiz
 by_cases hn:0 ≤ n
 ·rw [if_pos hn]
  have:=Anh e m w at_ n.toNat hm h0 ha ha'
  rwa [Int.toNat_of_nonneg hn] at this
 ·rw [if_neg hn]
  have c1:=A2h e m h0
  have hl:decide (A2n n)=false:=decide_eq_false (by unfold A2n;omega)
  refine A05 tg13 rfl rfl (by simp [pures,A0i,pu_m]) ?_
  by_cases hc:chkM m=0
  ·rw [hc] at c1
   rw [if_pos hc]
   by_cases hw:1 ≤ w∧w ≤ 64
   ·simp (disch:=first | exact A4q | fail) only [c13,A0p,c1,A1j,A3a,hw,hl,EVS,Nat.reduceAdd,Nat.reduceSub,Int.reduceToNat,Nat.reduceMul,Nat.reduceEqDiff,Nat.reduceLeDiff,Int.reduceEq,Int.reduceLT,Int.reduceLE,↓reduceIte]
   ·simp (disch:=first | exact A4q | fail) only [c13,A0p,c1,A1j,A3a,hw,hl,EVS,Nat.reduceAdd,Nat.reduceSub,Int.reduceToNat,Nat.reduceMul,Nat.reduceEqDiff,Nat.reduceLeDiff,Int.reduceEq,Int.reduceLT,Int.reduceLE,↓reduceIte]
  ·have d1:decide (chkM m=0)=false:=decide_eq_false hc
   rw [if_neg hc]
   have e8:chkM m=8:=if_neg fun h=>hc (if_pos h)
   rw [e8] at c1
   simp (disch:=first | exact A4q | fail) only [c13,A0p,c1,EVS,Nat.reduceAdd,Nat.reduceSub,Int.reduceToNat,Nat.reduceMul,Nat.reduceEqDiff,Nat.reduceLeDiff,Int.reduceEq,Int.reduceLT,Int.reduceLE,↓reduceIte]
theorem Ajl (e:Bool) (m:Mem) (w at_ n:Int) (hm:okM m) (h0:m.length ≤ 9223372036854775807) (ha:0 ≤ at_) (ha':at_ < 18446744073709551616):∀ h nx,lim T 14 [.lst e (m.map ceV),.int .i64 w,.int .u64 at_,.int .i64 n] h nx=some (Aiz m w at_ n,h,nx):=by
 have c1:=A5v e m h0
 have cw:=A3z w
 have cl:=A8g n
 have ck:=A87 w at_ ha'
 refine A05 tg14 rfl rfl (by simp [pures,A0i,pu_m]) ?_
 unfold Aiz
 by_cases hc:chkM m=0
 ·have hms:=Afn hc
  rw [hc] at c1
  by_cases hn:A2n n
  ·have hn0:0 ≤ n:=by unfold A2n at hn;omega
   have e1:((n.toNat:Nat):Int)=n:=Int.toNat_of_nonneg hn0
   have h64:n.toNat ≤ 64:=by unfold A2n at hn;omega
   have hl:decide (A2n n)=true:=decide_eq_true hn
   rw [if_pos hn0]
   unfold A6w
   rw [if_pos hms,e1]
   by_cases hw:1 ≤ w∧w ≤ 64
   ·rw [if_pos ⟨hw,hn⟩]
    by_cases hk:okS w at_
    ·rw [if_pos hk]
     have hL:=A7r e m w at_ n.toNat hms hm hw.1 hw.2 ha hk.2.2 h64
     rw [e1] at hL
     simp (disch:=first | exact A4q | fail) only [c14,A0p,c1,cw,cl,ck,hw,hl,hk,hL,decide_true,EVS,Nat.reduceAdd,Nat.reduceSub,Int.reduceToNat,Nat.reduceMul,Nat.reduceEqDiff,Nat.reduceLeDiff,Int.reduceEq,Int.reduceLT,Int.reduceLE,↓reduceIte]
    ·rw [if_neg hk]
     simp (disch:=first | exact A4q | fail) only [c14,A0p,c1,cw,cl,ck,hw,hl,hk,decide_true,decide_false,EVS,Nat.reduceAdd,Nat.reduceSub,Int.reduceToNat,Nat.reduceMul,Nat.reduceEqDiff,Nat.reduceLeDiff,Int.reduceEq,Int.reduceLT,Int.reduceLE,↓reduceIte]
   ·rw [if_neg fun h=>hw h.1]
    simp (disch:=first | exact A4q | fail) only [c14,A0p,c1,cw,cl,ck,hw,hl,decide_true,decide_false,EVS,Nat.reduceAdd,Nat.reduceSub,Int.reduceToNat,Nat.reduceMul,Nat.reduceEqDiff,Nat.reduceLeDiff,Int.reduceEq,Int.reduceLT,Int.reduceLE,↓reduceIte]
  ·have hl:decide (A2n n)=false:=decide_eq_false hn
   have key:(if 0 ≤ n then A6w m w at_ n.toNat else if chkM m=0 then FV.tup [.int .u64 0,.int .i64 14] else .tup [.int .u64 0,.int .i64 8])=.tup [.int .u64 0,.int .i64 14]:=by
    rw [if_pos hc]
    split
    ·rename_i h
     unfold A6w
     rw [if_pos hms,if_neg fun hh=>hn (by have:=hh.2;rwa [Int.toNat_of_nonneg h] at this)]
    ·rfl
   rw [key]
   by_cases hw:1 ≤ w∧w ≤ 64
   ·simp (disch:=first | exact A4q | fail) only [c14,A0p,c1,cw,cl,hw,hl,decide_true,decide_false,EVS,Nat.reduceAdd,Nat.reduceSub,Int.reduceToNat,Nat.reduceMul,Nat.reduceEqDiff,Nat.reduceLeDiff,Int.reduceEq,Int.reduceLT,Int.reduceLE,↓reduceIte]
   ·simp (disch:=first | exact A4q | fail) only [c14,A0p,c1,cw,cl,hw,hl,decide_true,decide_false,EVS,Nat.reduceAdd,Nat.reduceSub,Int.reduceToNat,Nat.reduceMul,Nat.reduceEqDiff,Nat.reduceLeDiff,Int.reduceEq,Int.reduceLT,Int.reduceLE,↓reduceIte]
 ·have hms:¬ memS m:=fun h=>hc (if_pos h)
  have d1:decide (chkM m=0)=false:=decide_eq_false hc
  have key:(if 0 ≤ n then A6w m w at_ n.toNat else if chkM m=0 then FV.tup [.int .u64 0,.int .i64 14] else .tup [.int .u64 0,.int .i64 8])=.tup [.int .u64 0,.int .i64 8]:=by
   rw [if_neg hc]
   split
   ·unfold A6w;rw [if_neg hms]
   ·first | rfl | rw [if_neg hc]
  rw [key]
  simp (disch:=first | exact A4q | fail) only [c14,A0p,c1,d1,EVS,Nat.reduceAdd,Nat.reduceSub,Int.reduceToNat,Nat.reduceMul,Nat.reduceEqDiff,Nat.reduceLeDiff,Int.reduceEq,Int.reduceLT,Int.reduceLE,↓reduceIte]
theorem Atg {P:Prop} (h:P:=by first|omega|(simp only[EVL]<;>omega)|(simp only[A0n,Nat.reduceEqDiff,↓reduceIte];done)|assumption|(simp (disch:=omega) only[A06,A0a,A04, *];done)|(simp only [TL,A0p,EnL];done)|with_unfolding_all rfl):P:=h
theorem Ak8 (m:Mem) (w at_ n:Int):∃ X E:Int,Aiz m w at_ n=.tup [.int .u64 X,.int .i64 E]:=by
 unfold Aiz A6w
 (repeat' split)<;>exact ⟨_,_,rfl⟩
theorem law_TV (t:Te) (ht:TOk t) (e d:Bool) (env:Env) (hx:∀ p ∈ env,0 ≤ p.2.2∧p.2.2 ≤ 18446744073709551615) (m:Mem) (hm:okM m) (h0:m.length ≤ 9223372036854775807) (w at_ n:Int) (ha:0 ≤ at_) (ha':at_ < 18446744073709551616):∀ h nx,lim T 3 [.agg [.int .u8 (t).k,.int .i64 (t).w,.int .u64 (t).b,.str (t).s,.int .i64 (t).lo,.lst (t).e ((t).l.map tV)],.lst e (env.map bdV),.lst d (m.map ceV),.int .i64 w,.int .u64 at_,.int .i64 n] h nx=some (.bool true,h,nx):=by
 refine A05 tg3 rfl rfl (by simp [pures,A0i,A2m,pu_e,pu_m]) ?_
 obtain ⟨b1,g1,c1⟩:=Ahz t ht
 obtain ⟨r2,⟨b2,rfl,g2⟩,c2⟩:=Ag6 (e:=e) (d:=d) env (m.map ceV) (pu_m m) (by simpa using h0)
 cases b1 with
 |true=>simp (disch:=first | exact Atg | fail) only [c3,TL,c1,EVS,Nat.reduceAdd,Nat.reduceSub,Int.reduceToNat,Nat.reduceMul,Nat.reduceEqDiff,Nat.reduceLeDiff,Int.reduceEq,Int.reduceLT,Int.reduceLE,↓reduceIte]
 |false =>
  cases b2 with
  |true=>simp (disch:=first | exact Atg | fail) only [c3,TL,c1,c2,EVS,Nat.reduceAdd,Nat.reduceSub,Int.reduceToNat,Nat.reduceMul,Nat.reduceEqDiff,Nat.reduceLeDiff,Int.reduceEq,Int.reduceLT,Int.reduceLE,↓reduceIte]
  |false =>
   obtain ⟨sa,da,_⟩:=g1 rfl
   obtain ⟨le,_⟩:=g2 rfl
   have ka:KOk t:=fun x hx=>(ht x hx).1.1
   have p1:=Afh e d t ht (by omega) ka env le hx m hm h0
   have p2:=Afq e d t ht (by omega) env le hx m hm h0
   have l1:=Ap1 d m w at_ n hm h0 ha ha'
   have l2:=Ajl d m w at_ n hm h0 ha ha'
   obtain ⟨X,E,hXE⟩:=Ak8 m w at_ n
   rw [hXE] at l1 l2
   have k1:=A2h d m h0
   have k2:=A5v d m h0
   have k3:=A8z e env le
   have k4:=A7o e env le hx
   unfold valV at p1 p2
   simp (disch:=first | exact Atg | fail) only [c3,TL,c1,c2,p1,p2,l1,l2,k1,k2,k3,k4,decide_true,EVS,Nat.reduceAdd,Nat.reduceSub,Int.reduceToNat,Nat.reduceMul,Nat.reduceEqDiff,Nat.reduceLeDiff,Int.reduceEq,Int.reduceLT,Int.reduceLE,↓reduceIte]
end Go.Proofs.YtkobnfjeehnhlaaGreatDoor.Fi
