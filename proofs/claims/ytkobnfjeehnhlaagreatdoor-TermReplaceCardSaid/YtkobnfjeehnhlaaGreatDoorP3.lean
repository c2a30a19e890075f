/- Parts of the proof, after each other. -/
import Derived.Test.YtkobnfjeehnhlaaGreatDoorP1
import Derived.Test.YtkobnfjeehnhlaaGreatDoorFIEnv
import Derived.Test.YtkobnfjeehnhlaaGreatDoorFIOps
import Derived.Test.YtkobnfjeehnhlaaGreatDoorP2
import Derived.Test.YtkobnfjeehnhlaaGreatDoorFIVars
import Derived.Test.YtkobnfjeehnhlaaGreatDoorFIMr
import Derived.Test.YtkobnfjeehnhlaaGreatDoorFIVal
import Derived.Test.YtkobnfjeehnhlaaGreatDoorTR
import Derived.Test.YtkobnfjeehnhlaaGreatDoorFIY
import Derived.KernelRfl
import Derived.Test.YtkobnfjeehnhlaaGreatDoorFISub
set_option linter.all false
namespace Go.Proofs.YtkobnfjeehnhlaaGreatDoor.Fi
open Go.FI

theorem count_loop (t:Te) (limit dp:Nat) (hl:limit ≤ 500) (hdp:dp ≤ 80) (hd1:1 ≤ dp) (hlen:t.l.length ≤ 9223372036854775807)
  (ih:∀ x ∈ t.l,∀ (limit dp:Nat),limit ≤ 500→dp ≤ 80→∃ (n:Nat) (is:Bool),1 ≤ n∧n ≤ limit + 1∧(is=true→n ≤ limit→n=size x∧depth x ≤ dp)∧∀ h nx,lim T 39 [.agg [.int .u8 (x).k,.int .i64 (x).w,.int .u64 (x).b,.str (x).s,.int .i64 (x).lo,.lst (x).e ((x).l.map tV)],.int .i64 limit,.int .i64 dp] h nx=some (.tup [.int .i64 n,.bool is],h,nx)) :
  ∀ (k i n:Nat),i + k=t.l.length→1 ≤ n→n ≤ limit + 1 →
  @Ok Out (runs T [.code b39_0,.inL (some 7) b39_0,.inB 0,.code k39_1] [(1,.int .i64 limit),(2,.int .i64 dp),(3,.ptr 0 1 0 0),(8,.int .i64 n),(9,.int .i64 i)] [(0,.row 6 [.agg [.int .u8 (t).k,.int .i64 (t).w,.int .u64 (t).b,.str (t).s,.int .i64 (t).lo,.lst (t).e ((t).l.map tV)]])] 7)
   ⟨fun x=>@Ok FV (resV c39.res x) ⟨fun v=>∃ (m:Nat) (is:Bool),v=.tup [.int .i64 m,.bool is]∧1 ≤ m∧m ≤ limit + 1∧(is=true→m ≤ limit→m=n + sizes (t.l.drop i)∧depths (t.l.drop i) + 1 ≤ dp)⟩⟩:=by
 intro k
 induction k with
 |zero =>
  intro i n hi h1 h2
  have:¬ (i:Int) < t.l.length:=by omega
  simp (disch:=first|omega|(simp only[EVL]<;>omega)|(simp only[hget_c,Nat.reduceEqDiff,↓reduceIte];done)|assumption|(simp (disch:=omega) only[hg_ne,hg_eq,hgs_ne, *];done)|(simp only [TL];done)|with_unfolding_all rfl) only [unf b39_0.eq_1,unf k39_1.eq_1,c39,this,TL,EVS,Nat.reduceAdd,Nat.reduceSub,Int.reduceToNat,Nat.reduceMul,Nat.reduceEqDiff,Nat.reduceLeDiff,Int.reduceEq,Int.reduceLT,Int.reduceLE,↓reduceIte]
  exact ⟨n,true,rfl,h1,h2,fun _ _=>by rw [List.drop_eq_nil_of_le (by omega)];exact ⟨rfl,by show 0 + 1 ≤ dp;omega⟩⟩
 |succ k ihk =>
  intro i n hi h1 h2
  have:(i:Int) < t.l.length:=by omega
  by_cases hn:n ≤ limit
  ·have hnl:(n:Int) ≤ limit:=by omega
   obtain ⟨m,is,m1,m2,m3,hx⟩:=ih _ (getD_mem (d:=default) (show i < t.l.length by omega)) (limit - n) (dp - 1) (by omega) (by omega)
   rw [show ((limit - n:Nat):Int)=(limit:Int) - n by omega,show ((dp - 1:Nat):Int)=(dp:Int) - 1 by omega] at hx
   cases is with
   |true =>
    simp (disch:=first|omega|(simp only[EVL]<;>omega)|(simp only[hget_c,Nat.reduceEqDiff,↓reduceIte];done)|assumption|(simp (disch:=omega) only[hg_ne,hg_eq,hgs_ne, *];done)|(simp only [TL];done)|with_unfolding_all rfl) only [unf b39_0.eq_1,c39,this,hnl,TL,hx,EVS,Nat.reduceAdd,Nat.reduceSub,Int.reduceToNat,Nat.reduceMul,Nat.reduceEqDiff,Nat.reduceLeDiff,Int.reduceEq,Int.reduceLT,Int.reduceLE,↓reduceIte]
    refine Ok_inL (by decide) (by simp [lowTm,low,lows,TL]) (by simp [cutH,lowHeap,lowObj,lows,low,TL]) (Ok_post (ihk (i + 1) (n + m) (by omega) (by omega) (by omega)) fun x v hv=>?_)
    obtain ⟨m',is',e,q1,q2,q3⟩:=hv
    refine ⟨m',is',e,q1,q2,fun e1 e2=>?_⟩
    obtain ⟨r1,r2⟩:=q3 e1 e2
    have hm:=m3 rfl (by omega)
    rw [sizes_drop (by omega),depths_drop (by omega)]
    omega
   |false =>
    simp (disch:=first|omega|(simp only[EVL]<;>omega)|(simp only[hget_c,Nat.reduceEqDiff,↓reduceIte];done)|assumption|(simp (disch:=omega) only[hg_ne,hg_eq,hgs_ne, *];done)|(simp only [TL];done)|with_unfolding_all rfl) only [unf b39_0.eq_1,c39,this,hnl,TL,hx,EVS,Nat.reduceAdd,Nat.reduceSub,Int.reduceToNat,Nat.reduceMul,Nat.reduceEqDiff,Nat.reduceLeDiff,Int.reduceEq,Int.reduceLT,Int.reduceLE,↓reduceIte]
    exact ⟨n,false,rfl,h1,h2,fun e=>by cases e⟩
  ·have hnl:¬ (n:Int) ≤ limit:=by omega
   simp (disch:=first|omega|(simp only[EVL]<;>omega)|(simp only[hget_c,Nat.reduceEqDiff,↓reduceIte];done)|assumption|(simp (disch:=omega) only[hg_ne,hg_eq,hgs_ne, *];done)|(simp only [TL];done)|with_unfolding_all rfl) only [unf b39_0.eq_1,unf k39_1.eq_1,c39,this,hnl,TL,EVS,Nat.reduceAdd,Nat.reduceSub,Int.reduceToNat,Nat.reduceMul,Nat.reduceEqDiff,Nat.reduceLeDiff,Int.reduceEq,Int.reduceLT,Int.reduceLE,↓reduceIte]
   exact ⟨n,true,rfl,h1,h2,fun _ e=>absurd e hn⟩
theorem count_spec (t:Te) (ht:TOk t):∀ (limit dp:Nat),limit ≤ 500→dp ≤ 80→∃ (n:Nat) (is:Bool),1 ≤ n∧n ≤ limit + 1∧(is=true→n ≤ limit→n=size t∧depth t ≤ dp)∧∀ h nx,lim T 39 [.agg [.int .u8 (t).k,.int .i64 (t).w,.int .u64 (t).b,.str (t).s,.int .i64 (t).lo,.lst (t).e ((t).l.map tV)],.int .i64 limit,.int .i64 dp] h nx=some (.tup [.int .i64 n,.bool is],h,nx):=by
 induction t using Tm'.ind with
 |h t ih =>
 intro limit dp hl hdp
 have hlen:t.l.length ≤ 9223372036854775807:=ht.self.2.2.2.2.2
 obtain ⟨v,⟨n,is,rfl,q1,q2,q3⟩,hh⟩:=lim_isoP (p:=fun v=>∃ (m:Nat) (is:Bool),v=.tup [.int .i64 m,.bool is]∧1 ≤ m∧m ≤ limit + 1∧(is=true→m ≤ limit→m=size t∧depth t ≤ dp)) tg39 rfl (args:=[.agg [.int .u8 (t).k,.int .i64 (t).w,.int .u64 (t).b,.str (t).s,.int .i64 (t).lo,.lst (t).e ((t).l.map tV)],.int .i64 limit,.int .i64 dp]) rfl (by simp [pures,pure_,pu_Ts]) (by
  by_cases hd:dp=0
  ·have hd':(dp:Int)=0:=by omega
   simp (disch:=first|omega|(simp only[EVL]<;>omega)|(simp only[hget_c,Nat.reduceEqDiff,↓reduceIte];done)|assumption|(simp (disch:=omega) only[hg_ne,hg_eq,hgs_ne, *];done)|(simp only [TL];done)|with_unfolding_all rfl) only [c39,TL,hd',EVS,Nat.reduceAdd,Nat.reduceSub,Int.reduceToNat,Nat.reduceMul,Nat.reduceEqDiff,Nat.reduceLeDiff,Int.reduceEq,Int.reduceLT,Int.reduceLE,↓reduceIte]
   exact ⟨1,false,rfl,by omega,by omega,fun e=>by cases e⟩
  ·have hd':¬ (dp:Int)=0:=by omega
   simp (disch:=first|omega|(simp only[EVL]<;>omega)|(simp only[hget_c,Nat.reduceEqDiff,↓reduceIte];done)|assumption|(simp (disch:=omega) only[hg_ne,hg_eq,hgs_ne, *];done)|(simp only [TL];done)|with_unfolding_all rfl) only [c39,TL,hd',EVS,Nat.reduceAdd,Nat.reduceSub,Int.reduceToNat,Nat.reduceMul,Nat.reduceEqDiff,Nat.reduceLeDiff,Int.reduceEq,Int.reduceLT,Int.reduceLE,↓reduceIte]
   refine Ok_post (count_loop t limit dp hl hdp (by omega) hlen (fun x hx=>ih x hx (ht.sub hx)) t.l.length 0 1 (by omega) (by omega) (by omega)) fun x v hv=>?_
   rw [List.drop_zero] at hv
   rw [size_eq,depth_eq];exact hv)
 exact ⟨n,is,q1,q2,q3,hh⟩
theorem long_loop (t:Te) (hlen:t.l.length ≤ 9223372036854775807)
  (ih:∀ x ∈ t.l,∃ b:Bool,(b=false→∀ y ∈ nodesT x,y.s.length ≤ 200)∧∀ h nx,lim T 40 [.agg [.int .u8 (x).k,.int .i64 (x).w,.int .u64 (x).b,.str (x).s,.int .i64 (x).lo,.lst (x).e ((x).l.map tV)]] h nx=some (.bool b,h,nx)) :
  ∀ (k i:Nat),i + k=t.l.length→(∀ j,j < i→∀ y ∈ nodesT (t.l.getD j default),y.s.length ≤ 200) →
  @Ok Out (runs T [.code b40_0,.inL (some 3) b40_0,.inB 0,.code k40_1] [(1,.ptr 0 1 0 0),(3,.int .i64 i)] [(0,.row 6 [.agg [.int .u8 (t).k,.int .i64 (t).w,.int .u64 (t).b,.str (t).s,.int .i64 (t).lo,.lst (t).e ((t).l.map tV)]])] 3)
   ⟨fun x=>@Ok FV (resV c40.res x) ⟨fun v=>∃ b:Bool,v=.bool b∧(b=false→∀ y ∈ nodesT t,y.s.length ≤ 200)⟩⟩:=by
 intro k
 induction k with
 |zero =>
  intro i hi hok
  have:¬ (i:Int) < t.l.length:=by omega
  simp (disch:=first|omega|(simp only[EVL]<;>omega)|(simp only[hget_c,Nat.reduceEqDiff,↓reduceIte];done)|assumption|(simp (disch:=omega) only[hg_ne,hg_eq,hgs_ne, *];done)|(simp only [TL];done)|with_unfolding_all rfl) only [unf b40_0.eq_1,unf k40_1.eq_1,c40,this,TL,EVS,Nat.reduceAdd,Nat.reduceSub,Int.reduceToNat,Nat.reduceMul,Nat.reduceEqDiff,Nat.reduceLeDiff,Int.reduceEq,Int.reduceLT,Int.reduceLE,↓reduceIte]
  refine ⟨_,rfl,fun e=>?_⟩
  have e:=of_decide_eq_false e
  refine all_nodes.2 ⟨by omega,fun x hx=>?_⟩
  obtain ⟨j,hj,rfl⟩:=List.mem_iff_getElem.1 hx
  have:=hok j (by omega)
  simpa [List.getD,hj] using this
 |succ k ihk =>
  intro i hi hok
  have:(i:Int) < t.l.length:=by omega
  obtain ⟨b,hb,hx⟩:=ih _ (getD_mem (d:=default) (show i < t.l.length by omega))
  cases b with
  |true =>
   simp (disch:=first|omega|(simp only[EVL]<;>omega)|(simp only[hget_c,Nat.reduceEqDiff,↓reduceIte];done)|assumption|(simp (disch:=omega) only[hg_ne,hg_eq,hgs_ne, *];done)|(simp only [TL];done)|with_unfolding_all rfl) only [unf b40_0.eq_1,c40,this,TL,hx,EVS,Nat.reduceAdd,Nat.reduceSub,Int.reduceToNat,Nat.reduceMul,Nat.reduceEqDiff,Nat.reduceLeDiff,Int.reduceEq,Int.reduceLT,Int.reduceLE,↓reduceIte]
   exact ⟨true,rfl,fun e=>by cases e⟩
  |false =>
   simp (disch:=first|omega|(simp only[EVL]<;>omega)|(simp only[hget_c,Nat.reduceEqDiff,↓reduceIte];done)|assumption|(simp (disch:=omega) only[hg_ne,hg_eq,hgs_ne, *];done)|(simp only [TL];done)|with_unfolding_all rfl) only [unf b40_0.eq_1,c40,this,TL,hx,EVS,Nat.reduceAdd,Nat.reduceSub,Int.reduceToNat,Nat.reduceMul,Nat.reduceEqDiff,Nat.reduceLeDiff,Int.reduceEq,Int.reduceLT,Int.reduceLE,↓reduceIte]
   exact Ok_inL (by decide) (by simp [lowTm,low,lows,TL]) (by simp [cutH,lowHeap,lowObj,lows,low,TL]) (ihk (i + 1) (by omega) (fun j hj=>by
    by_cases e:j=i
    ·subst e;exact hb rfl
    ·exact hok j (by omega)))
theorem long_spec (t:Te) (ht:TOk t):∃ b:Bool,(b=false→∀ y ∈ nodesT t,y.s.length ≤ 200)∧∀ h nx,lim T 40 [.agg [.int .u8 (t).k,.int .i64 (t).w,.int .u64 (t).b,.str (t).s,.int .i64 (t).lo,.lst (t).e ((t).l.map tV)]] h nx=some (.bool b,h,nx):=by
 induction t using Tm'.ind with
 |h t ih =>
 have hlen:t.l.length ≤ 9223372036854775807:=ht.self.2.2.2.2.2
 have hsl:t.s.length ≤ 9223372036854775807:=ht.self.2.2.2.1
 obtain ⟨v,⟨b,rfl,hb⟩,hh⟩:=lim_isoP (p:=fun v=>∃ b:Bool,v=.bool b∧(b=false→∀ y ∈ nodesT t,y.s.length ≤ 200)) tg40 rfl (args:=[.agg [.int .u8 (t).k,.int .i64 (t).w,.int .u64 (t).b,.str (t).s,.int .i64 (t).lo,.lst (t).e ((t).l.map tV)]]) rfl (by simp [pures,pure_,pu_Ts]) (by
  simp (disch:=first|omega|(simp only[EVL]<;>omega)|(simp only[hget_c,Nat.reduceEqDiff,↓reduceIte];done)|assumption|(simp (disch:=omega) only[hg_ne,hg_eq,hgs_ne, *];done)|(simp only [TL];done)|with_unfolding_all rfl) only [c40,TL,EVS,Nat.reduceAdd,Nat.reduceSub,Int.reduceToNat,Nat.reduceMul,Nat.reduceEqDiff,Nat.reduceLeDiff,Int.reduceEq,Int.reduceLT,Int.reduceLE,↓reduceIte]
  exact long_loop t hlen (fun x hx=>ih x hx (ht.sub hx)) t.l.length 0 (by omega) (fun j hj=>by omega))
 exact ⟨b,hb,hh⟩
def SmallT (t:Te):Prop:=size t ≤ 500∧depth t ≤ 80∧∀ y ∈ nodesT t,y.s.length ≤ 200
theorem great_spec (t:Te) (ht:TOk t):∃ b:Bool,(b=false→SmallT t)∧∀ h nx,lim T 9 [.agg [.int .u8 (t).k,.int .i64 (t).w,.int .u64 (t).b,.str (t).s,.int .i64 (t).lo,.lst (t).e ((t).l.map tV)]] h nx=some (.bool b,h,nx):=by
 obtain ⟨n,is,n1,n2,n3,hc⟩:=count_spec t ht 500 80 (by omega) (by omega)
 obtain ⟨b,hb,hlg⟩:=long_spec t ht
 simp only [Int.cast_ofNat_Int] at hc
 obtain ⟨v,⟨b,rfl,hb⟩,hh⟩:=lim_isoP (p:=fun v=>∃ b:Bool,v=.bool b∧(b=false→SmallT t)) tg9 rfl (args:=[.agg [.int .u8 (t).k,.int .i64 (t).w,.int .u64 (t).b,.str (t).s,.int .i64 (t).lo,.lst (t).e ((t).l.map tV)]]) rfl (by simp [pures,pure_,pu_Ts]) (by
  cases is with
  |false =>
   simp (disch:=first|omega|(simp only[EVL]<;>omega)|(simp only[hget_c,Nat.reduceEqDiff,↓reduceIte];done)|assumption|(simp (disch:=omega) only[hg_ne,hg_eq,hgs_ne, *];done)|(simp only [TL];done)|with_unfolding_all rfl) only [c9,TL,hc,EVS,Nat.reduceAdd,Nat.reduceSub,Int.reduceToNat,Nat.reduceMul,Nat.reduceEqDiff,Nat.reduceLeDiff,Int.reduceEq,Int.reduceLT,Int.reduceLE,↓reduceIte]
   exact ⟨true,rfl,fun e=>by cases e⟩
  |true =>
   by_cases hn:(500:Int) < n
   ·simp (disch:=first|omega|(simp only[EVL]<;>omega)|(simp only[hget_c,Nat.reduceEqDiff,↓reduceIte];done)|assumption|(simp (disch:=omega) only[hg_ne,hg_eq,hgs_ne, *];done)|(simp only [TL];done)|with_unfolding_all rfl) only [c9,TL,hc,hn,EVS,Nat.reduceAdd,Nat.reduceSub,Int.reduceToNat,Nat.reduceMul,Nat.reduceEqDiff,Nat.reduceLeDiff,Int.reduceEq,Int.reduceLT,Int.reduceLE,↓reduceIte]
    exact ⟨true,rfl,fun e=>by cases e⟩
   ·have hq:=n3 rfl (by omega)
    simp (disch:=first|omega|(simp only[EVL]<;>omega)|(simp only[hget_c,Nat.reduceEqDiff,↓reduceIte];done)|assumption|(simp (disch:=omega) only[hg_ne,hg_eq,hgs_ne, *];done)|(simp only [TL];done)|with_unfolding_all rfl) only [c9,TL,hc,hn,hlg,EVS,Nat.reduceAdd,Nat.reduceSub,Int.reduceToNat,Nat.reduceMul,Nat.reduceEqDiff,Nat.reduceLeDiff,Int.reduceEq,Int.reduceLT,Int.reduceLE,↓reduceIte]
    exact ⟨b,rfl,fun e=>⟨by omega,hq.2,hb e⟩⟩)
 exact ⟨b,hb,hh⟩

def goodB (env:Env) (i:Nat):Prop:=nameS (strip (env.getD i ([],0,0)).1)∧okS (env.getD i ([],0,0)).2.1 (env.getD i ([],0,0)).2.2∧(i ≠ 0→Op.bytesLess (env.getD (i - 1) ([],0,0)).1 (env.getD i ([],0,0)).1=true)
open Classical in
noncomputable def chkB (env:Env):Int:=if env.length ≤ 1000∧∀ i,i < env.length→goodB env i then 0 else 8
theorem chkB_ok {env:Env} (h1:env.length ≤ 1000) (h2:∀ i,i < env.length→goodB env i):0=chkB env:=(if_pos ⟨h1,h2⟩).symm
theorem chkB_no {env:Env} (h:¬ (env.length ≤ 1000∧∀ i,i < env.length→goodB env i)):8=chkB env:=(if_neg h).symm
theorem toNat_subE (i:Nat):((i:Int) - 1).toNat=i - 1:=by omega
theorem upToE {p:Nat→Prop} {i:Nat} (h:∀ j,j < i→p j) (hi:p i):∀ j,j < i + 1→p j:=fun j hj=>by
 by_cases e:j=i
 ·subst e;exact hi
 ·exact h j (by omega)
theorem checkB_loop (e:Bool) (env:Env) (hl:env.length ≤ 1000):∀ (k i:Nat),i + k=env.length→(∀ j,j < i→goodB env j) →
  @Ok Out (runs T [.code b17_0,.inL (some 7) b17_0,.inB 0,.code k17_1] [(0,.lst e (env.map bdV)),(8,.lst e (env.map bdV)),(9,.int .i64 env.length),(10,.int .i64 i)] [] 7) ⟨fun x=>resV c17.res x=some (.int .i64 (chkB env))⟩:=by
 intro k
 induction k with
 |zero =>
  intro i hi hok
  have:¬ (i:Int) < env.length:=by omega
  simp (disch:=first|omega|(simp only[EVL]<;>omega)|(simp only[hget_c,Nat.reduceEqDiff,↓reduceIte];done)|assumption|(simp (disch:=omega) only[hg_ne,hg_eq,hgs_ne, *];done)|(simp only [TL,EnL];done)|with_unfolding_all rfl) only [unf b17_0.eq_1,unf k17_1.eq_1,c17,this,EVS,Nat.reduceAdd,Nat.reduceSub,Int.reduceToNat,Nat.reduceMul,Nat.reduceEqDiff,Nat.reduceLeDiff,Int.reduceEq,Int.reduceLT,Int.reduceLE,↓reduceIte]
  exact chkB_ok hl fun j hj=>hok j (by omega)
 |succ k ih =>
  intro i hi hok
  have:(i:Int) < env.length:=by omega
  simp (disch:=first|omega|(simp only[EVL]<;>omega)|(simp only[hget_c,Nat.reduceEqDiff,↓reduceIte];done)|assumption|(simp (disch:=omega) only[hg_ne,hg_eq,hgs_ne, *];done)|(simp only [TL,EnL];done)|with_unfolding_all rfl) only [unf b17_0.eq_1,c17,this,EnL,varT_spec,EVS,Nat.reduceAdd,Nat.reduceSub,Int.reduceToNat,Nat.reduceMul,Nat.reduceEqDiff,Nat.reduceLeDiff,Int.reduceEq,Int.reduceLT,Int.reduceLE,↓reduceIte]
  repeat' (refine Ok_if (fun hb=>?_) (fun hb=>?_)<;>have h:=hb<;>(try simp only [decide_eq_true_eq,decide_eq_false_iff_not,Int.not_lt,Int.not_le] at h)<;>(simp (disch:=first|omega|(simp only[EVL]<;>omega)|(simp only[hget_c,Nat.reduceEqDiff,↓reduceIte];done)|assumption|(simp (disch:=omega) only[hg_ne,hg_eq,hgs_ne, *];done)|(simp only [TL,EnL];done)|with_unfolding_all rfl) only [hb,c17,EnL,gd_e,toNat_subE,okB_spec,EVS,Nat.reduceAdd,Nat.reduceSub,Int.reduceToNat,Nat.reduceMul,Nat.reduceEqDiff,Nat.reduceLeDiff,Int.reduceEq,Int.reduceLT,Int.reduceLE,↓reduceIte])<;>(try clear hb))
  all_goals first
   |exact Ok_inL (by decide) (by simp [lowTm,low,EnL]) (by simp [cutH,lowHeap]) (ih (i + 1) (by omega) (upToE hok ⟨by assumption,by assumption,fun _=>by first | omega | assumption⟩))
   |exact chkB_no fun hg=>by
     obtain ⟨q1,q2,q3⟩:=hg.2 i (by omega)
     first | exact absurd q1 (by assumption) | exact absurd q2 (by assumption) | (have:=q3 (by omega);simp_all;done)
theorem checkB_spec (e:Bool) (env:Env) (hl:env.length ≤ 1100):∀ h nx,lim T 17 [.lst e (env.map bdV)] h nx=some (.int .i64 (chkB env),h,nx):=by
 refine lim_iso tg17 rfl rfl (by simp [pures,pure_,pu_e]) ?_
 simp (disch:=first|omega|(simp only[EVL]<;>omega)|(simp only[hget_c,Nat.reduceEqDiff,↓reduceIte];done)|assumption|(simp (disch:=omega) only[hg_ne,hg_eq,hgs_ne, *];done)|(simp only [TL,EnL];done)|with_unfolding_all rfl) only [c17,EnL,EVS,Nat.reduceAdd,Nat.reduceSub,Int.reduceToNat,Nat.reduceMul,Nat.reduceEqDiff,Nat.reduceLeDiff,Int.reduceEq,Int.reduceLT,Int.reduceLE,↓reduceIte]
 repeat' (refine Ok_if (fun hb=>?_) (fun hb=>?_)<;>have h:=hb<;>(try simp only [decide_eq_true_eq,decide_eq_false_iff_not,Int.not_lt,Int.not_le] at h)<;>(simp (disch:=first|omega|(simp only[EVL]<;>omega)|(simp only[hget_c,Nat.reduceEqDiff,↓reduceIte];done)|assumption|(simp (disch:=omega) only[hg_ne,hg_eq,hgs_ne, *];done)|(simp only [TL,EnL];done)|with_unfolding_all rfl) only [hb,c17,EnL,EVS,Nat.reduceAdd,Nat.reduceSub,Int.reduceToNat,Nat.reduceMul,Nat.reduceEqDiff,Nat.reduceLeDiff,Int.reduceEq,Int.reduceLT,Int.reduceLE,↓reduceIte])<;>(try clear hb))
 ·exact chkB_no fun hg=>by have:=hg.1;omega
 ·exact checkB_loop e env (by omega) env.length 0 (by omega) (by omega)
theorem cmpE_spec (n:List UInt8) (w x:Int) (s:List UInt8):∀ h nx,lim T 42 [.agg [.str n,.int .i64 w,.int .u64 x],.str s] h nx=some (.int .i64 (Go.Lib.compareBytes n s),h,nx):=by
 have a:∀ h nx,lim T 73 [.str n,.str s] h nx=some (.int .i64 (Go.Lib.compareBytes n s),h,nx):=by
  refine lim_iso tg73 rfl rfl rfl ?_
  simp (disch:=first|omega|(simp only[EVL]<;>omega)|(simp only[hget_c,Nat.reduceEqDiff,↓reduceIte];done)|assumption|(simp (disch:=omega) only[hg_ne,hg_eq,hgs_ne, *];done)|(simp only [TL,EnL];done)|with_unfolding_all rfl) only [c73,EVS,Nat.reduceAdd,Nat.reduceSub,Int.reduceToNat,Nat.reduceMul,Nat.reduceEqDiff,Nat.reduceLeDiff,Int.reduceEq,Int.reduceLT,Int.reduceLE,↓reduceIte]
 have b:∀ h nx,lim T 43 [.str n,.str s] h nx=some (.int .i64 (Go.Lib.compareBytes n s),h,nx):=by
  refine lim_iso tg43 rfl rfl rfl ?_
  simp (disch:=first|omega|(simp only[EVL]<;>omega)|(simp only[hget_c,Nat.reduceEqDiff,↓reduceIte];done)|assumption|(simp (disch:=omega) only[hg_ne,hg_eq,hgs_ne, *];done)|(simp only [TL,EnL];done)|with_unfolding_all rfl) only [c43,a,EVS,Nat.reduceAdd,Nat.reduceSub,Int.reduceToNat,Nat.reduceMul,Nat.reduceEqDiff,Nat.reduceLeDiff,Int.reduceEq,Int.reduceLT,Int.reduceLE,↓reduceIte]
 refine lim_iso tg42 rfl rfl rfl ?_
 simp (disch:=first|omega|(simp only[EVL]<;>omega)|(simp only[hget_c,Nat.reduceEqDiff,↓reduceIte];done)|assumption|(simp (disch:=omega) only[hg_ne,hg_eq,hgs_ne, *];done)|(simp only [TL,EnL];done)|with_unfolding_all rfl) only [c42,b,EVS,Nat.reduceAdd,Nat.reduceSub,Int.reduceToNat,Nat.reduceMul,Nat.reduceEqDiff,Nat.reduceLeDiff,Int.reduceEq,Int.reduceLT,Int.reduceLE,↓reduceIte]
abbrev PS (env:Env) (s:List UInt8) (r:FV):Prop:=∃ i:Nat,i ≤ env.length∧(∀ k,k < i→Op.bytesLess (nm env k) s=true)∧(∀ k,i ≤ k→k < env.length→¬ Op.bytesLess (nm env k) s=true)∧r=.tup [.int .i64 i,.bool (decide (i < env.length∧(env.getD i ([],0,0)).1=s))]
theorem bsB_loop (e:Bool) (env:Env) (s:List UInt8) (hl:env.length ≤ 1100)
  (mono:∀ a b,a < b→b < env.length→Op.bytesLess (nm env a) (nm env b)=true):∀ (n i j:Nat),j - i ≤ n→i ≤ j→j ≤ env.length→(∀ k,k < i→Op.bytesLess (nm env k) s=true)→(∀ k,j ≤ k→k < env.length→¬ Op.bytesLess (nm env k) s=true) →
  @Ok Out (runs T [.code b41_0,.inL (some 8) b41_0,.inB 0,.code k41_1] [(0,.lst e (env.map bdV)),(1,.str s),(2,.fn 42 []),(8,.int .i64 env.length),(9,.int .i64 i),(10,.int .i64 j)] [] 8) ⟨fun x=>@Ok FV (resV c41.res x) ⟨PS env s⟩⟩:=by
 intro n
 induction n with
 |zero =>
  intro i j hn hij hj lo hi
  have:¬ (i:Int) < j:=by omega
  have e:j=i:=by omega
  subst e
  simp (disch:=first|omega|(simp only[EVL]<;>omega)|(simp only[hget_c,Nat.reduceEqDiff,↓reduceIte];done)|assumption|(simp (disch:=omega) only[hg_ne,hg_eq,hgs_ne, *];done)|(simp only [TL,EnL];done)|with_unfolding_all rfl) only [unf b41_0.eq_1,unf k41_1.eq_1,c41,this,EnL,EVS,Nat.reduceAdd,Nat.reduceSub,Int.reduceToNat,Nat.reduceMul,Nat.reduceEqDiff,Nat.reduceLeDiff,Int.reduceEq,Int.reduceLT,Int.reduceLE,↓reduceIte]
  repeat' (refine Ok_if (fun hb=>?_) (fun hb=>?_)<;>have h:=hb<;>(try simp only [decide_eq_true_eq,decide_eq_false_iff_not,Int.not_lt,Int.not_le] at h)<;>(simp (disch:=first|omega|(simp only[EVL]<;>omega)|(simp only[hget_c,Nat.reduceEqDiff,↓reduceIte];done)|assumption|(simp (disch:=omega) only[hg_ne,hg_eq,hgs_ne, *];done)|(simp only [TL,EnL];done)|with_unfolding_all rfl) only [hb,c41,EnL,gd_e,cmpE_spec,EVS,Nat.reduceAdd,Nat.reduceSub,Int.reduceToNat,Nat.reduceMul,Nat.reduceEqDiff,Nat.reduceLeDiff,Int.reduceEq,Int.reduceLT,Int.reduceLE,↓reduceIte])<;>(try clear hb))
  ·refine ⟨j,hj,lo,hi,?_⟩
   rw [show decide (Go.Lib.compareBytes (List.getD env j ([],0,0)).1 s=0)=decide (j < env.length∧(env.getD j ([],0,0)).1=s) from decide_eq_decide.2 ((cb_eq _ _).trans ⟨fun h'=>⟨by omega,h'⟩,fun h'=>h'.2⟩)]
  ·refine ⟨j,hj,lo,hi,?_⟩
   rw [show decide (j < env.length∧(env.getD j ([],0,0)).1=s)=false from decide_eq_false fun h'=>by omega]
 |succ n ih =>
  intro i j hn hij hj lo hi
  by_cases hlt:i < j
  ·have:(i:Int) < j:=by omega
   have hx:((i:Int) + j) / 2=((i + j) / 2:Nat):=by omega
   have hx1:(i + j) / 2 < env.length:=by omega
   simp (disch:=first|omega|(simp only[EVL]<;>omega)|(simp only[hget_c,Nat.reduceEqDiff,↓reduceIte];done)|assumption|(simp (disch:=omega) only[hg_ne,hg_eq,hgs_ne, *];done)|(simp only [TL,EnL];done)|with_unfolding_all rfl) only [unf b41_0.eq_1,c41,this,EnL,shr1,hx,cmpE_spec,EVS,Nat.reduceAdd,Nat.reduceSub,Int.reduceToNat,Nat.reduceMul,Nat.reduceEqDiff,Nat.reduceLeDiff,Int.reduceEq,Int.reduceLT,Int.reduceLE,↓reduceIte]
   repeat' (refine Ok_if (fun hb=>?_) (fun hb=>?_)<;>have h:=hb<;>(try simp only [decide_eq_true_eq,decide_eq_false_iff_not,Int.not_lt,Int.not_le] at h)<;>(simp (disch:=first|omega|(simp only[EVL]<;>omega)|(simp only[hget_c,Nat.reduceEqDiff,↓reduceIte];done)|assumption|(simp (disch:=omega) only[hg_ne,hg_eq,hgs_ne, *];done)|(simp only [TL,EnL];done)|with_unfolding_all rfl) only [hb,c41,EnL,gd_e,cmpE_spec,EVS,Nat.reduceAdd,Nat.reduceSub,Int.reduceToNat,Nat.reduceMul,Nat.reduceEqDiff,Nat.reduceLeDiff,Int.reduceEq,Int.reduceLT,Int.reduceLE,↓reduceIte])<;>(try clear hb))
   ·rw [cb_lt] at h
    refine Ok_inL (by decide) (by simp [lowTm,low,lows,EnL]) (by simp [cutH,lowHeap]) (ih ((i + j) / 2 + 1) j (by omega) (by omega) hj (fun k hk=>?_) hi)
    by_cases e:k=(i + j) / 2
    ·rw [e];exact h
    ·exact less_trans (mono k ((i + j) / 2) (by omega) hx1) h
   ·refine Ok_inL (by decide) (by simp [lowTm,low,lows,EnL]) (by simp [cutH,lowHeap]) (ih i ((i + j) / 2) (by omega) (by omega) (by omega) lo (fun k hk hk' hb=>?_))
    have h':¬ Op.bytesLess (nm env ((i + j) / 2)) s=true:=fun hb=>by have hb':Go.Lib.compareBytes (List.getD env ((i + j) / 2) ([],0,0)).1 s < 0:=(cb_lt _ _).2 hb;omega
    by_cases e:k=(i + j) / 2
    ·rw [e] at hb;exact h' hb
    ·exact h' (less_trans (mono ((i + j) / 2) k (by omega) hk') hb)
  ·exact ih i j (by omega) hij hj lo hi
theorem search_spec (e:Bool) (env:Env) (s:List UInt8) (hl:env.length ≤ 1100) (mono:∀ a b,a < b→b < env.length→Op.bytesLess (nm env a) (nm env b)=true) :
  ∃ r,PS env s r∧∀ h nx,lim T 41 [.lst e (env.map bdV),.str s,.fn 42 []] h nx=some (r,h,nx):=by
 refine lim_isoP tg41 rfl rfl (by simp [pures,pure_,pu_e]) ?_
 simp (disch:=first|omega|(simp only[EVL]<;>omega)|(simp only[hget_c,Nat.reduceEqDiff,↓reduceIte];done)|assumption|(simp (disch:=omega) only[hg_ne,hg_eq,hgs_ne, *];done)|(simp only [TL,EnL];done)|with_unfolding_all rfl) only [c41,EnL,EVS,Nat.reduceAdd,Nat.reduceSub,Int.reduceToNat,Nat.reduceMul,Nat.reduceEqDiff,Nat.reduceLeDiff,Int.reduceEq,Int.reduceLT,Int.reduceLE,↓reduceIte]
 exact bsB_loop e env s hl mono env.length 0 env.length (by omega) (by omega) (by omega) (by omega) (by omega)
abbrev PgB (env:Env) (r:FV):Prop:=∃ b,r=.bool b∧(b=false→env.length ≤ 1100)
theorem greatB_loop {e} (env:Env) (hl:env.length ≤ 1100):∀ (k i:Nat),i + k=env.length →
  @Ok Out (runs T [.code b10_0,.inL (some 10) b10_0,.inB 0,.code k10_1] [(0,.lst e (env.map bdV)),(5,.int .i64 i)] [] 10) ⟨fun x=>@Ok FV (resV c10.res x) ⟨PgB env⟩⟩:=by
 intro k
 induction k with
 |zero =>
  intro i hi
  have:¬ (i:Int) < env.length:=by omega
  simp (disch:=first|omega|(simp only[EVL]<;>omega)|(simp only[hget_c,Nat.reduceEqDiff,↓reduceIte];done)|assumption|(simp (disch:=omega) only[hg_ne,hg_eq,hgs_ne, *];done)|(simp only [TL,EnL];done)|with_unfolding_all rfl) only [unf b10_0.eq_1,unf k10_1.eq_1,c10,this,EnL,EVS,Nat.reduceAdd,Nat.reduceSub,Int.reduceToNat,Nat.reduceMul,Nat.reduceEqDiff,Nat.reduceLeDiff,Int.reduceEq,Int.reduceLT,Int.reduceLE,↓reduceIte]
  exact ⟨_,rfl,fun _=>hl⟩
 |succ k ih =>
  intro i hi
  have:(i:Int) < env.length:=by omega
  simp (disch:=first|omega|(simp only[EVL]<;>omega)|(simp only[hget_c,Nat.reduceEqDiff,↓reduceIte];done)|assumption|(simp (disch:=omega) only[hg_ne,hg_eq,hgs_ne, *];done)|(simp only [TL,EnL];done)|with_unfolding_all rfl) only [unf b10_0.eq_1,c10,this,EnL,EVS,Nat.reduceAdd,Nat.reduceSub,Int.reduceToNat,Nat.reduceMul,Nat.reduceEqDiff,Nat.reduceLeDiff,Int.reduceEq,Int.reduceLT,Int.reduceLE,↓reduceIte]
  repeat' (refine Ok_if (fun hb=>?_) (fun hb=>?_)<;>have h:=hb<;>(try simp only [decide_eq_true_eq,decide_eq_false_iff_not,Int.not_lt,Int.not_le] at h)<;>(simp (disch:=first|omega|(simp only[EVL]<;>omega)|(simp only[hget_c,Nat.reduceEqDiff,↓reduceIte];done)|assumption|(simp (disch:=omega) only[hg_ne,hg_eq,hgs_ne, *];done)|(simp only [TL,EnL];done)|with_unfolding_all rfl) only [hb,c10,EnL,EVS,Nat.reduceAdd,Nat.reduceSub,Int.reduceToNat,Nat.reduceMul,Nat.reduceEqDiff,Nat.reduceLeDiff,Int.reduceEq,Int.reduceLT,Int.reduceLE,↓reduceIte])<;>(try clear hb))
  ·exact ⟨_,rfl,fun e=>by cases e⟩
  ·exact Ok_inL (by decide) (by simp [lowTm,low,EnL]) (by simp [cutH,lowHeap]) (ih (i + 1) (by omega))
theorem greatB_spec {e d} (env:Env) (xs:List FV) (hp:pures xs=true) (h0:xs.length ≤ 9223372036854775807):∃ r,(∃ b,r=.bool b∧(b=false→env.length ≤ 1100∧xs.length ≤ 4200))∧∀ h nx,lim T 10 [.lst e (env.map bdV),.lst d xs] h nx=some (r,h,nx):=by
 refine lim_isoP tg10 rfl rfl (by simp [pures,pure_,pu_e,hp]) ?_
 simp (disch:=first|omega|(simp only[EVL]<;>omega)|(simp only[hget_c,Nat.reduceEqDiff,↓reduceIte];done)|assumption|(simp (disch:=omega) only[hg_ne,hg_eq,hgs_ne, *];done)|(simp only [TL,EnL];done)|with_unfolding_all rfl) only [c10,EnL,EVS,Nat.reduceAdd,Nat.reduceSub,Int.reduceToNat,Nat.reduceMul,Nat.reduceEqDiff,Nat.reduceLeDiff,Int.reduceEq,Int.reduceLT,Int.reduceLE,↓reduceIte]
 repeat' (refine Ok_if (fun hb=>?_) (fun hb=>?_)<;>have h:=hb<;>(try simp only [decide_eq_true_eq,decide_eq_false_iff_not,Int.not_lt,Int.not_le] at h)<;>(simp (disch:=first|omega|(simp only[EVL]<;>omega)|(simp only[hget_c,Nat.reduceEqDiff,↓reduceIte];done)|assumption|(simp (disch:=omega) only[hg_ne,hg_eq,hgs_ne, *];done)|(simp only [TL,EnL];done)|with_unfolding_all rfl) only [hb,c10,EVS,Nat.reduceAdd,Nat.reduceSub,Int.reduceToNat,Nat.reduceMul,Nat.reduceEqDiff,Nat.reduceLeDiff,Int.reduceEq,Int.reduceLT,Int.reduceLE,↓reduceIte])<;>(try clear hb))
 ·exact ⟨_,rfl,fun e=>by cases e⟩
 ·exact ⟨_,rfl,fun e=>by cases e⟩
 ·refine Ok_post (greatB_loop env (by omega) env.length 0 (by omega)) fun x v hv=>?_
  obtain ⟨b,rfl,hb⟩:=hv
  exact ⟨b,rfl,fun hf=>⟨hb hf,by omega⟩⟩
theorem chkB_good {env:Env} (h:chkB env=0):env.length ≤ 1000∧∀ i,i < env.length→goodB env i:=by
 unfold chkB at h
 split at h
 ·assumption
 ·cases h
theorem chkB_bad {env:Env} (h:¬ chkB env=0):chkB env=8:=by
 unfold chkB at h ⊢
 split at h
 ·exact absurd rfl h
 ·rename_i hn;rw [if_neg hn]
theorem mono_of {env:Env} (h:∀ i,i < env.length→goodB env i):∀ a b,a < b→b < env.length→Op.bytesLess (nm env a) (nm env b)=true:=by
 intro a b hab hb
 induction b with
 |zero=>omega
 |succ b ih =>
  have:=(h (b + 1) hb).2.2 (by omega)
  simp only [Nat.add_sub_cancel] at this
  by_cases e:a=b
  ·rw [e];exact this
  ·exact less_trans (ih (by omega) (by omega)) this

abbrev Mem:=List (Int × Int)
def ceV (p:Int × Int):FV:=.agg [.int .u64 p.1,.int .u8 p.2]
theorem pu_m (l:Mem):pures (l.map ceV)=true:=pures_map (fun _=>rfl) _
theorem lo_m (b:Nat) (l:Mem):lows b (l.map ceV)=true:=lows_map (fun _=>rfl) _
theorem gd_m {l:Mem} {i:Nat} {d:FV} (h:i < l.length):(l.map ceV).getD i d=.agg [.int .u64 (l.getD i (0,0)).1,.int .u8 (l.getD i (0,0)).2]:=getD_map _ h
theorem LAWSm:type_of% (And.intro pu_m <| And.intro lo_m <| @gd_m):=And.intro pu_m <| And.intro lo_m <| @gd_m
theorem toNat_sub1 (i:Nat):((i:Int) - 1).toNat=i - 1:=by omega
theorem upTo {p:Nat→Prop} {i:Nat} (h:∀ j,j < i→p j) (hi:p i):∀ j,j < i + 1→p j:=fun j hj=>by
 by_cases e:j=i
 ·subst e;exact hi
 ·exact h j (by omega)
def goodM (m:Mem) (i:Nat):Prop:=(m.getD i (0,0)).2 ≠ 0∧(i ≠ 0→(m.getD (i - 1) (0,0)).1 < (m.getD i (0,0)).1)
def memS (m:Mem):Prop:=m.length ≤ 4096∧∀ i,i < m.length→goodM m i
open Classical in
noncomputable def chkM (m:Mem):Int:=if memS m then 0 else 8
theorem chkM_ok {m:Mem} (h1:m.length ≤ 4096) (h2:∀ i,i < m.length→goodM m i):0=chkM m:=(if_pos ⟨h1,h2⟩).symm
theorem chkM_no {m:Mem} (h:¬ memS m):8=chkM m:=(if_neg h).symm
theorem checkCells_loop (e:Bool) (m:Mem) (hl:m.length ≤ 4096):∀ (k i:Nat),i + k=m.length→(∀ j,j < i→goodM m j) →
  @Ok Out (runs T [.code b15_0,.inL (some 7) b15_0,.inB 0,.code k15_1] [(0,.lst e (m.map ceV)),(8,.lst e (m.map ceV)),(9,.int .i64 m.length),(10,.int .i64 i)] [] 7) ⟨fun x=>resV c15.res x=some (.int .i64 (chkM m))⟩:=by
 intro k
 induction k with
 |zero =>
  intro i hi hok
  have:¬ (i:Int) < m.length:=by omega
  simp (disch:=first|omega|(simp only[EVL]<;>omega)|(simp only[hget_c,Nat.reduceEqDiff,↓reduceIte];done)|assumption|(simp (disch:=omega) only[hg_ne,hg_eq,hgs_ne, *];done)|(simp only [LAWSm];done)|with_unfolding_all rfl) only [unf b15_0.eq_1,unf k15_1.eq_1,c15,this,EVS,Nat.reduceAdd,Nat.reduceSub,Int.reduceToNat,Nat.reduceMul,Nat.reduceEqDiff,Nat.reduceLeDiff,Int.reduceEq,Int.reduceLT,Int.reduceLE,↓reduceIte]
  exact chkM_ok hl fun j hj=>hok j (by omega)
 |succ k ih =>
  intro i hi hok
  have:(i:Int) < m.length:=by omega
  simp (disch:=first|omega|(simp only[EVL]<;>omega)|(simp only[hget_c,Nat.reduceEqDiff,↓reduceIte];done)|assumption|(simp (disch:=omega) only[hg_ne,hg_eq,hgs_ne, *];done)|(simp only [LAWSm];done)|with_unfolding_all rfl) only [unf b15_0.eq_1,c15,this,LAWSm,EVS,Nat.reduceAdd,Nat.reduceSub,Int.reduceToNat,Nat.reduceMul,Nat.reduceEqDiff,Nat.reduceLeDiff,Int.reduceEq,Int.reduceLT,Int.reduceLE,↓reduceIte]
  repeat' (refine Ok_if (fun hb=>?_) (fun hb=>?_)<;>have h:=hb<;>(try simp only [decide_eq_true_eq,decide_eq_false_iff_not,Int.not_lt,Int.not_le] at h)<;>(simp (disch:=first|omega|(simp only[EVL]<;>omega)|(simp only[hget_c,Nat.reduceEqDiff,↓reduceIte];done)|assumption|(simp (disch:=omega) only[hg_ne,hg_eq,hgs_ne, *];done)|(simp only [LAWSm];done)|with_unfolding_all rfl) only [hb,c15,LAWSm,gd_m,toNat_sub1,EVS,Nat.reduceAdd,Nat.reduceSub,Int.reduceToNat,Nat.reduceMul,Nat.reduceEqDiff,Nat.reduceLeDiff,Int.reduceEq,Int.reduceLT,Int.reduceLE,↓reduceIte])<;>(try clear hb))
  all_goals first
   |exact Ok_inL (by decide) (by simp [lowTm,low,lows,LAWSm]) (by simp [cutH,lowHeap,lowObj,lows,low,LAWSm]) (ih (i + 1) (by omega) (upTo hok ⟨by omega,fun _=>by omega⟩))
   |exact chkM_no fun hg=>by
     have:=hg.2 i (by omega);unfold goodM at this;omega
theorem checkCells_spec (e:Bool) (m:Mem) (h0:m.length ≤ 9223372036854775807):∀ h nx,lim T 15 [.lst e (m.map ceV)] h nx=some (.int .i64 (chkM m),h,nx):=by
 refine lim_iso tg15 rfl rfl (by simp [pures,pure_,pu_m]) ?_
 simp (disch:=first|omega|(simp only[EVL]<;>omega)|(simp only[hget_c,Nat.reduceEqDiff,↓reduceIte];done)|assumption|(simp (disch:=omega) only[hg_ne,hg_eq,hgs_ne, *];done)|(simp only [LAWSm];done)|with_unfolding_all rfl) only [c15,LAWSm,EVS,Nat.reduceAdd,Nat.reduceSub,Int.reduceToNat,Nat.reduceMul,Nat.reduceEqDiff,Nat.reduceLeDiff,Int.reduceEq,Int.reduceLT,Int.reduceLE,↓reduceIte]
 repeat' (refine Ok_if (fun hb=>?_) (fun hb=>?_)<;>have h:=hb<;>(try simp only [decide_eq_true_eq,decide_eq_false_iff_not,Int.not_lt,Int.not_le] at h)<;>(simp (disch:=first|omega|(simp only[EVL]<;>omega)|(simp only[hget_c,Nat.reduceEqDiff,↓reduceIte];done)|assumption|(simp (disch:=omega) only[hg_ne,hg_eq,hgs_ne, *];done)|(simp only [LAWSm];done)|with_unfolding_all rfl) only [hb,c15,LAWSm,EVS,Nat.reduceAdd,Nat.reduceSub,Int.reduceToNat,Nat.reduceMul,Nat.reduceEqDiff,Nat.reduceLeDiff,Int.reduceEq,Int.reduceLT,Int.reduceLE,↓reduceIte])<;>(try clear hb))
 ·exact chkM_no fun hg=>by have:=hg.1;omega
 ·exact checkCells_loop e m (by omega) m.length 0 (by omega) (by omega)
theorem cmpC_spec (a b c:Int):∀ h nx,lim T 82 [.agg [.int .u64 a,.int .u8 b],.int .u64 c] h nx=some (.int .i64 (if a < c then -1 else if c < a then 1 else 0),h,nx):=by
 refine lim_iso tg82 rfl rfl rfl ?_
 simp (disch:=first|omega|(simp only[EVL]<;>omega)|(simp only[hget_c,Nat.reduceEqDiff,↓reduceIte];done)|assumption|(simp (disch:=omega) only[hg_ne,hg_eq,hgs_ne, *];done)|(simp only [LAWSm];done)|with_unfolding_all rfl) only [c82,EVS,Nat.reduceAdd,Nat.reduceSub,Int.reduceToNat,Nat.reduceMul,Nat.reduceEqDiff,Nat.reduceLeDiff,Int.reduceEq,Int.reduceLT,Int.reduceLE,↓reduceIte]
 repeat' (refine Ok_if (fun hb=>?_) (fun hb=>?_)<;>have h:=hb<;>(try simp only [decide_eq_true_eq,decide_eq_false_iff_not,Int.not_lt,Int.not_le] at h)<;>(simp (disch:=first|omega|(simp only[EVL]<;>omega)|(simp only[hget_c,Nat.reduceEqDiff,↓reduceIte];done)|assumption|(simp (disch:=omega) only[hg_ne,hg_eq,hgs_ne, *];done)|(simp only [LAWSm];done)|with_unfolding_all rfl) only [hb,c82,EVS,Nat.reduceAdd,Nat.reduceSub,Int.reduceToNat,Nat.reduceMul,Nat.reduceEqDiff,Nat.reduceLeDiff,Int.reduceEq,Int.reduceLT,Int.reduceLE,↓reduceIte])<;>(try clear hb))
 all_goals ((repeat' split)<;>first | rfl | omega)
def lbM (m:Mem) (a:Int):Nat:=(m.takeWhile fun p=>decide (p.1 < a)).length
theorem lbM_le (m:Mem) (a:Int):lbM m a ≤ m.length:=(List.takeWhile_prefix _).length_le
theorem sorted_lt {m:Mem} (h:∀ i,i < m.length→goodM m i):∀ (k i:Nat),i + k + 1 < m.length→(m.getD i (0,0)).1 < (m.getD (i + k + 1) (0,0)).1:=by
 intro k
 induction k with
 |zero=>intro i hi;have:=(h (i + 1) (by omega)).2 (by omega);simpa using this
 |succ k ih =>
  intro i hi
  have h1:=ih i (by omega)
  have h2:=(h (i + (k + 1) + 1) (by omega)).2 (by omega)
  have e:i + (k + 1) + 1 - 1=i + k + 1:=by omega
  rw [e] at h2
  omega
theorem lb_below:∀ (m:Mem) (a:Int) (i:Nat),i < lbM m a→(m.getD i (0,0)).1 < a:=by
 intro m
 induction m with
 |nil=>intro a i h;simp [lbM] at h
 |cons p m ih =>
  intro a i h
  by_cases hp:p.1 < a
  ·cases i with
   |zero=>simpa using hp
   |succ i =>
    have:i < lbM m a:=by simp [lbM,List.takeWhile_cons,hp] at h;simpa [lbM] using h
    simpa using ih a i this
  ·simp [lbM,List.takeWhile_cons,hp] at h
theorem lb_at:∀ (m:Mem) (a:Int),lbM m a < m.length→a ≤ (m.getD (lbM m a) (0,0)).1:=by
 intro m
 induction m with
 |nil=>intro a h;simp at h
 |cons p m ih =>
  intro a h
  by_cases hp:p.1 < a
  ·have e:lbM (p::m) a=lbM m a + 1:=by simp [lbM,List.takeWhile_cons,hp]
   rw [e] at h ⊢
   simpa using ih a (by simpa using h)
  ·have e:lbM (p::m) a=0:=by simp [lbM,List.takeWhile_cons,hp]
   rw [e];simp;omega
theorem lb_lt_iff {m:Mem} (hs:∀ i,i < m.length→goodM m i) (a:Int) (i:Nat) (hi:i < m.length):(m.getD i (0,0)).1 < a ↔ i < lbM m a:=by
 constructor
 ·intro h
  rcases Nat.lt_or_ge i (lbM m a) with h1 | h1
  ·exact h1
  ·exfalso
   have h2:=lb_at m a (by omega)
   rcases Nat.eq_or_lt_of_le h1 with h3 | h3
   ·rw [h3] at h2;omega
   ·have:=sorted_lt hs (i - lbM m a - 1) (lbM m a) (by omega)
    rw [show lbM m a + (i - lbM m a - 1) + 1=i by omega] at this
    omega
 ·exact lb_below m a i
def foundM (m:Mem) (a:Int):Bool:=decide (lbM m a < m.length∧(m.getD (lbM m a) (0,0)).1=a)
theorem half_nat (i j:Nat) (h:i + j ≤ 1000000):shr .u64 ((i:Int) + (j:Int)) 1=(((i + j) / 2:Nat):Int):=by
 rw [show (1:Int)=((1:Nat):Int) from rfl,shr_nat (by omega) (by omega),Nat.shiftRight_eq_div_pow]
 omega
theorem bsC_loop (e:Bool) (m:Mem) (a:Int) (hs:memS m):∀ (k i j:Nat),j - i ≤ k→i ≤ lbM m a→lbM m a ≤ j→j ≤ m.length →
  @Ok Out (runs T [.code b81_0,.inL (some 8) b81_0,.inB 0,.code k81_1] [(0,.lst e (m.map ceV)),(1,.int .u64 a),(2,.fn 82 []),(8,.int .i64 m.length),(9,.int .i64 i),(10,.int .i64 j)] [] 8) ⟨fun x=>resV c81.res x=some (.tup [.int .i64 (lbM m a),.bool (foundM m a)])⟩:=by
 obtain ⟨h1,h2⟩:=hs
 intro k
 induction k with
 |zero =>
  intro i j hk hi hj hm
  have e:i=lbM m a:=by omega
  have:¬ (i:Int) < j:=by omega
  simp (disch:=first|omega|(simp only[EVL]<;>omega)|(simp only[hget_c,Nat.reduceEqDiff,↓reduceIte];done)|assumption|(simp (disch:=omega) only[hg_ne,hg_eq,hgs_ne, *];done)|(simp only [LAWSm];done)|with_unfolding_all rfl) only [unf b81_0.eq_1,unf k81_1.eq_1,c81,this,LAWSm,EVS,Nat.reduceAdd,Nat.reduceSub,Int.reduceToNat,Nat.reduceMul,Nat.reduceEqDiff,Nat.reduceLeDiff,Int.reduceEq,Int.reduceLT,Int.reduceLE,↓reduceIte]
  repeat' (refine Ok_if (fun hb=>?_) (fun hb=>?_)<;>have h:=hb<;>(try simp only [decide_eq_true_eq,decide_eq_false_iff_not,Int.not_lt,Int.not_le] at h)<;>(simp (disch:=first|omega|(simp only[EVL]<;>omega)|(simp only[hget_c,Nat.reduceEqDiff,↓reduceIte];done)|assumption|(simp (disch:=omega) only[hg_ne,hg_eq,hgs_ne, *];done)|(simp only [LAWSm];done)|with_unfolding_all rfl) only [hb,c81,LAWSm,gd_m,cmpC_spec,EVS,Nat.reduceAdd,Nat.reduceSub,Int.reduceToNat,Nat.reduceMul,Nat.reduceEqDiff,Nat.reduceLeDiff,Int.reduceEq,Int.reduceLT,Int.reduceLE,↓reduceIte])<;>(try clear hb))
  ·rw [← e]
   congr 2;simp only [List.cons.injEq,FV.bool.injEq,and_true,true_and]
   unfold foundM
   refine decide_eq_decide.2 ?_
   rw [← e]
   constructor
   ·intro hx
    refine ⟨by omega,?_⟩
    split at hx
    ·omega
    ·split at hx<;>omega
   ·rintro ⟨_,hx⟩;rw [if_neg (by omega),if_neg (by omega)]
  ·rw [e]
   congr 2;simp only [List.cons.injEq,FV.bool.injEq,and_true,true_and]
   exact (decide_eq_false fun hx=>by have:=hx.1;omega).symm
 |succ k ih =>
  intro i j hk hi hj hm
  by_cases hij:i < j
  ·have:(i:Int) < j:=by omega
   have hh:=half_nat i j (by omega)
   have hc:=lb_lt_iff h2 a ((i + j) / 2) (by omega)
   simp (disch:=first|omega|(simp only[EVL]<;>omega)|(simp only[hget_c,Nat.reduceEqDiff,↓reduceIte];done)|assumption|(simp (disch:=omega) only[hg_ne,hg_eq,hgs_ne, *];done)|(simp only [LAWSm];done)|with_unfolding_all rfl) only [unf b81_0.eq_1,c81,this,LAWSm,hh,cmpC_spec,EVS,Nat.reduceAdd,Nat.reduceSub,Int.reduceToNat,Nat.reduceMul,Nat.reduceEqDiff,Nat.reduceLeDiff,Int.reduceEq,Int.reduceLT,Int.reduceLE,↓reduceIte]
   repeat' (refine Ok_if (fun hb=>?_) (fun hb=>?_)<;>have h:=hb<;>(try simp only [decide_eq_true_eq,decide_eq_false_iff_not,Int.not_lt,Int.not_le] at h)<;>(simp (disch:=first|omega|(simp only[EVL]<;>omega)|(simp only[hget_c,Nat.reduceEqDiff,↓reduceIte];done)|assumption|(simp (disch:=omega) only[hg_ne,hg_eq,hgs_ne, *];done)|(simp only [LAWSm];done)|with_unfolding_all rfl) only [hb,c81,LAWSm,gd_m,cmpC_spec,EVS,Nat.reduceAdd,Nat.reduceSub,Int.reduceToNat,Nat.reduceMul,Nat.reduceEqDiff,Nat.reduceLeDiff,Int.reduceEq,Int.reduceLT,Int.reduceLE,↓reduceIte])<;>(try clear hb))
   ·have:(m.getD ((i + j) / 2) (0,0)).1 < a:=by
     rcases Int.lt_or_le (m.getD ((i + j) / 2) (0,0)).1 a with h0 | h0
     ·exact h0
     ·rw [if_neg (by omega)] at h;split at h<;>omega
    exact Ok_inL (by decide) (by simp [lowTm,low,lows,LAWSm]) (by simp [cutH,lowHeap,lowObj,lows,low,LAWSm]) (ih ((i + j) / 2 + 1) j (by omega) (by omega) hj hm)
   ·have:¬ (m.getD ((i + j) / 2) (0,0)).1 < a:=fun h0=>by
     rw [if_pos h0] at h;omega
    exact Ok_inL (by decide) (by simp [lowTm,low,lows,LAWSm]) (by simp [cutH,lowHeap,lowObj,lows,low,LAWSm]) (ih i ((i + j) / 2) (by omega) hi (by omega) (by omega))
  ·exact ih i j (by omega) hi hj hm
theorem bsC_spec (e:Bool) (m:Mem) (a:Int) (hs:memS m):∀ h nx,lim T 81 [.lst e (m.map ceV),.int .u64 a,.fn 82 []] h nx=some (.tup [.int .i64 (lbM m a),.bool (foundM m a)],h,nx):=by
 have h1:=hs.1
 refine lim_iso tg81 rfl rfl (by simp [pures,pure_,pu_m]) ?_
 simp (disch:=first|omega|(simp only[EVL]<;>omega)|(simp only[hget_c,Nat.reduceEqDiff,↓reduceIte];done)|assumption|(simp (disch:=omega) only[hg_ne,hg_eq,hgs_ne, *];done)|(simp only [LAWSm];done)|with_unfolding_all rfl) only [c81,LAWSm,EVS,Nat.reduceAdd,Nat.reduceSub,Int.reduceToNat,Nat.reduceMul,Nat.reduceEqDiff,Nat.reduceLeDiff,Int.reduceEq,Int.reduceLT,Int.reduceLE,↓reduceIte]
 exact bsC_loop e m a hs m.length 0 m.length (by omega) (by omega) (lbM_le m a) (by omega)
def byteS (m:Mem) (a:Int):Int:=if foundM m a=true then (m.getD (lbM m a) (0,0)).2 else 0
def addrS (w at_:Int) (i:Nat):Int:=(at_ + i) % 18446744073709551616 % 2 ^ w.toNat
def ldS (m:Mem) (w at_:Int):Nat→Nat
 |0=>0
 |i + 1=>ldS m w at_ i ||| (byteS m (addrS w at_ i)).toNat <<< (8 * i)
def okM (m:Mem):Prop:=∀ p ∈ m,0 ≤ p.1∧p.1 < 18446744073709551616∧0 ≤ p.2∧p.2 < 256
theorem byteS_bd {m:Mem} (h:okM m) (a:Int):0 ≤ byteS m a∧byteS m a < 256:=by
 unfold byteS
 split
 ·rename_i hf
  unfold foundM at hf
  have:=h _ (getD_mem (d:=(0,0)) (of_decide_eq_true hf).1)
  omega
 ·omega
theorem ldS_lt {m:Mem} (h:okM m) (w at_:Int):∀ n,ldS m w at_ n < 2 ^ (8 * n):=by
 intro n
 induction n with
 |zero=>simp [ldS]
 |succ n ih =>
  have hb:=byteS_bd h (addrS w at_ n)
  simp only [ldS]
  refine Nat.or_lt_two_pow (Nat.lt_of_lt_of_le ih (Nat.pow_le_pow_right (by decide) (by omega))) ?_
  rw [Nat.shiftLeft_eq,show 8 * (n + 1)=8 + 8 * n by omega,Nat.pow_add]
  exact Nat.mul_lt_mul_of_pos_right (by omega) (Nat.pow_pos (by decide))
theorem loaded_loop (e:Bool) (m:Mem) (w at_:Int) (n:Nat) (hs:memS m) (hm:okM m) (hw:1 ≤ w) (hw':w ≤ 64) (ha:0 ≤ at_) (ha':at_ < 18446744073709551616) (hn:n ≤ 8):∀ (k i:Nat),i + k=n →
  @Ok Out (runs T [.code b50_0,.inL (some 5) b50_0,.inB 0,.code k50_1] [(0,.lst e (m.map ceV)),(1,.int .i64 w),(2,.int .u64 at_),(9,.int .u64 (ldS m w at_ i:Nat)),(15,.int .i64 n),(16,.int .i64 i)] [] 5) ⟨fun x=>resV c50.res x=some (.int .u64 (ldS m w at_ n:Nat))⟩:=by
 obtain ⟨h1,h2⟩:=hs
 intro k
 induction k with
 |zero =>
  intro i hi
  have:¬ (i:Int) < n:=by omega
  simp (disch:=first|omega|(simp only[EVL]<;>omega)|(simp only[hget_c,Nat.reduceEqDiff,↓reduceIte];done)|assumption|(simp (disch:=omega) only[hg_ne,hg_eq,hgs_ne, *];done)|(simp only [LAWSm];done)|with_unfolding_all rfl) only [unf b50_0.eq_1,unf k50_1.eq_1,c50,this,LAWSm,EVS,Nat.reduceAdd,Nat.reduceSub,Int.reduceToNat,Nat.reduceMul,Nat.reduceEqDiff,Nat.reduceLeDiff,Int.reduceEq,Int.reduceLT,Int.reduceLE,↓reduceIte]
  rw [show i=n by omega]
 |succ k ih =>
  intro i hi
  have:(i:Int) < n:=by omega
  have hw1:IntKind.u64.wrap i=i:=by rw [wrapu (by omega)];omega
  have hw2:IntKind.u64.wrap (at_ + i)=(at_ + i) % 18446744073709551616:=wrapu (by omega)
  have hm1:=band_mask (a:=(at_ + i) % 18446744073709551616) (n:=w.toNat) (by omega) (by omega) (by omega)
  have hb:=bsC_spec e m (addrS w at_ i) ⟨h1,h2⟩
  unfold addrS at hb
  have hbd:=byteS_bd hm (addrS w at_ i)
  have hbv:byteS m (addrS w at_ i)=if foundM m (addrS w at_ i)=true then (m.getD (lbM m (addrS w at_ i)) (0,0)).2 else 0:=rfl
  have hlt:=ldS_lt hm w at_ i
  have hp8:(2:Nat) ^ (8 * i) ≤ 2 ^ 56:=Nat.pow_le_pow_right (by decide) (by omega)
  have hsl:=shl_nat (a:=byteS m (addrS w at_ i)) (n:=8 * i) hbd.1 (by omega) (by
   have h8:((2:Int) ^ (8 * i)) ≤ 2 ^ 56:=pow_le (by omega)
   have:=Int.mul_le_mul (show byteS m (addrS w at_ i) ≤ 255 by omega) h8 (by have:=pow_pos' (8 * i);omega) (by decide)
   omega)
  have hls:ldS m w at_ (i + 1)=ldS m w at_ i ||| (byteS m (addrS w at_ i)).toNat <<< (8 * i):=rfl
  have hl2:=ldS_lt hm w at_ (i + 1)
  have hq8:(2:Nat) ^ (8 * (i + 1)) ≤ 2 ^ 64:=Nat.pow_le_pow_right (by decide) (by omega)
  have hs2:(byteS m (addrS w at_ i)).toNat <<< (8 * i) ≤ ldS m w at_ (i + 1):=by rw [hls];exact Nat.right_le_or
  have hor:=bor_nat (a:=(ldS m w at_ i:Nat)) (b:=((byteS m (addrS w at_ i)).toNat <<< (8 * i):Nat)) (by omega) (by omega) (Int.natCast_nonneg _) (by omega)
  simp only [Int.toNat_natCast,← hls] at hor
  rw [← hsl] at hor
  simp only [Int.natCast_mul,Int.cast_ofNat_Int] at hor
  cases hf:foundM m (addrS w at_ i) with
  |true =>
   have hlm:lbM m (addrS w at_ i) < m.length:=by unfold foundM at hf;exact (of_decide_eq_true hf).1
   rw [if_pos hf] at hbv
   rw [hbv] at hor hbd
   unfold addrS at hor hbd hf hlm
   simp (disch:=first|omega|(simp only[EVL]<;>omega)|(simp only[hget_c,Nat.reduceEqDiff,↓reduceIte];done)|assumption|(simp (disch:=omega) only[hg_ne,hg_eq,hgs_ne, *];done)|(simp only [LAWSm];done)|with_unfolding_all rfl) only [unf b50_0.eq_1,c50,this,LAWSm,mask_spec' w hw hw',hw1,hw2,hm1,hb,hf,hlm,gd_m,hor,EVS,Nat.reduceAdd,Nat.reduceSub,Int.reduceToNat,Nat.reduceMul,Nat.reduceEqDiff,Nat.reduceLeDiff,Int.reduceEq,Int.reduceLT,Int.reduceLE,↓reduceIte]
   exact Ok_inL (by decide) (by simp [lowTm,low,lows,LAWSm]) (by simp [cutH,lowHeap,lowObj,lows,low,LAWSm]) (ih (i + 1) (by omega))
  |false =>
   rw [if_neg (by simp [hf])] at hbv
   have heq:ldS m w at_ (i + 1)=ldS m w at_ i:=by rw [hls,hbv];simp
   have hih:=ih (i + 1) (by omega)
   rw [heq] at hih
   unfold addrS at hf
   simp (disch:=first|omega|(simp only[EVL]<;>omega)|(simp only[hget_c,Nat.reduceEqDiff,↓reduceIte];done)|assumption|(simp (disch:=omega) only[hg_ne,hg_eq,hgs_ne, *];done)|(simp only [LAWSm];done)|with_unfolding_all rfl) only [unf b50_0.eq_1,c50,this,LAWSm,mask_spec' w hw hw',hw1,hw2,hm1,hb,hf,EVS,Nat.reduceAdd,Nat.reduceSub,Int.reduceToNat,Nat.reduceMul,Nat.reduceEqDiff,Nat.reduceLeDiff,Int.reduceEq,Int.reduceLT,Int.reduceLE,↓reduceIte]
   exact Ok_inL (by decide) (by simp [lowTm,low,lows,LAWSm]) (by simp [cutH,lowHeap,lowObj,lows,low,LAWSm]) (hih)
theorem loaded_spec (e:Bool) (m:Mem) (w at_:Int) (n:Nat) (hs:memS m) (hm:okM m) (hw:1 ≤ w) (hw':w ≤ 64) (ha:0 ≤ at_) (ha':at_ < 18446744073709551616) (hn:n ≤ 64):∀ h nx,lim T 50 [.lst e (m.map ceV),.int .i64 w,.int .u64 at_,.int .i64 n] h nx=some (.int .u64 (ldS m w at_ (n / 8):Nat),h,nx):=by
 refine lim_iso tg50 rfl rfl (by simp [pures,pure_,pu_m]) ?_
 simp (disch:=first|omega|(simp only[EVL]<;>omega)|(simp only[hget_c,Nat.reduceEqDiff,↓reduceIte];done)|assumption|(simp (disch:=omega) only[hg_ne,hg_eq,hgs_ne, *];done)|(simp only [LAWSm];done)|with_unfolding_all rfl) only [c50,LAWSm,tdiv_nn,EVS,Nat.reduceAdd,Nat.reduceSub,Int.reduceToNat,Nat.reduceMul,Nat.reduceEqDiff,Nat.reduceLeDiff,Int.reduceEq,Int.reduceLT,Int.reduceLE,↓reduceIte]
 exact loaded_loop e m w at_ (n / 8) hs hm hw hw' ha ha' (by omega) (n / 8) 0 (by omega)

theorem bcheck_loop (n:Nat) (h1:1 ≤ n) (h2:n ≤ 64) (e:Bool) (L:List Nat) (hL:∀ x ∈ L,x < 2 ^ n) (hl:L.length ≤ 10):∀ (k i:Nat),i + k=L.length →
  @Ok Out (runs T [.code b59_0,.inL (some 7) b59_0,.inB 0,.code k59_1] [(0,.int .i64 n),(10,.lst e (L.map fun x:Nat=>.int .u64 x)),(11,.int .i64 L.length),(12,.int .i64 i)] [] 7) ⟨fun x=>finV c59.res x=some (.int .i64 0)⟩:=by
 have hm:=mask_spec' n (by omega) (by omega)
 intro k
 induction k with
 |zero =>
  intro i hi
  have:¬ (i:Int) < L.length:=by omega
  simp (disch:=first|omega|(simp only[EVL]<;>omega)|(simp only[hget_c,Nat.reduceEqDiff,↓reduceIte];done)|assumption|(simp (disch:=omega) only[hg_ne,hg_eq,hgs_ne, *];done)|(simp only [TL];done)|with_unfolding_all rfl) only [unf b59_0.eq_1,unf k59_1.eq_1,c59,this,EVS,Nat.reduceAdd,Nat.reduceSub,Int.reduceToNat,Nat.reduceMul,Nat.reduceEqDiff,Nat.reduceLeDiff,Int.reduceEq,Int.reduceLT,Int.reduceLE,↓reduceIte]
 |succ k ih =>
  intro i hi
  have:(i:Int) < L.length:=by omega
  have hgd:(L.map fun x:Nat=>FV.int .u64 x).getD i .undef=.int .u64 ((L.getD i 0:Nat):Int):=by simp [List.getD,show i < L.length by omega]
  have hx:¬ ((2:Int) ^ n - 1) < ((L.getD i 0:Nat):Int):=by
   have h3:=hL _ (getD_mem (d:=0) (show i < L.length by omega))
   have h4:=pow_nat n
   omega
  have hd:decide (((2:Int) ^ n - 1) < ((L.getD i 0:Nat):Int))=false:=decide_eq_false hx
  have hp:pures (L.map fun x:Nat=>FV.int .u64 x)=true:=pures_map (fun _=>rfl) _
  have hlo:lows 7 (L.map fun x:Nat=>FV.int .u64 x)=true:=lows_map (fun _=>rfl) _
  have e1:(((n:Nat):Int)).toNat=n:=by omega
  rw [e1] at hm
  simp (disch:=first|omega|(simp only[EVL]<;>omega)|(simp only[hget_c,Nat.reduceEqDiff,↓reduceIte];done)|assumption|(simp (disch:=omega) only[hg_ne,hg_eq,hgs_ne, *];done)|(simp only [TL];done)|with_unfolding_all rfl) only [unf b59_0.eq_1,c59,this,hgd,hm,hd,EVS,Nat.reduceAdd,Nat.reduceSub,Int.reduceToNat,Nat.reduceMul,Nat.reduceEqDiff,Nat.reduceLeDiff,Int.reduceEq,Int.reduceLT,Int.reduceLE,↓reduceIte]
  exact Ok_inL (by decide) (by simp [lowTm,low,hlo]) (by simp [cutH,lowHeap]) (ih (i + 1) (by omega))
theorem bcheck_spec (n:Nat) (h1:1 ≤ n) (h2:n ≤ 64) (e:Bool) (L:List Nat) (hL:∀ x ∈ L,x < 2 ^ n) (hl:L.length ≤ 10) (h:Heap) (nx:Nat):isfR T c59 [.int .i64 n,.lst e (L.map fun x:Nat=>.int .u64 x)] h nx=some (.int .i64 0,h,nx):=by
 refine isfR_of rfl ?_
 have hw:decide ((1:Int) ≤ n∧(n:Int) ≤ 64)=true:=decide_eq_true (by omega)
 simp (disch:=first|omega|(simp only[EVL]<;>omega)|(simp only[hget_c,Nat.reduceEqDiff,↓reduceIte];done)|assumption|(simp (disch:=omega) only[hg_ne,hg_eq,hgs_ne, *];done)|(simp only [TL];done)|with_unfolding_all rfl) only [c59,wideB_spec,hw,EVS,Nat.reduceAdd,Nat.reduceSub,Int.reduceToNat,Nat.reduceMul,Nat.reduceEqDiff,Nat.reduceLeDiff,Int.reduceEq,Int.reduceLT,Int.reduceLE,↓reduceIte]
 exact bcheck_loop n h1 h2 e L hL hl L.length 0 (by omega)
theorem bcheck_lim (a b:FV) (h:Heap) (nx:Nat):lim T 59 [a,b] h nx=@FI.B (List FV) (FV × Heap × Nat) (frzs h deep [a,b]) ⟨fun q=>isfR T c59 q h nx⟩:=lim_isf tg59 rfl rfl
theorem bcheck1 (n a:Nat) (h1:1 ≤ n) (h2:n ≤ 64) (ha:a < 2 ^ n) (e:Bool) (h:Heap) (nx:Nat):isfR T c59 [.int .i64 n,.lst e [.int .u64 a]] h nx=some (.int .i64 0,h,nx):=bcheck_spec n h1 h2 e [a] (by simpa using ha) (by simp) h nx
theorem bcheck2 (n a b:Nat) (h1:1 ≤ n) (h2:n ≤ 64) (ha:a < 2 ^ n) (hb:b < 2 ^ n) (e:Bool) (h:Heap) (nx:Nat):isfR T c59 [.int .i64 n,.lst e [.int .u64 a,.int .u64 b]] h nx=some (.int .i64 0,h,nx):=bcheck_spec n h1 h2 e [a,b] (by simp [ha,hb]) (by simp) h nx
theorem signed_spec (n a:Nat) (h1:1 ≤ n) (h2:n ≤ 64) (ha:a < 2 ^ n):∀ h nx,lim T 60 [.int .i64 n,.int .u64 a] h nx=some (.int .i64 (toI n a),h,nx):=by
 have hx:=X_sgn h1 h2 ha
 refine lim_iso tg60 rfl rfl rfl ?_
 simp (disch:=first|omega|(simp only[EVL]<;>omega)|(simp only[hget_c,Nat.reduceEqDiff,↓reduceIte];done)|assumption|(simp (disch:=omega) only[hg_ne,hg_eq,hgs_ne, *];done)|(simp only [TL];done)|with_unfolding_all rfl) only [c60,hx,EVS,Nat.reduceAdd,Nat.reduceSub,Int.reduceToNat,Nat.reduceMul,Nat.reduceEqDiff,Nat.reduceLeDiff,Int.reduceEq,Int.reduceLT,Int.reduceLE,↓reduceIte]
theorem few_spec (b:Nat):∀ h nx,lim T 96 [.int .u64 b] h nx=some (.int .u64 (min (b:Int) 64),h,nx):=by
 refine lim_iso tg96 rfl rfl rfl ?_
 simp (disch:=first|omega|(simp only[EVL]<;>omega)|(simp only[hget_c,Nat.reduceEqDiff,↓reduceIte];done)|assumption|(simp (disch:=omega) only[hg_ne,hg_eq,hgs_ne, *];done)|(simp only [TL];done)|with_unfolding_all rfl) only [c96,EVS,Nat.reduceAdd,Nat.reduceSub,Int.reduceToNat,Nat.reduceMul,Nat.reduceEqDiff,Nat.reduceLeDiff,Int.reduceEq,Int.reduceLT,Int.reduceLE,↓reduceIte]
theorem one_spec (c:Bool):∀ h nx,lim T 102 [.bool c] h nx=some (.int .u64 (if c=true then 1 else 0),h,nx):=by
 refine lim_iso tg102 rfl rfl rfl ?_
 cases c<;>simp (disch:=first|omega|(simp only[EVL]<;>omega)|(simp only[hget_c,Nat.reduceEqDiff,↓reduceIte];done)|assumption|(simp (disch:=omega) only[hg_ne,hg_eq,hgs_ne, *];done)|(simp only [TL];done)|with_unfolding_all rfl) only [c102,EVS,Nat.reduceAdd,Nat.reduceSub,Int.reduceToNat,Nat.reduceMul,Nat.reduceEqDiff,Nat.reduceLeDiff,Int.reduceEq,Int.reduceLT,Int.reduceLE,↓reduceIte]

section
variable (n a b:Nat) (w:FV)
theorem op1_spec:∀ h nx,lim T 89 [.int .i64 n,.int .u64 a,.int .u64 b] h nx=some (.int .u64 (IntKind.u64.wrap ((a:Int) + b)),h,nx):=by
 refine lim_iso tg89 rfl rfl rfl ?_
 simp (disch:=first|omega|(simp only[EVL]<;>omega)|(simp only[hget_c,Nat.reduceEqDiff,↓reduceIte];done)|assumption|(simp (disch:=omega) only[hg_ne,hg_eq,hgs_ne, *];done)|(simp only [TL];done)|with_unfolding_all rfl) only [c89,EVS,Nat.reduceAdd,Nat.reduceSub,Int.reduceToNat,Nat.reduceMul,Nat.reduceEqDiff,Nat.reduceLeDiff,Int.reduceEq,Int.reduceLT,Int.reduceLE,↓reduceIte]
theorem op2_spec:∀ h nx,lim T 90 [.int .i64 n,.int .u64 a,.int .u64 b] h nx=some (.int .u64 (IntKind.u64.wrap ((a:Int) - b)),h,nx):=by
 refine lim_iso tg90 rfl rfl rfl ?_
 simp (disch:=first|omega|(simp only[EVL]<;>omega)|(simp only[hget_c,Nat.reduceEqDiff,↓reduceIte];done)|assumption|(simp (disch:=omega) only[hg_ne,hg_eq,hgs_ne, *];done)|(simp only [TL];done)|with_unfolding_all rfl) only [c90,EVS,Nat.reduceAdd,Nat.reduceSub,Int.reduceToNat,Nat.reduceMul,Nat.reduceEqDiff,Nat.reduceLeDiff,Int.reduceEq,Int.reduceLT,Int.reduceLE,↓reduceIte]
theorem op3_spec:∀ h nx,lim T 91 [.int .i64 n,.int .u64 a,.int .u64 b] h nx=some (.int .u64 (IntKind.u64.wrap ((a:Int) * b)),h,nx):=by
 refine lim_iso tg91 rfl rfl rfl ?_
 simp (disch:=first|omega|(simp only[EVL]<;>omega)|(simp only[hget_c,Nat.reduceEqDiff,↓reduceIte];done)|assumption|(simp (disch:=omega) only[hg_ne,hg_eq,hgs_ne, *];done)|(simp only [TL];done)|with_unfolding_all rfl) only [c91,EVS,Nat.reduceAdd,Nat.reduceSub,Int.reduceToNat,Nat.reduceMul,Nat.reduceEqDiff,Nat.reduceLeDiff,Int.reduceEq,Int.reduceLT,Int.reduceLE,↓reduceIte]
theorem op4_spec:∀ h nx,lim T 92 [.int .i64 n,.int .u64 a,.int .u64 b] h nx=some (.int .u64 (band .u64 a b),h,nx):=by
 refine lim_iso tg92 rfl rfl rfl ?_
 simp (disch:=first|omega|(simp only[EVL]<;>omega)|(simp only[hget_c,Nat.reduceEqDiff,↓reduceIte];done)|assumption|(simp (disch:=omega) only[hg_ne,hg_eq,hgs_ne, *];done)|(simp only [TL];done)|with_unfolding_all rfl) only [c92,EVS,Nat.reduceAdd,Nat.reduceSub,Int.reduceToNat,Nat.reduceMul,Nat.reduceEqDiff,Nat.reduceLeDiff,Int.reduceEq,Int.reduceLT,Int.reduceLE,↓reduceIte]
theorem op5_spec:∀ h nx,lim T 93 [.int .i64 n,.int .u64 a,.int .u64 b] h nx=some (.int .u64 (bor .u64 a b),h,nx):=by
 refine lim_iso tg93 rfl rfl rfl ?_
 simp (disch:=first|omega|(simp only[EVL]<;>omega)|(simp only[hget_c,Nat.reduceEqDiff,↓reduceIte];done)|assumption|(simp (disch:=omega) only[hg_ne,hg_eq,hgs_ne, *];done)|(simp only [TL];done)|with_unfolding_all rfl) only [c93,EVS,Nat.reduceAdd,Nat.reduceSub,Int.reduceToNat,Nat.reduceMul,Nat.reduceEqDiff,Nat.reduceLeDiff,Int.reduceEq,Int.reduceLT,Int.reduceLE,↓reduceIte]
theorem op6_spec:∀ h nx,lim T 94 [.int .i64 n,.int .u64 a,.int .u64 b] h nx=some (.int .u64 (bxor .u64 a b),h,nx):=by
 refine lim_iso tg94 rfl rfl rfl ?_
 simp (disch:=first|omega|(simp only[EVL]<;>omega)|(simp only[hget_c,Nat.reduceEqDiff,↓reduceIte];done)|assumption|(simp (disch:=omega) only[hg_ne,hg_eq,hgs_ne, *];done)|(simp only [TL];done)|with_unfolding_all rfl) only [c94,EVS,Nat.reduceAdd,Nat.reduceSub,Int.reduceToNat,Nat.reduceMul,Nat.reduceEqDiff,Nat.reduceLeDiff,Int.reduceEq,Int.reduceLT,Int.reduceLE,↓reduceIte]
theorem op7_spec:∀ h nx,lim T 95 [.int .i64 n,.int .u64 a,.int .u64 b] h nx=some (.int .u64 (shl .u64 a (min (b:Int) 64)),h,nx):=by
 refine lim_iso tg95 rfl rfl rfl ?_
 simp (disch:=first|omega|(simp only[EVL]<;>omega)|(simp only[hget_c,Nat.reduceEqDiff,↓reduceIte];done)|assumption|(simp (disch:=omega) only[hg_ne,hg_eq,hgs_ne, *];done)|(simp only [TL];done)|with_unfolding_all rfl) only [c95,few_spec,EVS,Nat.reduceAdd,Nat.reduceSub,Int.reduceToNat,Nat.reduceMul,Nat.reduceEqDiff,Nat.reduceLeDiff,Int.reduceEq,Int.reduceLT,Int.reduceLE,↓reduceIte]
theorem op8_spec:∀ h nx,lim T 97 [.int .i64 n,.int .u64 a,.int .u64 b] h nx=some (.int .u64 (shr .u64 a (min (b:Int) 64)),h,nx):=by
 refine lim_iso tg97 rfl rfl rfl ?_
 simp (disch:=first|omega|(simp only[EVL]<;>omega)|(simp only[hget_c,Nat.reduceEqDiff,↓reduceIte];done)|assumption|(simp (disch:=omega) only[hg_ne,hg_eq,hgs_ne, *];done)|(simp only [TL];done)|with_unfolding_all rfl) only [c97,few_spec,EVS,Nat.reduceAdd,Nat.reduceSub,Int.reduceToNat,Nat.reduceMul,Nat.reduceEqDiff,Nat.reduceLeDiff,Int.reduceEq,Int.reduceLT,Int.reduceLE,↓reduceIte]
theorem op10_spec:∀ h nx,lim T 99 [.int .i64 n,.int .u64 a,.int .u64 b] h nx=some (.int .u64 (if b=0 then 18446744073709551615 else IntKind.u64.wrap ((a / b:Nat):Int)),h,nx):=by
 refine lim_iso tg99 rfl rfl rfl ?_
 by_cases hb:b=0
 ·subst hb
  have z:decide (((0:Nat):Int)=0)=true:=rfl
  simp (disch:=first|omega|(simp only[EVL]<;>omega)|(simp only[hget_c,Nat.reduceEqDiff,↓reduceIte];done)|assumption|(simp (disch:=omega) only[hg_ne,hg_eq,hgs_ne, *];done)|(simp only [TL];done)|with_unfolding_all rfl) only [c99,z,EVS,Nat.reduceAdd,Nat.reduceSub,Int.reduceToNat,Nat.reduceMul,Nat.reduceEqDiff,Nat.reduceLeDiff,Int.reduceEq,Int.reduceLT,Int.reduceLE,↓reduceIte]
 ·have z:decide ((b:Int)=0)=false:=decide_eq_false (by omega)
  have z2:((b:Int)=0)=False:=eq_false (by omega)
  simp (disch:=first|omega|(simp only[EVL]<;>omega)|(simp only[hget_c,Nat.reduceEqDiff,↓reduceIte];done)|assumption|(simp (disch:=omega) only[hg_ne,hg_eq,hgs_ne, *];done)|(simp only [TL];done)|with_unfolding_all rfl) only [c99,z,EVS,Nat.reduceAdd,Nat.reduceSub,Int.reduceToNat,Nat.reduceMul,Nat.reduceEqDiff,Nat.reduceLeDiff,Int.reduceEq,Int.reduceLT,Int.reduceLE,↓reduceIte]
  rw [if_neg hb,Int.tdiv_eq_ediv_of_nonneg (by omega)];rfl
theorem op11_spec:∀ h nx,lim T 100 [.int .i64 n,.int .u64 a,.int .u64 b] h nx=some (.int .u64 (if b=0 then (a:Int) else ((a % b:Nat):Int)),h,nx):=by
 refine lim_iso tg100 rfl rfl rfl ?_
 by_cases hb:b=0
 ·subst hb
  have z:decide (((0:Nat):Int)=0)=true:=rfl
  simp (disch:=first|omega|(simp only[EVL]<;>omega)|(simp only[hget_c,Nat.reduceEqDiff,↓reduceIte];done)|assumption|(simp (disch:=omega) only[hg_ne,hg_eq,hgs_ne, *];done)|(simp only [TL];done)|with_unfolding_all rfl) only [c100,z,EVS,Nat.reduceAdd,Nat.reduceSub,Int.reduceToNat,Nat.reduceMul,Nat.reduceEqDiff,Nat.reduceLeDiff,Int.reduceEq,Int.reduceLT,Int.reduceLE,↓reduceIte]
 ·have z:decide ((b:Int)=0)=false:=decide_eq_false (by omega)
  simp (disch:=first|omega|(simp only[EVL]<;>omega)|(simp only[hget_c,Nat.reduceEqDiff,↓reduceIte];done)|assumption|(simp (disch:=omega) only[hg_ne,hg_eq,hgs_ne, *];done)|(simp only [TL];done)|with_unfolding_all rfl) only [c100,z,EVS,Nat.reduceAdd,Nat.reduceSub,Int.reduceToNat,Nat.reduceMul,Nat.reduceEqDiff,Nat.reduceLeDiff,Int.reduceEq,Int.reduceLT,Int.reduceLE,↓reduceIte]
  rw [if_neg hb,Int.tmod_eq_emod_of_nonneg (by omega)];rfl
theorem op12_spec:∀ h nx,lim T 101 [.int .i64 n,.int .u64 a,.int .u64 b] h nx=some (.int .u64 (if decide ((a:Int)=b)=true then 1 else 0),h,nx):=by
 refine lim_iso tg101 rfl rfl rfl ?_
 simp (disch:=first|omega|(simp only[EVL]<;>omega)|(simp only[hget_c,Nat.reduceEqDiff,↓reduceIte];done)|assumption|(simp (disch:=omega) only[hg_ne,hg_eq,hgs_ne, *];done)|(simp only [TL];done)|with_unfolding_all rfl) only [c101,one_spec,EVS,Nat.reduceAdd,Nat.reduceSub,Int.reduceToNat,Nat.reduceMul,Nat.reduceEqDiff,Nat.reduceLeDiff,Int.reduceEq,Int.reduceLT,Int.reduceLE,↓reduceIte]
theorem op13_spec:∀ h nx,lim T 103 [.int .i64 n,.int .u64 a,.int .u64 b] h nx=some (.int .u64 (if decide ((a:Int) < b)=true then 1 else 0),h,nx):=by
 refine lim_iso tg103 rfl rfl rfl ?_
 simp (disch:=first|omega|(simp only[EVL]<;>omega)|(simp only[hget_c,Nat.reduceEqDiff,↓reduceIte];done)|assumption|(simp (disch:=omega) only[hg_ne,hg_eq,hgs_ne, *];done)|(simp only [TL];done)|with_unfolding_all rfl) only [c103,one_spec,EVS,Nat.reduceAdd,Nat.reduceSub,Int.reduceToNat,Nat.reduceMul,Nat.reduceEqDiff,Nat.reduceLeDiff,Int.reduceEq,Int.reduceLT,Int.reduceLE,↓reduceIte]
variable {n a b}
theorem op9_spec (h1:1 ≤ n) (h2:n ≤ 64) (ha:a < 2 ^ n):∀ h nx,lim T 98 [.int .i64 n,.int .u64 a,.int .u64 b] h nx=some (.int .u64 (IntKind.u64.wrap (shr .i64 (toI n a) (min (b:Int) 64))),h,nx):=by
 refine lim_iso tg98 rfl rfl rfl ?_
 simp (disch:=first|omega|(simp only[EVL]<;>omega)|(simp only[hget_c,Nat.reduceEqDiff,↓reduceIte];done)|assumption|(simp (disch:=omega) only[hg_ne,hg_eq,hgs_ne, *];done)|(simp only [TL];done)|with_unfolding_all rfl) only [c98,few_spec,signed_spec n a h1 h2 ha,EVS,Nat.reduceAdd,Nat.reduceSub,Int.reduceToNat,Nat.reduceMul,Nat.reduceEqDiff,Nat.reduceLeDiff,Int.reduceEq,Int.reduceLT,Int.reduceLE,↓reduceIte]
theorem op14_spec (h1:1 ≤ n) (h2:n ≤ 64) (ha:a < 2 ^ n) (hb:b < 2 ^ n):∀ h nx,lim T 104 [.int .i64 n,.int .u64 a,.int .u64 b] h nx=some (.int .u64 (if decide (toI n a < toI n b)=true then 1 else 0),h,nx):=by
 refine lim_iso tg104 rfl rfl rfl ?_
 simp (disch:=first|omega|(simp only[EVL]<;>omega)|(simp only[hget_c,Nat.reduceEqDiff,↓reduceIte];done)|assumption|(simp (disch:=omega) only[hg_ne,hg_eq,hgs_ne, *];done)|(simp only [TL];done)|with_unfolding_all rfl) only [c104,one_spec,signed_spec n a h1 h2 ha,signed_spec n b h1 h2 hb,EVS,Nat.reduceAdd,Nat.reduceSub,Int.reduceToNat,Nat.reduceMul,Nat.reduceEqDiff,Nat.reduceLeDiff,Int.reduceEq,Int.reduceLT,Int.reduceLE,↓reduceIte]
end
theorem oper_at (k:Nat) (hk:k < 19):∀ h nx,lim T 61 [.int .u8 k] h nx=some (([.nilf,.nilf,.nilf,.nilf,.nilf,.fn 89 [],.fn 90 [],.fn 91 [],.fn 92 [],.fn 93 [],.fn 94 [],.fn 95 [],.fn 97 [],.fn 98 [],.fn 99 [],.fn 100 [],.fn 101 [],.fn 103 [],.fn 104 []]:List FV).getD k .undef,h,nx):=by
 have key:∀ k:Nat,k < 19→(match FI.call T 100 61 [.int .u8 k] [] 0 with | some (v,_,_)=>eqv v (([.nilf,.nilf,.nilf,.nilf,.nilf,.fn 89 [],.fn 90 [],.fn 91 [],.fn 92 [],.fn 93 [],.fn 94 [],.fn 95 [],.fn 97 [],.fn 98 [],.fn 99 [],.fn 100 [],.fn 101 [],.fn 103 [],.fn 104 []]:List FV).getD k .undef) | none=>false)=true:=by decide +kernel
 have:=key k hk
 split at this
 ·rename_i v h' nx' hc
  rw [← eqv_eq this]
  exact lim_iso_any tg61 rfl (le_lim T _ _ _ _ _ _ hc) (by decide)
 ·cases this
theorem binary_spec (k:Int) (n a b:Nat) (k1:5 ≤ k) (k2:k ≤ 18) (h1:1 ≤ n) (h2:n ≤ 64) (ha:a < 2 ^ n) (hb:b < 2 ^ n):∀ h nx,lim T 25 [.int .u8 k,.int .i64 n,.int .u64 a,.int .u64 b] h nx=some (.tup [.int .u64 (opN k n a b:Nat),.int .i64 0],h,nx):=by
 have hw:decide ((1:Int) ≤ n∧(n:Int) ≤ 64)=true:=decide_eq_true (by omega)
 have hm:=mask_spec' n (by omega) (by omega)
 rw [show ((n:Nat):Int).toNat=n by omega] at hm
 have hc:=fun e h nx=>bcheck2 n a b h1 h2 ha hb e h nx
 have key:∀ (f:Nat) (X:Int),(∀ h nx,lim T 61 [.int .u8 k] h nx=some (.fn f [],h,nx))→(∀ h nx,lim T f [.int .i64 n,.int .u64 a,.int .u64 b] h nx=some (.int .u64 X,h,nx))→band .u64 X (2 ^ n - 1)=(opN k n a b:Nat) →
   ∀ h nx,lim T 25 [.int .u8 k,.int .i64 n,.int .u64 a,.int .u64 b] h nx=some (.tup [.int .u64 (opN k n a b:Nat),.int .i64 0],h,nx):=by
  intro f X ho hf hx
  have d1:decide (k < 5)=false:=decide_eq_false (by omega)
  have d2:decide ((18:Int) < k)=false:=decide_eq_false (by omega)
  refine lim_iso tg25 rfl rfl rfl ?_
  simp (disch:=first|omega|(simp only[EVL]<;>omega)|(simp only[hget_c,Nat.reduceEqDiff,↓reduceIte];done)|assumption|(simp (disch:=omega) only[hg_ne,hg_eq,hgs_ne, *];done)|(simp only [TL];done)|with_unfolding_all rfl) only [c25,wideB_spec,hw,d1,d2,bcheck_lim,hc,ho,hf,hm,hx,EVS,Nat.reduceAdd,Nat.reduceSub,Int.reduceToNat,Nat.reduceMul,Nat.reduceEqDiff,Nat.reduceLeDiff,Int.reduceEq,Int.reduceLT,Int.reduceLE,↓reduceIte]
 have hk:k=5 ∨ k=6 ∨ k=7 ∨ k=8 ∨ k=9 ∨ k=10 ∨ k=11 ∨ k=12 ∨ k=13 ∨ k=14 ∨ k=15 ∨ k=16 ∨ k=17 ∨ k=18:=by omega
 rcases hk with rfl | rfl | rfl | rfl | rfl | rfl | rfl | rfl | rfl | rfl | rfl | rfl | rfl | rfl
 ·exact key _ _ (oper_at 5 (by decide)) (op1_spec n a b) (X_add (n:=n) (a:=a) (b:=b) h2)
 ·exact key _ _ (oper_at 6 (by decide)) (op2_spec n a b) (X_sub (n:=n) (a:=a) (b:=b) h2 hb)
 ·exact key _ _ (oper_at 7 (by decide)) (op3_spec n a b) (X_mul (n:=n) (a:=a) (b:=b) h2)
 ·exact key _ _ (oper_at 8 (by decide)) (op4_spec n a b) (X_and h2 ha hb)
 ·exact key _ _ (oper_at 9 (by decide)) (op5_spec n a b) (X_or h2 ha hb)
 ·exact key _ _ (oper_at 10 (by decide)) (op6_spec n a b) (X_xor h2 ha hb)
 ·exact key _ _ (oper_at 11 (by decide)) (op7_spec n a b) (X_shl (n:=n) (a:=a) (b:=b) h2)
 ·exact key _ _ (oper_at 12 (by decide)) (op8_spec n a b) (X_shr (n:=n) (a:=a) (b:=b) h2 ha)
 ·exact key _ _ (oper_at 13 (by decide)) (op9_spec h1 h2 ha) (X_sar (n:=n) (a:=a) (b:=b) h2)
 ·refine key _ _ (oper_at 14 (by decide)) (op10_spec n a b) ?_
  by_cases hz:b=0
  ·subst hz
   rw [if_pos rfl];exact X_div0 h2
  ·rw [if_neg hz,w64,Int.emod_eq_of_lt (Int.natCast_nonneg _) (by have:=lt64 h2 ha;have:=Nat.div_le_self a b;exact Int.ofNat_lt.2 (by omega:a / b < 18446744073709551616))]
   exact X_div h2 ha hz
 ·refine key _ _ (oper_at 15 (by decide)) (op11_spec n a b) ?_
  by_cases hz:b=0
  ·subst hz
   rw [if_pos rfl];exact X_rem0 h2 ha
  ·rw [if_neg hz];exact X_rem h2 ha hz
 ·refine key _ _ (oper_at 16 (by decide)) (op12_spec n a b) ?_
  rw [X_one h1 h2]
  have e:opN 16 n a b=if a=b then 1 else 0:=rfl
  rw [e]
  by_cases c:(a:Int)=b
  ·rw [if_pos (decide_eq_true c),if_pos (by omega)];rfl
  ·rw [if_neg (by simpa using c),if_neg (by omega)];rfl
 ·refine key _ _ (oper_at 17 (by decide)) (op13_spec n a b) ?_
  rw [X_one h1 h2]
  have e:opN 17 n a b=if a < b then 1 else 0:=rfl
  rw [e]
  by_cases c:(a:Int) < b
  ·rw [if_pos (decide_eq_true c),if_pos (by omega)];rfl
  ·rw [if_neg (by simpa using c),if_neg (by omega)];rfl
 ·refine key _ _ (oper_at 18 (by decide)) (op14_spec h1 h2 ha hb) ?_
  rw [X_one h1 h2]
  have e:opN 18 n a b=if toI n a < toI n b then 1 else 0:=rfl
  rw [e]
  by_cases c:toI n a < toI n b
  ·rw [if_pos (decide_eq_true c),if_pos (by omega)];rfl
  ·rw [if_neg (by simpa using c),if_neg (by omega)];rfl
theorem unary_spec (k:Int) (n a:Nat) (hk:k=3 ∨ k=4) (h1:1 ≤ n) (h2:n ≤ 64) (ha:a < 2 ^ n):∀ h nx,lim T 21 [.int .u8 k,.int .i64 n,.int .u64 a] h nx=some (.tup [.int .u64 (unN k n a:Nat),.int .i64 0],h,nx):=by
 have hw:decide ((1:Int) ≤ n∧(n:Int) ≤ 64)=true:=decide_eq_true (by omega)
 have hm:=mask_spec' n (by omega) (by omega)
 rw [show ((n:Nat):Int).toNat=n by omega] at hm
 have hc:=fun e h nx=>bcheck1 n a h1 h2 ha e h nx
 refine lim_iso tg21 rfl rfl rfl ?_
 rcases hk with rfl | rfl
 ·have hx:=X_not h2 ha
  simp (disch:=first|omega|(simp only[EVL]<;>omega)|(simp only[hget_c,Nat.reduceEqDiff,↓reduceIte];done)|assumption|(simp (disch:=omega) only[hg_ne,hg_eq,hgs_ne, *];done)|(simp only [TL];done)|with_unfolding_all rfl) only [c21,wideB_spec,hw,bcheck_lim,hc,hm,hx,EVS,Nat.reduceAdd,Nat.reduceSub,Int.reduceToNat,Nat.reduceMul,Nat.reduceEqDiff,Nat.reduceLeDiff,Int.reduceEq,Int.reduceLT,Int.reduceLE,↓reduceIte]
  rw [show (if IntKind.u64.signed=true then (-1:Int) else IntKind.u64.max)=18446744073709551615 from rfl,hx]
 ·have hx:=X_neg h2 ha
  simp (disch:=first|omega|(simp only[EVL]<;>omega)|(simp only[hget_c,Nat.reduceEqDiff,↓reduceIte];done)|assumption|(simp (disch:=omega) only[hg_ne,hg_eq,hgs_ne, *];done)|(simp only [TL];done)|with_unfolding_all rfl) only [c21,wideB_spec,hw,bcheck_lim,hc,hm,hx,EVS,Nat.reduceAdd,Nat.reduceSub,Int.reduceToNat,Nat.reduceMul,Nat.reduceEqDiff,Nat.reduceLeDiff,Int.reduceEq,Int.reduceLT,Int.reduceLE,↓reduceIte]
theorem extract_spec (n a lo m:Nat) (h1:1 ≤ n) (h2:n ≤ 64) (ha:a < 2 ^ n) (m1:1 ≤ m) (m2:lo + m ≤ n):∀ h nx,lim T 23 [.int .i64 n,.int .u64 a,.int .i64 lo,.int .i64 m] h nx=some (.tup [.int .u64 (a / 2 ^ lo % 2 ^ m:Nat),.int .i64 0],h,nx):=by
 have hm:=mask_spec' m (by omega) (by omega)
 rw [show ((m:Nat):Int).toNat=m by omega] at hm
 have hc:=fun e h nx=>bcheck1 n a h1 h2 ha e h nx
 have hl:=lt64 h2 ha
 have d1:decide ((lo:Int) < 0)=false:=decide_eq_false (by omega)
 have d2:decide ((m:Int) < 1)=false:=decide_eq_false (by omega)
 have d3:decide ((n:Int) < m)=false:=decide_eq_false (by omega)
 have d4:decide ((n:Int) - m < lo)=false:=decide_eq_false (by omega)
 have hs:=shr_nat (a:=(a:Int)) (n:=lo) (by omega) (by omega)
 have hx:band .u64 (((a:Int).toNat >>> lo:Nat):Int) (2 ^ m - 1)=(a / 2 ^ lo % 2 ^ m:Nat):=by
  rw [Int.toNat_natCast,Nat.shiftRight_eq_div_pow,fin_in (by omega) (Int.natCast_nonneg _) (Int.ofNat_lt.2 (by have:=Nat.div_le_self a (2 ^ lo);omega:a / 2 ^ lo < 18446744073709551616)),nat_mod]
 rw [Int.toNat_natCast] at hs hx
 refine lim_iso tg23 rfl rfl rfl ?_
 simp (disch:=first|omega|(simp only[EVL]<;>omega)|(simp only[hget_c,Nat.reduceEqDiff,↓reduceIte];done)|assumption|(simp (disch:=omega) only[hg_ne,hg_eq,hgs_ne, *];done)|(simp only [TL];done)|with_unfolding_all rfl) only [c23,bcheck_lim,hc,d1,d2,d3,d4,hs,hm,hx,EVS,Nat.reduceAdd,Nat.reduceSub,Int.reduceToNat,Nat.reduceMul,Nat.reduceEqDiff,Nat.reduceLeDiff,Int.reduceEq,Int.reduceLT,Int.reduceLE,↓reduceIte]
theorem concat_spec (n a m b:Nat) (h1:1 ≤ n) (m1:1 ≤ m) (h2:n + m ≤ 64) (ha:a < 2 ^ n) (hb:b < 2 ^ m):∀ h nx,lim T 22 [.int .i64 n,.int .u64 a,.int .i64 m,.int .u64 b] h nx=some (.tup [.int .u64 (a * 2 ^ m + b:Nat),.int .i64 0],h,nx):=by
 have hw1:decide ((1:Int) ≤ n∧(n:Int) ≤ 64)=true:=decide_eq_true (by omega)
 have hw2:decide ((1:Int) ≤ m∧(m:Int) ≤ 64)=true:=decide_eq_true (by omega)
 have hw3:decide ((1:Int) ≤ (n:Int) + m∧(n:Int) + m ≤ 64)=true:=decide_eq_true (by omega)
 have o1:okS n a:=⟨by omega,by omega,by rw [show ((n:Nat):Int).toNat=n by omega,← pow_nat];exact Int.ofNat_lt.2 ha⟩
 have o2:okS m b:=⟨by omega,by omega,by rw [show ((m:Nat):Int).toNat=m by omega,← pow_nat];exact Int.ofNat_lt.2 hb⟩
 have hab:a * 2 ^ m < 2 ^ (n + m):=by rw [Nat.pow_add];exact Nat.mul_lt_mul_of_pos_right ha (Nat.pow_pos (by decide))
 have h64:(2:Nat) ^ (n + m) ≤ 2 ^ 64:=Nat.pow_le_pow_right (by decide) h2
 have h64':(2:Nat) ^ 64=18446744073709551616:=rfl
 have hb64:b < 18446744073709551616:=lt64 (by omega) hb
 have hs:=shl_nat (a:=(a:Int)) (n:=m) (by omega) (by omega) (by rw [← pow_nat,← Int.natCast_mul];exact Int.ofNat_lt.2 (by omega:a * 2 ^ m < 18446744073709551616))
 rw [Int.toNat_natCast,Nat.shiftLeft_eq] at hs
 have hx:bor .u64 ((a * 2 ^ m:Nat):Int) b=((a * 2 ^ m + b:Nat):Int):=by
  rw [bor_nat (Int.natCast_nonneg _) (Int.ofNat_lt.2 (by omega:a * 2 ^ m < 18446744073709551616)) (by omega) (by omega),Int.toNat_natCast,Int.toNat_natCast,Nat.mul_comm,Nat.two_pow_add_eq_or_of_lt hb]
 refine lim_iso tg22 rfl rfl rfl ?_
 simp (disch:=first|omega|(simp only[EVL]<;>omega)|(simp only[hget_c,Nat.reduceEqDiff,↓reduceIte];done)|assumption|(simp (disch:=omega) only[hg_ne,hg_eq,hgs_ne, *];done)|(simp only [TL];done)|with_unfolding_all rfl) only [c22,wideB_spec,okB_spec,hw1,hw2,hw3,o1,o2,decide_true,hs,hx,EVS,Nat.reduceAdd,Nat.reduceSub,Int.reduceToNat,Nat.reduceMul,Nat.reduceEqDiff,Nat.reduceLeDiff,Int.reduceEq,Int.reduceLT,Int.reduceLE,↓reduceIte]
theorem extend_spec (s:Bool) (n a m:Nat) (h1:1 ≤ n) (h2:m ≤ 64) (hnm:n ≤ m) (ha:a < 2 ^ n):∀ h nx,lim T 24 [.int .i64 n,.int .u64 a,.int .i64 m,.bool s] h nx=some (.tup [.int .u64 (exN s n m a:Nat),.int .i64 0],h,nx):=by
 have hw1:decide ((1:Int) ≤ n∧(n:Int) ≤ 64)=true:=decide_eq_true (by omega)
 have hw2:decide ((1:Int) ≤ m∧(m:Int) ≤ 64)=true:=decide_eq_true (by omega)
 have d1:decide ((m:Int) < n)=false:=decide_eq_false (by omega)
 have hc:=fun e h nx=>bcheck1 n a h1 (by omega) ha e h nx
 have hm:=mask_spec' m (by omega) (by omega)
 rw [show ((m:Nat):Int).toNat=m by omega] at hm
 have hg:=signed_spec n a h1 (by omega) ha
 refine lim_iso tg24 rfl rfl rfl ?_
 cases s with
 |false =>
  have e:exN false n m a=a:=rfl
  rw [e]
  simp (disch:=first|omega|(simp only[EVL]<;>omega)|(simp only[hget_c,Nat.reduceEqDiff,↓reduceIte];done)|assumption|(simp (disch:=omega) only[hg_ne,hg_eq,hgs_ne, *];done)|(simp only [TL];done)|with_unfolding_all rfl) only [c24,wideB_spec,hw1,hw2,d1,bcheck_lim,hc,EVS,Nat.reduceAdd,Nat.reduceSub,Int.reduceToNat,Nat.reduceMul,Nat.reduceEqDiff,Nat.reduceLeDiff,Int.reduceEq,Int.reduceLT,Int.reduceLE,↓reduceIte]
 |true =>
  have hx:band .u64 (IntKind.u64.wrap (toI n a)) (2 ^ m - 1)=(exN true n m a:Nat):=by
   have e:exN true n m a=(toI n a % 2 ^ m).toNat:=rfl
   have hp:=pow_pos' m
   rw [fin_mod h2,e,Int.toNat_of_nonneg (Int.emod_nonneg _ (by omega))]
  simp (disch:=first|omega|(simp only[EVL]<;>omega)|(simp only[hget_c,Nat.reduceEqDiff,↓reduceIte];done)|assumption|(simp (disch:=omega) only[hg_ne,hg_eq,hgs_ne, *];done)|(simp only [TL];done)|with_unfolding_all rfl) only [c24,wideB_spec,hw1,hw2,d1,bcheck_lim,hc,hg,hm,hx,EVS,Nat.reduceAdd,Nat.reduceSub,Int.reduceToNat,Nat.reduceMul,Nat.reduceEqDiff,Nat.reduceLeDiff,Int.reduceEq,Int.reduceLT,Int.reduceLE,↓reduceIte]

open Go.Sort (PermIn SortedIn)
theorem bS0:bS=bd0:=rfl
def VP (q iid:Nat) (dn:List (FV × FV)) (m:Tm) (h:Heap) (nx:Nat):Prop:=∃ D:Env0,dn=D.map kvV∧keepOf m c27.keep0=[(2,.lst true []),(3,.int .i64 0),(7,.sref 3 q D.length 0 D.length),(21,.ptr iid 1 0 0)]∧hget h q=some (.row 3 (D.map bd0))∧q < nx∧iid < nx∧iid ≠ q
theorem vars_step (q iid:Nat) (en:Env0) (hen:en.length ≤ 400) (dn:List (FV × FV)) (e:FV × FV) (rest:List (FV × FV)) (m:Tm) (h:Heap) (nx:Nat) (hp:(dn ++ e::rest).Perm (en.map kvV)) (hP:VP q iid dn m h nx) :
  ∃ y,runIt (rops (np (lim T))) (runs T) c27 e (keepOf m c27.keep0) h nx=some y∧VP q iid (dn ++ [e]) y.1 y.2.1 y.2.2:=by
 obtain ⟨D,rfl,h1,h2,h3,h4,h5⟩:=hP
 have he:e ∈ en.map kvV:=hp.mem_iff.1 (by simp)
 obtain ⟨p,_,rfl⟩:=List.mem_map.1 he
 have hlen:D.length + 1 ≤ 400:=by
  have:=hp.length_eq
  simp only [List.length_append,List.length_map,List.length_cons] at this
  omega
 rw [h1]
 unfold runIt
 show @Ok (Tm × Heap × Nat) (@FI.B (Tm × Heap × Nat) (Tm × Heap × Nat) (rops _ _ _ _ _ _) ⟨_⟩) ⟨_⟩
 simp only [c27,kvV]
 simp (disch:=first|omega|(simp only[EVL]<;>omega)|(simp only[hget_c,Nat.reduceEqDiff,↓reduceIte];done)|assumption|(simp (disch:=omega) only[hg_ne,hg_eq,hgs_ne, *];done)|(simp only [rb_len,LAWSb,List.length_map];done)|with_unfolding_all rfl) only [EVS,Nat.reduceAdd,Nat.reduceSub,Int.reduceToNat,Nat.reduceMul,Nat.reduceEqDiff,Nat.reduceLeDiff,Int.reduceEq,Int.reduceLT,Int.reduceLE,↓reduceIte]
 refine Ok_part ?_
 simp (disch:=first|omega|(simp only[EVL]<;>omega)|(simp only[hget_c,Nat.reduceEqDiff,↓reduceIte];done)|assumption|(simp (disch:=omega) only[hg_ne,hg_eq,hgs_ne, *];done)|(simp only [rb_len,LAWSb,List.length_map];done)|with_unfolding_all rfl) only [c27,unf b27_0.eq_1,h2,EVS,Nat.reduceAdd,Nat.reduceSub,Int.reduceToNat,Nat.reduceMul,Nat.reduceEqDiff,Nat.reduceLeDiff,Int.reduceEq,Int.reduceLT,Int.reduceLE,↓reduceIte]
 exact ⟨D ++ [p],by simp [kvV],by simp,by rw [hgs_eq h2];simp [bd0],by omega,by omega,h5⟩
theorem vars_fin (t:Te) (q iid:Nat) (en:Env0) (hv:varsE t=.inl en) (hen:en.length ≤ 400) (dn:List (FV × FV)) (m:Tm) (h:Heap) (nx:Nat) (hp:dn.Perm (en.map kvV)) (hP:VP q iid dn m h nx) :
  bnd (runs T [.code c27.post] (keepOf m c27.keep0) h nx) (resM c27.res)=some (.tup [.lst false ((insE [] (varList t)).map bd0),.int .i64 0]):=by
 obtain ⟨D,rfl,h1,h2,h3,h4,h5⟩:=hP
 have hpD:D.Perm en:=by
  have:=hp.map (fun e:FV × FV=>match e with | (.str n,.int _ w)=>(n,w) | _=>(([]:List UInt8),(0:Int)))
  simpa [List.map_map,Function.comp_def,kvV] using this
 have hlen:D.length ≤ 400:=by rw [hpD.length_eq];exact hen
 rw [h1]
 refine Ok_eq ?_
 show @Ok FV (@FI.B Out FV (runs _ _ _ _ _) ⟨_⟩) ⟨_⟩
 refine Ok_part ?_
 simp only [c27]
 simp (disch:=first|omega|(simp only[EVL]<;>omega)|(simp only[hget_c,Nat.reduceEqDiff,↓reduceIte];done)|assumption|(simp (disch:=omega) only[hg_ne,hg_eq,hgs_ne, *];done)|(simp only [rb_len,LAWSb,List.length_map];done)|with_unfolding_all rfl) only [unf k27_1.eq_1,EVS,Nat.reduceAdd,Nat.reduceSub,Int.reduceToNat,Nat.reduceMul,Nat.reduceEqDiff,Nat.reduceLeDiff,Int.reduceEq,Int.reduceLT,Int.reduceLE,↓reduceIte]
 refine Ok_call (sortF_spec q D.length D.toArray (by omega) (by simp) h _ (by omega) h2) fun r hr=>?_
 obtain ⟨r1,d',p1,p2,p3,p4⟩:=hr
 rw [r1]
 refine ⟨rfl,?_⟩
 obtain ⟨s1,s2⟩:=SL_sorted (n:=D.length) (by simp) p3 p1 p2 (by
  show ND D
  exact List.Perm.pairwise hpD.symm (varsE_nd hv) (fun h=>Ne.symm h))
 have hone:=vars_one hv s1 fun p=>by rw [s2];exact hpD.mem_iff
 have hrow:=p4.1
 have hl:d'.toList.length=D.length:=by rw [← p3];simp
 unfold rowB at hrow
 rw [bS0,hone] at hrow
 rw [hone] at hl
 generalize insE [] (varList t)=L at *
 have hl2:L.length ≤ 400:=by omega
 rw [← hl]
 simp (disch:=first|omega|(simp only[EVL]<;>omega)|(simp only[hget_c,Nat.reduceEqDiff,↓reduceIte];done)|assumption|(simp (disch:=omega) only[hg_ne,hg_eq,hgs_ne, *];done)|(simp only [rb_len,LAWSb,List.length_map];done)|with_unfolding_all rfl) only [resM_r,bnd_s,c27,hrow,EVS,Nat.reduceAdd,Nat.reduceSub,Int.reduceToNat,Nat.reduceMul,Nat.reduceEqDiff,Nat.reduceLeDiff,Int.reduceEq,Int.reduceLT,Int.reduceLE,↓reduceIte]
open Classical in
noncomputable def varsV (e:Bool) (t:Te):FV:=if checkS t=0 then .tup [.lst e ((insE [] (varList t)).map bd0),.int .i64 0] else .tup [.lst true [],.int .i64 (checkS t)]
theorem vars_spec (t:Te) (hl:size t ≤ 1000000) (hk:KOk t):∀ h nx,lim T 27 [.agg [.int .u8 (t).k,.int .i64 (t).w,.int .u64 (t).b,.str (t).s,.int .i64 (t).lo,.lst (t).e ((t).l.map tV)]] h nx=some (varsV false t,h,nx):=by
 have hck:=check_pure t hl hk
 refine lim_mr tg27 (mr_ok rfl (by simp [pures,pure_,pu_Ts]) ?_)
 refine Ok_pre ?_
 simp (disch:=first|omega|(simp only[EVL]<;>omega)|(simp only[hget_c,Nat.reduceEqDiff,↓reduceIte];done)|assumption|(simp (disch:=omega) only[hg_ne,hg_eq,hgs_ne, *];done)|(simp only [rb_len,LAWSb,List.length_map];done)|with_unfolding_all rfl) only [c27,EVS,Nat.reduceAdd,Nat.reduceSub,Int.reduceToNat,Nat.reduceMul,Nat.reduceEqDiff,Nat.reduceLeDiff,Int.reduceEq,Int.reduceLT,Int.reduceLE,↓reduceIte]
 refine Ok_pre ?_
 by_cases hc:checkS t=0
 ·have hv:∃ en,varsE t=.inl en∧size t ≤ 400:=by
   unfold checkS at hc
   split at hc
   ·cases hc
   ·split at hc
    ·split at hc
     ·rename_i en he;exact ⟨en,he,by omega⟩
     ·cases hc
    ·cases hc
  obtain ⟨en,hv,hs⟩:=hv
  have hvv:varsV false t=.tup [.lst false ((insE [] (varList t)).map bd0),.int .i64 0]:=if_pos hc
  rw [hvv]
  simp (disch:=first|omega|(simp only[EVL]<;>omega)|(simp only[hget_c,Nat.reduceEqDiff,↓reduceIte];done)|assumption|(simp (disch:=omega) only[hg_ne,hg_eq,hgs_ne, *];done)|(simp only [rb_len,LAWSb,List.length_map];done)|with_unfolding_all rfl) only [c27,TL,hck,hc,EVS,Nat.reduceAdd,Nat.reduceSub,Int.reduceToNat,Nat.reduceMul,Nat.reduceEqDiff,Nat.reduceLeDiff,Int.reduceEq,Int.reduceLT,Int.reduceLE,↓reduceIte]
  refine Ok_pre ?_
  simp (disch:=first|omega|(simp only[EVL]<;>omega)|(simp only[hget_c,Nat.reduceEqDiff,↓reduceIte];done)|assumption|(simp (disch:=omega) only[hg_ne,hg_eq,hgs_ne, *];done)|(simp only [rb_len,LAWSb,List.length_map];done)|with_unfolding_all rfl) only [c27,TL,EVS,Nat.reduceAdd,Nat.reduceSub,Int.reduceToNat,Nat.reduceMul,Nat.reduceEqDiff,Nat.reduceLeDiff,Int.reduceEq,Int.reduceLT,Int.reduceLE,↓reduceIte]
  refine Ok_call (variables_spec t hl _ _) fun r hr=>?_
  obtain ⟨v,h',nx'⟩:=r
  rw [hv] at hr
  obtain ⟨rfl,q1,q2,q3⟩:=hr
  dsimp only at q1 q2 q3
  refine ⟨rfl,?_⟩
  simp (disch:=first|omega|(simp only[EVL]<;>omega)|(simp only[hget_c,Nat.reduceEqDiff,↓reduceIte];done)|assumption|(simp (disch:=omega) only[hg_ne,hg_eq,hgs_ne, *];done)|(simp only [rb_len,LAWSb,List.length_map];done)|with_unfolding_all rfl) only [c27,EVS,Nat.reduceAdd,Nat.reduceSub,Int.reduceToNat,Nat.reduceMul,Nat.reduceEqDiff,Nat.reduceLeDiff,Int.reduceEq,Int.reduceLT,Int.reduceLE,↓reduceIte]
  refine Ok_pre ?_
  simp (disch:=first|omega|(simp only[EVL]<;>omega)|(simp only[hget_c,Nat.reduceEqDiff,↓reduceIte];done)|assumption|(simp (disch:=omega) only[hg_ne,hg_eq,hgs_ne, *];done)|(simp only [rb_len,LAWSb,List.length_map];done)|with_unfolding_all rfl) only [c27,EVS,Nat.reduceAdd,Nat.reduceSub,Int.reduceToNat,Nat.reduceMul,Nat.reduceEqDiff,Nat.reduceLeDiff,Int.reduceEq,Int.reduceLT,Int.reduceLE,↓reduceIte]
  refine Ok_pre0 ?_
  refine ⟨18,en.map kvV,rfl,by (simp (disch:=omega) only [hg_ne,hg_eq,hgs_ne,hgx_e,Option.map_some, *]),?_⟩
  have hlen:en.length ≤ 400:=by
   have h1:=(List.perm_ext_iff_of_nodup (List.Pairwise.imp (fun {a b} hab e=>hab (by rw [e])) (varsE_nd hv)) (insE_spec (varList t) [] [] List.Pairwise.nil (fun _=>Iff.rfl) (by simpa using (varsE_in hv).1)).1.nodup).2 fun p=>by rw [varsE_mem hv,(insE_spec (varList t) [] [] List.Pairwise.nil (fun _=>Iff.rfl) (by simpa using (varsE_in hv).1)).2 p];simp
   have h2:∀ (L out:Env0),(insE out L).length ≤ out.length + L.length:=by
    intro L
    induction L with
    |nil=>intro out;exact Nat.le_refl _
    |cons p L ih=>intro out;have:=ih (stepE out p);have:=stepE_len out p;simp only [insE,List.length_cons];omega
   have h3:=h2 (varList t) []
   have h4:(varList t).length ≤ size t:=by have:=varL_len (nodesT t);rw [nodesT_len] at this;exact this
   have h5:=h1.length_eq
   simp only [List.length_nil] at h3
   omega
  refine runAll_inv (en:=en.map kvV) (VP nx' (nx' + 1)) (fun dn m h nx hP=>?_) (fun dn e rest m h nx hp hP=>vars_step nx' (nx' + 1) en hlen dn e rest m h nx hp hP) (fun dn m h nx hp hP=>vars_fin t nx' (nx' + 1) en hv hlen dn m h nx hp hP) _ _ [] _ _ _ (Nat.le_refl _) (List.Perm.refl _) ?_
  ·obtain ⟨D,_,h1,_⟩:=hP
   rw [h1]
   simp [gt,c27,eqv]
  ·refine ⟨[],rfl,?_,?_,by dsimp only;omega,by dsimp only;omega,by omega⟩
   ·simp [keepOf,gt,put,c27]
   ·simp (disch:=omega) only [hg_ne,hg_eq,hgs_ne,List.map_nil]
 ·have hvv:varsV false t=.tup [.lst true [],.int .i64 (checkS t)]:=if_neg hc
  rw [hvv]
  have hc':decide (checkS t=0)=false:=by simp;exact hc
  simp (disch:=first|omega|(simp only[EVL]<;>omega)|(simp only[hget_c,Nat.reduceEqDiff,↓reduceIte];done)|assumption|(simp (disch:=omega) only[hg_ne,hg_eq,hgs_ne, *];done)|(simp only [rb_len,LAWSb,List.length_map];done)|with_unfolding_all rfl) only [c27,TL,hck,hc',EVS,Nat.reduceAdd,Nat.reduceSub,Int.reduceToNat,Nat.reduceMul,Nat.reduceEqDiff,Nat.reduceLeDiff,Int.reduceEq,Int.reduceLT,Int.reduceLE,↓reduceIte]
  simp (disch:=first|omega|(simp only[EVL]<;>omega)|(simp only[hget_c,Nat.reduceEqDiff,↓reduceIte];done)|assumption|(simp (disch:=omega) only[hg_ne,hg_eq,hgs_ne, *];done)|(simp only [rb_len,LAWSb,List.length_map];done)|with_unfolding_all rfl) only [resM_r,bnd_s,EVS,Nat.reduceAdd,Nat.reduceSub,Int.reduceToNat,Nat.reduceMul,Nat.reduceEqDiff,Nat.reduceLeDiff,Int.reduceEq,Int.reduceLT,Int.reduceLE,↓reduceIte]

def ldN (m:Mem) (a at_ w:Nat):Nat:=ldS m a at_ (w / 8)
theorem ldN_lt {m:Mem} (hm:okM m) (a at_ w:Nat) (hw:loadsS w):ldN m a at_ w < 2 ^ w:=by
 have:=ldS_lt hm a at_ (w / 8)
 rwa [show 8 * (w / 8)=w by unfold loadsS at hw;omega] at this
abbrev vM (ρ:List UInt8→Nat) (m:Mem) (t:Te):Nat:=valT ρ (ldN m) t
def boundR (ρ:List UInt8→Nat) (t:Te):Prop:=∀ x ∈ nodesT t,x.k=2→ρ x.s < 2 ^ x.w.toNat
theorem okS_nat {w b:Int} (h:okS w b) (h0:0 ≤ b):b.toNat < 2 ^ w.toNat:=by
 have h1:=h.2.2
 rw [← pow_nat] at h1
 omega
theorem mp0 {f:Te→Nat} {l:List Te} {i:Nat} (h:i < l.length):(l.map f).getD i 0=f (l.getD i default):=by simp [List.getD,h]
theorem mpw {l:List Te} {i:Nat} (h:i < l.length):(l.map Tm'.w).getD i 0=(l.getD i default).w:=by simp [List.getD,h]
theorem val_lt {ρ:List UInt8→Nat} {m:Mem} (hm:okM m) (t:Te) (hn:nodesOk t) (ht:TOk t) (hρ:boundR ρ t):vM ρ m t < 2 ^ t.w.toNat:=by
 induction t using Tm'.ind with
 |h t ih =>
 have hself:=(nodesOk_iff t).1 hn
 have hw:=(hself.1).1
 have hsub:∀ i,i < t.l.length→vM ρ m (t.l.getD i default) < 2 ^ (t.l.getD i default).w.toNat∧1 ≤ (t.l.getD i default).w∧(t.l.getD i default).w ≤ 64:=fun i hi=>by
  have hmem:=getD_mem (d:=(default:Te)) hi
  exact ⟨ih _ hmem (hself.2 _ hmem) (ht.sub hmem) (fun x hx=>hρ x (nodes_sub hmem hx)),(hself.2 _ hmem _ (mem_nodes _)).1⟩
 have hk:=ht.self.1
 have hb:=ht.self.2.2.1
 unfold vM at hsub ⊢
 rw [valT_eq]
 unfold vop
 by_cases k1:t.k=1
 ·rw [if_pos k1];exact okS_nat ((node_k1 k1).1 hself.1).2.2.2.2 hb.1
 rw [if_neg k1]
 by_cases k2:t.k=2
 ·rw [if_pos k2];exact hρ t (mem_nodes t) k2
 rw [if_neg k2]
 by_cases k3:t.k=3 ∨ t.k=4
 ·rw [if_pos k3]
  obtain ⟨_,_,_,_,hl,hs⟩:=(node_k34 k3).1 hself.1
  rw [mp0 (by omega),mpw (by omega)]
  have:=(hsub 0 (by omega)).1
  unfold subW at hs
  rw [hs] at this ⊢
  exact unN_lt this _
 rw [if_neg k3]
 by_cases k19:t.k=19
 ·rw [if_pos k19]
  obtain ⟨_,_,_,_,hl,hs0,hs1,hs2⟩:=(node_k19 k19).1 hself.1
  rw [mp0 (by omega),mp0 (by omega),mp0 (by omega)]
  have h1:=(hsub 1 (by omega)).1
  have h2:=(hsub 2 (by omega)).1
  unfold subW at hs1 hs2
  rw [hs1] at h1
  rw [hs2] at h2
  split
  ·exact h1
  ·exact h2
 rw [if_neg k19]
 by_cases k20:t.k=20
 ·rw [if_pos k20]
  obtain ⟨_,_,_,_,hl,hw0,hw1,hs⟩:=(node_k20 k20).1 hself.1
  rw [mp0 (by omega),mp0 (by omega),mpw (by omega)]
  have h0:=(hsub 0 (by omega)).1
  have h1:=(hsub 1 (by omega)).1
  unfold wideS at hw0 hw1
  unfold subW at hs hw0 hw1
  rw [show t.w.toNat=(t.l.getD 0 default).w.toNat + (t.l.getD 1 default).w.toNat by omega,Nat.pow_add]
  calc _ < valT ρ (ldN m) (t.l.getD 0 default) * 2 ^ (t.l.getD 1 default).w.toNat + 2 ^ (t.l.getD 1 default).w.toNat:=by omega
   _=(valT ρ (ldN m) (t.l.getD 0 default) + 1) * 2 ^ (t.l.getD 1 default).w.toNat:=by rw [Nat.add_mul,Nat.one_mul]
   _ ≤ _:=Nat.mul_le_mul_right _ h0
 rw [if_neg k20]
 by_cases k21:t.k=21
 ·rw [if_pos k21];exact Nat.mod_lt _ (Nat.pow_pos (by decide))
 rw [if_neg k21]
 by_cases k22:t.k=22 ∨ t.k=23
 ·rw [if_pos k22]
  obtain ⟨_,_,_,_,hl,hs⟩:=(node_k22 k22).1 hself.1
  rw [mp0 (by omega),mpw (by omega)]
  have h0:=hsub 0 (by omega)
  unfold subW at hs
  exact exN_lt (by omega) h0.1
 rw [if_neg k22]
 by_cases k24:t.k=24
 ·rw [if_pos k24]
  obtain ⟨_,_,_,_,hl,hs⟩:=(node_k24 k24).1 hself.1
  have hw':=hw
  unfold wideS at hw'
  exact ldN_lt hm _ _ _ (by rw [show ((t.w.toNat:Nat):Int)=t.w by omega];exact hs)
 rw [if_neg k24]
 have h24:1 ≤ t.k∧t.k ≤ 24:=by
  rcases Int.lt_or_le t.k 1 with h | h
  ·exact absurd hself.1 (node_no (.inl h))
  ·rcases Int.lt_or_le 24 t.k with h' | h'
   ·exact absurd hself.1 (node_no (.inr h'))
   ·exact ⟨h,h'⟩
 by_cases k5:t.k ≤ 15
 ·obtain ⟨_,_,_,_,hl,hs0,hs1⟩:=(node_k5 ⟨by omega,k5⟩).1 hself.1
  rw [mp0 (by omega),mp0 (by omega),mpw (by omega)]
  have h0:=hsub 0 (by omega)
  have h1:=hsub 1 (by omega)
  unfold subW at hs0 hs1
  rw [hs0] at h0 ⊢
  rw [hs1] at h1
  exact opN_lt (by omega) h0.1 h1.1 _
 ·have hk3:16 ≤ t.k∧t.k ≤ 18:=by omega
  obtain ⟨_,_,_,_,hl,hs0,hs1⟩:=(node_k16 hk3).1 hself.1
  rw [mp0 (by omega),mp0 (by omega),mpw (by omega),hs0]
  show opN t.k _ _ _ < 2
  have key:∀ c:Prop,[Decidable c]→(if c then 1 else 0) < 2:=fun c _=>by split<;>omega
  rcases (by omega:t.k=16 ∨ t.k=17 ∨ t.k=18) with e | e | e<;>rw [e]
  ·exact key _
  ·exact key _
  ·exact key _

def rhoU (E:EnvU) (s:List UInt8):Nat:=(lkU E s).getD 0
abbrev VR (h:Heap) (nx v:Nat) (r:FV × Heap × Nat):Prop:=r.1=.int .u64 v∧Ext h r.2.1 nx r.2.2
theorem value_loop (E:EnvU) (mid:Nat) (e:Bool) (m:Mem) (t:Te) (hl:t.l.length ≤ 3) (b0:Nat) (hmid:mid < b0) (h0:Heap) (h0m:hget h0 mid=some (.mp (E.map kvU)))
  (ih:∀ x ∈ t.l,∀ h nx,mid < nx→hget h mid=some (.mp (E.map kvU))→∃ r,lim T 44 [.agg [.int .u8 (x).k,.int .i64 (x).w,.int .u64 (x).b,.str (x).s,.int .i64 (x).lo,.lst (x).e ((x).l.map tV)],.map mid,.lst e (m.map ceV)] h nx=some r∧VR h nx (vM (rhoU E) m x) r) (Q:Post Out)
  (next:∀ (h:Heap) (nx:Nat) (cs:List FV) (x:Tm),cs.length=3→(∀ j,j < t.l.length→cs[j]? = some (.int .u64 (vM (rhoU E) m (t.l.getD j default):Nat)))→b0 + 9 ≤ nx→hget h b0=some (.row 6 [.agg [.int .u8 (t).k,.int .i64 (t).w,.int .u64 (t).b,.str (t).s,.int .i64 (t).lo,.lst (t).e ((t).l.map tV)]])→hget h (b0 + 8)=some (.row 3 [.agg cs])→(∀ j,j < b0→hget h j=hget h0 j) →
   @Ok Out (runs T [.code k44_1] ((1,.map mid)::(2,.lst e (m.map ceV))::(3,.ptr b0 1 0 0)::(7,.ptr (b0 + 8) 1 0 0)::x) h nx) Q) :
  ∀ (k i:Nat) (h:Heap) (nx:Nat) (cs:List FV),i + k=t.l.length→cs.length=3→(∀ j,j < i→cs[j]? = some (.int .u64 (vM (rhoU E) m (t.l.getD j default):Nat)))→(∀ v ∈ cs,v.one=true)→b0 + 9 ≤ nx→hget h b0=some (.row 6 [.agg [.int .u8 (t).k,.int .i64 (t).w,.int .u64 (t).b,.str (t).s,.int .i64 (t).lo,.lst (t).e ((t).l.map tV)]])→hget h (b0 + 8)=some (.row 3 [.agg cs])→(∀ j,j < b0→hget h j=hget h0 j) →
  @Ok Out (runs T [.code b44_0,.inL none b44_0,.inB 1,.code k44_1] [(1,.map mid),(2,.lst e (m.map ceV)),(3,.ptr b0 1 0 0),(7,.ptr (b0 + 8) 1 0 0),(25,.lst t.e (t.l.map tV)),(26,.int .i64 t.l.length),(27,.int .i64 i)] h nx) Q:=by
 intro k
 induction k with
 |zero =>
  intro i h nx cs hi hc hv ho hn q1 q2 q3
  have d1:decide ((i:Int) < t.l.length)=false:=by simp;omega
  simp (disch:=first|omega|(simp only[EVL]<;>omega)|(simp only[hget_c,Nat.reduceEqDiff,↓reduceIte];done)|assumption|(simp (disch:=omega) only[hg_ne,hg_eq,hgs_ne, *];done)|(simp only [TL,LAWSm];done)|with_unfolding_all rfl) only [unf b44_0.eq_1,c44,d1,EVS,Nat.reduceAdd,Nat.reduceSub,Int.reduceToNat,Nat.reduceMul,Nat.reduceEqDiff,Nat.reduceLeDiff,Int.reduceEq,Int.reduceLT,Int.reduceLE,↓reduceIte]
  exact next _ _ cs _ hc (fun j hj=>hv j (by omega)) (by omega) q1 q2 q3
 |succ k ihk =>
  intro i h nx cs hi hc hv ho hn q1 q2 q3
  have d1:decide ((i:Int) < t.l.length)=true:=by simp;omega
  have hil:i < t.l.length:=by omega
  simp (disch:=first|omega|(simp only[EVL]<;>omega)|(simp only[hget_c,Nat.reduceEqDiff,↓reduceIte];done)|assumption|(simp (disch:=omega) only[hg_ne,hg_eq,hgs_ne, *];done)|(simp only [TL,LAWSm];done)|with_unfolding_all rfl) only [unf b44_0.eq_1,c44,d1,TL,Nat.add_assoc,EVS,Nat.reduceAdd,Nat.reduceSub,Int.reduceToNat,Nat.reduceMul,Nat.reduceEqDiff,Nat.reduceLeDiff,Int.reduceEq,Int.reduceLT,Int.reduceLE,↓reduceIte]
  refine Ok_call (ih _ (getD_mem (d:=default) hil) _ _ (by omega) ?_) fun r hr=>?_
  ·simp (disch:=omega) only [hg_ne];rw [q3 mid hmid];exact h0m
  obtain ⟨v,h',nx'⟩:=r
  obtain ⟨rfl,e1,e2⟩:=hr
  dsimp only at e1 e2
  refine ⟨rfl,?_⟩
  have f1:=(e2 (b0 + 8) (by omega)).trans ((by simp (disch:=omega) only [hg_ne]:_=hget h (b0 + 8)).trans q2)
  have f0:=(e2 b0 (by omega)).trans ((by simp (disch:=omega) only [hg_ne]:_=hget h b0).trans q1)
  have hi3:i < cs.length:=by omega
  have ei:(i:Int) + 1=((i + 1:Nat):Int):=by omega
  have hsp:List.take (i * 1) cs ++ [FV.int .u64 (vM (rhoU E) m (t.l.getD i default):Nat)] ++ List.drop (i * 1 + 1) cs=cs.set i (.int .u64 (vM (rhoU E) m (t.l.getD i default):Nat)):=by
   rw [Nat.mul_one,List.set_eq_take_append_cons_drop,if_pos hi3];simp
  simp (disch:=first|omega|(simp only[EVL]<;>omega)|(simp only[hget_c,Nat.reduceEqDiff,↓reduceIte];done)|assumption|(simp (disch:=omega) only[hg_ne,hg_eq,hgs_ne, *];done)|(simp only [TL,LAWSm];done)|with_unfolding_all rfl) only [c44,TL,f1,hc,hsp,ei,EVS,Nat.reduceAdd,Nat.reduceSub,Int.reduceToNat,Nat.reduceMul,Nat.reduceEqDiff,Nat.reduceLeDiff,Int.reduceEq,Int.reduceLT,Int.reduceLE,↓reduceIte]
  refine Ok_inL0 (ihk (i + 1) _ _ (cs.set i (.int .u64 (vM (rhoU E) m (t.l.getD i default):Nat))) (by omega) (by rw [List.length_set];exact hc) (fun j hj=>?_) (fun v hv'=>?_) (by omega) ?_ (hgs_eq f1) (fun j hj=>?_))
  ·by_cases hji:j=i
   ·subst hji;rw [List.getElem?_set_self hi3]
   ·rw [List.getElem?_set_ne (by omega)];exact hv j (by omega)
  ·rcases (List.mem_or_eq_of_mem_set hv').symm with rfl | h
   ·rfl
   ·exact ho v h
  ·rw [hgs_ne (by omega)];exact f0
  ·rw [hgs_ne (by omega),e2 j (by omega)]
   exact (by simp (disch:=omega) only [hg_ne]:_=hget h j).trans (q3 j hj)
theorem value_spec (E:EnvU) (mid:Nat) (e:Bool) (m:Mem) (hm:okM m) (hms:memS m) (t:Te) (hn:nodesOk t) (ht:TOk t) (hρ:boundR (rhoU E) t):∀ h nx,mid < nx→hget h mid=some (.mp (E.map kvU)) →
  ∃ r,lim T 44 [.agg [.int .u8 (t).k,.int .i64 (t).w,.int .u64 (t).b,.str (t).s,.int .i64 (t).lo,.lst (t).e ((t).l.map tV)],.map mid,.lst e (m.map ceV)] h nx=some r∧VR h nx (vM (rhoU E) m t) r:=by
 induction t using Tm'.ind with
 |h t ih =>
 intro h nx hmid hget0
 have hself:=(nodesOk_iff t).1 hn
 have hb:=ht.self.2.2.1
 have hval:=valT_eq (rhoU E) (ldN m) t
 have hk24:1 ≤ t.k∧t.k ≤ 24:=by
  rcases Int.lt_or_le t.k 1 with h | h
  ·exact absurd hself.1 (node_no (.inl h))
  ·rcases Int.lt_or_le 24 t.k with h' | h'
   ·exact absurd hself.1 (node_no (.inr h'))
   ·exact ⟨h,h'⟩
 refine shr_ex tg44 rfl rfl ?_
 by_cases k1:t.k=1
 ·have hv:vM (rhoU E) m t=t.b.toNat:=by unfold vM;rw [hval,vop,if_pos k1]
  rw [hv]
  simp (disch:=first|omega|(simp only[EVL]<;>omega)|(simp only[hget_c,Nat.reduceEqDiff,↓reduceIte];done)|assumption|(simp (disch:=omega) only[hg_ne,hg_eq,hgs_ne, *];done)|(simp only [TL,LAWSm];done)|with_unfolding_all rfl) only [c44,k1,TL,EVS,Nat.reduceAdd,Nat.reduceSub,Int.reduceToNat,Nat.reduceMul,Nat.reduceEqDiff,Nat.reduceLeDiff,Int.reduceEq,Int.reduceLT,Int.reduceLE,↓reduceIte]
  exact ⟨by show FV.int .u64 t.b=.int .u64 ((t.b.toNat:Nat):Int);rw [Int.toNat_of_nonneg hb.1],by dsimp only;omega,fun i hi=>hg_ne (by omega)⟩
 by_cases k2:t.k=2
 ·have hv:vM (rhoU E) m t=rhoU E t.s:=by unfold vM;rw [hval,vop,if_neg k1,if_pos k2]
  rw [hv]
  have hf:=find_U t.s E
  unfold rhoU
  cases hlk:lkU E t.s with
  |none =>
   rw [hlk] at hf
   simp only [Option.map_none] at hf
   simp (disch:=first|omega|(simp only[EVL]<;>omega)|(simp only[hget_c,Nat.reduceEqDiff,↓reduceIte];done)|assumption|(simp (disch:=omega) only[hg_ne,hg_eq,hgs_ne, *];done)|(simp only [TL,LAWSm];done)|with_unfolding_all rfl) only [c44,k2,TL,hget0,hf,EVS,Nat.reduceAdd,Nat.reduceSub,Int.reduceToNat,Nat.reduceMul,Nat.reduceEqDiff,Nat.reduceLeDiff,Int.reduceEq,Int.reduceLT,Int.reduceLE,↓reduceIte]
   exact ⟨rfl,by dsimp only;omega,fun i hi=>hg_ne (by omega)⟩
  |some w =>
   rw [hlk] at hf
   simp only [Option.map_some] at hf
   simp (disch:=first|omega|(simp only[EVL]<;>omega)|(simp only[hget_c,Nat.reduceEqDiff,↓reduceIte];done)|assumption|(simp (disch:=omega) only[hg_ne,hg_eq,hgs_ne, *];done)|(simp only [TL,LAWSm];done)|with_unfolding_all rfl) only [c44,k2,TL,hget0,hf,EVS,Nat.reduceAdd,Nat.reduceSub,Int.reduceToNat,Nat.reduceMul,Nat.reduceEqDiff,Nat.reduceLeDiff,Int.reduceEq,Int.reduceLT,Int.reduceLE,↓reduceIte]
   exact ⟨rfl,by dsimp only;omega,fun i hi=>hg_ne (by omega)⟩
 have hp:t.l.length ≤ 3:=by
  have h2:=hself.1.2
  rw [if_pos (by omega)] at h2
  have:=h2.2.2.2.1
  unfold partsS at this
  (repeat' split at this)<;>omega
 have d1:decide (t.k=1)=false:=decide_eq_false k1
 have d2:decide (t.k=2)=false:=decide_eq_false k2
 have ih':∀ x ∈ t.l,∀ h nx,mid < nx→hget h mid=some (.mp (E.map kvU))→∃ r,lim T 44 [.agg [.int .u8 (x).k,.int .i64 (x).w,.int .u64 (x).b,.str (x).s,.int .i64 (x).lo,.lst (x).e ((x).l.map tV)],.map mid,.lst e (m.map ceV)] h nx=some r∧VR h nx (vM (rhoU E) m x) r:=fun x hx=>ih x hx (hself.2 x hx) (ht.sub hx) (fun y hy=>hρ y (nodes_sub hx hy))
 simp (disch:=first|omega|(simp only[EVL]<;>omega)|(simp only[hget_c,Nat.reduceEqDiff,↓reduceIte];done)|assumption|(simp (disch:=omega) only[hg_ne,hg_eq,hgs_ne, *];done)|(simp only [TL,LAWSm];done)|with_unfolding_all rfl) only [c44,d1,d2,TL,Nat.add_assoc,EVS,Nat.reduceAdd,Nat.reduceSub,Int.reduceToNat,Nat.reduceMul,Nat.reduceEqDiff,Nat.reduceLeDiff,Int.reduceEq,Int.reduceLT,Int.reduceLE,↓reduceIte]
 refine value_loop E mid e m t hp nx hmid h hget0 ih' _ (fun h' nx' cs x hc hv hnx q1 q2 q3=>?_) t.l.length 0 _ _ [.int .u64 0,.int .u64 0,.int .u64 0] (by omega) rfl (fun j hj=>by omega) (by simp [FV.one]) (by omega) ?_ ?_ (fun j hj=>by simp (disch:=omega) only [hg_ne])
 ·have hsub:∀ i,i < t.l.length→vM (rhoU E) m (t.l.getD i default) < 2 ^ (t.l.getD i default).w.toNat∧1 ≤ (t.l.getD i default).w∧(t.l.getD i default).w ≤ 64:=fun i hi=>by
   have hmem:=getD_mem (d:=(default:Te)) hi
   exact ⟨val_lt hm _ (hself.2 _ hmem) (ht.sub hmem) (fun x hx=>hρ x (nodes_sub hmem hx)),(hself.2 _ hmem _ (mem_nodes _)).1⟩
  have hw:=(hself.1).1
  have fin:∀ nx'',nx' ≤ nx''→Ext h h' nx nx'':=fun nx'' h2=>⟨by omega,fun i hi=>q3 i hi⟩
  have hvm:vM (rhoU E) m t=vop (ldN m) t.k t.w t.b t.lo (rhoU E t.s) (t.l.map Tm'.w) (t.l.map (vM (rhoU E) m)):=hval
  have fin2:∀ (X:Nat) (nx'':Nat),vM (rhoU E) m t=X→nx' ≤ nx''→VR h nx (vM (rhoU E) m t) (.int .u64 X,h',nx''):=fun X nx'' e1 h2=>⟨by rw [e1],fin nx'' h2⟩
  have z0:∀ i,i < t.l.length→(((t.l.getD i default).w.toNat:Nat):Int)=(t.l.getD i default).w:=fun i hi=>Int.toNat_of_nonneg (by have:=hsub i hi;omega)
  have zw:((t.w.toNat:Nat):Int)=t.w:=Int.toNat_of_nonneg (by unfold wideS at hw;omega)
  by_cases k3:t.k=3 ∨ t.k=4
  ·obtain ⟨_,_,_,_,hl,hs⟩:=(node_k34 k3).1 hself.1
   have w0:=hsub 0 (by omega)
   have c0:cellsAt cs none 0=_:=hv 0 (by omega)
   have hu:=unary_spec t.k (t.l.getD 0 default).w.toNat _ k3 (by omega) (by omega) w0.1
   rw [z0 0 (by omega)] at hu
   have hx:=hvm
   rw [vop,if_neg k1,if_neg k2,if_pos k3,mp0 (by omega),mpw (by omega)] at hx
   rcases k3 with k3 | k3
   ·rw [k3] at hu hx
    simp (disch:=first|omega|(simp only[EVL]<;>omega)|(simp only[hget_c,Nat.reduceEqDiff,↓reduceIte];done)|assumption|(simp (disch:=omega) only[hg_ne,hg_eq,hgs_ne, *];done)|(simp only [TL,LAWSm];done)|with_unfolding_all rfl) only [unf k44_1.eq_1,c44,TL,k3,q1,q2,c0,hu,EVS,Nat.reduceAdd,Nat.reduceSub,Int.reduceToNat,Nat.reduceMul,Nat.reduceEqDiff,Nat.reduceLeDiff,Int.reduceEq,Int.reduceLT,Int.reduceLE,↓reduceIte]
    refine fin2 _ _ hx ?_
    first | omega | (dsimp only;omega)
   ·rw [k3] at hu hx
    simp (disch:=first|omega|(simp only[EVL]<;>omega)|(simp only[hget_c,Nat.reduceEqDiff,↓reduceIte];done)|assumption|(simp (disch:=omega) only[hg_ne,hg_eq,hgs_ne, *];done)|(simp only [TL,LAWSm];done)|with_unfolding_all rfl) only [unf k44_1.eq_1,c44,TL,k3,q1,q2,c0,hu,EVS,Nat.reduceAdd,Nat.reduceSub,Int.reduceToNat,Nat.reduceMul,Nat.reduceEqDiff,Nat.reduceLeDiff,Int.reduceEq,Int.reduceLT,Int.reduceLE,↓reduceIte]
    refine fin2 _ _ hx ?_
    first | omega | (dsimp only;omega)
  by_cases k19:t.k=19
  ·obtain ⟨_,_,_,_,hl,hs,_,_⟩:=(node_k19 k19).1 hself.1
   have w0:=hsub 0 (by omega)
   have c0:cellsAt cs none 0=_:=hv 0 (by omega)
   have c1:cellsAt cs none 1=_:=hv 1 (by omega)
   have c2:cellsAt cs none 2=_:=hv 2 (by omega)
   have hx:=hvm
   rw [vop,if_neg k1,if_neg k2,if_neg k3,if_pos k19,mp0 (by omega),mp0 (by omega),mp0 (by omega)] at hx
   have ta:((2:Int) - ((0:Nat):Int)).toNat * 1=2:=rfl
   have tb:((2:Int) - ((1:Nat):Int)).toNat * 1=1:=rfl
   unfold subW at hs
   rw [hs] at w0
   have h01:vM (rhoU E) m (t.l.getD 0 default) < 2:=w0.1
   rcases (by omega:vM (rhoU E) m (t.l.getD 0 default)=0 ∨ vM (rhoU E) m (t.l.getD 0 default)=1) with e0 | e0
   ·rw [e0] at c0 hx
    rw [if_neg (by omega)] at hx
    simp (disch:=first|omega|(simp only[EVL]<;>omega)|(simp only[hget_c,Nat.reduceEqDiff,↓reduceIte];done)|assumption|(simp (disch:=omega) only[hg_ne,hg_eq,hgs_ne, *];done)|(simp only [TL,LAWSm];done)|with_unfolding_all rfl) only [unf k44_1.eq_1,c44,TL,k19,q1,q2,c0,c2,ta,EVS,Nat.reduceAdd,Nat.reduceSub,Int.reduceToNat,Nat.reduceMul,Nat.reduceEqDiff,Nat.reduceLeDiff,Int.reduceEq,Int.reduceLT,Int.reduceLE,↓reduceIte]
    refine fin2 _ _ hx ?_
    first | omega | (dsimp only;omega)
   ·rw [e0] at c0 hx
    rw [if_pos rfl] at hx
    simp (disch:=first|omega|(simp only[EVL]<;>omega)|(simp only[hget_c,Nat.reduceEqDiff,↓reduceIte];done)|assumption|(simp (disch:=omega) only[hg_ne,hg_eq,hgs_ne, *];done)|(simp only [TL,LAWSm];done)|with_unfolding_all rfl) only [unf k44_1.eq_1,c44,TL,k19,q1,q2,c0,c1,tb,EVS,Nat.reduceAdd,Nat.reduceSub,Int.reduceToNat,Nat.reduceMul,Nat.reduceEqDiff,Nat.reduceLeDiff,Int.reduceEq,Int.reduceLT,Int.reduceLE,↓reduceIte]
    refine fin2 _ _ hx ?_
    first | omega | (dsimp only;omega)
  by_cases k20:t.k=20
  ·obtain ⟨_,_,_,_,hl,hw0,hw1,hs⟩:=(node_k20 k20).1 hself.1
   have w0:=hsub 0 (by omega)
   have w1:=hsub 1 (by omega)
   have c0:cellsAt cs none 0=_:=hv 0 (by omega)
   have c1:cellsAt cs none 1=_:=hv 1 (by omega)
   unfold wideS at hw
   unfold subW at hs
   have hu:=concat_spec (t.l.getD 0 default).w.toNat _ (t.l.getD 1 default).w.toNat _ (by omega) (by omega) (by omega) w0.1 w1.1
   rw [z0 0 (by omega),z0 1 (by omega)] at hu
   have hx:=hvm
   rw [vop,if_neg k1,if_neg k2,if_neg k3,if_neg k19,if_pos k20,mp0 (by omega),mp0 (by omega),mpw (by omega)] at hx
   simp (disch:=first|omega|(simp only[EVL]<;>omega)|(simp only[hget_c,Nat.reduceEqDiff,↓reduceIte];done)|assumption|(simp (disch:=omega) only[hg_ne,hg_eq,hgs_ne, *];done)|(simp only [TL,LAWSm];done)|with_unfolding_all rfl) only [unf k44_1.eq_1,c44,TL,k20,q1,q2,c0,c1,hu,EVS,Nat.reduceAdd,Nat.reduceSub,Int.reduceToNat,Nat.reduceMul,Nat.reduceEqDiff,Nat.reduceLeDiff,Int.reduceEq,Int.reduceLT,Int.reduceLE,↓reduceIte]
   refine fin2 _ _ hx ?_
   first | omega | (dsimp only;omega)
  by_cases k21:t.k=21
  ·obtain ⟨_,_,_,_,hl,hlo,hw0,_,hs⟩:=(node_k21 k21).1 hself.1
   have w0:=hsub 0 (by omega)
   have c0:cellsAt cs none 0=_:=hv 0 (by omega)
   unfold wideS at hw
   unfold subW at hs
   have zl:((t.lo.toNat:Nat):Int)=t.lo:=Int.toNat_of_nonneg hlo
   have hu:=extract_spec (t.l.getD 0 default).w.toNat _ t.lo.toNat t.w.toNat (by omega) (by omega) w0.1 (by omega) (by omega)
   rw [z0 0 (by omega),zl,zw] at hu
   have hx:=hvm
   rw [vop,if_neg k1,if_neg k2,if_neg k3,if_neg k19,if_neg k20,if_pos k21,mp0 (by omega)] at hx
   simp (disch:=first|omega|(simp only[EVL]<;>omega)|(simp only[hget_c,Nat.reduceEqDiff,↓reduceIte];done)|assumption|(simp (disch:=omega) only[hg_ne,hg_eq,hgs_ne, *];done)|(simp only [TL,LAWSm];done)|with_unfolding_all rfl) only [unf k44_1.eq_1,c44,TL,k21,q1,q2,c0,hu,EVS,Nat.reduceAdd,Nat.reduceSub,Int.reduceToNat,Nat.reduceMul,Nat.reduceEqDiff,Nat.reduceLeDiff,Int.reduceEq,Int.reduceLT,Int.reduceLE,↓reduceIte]
   refine fin2 _ _ hx ?_
   first | omega | (dsimp only;omega)
  by_cases k22:t.k=22 ∨ t.k=23
  ·obtain ⟨_,_,_,_,hl,hs⟩:=(node_k22 k22).1 hself.1
   have w0:=hsub 0 (by omega)
   have c0:cellsAt cs none 0=_:=hv 0 (by omega)
   unfold wideS at hw
   unfold subW at hs
   have hu:=extend_spec (decide (t.k=23)) (t.l.getD 0 default).w.toNat _ t.w.toNat (by omega) (by omega) (by omega) w0.1
   rw [z0 0 (by omega),zw] at hu
   have hx:=hvm
   rw [vop,if_neg k1,if_neg k2,if_neg k3,if_neg k19,if_neg k20,if_neg k21,if_pos k22,mp0 (by omega),mpw (by omega)] at hx
   rcases k22 with k22 | k22
   ·rw [k22] at hu hx
    rw [show decide ((22:Int)=23)=false from rfl] at hu hx
    simp (disch:=first|omega|(simp only[EVL]<;>omega)|(simp only[hget_c,Nat.reduceEqDiff,↓reduceIte];done)|assumption|(simp (disch:=omega) only[hg_ne,hg_eq,hgs_ne, *];done)|(simp only [TL,LAWSm];done)|with_unfolding_all rfl) only [unf k44_1.eq_1,c44,TL,k22,q1,q2,c0,hu,EVS,Nat.reduceAdd,Nat.reduceSub,Int.reduceToNat,Nat.reduceMul,Nat.reduceEqDiff,Nat.reduceLeDiff,Int.reduceEq,Int.reduceLT,Int.reduceLE,↓reduceIte]
    refine fin2 _ _ hx ?_
    first | omega | (dsimp only;omega)
   ·rw [k22] at hu hx
    rw [show decide ((23:Int)=23)=true from rfl] at hu hx
    simp (disch:=first|omega|(simp only[EVL]<;>omega)|(simp only[hget_c,Nat.reduceEqDiff,↓reduceIte];done)|assumption|(simp (disch:=omega) only[hg_ne,hg_eq,hgs_ne, *];done)|(simp only [TL,LAWSm];done)|with_unfolding_all rfl) only [unf k44_1.eq_1,c44,TL,k22,q1,q2,c0,hu,EVS,Nat.reduceAdd,Nat.reduceSub,Int.reduceToNat,Nat.reduceMul,Nat.reduceEqDiff,Nat.reduceLeDiff,Int.reduceEq,Int.reduceLT,Int.reduceLE,↓reduceIte]
    refine fin2 _ _ hx ?_
    first | omega | (dsimp only;omega)
  by_cases k24:t.k=24
  ·obtain ⟨_,_,_,_,hl,hs⟩:=(node_k24 k24).1 hself.1
   have w0:=hsub 0 (by omega)
   have c0:cellsAt cs none 0=_:=hv 0 (by omega)
   unfold wideS at hw
   have h64:2 ^ (t.l.getD 0 default).w.toNat ≤ 2 ^ 64:=Nat.pow_le_pow_right (by decide) (by omega)
   have e64:(2:Nat) ^ 64=18446744073709551616:=rfl
   have hu:=loaded_spec e m (t.l.getD 0 default).w (vM (rhoU E) m (t.l.getD 0 default):Nat) t.w.toNat hms hm (by omega) (by omega) (by omega) (by omega) (by omega)
   rw [zw] at hu
   have hx:=hvm
   rw [vop,if_neg k1,if_neg k2,if_neg k3,if_neg k19,if_neg k20,if_neg k21,if_neg k22,if_pos k24,mp0 (by omega),mpw (by omega),ldN,z0 0 (by omega)] at hx
   simp (disch:=first|omega|(simp only[EVL]<;>omega)|(simp only[hget_c,Nat.reduceEqDiff,↓reduceIte];done)|assumption|(simp (disch:=omega) only[hg_ne,hg_eq,hgs_ne, *];done)|(simp only [TL,LAWSm];done)|with_unfolding_all rfl) only [unf k44_1.eq_1,c44,TL,k24,q1,q2,c0,hu,EVS,Nat.reduceAdd,Nat.reduceSub,Int.reduceToNat,Nat.reduceMul,Nat.reduceEqDiff,Nat.reduceLeDiff,Int.reduceEq,Int.reduceLT,Int.reduceLE,↓reduceIte]
   refine fin2 _ _ hx ?_
   first | omega | (dsimp only;omega)
  have e3:decide (t.k=3)=false:=decide_eq_false (fun e=>k3 (.inl e))
  have e4:decide (t.k=4)=false:=decide_eq_false (fun e=>k3 (.inr e))
  have e19:decide (t.k=19)=false:=decide_eq_false k19
  have e20:decide (t.k=20)=false:=decide_eq_false k20
  have e21:decide (t.k=21)=false:=decide_eq_false k21
  have e22:decide (t.k=22)=false:=decide_eq_false (fun e=>k22 (.inl e))
  have e23:decide (t.k=23)=false:=decide_eq_false (fun e=>k22 (.inr e))
  have e24:decide (t.k=24)=false:=decide_eq_false k24
  have hl2:t.l.length=2∧(t.l.getD 1 default).w=(t.l.getD 0 default).w:=by
   by_cases k5:t.k ≤ 15
   ·obtain ⟨_,_,_,_,hl,hs0,hs1⟩:=(node_k5 ⟨by omega,k5⟩).1 hself.1
    unfold subW at hs0 hs1
    exact ⟨hl,hs1.trans hs0.symm⟩
   ·obtain ⟨_,_,_,_,hl,_,hs1⟩:=(node_k16 (t:=t) (by omega)).1 hself.1
    unfold subW at hs1
    exact ⟨hl,hs1⟩
  have w0:=hsub 0 (by omega)
  have w1:=hsub 1 (by omega)
  have c0:cellsAt cs none 0=_:=hv 0 (by omega)
  have c1:cellsAt cs none 1=_:=hv 1 (by omega)
  rw [hl2.2] at w1
  have hu:=binary_spec t.k (t.l.getD 0 default).w.toNat _ _ (by omega) (by omega) (by omega) (by omega) w0.1 w1.1
  rw [z0 0 (by omega)] at hu
  have hx:=hvm
  rw [vop,if_neg k1,if_neg k2,if_neg k3,if_neg k19,if_neg k20,if_neg k21,if_neg k22,if_neg k24,mp0 (by omega),mp0 (by omega),mpw (by omega)] at hx
  simp (disch:=first|omega|(simp only[EVL]<;>omega)|(simp only[hget_c,Nat.reduceEqDiff,↓reduceIte];done)|assumption|(simp (disch:=omega) only[hg_ne,hg_eq,hgs_ne, *];done)|(simp only [TL,LAWSm];done)|with_unfolding_all rfl) only [unf k44_1.eq_1,c44,TL,e3,e4,e19,e20,e21,e22,e23,e24,q1,q2,c0,c1,hu,EVS,Nat.reduceAdd,Nat.reduceSub,Int.reduceToNat,Nat.reduceMul,Nat.reduceEqDiff,Nat.reduceLeDiff,Int.reduceEq,Int.reduceLT,Int.reduceLE,↓reduceIte]
  refine fin2 _ _ hx ?_
  first | omega | (dsimp only;omega)
 ·simp (disch:=omega) only [hg_ne,hg_eq]
 ·simp (disch:=omega) only [hg_ne,hg_eq]

theorem bound_at {env:Env} (mono:∀ a b,a < b→b < env.length→Op.bytesLess (nm env a) (nm env b)=true) {s:List UInt8} {i:Nat} (lo:∀ k,k < i→Op.bytesLess (nm env k) s=true) (hi:∀ k,i ≤ k→k < env.length→¬ Op.bytesLess (nm env k) s=true) :
  boundS env s=if i < env.length∧(env.getD i ([],0,0)).1=s then some (env.getD i ([],0,0)) else none:=by
 have ne:∀ k,k < i→¬ nm env k=s:=fun k hk e=>by have:=lo k hk;rw [e,less_irr] at this;cases this
 split
 ·rename_i h
  exact find_at env s i h.1 ne h.2
 ·rename_i h
  refine find_no env s fun k hk e=>?_
  by_cases h1:k < i
  ·exact ne k h1 e
  ·by_cases h2:k=i
   ·subst h2;exact h ⟨hk,e⟩
   ·have:=hi i (by omega) (by omega)
    rw [← e] at this
    exact this (mono i k (by omega) hk)
def oneE (env:Env) (p:List UInt8 × Int):Int:=match boundS env p.1 with
 |none=>16
 |some q=>if q.2.1=p.2 then 0 else 14
def firstE (env:Env):Env0→Int
 |[]=>0
 |p::r=>if oneE env p=0 then firstE env r else oneE env p
def rhoE (env:Env) (s:List UInt8):Nat:=match boundS env s with
 |some q=>q.2.2.toNat
 |none=>0
open Classical in
noncomputable def valErr (t:Te) (env:Env) (m:Mem):Int :=
 if checkS t=0 then if chkB env=0 then if chkM m=0 then firstE env (insE [] (varList t)) else 8 else 8 else checkS t
open Classical in
noncomputable def valV (t:Te) (env:Env) (m:Mem):FV:=.tup [.int .u64 (if valErr t env m=0 then vM (rhoE env) m t else 0:Nat),.int .i64 (valErr t env m)]
def upE (env:Env) (p:List UInt8 × Int):List UInt8 × Nat:=(p.1,rhoE env p.1)
theorem lkU_fresh {env:Env} {s:List UInt8}:∀ {L:Env0},(∀ p ∈ L,p.1 ≠ s)→lkU (L.map (upE env)) s=none:=by
 intro L
 induction L with
 |nil=>intro _;rfl
 |cons p L ih =>
  intro h
  simp only [List.map_cons,upE,lkU]
  rw [if_neg (fun e=>h p (by simp) e.symm)]
  exact ih fun q hq=>h q (by simp [hq])
theorem lkU_mem {env:Env} {s:List UInt8}:∀ {L:Env0},(∃ p ∈ L,p.1=s)→lkU (L.map (upE env)) s=some (rhoE env s):=by
 intro L
 induction L with
 |nil=>rintro ⟨p,hp,_⟩;cases hp
 |cons p L ih =>
  rintro ⟨q,hq,rfl⟩
  simp only [List.map_cons,upE,lkU]
  by_cases e:q.1=p.1
  ·rw [if_pos e,e]
  ·rw [if_neg e]
   rcases List.mem_cons.1 hq with rfl | hq
   ·exact absurd rfl e
   ·exact ih ⟨q,hq,rfl⟩
theorem firstE_all {env:Env}:∀ {L:Env0},(∀ p ∈ L,oneE env p=0)→firstE env L=0:=by
 intro L
 induction L with
 |nil=>intro _;rfl
 |cons p L ih =>
  intro h
  simp only [firstE]
  rw [if_pos (h p (by simp))]
  exact ih fun q hq=>h q (by simp [hq])
theorem firstE_zero {env:Env}:∀ {L:Env0},firstE env L=0→∀ p ∈ L,oneE env p=0:=by
 intro L
 induction L with
 |nil=>intro _ p hp;cases hp
 |cons q L ih =>
  intro h p hp
  simp only [firstE] at h
  by_cases hq:oneE env q=0
  ·rw [if_pos hq] at h
   rcases List.mem_cons.1 hp with rfl | hp
   ·exact hq
   ·exact ih h p hp
  ·rw [if_neg hq] at h;exact absurd h hq
theorem firstE_at {env:Env} {p:List UInt8 × Int} {R:Env0} (hp:oneE env p ≠ 0):∀ {L:Env0},(∀ q ∈ L,oneE env q=0)→firstE env (L ++ p::R)=oneE env p:=by
 intro L
 induction L with
 |nil=>intro _;simp only [List.nil_append,firstE];rw [if_neg hp]
 |cons q L ih =>
  intro h
  simp only [List.cons_append,firstE]
  rw [if_pos (h q (by simp))]
  exact ih fun r hr=>h r (by simp [hr])
theorem SL_name {L:Env0} (h:SL L) {i:Nat} (hi:i < L.length):∀ p ∈ L.take i,p.1 ≠ (L.getD i ([],0)).1:=by
 intro p hp e
 obtain ⟨j,hj,rfl⟩:=List.mem_iff_getElem.1 hp
 rw [List.length_take] at hj
 have:=List.pairwise_iff_getElem.1 h j i (by omega) hi (by omega)
 rw [List.getElem_take] at e
 have e2:L.getD i ([],0)=L[i]:=by simp [List.getD,hi]
 rw [e,e2,less_irr] at this
 cases this
theorem take_succ' {L:Env0} {i:Nat} (h:i < L.length):L.take (i + 1)=L.take i ++ [L.getD i ([],0)]:=by
 rw [List.take_add_one];simp [List.getD,h]
theorem drop_getD' {L:Env0} {i:Nat} (h:i < L.length):L.drop i=L.getD i ([],0)::L.drop (i + 1):=by
 rw [List.drop_eq_getElem_cons h];simp [List.getD,h]
theorem lo_u (b:Nat) (E:EnvU):((E.map kvU).all fun e=>low b e.1 && low b e.2)=true:=by
 rw [List.all_eq_true];intro x hx;obtain ⟨p,_,rfl⟩:=List.mem_map.1 hx;rfl
abbrev VQ (t:Te) (env:Env) (m:Mem) (L:Env0):Post Out:=⟨fun x=>finV c11.res x=some (.tup [.int .u64 (if firstE env L=0 then vM (rhoE env) m t else 0:Nat),.int .i64 (firstE env L)])⟩
theorem bound_bd {env:Env} (hx:∀ p ∈ env,0 ≤ p.2.2∧p.2.2 ≤ 18446744073709551615) {s:List UInt8} {q:List UInt8 × Int × Int} (h:boundS env s=some q):q ∈ env∧q.1=s∧0 ≤ q.2.2:=by
 have hm:=List.mem_of_find?_eq_some h
 have hp:=List.find?_some h
 exact ⟨hm,by simpa using hp,(hx q hm).1⟩
theorem valF_loop (e d:Bool) (env:Env) (m:Mem) (hm:okM m) (hms:memS m) (hl:env.length ≤ 1000) (hx:∀ p ∈ env,0 ≤ p.2.2∧p.2.2 ≤ 18446744073709551615) (hg:∀ i,i < env.length→goodB env i) (t:Te) (hn:nodesOk t) (ht:TOk t) (hs:size t ≤ 1000000) (L:Env0) (hL:SL L) (hLt:∀ p,p ∈ L ↔ p ∈ varList t) (hll:L.length ≤ 1000) :
  ∀ (k i:Nat),i + k=L.length→(∀ p ∈ L.take i,oneE env p=0) →
  @Ok Out (runs T [.code b11_0,.inL (some 27) b11_0,.inB 0,.code k11_1] [(1,.lst e (env.map bdV)),(2,.lst d (m.map ceV)),(3,.ptr 0 1 0 0),(12,.map 22),(36,.lst false (L.map bd0)),(37,.int .i64 L.length),(38,.int .i64 i)] [(22,.mp (((L.take i).map (upE env)).map kvU)),(0,.row 6 [.agg [.int .u8 (t).k,.int .i64 (t).w,.int .u64 (t).b,.str (t).s,.int .i64 (t).lo,.lst (t).e ((t).l.map tV)]])] 27) (VQ t env m L):=by
 have mono:=mono_of hg
 intro k
 induction k with
 |zero =>
  intro i hi hz
  have d1:decide ((i:Int) < L.length)=false:=by simp;omega
  rw [List.take_of_length_le (by omega)] at hz ⊢
  have hE:∀ x ∈ nodesT t,x.k=2→rhoU (L.map (upE env)) x.s=rhoE env x.s:=fun x hx hk=>by
   unfold rhoU
   rw [lkU_mem ⟨(x.s,x.w),(hLt _).2 ?_,rfl⟩];rfl
   have:∀ xs:List Te,x ∈ xs→(x.s,x.w) ∈ varL xs:=by
    intro xs
    induction xs with
    |nil=>intro h;cases h
    |cons y ys ih =>
     intro h
     simp only [varL]
     rcases List.mem_cons.1 h with rfl | h
     ·rw [if_pos hk];simp
     ·split
      ·exact List.mem_cons_of_mem _ (ih h)
      ·exact ih h
   exact this _ hx
  have hvar:∀ x ∈ nodesT t,x.k=2→(x.s,x.w) ∈ L:=fun x hx hk=>by
   refine (hLt _).2 ?_
   have:∀ xs:List Te,x ∈ xs→(x.s,x.w) ∈ varL xs:=by
    intro xs
    induction xs with
    |nil=>intro h;cases h
    |cons y ys ih =>
     intro h
     simp only [varL]
     rcases List.mem_cons.1 h with rfl | h
     ·rw [if_pos hk];simp
     ·split
      ·exact List.mem_cons_of_mem _ (ih h)
      ·exact ih h
   exact this _ hx
  have hb:boundR (rhoU (L.map (upE env))) t:=fun x hxn hk=>by
   rw [hE x hxn hk]
   have h1:=hz _ (hvar x hxn hk)
   unfold oneE at h1
   unfold rhoE
   cases hq:boundS env x.s with
   |none=>rw [hq] at h1;cases h1
   |some q =>
    rw [hq] at h1
    simp only at h1 ⊢
    split at h1
    ·rename_i hw
     obtain ⟨q1,q2,q3⟩:=bound_bd hx hq
     obtain ⟨j,hj,rfl⟩:=List.mem_iff_getElem.1 q1
     have hgj:=(hg j hj).2.1
     have ej:env.getD j ([],0,0)=env[j]:=by simp [List.getD,hj]
     rw [ej,hw] at hgj
     exact okS_nat hgj q3
    ·cases h1
  have hv:=fun nx (hnx:22 < nx)=>value_spec (L.map (upE env)) 22 d m hm hms t hn ht hb [(22,.mp ((L.map (upE env)).map kvU)),(0,.row 6 [.agg [.int .u8 (t).k,.int .i64 (t).w,.int .u64 (t).b,.str (t).s,.int .i64 (t).lo,.lst (t).e ((t).l.map tV)]])] nx hnx rfl
  have hcg:vM (rhoU (L.map (upE env))) m t=vM (rhoE env) m t:=valT_congr t hE
  rw [hcg] at hv
  have hf:=firstE_all hz
  simp (disch:=first|omega|(simp only[EVL]<;>omega)|(simp only[hget_c,Nat.reduceEqDiff,↓reduceIte];done)|assumption|(simp (disch:=omega) only[hg_ne,hg_eq,hgs_ne, *];done)|(simp only [TL,LAWSm,EnL,LAWSb];done)|with_unfolding_all rfl) only [unf b11_0.eq_1,unf k11_1.eq_1,c11,d1,TL,EVS,Nat.reduceAdd,Nat.reduceSub,Int.reduceToNat,Nat.reduceMul,Nat.reduceEqDiff,Nat.reduceLeDiff,Int.reduceEq,Int.reduceLT,Int.reduceLE,↓reduceIte]
  refine Ok_call (hv _ (by omega)) fun r hr=>?_
  obtain ⟨v,h',nx'⟩:=r
  obtain ⟨rfl,e1,e2⟩:=hr
  refine ⟨rfl,?_⟩
  simp (disch:=first|omega|(simp only[EVL]<;>omega)|(simp only[hget_c,Nat.reduceEqDiff,↓reduceIte];done)|assumption|(simp (disch:=omega) only[hg_ne,hg_eq,hgs_ne, *];done)|(simp only [TL,LAWSm,EnL,LAWSb];done)|with_unfolding_all rfl) only [c11,EVS,Nat.reduceAdd,Nat.reduceSub,Int.reduceToNat,Nat.reduceMul,Nat.reduceEqDiff,Nat.reduceLeDiff,Int.reduceEq,Int.reduceLT,Int.reduceLE,↓reduceIte]
  rw [hf,if_pos rfl]
 |succ k ih =>
  intro i hi hz
  have hil:i < L.length:=by omega
  have d1:decide ((i:Int) < L.length)=true:=by simp;omega
  have ei:(i:Int) + 1=((i + 1:Nat):Int):=by omega
  obtain ⟨r,⟨j,hj,lo,hi',rfl⟩,hr⟩:=search_spec e env (L.getD i ([],0)).1 (by omega) mono
  have hbd:=bound_at mono lo hi'
  have hfat:oneE env (L.getD i ([],0)) ≠ 0→firstE env L=oneE env (L.getD i ([],0)):=fun hne=>by
   have hLd:L=L.take i ++ L.getD i ([],0)::L.drop (i + 1):=by
    rw [← drop_getD' hil];exact (List.take_append_drop i L).symm
   rw [hLd,firstE_at hne hz,← hLd]
  by_cases hc:j < env.length∧(env.getD j ([],0,0)).1=(L.getD i ([],0)).1
  ·rw [if_pos hc] at hbd
   have hjl:=hc.1
   by_cases hw:(env.getD j ([],0,0)).2.1=(L.getD i ([],0)).2
   ·have ho:oneE env (L.getD i ([],0))=0:=by unfold oneE;rw [hbd];exact if_pos hw
    have hru:rhoE env (L.getD i ([],0)).1=(env.getD j ([],0,0)).2.2.toNat:=by unfold rhoE;rw [hbd]
    have hx0:=(hx _ (getD_mem (d:=([],0,0)) hjl)).1
    have hu:=upd_U (L.getD i ([],0)).1 (rhoE env (L.getD i ([],0)).1) ((L.take i).map (upE env)) (lkU_fresh (SL_name hL hil))
    rw [hru,Int.toNat_of_nonneg hx0] at hu
    simp (disch:=first|omega|(simp only[EVL]<;>omega)|(simp only[hget_c,Nat.reduceEqDiff,↓reduceIte];done)|assumption|(simp (disch:=omega) only[hg_ne,hg_eq,hgs_ne, *];done)|(simp only [TL,LAWSm,EnL,LAWSb];done)|with_unfolding_all rfl) only [unf b11_0.eq_1,c11,d1,ei,LAWSb,EnL,hr,hc,hw,hu,decide_true,EVS,Nat.reduceAdd,Nat.reduceSub,Int.reduceToNat,Nat.reduceMul,Nat.reduceEqDiff,Nat.reduceLeDiff,Int.reduceEq,Int.reduceLT,Int.reduceLE,↓reduceIte]
    have hE:(L.take i).map (upE env) ++ [((L.getD i ([],0)).1,(env.getD j ([],0,0)).2.2.toNat)]=(L.take (i + 1)).map (upE env):=by
     rw [take_succ' hil,List.map_append];simp only [upE,List.map_cons,List.map_nil,hru]
    rw [hE]
    have hlo:lows 27 (env.map bdV)=true:=lo_e 27 env
    have hlm:lows 27 (m.map ceV)=true:=lo_m 27 m
    have hlb:lows 27 (L.map bd0)=true:=lo_b0 27 L
    have hlt:lows 27 (t.l.map tV)=true:=lo_Ts 27 t.l
    have hlu:=lo_u 27 ((L.take (i + 1)).map (upE env))
    refine Ok_inL (by decide) (by simp [lowTm,low,hlo,hlm,hlb]) (by show (((((L.take (i + 1)).map (upE env)).map kvU).all fun e=>low 27 e.1 && low 27 e.2) && (lows 27 [.agg [.int .u8 (t).k,.int .i64 (t).w,.int .u64 (t).b,.str (t).s,.int .i64 (t).lo,.lst (t).e ((t).l.map tV)]] && true))=true;rw [hlu];simp [lows,low,hlt]) (ih (i + 1) (by omega) (fun p hp=>?_))
    rw [take_succ' hil,List.mem_append,List.mem_singleton] at hp
    rcases hp with hp | rfl
    ·exact hz p hp
    ·exact ho
   ·have ho:oneE env (L.getD i ([],0))=14:=by unfold oneE;rw [hbd];exact if_neg hw
    have hf:firstE env L=14:=by rw [hfat (by rw [ho];decide),ho]
    have hd:decide ((env.getD j ([],0,0)).2.1=(L.getD i ([],0)).2)=false:=decide_eq_false hw
    simp (disch:=first|omega|(simp only[EVL]<;>omega)|(simp only[hget_c,Nat.reduceEqDiff,↓reduceIte];done)|assumption|(simp (disch:=omega) only[hg_ne,hg_eq,hgs_ne, *];done)|(simp only [TL,LAWSm,EnL,LAWSb];done)|with_unfolding_all rfl) only [unf b11_0.eq_1,c11,d1,ei,LAWSb,EnL,hr,hc,hd,decide_true,EVS,Nat.reduceAdd,Nat.reduceSub,Int.reduceToNat,Nat.reduceMul,Nat.reduceEqDiff,Nat.reduceLeDiff,Int.reduceEq,Int.reduceLT,Int.reduceLE,↓reduceIte]
    rw [hf];rfl
  ·rw [if_neg hc] at hbd
   have ho:oneE env (L.getD i ([],0))=16:=by unfold oneE;rw [hbd]
   have hf:firstE env L=16:=by rw [hfat (by rw [ho];decide),ho]
   simp (disch:=first|omega|(simp only[EVL]<;>omega)|(simp only[hget_c,Nat.reduceEqDiff,↓reduceIte];done)|assumption|(simp (disch:=omega) only[hg_ne,hg_eq,hgs_ne, *];done)|(simp only [TL,LAWSm,EnL,LAWSb];done)|with_unfolding_all rfl) only [unf b11_0.eq_1,c11,d1,ei,LAWSb,EnL,hr,hc,decide_false,EVS,Nat.reduceAdd,Nat.reduceSub,Int.reduceToNat,Nat.reduceMul,Nat.reduceEqDiff,Nat.reduceLeDiff,Int.reduceEq,Int.reduceLT,Int.reduceLE,↓reduceIte]
   rw [hf];rfl
theorem check_size' {t:Te} (h:checkS t=0):size t ≤ 400:=by
 unfold checkS at h
 split at h
 ·cases h
 ·omega
theorem nodes_of_check {t:Te} (h:checkS t=0):nodesOk t∧∃ en,varsE t=.inl en:=by
 unfold checkS at h
 split at h
 ·cases h
 ·split at h
  ·split at h
   ·rename_i hn _ en he;exact ⟨hn,en,he⟩
   ·cases h
  ·cases h
theorem insE_len (t:Te):(insE [] (varList t)).length ≤ size t:=by
 have h2:∀ (L out:Env0),(insE out L).length ≤ out.length + L.length:=by
  intro L
  induction L with
  |nil=>intro out;exact Nat.le_refl _
  |cons p L ih=>intro out;have:=ih (stepE out p);have:=stepE_len out p;simp only [insE,List.length_cons];omega
 have h3:=h2 (varList t) []
 have h4:(varList t).length ≤ size t:=by have:=varL_len (nodesT t);rw [nodesT_len] at this;exact this
 simp only [List.length_nil] at h3
 omega
theorem memS_of {m:Mem} (h:chkM m=0):memS m:=by
 unfold chkM at h
 split at h
 ·assumption
 ·cases h
theorem valueF_spec (e d:Bool) (t:Te) (ht:TOk t) (hs:size t ≤ 1000000) (hk:KOk t) (env:Env) (hl:env.length ≤ 1100) (hx:∀ p ∈ env,0 ≤ p.2.2∧p.2.2 ≤ 18446744073709551615) (m:Mem) (hm:okM m) (h0:m.length ≤ 9223372036854775807) (h:Heap) (nx:Nat):isfR T c11 [.agg [.int .u8 (t).k,.int .i64 (t).w,.int .u64 (t).b,.str (t).s,.int .i64 (t).lo,.lst (t).e ((t).l.map tV)],.lst e (env.map bdV),.lst d (m.map ceV)] h nx=some (valV t env m,h,nx):=by
 have c1:=vars_spec t hs hk
 have c2:=checkB_spec e env hl
 have c3:=checkCells_spec d m h0
 refine isfR_of rfl ?_
 unfold valV valErr
 by_cases k1:checkS t=0
 ·rw [if_pos k1]
  have hv:varsV false t=.tup [.lst false ((insE [] (varList t)).map bd0),.int .i64 0]:=if_pos k1
  rw [hv] at c1
  by_cases k2:chkB env=0
  ·rw [if_pos k2]
   by_cases k3:chkM m=0
   ·rw [if_pos k3]
    obtain ⟨hn,en,he⟩:=nodes_of_check k1
    obtain ⟨hl2,hg⟩:=chkB_good k2
    obtain ⟨q1,q2⟩:=insE_spec (varList t) [] [] List.Pairwise.nil (fun _=>Iff.rfl) (by simpa using (varsE_in he).1)
    have hsz:=check_size' k1
    have hil:=insE_len t
    simp (disch:=first|omega|(simp only[EVL]<;>omega)|(simp only[hget_c,Nat.reduceEqDiff,↓reduceIte];done)|assumption|(simp (disch:=omega) only[hg_ne,hg_eq,hgs_ne, *];done)|(simp only [TL,LAWSm,EnL,LAWSb];done)|with_unfolding_all rfl) only [c11,TL,c1,c2,c3,k2,k3,EVS,Nat.reduceAdd,Nat.reduceSub,Int.reduceToNat,Nat.reduceMul,Nat.reduceEqDiff,Nat.reduceLeDiff,Int.reduceEq,Int.reduceLT,Int.reduceLE,↓reduceIte]
    exact valF_loop e d env m hm (memS_of k3) hl2 hx hg t hn ht hs _ q1 (fun p=>by rw [q2];simp) (by omega) (insE [] (varList t)).length 0 (by omega) (fun p hp=>by simp at hp)
   ·rw [if_neg k3]
    have k3':chkM m=8:=by
     unfold chkM at k3 ⊢
     split at k3
     ·exact absurd rfl k3
     ·rename_i hh;rw [if_neg hh]
    simp (disch:=first|omega|(simp only[EVL]<;>omega)|(simp only[hget_c,Nat.reduceEqDiff,↓reduceIte];done)|assumption|(simp (disch:=omega) only[hg_ne,hg_eq,hgs_ne, *];done)|(simp only [TL,LAWSm,EnL,LAWSb];done)|with_unfolding_all rfl) only [c11,TL,c1,c2,c3,k2,k3',EVS,Nat.reduceAdd,Nat.reduceSub,Int.reduceToNat,Nat.reduceMul,Nat.reduceEqDiff,Nat.reduceLeDiff,Int.reduceEq,Int.reduceLT,Int.reduceLE,↓reduceIte]
    rfl
  ·rw [if_neg k2]
   have k2':=chkB_bad k2
   simp (disch:=first|omega|(simp only[EVL]<;>omega)|(simp only[hget_c,Nat.reduceEqDiff,↓reduceIte];done)|assumption|(simp (disch:=omega) only[hg_ne,hg_eq,hgs_ne, *];done)|(simp only [TL,LAWSm,EnL,LAWSb];done)|with_unfolding_all rfl) only [c11,TL,c1,c2,k2',EVS,Nat.reduceAdd,Nat.reduceSub,Int.reduceToNat,Nat.reduceMul,Nat.reduceEqDiff,Nat.reduceLeDiff,Int.reduceEq,Int.reduceLT,Int.reduceLE,↓reduceIte]
   rfl
 ·rw [if_neg k1]
  have hv:varsV false t=.tup [.lst true [],.int .i64 (checkS t)]:=if_neg k1
  rw [hv] at c1
  have d1:decide (checkS t=0)=false:=decide_eq_false k1
  simp (disch:=first|omega|(simp only[EVL]<;>omega)|(simp only[hget_c,Nat.reduceEqDiff,↓reduceIte];done)|assumption|(simp (disch:=omega) only[hg_ne,hg_eq,hgs_ne, *];done)|(simp only [TL,LAWSm,EnL,LAWSb];done)|with_unfolding_all rfl) only [c11,TL,c1,d1,EVS,Nat.reduceAdd,Nat.reduceSub,Int.reduceToNat,Nat.reduceMul,Nat.reduceEqDiff,Nat.reduceLeDiff,Int.reduceEq,Int.reduceLT,Int.reduceLE,↓reduceIte]
  rw [if_neg k1];rfl
theorem valueF_lim (a b c:FV) (h:Heap) (nx:Nat):lim T 11 [a,b,c] h nx=@FI.B (List FV) (FV × Heap × Nat) (frzs h deep [a,b,c]) ⟨fun q=>isfR T c11 q h nx⟩:=lim_isf tg11 rfl rfl
theorem valueF_pure (e d:Bool) (t:Te) (ht:TOk t) (hs:size t ≤ 1000000) (hk:KOk t) (env:Env) (hl:env.length ≤ 1100) (hx:∀ p ∈ env,0 ≤ p.2.2∧p.2.2 ≤ 18446744073709551615) (m:Mem) (hm:okM m) (h0:m.length ≤ 9223372036854775807):∀ h nx,lim T 11 [.agg [.int .u8 (t).k,.int .i64 (t).w,.int .u64 (t).b,.str (t).s,.int .i64 (t).lo,.lst (t).e ((t).l.map tV)],.lst e (env.map bdV),.lst d (m.map ceV)] h nx=some (valV t env m,h,nx):=by
 intro h nx
 rw [valueF_lim,frzs_pure (by simp [pures,pure_,pu_Ts,pu_e,pu_m]) (show (3:Nat) ≤ deep by decide),B_some]
 exact valueF_spec e d t ht hs hk env hl hx m hm h0 h nx

def isTrue:Option (FV × Heap × Nat)→Bool
 |some (.bool true,_,_)=>true
 |_=>false
theorem isTrue_some {x:Option (FV × Heap × Nat)} (h:isTrue x=true):∃ h' nx,x=some (.bool true,h',nx):=by
 match x,h with
 |some (.bool true,h',nx),_=>exact ⟨h',nx,rfl⟩
set_option maxRecDepth 1000000 in
theorem law_true:isTrue (FI.call T 10000 19 [] [] 0)=true:=by kernel_rfl
theorem alive_iso (h:Heap) (nx:Nat):lim T 19 [] h nx=some (.bool true,h,nx):=by
 obtain ⟨h',nx',hl⟩:=isTrue_some law_true
 have hl:=le_lim T _ _ _ _ _ _ hl
 exact lim_iso_any tg19 rfl hl (by decide) h nx

theorem mem_insE {t:Te} {en:Env0} (h:varsE t=.inl en) (p:List UInt8 × Int):p ∈ insE [] (varList t) ↔ p ∈ varList t:=by
 have:=(insE_spec (varList t) [] [] List.Pairwise.nil (fun _=>Iff.rfl) (by simpa using (varsE_in h).1)).2 p
 simpa using this
theorem valErr_zero {t:Te} {env:Env} {m:Mem} (h:valErr t env m=0):checkS t=0∧chkB env=0∧chkM m=0∧∀ p ∈ varList t,oneE env p=0:=by
 unfold valErr at h
 split at h
 ·rename_i h1
  split at h
  ·rename_i h2
   split at h
   ·rename_i h3
    obtain ⟨_,en,he⟩:=nodes_of_check h1
    exact ⟨h1,h2,h3,fun p hp=>firstE_zero h p ((mem_insE he p).2 hp)⟩
   ·cases h
  ·cases h
 ·rename_i h1;exact absurd h h1
theorem boundE {t:Te} {env:Env} {m:Mem} (hx:∀ p ∈ env,0 ≤ p.2.2∧p.2.2 ≤ 18446744073709551615) (h:valErr t env m=0):boundR (rhoE env) t:=by
 obtain ⟨h1,h2,h3,h4⟩:=valErr_zero h
 obtain ⟨_,hg⟩:=chkB_good h2
 intro x hxn hk
 have hm:(x.s,x.w) ∈ varList t:=by
  have:∀ xs:List Te,x ∈ xs→(x.s,x.w) ∈ varL xs:=by
   intro xs
   induction xs with
   |nil=>intro h;cases h
   |cons y ys ih =>
    intro h
    simp only [varL]
    rcases List.mem_cons.1 h with rfl | h
    ·rw [if_pos hk];simp
    ·split
     ·exact List.mem_cons_of_mem _ (ih h)
     ·exact ih h
  exact this _ hxn
 have h1:=h4 _ hm
 unfold oneE at h1
 unfold rhoE
 cases hq:boundS env x.s with
 |none=>rw [hq] at h1;cases h1
 |some q =>
  rw [hq] at h1
  simp only at h1 ⊢
  split at h1
  ·rename_i hw
   obtain ⟨q1,q2,q3⟩:=bound_bd hx hq
   obtain ⟨j,hj,rfl⟩:=List.mem_iff_getElem.1 q1
   have hgj:=(hg j hj).2.1
   have ej:env.getD j ([],0,0)=env[j]:=by simp [List.getD,hj]
   rw [ej,hw] at hgj
   exact okS_nat hgj q3
  ·cases h1
theorem okM_of {m:Mem} (h:∀ p ∈ m,(IntKind.u64.min ≤ p.1∧p.1 ≤ IntKind.u64.max)∧(IntKind.u8.min ≤ p.2∧p.2 ≤ IntKind.u8.max)):okM m:=fun p hp=>by
 have h1:=h p hp
 simp [IntKind.min,IntKind.max,IntKind.signed,IntKind.bits] at h1
 omega

abbrev Bd3:=List UInt8 × Int × Int
def SE (l:Env):Prop:=l.Pairwise fun p q=>Op.bytesLess p.1 q.1=true
def othG (q:Bd3):Bool→Env→Env
 |b,[]=>if b then [] else [q]
 |b,p::r=>(if !b && !Op.bytesLess p.1 q.1 then [q] else []) ++ (if p.1=q.1 then [] else [p]) ++ othG q (b || !Op.bytesLess p.1 q.1) r
theorem oth_true (q:Bd3):∀ l:Env,othG q true l=l.filter fun p=>decide (p.1 ≠ q.1):=by
 intro l
 induction l with
 |nil=>rfl
 |cons p l ih =>
  simp only [othG,Bool.not_true,Bool.false_and,Bool.true_or,List.nil_append,ih]
  by_cases h:p.1=q.1
  ·simp [h]
  ·simp [h]
theorem oth_lt {q p:Bd3} {l:Env} (h:Op.bytesLess p.1 q.1=true):othG q false (p::l)=p::othG q false l:=by
 have hne:¬ p.1=q.1:=fun e=>by rw [e,less_irr] at h;cases h
 simp [othG,h,hne]
theorem oth_ge {q p:Bd3} {l:Env} (h:¬ Op.bytesLess p.1 q.1=true):othG q false (p::l)=q::(p::l).filter fun p=>decide (p.1 ≠ q.1):=by
 have h':Op.bytesLess p.1 q.1=false:=by simpa using h
 simp only [othG,h',Bool.not_false,Bool.and_self,Bool.or_true,if_true,oth_true]
 by_cases e:p.1=q.1
 ·simp [e]
 ·simp [e]
theorem oth_mem {q:Bd3}:∀ (l:Env) (p:Bd3),p ∈ othG q false l ↔ p=q ∨ (p ∈ l∧p.1 ≠ q.1):=by
 intro l
 induction l with
 |nil=>intro p;simp [othG]
 |cons x l ih =>
  intro p
  by_cases h:Op.bytesLess x.1 q.1=true
  ·rw [oth_lt h,List.mem_cons,ih,List.mem_cons]
   have hne:¬ x.1=q.1:=fun e=>by rw [e,less_irr] at h;cases h
   constructor
   ·rintro (rfl | h | ⟨h1,h2⟩)
    ·exact .inr ⟨.inl rfl,hne⟩
    ·exact .inl h
    ·exact .inr ⟨.inr h1,h2⟩
   ·rintro (h | ⟨h | h,h2⟩)
    ·exact .inr (.inl h)
    ·exact .inl h
    ·exact .inr (.inr ⟨h,h2⟩)
  ·rw [oth_ge h]
   simp
theorem oth_len {q:Bd3}:∀ l:Env,(othG q false l).length ≤ l.length + 1:=by
 intro l
 induction l with
 |nil=>simp [othG]
 |cons x l ih =>
  by_cases h:Op.bytesLess x.1 q.1=true
  ·rw [oth_lt h,List.length_cons,List.length_cons];omega
  ·rw [oth_ge h,List.length_cons]
   have:=List.length_filter_le (fun p:Bd3=>decide (p.1 ≠ q.1)) (x::l)
   omega
theorem oth_SE {q:Bd3}:∀ l:Env,SE l→SE (othG q false l):=by
 intro l
 induction l with
 |nil=>intro _;exact List.pairwise_singleton _ _
 |cons x l ih =>
  intro hs
  have h1:=List.pairwise_cons.1 hs
  by_cases h:Op.bytesLess x.1 q.1=true
  ·rw [oth_lt h]
   refine List.pairwise_cons.2 ⟨fun y hy=>?_,ih h1.2⟩
   rcases (oth_mem l y).1 hy with rfl | ⟨h2,_⟩
   ·exact h
   ·exact h1.1 y h2
  ·rw [oth_ge h]
   refine List.pairwise_cons.2 ⟨fun y hy=>?_,hs.filter _⟩
   obtain ⟨hy1,hy2⟩:=List.mem_filter.1 hy
   have hy2:y.1 ≠ q.1:=of_decide_eq_true hy2
   have hx:Op.bytesLess q.1 x.1=true ∨ x.1=q.1:=by
    rcases less_tri x.1 q.1 with h2 | h2 | h2
    ·exact absurd h2 h
    ·exact .inl h2
    ·exact .inr h2
   rcases List.mem_cons.1 hy1 with rfl | hy1
   ·rcases hx with hx | hx
    ·exact hx
    ·exact absurd hx hy2
   ·have:=h1.1 y hy1
    rcases hx with hx | hx
    ·exact less_trans hx this
    ·rw [hx] at this;exact this
theorem bound_mem:∀ {l:Env},SE l→∀ {b:Bd3},b ∈ l→boundS l b.1=some b:=by
 intro l
 induction l with
 |nil=>intro _ b hb;cases hb
 |cons x l ih =>
  intro hs b hb
  have h1:=List.pairwise_cons.1 hs
  unfold boundS
  rw [List.find?_cons]
  rcases List.mem_cons.1 hb with rfl | hb
  ·simp
  ·have h2:=h1.1 b hb
   have:(x.1 == b.1)=false:=by
    cases he:x.1 == b.1 with
    |false=>rfl
    |true=>rw [eq_of_beq he,less_irr] at h2;cases h2
   rw [this]
   exact ih h1.2 hb
theorem oth_bound {q:Bd3} {l:Env} (hs:SE l) (s:List UInt8):boundS (othG q false l) s=if s=q.1 then some q else boundS l s:=by
 have hS:=oth_SE (q:=q) l hs
 by_cases e:s=q.1
 ·rw [if_pos e,e]
  exact bound_mem hS ((oth_mem l q).2 (.inl rfl))
 ·rw [if_neg e]
  cases hb:boundS l s with
  |some b =>
   have hm:=List.mem_of_find?_eq_some hb
   have hn:b.1=s:=by have:=List.find?_some hb;simpa using this
   have:=bound_mem hS ((oth_mem l b).2 (.inr ⟨hm,by rw [hn];exact e⟩))
   rw [hn] at this;exact this
  |none =>
   unfold boundS at hb ⊢
   rw [List.find?_eq_none] at hb ⊢
   intro x hx
   rcases (oth_mem l x).1 hx with rfl | ⟨h1,_⟩
   ·simp;exact fun h=>e h.symm
   ·exact hb x h1
theorem SE_of {env:Env} (h:∀ i,i < env.length→goodB env i):SE env:=by
 have hm:=mono_of h
 refine List.pairwise_iff_getElem.2 fun i j hi hj hij=>?_
 have:=hm i j hij hj
 have e1:env.getD i ([],0,0)=env[i]:=by simp [List.getD,hi]
 have e2:env.getD j ([],0,0)=env[j]:=by simp [List.getD,hj]
 unfold nm at this
 rwa [e1,e2] at this
theorem good_of {env:Env} (hs:SE env) (h:∀ p ∈ env,nameS (strip p.1)∧okS p.2.1 p.2.2):∀ i,i < env.length→goodB env i:=by
 intro i hi
 have e1:env.getD i ([],0,0)=env[i]:=by simp [List.getD,hi]
 have h1:=h _ (List.getElem_mem hi)
 unfold goodB
 rw [e1]
 refine ⟨h1.1,h1.2,fun h0=>?_⟩
 have hi':i - 1 < env.length:=by omega
 have e2:env.getD (i - 1) ([],0,0)=env[i - 1]:=by simp [List.getD,hi']
 rw [e2]
 exact List.pairwise_iff_getElem.1 hs (i - 1) i hi' hi (by omega)
theorem chkB_oth {env:Env} {q:Bd3} (h:chkB env=0) (hl:env.length ≤ 900) (hq:nameS (strip q.1)∧okS q.2.1 q.2.2):chkB (othG q false env)=0:=by
 obtain ⟨_,hg⟩:=chkB_good h
 have hs:=SE_of hg
 refine (chkB_ok (by have:=oth_len (q:=q) env;omega) (good_of (oth_SE env hs) fun p hp=>?_)).symm
 rcases (oth_mem env p).1 hp with rfl | ⟨h1,_⟩
 ·exact hq
 ·obtain ⟨i,hi,rfl⟩:=List.mem_iff_getElem.1 h1
  have e1:env.getD i ([],0,0)=env[i]:=by simp [List.getD,hi]
  have:=hg i hi
  unfold goodB at this
  rw [e1] at this
  exact ⟨this.1,this.2.1⟩
theorem first_filter (env:Env):∀ L:Env0,firstE env L=firstE env (L.filter fun p=>decide (oneE env p ≠ 0)):=by
 intro L
 induction L with
 |nil=>rfl
 |cons p L ih =>
  by_cases h:oneE env p=0
  ·rw [List.filter_cons_of_neg (by simp [h]),firstE,if_pos h];exact ih
  ·rw [List.filter_cons_of_pos (by simp [h]),firstE,if_neg h,firstE,if_neg h]
theorem first_eq {e1 e2:Env} {L1 L2:Env0} (h1:SL L1) (h2:SL L2) (h:∀ p,(p ∈ L1∧oneE e1 p ≠ 0) ↔ (p ∈ L2∧oneE e2 p ≠ 0)) (hv:∀ p ∈ L1,oneE e1 p ≠ 0→oneE e1 p=oneE e2 p):firstE e1 L1=firstE e2 L2:=by
 rw [first_filter e1,first_filter e2]
 have he:(L1.filter fun p=>decide (oneE e1 p ≠ 0))=L2.filter fun p=>decide (oneE e2 p ≠ 0):=by
  refine SL.unique (List.Pairwise.filter _ h1) (List.Pairwise.filter _ h2) fun p=>?_
  simp only [List.mem_filter,decide_eq_true_eq]
  exact h p
 rw [← he]
 cases hf:L1.filter fun p=>decide (oneE e1 p ≠ 0) with
 |nil=>rfl
 |cons p R =>
  have hp:p ∈ L1∧oneE e1 p ≠ 0:=by
   have:p ∈ L1.filter fun p=>decide (oneE e1 p ≠ 0):=by rw [hf];simp
   simpa using List.mem_filter.1 this
  have h3:=hv p hp.1 hp.2
  simp only [firstE]
  rw [if_neg hp.2,if_neg (h3 ▸ hp.2),h3]

theorem substE_parts {t u:Te} {n:List UInt8} (h:substE t u n=0):checkS t=0∧checkS u=0∧(∀ w,(n,w) ∈ varList t→w=u.w)∧checkS (putT n u t)=0:=by
 unfold substE at h
 split at h
 ·rename_i h1;exact absurd h h1
 ·rename_i h1
  split at h
  ·rename_i h2;exact absurd h h2
  ·rename_i h2
   split at h
   ·cases h
   ·rename_i h3
    split at h
    ·cases h
    ·refine ⟨Decidable.not_not.1 h1,Decidable.not_not.1 h2,fun w hw=>?_,h⟩
     exact Decidable.byContradiction fun hne=>h3 ⟨w,hw,hne⟩
theorem insE_SL {t:Te} {en:Env0} (h:varsE t=.inl en):SL (insE [] (varList t)):=(insE_spec (varList t) [] [] List.Pairwise.nil (fun _=>Iff.rfl) (by simpa using (varsE_in h).1)).1
theorem leafs {t:Te} (hn:nodesOk t):∀ x ∈ nodesT t,x.k=2→x.l=[]:=fun x hx hk=>List.length_eq_zero_iff.1 ((node_k2 hk).1 (hn x hx)).2.1
abbrev putQ (n:List UInt8) (u:Te) (env:Env) (m:Mem):Bd3:=(n,u.w,((vM (rhoE env) m u:Nat):Int))
theorem rep_law {t u:Te} {n:List UInt8} {env:Env} {m:Mem} (hx:∀ p ∈ env,0 ≤ p.2.2∧p.2.2 ≤ 18446744073709551615) (tu:TOk u) (hm:okM m) (hsub:substE t u n=0) (hu:valErr u env m=0) (hl:env.length ≤ 900) (hocc:∃ w,(n,w) ∈ varList t) :
  valV (putT n u t) env m=valV t (othG (putQ n u env m) false env) m:=by
 obtain ⟨s1,s2,s3,s4⟩:=substE_parts hsub
 obtain ⟨c1,c2,c3,c4⟩:=valErr_zero hu
 obtain ⟨nt,ent,et⟩:=nodes_of_check s1
 obtain ⟨nu,enu,eu⟩:=nodes_of_check s2
 obtain ⟨ns,ens,es⟩:=nodes_of_check s4
 have hvl:=val_lt hm u nu tu (boundE hx hu)
 have hw:=((nodesOk_iff u).1 nu).1.1
 have hok:okS u.w ((vM (rhoE env) m u:Nat):Int):=by
  unfold wideS at hw
  have h2:((vM (rhoE env) m u:Nat):Int) < 2 ^ u.w.toNat:=by rw [← pow_nat];omega
  exact ⟨hw.1,hw.2,h2⟩
 have hnm:nameS (strip n):=by
  obtain ⟨w,hw⟩:=hocc
  obtain ⟨y,hy,hk,e⟩:=varL_mem.1 hw
  have:=((node_k2 hk).1 (nt y hy))
  cases e
  simp_all
 have hO:=chkB_oth (q:=putQ n u env m) c2 hl ⟨hnm,hok⟩
 have hse:=SE_of (chkB_good c2).2
 have hrho:rhoE (othG (putQ n u env m) false env)=fun s=>if s=n then vM (rhoE env) m u else rhoE env s:=by
  funext s
  unfold rhoE
  rw [oth_bound hse]
  by_cases e:s=n
  ·rw [if_pos e,if_pos e];rfl
  ·rw [if_neg e,if_neg e]
 have hone:∀ p,p.1 ≠ n→oneE (othG (putQ n u env m) false env) p=oneE env p:=fun p hp=>by
  unfold oneE;rw [oth_bound hse,if_neg hp]
 have hone':∀ w,(n,w) ∈ varList t→oneE (othG (putQ n u env m) false env) (n,w)=0:=fun w hw=>by
  unfold oneE;rw [oth_bound hse,if_pos rfl]
  exact if_pos (s3 w hw).symm
 have hmem:=fun p=>varList_put (n:=n) (u:=u) t p (leafs nt)
 have hf:firstE env (insE [] (varList (putT n u t)))=firstE (othG (putQ n u env m) false env) (insE [] (varList t)):=by
  refine first_eq (insE_SL es) (insE_SL et) (fun p=>?_) fun p hp hne=>?_
  ·rw [mem_insE es,mem_insE et,hmem]
   constructor
   ·rintro ⟨⟨h1,h2⟩ | ⟨h1,_⟩,h3⟩
    ·exact ⟨h1,by rw [hone p h2];exact h3⟩
    ·exact absurd (c4 p h1) h3
   ·rintro ⟨h1,h3⟩
    have h2:p.1 ≠ n:=fun e=>by
     obtain ⟨a,b⟩:=p
     cases e
     exact h3 (hone' b h1)
    exact ⟨.inl ⟨h1,h2⟩,by rw [← hone p h2];exact h3⟩
  ·rw [mem_insE es,hmem] at hp
   rcases hp with ⟨_,h2⟩ | ⟨h1,_⟩
   ·exact (hone p h2).symm
   ·exact absurd (c4 p h1) hne
 have e1:valErr (putT n u t) env m=firstE env (insE [] (varList (putT n u t))):=by
  unfold valErr;rw [if_pos s4,if_pos c2,if_pos c3]
 have e2:valErr t (othG (putQ n u env m) false env) m=firstE (othG (putQ n u env m) false env) (insE [] (varList t)):=by
  unfold valErr;rw [if_pos s1,if_pos hO,if_pos c3]
 have hv:vM (rhoE env) m (putT n u t)=vM (rhoE (othG (putQ n u env m) false env)) m t:=by
  rw [hrho]
  exact valT_put t fun x hxn hk hs=>s3 x.w (by rw [← hs];exact varL_mem.2 ⟨x,hxn,hk,rfl⟩)
 unfold valV
 rw [e1,e2,hf,hv]
theorem valV_of_er {a b:Te} (h:er a=er b) (env:Env) (m:Mem):valV a env m=valV b env m:=by
 have e1:valErr a env m=valErr b env m:=by
  unfold valErr
  rw [checkS_of_er h,varList_of_er h]
 have e2:vM (rhoE env) m a=vM (rhoE env) m b:=by
  show valT _ _ a=valT _ _ b
  rw [← valT_er (t:=a),h,valT_er]
 unfold valV
 rw [e1,e2]
theorem oth_bd {n:List UInt8} {u:Te} {env:Env} {m:Mem} (hx:∀ p ∈ env,0 ≤ p.2.2∧p.2.2 ≤ 18446744073709551615) (hq:vM (rhoE env) m u ≤ 18446744073709551615):∀ p ∈ othG (putQ n u env m) false env,0 ≤ p.2.2∧p.2.2 ≤ 18446744073709551615:=fun p hp=>by
 rcases (oth_mem env p).1 hp with rfl | ⟨h1,_⟩
 ·exact ⟨Int.natCast_nonneg _,by show ((vM (rhoE env) m u:Nat):Int) ≤ _;omega⟩
 ·exact hx p h1

theorem oth_t_eq {q p:Bd3} {l:Env} (h:p.1=q.1):othG q true (p::l)=othG q true l:=by simp [othG,h]
theorem oth_t_ne {q p:Bd3} {l:Env} (h:¬ p.1=q.1):othG q true (p::l)=p::othG q true l:=by simp [othG,h]
theorem oth_f_eq {q p:Bd3} {l:Env} (h:p.1=q.1):othG q false (p::l)=q::othG q true l:=by simp [othG,h,less_irr]
theorem oth_f_ne {q p:Bd3} {l:Env} (h:¬ p.1=q.1) (h':Op.bytesLess p.1 q.1=false):othG q false (p::l)=q::p::othG q true l:=by simp [othG,h,h']
def OthV (h:Heap) (nx lo:Nat) (v:FV) (acc:Env):Prop:=(acc=[]∧v=.lst true []) ∨ ∃ id,v=.sref 3 id acc.length 0 acc.length∧lo ≤ id∧id < nx∧hget h id=some (.row 3 (acc.map bdV))∧True
theorem OthV.mono {h:Heap} {nx nx' lo:Nat} {v:FV} {acc:Env} (hv:OthV h nx lo v acc) (hn:nx ≤ nx'):OthV h nx' lo v acc:=by
 rcases hv with h1 | ⟨id,h1,h2,h3,h4⟩
 ·exact .inl h1
 ·exact .inr ⟨id,h1,h2,by omega,h4⟩
theorem OthV.nil {h:Heap} {nx lo id:Nat} {p:Bd3} (hg:hget h id=some (.row 3 [bdV p])) (h1:lo ≤ id) (h2:id < nx):OthV h nx lo (.sref 3 id 1 0 1) ([] ++ [p]):=.inr ⟨id,rfl,h1,h2,hg,trivial⟩
theorem OthV.app {h:Heap} {nx lo id:Nat} {acc:Env} {p:Bd3} (hg:hget h id=some (.row 3 (acc.map bdV ++ [bdV p]))) (h1:lo ≤ id) (h2:id < nx):OthV h nx lo (.sref 3 id (acc.length + 1) 0 (acc.length + 1)) (acc ++ [p]) :=
 .inr ⟨id,by rw [List.length_append];rfl,h1,h2,by rw [hg,List.map_append];rfl,trivial⟩
theorem OthV.frz {h:Heap} {nx lo:Nat} {v:FV} {acc:Env} (hv:OthV h nx lo v acc) {k:Nat} (hk:acc.length + 2 ≤ k):∃ w,FI.frz h k v=some w∧∃ e:Bool,w=.lst e (acc.map bdV):=by
 obtain ⟨m,rfl⟩:∃ m,k=m + 1:=⟨k - 1,by omega⟩
 rcases hv with ⟨rfl,rfl⟩ | ⟨id,rfl,h2,h3,h4,_⟩
 ·exact ⟨_,frz_pure rfl,true,rfl⟩
 ·refine ⟨_,?_,false,rfl⟩
  rw [fz_ref (by decide),el_r,h4,elRow_r,Ck_pos ⟨by simp,by omega⟩,B_some,cut_d]
  have e:List.take (0 + acc.length - 0) (List.drop 0 (acc.map bdV))=acc.map bdV:=by rw [List.drop_zero];exact List.take_of_length_le (by simp)
  rw [e,frzs_pure (pu_e acc) (by simp;omega),B_some]
def JH (H h:Heap) (lo:Nat):Prop:=∀ q,q < lo→hget h q=hget H q
theorem oth_loop {e d:Bool} (H:Heap) (lo:Nat) (env:Env) (hlen:env.length ≤ 900) (m:Mem) (n:List UInt8) (u:Te) (X:Nat) (O:Env) (p:Nat) (y g:FV) (hy:y.one=true) (hg:g.one=true) (h1:hget H 1=some (.row 6 [.agg [.int .u8 (u).k,.int .i64 (u).w,.int .u64 (u).b,.str (u).s,.int .i64 (u).lo,.lst (u).e ((u).l.map tV)]])) (h2:1 < lo) (Q:Post Out)
  (next:∀ (b:Bool) (v:FV) (acc:Env) h nx,acc ++ (if b then [] else [(n,u.w,(X:Int))])=O→acc.length ≤ 1000→JH H h lo→lo ≤ nx→OthV h nx lo v acc →
   @Ok Out (runs T [.code k6_3] [(2,.str n),(3,.lst e (env.map bdV)),(4,.lst d (m.map ceV)),(5,.ptr 0 1 0 0),(6,.ptr 1 1 0 0),(11,.bool true),(12,.ptr p 1 0 0),(14,.int .u64 X),(16,y),(17,g),(18,v),(19,.bool b),(20,.int .i64 env.length),(85,.bool false)] h nx) Q) :
  ∀ (k i:Nat) (acc:Env) (b:Bool) (v:FV) (h:Heap) (nx:Nat),i + k=env.length→acc ++ othG (n,u.w,(X:Int)) b (env.drop i)=O→acc.length ≤ i + b.toNat→JH H h lo→lo ≤ nx→OthV h nx lo v acc →
  @Ok Out (runs T [.code b6_0,.inL none b6_0,.inB 0,.code k6_3] [(2,.str n),(3,.lst e (env.map bdV)),(4,.lst d (m.map ceV)),(5,.ptr 0 1 0 0),(6,.ptr 1 1 0 0),(11,.bool true),(12,.ptr p 1 0 0),(14,.int .u64 X),(16,y),(17,g),(18,v),(19,.bool b),(20,.int .i64 i)] h nx) Q:=by
 intro k
 induction k with
 |zero =>
  intro i acc b v h nx hi ho hal hJ hlo hv
  have d1:decide ((i:Int) < env.length)=false:=by simp;omega
  have hi':i=env.length:=by omega
  subst hi'
  simp (disch:=first|omega|(simp only[EVL]<;>omega)|(simp only[hget_c,Nat.reduceEqDiff,↓reduceIte];done)|assumption|(simp (disch:=omega) only[hg_ne,hg_eq,hgs_ne, *];done)|(simp only [LAWSb,LAWSm,EnL];done)|with_unfolding_all rfl) only [unf b6_0.eq_1,c6,EnL,d1,EVS,Nat.reduceAdd,Nat.reduceSub,Int.reduceToNat,Nat.reduceMul,Nat.reduceEqDiff,Nat.reduceLeDiff,Int.reduceEq,Int.reduceLT,Int.reduceLE,↓reduceIte]
  rw [List.drop_length] at ho
  exact next b v acc h _ ho (by have:=b.toNat_le;omega) hJ (by omega) (hv.mono (by omega))
 |succ k ih =>
  intro i acc b v h nx hi ho hal hJ hlo hv
  have d1:decide ((i:Int) < env.length)=true:=by simp;omega
  have hil:i < env.length:=by omega
  have hd:env.drop i=env.getD i ([],0,0)::env.drop (i + 1):=by rw [List.drop_eq_getElem_cons hil];simp [List.getD,hil]
  have g1:=(hJ 1 h2).trans h1
  rw [hd] at ho
  have hne:∀ {a b:List UInt8},¬ a=b→(a == b)=false:=fun h=>by simpa using h
  cases b with
  |true =>
   simp only [Bool.toNat_true] at hal
   by_cases hn:(env.getD i ([],0,0)).1=n
   ·have hb:((env.getD i ([],0,0)).1 == n)=true:=by rw [hn];exact beq_self_eq_true n
    have ho':acc ++ othG (n,u.w,(X:Int)) true (env.drop (i + 1))=O:=by rw [← ho,oth_t_eq hn]
    simp (disch:=first|omega|(simp only[EVL]<;>omega)|(simp only[hget_c,Nat.reduceEqDiff,↓reduceIte];done)|assumption|(simp (disch:=omega) only[hg_ne,hg_eq,hgs_ne, *];done)|(simp only [LAWSb,LAWSm,EnL];done)|with_unfolding_all rfl) only [unf b6_0.eq_1,c6,EnL,d1,g1,hb,EVS,Nat.reduceAdd,Nat.reduceSub,Int.reduceToNat,Nat.reduceMul,Nat.reduceEqDiff,Nat.reduceLeDiff,Int.reduceEq,Int.reduceLT,Int.reduceLE,↓reduceIte]
    exact Ok_inL0 (ih (i + 1) acc true v h _ (by omega) ho' (by simp only [Bool.toNat_true];omega) hJ (by omega) (hv.mono (by omega)))
   ·have hb:=hne hn
    have ho':(acc ++ [env.getD i ([],0,0)]) ++ othG (n,u.w,(X:Int)) true (env.drop (i + 1))=O:=by rw [← ho,oth_t_ne hn,List.append_assoc];rfl
    rcases hv with ⟨rfl,rfl⟩ | ⟨id,rfl,i1,i2,i3,i4⟩
    ·simp (disch:=first|omega|(simp only[EVL]<;>omega)|(simp only[hget_c,Nat.reduceEqDiff,↓reduceIte];done)|assumption|(simp (disch:=omega) only[hg_ne,hg_eq,hgs_ne, *];done)|(simp only [LAWSb,LAWSm,EnL];done)|with_unfolding_all rfl) only [unf b6_0.eq_1,c6,EnL,d1,g1,hb,EVS,Nat.reduceAdd,Nat.reduceSub,Int.reduceToNat,Nat.reduceMul,Nat.reduceEqDiff,Nat.reduceLeDiff,Int.reduceEq,Int.reduceLT,Int.reduceLE,↓reduceIte]
     exact Ok_inL0 (ih (i + 1) _ true _ _ _ (by omega) ho' (by simp only [List.length_append,List.length_cons,List.length_nil,Bool.toNat_true,Bool.toNat_false];omega) (fun q hq=>by rw [hg_ne (by omega),hg_ne (by omega)];exact hJ q hq) (by omega) (OthV.nil hg_eq (by omega) (by omega)))
    ·simp (disch:=first|omega|(simp only[EVL]<;>omega)|(simp only[hget_c,Nat.reduceEqDiff,↓reduceIte];done)|assumption|(simp (disch:=omega) only[hg_ne,hg_eq,hgs_ne, *];done)|(simp only [LAWSb,LAWSm,EnL];done)|with_unfolding_all rfl) only [unf b6_0.eq_1,c6,EnL,d1,g1,hb,i3,EVS,Nat.reduceAdd,Nat.reduceSub,Int.reduceToNat,Nat.reduceMul,Nat.reduceEqDiff,Nat.reduceLeDiff,Int.reduceEq,Int.reduceLT,Int.reduceLE,↓reduceIte]
     exact Ok_inL0 (ih (i + 1) _ true _ _ _ (by omega) ho' (by simp only [List.length_append,List.length_cons,List.length_nil,Bool.toNat_true,Bool.toNat_false];omega) (fun q hq=>by rw [hg_ne (by omega),hgs_ne (by omega)];exact hJ q hq) (by omega) (OthV.app (by rw [hg_ne (by omega)];exact hgs_eq i3) (by omega) (by omega)))
  |false =>
   simp only [Bool.toNat_false] at hal
   by_cases hlt:Op.bytesLess (env.getD i ([],0,0)).1 n=true
   ·have hn:¬ (env.getD i ([],0,0)).1=n:=fun e=>by rw [e,less_irr] at hlt;cases hlt
    have hb:=hne hn
    have ho':(acc ++ [env.getD i ([],0,0)]) ++ othG (n,u.w,(X:Int)) false (env.drop (i + 1))=O:=by rw [← ho,oth_lt hlt,List.append_assoc];rfl
    rcases hv with ⟨rfl,rfl⟩ | ⟨id,rfl,i1,i2,i3,i4⟩
    ·simp (disch:=first|omega|(simp only[EVL]<;>omega)|(simp only[hget_c,Nat.reduceEqDiff,↓reduceIte];done)|assumption|(simp (disch:=omega) only[hg_ne,hg_eq,hgs_ne, *];done)|(simp only [LAWSb,LAWSm,EnL];done)|with_unfolding_all rfl) only [unf b6_0.eq_1,c6,EnL,d1,g1,hb,hlt,EVS,Nat.reduceAdd,Nat.reduceSub,Int.reduceToNat,Nat.reduceMul,Nat.reduceEqDiff,Nat.reduceLeDiff,Int.reduceEq,Int.reduceLT,Int.reduceLE,↓reduceIte]
     exact Ok_inL0 (ih (i + 1) _ false _ _ _ (by omega) ho' (by simp only [List.length_append,List.length_cons,List.length_nil,Bool.toNat_true,Bool.toNat_false];omega) (fun q hq=>by rw [hg_ne (by omega),hg_ne (by omega)];exact hJ q hq) (by omega) (OthV.nil hg_eq (by omega) (by omega)))
    ·simp (disch:=first|omega|(simp only[EVL]<;>omega)|(simp only[hget_c,Nat.reduceEqDiff,↓reduceIte];done)|assumption|(simp (disch:=omega) only[hg_ne,hg_eq,hgs_ne, *];done)|(simp only [LAWSb,LAWSm,EnL];done)|with_unfolding_all rfl) only [unf b6_0.eq_1,c6,EnL,d1,g1,hb,hlt,i3,EVS,Nat.reduceAdd,Nat.reduceSub,Int.reduceToNat,Nat.reduceMul,Nat.reduceEqDiff,Nat.reduceLeDiff,Int.reduceEq,Int.reduceLT,Int.reduceLE,↓reduceIte]
     exact Ok_inL0 (ih (i + 1) _ false _ _ _ (by omega) ho' (by simp only [List.length_append,List.length_cons,List.length_nil,Bool.toNat_true,Bool.toNat_false];omega) (fun q hq=>by rw [hg_ne (by omega),hgs_ne (by omega)];exact hJ q hq) (by omega) (OthV.app (by rw [hg_ne (by omega)];exact hgs_eq i3) (by omega) (by omega)))
   ·have hlt':Op.bytesLess (env.getD i ([],0,0)).1 n=false:=by simpa using hlt
    by_cases hn:(env.getD i ([],0,0)).1=n
    ·have hb:((env.getD i ([],0,0)).1 == n)=true:=by rw [hn];exact beq_self_eq_true n
     have ho':(acc ++ [(n,u.w,(X:Int))]) ++ othG (n,u.w,(X:Int)) true (env.drop (i + 1))=O:=by rw [← ho,oth_f_eq hn,List.append_assoc];rfl
     rcases hv with ⟨rfl,rfl⟩ | ⟨id,rfl,i1,i2,i3,i4⟩
     ·simp (disch:=first|omega|(simp only[EVL]<;>omega)|(simp only[hget_c,Nat.reduceEqDiff,↓reduceIte];done)|assumption|(simp (disch:=omega) only[hg_ne,hg_eq,hgs_ne, *];done)|(simp only [LAWSb,LAWSm,EnL];done)|with_unfolding_all rfl) only [unf b6_0.eq_1,c6,EnL,d1,g1,hb,hlt',EVS,Nat.reduceAdd,Nat.reduceSub,Int.reduceToNat,Nat.reduceMul,Nat.reduceEqDiff,Nat.reduceLeDiff,Int.reduceEq,Int.reduceLT,Int.reduceLE,↓reduceIte]
      exact Ok_inL0 (ih (i + 1) _ true _ _ _ (by omega) ho' (by simp only [List.length_append,List.length_cons,List.length_nil,Bool.toNat_true,Bool.toNat_false];omega) (fun q hq=>by rw [hg_ne (by omega),hg_ne (by omega)];exact hJ q hq) (by omega) (OthV.nil hg_eq (by omega) (by omega)))
     ·simp (disch:=first|omega|(simp only[EVL]<;>omega)|(simp only[hget_c,Nat.reduceEqDiff,↓reduceIte];done)|assumption|(simp (disch:=omega) only[hg_ne,hg_eq,hgs_ne, *];done)|(simp only [LAWSb,LAWSm,EnL];done)|with_unfolding_all rfl) only [unf b6_0.eq_1,c6,EnL,d1,g1,hb,hlt',i3,EVS,Nat.reduceAdd,Nat.reduceSub,Int.reduceToNat,Nat.reduceMul,Nat.reduceEqDiff,Nat.reduceLeDiff,Int.reduceEq,Int.reduceLT,Int.reduceLE,↓reduceIte]
      exact Ok_inL0 (ih (i + 1) _ true _ _ _ (by omega) ho' (by simp only [List.length_append,List.length_cons,List.length_nil,Bool.toNat_true,Bool.toNat_false];omega) (fun q hq=>by rw [hg_ne (by omega),hgs_ne (by omega)];exact hJ q hq) (by omega) (OthV.app (by rw [hg_ne (by omega)];exact hgs_eq i3) (by omega) (by omega)))
    ·have hb:=hne hn
     have ho':((acc ++ [(n,u.w,(X:Int))]) ++ [env.getD i ([],0,0)]) ++ othG (n,u.w,(X:Int)) true (env.drop (i + 1))=O:=by rw [← ho,oth_f_ne hn hlt',List.append_assoc,List.append_assoc];rfl
     rcases hv with ⟨rfl,rfl⟩ | ⟨id,rfl,i1,i2,i3,i4⟩
     ·simp (disch:=first|omega|(simp only[EVL]<;>omega)|(simp only[hget_c,Nat.reduceEqDiff,↓reduceIte];done)|assumption|(simp (disch:=omega) only[hg_ne,hg_eq,hgs_ne, *];done)|(simp only [LAWSb,LAWSm,EnL];done)|with_unfolding_all rfl) only [unf b6_0.eq_1,c6,EnL,d1,g1,hb,hlt',EVS,Nat.reduceAdd,Nat.reduceSub,Int.reduceToNat,Nat.reduceMul,Nat.reduceEqDiff,Nat.reduceLeDiff,Int.reduceEq,Int.reduceLT,Int.reduceLE,↓reduceIte]
      exact Ok_inL0 (ih (i + 1) _ true _ _ _ (by omega) ho' (by simp only [List.length_append,List.length_cons,List.length_nil,Bool.toNat_true,Bool.toNat_false];omega) (fun q hq=>by rw [hg_ne (by omega),hg_ne (by omega),hg_ne (by omega)];exact hJ q hq) (by omega) (.inr ⟨_,rfl,by omega,by omega,by rw [hg_ne (by omega)];exact hg_eq,trivial⟩))
     ·have i5:∀ Y,hget (hset h id Y) id=some Y:=fun Y=>hgs_eq i3
      simp (disch:=first|omega|(simp only[EVL]<;>omega)|(simp only[hget_c,Nat.reduceEqDiff,↓reduceIte];done)|assumption|(simp (disch:=omega) only[hg_ne,hg_eq,hgs_ne, *];done)|(simp only [LAWSb,LAWSm,EnL];done)|with_unfolding_all rfl) only [unf b6_0.eq_1,c6,EnL,d1,g1,hb,hlt',i3,i5,EVS,Nat.reduceAdd,Nat.reduceSub,Int.reduceToNat,Nat.reduceMul,Nat.reduceEqDiff,Nat.reduceLeDiff,Int.reduceEq,Int.reduceLT,Int.reduceLE,↓reduceIte]
      exact Ok_inL0 (ih (i + 1) _ true _ _ _ (by omega) ho' (by simp only [List.length_append,List.length_cons,List.length_nil,Bool.toNat_true,Bool.toNat_false];omega) (fun q hq=>by rw [hg_ne (by omega),hg_ne (by omega),hgs_ne (by omega)];exact hJ q hq) (by omega) (.inr ⟨id,by simp [List.length_append],by omega,by omega,by rw [hg_ne (by omega),hg_ne (by omega),hgs_eq i3];simp [bdV],trivial⟩))
theorem occ_loop (h:Heap) {e d:Bool} (n:List UInt8) (L:Env0) (hL:L.length ≤ 1000) (er2:Int) (m:Mem) (p:Nat) (y g v:FV) (hy:y.one=true) (hg:g.one=true) (Q:Post Out)
  (next:∀ nx,@Ok Out (runs T [.code k6_2] [(2,.str n),(4,.lst d (m.map ceV)),(5,.ptr 0 1 0 0),(11,.bool true),(12,.ptr p 1 0 0),(16,y),(17,g),(18,v),(21,.lst e (L.map bd0)),(22,.int .i64 er2),(23,.bool (L.any fun p=>p.1 == n)),(24,.int .i64 L.length),(139,.bool false)] h nx) Q) :
  ∀ (k i nx:Nat),i + k=L.length →
  @Ok Out (runs T [.code b6_1,.inL none b6_1,.inB 2,.code k6_2] [(2,.str n),(4,.lst d (m.map ceV)),(5,.ptr 0 1 0 0),(11,.bool true),(12,.ptr p 1 0 0),(16,y),(17,g),(18,v),(21,.lst e (L.map bd0)),(22,.int .i64 er2),(23,.bool ((L.take i).any fun p=>p.1 == n)),(24,.int .i64 i)] h nx) Q:=by
 intro k
 induction k with
 |zero =>
  intro i nx hi
  have d1:decide ((i:Int) < L.length)=false:=by simp;omega
  have hi':i=L.length:=by omega
  subst hi'
  rw [List.take_length]
  simp (disch:=first|omega|(simp only[EVL]<;>omega)|(simp only[hget_c,Nat.reduceEqDiff,↓reduceIte];done)|assumption|(simp (disch:=omega) only[hg_ne,hg_eq,hgs_ne, *];done)|(simp only [LAWSb,LAWSm,EnL];done)|with_unfolding_all rfl) only [unf b6_1.eq_1,c6,LAWSb,d1,EVS,Nat.reduceAdd,Nat.reduceSub,Int.reduceToNat,Nat.reduceMul,Nat.reduceEqDiff,Nat.reduceLeDiff,Int.reduceEq,Int.reduceLT,Int.reduceLE,↓reduceIte]
  exact next _
 |succ k ih =>
  intro i nx hi
  have d1:decide ((i:Int) < L.length)=true:=by simp;omega
  have hil:i < L.length:=by omega
  have hs:((L.take (i + 1)).any fun p=>p.1 == n)=(((L.take i).any fun p=>p.1 == n) || ((L.getD i ([],0)).1 == n)):=by
   rw [take_succ' hil,List.any_append];simp
  have hih:=ih (i + 1)
  rw [hs] at hih
  cases hb:(L.take i).any fun p=>p.1 == n with
  |true =>
   rw [hb] at hih
   rw [Bool.true_or] at hih
   simp (disch:=first|omega|(simp only[EVL]<;>omega)|(simp only[hget_c,Nat.reduceEqDiff,↓reduceIte];done)|assumption|(simp (disch:=omega) only[hg_ne,hg_eq,hgs_ne, *];done)|(simp only [LAWSb,LAWSm,EnL];done)|with_unfolding_all rfl) only [unf b6_1.eq_1,c6,LAWSb,d1,EVS,Nat.reduceAdd,Nat.reduceSub,Int.reduceToNat,Nat.reduceMul,Nat.reduceEqDiff,Nat.reduceLeDiff,Int.reduceEq,Int.reduceLT,Int.reduceLE,↓reduceIte]
   exact Ok_inL0 (hih _ (by omega))
  |false =>
   rw [hb] at hih
   rw [Bool.false_or] at hih
   simp (disch:=first|omega|(simp only[EVL]<;>omega)|(simp only[hget_c,Nat.reduceEqDiff,↓reduceIte];done)|assumption|(simp (disch:=omega) only[hg_ne,hg_eq,hgs_ne, *];done)|(simp only [LAWSb,LAWSm,EnL];done)|with_unfolding_all rfl) only [unf b6_1.eq_1,c6,LAWSb,d1,EVS,Nat.reduceAdd,Nat.reduceSub,Int.reduceToNat,Nat.reduceMul,Nat.reduceEqDiff,Nat.reduceLeDiff,Int.reduceEq,Int.reduceLT,Int.reduceLE,↓reduceIte]
   exact Ok_inL0 (hih _ (by omega))

theorem SuR.view {h:Heap} {nx:Nat} {t u:Te} {n:List UInt8} {r:FV × Heap × Nat} (hr:SuR h nx t u n r):∃ c,r.1=.tup [.agg [.int .u8 (substT t u n).k,.int .i64 (substT t u n).w,.int .u64 (substT t u n).b,.str (substT t u n).s,.int .i64 (substT t u n).lo,c],.int .i64 (substE t u n)]∧RpS r.2.1 nx r.2.2 c (substT t u n).l∧Ext h r.2.1 nx r.2.2:=by
 obtain ⟨v,h1,h2,h3,h4⟩:=hr
 by_cases he:substE t u n=0
 ·obtain ⟨c,rfl,hc⟩:=RpT_iff.1 (h2 he)
  have:substT t u n=putT n u t:=if_pos he
  rw [this]
  exact ⟨c,h1,hc,h4⟩
 ·have hz:=h3 he
  subst hz
  have:substT t u n=zT:=if_neg he
  rw [this]
  exact ⟨.lst true [],h1,.inl ⟨true,rfl,rfl⟩,h4⟩
set_option maxHeartbeats 1000000 in
theorem law_TR (t u:Te) (tt:TOk t) (tu:TOk u) (n:List UInt8) (e d:Bool) (env:Env) (hx:∀ p ∈ env,0 ≤ p.2.2∧p.2.2 ≤ 18446744073709551615) (m:Mem) (hm:okM m) (h0:m.length ≤ 9223372036854775807):∀ h nx,lim T 6 [.agg [.int .u8 (t).k,.int .i64 (t).w,.int .u64 (t).b,.str (t).s,.int .i64 (t).lo,.lst (t).e ((t).l.map tV)],.agg [.int .u8 (u).k,.int .i64 (u).w,.int .u64 (u).b,.str (u).s,.int .i64 (u).lo,.lst (u).e ((u).l.map tV)],.str n,.lst e (env.map bdV),.lst d (m.map ceV)] h nx=some (.bool true,h,nx):=by
 refine lim_iso tg6 rfl rfl (by simp [pures,pure_,pu_Ts,pu_e,pu_m]) ?_
 obtain ⟨b1,g1,c1⟩:=great_spec t tt
 obtain ⟨b2,g2,c2⟩:=great_spec u tu
 obtain ⟨r3,⟨b3,rfl,g3⟩,c3⟩:=greatB_spec (e:=e) (d:=d) env (m.map ceV) (pu_m m) (by simpa using h0)
 cases b1 with
 |true=>simp (disch:=first|omega|(simp only[EVL]<;>omega)|(simp only[hget_c,Nat.reduceEqDiff,↓reduceIte];done)|assumption|(simp (disch:=omega) only[hg_ne,hg_eq,hgs_ne, *];done)|(simp only [LAWSb,LAWSm,EnL];done)|with_unfolding_all rfl) only [c6,LAWSb,LAWSm,EnL,alive_iso,c1,EVS,Nat.reduceAdd,Nat.reduceSub,Int.reduceToNat,Nat.reduceMul,Nat.reduceEqDiff,Nat.reduceLeDiff,Int.reduceEq,Int.reduceLT,Int.reduceLE,↓reduceIte]
 |false =>
 cases b2 with
 |true=>simp (disch:=first|omega|(simp only[EVL]<;>omega)|(simp only[hget_c,Nat.reduceEqDiff,↓reduceIte];done)|assumption|(simp (disch:=omega) only[hg_ne,hg_eq,hgs_ne, *];done)|(simp only [LAWSb,LAWSm,EnL];done)|with_unfolding_all rfl) only [c6,LAWSb,LAWSm,EnL,alive_iso,c1,c2,EVS,Nat.reduceAdd,Nat.reduceSub,Int.reduceToNat,Nat.reduceMul,Nat.reduceEqDiff,Nat.reduceLeDiff,Int.reduceEq,Int.reduceLT,Int.reduceLE,↓reduceIte]
 |false =>
 cases b3 with
 |true=>simp (disch:=first|omega|(simp only[EVL]<;>omega)|(simp only[hget_c,Nat.reduceEqDiff,↓reduceIte];done)|assumption|(simp (disch:=omega) only[hg_ne,hg_eq,hgs_ne, *];done)|(simp only [LAWSb,LAWSm,EnL];done)|with_unfolding_all rfl) only [c6,LAWSb,LAWSm,EnL,alive_iso,c1,c2,c3,EVS,Nat.reduceAdd,Nat.reduceSub,Int.reduceToNat,Nat.reduceMul,Nat.reduceEqDiff,Nat.reduceLeDiff,Int.reduceEq,Int.reduceLT,Int.reduceLE,↓reduceIte]
 |false =>
 by_cases hl9:900 < env.length
 ·have d9:decide ((900:Int) < env.length)=true:=by simp;omega
  simp (disch:=first|omega|(simp only[EVL]<;>omega)|(simp only[hget_c,Nat.reduceEqDiff,↓reduceIte];done)|assumption|(simp (disch:=omega) only[hg_ne,hg_eq,hgs_ne, *];done)|(simp only [LAWSb,LAWSm,EnL];done)|with_unfolding_all rfl) only [c6,LAWSb,LAWSm,EnL,alive_iso,c1,c2,c3,d9,EVS,Nat.reduceAdd,Nat.reduceSub,Int.reduceToNat,Nat.reduceMul,Nat.reduceEqDiff,Nat.reduceLeDiff,Int.reduceEq,Int.reduceLT,Int.reduceLE,↓reduceIte]
 have d9:decide ((900:Int) < env.length)=false:=by simp;omega
 by_cases hl2:200 < n.length
 ·have d2:decide ((200:Int) < n.length)=true:=by simp;omega
  simp (disch:=first|omega|(simp only[EVL]<;>omega)|(simp only[hget_c,Nat.reduceEqDiff,↓reduceIte];done)|assumption|(simp (disch:=omega) only[hg_ne,hg_eq,hgs_ne, *];done)|(simp only [LAWSb,LAWSm,EnL];done)|with_unfolding_all rfl) only [c6,LAWSb,LAWSm,EnL,alive_iso,c1,c2,c3,d9,d2,EVS,Nat.reduceAdd,Nat.reduceSub,Int.reduceToNat,Nat.reduceMul,Nat.reduceEqDiff,Nat.reduceLeDiff,Int.reduceEq,Int.reduceLT,Int.reduceLE,↓reduceIte]
 have d2:decide ((200:Int) < n.length)=false:=by simp;omega
 obtain ⟨st,dt,_⟩:=g1 rfl
 obtain ⟨su,du,_⟩:=g2 rfl
 have kt:KOk t:=fun x hx=>(tt x hx).1.1
 have ku:KOk u:=fun x hx=>(tu x hx).1.1
 have p1:=valueF_pure e d u tu (by omega) ku env (by omega) hx m hm h0
 simp (disch:=first|omega|(simp only[EVL]<;>omega)|(simp only[hget_c,Nat.reduceEqDiff,↓reduceIte];done)|assumption|(simp (disch:=omega) only[hg_ne,hg_eq,hgs_ne, *];done)|(simp only [LAWSb,LAWSm,EnL];done)|with_unfolding_all rfl) only [c6,LAWSb,LAWSm,EnL,alive_iso,c1,c2,c3,d9,d2,Nat.add_assoc,EVS,Nat.reduceAdd,Nat.reduceSub,Int.reduceToNat,Nat.reduceMul,Nat.reduceEqDiff,Nat.reduceLeDiff,Int.reduceEq,Int.reduceLT,Int.reduceLE,↓reduceIte]
 refine Ok_call (subst_spec t u n (by omega) (by omega) kt ku _ _) fun r hr=>?_
 obtain ⟨c,hv,hk,x1,x2⟩:=SuR.view hr
 obtain ⟨w1,h1,n1⟩:=r
 dsimp only at hv hk x1 x2
 subst hv
 have cok:c.one=true∧c.cells.length=1:=by
  rcases hk with ⟨e,rfl,_⟩ | ⟨id,xs,rfl,_⟩<;>exact ⟨rfl,rfl⟩
 refine ⟨rfl,?_⟩
 have a0:=(x2 0 (by omega)).trans (by simp (disch:=omega) only [hg_ne,hg_eq]:_=some (Obj.row 6 [.agg [.int .u8 (t).k,.int .i64 (t).w,.int .u64 (t).b,.str (t).s,.int .i64 (t).lo,.lst (t).e ((t).l.map tV)]]))
 have a1:=(x2 1 (by omega)).trans (by simp (disch:=omega) only [hg_ne,hg_eq]:_=some (Obj.row 6 [.agg [.int .u8 (u).k,.int .i64 (u).w,.int .u64 (u).b,.str (u).s,.int .i64 (u).lo,.lst (u).e ((u).l.map tV)]]))
 by_cases he:substE t u n=0
 ·by_cases hz:valErr u env m=0
  ·unfold valV at p1
   rw [hz,if_pos rfl] at p1
   rw [he]
   have zz:decide (((0:Nat):Int)=0)=true:=rfl
   simp (disch:=first|omega|(simp only[EVL]<;>omega)|(simp only[hget_c,Nat.reduceEqDiff,↓reduceIte];done)|assumption|(simp (disch:=omega) only[hg_ne,hg_eq,hgs_ne, *];done)|(simp only [LAWSb,LAWSm,EnL];done)|with_unfolding_all rfl) only [c6,LAWSb,LAWSm,EnL,a0,a1,cok.1,p1,hgs_ne,hgx_e,Option.map_some,valueF_lim,Nat.add_assoc,EVS,Nat.reduceAdd,Nat.reduceSub,Int.reduceToNat,Nat.reduceMul,Nat.reduceEqDiff,Nat.reduceLeDiff,Int.reduceEq,Int.reduceLT,Int.reduceLE,↓reduceIte]
   simp only [B_B]
   have hsT:substT t u n=putT n u t:=if_pos he
   rw [hsT] at hk ⊢
   obtain ⟨s1,s2,s3,s4⟩:=substE_parts he
   obtain ⟨sz,_,hns,_⟩:=check_zero s4
   have szl:=size_eq (putT n u t)
   refine Ok_ex (RpS.frz (hk.mono (Nat.le_refl _) (Nat.le_refl _) (fun i hi1 hi2=>by rw [hg_ne (by omega)])) (by omega)) fun v hq=>?_
   obtain ⟨e3,l3,hl3,rfl⟩:=hq
   have her:er (.mk (putT n u t).k (putT n u t).w (putT n u t).b (putT n u t).s (putT n u t).lo e3 l3)=er (putT n u t):=by
    rw [er_eq (putT n u t),er_eq,← hl3];rfl
   have hTp:=TOk_put n tu t tt
   have hKp:=KOk_put n ku t kt
   have c5:∀ h nx,isfR T c11 [.agg [.int .u8 (putT n u t).k,.int .i64 (putT n u t).w,.int .u64 (putT n u t).b,.str (putT n u t).s,.int .i64 (putT n u t).lo,.lst e3 (l3.map tV)],.lst e (env.map bdV),.lst d (m.map ceV)] h nx=some (valV (putT n u t) env m,h,nx):=by
    have:=valueF_spec e d (.mk (putT n u t).k (putT n u t).w (putT n u t).b (putT n u t).s (putT n u t).lo e3 l3) (TOk_of_er her.symm hTp) (by rw [← size_er,her,size_er];omega) (KOk_of_er her.symm hKp) env (by omega) hx m hm h0
    rw [valV_of_er her] at this
    exact this
   unfold valV at c5
   have pz:pures (l3.map tV)=true:=pu_Ts l3
   simp (disch:=first|omega|(simp only[EVL]<;>omega)|(simp only[hget_c,Nat.reduceEqDiff,↓reduceIte];done)|assumption|(simp (disch:=omega) only[hg_ne,hg_eq,hgs_ne, *];done)|(simp only [LAWSb,LAWSm,EnL];done)|with_unfolding_all rfl) only [c6,LAWSb,LAWSm,EnL,a0,a1,c5,pz,hgs_ne,hgx_e,Option.map_some,Nat.add_assoc,EVS,Nat.reduceAdd,Nat.reduceSub,Int.reduceToNat,Nat.reduceMul,Nat.reduceEqDiff,Nat.reduceLeDiff,Int.reduceEq,Int.reduceLT,Int.reduceLE,↓reduceIte]
   have p3:=vars_spec t (by omega) kt
   unfold varsV at p3
   rw [if_pos s1] at p3
   have hLl:(insE [] (varList t)).length ≤ 1000:=by
    have h2:∀ (L out:Env0),(insE out L).length ≤ out.length + L.length:=by
     intro L
     induction L with
     |nil=>intro out;exact Nat.le_refl _
     |cons p L ih=>intro out;have:=ih (stepE out p);have:=stepE_len out p;simp only [insE,List.length_cons];omega
    have h3:=h2 (varList t) []
    have h4:(varList t).length ≤ size t:=by have:=varL_len (nodesT t);rw [nodesT_len] at this;exact this
    simp only [List.length_nil] at h3
    omega
   have hvl:vM (rhoE env) m u ≤ 18446744073709551615:=by
    obtain ⟨nu,_⟩:=nodes_of_check s2
    have h1:=val_lt hm u nu tu (boundE hx hz)
    have hw:=((nodesOk_iff u).1 nu).1.1
    unfold wideS at hw
    have h64:2 ^ u.w.toNat ≤ 2 ^ 64:=Nat.pow_le_pow_right (by decide) (by omega)
    have e64:(2:Nat) ^ 64=18446744073709551616:=rfl
    omega
   have hO:=oth_len (q:=putQ n u env m) env
   have c7:∀ e',∀ h nx,isfR T c11 [.agg [.int .u8 (t).k,.int .i64 (t).w,.int .u64 (t).b,.str (t).s,.int .i64 (t).lo,.lst (t).e ((t).l.map tV)],.lst e' ((othG (putQ n u env m) false env).map bdV),.lst d (m.map ceV)] h nx=some (valV t (othG (putQ n u env m) false env) m,h,nx):=fun e'=>valueF_spec e' d t tt (by omega) kt (othG (putQ n u env m) false env) (by omega) (oth_bd hx hvl) m hm h0
   have hocc:((insE [] (varList t)).any fun p=>p.1 == n)=true ↔ ∃ w,(n,w) ∈ varList t:=by
    obtain ⟨_,en,het⟩:=nodes_of_check s1
    rw [List.any_eq_true]
    constructor
    ·rintro ⟨p,hp,he⟩
     have:=(mem_insE het p).1 hp
     obtain ⟨a,b⟩:=p
     have:a=n:=by simpa using he
     subst this
     exact ⟨b,(mem_insE het _).1 hp⟩
    ·rintro ⟨w,hw⟩
     exact ⟨(n,w),(mem_insE het _).2 hw,by simp⟩
   have hkm:=hk
   generalize hH:((n1 + 24,Obj.row 3 [])::(37,Obj.row 6 [.agg [.int .u8 (putT n u t).k,.int .i64 (putT n u t).w,.int .u64 (putT n u t).b,.str (putT n u t).s,.int .i64 (putT n u t).lo,c]])::h1)=H
   have G0:hget H 0=some (.row 6 [.agg [.int .u8 (t).k,.int .i64 (t).w,.int .u64 (t).b,.str (t).s,.int .i64 (t).lo,.lst (t).e ((t).l.map tV)]]):=by rw [← hH,hg_ne (by omega),hg_ne (by omega)];exact a0
   have G1:hget H 1=some (.row 6 [.agg [.int .u8 (u).k,.int .i64 (u).w,.int .u64 (u).b,.str (u).s,.int .i64 (u).lo,.lst (u).e ((u).l.map tV)]]):=by rw [← hH,hg_ne (by omega),hg_ne (by omega)];exact a1
   have G37:hget H 37=some (.row 6 [.agg [.int .u8 (putT n u t).k,.int .i64 (putT n u t).w,.int .u64 (putT n u t).b,.str (putT n u t).s,.int .i64 (putT n u t).lo,c]]):=by rw [← hH,hg_ne (by omega)];exact hg_eq
   have G24:hget H (n1 + 24)=some (.row 3 []):=by rw [← hH];exact hg_eq
   have fin:∀ (v:FV) (h:Heap) (nx0 nx:Nat) (L:List FV),JH H h (n1 + 24)→OthV h nx0 (n1 + 24) v (othG (putQ n u env m) false env)→
     @Ok Out (runs T [.code k6_2] [(2,.str n),(4,.lst d (m.map ceV)),(5,.ptr 0 1 0 0),(11,.bool true),(12,.ptr 37 1 0 0),(16,.int .u64 (if valErr (putT n u t) env m=0 then vM (rhoE env) m (putT n u t) else 0:Nat)),(17,.int .i64 (valErr (putT n u t) env m)),(18,v),(21,.lst false L),(22,.int .i64 0),(23,.bool ((insE [] (varList t)).any fun p=>p.1 == n)),(24,.int .i64 (insE [] (varList t)).length),(139,.bool false)] h nx) ⟨fun x=>resV c6.res x=some (.bool true)⟩:=by
    intro v h nx0 nx L hJ hv
    have f0:=(hJ 0 (by omega)).trans G0
    have f37:=(hJ 37 (by omega)).trans G37
    simp (disch:=first|omega|(simp only[EVL]<;>omega)|(simp only[hget_c,Nat.reduceEqDiff,↓reduceIte];done)|assumption|(simp (disch:=omega) only[hg_ne,hg_eq,hgs_ne, *];done)|(simp only [LAWSb,LAWSm,EnL];done)|with_unfolding_all rfl) only [unf k6_2.eq_1,c6,LAWSb,LAWSm,EnL,f0,f37,valueF_lim,Nat.add_assoc,EVS,Nat.reduceAdd,Nat.reduceSub,Int.reduceToNat,Nat.reduceMul,Nat.reduceEqDiff,Nat.reduceLeDiff,Int.reduceEq,Int.reduceLT,Int.reduceLE,↓reduceIte]
    simp only [B_B]
    refine Ok_ex (hv.frz (by omega)) fun w hw=>?_
    obtain ⟨e4,rfl⟩:=hw
    have c8:=c7 e4
    have pe:pures ((othG (putQ n u env m) false env).map bdV)=true:=pu_e _
    cases ho:(insE [] (varList t)).any fun p=>p.1 == n with
    |true =>
     have hV:=rep_law hx tu hm he hz (by omega) (hocc.1 ho)
     rw [← hV] at c8
     unfold valV at c8
     simp (disch:=first|omega|(simp only[EVL]<;>omega)|(simp only[hget_c,Nat.reduceEqDiff,↓reduceIte];done)|assumption|(simp (disch:=omega) only[hg_ne,hg_eq,hgs_ne, *];done)|(simp only [LAWSb,LAWSm,EnL];done)|with_unfolding_all rfl) only [c6,LAWSb,LAWSm,EnL,c8,pe,EVS,Nat.reduceAdd,Nat.reduceSub,Int.reduceToNat,Nat.reduceMul,Nat.reduceEqDiff,Nat.reduceLeDiff,Int.reduceEq,Int.reduceLT,Int.reduceLE,↓reduceIte]
     skip
    |false =>
     unfold valV at c8
     have hno:er (putT n u t)=er t:=put_none t fun x hxn hk=>by
      have:(n,x.w) ∈ varList t:=by rw [← hk.2];exact varL_mem.2 ⟨x,hxn,hk.1,rfl⟩
      rw [hocc.2 ⟨_,this⟩] at ho
      cases ho
     simp (disch:=first|omega|(simp only[EVL]<;>omega)|(simp only[hget_c,Nat.reduceEqDiff,↓reduceIte];done)|assumption|(simp (disch:=omega) only[hg_ne,hg_eq,hgs_ne, *];done)|(simp only [LAWSb,LAWSm,EnL];done)|with_unfolding_all rfl) only [c6,LAWSb,LAWSm,EnL,c8,pe,f0,f37,same_lim,EVS,Nat.reduceAdd,Nat.reduceSub,Int.reduceToNat,Nat.reduceMul,Nat.reduceEqDiff,Nat.reduceLeDiff,Int.reduceEq,Int.reduceLT,Int.reduceLE,↓reduceIte]
     simp only [B_B]
     refine Ok_ex (RpS.frz (hk.mono (Nat.le_refl _) (Nat.le_refl _) (fun i hi1 hi2=>by rw [hJ i (by omega),← hH,hg_ne (by omega),hg_ne (by omega)])) (by omega)) fun v hq=>?_
     obtain ⟨e5,l5,hl5,rfl⟩:=hq
     have her5:er (.mk (putT n u t).k (putT n u t).w (putT n u t).b (putT n u t).s (putT n u t).lo e5 l5)=er (putT n u t):=by
      rw [er_eq (putT n u t),er_eq,← hl5];rfl
     have c9:∀ h nx,isfR T c28 [.agg [.int .u8 (putT n u t).k,.int .i64 (putT n u t).w,.int .u64 (putT n u t).b,.str (putT n u t).s,.int .i64 (putT n u t).lo,.lst e5 (l5.map tV)],.agg [.int .u8 (t).k,.int .i64 (t).w,.int .u64 (t).b,.str (t).s,.int .i64 (t).lo,.lst (t).e ((t).l.map tV)]] h nx=some (.bool true,h,nx):=by
      have:=same_spec (.mk (putT n u t).k (putT n u t).w (putT n u t).b (putT n u t).s (putT n u t).lo e5 l5) t (by rw [← size_er,her5,size_er];omega) (by omega)
      rw [same_er _ _ (her5.trans hno)] at this
      exact this
     simp (disch:=first|omega|(simp only[EVL]<;>omega)|(simp only[hget_c,Nat.reduceEqDiff,↓reduceIte];done)|assumption|(simp (disch:=omega) only[hg_ne,hg_eq,hgs_ne, *];done)|(simp only [LAWSb,LAWSm,EnL];done)|with_unfolding_all rfl) only [c6,LAWSb,LAWSm,EnL,c9,EVS,Nat.reduceAdd,Nat.reduceSub,Int.reduceToNat,Nat.reduceMul,Nat.reduceEqDiff,Nat.reduceLeDiff,Int.reduceEq,Int.reduceLT,Int.reduceLE,↓reduceIte]
   refine oth_loop H (n1 + 24) env (by omega) m n u (vM (rhoE env) m u) (othG (putQ n u env m) false env) 37 _ _ rfl rfl G1 (by omega) _ (fun b v acc h nx hF hal hJ hlo hv=>?_) env.length 0 [] false _ _ _ (by omega) rfl (by simp) (fun q hq=>rfl) (by omega) (.inr ⟨_,rfl,by omega,by omega,G24,trivial⟩)
   have f0:=(hJ 0 (by omega)).trans G0
   have f1:=(hJ 1 (by omega)).trans G1
   cases b with
   |true =>
    rw [if_pos rfl,List.append_nil] at hF
    subst hF
    simp (disch:=first|omega|(simp only[EVL]<;>omega)|(simp only[hget_c,Nat.reduceEqDiff,↓reduceIte];done)|assumption|(simp (disch:=omega) only[hg_ne,hg_eq,hgs_ne, *];done)|(simp only [LAWSb,LAWSm,EnL];done)|with_unfolding_all rfl) only [unf k6_3.eq_1,c6,LAWSb,LAWSm,EnL,f0,f1,p3,EVS,Nat.reduceAdd,Nat.reduceSub,Int.reduceToNat,Nat.reduceMul,Nat.reduceEqDiff,Nat.reduceLeDiff,Int.reduceEq,Int.reduceLT,Int.reduceLE,↓reduceIte]
    exact occ_loop h n _ hLl 0 m 37 _ _ v rfl rfl _ (fun nx=>fin v h _ nx _ hJ hv) (insE [] (varList t)).length 0 _ (by omega)
   |false =>
    rw [if_neg (by decide)] at hF
    rcases hv with ⟨rfl,rfl⟩ | ⟨id,rfl,i1,i2,i3,i4⟩
    ·simp (disch:=first|omega|(simp only[EVL]<;>omega)|(simp only[hget_c,Nat.reduceEqDiff,↓reduceIte];done)|assumption|(simp (disch:=omega) only[hg_ne,hg_eq,hgs_ne, *];done)|(simp only [LAWSb,LAWSm,EnL];done)|with_unfolding_all rfl) only [unf k6_3.eq_1,c6,LAWSb,LAWSm,EnL,f0,f1,p3,EVS,Nat.reduceAdd,Nat.reduceSub,Int.reduceToNat,Nat.reduceMul,Nat.reduceEqDiff,Nat.reduceLeDiff,Int.reduceEq,Int.reduceLT,Int.reduceLE,↓reduceIte]
     refine occ_loop _ n _ hLl 0 m 37 _ _ _ rfl rfl _ (fun nx=>fin _ _ _ nx _ (fun q hq=>by rw [hg_ne (by omega),hg_ne (by omega)];exact hJ q hq) (by rw [← hF];exact OthV.nil hg_eq (by omega) (Nat.lt_succ_self _))) (insE [] (varList t)).length 0 _ (by omega)
    ·simp (disch:=first|omega|(simp only[EVL]<;>omega)|(simp only[hget_c,Nat.reduceEqDiff,↓reduceIte];done)|assumption|(simp (disch:=omega) only[hg_ne,hg_eq,hgs_ne, *];done)|(simp only [LAWSb,LAWSm,EnL];done)|with_unfolding_all rfl) only [unf k6_3.eq_1,c6,LAWSb,LAWSm,EnL,f0,f1,p3,i3,hgs_ne,EVS,Nat.reduceAdd,Nat.reduceSub,Int.reduceToNat,Nat.reduceMul,Nat.reduceEqDiff,Nat.reduceLeDiff,Int.reduceEq,Int.reduceLT,Int.reduceLE,↓reduceIte]
     refine occ_loop _ n _ hLl 0 m 37 _ _ _ (by rfl) (by rfl) _ (fun nx'=>?_) (insE [] (varList t)).length 0 _ (by omega)
     refine fin _ _ nx nx' _ (fun q hq=>?_) ?_
     ·rw [hg_ne (by omega),hgs_ne (by omega)];exact hJ q hq
     ·rw [← hF];exact OthV.app (by rw [hg_ne (by omega)];exact hgs_eq i3) (by omega) i2
  ·have p2:=p1
   unfold valV at p2
   rw [if_neg hz] at p2
   rw [he]
   have zz:decide (((0:Nat):Int)=0)=true:=rfl
   have d1:decide (valErr u env m=0)=false:=decide_eq_false hz
   simp (disch:=first|omega|(simp only[EVL]<;>omega)|(simp only[hget_c,Nat.reduceEqDiff,↓reduceIte];done)|assumption|(simp (disch:=omega) only[hg_ne,hg_eq,hgs_ne, *];done)|(simp only [LAWSb,LAWSm,EnL];done)|with_unfolding_all rfl) only [c6,LAWSb,LAWSm,EnL,a0,a1,cok.1,p2,d1,hz,hgs_ne,hgx_e,Option.map_some,Nat.add_assoc,EVS,Nat.reduceAdd,Nat.reduceSub,Int.reduceToNat,Nat.reduceMul,Nat.reduceEqDiff,Nat.reduceLeDiff,Int.reduceEq,Int.reduceLT,Int.reduceLE,↓reduceIte]
 ·have d1:decide (substE t u n=0)=false:=decide_eq_false he
  unfold valV at p1
  simp (disch:=first|omega|(simp only[EVL]<;>omega)|(simp only[hget_c,Nat.reduceEqDiff,↓reduceIte];done)|assumption|(simp (disch:=omega) only[hg_ne,hg_eq,hgs_ne, *];done)|(simp only [LAWSb,LAWSm,EnL];done)|with_unfolding_all rfl) only [c6,LAWSb,LAWSm,EnL,a0,a1,cok.1,p1,d1,he,hgs_ne,hgx_e,Option.map_some,Nat.add_assoc,EVS,Nat.reduceAdd,Nat.reduceSub,Int.reduceToNat,Nat.reduceMul,Nat.reduceEqDiff,Nat.reduceLeDiff,Int.reduceEq,Int.reduceLT,Int.reduceLE,↓reduceIte]
end Go.Proofs.YtkobnfjeehnhlaaGreatDoor.Fi
