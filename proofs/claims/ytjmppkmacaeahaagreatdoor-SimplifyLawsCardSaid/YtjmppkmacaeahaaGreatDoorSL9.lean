/- Parts of the proof, one behind the other. -/
import Derived.Test.YtjmppkmacaeahaaGreatDoorSL8
import Derived.Test.YtjmppkmacaeahaaGreatDoorY5
import Derived.Test.YtjmppkmacaeahaaGreatDoorSL7
set_option linter.all false
namespace Go.Proofs.YtjmppkmacaeahaaGreatDoor.Fi
open Go.FI
theorem d_Y6 {P:Prop} (h:P:=by first|omega|(simp only[EVL]<;>omega)|(simp only[hget_c,Nat.reduceEqDiff,↓reduceIte];done)|assumption|(simp (disch:=omega) only[hg_ne,hg_eq,hgs_ne, *];done)|(simp only [TL,LAWSb];done)|with_unfolding_all rfl):P:=h
theorem first_spec (t:Te) (h0:0 < t.l.length):∀ h nx,lim T 84 [.agg [.int .u8 (t).k,.int .i64 (t).w,.int .u64 (t).b,.str (t).s,.int .i64 (t).lo,.lst (t).e ((t).l.map tV)]] h nx=some (.agg [.int .u8 (p0 t).k,.int .i64 (p0 t).w,.int .u64 (p0 t).b,.str (p0 t).s,.int .i64 (p0 t).lo,.lst (p0 t).e ((p0 t).l.map tV)],h,nx):=by
 refine lim_iso tg84 rfl rfl (by simp [pures,pure_,pu_Ts]) ?_
 simp (disch:=first | exact d_Y6 | fail) only [c84,TL,EVS,Nat.reduceAdd,Nat.reduceSub,Int.reduceToNat,Nat.reduceMul,Nat.reduceEqDiff,Nat.reduceLeDiff,Int.reduceEq,Int.reduceLT,Int.reduceLE,↓reduceIte]
theorem second_spec (t:Te) (h0:1 < t.l.length):∀ h nx,lim T 82 [.agg [.int .u8 (t).k,.int .i64 (t).w,.int .u64 (t).b,.str (t).s,.int .i64 (t).lo,.lst (t).e ((t).l.map tV)]] h nx=some (.agg [.int .u8 (p1 t).k,.int .i64 (p1 t).w,.int .u64 (p1 t).b,.str (p1 t).s,.int .i64 (p1 t).lo,.lst (p1 t).e ((p1 t).l.map tV)],h,nx):=by
 refine lim_iso tg82 rfl rfl (by simp [pures,pure_,pu_Ts]) ?_
 simp (disch:=first | exact d_Y6 | fail) only [c82,TL,EVS,Nat.reduceAdd,Nat.reduceSub,Int.reduceToNat,Nat.reduceMul,Nat.reduceEqDiff,Nat.reduceLeDiff,Int.reduceEq,Int.reduceLT,Int.reduceLE,↓reduceIte]
theorem number_spec (t:Te) (x:Int) (h1:1 ≤ t.w) (h2:t.w ≤ 64):∀ h nx,lim T 141 [.agg [.int .u8 (t).k,.int .i64 (t).w,.int .u64 (t).b,.str (t).s,.int .i64 (t).lo,.lst (t).e ((t).l.map tV)],.eptr [.int .u64 x] 0] h nx=some (.agg [.int .u8 (conT t.w (vW t.w x)).k,.int .i64 (conT t.w (vW t.w x)).w,.int .u64 (conT t.w (vW t.w x)).b,.str (conT t.w (vW t.w x)).s,.int .i64 (conT t.w (vW t.w x)).lo,.lst (conT t.w (vW t.w x)).e ((conT t.w (vW t.w x)).l.map tV)],h,nx):=by
 refine lim_iso tg141 rfl rfl (by simp [pures,pure_,pu_Ts]) ?_
 have hv:=valueW_spec t.w x h1 h2
 have hc:=con_spec t.w (vW t.w x)
 simp (disch:=first | exact d_Y6 | fail) only [c141,TL,hv,hc,EVS,Nat.reduceAdd,Nat.reduceSub,Int.reduceToNat,Nat.reduceMul,Nat.reduceEqDiff,Nat.reduceLeDiff,Int.reduceEq,Int.reduceLT,Int.reduceLE,↓reduceIte]
def RunsTo (f:Nat) (ws:List FV) (r:FV):Prop:=∀ args h nx,frzs h deep args=some ws→args.length=ws.length→lim T f args h nx=some (r,froze h (idL h deep args),nx)
theorem runsTo {f:Nat} {d:FI.Fn} {ws:List FV} {r:FV} (ht:tget T f=some (.fn d)) (hm:d.mode=.isc) (hn:ws.length=d.np) (hr:@Ok Out (runs T [.code d.body] (params 0 ws) [] 0) ⟨fun x=>resV d.res x=some r⟩) (hlt:f < RB:=by decide):RunsTo f ws r :=
 fun args h nx hf hl=>lim_isc ht hm (hl.trans hn) hf hr hlt
theorem left_spec (t:Te) (h0:1 < t.l.length) (h1:1 ≤ t.w) (h2:t.w ≤ 64) (w1:1 ≤ (p0 t).w) (w2:(p0 t).w ≤ 64) (x:Int) (o:OuR):RunsTo 135 [.agg [.int .u8 (t).k,.int .i64 (t).w,.int .u64 (t).b,.str (t).s,.int .i64 (t).lo,.lst (t).e ((t).l.map tV)],.eptr [oV o] 0,.eptr [.int .u64 x] 0] (.tup [tV (outR o t),.bool (apR (.lft x o) t)]):=by
 refine runsTo tg135 rfl rfl ?_
 have f1:=first_spec t (by omega)
 have f2:=second_spec t h0
 have hv:=valueW_spec (p0 t).w x w1 w2
 have hi:=is_spec (p0 t) (vW (p0 t).w x)
 cases o with
 |fst =>
  unfold oV
  simp (disch:=first | exact d_Y6 | fail) only [c135,TL,f1,hv,hi,EVS,Nat.reduceAdd,Nat.reduceSub,Int.reduceToNat,Nat.reduceMul,Nat.reduceEqDiff,Nat.reduceLeDiff,Int.reduceEq,Int.reduceLT,Int.reduceLE,↓reduceIte]
  simp only [outR,apR,tV_eq]
 |snd =>
  unfold oV
  simp (disch:=first | exact d_Y6 | fail) only [c135,TL,f2,hv,hi,EVS,Nat.reduceAdd,Nat.reduceSub,Int.reduceToNat,Nat.reduceMul,Nat.reduceEqDiff,Nat.reduceLeDiff,Int.reduceEq,Int.reduceLT,Int.reduceLE,↓reduceIte]
  simp only [outR,apR,tV_eq]
 |num y =>
  have f3:=number_spec t y h1 h2
  unfold oV
  simp (disch:=first | exact d_Y6 | fail) only [c135,TL,f3,hv,hi,EVS,Nat.reduceAdd,Nat.reduceSub,Int.reduceToNat,Nat.reduceMul,Nat.reduceEqDiff,Nat.reduceLeDiff,Int.reduceEq,Int.reduceLT,Int.reduceLE,↓reduceIte]
  simp only [outR,apR,tV_eq]
theorem right_spec (t:Te) (h0:1 < t.l.length) (h1:1 ≤ t.w) (h2:t.w ≤ 64) (w1:1 ≤ (p1 t).w) (w2:(p1 t).w ≤ 64) (x:Int) (o:OuR):RunsTo 138 [.agg [.int .u8 (t).k,.int .i64 (t).w,.int .u64 (t).b,.str (t).s,.int .i64 (t).lo,.lst (t).e ((t).l.map tV)],.eptr [oV o] 0,.eptr [.int .u64 x] 0] (.tup [tV (outR o t),.bool (apR (.rgt x o) t)]):=by
 refine runsTo tg138 rfl rfl ?_
 have f1:=first_spec t (by omega)
 have f2:=second_spec t h0
 have hv:=valueW_spec (p1 t).w x w1 w2
 have hi:=is_spec (p1 t) (vW (p1 t).w x)
 cases o with
 |fst =>
  unfold oV
  simp (disch:=first | exact d_Y6 | fail) only [c138,TL,f1,hv,hi,EVS,Nat.reduceAdd,Nat.reduceSub,Int.reduceToNat,Nat.reduceMul,Nat.reduceEqDiff,Nat.reduceLeDiff,Int.reduceEq,Int.reduceLT,Int.reduceLE,↓reduceIte]
  simp only [outR,apR,tV_eq]
 |snd =>
  unfold oV
  simp (disch:=first | exact d_Y6 | fail) only [c138,TL,f2,hv,hi,EVS,Nat.reduceAdd,Nat.reduceSub,Int.reduceToNat,Nat.reduceMul,Nat.reduceEqDiff,Nat.reduceLeDiff,Int.reduceEq,Int.reduceLT,Int.reduceLE,↓reduceIte]
  simp only [outR,apR,tV_eq]
 |num y =>
  have f3:=number_spec t y h1 h2
  unfold oV
  simp (disch:=first | exact d_Y6 | fail) only [c138,TL,f3,hv,hi,EVS,Nat.reduceAdd,Nat.reduceSub,Int.reduceToNat,Nat.reduceMul,Nat.reduceEqDiff,Nat.reduceLeDiff,Int.reduceEq,Int.reduceLT,Int.reduceLE,↓reduceIte]
  simp only [outR,apR,tV_eq]
theorem samR_spec (t:Te) (hs:size t ≤ 1000000) (h0:1 < t.l.length) (h1:1 ≤ t.w) (h2:t.w ≤ 64) (o:OuR):RunsTo 139 [.agg [.int .u8 (t).k,.int .i64 (t).w,.int .u64 (t).b,.str (t).s,.int .i64 (t).lo,.lst (t).e ((t).l.map tV)],.eptr [oV o] 0] (.tup [tV (outR o t),.bool (apR (.sam o) t)]):=by
 refine runsTo tg139 rfl rfl ?_
 have f1:=first_spec t (by omega)
 have f2:=second_spec t h0
 have a0:=size_mem (p0_mem (t:=t) (by omega))
 have a1:=size_mem (p1_mem (t:=t) h0)
 have hp:=sameP_spec (p0 t) (p1 t) (by omega) (by omega)
 cases o with
 |fst =>
  unfold oV
  simp (disch:=first | exact d_Y6 | fail) only [c139,TL,f1,hp,EVS,Nat.reduceAdd,Nat.reduceSub,Int.reduceToNat,Nat.reduceMul,Nat.reduceEqDiff,Nat.reduceLeDiff,Int.reduceEq,Int.reduceLT,Int.reduceLE,↓reduceIte]
  simp only [outR,apR,tV_eq]
 |snd =>
  unfold oV
  simp (disch:=first | exact d_Y6 | fail) only [c139,TL,f2,hp,EVS,Nat.reduceAdd,Nat.reduceSub,Int.reduceToNat,Nat.reduceMul,Nat.reduceEqDiff,Nat.reduceLeDiff,Int.reduceEq,Int.reduceLT,Int.reduceLE,↓reduceIte]
  simp only [outR,apR,tV_eq]
 |num y =>
  have f3:=number_spec t y h1 h2
  unfold oV
  simp (disch:=first | exact d_Y6 | fail) only [c139,TL,f3,hp,EVS,Nat.reduceAdd,Nat.reduceSub,Int.reduceToNat,Nat.reduceMul,Nat.reduceEqDiff,Nat.reduceLeDiff,Int.reduceEq,Int.reduceLT,Int.reduceLE,↓reduceIte]
  simp only [outR,apR,tV_eq]
def GivesR (R:Rul) (t:Te) (x:Te):Prop:=apR R t=true→x=resR R t
theorem twi_spec (t:Te) (h0:0 < t.l.length) (h1:(p0 t).k=t.k→0 < (p0 t).l.length):∃ x,GivesR .twi t x∧RunsTo 80 [.agg [.int .u8 (t).k,.int .i64 (t).w,.int .u64 (t).b,.str (t).s,.int .i64 (t).lo,.lst (t).e ((t).l.map tV)]] (.tup [tV x,.bool (apR .twi t)]):=by
 by_cases hk:(p0 t).k=t.k
 ·have h1:0 < (t.l.getD 0 default).l.length:=h1 hk
  have hk':(t.l.getD 0 default).k=t.k:=hk
  refine ⟨p0 (p0 t),fun _=>rfl,runsTo tg80 rfl rfl ?_⟩
  have d:decide ((p0 t).k=t.k)=true:=decide_eq_true hk
  simp (disch:=first | exact d_Y6 | fail) only [c80,TL,hk',d,EVS,Nat.reduceAdd,Nat.reduceSub,Int.reduceToNat,Nat.reduceMul,Nat.reduceEqDiff,Nat.reduceLeDiff,Int.reduceEq,Int.reduceLT,Int.reduceLE,↓reduceIte]
  simp only [apR,tV_eq,d]
 ·have d:decide ((p0 t).k=t.k)=false:=decide_eq_false hk
  refine ⟨t,(fun h=>by simp only [apR,d] at h;cases h),runsTo tg80 rfl rfl ?_⟩
  simp (disch:=first | exact d_Y6 | fail) only [c80,TL,hk,d,EVS,Nat.reduceAdd,Nat.reduceSub,Int.reduceToNat,Nat.reduceMul,Nat.reduceEqDiff,Nat.reduceLeDiff,Int.reduceEq,Int.reduceLT,Int.reduceLE,↓reduceIte]
  simp only [apR,tV_eq,d]
theorem far_spec (t:Te) (h0:1 < t.l.length) (h1:1 ≤ t.w) (h2:t.w ≤ 64):RunsTo 87 [.agg [.int .u8 (t).k,.int .i64 (t).w,.int .u64 (t).b,.str (t).s,.int .i64 (t).lo,.lst (t).e ((t).l.map tV)]] (.tup [tV (conT t.w 0),.bool (apR .far t)]):=by
 refine runsTo tg87 rfl rfl ?_
 have hc:=con_spec t.w 0
 have hw:IntKind.u64.wrap t.w=t.w:=wrapu64 (by omega) (by omega)
 by_cases hk:(p1 t).k=1
 ·simp (disch:=first | exact d_Y6 | fail) only [c87,TL,hk,hc,hw,EVS,Nat.reduceAdd,Nat.reduceSub,Int.reduceToNat,Nat.reduceMul,Nat.reduceEqDiff,Nat.reduceLeDiff,Int.reduceEq,Int.reduceLT,Int.reduceLE,↓reduceIte]
  simp only [apR,tV_eq,hk,decide_true,Bool.true_and]
 ·simp (disch:=first | exact d_Y6 | fail) only [c87,TL,hk,hc,hw,EVS,Nat.reduceAdd,Nat.reduceSub,Int.reduceToNat,Nat.reduceMul,Nat.reduceEqDiff,Nat.reduceLeDiff,Int.reduceEq,Int.reduceLT,Int.reduceLE,↓reduceIte]
  simp only [apR,tV_eq,hk,decide_false,Bool.false_and]
theorem cho_spec (t:Te) (hs:size t ≤ 1000000) (h0:2 < t.l.length):RunsTo 88 [.agg [.int .u8 (t).k,.int .i64 (t).w,.int .u64 (t).b,.str (t).s,.int .i64 (t).lo,.lst (t).e ((t).l.map tV)]] (.tup [tV (resR .cho t),.bool (apR .cho t)]):=by
 refine runsTo tg88 rfl rfl ?_
 have a1:=size_mem (p1_mem (t:=t) (by omega))
 have a2:=size_mem (p2_mem (t:=t) (by omega))
 have hp:=sameP_spec (p1 t) (p2 t) (by omega) (by omega)
 have i1:=is_spec (p0 t) 1
 have i0:=is_spec (p0 t) 0
 cases e1:isK (p0 t) 1 with
 |true =>
  rw [e1] at i1
  simp (disch:=first | exact d_Y6 | fail) only [c88,TL,i1,EVS,Nat.reduceAdd,Nat.reduceSub,Int.reduceToNat,Nat.reduceMul,Nat.reduceEqDiff,Nat.reduceLeDiff,Int.reduceEq,Int.reduceLT,Int.reduceLE,↓reduceIte]
  simp only [apR,resR,tV_eq,e1,↓reduceIte,Bool.true_or]
 |false =>
  rw [e1] at i1
  cases e0:isK (p0 t) 0 with
  |true =>
   rw [e0] at i0
   simp (disch:=first | exact d_Y6 | fail) only [c88,TL,i1,i0,EVS,Nat.reduceAdd,Nat.reduceSub,Int.reduceToNat,Nat.reduceMul,Nat.reduceEqDiff,Nat.reduceLeDiff,Int.reduceEq,Int.reduceLT,Int.reduceLE,↓reduceIte]
   simp only [apR,resR,tV_eq,e1,e0,Bool.false_eq_true,↓reduceIte,Bool.true_or,Bool.false_or]
  |false =>
   rw [e0] at i0
   simp (disch:=first | exact d_Y6 | fail) only [c88,TL,i1,i0,hp,EVS,Nat.reduceAdd,Nat.reduceSub,Int.reduceToNat,Nat.reduceMul,Nat.reduceEqDiff,Nat.reduceLeDiff,Int.reduceEq,Int.reduceLT,Int.reduceLE,↓reduceIte]
   simp only [apR,resR,tV_eq,e1,e0,Bool.false_eq_true,↓reduceIte,Bool.true_or,Bool.false_or]
theorem who_spec (t:Te) (h0:0 < t.l.length):RunsTo 90 [.agg [.int .u8 (t).k,.int .i64 (t).w,.int .u64 (t).b,.str (t).s,.int .i64 (t).lo,.lst (t).e ((t).l.map tV)]] (.tup [tV (resR .who t),.bool (apR .who t)]):=by
 refine runsTo tg90 rfl rfl ?_
 simp (disch:=first | exact d_Y6 | fail) only [c90,TL,EVS,Nat.reduceAdd,Nat.reduceSub,Int.reduceToNat,Nat.reduceMul,Nat.reduceEqDiff,Nat.reduceLeDiff,Int.reduceEq,Int.reduceLT,Int.reduceLE,↓reduceIte]
 simp only [apR,resR,tV_eq]
theorem inn_spec (t:Te) (h0:0 < t.l.length) (hb:-1000 ≤ t.lo∧t.lo ≤ 1000∧-1000 ≤ (p0 t).lo∧(p0 t).lo ≤ 1000):∃ x,GivesR .inn t x∧RunsTo 91 [.agg [.int .u8 (t).k,.int .i64 (t).w,.int .u64 (t).b,.str (t).s,.int .i64 (t).lo,.lst (t).e ((t).l.map tV)]] (.tup [tV x,.bool (apR .inn t)]):=by
 by_cases hk:(p0 t).k=t.k
 ·refine ⟨resR .inn t,fun _=>rfl,runsTo tg91 rfl rfl ?_⟩
  have d:decide ((p0 t).k=t.k)=true:=decide_eq_true hk
  simp (disch:=first | exact d_Y6 | fail) only [c91,TL,hk,d,EVS,Nat.reduceAdd,Nat.reduceSub,Int.reduceToNat,Nat.reduceMul,Nat.reduceEqDiff,Nat.reduceLeDiff,Int.reduceEq,Int.reduceLT,Int.reduceLE,↓reduceIte]
  have hw:IntKind.i64.wrap (t.lo + (t.l.getD 0 default).lo)=t.lo + (t.l.getD 0 default).lo:=wrap64 (by have:=hb.2.2.1;unfold p0 at this;omega) (by have:=hb.2.2.2;unfold p0 at this;omega)
  rw [hw]
  simp only [apR,resR,tV_eq,d]
  rfl
 ·have d:decide ((p0 t).k=t.k)=false:=decide_eq_false hk
  refine ⟨t,(fun h=>by simp only [apR,d] at h;cases h),runsTo tg91 rfl rfl ?_⟩
  simp (disch:=first | exact d_Y6 | fail) only [c91,TL,hk,d,EVS,Nat.reduceAdd,Nat.reduceSub,Int.reduceToNat,Nat.reduceMul,Nat.reduceEqDiff,Nat.reduceLeDiff,Int.reduceEq,Int.reduceLT,Int.reduceLE,↓reduceIte]
  simp only [apR,tV_eq,d]
theorem joi_spec (t:Te) (h0:1 < t.l.length) (h1:(p1 t).k=22→0 < (p1 t).l.length):RunsTo 89 [.agg [.int .u8 (t).k,.int .i64 (t).w,.int .u64 (t).b,.str (t).s,.int .i64 (t).lo,.lst (t).e ((t).l.map tV)]] (.tup [tV (resR .joi t),.bool (apR .joi t)]):=by
 refine runsTo tg89 rfl rfl ?_
 have i0:=is_spec (p0 t) 0
 by_cases hk:(p1 t).k=22
 ·have h1:0 < (t.l.getD 1 default).l.length:=h1 hk
  have hk':(t.l.getD 1 default).k=22:=hk
  simp (disch:=first | exact d_Y6 | fail) only [c89,TL,hk',i0,EVS,Nat.reduceAdd,Nat.reduceSub,Int.reduceToNat,Nat.reduceMul,Nat.reduceEqDiff,Nat.reduceLeDiff,Int.reduceEq,Int.reduceLT,Int.reduceLE,↓reduceIte]
  simp only [apR,resR,joiY,if_pos hk,tV_eq,Tm'.l,List.map_cons,List.map_nil]
  rfl
 ·simp (disch:=first | exact d_Y6 | fail) only [c89,TL,hk,i0,EVS,Nat.reduceAdd,Nat.reduceSub,Int.reduceToNat,Nat.reduceMul,Nat.reduceEqDiff,Nat.reduceLeDiff,Int.reduceEq,Int.reduceLT,Int.reduceLE,↓reduceIte]
  simp only [apR,resR,joiY,if_neg hk,tV_eq,Tm'.l,List.map_cons,List.map_nil]
  rfl
theorem GT_of {t:Te} (ht:TOk t) (hc:checkS t=0):GT t:=⟨(nodes_of_check hc).1,ht⟩
def opT (k w:Int) (l:List Te):Te:=.mk k w 0 [] 0 false l
def zC (w c:Int):Te:=.mk 1 w c [] 0 false []
theorem red_con (w c:Int):redT (conT w c)=zC w c:=by
 rw [redT_eq]
 exact step_nf ⟨rfl,fun R hR=>by cases hR⟩
theorem GT_op2 {k w:Int} {a b:Te} (ha:GT a) (hb:GT b) (hk:5 ≤ k∧k ≤ 15) (e1:a.w=w) (e2:b.w=w):GT (opT k w [a,b]):=by
 have hw:=nodesOk_wide ha.1
 have hm:∀ y,y ∈ nodesT (opT k w [a,b]) ↔ y=opT k w [a,b] ∨ y ∈ nodesT a ∨ y ∈ nodesT b:=fun y=>by
  rw [opT,nodes_mk];simp
 constructor
 ·intro y hy
  rcases (hm y).1 hy with rfl | hy | hy
  ·exact (node_k5 (t:=opT k w [a,b]) hk).2 ⟨by unfold wideS;show 1 ≤ w∧w ≤ 64;omega,rfl,rfl,rfl,rfl,e1,e2⟩
  ·exact ha.1 y hy
  ·exact hb.1 y hy
 ·intro y hy
  rcases (hm y).1 hy with rfl | hy | hy
  ·exact ⟨⟨by show 0 ≤ k;omega,by show k < 256;omega⟩,⟨by show _ ≤ w;omega,by show w ≤ _;omega⟩,⟨by show (0:Int) ≤ 0;decide,by show (0:Int) < _;decide⟩,by show (0:Nat) ≤ _;decide,⟨by show _ ≤ (0:Int);decide,by show (0:Int) ≤ _;decide⟩,by show (2:Nat) ≤ _;decide⟩
  ·exact ha.2 y hy
  ·exact hb.2 y hy
theorem GT_op3 {w:Int} {c a b:Te} (hc:GT c) (ha:GT a) (hb:GT b) (e0:c.w=1) (e1:a.w=w) (e2:b.w=w):GT (opT 19 w [c,a,b]):=by
 have hw:=nodesOk_wide ha.1
 have hm:∀ y,y ∈ nodesT (opT 19 w [c,a,b]) ↔ y=opT 19 w [c,a,b] ∨ y ∈ nodesT c ∨ y ∈ nodesT a ∨ y ∈ nodesT b:=fun y=>by
  rw [opT,nodes_mk];simp
 constructor
 ·intro y hy
  rcases (hm y).1 hy with rfl | hy | hy | hy
  ·exact (node_k19 (t:=opT 19 w [c,a,b]) rfl).2 ⟨by unfold wideS;show 1 ≤ w∧w ≤ 64;omega,rfl,rfl,rfl,rfl,e0,e1,e2⟩
  ·exact hc.1 y hy
  ·exact ha.1 y hy
  ·exact hb.1 y hy
 ·intro y hy
  rcases (hm y).1 hy with rfl | hy | hy | hy
  ·exact ⟨⟨by show (0:Int) ≤ 19;decide,by show (19:Int) < 256;decide⟩,⟨by show _ ≤ w;omega,by show w ≤ _;omega⟩,⟨by show (0:Int) ≤ 0;decide,by show (0:Int) < _;decide⟩,by show (0:Nat) ≤ _;decide,⟨by show _ ≤ (0:Int);decide,by show (0:Int) ≤ _;decide⟩,by show (3:Nat) ≤ _;decide⟩
  ·exact hc.2 y hy
  ·exact ha.2 y hy
  ·exact hb.2 y hy
theorem con_er {r:Te} (h:GT r) (hk:r.k=1):er r=er (conT r.w r.b):=by
 obtain ⟨_,hl,hlo,hs,_⟩:=(node_k1 hk).1 ((nodesOk_iff _).1 h.1).1
 rw [er_eq,er_eq (conT r.w r.b),hk,hs,hlo,List.length_eq_zero_iff.1 hl];rfl
theorem con_lt {r:Te} (h:GT r) (hk:r.k=1):r.b.toNat < 2 ^ r.w.toNat∧0 ≤ r.b:=by
 obtain ⟨_,_,_,_,ho⟩:=(node_k1 hk).1 ((nodesOk_iff _).1 h.1).1
 exact ⟨okS_nat ho h.2.self.2.2.1.1,h.2.self.2.2.1.1⟩
theorem bin_law {k w:Int} {a b s:Te} (hk:5 ≤ k∧k ≤ 15) (wa:a.w=w)
  (hc:a.k=1→b.k=1→er (conT w ((opN k w.toNat a.b.toNat b.b.toNat:Nat):Int))=er s)
  (hf:¬ (a.k=1∧b.k=1)→er (firstR (rulesN k.toNat) (.mk k w 0 [] 0 false [a,b]))=er s):er (stepT (.mk k w 0 [] 0 false [a,b]))=er s:=by
 unfold stepT
 by_cases h:a.k=1∧b.k=1
 ·have hcp:constP (.mk k w 0 [] 0 false [a,b])=true:=constP_iff.2 ⟨show k ≠ 24 by omega,by simp [Tm'.l],fun x hx=>by
   have hx:x ∈ [a,b]:=hx
   simp only [List.mem_cons,List.not_mem_nil,or_false] at hx
   rcases hx with rfl | rfl
   ·exact h.1
   ·exact h.2⟩
  have hv:=v_op (ρ:=rho0) (m:=[]) (t:=.mk k w 0 [] 0 false [a,b]) (show 5 ≤ k∧k ≤ 18 by omega) rfl
  have e0:p0 (.mk k w 0 [] 0 false [a,b])=a:=rfl
  have e1:p1 (.mk k w 0 [] 0 false [a,b])=b:=rfl
  rw [hcp,if_pos rfl,hv,e0,e1,vM_con h.1,vM_con h.2,wa]
  exact hc h.1 h.2
 ·have hcp:constP (.mk k w 0 [] 0 false [a,b])=false:=by
   cases hh:constP (.mk k w 0 [] 0 false [a,b]) with
   |false=>rfl
   |true =>
    have:=(constP_iff.1 hh).2.2
    exact absurd ⟨this a (by show a ∈ [a,b];simp),this b (by show b ∈ [a,b];simp)⟩ h
  rw [hcp,if_neg (by decide)]
  exact hf h
theorem isK_no {r:Te} (h:r.k ≠ 1) (c:Int):isK r c=false:=by simp [isK,h]
theorem isK_z {w c d:Int}:isK (zC w c) d=decide (c=d):=by
 show (decide ((1:Int)=1) && decide (c=d))=_
 rw [decide_eq_true rfl,Bool.true_and]
section
variable {w:Int} {r:Te} (hr:GT r) (hw:r.w=w)
include hr hw
theorem w_bd:1 ≤ w∧w ≤ 64:=by rw [← hw];exact nodesOk_wide hr.1
theorem back (hk:r.k=1):er (conT w ((r.b.toNat:Nat):Int))=er r:=by
 rw [con_er hr hk,hw,Int.toNat_of_nonneg (con_lt hr hk).2]
theorem lt_b (hk:r.k=1):r.b.toNat < 2 ^ w.toNat:=by rw [← hw];exact (con_lt hr hk).1
theorem sl5r:er (stepT (.mk 5 w 0 [] 0 false [r,zC w 0]))=er r:=by
 refine bin_law (by omega) hw (fun h _=>?_) fun h=>?_
 ·have e:opN 5 w.toNat r.b.toNat (zC w 0).b.toNat=r.b.toNat:=o5r (lt_b hr hw h)
  rw [e];exact back hr hw h
 ·have h1:r.k ≠ 1:=fun e=>h ⟨e,rfl⟩
  simp [rulesN,firstR,apR,resR,outR,isK_no h1,isK_z,vW_0,Tm'.l]
theorem sl5l:er (stepT (.mk 5 w 0 [] 0 false [zC w 0,r]))=er r:=by
 refine bin_law (by omega) rfl (fun _ h=>?_) fun h=>?_
 ·have e:opN 5 w.toNat (zC w 0).b.toNat r.b.toNat=r.b.toNat:=o5l (lt_b hr hw h)
  rw [e];exact back hr hw h
 ·simp [rulesN,firstR,apR,resR,outR,isK_z,vW_0,Tm'.l]
theorem sl6r:er (stepT (.mk 6 w 0 [] 0 false [r,zC w 0]))=er r:=by
 refine bin_law (by omega) hw (fun h _=>?_) fun h=>?_
 ·have e:opN 6 w.toNat r.b.toNat (zC w 0).b.toNat=r.b.toNat:=o6r (lt_b hr hw h)
  rw [e];exact back hr hw h
 ·simp [rulesN,firstR,apR,resR,outR,isK_z,vW_0,Tm'.l]
theorem sl7l:er (stepT (.mk 7 w 0 [] 0 false [zC w 1,r]))=er r:=by
 obtain ⟨w1,w2⟩:=w_bd hr hw
 refine bin_law (by omega) rfl (fun _ h=>?_) fun h=>?_
 ·have e:opN 7 w.toNat (zC w 1).b.toNat r.b.toNat=r.b.toNat:=o7l1 (lt_b hr hw h)
  rw [e];exact back hr hw h
 ·have h1:r.k ≠ 1:=fun e=>h ⟨rfl,e⟩
  have e1:vW (zC w 1).w 1=1:=vW_1 w1
  simp [rulesN,firstR,apR,resR,outR,isK_no h1,isK_z,vW_0,e1,Tm'.l]
theorem ones_ne:(2:Int) ^ w.toNat - 1 ≠ 0:=by
 obtain ⟨w1,w2⟩:=w_bd hr hw
 have:(2:Int) ^ 1 ≤ 2 ^ w.toNat:=pow_le (by omega)
 omega
theorem sl8r:er (stepT (.mk 8 w 0 [] 0 false [r,zC w (2 ^ w.toNat - 1)]))=er r:=by
 obtain ⟨w1,w2⟩:=w_bd hr hw
 have hz:=ones_ne hr hw
 refine bin_law (by omega) hw (fun h _=>?_) fun h=>?_
 ·have e:opN 8 w.toNat r.b.toNat (zC w (2 ^ w.toNat - 1)).b.toNat=r.b.toNat:=by
   show opN 8 w.toNat r.b.toNat ((2:Int) ^ w.toNat - 1).toNat=_
   rw [topN];exact o8rt (lt_b hr hw h)
  rw [e];exact back hr hw h
 ·have h1:r.k ≠ 1:=fun e=>h ⟨e,rfl⟩
  have e1:vW (zC w (2 ^ w.toNat - 1)).w topI=2 ^ w.toNat - 1:=vW_top w2
  simp [rulesN,firstR,apR,resR,outR,isK_no h1,isK_z,vW_0,e1,hz,Tm'.l]
theorem sl9l:er (stepT (.mk 9 w 0 [] 0 false [zC w 0,r]))=er r:=by
 obtain ⟨w1,w2⟩:=w_bd hr hw
 have hz:=ones_ne hr hw
 refine bin_law (by omega) rfl (fun _ h=>?_) fun h=>?_
 ·have e:opN 9 w.toNat (zC w 0).b.toNat r.b.toNat=r.b.toNat:=o9l0
  rw [e];exact back hr hw h
 ·have h1:r.k ≠ 1:=fun e=>h ⟨rfl,e⟩
  have e1:vW (zC w 0).w topI=2 ^ w.toNat - 1:=vW_top w2
  have hz':¬ (0:Int)=2 ^ w.toNat - 1:=fun e=>hz e.symm
  simp [rulesN,firstR,apR,resR,outR,isK_no h1,isK_z,vW_0,e1,hz',Tm'.l]
theorem sl9s:er (stepT (.mk 9 w 0 [] 0 false [r,r]))=er r:=by
 refine bin_law (by omega) hw (fun h _=>?_) fun h=>?_
 ·have e:opN 9 w.toNat r.b.toNat r.b.toNat=r.b.toNat:=o9s
  rw [e];exact back hr hw h
 ·have h1:r.k ≠ 1:=fun e=>h ⟨e,e⟩
  simp [rulesN,firstR,apR,resR,outR,isK_no h1,sameT_refl,Tm'.l]
theorem sl10r:er (stepT (.mk 10 w 0 [] 0 false [r,zC w 0]))=er r:=by
 refine bin_law (by omega) hw (fun h _=>?_) fun h=>?_
 ·have e:opN 10 w.toNat r.b.toNat (zC w 0).b.toNat=r.b.toNat:=o10r
  rw [e];exact back hr hw h
 ·have h1:r.k ≠ 1:=fun e=>h ⟨e,rfl⟩
  simp [rulesN,firstR,apR,resR,outR,isK_no h1,isK_z,vW_0,Tm'.l]
theorem sl11r:er (stepT (.mk 11 w 0 [] 0 false [r,zC w 0]))=er r:=by
 refine bin_law (by omega) hw (fun h _=>?_) fun h=>?_
 ·have e:opN 11 w.toNat r.b.toNat (zC w 0).b.toNat=r.b.toNat:=o11r (lt_b hr hw h)
  rw [e];exact back hr hw h
 ·simp [rulesN,firstR,apR,resR,outR,isK_z,vW_0,Tm'.l]
theorem sl13r:er (stepT (.mk 13 w 0 [] 0 false [r,zC w 0]))=er r:=by
 refine bin_law (by omega) hw (fun h _=>?_) fun h=>?_
 ·have e:opN 13 w.toNat r.b.toNat (zC w 0).b.toNat=r.b.toNat:=o13r (lt_b hr hw h)
  rw [e];exact back hr hw h
 ·simp [rulesN,firstR,apR,resR,outR,isK_z,vW_0,Tm'.l]
theorem nl6:er (stepT (.mk 6 w 0 [] 0 false [r,r]))=er (conT w 0):=by
 refine bin_law (by omega) hw (fun h _=>?_) fun h=>?_
 ·have e:opN 6 w.toNat r.b.toNat r.b.toNat=0:=o6s (lt_b hr hw h)
  rw [e];rfl
 ·have h1:r.k ≠ 1:=fun e=>h ⟨e,e⟩
  simp [rulesN,firstR,apR,resR,outR,isK_no h1,sameT_refl,vW_0,Tm'.l,Tm'.w]
theorem nl10:er (stepT (.mk 10 w 0 [] 0 false [r,r]))=er (conT w 0):=by
 refine bin_law (by omega) hw (fun h _=>?_) fun h=>?_
 ·have e:opN 10 w.toNat r.b.toNat r.b.toNat=0:=o10s
  rw [e];rfl
 ·have h1:r.k ≠ 1:=fun e=>h ⟨e,e⟩
  simp [rulesN,firstR,apR,resR,outR,isK_no h1,sameT_refl,vW_0,Tm'.l,Tm'.w]
theorem nl7:er (stepT (.mk 7 w 0 [] 0 false [r,zC w 0]))=er (conT w 0):=by
 refine bin_law (by omega) hw (fun h _=>?_) fun h=>?_
 ·have e:opN 7 w.toNat r.b.toNat (zC w 0).b.toNat=0:=o7r0
  rw [e];rfl
 ·have h1:r.k ≠ 1:=fun e=>h ⟨e,rfl⟩
  simp [rulesN,firstR,apR,resR,outR,isK_no h1,isK_z,vW_0,Tm'.l,Tm'.w]
theorem nl8:er (stepT (.mk 8 w 0 [] 0 false [zC w 0,r]))=er (conT w 0):=by
 refine bin_law (by omega) rfl (fun _ h=>?_) fun h=>?_
 ·have e:opN 8 w.toNat (zC w 0).b.toNat r.b.toNat=0:=o8l0
  rw [e];rfl
 ·simp [rulesN,firstR,apR,resR,outR,isK_z,vW_0,Tm'.l,Tm'.w]
theorem nl15:er (stepT (.mk 15 w 0 [] 0 false [r,zC w 1]))=er (conT w 0):=by
 obtain ⟨w1,w2⟩:=w_bd hr hw
 refine bin_law (by omega) hw (fun h _=>?_) fun h=>?_
 ·have e:opN 15 w.toNat r.b.toNat (zC w 1).b.toNat=0:=o15r
  rw [e];rfl
 ·have e1:apR (.rgt 1 (.num 0)) (.mk 15 w 0 [] 0 false [r,zC w 1])=true:=by
   show isK (zC w 1) (vW w 1)=true
   rw [vW_1 w1,isK_z];rfl
  show er (firstR [.rgt 1 (.num 0)] _)=_
  simp only [firstR,e1,↓reduceIte]
  show er (conT w (vW w 0))=_
  rw [vW_0]
theorem nl12:er (stepT (.mk 12 w 0 [] 0 false [zC w 0,r]))=er (conT w 0):=by
 refine bin_law (by omega) rfl (fun _ h=>?_) fun h=>?_
 ·have e:opN 12 w.toNat (zC w 0).b.toNat r.b.toNat=0:=o12l
  rw [e];rfl
 ·have h1:r.k ≠ 1:=fun e=>h ⟨rfl,e⟩
  simp [rulesN,firstR,apR,resR,outR,isK_no h1,isK_z,vW_0,h1,Tm'.l,Tm'.w]
theorem ite_law {c:Int} {a b:Te} (hc:a.k=1→b.k=1→er (conT w ((if c=1 then a.b.toNat else b.b.toNat:Nat):Int))=er r) (h01:c=0 ∨ c=1) (hab:er (if c=1 then a else b)=er r):er (stepT (.mk 19 w 0 [] 0 false [zC 1 c,a,b]))=er r:=by
 unfold stepT
 by_cases h:a.k=1∧b.k=1
 ·have hcp:constP (.mk 19 w 0 [] 0 false [zC 1 c,a,b])=true:=constP_iff.2 ⟨show (19:Int) ≠ 24 by decide,by simp [Tm'.l],fun x hx=>by
   have hx:x ∈ [zC 1 c,a,b]:=hx
   simp only [List.mem_cons,List.not_mem_nil,or_false] at hx
   rcases hx with rfl | rfl | rfl
   ·rfl
   ·exact h.1
   ·exact h.2⟩
  have hv:=v_ite (ρ:=rho0) (m:=[]) (t:=.mk 19 w 0 [] 0 false [zC 1 c,a,b]) rfl rfl
  have e0:p0 (.mk 19 w 0 [] 0 false [zC 1 c,a,b])=zC 1 c:=rfl
  have e1:p1 (.mk 19 w 0 [] 0 false [zC 1 c,a,b])=a:=rfl
  have e2:p2 (.mk 19 w 0 [] 0 false [zC 1 c,a,b])=b:=rfl
  rw [hcp,if_pos rfl,hv,e0,e1,e2,vM_con h.1,vM_con h.2,vM_con (t:=zC 1 c) rfl]
  have h2:=hc h.1 h.2
  rcases h01 with rfl | rfl
  ·exact h2
  ·exact h2
 ·have hcp:constP (.mk 19 w 0 [] 0 false [zC 1 c,a,b])=false:=by
   cases hh:constP (.mk 19 w 0 [] 0 false [zC 1 c,a,b]) with
   |false=>rfl
   |true =>
    have:=(constP_iff.1 hh).2.2
    exact absurd ⟨this a (by show a ∈ [zC 1 c,a,b];simp),this b (by show b ∈ [zC 1 c,a,b];simp)⟩ h
  rw [hcp,if_neg (by decide)]
  rcases h01 with rfl | rfl
  ·simpa [rulesN,firstR,apR,resR,isK_z,Tm'.l,Tm'.k] using hab
  ·simpa [rulesN,firstR,apR,resR,isK_z,Tm'.l,Tm'.k] using hab
theorem sl19a:er (stepT (.mk 19 w 0 [] 0 false [zC 1 1,r,zC w 0]))=er r :=
 ite_law hr hw (fun h _=>by rw [if_pos rfl];exact back hr hw h) (.inr rfl) (by rw [if_pos rfl])
theorem sl19b:er (stepT (.mk 19 w 0 [] 0 false [zC 1 0,zC w 0,r]))=er r :=
 ite_law hr hw (fun _ h=>by rw [if_neg (by decide)];exact back hr hw h) (.inl rfl) (by rw [if_neg (by decide)])
end
theorem d_Y7 {P:Prop} (h:P:=by first|omega|(simp only[EVL]<;>omega)|(simp only[hget_c,Nat.reduceEqDiff,↓reduceIte];done)|assumption|(simp (disch:=omega) only[hg_ne,hg_eq,hgs_ne, *];done)|(simp only [TL,LAWSb];done)|with_unfolding_all rfl):P:=h
theorem len3 {t:Te} (h:GT t):t.l.length ≤ 3:=by
 have hself:=((nodesOk_iff t).1 h.1).1
 have h2:=hself.2
 split at h2
 ·have:=h2.2.2.2.1
  unfold partsS at this
  (repeat' split at this)<;>omega
 ·omega
theorem part_w {t x:Te} (h:GT t) (hx:x ∈ t.l):1 ≤ x.w∧x.w ≤ 64:=nodesOk_wide (h.sub hx).1
theorem cr_len (R:Rul):(cR R).length ≤ 2:=by cases R<;>simp [cR]
theorem cr_pure (R:Rul):pures (cR R)=true:=by
 cases R with
 |lft x o=>cases o<;>rfl
 |rgt x o=>cases o<;>rfl
 |sam o=>cases o<;>rfl
 |twi=>rfl
 |far=>rfl
 |cho=>rfl
 |joi=>rfl
 |who=>rfl
 |inn=>rfl
theorem rule_all {t:Te} (h:GT t) (hs:size t ≤ 1000000) {R:Rul} (hR:R ∈ rulesN t.k.toNat):∃ x,GivesR R t x∧RunsTo (fR R) (.agg [.int .u8 (t).k,.int .i64 (t).w,.int .u64 (t).b,.str (t).s,.int .i64 (t).lo,.lst (t).e ((t).l.map tV)]::cR R) (.tup [.agg [.int .u8 (x).k,.int .i64 (x).w,.int .u64 (x).b,.str (x).s,.int .i64 (x).lo,.lst (x).e ((x).l.map tV)],.bool (apR R t)]):=by
 have hself:=(nodesOk_iff t).1 h.1
 have hk:=rule_kinds h hR
 have hw:=hself.1.1
 unfold wideS at hw
 have go:∀ {x:Te},RunsTo (fR R) (.agg [.int .u8 (t).k,.int .i64 (t).w,.int .u64 (t).b,.str (t).s,.int .i64 (t).lo,.lst (t).e ((t).l.map tV)]::cR R) (.tup [tV x,.bool (apR R t)])→GivesR R t x→∃ x,GivesR R t x∧RunsTo (fR R) (.agg [.int .u8 (t).k,.int .i64 (t).w,.int .u64 (t).b,.str (t).s,.int .i64 (t).lo,.lst (t).e ((t).l.map tV)]::cR R) (.tup [.agg [.int .u8 (x).k,.int .i64 (x).w,.int .u64 (x).b,.str (x).s,.int .i64 (x).lo,.lst (x).e ((x).l.map tV)],.bool (apR R t)]):=fun {x} h1 h2=>⟨x,h2,by rw [tV_eq] at h1;exact h1⟩
 have gi:GivesR R t (resR R t):=fun _=>rfl
 have big:5 ≤ t.k∧t.k ≤ 18→t.l.length=2:=fun hh=>(two_parts h hh).1
 cases R with
 |lft x o =>
  have hl:=big (hk.2.1 (.inl ⟨_,_,rfl⟩))
  have w0:=part_w h (p0_mem (t:=t) (by omega))
  exact go (left_spec t (by omega) hw.1 hw.2 w0.1 w0.2 x o) gi
 |rgt x o =>
  have hl:=big (hk.2.1 (.inr (.inl ⟨_,_,rfl⟩)))
  have w0:=part_w h (p1_mem (t:=t) (by omega))
  exact go (right_spec t (by omega) hw.1 hw.2 w0.1 w0.2 x o) gi
 |sam o =>
  have hl:=big (hk.2.1 (.inr (.inr (.inl ⟨_,rfl⟩))))
  exact go (samR_spec t hs (by omega) hw.1 hw.2 o) gi
 |far =>
  have hl:=big (hk.2.1 (.inr (.inr (.inr rfl))))
  exact go (far_spec t (by omega) hw.1 hw.2) gi
 |twi =>
  have k:=hk.1 rfl
  obtain ⟨_,_,_,_,hl,_⟩:=(node_k34 k).1 hself.1
  obtain ⟨x,h1,h2⟩:=twi_spec t (by omega) fun e=>by
   have m0:=p0_mem (t:=t) (by omega)
   obtain ⟨_,_,_,_,hl2,hs2⟩:=(node_k34 (t:=p0 t) (by rw [e];exact k)).1 ((nodesOk_iff _).1 (h.sub m0).1).1
   omega
  exact go h2 h1
 |cho =>
  have k:=hk.2.2.1 rfl
  obtain ⟨_,_,_,_,hl,_⟩:=(node_k19 k).1 hself.1
  exact go (cho_spec t hs (by omega)) gi
 |joi =>
  have k:=hk.2.2.2.1 rfl
  obtain ⟨_,_,_,_,hl,_⟩:=(node_k20 k).1 hself.1
  refine go (joi_spec t (by omega) fun e=>?_) gi
  have m1:=p1_mem (t:=t) (by omega)
  obtain ⟨_,_,_,_,hl2,hs2⟩:=(node_k22 (t:=p1 t) (.inl e)).1 ((nodesOk_iff _).1 (h.sub m1).1).1
  omega
 |who =>
  have k:=hk.2.2.2.2 (.inl rfl)
  have hl:t.l.length=1:=by
   rcases k with k | k
   ·exact ((node_k21 k).1 hself.1).2.2.2.2.1
   ·exact ((node_k22 k).1 hself.1).2.2.2.2.1
  exact go (who_spec t (by omega)) gi
 |inn =>
  have k:=hk.2.2.2.2 (.inr rfl)
  have hl:t.l.length=1:=by
   rcases k with k | k
   ·exact ((node_k21 k).1 hself.1).2.2.2.2.1
   ·exact ((node_k22 k).1 hself.1).2.2.2.2.1
  have lo:∀ {x:Te},GT x→-1000 ≤ x.lo∧x.lo ≤ 1000:=fun {x} hx=>by
   have hsx:=((nodesOk_iff x).1 hx.1).1
   have hh:=hsx.2
   split at hh
   ·rcases hh.2.2.1 with e | e
    ·omega
    ·have hwd:=hh.2.2.2.2
     rw [e] at hwd
     simp only [widthsS,Int.reduceEq,↓reduceIte,wideS] at hwd
     have:=hsx.1
     unfold wideS at this
     omega
   ·omega
  have a1:=lo h
  have a2:=lo (h.sub (p0_mem (t:=t) (by omega)))
  obtain ⟨x,h1,h2⟩:=inn_spec t (by omega) ⟨a1.1,a1.2,a2.1,a2.2⟩
  exact go h2 h1
theorem const_err {t:Te} (h:GT t) (hc:constP t=true):valErr t [] []=0:=by
 obtain ⟨c1,c2,c3⟩:=constP_iff.1 hc
 have hself:=(nodesOk_iff t).1 h.1
 have hleaf:∀ x ∈ t.l,x.l=[]:=fun x hx=>List.length_eq_zero_iff.1 ((node_k1 (c3 x hx)).1 (hself.2 x hx x (mem_nodes x))).2.1
 have h3:=len3 h
 have hsz:∀ l:List Te,(∀ x ∈ l,x.l=[])→sizes l=l.length∧depths l ≤ 1:=by
  intro l
  induction l with
  |nil=>intro _;exact ⟨rfl,Nat.zero_le _⟩
  |cons a l ih =>
   intro hh
   obtain ⟨i1,i2⟩:=ih fun x hx=>hh x (by simp [hx])
   have ha:=hh a (by simp)
   rw [sizes_cons,depths_cons,size_eq,depth_eq,ha,i1,List.length_cons]
   exact ⟨by simp only [sizes];omega,by simp only [depths];omega⟩
 obtain ⟨s1,s2⟩:=hsz t.l hleaf
 have hvar:varList t=[]:=by
  refine List.eq_nil_iff_forall_not_mem.2 fun p hp=>?_
  obtain ⟨y,hy,hk,_⟩:=varL_mem.1 hp
  rw [nodes_eq,List.mem_cons,nodesL_in] at hy
  rcases hy with rfl | ⟨x,hx,hy⟩
  ·exact c2 (List.length_eq_zero_iff.1 ((node_k2 hk).1 hself.1).2.1)
  ·rw [nodes_eq,hleaf x hx,List.mem_cons] at hy
   rcases hy with rfl | hy
   ·rw [c3 _ hx] at hk;cases hk
   ·cases hy
 have hz:=size_eq t
 have hd:=depth_eq t
 refine valErr_of ?_ ?_ ?_ fun p hp=>by rw [hvar] at hp;cases hp
 ·rw [check_in (by omega) h.1]
  cases hv:varsE t with
  |inl en=>rfl
  |inr u=>exact absurd (fun s v w hv=>by rw [hvar] at hv;cases hv) (varsE_no hv)
 ·exact (chkB_ok (by simp) (fun i hi=>by simp at hi)).symm
 ·exact (chkM_ok (by simp) (fun i hi=>by simp at hi)).symm
abbrev cstT (t:Te):Te:=if constP t then conT t.w (vM rho0 [] t:Nat) else t
abbrev cstV (t:Te):FV:=.tup [.agg [.int .u8 (cstT t).k,.int .i64 (cstT t).w,.int .u64 (cstT t).b,.str (cstT t).s,.int .i64 (cstT t).lo,.lst (cstT t).e ((cstT t).l.map tV)],.bool (constP t)]
theorem const_loop (t:Te) (h:GT t) (hs:size t ≤ 1000000) (h24:t.k ≠ 24) (hne:t.l ≠ []):∀ (k i:Nat),i + k=t.l.length→(∀ j,j < i→(t.l.getD j default).k=1) →
  @Ok Out (runs T [.code b49_0,.inL (some 16) b49_0,.inB 0,.code k49_1] [(1,.ptr 0 1 0 0),(2,.ptr 1 1 0 0),(19,.lst t.e (t.l.map tV)),(20,.int .i64 t.l.length),(21,.int .i64 i)] [(1,.row 6 [.agg [.int .u8 0,.int .i64 0,.int .u64 0,.str [],.int .i64 0,.lst true []]]),(0,.row 6 [.agg [.int .u8 (t).k,.int .i64 (t).w,.int .u64 (t).b,.str (t).s,.int .i64 (t).lo,.lst (t).e ((t).l.map tV)]])] 16) ⟨fun x=>resV c49.res x=some (cstV t)⟩:=by
 intro k
 induction k with
 |zero =>
  intro i hi hj
  have d1:decide ((i:Int) < t.l.length)=false:=by simp;omega
  have hc:constP t=true:=constP_iff.2 ⟨h24,hne,fun x hx=>by
   obtain ⟨j,hjl,rfl⟩:=List.mem_iff_getElem.1 hx
   have:=hj j (by omega)
   simpa [List.getD,hjl] using this⟩
  have hv:=valueF_pure true true t h.2 hs (fun x hx=>(h.2 x hx).1.1) [] (by simp) (fun p hp=>by cases hp) [] okM_nil (by simp)
  unfold valV at hv
  rw [const_err h hc,if_pos rfl] at hv
  simp only [List.map_nil] at hv
  have hcn:=con_spec t.w (vM rho0 [] t:Nat)
  unfold cstV cstT
  rw [hc,if_pos rfl]
  simp (disch:=first | exact d_Y7 | fail) only [unf b49_0.eq_1,unf k49_1.eq_1,c49,d1,TL,hv,hcn,EVS,Nat.reduceAdd,Nat.reduceSub,Int.reduceToNat,Nat.reduceMul,Nat.reduceEqDiff,Nat.reduceLeDiff,Int.reduceEq,Int.reduceLT,Int.reduceLE,↓reduceIte]
 |succ k ih =>
  intro i hi hj
  have d1:decide ((i:Int) < t.l.length)=true:=by simp;omega
  have hil:i < t.l.length:=by omega
  have h3:=len3 h
  by_cases hk:(t.l.getD i default).k=1
  ·simp (disch:=first | exact d_Y7 | fail) only [unf b49_0.eq_1,c49,d1,TL,hk,EVS,Nat.reduceAdd,Nat.reduceSub,Int.reduceToNat,Nat.reduceMul,Nat.reduceEqDiff,Nat.reduceLeDiff,Int.reduceEq,Int.reduceLT,Int.reduceLE,↓reduceIte]
   exact Ok_inL (by decide) (by simp [lowTm,low,lows,TL,LAWSb]) (by simp [cutH,lowHeap,lowObj,lows,low,TL,LAWSb]) (ih (i + 1) (by omega) (fun j hjl=>by
    by_cases e:j=i
    ·subst e;exact hk
    ·exact hj j (by omega)))
  ·have d2:decide ((t.l.getD i default).k=1)=false:=decide_eq_false hk
   have hc:constP t=false:=by
    cases hcc:constP t with
    |false=>rfl
    |true=>exact absurd ((constP_iff.1 hcc).2.2 _ (getD_mem hil)) hk
   unfold cstV cstT
   rw [hc,if_neg (by decide)]
   simp (disch:=first | exact d_Y7 | fail) only [unf b49_0.eq_1,c49,d1,d2,TL,EVS,Nat.reduceAdd,Nat.reduceSub,Int.reduceToNat,Nat.reduceMul,Nat.reduceEqDiff,Nat.reduceLeDiff,Int.reduceEq,Int.reduceLT,Int.reduceLE,↓reduceIte]
theorem const_spec (t:Te) (h:GT t) (hs:size t ≤ 1000000):RunsTo 49 [.agg [.int .u8 (t).k,.int .i64 (t).w,.int .u64 (t).b,.str (t).s,.int .i64 (t).lo,.lst (t).e ((t).l.map tV)]] (cstV t):=by
 refine runsTo tg49 rfl rfl ?_
 by_cases h24:t.k=24
 ·have hc:constP t=false:=by unfold constP;simp [h24]
  unfold cstV cstT
  rw [hc,if_neg (by decide)]
  simp (disch:=first | exact d_Y7 | fail) only [c49,TL,h24,EVS,Nat.reduceAdd,Nat.reduceSub,Int.reduceToNat,Nat.reduceMul,Nat.reduceEqDiff,Nat.reduceLeDiff,Int.reduceEq,Int.reduceLT,Int.reduceLE,↓reduceIte]
 ·have d2:decide (t.k=24)=false:=decide_eq_false h24
  by_cases hne:t.l=[]
  ·have hc:constP t=false:=by unfold constP;simp [hne]
   have hl:((t.l.length:Nat):Int)=0:=by rw [hne];rfl
   unfold cstV cstT
   rw [hc,if_neg (by decide)]
   simp (disch:=first | exact d_Y7 | fail) only [c49,TL,d2,hl,EVS,Nat.reduceAdd,Nat.reduceSub,Int.reduceToNat,Nat.reduceMul,Nat.reduceEqDiff,Nat.reduceLeDiff,Int.reduceEq,Int.reduceLT,Int.reduceLE,↓reduceIte]
  ·have hl:decide (((t.l.length:Nat):Int)=0)=false:=decide_eq_false (by have:=List.length_pos_iff.2 hne;omega)
   have lp:=const_loop t h hs h24 hne t.l.length 0 (by omega) (fun j hj=>by omega)
   simp (disch:=first | exact d_Y7 | fail) only [c49,TL,d2,hl,EVS,Nat.reduceAdd,Nat.reduceSub,Int.reduceToNat,Nat.reduceMul,Nat.reduceEqDiff,Nat.reduceLeDiff,Int.reduceEq,Int.reduceLT,Int.reduceLE,↓reduceIte]
   exact lp
theorem d_Y8 {P:Prop} (h:P:=by first|omega|(simp only[EVL]<;>omega)|(simp only[hget_c,Nat.reduceEqDiff,↓reduceIte];done)|assumption|(simp (disch:=omega) only[hg_ne,hg_eq,hgs_ne, *];done)|(simp only [TL,LAWSb];done)|with_unfolding_all rfl):P:=h
abbrev zA:FV:=.agg [.int .u8 0,.int .i64 0,.int .u64 0,.str [],.int .i64 0,.lst true []]
theorem red_loop (t:Te) (hl:t.l.length ≤ 3) (ih:∀ x ∈ t.l,∀ h nx,lim T 31 [.agg [.int .u8 (x).k,.int .i64 (x).w,.int .u64 (x).b,.str (x).s,.int .i64 (x).lo,.lst (x).e ((x).l.map tV)]] h nx=some (.agg [.int .u8 (redT x).k,.int .i64 (redT x).w,.int .u64 (redT x).b,.str (redT x).s,.int .i64 (redT x).lo,.lst (redT x).e ((redT x).l.map tV)],h,nx)) (Q:Post Out)
  (next:@Ok Out (runs T [.code k31_3] [(1,.ptr 0 1 0 0),(2,.ptr 1 1 0 0),(3,.sref 6 2 t.l.length 0 t.l.length),(13,.lst t.e (t.l.map tV)),(14,.int .i64 t.l.length),(15,.int .i64 t.l.length),(16,.bool false)] [(2,.row 6 ((t.l.map redT).map tV)),(1,.row 6 [zA]),(0,.row 6 [.agg [.int .u8 (t).k,.int .i64 (t).w,.int .u64 (t).b,.str (t).s,.int .i64 (t).lo,.lst (t).e ((t).l.map tV)]])] 8) Q):∀ (k i:Nat),i + k=t.l.length →
  @Ok Out (runs T [.code b31_0,.inL (some 7) b31_0,.inB 0,.code k31_3] [(1,.ptr 0 1 0 0),(2,.ptr 1 1 0 0),(3,.sref 6 2 i 0 i),(13,.lst t.e (t.l.map tV)),(14,.int .i64 t.l.length),(15,.int .i64 i)]
   [(2,.row 6 (((t.l.map redT).take i).map tV)),(1,.row 6 [zA]),(0,.row 6 [.agg [.int .u8 (t).k,.int .i64 (t).w,.int .u64 (t).b,.str (t).s,.int .i64 (t).lo,.lst (t).e ((t).l.map tV)]])] 7) Q:=by
 intro k
 induction k with
 |zero =>
  intro i hi
  have d1:decide ((i:Int) < t.l.length)=false:=by simp;omega
  have hil:i=t.l.length:=by omega
  subst hil
  simp (disch:=first | exact d_Y8 | fail) only [unf b31_0.eq_1,c31,d1,LAWSb,EVS,Nat.reduceAdd,Nat.reduceSub,Int.reduceToNat,Nat.reduceMul,Nat.reduceEqDiff,Nat.reduceLeDiff,Int.reduceEq,Int.reduceLT,Int.reduceLE,↓reduceIte]
  exact next
 |succ k ihk =>
  intro i hi
  have d1:decide ((i:Int) < t.l.length)=true:=by simp;omega
  have hx:=ih _ (getD_mem (d:=default) (show i < t.l.length by omega))
  have hlen:(((t.l.map redT).take i).map tV).length=i:=by simp;omega
  simp (disch:=first | exact d_Y8 | fail) only [unf b31_0.eq_1,c31,d1,LAWSb,hx,hlen,EVS,Nat.reduceAdd,Nat.reduceSub,Int.reduceToNat,Nat.reduceMul,Nat.reduceEqDiff,Nat.reduceLeDiff,Int.reduceEq,Int.reduceLT,Int.reduceLE,↓reduceIte]
  have hq:=ihk (i + 1) (by omega)
  rw [take_succ (by simp;omega),map_getD _ (by omega),List.map_append,List.map_cons,List.map_nil,tV_eq] at hq
  exact Ok_inL (by decide) (by simp [lowTm,low,lows,LAWSb]) (by simp [cutH,lowHeap,lowObj,lows,low,lows_app',LAWSb,lo_tm,-List.map_map,-List.map_take]) hq
abbrev ownT (t:Te):FV:=.agg [.int .u8 t.k,.int .i64 t.w,.int .u64 t.b,.str t.s,.int .i64 t.lo,.sref 6 2 t.l.length 0 t.l.length]
theorem rul_loop (u:Te) (hu:GT u) (he:u.e=false) (hs:size u ≤ 1000000) (L:List Rul) (hLl:L.length ≤ 10) (e:Bool) (hL:∀ R ∈ L,R ∈ rulesN u.k.toNat):∀ (k i:Nat),i + k=L.length →
  @Ok Out (runs T [.code b31_1,.inL (some 25) b31_1,.inB 2,.code k31_2] [(1,.ptr 0 1 0 0),(2,.ptr 1 1 0 0),(36,.lst e (L.map rV)),(37,.int .i64 L.length),(38,.int .i64 i)]
   [(16,.row 6 [.agg [.int .u8 (u).k,.int .i64 (u).w,.int .u64 (u).b,.str (u).s,.int .i64 (u).lo,.lst (u).e ((u).l.map tV)]]),(2,.fro 6 (u.l.map tV)),(1,.row 6 [zA]),(0,.row 6 [ownT u])] 25) ⟨fun x=>resV c31.res x=some (.agg [.int .u8 (firstR (L.drop i) u).k,.int .i64 (firstR (L.drop i) u).w,.int .u64 (firstR (L.drop i) u).b,.str (firstR (L.drop i) u).s,.int .i64 (firstR (L.drop i) u).lo,.lst (firstR (L.drop i) u).e ((firstR (L.drop i) u).l.map tV)])⟩:=by
 intro k
 induction k with
 |zero =>
  intro i hi
  have d1:decide ((i:Int) < L.length)=false:=by simp;omega
  have e0:firstR (L.drop i) u=u:=by rw [List.drop_eq_nil_of_le (by omega)];rfl
  rw [e0]
  have hlen:(u.l.map tV).length=u.l.length:=by simp
  have h3:=len3 hu
  simp (disch:=first | exact d_Y8 | fail) only [unf b31_1.eq_1,unf k31_2.eq_1,c31,d1,LAWSb,hlen,EVS,Nat.reduceAdd,Nat.reduceSub,Int.reduceToNat,Nat.reduceMul,Nat.reduceEqDiff,Nat.reduceLeDiff,Int.reduceEq,Int.reduceLT,Int.reduceLE,↓reduceIte]
  rw [he]
 |succ k ihk =>
  intro i hi
  have hil:i < L.length:=by omega
  have d1:decide ((i:Int) < L.length)=true:=by simp;omega
  have hd:L.drop i=L[i]::L.drop (i + 1):=List.drop_eq_getElem_cons hil
  obtain ⟨x,hx,hrun⟩:=rule_all hu hs (hL _ (List.getElem_mem hil))
  generalize hRR:L[i]=R at *
  have hg:(L.map rV)[i]? = some (.fn (fR R) (cR R)):=by simp [hil,hRR,rV]
  have hg2:∀ d,(L.map rV).getD i d=.fn (fR R) (cR R):=fun d=>by simp [List.getD,hil,hRR,rV]
  have hc1:(FV.fn (fR R) (cR R)).cells=[.fn (fR R) (cR R)]:=rfl
  have hc2:pures (cR R)=true:=cr_pure R
  have hfz:∀ H,hget H 2=some (.fro 6 (u.l.map tV))→frzs H deep (ownT u::cR R)=some (.agg [.int .u8 (u).k,.int .i64 (u).w,.int .u64 (u).b,.str (u).s,.int .i64 (u).lo,.lst (u).e ((u).l.map tV)]::cR R):=fun H hH=>by
   have:=frz_own (k:=u.k) (w:=u.w) (b:=u.b) (s:=u.s) (lo:=u.lo) (.inr hH) (by have:=len3 hu;omega) (cr_pure R) (by have:=cr_len R;omega)
   rw [he];exact this
  have hcall:∀ H nx,hget H 2=some (.fro 6 (u.l.map tV))→lim T (fR R) (ownT u::cR R) H nx=some (.tup [.agg [.int .u8 (x).k,.int .i64 (x).w,.int .u64 (x).b,.str (x).s,.int .i64 (x).lo,.lst (x).e ((x).l.map tV)],.bool (apR R u)],H,nx):=fun H nx hH=>by
   have:=hrun (ownT u::cR R) H nx (hfz H hH) rfl
   rw [idL_own (.inr hH) (cr_pure R),froze_fro hH] at this
   exact this
  cases ha:apR R u with
  |true =>
   rw [ha] at hcall
   have e0:firstR (L.drop i) u=x:=by rw [hd];simp only [firstR,ha,↓reduceIte];exact (hx ha).symm
   rw [e0]
   simp (disch:=first | exact d_Y8 | fail) only [unf b31_1.eq_1,c31,d1,LAWSb,hg,hg2,hc1,hcall,EVS,Nat.reduceAdd,Nat.reduceSub,Int.reduceToNat,Nat.reduceMul,Nat.reduceEqDiff,Nat.reduceLeDiff,Int.reduceEq,Int.reduceLT,Int.reduceLE,↓reduceIte]
  |false =>
   rw [ha] at hcall
   have e0:firstR (L.drop i) u=firstR (L.drop (i + 1)) u:=by rw [hd];simp only [firstR,ha,Bool.false_eq_true,↓reduceIte]
   rw [e0]
   have hlr:∀ b,lows b (L.map rV)=true:=fun b=>lows_map (fun R=>by cases R<;>(try rfl)<;>rename_i o<;>cases o<;>rfl) _
   simp (disch:=first | exact d_Y8 | fail) only [unf b31_1.eq_1,c31,d1,LAWSb,hg,hg2,hc1,hcall,EVS,Nat.reduceAdd,Nat.reduceSub,Int.reduceToNat,Nat.reduceMul,Nat.reduceEqDiff,Nat.reduceLeDiff,Int.reduceEq,Int.reduceLT,Int.reduceLE,↓reduceIte]
   exact Ok_inL (by decide) (by simp [lowTm,low,lows,LAWSb,hlr]) (by simp [cutH,lowHeap,lowObj,lows,low,LAWSb]) (ihk (i + 1) (by omega))
theorem rules_len:∀ k,k < 25→(rulesN k).length ≤ 10:=by decide
theorem reduce_spec (t:Te) (h:GT t) (hs:size t ≤ 1000000):∀ H nx,lim T 31 [.agg [.int .u8 (t).k,.int .i64 (t).w,.int .u64 (t).b,.str (t).s,.int .i64 (t).lo,.lst (t).e ((t).l.map tV)]] H nx=some (.agg [.int .u8 (redT t).k,.int .i64 (redT t).w,.int .u64 (redT t).b,.str (redT t).s,.int .i64 (redT t).lo,.lst (redT t).e ((redT t).l.map tV)],H,nx):=by
 induction t using Tm'.ind with
 |h t ih =>
 have ih':∀ x ∈ t.l,∀ h nx,lim T 31 [.agg [.int .u8 (x).k,.int .i64 (x).w,.int .u64 (x).b,.str (x).s,.int .i64 (x).lo,.lst (x).e ((x).l.map tV)]] h nx=some (.agg [.int .u8 (redT x).k,.int .i64 (redT x).w,.int .u64 (redT x).b,.str (redT x).s,.int .i64 (redT x).lo,.lst (redT x).e ((redT x).l.map tV)],h,nx):=fun x hx=>ih x hx (h.sub hx) (by have:=size_mem hx;omega)
 have h3:=len3 h
 have hr:=redN_Rd h fun x hx=>red_Rd x (h.sub hx)
 have hrs:=hr.sz
 have hk:=hr.g.2.self.1
 have hcs:=const_spec (redN t) hr.g (by omega)
 have hlen:(redN t).l.length=t.l.length:=List.length_map ..
 have hcall:∀ H nx,hget H 2=some (.row 6 ((t.l.map redT).map tV))→lim T 49 [.agg [.int .u8 t.k,.int .i64 t.w,.int .u64 t.b,.str t.s,.int .i64 t.lo,.sref 6 2 t.l.length 0 t.l.length]] H nx=some (cstV (redN t),hset H 2 (.fro 6 ((t.l.map redT).map tV)),nx):=fun H nx hH=>by
  have h1:=frz_own (k:=t.k) (w:=t.w) (b:=t.b) (s:=t.s) (lo:=t.lo) (l:=t.l.map redT) (.inl hH) (by rw [List.length_map];omega) (cs:=[]) rfl (by decide)
  have h2:=idL_own (k:=t.k) (w:=t.w) (b:=t.b) (s:=t.s) (lo:=t.lo) (l:=t.l.map redT) (.inl hH) (cs:=[]) rfl
  rw [List.length_map] at h1 h2
  have:=hcs _ H nx h1 rfl
  rw [h2,froze_row hH] at this
  exact this
 have hkk:(((redN t).k.toNat:Nat):Int)=t.k:=Int.toNat_of_nonneg hk.1
 have hk24:t.k.toNat < 25:=by
  have hself:=((nodesOk_iff t).1 h.1).1
  rcases Int.lt_or_le 24 t.k with h' | h'
  ·exact absurd hself (node_no (.inr h'))
  ·omega
 have hru:=rules_spec t.k.toNat hk24
 have e1:((t.k.toNat:Nat):Int)=t.k:=hkk
 rw [e1] at hru
 have hkey:@Ok Out (runs T [.code k31_3] [(1,.ptr 0 1 0 0),(2,.ptr 1 1 0 0),(3,.sref 6 2 t.l.length 0 t.l.length),(13,.lst t.e (t.l.map tV)),(14,.int .i64 t.l.length),(15,.int .i64 t.l.length),(16,.bool false)] [(2,.row 6 ((t.l.map redT).map tV)),(1,.row 6 [zA]),(0,.row 6 [.agg [.int .u8 (t).k,.int .i64 (t).w,.int .u64 (t).b,.str (t).s,.int .i64 (t).lo,.lst (t).e ((t).l.map tV)]])] 8) ⟨fun x=>resV c31.res x=some (.agg [.int .u8 (redT t).k,.int .i64 (redT t).w,.int .u64 (redT t).b,.str (redT t).s,.int .i64 (redT t).lo,.lst (redT t).e ((redT t).l.map tV)])⟩:=by
  rw [redT_eq]
  unfold stepT
  cases hc:constP (redN t) with
  |true =>
   have hcv:cstV (redN t)=.tup [.agg [.int .u8 (conT t.w (vM rho0 [] (redN t):Nat)).k,.int .i64 (conT t.w (vM rho0 [] (redN t):Nat)).w,.int .u64 (conT t.w (vM rho0 [] (redN t):Nat)).b,.str (conT t.w (vM rho0 [] (redN t):Nat)).s,.int .i64 (conT t.w (vM rho0 [] (redN t):Nat)).lo,.lst (conT t.w (vM rho0 [] (redN t):Nat)).e ((conT t.w (vM rho0 [] (redN t):Nat)).l.map tV)],.bool true]:=by unfold cstV cstT;rw [hc,if_pos rfl];rfl
   rw [hcv] at hcall
   rw [if_pos rfl]
   simp (disch:=first | exact d_Y8 | fail) only [unf k31_3.eq_1,c31,LAWSb,hcall,EVS,Nat.reduceAdd,Nat.reduceSub,Int.reduceToNat,Nat.reduceMul,Nat.reduceEqDiff,Nat.reduceLeDiff,Int.reduceEq,Int.reduceLT,Int.reduceLE,↓reduceIte]
   rfl
  |false =>
   have hcv:cstV (redN t)=.tup [.agg [.int .u8 (redN t).k,.int .i64 (redN t).w,.int .u64 (redN t).b,.str (redN t).s,.int .i64 (redN t).lo,.lst (redN t).e ((redN t).l.map tV)],.bool false]:=by unfold cstV cstT;rw [hc,if_neg (by decide)]
   rw [hcv] at hcall
   rw [if_neg (by decide)]
   simp (disch:=first | exact d_Y8 | fail) only [unf k31_3.eq_1,c31,LAWSb,hcall,hru,EVS,Nat.reduceAdd,Nat.reduceSub,Int.reduceToNat,Nat.reduceMul,Nat.reduceEqDiff,Nat.reduceLeDiff,Int.reduceEq,Int.reduceLT,Int.reduceLE,↓reduceIte]
   have lp:=rul_loop (redN t) hr.g rfl (by omega) (rulesN t.k.toNat) (rules_len _ hk24) (rulesN t.k.toNat).isEmpty (fun R hR=>hR) (rulesN t.k.toNat).length 0 (by omega)
   unfold ownT at lp
   rw [hlen] at lp
   exact lp
 refine lim_iso tg31 rfl rfl (by simp [pures,pure_,pu_Ts]) ?_
 have lp:=red_loop t h3 ih' _ hkey t.l.length 0 (by omega)
 rw [List.take_zero] at lp
 simp (disch:=first | exact d_Y8 | fail) only [c31,LAWSb,EVS,Nat.reduceAdd,Nat.reduceSub,Int.reduceToNat,Nat.reduceMul,Nat.reduceEqDiff,Nat.reduceLeDiff,Int.reduceEq,Int.reduceLT,Int.reduceLE,↓reduceIte]
 exact lp
theorem d_Y9 {P:Prop} (h:P:=by first|omega|(simp only[EVL]<;>omega)|(simp only[hget_c,Nat.reduceEqDiff,↓reduceIte];done)|assumption|(simp (disch:=omega) only[hg_ne,hg_eq,hgs_ne, *];done)|(simp only [TL,LAWSb];done)|with_unfolding_all rfl):P:=h
abbrev TwS (x:Te):Prop:=∀ h nx,lim T 30 [.agg [.int .u8 (x).k,.int .i64 (x).w,.int .u64 (x).b,.str (x).s,.int .i64 (x).lo,.lst (x).e ((x).l.map tV)]] h nx=some (.agg [.int .u8 (er x).k,.int .i64 (er x).w,.int .u64 (er x).b,.str (er x).s,.int .i64 (er x).lo,.lst (er x).e ((er x).l.map tV)],h,nx)
theorem twn_loop (t:Te) (hl:t.l.length ≤ 1000000) (ih:∀ x ∈ t.l,TwS x):∀ (k i:Nat),i + k=t.l.length →
  @Ok Out (runs T [.code b30_0,.inL (some 7) b30_0,.inB 0,.code k30_1] [(1,.ptr 0 1 0 0),(2,.ptr 1 1 0 0),(3,.sref 6 2 i 0 i),(7,.lst t.e (t.l.map tV)),(8,.int .i64 t.l.length),(9,.int .i64 i)]
   [(2,.row 6 (((t.l.map er).take i).map tV)),(1,.row 6 [zA]),(0,.row 6 [.agg [.int .u8 (t).k,.int .i64 (t).w,.int .u64 (t).b,.str (t).s,.int .i64 (t).lo,.lst (t).e ((t).l.map tV)]])] 7) ⟨fun x=>resV c30.res x=some (.agg [.int .u8 (er t).k,.int .i64 (er t).w,.int .u64 (er t).b,.str (er t).s,.int .i64 (er t).lo,.lst (er t).e ((er t).l.map tV)])⟩:=by
 intro k
 induction k with
 |zero =>
  intro i hi
  have:¬ (i:Int) < t.l.length:=by omega
  have hil:i=t.l.length:=by omega
  subst hil
  have hlen:(((t.l.map er).take t.l.length).map tV).length=t.l.length:=by simp
  simp (disch:=first | exact d_Y9 | fail) only [unf b30_0.eq_1,unf k30_1.eq_1,c30,this,LAWSb,hlen,EVS,Nat.reduceAdd,Nat.reduceSub,Int.reduceToNat,Nat.reduceMul,Nat.reduceEqDiff,Nat.reduceLeDiff,Int.reduceEq,Int.reduceLT,Int.reduceLE,↓reduceIte]
  rw [er_eq t]
  simp only [Tm'.k,Tm'.w,Tm'.b,Tm'.s,Tm'.lo,Tm'.e,Tm'.l]
 |succ k ihk =>
  intro i hi
  have:(i:Int) < t.l.length:=by omega
  have hx:=ih _ (getD_mem (d:=default) (show i < t.l.length by omega))
  have hlen:(((t.l.map er).take i).map tV).length=i:=by simp;omega
  simp (disch:=first | exact d_Y9 | fail) only [unf b30_0.eq_1,c30,this,LAWSb,hx,hlen,EVS,Nat.reduceAdd,Nat.reduceSub,Int.reduceToNat,Nat.reduceMul,Nat.reduceEqDiff,Nat.reduceLeDiff,Int.reduceEq,Int.reduceLT,Int.reduceLE,↓reduceIte]
  have hq:=ihk (i + 1) (by omega)
  rw [take_succ (by simp;omega),map_getD _ (by omega),List.map_append,List.map_cons,List.map_nil,tV_eq] at hq
  exact Ok_inL (by decide) (by simp [lowTm,low,lows,LAWSb]) (by simp [cutH,lowHeap,lowObj,lows,low,lows_app',LAWSb,lo_tm,-List.map_map,-List.map_take]) hq
theorem twn_spec (t:Te) (hl:size t ≤ 1000000):TwS t:=by
 induction t using Tm'.ind with
 |h t ih =>
 have hsz:=sizes_len t.l
 have hse:=size_eq t
 refine lim_iso tg30 rfl rfl (by simp [pures,pure_,pu_Ts]) ?_
 have lp:=twn_loop t (by omega) (fun x hx=>ih x hx (by have:=size_mem hx;omega)) t.l.length 0 (by omega)
 rw [List.take_zero] at lp
 simp (disch:=first | exact d_Y9 | fail) only [c30,LAWSb,EVS,Nat.reduceAdd,Nat.reduceSub,Int.reduceToNat,Nat.reduceMul,Nat.reduceEqDiff,Nat.reduceLeDiff,Int.reduceEq,Int.reduceLT,Int.reduceLE,↓reduceIte]
 exact lp
abbrev simT (t:Te):Te:=er (redT t)
open Classical in
noncomputable def sTermV (t:Te):FV:=.tup [if checkS t=0 then .agg [.int .u8 (simT t).k,.int .i64 (simT t).w,.int .u64 (simT t).b,.str (simT t).s,.int .i64 (simT t).lo,.lst (simT t).e ((simT t).l.map tV)] else zA,.int .i64 (checkS t)]
theorem sTerm_spec (t:Te) (ht:TOk t) (hs:size t ≤ 1000000):∀ h nx,lim T 12 [.agg [.int .u8 (t).k,.int .i64 (t).w,.int .u64 (t).b,.str (t).s,.int .i64 (t).lo,.lst (t).e ((t).l.map tV)]] h nx=some (sTermV t,h,nx):=by
 refine lim_iso tg12 rfl rfl (by simp [pures,pure_,pu_Ts]) ?_
 have hc:=check_pure t hs (fun x hx=>(ht x hx).1.1)
 unfold sTermV
 by_cases h0:checkS t=0
 ·have hg:=GT_of ht h0
  have hr:=reduce_spec t hg hs
  have hz:=(red_Rd t hg).sz
  have hw:=twn_spec (redT t) (by omega)
  rw [h0] at hc
  rw [if_pos h0,h0]
  simp (disch:=first | exact d_Y9 | fail) only [c12,TL,hc,hr,hw,EVS,Nat.reduceAdd,Nat.reduceSub,Int.reduceToNat,Nat.reduceMul,Nat.reduceEqDiff,Nat.reduceLeDiff,Int.reduceEq,Int.reduceLT,Int.reduceLE,↓reduceIte]
 ·have d1:decide (checkS t=0)=false:=decide_eq_false h0
  rw [if_neg h0]
  simp (disch:=first | exact d_Y9 | fail) only [c12,TL,hc,d1,EVS,Nat.reduceAdd,Nat.reduceSub,Int.reduceToNat,Nat.reduceMul,Nat.reduceEqDiff,Nat.reduceLeDiff,Int.reduceEq,Int.reduceLT,Int.reduceLE,↓reduceIte]
end Go.Proofs.YtjmppkmacaeahaaGreatDoor.Fi
