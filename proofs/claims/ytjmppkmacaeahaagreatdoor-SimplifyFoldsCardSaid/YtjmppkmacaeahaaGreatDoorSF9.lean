/- Parts of the proof, one behind the other. -/
import Derived.Test.YtjmppkmacaeahaaGreatDoorSF8
import Derived.Test.YtjmppkmacaeahaaGreatDoorY5
import Derived.Test.YtjmppkmacaeahaaGreatDoorSF7
set_option linter.all false
namespace Go.Proofs.YtjmppkmacaeahaaGreatDoor.Fi
open Go.FI
theorem d_Y6 {P:Prop} (h:P:=by first|omega|(simp only[EVL]<;>omega)|(simp only[hget_c,Nat.reduceEqDiff,↓reduceIte];done)|assumption|(simp (disch:=omega) only[hg_ne,hg_eq,hgs_ne, *];done)|(simp only [TL,LAWSb];done)|with_unfolding_all rfl):P:=h
theorem first_spec (t:Te) (h0:0 < t.l.length):∀ h nx,lim T 84 [.agg [.int .u8 (t).k,.int .i64 (t).w,.int .u64 (t).b,.str (t).s,.int .i64 (t).lo,.lst (t).e ((t).l.map tV)]] h nx=some (.agg [.int .u8 (p0 t).k,.int .i64 (p0 t).w,.int .u64 (p0 t).b,.str (p0 t).s,.int .i64 (p0 t).lo,.lst (p0 t).e ((p0 t).l.map tV)],h,nx):=by
 refine lim_iso tg84 rfl rfl (by simp [pures,pure_,pu_Ts]) ?_
 simp (disch:=first | exact d_Y6 | fail) only [c84,TL,EVS,Nat.reduceAdd,Nat.reduceSub,Int.reduceToNat,Nat.reduceMul,Nat.reduceEqDiff,Nat.reduceLeDiff,Int.reduceEq,Int.reduceLT,Int.reduceLE,↓reduceIte]
theorem second_spec (t:Te) (h0:1 < t.l.length):∀ h nx,lim T 82 [.agg [.int .u8 (t).k,.int .i64 (t).w,.int .u64 (t).b,.str (t).s,.int .i64 (t).lo,.lst (t).e ((t).l.map tV)]] h nx=some (.agg [.int .u8 (p1 t).k,.int .i64 (p1 t).w,.int .u64 (p1 t).b,.str (p1 t).s,.int .i64 (p1 t).lo,.lst (p1 t).e ((p1 t).l.map tV)],h,nx):=by
 refine lim_iso tg82 rfl rfl (by simp [pures,pure_,pu_Ts]) ?_
 simp (disch:=first | exact d_Y6 | fail) only [c82,TL,EVS,Nat.reduceAdd,Nat.reduceSub,Int.reduceToNat,Nat.reduceMul,Nat.reduceEqDiff,Nat.reduceLeDiff,Int.reduceEq,Int.reduceLT,Int.reduceLE,↓reduceIte]
theorem number_spec (t:Te) (x:Int) (h1:1 ≤ t.w) (h2:t.w ≤ 64):∀ h nx,lim T 141 [.agg [.int .u8 (t).k,.int .i64 (t).w,.int .u64 (t).b,.str (t).s,.int .i64 (t).lo,.lst (t).e ((t).l.map tV)],.eptr [.int .u64 x] 0] h nx=some (.agg [.int .u8 (conT t.w (vW t.w x)).k,.int .i64 (conT t.w (vW t.w x)).w,.int .u64 (conT t.w (vW t.w x)).b,.str (conT t.w (vW t.w x)).s,.int .i64 (conT t.w (vW t.w x)).lo,.lst (conT t.w (vW t.w x)).e ((conT t.w (vW t.w x)).l.map tV)],h,nx):=by
 refine lim_iso tg141 rfl rfl (by simp [pures,pure_,pu_Ts]) ?_
 have hv:=valueW_spec t.w x h1 h2
 have hc:=con_spec t.w (vW t.w x)
 simp (disch:=first | exact d_Y6 | fail) only [c141,TL,hv,hc,EVS,Nat.reduceAdd,Nat.reduceSub,Int.reduceToNat,Nat.reduceMul,Nat.reduceEqDiff,Nat.reduceLeDiff,Int.reduceEq,Int.reduceLT,Int.reduceLE,↓reduceIte]
def RunsTo (f:Nat) (ws:List FV) (r:FV):Prop:=∀ args h nx,frzs h deep args=some ws→args.length=ws.length→lim T f args h nx=some (r,froze h (idL h deep args),nx)
theorem runsTo {f:Nat} {d:FI.Fn} {ws:List FV} {r:FV} (ht:tget T f=some (.fn d)) (hm:d.mode=.isc) (hn:ws.length=d.np) (hr:@Ok Out (runs T [.code d.body] (params 0 ws) [] 0) ⟨fun x=>resV d.res x=some r⟩) (hlt:f < RB:=by decide):RunsTo f ws r :=
 fun args h nx hf hl=>lim_isc ht hm (hl.trans hn) hf hr hlt
theorem left_spec (t:Te) (h0:1 < t.l.length) (h1:1 ≤ t.w) (h2:t.w ≤ 64) (w1:1 ≤ (p0 t).w) (w2:(p0 t).w ≤ 64) (x:Int) (o:OuR):RunsTo 135 [.agg [.int .u8 (t).k,.int .i64 (t).w,.int .u64 (t).b,.str (t).s,.int .i64 (t).lo,.lst (t).e ((t).l.map tV)],.eptr [oV o] 0,.eptr [.int .u64 x] 0] (.tup [tV (outR o t),.bool (apR (.lft x o) t)]):=by
 refine runsTo tg135 rfl rfl ?_
 have f1:=first_spec t (by omega)
 have f2:=second_spec t h0
 have hv:=valueW_spec (p0 t).w x w1 w2
 have hi:=is_spec (p0 t) (vW (p0 t).w x)
 cases o with
 |fst =>
  unfold oV
  simp (disch:=first | exact d_Y6 | fail) only [c135,TL,f1,hv,hi,EVS,Nat.reduceAdd,Nat.reduceSub,Int.reduceToNat,Nat.reduceMul,Nat.reduceEqDiff,Nat.reduceLeDiff,Int.reduceEq,Int.reduceLT,Int.reduceLE,↓reduceIte]
  simp only [outR,apR,tV_eq]
 |snd =>
  unfold oV
  simp (disch:=first | exact d_Y6 | fail) only [c135,TL,f2,hv,hi,EVS,Nat.reduceAdd,Nat.reduceSub,Int.reduceToNat,Nat.reduceMul,Nat.reduceEqDiff,Nat.reduceLeDiff,Int.reduceEq,Int.reduceLT,Int.reduceLE,↓reduceIte]
  simp only [outR,apR,tV_eq]
 |num y =>
  have f3:=number_spec t y h1 h2
  unfold oV
  simp (disch:=first | exact d_Y6 | fail) only [c135,TL,f3,hv,hi,EVS,Nat.reduceAdd,Nat.reduceSub,Int.reduceToNat,Nat.reduceMul,Nat.reduceEqDiff,Nat.reduceLeDiff,Int.reduceEq,Int.reduceLT,Int.reduceLE,↓reduceIte]
  simp only [outR,apR,tV_eq]
theorem right_spec (t:Te) (h0:1 < t.l.length) (h1:1 ≤ t.w) (h2:t.w ≤ 64) (w1:1 ≤ (p1 t).w) (w2:(p1 t).w ≤ 64) (x:Int) (o:OuR):RunsTo 138 [.agg [.int .u8 (t).k,.int .i64 (t).w,.int .u64 (t).b,.str (t).s,.int .i64 (t).lo,.lst (t).e ((t).l.map tV)],.eptr [oV o] 0,.eptr [.int .u64 x] 0] (.tup [tV (outR o t),.bool (apR (.rgt x o) t)]):=by
 refine runsTo tg138 rfl rfl ?_
 have f1:=first_spec t (by omega)
 have f2:=second_spec t h0
 have hv:=valueW_spec (p1 t).w x w1 w2
 have hi:=is_spec (p1 t) (vW (p1 t).w x)
 cases o with
 |fst =>
  unfold oV
  simp (disch:=first | exact d_Y6 | fail) only [c138,TL,f1,hv,hi,EVS,Nat.reduceAdd,Nat.reduceSub,Int.reduceToNat,Nat.reduceMul,Nat.reduceEqDiff,Nat.reduceLeDiff,Int.reduceEq,Int.reduceLT,Int.reduceLE,↓reduceIte]
  simp only [outR,apR,tV_eq]
 |snd =>
  unfold oV
  simp (disch:=first | exact d_Y6 | fail) only [c138,TL,f2,hv,hi,EVS,Nat.reduceAdd,Nat.reduceSub,Int.reduceToNat,Nat.reduceMul,Nat.reduceEqDiff,Nat.reduceLeDiff,Int.reduceEq,Int.reduceLT,Int.reduceLE,↓reduceIte]
  simp only [outR,apR,tV_eq]
 |num y =>
  have f3:=number_spec t y h1 h2
  unfold oV
  simp (disch:=first | exact d_Y6 | fail) only [c138,TL,f3,hv,hi,EVS,Nat.reduceAdd,Nat.reduceSub,Int.reduceToNat,Nat.reduceMul,Nat.reduceEqDiff,Nat.reduceLeDiff,Int.reduceEq,Int.reduceLT,Int.reduceLE,↓reduceIte]
  simp only [outR,apR,tV_eq]
theorem samR_spec (t:Te) (hs:size t ≤ 1000000) (h0:1 < t.l.length) (h1:1 ≤ t.w) (h2:t.w ≤ 64) (o:OuR):RunsTo 139 [.agg [.int .u8 (t).k,.int .i64 (t).w,.int .u64 (t).b,.str (t).s,.int .i64 (t).lo,.lst (t).e ((t).l.map tV)],.eptr [oV o] 0] (.tup [tV (outR o t),.bool (apR (.sam o) t)]):=by
 refine runsTo tg139 rfl rfl ?_
 have f1:=first_spec t (by omega)
 have f2:=second_spec t h0
 have a0:=size_mem (p0_mem (t:=t) (by omega))
 have a1:=size_mem (p1_mem (t:=t) h0)
 have hp:=sameP_spec (p0 t) (p1 t) (by omega) (by omega)
 cases o with
 |fst =>
  unfold oV
  simp (disch:=first | exact d_Y6 | fail) only [c139,TL,f1,hp,EVS,Nat.reduceAdd,Nat.reduceSub,Int.reduceToNat,Nat.reduceMul,Nat.reduceEqDiff,Nat.reduceLeDiff,Int.reduceEq,Int.reduceLT,Int.reduceLE,↓reduceIte]
  simp only [outR,apR,tV_eq]
 |snd =>
  unfold oV
  simp (disch:=first | exact d_Y6 | fail) only [c139,TL,f2,hp,EVS,Nat.reduceAdd,Nat.reduceSub,Int.reduceToNat,Nat.reduceMul,Nat.reduceEqDiff,Nat.reduceLeDiff,Int.reduceEq,Int.reduceLT,Int.reduceLE,↓reduceIte]
  simp only [outR,apR,tV_eq]
 |num y =>
  have f3:=number_spec t y h1 h2
  unfold oV
  simp (disch:=first | exact d_Y6 | fail) only [c139,TL,f3,hp,EVS,Nat.reduceAdd,Nat.reduceSub,Int.reduceToNat,Nat.reduceMul,Nat.reduceEqDiff,Nat.reduceLeDiff,Int.reduceEq,Int.reduceLT,Int.reduceLE,↓reduceIte]
  simp only [outR,apR,tV_eq]
def GivesR (R:Rul) (t:Te) (x:Te):Prop:=apR R t=true→x=resR R t
theorem twi_spec (t:Te) (h0:0 < t.l.length) (h1:(p0 t).k=t.k→0 < (p0 t).l.length):∃ x,GivesR .twi t x∧RunsTo 80 [.agg [.int .u8 (t).k,.int .i64 (t).w,.int .u64 (t).b,.str (t).s,.int .i64 (t).lo,.lst (t).e ((t).l.map tV)]] (.tup [tV x,.bool (apR .twi t)]):=by
 by_cases hk:(p0 t).k=t.k
 ·have h1:0 < (t.l.getD 0 default).l.length:=h1 hk
  have hk':(t.l.getD 0 default).k=t.k:=hk
  refine ⟨p0 (p0 t),fun _=>rfl,runsTo tg80 rfl rfl ?_⟩
  have d:decide ((p0 t).k=t.k)=true:=decide_eq_true hk
  simp (disch:=first | exact d_Y6 | fail) only [c80,TL,hk',d,EVS,Nat.reduceAdd,Nat.reduceSub,Int.reduceToNat,Nat.reduceMul,Nat.reduceEqDiff,Nat.reduceLeDiff,Int.reduceEq,Int.reduceLT,Int.reduceLE,↓reduceIte]
  simp only [apR,tV_eq,d]
 ·have d:decide ((p0 t).k=t.k)=false:=decide_eq_false hk
  refine ⟨t,(fun h=>by simp only [apR,d] at h;cases h),runsTo tg80 rfl rfl ?_⟩
  simp (disch:=first | exact d_Y6 | fail) only [c80,TL,hk,d,EVS,Nat.reduceAdd,Nat.reduceSub,Int.reduceToNat,Nat.reduceMul,Nat.reduceEqDiff,Nat.reduceLeDiff,Int.reduceEq,Int.reduceLT,Int.reduceLE,↓reduceIte]
  simp only [apR,tV_eq,d]
theorem far_spec (t:Te) (h0:1 < t.l.length) (h1:1 ≤ t.w) (h2:t.w ≤ 64):RunsTo 87 [.agg [.int .u8 (t).k,.int .i64 (t).w,.int .u64 (t).b,.str (t).s,.int .i64 (t).lo,.lst (t).e ((t).l.map tV)]] (.tup [tV (conT t.w 0),.bool (apR .far t)]):=by
 refine runsTo tg87 rfl rfl ?_
 have hc:=con_spec t.w 0
 have hw:IntKind.u64.wrap t.w=t.w:=wrapu64 (by omega) (by omega)
 by_cases hk:(p1 t).k=1
 ·simp (disch:=first | exact d_Y6 | fail) only [c87,TL,hk,hc,hw,EVS,Nat.reduceAdd,Nat.reduceSub,Int.reduceToNat,Nat.reduceMul,Nat.reduceEqDiff,Nat.reduceLeDiff,Int.reduceEq,Int.reduceLT,Int.reduceLE,↓reduceIte]
  simp only [apR,tV_eq,hk,decide_true,Bool.true_and]
 ·simp (disch:=first | exact d_Y6 | fail) only [c87,TL,hk,hc,hw,EVS,Nat.reduceAdd,Nat.reduceSub,Int.reduceToNat,Nat.reduceMul,Nat.reduceEqDiff,Nat.reduceLeDiff,Int.reduceEq,Int.reduceLT,Int.reduceLE,↓reduceIte]
  simp only [apR,tV_eq,hk,decide_false,Bool.false_and]
theorem cho_spec (t:Te) (hs:size t ≤ 1000000) (h0:2 < t.l.length):RunsTo 88 [.agg [.int .u8 (t).k,.int .i64 (t).w,.int .u64 (t).b,.str (t).s,.int .i64 (t).lo,.lst (t).e ((t).l.map tV)]] (.tup [tV (resR .cho t),.bool (apR .cho t)]):=by
 refine runsTo tg88 rfl rfl ?_
 have a1:=size_mem (p1_mem (t:=t) (by omega))
 have a2:=size_mem (p2_mem (t:=t) (by omega))
 have hp:=sameP_spec (p1 t) (p2 t) (by omega) (by omega)
 have i1:=is_spec (p0 t) 1
 have i0:=is_spec (p0 t) 0
 cases e1:isK (p0 t) 1 with
 |true =>
  rw [e1] at i1
  simp (disch:=first | exact d_Y6 | fail) only [c88,TL,i1,EVS,Nat.reduceAdd,Nat.reduceSub,Int.reduceToNat,Nat.reduceMul,Nat.reduceEqDiff,Nat.reduceLeDiff,Int.reduceEq,Int.reduceLT,Int.reduceLE,↓reduceIte]
  simp only [apR,resR,tV_eq,e1,↓reduceIte,Bool.true_or]
 |false =>
  rw [e1] at i1
  cases e0:isK (p0 t) 0 with
  |true =>
   rw [e0] at i0
   simp (disch:=first | exact d_Y6 | fail) only [c88,TL,i1,i0,EVS,Nat.reduceAdd,Nat.reduceSub,Int.reduceToNat,Nat.reduceMul,Nat.reduceEqDiff,Nat.reduceLeDiff,Int.reduceEq,Int.reduceLT,Int.reduceLE,↓reduceIte]
   simp only [apR,resR,tV_eq,e1,e0,Bool.false_eq_true,↓reduceIte,Bool.true_or,Bool.false_or]
  |false =>
   rw [e0] at i0
   simp (disch:=first | exact d_Y6 | fail) only [c88,TL,i1,i0,hp,EVS,Nat.reduceAdd,Nat.reduceSub,Int.reduceToNat,Nat.reduceMul,Nat.reduceEqDiff,Nat.reduceLeDiff,Int.reduceEq,Int.reduceLT,Int.reduceLE,↓reduceIte]
   simp only [apR,resR,tV_eq,e1,e0,Bool.false_eq_true,↓reduceIte,Bool.true_or,Bool.false_or]
theorem who_spec (t:Te) (h0:0 < t.l.length):RunsTo 90 [.agg [.int .u8 (t).k,.int .i64 (t).w,.int .u64 (t).b,.str (t).s,.int .i64 (t).lo,.lst (t).e ((t).l.map tV)]] (.tup [tV (resR .who t),.bool (apR .who t)]):=by
 refine runsTo tg90 rfl rfl ?_
 simp (disch:=first | exact d_Y6 | fail) only [c90,TL,EVS,Nat.reduceAdd,Nat.reduceSub,Int.reduceToNat,Nat.reduceMul,Nat.reduceEqDiff,Nat.reduceLeDiff,Int.reduceEq,Int.reduceLT,Int.reduceLE,↓reduceIte]
 simp only [apR,resR,tV_eq]
theorem inn_spec (t:Te) (h0:0 < t.l.length) (hb:-1000 ≤ t.lo∧t.lo ≤ 1000∧-1000 ≤ (p0 t).lo∧(p0 t).lo ≤ 1000):∃ x,GivesR .inn t x∧RunsTo 91 [.agg [.int .u8 (t).k,.int .i64 (t).w,.int .u64 (t).b,.str (t).s,.int .i64 (t).lo,.lst (t).e ((t).l.map tV)]] (.tup [tV x,.bool (apR .inn t)]):=by
 by_cases hk:(p0 t).k=t.k
 ·refine ⟨resR .inn t,fun _=>rfl,runsTo tg91 rfl rfl ?_⟩
  have d:decide ((p0 t).k=t.k)=true:=decide_eq_true hk
  simp (disch:=first | exact d_Y6 | fail) only [c91,TL,hk,d,EVS,Nat.reduceAdd,Nat.reduceSub,Int.reduceToNat,Nat.reduceMul,Nat.reduceEqDiff,Nat.reduceLeDiff,Int.reduceEq,Int.reduceLT,Int.reduceLE,↓reduceIte]
  have hw:IntKind.i64.wrap (t.lo + (t.l.getD 0 default).lo)=t.lo + (t.l.getD 0 default).lo:=wrap64 (by have:=hb.2.2.1;unfold p0 at this;omega) (by have:=hb.2.2.2;unfold p0 at this;omega)
  rw [hw]
  simp only [apR,resR,tV_eq,d]
  rfl
 ·have d:decide ((p0 t).k=t.k)=false:=decide_eq_false hk
  refine ⟨t,(fun h=>by simp only [apR,d] at h;cases h),runsTo tg91 rfl rfl ?_⟩
  simp (disch:=first | exact d_Y6 | fail) only [c91,TL,hk,d,EVS,Nat.reduceAdd,Nat.reduceSub,Int.reduceToNat,Nat.reduceMul,Nat.reduceEqDiff,Nat.reduceLeDiff,Int.reduceEq,Int.reduceLT,Int.reduceLE,↓reduceIte]
  simp only [apR,tV_eq,d]
theorem joi_spec (t:Te) (h0:1 < t.l.length) (h1:(p1 t).k=22→0 < (p1 t).l.length):RunsTo 89 [.agg [.int .u8 (t).k,.int .i64 (t).w,.int .u64 (t).b,.str (t).s,.int .i64 (t).lo,.lst (t).e ((t).l.map tV)]] (.tup [tV (resR .joi t),.bool (apR .joi t)]):=by
 refine runsTo tg89 rfl rfl ?_
 have i0:=is_spec (p0 t) 0
 by_cases hk:(p1 t).k=22
 ·have h1:0 < (t.l.getD 1 default).l.length:=h1 hk
  have hk':(t.l.getD 1 default).k=22:=hk
  simp (disch:=first | exact d_Y6 | fail) only [c89,TL,hk',i0,EVS,Nat.reduceAdd,Nat.reduceSub,Int.reduceToNat,Nat.reduceMul,Nat.reduceEqDiff,Nat.reduceLeDiff,Int.reduceEq,Int.reduceLT,Int.reduceLE,↓reduceIte]
  simp only [apR,resR,joiY,if_pos hk,tV_eq,Tm'.l,List.map_cons,List.map_nil]
  rfl
 ·simp (disch:=first | exact d_Y6 | fail) only [c89,TL,hk,i0,EVS,Nat.reduceAdd,Nat.reduceSub,Int.reduceToNat,Nat.reduceMul,Nat.reduceEqDiff,Nat.reduceLeDiff,Int.reduceEq,Int.reduceLT,Int.reduceLE,↓reduceIte]
  simp only [apR,resR,joiY,if_neg hk,tV_eq,Tm'.l,List.map_cons,List.map_nil]
  rfl
theorem GT_of {t:Te} (ht:TOk t) (hc:checkS t=0):GT t:=⟨(nodes_of_check hc).1,ht⟩
theorem d_Y7 {P:Prop} (h:P:=by first|omega|(simp only[EVL]<;>omega)|(simp only[hget_c,Nat.reduceEqDiff,↓reduceIte];done)|assumption|(simp (disch:=omega) only[hg_ne,hg_eq,hgs_ne, *];done)|(simp only [TL,LAWSb];done)|with_unfolding_all rfl):P:=h
theorem len3 {t:Te} (h:GT t):t.l.length ≤ 3:=by
 have hself:=((nodesOk_iff t).1 h.1).1
 have h2:=hself.2
 split at h2
 ·have:=h2.2.2.2.1
  unfold partsS at this
  (repeat' split at this)<;>omega
 ·omega
theorem part_w {t x:Te} (h:GT t) (hx:x ∈ t.l):1 ≤ x.w∧x.w ≤ 64:=nodesOk_wide (h.sub hx).1
theorem cr_len (R:Rul):(cR R).length ≤ 2:=by cases R<;>simp [cR]
theorem cr_pure (R:Rul):pures (cR R)=true:=by
 cases R with
 |lft x o=>cases o<;>rfl
 |rgt x o=>cases o<;>rfl
 |sam o=>cases o<;>rfl
 |twi=>rfl
 |far=>rfl
 |cho=>rfl
 |joi=>rfl
 |who=>rfl
 |inn=>rfl
theorem rule_all {t:Te} (h:GT t) (hs:size t ≤ 1000000) {R:Rul} (hR:R ∈ rulesN t.k.toNat):∃ x,GivesR R t x∧RunsTo (fR R) (.agg [.int .u8 (t).k,.int .i64 (t).w,.int .u64 (t).b,.str (t).s,.int .i64 (t).lo,.lst (t).e ((t).l.map tV)]::cR R) (.tup [.agg [.int .u8 (x).k,.int .i64 (x).w,.int .u64 (x).b,.str (x).s,.int .i64 (x).lo,.lst (x).e ((x).l.map tV)],.bool (apR R t)]):=by
 have hself:=(nodesOk_iff t).1 h.1
 have hk:=rule_kinds h hR
 have hw:=hself.1.1
 unfold wideS at hw
 have go:∀ {x:Te},RunsTo (fR R) (.agg [.int .u8 (t).k,.int .i64 (t).w,.int .u64 (t).b,.str (t).s,.int .i64 (t).lo,.lst (t).e ((t).l.map tV)]::cR R) (.tup [tV x,.bool (apR R t)])→GivesR R t x→∃ x,GivesR R t x∧RunsTo (fR R) (.agg [.int .u8 (t).k,.int .i64 (t).w,.int .u64 (t).b,.str (t).s,.int .i64 (t).lo,.lst (t).e ((t).l.map tV)]::cR R) (.tup [.agg [.int .u8 (x).k,.int .i64 (x).w,.int .u64 (x).b,.str (x).s,.int .i64 (x).lo,.lst (x).e ((x).l.map tV)],.bool (apR R t)]):=fun {x} h1 h2=>⟨x,h2,by rw [tV_eq] at h1;exact h1⟩
 have gi:GivesR R t (resR R t):=fun _=>rfl
 have big:5 ≤ t.k∧t.k ≤ 18→t.l.length=2:=fun hh=>(two_parts h hh).1
 cases R with
 |lft x o =>
  have hl:=big (hk.2.1 (.inl ⟨_,_,rfl⟩))
  have w0:=part_w h (p0_mem (t:=t) (by omega))
  exact go (left_spec t (by omega) hw.1 hw.2 w0.1 w0.2 x o) gi
 |rgt x o =>
  have hl:=big (hk.2.1 (.inr (.inl ⟨_,_,rfl⟩)))
  have w0:=part_w h (p1_mem (t:=t) (by omega))
  exact go (right_spec t (by omega) hw.1 hw.2 w0.1 w0.2 x o) gi
 |sam o =>
  have hl:=big (hk.2.1 (.inr (.inr (.inl ⟨_,rfl⟩))))
  exact go (samR_spec t hs (by omega) hw.1 hw.2 o) gi
 |far =>
  have hl:=big (hk.2.1 (.inr (.inr (.inr rfl))))
  exact go (far_spec t (by omega) hw.1 hw.2) gi
 |twi =>
  have k:=hk.1 rfl
  obtain ⟨_,_,_,_,hl,_⟩:=(node_k34 k).1 hself.1
  obtain ⟨x,h1,h2⟩:=twi_spec t (by omega) fun e=>by
   have m0:=p0_mem (t:=t) (by omega)
   obtain ⟨_,_,_,_,hl2,hs2⟩:=(node_k34 (t:=p0 t) (by rw [e];exact k)).1 ((nodesOk_iff _).1 (h.sub m0).1).1
   omega
  exact go h2 h1
 |cho =>
  have k:=hk.2.2.1 rfl
  obtain ⟨_,_,_,_,hl,_⟩:=(node_k19 k).1 hself.1
  exact go (cho_spec t hs (by omega)) gi
 |joi =>
  have k:=hk.2.2.2.1 rfl
  obtain ⟨_,_,_,_,hl,_⟩:=(node_k20 k).1 hself.1
  refine go (joi_spec t (by omega) fun e=>?_) gi
  have m1:=p1_mem (t:=t) (by omega)
  obtain ⟨_,_,_,_,hl2,hs2⟩:=(node_k22 (t:=p1 t) (.inl e)).1 ((nodesOk_iff _).1 (h.sub m1).1).1
  omega
 |who =>
  have k:=hk.2.2.2.2 (.inl rfl)
  have hl:t.l.length=1:=by
   rcases k with k | k
   ·exact ((node_k21 k).1 hself.1).2.2.2.2.1
   ·exact ((node_k22 k).1 hself.1).2.2.2.2.1
  exact go (who_spec t (by omega)) gi
 |inn =>
  have k:=hk.2.2.2.2 (.inr rfl)
  have hl:t.l.length=1:=by
   rcases k with k | k
   ·exact ((node_k21 k).1 hself.1).2.2.2.2.1
   ·exact ((node_k22 k).1 hself.1).2.2.2.2.1
  have lo:∀ {x:Te},GT x→-1000 ≤ x.lo∧x.lo ≤ 1000:=fun {x} hx=>by
   have hsx:=((nodesOk_iff x).1 hx.1).1
   have hh:=hsx.2
   split at hh
   ·rcases hh.2.2.1 with e | e
    ·omega
    ·have hwd:=hh.2.2.2.2
     rw [e] at hwd
     simp only [widthsS,Int.reduceEq,↓reduceIte,wideS] at hwd
     have:=hsx.1
     unfold wideS at this
     omega
   ·omega
  have a1:=lo h
  have a2:=lo (h.sub (p0_mem (t:=t) (by omega)))
  obtain ⟨x,h1,h2⟩:=inn_spec t (by omega) ⟨a1.1,a1.2,a2.1,a2.2⟩
  exact go h2 h1
theorem const_err {t:Te} (h:GT t) (hc:constP t=true):valErr t [] []=0:=by
 obtain ⟨c1,c2,c3⟩:=constP_iff.1 hc
 have hself:=(nodesOk_iff t).1 h.1
 have hleaf:∀ x ∈ t.l,x.l=[]:=fun x hx=>List.length_eq_zero_iff.1 ((node_k1 (c3 x hx)).1 (hself.2 x hx x (mem_nodes x))).2.1
 have h3:=len3 h
 have hsz:∀ l:List Te,(∀ x ∈ l,x.l=[])→sizes l=l.length∧depths l ≤ 1:=by
  intro l
  induction l with
  |nil=>intro _;exact ⟨rfl,Nat.zero_le _⟩
  |cons a l ih =>
   intro hh
   obtain ⟨i1,i2⟩:=ih fun x hx=>hh x (by simp [hx])
   have ha:=hh a (by simp)
   rw [sizes_cons,depths_cons,size_eq,depth_eq,ha,i1,List.length_cons]
   exact ⟨by simp only [sizes];omega,by simp only [depths];omega⟩
 obtain ⟨s1,s2⟩:=hsz t.l hleaf
 have hvar:varList t=[]:=by
  refine List.eq_nil_iff_forall_not_mem.2 fun p hp=>?_
  obtain ⟨y,hy,hk,_⟩:=varL_mem.1 hp
  rw [nodes_eq,List.mem_cons,nodesL_in] at hy
  rcases hy with rfl | ⟨x,hx,hy⟩
  ·exact c2 (List.length_eq_zero_iff.1 ((node_k2 hk).1 hself.1).2.1)
  ·rw [nodes_eq,hleaf x hx,List.mem_cons] at hy
   rcases hy with rfl | hy
   ·rw [c3 _ hx] at hk;cases hk
   ·cases hy
 have hz:=size_eq t
 have hd:=depth_eq t
 refine valErr_of ?_ ?_ ?_ fun p hp=>by rw [hvar] at hp;cases hp
 ·rw [check_in (by omega) h.1]
  cases hv:varsE t with
  |inl en=>rfl
  |inr u=>exact absurd (fun s v w hv=>by rw [hvar] at hv;cases hv) (varsE_no hv)
 ·exact (chkB_ok (by simp) (fun i hi=>by simp at hi)).symm
 ·exact (chkM_ok (by simp) (fun i hi=>by simp at hi)).symm
abbrev cstT (t:Te):Te:=if constP t then conT t.w (vM rho0 [] t:Nat) else t
abbrev cstV (t:Te):FV:=.tup [.agg [.int .u8 (cstT t).k,.int .i64 (cstT t).w,.int .u64 (cstT t).b,.str (cstT t).s,.int .i64 (cstT t).lo,.lst (cstT t).e ((cstT t).l.map tV)],.bool (constP t)]
theorem const_loop (t:Te) (h:GT t) (hs:size t ≤ 1000000) (h24:t.k ≠ 24) (hne:t.l ≠ []):∀ (k i:Nat),i + k=t.l.length→(∀ j,j < i→(t.l.getD j default).k=1) →
  @Ok Out (runs T [.code b49_0,.inL (some 16) b49_0,.inB 0,.code k49_1] [(1,.ptr 0 1 0 0),(2,.ptr 1 1 0 0),(19,.lst t.e (t.l.map tV)),(20,.int .i64 t.l.length),(21,.int .i64 i)] [(1,.row 6 [.agg [.int .u8 0,.int .i64 0,.int .u64 0,.str [],.int .i64 0,.lst true []]]),(0,.row 6 [.agg [.int .u8 (t).k,.int .i64 (t).w,.int .u64 (t).b,.str (t).s,.int .i64 (t).lo,.lst (t).e ((t).l.map tV)]])] 16) ⟨fun x=>resV c49.res x=some (cstV t)⟩:=by
 intro k
 induction k with
 |zero =>
  intro i hi hj
  have d1:decide ((i:Int) < t.l.length)=false:=by simp;omega
  have hc:constP t=true:=constP_iff.2 ⟨h24,hne,fun x hx=>by
   obtain ⟨j,hjl,rfl⟩:=List.mem_iff_getElem.1 hx
   have:=hj j (by omega)
   simpa [List.getD,hjl] using this⟩
  have hv:=valueF_pure true true t h.2 hs (fun x hx=>(h.2 x hx).1.1) [] (by simp) (fun p hp=>by cases hp) [] okM_nil (by simp)
  unfold valV at hv
  rw [const_err h hc,if_pos rfl] at hv
  simp only [List.map_nil] at hv
  have hcn:=con_spec t.w (vM rho0 [] t:Nat)
  unfold cstV cstT
  rw [hc,if_pos rfl]
  simp (disch:=first | exact d_Y7 | fail) only [unf b49_0.eq_1,unf k49_1.eq_1,c49,d1,TL,hv,hcn,EVS,Nat.reduceAdd,Nat.reduceSub,Int.reduceToNat,Nat.reduceMul,Nat.reduceEqDiff,Nat.reduceLeDiff,Int.reduceEq,Int.reduceLT,Int.reduceLE,↓reduceIte]
 |succ k ih =>
  intro i hi hj
  have d1:decide ((i:Int) < t.l.length)=true:=by simp;omega
  have hil:i < t.l.length:=by omega
  have h3:=len3 h
  by_cases hk:(t.l.getD i default).k=1
  ·simp (disch:=first | exact d_Y7 | fail) only [unf b49_0.eq_1,c49,d1,TL,hk,EVS,Nat.reduceAdd,Nat.reduceSub,Int.reduceToNat,Nat.reduceMul,Nat.reduceEqDiff,Nat.reduceLeDiff,Int.reduceEq,Int.reduceLT,Int.reduceLE,↓reduceIte]
   exact Ok_inL (by decide) (by simp [lowTm,low,lows,TL,LAWSb]) (by simp [cutH,lowHeap,lowObj,lows,low,TL,LAWSb]) (ih (i + 1) (by omega) (fun j hjl=>by
    by_cases e:j=i
    ·subst e;exact hk
    ·exact hj j (by omega)))
  ·have d2:decide ((t.l.getD i default).k=1)=false:=decide_eq_false hk
   have hc:constP t=false:=by
    cases hcc:constP t with
    |false=>rfl
    |true=>exact absurd ((constP_iff.1 hcc).2.2 _ (getD_mem hil)) hk
   unfold cstV cstT
   rw [hc,if_neg (by decide)]
   simp (disch:=first | exact d_Y7 | fail) only [unf b49_0.eq_1,c49,d1,d2,TL,EVS,Nat.reduceAdd,Nat.reduceSub,Int.reduceToNat,Nat.reduceMul,Nat.reduceEqDiff,Nat.reduceLeDiff,Int.reduceEq,Int.reduceLT,Int.reduceLE,↓reduceIte]
theorem const_spec (t:Te) (h:GT t) (hs:size t ≤ 1000000):RunsTo 49 [.agg [.int .u8 (t).k,.int .i64 (t).w,.int .u64 (t).b,.str (t).s,.int .i64 (t).lo,.lst (t).e ((t).l.map tV)]] (cstV t):=by
 refine runsTo tg49 rfl rfl ?_
 by_cases h24:t.k=24
 ·have hc:constP t=false:=by unfold constP;simp [h24]
  unfold cstV cstT
  rw [hc,if_neg (by decide)]
  simp (disch:=first | exact d_Y7 | fail) only [c49,TL,h24,EVS,Nat.reduceAdd,Nat.reduceSub,Int.reduceToNat,Nat.reduceMul,Nat.reduceEqDiff,Nat.reduceLeDiff,Int.reduceEq,Int.reduceLT,Int.reduceLE,↓reduceIte]
 ·have d2:decide (t.k=24)=false:=decide_eq_false h24
  by_cases hne:t.l=[]
  ·have hc:constP t=false:=by unfold constP;simp [hne]
   have hl:((t.l.length:Nat):Int)=0:=by rw [hne];rfl
   unfold cstV cstT
   rw [hc,if_neg (by decide)]
   simp (disch:=first | exact d_Y7 | fail) only [c49,TL,d2,hl,EVS,Nat.reduceAdd,Nat.reduceSub,Int.reduceToNat,Nat.reduceMul,Nat.reduceEqDiff,Nat.reduceLeDiff,Int.reduceEq,Int.reduceLT,Int.reduceLE,↓reduceIte]
  ·have hl:decide (((t.l.length:Nat):Int)=0)=false:=decide_eq_false (by have:=List.length_pos_iff.2 hne;omega)
   have lp:=const_loop t h hs h24 hne t.l.length 0 (by omega) (fun j hj=>by omega)
   simp (disch:=first | exact d_Y7 | fail) only [c49,TL,d2,hl,EVS,Nat.reduceAdd,Nat.reduceSub,Int.reduceToNat,Nat.reduceMul,Nat.reduceEqDiff,Nat.reduceLeDiff,Int.reduceEq,Int.reduceLT,Int.reduceLE,↓reduceIte]
   exact lp
theorem d_Y8 {P:Prop} (h:P:=by first|omega|(simp only[EVL]<;>omega)|(simp only[hget_c,Nat.reduceEqDiff,↓reduceIte];done)|assumption|(simp (disch:=omega) only[hg_ne,hg_eq,hgs_ne, *];done)|(simp only [TL,LAWSb];done)|with_unfolding_all rfl):P:=h
abbrev zA:FV:=.agg [.int .u8 0,.int .i64 0,.int .u64 0,.str [],.int .i64 0,.lst true []]
theorem red_loop (t:Te) (hl:t.l.length ≤ 3) (ih:∀ x ∈ t.l,∀ h nx,lim T 31 [.agg [.int .u8 (x).k,.int .i64 (x).w,.int .u64 (x).b,.str (x).s,.int .i64 (x).lo,.lst (x).e ((x).l.map tV)]] h nx=some (.agg [.int .u8 (redT x).k,.int .i64 (redT x).w,.int .u64 (redT x).b,.str (redT x).s,.int .i64 (redT x).lo,.lst (redT x).e ((redT x).l.map tV)],h,nx)) (Q:Post Out)
  (next:@Ok Out (runs T [.code k31_3] [(1,.ptr 0 1 0 0),(2,.ptr 1 1 0 0),(3,.sref 6 2 t.l.length 0 t.l.length),(13,.lst t.e (t.l.map tV)),(14,.int .i64 t.l.length),(15,.int .i64 t.l.length),(16,.bool false)] [(2,.row 6 ((t.l.map redT).map tV)),(1,.row 6 [zA]),(0,.row 6 [.agg [.int .u8 (t).k,.int .i64 (t).w,.int .u64 (t).b,.str (t).s,.int .i64 (t).lo,.lst (t).e ((t).l.map tV)]])] 8) Q):∀ (k i:Nat),i + k=t.l.length →
  @Ok Out (runs T [.code b31_0,.inL (some 7) b31_0,.inB 0,.code k31_3] [(1,.ptr 0 1 0 0),(2,.ptr 1 1 0 0),(3,.sref 6 2 i 0 i),(13,.lst t.e (t.l.map tV)),(14,.int .i64 t.l.length),(15,.int .i64 i)]
   [(2,.row 6 (((t.l.map redT).take i).map tV)),(1,.row 6 [zA]),(0,.row 6 [.agg [.int .u8 (t).k,.int .i64 (t).w,.int .u64 (t).b,.str (t).s,.int .i64 (t).lo,.lst (t).e ((t).l.map tV)]])] 7) Q:=by
 intro k
 induction k with
 |zero =>
  intro i hi
  have d1:decide ((i:Int) < t.l.length)=false:=by simp;omega
  have hil:i=t.l.length:=by omega
  subst hil
  simp (disch:=first | exact d_Y8 | fail) only [unf b31_0.eq_1,c31,d1,LAWSb,EVS,Nat.reduceAdd,Nat.reduceSub,Int.reduceToNat,Nat.reduceMul,Nat.reduceEqDiff,Nat.reduceLeDiff,Int.reduceEq,Int.reduceLT,Int.reduceLE,↓reduceIte]
  exact next
 |succ k ihk =>
  intro i hi
  have d1:decide ((i:Int) < t.l.length)=true:=by simp;omega
  have hx:=ih _ (getD_mem (d:=default) (show i < t.l.length by omega))
  have hlen:(((t.l.map redT).take i).map tV).length=i:=by simp;omega
  simp (disch:=first | exact d_Y8 | fail) only [unf b31_0.eq_1,c31,d1,LAWSb,hx,hlen,EVS,Nat.reduceAdd,Nat.reduceSub,Int.reduceToNat,Nat.reduceMul,Nat.reduceEqDiff,Nat.reduceLeDiff,Int.reduceEq,Int.reduceLT,Int.reduceLE,↓reduceIte]
  have hq:=ihk (i + 1) (by omega)
  rw [take_succ (by simp;omega),map_getD _ (by omega),List.map_append,List.map_cons,List.map_nil,tV_eq] at hq
  exact Ok_inL (by decide) (by simp [lowTm,low,lows,LAWSb]) (by simp [cutH,lowHeap,lowObj,lows,low,lows_app',LAWSb,lo_tm,-List.map_map,-List.map_take]) hq
abbrev ownT (t:Te):FV:=.agg [.int .u8 t.k,.int .i64 t.w,.int .u64 t.b,.str t.s,.int .i64 t.lo,.sref 6 2 t.l.length 0 t.l.length]
theorem rul_loop (u:Te) (hu:GT u) (he:u.e=false) (hs:size u ≤ 1000000) (L:List Rul) (hLl:L.length ≤ 10) (e:Bool) (hL:∀ R ∈ L,R ∈ rulesN u.k.toNat):∀ (k i:Nat),i + k=L.length →
  @Ok Out (runs T [.code b31_1,.inL (some 25) b31_1,.inB 2,.code k31_2] [(1,.ptr 0 1 0 0),(2,.ptr 1 1 0 0),(36,.lst e (L.map rV)),(37,.int .i64 L.length),(38,.int .i64 i)]
   [(16,.row 6 [.agg [.int .u8 (u).k,.int .i64 (u).w,.int .u64 (u).b,.str (u).s,.int .i64 (u).lo,.lst (u).e ((u).l.map tV)]]),(2,.fro 6 (u.l.map tV)),(1,.row 6 [zA]),(0,.row 6 [ownT u])] 25) ⟨fun x=>resV c31.res x=some (.agg [.int .u8 (firstR (L.drop i) u).k,.int .i64 (firstR (L.drop i) u).w,.int .u64 (firstR (L.drop i) u).b,.str (firstR (L.drop i) u).s,.int .i64 (firstR (L.drop i) u).lo,.lst (firstR (L.drop i) u).e ((firstR (L.drop i) u).l.map tV)])⟩:=by
 intro k
 induction k with
 |zero =>
  intro i hi
  have d1:decide ((i:Int) < L.length)=false:=by simp;omega
  have e0:firstR (L.drop i) u=u:=by rw [List.drop_eq_nil_of_le (by omega)];rfl
  rw [e0]
  have hlen:(u.l.map tV).length=u.l.length:=by simp
  have h3:=len3 hu
  simp (disch:=first | exact d_Y8 | fail) only [unf b31_1.eq_1,unf k31_2.eq_1,c31,d1,LAWSb,hlen,EVS,Nat.reduceAdd,Nat.reduceSub,Int.reduceToNat,Nat.reduceMul,Nat.reduceEqDiff,Nat.reduceLeDiff,Int.reduceEq,Int.reduceLT,Int.reduceLE,↓reduceIte]
  rw [he]
 |succ k ihk =>
  intro i hi
  have hil:i < L.length:=by omega
  have d1:decide ((i:Int) < L.length)=true:=by simp;omega
  have hd:L.drop i=L[i]::L.drop (i + 1):=List.drop_eq_getElem_cons hil
  obtain ⟨x,hx,hrun⟩:=rule_all hu hs (hL _ (List.getElem_mem hil))
  generalize hRR:L[i]=R at *
  have hg:(L.map rV)[i]? = some (.fn (fR R) (cR R)):=by simp [hil,hRR,rV]
  have hg2:∀ d,(L.map rV).getD i d=.fn (fR R) (cR R):=fun d=>by simp [List.getD,hil,hRR,rV]
  have hc1:(FV.fn (fR R) (cR R)).cells=[.fn (fR R) (cR R)]:=rfl
  have hc2:pures (cR R)=true:=cr_pure R
  have hfz:∀ H,hget H 2=some (.fro 6 (u.l.map tV))→frzs H deep (ownT u::cR R)=some (.agg [.int .u8 (u).k,.int .i64 (u).w,.int .u64 (u).b,.str (u).s,.int .i64 (u).lo,.lst (u).e ((u).l.map tV)]::cR R):=fun H hH=>by
   have:=frz_own (k:=u.k) (w:=u.w) (b:=u.b) (s:=u.s) (lo:=u.lo) (.inr hH) (by have:=len3 hu;omega) (cr_pure R) (by have:=cr_len R;omega)
   rw [he];exact this
  have hcall:∀ H nx,hget H 2=some (.fro 6 (u.l.map tV))→lim T (fR R) (ownT u::cR R) H nx=some (.tup [.agg [.int .u8 (x).k,.int .i64 (x).w,.int .u64 (x).b,.str (x).s,.int .i64 (x).lo,.lst (x).e ((x).l.map tV)],.bool (apR R u)],H,nx):=fun H nx hH=>by
   have:=hrun (ownT u::cR R) H nx (hfz H hH) rfl
   rw [idL_own (.inr hH) (cr_pure R),froze_fro hH] at this
   exact this
  cases ha:apR R u with
  |true =>
   rw [ha] at hcall
   have e0:firstR (L.drop i) u=x:=by rw [hd];simp only [firstR,ha,↓reduceIte];exact (hx ha).symm
   rw [e0]
   simp (disch:=first | exact d_Y8 | fail) only [unf b31_1.eq_1,c31,d1,LAWSb,hg,hg2,hc1,hcall,EVS,Nat.reduceAdd,Nat.reduceSub,Int.reduceToNat,Nat.reduceMul,Nat.reduceEqDiff,Nat.reduceLeDiff,Int.reduceEq,Int.reduceLT,Int.reduceLE,↓reduceIte]
  |false =>
   rw [ha] at hcall
   have e0:firstR (L.drop i) u=firstR (L.drop (i + 1)) u:=by rw [hd];simp only [firstR,ha,Bool.false_eq_true,↓reduceIte]
   rw [e0]
   have hlr:∀ b,lows b (L.map rV)=true:=fun b=>lows_map (fun R=>by cases R<;>(try rfl)<;>rename_i o<;>cases o<;>rfl) _
   simp (disch:=first | exact d_Y8 | fail) only [unf b31_1.eq_1,c31,d1,LAWSb,hg,hg2,hc1,hcall,EVS,Nat.reduceAdd,Nat.reduceSub,Int.reduceToNat,Nat.reduceMul,Nat.reduceEqDiff,Nat.reduceLeDiff,Int.reduceEq,Int.reduceLT,Int.reduceLE,↓reduceIte]
   exact Ok_inL (by decide) (by simp [lowTm,low,lows,LAWSb,hlr]) (by simp [cutH,lowHeap,lowObj,lows,low,LAWSb]) (ihk (i + 1) (by omega))
theorem rules_len:∀ k,k < 25→(rulesN k).length ≤ 10:=by decide
theorem reduce_spec (t:Te) (h:GT t) (hs:size t ≤ 1000000):∀ H nx,lim T 31 [.agg [.int .u8 (t).k,.int .i64 (t).w,.int .u64 (t).b,.str (t).s,.int .i64 (t).lo,.lst (t).e ((t).l.map tV)]] H nx=some (.agg [.int .u8 (redT t).k,.int .i64 (redT t).w,.int .u64 (redT t).b,.str (redT t).s,.int .i64 (redT t).lo,.lst (redT t).e ((redT t).l.map tV)],H,nx):=by
 induction t using Tm'.ind with
 |h t ih =>
 have ih':∀ x ∈ t.l,∀ h nx,lim T 31 [.agg [.int .u8 (x).k,.int .i64 (x).w,.int .u64 (x).b,.str (x).s,.int .i64 (x).lo,.lst (x).e ((x).l.map tV)]] h nx=some (.agg [.int .u8 (redT x).k,.int .i64 (redT x).w,.int .u64 (redT x).b,.str (redT x).s,.int .i64 (redT x).lo,.lst (redT x).e ((redT x).l.map tV)],h,nx):=fun x hx=>ih x hx (h.sub hx) (by have:=size_mem hx;omega)
 have h3:=len3 h
 have hr:=redN_Rd h fun x hx=>red_Rd x (h.sub hx)
 have hrs:=hr.sz
 have hk:=hr.g.2.self.1
 have hcs:=const_spec (redN t) hr.g (by omega)
 have hlen:(redN t).l.length=t.l.length:=List.length_map ..
 have hcall:∀ H nx,hget H 2=some (.row 6 ((t.l.map redT).map tV))→lim T 49 [.agg [.int .u8 t.k,.int .i64 t.w,.int .u64 t.b,.str t.s,.int .i64 t.lo,.sref 6 2 t.l.length 0 t.l.length]] H nx=some (cstV (redN t),hset H 2 (.fro 6 ((t.l.map redT).map tV)),nx):=fun H nx hH=>by
  have h1:=frz_own (k:=t.k) (w:=t.w) (b:=t.b) (s:=t.s) (lo:=t.lo) (l:=t.l.map redT) (.inl hH) (by rw [List.length_map];omega) (cs:=[]) rfl (by decide)
  have h2:=idL_own (k:=t.k) (w:=t.w) (b:=t.b) (s:=t.s) (lo:=t.lo) (l:=t.l.map redT) (.inl hH) (cs:=[]) rfl
  rw [List.length_map] at h1 h2
  have:=hcs _ H nx h1 rfl
  rw [h2,froze_row hH] at this
  exact this
 have hkk:(((redN t).k.toNat:Nat):Int)=t.k:=Int.toNat_of_nonneg hk.1
 have hk24:t.k.toNat < 25:=by
  have hself:=((nodesOk_iff t).1 h.1).1
  rcases Int.lt_or_le 24 t.k with h' | h'
  ·exact absurd hself (node_no (.inr h'))
  ·omega
 have hru:=rules_spec t.k.toNat hk24
 have e1:((t.k.toNat:Nat):Int)=t.k:=hkk
 rw [e1] at hru
 have hkey:@Ok Out (runs T [.code k31_3] [(1,.ptr 0 1 0 0),(2,.ptr 1 1 0 0),(3,.sref 6 2 t.l.length 0 t.l.length),(13,.lst t.e (t.l.map tV)),(14,.int .i64 t.l.length),(15,.int .i64 t.l.length),(16,.bool false)] [(2,.row 6 ((t.l.map redT).map tV)),(1,.row 6 [zA]),(0,.row 6 [.agg [.int .u8 (t).k,.int .i64 (t).w,.int .u64 (t).b,.str (t).s,.int .i64 (t).lo,.lst (t).e ((t).l.map tV)]])] 8) ⟨fun x=>resV c31.res x=some (.agg [.int .u8 (redT t).k,.int .i64 (redT t).w,.int .u64 (redT t).b,.str (redT t).s,.int .i64 (redT t).lo,.lst (redT t).e ((redT t).l.map tV)])⟩:=by
  rw [redT_eq]
  unfold stepT
  cases hc:constP (redN t) with
  |true =>
   have hcv:cstV (redN t)=.tup [.agg [.int .u8 (conT t.w (vM rho0 [] (redN t):Nat)).k,.int .i64 (conT t.w (vM rho0 [] (redN t):Nat)).w,.int .u64 (conT t.w (vM rho0 [] (redN t):Nat)).b,.str (conT t.w (vM rho0 [] (redN t):Nat)).s,.int .i64 (conT t.w (vM rho0 [] (redN t):Nat)).lo,.lst (conT t.w (vM rho0 [] (redN t):Nat)).e ((conT t.w (vM rho0 [] (redN t):Nat)).l.map tV)],.bool true]:=by unfold cstV cstT;rw [hc,if_pos rfl];rfl
   rw [hcv] at hcall
   rw [if_pos rfl]
   simp (disch:=first | exact d_Y8 | fail) only [unf k31_3.eq_1,c31,LAWSb,hcall,EVS,Nat.reduceAdd,Nat.reduceSub,Int.reduceToNat,Nat.reduceMul,Nat.reduceEqDiff,Nat.reduceLeDiff,Int.reduceEq,Int.reduceLT,Int.reduceLE,↓reduceIte]
   rfl
  |false =>
   have hcv:cstV (redN t)=.tup [.agg [.int .u8 (redN t).k,.int .i64 (redN t).w,.int .u64 (redN t).b,.str (redN t).s,.int .i64 (redN t).lo,.lst (redN t).e ((redN t).l.map tV)],.bool false]:=by unfold cstV cstT;rw [hc,if_neg (by decide)]
   rw [hcv] at hcall
   rw [if_neg (by decide)]
   simp (disch:=first | exact d_Y8 | fail) only [unf k31_3.eq_1,c31,LAWSb,hcall,hru,EVS,Nat.reduceAdd,Nat.reduceSub,Int.reduceToNat,Nat.reduceMul,Nat.reduceEqDiff,Nat.reduceLeDiff,Int.reduceEq,Int.reduceLT,Int.reduceLE,↓reduceIte]
   have lp:=rul_loop (redN t) hr.g rfl (by omega) (rulesN t.k.toNat) (rules_len _ hk24) (rulesN t.k.toNat).isEmpty (fun R hR=>hR) (rulesN t.k.toNat).length 0 (by omega)
   unfold ownT at lp
   rw [hlen] at lp
   exact lp
 refine lim_iso tg31 rfl rfl (by simp [pures,pure_,pu_Ts]) ?_
 have lp:=red_loop t h3 ih' _ hkey t.l.length 0 (by omega)
 rw [List.take_zero] at lp
 simp (disch:=first | exact d_Y8 | fail) only [c31,LAWSb,EVS,Nat.reduceAdd,Nat.reduceSub,Int.reduceToNat,Nat.reduceMul,Nat.reduceEqDiff,Nat.reduceLeDiff,Int.reduceEq,Int.reduceLT,Int.reduceLE,↓reduceIte]
 exact lp
theorem d_Y9 {P:Prop} (h:P:=by first|omega|(simp only[EVL]<;>omega)|(simp only[hget_c,Nat.reduceEqDiff,↓reduceIte];done)|assumption|(simp (disch:=omega) only[hg_ne,hg_eq,hgs_ne, *];done)|(simp only [TL,LAWSb];done)|with_unfolding_all rfl):P:=h
abbrev TwS (x:Te):Prop:=∀ h nx,lim T 30 [.agg [.int .u8 (x).k,.int .i64 (x).w,.int .u64 (x).b,.str (x).s,.int .i64 (x).lo,.lst (x).e ((x).l.map tV)]] h nx=some (.agg [.int .u8 (er x).k,.int .i64 (er x).w,.int .u64 (er x).b,.str (er x).s,.int .i64 (er x).lo,.lst (er x).e ((er x).l.map tV)],h,nx)
theorem twn_loop (t:Te) (hl:t.l.length ≤ 1000000) (ih:∀ x ∈ t.l,TwS x):∀ (k i:Nat),i + k=t.l.length →
  @Ok Out (runs T [.code b30_0,.inL (some 7) b30_0,.inB 0,.code k30_1] [(1,.ptr 0 1 0 0),(2,.ptr 1 1 0 0),(3,.sref 6 2 i 0 i),(7,.lst t.e (t.l.map tV)),(8,.int .i64 t.l.length),(9,.int .i64 i)]
   [(2,.row 6 (((t.l.map er).take i).map tV)),(1,.row 6 [zA]),(0,.row 6 [.agg [.int .u8 (t).k,.int .i64 (t).w,.int .u64 (t).b,.str (t).s,.int .i64 (t).lo,.lst (t).e ((t).l.map tV)]])] 7) ⟨fun x=>resV c30.res x=some (.agg [.int .u8 (er t).k,.int .i64 (er t).w,.int .u64 (er t).b,.str (er t).s,.int .i64 (er t).lo,.lst (er t).e ((er t).l.map tV)])⟩:=by
 intro k
 induction k with
 |zero =>
  intro i hi
  have:¬ (i:Int) < t.l.length:=by omega
  have hil:i=t.l.length:=by omega
  subst hil
  have hlen:(((t.l.map er).take t.l.length).map tV).length=t.l.length:=by simp
  simp (disch:=first | exact d_Y9 | fail) only [unf b30_0.eq_1,unf k30_1.eq_1,c30,this,LAWSb,hlen,EVS,Nat.reduceAdd,Nat.reduceSub,Int.reduceToNat,Nat.reduceMul,Nat.reduceEqDiff,Nat.reduceLeDiff,Int.reduceEq,Int.reduceLT,Int.reduceLE,↓reduceIte]
  rw [er_eq t]
  simp only [Tm'.k,Tm'.w,Tm'.b,Tm'.s,Tm'.lo,Tm'.e,Tm'.l]
 |succ k ihk =>
  intro i hi
  have:(i:Int) < t.l.length:=by omega
  have hx:=ih _ (getD_mem (d:=default) (show i < t.l.length by omega))
  have hlen:(((t.l.map er).take i).map tV).length=i:=by simp;omega
  simp (disch:=first | exact d_Y9 | fail) only [unf b30_0.eq_1,c30,this,LAWSb,hx,hlen,EVS,Nat.reduceAdd,Nat.reduceSub,Int.reduceToNat,Nat.reduceMul,Nat.reduceEqDiff,Nat.reduceLeDiff,Int.reduceEq,Int.reduceLT,Int.reduceLE,↓reduceIte]
  have hq:=ihk (i + 1) (by omega)
  rw [take_succ (by simp;omega),map_getD _ (by omega),List.map_append,List.map_cons,List.map_nil,tV_eq] at hq
  exact Ok_inL (by decide) (by simp [lowTm,low,lows,LAWSb]) (by simp [cutH,lowHeap,lowObj,lows,low,lows_app',LAWSb,lo_tm,-List.map_map,-List.map_take]) hq
theorem twn_spec (t:Te) (hl:size t ≤ 1000000):TwS t:=by
 induction t using Tm'.ind with
 |h t ih =>
 have hsz:=sizes_len t.l
 have hse:=size_eq t
 refine lim_iso tg30 rfl rfl (by simp [pures,pure_,pu_Ts]) ?_
 have lp:=twn_loop t (by omega) (fun x hx=>ih x hx (by have:=size_mem hx;omega)) t.l.length 0 (by omega)
 rw [List.take_zero] at lp
 simp (disch:=first | exact d_Y9 | fail) only [c30,LAWSb,EVS,Nat.reduceAdd,Nat.reduceSub,Int.reduceToNat,Nat.reduceMul,Nat.reduceEqDiff,Nat.reduceLeDiff,Int.reduceEq,Int.reduceLT,Int.reduceLE,↓reduceIte]
 exact lp
abbrev simT (t:Te):Te:=er (redT t)
open Classical in
noncomputable def sTermV (t:Te):FV:=.tup [if checkS t=0 then .agg [.int .u8 (simT t).k,.int .i64 (simT t).w,.int .u64 (simT t).b,.str (simT t).s,.int .i64 (simT t).lo,.lst (simT t).e ((simT t).l.map tV)] else zA,.int .i64 (checkS t)]
theorem sTerm_spec (t:Te) (ht:TOk t) (hs:size t ≤ 1000000):∀ h nx,lim T 12 [.agg [.int .u8 (t).k,.int .i64 (t).w,.int .u64 (t).b,.str (t).s,.int .i64 (t).lo,.lst (t).e ((t).l.map tV)]] h nx=some (sTermV t,h,nx):=by
 refine lim_iso tg12 rfl rfl (by simp [pures,pure_,pu_Ts]) ?_
 have hc:=check_pure t hs (fun x hx=>(ht x hx).1.1)
 unfold sTermV
 by_cases h0:checkS t=0
 ·have hg:=GT_of ht h0
  have hr:=reduce_spec t hg hs
  have hz:=(red_Rd t hg).sz
  have hw:=twn_spec (redT t) (by omega)
  rw [h0] at hc
  rw [if_pos h0,h0]
  simp (disch:=first | exact d_Y9 | fail) only [c12,TL,hc,hr,hw,EVS,Nat.reduceAdd,Nat.reduceSub,Int.reduceToNat,Nat.reduceMul,Nat.reduceEqDiff,Nat.reduceLeDiff,Int.reduceEq,Int.reduceLT,Int.reduceLE,↓reduceIte]
 ·have d1:decide (checkS t=0)=false:=decide_eq_false h0
  rw [if_neg h0]
  simp (disch:=first | exact d_Y9 | fail) only [c12,TL,hc,d1,EVS,Nat.reduceAdd,Nat.reduceSub,Int.reduceToNat,Nat.reduceMul,Nat.reduceEqDiff,Nat.reduceLeDiff,Int.reduceEq,Int.reduceLT,Int.reduceLE,↓reduceIte]
theorem d_YF {P:Prop} (h:P:=by first|omega|(simp only[EVL]<;>omega)|(simp only[hget_c,Nat.reduceEqDiff,↓reduceIte];done)|assumption|(simp (disch:=omega) only[hg_ne,hg_eq,hgs_ne, *];done)|(simp only [TL,LAWSm,EnL,LAWSb];done)|with_unfolding_all rfl):P:=h
theorem check_Rs {t r:Te} (h:Rs t r) (hc:checkS t=0):checkS r=0:=by
 have hs:¬ (400 < size t ∨ 60 < depth t):=fun e=>by rw [← check_many e] at hc;cases hc
 obtain ⟨_,en,he⟩:=nodes_of_check hc
 have h1:=h.sz
 have h2:=h.dp
 rw [check_in (by omega) h.g.1]
 cases hv:varsE r with
 |inl en'=>rfl
 |inr u=>exact absurd ((varsE_in he).1.sub fun p hp=>by
   obtain ⟨y,hy,hk,rfl⟩:=varL_mem.1 hp
   obtain ⟨x,hx,h1,h2,h3⟩:=h.vs y hy hk
   exact varL_mem.2 ⟨x,hx,h1,by rw [h2,h3]⟩) (varsE_no hv)
theorem Rs.trans {a b c:Te} (h1:Rs a b) (h2:Rs b c):Rs a c :=
 ⟨h2.g,h2.w.trans h1.w,Nat.le_trans h2.sz h1.sz,Nat.le_trans h2.dp h1.dp,fun y hy hk=>by
  obtain ⟨x,hx,e1,e2,e3⟩:=h2.vs y hy hk
  obtain ⟨z,hz,f1,f2,f3⟩:=h1.vs x hx e1
  exact ⟨z,hz,f1,f2.trans e2,f3.trans e3⟩,fun y hy hk=>by
  obtain ⟨x,hx,e1⟩:=h2.ld y hy hk
  exact h1.ld x hx e1⟩
theorem Rs_er {t:Te} (h:GT t):Rs t (er t):=by
 have hm:∀ y,y ∈ nodesT (er t)→∃ x ∈ nodesT t,er x=y:=fun y hy=>by
  rw [nodes_er] at hy;exact List.mem_map.1 hy
 refine ⟨⟨(nodesOk_er t).2 h.1,TOk_of_er (er_er t).symm h.2⟩,er_w t,by rw [size_er];exact Nat.le_refl _,by rw [depth_er];exact Nat.le_refl _,fun y hy hk=>?_,fun y hy hk=>?_⟩
 ·obtain ⟨x,hx,rfl⟩:=hm y hy
  exact ⟨x,hx,by rw [er_k] at hk;exact hk,(er_s x).symm,(er_w x).symm⟩
 ·obtain ⟨x,hx,rfl⟩:=hm y hy
  exact ⟨x,hx,by rw [er_k] at hk;exact hk⟩
theorem put_Rs {n:List UInt8} {w b:Int} (hc:GT (conT w b)) {t:Te} (h:GT t) (hw:∀ x ∈ nodesT t,x.k=2→x.s=n→x.w=w):Rs t (putT n (conT w b) t):=by
 induction t using Tm'.ind with
 |h t ih =>
 rw [putT_eq]
 split
 ·rename_i hk
  refine ⟨hc,(hw t (mem_nodes t) hk.1 hk.2).symm,?_,?_,?_,?_⟩
  ·have:=size_pos t;show size (conT w b) ≤ _;rw [size_eq];exact this
  ·have:=depth_pos t;show depth (conT w b) ≤ _;rw [depth_eq];exact this
  ·intro y hy hk;rw [nodes_con,List.mem_singleton] at hy;subst hy;cases hk
  ·intro y hy hk;rw [nodes_con,List.mem_singleton] at hy;subst hy;cases hk
 ·exact mapN_Rs h fun x hx=>ih x hx (h.sub hx) fun y hy=>hw y (nodes_sub hx hy)
theorem varL_con {w b:Int}:varList (conT w b)=[]:=rfl
theorem closed_const (t:Te) (h:GT t) (hv:∀ x ∈ nodesT t,x.k ≠ 2) (hl:∀ x ∈ nodesT t,x.k ≠ 24):(redT t).k=1:=by
 induction t using Tm'.ind with
 |h t ih =>
 have hself:=((nodesOk_iff t).1 h.1).1
 have hp:∀ x ∈ t.l,(redT x).k=1:=fun x hx=>ih x hx (h.sub hx) (fun y hy=>hv y (nodes_sub hx hy)) (fun y hy=>hl y (nodes_sub hx hy))
 rw [redT_eq]
 by_cases h3:3 ≤ t.k
 ·have hne:=((node_need hself).2 h3).2.2.2.2
  have hc:constP (redN t)=true:=constP_iff.2 ⟨hl t (mem_nodes t),(fun e=>by
   have e:t.l.map redT=[]:=e
   rw [List.map_eq_nil_iff] at e;rw [e] at hne;cases hne),fun x hx=>by
   have hx:x ∈ t.l.map redT:=hx
   obtain ⟨y,hy,rfl⟩:=List.mem_map.1 hx
   exact hp y hy⟩
  unfold stepT;rw [hc];rfl
 ·have h1:t.k=1:=by
   have:=hv t (mem_nodes t)
   rcases Int.lt_or_le t.k 1 with h' | h'
   ·exact absurd hself (node_no (.inl h'))
   ·omega
  have hl0:=List.length_eq_zero_iff.1 ((node_k1 h1).1 hself).2.1
  have e:stepT (redN t)=redN t:=step_nf ⟨by
   cases hcc:constP (redN t) with
   |false=>rfl
   |true=>exact absurd (show t.l.map redT=[] by rw [hl0];rfl) (constP_iff.1 hcc).2.1,fun R hR=>by
   have hR:R ∈ rulesN t.k.toNat:=hR
   rw [h1] at hR;cases hR⟩
  rw [e];exact h1
theorem sub_ok (t:Te) (n:List UInt8) (w b:Int) (ht:TOk t) (hc:GT (conT w b)) (e1:checkS t=0) (e2:checkS (conT w b)=0) (hw:(n,w) ∈ varList t) (e3:checkS (putT n (conT w b) t)=0) :
  ∀ h nx,lim T 27 [.agg [.int .u8 (t).k,.int .i64 (t).w,.int .u64 (t).b,.str (t).s,.int .i64 (t).lo,.lst (t).e ((t).l.map tV)],.str n,.agg [.int .u8 (conT w b).k,.int .i64 (conT w b).w,.int .u64 (conT w b).b,.str (conT w b).s,.int .i64 (conT w b).lo,.lst (conT w b).e ((conT w b).l.map tV)]] h nx=some (.tup [.agg [.int .u8 (er (putT n (conT w b) t)).k,.int .i64 (er (putT n (conT w b) t)).w,.int .u64 (er (putT n (conT w b) t)).b,.str (er (putT n (conT w b) t)).s,.int .i64 (er (putT n (conT w b) t)).lo,.lst (er (putT n (conT w b) t)).e ((er (putT n (conT w b) t)).l.map tV)],.int .i64 0],h,nx):=by
 have hst:=check_size' e1
 have hsp:=check_size' e3
 have hg:=GT_of ht e1
 refine lim_iso tg27 rfl rfl (by simp [pures,pure_,pu_Ts]) ?_
 have c1:=check_pure t (by omega) (fun x hx=>(ht x hx).1.1)
 have hsu1:size (conT w b)=1:=rfl
 have hwd:decide (w=(conT w b).w)=true:=decide_eq_true rfl
 have c2:=check_pure (conT w b) (by omega) (fun x hx=>(hc.2 x hx).1.1)
 rw [e1] at c1
 rw [e2] at c2
 simp (disch:=first | exact d_YF | fail) only [c27,LAWSb,c1,c2,Nat.add_assoc,EVS,Nat.reduceAdd,Nat.reduceSub,Int.reduceToNat,Nat.reduceMul,Nat.reduceEqDiff,Nat.reduceLeDiff,Int.reduceEq,Int.reduceLT,Int.reduceLE,↓reduceIte]
 refine Ok_call (variables_spec t (by omega) _ _) fun r hr=>?_
 obtain ⟨v,h',nx'⟩:=r
 obtain ⟨_,en,hv⟩:=nodes_of_check e1
 rw [hv] at hr
 obtain ⟨rfl,q1,q2,q3⟩:=hr
 dsimp only at q1 q2 q3
 refine ⟨rfl,?_⟩
 obtain ⟨hcs,hkn⟩:=varsE_in hv
 have hfe:=find_E n en
 rw [(hkn n w).2 hw] at hfe
 simp only [Option.map_some] at hfe
 have hsu:=size_spec (conT w b) (by omega)
 have hgr:=grown_spec t n 1 (by decide) (by decide) (by omega)
 have hrp:=replaced_spec n (conT w b) t (by omega)
 have htw:=twn_spec (putT n (conT w b) t) (by omega)
 have c3:=check_pure (er (putT n (conT w b) t)) (by rw [size_er];omega) (KOk_er fun x hx=>by
  have hr:=put_Rs hc hg (n:=n) fun x hx hk hs=>(varsE_in hv).1 n x.w w (varL_mem.2 ⟨x,hx,hk,by rw [hs]⟩) hw
  exact (hr.g.2 x hx).1.1)
 rw [checkS_er,e3] at c3
 rw [hsu1] at hsu
 have hle:decide ((400:Int) < ((size t + occ n (nodesT t) * 0:Nat):Int))=false:=decide_eq_false (by rw [Nat.mul_zero];omega)
 have g0:=(q3 0 (by omega)).trans (by simp (disch:=omega) only [hg_ne,hg_eq]:_=some (Obj.row 6 [.agg [.int .u8 (t).k,.int .i64 (t).w,.int .u64 (t).b,.str (t).s,.int .i64 (t).lo,.lst (t).e ((t).l.map tV)]]))
 have g1:=(q3 1 (by omega)).trans (by simp (disch:=omega) only [hg_ne,hg_eq]:_=some (Obj.row 6 [.agg [.int .u8 (conT w b).k,.int .i64 (conT w b).w,.int .u64 (conT w b).b,.str (conT w b).s,.int .i64 (conT w b).lo,.lst (conT w b).e ((conT w b).l.map tV)]]))
 have g2:=(q3 2 (by omega)).trans (by simp (disch:=omega) only [hg_ne,hg_eq]:_=some (Obj.row 6 [zA]))
 simp (disch:=first | exact d_YF | fail) only [c27,LAWSb,q1,q2,hfe,hsu,hgr,hrp,htw,c3,hle,hwd,g0,g1,g2,hgs_ne,hgx_e,Option.map_some,Nat.add_assoc,EVS,Nat.reduceAdd,Nat.reduceSub,Int.reduceToNat,Nat.reduceMul,Nat.reduceEqDiff,Nat.reduceLeDiff,Int.reduceEq,Int.reduceLT,Int.reduceLE,↓reduceIte]
theorem bound_loop (e:Bool) (env:Env) (s:List UInt8) (hl:env.length ≤ 1100):∀ (k i:Nat),i + k=env.length→(∀ j,j < i→¬ nm env j=s) →
  @Ok Out (runs T [.code b26_0,.inL (some 3) b26_0,.inB 0,.code k26_1] [(0,.lst e (env.map bdV)),(1,.str s),(4,.ptr 0 1 0 0),(6,.int .i64 i)] [(0,.row 3 [.agg [.str [],.int .i64 0,.int .u64 0]])] 3) ⟨fun x=>resV c26.res x=some (match boundS env s with
   |some q=>.tup [bdV q,.bool true]
   |none=>.tup [.agg [.str [],.int .i64 0,.int .u64 0],.bool false])⟩:=by
 intro k
 induction k with
 |zero =>
  intro i hi hj
  have d1:decide ((i:Int) < env.length)=false:=by simp;omega
  have hb:boundS env s=none:=find_no env s fun k hk=>hj k (by omega)
  rw [hb]
  simp (disch:=first | exact d_YF | fail) only [unf b26_0.eq_1,unf k26_1.eq_1,c26,d1,EnL,EVS,Nat.reduceAdd,Nat.reduceSub,Int.reduceToNat,Nat.reduceMul,Nat.reduceEqDiff,Nat.reduceLeDiff,Int.reduceEq,Int.reduceLT,Int.reduceLE,↓reduceIte]
 |succ k ih =>
  intro i hi hj
  have hil:i < env.length:=by omega
  have d1:decide ((i:Int) < env.length)=true:=by simp;omega
  by_cases hn:(env.getD i ([],0,0)).1=s
  ·have hb:=find_at env s i hil hj hn
   have hn':((env.getD i ([],0,0)).1 == s)=true:=by simpa using hn
   rw [hb]
   simp (disch:=first | exact d_YF | fail) only [unf b26_0.eq_1,c26,d1,EnL,hn',EVS,Nat.reduceAdd,Nat.reduceSub,Int.reduceToNat,Nat.reduceMul,Nat.reduceEqDiff,Nat.reduceLeDiff,Int.reduceEq,Int.reduceLT,Int.reduceLE,↓reduceIte]
   rfl
  ·have hn':((env.getD i ([],0,0)).1 == s)=false:=by simpa using hn
   simp (disch:=first | exact d_YF | fail) only [unf b26_0.eq_1,c26,d1,EnL,hn',EVS,Nat.reduceAdd,Nat.reduceSub,Int.reduceToNat,Nat.reduceMul,Nat.reduceEqDiff,Nat.reduceLeDiff,Int.reduceEq,Int.reduceLT,Int.reduceLE,↓reduceIte]
   exact Ok_inL (by decide) (by simp [lowTm,low,lows,EnL]) (by simp [cutH,lowHeap,lowObj,lows,low]) (ih (i + 1) (by omega) (fun j hjl=>by
    by_cases e:j=i
    ·subst e;exact hn
    ·exact hj j (by omega)))
theorem rBound_spec (e:Bool) (env:Env) (s:List UInt8) (hl:env.length ≤ 1100):∀ h nx,lim T 26 [.lst e (env.map bdV),.str s] h nx=some (match boundS env s with
   |some q=>.tup [bdV q,.bool true]
   |none=>.tup [.agg [.str [],.int .i64 0,.int .u64 0],.bool false],h,nx):=by
 refine lim_iso tg26 rfl rfl (by simp [pures,pure_,pu_e]) ?_
 have lp:=bound_loop e env s hl env.length 0 (by omega) (fun j hj=>by omega)
 simp (disch:=first | exact d_YF | fail) only [c26,EnL,EVS,Nat.reduceAdd,Nat.reduceSub,Int.reduceToNat,Nat.reduceMul,Nat.reduceEqDiff,Nat.reduceLeDiff,Int.reduceEq,Int.reduceLT,Int.reduceLE,↓reduceIte]
 exact lp
end Go.Proofs.YtjmppkmacaeahaaGreatDoor.Fi
