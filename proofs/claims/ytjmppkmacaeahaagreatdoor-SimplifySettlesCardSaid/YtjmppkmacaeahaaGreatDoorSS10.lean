/- Parts of the proof, one behind the other. -/
import Derived.Test.YtjmppkmacaeahaaGreatDoorSS7
import Derived.Test.YtjmppkmacaeahaaGreatDoorSS4
import Derived.Test.YtjmppkmacaeahaaGreatDoorSS9
import Derived.Test.YtjmppkmacaeahaaGreatDoorKB
set_option linter.all false
namespace Go.Proofs.YtjmppkmacaeahaaGreatDoor.Fi
open Go.FI
def TwR (h:Heap) (nx:Nat) (t:Te) (r:FV × Heap × Nat):Prop:=RpT r.2.1 nx r.2.2 r.1 t∧Ext h r.2.1 nx r.2.2
theorem d_R4t {P:Prop} (h:P:=by first|omega|(simp only[EVL]<;>omega)|(simp only[hget_c,Nat.reduceEqDiff,↓reduceIte];done)|assumption|(simp (disch:=omega) only[hg_ne,hg_eq,hgs_ne, *];done)|(simp only [LAWSb];done)|with_unfolding_all rfl):P:=h
theorem rTwin_loop (t:Te) (hl:t.l.length ≤ 1000000) (h0:Heap) (b:Nat) (ih:∀ x ∈ t.l,∀ h nx,∃ r,lim T 11 [.agg [.int .u8 (x).k,.int .i64 (x).w,.int .u64 (x).b,.str (x).s,.int .i64 (x).lo,.lst (x).e ((x).l.map tV)]] h nx=some r∧TwR h nx x r):∀ (k i:Nat) (c:FV) (h:Heap) (nx:Nat),i + k=t.l.length→b + 16 ≤ nx→(∀ j,j < b→hget h j=hget h0 j)→hget h b=some (.row 6 [.agg [.int .u8 (t).k,.int .i64 (t).w,.int .u64 (t).b,.str (t).s,.int .i64 (t).lo,.lst (t).e ((t).l.map tV)]])→(∃ z0 z1 z2 z3 z4 z5,hget h (b + 1)=some (.row 6 [.agg [z0,z1,z2,z3,z4,z5]]))→hget h (b + 13)=some (.row 6 [.agg [.int .u8 t.k,.int .i64 t.w,.int .u64 t.b,.str t.s,.int .i64 t.lo,c]])→((c=.lst true []∧i=0) ∨ ∃ id xs,c=.sref 6 id i 0 i∧b + 14 ≤ id∧id < nx∧0 < i∧hget h id=some (.row 6 xs)∧RpL h (id + 1) nx xs (t.l.take i)) →
  @Ok Out (runs T [.code b11_0,.inL none b11_0,.inB 0,.code k11_1] [(1,.ptr b 1 0 0),(2,.ptr (b + 1) 1 0 0),(3,.ptr (b + 13) 1 0 0),(4,.int .i64 i)] h nx)
   ⟨fun x=>@Ok FV (finV c11.res x) ⟨fun v=>TwR h0 b t (v,x.2.2.1,x.2.2.2)⟩⟩:=by
 intro k
 induction k with
 |zero =>
  intro i c h nx hi hb hx q0 q1 q2 hr
  obtain ⟨z0,z1,z2,z3,z4,z5,q1⟩:=q1
  have:¬ (i:Int) < t.l.length:=by omega
  have hil:i=t.l.length:=by omega
  have cok:c.one=true∧c.cells.length=1:=by
   rcases hr with ⟨rfl,_⟩ | ⟨id,xs,rfl,_⟩<;>exact ⟨rfl,rfl⟩
  simp (disch:=first | exact d_R4t | fail) only [unf b11_0.eq_1,unf k11_1.eq_1,c11,this,LAWSb,q0,q1,q2,cok.1,hgs_ne,hgx_e,Option.map_some,EVS,Nat.reduceAdd,Nat.reduceSub,Int.reduceToNat,Nat.reduceMul,Nat.reduceEqDiff,Nat.reduceLeDiff,Int.reduceEq,Int.reduceLT,Int.reduceLE,↓reduceIte]
  subst hil
  refine ⟨RpT_iff.2 ⟨_,rfl,?_⟩,by dsimp only;omega,fun j hj=>by simp (disch:=omega) only [hgs_ne];exact hx j hj⟩
  rcases hr with ⟨rfl,h0⟩ | ⟨id,xs,rfl,hid,hid2,h0i,g,hr⟩
  ·exact .inl ⟨true,rfl,List.length_eq_zero_iff.1 h0⟩
  ·rw [List.take_of_length_le (by omega)] at hr
   exact .inr ⟨id,xs,rfl,by omega,by dsimp only;omega,by rw [hgs_ne (by omega)];exact g,hr.mono (by omega) (by dsimp only;omega) (fun j hj1 hj2=>by rw [hgs_ne (by omega)])⟩
 |succ k ihk =>
  intro i c h nx hi hb hx q0 q1 q2 hr
  have:(i:Int) < t.l.length:=by omega
  rcases hr with ⟨rfl,rfl⟩ | ⟨id,xs,rfl,hid,hid2,h0i,g,hr⟩
  ·simp (disch:=first | exact d_R4t | fail) only [unf b11_0.eq_1,c11,this,LAWSb,q0,q1,q2,EVS,Nat.reduceAdd,Nat.reduceSub,Int.reduceToNat,Nat.reduceMul,Nat.reduceEqDiff,Nat.reduceLeDiff,Int.reduceEq,Int.reduceLT,Int.reduceLE,↓reduceIte]
   refine Ok_call (ih _ (getD_mem (d:=default) (show 0 < t.l.length by omega)) _ _) fun r hr'=>?_
   obtain ⟨v,h',nx'⟩:=r
   obtain ⟨hv,hx1,hx2⟩:=hr'
   dsimp only at hv hx1 hx2
   obtain ⟨c,rfl,hc⟩:=RpT_iff.1 hv
   refine ⟨rfl,?_⟩
   have cok:c.one=true∧c.cells.length=1:=by
    rcases hc with ⟨e,rfl,_⟩ | ⟨id,xs,rfl,_⟩<;>exact ⟨rfl,rfl⟩
   have g0:hget h' b=some (.row 6 [.agg [.int .u8 (t).k,.int .i64 (t).w,.int .u64 (t).b,.str (t).s,.int .i64 (t).lo,.lst (t).e ((t).l.map tV)]]):=(hx2 _ (by omega)).trans q0
   have g2:=(hx2 (b + 13) (by omega)).trans q2
   simp (disch:=first | exact d_R4t | fail) only [c11,LAWSb,g0,g2,cok.1,EVS,Nat.reduceAdd,Nat.reduceSub,Int.reduceToNat,Nat.reduceMul,Nat.reduceEqDiff,Nat.reduceLeDiff,Int.reduceEq,Int.reduceLT,Int.reduceLE,↓reduceIte]
   obtain ⟨z0,z1,z2,z3,z4,z5,q1⟩:=q1
   refine Ok_inL0 (ihk 1 _ _ _ (by omega) (by omega) (fun j hj=>?_) ?_ ⟨z0,z1,z2,z3,z4,z5,?_⟩ ?_ (.inr ⟨_,_,rfl,?_,?_,by omega,hg_eq,?_⟩))
   ·rw [hg_ne (by omega),hg_ne (by omega),hgs_ne (by omega),hx2 _ (by omega)];exact hx j hj
   ·rw [hg_ne (by omega),hg_ne (by omega),hgs_ne (by omega)];exact g0
   ·rw [hg_ne (by omega),hg_ne (by omega),hgs_ne (by omega),hx2 _ (by omega)];exact q1
   ·rw [hg_ne (by omega),hg_ne (by omega)];exact hgs_eq g2
   ·omega
   ·omega
   ·rw [show t.l.take 1=[t.l.getD 0 default] by rw [take_succ (by omega)];simp]
    exact ⟨hv.mono (by omega) (by omega) (fun j hj1 hj2=>by rw [hg_ne (by omega),hg_ne (by omega),hgs_ne (by omega)]),trivial⟩
  ·simp (disch:=first | exact d_R4t | fail) only [unf b11_0.eq_1,c11,this,LAWSb,q0,q1,q2,EVS,Nat.reduceAdd,Nat.reduceSub,Int.reduceToNat,Nat.reduceMul,Nat.reduceEqDiff,Nat.reduceLeDiff,Int.reduceEq,Int.reduceLT,Int.reduceLE,↓reduceIte]
   refine Ok_call (ih _ (getD_mem (d:=default) (show i < t.l.length by omega)) _ _) fun r hr'=>?_
   obtain ⟨v,h',nx'⟩:=r
   obtain ⟨hv,hx1,hx2⟩:=hr'
   dsimp only at hv hx1 hx2
   obtain ⟨c,rfl,hc⟩:=RpT_iff.1 hv
   refine ⟨rfl,?_⟩
   have cok:c.one=true∧c.cells.length=1:=by
    rcases hc with ⟨e,rfl,_⟩ | ⟨id,xs,rfl,_⟩<;>exact ⟨rfl,rfl⟩
   have g0:hget h' b=some (.row 6 [.agg [.int .u8 (t).k,.int .i64 (t).w,.int .u64 (t).b,.str (t).s,.int .i64 (t).lo,.lst (t).e ((t).l.map tV)]]):=(hx2 _ (by omega)).trans q0
   have g2:=(hx2 (b + 13) (by omega)).trans q2
   have g:=(hx2 id (by omega)).trans g
   have hlen:xs.length=i:=by have:=hr.length;rw [List.length_take] at this;omega
   simp (disch:=first | exact d_R4t | fail) only [c11,LAWSb,g0,g2,g,cok.1,hgs_ne,hgx_e,Option.map_some,EVS,Nat.reduceAdd,Nat.reduceSub,Int.reduceToNat,Nat.reduceMul,Nat.reduceEqDiff,Nat.reduceLeDiff,Int.reduceEq,Int.reduceLT,Int.reduceLE,↓reduceIte]
   obtain ⟨z0,z1,z2,z3,z4,z5,q1⟩:=q1
   refine Ok_inL0 (ihk (i + 1) _ _ _ (by omega) (by omega) (fun j hj=>?_) ?_ ⟨z0,z1,z2,z3,z4,z5,?_⟩ ?_ (.inr ⟨id,xs ++ [.agg [.int .u8 (t.l.getD i default).k,.int .i64 (t.l.getD i default).w,.int .u64 (t.l.getD i default).b,.str (t.l.getD i default).s,.int .i64 (t.l.getD i default).lo,c]],rfl,by omega,by omega,by omega,?_,?_⟩))
   ·rw [hg_ne (by omega),hgs_ne (by omega),hgs_ne (by omega),hx2 _ (by omega)];exact hx j hj
   ·rw [hg_ne (by omega),hgs_ne (by omega),hgs_ne (by omega)];exact g0
   ·rw [hg_ne (by omega),hgs_ne (by omega),hgs_ne (by omega),hx2 _ (by omega)];exact q1
   ·rw [hg_ne (by omega)]
    refine hgs_eq (q:=.row 6 [.agg [.int .u8 t.k,.int .i64 t.w,.int .u64 t.b,.str t.s,.int .i64 t.lo,.sref 6 id i 0 i]]) ?_
    rw [hgs_ne (by omega)];exact g2
   ·rw [hg_ne (by omega),hgs_ne (by omega)];exact hgs_eq g
   ·rw [take_succ (by omega)]
    refine RpL.app (ys:=[_]) (m:=[_]) ⟨hv.mono (by omega) (by omega) (fun j hj1 hj2=>by rw [hg_ne (by omega),hgs_ne (by omega),hgs_ne (by omega)]),trivial⟩ (hr.mono (by omega) (by omega) (fun j hj1 hj2=>by rw [hg_ne (by omega),hgs_ne (by omega),hgs_ne (by omega),hx2 _ (by omega)]))
theorem rTwin_spec (t:Te) (hl:size t ≤ 1000000):∀ h nx,∃ r,lim T 11 [.agg [.int .u8 (t).k,.int .i64 (t).w,.int .u64 (t).b,.str (t).s,.int .i64 (t).lo,.lst (t).e ((t).l.map tV)]] h nx=some r∧TwR h nx t r:=by
 induction t using Tm'.ind with
 |h t ih =>
 have hsz:=sizes_len t.l
 have hse:=size_eq t
 intro h nx
 rw [lim_shr tg11 rfl rfl]
 suffices hh:@Ok Out (runs T [.code c11.body] (params 0 [.agg [.int .u8 (t).k,.int .i64 (t).w,.int .u64 (t).b,.str (t).s,.int .i64 (t).lo,.lst (t).e ((t).l.map tV)]]) h nx) ⟨fun x=>@Ok FV (finV c11.res x) ⟨fun v=>TwR h nx t (v,x.2.2.1,x.2.2.2)⟩⟩ by
  obtain ⟨x,h1,v,h2,h3⟩:=hh
  exact ⟨(v,x.2.2.1,x.2.2.2),by rw [h1,B_some,h2,B_some],h3⟩
 simp (disch:=first | exact d_R4t | fail) only [c11,LAWSb,Nat.add_assoc,EVS,Nat.reduceAdd,Nat.reduceSub,Int.reduceToNat,Nat.reduceMul,Nat.reduceEqDiff,Nat.reduceLeDiff,Int.reduceEq,Int.reduceLT,Int.reduceLE,↓reduceIte]
 exact rTwin_loop t (by omega) h nx (fun x hx=>ih x hx (by have:=size_mem hx;omega)) t.l.length 0 (.lst true []) _ _ (by omega) (by omega) (fun j hj=>by rw [hg_ne (by omega),hg_ne (by omega),hg_ne (by omega)]) (by rw [hg_ne (by omega),hg_ne (by omega)];exact hg_eq) ⟨_,_,_,_,_,_,by rw [hg_ne (by omega)];exact hg_eq⟩ hg_eq (.inl ⟨rfl,rfl⟩)
theorem d_LS {P:Prop} (h:P:=by first|omega|(simp only[EVL]<;>omega)|(simp only[hget_c,Nat.reduceEqDiff,↓reduceIte];done)|assumption|(simp (disch:=omega) only[hg_ne,hg_eq,hgs_ne, *];done)|(simp only [LAWSb];done)|with_unfolding_all rfl):P:=h
def JS (H h:Heap) (lo id:Nat):Prop:=∀ q,q < lo→q ≠ id→hget h q=hget H q
theorem st_loop (t:Te) (hc:checkS t=0) (ht:TOk t) (H:Heap) (p lo id a b:Nat) (hp:p < lo) (hpi:p ≠ id) (hid:id < lo) (hi0:id ≠ 0) (h0l:0 < lo)
  (hP:hget H p=some (.row 6 [.agg [.int .u8 t.k,.int .i64 t.w,.int .u64 t.b,.str t.s,.int .i64 t.lo,.sref 6 id t.l.length 0 t.l.length]])) (h0:hget H 0=some (.row 6 [.agg [.int .u8 (t).k,.int .i64 (t).w,.int .u64 (t).b,.str (t).s,.int .i64 (t).lo,.lst (t).e ((t).l.map tV)]])) (Q:Post Out)
  (next:∀ h nx,JS H h lo id→hget h id=some (.row 6 ((t.l.map simT).map tV))→lo ≤ nx→@Ok Out (runs T [.code k6_1] [(1,.ptr 0 1 0 0),(3,.bool true),(4,.ptr a 1 0 0),(6,.ptr b 1 0 0),(7,.int .i64 0),(8,.ptr p 1 0 0),(9,.int .i64 t.l.length),(47,.bool false)] h nx) Q) :
  ∀ (k i:Nat) (h:Heap) (nx:Nat) (xs:List FV),i + k=t.l.length→JS H h lo id→lo ≤ nx→hget h id=some (.row 6 xs)→xs.length=t.l.length→(∀ j,j < i→xs[j]? = some (tV (simT (t.l.getD j default))))→(∀ j,j < t.l.length→∃ a0 a1 a2 a3 a4 a5,xs[j]? = some (.agg [a0,a1,a2,a3,a4,a5])) →
  @Ok Out (runs T [.code b6_0,.inL none b6_0,.inB 0,.code k6_1] [(1,.ptr 0 1 0 0),(3,.bool true),(4,.ptr a 1 0 0),(6,.ptr b 1 0 0),(7,.int .i64 0),(8,.ptr p 1 0 0),(9,.int .i64 i)] h nx) Q:=by
 have h3:=len3 (GT_of ht hc)
 intro k
 induction k with
 |zero =>
  intro i h nx xs hi hJ hn hg hl hx hC
  have hP':=(hJ p hp hpi).trans hP
  have h0':=(hJ 0 h0l (Ne.symm hi0)).trans h0
  have d1:decide ((i:Int) < t.l.length)=false:=by simp;omega
  have him:i=t.l.length:=by omega
  have hxs:xs=(t.l.map simT).map tV:=by
   refine List.ext_getElem? fun j=>?_
   by_cases hj:j < t.l.length
   ·rw [hx j (by omega)];simp [List.getD,hj]
   ·rw [List.getElem?_eq_none (by omega),List.getElem?_eq_none (by simp;omega)]
  subst hxs
  simp (disch:=first | exact d_LS | fail) only [unf b6_0.eq_1,c6,d1,LAWSb,hP',h0',EVS,Nat.reduceAdd,Nat.reduceSub,Int.reduceToNat,Nat.reduceMul,Nat.reduceEqDiff,Nat.reduceLeDiff,Int.reduceEq,Int.reduceLT,Int.reduceLE,↓reduceIte]
  subst him
  exact next h _ hJ hg (by omega)
 |succ k ih =>
  intro i h nx xs hi hJ hn hg hl hx hC
  have hP':=(hJ p hp hpi).trans hP
  have h0':=(hJ 0 h0l (Ne.symm hi0)).trans h0
  have hil:i < t.l.length:=by omega
  have d1:decide ((i:Int) < t.l.length)=true:=by simp;omega
  have hmem:=getD_mem (d:=(default:Te)) hil
  have cx:=check_sub hmem hc
  have tx:=ht.sub hmem
  have hzx:=check_size' cx
  have sv:=sTerm_spec _ tx (by omega)
  unfold sTermV at sv
  rw [cx,if_pos rfl] at sv
  obtain ⟨a0,a1,a2,a3,a4,a5,hxi⟩:=hC i hil
  simp (disch:=first | exact d_LS | fail) only [unf b6_0.eq_1,c6,d1,LAWSb,hP',h0',sv,hg,hl,hxi,EVS,Nat.reduceAdd,Nat.reduceSub,Int.reduceToNat,Nat.reduceMul,Nat.reduceEqDiff,Nat.reduceLeDiff,Int.reduceEq,Int.reduceLT,Int.reduceLE,↓reduceIte]
  refine Ok_inL0 (ih (i + 1) _ _ _ (by omega) (fun q hq hqi=>by rw [hg_ne (by omega),hgs_ne (by omega)];exact hJ q hq hqi) (by omega) (by rw [hg_ne (by omega)];exact hgs_eq hg) (by rw [List.length_set];exact hl) (fun j hj=>?_) (fun j hj=>?_))
  ·by_cases e:j=i
   ·subst e;rw [List.getElem?_set_self (by omega),tV_eq]
   ·rw [List.getElem?_set_ne (by omega)];exact hx j (by omega)
  ·by_cases e:j=i
   ·subst e;exact ⟨_,_,_,_,_,_,List.getElem?_set_self (by omega)⟩
   ·rw [List.getElem?_set_ne (by omega)];exact hC j hj
theorem sim_Rs {t:Te} (h:GT t):Rs t (simT t):=by
 have hr:=red_Rd t h
 have hm:∀ y,y ∈ nodesT (er (redT t))→∃ x ∈ nodesT (redT t),er x=y:=fun y hy=>by
  rw [nodes_er] at hy;exact List.mem_map.1 hy
 refine ⟨⟨(nodesOk_er _).2 hr.g.1,TOk_of_er (er_er _).symm hr.g.2⟩,(er_w _).trans hr.w,by rw [size_er];exact hr.sz,by rw [depth_er];exact hr.dp,fun y hy hk=>?_,fun y hy hk=>?_⟩
 ·obtain ⟨x,hx,rfl⟩:=hm y hy
  obtain ⟨z,hz,f1,f2,f3⟩:=hr.vs x hx (by rw [er_k] at hk;exact hk)
  exact ⟨z,hz,f1,by rw [f2,er_s],by rw [f3,er_w]⟩
 ·obtain ⟨x,hx,rfl⟩:=hm y hy
  exact hr.ld x hx (by rw [er_k] at hk;exact hk)
theorem check_Rs' {t r:Te} (h:Rs t r) (hc:checkS t=0):checkS r=0:=by
 have hs:¬ (400 < size t ∨ 60 < depth t):=fun e=>by rw [← check_many e] at hc;cases hc
 obtain ⟨_,en,he⟩:=nodes_of_check hc
 have h1:=h.sz
 have h2:=h.dp
 rw [check_in (by omega) h.g.1]
 cases hv:varsE r with
 |inl en'=>rfl
 |inr u=>exact absurd ((varsE_in he).1.sub fun p hp=>by
   obtain ⟨y,hy,hk,rfl⟩:=varL_mem.1 hp
   obtain ⟨x,hx,h1,h2,h3⟩:=h.vs y hy hk
   exact varL_mem.2 ⟨x,hx,h1,by rw [h2,h3]⟩) (varsE_no hv)
theorem sim_sim {t:Te} (h:GT t):simT (simT t)=simT t:=by
 show er (redT (er (redT t)))=er (redT t)
 rw [red_cg _ _ (er_er (redT t)),red_idem h]
theorem sim_parts {t:Te} (h:GT t):simT (mapN simT t)=simT t:=by
 show er (redT (mapN simT t))=er (redT t)
 rw [redT_eq,redT_eq t]
 refine step_cg ?_
 show er (.mk t.k t.w t.b t.s t.lo false ((t.l.map simT).map redT))=er (.mk t.k t.w t.b t.s t.lo false (t.l.map redT))
 refine er_mk ?_
 rw [List.map_map,List.map_map,List.map_map]
 refine List.map_congr_left fun x hx=>?_
 show er (redT (er (redT x)))=er (redT x)
 exact sim_sim (h.sub hx)
theorem law_SS (t:Te) (ht:TOk t):∀ h nx,lim T 6 [.agg [.int .u8 (t).k,.int .i64 (t).w,.int .u64 (t).b,.str (t).s,.int .i64 (t).lo,.lst (t).e ((t).l.map tV)]] h nx=some (.bool true,h,nx):=by
 refine lim_iso tg6 rfl rfl (by simp [pures,pure_,pu_Ts]) ?_
 obtain ⟨b1,g1,c1⟩:=great_spec t ht
 cases b1 with
 |true=>simp (disch:=first | exact d_LS | fail) only [c6,LAWSb,alive_iso,p_op,c1,EVS,Nat.reduceAdd,Nat.reduceSub,Int.reduceToNat,Nat.reduceMul,Nat.reduceEqDiff,Nat.reduceLeDiff,Int.reduceEq,Int.reduceLT,Int.reduceLE,↓reduceIte]
 |false =>
  obtain ⟨sa,da,_⟩:=g1 rfl
  have ka:KOk t:=fun x hx=>(ht x hx).1.1
  have k1:=check_pure t (by omega) ka
  have s1:=sTerm_spec t ht (by omega)
  unfold sTermV at s1
  by_cases hc:checkS t=0
  ·rw [hc,if_pos rfl] at s1
   have hg:=GT_of ht hc
   have h3:=len3 hg
   have hs1:=sim_Rs hg
   have hsz:=hs1.sz
   have s2:=sTerm_spec (simT t) hs1.g.2 (by omega)
   unfold sTermV at s2
   rw [check_Rs' hs1 hc,if_pos rfl,sim_sim hg] at s2
   have hss:=same_pure (simT t) (simT t) (by omega) (by omega)
   rw [sameT_refl] at hss
   have hu:=mapN_Rs (f:=simT) hg fun x hx=>sim_Rs (hg.sub hx)
   have huz:=hu.sz
   have hur:=sTerm_runs (mapN simT t) hu.g.2 (by omega)
   unfold sTermV at hur
   rw [check_Rs' hu hc,if_pos rfl,sim_parts hg] at hur
   simp (disch:=first | exact d_LS | fail) only [c6,LAWSb,alive_iso,p_op,c1,s1,s2,Nat.add_assoc,EVS,Nat.reduceAdd,Nat.reduceSub,Int.reduceToNat,Nat.reduceMul,Nat.reduceEqDiff,Nat.reduceLeDiff,Int.reduceEq,Int.reduceLT,Int.reduceLE,↓reduceIte]
   refine Ok_call (rTwin_spec t (by omega) _ _) fun r hr=>?_
   obtain ⟨v,h',nx'⟩:=r
   obtain ⟨hv,x1,x2⟩:=hr
   dsimp only at hv x1 x2
   obtain ⟨c,rfl,hcc⟩:=RpT_iff.1 hv
   have cok:c.one=true∧c.cells.length=1:=by
    rcases hcc with ⟨e,rfl,_⟩ | ⟨id,xs,rfl,_⟩<;>exact ⟨rfl,rfl⟩
   refine ⟨rfl,?_⟩
   simp (disch:=first | exact d_LS | fail) only [c6,LAWSb,cok.1,Nat.add_assoc,EVS,Nat.reduceAdd,Nat.reduceSub,Int.reduceToNat,Nat.reduceMul,Nat.reduceEqDiff,Nat.reduceLeDiff,Int.reduceEq,Int.reduceLT,Int.reduceLE,↓reduceIte]
   have g0:=(x2 0 (by omega)).trans (by simp (disch:=omega) only [hg_ne,hg_eq]:_=some (Obj.row 6 [.agg [.int .u8 (t).k,.int .i64 (t).w,.int .u64 (t).b,.str (t).s,.int .i64 (t).lo,.lst (t).e ((t).l.map tV)]]))
   have g15:=(x2 15 (by omega)).trans (by simp (disch:=omega) only [hg_ne,hg_eq]:_=some (Obj.row 6 [.agg [.int .u8 (simT t).k,.int .i64 (simT t).w,.int .u64 (simT t).b,.str (simT t).s,.int .i64 (simT t).lo,.lst (simT t).e ((simT t).l.map tV)]]))
   have g25:=(x2 25 (by omega)).trans (by simp (disch:=omega) only [hg_ne,hg_eq]:_=some (Obj.row 6 [.agg [.int .u8 (simT t).k,.int .i64 (simT t).w,.int .u64 (simT t).b,.str (simT t).s,.int .i64 (simT t).lo,.lst (simT t).e ((simT t).l.map tV)]]))
   rcases hcc with ⟨e,rfl,hl0⟩ | ⟨id,xs,rfl,i1,i2,i3,i4⟩
   ·have e0:er (.mk t.k t.w t.b t.s t.lo e [])=er t:=by rw [er_eq,er_eq t,hl0];rfl
    have hsu:∀ h nx,lim T 12 [.agg [.int .u8 t.k,.int .i64 t.w,.int .u64 t.b,.str t.s,.int .i64 t.lo,.lst e []]] h nx=some (.tup [.agg [.int .u8 (simT t).k,.int .i64 (simT t).w,.int .u64 (simT t).b,.str (simT t).s,.int .i64 (simT t).lo,.lst (simT t).e ((simT t).l.map tV)],.int .i64 0],h,nx):=fun h nx=>by
     have:=sTerm_spec (.mk t.k t.w t.b t.s t.lo e []) (TOk_of_er e0.symm ht) (by rw [← size_er,e0,size_er];omega) h nx
     unfold sTermV at this
     rw [checkS_of_er e0,hc,if_pos rfl,show simT (.mk t.k t.w t.b t.s t.lo e [])=simT t from red_cg _ _ e0] at this
     exact this
    have hn:((t.l.length:Nat):Int)=0:=by rw [hl0];rfl
    simp (disch:=first | exact d_LS | fail) only [unf b6_0.eq_1,unf k6_1.eq_1,c6,LAWSb,hn,g0,g15,g25,hsu,hss,EVS,Nat.reduceAdd,Nat.reduceSub,Int.reduceToNat,Nat.reduceMul,Nat.reduceEqDiff,Nat.reduceLeDiff,Int.reduceEq,Int.reduceLT,Int.reduceLE,↓reduceIte]
   ·refine st_loop t hc ht _ 30 (nx' + 1) id 15 25 (by omega) (by omega) (by omega) (by omega) (by omega) (by exact hg_eq) (by rw [hg_ne (by omega)];exact g0) _ (fun h nx hJ hgi hn=>?_) t.l.length 0 _ _ xs (by omega) (fun q _ _=>rfl) (by omega) (by rw [hg_ne (by omega)];exact i3) i4.length (fun j hj=>by omega) (fun j hj=>i4.get j hj)
    have q30:=(hJ 30 (by omega) (by omega)).trans (by exact hg_eq:_=some (Obj.row 6 [.agg [.int .u8 t.k,.int .i64 t.w,.int .u64 t.b,.str t.s,.int .i64 t.lo,.sref 6 id t.l.length 0 t.l.length]]))
    have q15:=(hJ 15 (by omega) (by omega)).trans (by rw [hg_ne (by omega)];exact g15:_=some (Obj.row 6 [.agg [.int .u8 (simT t).k,.int .i64 (simT t).w,.int .u64 (simT t).b,.str (simT t).s,.int .i64 (simT t).lo,.lst (simT t).e ((simT t).l.map tV)]]))
    have q25:=(hJ 25 (by omega) (by omega)).trans (by rw [hg_ne (by omega)];exact g25:_=some (Obj.row 6 [.agg [.int .u8 (simT t).k,.int .i64 (simT t).w,.int .u64 (simT t).b,.str (simT t).s,.int .i64 (simT t).lo,.lst (simT t).e ((simT t).l.map tV)]]))
    have hcall:∀ nx,lim T 12 [.agg [.int .u8 t.k,.int .i64 t.w,.int .u64 t.b,.str t.s,.int .i64 t.lo,.sref 6 id t.l.length 0 t.l.length]] h nx=some (.tup [.agg [.int .u8 (simT t).k,.int .i64 (simT t).w,.int .u64 (simT t).b,.str (simT t).s,.int .i64 (simT t).lo,.lst (simT t).e ((simT t).l.map tV)],.int .i64 0],hset h id (.fro 6 ((t.l.map simT).map tV)),nx):=fun nx=>by
     have h1:=frz_own (k:=t.k) (w:=t.w) (b:=t.b) (s:=t.s) (lo:=t.lo) (l:=t.l.map simT) (.inl hgi) (by rw [List.length_map];omega) (cs:=[]) rfl (by decide)
     have h2:=idL_own (k:=t.k) (w:=t.w) (b:=t.b) (s:=t.s) (lo:=t.lo) (l:=t.l.map simT) (.inl hgi) (cs:=[]) rfl
     rw [List.length_map] at h1 h2
     have:=hur _ h nx h1 rfl
     rw [h2,froze_row hgi] at this
     exact this
    simp (disch:=first | exact d_LS | fail) only [unf k6_1.eq_1,c6,LAWSb,q30,q15,q25,hcall,hss,hgs_ne,EVS,Nat.reduceAdd,Nat.reduceSub,Int.reduceToNat,Nat.reduceMul,Nat.reduceEqDiff,Nat.reduceLeDiff,Int.reduceEq,Int.reduceLT,Int.reduceLE,↓reduceIte]
  ·rw [if_neg hc] at s1
   have d1:decide (checkS t=0)=false:=decide_eq_false hc
   simp (disch:=first | exact d_LS | fail) only [c6,LAWSb,alive_iso,p_op,c1,s1,k1,d1,EVS,Nat.reduceAdd,Nat.reduceSub,Int.reduceToNat,Nat.reduceMul,Nat.reduceEqDiff,Nat.reduceLeDiff,Int.reduceEq,Int.reduceLT,Int.reduceLE,↓reduceIte]
end Go.Proofs.YtjmppkmacaeahaaGreatDoor.Fi
