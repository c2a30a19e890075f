/- Parts of the proof, one behind the other. -/
import Derived.Test.YtjmppkmacaeahaaGreatDoorSF9
import Derived.Test.YtjmppkmacaeahaaGreatDoorSF7
import Derived.Test.YtjmppkmacaeahaaGreatDoorKB
set_option linter.all false
namespace Go.Proofs.YtjmppkmacaeahaaGreatDoor.Fi
open Go.FI
theorem d_LF {P:Prop} (h:P:=by first|omega|(simp only[EVL]<;>omega)|(simp only[hget_c,Nat.reduceEqDiff,↓reduceIte];done)|assumption|(simp (disch:=omega) only[hg_ne,hg_eq,hgs_ne, *];done)|(simp only [TL,LAWSm,EnL,LAWSb];done)|with_unfolding_all rfl):P:=h
theorem con3_spec (w x:Int):∀ h nx,lim T 21 [.int .i64 w,.int .u64 x] h nx=some (.agg [.int .u8 (conT w x).k,.int .i64 (conT w x).w,.int .u64 (conT w x).b,.str (conT w x).s,.int .i64 (conT w x).lo,.lst (conT w x).e ((conT w x).l.map tV)],h,nx):=by
 refine lim_iso tg21 rfl rfl rfl ?_
 simp (disch:=first | exact d_LF | fail) only [c21,EVS,Nat.reduceAdd,Nat.reduceSub,Int.reduceToNat,Nat.reduceMul,Nat.reduceEqDiff,Nat.reduceLeDiff,Int.reduceEq,Int.reduceLT,Int.reduceLE,↓reduceIte]
 rfl
theorem check_con {w x:Int} (h:GT (conT w x)):checkS (conT w x)=0:=by
 have e1:size (conT w x)=1:=rfl
 have e2:depth (conT w x)=1:=rfl
 rw [check_in (by omega) h.1]
 cases hv:varsE (conT w x) with
 |inl en=>rfl
 |inr u=>exact absurd (fun s v w hv=>by rw [varL_con] at hv;cases hv) (varsE_no hv)
structure FoI (t:Te) (env:Env) (L:Env0) (i:Nat) (s:Te):Prop where
 rs:Rs t s
 ck:checkS s=0
 vl:vM (rhoE env) [] s=vM (rhoE env) [] t
 vs:∀ p,p ∈ varList s ↔ p ∈ L.drop i
theorem fo_step {t s:Te} {env:Env} {L:Env0} {i:Nat} (hL:SL L) (hi:i < L.length) (h:FoI t env L i s) {q:List UInt8 × Int × Int} (hq:boundS env (L.getD i ([],0)).1=some q) (hw:q.2.1=(L.getD i ([],0)).2) (hg:GT (conT q.2.1 q.2.2)) :
  ((L.getD i ([],0)).1,q.2.1) ∈ varList s∧checkS (putT (L.getD i ([],0)).1 (conT q.2.1 q.2.2) s)=0∧FoI t env L (i + 1) (er (putT (L.getD i ([],0)).1 (conT q.2.1 q.2.2) s)):=by
 have hd:L.drop i=L.getD i ([],0)::L.drop (i + 1):=drop_getD' hi
 have hmem:((L.getD i ([],0)).1,q.2.1) ∈ varList s:=(h.vs _).2 (by rw [hd,hw];simp)
 obtain ⟨hn,en,he⟩:=nodes_of_check h.ck
 have hwn:∀ x ∈ nodesT s,x.k=2→x.s=(L.getD i ([],0)).1→x.w=q.2.1:=fun x hx hk hs=>(varsE_in he).1 _ x.w _ (varL_mem.2 ⟨x,hx,hk,by rw [hs]⟩) hmem
 have hp:=put_Rs hg h.rs.g hwn
 have hck:=check_Rs hp h.ck
 have hr2:=Rs_er hp.g
 refine ⟨hmem,hck,h.rs.trans (hp.trans hr2),by rw [checkS_er];exact hck,?_,fun p=>?_⟩
 ·rw [← h.vl]
  show valT _ _ (er _)=valT _ _ _
  rw [valT_er,valT_put (u:=conT q.2.1 q.2.2) s fun x hx hk hs=>hwn x hx hk hs]
  congr 1
  funext s'
  split
  ·rename_i e
   subst e
   have:rhoE env (L.getD i ([],0)).1=q.2.2.toNat:=by unfold rhoE;rw [hq]
   rw [this]
   exact vM_con (ρ:=rhoE env) (m:=[]) (t:=conT q.2.1 q.2.2) rfl
  ·rfl
 ·rw [varList_er,varList_put s p fun x hx hk=>List.length_eq_zero_iff.1 ((node_k2 hk).1 (hn x hx)).2.1,h.vs,hd,varL_con]
  have hpw:=hL.sublist (List.drop_sublist i L)
  rw [hd] at hpw
  have hpw:=(List.pairwise_cons.1 hpw).1
  constructor
  ·rintro (⟨h1,h2⟩ | ⟨h1,_⟩)
   ·rcases List.mem_cons.1 h1 with rfl | h1
    ·exact absurd rfl h2
    ·exact h1
   ·cases h1
  ·intro h1
   refine .inl ⟨List.mem_cons_of_mem _ h1,fun e=>?_⟩
   have:=hpw p h1
   rw [e,less_irr] at this;cases this
theorem fo_end {t s:Te} {env:Env} {L:Env0} (h:FoI t env L L.length s) (hp:pureS t=true) (X:Nat) (hX:vM (rhoE env) [] t=X):sameT (simT s) (conT t.w X)=true:=by
 have hv0:∀ p,p ∉ varList s:=fun p hh=>by
  have:=(h.vs p).1 hh
  rw [List.drop_length] at this;cases this
 have hg:=h.rs.g
 have hnl:hasL (nodesT t)=false:=by
  unfold pureS at hp
  rw [Bool.and_eq_true] at hp
  simpa using hp.2
 have hk:=closed_const s hg (fun x hx hk=>hv0 _ (varL_mem.2 ⟨x,hx,hk,rfl⟩)) (fun x hx hk=>by
  obtain ⟨y,hy,hyk⟩:=h.rs.ld x hx hk
  have:hasL (nodesT t)=true:=by simp only [hasL,List.any_eq_true,decide_eq_true_eq];exact ⟨y,hy,hyk⟩
  rw [hnl] at this;cases this)
 have hr:=red_Rd s hg
 obtain ⟨_,hl,hlo,hs,_⟩:=(node_k1 hk).1 ((nodesOk_iff _).1 hr.g.1).1
 have hb:=hr.g.2.self.2.2.1.1
 have hbv:boundR (rhoE env) s:=fun x hx hkx=>absurd (varL_mem.2 ⟨x,hx,hkx,rfl⟩) (hv0 (x.s,x.w))
 have hval:=hr.vl (rhoE env) [] okM_nil hbv
 rw [vM_con hk,h.vl,hX] at hval
 refine same_er _ _ ?_
 show er (er (redT s))=_
 rw [er_er,er_eq,er_eq (conT t.w X),hk,hr.w,h.rs.w,hs,hlo,List.length_eq_zero_iff.1 hl]
 have:(redT s).b=(X:Int):=by omega
 rw [this];rfl
theorem fo_loop (t:Te) (e:Bool) (env:Env) (hle:env.length ≤ 1100) (hx:∀ p ∈ env,0 ≤ p.2.2∧p.2.2 ≤ 18446744073709551615) (hcb:chkB env=0) (L:Env0) (hL:SL L) (hll:L.length ≤ 1000) (h1:∀ p ∈ L,oneE env p=0) (hp:pureS t=true) (X:Nat) (hX:vM (rhoE env) [] t=X) :
  ∀ (r i:Nat) (s:Te),i + r=L.length→FoI t env L i s →
  @Ok Out (runs T [.code b9_0,.inL (some 40) b9_0,.inB 0,.code k9_1] [(1,.lst e (env.map bdV)),(2,.ptr 0 1 0 0),(5,.bool true),(6,.int .u64 X),(8,.ptr 30 1 0 0),(9,.lst false (L.map bd0)),(10,.int .i64 0),(11,.int .i64 i)] [(30,.row 6 [.agg [.int .u8 (s).k,.int .i64 (s).w,.int .u64 (s).b,.str (s).s,.int .i64 (s).lo,.lst (s).e ((s).l.map tV)]]),(0,.row 6 [.agg [.int .u8 (t).k,.int .i64 (t).w,.int .u64 (t).b,.str (t).s,.int .i64 (t).lo,.lst (t).e ((t).l.map tV)]])] 40) ⟨fun x=>resV c9.res x=some (.bool true)⟩:=by
 intro r
 induction r with
 |zero =>
  intro i s hi hI
  have hiL:i=L.length:=by omega
  subst hiL
  have d1:decide ((L.length:Int) < L.length)=false:=by simp
  have hzs:=check_size' hI.ck
  have sv:=sTerm_spec s hI.rs.g.2 (by omega)
  unfold sTermV at sv
  rw [hI.ck,if_pos rfl] at sv
  have hsm:=fo_end hI hp X hX
  have hz:=(red_Rd s hI.rs.g).sz
  have e1:size (conT t.w X)=1:=rfl
  have hss:=same_pure (simT s) (conT t.w X) (by rw [size_er];omega) (by omega)
  rw [hsm] at hss
  have hcn:=con3_spec t.w X
  simp (disch:=first | exact d_LF | fail) only [unf b9_0.eq_1,unf k9_1.eq_1,c9,d1,LAWSb,sv,hcn,hss,EVS,Nat.reduceAdd,Nat.reduceSub,Int.reduceToNat,Nat.reduceMul,Nat.reduceEqDiff,Nat.reduceLeDiff,Int.reduceEq,Int.reduceLT,Int.reduceLE,↓reduceIte]
 |succ r ih =>
  intro i s hi hI
  have hil:i < L.length:=by omega
  have d1:decide ((i:Int) < L.length)=true:=by simp;omega
  have ho:=h1 _ (getD_mem (d:=([],0)) hil)
  unfold oneE at ho
  cases hq:boundS env (L.getD i ([],0)).1 with
  |none=>rw [hq] at ho;cases ho
  |some q =>
   rw [hq] at ho
   have hw:q.2.1=(L.getD i ([],0)).2:=by
    simp only at ho
    split at ho
    ·assumption
    ·cases ho
   obtain ⟨q1,q2,q3⟩:=bound_bd hx hq
   obtain ⟨j,hj,hjq⟩:=List.mem_iff_getElem.1 q1
   have hgj:=((chkB_good hcb).2 j hj).2.1
   have ej:env.getD j ([],0,0)=q:=by rw [← hjq];simp [List.getD,hj]
   rw [ej] at hgj
   have hg:GT (conT q.2.1 q.2.2):=GT_con ⟨hgj.1,hgj.2.1⟩ q3 hgj.2.2
   obtain ⟨m1,m2,m3⟩:=fo_step hL hil hI hq hw hg
   have hsb:=sub_ok s (L.getD i ([],0)).1 q.2.1 q.2.2 hI.rs.g.2 hg hI.ck (check_con hg) m1 m2
   have hrb:∀ h nx,lim T 26 [.lst e (env.map bdV),.str (L.getD i ([],0)).1] h nx=some (.tup [.agg [.str q.1,.int .i64 q.2.1,.int .u64 q.2.2],.bool true],h,nx):=fun h nx=>by
    rw [rBound_spec e env _ hle,hq];rfl
   have hcn:=con3_spec q.2.1 q.2.2
   simp (disch:=first | exact d_LF | fail) only [unf b9_0.eq_1,c9,d1,LAWSb,hrb,hcn,hsb,EVS,Nat.reduceAdd,Nat.reduceSub,Int.reduceToNat,Nat.reduceMul,Nat.reduceEqDiff,Nat.reduceLeDiff,Int.reduceEq,Int.reduceLT,Int.reduceLE,↓reduceIte]
   exact Ok_inL (by decide) (by simp [lowTm,low,lows,LAWSb,EnL]) (by simp [cutH,lowHeap,lowObj,lows,low,LAWSb]) (ih (i + 1) _ (by omega) m3)
theorem law_SF (t:Te) (ht:TOk t) (e:Bool) (env:Env) (hx:∀ p ∈ env,0 ≤ p.2.2∧p.2.2 ≤ 18446744073709551615):∀ h nx,lim T 9 [.agg [.int .u8 (t).k,.int .i64 (t).w,.int .u64 (t).b,.str (t).s,.int .i64 (t).lo,.lst (t).e ((t).l.map tV)],.lst e (env.map bdV)] h nx=some (.bool true,h,nx):=by
 refine lim_iso tg9 rfl rfl (by simp [pures,pure_,pu_Ts,pu_e]) ?_
 obtain ⟨b1,g1,c1⟩:=great_spec t ht
 obtain ⟨r2,⟨b2,rfl,g2⟩,c2⟩:=greatB_spec (e:=e) (d:=true) env [] rfl (by simp)
 cases b1 with
 |true=>simp (disch:=first | exact d_LF | fail) only [c9,TL,alive_iso,p_op,c1,EVS,Nat.reduceAdd,Nat.reduceSub,Int.reduceToNat,Nat.reduceMul,Nat.reduceEqDiff,Nat.reduceLeDiff,Int.reduceEq,Int.reduceLT,Int.reduceLE,↓reduceIte]
 |false =>
  cases b2 with
  |true=>simp (disch:=first | exact d_LF | fail) only [c9,TL,alive_iso,p_op,c1,c2,EVS,Nat.reduceAdd,Nat.reduceSub,Int.reduceToNat,Nat.reduceMul,Nat.reduceEqDiff,Nat.reduceLeDiff,Int.reduceEq,Int.reduceLT,Int.reduceLE,↓reduceIte]
  |false =>
   obtain ⟨sa,da,_⟩:=g1 rfl
   obtain ⟨le,_⟩:=g2 rfl
   have ka:KOk t:=fun x hx=>(ht x hx).1.1
   have u1:=pureP_spec t (by omega) ka
   cases hp:pureS t with
   |false =>
    rw [hp] at u1
    simp (disch:=first | exact d_LF | fail) only [c9,TL,alive_iso,p_op,c1,c2,u1,EVS,Nat.reduceAdd,Nat.reduceSub,Int.reduceToNat,Nat.reduceMul,Nat.reduceEqDiff,Nat.reduceLeDiff,Int.reduceEq,Int.reduceLT,Int.reduceLE,↓reduceIte]
   |true =>
    rw [hp] at u1
    have hc:checkS t=0:=by
     unfold pureS at hp
     rw [Bool.and_eq_true] at hp
     exact of_decide_eq_true hp.1
    have p1:=valueF_pure e true t ht (by omega) ka env le hx [] okM_nil (by simp)
    unfold valV at p1
    simp only [List.map_nil] at p1
    by_cases hz:valErr t env []=0
    ·rw [hz,if_pos rfl] at p1
     obtain ⟨z1,z2,z3,z4⟩:=valErr_zero hz
     have v1:=vars_spec t (by omega) ka
     have e1:varsV false t=.tup [.lst false ((insE [] (varList t)).map bd0),.int .i64 0]:=if_pos hc
     rw [e1] at v1
     obtain ⟨_,en,he⟩:=nodes_of_check hc
     have hSL:SL (insE [] (varList t)):=(insE_spec (varList t) [] [] List.Pairwise.nil (fun _=>Iff.rfl) (by simpa using (varsE_in he).1)).1
     have lp:=fo_loop t e env le hx z2 (insE [] (varList t)) hSL (by have:=insE_len t;omega) (fun p hp'=>z4 p ((mem_insE he p).1 hp')) hp (vM (rhoE env) [] t) rfl (insE [] (varList t)).length 0 t (by omega) ⟨⟨GT_of ht hc,rfl,Nat.le_refl _,Nat.le_refl _,fun y hy hk=>⟨y,hy,hk,rfl,rfl⟩,fun y hy hk=>⟨y,hy,hk⟩⟩,hc,rfl,fun p=>(mem_insE he p).symm⟩
     simp (disch:=first | exact d_LF | fail) only [c9,TL,alive_iso,p_op,c1,c2,u1,p1,v1,EVS,Nat.reduceAdd,Nat.reduceSub,Int.reduceToNat,Nat.reduceMul,Nat.reduceEqDiff,Nat.reduceLeDiff,Int.reduceEq,Int.reduceLT,Int.reduceLE,↓reduceIte]
     exact lp
    ·rw [if_neg hz] at p1
     have d1:decide (valErr t env []=0)=false:=decide_eq_false hz
     simp (disch:=first | exact d_LF | fail) only [c9,TL,alive_iso,p_op,c1,c2,u1,p1,d1,EVS,Nat.reduceAdd,Nat.reduceSub,Int.reduceToNat,Nat.reduceMul,Nat.reduceEqDiff,Nat.reduceLeDiff,Int.reduceEq,Int.reduceLT,Int.reduceLE,↓reduceIte]
end Go.Proofs.YtjmppkmacaeahaaGreatDoor.Fi
