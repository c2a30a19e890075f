/- Parts of the proof, one behind the other. -/
import Derived.Test.YtjmppkmacaeahaaGreatDoorSM9
import Derived.Test.YtjmppkmacaeahaaGreatDoorSM7
import Derived.Test.YtjmppkmacaeahaaGreatDoorKB
set_option linter.all false
namespace Go.Proofs.YtjmppkmacaeahaaGreatDoor.Fi
open Go.FI
theorem d_LM {P:Prop} (h:P:=by first|omega|(simp only[EVL]<;>omega)|(simp only[hget_c,Nat.reduceEqDiff,↓reduceIte];done)|assumption|(simp (disch:=omega) only[hg_ne,hg_eq,hgs_ne, *];done)|(simp only [TL,LAWSm,EnL,LAWSb];done)|with_unfolding_all rfl):P:=h
theorem sm_in (t s:Te) (A B:Env0) (hA:A.length ≤ 1000) (hB:B.length ≤ 1000) (i:Nat) (hi:i < B.length) (Q:Post Out)
  (next:∀ nx,75 ≤ nx→@Ok Out (runs T [.code k8_1,.inB 1,.code k8_2,.inL (some 69) b8_3,.inB 0,.code k8_4] [(3,.bool true),(6,.lst false (A.map bd0)),(8,.lst false (B.map bd0)),(10,.int .i64 i),(11,.bool true),(12,.int .i64 A.length),(82,.bool false)] [(15,.row 6 [.agg [.int .u8 (s).k,.int .i64 (s).w,.int .u64 (s).b,.str (s).s,.int .i64 (s).lo,.lst (s).e ((s).l.map tV)]]),(0,.row 6 [.agg [.int .u8 (t).k,.int .i64 (t).w,.int .u64 (t).b,.str (t).s,.int .i64 (t).lo,.lst (t).e ((t).l.map tV)]])] nx) Q) :
  ∀ (r k:Nat) (f:Bool),k + r=A.length→(f=true ∨ ∃ j,k ≤ j∧j < A.length∧A.getD j ([],0)=B.getD i ([],0)) →
  @Ok Out (runs T [.code b8_0,.inL (some 75) b8_0,.inB 2,.code k8_1,.inB 1,.code k8_2,.inL (some 69) b8_3,.inB 0,.code k8_4] [(3,.bool true),(6,.lst false (A.map bd0)),(8,.lst false (B.map bd0)),(10,.int .i64 i),(11,.bool f),(12,.int .i64 k)] [(15,.row 6 [.agg [.int .u8 (s).k,.int .i64 (s).w,.int .u64 (s).b,.str (s).s,.int .i64 (s).lo,.lst (s).e ((s).l.map tV)]]),(0,.row 6 [.agg [.int .u8 (t).k,.int .i64 (t).w,.int .u64 (t).b,.str (t).s,.int .i64 (t).lo,.lst (t).e ((t).l.map tV)]])] 75) Q:=by
 intro r
 induction r with
 |zero =>
  intro k f hk hf
  have d1:decide ((k:Int) < A.length)=false:=by simp;omega
  have hf':f=true:=by
   rcases hf with h | ⟨j,h1,h2,_⟩
   ·exact h
   ·omega
  have hkA:k=A.length:=by omega
  subst hf' hkA
  simp (disch:=first | exact d_LM | fail) only [unf b8_0.eq_1,c8,d1,LAWSb,EVS,Nat.reduceAdd,Nat.reduceSub,Int.reduceToNat,Nat.reduceMul,Nat.reduceEqDiff,Nat.reduceLeDiff,Int.reduceEq,Int.reduceLT,Int.reduceLE,↓reduceIte]
  exact next _ (by omega)
 |succ r ih =>
  intro k f hk hf
  have hkl:k < A.length:=by omega
  have d1:decide ((k:Int) < A.length)=true:=by simp;omega
  cases f with
  |true =>
   simp (disch:=first | exact d_LM | fail) only [unf b8_0.eq_1,c8,d1,LAWSb,EVS,Nat.reduceAdd,Nat.reduceSub,Int.reduceToNat,Nat.reduceMul,Nat.reduceEqDiff,Nat.reduceLeDiff,Int.reduceEq,Int.reduceLT,Int.reduceLE,↓reduceIte]
   exact Ok_inL (by decide) (by simp [lowTm,low,lows,TL,LAWSm,EnL,LAWSb]) (by simp [cutH,lowHeap,lowObj,lows,low,TL,LAWSm,EnL,LAWSb]) (ih (k + 1) true (by omega) (.inl rfl))
  |false =>
   simp (disch:=first | exact d_LM | fail) only [unf b8_0.eq_1,c8,d1,LAWSb,EVS,Nat.reduceAdd,Nat.reduceSub,Int.reduceToNat,Nat.reduceMul,Nat.reduceEqDiff,Nat.reduceLeDiff,Int.reduceEq,Int.reduceLT,Int.reduceLE,↓reduceIte]
   refine Ok_inL (by decide) (by simp [lowTm,low,lows,LAWSb]) (by simp [cutH,lowHeap,lowObj,lows,low,LAWSb]) (ih (k + 1) ((A.getD k ([],0)).1 == (B.getD i ([],0)).1 && (A.getD k ([],0)).2 == (B.getD i ([],0)).2) (by omega) ?_)
   rcases hf with h | ⟨j,h1,h2,h3⟩
   ·cases h
   ·by_cases e:j=k
    ·subst e;left;rw [h3];simp
    ·right;exact ⟨j,by omega,h2,h3⟩
theorem sm_out (t s:Te) (A B:Env0) (hA:A.length ≤ 1000) (hB:B.length ≤ 1000) (hAB:∀ p ∈ B,p ∈ A) :
  ∀ (r i:Nat),i + r=B.length →
  @Ok Out (runs T [.code b8_3,.inL (some 69) b8_3,.inB 0,.code k8_4] [(3,.bool true),(6,.lst false (A.map bd0)),(8,.lst false (B.map bd0)),(10,.int .i64 i)] [(15,.row 6 [.agg [.int .u8 (s).k,.int .i64 (s).w,.int .u64 (s).b,.str (s).s,.int .i64 (s).lo,.lst (s).e ((s).l.map tV)]]),(0,.row 6 [.agg [.int .u8 (t).k,.int .i64 (t).w,.int .u64 (t).b,.str (t).s,.int .i64 (t).lo,.lst (t).e ((t).l.map tV)]])] 69) ⟨fun x=>resV c8.res x=some (.bool true)⟩:=by
 intro r
 induction r with
 |zero =>
  intro i hi
  have d1:decide ((i:Int) < B.length)=false:=by simp;omega
  simp (disch:=first | exact d_LM | fail) only [unf b8_3.eq_1,unf k8_4.eq_1,c8,d1,LAWSb,EVS,Nat.reduceAdd,Nat.reduceSub,Int.reduceToNat,Nat.reduceMul,Nat.reduceEqDiff,Nat.reduceLeDiff,Int.reduceEq,Int.reduceLT,Int.reduceLE,↓reduceIte]
 |succ r ih =>
  intro i hi
  have hil:i < B.length:=by omega
  have d1:decide ((i:Int) < B.length)=true:=by simp;omega
  have hmem:B.getD i ([],0) ∈ A:=hAB _ (getD_mem hil)
  obtain ⟨j,hj,hje⟩:=List.mem_iff_getElem.1 hmem
  have lp:=sm_in t s A B hA hB i hil ⟨fun x=>resV c8.res x=some (.bool true)⟩ (fun nx hnx=>by
   simp (disch:=first | exact d_LM | fail) only [unf k8_1.eq_1,unf k8_2.eq_1,c8,LAWSb,EVS,Nat.reduceAdd,Nat.reduceSub,Int.reduceToNat,Nat.reduceMul,Nat.reduceEqDiff,Nat.reduceLeDiff,Int.reduceEq,Int.reduceLT,Int.reduceLE,↓reduceIte]
   exact Ok_inL (by omega) (by simp [lowTm,low,lows,LAWSb]) (by simp [cutH,lowHeap,lowObj,lows,low,LAWSb]) (ih (i + 1) (by omega))) A.length 0 false (by omega) (.inr ⟨j,by omega,hj,by rw [← hje];simp [List.getD,hj]⟩)
  simp (disch:=first | exact d_LM | fail) only [unf b8_3.eq_1,c8,d1,LAWSb,EVS,Nat.reduceAdd,Nat.reduceSub,Int.reduceToNat,Nat.reduceMul,Nat.reduceEqDiff,Nat.reduceLeDiff,Int.reduceEq,Int.reduceLT,Int.reduceLE,↓reduceIte]
  exact lp
theorem hasL_iff {xs:List Te}:hasL xs=true ↔ ∃ x ∈ xs,x.k=24:=by simp [hasL]
theorem law_SM (t:Te) (ht:TOk t):∀ h nx,lim T 8 [.agg [.int .u8 (t).k,.int .i64 (t).w,.int .u64 (t).b,.str (t).s,.int .i64 (t).lo,.lst (t).e ((t).l.map tV)]] h nx=some (.bool true,h,nx):=by
 refine lim_iso tg8 rfl rfl (by simp [pures,pure_,pu_Ts]) ?_
 obtain ⟨b1,g1,c1⟩:=great_spec t ht
 cases b1 with
 |true=>simp (disch:=first | exact d_LM | fail) only [c8,TL,alive_iso,p_op,c1,EVS,Nat.reduceAdd,Nat.reduceSub,Int.reduceToNat,Nat.reduceMul,Nat.reduceEqDiff,Nat.reduceLeDiff,Int.reduceEq,Int.reduceLT,Int.reduceLE,↓reduceIte]
 |false =>
  obtain ⟨sa,da,_⟩:=g1 rfl
  have ka:KOk t:=fun x hx=>(ht x hx).1.1
  have s1:=sTerm_spec t ht (by omega)
  unfold sTermV at s1
  by_cases hc:checkS t=0
  ·rw [hc,if_pos rfl] at s1
   have hg:=GT_of ht hc
   have hr:=red_Rd t hg
   have ts:=TOk_of_er (er_er (redT t)).symm hr.g.2
   have kS:KOk (simT t):=fun x hx=>(ts x hx).1.1
   have hzs:size (simT t) ≤ size t:=by rw [size_er];exact hr.sz
   have hzd:depth (simT t) ≤ depth t:=by rw [depth_er];exact hr.dp
   have cS:checkS (simT t)=0:=by rw [checkS_er];exact check_Rd hr hc
   have v1:=vars_spec t (by omega) ka
   have v2:=vars_spec (simT t) (by omega) kS
   have e1:varsV false t=.tup [.lst false ((insE [] (varList t)).map bd0),.int .i64 0]:=if_pos hc
   have e2:varsV false (simT t)=.tup [.lst false ((insE [] (varList (simT t))).map bd0),.int .i64 0]:=if_pos cS
   rw [e1] at v1
   rw [e2] at v2
   have k2:=check_pure (simT t) (by omega) kS
   rw [cS] at k2
   have z1:=size_spec t (by omega)
   have z2:=size_spec (simT t) (by omega)
   have y1:=depth_spec t (by omega)
   have y2:=depth_spec (simT t) (by omega)
   have d1:decide ((size t:Int) < size (simT t))=false:=decide_eq_false (by omega)
   have d2:decide ((depth t:Int) < depth (simT t))=false:=decide_eq_false (by omega)
   have u1:=pureP_spec t (by omega) ka
   have u2:=pureP_spec (simT t) (by omega) kS
   have hpp:pureS t=true→pureS (simT t)=true:=fun h=>by
    unfold pureS at h ⊢
    rw [Bool.and_eq_true] at h ⊢
    refine ⟨by simp [cS],?_⟩
    have h2:=h.2
    cases hh:hasL (nodesT (simT t)) with
    |false=>rfl
    |true =>
     obtain ⟨y,hy,hk⟩:=hasL_iff.1 hh
     rw [nodes_er] at hy
     obtain ⟨z,hz,rfl⟩:=List.mem_map.1 hy
     obtain ⟨x,hx,hxk⟩:=hr.ld z hz (by rw [er_k] at hk;exact hk)
     rw [hasL_iff.2 ⟨x,hx,hxk⟩] at h2;cases h2
   have lp:=sm_out t (simT t) (insE [] (varList t)) (insE [] (varList (simT t))) (by have:=insE_len t;omega) (by have:=insE_len (simT t);omega) (fun p hp=>by
    obtain ⟨_,en,he⟩:=nodes_of_check hc
    obtain ⟨_,en2,he2⟩:=nodes_of_check cS
    rw [mem_insE he2,varList_er] at hp
    rw [mem_insE he]
    exact varList_Rd hr hp) (insE [] (varList (simT t))).length 0 (by omega)
   cases hp:pureS t with
   |true =>
    rw [hp] at u1
    rw [hpp hp] at u2
    simp (disch:=first | exact d_LM | fail) only [c8,TL,alive_iso,p_op,c1,s1,v1,v2,k2,z1,z2,y1,y2,d1,d2,u1,u2,EVS,Nat.reduceAdd,Nat.reduceSub,Int.reduceToNat,Nat.reduceMul,Nat.reduceEqDiff,Nat.reduceLeDiff,Int.reduceEq,Int.reduceLT,Int.reduceLE,↓reduceIte]
    exact lp
   |false =>
    rw [hp] at u1
    simp (disch:=first | exact d_LM | fail) only [c8,TL,alive_iso,p_op,c1,s1,v1,v2,k2,z1,z2,y1,y2,d1,d2,u1,EVS,Nat.reduceAdd,Nat.reduceSub,Int.reduceToNat,Nat.reduceMul,Nat.reduceEqDiff,Nat.reduceLeDiff,Int.reduceEq,Int.reduceLT,Int.reduceLE,↓reduceIte]
    exact lp
  ·rw [if_neg hc] at s1
   have d1:decide (checkS t=0)=false:=decide_eq_false hc
   simp (disch:=first | exact d_LM | fail) only [c8,TL,alive_iso,p_op,c1,s1,d1,EVS,Nat.reduceAdd,Nat.reduceSub,Int.reduceToNat,Nat.reduceMul,Nat.reduceEqDiff,Nat.reduceLeDiff,Int.reduceEq,Int.reduceLT,Int.reduceLE,↓reduceIte]
end Go.Proofs.YtjmppkmacaeahaaGreatDoor.Fi
