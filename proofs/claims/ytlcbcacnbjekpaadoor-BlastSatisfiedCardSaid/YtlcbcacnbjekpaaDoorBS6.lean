/- Parts of the proof, one behind the other. -/
import Derived.Test.YtlcbcacnbjekpaaDoorBS5
import Derived.Test.YtlcbcacnbjekpaaDoorKC
set_option linter.all false
namespace Go.Proofs.YtlcbcacnbjekpaaDoor.Fi
open Go.FI.BC
open Go.FI
theorem d_C7 {P:Prop} (h:P:=by first|omega|(simp only[EVL]<;>omega)|(simp only[hget_c,Nat.reduceEqDiff,↓reduceIte];done)|assumption|(simp (disch:=omega) only[hg_ne,hg_eq,hgs_ne, *];done)|(simp only [LAWS,LAWS2,LAWS3];done)|with_unfolding_all rfl):P:=h
theorem sat_lim (a b:FV) (h:Heap) (nx:Nat):lim T 22 [a,b] h nx=@FI.B (List FV) (FV × Heap × Nat) (frzs h deep [a,b]) ⟨fun q=>isfR T c22 q h nx⟩:=lim_isf tg22 rfl rfl
theorem frz_cl {h:Heap} {id n:Nat} {q:List (List Int)} {l:List Bool} (hn:n=l.length) (hg:hget h id=some (.row 1 (l.map .bool))) (hl:l.length ≤ 4000):frzs h deep [.lst false (q.map clV),.sref 1 id n 0 n]=some [.lst false (q.map clV),.lst false (l.map .bool)]:=by
 rw [show deep=(deep - 2) + 1 + 1 from rfl,fzs_c,frz_lst (pu4 q),B_some,fzs_c,frz_bools hn hg hl _ (by unfold deep;omega),B_some,fzs_n]
 rfl
theorem runS_eq (ins:In) (gs:Ga) (outs:List Int) (inb:List Bool):∃ (e:Bool) (l:List Bool) (c:Int),runS false ins gs outs inb=.tup [.lst e (l.map .bool),.int .i64 c]∧(c=0→chkS ins gs outs=0→inb.length=ins.length):=by
 unfold runS
 split
 ·split
  ·exact ⟨_,_,_,rfl,fun _ _=>by assumption⟩
  ·exact ⟨_,[],_,rfl,fun h=>by cases h⟩
 ·exact ⟨_,[],_,rfl,fun _ h=>absurd h (by assumption)⟩
theorem law_BS {e1 e2 e3 d ins gs outs} (inb:List Bool) (o nd:Int) (h0:ins.length ≤ 9223372036854775807):∀ h nx,lim T 5 [circV e1 e2 e3 ins gs outs,.lst d (inb.map .bool),.int .i64 o,.int .i64 nd] h nx=some (.bool true,h,nx):=by
 refine lim_iso tg5 rfl rfl (by simp [pures,pure_,pu5,pure_circ]) ?_
 obtain ⟨r,⟨b,rfl,hb⟩,hg⟩:=@great_spec e1 e2 e3 ins gs outs h0
 unfold circV at hg
 cases b with
 |true=>simp (disch:=first | exact d_C7 | fail) only [c5,circV,hg,alive_iso,EVS,Nat.reduceAdd,Nat.reduceSub,Int.reduceToNat,Nat.reduceMul,Nat.reduceEqDiff,Nat.reduceLeDiff,Int.reduceEq,Int.reduceLT,Int.reduceLE,↓reduceIte]
 |false =>
  have hs:=hb rfl
  obtain ⟨s1,s2,s3⟩:=id hs
  by_cases hG:(2000:Int) < gs.length
  ·have z1:decide ((2000:Int) < gs.length)=true:=decide_eq_true hG
   simp (disch:=first | exact d_C7 | fail) only [c5,circV,hg,alive_iso,LAWS,z1,EVS,Nat.reduceAdd,Nat.reduceSub,Int.reduceToNat,Nat.reduceMul,Nat.reduceEqDiff,Nat.reduceLeDiff,Int.reduceEq,Int.reduceLT,Int.reduceLE,↓reduceIte]
  have z1:decide ((2000:Int) < gs.length)=false:=decide_eq_false hG
  by_cases hN:(700:Int) < inb.length
  ·have z2:decide ((700:Int) < inb.length)=true:=decide_eq_true hN
   simp (disch:=first | exact d_C7 | fail) only [c5,circV,hg,alive_iso,LAWS,LAWS3,z1,z2,EVS,Nat.reduceAdd,Nat.reduceSub,Int.reduceToNat,Nat.reduceMul,Nat.reduceEqDiff,Nat.reduceLeDiff,Int.reduceEq,Int.reduceLT,Int.reduceLE,↓reduceIte]
  have z2:decide ((700:Int) < inb.length)=false:=decide_eq_false hN
  have t2:=@clauses_spec e1 e2 e3 ins gs outs o hs
  have t3:=@run_spec e1 e2 e3 d ins gs outs inb hs (by omega)
  obtain ⟨e',l',c',hr,hc⟩:=runS_eq ins gs outs inb
  by_cases hA:chkS ins gs outs=0∧¬ (o < 0 ∨ outs.length ≤ o)∧¬ 5000 < (1:Int) + ins.length + gs.length∧inb.length=ins.length
  ·obtain ⟨hk,ho,hn,hl⟩:=hA
   have t4:=fun h nx=>@nodes_spec e1 e2 e3 d ins gs outs inb hs hl (chk_good hk) (by omega) h nx
   unfold clausesS at t2
   rw [if_pos hk,if_neg ho,if_neg hn] at t2
   unfold runS at t3
   rw [if_pos hk,if_pos hl] at t3
   unfold circV at t2 t3 t4
   have z3:decide ((outs.length:Int) ≤ o)=false:=decide_eq_false (by omega)
   simp (disch:=first | exact d_C7 | fail) only [c5,circV,hg,alive_iso,LAWS,LAWS3,z1,z2,t2,t3,EVS,Nat.reduceAdd,Nat.reduceSub,Int.reduceToNat,Nat.reduceMul,Nat.reduceEqDiff,Nat.reduceLeDiff,Int.reduceEq,Int.reduceLT,Int.reduceLE,↓reduceIte]
   refine Ok_call (t4 _ _) fun x hx=>?_
   obtain ⟨⟨id,q1,q2,q3,q4⟩,q5,q6⟩:=hx
   obtain ⟨v,h',nx'⟩:=x
   dsimp only at q1 q2 q3 q4 q5 q6
   subst q1
   refine ⟨rfl,?_⟩
   have hlen:=nodesS_len inb gs gs.length
   have gg:=chk_good hk
   have gq:∀ i,i < gs.length→goodG inb.length gs i:=by rw [hl];exact gg.2.1
   have go:=gg.2.2 o.toNat (by omega)
   unfold goodO at go
   have hcl:∀ l ∈ clS ins.length gs gs.length ++ [[litS (outs.getD o.toNat 0)]],l.length ≤ 1000:=by
    intro l hl
    rw [List.mem_append] at hl
    rcases hl with hl | hl
    ·exact clS_short _ _ _ l hl
    ·simp at hl;subst hl;simp
   have hql:(clS ins.length gs gs.length ++ [[litS (outs.getD o.toNat 0)]]).length ≤ 1000000:=by
    simp only [List.length_append,clS_len,List.length_cons,List.length_nil];omega
   have hqb:∀ i,((clS ins.length gs gs.length ++ [[litS (outs.getD o.toNat 0)]]).getD i []).length ≤ 1000:=by
    intro i
    rw [List.getD_eq_getElem?_getD]
    cases hx:(clS ins.length gs gs.length ++ [[litS (outs.getD o.toNat 0)]])[i]? with
    |none=>simp
    |some l=>exact hcl l (List.mem_of_getElem? hx)
   have y0:hget h' 0=_:=(q6 0 (by omega)).trans rfl
   have lA:=law_A inb gs (outs.getD o.toNat 0) gq (by omega) (by omega)
   rw [hl] at lA
   have y2:=sat_spec (clS ins.length gs gs.length ++ [[litS (outs.getD o.toNat 0)]]) (nodesS inb gs gs.length) hql (by omega) hqb
   rw [lA] at y2
   have y1:=frz_cl (q:=clS ins.length gs gs.length ++ [[litS (outs.getD o.toNat 0)]]) (n:=(nodesS inb gs gs.length).length) rfl q4 (by omega)
   have y3:(outsS (nodesS inb gs gs.length) outs).getD o.toNat false=litB (nodesS inb gs gs.length) (outs.getD o.toNat 0):=by
    unfold outsS
    have:o.toNat < outs.length:=by omega
    simp [List.getD,this]
   have y4:(outsS (nodesS inb gs gs.length) outs).length=outs.length:=by unfold outsS;simp
   generalize hns:nodesS inb gs gs.length=ns at *
   by_cases hnd:nd < 1 + (ins.length:Int) ∨ (ns.length:Int) ≤ nd
   ·simp (disch:=first | exact d_C7 | fail) only [c5,circV,LAWS,LAWS3,z3,q4,sat_lim,y0,y1,y2,y3,y4,EVS,Nat.reduceAdd,Nat.reduceSub,Int.reduceToNat,Nat.reduceMul,Nat.reduceEqDiff,Nat.reduceLeDiff,Int.reduceEq,Int.reduceLT,Int.reduceLE,↓reduceIte]
    repeat' (refine Ok_if (fun hb=>?_) (fun hb=>?_)<;>have h:=hb<;>(try simp only [decide_eq_true_eq,decide_eq_false_iff_not,Int.not_lt,Int.not_le] at h)<;>(simp (disch:=first | exact d_C7 | fail) only [hb,c5,circV,LAWS,LAWS3,z3,q4,sat_lim,y0,y1,y2,y3,y4,EVS,Nat.reduceAdd,Nat.reduceSub,Int.reduceToNat,Nat.reduceMul,Nat.reduceEqDiff,Nat.reduceLeDiff,Int.reduceEq,Int.reduceLT,Int.reduceLE,↓reduceIte])<;>(try clear hb))
    all_goals (exfalso;omega)
   ·have w1:decide (nd < 1 + (ins.length:Int))=false:=decide_eq_false (by omega)
    have w2:decide ((ns.length:Int) ≤ nd)=false:=decide_eq_false (by omega)
    have lB:=law_B inb gs (outs.getD o.toNat 0) gq (nd.toNat - (1 + ins.length)) (by omega)
    rw [hl,hns,show 1 + ins.length + (nd.toNat - (1 + ins.length))=nd.toNat by omega] at lB
    have y6:=sat_spec (clS ins.length gs gs.length ++ [[litS (outs.getD o.toNat 0)]]) (ns.set nd.toNat (!ns.getD nd.toNat false)) hql (by rw [List.length_set];omega) hqb
    rw [lB] at y6
    generalize hm:ns.set nd.toNat (!ns.getD nd.toNat false)=ms at y6
    have y8:ms.length=ns.length:=by rw [← hm,List.length_set]
    have y7:∀ o,hget (hset h' id o) id=some o:=fun o=>hgs_eq q4
    have y9:(ns.map FV.bool).set nd.toNat (.bool (!ns.getD nd.toNat false))=ms.map FV.bool:=by rw [← hm,List.map_set]
    simp (disch:=first | exact d_C7 | fail) only [c5,circV,LAWS,LAWS3,z3,q4,sat_lim,y0,y1,y2,y3,y4,w1,w2,y6,y7,y8,y9,EVS,Nat.reduceAdd,Nat.reduceSub,Int.reduceToNat,Nat.reduceMul,Nat.reduceEqDiff,Nat.reduceLeDiff,Int.reduceEq,Int.reduceLT,Int.reduceLE,↓reduceIte]
    repeat' (refine Ok_if (fun hb=>?_) (fun hb=>?_)<;>have h:=hb<;>(try simp only [decide_eq_true_eq,decide_eq_false_iff_not,Int.not_lt,Int.not_le] at h)<;>(simp (disch:=first | exact d_C7 | fail) only [hb,c5,circV,LAWS,LAWS3,z3,q4,sat_lim,y0,y1,y2,y3,y4,w1,w2,y6,y7,y8,y9,EVS,Nat.reduceAdd,Nat.reduceSub,Int.reduceToNat,Nat.reduceMul,Nat.reduceEqDiff,Nat.reduceLeDiff,Int.reduceEq,Int.reduceLT,Int.reduceLE,↓reduceIte])<;>(try clear hb))
  ·obtain ⟨n2,f2,q2,c2,r2,hne⟩:∃ (n:Int) (e:Bool) (q:List FV) (c:Int),clausesS false ins gs outs o=.tup [.int .i64 n,.lst e q,.int .i64 c]∧(c ≠ 0 ∨ c' ≠ 0):=by
    unfold clausesS
    split
    ·rename_i hk
     split
     ·exact ⟨_,_,_,_,rfl,.inl (by decide)⟩
     ·rename_i ho
      split
      ·exact ⟨_,_,_,_,rfl,.inl (by decide)⟩
      ·rename_i hn
       exact ⟨_,_,_,_,rfl,.inr fun h=>hA ⟨hk,ho,hn,hc h hk⟩⟩
    ·rename_i hk
     exact ⟨_,_,_,_,rfl,.inl hk⟩
   rw [r2] at t2
   rw [hr] at t3
   unfold circV at t2 t3
   by_cases hc2:c2=0
   ·subst hc2
    have w1:decide (c'=0)=false:=decide_eq_false (by rcases hne with h | h;exact absurd rfl h;exact h)
    simp (disch:=first | exact d_C7 | fail) only [c5,circV,hg,alive_iso,LAWS,LAWS3,z1,z2,t2,t3,w1,EVS,Nat.reduceAdd,Nat.reduceSub,Int.reduceToNat,Nat.reduceMul,Nat.reduceEqDiff,Nat.reduceLeDiff,Int.reduceEq,Int.reduceLT,Int.reduceLE,↓reduceIte]
    repeat' (refine Ok_if (fun hb=>?_) (fun hb=>?_)<;>have h:=hb<;>(try simp only [decide_eq_true_eq,decide_eq_false_iff_not,Int.not_lt,Int.not_le] at h)<;>(simp (disch:=first | exact d_C7 | fail) only [hb,c5,circV,hg,alive_iso,LAWS,LAWS3,z1,z2,t2,t3,w1,EVS,Nat.reduceAdd,Nat.reduceSub,Int.reduceToNat,Nat.reduceMul,Nat.reduceEqDiff,Nat.reduceLeDiff,Int.reduceEq,Int.reduceLT,Int.reduceLE,↓reduceIte])<;>(try clear hb))
   ·have w1:decide (c2=0)=false:=decide_eq_false hc2
    simp (disch:=first | exact d_C7 | fail) only [c5,circV,hg,alive_iso,LAWS,LAWS3,z1,z2,t2,t3,w1,EVS,Nat.reduceAdd,Nat.reduceSub,Int.reduceToNat,Nat.reduceMul,Nat.reduceEqDiff,Nat.reduceLeDiff,Int.reduceEq,Int.reduceLT,Int.reduceLE,↓reduceIte]
    repeat' (refine Ok_if (fun hb=>?_) (fun hb=>?_)<;>have h:=hb<;>(try simp only [decide_eq_true_eq,decide_eq_false_iff_not,Int.not_lt,Int.not_le] at h)<;>(simp (disch:=first | exact d_C7 | fail) only [hb,c5,circV,hg,alive_iso,LAWS,LAWS3,z1,z2,t2,t3,w1,EVS,Nat.reduceAdd,Nat.reduceSub,Int.reduceToNat,Nat.reduceMul,Nat.reduceEqDiff,Nat.reduceLeDiff,Int.reduceEq,Int.reduceLT,Int.reduceLE,↓reduceIte])<;>(try clear hb))
end Go.Proofs.YtlcbcacnbjekpaaDoor.Fi
