/- Parts of the proof, one behind the other. -/
import Derived.Test.YtjmppkmacaeahaaGreatDoorSF7
import Derived.KernelRfl
import Derived.Test.YtjmppkmacaeahaaGreatDoorSF4
set_option linter.all false
namespace Go.Proofs.YtjmppkmacaeahaaGreatDoor.Fi
open Go.FI
theorem d_Q10 {P:Prop} (h:P:=by first|omega|(simp only[EVL]<;>omega)|(simp only[hget_c,Nat.reduceEqDiff,↓reduceIte];done)|assumption|(simp (disch:=omega) only[hg_ne,hg_eq,hgs_ne, *];done)|(simp only [rb_len];done)|with_unfolding_all rfl):P:=h
theorem pi_loop (id n a b:Nat) (hab:a < b) (hb:b ≤ n) (hN:n ≤ 1000000):∀ (s i m:Nat) (d:Array Bd) (h:Heap) (nx:Nat),m + s=5→a < i→i ≤ b→d.size=n→hget h id=some (rowB d) →
  @Ok Out (runs T [.code b130_6,.inL none b130_6,.inB 0,.code k130_7] [(0,.sref 3 id n 0 n),(1,.int .i64 a),(2,.int .i64 b),(3,.fn 46 []),(9,.int .i64 i),(10,.int .i64 m)] h nx)
   ⟨fun x=>@Ok FV (finV c130.res x) ⟨fun v=>v=.bool (Go.Sort.partialIns ltB a b s i d).2∧RowR h id (Go.Sort.partialIns ltB a b s i d).1 x.2.2.1∧nx ≤ x.2.2.2⟩⟩:=by
 intro s
 induction s with
 |zero =>
  intro i m d h nx hm hai hib hn hr
  have h1:decide ((m:Int) < 5)=false:=by simp;omega
  simp (disch:=first | exact d_Q10 | fail) only [unf b130_6.eq_1,unf k130_7.eq_1,c130,h1,EVS,Nat.reduceAdd,Nat.reduceSub,Int.reduceToNat,Nat.reduceMul,Nat.reduceEqDiff,Nat.reduceLeDiff,Int.reduceEq,Int.reduceLT,Int.reduceLE,↓reduceIte]
  exact ⟨rfl,.refl hr,by omega⟩
 |succ s ih =>
  intro i m d h nx hm hai hib hn hr
  have h1:decide ((m:Int) < 5)=true:=by simp;omega
  have hsz:=ss_size (d:=d) (b - i) (Nat.le_refl _) hib
  rw [Go.Sort.partialIns_succ]
  simp (disch:=first | exact d_Q10 | fail) only [unf b130_6.eq_1,c130,h1,EVS,Nat.reduceAdd,Nat.reduceSub,Int.reduceToNat,Nat.reduceMul,Nat.reduceEqDiff,Nat.reduceLeDiff,Int.reduceEq,Int.reduceLT,Int.reduceLE,↓reduceIte]
  refine ss_scan id n b a m d h hb hN hn hr _ _ (b - i) i _ _ (Nat.le_refl _) (by omega) hib fun nx1 hn1=>?_
  generalize Go.Sort.scanSorted ltB d b i=q at *
  by_cases hq:q=b
  ·subst hq
   rw [if_pos rfl]
   simp (disch:=first | exact d_Q10 | fail) only [unf k130_4.eq_1,c130,EVS,Nat.reduceAdd,Nat.reduceSub,Int.reduceToNat,Nat.reduceMul,Nat.reduceEqDiff,Nat.reduceLeDiff,Int.reduceEq,Int.reduceLT,Int.reduceLE,↓reduceIte]
   exact ⟨.refl hr,by omega⟩
  ·rw [if_neg hq]
   have hq':¬ (q:Int)=b:=by omega
   have e0:(b:Int) - a=((b - a:Nat):Int):=by omega
   by_cases h50:b - a < 50
   ·rw [if_pos h50]
    have d50:decide (((b - a:Nat):Int) < 50)=true:=by simp;omega
    simp (disch:=first | exact d_Q10 | fail) only [unf k130_4.eq_1,c130,hq',e0,d50,EVS,Nat.reduceAdd,Nat.reduceSub,Int.reduceToNat,Nat.reduceMul,Nat.reduceEqDiff,Nat.reduceLeDiff,Int.reduceEq,Int.reduceLT,Int.reduceLE,↓reduceIte]
    exact ⟨.refl hr,by omega⟩
   ·rw [if_neg h50]
    have d50:decide (((b - a:Nat):Int) < 50)=false:=by simp;omega
    have e1:((q:Nat):Int) - 1=((q - 1:Nat):Int):=by omega
    have e2:((q:Nat):Int) - a=((q - a:Nat):Int):=by omega
    have e3:((b:Nat):Int) - q=((b - q:Nat):Int):=by omega
    have e4:((m:Nat):Int) + 1=((m + 1:Nat):Int):=by omega
    have e5:((q:Nat):Int) + 1=((q + 1:Nat):Int):=by omega
    have hr':=hr
    rw [row_of] at hr'
    have hs1:(Go.Sort.swp d q (q - 1)).size=n:=by rw [sz_swp];exact hn
    have hr1:RowR h id (Go.Sort.swp d q (q - 1)) (hset h id (.row 3 ((Go.Sort.swp d q (q - 1)).toList.map bS))):=RowR.one hr
    have tail:∀ (h':Heap) (nx':Nat) (x:Tm),nx ≤ nx'→RowR h id (Go.Sort.fixDown ltB a q (Go.Sort.swp d q (q - 1))) h' →
      @Ok Out (runs T (.code k130_3::.inB 1::.code k130_5::.inL none b130_6::.inB 0::.code k130_7::[]) ((0,.sref 3 id n 0 n)::(1,.int .i64 a)::(2,.int .i64 b)::(3,.fn 46 [])::(9,.int .i64 q)::(10,.int .i64 m)::x) h' nx')
       ⟨fun x=>@Ok FV (finV c130.res x) ⟨fun v=>v=.bool (Go.Sort.partialIns ltB a b s q (Go.Sort.fixUp ltB b q (Go.Sort.fixDown ltB a q (Go.Sort.swp d q (q - 1))))).2∧RowR h id (Go.Sort.partialIns ltB a b s q (Go.Sort.fixUp ltB b q (Go.Sort.fixDown ltB a q (Go.Sort.swp d q (q - 1))))).1 x.2.2.1∧nx ≤ x.2.2.2⟩⟩:=by
     intro h' nx' x hnx hx
     have hs2:(Go.Sort.fixDown ltB a q (Go.Sort.swp d q (q - 1))).size=n:=by
      unfold Go.Sort.fixDown
      split
      ·rw [sd_size];exact hs1
      ·exact hs1
     generalize Go.Sort.fixDown ltB a q (Go.Sort.swp d q (q - 1))=d2 at *
     by_cases hu:b - q ≥ 2
     ·have du:decide ((2:Int) ≤ ((b - q:Nat):Int))=true:=by simp;omega
      simp (disch:=first | exact d_Q10 | fail) only [unf k130_3.eq_1,c130,e3,e5,du,EVS,Nat.reduceAdd,Nat.reduceSub,Int.reduceToNat,Nat.reduceMul,Nat.reduceEqDiff,Nat.reduceLeDiff,Int.reduceEq,Int.reduceLT,Int.reduceLE,↓reduceIte]
      refine su_shift id n b a m q hb hN _ _ (b - (q + 1)) (q + 1) d2 h' _ _ (Nat.le_refl _) (by omega) (by omega) hs2 hx.1 fun h3 nx3 x3 hn3 hx3=>?_
      have ef:Go.Sort.fixUp ltB b q d2=Go.Sort.shiftUp ltB b (q + 1) d2:=if_pos hu
      rw [ef]
      simp (disch:=first | exact d_Q10 | fail) only [unf k130_5.eq_1,c130,e4,EVS,Nat.reduceAdd,Nat.reduceSub,Int.reduceToNat,Nat.reduceMul,Nat.reduceEqDiff,Nat.reduceLeDiff,Int.reduceEq,Int.reduceLT,Int.reduceLE,↓reduceIte]
      refine Ok_inL0 (Ok_mono (ih q (m + 1) _ h3 _ (by omega) (by omega) (by omega) (by rw [su_size _ _ _ (Nat.le_refl _)];exact hs2) hx3.1) fun y hy=>Ok_mono hy fun v hv=>?_)
      exact ⟨hv.1,(hx.trans hx3).trans hv.2.1,by have:=hv.2.2;omega⟩
     ·have du:decide ((2:Int) ≤ ((b - q:Nat):Int))=false:=by simp;omega
      have ef:Go.Sort.fixUp ltB b q d2=d2:=if_neg hu
      rw [ef]
      simp (disch:=first | exact d_Q10 | fail) only [unf k130_3.eq_1,unf k130_5.eq_1,c130,e3,e4,du,EVS,Nat.reduceAdd,Nat.reduceSub,Int.reduceToNat,Nat.reduceMul,Nat.reduceEqDiff,Nat.reduceLeDiff,Int.reduceEq,Int.reduceLT,Int.reduceLE,↓reduceIte]
      refine Ok_inL0 (Ok_mono (ih q (m + 1) _ h' _ (by omega) (by omega) (by omega) hs2 hx.1) fun y hy=>Ok_mono hy fun v hv=>?_)
      exact ⟨hv.1,hx.trans hv.2.1,by have:=hv.2.2;omega⟩
    by_cases hd:q - a ≥ 2
    ·have dd:decide ((2:Int) ≤ ((q - a:Nat):Int))=true:=by simp;omega
     simp (disch:=first | exact d_Q10 | fail) only [unf k130_4.eq_1,c130,hq',e0,e1,e2,d50,dd,hr',SR,EVS,Nat.reduceAdd,Nat.reduceSub,Int.reduceToNat,Nat.reduceMul,Nat.reduceEqDiff,Nat.reduceLeDiff,Int.reduceEq,Int.reduceLT,Int.reduceLE,↓reduceIte]
     refine sd_shift id n a b m q hN _ _ (q - 1) _ _ _ _ (by omega) hs1 hr1.1 fun h3 nx3 x3 hn3 hx3=>?_
     exact tail _ _ _ (by omega) (by rw [show Go.Sort.fixDown ltB a q (Go.Sort.swp d q (q - 1))=Go.Sort.shiftDown ltB (q - 1) (Go.Sort.swp d q (q - 1)) from if_pos hd];exact hr1.trans hx3)
    ·have dd:decide ((2:Int) ≤ ((q - a:Nat):Int))=false:=by simp;omega
     simp (disch:=first | exact d_Q10 | fail) only [unf k130_4.eq_1,c130,hq',e0,e1,e2,d50,dd,hr',SR,EVS,Nat.reduceAdd,Nat.reduceSub,Int.reduceToNat,Nat.reduceMul,Nat.reduceEqDiff,Nat.reduceLeDiff,Int.reduceEq,Int.reduceLT,Int.reduceLE,↓reduceIte]
     exact tail _ _ _ (by omega) (by rw [show Go.Sort.fixDown ltB a q (Go.Sort.swp d q (q - 1))=Go.Sort.swp d q (q - 1) from if_neg hd];exact hr1)
theorem partI_spec (id n a b:Nat) (d:Array Bd) (hab:a < b) (hb:b ≤ n) (hN:n ≤ 1000000) (hn:d.size=n) (h:Heap) (nx:Nat) (hr:hget h id=some (rowB d)) :
  ∃ r,lim T 130 [.sref 3 id n 0 n,.int .i64 a,.int .i64 b,.fn 46 []] h nx=some r∧r.1=.bool (Go.Sort.partialInsertionSort ltB d a b).2∧RowN id (Go.Sort.partialInsertionSort ltB d a b).1 h nx r.2.1 r.2.2:=by
 refine shr_ex tg130 rfl rfl ?_
 have e0:(a:Int) + 1=((a + 1:Nat):Int):=by omega
 simp (disch:=first | exact d_Q10 | fail) only [c130,e0,EVS,Nat.reduceAdd,Nat.reduceSub,Int.reduceToNat,Nat.reduceMul,Nat.reduceEqDiff,Nat.reduceLeDiff,Int.reduceEq,Int.reduceLT,Int.reduceLE,↓reduceIte]
 refine Ok_mono (pi_loop id n a b hab hb hN 5 (a + 1) 0 d h _ rfl (by omega) (by omega) hn hr) fun x hq=>Ok_mono hq fun v hv=>?_
 exact ⟨hv.1,hv.2.1.n (by have:=hv.2.2;dsimp only;omega)⟩
theorem d_Q11 {P:Prop} (h:P:=by first|omega|(simp only[EVL]<;>omega)|(simp only[hget_c,Nat.reduceEqDiff,↓reduceIte];done)|assumption|(simp (disch:=omega) only[hg_ne,hg_eq,hgs_ne, *];done)|(simp only [rb_len];done)|with_unfolding_all rfl):P:=h
def powOk (x:Nat):Bool:=match FI.call T 100 182 [.int .i64 x] [] 0 with
 |some (.int .u64 m,_,_)=>decide (1 ≤ m∧m ≤ 2 * x)
 |_=>false
theorem pow_ok:∀ x:Nat,x < 501→1 ≤ x→powOk x=true:=by decide +kernel
theorem npow_spec (x:Nat) (h1:1 ≤ x) (h2:x < 501):∃ M:Nat,1 ≤ M∧M ≤ 2 * x∧∀ h nx,lim T 182 [.int .i64 x] h nx=some (.int .u64 M,h,nx):=by
 have:=pow_ok x h2 h1
 unfold powOk at this
 split at this
 ·rename_i m h' nx' hc
  have hm:=of_decide_eq_true this
  refine ⟨m.toNat,by omega,by omega,fun h nx=>?_⟩
  rw [show ((m.toNat:Nat):Int)=m by omega]
  exact lim_iso_any tg182 rfl (le_lim T _ _ _ _ _ _ hc) (by decide) h nx
 ·cases this
def lenOk (x:Nat):Bool:=match FI.call T 100 77 [.int .u64 x] [] 0 with
 |some (.int .i64 m,_,_)=>decide (0 ≤ m∧m ≤ 64)
 |_=>false
theorem len_ok:∀ x:Nat,x < 501→lenOk x=true:=by decide +kernel
theorem lenB_spec (x:Nat) (h2:x < 501):∃ L:Nat,L ≤ 64∧∀ h nx,lim T 77 [.int .u64 x] h nx=some (.int .i64 L,h,nx):=by
 have:=len_ok x h2
 unfold lenOk at this
 split at this
 ·rename_i m h' nx' hc
  have hm:=of_decide_eq_true this
  refine ⟨m.toNat,by omega,fun h nx=>?_⟩
  rw [show ((m.toNat:Nat):Int)=m by omega]
  exact lim_iso_any tg77 rfl (le_lim T _ _ _ _ _ _ hc) (by decide) h nx
 ·cases this
theorem band_le (y:Int) (M:Nat) (h1:M < 18446744073709551616):0 ≤ band .u64 y M∧band .u64 y M ≤ M:=by
 unfold band
 have e:(BitVec.ofInt IntKind.u64.bits y &&& BitVec.ofInt IntKind.u64.bits (M:Int)).toNat ≤ M:=by
  rw [BitVec.toNat_and]
  refine Nat.le_trans Nat.and_le_right ?_
  show (BitVec.ofInt 64 (M:Int)).toNat ≤ M
  rw [BitVec.toNat_ofInt]
  show ((M:Int) % ((2 ^ 64:Nat):Int)).toNat ≤ M
  omega
 rw [wrapu64 (by omega) (by omega)]
 omega
theorem brk_loop (id n a b M q:Nat) (hM:1 ≤ M) (hM2:M ≤ 2 * (b - a)) (h8:8 ≤ b - a) (hb:b ≤ n) (hN:n ≤ 500) (hq:q ≠ id):∀ (k i:Nat) (d:Array Bd) (h:Heap) (nx:Nat) (s:Int),a + ((b - a) / 4) * 2 + 2 - i ≤ k→a ≤ i→d.size=n→hget h id=some (rowB d)→hget h q=some (.row 1 [.int .u64 s]) →
  @Ok Out (runs T [.code b127_0,.inL none b127_0,.inB 0] [(0,.sref 3 id n 0 n),(1,.int .i64 a),(8,.int .i64 (b - a:Nat)),(9,.ptr q 1 0 0),(10,.int .u64 M),(11,.int .i64 i)] h nx)
   ⟨fun x=>@Ok FV (finV c127.res x) ⟨fun v=>v=.tup []∧∃ d',Go.Sort.PermIn a b d d'∧hget x.2.2.1 id=some (rowB d')∧nx ≤ x.2.2.2∧∀ j,j ≠ id→j ≠ q→hget x.2.2.1 j=hget h j⟩⟩:=by
 have e2:((b - a:Nat):Int).tdiv 4=(((b - a) / 4:Nat):Int):=by rw [Int.tdiv_eq_ediv_of_nonneg (by omega)];omega
 have e3:(((b - a) / 4:Nat):Int) * 2=(((b - a) / 4 * 2:Nat):Int):=by omega
 have e6:((M:Nat):Int) - 1=((M - 1:Nat):Int):=by omega
 intro k
 induction k with
 |zero =>
  intro i d h nx s hk hi hn hr hs
  have h1:decide (i ≤ a + (b - a) / 4 * 2 + 1)=false:=by simp;omega
  simp (disch:=first | exact d_Q11 | fail) only [unf b127_0.eq_1,c127,e2,e3,NA,h1,EVS,Nat.reduceAdd,Nat.reduceSub,Int.reduceToNat,Nat.reduceMul,Nat.reduceEqDiff,Nat.reduceLeDiff,Int.reduceEq,Int.reduceLT,Int.reduceLE,↓reduceIte]
  exact ⟨rfl,d,Go.Sort.permIn_refl d a b,hr,by omega,fun _ _ _=>trivial⟩
 |succ k ih =>
  intro i d h nx s hk hi hn hr hs
  by_cases hc:i ≤ a + (b - a) / 4 * 2 + 1
  ·have h1:decide (i ≤ a + (b - a) / 4 * 2 + 1)=true:=by simp;omega
   simp (disch:=first | exact d_Q11 | fail) only [unf b127_0.eq_1,c127,e2,e3,NA,h1,EVS,Nat.reduceAdd,Nat.reduceSub,Int.reduceToNat,Nat.reduceMul,Nat.reduceEqDiff,Nat.reduceLeDiff,Int.reduceEq,Int.reduceLT,Int.reduceLE,↓reduceIte]
   refine Ok_call (xor_spec q s h _ hs) fun r hr1=>?_
   obtain ⟨⟨y,p1,p2⟩,p3,p4⟩:=hr1
   rw [p1]
   refine ⟨rfl,?_⟩
   have hr2:=(p3 id (Ne.symm hq)).trans hr
   obtain ⟨o1,o2⟩:=band_le y (M - 1) (by omega)
   generalize hO:band .u64 y ((M - 1:Nat):Int)=O at o1 o2
   obtain ⟨O,rfl⟩:∃ O':Nat,O=O':=⟨O.toNat,by omega⟩
   have key:∀ o:Nat,o < b - a→∀ (h':Heap) (nx':Nat) (s':Int),nx ≤ nx'→hget h' id=some (rowB (Go.Sort.swp d i (a + o)))→hget h' q=some (.row 1 [.int .u64 s'])→(∀ j,j ≠ id→j ≠ q→hget h' j=hget h j) →
     @Ok Out (runs T [.code b127_0,.inL none b127_0,.inB 0] [(0,.sref 3 id n 0 n),(1,.int .i64 a),(8,.int .i64 (b - a:Nat)),(9,.ptr q 1 0 0),(10,.int .u64 M),(11,.int .i64 (i + 1:Nat))] h' nx')
      ⟨fun x=>@Ok FV (finV c127.res x) ⟨fun v=>v=.tup []∧∃ d',Go.Sort.PermIn a b d d'∧hget x.2.2.1 id=some (rowB d')∧nx ≤ x.2.2.2∧∀ j,j ≠ id→j ≠ q→hget x.2.2.1 j=hget h j⟩⟩:=by
    intro o ho h' nx' s' hnx k1 k2 k3
    refine Ok_mono (ih (i + 1) _ h' nx' s' (by omega) (by omega) (by rw [sz_swp];exact hn) k1 k2) fun x hx=>Ok_mono hx fun v hv=>?_
    obtain ⟨v1,d',v2,v3,v4,v5⟩:=hv
    exact ⟨v1,d',Go.Sort.permIn_trans _ _ _ a b (Go.Sort.swp_permIn d a b i (a + o) hi (by omega) (by omega) (by omega) (by omega)) v2,v3,by omega,fun j j1 j2=>(v5 j j1 j2).trans (k3 j j1 j2)⟩
   have hr3:=hr2
   rw [row_of] at hr3
   by_cases hg:b - a ≤ O
   ·have dg:decide (((b - a:Nat):Int) ≤ (O:Int))=true:=by simp;omega
    have eg:(O:Int) - ((b - a:Nat):Int)=((O - (b - a):Nat):Int):=by omega
    simp (disch:=first | exact d_Q11 | fail) only [c127,e6,hO,dg,eg,na,na1,hr3,SR,EVS,Nat.reduceAdd,Nat.reduceSub,Int.reduceToNat,Nat.reduceMul,Nat.reduceEqDiff,Nat.reduceLeDiff,Int.reduceEq,Int.reduceLT,Int.reduceLE,↓reduceIte]
    refine Ok_inL0 (key (O - (b - a)) (by omega) _ _ y (by omega) ?_ ?_ fun j j1 j2=>?_)
    ·exact hgs_eq hr2
    ·rw [hgs_ne (Ne.symm hq)];exact p2
    ·rw [hgs_ne (Ne.symm j1)];exact p3 j j2
   ·have dg:decide (((b - a:Nat):Int) ≤ (O:Int))=false:=by simp;omega
    simp (disch:=first | exact d_Q11 | fail) only [c127,e6,hO,dg,na,na1,hr3,SR,EVS,Nat.reduceAdd,Nat.reduceSub,Int.reduceToNat,Nat.reduceMul,Nat.reduceEqDiff,Nat.reduceLeDiff,Int.reduceEq,Int.reduceLT,Int.reduceLE,↓reduceIte]
    refine Ok_inL0 (key O (by omega) _ _ y (by omega) ?_ ?_ fun j j1 j2=>?_)
    ·exact hgs_eq hr2
    ·rw [hgs_ne (Ne.symm hq)];exact p2
    ·rw [hgs_ne (Ne.symm j1)];exact p3 j j2
  ·have h1:decide (i ≤ a + (b - a) / 4 * 2 + 1)=false:=by simp;omega
   simp (disch:=first | exact d_Q11 | fail) only [unf b127_0.eq_1,c127,e2,e3,NA,h1,EVS,Nat.reduceAdd,Nat.reduceSub,Int.reduceToNat,Nat.reduceMul,Nat.reduceEqDiff,Nat.reduceLeDiff,Int.reduceEq,Int.reduceLT,Int.reduceLE,↓reduceIte]
   exact ⟨rfl,d,Go.Sort.permIn_refl d a b,hr,by omega,fun _ _ _=>trivial⟩
theorem brk_spec (id n a b:Nat) (d:Array Bd) (hab:a ≤ b) (hb:b ≤ n) (hN:n ≤ 500) (hn:d.size=n) (h:Heap) (nx:Nat) (hid:id < nx) (hr:hget h id=some (rowB d)) :
  ∃ r,lim T 127 [.sref 3 id n 0 n,.int .i64 a,.int .i64 b,.fn 46 []] h nx=some r∧r.1=.tup []∧∃ d',Go.Sort.PermIn a b d d'∧RowN id d' h nx r.2.1 r.2.2:=by
 refine shr_ex tg127 rfl rfl ?_
 have e1:(b:Int) - a=((b - a:Nat):Int):=by omega
 by_cases h8:8 ≤ b - a
 ·have d8:decide ((8:Int) ≤ ((b - a:Nat):Int))=true:=by simp;omega
  obtain ⟨M,m1,m2,hM⟩:=npow_spec (b - a) (by omega) (by omega)
  have e2:((b - a:Nat):Int).tdiv 4=(((b - a) / 4:Nat):Int):=by rw [Int.tdiv_eq_ediv_of_nonneg (by omega)];omega
  have e3:(((b - a) / 4:Nat):Int) * 2=(((b - a) / 4 * 2:Nat):Int):=by omega
  have e4:((a + (b - a) / 4 * 2:Nat):Int) - 1=((a + (b - a) / 4 * 2 - 1:Nat):Int):=by omega
  simp (disch:=first | exact d_Q11 | fail) only [c127,e1,e2,e3,e4,d8,na,hM,SR,EVS,Nat.reduceAdd,Nat.reduceSub,Int.reduceToNat,Nat.reduceMul,Nat.reduceEqDiff,Nat.reduceLeDiff,Int.reduceEq,Int.reduceLT,Int.reduceLE,↓reduceIte]
  refine Ok_mono (brk_loop id n a b M (nx + 8) m1 m2 h8 hb hN (by omega) _ (a + (b - a) / 4 * 2 - 1) d _ _ ((b - a:Nat):Int) (Nat.le_refl _) (by omega) hn ?_ ?_) fun x hx=>Ok_mono hx fun v hv=>?_
  ·rw [hg_ne (by omega)];exact hr
  ·exact hg_eq
  ·obtain ⟨v1,d',v2,v3,v4,v5⟩:=hv
   exact ⟨v1,d',v2,v3,by dsimp only;omega,fun i i1 i2=>(v5 i i2 (by omega)).trans (hg_ne (by omega))⟩
 ·have d8:decide ((8:Int) ≤ ((b - a:Nat):Int))=false:=by simp;omega
  simp (disch:=first | exact d_Q11 | fail) only [c127,e1,d8,EVS,Nat.reduceAdd,Nat.reduceSub,Int.reduceToNat,Nat.reduceMul,Nat.reduceEqDiff,Nat.reduceLeDiff,Int.reduceEq,Int.reduceLT,Int.reduceLE,↓reduceIte]
  exact ⟨rfl,d,Go.Sort.permIn_refl d a b,hr,by omega,fun _ _ _=>rfl⟩
open Go.Sort (PermIn SortedIn Below SWO)
def SrtR (id n a b:Nat) (d:Array Bd) (h:Heap) (nx:Nat) (h':Heap) (nx':Nat):Prop:=∃ d',PermIn a b d d'∧SortedIn ltB a b d'∧d'.size=n∧RowN id d' h nx h' nx'
abbrev PQ (id n a b:Nat) (d:Array Bd) (h:Heap) (nx:Nat):Post Out:=⟨fun x=>@Ok FV (finV c76.res x) ⟨fun v=>v=.tup []∧SrtR id n a b d h nx x.2.2.1 x.2.2.2⟩⟩
abbrev HD (id n:Nat) (a b l:Nat) (wb wp:Bool):Tm:=[(0,.sref 3 id n 0 n),(1,.int .i64 a),(2,.int .i64 b),(3,.int .i64 l),(4,.fn 46 []),(10,.bool wb),(11,.bool wp)]
abbrev LP:List I:=[.code b76_0,.inL none b76_0,.inB 0]
abbrev IHp (id n m:Nat):Prop:=∀ (a b l:Nat) (wb wp:Bool) (d:Array Bd) (h:Heap) (nx:Nat),b - a < m→a ≤ b→b ≤ n→l ≤ 64→d.size=n→id < nx→Below ltB a b d→hget h id=some (rowB d)→@Ok Out (runs T LP (HD id n a b l wb wp) h nx) (PQ id n a b d h nx)
theorem d_Q13 {P:Prop} (h:P:=by first|omega|(simp only[EVL]<;>omega)|(simp only[hget_c,Nat.reduceEqDiff,↓reduceIte];done)|assumption|(simp (disch:=omega) only[hg_ne,hg_eq,hgs_ne, *];done)|(simp only [rb_len];done)|with_unfolding_all rfl):P:=h
open Go.Sort (PermIn SortedIn Below SWO)
theorem PQ_up {e:Option Out} {id n a b:Nat} {d0 d:Array Bd} {h0 h:Heap} {nx0 nx:Nat} (hp:PermIn a b d0 d) (hr:RowN id d h0 nx0 h nx) (hk:@Ok Out e (PQ id n a b d h nx)):@Ok Out e (PQ id n a b d0 h0 nx0) :=
 Ok_mono hk fun _ hx=>Ok_mono hx fun _ hv=>by
  obtain ⟨v1,d',v2,v3,v4,v5⟩:=hv
  exact ⟨v1,d',Go.Sort.permIn_trans _ _ _ a b hp v2,v3,v4,RowN.trans hr v5⟩
theorem pdq_call (id n a b l:Nat) (d:Array Bd) (h:Heap) (nx:Nat) (ha:a ≤ n) (hb:b ≤ n) (hl:l ≤ 64) (hN:n ≤ 500) (hh:∀ nx',nx ≤ nx'→@Ok Out (runs T LP (HD id n a b l true true) h nx') (PQ id n a b d h nx')) :
  ∃ r,lim T 76 [.sref 3 id n 0 n,.int .i64 a,.int .i64 b,.int .i64 l,.fn 46 []] h nx=some r∧r.1=.tup []∧SrtR id n a b d h nx r.2.1 r.2.2:=by
 refine shr_ex tg76 rfl rfl ?_
 simp (disch:=first | exact d_Q13 | fail) only [c76,EVS,Nat.reduceAdd,Nat.reduceSub,Int.reduceToNat,Nat.reduceMul,Nat.reduceEqDiff,Nat.reduceLeDiff,Int.reduceEq,Int.reduceLT,Int.reduceLE,↓reduceIte]
 refine Ok_mono (hh _ (by omega)) fun x hx=>Ok_mono hx fun v hv=>?_
 obtain ⟨v1,d',v2,v3,v4,v5⟩:=hv
 exact ⟨v1,d',v2,v3,v4,RowN.up v5 (by omega) (Nat.le_refl _)⟩
abbrev LQ (c:C):List I:=[.code c,.inB 1,.inL none b76_0,.inB 0]
theorem st4 (id n m:Nat) (hN:n ≤ 500) (ih:IHp id n m) (a b l p:Nat) (wb wp:Bool) (d:Array Bd) (h:Heap) (nx:Nat) (x:Tm) (hm:b - a ≤ m) (h12:a + 12 < b) (hb:b ≤ n) (hl:l ≤ 64) (hn:d.size=n) (hid:id < nx) (hp1:a ≤ p) (hp2:p < b) (hB:Below ltB a b d) (hr:hget h id=some (rowB d)) :
  @Ok Out (runs T (LQ q76_4) ((0,.sref 3 id n 0 n)::(1,.int .i64 a)::(2,.int .i64 b)::(3,.int .i64 l)::(4,.fn 46 [])::(10,.bool wb)::(11,.bool wp)::(12,.int .i64 (b - a:Nat))::(13,.int .i64 p)::x) h nx) (PQ id n a b d h nx):=by
 have hps:=part_spec id n a b p d (by omega) hb hp1 hp2 (by omega) hn
 rcases hx:Go.Sort.partition ltB d a b p with ⟨mid,ap,d4⟩
 rw [hx] at hps
 obtain ⟨g1,g2,hs4,hBa,hBr,hleft,hright⟩:=Go.Sort.round_part swoB (Go.Sort.partition_holds _) hp1 hp2 (by omega) hB hx
 simp (disch:=first | exact d_Q13 | fail) only [unf q76_4.eq_1,EVS,Nat.reduceAdd,Nat.reduceSub,Int.reduceToNat,Nat.reduceMul,Nat.reduceEqDiff,Nat.reduceLeDiff,Int.reduceEq,Int.reduceLT,Int.reduceLE,↓reduceIte]
 refine Ok_call (hps h _ hr) fun r hr1=>?_
 obtain ⟨r1,r2⟩:=hr1
 dsimp only at r1 r2
 rw [r1]
 refine ⟨rfl,?_⟩
 have e1:((mid:Nat):Int) - a=((mid - a:Nat):Int):=by omega
 have e2:((b:Nat):Int) - mid=((b - mid:Nat):Int):=by omega
 have e3:((mid:Nat):Int) + 1=((mid + 1:Nat):Int):=by omega
 by_cases hc:mid - a < b - mid
 ·have dc:decide (((mid - a:Nat):Int) < ((b - mid:Nat):Int))=true:=by simp;omega
  simp (disch:=first | exact d_Q13 | fail) only [unf q76_3.eq_1,e1,e2,e3,dc,EVS,Nat.reduceAdd,Nat.reduceSub,Int.reduceToNat,Nat.reduceMul,Nat.reduceEqDiff,Nat.reduceLeDiff,Int.reduceEq,Int.reduceLT,Int.reduceLE,↓reduceIte]
  refine Ok_call (pdq_call id n a mid l d4 _ _ (by omega) (by omega) hl hN fun nx' hnx=>ih a mid l true true d4 _ nx' (by omega) g1 (by omega) hl (by omega) (by have:=r2.2.1;omega) hBa r2.1) fun r3 hr3=>?_
  obtain ⟨q1,d5,q2,q3,q4,q5⟩:=hr3
  rw [q1]
  refine ⟨rfl,?_⟩
  obtain ⟨hBL,hfin⟩:=hleft d5 q2 q3
  simp (disch:=first | exact d_Q13 | fail) only [e3,EVS,Nat.reduceAdd,Nat.reduceSub,Int.reduceToNat,Nat.reduceMul,Nat.reduceEqDiff,Nat.reduceLeDiff,Int.reduceEq,Int.reduceLT,Int.reduceLE,↓reduceIte]
  refine Ok_inL0 (Ok_mono (ih (mid + 1) b l _ ap d5 _ _ (by omega) (by omega) hb hl q4 (by have:=r2.2.1;have:=q5.2.1;omega) hBL q5.1) fun y hy=>Ok_mono hy fun v hv=>?_)
  obtain ⟨v1,d6,v2,v3,v4,v5⟩:=hv
  obtain ⟨f1,f2⟩:=hfin d6 v2 v3
  exact ⟨v1,d6,f1,f2,v4,((RowN.up r2 (by omega) (Nat.le_refl _)).trans (RowN.up q5 (by omega) (Nat.le_refl _))).trans (RowN.up v5 (by omega) (Nat.le_refl _))⟩
 ·have dc:decide (((mid - a:Nat):Int) < ((b - mid:Nat):Int))=false:=by simp;omega
  simp (disch:=first | exact d_Q13 | fail) only [unf q76_3.eq_1,e1,e2,e3,dc,EVS,Nat.reduceAdd,Nat.reduceSub,Int.reduceToNat,Nat.reduceMul,Nat.reduceEqDiff,Nat.reduceLeDiff,Int.reduceEq,Int.reduceLT,Int.reduceLE,↓reduceIte]
  refine Ok_call (pdq_call id n (mid + 1) b l d4 _ _ (by omega) (by omega) hl hN fun nx' hnx=>ih (mid + 1) b l true true d4 _ nx' (by omega) (by omega) (by omega) hl (by omega) (by have:=r2.2.1;omega) hBr r2.1) fun r3 hr3=>?_
  obtain ⟨q1,d5,q2,q3,q4,q5⟩:=hr3
  rw [q1]
  refine ⟨rfl,?_⟩
  obtain ⟨hBL,hfin⟩:=hright d5 q2 q3
  simp (disch:=first | exact d_Q13 | fail) only [e3,EVS,Nat.reduceAdd,Nat.reduceSub,Int.reduceToNat,Nat.reduceMul,Nat.reduceEqDiff,Nat.reduceLeDiff,Int.reduceEq,Int.reduceLT,Int.reduceLE,↓reduceIte]
  refine Ok_inL0 (Ok_mono (ih a mid l _ ap d5 _ _ (by omega) g1 (by omega) hl q4 (by have:=r2.2.1;have:=q5.2.1;omega) hBL q5.1) fun y hy=>Ok_mono hy fun v hv=>?_)
  obtain ⟨v1,d6,v2,v3,v4,v5⟩:=hv
  obtain ⟨f1,f2⟩:=hfin d6 v2 v3
  exact ⟨v1,d6,f1,f2,v4,((RowN.up r2 (by omega) (Nat.le_refl _)).trans (RowN.up q5 (by omega) (Nat.le_refl _))).trans (RowN.up v5 (by omega) (Nat.le_refl _))⟩
theorem d_Q14 {P:Prop} (h:P:=by first|omega|(simp only[EVL]<;>omega)|(simp only[hget_c,Nat.reduceEqDiff,↓reduceIte];done)|assumption|(simp (disch:=omega) only[hg_ne,hg_eq,hgs_ne, *];done)|(simp only [rb_len];done)|with_unfolding_all rfl):P:=h
open Go.Sort (PermIn SortedIn Below SWO)
theorem st5 (id n m:Nat) (hN:n ≤ 500) (ih:IHp id n m) (a b l p:Nat) (wb wp:Bool) (d:Array Bd) (h:Heap) (nx:Nat) (x:Tm) (hm:b - a ≤ m) (h12:a + 12 < b) (hb:b ≤ n) (hl:l ≤ 64) (hn:d.size=n) (hid:id < nx) (hp1:a ≤ p) (hp2:p < b) (hB:Below ltB a b d) (hr:hget h id=some (rowB d)) :
  @Ok Out (runs T (LQ q76_5) ((0,.sref 3 id n 0 n)::(1,.int .i64 a)::(2,.int .i64 b)::(3,.int .i64 l)::(4,.fn 46 [])::(10,.bool wb)::(11,.bool wp)::(12,.int .i64 (b - a:Nat))::(13,.int .i64 p)::x) h nx) (PQ id n a b d h nx):=by
 have hr':=hr
 rw [row_of] at hr'
 by_cases ha:0 < a
 ·have da:decide ((0:Int) < (a:Int))=true:=by simp;omega
  have e1:((a:Nat):Int) - 1=((a - 1:Nat):Int):=by omega
  cases hlt:ltB d[a - 1]! d[p]! with
  |true =>
   simp (disch:=first | exact d_Q14 | fail) only [unf q76_5.eq_1,unf q76_2.eq_1,da,e1,cmp_spec,hr',SR,ltB_eq,hlt,EVS,Nat.reduceAdd,Nat.reduceSub,Int.reduceToNat,Nat.reduceMul,Nat.reduceEqDiff,Nat.reduceLeDiff,Int.reduceEq,Int.reduceLT,Int.reduceLE,↓reduceIte]
   exact Ok_mono (st4 id n m hN ih a b l p wb wp d h _ _ hm h12 hb hl hn (by omega) hp1 hp2 hB hr) fun y hy=>Ok_mono hy fun v hv=>by
    obtain ⟨v1,d6,v2,v3,v4,v5⟩:=hv
    exact ⟨v1,d6,v2,v3,v4,RowN.up v5 (by omega) (Nat.le_refl _)⟩
  |false =>
   have hps:=partE_spec id n a b p d (by omega) hb hp1 hp2 (by omega) hn
   rcases hx:Go.Sort.partitionEqual ltB d a b p with ⟨mid,d4⟩
   rw [hx] at hps
   obtain ⟨g1,g2,hs4,hB4,hfin⟩:=Go.Sort.round_eq swoB (Go.Sort.partitionEqual_holds _) ha hp1 hp2 (by omega) hB hlt hx
   simp (disch:=first | exact d_Q14 | fail) only [unf q76_5.eq_1,unf q76_2.eq_1,da,e1,cmp_spec,hr',SR,ltB_eq,hlt,EVS,Nat.reduceAdd,Nat.reduceSub,Int.reduceToNat,Nat.reduceMul,Nat.reduceEqDiff,Nat.reduceLeDiff,Int.reduceEq,Int.reduceLT,Int.reduceLE,↓reduceIte]
   refine Ok_call (hps h _ hr) fun r hr1=>?_
   obtain ⟨r1,r2⟩:=hr1
   dsimp only at r1 r2
   rw [r1]
   refine ⟨rfl,?_⟩
   simp (disch:=first | exact d_Q14 | fail) only [w_xb,EVS,Nat.reduceAdd,Nat.reduceSub,Int.reduceToNat,Nat.reduceMul,Nat.reduceEqDiff,Nat.reduceLeDiff,Int.reduceEq,Int.reduceLT,Int.reduceLE,↓reduceIte]
   refine Ok_inL0 (Ok_mono (ih mid b l wb wp d4 _ _ (by omega) g2 hb hl (by omega) (by have:=r2.2.1;omega) hB4 r2.1) fun y hy=>Ok_mono hy fun v hv=>?_)
   obtain ⟨v1,d6,v2,v3,v4,v5⟩:=hv
   obtain ⟨f1,f2⟩:=hfin d6 v2 v3
   exact ⟨v1,d6,f1,f2,v4,(RowN.up r2 (by omega) (Nat.le_refl _)).trans (RowN.up v5 (by omega) (Nat.le_refl _))⟩
 ·have da:decide ((0:Int) < (a:Int))=false:=by simp;omega
  simp (disch:=first | exact d_Q14 | fail) only [unf q76_5.eq_1,unf q76_2.eq_1,da,EVS,Nat.reduceAdd,Nat.reduceSub,Int.reduceToNat,Nat.reduceMul,Nat.reduceEqDiff,Nat.reduceLeDiff,Int.reduceEq,Int.reduceLT,Int.reduceLE,↓reduceIte]
  exact Ok_mono (st4 id n m hN ih a b l p wb wp d h _ _ hm h12 hb hl hn (by omega) hp1 hp2 hB hr) fun y hy=>Ok_mono hy fun v hv=>by
   obtain ⟨v1,d6,v2,v3,v4,v5⟩:=hv
   exact ⟨v1,d6,v2,v3,v4,RowN.up v5 (by omega) (Nat.le_refl _)⟩
theorem st6 (id n m:Nat) (hN:n ≤ 500) (ih:IHp id n m) (a b l p:Nat) (t:Int) (wb wp:Bool) (d:Array Bd) (h:Heap) (nx:Nat) (x:Tm) (hm:b - a ≤ m) (h12:a + 12 < b) (hb:b ≤ n) (hl:l ≤ 64) (hn:d.size=n) (hid:id < nx) (hp1:a ≤ p) (hp2:p < b) (hB:Below ltB a b d) (hr:hget h id=some (rowB d)) :
  @Ok Out (runs T (LQ q76_6) ((0,.sref 3 id n 0 n)::(1,.int .i64 a)::(2,.int .i64 b)::(3,.int .i64 l)::(4,.fn 46 [])::(10,.bool wb)::(11,.bool wp)::(12,.int .i64 (b - a:Nat))::(13,.int .i64 p)::(14,.int .i64 t)::x) h nx) (PQ id n a b d h nx):=by
 have skip:∀ nx' x,nx ≤ nx'→@Ok Out (runs T (LQ q76_5) ((0,.sref 3 id n 0 n)::(1,.int .i64 a)::(2,.int .i64 b)::(3,.int .i64 l)::(4,.fn 46 [])::(10,.bool wb)::(11,.bool wp)::(12,.int .i64 (b - a:Nat))::(13,.int .i64 p)::x) h nx') (PQ id n a b d h nx):=fun nx' x hnx =>
  PQ_up (Go.Sort.permIn_refl d a b) (RowN.refl hr hnx) (st5 id n m hN ih a b l p wb wp d h nx' x hm h12 hb hl hn (by omega) hp1 hp2 hB hr)
 cases wb with
 |false =>
  simp (disch:=first | exact d_Q14 | fail) only [unf q76_6.eq_1,EVS,Nat.reduceAdd,Nat.reduceSub,Int.reduceToNat,Nat.reduceMul,Nat.reduceEqDiff,Nat.reduceLeDiff,Int.reduceEq,Int.reduceLT,Int.reduceLE,↓reduceIte]
  exact skip _ _ (by omega)
 |true =>
  cases wp with
  |false =>
   simp (disch:=first | exact d_Q14 | fail) only [unf q76_6.eq_1,EVS,Nat.reduceAdd,Nat.reduceSub,Int.reduceToNat,Nat.reduceMul,Nat.reduceEqDiff,Nat.reduceLeDiff,Int.reduceEq,Int.reduceLT,Int.reduceLE,↓reduceIte]
   exact skip _ _ (by omega)
  |true =>
   by_cases ht:t=1
   ·subst ht
    have hps:=partI_spec id n a b d (by omega) hb (by omega) hn
    have hpi:=Go.Sort.partialInsertionSort_holds (lt:=ltB) swoB d a b (by omega) (by omega) hB
    rcases hx:Go.Sort.partialInsertionSort ltB d a b with ⟨d3,done⟩
    rw [hx] at hps hpi
    dsimp only at hpi
    simp (disch:=first | exact d_Q14 | fail) only [unf q76_6.eq_1,EVS,Nat.reduceAdd,Nat.reduceSub,Int.reduceToNat,Nat.reduceMul,Nat.reduceEqDiff,Nat.reduceLeDiff,Int.reduceEq,Int.reduceLT,Int.reduceLE,↓reduceIte]
    refine Ok_call (hps h _ hr) fun r hr1=>?_
    obtain ⟨r1,r2⟩:=hr1
    dsimp only at r1 r2
    rw [r1]
    refine ⟨rfl,?_⟩
    have s3:d3.size=n:=hpi.1.1.trans hn
    cases done with
    |true =>
     simp (disch:=first | exact d_Q14 | fail) only [c76,EVS,Nat.reduceAdd,Nat.reduceSub,Int.reduceToNat,Nat.reduceMul,Nat.reduceEqDiff,Nat.reduceLeDiff,Int.reduceEq,Int.reduceLT,Int.reduceLE,↓reduceIte]
     exact ⟨rfl,d3,hpi.1,hpi.2 rfl,s3,RowN.up r2 (by omega) (by first | omega | (dsimp only;omega))⟩
    |false =>
     simp (disch:=first | exact d_Q14 | fail) only [c76,EVS,Nat.reduceAdd,Nat.reduceSub,Int.reduceToNat,Nat.reduceMul,Nat.reduceEqDiff,Nat.reduceLeDiff,Int.reduceEq,Int.reduceLT,Int.reduceLE,↓reduceIte]
     refine PQ_up hpi.1 (RowN.up r2 (by omega) ?_) (st5 id n m hN ih a b l p true true d3 r.2.1 _ _ hm h12 hb hl s3 (by have:=r2.2.1;omega) hp1 hp2 (hB.perm (by omega) hpi.1) r2.1)
     omega
   ·have ht':decide (t=1)=false:=by simp;exact ht
    simp (disch:=first | exact d_Q14 | fail) only [unf q76_6.eq_1,ht',EVS,Nat.reduceAdd,Nat.reduceSub,Int.reduceToNat,Nat.reduceMul,Nat.reduceEqDiff,Nat.reduceLeDiff,Int.reduceEq,Int.reduceLT,Int.reduceLE,↓reduceIte]
    exact skip _ _ (by omega)
theorem st7 (id n m:Nat) (hN:n ≤ 500) (ih:IHp id n m) (a b l p:Nat) (t:Int) (wb wp:Bool) (d:Array Bd) (h:Heap) (nx:Nat) (x:Tm) (hm:b - a ≤ m) (h12:a + 12 < b) (hb:b ≤ n) (hl:l ≤ 64) (hn:d.size=n) (hid:id < nx) (hp1:a ≤ p) (hp2:p < b) (hB:Below ltB a b d) (hr:hget h id=some (rowB d)) :
  @Ok Out (runs T (LQ q76_7) ((0,.sref 3 id n 0 n)::(1,.int .i64 a)::(2,.int .i64 b)::(3,.int .i64 l)::(4,.fn 46 [])::(10,.bool wb)::(11,.bool wp)::(12,.int .i64 (b - a:Nat))::(13,.int .i64 p)::(14,.int .i64 t)::x) h nx) (PQ id n a b d h nx):=by
 by_cases ht:t=2
 ·subst ht
  have hps:=rev_spec id n a b (.fn 46 []) d (by omega) hb (by omega) hn
  have hrv:=Go.Sort.reverseRange_holds d a b (by omega) (by omega)
  generalize Go.Sort.reverseRange d a b=d3 at *
  have e1:((b:Nat):Int) - 1=((b - 1:Nat):Int):=by omega
  have e2:((p:Nat):Int) - a=((p - a:Nat):Int):=by omega
  have e3:((b - 1:Nat):Int) - ((p - a:Nat):Int)=((b - 1 - (p - a):Nat):Int):=by omega
  simp (disch:=first | exact d_Q14 | fail) only [unf q76_7.eq_1,EVS,Nat.reduceAdd,Nat.reduceSub,Int.reduceToNat,Nat.reduceMul,Nat.reduceEqDiff,Nat.reduceLeDiff,Int.reduceEq,Int.reduceLT,Int.reduceLE,↓reduceIte]
  refine Ok_call (hps h _ hr) fun r hr1=>?_
  obtain ⟨r1,r2⟩:=hr1
  rw [r1]
  refine ⟨rfl,?_⟩
  simp (disch:=first | exact d_Q14 | fail) only [unf q76_1.eq_1,e1,e2,e3,EVS,Nat.reduceAdd,Nat.reduceSub,Int.reduceToNat,Nat.reduceMul,Nat.reduceEqDiff,Nat.reduceLeDiff,Int.reduceEq,Int.reduceLT,Int.reduceLE,↓reduceIte]
  have s3:d3.size=n:=hrv.1.trans hn
  refine PQ_up hrv (RowN.up r2 (by omega) ?_) (st6 id n m hN ih a b l (b - 1 - (p - a)) 1 wb wp d3 r.2.1 _ _ hm h12 hb hl s3 (by have:=r2.2.1;omega) (by omega) (by omega) (hB.perm (by omega) hrv) r2.1)
  omega
 ·have ht':decide (t=2)=false:=by simp;exact ht
  simp (disch:=first | exact d_Q14 | fail) only [unf q76_7.eq_1,ht',EVS,Nat.reduceAdd,Nat.reduceSub,Int.reduceToNat,Nat.reduceMul,Nat.reduceEqDiff,Nat.reduceLeDiff,Int.reduceEq,Int.reduceLT,Int.reduceLE,↓reduceIte]
  exact PQ_up (Go.Sort.permIn_refl d a b) (RowN.refl hr (by omega)) (st6 id n m hN ih a b l p t wb wp d h _ _ hm h12 hb hl hn (by omega) hp1 hp2 hB hr)
theorem st8 (id n m:Nat) (hN:n ≤ 500) (ih:IHp id n m) (a b l:Nat) (wb wp:Bool) (d:Array Bd) (h:Heap) (nx:Nat) (x:Tm) (hm:b - a ≤ m) (h12:a + 12 < b) (hb:b ≤ n) (hl:l ≤ 64) (hn:d.size=n) (hid:id < nx) (hB:Below ltB a b d) (hr:hget h id=some (rowB d)) :
  @Ok Out (runs T (LQ q76_8) ((0,.sref 3 id n 0 n)::(1,.int .i64 a)::(2,.int .i64 b)::(3,.int .i64 l)::(4,.fn 46 [])::(10,.bool wb)::(11,.bool wp)::(12,.int .i64 (b - a:Nat))::x) h nx) (PQ id n a b d h nx):=by
 simp (disch:=first | exact d_Q14 | fail) only [unf q76_8.eq_1,EVS,Nat.reduceAdd,Nat.reduceSub,Int.reduceToNat,Nat.reduceMul,Nat.reduceEqDiff,Nat.reduceLeDiff,Int.reduceEq,Int.reduceLT,Int.reduceLE,↓reduceIte]
 refine Ok_call (choose_spec id n a b d (by omega) hb (by omega) hn h _ (by omega) hr) fun r hr1=>?_
 obtain ⟨⟨p,t,r1,p1,p2⟩,r2⟩:=hr1
 rw [r1]
 refine ⟨rfl,?_⟩
 simp (disch:=first | exact d_Q14 | fail) only [c76,EVS,Nat.reduceAdd,Nat.reduceSub,Int.reduceToNat,Nat.reduceMul,Nat.reduceEqDiff,Nat.reduceLeDiff,Int.reduceEq,Int.reduceLT,Int.reduceLE,↓reduceIte]
 refine PQ_up (Go.Sort.permIn_refl d a b) (RowN.up r2 (by omega) ?_) (st7 id n m hN ih a b l p t wb wp d r.2.1 _ _ hm h12 hb hl hn (by have:=r2.2.1;omega) p1 p2 hB r2.1)
 omega
theorem pdq_head (id n:Nat) (hN:n ≤ 500):∀ m,IHp id n m:=by
 intro m
 induction m with
 |zero=>intro a b l wb wp d h nx hm;omega
 |succ m ih =>
  intro a b l wb wp d h nx hm hab hb hl hn hid hB hr
  have e1:((b:Nat):Int) - a=((b - a:Nat):Int):=by omega
  by_cases h12:b - a ≤ 12
  ·have d12:decide (((b - a:Nat):Int) ≤ 12)=true:=by simp;omega
   have hps:=ins_spec id n a b d (by omega) hb (by omega) hn
   obtain ⟨i1,i2⟩:=Go.Sort.insertionSort_holds (lt:=ltB) swoB d a b hab (by omega)
   generalize Go.Sort.insertionSort ltB d a b=d3 at *
   simp (disch:=first | exact d_Q14 | fail) only [unf b76_0.eq_1,c76,e1,d12,EVS,Nat.reduceAdd,Nat.reduceSub,Int.reduceToNat,Nat.reduceMul,Nat.reduceEqDiff,Nat.reduceLeDiff,Int.reduceEq,Int.reduceLT,Int.reduceLE,↓reduceIte]
   refine Ok_call (hps h _ hr) fun r hr1=>?_
   obtain ⟨r1,r2⟩:=hr1
   rw [r1]
   refine ⟨rfl,?_⟩
   simp (disch:=first | exact d_Q14 | fail) only [c76,EVS,Nat.reduceAdd,Nat.reduceSub,Int.reduceToNat,Nat.reduceMul,Nat.reduceEqDiff,Nat.reduceLeDiff,Int.reduceEq,Int.reduceLT,Int.reduceLE,↓reduceIte]
   exact ⟨rfl,d3,i1,i2,i1.1.trans hn,RowN.up r2 (by omega) (by first | omega | (dsimp only;omega))⟩
  ·have d12:decide (((b - a:Nat):Int) ≤ 12)=false:=by simp;omega
   by_cases hl0:l=0
   ·subst hl0
    have hps:=heap_spec id n a b d (by omega) hb (by omega) hn
    obtain ⟨i1,i2⟩:=Go.Sort.heapSort_holds (lt:=ltB) swoB d a b hab (by omega)
    generalize Go.Sort.heapSort ltB d a b=d3 at *
    have z0:(((0:Nat):Int)=0)=True:=by simp
    simp (disch:=first | exact d_Q14 | fail) only [unf b76_0.eq_1,c76,e1,d12,unf q76_10.eq_1,z0,decide_true,EVS,Nat.reduceAdd,Nat.reduceSub,Int.reduceToNat,Nat.reduceMul,Nat.reduceEqDiff,Nat.reduceLeDiff,Int.reduceEq,Int.reduceLT,Int.reduceLE,↓reduceIte]
    refine Ok_call (hps h _ hr) fun r hr1=>?_
    obtain ⟨r1,r2⟩:=hr1
    rw [r1]
    refine ⟨rfl,?_⟩
    simp (disch:=first | exact d_Q14 | fail) only [c76,EVS,Nat.reduceAdd,Nat.reduceSub,Int.reduceToNat,Nat.reduceMul,Nat.reduceEqDiff,Nat.reduceLeDiff,Int.reduceEq,Int.reduceLT,Int.reduceLE,↓reduceIte]
    exact ⟨rfl,d3,i1,i2,i1.1.trans hn,RowN.up r2 (by omega) (by first | omega | (dsimp only;omega))⟩
   ·have dl:decide ((l:Int)=0)=false:=by simp;exact hl0
    have el:((l:Nat):Int) - 1=((l - 1:Nat):Int):=by omega
    cases wb with
    |true =>
     simp (disch:=first | exact d_Q14 | fail) only [unf b76_0.eq_1,c76,e1,d12,dl,unf q76_10.eq_1,unf q76_9.eq_1,EVS,Nat.reduceAdd,Nat.reduceSub,Int.reduceToNat,Nat.reduceMul,Nat.reduceEqDiff,Nat.reduceLeDiff,Int.reduceEq,Int.reduceLT,Int.reduceLE,↓reduceIte]
     exact PQ_up (Go.Sort.permIn_refl d a b) (RowN.refl hr (by omega)) (st8 id n m hN ih a b l true wp d h _ _ (by omega) (by omega) hb hl hn (by omega) hB hr)
    |false =>
     simp (disch:=first | exact d_Q14 | fail) only [unf b76_0.eq_1,c76,e1,d12,dl,unf q76_10.eq_1,unf q76_9.eq_1,EVS,Nat.reduceAdd,Nat.reduceSub,Int.reduceToNat,Nat.reduceMul,Nat.reduceEqDiff,Nat.reduceLeDiff,Int.reduceEq,Int.reduceLT,Int.reduceLE,↓reduceIte]
     refine Ok_call (brk_spec id n a b d hab hb hN hn h _ (by omega) hr) fun r hr1=>?_
     obtain ⟨r1,d1,k1,r2⟩:=hr1
     rw [r1]
     refine ⟨rfl,?_⟩
     simp (disch:=first | exact d_Q14 | fail) only [c76,el,EVS,Nat.reduceAdd,Nat.reduceSub,Int.reduceToNat,Nat.reduceMul,Nat.reduceEqDiff,Nat.reduceLeDiff,Int.reduceEq,Int.reduceLT,Int.reduceLE,↓reduceIte]
     refine PQ_up k1 (RowN.up r2 (by omega) ?_) (st8 id n m hN ih a b (l - 1) false wp d1 r.2.1 _ _ (by omega) (by omega) hb (by omega) (k1.1.trans hn) (by have:=r2.2.1;omega) (hB.perm (by omega) k1) r2.1)
     omega
theorem sortF_spec (id n:Nat) (d:Array Bd) (hN:n ≤ 500) (hn:d.size=n) (h:Heap) (nx:Nat) (hid:id < nx) (hr:hget h id=some (rowB d)) :
  ∃ r,lim T 45 [.sref 3 id n 0 n,.fn 46 []] h nx=some r∧r.1=.tup []∧SrtR id n 0 n d h nx r.2.1 r.2.2:=by
 obtain ⟨L,l1,hL⟩:=lenB_spec n (by omega)
 refine shr_ex tg45 rfl rfl ?_
 simp (disch:=first | exact d_Q14 | fail) only [c45,hL,EVS,Nat.reduceAdd,Nat.reduceSub,Int.reduceToNat,Nat.reduceMul,Nat.reduceEqDiff,Nat.reduceLeDiff,Int.reduceEq,Int.reduceLT,Int.reduceLE,↓reduceIte]
 refine Ok_call (pdq_call id n 0 n L d h _ (by omega) (Nat.le_refl _) l1 hN fun nx' hnx=>pdq_head id n hN (n + 1) 0 n L true true d h nx' (by omega) (by omega) (Nat.le_refl _) l1 hn (by omega) (.inl rfl) hr) fun r hr1=>?_
 obtain ⟨r1,d6,v2,v3,v4,v5⟩:=hr1
 rw [r1]
 refine ⟨rfl,?_⟩
 simp (disch:=first | exact d_Q14 | fail) only [c45,EVS,Nat.reduceAdd,Nat.reduceSub,Int.reduceToNat,Nat.reduceMul,Nat.reduceEqDiff,Nat.reduceLeDiff,Int.reduceEq,Int.reduceLT,Int.reduceLE,↓reduceIte]
 exact ⟨rfl,d6,v2,v3,v4,RowN.up v5 (by omega) (by first | omega | (dsimp only;omega))⟩
theorem d_V1 {P:Prop} (h:P:=by first|omega|(simp only[EVL]<;>omega)|(simp only[hget_c,Nat.reduceEqDiff,↓reduceIte];done)|assumption|(simp (disch:=omega) only[hg_ne,hg_eq,hgs_ne, *];done)|(simp only [rb_len,LAWSb,List.length_map];done)|with_unfolding_all rfl):P:=h
open Go.Sort (PermIn SortedIn)
theorem bS0:bS=bd0:=rfl
def VP (q iid:Nat) (dn:List (FV × FV)) (m:Tm) (h:Heap) (nx:Nat):Prop:=∃ D:Env0,dn=D.map kvV∧keepOf m c22.keep0=[(2,.lst true []),(3,.int .i64 0),(7,.sref 3 q D.length 0 D.length),(21,.ptr iid 1 0 0)]∧hget h q=some (.row 3 (D.map bd0))∧q < nx∧iid < nx∧iid ≠ q
theorem vars_step (q iid:Nat) (en:Env0) (hen:en.length ≤ 400) (dn:List (FV × FV)) (e:FV × FV) (rest:List (FV × FV)) (m:Tm) (h:Heap) (nx:Nat) (hp:(dn ++ e::rest).Perm (en.map kvV)) (hP:VP q iid dn m h nx) :
  ∃ y,runIt (rops (np (lim T))) (runs T) c22 e (keepOf m c22.keep0) h nx=some y∧VP q iid (dn ++ [e]) y.1 y.2.1 y.2.2:=by
 obtain ⟨D,rfl,h1,h2,h3,h4,h5⟩:=hP
 have he:e ∈ en.map kvV:=hp.mem_iff.1 (by simp)
 obtain ⟨p,_,rfl⟩:=List.mem_map.1 he
 have hlen:D.length + 1 ≤ 400:=by
  have:=hp.length_eq
  simp only [List.length_append,List.length_map,List.length_cons] at this
  omega
 rw [h1]
 unfold runIt
 show @Ok (Tm × Heap × Nat) (@FI.B (Tm × Heap × Nat) (Tm × Heap × Nat) (rops _ _ _ _ _ _) ⟨_⟩) ⟨_⟩
 simp only [c22,kvV]
 simp (disch:=first | exact d_V1 | fail) only [EVS,Nat.reduceAdd,Nat.reduceSub,Int.reduceToNat,Nat.reduceMul,Nat.reduceEqDiff,Nat.reduceLeDiff,Int.reduceEq,Int.reduceLT,Int.reduceLE,↓reduceIte]
 refine Ok_part ?_
 simp (disch:=first | exact d_V1 | fail) only [c22,unf b22_0.eq_1,h2,EVS,Nat.reduceAdd,Nat.reduceSub,Int.reduceToNat,Nat.reduceMul,Nat.reduceEqDiff,Nat.reduceLeDiff,Int.reduceEq,Int.reduceLT,Int.reduceLE,↓reduceIte]
 exact ⟨D ++ [p],by simp [kvV],by simp,by rw [hgs_eq h2];simp [bd0],by omega,by omega,h5⟩
theorem vars_fin (t:Te) (q iid:Nat) (en:Env0) (hv:varsE t=.inl en) (hen:en.length ≤ 400) (dn:List (FV × FV)) (m:Tm) (h:Heap) (nx:Nat) (hp:dn.Perm (en.map kvV)) (hP:VP q iid dn m h nx) :
  bnd (runs T [.code c22.post] (keepOf m c22.keep0) h nx) (resM c22.res)=some (.tup [.lst false ((insE [] (varList t)).map bd0),.int .i64 0]):=by
 obtain ⟨D,rfl,h1,h2,h3,h4,h5⟩:=hP
 have hpD:D.Perm en:=by
  have:=hp.map (fun e:FV × FV=>match e with | (.str n,.int _ w)=>(n,w) | _=>(([]:List UInt8),(0:Int)))
  simpa [List.map_map,Function.comp_def,kvV] using this
 have hlen:D.length ≤ 400:=by rw [hpD.length_eq];exact hen
 rw [h1]
 refine Ok_eq ?_
 show @Ok FV (@FI.B Out FV (runs _ _ _ _ _) ⟨_⟩) ⟨_⟩
 refine Ok_part ?_
 simp only [c22]
 simp (disch:=first | exact d_V1 | fail) only [unf k22_1.eq_1,EVS,Nat.reduceAdd,Nat.reduceSub,Int.reduceToNat,Nat.reduceMul,Nat.reduceEqDiff,Nat.reduceLeDiff,Int.reduceEq,Int.reduceLT,Int.reduceLE,↓reduceIte]
 refine Ok_call (sortF_spec q D.length D.toArray (by omega) (by simp) h _ (by omega) h2) fun r hr=>?_
 obtain ⟨r1,d',p1,p2,p3,p4⟩:=hr
 rw [r1]
 refine ⟨rfl,?_⟩
 obtain ⟨s1,s2⟩:=SL_sorted (n:=D.length) (by simp) p3 p1 p2 (by
  show ND D
  exact List.Perm.pairwise hpD.symm (varsE_nd hv) (fun h=>Ne.symm h))
 have hone:=vars_one hv s1 fun p=>by rw [s2];exact hpD.mem_iff
 have hrow:=p4.1
 have hl:d'.toList.length=D.length:=by rw [← p3];simp
 unfold rowB at hrow
 rw [bS0,hone] at hrow
 rw [hone] at hl
 generalize insE [] (varList t)=L at *
 have hl2:L.length ≤ 400:=by omega
 rw [← hl]
 simp (disch:=first | exact d_V1 | fail) only [resM_r,bnd_s,c22,hrow,EVS,Nat.reduceAdd,Nat.reduceSub,Int.reduceToNat,Nat.reduceMul,Nat.reduceEqDiff,Nat.reduceLeDiff,Int.reduceEq,Int.reduceLT,Int.reduceLE,↓reduceIte]
open Classical in
noncomputable def varsV (e:Bool) (t:Te):FV:=if checkS t=0 then .tup [.lst e ((insE [] (varList t)).map bd0),.int .i64 0] else .tup [.lst true [],.int .i64 (checkS t)]
theorem vars_spec (t:Te) (hl:size t ≤ 1000000) (hk:KOk t):∀ h nx,lim T 22 [.agg [.int .u8 (t).k,.int .i64 (t).w,.int .u64 (t).b,.str (t).s,.int .i64 (t).lo,.lst (t).e ((t).l.map tV)]] h nx=some (varsV false t,h,nx):=by
 have hck:=check_pure t hl hk
 refine lim_mr tg22 (mr_ok rfl (by simp [pures,pure_,pu_Ts]) ?_)
 refine Ok_pre ?_
 simp (disch:=first | exact d_V1 | fail) only [c22,EVS,Nat.reduceAdd,Nat.reduceSub,Int.reduceToNat,Nat.reduceMul,Nat.reduceEqDiff,Nat.reduceLeDiff,Int.reduceEq,Int.reduceLT,Int.reduceLE,↓reduceIte]
 refine Ok_pre ?_
 by_cases hc:checkS t=0
 ·have hv:∃ en,varsE t=.inl en∧size t ≤ 400:=by
   unfold checkS at hc
   split at hc
   ·cases hc
   ·split at hc
    ·split at hc
     ·rename_i en he;exact ⟨en,he,by omega⟩
     ·cases hc
    ·cases hc
  obtain ⟨en,hv,hs⟩:=hv
  have hvv:varsV false t=.tup [.lst false ((insE [] (varList t)).map bd0),.int .i64 0]:=if_pos hc
  rw [hvv]
  simp (disch:=first | exact d_V1 | fail) only [c22,TL,hck,hc,EVS,Nat.reduceAdd,Nat.reduceSub,Int.reduceToNat,Nat.reduceMul,Nat.reduceEqDiff,Nat.reduceLeDiff,Int.reduceEq,Int.reduceLT,Int.reduceLE,↓reduceIte]
  refine Ok_pre ?_
  simp (disch:=first | exact d_V1 | fail) only [c22,TL,EVS,Nat.reduceAdd,Nat.reduceSub,Int.reduceToNat,Nat.reduceMul,Nat.reduceEqDiff,Nat.reduceLeDiff,Int.reduceEq,Int.reduceLT,Int.reduceLE,↓reduceIte]
  refine Ok_call (variables_spec t hl _ _) fun r hr=>?_
  obtain ⟨v,h',nx'⟩:=r
  rw [hv] at hr
  obtain ⟨rfl,q1,q2,q3⟩:=hr
  dsimp only at q1 q2 q3
  refine ⟨rfl,?_⟩
  simp (disch:=first | exact d_V1 | fail) only [c22,EVS,Nat.reduceAdd,Nat.reduceSub,Int.reduceToNat,Nat.reduceMul,Nat.reduceEqDiff,Nat.reduceLeDiff,Int.reduceEq,Int.reduceLT,Int.reduceLE,↓reduceIte]
  refine Ok_pre ?_
  simp (disch:=first | exact d_V1 | fail) only [c22,EVS,Nat.reduceAdd,Nat.reduceSub,Int.reduceToNat,Nat.reduceMul,Nat.reduceEqDiff,Nat.reduceLeDiff,Int.reduceEq,Int.reduceLT,Int.reduceLE,↓reduceIte]
  refine Ok_pre0 ?_
  refine ⟨18,en.map kvV,rfl,by (simp (disch:=omega) only [hg_ne,hg_eq,hgs_ne,hgx_e,Option.map_some, *]),?_⟩
  have hlen:en.length ≤ 400:=by
   have h1:=(List.perm_ext_iff_of_nodup (List.Pairwise.imp (fun {a b} hab e=>hab (by rw [e])) (varsE_nd hv)) (insE_spec (varList t) [] [] List.Pairwise.nil (fun _=>Iff.rfl) (by simpa using (varsE_in hv).1)).1.nodup).2 fun p=>by rw [varsE_mem hv,(insE_spec (varList t) [] [] List.Pairwise.nil (fun _=>Iff.rfl) (by simpa using (varsE_in hv).1)).2 p];simp
   have h2:∀ (L out:Env0),(insE out L).length ≤ out.length + L.length:=by
    intro L
    induction L with
    |nil=>intro out;exact Nat.le_refl _
    |cons p L ih=>intro out;have:=ih (stepE out p);have:=stepE_len out p;simp only [insE,List.length_cons];omega
   have h3:=h2 (varList t) []
   have h4:(varList t).length ≤ size t:=by have:=varL_len (nodesT t);rw [nodesT_len] at this;exact this
   have h5:=h1.length_eq
   simp only [List.length_nil] at h3
   omega
  refine runAll_inv (en:=en.map kvV) (VP nx' (nx' + 1)) (fun dn m h nx hP=>?_) (fun dn e rest m h nx hp hP=>vars_step nx' (nx' + 1) en hlen dn e rest m h nx hp hP) (fun dn m h nx hp hP=>vars_fin t nx' (nx' + 1) en hv hlen dn m h nx hp hP) _ _ [] _ _ _ (Nat.le_refl _) (List.Perm.refl _) ?_
  ·obtain ⟨D,_,h1,_⟩:=hP
   rw [h1]
   simp [gt,c22,eqv]
  ·refine ⟨[],rfl,?_,?_,by dsimp only;omega,by dsimp only;omega,by omega⟩
   ·simp [keepOf,gt,put,c22]
   ·simp (disch:=omega) only [hg_ne,hg_eq,hgs_ne,List.map_nil]
 ·have hvv:varsV false t=.tup [.lst true [],.int .i64 (checkS t)]:=if_neg hc
  rw [hvv]
  have hc':decide (checkS t=0)=false:=by simp;exact hc
  simp (disch:=first | exact d_V1 | fail) only [c22,TL,hck,hc',EVS,Nat.reduceAdd,Nat.reduceSub,Int.reduceToNat,Nat.reduceMul,Nat.reduceEqDiff,Nat.reduceLeDiff,Int.reduceEq,Int.reduceLT,Int.reduceLE,↓reduceIte]
  simp (disch:=first | exact d_V1 | fail) only [resM_r,bnd_s,EVS,Nat.reduceAdd,Nat.reduceSub,Int.reduceToNat,Nat.reduceMul,Nat.reduceEqDiff,Nat.reduceLeDiff,Int.reduceEq,Int.reduceLT,Int.reduceLE,↓reduceIte]
theorem d_V7 {P:Prop} (h:P:=by first|omega|(simp only[EVL]<;>omega)|(simp only[hget_c,Nat.reduceEqDiff,↓reduceIte];done)|assumption|(simp (disch:=omega) only[hg_ne,hg_eq,hgs_ne, *];done)|(simp only [TL,LAWSm,EnL,LAWSb];done)|with_unfolding_all rfl):P:=h
theorem bound_at {env:Env} (mono:∀ a b,a < b→b < env.length→Op.bytesLess (nm env a) (nm env b)=true) {s:List UInt8} {i:Nat} (lo:∀ k,k < i→Op.bytesLess (nm env k) s=true) (hi:∀ k,i ≤ k→k < env.length→¬ Op.bytesLess (nm env k) s=true) :
  boundS env s=if i < env.length∧(env.getD i ([],0,0)).1=s then some (env.getD i ([],0,0)) else none:=by
 have ne:∀ k,k < i→¬ nm env k=s:=fun k hk e=>by have:=lo k hk;rw [e,less_irr] at this;cases this
 split
 ·rename_i h
  exact find_at env s i h.1 ne h.2
 ·rename_i h
  refine find_no env s fun k hk e=>?_
  by_cases h1:k < i
  ·exact ne k h1 e
  ·by_cases h2:k=i
   ·subst h2;exact h ⟨hk,e⟩
   ·have:=hi i (by omega) (by omega)
    rw [← e] at this
    exact this (mono i k (by omega) hk)
def oneE (env:Env) (p:List UInt8 × Int):Int:=match boundS env p.1 with
 |none=>16
 |some q=>if q.2.1=p.2 then 0 else 14
def firstE (env:Env):Env0→Int
 |[]=>0
 |p::r=>if oneE env p=0 then firstE env r else oneE env p
def rhoE (env:Env) (s:List UInt8):Nat:=match boundS env s with
 |some q=>q.2.2.toNat
 |none=>0
open Classical in
noncomputable def valErr (t:Te) (env:Env) (m:Mem):Int :=
 if checkS t=0 then if chkB env=0 then if chkM m=0 then firstE env (insE [] (varList t)) else 8 else 8 else checkS t
open Classical in
noncomputable def valV (t:Te) (env:Env) (m:Mem):FV:=.tup [.int .u64 (if valErr t env m=0 then vM (rhoE env) m t else 0:Nat),.int .i64 (valErr t env m)]
def upE (env:Env) (p:List UInt8 × Int):List UInt8 × Nat:=(p.1,rhoE env p.1)
theorem lkU_fresh {env:Env} {s:List UInt8}:∀ {L:Env0},(∀ p ∈ L,p.1 ≠ s)→lkU (L.map (upE env)) s=none:=by
 intro L
 induction L with
 |nil=>intro _;rfl
 |cons p L ih =>
  intro h
  simp only [List.map_cons,upE,lkU]
  rw [if_neg (fun e=>h p (by simp) e.symm)]
  exact ih fun q hq=>h q (by simp [hq])
theorem lkU_mem {env:Env} {s:List UInt8}:∀ {L:Env0},(∃ p ∈ L,p.1=s)→lkU (L.map (upE env)) s=some (rhoE env s):=by
 intro L
 induction L with
 |nil=>rintro ⟨p,hp,_⟩;cases hp
 |cons p L ih =>
  rintro ⟨q,hq,rfl⟩
  simp only [List.map_cons,upE,lkU]
  by_cases e:q.1=p.1
  ·rw [if_pos e,e]
  ·rw [if_neg e]
   rcases List.mem_cons.1 hq with rfl | hq
   ·exact absurd rfl e
   ·exact ih ⟨q,hq,rfl⟩
theorem firstE_all {env:Env}:∀ {L:Env0},(∀ p ∈ L,oneE env p=0)→firstE env L=0:=by
 intro L
 induction L with
 |nil=>intro _;rfl
 |cons p L ih =>
  intro h
  simp only [firstE]
  rw [if_pos (h p (by simp))]
  exact ih fun q hq=>h q (by simp [hq])
theorem firstE_zero {env:Env}:∀ {L:Env0},firstE env L=0→∀ p ∈ L,oneE env p=0:=by
 intro L
 induction L with
 |nil=>intro _ p hp;cases hp
 |cons q L ih =>
  intro h p hp
  simp only [firstE] at h
  by_cases hq:oneE env q=0
  ·rw [if_pos hq] at h
   rcases List.mem_cons.1 hp with rfl | hp
   ·exact hq
   ·exact ih h p hp
  ·rw [if_neg hq] at h;exact absurd h hq
theorem firstE_at {env:Env} {p:List UInt8 × Int} {R:Env0} (hp:oneE env p ≠ 0):∀ {L:Env0},(∀ q ∈ L,oneE env q=0)→firstE env (L ++ p::R)=oneE env p:=by
 intro L
 induction L with
 |nil=>intro _;simp only [List.nil_append,firstE];rw [if_neg hp]
 |cons q L ih =>
  intro h
  simp only [List.cons_append,firstE]
  rw [if_pos (h q (by simp))]
  exact ih fun r hr=>h r (by simp [hr])
theorem SL_name {L:Env0} (h:SL L) {i:Nat} (hi:i < L.length):∀ p ∈ L.take i,p.1 ≠ (L.getD i ([],0)).1:=by
 intro p hp e
 obtain ⟨j,hj,rfl⟩:=List.mem_iff_getElem.1 hp
 rw [List.length_take] at hj
 have:=List.pairwise_iff_getElem.1 h j i (by omega) hi (by omega)
 rw [List.getElem_take] at e
 have e2:L.getD i ([],0)=L[i]:=by simp [List.getD,hi]
 rw [e,e2,less_irr] at this
 cases this
theorem take_succ' {L:Env0} {i:Nat} (h:i < L.length):L.take (i + 1)=L.take i ++ [L.getD i ([],0)]:=by
 rw [List.take_add_one];simp [List.getD,h]
theorem drop_getD' {L:Env0} {i:Nat} (h:i < L.length):L.drop i=L.getD i ([],0)::L.drop (i + 1):=by
 rw [List.drop_eq_getElem_cons h];simp [List.getD,h]
theorem lo_u (b:Nat) (E:EnvU):((E.map kvU).all fun e=>low b e.1 && low b e.2)=true:=by
 rw [List.all_eq_true];intro x hx;obtain ⟨p,_,rfl⟩:=List.mem_map.1 hx;rfl
abbrev VQ (t:Te) (env:Env) (m:Mem) (L:Env0):Post Out:=⟨fun x=>finV c19.res x=some (.tup [.int .u64 (if firstE env L=0 then vM (rhoE env) m t else 0:Nat),.int .i64 (firstE env L)])⟩
theorem bound_bd {env:Env} (hx:∀ p ∈ env,0 ≤ p.2.2∧p.2.2 ≤ 18446744073709551615) {s:List UInt8} {q:List UInt8 × Int × Int} (h:boundS env s=some q):q ∈ env∧q.1=s∧0 ≤ q.2.2:=by
 have hm:=List.mem_of_find?_eq_some h
 have hp:=List.find?_some h
 exact ⟨hm,by simpa using hp,(hx q hm).1⟩
theorem valF_loop (e d:Bool) (env:Env) (m:Mem) (hm:okM m) (hms:memS m) (hl:env.length ≤ 1000) (hx:∀ p ∈ env,0 ≤ p.2.2∧p.2.2 ≤ 18446744073709551615) (hg:∀ i,i < env.length→goodB env i) (t:Te) (hn:nodesOk t) (ht:TOk t) (hs:size t ≤ 1000000) (L:Env0) (hL:SL L) (hLt:∀ p,p ∈ L ↔ p ∈ varList t) (hll:L.length ≤ 1000) :
  ∀ (k i:Nat),i + k=L.length→(∀ p ∈ L.take i,oneE env p=0) →
  @Ok Out (runs T [.code b19_0,.inL (some 27) b19_0,.inB 0,.code k19_1] [(1,.lst e (env.map bdV)),(2,.lst d (m.map ceV)),(3,.ptr 0 1 0 0),(12,.map 22),(36,.lst false (L.map bd0)),(37,.int .i64 L.length),(38,.int .i64 i)] [(22,.mp (((L.take i).map (upE env)).map kvU)),(0,.row 6 [.agg [.int .u8 (t).k,.int .i64 (t).w,.int .u64 (t).b,.str (t).s,.int .i64 (t).lo,.lst (t).e ((t).l.map tV)]])] 27) (VQ t env m L):=by
 have mono:=mono_of hg
 intro k
 induction k with
 |zero =>
  intro i hi hz
  have d1:decide ((i:Int) < L.length)=false:=by simp;omega
  rw [List.take_of_length_le (by omega)] at hz ⊢
  have hE:∀ x ∈ nodesT t,x.k=2→rhoU (L.map (upE env)) x.s=rhoE env x.s:=fun x hx hk=>by
   unfold rhoU
   rw [lkU_mem ⟨(x.s,x.w),(hLt _).2 ?_,rfl⟩];rfl
   have:∀ xs:List Te,x ∈ xs→(x.s,x.w) ∈ varL xs:=by
    intro xs
    induction xs with
    |nil=>intro h;cases h
    |cons y ys ih =>
     intro h
     simp only [varL]
     rcases List.mem_cons.1 h with rfl | h
     ·rw [if_pos hk];simp
     ·split
      ·exact List.mem_cons_of_mem _ (ih h)
      ·exact ih h
   exact this _ hx
  have hvar:∀ x ∈ nodesT t,x.k=2→(x.s,x.w) ∈ L:=fun x hx hk=>by
   refine (hLt _).2 ?_
   have:∀ xs:List Te,x ∈ xs→(x.s,x.w) ∈ varL xs:=by
    intro xs
    induction xs with
    |nil=>intro h;cases h
    |cons y ys ih =>
     intro h
     simp only [varL]
     rcases List.mem_cons.1 h with rfl | h
     ·rw [if_pos hk];simp
     ·split
      ·exact List.mem_cons_of_mem _ (ih h)
      ·exact ih h
   exact this _ hx
  have hb:boundR (rhoU (L.map (upE env))) t:=fun x hxn hk=>by
   rw [hE x hxn hk]
   have h1:=hz _ (hvar x hxn hk)
   unfold oneE at h1
   unfold rhoE
   cases hq:boundS env x.s with
   |none=>rw [hq] at h1;cases h1
   |some q =>
    rw [hq] at h1
    simp only at h1 ⊢
    split at h1
    ·rename_i hw
     obtain ⟨q1,q2,q3⟩:=bound_bd hx hq
     obtain ⟨j,hj,rfl⟩:=List.mem_iff_getElem.1 q1
     have hgj:=(hg j hj).2.1
     have ej:env.getD j ([],0,0)=env[j]:=by simp [List.getD,hj]
     rw [ej,hw] at hgj
     exact okS_nat hgj q3
    ·cases h1
  have hv:=fun nx (hnx:22 < nx)=>value_spec (L.map (upE env)) 22 d m hm hms t hn ht hb [(22,.mp ((L.map (upE env)).map kvU)),(0,.row 6 [.agg [.int .u8 (t).k,.int .i64 (t).w,.int .u64 (t).b,.str (t).s,.int .i64 (t).lo,.lst (t).e ((t).l.map tV)]])] nx hnx rfl
  have hcg:vM (rhoU (L.map (upE env))) m t=vM (rhoE env) m t:=valT_congr t hE
  rw [hcg] at hv
  have hf:=firstE_all hz
  simp (disch:=first | exact d_V7 | fail) only [unf b19_0.eq_1,unf k19_1.eq_1,c19,d1,TL,EVS,Nat.reduceAdd,Nat.reduceSub,Int.reduceToNat,Nat.reduceMul,Nat.reduceEqDiff,Nat.reduceLeDiff,Int.reduceEq,Int.reduceLT,Int.reduceLE,↓reduceIte]
  refine Ok_call (hv _ (by omega)) fun r hr=>?_
  obtain ⟨v,h',nx'⟩:=r
  obtain ⟨rfl,e1,e2⟩:=hr
  refine ⟨rfl,?_⟩
  simp (disch:=first | exact d_V7 | fail) only [c19,EVS,Nat.reduceAdd,Nat.reduceSub,Int.reduceToNat,Nat.reduceMul,Nat.reduceEqDiff,Nat.reduceLeDiff,Int.reduceEq,Int.reduceLT,Int.reduceLE,↓reduceIte]
  rw [hf,if_pos rfl]
 |succ k ih =>
  intro i hi hz
  have hil:i < L.length:=by omega
  have d1:decide ((i:Int) < L.length)=true:=by simp;omega
  have ei:(i:Int) + 1=((i + 1:Nat):Int):=by omega
  obtain ⟨r,⟨j,hj,lo,hi',rfl⟩,hr⟩:=search_spec e env (L.getD i ([],0)).1 (by omega) mono
  have hbd:=bound_at mono lo hi'
  have hfat:oneE env (L.getD i ([],0)) ≠ 0→firstE env L=oneE env (L.getD i ([],0)):=fun hne=>by
   have hLd:L=L.take i ++ L.getD i ([],0)::L.drop (i + 1):=by
    rw [← drop_getD' hil];exact (List.take_append_drop i L).symm
   rw [hLd,firstE_at hne hz,← hLd]
  by_cases hc:j < env.length∧(env.getD j ([],0,0)).1=(L.getD i ([],0)).1
  ·rw [if_pos hc] at hbd
   have hjl:=hc.1
   by_cases hw:(env.getD j ([],0,0)).2.1=(L.getD i ([],0)).2
   ·have ho:oneE env (L.getD i ([],0))=0:=by unfold oneE;rw [hbd];exact if_pos hw
    have hru:rhoE env (L.getD i ([],0)).1=(env.getD j ([],0,0)).2.2.toNat:=by unfold rhoE;rw [hbd]
    have hx0:=(hx _ (getD_mem (d:=([],0,0)) hjl)).1
    have hu:=upd_U (L.getD i ([],0)).1 (rhoE env (L.getD i ([],0)).1) ((L.take i).map (upE env)) (lkU_fresh (SL_name hL hil))
    rw [hru,Int.toNat_of_nonneg hx0] at hu
    simp (disch:=first | exact d_V7 | fail) only [unf b19_0.eq_1,c19,d1,ei,LAWSb,EnL,hr,hc,hw,hu,decide_true,EVS,Nat.reduceAdd,Nat.reduceSub,Int.reduceToNat,Nat.reduceMul,Nat.reduceEqDiff,Nat.reduceLeDiff,Int.reduceEq,Int.reduceLT,Int.reduceLE,↓reduceIte]
    have hE:(L.take i).map (upE env) ++ [((L.getD i ([],0)).1,(env.getD j ([],0,0)).2.2.toNat)]=(L.take (i + 1)).map (upE env):=by
     rw [take_succ' hil,List.map_append];simp only [upE,List.map_cons,List.map_nil,hru]
    rw [hE]
    have hlo:lows 27 (env.map bdV)=true:=lo_e 27 env
    have hlm:lows 27 (m.map ceV)=true:=lo_m 27 m
    have hlb:lows 27 (L.map bd0)=true:=lo_b0 27 L
    have hlt:lows 27 (t.l.map tV)=true:=lo_Ts 27 t.l
    have hlu:=lo_u 27 ((L.take (i + 1)).map (upE env))
    refine Ok_inL (by decide) (by simp [lowTm,low,hlo,hlm,hlb]) (by show (((((L.take (i + 1)).map (upE env)).map kvU).all fun e=>low 27 e.1 && low 27 e.2) && (lows 27 [.agg [.int .u8 (t).k,.int .i64 (t).w,.int .u64 (t).b,.str (t).s,.int .i64 (t).lo,.lst (t).e ((t).l.map tV)]] && true))=true;rw [hlu];simp [lows,low,hlt]) (ih (i + 1) (by omega) (fun p hp=>?_))
    rw [take_succ' hil,List.mem_append,List.mem_singleton] at hp
    rcases hp with hp | rfl
    ·exact hz p hp
    ·exact ho
   ·have ho:oneE env (L.getD i ([],0))=14:=by unfold oneE;rw [hbd];exact if_neg hw
    have hf:firstE env L=14:=by rw [hfat (by rw [ho];decide),ho]
    have hd:decide ((env.getD j ([],0,0)).2.1=(L.getD i ([],0)).2)=false:=decide_eq_false hw
    simp (disch:=first | exact d_V7 | fail) only [unf b19_0.eq_1,c19,d1,ei,LAWSb,EnL,hr,hc,hd,decide_true,EVS,Nat.reduceAdd,Nat.reduceSub,Int.reduceToNat,Nat.reduceMul,Nat.reduceEqDiff,Nat.reduceLeDiff,Int.reduceEq,Int.reduceLT,Int.reduceLE,↓reduceIte]
    rw [hf];rfl
  ·rw [if_neg hc] at hbd
   have ho:oneE env (L.getD i ([],0))=16:=by unfold oneE;rw [hbd]
   have hf:firstE env L=16:=by rw [hfat (by rw [ho];decide),ho]
   simp (disch:=first | exact d_V7 | fail) only [unf b19_0.eq_1,c19,d1,ei,LAWSb,EnL,hr,hc,decide_false,EVS,Nat.reduceAdd,Nat.reduceSub,Int.reduceToNat,Nat.reduceMul,Nat.reduceEqDiff,Nat.reduceLeDiff,Int.reduceEq,Int.reduceLT,Int.reduceLE,↓reduceIte]
   rw [hf];rfl
theorem check_size' {t:Te} (h:checkS t=0):size t ≤ 400:=by
 unfold checkS at h
 split at h
 ·cases h
 ·omega
theorem nodes_of_check {t:Te} (h:checkS t=0):nodesOk t∧∃ en,varsE t=.inl en:=by
 unfold checkS at h
 split at h
 ·cases h
 ·split at h
  ·split at h
   ·rename_i hn _ en he;exact ⟨hn,en,he⟩
   ·cases h
  ·cases h
theorem insE_len (t:Te):(insE [] (varList t)).length ≤ size t:=by
 have h2:∀ (L out:Env0),(insE out L).length ≤ out.length + L.length:=by
  intro L
  induction L with
  |nil=>intro out;exact Nat.le_refl _
  |cons p L ih=>intro out;have:=ih (stepE out p);have:=stepE_len out p;simp only [insE,List.length_cons];omega
 have h3:=h2 (varList t) []
 have h4:(varList t).length ≤ size t:=by have:=varL_len (nodesT t);rw [nodesT_len] at this;exact this
 simp only [List.length_nil] at h3
 omega
theorem memS_of {m:Mem} (h:chkM m=0):memS m:=by
 unfold chkM at h
 split at h
 ·assumption
 ·cases h
theorem valueF_spec (e d:Bool) (t:Te) (ht:TOk t) (hs:size t ≤ 1000000) (hk:KOk t) (env:Env) (hl:env.length ≤ 1100) (hx:∀ p ∈ env,0 ≤ p.2.2∧p.2.2 ≤ 18446744073709551615) (m:Mem) (hm:okM m) (h0:m.length ≤ 9223372036854775807) (h:Heap) (nx:Nat):isfR T c19 [.agg [.int .u8 (t).k,.int .i64 (t).w,.int .u64 (t).b,.str (t).s,.int .i64 (t).lo,.lst (t).e ((t).l.map tV)],.lst e (env.map bdV),.lst d (m.map ceV)] h nx=some (valV t env m,h,nx):=by
 have c1:=vars_spec t hs hk
 have c2:=checkB_spec e env hl
 have c3:=checkCells_spec d m h0
 refine isfR_of rfl ?_
 unfold valV valErr
 by_cases k1:checkS t=0
 ·rw [if_pos k1]
  have hv:varsV false t=.tup [.lst false ((insE [] (varList t)).map bd0),.int .i64 0]:=if_pos k1
  rw [hv] at c1
  by_cases k2:chkB env=0
  ·rw [if_pos k2]
   by_cases k3:chkM m=0
   ·rw [if_pos k3]
    obtain ⟨hn,en,he⟩:=nodes_of_check k1
    obtain ⟨hl2,hg⟩:=chkB_good k2
    obtain ⟨q1,q2⟩:=insE_spec (varList t) [] [] List.Pairwise.nil (fun _=>Iff.rfl) (by simpa using (varsE_in he).1)
    have hsz:=check_size' k1
    have hil:=insE_len t
    simp (disch:=first | exact d_V7 | fail) only [c19,TL,c1,c2,c3,k2,k3,EVS,Nat.reduceAdd,Nat.reduceSub,Int.reduceToNat,Nat.reduceMul,Nat.reduceEqDiff,Nat.reduceLeDiff,Int.reduceEq,Int.reduceLT,Int.reduceLE,↓reduceIte]
    exact valF_loop e d env m hm (memS_of k3) hl2 hx hg t hn ht hs _ q1 (fun p=>by rw [q2];simp) (by omega) (insE [] (varList t)).length 0 (by omega) (fun p hp=>by simp at hp)
   ·rw [if_neg k3]
    have k3':chkM m=8:=by
     unfold chkM at k3 ⊢
     split at k3
     ·exact absurd rfl k3
     ·rename_i hh;rw [if_neg hh]
    simp (disch:=first | exact d_V7 | fail) only [c19,TL,c1,c2,c3,k2,k3',EVS,Nat.reduceAdd,Nat.reduceSub,Int.reduceToNat,Nat.reduceMul,Nat.reduceEqDiff,Nat.reduceLeDiff,Int.reduceEq,Int.reduceLT,Int.reduceLE,↓reduceIte]
    rfl
  ·rw [if_neg k2]
   have k2':=chkB_bad k2
   simp (disch:=first | exact d_V7 | fail) only [c19,TL,c1,c2,k2',EVS,Nat.reduceAdd,Nat.reduceSub,Int.reduceToNat,Nat.reduceMul,Nat.reduceEqDiff,Nat.reduceLeDiff,Int.reduceEq,Int.reduceLT,Int.reduceLE,↓reduceIte]
   rfl
 ·rw [if_neg k1]
  have hv:varsV false t=.tup [.lst true [],.int .i64 (checkS t)]:=if_neg k1
  rw [hv] at c1
  have d1:decide (checkS t=0)=false:=decide_eq_false k1
  simp (disch:=first | exact d_V7 | fail) only [c19,TL,c1,d1,EVS,Nat.reduceAdd,Nat.reduceSub,Int.reduceToNat,Nat.reduceMul,Nat.reduceEqDiff,Nat.reduceLeDiff,Int.reduceEq,Int.reduceLT,Int.reduceLE,↓reduceIte]
  rw [if_neg k1];rfl
theorem valueF_lim (a b c:FV) (h:Heap) (nx:Nat):lim T 19 [a,b,c] h nx=@FI.B (List FV) (FV × Heap × Nat) (frzs h deep [a,b,c]) ⟨fun q=>isfR T c19 q h nx⟩:=lim_isf tg19 rfl rfl
theorem valueF_pure (e d:Bool) (t:Te) (ht:TOk t) (hs:size t ≤ 1000000) (hk:KOk t) (env:Env) (hl:env.length ≤ 1100) (hx:∀ p ∈ env,0 ≤ p.2.2∧p.2.2 ≤ 18446744073709551615) (m:Mem) (hm:okM m) (h0:m.length ≤ 9223372036854775807):∀ h nx,lim T 19 [.agg [.int .u8 (t).k,.int .i64 (t).w,.int .u64 (t).b,.str (t).s,.int .i64 (t).lo,.lst (t).e ((t).l.map tV)],.lst e (env.map bdV),.lst d (m.map ceV)] h nx=some (valV t env m,h,nx):=by
 intro h nx
 rw [valueF_lim,frzs_pure (by simp [pures,pure_,pu_Ts,pu_e,pu_m]) (show (3:Nat) ≤ deep by decide),B_some]
 exact valueF_spec e d t ht hs hk env hl hx m hm h0 h nx
def conT (w x:Int):Te:=.mk 1 w x [] 0 true []
def vW (w x:Int):Int:=min x (2 ^ w.toNat - 1)
inductive OuR where
 |fst | snd | num (x:Int)
inductive Rul where
 |lft (x:Int) (o:OuR) | rgt (x:Int) (o:OuR) | sam (o:OuR) | twi | far | cho | joi | who | inn
abbrev p0 (t:Te):Te:=t.l.getD 0 default
abbrev p1 (t:Te):Te:=t.l.getD 1 default
abbrev p2 (t:Te):Te:=t.l.getD 2 default
def outR:OuR→Te→Te
 |.fst,t=>p0 t
 |.snd,t=>p1 t
 |.num x,t=>conT t.w (vW t.w x)
def isK (t:Te) (x:Int):Bool:=decide (t.k=1) && decide (t.b=x)
def apR:Rul→Te→Bool
 |.lft x _,t=>isK (p0 t) (vW (p0 t).w x)
 |.rgt x _,t=>isK (p1 t) (vW (p1 t).w x)
 |.sam _,t=>sameT (p0 t) (p1 t)
 |.twi,t=>decide ((p0 t).k=t.k)
 |.far,t=>decide ((p1 t).k=1) && decide (t.w ≤ (p1 t).b)
 |.cho,t=>isK (p0 t) 1 || (isK (p0 t) 0 || sameT (p1 t) (p2 t))
 |.joi,t=>isK (p0 t) 0
 |.who,t=>decide ((p0 t).w=t.w)
 |.inn,t=>decide ((p0 t).k=t.k)
def joiY (t:Te):Te:=if (p1 t).k=22 then p0 (p1 t) else p1 t
def resR:Rul→Te→Te
 |.lft _ o,t=>outR o t
 |.rgt _ o,t=>outR o t
 |.sam o,t=>outR o t
 |.twi,t=>p0 (p0 t)
 |.far,t=>conT t.w 0
 |.cho,t=>if isK (p0 t) 1 then p1 t else p2 t
 |.joi,t=>.mk 22 t.w 0 [] 0 false [joiY t]
 |.who,t=>p0 t
 |.inn,t=>.mk t.k t.w t.b t.s (t.lo + (p0 t).lo) (p0 t).e (p0 t).l
abbrev topI:Int:=18446744073709551615
def rulesN:Nat→List Rul
 |3=>[.twi]
 |4=>[.twi]
 |5=>[.lft 0 .snd,.rgt 0 .fst]
 |6=>[.rgt 0 .fst,.sam (.num 0)]
 |7=>[.lft 0 (.num 0),.rgt 0 (.num 0),.lft 1 .snd,.rgt 1 .fst]
 |8=>[.lft 0 (.num 0),.rgt 0 (.num 0),.lft topI .snd,.rgt topI .fst,.sam .fst]
 |9=>[.lft topI (.num topI),.rgt topI (.num topI),.lft 0 .snd,.rgt 0 .fst,.sam .fst]
 |10=>[.lft 0 .snd,.rgt 0 .fst,.sam (.num 0)]
 |11=>[.rgt 0 .fst,.far,.lft 0 (.num 0)]
 |12=>[.rgt 0 .fst,.far,.lft 0 (.num 0)]
 |13=>[.rgt 0 .fst,.lft 0 (.num 0)]
 |14=>[.rgt 1 .fst]
 |15=>[.rgt 1 (.num 0)]
 |16=>[.sam (.num 1)]
 |17=>[.sam (.num 0),.rgt 0 (.num 0)]
 |18=>[.sam (.num 0)]
 |19=>[.cho]
 |20=>[.joi]
 |21=>[.who,.inn]
 |22=>[.who,.inn]
 |23=>[.who,.inn]
 |_=>[]
def firstR:List Rul→Te→Te
 |[],t=>t
 |R::r,t=>if apR R t then resR R t else firstR r t
def constP (t:Te):Bool:=!decide (t.k=24) && !t.l.isEmpty && t.l.all fun x=>decide (x.k=1)
abbrev rho0:List UInt8→Nat:=rhoE []
def stepT (t:Te):Te:=if constP t then conT t.w (vM rho0 [] t:Nat) else firstR (rulesN t.k.toNat) t
mutual
def redT:Te→Te
 |.mk k w b s lo _ l=>stepT (.mk k w b s lo false (redL l))
def redL:List Te→List Te
 |[]=>[]
 |t::l=>redT t::redL l
end
theorem redL_map (l:List Te):redL l=l.map redT:=by
 induction l with
 |nil=>simp [redL]
 |cons t l ih=>simp only [redL,List.map_cons,ih]
abbrev redN (t:Te):Te:=.mk t.k t.w t.b t.s t.lo false (t.l.map redT)
theorem redT_eq (t:Te):redT t=stepT (redN t):=by
 cases t with | mk k w b s lo e l=>rw [redT,redL_map];rfl
abbrev GT (t:Te):Prop:=nodesOk t∧TOk t
structure Rd (t r:Te):Prop where
 g:GT r
 w:r.w=t.w
 sz:size r ≤ size t
 dp:depth r ≤ depth t
 vs:∀ y ∈ nodesT r,y.k=2→∃ x ∈ nodesT t,x.k=2∧x.s=y.s∧x.w=y.w
 ld:∀ y ∈ nodesT r,y.k=24→∃ x ∈ nodesT t,x.k=24
 vl:∀ ρ m,okM m→boundR ρ t→vM ρ m r=vM ρ m t
theorem Rd.bound {t r:Te} (h:Rd t r) {ρ:List UInt8→Nat} (hb:boundR ρ t):boundR ρ r:=fun y hy hk=>by
 obtain ⟨x,hx,h1,h2,h3⟩:=h.vs y hy hk
 rw [← h2,← h3];exact hb x hx h1
theorem Rd.refl {t:Te} (h:GT t):Rd t t:=⟨h,rfl,Nat.le_refl _,Nat.le_refl _,fun y hy hk=>⟨y,hy,hk,rfl,rfl⟩,fun y hy hk=>⟨y,hy,hk⟩,fun _ _ _ _=>rfl⟩
theorem Rd.trans {a b c:Te} (h1:Rd a b) (h2:Rd b c):Rd a c :=
 ⟨h2.g,h2.w.trans h1.w,Nat.le_trans h2.sz h1.sz,Nat.le_trans h2.dp h1.dp,fun y hy hk=>by
  obtain ⟨x,hx,e1,e2,e3⟩:=h2.vs y hy hk
  obtain ⟨z,hz,f1,f2,f3⟩:=h1.vs x hx e1
  exact ⟨z,hz,f1,f2.trans e2,f3.trans e3⟩,fun y hy hk=>by
  obtain ⟨x,hx,e1⟩:=h2.ld y hy hk
  exact h1.ld x hx e1,fun ρ m hm hb=>(h2.vl ρ m hm (h1.bound hb)).trans (h1.vl ρ m hm hb)⟩
theorem nodes_trans {t x y:Te} (hx:x ∈ nodesT t) (hy:y ∈ nodesT x):y ∈ nodesT t:=by
 induction t using Tm'.ind with
 |h t ih =>
 rw [nodes_eq,List.mem_cons] at hx
 rcases hx with rfl | hx
 ·exact hy
 ·obtain ⟨z,hz,hxz⟩:=nodesL_in.1 hx
  exact nodes_sub hz (ih z hz hxz)
theorem nodes_depth {t x:Te} (hx:x ∈ nodesT t):depth x ≤ depth t:=by
 induction t using Tm'.ind with
 |h t ih =>
 rw [nodes_eq,List.mem_cons] at hx
 rcases hx with rfl | hx
 ·exact Nat.le_refl _
 ·obtain ⟨z,hz,hxz⟩:=nodesL_in.1 hx
  have h1:=ih z hz hxz
  have h2:=depths_mem hz
  rw [depth_eq t];omega
theorem GT.node {t x:Te} (h:GT t) (hx:x ∈ nodesT t):GT x:=⟨fun y hy=>h.1 y (nodes_trans hx hy),fun y hy=>h.2 y (nodes_trans hx hy)⟩
theorem GT.sub {t x:Te} (h:GT t) (hx:x ∈ t.l):GT x:=h.node (nodes_sub hx (mem_nodes x))
theorem Rd_node {t x:Te} (h:GT t) (hx:x ∈ nodesT t) (hw:x.w=t.w) (hv:∀ ρ m,okM m→boundR ρ t→vM ρ m x=vM ρ m t):Rd t x :=
 ⟨h.node hx,hw,nodes_size hx,nodes_depth hx,fun y hy hk=>⟨y,nodes_trans hx hy,hk,rfl,rfl⟩,fun y hy hk=>⟨y,nodes_trans hx hy,hk⟩,hv⟩
theorem nodes_con {w x:Int}:nodesT (conT w x)=[conT w x]:=by rw [nodes_eq];rfl
theorem vM_con {ρ:List UInt8→Nat} {m:Mem} {t:Te} (hk:t.k=1):vM ρ m t=t.b.toNat:=by
 show valT ρ (ldN m) t=_
 rw [valT_eq,vop,if_pos hk]
theorem GT_con {w x:Int} (hw:wideS w) (h0:0 ≤ x) (h1:x < 2 ^ w.toNat):GT (conT w x):=by
 have h64:(2:Int) ^ w.toNat ≤ 18446744073709551616:=pow64 (by unfold wideS at hw;omega)
 constructor
 ·intro y hy
  rw [nodes_con,List.mem_singleton] at hy
  subst hy
  exact (node_k1 rfl).2 ⟨hw,rfl,rfl,rfl,by unfold wideS at hw;exact ⟨hw.1,hw.2,h1⟩⟩
 ·intro y hy
  rw [nodes_con,List.mem_singleton] at hy
  subst hy
  unfold wideS at hw
  refine ⟨⟨by show (0:Int) ≤ 1;decide,by show (1:Int) < 256;decide⟩,⟨?_,?_⟩,⟨h0,?_⟩,by show (0:Nat) ≤ _;decide,⟨by show _ ≤ (0:Int);decide,by show (0:Int) ≤ _;decide⟩,by show (0:Nat) ≤ _;decide⟩
  ·show _ ≤ w;omega
  ·show w ≤ _;omega
  ·show x < _;omega
theorem Rd_con {t:Te} {x:Int} (h:GT t) (h0:0 ≤ x) (h1:x < 2 ^ t.w.toNat) (hv:∀ ρ m,okM m→boundR ρ t→vM ρ m t=x.toNat):Rd t (conT t.w x):=by
 have hw:=((nodesOk_iff t).1 h.1).1.1
 refine ⟨GT_con hw h0 h1,rfl,?_,?_,?_,?_,fun ρ m hm hb=>(vM_con rfl).trans (hv ρ m hm hb).symm⟩
 ·have:=size_pos t;show size (conT t.w x) ≤ _;rw [size_eq];exact this
 ·have:=depth_pos t;show depth (conT t.w x) ≤ _;rw [depth_eq];exact this
 ·intro y hy hk;rw [nodes_con,List.mem_singleton] at hy;subst hy;cases hk
 ·intro y hy hk;rw [nodes_con,List.mem_singleton] at hy;subst hy;cases hk
section
variable {ρ:List UInt8→Nat} {m:Mem} {t:Te}
theorem vM_eq:vM ρ m t=vop (ldN m) t.k t.w t.b t.lo (ρ t.s) (t.l.map Tm'.w) (t.l.map (vM ρ m)):=valT_eq ρ (ldN m) t
theorem v_op (hk:5 ≤ t.k∧t.k ≤ 18) (hl:t.l.length=2):vM ρ m t=opN t.k (p0 t).w.toNat (vM ρ m (p0 t)) (vM ρ m (p1 t)):=by
 rw [vM_eq,vop,if_neg (by omega),if_neg (by omega),if_neg (by omega),if_neg (by omega),if_neg (by omega),if_neg (by omega),if_neg (by omega),if_neg (by omega),mp0 (by omega),mp0 (by omega),mpw (by omega)]
theorem v_un (hk:t.k=3 ∨ t.k=4) (hl:t.l.length=1):vM ρ m t=unN t.k (p0 t).w.toNat (vM ρ m (p0 t)):=by
 rw [vM_eq,vop,if_neg (by omega),if_neg (by omega),if_pos hk,mp0 (by omega),mpw (by omega)]
theorem v_ite (hk:t.k=19) (hl:t.l.length=3):vM ρ m t=if vM ρ m (p0 t)=1 then vM ρ m (p1 t) else vM ρ m (p2 t):=by
 rw [vM_eq,vop,if_neg (by omega),if_neg (by omega),if_neg (by omega),if_pos hk,mp0 (by omega),mp0 (by omega),mp0 (by omega)]
theorem v_cat (hk:t.k=20) (hl:t.l.length=2):vM ρ m t=vM ρ m (p0 t) * 2 ^ (p1 t).w.toNat + vM ρ m (p1 t):=by
 rw [vM_eq,vop,if_neg (by omega),if_neg (by omega),if_neg (by omega),if_neg (by omega),if_pos hk,mp0 (by omega),mp0 (by omega),mpw (by omega)]
theorem v_cut (hk:t.k=21) (hl:t.l.length=1):vM ρ m t=vM ρ m (p0 t) / 2 ^ t.lo.toNat % 2 ^ t.w.toNat:=by
 rw [vM_eq,vop,if_neg (by omega),if_neg (by omega),if_neg (by omega),if_neg (by omega),if_neg (by omega),if_pos hk,mp0 (by omega)]
theorem v_exn (hk:t.k=22 ∨ t.k=23) (hl:t.l.length=1):vM ρ m t=exN (decide (t.k=23)) (p0 t).w.toNat t.w.toNat (vM ρ m (p0 t)):=by
 rw [vM_eq,vop,if_neg (by omega),if_neg (by omega),if_neg (by omega),if_neg (by omega),if_neg (by omega),if_neg (by omega),if_pos hk,mp0 (by omega),mpw (by omega)]
end
theorem p0_mem {t:Te} (h:0 < t.l.length):p0 t ∈ t.l:=getD_mem h
theorem p1_mem {t:Te} (h:1 < t.l.length):p1 t ∈ t.l:=getD_mem h
theorem p2_mem {t:Te} (h:2 < t.l.length):p2 t ∈ t.l:=getD_mem h
theorem in_nodes {t x:Te} (h:x ∈ t.l):x ∈ nodesT t:=nodes_sub h (mem_nodes x)
theorem lt_val {t:Te} (h:GT t) {ρ:List UInt8→Nat} {m:Mem} (hm:okM m) (hb:boundR ρ t):vM ρ m t < 2 ^ t.w.toNat:=val_lt hm t h.1 h.2 hb
theorem bound_sub {t x:Te} {ρ:List UInt8→Nat} (hb:boundR ρ t) (hx:x ∈ t.l):boundR ρ x:=fun y hy=>hb y (nodes_sub hx hy)
theorem vW_nat {w x:Int} (h0:0 ≤ x):0 ≤ vW w x∧vW w x < 2 ^ w.toNat:=by
 have:=pow_pos' w.toNat
 unfold vW;omega
theorem vW_0 {w:Int}:vW w 0=0:=by
 have:=pow_pos' w.toNat
 unfold vW;omega
theorem vW_1 {w:Int} (h:1 ≤ w):vW w 1=1:=by
 have:(2:Int) ^ 1 ≤ 2 ^ w.toNat:=pow_le (by omega)
 have:(2:Int) ^ 1=2:=rfl
 unfold vW;omega
theorem vW_top {w:Int} (h:w ≤ 64):vW w topI=2 ^ w.toNat - 1:=by
 have:=pow64 (n:=w.toNat) (by omega)
 show min (18446744073709551615:Int) _=_;omega
def exO:OuR→Int→Nat→Nat→Nat
 |.fst,_,a,_=>a
 |.snd,_,_,b=>b
 |.num x,w,_,_=>(vW w x).toNat
def okO:OuR→Prop
 |.num x=>0 ≤ x
 |_=>True
theorem two_parts {t:Te} (h:GT t) (hk:5 ≤ t.k∧t.k ≤ 18):t.l.length=2∧(p1 t).w=(p0 t).w∧(t.k ≤ 15→(p0 t).w=t.w)∧1 ≤ (p0 t).w∧(p0 t).w ≤ 64∧(16 ≤ t.k→t.w=1):=by
 have hself:=(nodesOk_iff t).1 h.1
 have hw:∀ x ∈ t.l,1 ≤ x.w∧x.w ≤ 64:=fun x hx=>nodesOk_wide (hself.2 x hx)
 by_cases k5:t.k ≤ 15
 ·obtain ⟨_,_,_,_,hl,hs0,hs1⟩:=(node_k5 ⟨hk.1,k5⟩).1 hself.1
  unfold subW at hs0 hs1
  have:=hw _ (p0_mem (t:=t) (by omega))
  exact ⟨hl,hs1.trans hs0.symm,fun _=>hs0,this.1,this.2,fun _=>by omega⟩
 ·obtain ⟨_,_,_,_,hl,e1,hs1⟩:=(node_k16 (t:=t) (by omega)).1 hself.1
  unfold subW at hs1
  have:=hw _ (p0_mem (t:=t) (by omega))
  exact ⟨hl,hs1,fun _=>by omega,this.1,this.2,fun _=>e1⟩
theorem Rd_out {t:Te} (h:GT t) (hk:5 ≤ t.k∧t.k ≤ 18) (o:OuR) (ho:okO o) (h15:t.k ≤ 15 ∨ ∃ x,o=.num x)
  (hv:∀ ρ m,okM m→boundR ρ t→opN t.k (p0 t).w.toNat (vM ρ m (p0 t)) (vM ρ m (p1 t))=exO o t.w (vM ρ m (p0 t)) (vM ρ m (p1 t))):Rd t (outR o t):=by
 obtain ⟨hl,w1,w0,w2,w3,_⟩:=two_parts h hk
 cases o with
 |fst =>
  rcases h15 with h15 | ⟨x,hx⟩
  ·exact Rd_node h (in_nodes (p0_mem (by omega))) (w0 h15) fun ρ m hm hb=>by rw [v_op hk hl,hv ρ m hm hb];rfl
  ·cases hx
 |snd =>
  rcases h15 with h15 | ⟨x,hx⟩
  ·exact Rd_node h (in_nodes (p1_mem (by omega))) (w1.trans (w0 h15)) fun ρ m hm hb=>by rw [v_op hk hl,hv ρ m hm hb];rfl
  ·cases hx
 |num x=>exact Rd_con h (vW_nat ho).1 (vW_nat ho).2 fun ρ m hm hb=>by rw [v_op hk hl,hv ρ m hm hb];rfl
theorem isK_val {x:Te} {c:Int} (h:isK x c=true) (ρ:List UInt8→Nat) (m:Mem):vM ρ m x=c.toNat:=by
 simp only [isK,Bool.and_eq_true,decide_eq_true_eq] at h
 rw [vM_con h.1,h.2]
theorem Rd_lft {t:Te} (h:GT t) (hk:5 ≤ t.k∧t.k ≤ 18) (x:Int) (o:OuR) (ho:okO o) (h15:t.k ≤ 15 ∨ ∃ x,o=.num x) (ha:apR (.lft x o) t=true)
  (hv:∀ b,b < 2 ^ (p0 t).w.toNat→opN t.k (p0 t).w.toNat (vW (p0 t).w x).toNat b=exO o t.w (vW (p0 t).w x).toNat b):Rd t (outR o t):=by
 obtain ⟨hl,w1,_⟩:=two_parts h hk
 refine Rd_out h hk o ho h15 fun ρ m hm hb=>?_
 rw [isK_val ha ρ m]
 have hp:=p1_mem (t:=t) (by omega)
 have:=lt_val (h.sub hp) hm (bound_sub hb hp)
 rw [w1] at this
 exact hv _ this
theorem Rd_rgt {t:Te} (h:GT t) (hk:5 ≤ t.k∧t.k ≤ 18) (x:Int) (o:OuR) (ho:okO o) (h15:t.k ≤ 15 ∨ ∃ x,o=.num x) (ha:apR (.rgt x o) t=true)
  (hv:∀ a,a < 2 ^ (p0 t).w.toNat→opN t.k (p0 t).w.toNat a (vW (p0 t).w x).toNat=exO o t.w a (vW (p0 t).w x).toNat):Rd t (outR o t):=by
 obtain ⟨hl,w1,_⟩:=two_parts h hk
 refine Rd_out h hk o ho h15 fun ρ m hm hb=>?_
 have e:=isK_val ha ρ m
 rw [w1] at e
 rw [e]
 have hp:=p0_mem (t:=t) (by omega)
 exact hv _ (lt_val (h.sub hp) hm (bound_sub hb hp))
theorem same_val {a b:Te} (h:sameT a b=true) (ρ:List UInt8→Nat) (m:Mem):vM ρ m a=vM ρ m b:=by
 have e:=er_of_same h
 show valT _ _ a=valT _ _ b
 rw [← valT_er (t:=a),e,valT_er]
theorem Rd_sam {t:Te} (h:GT t) (hk:5 ≤ t.k∧t.k ≤ 18) (o:OuR) (ho:okO o) (h15:t.k ≤ 15 ∨ ∃ x,o=.num x) (ha:apR (.sam o) t=true)
  (hv:∀ a,a < 2 ^ (p0 t).w.toNat→opN t.k (p0 t).w.toNat a a=exO o t.w a a):Rd t (outR o t):=by
 obtain ⟨hl,w1,_⟩:=two_parts h hk
 refine Rd_out h hk o ho h15 fun ρ m hm hb=>?_
 rw [← same_val ha ρ m]
 have hp:=p0_mem (t:=t) (by omega)
 exact hv _ (lt_val (h.sub hp) hm (bound_sub hb hp))
theorem topN {n:Nat}:((2:Int) ^ n - 1).toNat=2 ^ n - 1:=by
 have:=pow_nat n
 have:=Nat.pow_pos (n:=n) (show 0 < 2 by decide)
 omega
theorem first_Rd {t:Te} (h:GT t):∀ L:List Rul,(∀ R ∈ L,apR R t=true→Rd t (resR R t))→Rd t (firstR L t):=by
 intro L
 induction L with
 |nil=>intro _;exact Rd.refl h
 |cons R L ih =>
  intro hL
  simp only [firstR]
  split
  ·rename_i ha;exact hL R (by simp) ha
  ·exact ih fun S hS=>hL S (by simp [hS])
section
variable {t:Te}
theorem rul3 (h:GT t) (k:t.k=3 ∨ t.k=4) (ha:apR .twi t=true):Rd t (resR .twi t):=by
 have hself:=(nodesOk_iff t).1 h.1
 obtain ⟨_,_,_,_,hl,hs⟩:=(node_k34 k).1 hself.1
 simp only [apR,decide_eq_true_eq] at ha
 have hp:=p0_mem (t:=t) (by omega)
 have hx:=h.sub hp
 have hxs:=(nodesOk_iff _).1 hx.1
 obtain ⟨_,_,_,_,hl2,hs2⟩:=(node_k34 (by rw [ha];exact k)).1 hxs.1
 have hq:=p0_mem (t:=p0 t) (by omega)
 unfold subW at hs hs2
 refine Rd_node h (nodes_trans (in_nodes hp) (in_nodes hq)) (hs2.trans hs) fun ρ m hm hb=>?_
 show vM ρ m (p0 (p0 t))=_
 have hv:=lt_val (hx.sub hq) hm (bound_sub (bound_sub hb hp) hq)
 rw [v_un k hl,v_un (t:=p0 t) (by rw [ha];exact k) hl2,ha]
 have e:(p0 (p0 t)).w=(p0 t).w:=hs2
 rw [e] at hv ⊢
 rcases k with k | k<;>rw [k]
 ·exact (u3 hv).symm
 ·exact (u4 hv).symm
theorem rul5 (h:GT t) (k:t.k=5):∀ R ∈ rulesN 5,apR R t=true→Rd t (resR R t):=by
 intro R hR ha
 simp only [rulesN,List.mem_cons,List.not_mem_nil,or_false] at hR
 rcases hR with rfl | rfl
 ·exact Rd_lft h (by omega) _ _ (by exact trivial) (.inl (by omega)) ha fun b hb=>by rw [k,vW_0];exact o5l hb
 ·exact Rd_rgt h (by omega) _ _ (by exact trivial) (.inl (by omega)) ha fun b hb=>by rw [k,vW_0];exact o5r hb
theorem rul6 (h:GT t) (k:t.k=6):∀ R ∈ rulesN 6,apR R t=true→Rd t (resR R t):=by
 intro R hR ha
 simp only [rulesN,List.mem_cons,List.not_mem_nil,or_false] at hR
 rcases hR with rfl | rfl
 ·exact Rd_rgt h (by omega) _ _ (by exact trivial) (.inl (by omega)) ha fun b hb=>by rw [k,vW_0];exact o6r hb
 ·exact Rd_sam h (by omega) _ (by exact Int.le_refl 0) (.inl (by omega)) ha fun b hb=>by simp only [k,exO,vW_0];exact o6s hb
theorem rul7 (h:GT t) (k:t.k=7):∀ R ∈ rulesN 7,apR R t=true→Rd t (resR R t):=by
 intro R hR ha
 obtain ⟨_,_,_,w1,w2,_⟩:=two_parts h (by omega)
 simp only [rulesN,List.mem_cons,List.not_mem_nil,or_false] at hR
 rcases hR with rfl | rfl | rfl | rfl
 ·exact Rd_lft h (by omega) _ _ (by exact Int.le_refl 0) (.inl (by omega)) ha fun b hb=>by simp only [k,exO,vW_0];exact o7l0
 ·exact Rd_rgt h (by omega) _ _ (by exact Int.le_refl 0) (.inl (by omega)) ha fun b hb=>by simp only [k,exO,vW_0];exact o7r0
 ·exact Rd_lft h (by omega) _ _ (by exact trivial) (.inl (by omega)) ha fun b hb=>by rw [k,vW_1 w1];exact o7l1 hb
 ·exact Rd_rgt h (by omega) _ _ (by exact trivial) (.inl (by omega)) ha fun b hb=>by rw [k,vW_1 w1];exact o7r1 hb
theorem rul8 (h:GT t) (k:t.k=8):∀ R ∈ rulesN 8,apR R t=true→Rd t (resR R t):=by
 intro R hR ha
 obtain ⟨_,_,_,w1,w2,_⟩:=two_parts h (by omega)
 simp only [rulesN,List.mem_cons,List.not_mem_nil,or_false] at hR
 rcases hR with rfl | rfl | rfl | rfl | rfl
 ·exact Rd_lft h (by omega) _ _ (by exact Int.le_refl 0) (.inl (by omega)) ha fun b hb=>by simp only [k,exO,vW_0];exact o8l0
 ·exact Rd_rgt h (by omega) _ _ (by exact Int.le_refl 0) (.inl (by omega)) ha fun b hb=>by simp only [k,exO,vW_0];exact o8r0
 ·exact Rd_lft h (by omega) _ _ (by exact trivial) (.inl (by omega)) ha fun b hb=>by rw [k,vW_top w2,topN];exact o8lt hb
 ·exact Rd_rgt h (by omega) _ _ (by exact trivial) (.inl (by omega)) ha fun b hb=>by rw [k,vW_top w2,topN];exact o8rt hb
 ·exact Rd_sam h (by omega) _ (by exact trivial) (.inl (by omega)) ha fun b hb=>by rw [k];exact o8s
theorem rul9 (h:GT t) (k:t.k=9):∀ R ∈ rulesN 9,apR R t=true→Rd t (resR R t):=by
 intro R hR ha
 obtain ⟨_,_,w0,w1,w2,_⟩:=two_parts h (by omega)
 have w0:=w0 (by omega)
 simp only [rulesN,List.mem_cons,List.not_mem_nil,or_false] at hR
 rcases hR with rfl | rfl | rfl | rfl | rfl
 ·exact Rd_lft h (by omega) _ _ (by exact Int.le_of_lt (by decide)) (.inl (by omega)) ha fun b hb=>by simp only [k,exO,← w0,vW_top w2,topN];exact o9lt hb
 ·exact Rd_rgt h (by omega) _ _ (by exact Int.le_of_lt (by decide)) (.inl (by omega)) ha fun b hb=>by simp only [k,exO,← w0,vW_top w2,topN];exact o9rt hb
 ·exact Rd_lft h (by omega) _ _ (by exact trivial) (.inl (by omega)) ha fun b hb=>by rw [k,vW_0];exact o9l0
 ·exact Rd_rgt h (by omega) _ _ (by exact trivial) (.inl (by omega)) ha fun b hb=>by rw [k,vW_0];exact o9r0
 ·exact Rd_sam h (by omega) _ (by exact trivial) (.inl (by omega)) ha fun b hb=>by rw [k];exact o9s
theorem rul10 (h:GT t) (k:t.k=10):∀ R ∈ rulesN 10,apR R t=true→Rd t (resR R t):=by
 intro R hR ha
 simp only [rulesN,List.mem_cons,List.not_mem_nil,or_false] at hR
 rcases hR with rfl | rfl | rfl
 ·exact Rd_lft h (by omega) _ _ (by exact trivial) (.inl (by omega)) ha fun b hb=>by rw [k,vW_0];exact o10l
 ·exact Rd_rgt h (by omega) _ _ (by exact trivial) (.inl (by omega)) ha fun b hb=>by rw [k,vW_0];exact o10r
 ·exact Rd_sam h (by omega) _ (by exact Int.le_refl 0) (.inl (by omega)) ha fun b hb=>by simp only [k,exO,vW_0];exact o10s
theorem rulF (h:GT t) (k:t.k=11 ∨ t.k=12) (ha:apR .far t=true):Rd t (resR .far t):=by
 obtain ⟨hl,e1,w0,w1,w2,_⟩:=two_parts h (by omega)
 have w0:=w0 (by omega)
 simp only [apR,Bool.and_eq_true,decide_eq_true_eq] at ha
 have hp:=pow_pos' t.w.toNat
 refine Rd_con h (Int.le_refl 0) hp fun ρ m hm hb=>?_
 have hm0:=p0_mem (t:=t) (by omega)
 have hv:=lt_val (h.sub hm0) hm (bound_sub hb hm0)
 rw [v_op (by omega) hl,vM_con ha.1]
 have h2:(p0 t).w.toNat ≤ (p1 t).b.toNat:=by rw [w0];omega
 rcases k with k | k<;>rw [k]
 ·exact o11f h2
 ·exact o12f hv h2
theorem rul11 (h:GT t) (k:t.k=11):∀ R ∈ rulesN 11,apR R t=true→Rd t (resR R t):=by
 intro R hR ha
 simp only [rulesN,List.mem_cons,List.not_mem_nil,or_false] at hR
 rcases hR with rfl | rfl | rfl
 ·exact Rd_rgt h (by omega) _ _ (by exact trivial) (.inl (by omega)) ha fun b hb=>by rw [k,vW_0];exact o11r hb
 ·exact rulF h (.inl k) ha
 ·exact Rd_lft h (by omega) _ _ (by exact Int.le_refl 0) (.inl (by omega)) ha fun b hb=>by simp only [k,exO,vW_0];exact o11l
theorem rul12 (h:GT t) (k:t.k=12):∀ R ∈ rulesN 12,apR R t=true→Rd t (resR R t):=by
 intro R hR ha
 simp only [rulesN,List.mem_cons,List.not_mem_nil,or_false] at hR
 rcases hR with rfl | rfl | rfl
 ·exact Rd_rgt h (by omega) _ _ (by exact trivial) (.inl (by omega)) ha fun b hb=>by rw [k,vW_0];exact o12r
 ·exact rulF h (.inr k) ha
 ·exact Rd_lft h (by omega) _ _ (by exact Int.le_refl 0) (.inl (by omega)) ha fun b hb=>by simp only [k,exO,vW_0];exact o12l
theorem rul13 (h:GT t) (k:t.k=13):∀ R ∈ rulesN 13,apR R t=true→Rd t (resR R t):=by
 intro R hR ha
 simp only [rulesN,List.mem_cons,List.not_mem_nil,or_false] at hR
 rcases hR with rfl | rfl
 ·exact Rd_rgt h (by omega) _ _ (by exact trivial) (.inl (by omega)) ha fun b hb=>by rw [k,vW_0];exact o13r hb
 ·exact Rd_lft h (by omega) _ _ (by exact Int.le_refl 0) (.inl (by omega)) ha fun b hb=>by simp only [k,exO,vW_0];exact o13l
theorem rul14 (h:GT t) (k:t.k=14):∀ R ∈ rulesN 14,apR R t=true→Rd t (resR R t):=by
 intro R hR ha
 obtain ⟨_,_,_,w1,w2,_⟩:=two_parts h (by omega)
 simp only [rulesN,List.mem_cons,List.not_mem_nil,or_false] at hR
 subst hR
 exact Rd_rgt h (by omega) _ _ (by exact trivial) (.inl (by omega)) ha fun b hb=>by rw [k,vW_1 w1];exact o14r
theorem rul15 (h:GT t) (k:t.k=15):∀ R ∈ rulesN 15,apR R t=true→Rd t (resR R t):=by
 intro R hR ha
 obtain ⟨_,_,_,w1,w2,_⟩:=two_parts h (by omega)
 simp only [rulesN,List.mem_cons,List.not_mem_nil,or_false] at hR
 subst hR
 exact Rd_rgt h (by omega) _ _ (by exact Int.le_refl 0) (.inl (by omega)) ha fun b hb=>by simp only [k,exO,vW_1 w1,vW_0];exact o15r
theorem rul16 (h:GT t) (k:t.k=16):∀ R ∈ rulesN 16,apR R t=true→Rd t (resR R t):=by
 intro R hR ha
 obtain ⟨_,_,_,w1,w2,e⟩:=two_parts h (by omega)
 have e:=e (by omega)
 simp only [rulesN,List.mem_cons,List.not_mem_nil,or_false] at hR
 subst hR
 exact Rd_sam h (by omega) _ (by exact Int.le_of_lt (by decide)) (.inr ⟨_,rfl⟩) ha fun b hb=>by simp only [k,exO,vW_1 (show 1 ≤ t.w by omega)];exact o16s
theorem rul17 (h:GT t) (k:t.k=17):∀ R ∈ rulesN 17,apR R t=true→Rd t (resR R t):=by
 intro R hR ha
 simp only [rulesN,List.mem_cons,List.not_mem_nil,or_false] at hR
 rcases hR with rfl | rfl
 ·exact Rd_sam h (by omega) _ (by exact Int.le_refl 0) (.inr ⟨_,rfl⟩) ha fun b hb=>by simp only [k,exO,vW_0];exact o17s
 ·exact Rd_rgt h (by omega) _ _ (by exact Int.le_refl 0) (.inr ⟨_,rfl⟩) ha fun b hb=>by simp only [k,exO,vW_0];exact o17r
theorem rul18 (h:GT t) (k:t.k=18):∀ R ∈ rulesN 18,apR R t=true→Rd t (resR R t):=by
 intro R hR ha
 simp only [rulesN,List.mem_cons,List.not_mem_nil,or_false] at hR
 subst hR
 exact Rd_sam h (by omega) _ (by exact Int.le_refl 0) (.inr ⟨_,rfl⟩) ha fun b hb=>by simp only [k,exO,vW_0];exact o18s
theorem rul19 (h:GT t) (k:t.k=19) (ha:apR .cho t=true):Rd t (resR .cho t):=by
 have hself:=(nodesOk_iff t).1 h.1
 obtain ⟨_,_,_,_,hl,hs0,hs1,hs2⟩:=(node_k19 k).1 hself.1
 unfold subW at hs1 hs2
 have m1:=p1_mem (t:=t) (by omega)
 have m2:=p2_mem (t:=t) (by omega)
 simp only [apR,Bool.or_eq_true] at ha
 simp only [resR]
 split
 ·rename_i h1
  refine Rd_node h (in_nodes m1) hs1 fun ρ m hm hb=>?_
  rw [v_ite k hl,isK_val h1];rfl
 ·rename_i h1
  rcases ha with ha | ha | ha
  ·exact absurd ha h1
  ·refine Rd_node h (in_nodes m2) hs2 fun ρ m hm hb=>?_
   rw [v_ite k hl,isK_val ha];rfl
  ·refine Rd_node h (in_nodes m2) hs2 fun ρ m hm hb=>?_
   rw [v_ite k hl,same_val ha ρ m,ite_self]
theorem Rd_one {x r:Te} (h:GT t) (hx:x ∈ nodesT t) (hd:depth x < depth t) (hs:size x < size t) (hr:r.l=[x]) (hw:r.w=t.w) (hk:r.k ≠ 2) (hk2:r.k ≠ 24) (hn:nodeS r) (hn2:nodeT r)
  (hv:∀ ρ m,okM m→boundR ρ t→vM ρ m r=vM ρ m t):Rd t r:=by
 have hm:∀ y,y ∈ nodesT r ↔ y=r ∨ y ∈ nodesT x:=fun y=>by rw [nodes_eq,List.mem_cons,nodesL_in,hr];simp
 refine ⟨⟨fun y hy=>?_,fun y hy=>?_⟩,hw,?_,?_,fun y hy hky=>?_,fun y hy hky=>?_,hv⟩
 ·rcases (hm y).1 hy with rfl | hy
  ·exact hn
  ·exact h.1 y (nodes_trans hx hy)
 ·rcases (hm y).1 hy with rfl | hy
  ·exact hn2
  ·exact h.2 y (nodes_trans hx hy)
 ·rw [size_eq,hr];simp only [sizes];omega
 ·rw [depth_eq,hr];simp only [depths];omega
 ·rcases (hm y).1 hy with rfl | hy
  ·exact absurd hky hk
  ·exact ⟨y,nodes_trans hx hy,hky,rfl,rfl⟩
 ·rcases (hm y).1 hy with rfl | hy
  ·exact absurd hky hk2
  ·exact ⟨y,nodes_trans hx hy,hky⟩
theorem part_less {x:Te} (hx:x ∈ t.l):depth x < depth t∧size x < size t:=by
 have h1:=depths_mem hx
 exact ⟨by rw [depth_eq t];omega,size_mem hx⟩
theorem rul20 (h:GT t) (k:t.k=20) (ha:apR .joi t=true):Rd t (resR .joi t):=by
 have hself:=(nodesOk_iff t).1 h.1
 obtain ⟨hw,_,_,_,hl,hw0,hw1,hs⟩:=(node_k20 k).1 hself.1
 unfold subW at hs hw0 hw1
 have m1:=p1_mem (t:=t) (by omega)
 have q1:=h.sub m1
 have hself1:=(nodesOk_iff _).1 q1.1
 simp only [apR] at ha
 have key:∃ x,joiY t=x∧x ∈ nodesT t∧depth x < depth t∧size x < size t∧x.w ≤ (p1 t).w∧1 ≤ x.w∧∀ ρ m,vM ρ m x=vM ρ m (p1 t):=by
  unfold joiY
  by_cases k2:(p1 t).k=22
  ·rw [if_pos k2]
   obtain ⟨_,_,_,_,hl2,hs2⟩:=(node_k22 (.inl k2)).1 hself1.1
   have m2:=p0_mem (t:=p1 t) (by omega)
   have a1:=part_less m1
   have a2:=part_less m2
   refine ⟨_,rfl,nodes_trans (in_nodes m1) (in_nodes m2),by omega,by omega,hs2,(nodesOk_wide (hself1.2 _ m2)).1,fun ρ m=>?_⟩
   rw [v_exn (.inl k2) hl2,k2];rfl
  ·rw [if_neg k2]
   have a1:=part_less m1
   exact ⟨_,rfl,in_nodes m1,a1.1,a1.2,Int.le_refl _,hw1.1,fun _ _=>rfl⟩
 obtain ⟨x,e,hx,hd,hz,hxw,hx1,hxv⟩:=key
 have tt:=h.2.self
 show Rd t (.mk 22 t.w 0 [] 0 false [joiY t])
 rw [e]
 unfold wideS at hw hw0
 have hs:(p0 t).w + (p1 t).w=t.w:=hs
 have hw0:1 ≤ (p0 t).w∧(p0 t).w ≤ 64:=hw0
 refine Rd_one h hx hd hz rfl rfl (show (22:Int) ≠ 2 by decide) (show (22:Int) ≠ 24 by decide) ?_ ?_ fun ρ m hm hb=>?_
 ·refine (node_k22 (.inl rfl)).2 ⟨hw,rfl,rfl,rfl,rfl,?_⟩
  show x.w ≤ t.w;omega
 ·exact ⟨by show (0:Int) ≤ 22∧(22:Int) < 256;decide,tt.2.1,by show (0:Int) ≤ 0∧(0:Int) < _;decide,by show (0:Nat) ≤ _;decide,by show _ ≤ (0:Int)∧(0:Int) ≤ _;decide,by show (1:Nat) ≤ _;decide⟩
 ·rw [v_exn (t:=.mk 22 t.w 0 [] 0 false [x]) (.inl rfl) rfl,v_cat k hl,isK_val ha,← hxv]
  show exN false _ _ (vM ρ m x)=0 * _ + vM ρ m x
  rw [Nat.zero_mul,Nat.zero_add];rfl
theorem rulW (h:GT t) (k:t.k=21 ∨ t.k=22 ∨ t.k=23) (ha:apR .who t=true):Rd t (resR .who t):=by
 have hself:=(nodesOk_iff t).1 h.1
 simp only [apR,decide_eq_true_eq] at ha
 have hl:t.l.length=1:=by
  rcases k with k | k
  ·exact ((node_k21 k).1 hself.1).2.2.2.2.1
  ·exact ((node_k22 k).1 hself.1).2.2.2.2.1
 have m0:=p0_mem (t:=t) (by omega)
 refine Rd_node h (in_nodes m0) ha fun ρ m hm hb=>?_
 have hv:=lt_val (h.sub m0) hm (bound_sub hb m0)
 show vM ρ m (p0 t)=_
 rcases k with k | k
 ·obtain ⟨_,_,_,_,_,h1,h2,h3,h4⟩:=(node_k21 k).1 hself.1
  unfold subW at h4
  have ha':(t.l.getD 0 default).w=t.w:=ha
  rw [v_cut k hl,show t.lo.toNat=0 by omega,Nat.pow_zero,Nat.div_one,← ha,Nat.mod_eq_of_lt hv]
 ·rw [v_exn k hl,ha]
  rw [ha] at hv
  exact (exN_same hv).symm
theorem rulI (h:GT t) (k:t.k=21 ∨ t.k=22 ∨ t.k=23) (ha:apR .inn t=true):Rd t (resR .inn t):=by
 have hself:=(nodesOk_iff t).1 h.1
 simp only [apR,decide_eq_true_eq] at ha
 have hl:t.l.length=1:=by
  rcases k with k | k
  ·exact ((node_k21 k).1 hself.1).2.2.2.2.1
  ·exact ((node_k22 k).1 hself.1).2.2.2.2.1
 have m0:=p0_mem (t:=t) (by omega)
 have q0:=h.sub m0
 have hself0:=(nodesOk_iff _).1 q0.1
 have hl0:(p0 t).l.length=1:=by
  rcases k with k | k
  ·exact ((node_k21 (ha.trans k)).1 hself0.1).2.2.2.2.1
  ·exact ((node_k22 (by rw [ha];exact k)).1 hself0.1).2.2.2.2.1
 have m1:=p0_mem (t:=p0 t) (by omega)
 have a1:=part_less m0
 have a2:=part_less m1
 have hr:(p0 t).l=[p0 (p0 t)]:=by
  obtain ⟨x,hx⟩:=List.length_eq_one_iff.1 hl0
  unfold p0
  rw [show t.l.getD 0 default=p0 t from rfl,hx];rfl
 have tt:=h.2.self
 have q1:=nodesOk_wide (q0.sub m1).1
 have hw:=hself.1.1
 unfold wideS at hw
 refine Rd_one (r:=resR .inn t) (x:=p0 (p0 t)) h (nodes_trans (in_nodes m0) (in_nodes m1)) (by omega) (by omega) hr rfl (show t.k ≠ 2 by omega) (show t.k ≠ 24 by omega) ?_ ?_ fun ρ m hm hb=>?_
 ·rcases k with k | k
  ·obtain ⟨b1,b2,b3,_,_,h1,h2,h3,h4⟩:=(node_k21 k).1 hself.1
   obtain ⟨_,_,_,_,_,c1,c2,c3,c4⟩:=(node_k21 (ha.trans k)).1 hself0.1
   have h3:t.w ≤ (p0 t).w:=h3
   have h4:t.lo ≤ (p0 t).w - t.w:=h4
   have c3:(p0 t).w ≤ (p0 (p0 t)).w:=c3
   have c4:(p0 t).lo ≤ (p0 (p0 t)).w - (p0 t).w:=c4
   refine (node_k21 (t:=resR .inn t) k).2 ⟨b1,b2,b3,trivial,hl0,?_,c2,?_,?_⟩
   ·show 0 ≤ t.lo + (p0 t).lo;omega
   ·show t.w ≤ (p0 (p0 t)).w;omega
   ·show t.lo + (p0 t).lo ≤ (p0 (p0 t)).w - t.w;omega
  ·obtain ⟨b1,b2,b3,b4,_,h3⟩:=(node_k22 k).1 hself.1
   obtain ⟨_,_,_,c4,_,c3⟩:=(node_k22 (t:=p0 t) (by rw [ha];exact k)).1 hself0.1
   have h3:(p0 t).w ≤ t.w:=h3
   have c3:(p0 (p0 t)).w ≤ (p0 t).w:=c3
   refine (node_k22 (t:=resR .inn t) k).2 ⟨b1,b2,b3,?_,hl0,?_⟩
   ·show t.lo + (p0 t).lo=0;omega
   ·show (p0 (p0 t)).w ≤ t.w;omega
 ·refine ⟨tt.1,tt.2.1,tt.2.2.1,tt.2.2.2.1,?_,by show (p0 t).l.length ≤ _;omega⟩
  show _ ≤ t.lo + (p0 t).lo∧t.lo + (p0 t).lo ≤ _
  rcases k with k | k
  ·obtain ⟨b1,b2,b3,_,_,h1,h2,h3,h4⟩:=(node_k21 k).1 hself.1
   obtain ⟨_,_,_,_,_,c1,c2,c3,c4⟩:=(node_k21 (ha.trans k)).1 hself0.1
   have h2:(p0 t).w ≤ 64:=h2.2
   have h4:t.lo ≤ (p0 t).w - t.w:=h4
   have c4:(p0 t).lo ≤ (p0 (p0 t)).w - (p0 t).w:=c4
   omega
  ·obtain ⟨b1,b2,b3,b4,_,h3⟩:=(node_k22 k).1 hself.1
   obtain ⟨_,_,_,c4,_,c3⟩:=(node_k22 (t:=p0 t) (by rw [ha];exact k)).1 hself0.1
   omega
 ·have hv:=lt_val (q0.sub m1) hm (bound_sub (bound_sub hb m0) m1)
  rcases k with k | k
  ·obtain ⟨_,_,_,_,_,h1,h2,h3,h4⟩:=(node_k21 k).1 hself.1
   obtain ⟨_,_,_,_,_,c1,c2,c3,c4⟩:=(node_k21 (ha.trans k)).1 hself0.1
   rw [v_cut k hl,v_cut (ha.trans k) hl0,v_cut (t:=resR .inn t) k hl0]
   show vM ρ m (p0 (p0 t)) / 2 ^ (t.lo + (p0 t).lo).toNat % 2 ^ t.w.toNat=_
   have e3:t.lo ≤ (p0 t).w - t.w:=h4
   rw [show (t.lo + (p0 t).lo).toNat=t.lo.toNat + (p0 t).lo.toNat by omega]
   exact (cut_cut (by omega)).symm
  ·obtain ⟨_,_,_,_,_,h3⟩:=(node_k22 k).1 hself.1
   obtain ⟨_,_,_,_,_,c3⟩:=(node_k22 (t:=p0 t) (by rw [ha];exact k)).1 hself0.1
   unfold subW at h3 c3
   rw [v_exn k hl,v_exn (t:=p0 t) (by rw [ha];exact k) hl0,v_exn (t:=resR .inn t) k hl0,ha]
   show exN (decide (t.k=23)) (p0 (p0 t)).w.toNat t.w.toNat (vM ρ m (p0 (p0 t)))=_
   have e3:(p0 t).w ≤ t.w:=h3
   have e4:(p0 (p0 t)).w ≤ (p0 t).w:=c3
   exact (exN_twice (by omega) (by omega) (by omega) hv).symm
theorem rules_Rd (h:GT t):∀ R ∈ rulesN t.k.toNat,apR R t=true→Rd t (resR R t):=by
 have hself:=(nodesOk_iff t).1 h.1
 have hk24:1 ≤ t.k∧t.k ≤ 24:=by
  rcases Int.lt_or_le t.k 1 with h | h
  ·exact absurd hself.1 (node_no (.inl h))
  ·rcases Int.lt_or_le 24 t.k with h' | h'
   ·exact absurd hself.1 (node_no (.inr h'))
   ·exact ⟨h,h'⟩
 have hone:∀ {S:Rul} {L:List Rul},L=[S]→(apR S t=true→Rd t (resR S t))→∀ R ∈ L,apR R t=true→Rd t (resR R t):=fun hL hS R hR ha=>by
  subst hL
  rw [List.mem_singleton] at hR;subst hR;exact hS ha
 have htwo:∀ {S S':Rul} {L:List Rul},L=[S,S']→(apR S t=true→Rd t (resR S t))→(apR S' t=true→Rd t (resR S' t))→∀ R ∈ L,apR R t=true→Rd t (resR R t):=fun hL hS hS' R hR ha=>by
  subst hL
  simp only [List.mem_cons,List.not_mem_nil,or_false] at hR
  rcases hR with rfl | rfl
  ·exact hS ha
  ·exact hS' ha
 rcases (by omega:t.k=1 ∨ t.k=2 ∨ t.k=3 ∨ t.k=4 ∨ t.k=5 ∨ t.k=6 ∨ t.k=7 ∨ t.k=8 ∨ t.k=9 ∨ t.k=10 ∨ t.k=11 ∨ t.k=12 ∨ t.k=13 ∨ t.k=14 ∨ t.k=15 ∨ t.k=16 ∨ t.k=17 ∨ t.k=18 ∨ t.k=19 ∨ t.k=20 ∨ t.k=21 ∨ t.k=22 ∨ t.k=23 ∨ t.k=24) with k | k | k | k | k | k | k | k | k | k | k | k | k | k | k | k | k | k | k | k | k | k | k | k
 all_goals rw [k]
 ·intro R hR;cases hR
 ·intro R hR;cases hR
 ·exact hone rfl (rul3 h (.inl k))
 ·exact hone rfl (rul3 h (.inr k))
 ·exact rul5 h k
 ·exact rul6 h k
 ·exact rul7 h k
 ·exact rul8 h k
 ·exact rul9 h k
 ·exact rul10 h k
 ·exact rul11 h k
 ·exact rul12 h k
 ·exact rul13 h k
 ·exact rul14 h k
 ·exact rul15 h k
 ·exact rul16 h k
 ·exact rul17 h k
 ·exact rul18 h k
 ·exact hone rfl (rul19 h k)
 ·exact hone rfl (rul20 h k)
 ·exact htwo rfl (rulW h (.inl k)) (rulI h (.inl k))
 ·exact htwo rfl (rulW h (.inr (.inl k))) (rulI h (.inr (.inl k)))
 ·exact htwo rfl (rulW h (.inr (.inr k))) (rulI h (.inr (.inr k)))
 ·intro R hR;cases hR
end
theorem constP_iff {t:Te}:constP t=true ↔ t.k ≠ 24∧t.l ≠ []∧∀ x ∈ t.l,x.k=1:=by
 simp [constP,and_assoc]
theorem vop_free {ld ld':Nat→Nat→Nat→Nat} {k w b lo:Int} {r r':Nat} {ws:List Int} {vs:List Nat} (h2:k ≠ 2) (h24:k ≠ 24):vop ld k w b lo r ws vs=vop ld' k w b lo r' ws vs:=by
 unfold vop;simp only [if_neg h2,if_neg h24]
theorem const_free {t:Te} (h:GT t) (hc:constP t=true) (ρ ρ':List UInt8→Nat) (m m':Mem):vM ρ m t=vM ρ' m' t:=by
 obtain ⟨c1,c2,c3⟩:=constP_iff.1 hc
 have hself:=(nodesOk_iff t).1 h.1
 have h2:t.k ≠ 2:=fun e=>c2 (List.length_eq_zero_iff.1 ((node_k2 e).1 hself.1).2.1)
 rw [vM_eq,vM_eq,show t.l.map (vM ρ m)=t.l.map (vM ρ' m') from List.map_congr_left fun x hx=>by rw [vM_con (c3 x hx),vM_con (c3 x hx)]]
 exact vop_free h2 c1
theorem const_bound {t:Te} (h:GT t) (hc:constP t=true) (ρ:List UInt8→Nat):boundR ρ t:=fun y hy hk=>by
 obtain ⟨c1,c2,c3⟩:=constP_iff.1 hc
 have hself:=(nodesOk_iff t).1 h.1
 rw [nodes_eq,List.mem_cons,nodesL_in] at hy
 rcases hy with rfl | ⟨x,hx,hy⟩
 ·exact absurd (List.length_eq_zero_iff.1 ((node_k2 hk).1 hself.1).2.1) c2
 ·have hl:=((node_k1 (c3 x hx)).1 (hself.2 x hx x (mem_nodes x))).2.1
  rw [nodes_eq,List.length_eq_zero_iff.1 hl,List.mem_cons] at hy
  rcases hy with rfl | hy
  ·rw [c3 _ hx] at hk;cases hk
  ·cases hy
theorem okM_nil:okM []:=fun p hp=>by cases hp
theorem step_Rd {t:Te} (h:GT t):Rd t (stepT t):=by
 unfold stepT
 split
 ·rename_i hc
  have hv:=lt_val h okM_nil (const_bound h hc rho0)
  refine Rd_con h (Int.natCast_nonneg _) (by rw [← pow_nat];exact Int.ofNat_lt.2 hv) fun ρ m hm hb=>?_
  rw [Int.toNat_natCast];exact const_free h hc ρ rho0 m []
 ·exact first_Rd h _ (rules_Rd h)
structure Rs (t r:Te):Prop where
 g:GT r
 w:r.w=t.w
 sz:size r ≤ size t
 dp:depth r ≤ depth t
 vs:∀ y ∈ nodesT r,y.k=2→∃ x ∈ nodesT t,x.k=2∧x.s=y.s∧x.w=y.w
 ld:∀ y ∈ nodesT r,y.k=24→∃ x ∈ nodesT t,x.k=24
theorem Rd.rs {t r:Te} (h:Rd t r):Rs t r:=⟨h.g,h.w,h.sz,h.dp,h.vs,h.ld⟩
abbrev mapN (f:Te→Te) (t:Te):Te:=.mk t.k t.w t.b t.s t.lo false (t.l.map f)
theorem mapN_Rs {f:Te→Te} {t:Te} (h:GT t) (hp:∀ x ∈ t.l,Rs x (f x)):Rs t (mapN f t):=by
 have hself:=(nodesOk_iff t).1 h.1
 have hd:∀ i,((t.l.map f).getD i default).w=(t.l.getD i default).w:=fun i=>by
  by_cases hi:i < t.l.length
  ·have:(t.l.map f).getD i default=f (t.l.getD i default):=by simp [List.getD,hi]
   rw [this];exact (hp _ (getD_mem hi)).w
  ·have h1:(t.l.map f).getD i default=default:=by simp [List.getD,hi]
   have h2:t.l.getD i default=default:=by simp [List.getD,hi]
   rw [h1,h2]
 have hlen:(t.l.map f).length=t.l.length:=List.length_map ..
 have hW:∀ how,widthsS t how→widthsS (mapN f t) how:=by
  intro how hh
  have e0:∀ i,subW (mapN f t) i=subW t i:=hd
  have ea:allW t.l t.w→allW (t.l.map f) t.w:=fun ha j hj=>by rw [hd];exact ha j (by rwa [hlen] at hj)
  unfold widthsS at hh ⊢
  rw [e0,e0,e0]
  split
  ·rename_i e;rw [if_pos e] at hh;exact ea hh
  ·rename_i e;rw [if_neg e] at hh;exact hh
 have hN:nodeS (mapN f t):=by
  have hs:=hself.1
  unfold nodeS at hs ⊢
  refine ⟨hs.1,?_⟩
  have hs:=hs.2
  show if 3 ≤ t.k∧t.k ≤ 24 then _ else _
  split
  ·rename_i hk
   rw [if_pos hk] at hs
   obtain ⟨a,b,c,d,e⟩:=hs
   exact ⟨a,b,c,by show ((t.l.map f).length:Int)=_;rw [hlen];exact d,hW _ e⟩
  ·rename_i hk
   rw [if_neg hk] at hs
   obtain ⟨a,b,c⟩:=hs
   exact ⟨by show (t.l.map f).length=0;rw [hlen];exact a,b,c⟩
 have hm:∀ y,y ∈ nodesT (mapN f t) ↔ y=mapN f t ∨ ∃ x ∈ t.l,y ∈ nodesT (f x):=fun y=>by
  rw [nodes_eq,List.mem_cons,nodesL_in]
  show _ ∨ (∃ x ∈ t.l.map f,_) ↔ _
  refine or_congr Iff.rfl ⟨?_,?_⟩
  ·rintro ⟨x,hx,hxy⟩
   obtain ⟨z,hz,rfl⟩:=List.mem_map.1 hx
   exact ⟨z,hz,hxy⟩
  ·rintro ⟨z,hz,hzy⟩;exact ⟨_,List.mem_map_of_mem hz,hzy⟩
 have tt:=h.2.self
 refine ⟨⟨fun y hy=>?_,fun y hy=>?_⟩,rfl,?_,?_,fun y hy hk=>?_,fun y hy hk=>?_⟩
 ·rcases (hm y).1 hy with rfl | ⟨x,hx,hy⟩
  ·exact hN
  ·exact (hp x hx).g.1 y hy
 ·rcases (hm y).1 hy with rfl | ⟨x,hx,hy⟩
  ·exact ⟨tt.1,tt.2.1,tt.2.2.1,tt.2.2.2.1,tt.2.2.2.2.1,by show (t.l.map f).length ≤ _;rw [hlen];exact tt.2.2.2.2.2⟩
  ·exact (hp x hx).g.2 y hy
 ·rw [size_eq,size_eq t]
  have:∀ l:List Te,(∀ x ∈ l,size (f x) ≤ size x)→sizes (l.map f) ≤ sizes l:=by
   intro l
   induction l with
   |nil=>intro _;exact Nat.le_refl _
   |cons a l ih=>intro hh;rw [List.map_cons,sizes_cons,sizes_cons];have:=hh a (by simp);have:=ih fun x hx=>hh x (by simp [hx]);omega
  have:=this t.l fun x hx=>(hp x hx).sz
  show 1 + sizes (t.l.map f) ≤ _;omega
 ·rw [depth_eq,depth_eq t]
  have:depths (t.l.map f) ≤ depths t.l:=depths_le fun y hy=>by
   obtain ⟨x,hx,rfl⟩:=List.mem_map.1 hy
   exact Nat.le_trans (hp x hx).dp (depths_mem hx)
  show depths (t.l.map f) + 1 ≤ _;omega
 ·rcases (hm y).1 hy with rfl | ⟨x,hx,hy⟩
  ·exact ⟨t,mem_nodes t,hk,rfl,rfl⟩
  ·obtain ⟨z,hz,e⟩:=(hp x hx).vs y hy hk
   exact ⟨z,nodes_sub hx hz,e⟩
 ·rcases (hm y).1 hy with rfl | ⟨x,hx,hy⟩
  ·exact ⟨t,mem_nodes t,hk⟩
  ·obtain ⟨z,hz,e⟩:=(hp x hx).ld y hy hk
   exact ⟨z,nodes_sub hx hz,e⟩
theorem redN_Rd {t:Te} (h:GT t) (hp:∀ x ∈ t.l,Rd x (redT x)):Rd t (redN t):=by
 obtain ⟨a,b,c,d,e,f⟩:=mapN_Rs (f:=redT) h fun x hx=>(hp x hx).rs
 refine ⟨a,b,c,d,e,f,fun ρ m hm hb=>?_⟩
 rw [vM_eq,vM_eq (t:=t)]
 show vop (ldN m) t.k t.w t.b t.lo (ρ t.s) ((t.l.map redT).map Tm'.w) ((t.l.map redT).map (vM ρ m))=_
 rw [List.map_map,List.map_map]
 have e1:t.l.map (Tm'.w ∘ redT)=t.l.map Tm'.w:=List.map_congr_left fun x hx=>(hp x hx).w
 have e2:t.l.map (vM ρ m ∘ redT)=t.l.map (vM ρ m):=List.map_congr_left fun x hx=>(hp x hx).vl ρ m hm (bound_sub hb hx)
 rw [e1,e2]
theorem red_Rd (t:Te) (h:GT t):Rd t (redT t):=by
 induction t using Tm'.ind with
 |h t ih =>
 rw [redT_eq]
 have h1:=redN_Rd h fun x hx=>ih x hx (h.sub hx)
 exact h1.trans (step_Rd h1.g)
def nfN (t:Te):Prop:=constP t=false∧∀ R ∈ rulesN t.k.toNat,apR R t=false
def Nf (t:Te):Prop:=∀ x ∈ nodesT t,nfN x
theorem Nf.node {t x:Te} (h:Nf t) (hx:x ∈ nodesT t):Nf x:=fun y hy=>h y (nodes_trans hx hy)
theorem Nf.sub {t x:Te} (h:Nf t) (hx:x ∈ t.l):Nf x:=h.node (in_nodes hx)
theorem Nf.mk {t:Te} (h:nfN t) (hp:∀ x ∈ t.l,Nf x):Nf t:=fun y hy=>by
 rw [nodes_eq,List.mem_cons,nodesL_in] at hy
 rcases hy with rfl | ⟨x,hx,hy⟩
 ·exact h
 ·exact hp x hx y hy
theorem first_none {t:Te}:∀ L:List Rul,(∀ R ∈ L,apR R t=false)→firstR L t=t:=by
 intro L
 induction L with
 |nil=>intro _;rfl
 |cons R L ih=>intro h;simp only [firstR,h R (by simp)];exact ih fun S hS=>h S (by simp [hS])
theorem step_nf {t:Te} (h:nfN t):stepT t=t:=by
 unfold stepT;rw [h.1];exact first_none _ h.2
section
variable {t t':Te}
end
theorem rule_kinds {t:Te} (h:GT t) {R:Rul} (hR:R ∈ rulesN t.k.toNat):(R=.twi→t.k=3 ∨ t.k=4)∧((∃ x o,R=.lft x o) ∨ (∃ x o,R=.rgt x o) ∨ (∃ o,R=.sam o) ∨ R=.far→5 ≤ t.k∧t.k ≤ 18)∧(R=.cho→t.k=19)∧(R=.joi→t.k=20)∧(R=.who ∨ R=.inn→t.k=21 ∨ t.k=22 ∨ t.k=23):=by
 have hself:=(nodesOk_iff t).1 h.1
 have hk24:1 ≤ t.k∧t.k ≤ 24:=by
  rcases Int.lt_or_le t.k 1 with h | h
  ·exact absurd hself.1 (node_no (.inl h))
  ·rcases Int.lt_or_le 24 t.k with h' | h'
   ·exact absurd hself.1 (node_no (.inr h'))
   ·exact ⟨h,h'⟩
 rcases (by omega:t.k=1 ∨ t.k=2 ∨ t.k=3 ∨ t.k=4 ∨ t.k=5 ∨ t.k=6 ∨ t.k=7 ∨ t.k=8 ∨ t.k=9 ∨ t.k=10 ∨ t.k=11 ∨ t.k=12 ∨ t.k=13 ∨ t.k=14 ∨ t.k=15 ∨ t.k=16 ∨ t.k=17 ∨ t.k=18 ∨ t.k=19 ∨ t.k=20 ∨ t.k=21 ∨ t.k=22 ∨ t.k=23 ∨ t.k=24) with k | k | k | k | k | k | k | k | k | k | k | k | k | k | k | k | k | k | k | k | k | k | k | k
 all_goals
  rw [k] at hR ⊢
  simp only [rulesN,Int.reduceToNat,List.mem_cons,List.not_mem_nil,or_false] at hR
 all_goals
  refine ⟨fun e=>?_,fun e=>?_,fun e=>?_,fun e=>?_,fun e=>?_⟩<;>first | omega | (subst e;simp at hR;done) | (rcases e with ⟨_,_,rfl⟩ | ⟨_,_,rfl⟩ | ⟨_,rfl⟩ | rfl<;>simp at hR;done) | (rcases e with rfl | rfl<;>simp at hR;done)
theorem mem_insE {t:Te} {en:Env0} (h:varsE t=.inl en) (p:List UInt8 × Int):p ∈ insE [] (varList t) ↔ p ∈ varList t:=by
 have:=(insE_spec (varList t) [] [] List.Pairwise.nil (fun _=>Iff.rfl) (by simpa using (varsE_in h).1)).2 p
 simpa using this
theorem valErr_zero {t:Te} {env:Env} {m:Mem} (h:valErr t env m=0):checkS t=0∧chkB env=0∧chkM m=0∧∀ p ∈ varList t,oneE env p=0:=by
 unfold valErr at h
 split at h
 ·rename_i h1
  split at h
  ·rename_i h2
   split at h
   ·rename_i h3
    obtain ⟨_,en,he⟩:=nodes_of_check h1
    exact ⟨h1,h2,h3,fun p hp=>firstE_zero h p ((mem_insE he p).2 hp)⟩
   ·cases h
  ·cases h
 ·rename_i h1;exact absurd h h1
theorem valErr_of {t:Te} {env:Env} {m:Mem} (h1:checkS t=0) (h2:chkB env=0) (h3:chkM m=0) (h4:∀ p ∈ varList t,oneE env p=0):valErr t env m=0:=by
 obtain ⟨_,en,he⟩:=nodes_of_check h1
 unfold valErr
 rw [if_pos h1,if_pos h2,if_pos h3]
 exact firstE_all fun p hp=>h4 p ((mem_insE he p).1 hp)
end Go.Proofs.YtjmppkmacaeahaaGreatDoor.Fi
