/- Parts of the proof, after each other. -/
import Derived.Test.YtkobnfjeehnhlaaGreatDoorTR
import Derived.Test.YtkobnfjeehnhlaaGreatDoorFIY
import Derived.Test.YtkobnfjeehnhlaaGreatDoorFISort
import Derived.KernelRfl
import Derived.Test.YtkobnfjeehnhlaaGreatDoorFIVars
set_option linter.all false
namespace Go.Proofs.YtkobnfjeehnhlaaGreatDoor.Fi
open Go.FI

theorem cmp_spec (p q:Bd):∀ h nx,lim T 67 [.agg [.str p.1,.int .i64 p.2,.int .u64 0],.agg [.str q.1,.int .i64 q.2,.int .u64 0]] h nx=some (.int .i64 (Go.Lib.compareBytes p.1 q.1),h,nx):=by
 have a:∀ h nx,lim T 73 [.str p.1,.str q.1] h nx=some (.int .i64 (Go.Lib.compareBytes p.1 q.1),h,nx):=by
  refine lim_iso tg73 rfl rfl rfl ?_
  simp (disch:=first|omega|(simp only[EVL]<;>omega)|(simp only[hget_c,Nat.reduceEqDiff,↓reduceIte];done)|assumption|(simp (disch:=omega) only[hg_ne,hg_eq,hgs_ne, *];done)|(simp only [rb_len];done)|with_unfolding_all rfl) only [c73,EVS,Nat.reduceAdd,Nat.reduceSub,Int.reduceToNat,Nat.reduceMul,Nat.reduceEqDiff,Nat.reduceLeDiff,Int.reduceEq,Int.reduceLT,Int.reduceLE,↓reduceIte]
 have b:∀ h nx,lim T 43 [.str p.1,.str q.1] h nx=some (.int .i64 (Go.Lib.compareBytes p.1 q.1),h,nx):=by
  refine lim_iso tg43 rfl rfl rfl ?_
  simp (disch:=first|omega|(simp only[EVL]<;>omega)|(simp only[hget_c,Nat.reduceEqDiff,↓reduceIte];done)|assumption|(simp (disch:=omega) only[hg_ne,hg_eq,hgs_ne, *];done)|(simp only [rb_len];done)|with_unfolding_all rfl) only [c43,a,EVS,Nat.reduceAdd,Nat.reduceSub,Int.reduceToNat,Nat.reduceMul,Nat.reduceEqDiff,Nat.reduceLeDiff,Int.reduceEq,Int.reduceLT,Int.reduceLE,↓reduceIte]
 refine lim_iso tg67 rfl rfl rfl ?_
 simp (disch:=first|omega|(simp only[EVL]<;>omega)|(simp only[hget_c,Nat.reduceEqDiff,↓reduceIte];done)|assumption|(simp (disch:=omega) only[hg_ne,hg_eq,hgs_ne, *];done)|(simp only [rb_len];done)|with_unfolding_all rfl) only [c67,b,EVS,Nat.reduceAdd,Nat.reduceSub,Int.reduceToNat,Nat.reduceMul,Nat.reduceEqDiff,Nat.reduceLeDiff,Int.reduceEq,Int.reduceLT,Int.reduceLE,↓reduceIte]
theorem insInner_step (id n:Nat) (B I:Int) (a:Nat) (Q:Post Out):∀ (j:Nat) (d:Array Bd) (h:Heap) (nx:Nat),j < d.size→d.size=n→n ≤ 1000000→hget h id=some (rowB d) →
  (∀ h' nx' (j':Nat),nx ≤ nx'→RowR h id (Go.Sort.insInner ltB a j d) h'→@Ok Out (runs T [.code k136_1,.inL none b136_2,.inB 0] [(0,.sref 3 id n 0 n),(1,.int .i64 a),(2,.int .i64 B),(3,.fn 67 []),(8,.int .i64 I),(9,.int .i64 j'),(34,.bool false)] h' nx') Q) →
  @Ok Out (runs T [.code b136_0,.inL none b136_0,.inB 2,.inB 1,.code k136_1,.inL none b136_2,.inB 0] [(0,.sref 3 id n 0 n),(1,.int .i64 a),(2,.int .i64 B),(3,.fn 67 []),(8,.int .i64 I),(9,.int .i64 j)] h nx) Q:=by
 intro j
 induction j with
 |zero =>
  intro d h nx hj hn hN hr next
  have h1:decide ((a:Int) < ((0:Nat):Int))=false:=by simp
  simp (disch:=first|omega|(simp only[EVL]<;>omega)|(simp only[hget_c,Nat.reduceEqDiff,↓reduceIte];done)|assumption|(simp (disch:=omega) only[hg_ne,hg_eq,hgs_ne, *];done)|(simp only [rb_len];done)|with_unfolding_all rfl) only [unf b136_0.eq_1,c136,h1,EVS,Nat.reduceAdd,Nat.reduceSub,Int.reduceToNat,Nat.reduceMul,Nat.reduceEqDiff,Nat.reduceLeDiff,Int.reduceEq,Int.reduceLT,Int.reduceLE,↓reduceIte]
  exact next _ _ 0 (by omega) (.refl hr)
 |succ j ih =>
  intro d h nx hj hn hN hr next
  have e1:((j + 1:Nat):Int) - 1=(j:Nat):=by omega
  by_cases ha:a < j + 1
  ·have h1:decide ((a:Int) < ((j + 1:Nat):Int))=true:=by simp;omega
   have hr':=hr
   rw [row_of] at hr'
   cases hb:ltB d[j + 1]! d[j]! with
   |false =>
    simp (disch:=first|omega|(simp only[EVL]<;>omega)|(simp only[hget_c,Nat.reduceEqDiff,↓reduceIte];done)|assumption|(simp (disch:=omega) only[hg_ne,hg_eq,hgs_ne, *];done)|(simp only [rb_len];done)|with_unfolding_all rfl) only [unf b136_0.eq_1,c136,cmp_spec,hr',SR,h1,e1,ltB_eq,hb,EVS,Nat.reduceAdd,Nat.reduceSub,Int.reduceToNat,Nat.reduceMul,Nat.reduceEqDiff,Nat.reduceLeDiff,Int.reduceEq,Int.reduceLT,Int.reduceLE,↓reduceIte]
    exact next _ _ (j + 1) (by omega) (.refl (by rw [Go.Sort.insInner,if_neg (by simp [hb])];exact hr))
   |true =>
    simp (disch:=first|omega|(simp only[EVL]<;>omega)|(simp only[hget_c,Nat.reduceEqDiff,↓reduceIte];done)|assumption|(simp (disch:=omega) only[hg_ne,hg_eq,hgs_ne, *];done)|(simp only [rb_len];done)|with_unfolding_all rfl) only [unf b136_0.eq_1,c136,cmp_spec,hr',SR,h1,e1,ltB_eq,hb,EVS,Nat.reduceAdd,Nat.reduceSub,Int.reduceToNat,Nat.reduceMul,Nat.reduceEqDiff,Nat.reduceLeDiff,Int.reduceEq,Int.reduceLT,Int.reduceLE,↓reduceIte]
    exact Ok_inL0 (ih (Go.Sort.swp d (j + 1) j) _ _ (by rw [sz_swp];omega) (by rw [sz_swp];omega) hN (hgs_eq hr) (fun h' nx' j' hn' hx=>next _ _ _ (by omega) (by rw [Go.Sort.insInner,if_pos (by simp [hb];omega)];exact (RowR.one hr).trans hx)))
  ·have h1:decide ((a:Int) < ((j + 1:Nat):Int))=false:=by simp;omega
   simp (disch:=first|omega|(simp only[EVL]<;>omega)|(simp only[hget_c,Nat.reduceEqDiff,↓reduceIte];done)|assumption|(simp (disch:=omega) only[hg_ne,hg_eq,hgs_ne, *];done)|(simp only [rb_len];done)|with_unfolding_all rfl) only [unf b136_0.eq_1,c136,h1,EVS,Nat.reduceAdd,Nat.reduceSub,Int.reduceToNat,Nat.reduceMul,Nat.reduceEqDiff,Nat.reduceLeDiff,Int.reduceEq,Int.reduceLT,Int.reduceLE,↓reduceIte]
   exact next _ _ (j + 1) (by omega) ⟨by rw [Go.Sort.insInner,if_neg (by simp;omega)];exact hr,fun _ _=>rfl⟩
theorem insOuter_step (id n a b:Nat) (hb:b ≤ n) (hN:n ≤ 1000000):∀ (k i:Nat) (d:Array Bd) (h:Heap) (nx:Nat),b ≤ i + k→d.size=n→hget h id=some (rowB d) →
  @Ok Out (runs T [.code b136_2,.inL none b136_2,.inB 0] [(0,.sref 3 id n 0 n),(1,.int .i64 a),(2,.int .i64 b),(3,.fn 67 []),(8,.int .i64 i)] h nx)
   ⟨fun x=>@Ok FV (finV c136.res x) ⟨fun v=>v=.tup []∧RowR h id (Go.Sort.insOuter ltB a b i d) x.2.2.1∧nx ≤ x.2.2.2⟩⟩:=by
 intro k
 induction k with
 |zero =>
  intro i d h nx hi hn hr
  have h1:decide ((i:Int) < (b:Int))=false:=by simp;omega
  simp (disch:=first|omega|(simp only[EVL]<;>omega)|(simp only[hget_c,Nat.reduceEqDiff,↓reduceIte];done)|assumption|(simp (disch:=omega) only[hg_ne,hg_eq,hgs_ne, *];done)|(simp only [rb_len];done)|with_unfolding_all rfl) only [unf b136_2.eq_1,c136,h1,EVS,Nat.reduceAdd,Nat.reduceSub,Int.reduceToNat,Nat.reduceMul,Nat.reduceEqDiff,Nat.reduceLeDiff,Int.reduceEq,Int.reduceLT,Int.reduceLE,↓reduceIte]
  exact ⟨rfl,.refl (by rw [Go.Sort.insOuter,if_neg (by omega)];exact hr),by omega⟩
 |succ k ih =>
  intro i d h nx hi hn hr
  by_cases hib:i < b
  ·have h1:decide ((i:Int) < (b:Int))=true:=by simp;omega
   simp (disch:=first|omega|(simp only[EVL]<;>omega)|(simp only[hget_c,Nat.reduceEqDiff,↓reduceIte];done)|assumption|(simp (disch:=omega) only[hg_ne,hg_eq,hgs_ne, *];done)|(simp only [rb_len];done)|with_unfolding_all rfl) only [unf b136_2.eq_1,c136,h1,EVS,Nat.reduceAdd,Nat.reduceSub,Int.reduceToNat,Nat.reduceMul,Nat.reduceEqDiff,Nat.reduceLeDiff,Int.reduceEq,Int.reduceLT,Int.reduceLE,↓reduceIte]
   refine insInner_step id n b i a _ i d h _ (by omega) hn hN hr (fun h' nx' j' hn' hx=>?_)
   have e1:(i:Int) + 1=((i + 1:Nat):Int):=by omega
   simp (disch:=first|omega|(simp only[EVL]<;>omega)|(simp only[hget_c,Nat.reduceEqDiff,↓reduceIte];done)|assumption|(simp (disch:=omega) only[hg_ne,hg_eq,hgs_ne, *];done)|(simp only [rb_len];done)|with_unfolding_all rfl) only [unf k136_1.eq_1,c136,e1,EVS,Nat.reduceAdd,Nat.reduceSub,Int.reduceToNat,Nat.reduceMul,Nat.reduceEqDiff,Nat.reduceLeDiff,Int.reduceEq,Int.reduceLT,Int.reduceLE,↓reduceIte]
   refine Ok_inL0 (Ok_mono (ih (i + 1) _ h' _ (by omega) (by rw [insInner_size];exact hn) hx.1) fun x hq=>Ok_mono hq fun v hv=>?_)
   obtain ⟨h1,h2,h3⟩:=hv
   exact ⟨h1,by rw [Go.Sort.insOuter,if_pos hib];exact hx.trans h2,by omega⟩
  ·have h1:decide ((i:Int) < (b:Int))=false:=by simp;omega
   simp (disch:=first|omega|(simp only[EVL]<;>omega)|(simp only[hget_c,Nat.reduceEqDiff,↓reduceIte];done)|assumption|(simp (disch:=omega) only[hg_ne,hg_eq,hgs_ne, *];done)|(simp only [rb_len];done)|with_unfolding_all rfl) only [unf b136_2.eq_1,c136,h1,EVS,Nat.reduceAdd,Nat.reduceSub,Int.reduceToNat,Nat.reduceMul,Nat.reduceEqDiff,Nat.reduceLeDiff,Int.reduceEq,Int.reduceLT,Int.reduceLE,↓reduceIte]
   exact ⟨rfl,.refl (by rw [Go.Sort.insOuter,if_neg (by omega)];exact hr),by omega⟩
theorem ins_spec (id n a b:Nat) (d:Array Bd) (ha:a ≤ n) (hb:b ≤ n) (hN:n ≤ 1000000) (hn:d.size=n) (h:Heap) (nx:Nat) (hr:hget h id=some (rowB d)) :
  ∃ r,lim T 136 [.sref 3 id n 0 n,.int .i64 a,.int .i64 b,.fn 67 []] h nx=some r∧r.1=.tup []∧RowN id (Go.Sort.insertionSort ltB d a b) h nx r.2.1 r.2.2:=by
 refine shr_ex tg136 rfl rfl ?_
 have e1:(a:Int) + 1=((a + 1:Nat):Int):=by omega
 simp (disch:=first|omega|(simp only[EVL]<;>omega)|(simp only[hget_c,Nat.reduceEqDiff,↓reduceIte];done)|assumption|(simp (disch:=omega) only[hg_ne,hg_eq,hgs_ne, *];done)|(simp only [rb_len];done)|with_unfolding_all rfl) only [c136,e1,EVS,Nat.reduceAdd,Nat.reduceSub,Int.reduceToNat,Nat.reduceMul,Nat.reduceEqDiff,Nat.reduceLeDiff,Int.reduceEq,Int.reduceLT,Int.reduceLE,↓reduceIte]
 refine Ok_mono (insOuter_step id n a b hb hN (n - a) (a + 1) d h _ (by omega) hn hr) fun x hq=>Ok_mono hq fun v hv=>?_
 exact ⟨hv.1,hv.2.1.n (by have:=hv.2.2;dsimp only;omega)⟩

theorem sift_loop (id n hi F:Nat) (hF:F + hi ≤ n) (hN:n ≤ 1000000):∀ (k root:Nat) (d:Array Bd) (h:Heap) (nx:Nat),hi - root ≤ k→root ≤ n→d.size=n→hget h id=some (rowB d) →
  @Ok Out (runs T [.code b157_0,.inL none b157_0,.inB 0] [(0,.sref 3 id n 0 n),(2,.int .i64 hi),(3,.int .i64 F),(4,.fn 67 []),(10,.int .i64 root)] h nx)
   ⟨fun x=>@Ok FV (finV c157.res x) ⟨fun v=>v=.tup []∧RowR h id (Go.Sort.siftDown ltB hi F root d) x.2.2.1∧nx ≤ x.2.2.2⟩⟩:=by
 intro k
 induction k with
 |zero =>
  intro root d h nx hk hro hn hr
  have h1:decide (hi ≤ 2 * root + 1)=true:=by simp;omega
  simp (disch:=first|omega|(simp only[EVL]<;>omega)|(simp only[hget_c,Nat.reduceEqDiff,↓reduceIte];done)|assumption|(simp (disch:=omega) only[hg_ne,hg_eq,hgs_ne, *];done)|(simp only [rb_len];done)|with_unfolding_all rfl) only [unf b157_0.eq_1,c157,NA,w_xb,h1,EVS,Nat.reduceAdd,Nat.reduceSub,Int.reduceToNat,Nat.reduceMul,Nat.reduceEqDiff,Nat.reduceLeDiff,Int.reduceEq,Int.reduceLT,Int.reduceLE,↓reduceIte]
  exact ⟨rfl,.refl (by rw [sd_end (by omega)];exact hr),by omega⟩
 |succ k ih =>
  intro root d h nx hk hro hn hr
  by_cases hc:hi ≤ 2 * root + 1
  ·have h1:decide (hi ≤ 2 * root + 1)=true:=by simp;omega
   simp (disch:=first|omega|(simp only[EVL]<;>omega)|(simp only[hget_c,Nat.reduceEqDiff,↓reduceIte];done)|assumption|(simp (disch:=omega) only[hg_ne,hg_eq,hgs_ne, *];done)|(simp only [rb_len];done)|with_unfolding_all rfl) only [unf b157_0.eq_1,c157,NA,w_xb,h1,EVS,Nat.reduceAdd,Nat.reduceSub,Int.reduceToNat,Nat.reduceMul,Nat.reduceEqDiff,Nat.reduceLeDiff,Int.reduceEq,Int.reduceLT,Int.reduceLE,↓reduceIte]
   exact ⟨rfl,.refl (by rw [sd_end (by omega)];exact hr),by omega⟩
  ·have h1:decide (hi ≤ 2 * root + 1)=false:=by simp;omega
   have hr':=hr
   rw [row_of] at hr'
   by_cases hc2:2 * root + 1 + 1 < hi
   ·have h2:decide (2 * root + 1 + 1 < hi)=true:=by simp;omega
    cases hb:ltB d[F + (2 * root + 1)]! d[F + (2 * root + 1) + 1]! with
    |true =>
     have hcc:2 * root + 1 + 1 < hi∧ltB d[F + (2 * root + 1)]! d[F + (2 * root + 1) + 1]! = true:=⟨hc2,hb⟩
     cases hd:ltB d[F + root]! d[F + (2 * root + 1 + 1)]! with
     |false =>
      simp (disch:=first|omega|(simp only[EVL]<;>omega)|(simp only[hget_c,Nat.reduceEqDiff,↓reduceIte];done)|assumption|(simp (disch:=omega) only[hg_ne,hg_eq,hgs_ne, *];done)|(simp only [rb_len];done)|with_unfolding_all rfl) only [unf b157_0.eq_1,c157,NA,w_xb,cmp_spec,hr',SR,ltB_eq,h1,h2,hb,hd,EVS,Nat.reduceAdd,Nat.reduceSub,Int.reduceToNat,Nat.reduceMul,Nat.reduceEqDiff,Nat.reduceLeDiff,Int.reduceEq,Int.reduceLT,Int.reduceLE,↓reduceIte]
      exact ⟨rfl,.refl (by rw [sd_step hc (2 * root + 1 + 1) (by simp [hcc]),hd];exact hr),by omega⟩
     |true =>
      simp (disch:=first|omega|(simp only[EVL]<;>omega)|(simp only[hget_c,Nat.reduceEqDiff,↓reduceIte];done)|assumption|(simp (disch:=omega) only[hg_ne,hg_eq,hgs_ne, *];done)|(simp only [rb_len];done)|with_unfolding_all rfl) only [unf b157_0.eq_1,c157,NA,w_xb,cmp_spec,hr',SR,ltB_eq,h1,h2,hb,hd,EVS,Nat.reduceAdd,Nat.reduceSub,Int.reduceToNat,Nat.reduceMul,Nat.reduceEqDiff,Nat.reduceLeDiff,Int.reduceEq,Int.reduceLT,Int.reduceLE,↓reduceIte]
      refine Ok_inL0 (Ok_mono (ih (2 * root + 1 + 1) (Go.Sort.swp d (F + root) (F + (2 * root + 1 + 1))) _ _ (by omega) (by omega) (by rw [sz_swp];exact hn) (hgs_eq hr)) fun x hq=>Ok_mono hq fun v hv=>?_)
      exact ⟨hv.1,by rw [sd_step hc (2 * root + 1 + 1) (by simp [hcc]),hd];exact (RowR.one hr).trans hv.2.1,by have:=hv.2.2;omega⟩
    |false =>
     have hcc:¬ (2 * root + 1 + 1 < hi∧ltB d[F + (2 * root + 1)]! d[F + (2 * root + 1) + 1]! = true):=fun hh=>by rw [hb] at hh;cases hh.2
     cases hd:ltB d[F + root]! d[F + (2 * root + 1)]! with
     |false =>
      simp (disch:=first|omega|(simp only[EVL]<;>omega)|(simp only[hget_c,Nat.reduceEqDiff,↓reduceIte];done)|assumption|(simp (disch:=omega) only[hg_ne,hg_eq,hgs_ne, *];done)|(simp only [rb_len];done)|with_unfolding_all rfl) only [unf b157_0.eq_1,c157,NA,w_xb,cmp_spec,hr',SR,ltB_eq,h1,h2,hb,hd,EVS,Nat.reduceAdd,Nat.reduceSub,Int.reduceToNat,Nat.reduceMul,Nat.reduceEqDiff,Nat.reduceLeDiff,Int.reduceEq,Int.reduceLT,Int.reduceLE,↓reduceIte]
      exact ⟨rfl,.refl (by rw [sd_step hc (2 * root + 1) (by simp [hcc]),hd];exact hr),by omega⟩
     |true =>
      simp (disch:=first|omega|(simp only[EVL]<;>omega)|(simp only[hget_c,Nat.reduceEqDiff,↓reduceIte];done)|assumption|(simp (disch:=omega) only[hg_ne,hg_eq,hgs_ne, *];done)|(simp only [rb_len];done)|with_unfolding_all rfl) only [unf b157_0.eq_1,c157,NA,w_xb,cmp_spec,hr',SR,ltB_eq,h1,h2,hb,hd,EVS,Nat.reduceAdd,Nat.reduceSub,Int.reduceToNat,Nat.reduceMul,Nat.reduceEqDiff,Nat.reduceLeDiff,Int.reduceEq,Int.reduceLT,Int.reduceLE,↓reduceIte]
      refine Ok_inL0 (Ok_mono (ih (2 * root + 1) (Go.Sort.swp d (F + root) (F + (2 * root + 1))) _ _ (by omega) (by omega) (by rw [sz_swp];exact hn) (hgs_eq hr)) fun x hq=>Ok_mono hq fun v hv=>?_)
      exact ⟨hv.1,by rw [sd_step hc (2 * root + 1) (by simp [hcc]),hd];exact (RowR.one hr).trans hv.2.1,by have:=hv.2.2;omega⟩
   ·have h2:decide (2 * root + 1 + 1 < hi)=false:=by simp;omega
    have hcc:¬ (2 * root + 1 + 1 < hi∧ltB d[F + (2 * root + 1)]! d[F + (2 * root + 1) + 1]! = true):=fun hh=>hc2 hh.1
    cases hd:ltB d[F + root]! d[F + (2 * root + 1)]! with
    |false =>
     simp (disch:=first|omega|(simp only[EVL]<;>omega)|(simp only[hget_c,Nat.reduceEqDiff,↓reduceIte];done)|assumption|(simp (disch:=omega) only[hg_ne,hg_eq,hgs_ne, *];done)|(simp only [rb_len];done)|with_unfolding_all rfl) only [unf b157_0.eq_1,c157,NA,w_xb,cmp_spec,hr',SR,ltB_eq,h1,h2,hd,EVS,Nat.reduceAdd,Nat.reduceSub,Int.reduceToNat,Nat.reduceMul,Nat.reduceEqDiff,Nat.reduceLeDiff,Int.reduceEq,Int.reduceLT,Int.reduceLE,↓reduceIte]
     exact ⟨rfl,.refl (by rw [sd_step hc (2 * root + 1) (by simp [hcc]),hd];exact hr),by omega⟩
    |true =>
     simp (disch:=first|omega|(simp only[EVL]<;>omega)|(simp only[hget_c,Nat.reduceEqDiff,↓reduceIte];done)|assumption|(simp (disch:=omega) only[hg_ne,hg_eq,hgs_ne, *];done)|(simp only [rb_len];done)|with_unfolding_all rfl) only [unf b157_0.eq_1,c157,NA,w_xb,cmp_spec,hr',SR,ltB_eq,h1,h2,hd,EVS,Nat.reduceAdd,Nat.reduceSub,Int.reduceToNat,Nat.reduceMul,Nat.reduceEqDiff,Nat.reduceLeDiff,Int.reduceEq,Int.reduceLT,Int.reduceLE,↓reduceIte]
     refine Ok_inL0 (Ok_mono (ih (2 * root + 1) (Go.Sort.swp d (F + root) (F + (2 * root + 1))) _ _ (by omega) (by omega) (by rw [sz_swp];exact hn) (hgs_eq hr)) fun x hq=>Ok_mono hq fun v hv=>?_)
     exact ⟨hv.1,by rw [sd_step hc (2 * root + 1) (by simp [hcc]),hd];exact (RowR.one hr).trans hv.2.1,by have:=hv.2.2;omega⟩
theorem sift_spec (id n lo hi F:Nat) (d:Array Bd) (hl:lo ≤ n) (hF:F + hi ≤ n) (hN:n ≤ 1000000) (hn:d.size=n) (h:Heap) (nx:Nat) (hr:hget h id=some (rowB d)) :
  ∃ r,lim T 157 [.sref 3 id n 0 n,.int .i64 lo,.int .i64 hi,.int .i64 F,.fn 67 []] h nx=some r∧r.1=.tup []∧RowR h id (Go.Sort.siftDown ltB hi F lo d) r.2.1∧nx ≤ r.2.2:=by
 refine shr_ex tg157 rfl rfl ?_
 simp (disch:=first|omega|(simp only[EVL]<;>omega)|(simp only[hget_c,Nat.reduceEqDiff,↓reduceIte];done)|assumption|(simp (disch:=omega) only[hg_ne,hg_eq,hgs_ne, *];done)|(simp only [rb_len];done)|with_unfolding_all rfl) only [c157,EVS,Nat.reduceAdd,Nat.reduceSub,Int.reduceToNat,Nat.reduceMul,Nat.reduceEqDiff,Nat.reduceLeDiff,Int.reduceEq,Int.reduceLT,Int.reduceLE,↓reduceIte]
 refine Ok_mono (sift_loop id n hi F hF hN hi lo d h _ (by omega) hl hn hr) fun x hq=>Ok_mono hq fun v hv=>?_
 exact ⟨hv.1,hv.2.1,by have:=hv.2.2;dsimp only;omega⟩
theorem build_loop (id n hi F:Nat) (hF:F + hi ≤ n) (hN:n ≤ 1000000) (Q:Post Out):∀ (k:Nat) (d:Array Bd) (h:Heap) (nx:Nat),k ≤ n→d.size=n→hget h id=some (rowB d) →
  (∀ h' nx' (m:Int),nx ≤ nx'→(Go.Sort.heapBuild ltB hi F k d).size=n→RowR h id (Go.Sort.heapBuild ltB hi F k d) h'→@Ok Out (runs T [.code k137_2] [(0,.sref 3 id n 0 n),(3,.fn 67 []),(8,.int .i64 F),(9,.int .i64 0),(10,.int .i64 hi),(11,.int .i64 m),(21,.bool false)] h' nx') Q) →
  @Ok Out (runs T [.code b137_0,.inL none b137_0,.inB 0,.code k137_2] [(0,.sref 3 id n 0 n),(3,.fn 67 []),(8,.int .i64 F),(9,.int .i64 0),(10,.int .i64 hi),(11,.int .i64 ((k:Int) - 1))] h nx) Q:=by
 intro k
 induction k with
 |zero =>
  intro d h nx hk hn hr next
  have e1:((0:Nat):Int) - 1=-1:=by omega
  have h1:decide ((0:Int) ≤ -1)=false:=by decide
  simp (disch:=first|omega|(simp only[EVL]<;>omega)|(simp only[hget_c,Nat.reduceEqDiff,↓reduceIte];done)|assumption|(simp (disch:=omega) only[hg_ne,hg_eq,hgs_ne, *];done)|(simp only [rb_len];done)|with_unfolding_all rfl) only [unf b137_0.eq_1,c137,e1,h1,EVS,Nat.reduceAdd,Nat.reduceSub,Int.reduceToNat,Nat.reduceMul,Nat.reduceEqDiff,Nat.reduceLeDiff,Int.reduceEq,Int.reduceLT,Int.reduceLE,↓reduceIte]
  exact next _ _ _ (by omega) hn (.refl hr)
 |succ k ih =>
  intro d h nx hk hn hr next
  have e1:((k + 1:Nat):Int) - 1=(k:Nat):=by omega
  have h1:decide ((0:Int) ≤ (k:Nat))=true:=by simp
  simp (disch:=first|omega|(simp only[EVL]<;>omega)|(simp only[hget_c,Nat.reduceEqDiff,↓reduceIte];done)|assumption|(simp (disch:=omega) only[hg_ne,hg_eq,hgs_ne, *];done)|(simp only [rb_len];done)|with_unfolding_all rfl) only [unf b137_0.eq_1,c137,e1,h1,EVS,Nat.reduceAdd,Nat.reduceSub,Int.reduceToNat,Nat.reduceMul,Nat.reduceEqDiff,Nat.reduceLeDiff,Int.reduceEq,Int.reduceLT,Int.reduceLE,↓reduceIte]
  refine Ok_call (sift_spec id n k hi F d (by omega) hF hN hn h _ hr) fun r hq=>?_
  obtain ⟨q1,q2,q3⟩:=hq
  have sz:=siftDown_size (lt:=ltB) (hi:=hi) (F:=F) (hi - k) k d (Nat.le_refl _)
  rw [q1]
  refine ⟨rfl,?_⟩
  simp (disch:=first|omega|(simp only[EVL]<;>omega)|(simp only[hget_c,Nat.reduceEqDiff,↓reduceIte];done)|assumption|(simp (disch:=omega) only[hg_ne,hg_eq,hgs_ne, *];done)|(simp only [rb_len];done)|with_unfolding_all rfl) only [c137,EVS,Nat.reduceAdd,Nat.reduceSub,Int.reduceToNat,Nat.reduceMul,Nat.reduceEqDiff,Nat.reduceLeDiff,Int.reduceEq,Int.reduceLT,Int.reduceLE,↓reduceIte]
  refine Ok_inL0 (ih _ _ _ (by omega) (by rw [sz];exact hn) q2.1 fun h' nx' m hm h1 h2=>next h' nx' m (by omega) h1 (q2.trans h2))
theorem pop_loop (id n F:Nat) (hF0:F ≤ n) (hN:n ≤ 1000000):∀ (k:Nat) (d:Array Bd) (h:Heap) (nx:Nat),F + k ≤ n→d.size=n→hget h id=some (rowB d) →
  @Ok Out (runs T [.code b137_1,.inL none b137_1,.inB 2] [(0,.sref 3 id n 0 n),(3,.fn 67 []),(8,.int .i64 F),(9,.int .i64 0),(12,.int .i64 ((k:Int) - 1))] h nx)
   ⟨fun x=>@Ok FV (finV c137.res x) ⟨fun v=>v=.tup []∧RowR h id (Go.Sort.heapPop ltB F k d) x.2.2.1∧nx ≤ x.2.2.2⟩⟩:=by
 intro k
 induction k with
 |zero =>
  intro d h nx hk hn hr
  have e1:((0:Nat):Int) - 1=-1:=by omega
  have h1:decide ((0:Int) ≤ -1)=false:=by decide
  simp (disch:=first|omega|(simp only[EVL]<;>omega)|(simp only[hget_c,Nat.reduceEqDiff,↓reduceIte];done)|assumption|(simp (disch:=omega) only[hg_ne,hg_eq,hgs_ne, *];done)|(simp only [rb_len];done)|with_unfolding_all rfl) only [unf b137_1.eq_1,c137,e1,h1,EVS,Nat.reduceAdd,Nat.reduceSub,Int.reduceToNat,Nat.reduceMul,Nat.reduceEqDiff,Nat.reduceLeDiff,Int.reduceEq,Int.reduceLT,Int.reduceLE,↓reduceIte]
  exact ⟨rfl,.refl hr,by omega⟩
 |succ k ih =>
  intro d h nx hk hn hr
  have e1:((k + 1:Nat):Int) - 1=(k:Nat):=by omega
  have h1:decide ((0:Int) ≤ (k:Nat))=true:=by simp
  have hr':=hr
  rw [row_of] at hr'
  have z0:(0:Int)=((0:Nat):Int):=rfl
  have zs:=sz_swp (d:=d) (i:=F) (j:=F + k)
  have hr2:RowR h id (Go.Sort.swp d F (F + k)) (hset h id (rowB (Go.Sort.swp d F (F + k)))):=RowR.one hr
  simp (disch:=first|omega|(simp only[EVL]<;>omega)|(simp only[hget_c,Nat.reduceEqDiff,↓reduceIte];done)|assumption|(simp (disch:=omega) only[hg_ne,hg_eq,hgs_ne, *];done)|(simp only [rb_len];done)|with_unfolding_all rfl) only [unf b137_1.eq_1,c137,e1,h1,na,hr',SR,EVS,Nat.reduceAdd,Nat.reduceSub,Int.reduceToNat,Nat.reduceMul,Nat.reduceEqDiff,Nat.reduceLeDiff,Int.reduceEq,Int.reduceLT,Int.reduceLE,↓reduceIte]
  refine Ok_call (sift_spec id n 0 k F (Go.Sort.swp d F (F + k)) (by omega) (by omega) hN (by omega) _ _ hr2.1) fun r hq=>?_
  obtain ⟨q1,q2,q3⟩:=hq
  have sz:=siftDown_size (lt:=ltB) (hi:=k) (F:=F) k 0 (Go.Sort.swp d F (F + k)) (by omega)
  rw [q1]
  refine ⟨rfl,?_⟩
  simp (disch:=first|omega|(simp only[EVL]<;>omega)|(simp only[hget_c,Nat.reduceEqDiff,↓reduceIte];done)|assumption|(simp (disch:=omega) only[hg_ne,hg_eq,hgs_ne, *];done)|(simp only [rb_len];done)|with_unfolding_all rfl) only [c137,EVS,Nat.reduceAdd,Nat.reduceSub,Int.reduceToNat,Nat.reduceMul,Nat.reduceEqDiff,Nat.reduceLeDiff,Int.reduceEq,Int.reduceLT,Int.reduceLE,↓reduceIte]
  refine Ok_inL0 (Ok_mono (ih _ _ _ (by omega) (by omega) q2.1) fun x hq=>Ok_mono hq fun v hv=>?_)
  exact ⟨hv.1,(hr2.trans q2).trans hv.2.1,by have:=hv.2.2;omega⟩
theorem heap_spec (id n a b:Nat) (d:Array Bd) (ha:a < b) (hb:b ≤ n) (hN:n ≤ 1000000) (hn:d.size=n) (h:Heap) (nx:Nat) (hr:hget h id=some (rowB d)) :
  ∃ r,lim T 137 [.sref 3 id n 0 n,.int .i64 a,.int .i64 b,.fn 67 []] h nx=some r∧r.1=.tup []∧RowN id (Go.Sort.heapSort ltB d a b) h nx r.2.1 r.2.2:=by
 refine shr_ex tg137 rfl rfl ?_
 have e2:(b:Int) - a=((b - a:Nat):Int):=by omega
 have e3:((b - a:Nat):Int) - 1=((b - a - 1:Nat):Int):=by omega
 have e4:((b - a - 1:Nat):Int).tdiv 2=(((b - a - 1) / 2 + 1:Nat):Int) - 1:=by rw [Int.tdiv_eq_ediv_of_nonneg (by omega)];omega
 simp (disch:=first|omega|(simp only[EVL]<;>omega)|(simp only[hget_c,Nat.reduceEqDiff,↓reduceIte];done)|assumption|(simp (disch:=omega) only[hg_ne,hg_eq,hgs_ne, *];done)|(simp only [rb_len];done)|with_unfolding_all rfl) only [c137,e2,e3,e4,EVS,Nat.reduceAdd,Nat.reduceSub,Int.reduceToNat,Nat.reduceMul,Nat.reduceEqDiff,Nat.reduceLeDiff,Int.reduceEq,Int.reduceLT,Int.reduceLE,↓reduceIte]
 refine build_loop id n (b - a) a (by omega) hN _ ((b - a - 1) / 2 + 1) d h _ (by omega) hn hr fun h' nx' m hm s1 s2=>?_
 simp (disch:=first|omega|(simp only[EVL]<;>omega)|(simp only[hget_c,Nat.reduceEqDiff,↓reduceIte];done)|assumption|(simp (disch:=omega) only[hg_ne,hg_eq,hgs_ne, *];done)|(simp only [rb_len];done)|with_unfolding_all rfl) only [c137,unf k137_2.eq_1,EVS,Nat.reduceAdd,Nat.reduceSub,Int.reduceToNat,Nat.reduceMul,Nat.reduceEqDiff,Nat.reduceLeDiff,Int.reduceEq,Int.reduceLT,Int.reduceLE,↓reduceIte]
 refine Ok_mono (pop_loop id n a (by omega) hN (b - a) _ _ _ (by omega) s1 s2.1) fun x hq=>Ok_mono hq fun v hv=>?_
 exact ⟨hv.1,(s2.trans hv.2.1).n (by have:=hv.2.2;dsimp only;omega)⟩

theorem rev_loop (id n:Nat) (hN:n ≤ 1000000):∀ (k i j:Nat) (d:Array Bd) (h:Heap) (nx:Nat),j - i ≤ k→j < n→d.size=n→i ≤ n→hget h id=some (rowB d) →
  @Ok Out (runs T [.code b140_0,.inL none b140_0,.inB 0] [(0,.sref 3 id n 0 n),(8,.int .i64 i),(9,.int .i64 j)] h nx)
   ⟨fun x=>@Ok FV (finV c140.res x) ⟨fun v=>v=.tup []∧RowR h id (Go.Sort.reverseLoop i j d) x.2.2.1∧nx ≤ x.2.2.2⟩⟩:=by
 intro k
 induction k with
 |zero =>
  intro i j d h nx hk hj hn hi hr
  have h1:decide (i < j)=false:=by simp;omega
  simp (disch:=first|omega|(simp only[EVL]<;>omega)|(simp only[hget_c,Nat.reduceEqDiff,↓reduceIte];done)|assumption|(simp (disch:=omega) only[hg_ne,hg_eq,hgs_ne, *];done)|(simp only [rb_len];done)|with_unfolding_all rfl) only [unf b140_0.eq_1,c140,nlt,h1,EVS,Nat.reduceAdd,Nat.reduceSub,Int.reduceToNat,Nat.reduceMul,Nat.reduceEqDiff,Nat.reduceLeDiff,Int.reduceEq,Int.reduceLT,Int.reduceLE,↓reduceIte]
  exact ⟨rfl,.refl (by rw [Go.Sort.reverseLoop,if_neg (by omega)];exact hr),by omega⟩
 |succ k ih =>
  intro i j d h nx hk hj hn hi hr
  by_cases hc:i < j
  ·have h1:decide (i < j)=true:=by simp;omega
   have e1:(j:Int) - 1=((j - 1:Nat):Int):=by omega
   have hr':=hr
   rw [row_of] at hr'
   simp (disch:=first|omega|(simp only[EVL]<;>omega)|(simp only[hget_c,Nat.reduceEqDiff,↓reduceIte];done)|assumption|(simp (disch:=omega) only[hg_ne,hg_eq,hgs_ne, *];done)|(simp only [rb_len];done)|with_unfolding_all rfl) only [unf b140_0.eq_1,c140,nlt,na1,e1,h1,hr',SR,EVS,Nat.reduceAdd,Nat.reduceSub,Int.reduceToNat,Nat.reduceMul,Nat.reduceEqDiff,Nat.reduceLeDiff,Int.reduceEq,Int.reduceLT,Int.reduceLE,↓reduceIte]
   refine Ok_inL0 (Ok_mono (ih (i + 1) (j - 1) (Go.Sort.swp d i j) _ _ (by omega) (by omega) (by rw [sz_swp];exact hn) (by omega) (hgs_eq hr)) fun x hq=>Ok_mono hq fun v hv=>?_)
   exact ⟨hv.1,by rw [Go.Sort.reverseLoop,if_pos hc];exact (RowR.one hr).trans hv.2.1,by have:=hv.2.2;omega⟩
  ·have h1:decide (i < j)=false:=by simp;omega
   simp (disch:=first|omega|(simp only[EVL]<;>omega)|(simp only[hget_c,Nat.reduceEqDiff,↓reduceIte];done)|assumption|(simp (disch:=omega) only[hg_ne,hg_eq,hgs_ne, *];done)|(simp only [rb_len];done)|with_unfolding_all rfl) only [unf b140_0.eq_1,c140,nlt,h1,EVS,Nat.reduceAdd,Nat.reduceSub,Int.reduceToNat,Nat.reduceMul,Nat.reduceEqDiff,Nat.reduceLeDiff,Int.reduceEq,Int.reduceLT,Int.reduceLE,↓reduceIte]
   exact ⟨rfl,.refl (by rw [Go.Sort.reverseLoop,if_neg (by omega)];exact hr),by omega⟩
theorem rev_spec (id n a b:Nat) (f:FV) (d:Array Bd) (ha:a < b) (hb:b ≤ n) (hN:n ≤ 1000000) (hn:d.size=n) (h:Heap) (nx:Nat) (hr:hget h id=some (rowB d)) :
  ∃ r,lim T 140 [.sref 3 id n 0 n,.int .i64 a,.int .i64 b,f] h nx=some r∧r.1=.tup []∧RowN id (Go.Sort.reverseRange d a b) h nx r.2.1 r.2.2:=by
 refine shr_ex tg140 rfl rfl ?_
 have e1:(b:Int) - 1=((b - 1:Nat):Int):=by omega
 simp (disch:=first|omega|(simp only[EVL]<;>omega)|(simp only[hget_c,Nat.reduceEqDiff,↓reduceIte];done)|assumption|(simp (disch:=omega) only[hg_ne,hg_eq,hgs_ne, *];done)|(simp only [rb_len];done)|with_unfolding_all rfl) only [c140,e1,EVS,Nat.reduceAdd,Nat.reduceSub,Int.reduceToNat,Nat.reduceMul,Nat.reduceEqDiff,Nat.reduceLeDiff,Int.reduceEq,Int.reduceLT,Int.reduceLE,↓reduceIte]
 refine Ok_mono (rev_loop id n hN (b - 1 - a) a (b - 1) d h _ (by omega) (by omega) hn (by omega) hr) fun x hq=>Ok_mono hq fun v hv=>?_
 exact ⟨hv.1,hv.2.1.n (by have:=hv.2.2;dsimp only;omega)⟩
theorem ord2_spec (id n a b q:Nat) (d:Array Bd) (ha:a < n) (hb:b < n) (hN:n ≤ 1000000) (hn:d.size=n) (h:Heap) (nx:Nat) (s:Int) (hr:hget h id=some (rowB d)) (hs:hget h q=some (.row 1 [.int .i64 s])) :
  ∃ r,lim T 170 [.sref 3 id n 0 n,.int .i64 a,.int .i64 b,.ptr q 1 0 0,.fn 67 []] h nx=some r∧(∃ x y:Nat,r.1=.tup [.int .i64 x,.int .i64 y]∧(x=a ∨ x=b)∧(y=a ∨ y=b))∧CntR h q r.2.1∧nx ≤ r.2.2:=by
 refine shr_ex tg170 rfl rfl ?_
 have hr':=hr
 rw [row_of] at hr'
 cases hb':ltB d[b]! d[a]! with
 |true =>
  simp (disch:=first|omega|(simp only[EVL]<;>omega)|(simp only[hget_c,Nat.reduceEqDiff,↓reduceIte];done)|assumption|(simp (disch:=omega) only[hg_ne,hg_eq,hgs_ne, *];done)|(simp only [rb_len];done)|with_unfolding_all rfl) only [c170,cmp_spec,hr',SR,ltB_eq,hb',hs,EVS,Nat.reduceAdd,Nat.reduceSub,Int.reduceToNat,Nat.reduceMul,Nat.reduceEqDiff,Nat.reduceLeDiff,Int.reduceEq,Int.reduceLT,Int.reduceLE,↓reduceIte]
  exact ⟨⟨b,a,rfl,.inr rfl,.inl rfl⟩,⟨⟨_,hgs_eq hs⟩,fun i hi=>hgs_ne (Ne.symm hi)⟩,by omega⟩
 |false =>
  simp (disch:=first|omega|(simp only[EVL]<;>omega)|(simp only[hget_c,Nat.reduceEqDiff,↓reduceIte];done)|assumption|(simp (disch:=omega) only[hg_ne,hg_eq,hgs_ne, *];done)|(simp only [rb_len];done)|with_unfolding_all rfl) only [c170,cmp_spec,hr',SR,ltB_eq,hb',hs,EVS,Nat.reduceAdd,Nat.reduceSub,Int.reduceToNat,Nat.reduceMul,Nat.reduceEqDiff,Nat.reduceLeDiff,Int.reduceEq,Int.reduceLT,Int.reduceLE,↓reduceIte]
  exact ⟨⟨a,b,rfl,.inl rfl,.inr rfl⟩,⟨⟨s,hs⟩,fun i hi=>rfl⟩,by omega⟩
theorem med_spec (id n a b c q:Nat) (d:Array Bd) (ha:a < n) (hb:b < n) (hc:c < n) (hN:n ≤ 1000000) (hn:d.size=n) (hq:q ≠ id) (h:Heap) (nx:Nat) (s:Int) (hr:hget h id=some (rowB d)) (hs:hget h q=some (.row 1 [.int .i64 s])) :
  ∃ r,lim T 161 [.sref 3 id n 0 n,.int .i64 a,.int .i64 b,.int .i64 c,.ptr q 1 0 0,.fn 67 []] h nx=some r∧(∃ x:Nat,r.1=.int .i64 x∧(x=a ∨ x=b ∨ x=c))∧CntR h q r.2.1∧nx ≤ r.2.2:=by
 refine shr_ex tg161 rfl rfl ?_
 simp (disch:=first|omega|(simp only[EVL]<;>omega)|(simp only[hget_c,Nat.reduceEqDiff,↓reduceIte];done)|assumption|(simp (disch:=omega) only[hg_ne,hg_eq,hgs_ne, *];done)|(simp only [rb_len];done)|with_unfolding_all rfl) only [c161,EVS,Nat.reduceAdd,Nat.reduceSub,Int.reduceToNat,Nat.reduceMul,Nat.reduceEqDiff,Nat.reduceLeDiff,Int.reduceEq,Int.reduceLT,Int.reduceLE,↓reduceIte]
 refine Ok_call (ord2_spec id n a b q d ha hb hN hn h _ s hr hs) fun r hr1=>?_
 obtain ⟨⟨x1,y1,p1,p2,p3⟩,⟨⟨s1,t1⟩,u1⟩,v1⟩:=hr1
 rw [p1]
 refine ⟨rfl,?_⟩
 simp (disch:=first|omega|(simp only[EVL]<;>omega)|(simp only[hget_c,Nat.reduceEqDiff,↓reduceIte];done)|assumption|(simp (disch:=omega) only[hg_ne,hg_eq,hgs_ne, *];done)|(simp only [rb_len];done)|with_unfolding_all rfl) only [c161,EVS,Nat.reduceAdd,Nat.reduceSub,Int.reduceToNat,Nat.reduceMul,Nat.reduceEqDiff,Nat.reduceLeDiff,Int.reduceEq,Int.reduceLT,Int.reduceLE,↓reduceIte]
 refine Ok_call (ord2_spec id n y1 c q d (by omega) hc hN hn _ _ s1 ((u1 id (Ne.symm hq)).trans hr) t1) fun r2 hr2=>?_
 obtain ⟨⟨x2,y2,p4,p5,p6⟩,⟨⟨s2,t2⟩,u2⟩,v2⟩:=hr2
 rw [p4]
 refine ⟨rfl,?_⟩
 simp (disch:=first|omega|(simp only[EVL]<;>omega)|(simp only[hget_c,Nat.reduceEqDiff,↓reduceIte];done)|assumption|(simp (disch:=omega) only[hg_ne,hg_eq,hgs_ne, *];done)|(simp only [rb_len];done)|with_unfolding_all rfl) only [c161,EVS,Nat.reduceAdd,Nat.reduceSub,Int.reduceToNat,Nat.reduceMul,Nat.reduceEqDiff,Nat.reduceLeDiff,Int.reduceEq,Int.reduceLT,Int.reduceLE,↓reduceIte]
 refine Ok_call (ord2_spec id n x1 x2 q d (by omega) (by omega) hN hn _ _ s2 ((u2 id (Ne.symm hq)).trans ((u1 id (Ne.symm hq)).trans hr)) t2) fun r3 hr3=>?_
 obtain ⟨⟨x3,y3,p7,p8,p9⟩,⟨⟨s3,t3⟩,u3⟩,v3⟩:=hr3
 rw [p7]
 refine ⟨rfl,?_⟩
 simp (disch:=first|omega|(simp only[EVL]<;>omega)|(simp only[hget_c,Nat.reduceEqDiff,↓reduceIte];done)|assumption|(simp (disch:=omega) only[hg_ne,hg_eq,hgs_ne, *];done)|(simp only [rb_len];done)|with_unfolding_all rfl) only [c161,EVS,Nat.reduceAdd,Nat.reduceSub,Int.reduceToNat,Nat.reduceMul,Nat.reduceEqDiff,Nat.reduceLeDiff,Int.reduceEq,Int.reduceLT,Int.reduceLE,↓reduceIte]
 exact ⟨⟨y3,rfl,by omega⟩,⟨⟨s3,t3⟩,fun i hi=>(u3 i hi).trans ((u2 i hi).trans (u1 i hi))⟩,by omega⟩
theorem medA_spec (id n a q:Nat) (d:Array Bd) (ha:1 ≤ a) (hb:a + 1 < n) (hN:n ≤ 1000000) (hn:d.size=n) (hq:q ≠ id) (h:Heap) (nx:Nat) (s:Int) (hr:hget h id=some (rowB d)) (hs:hget h q=some (.row 1 [.int .i64 s])) :
  ∃ r,lim T 160 [.sref 3 id n 0 n,.int .i64 a,.ptr q 1 0 0,.fn 67 []] h nx=some r∧(∃ x:Nat,r.1=.int .i64 x∧(x=a - 1 ∨ x=a ∨ x=a + 1))∧CntR h q r.2.1∧nx ≤ r.2.2:=by
 refine shr_ex tg160 rfl rfl ?_
 have e1:(a:Int) - 1=((a - 1:Nat):Int):=by omega
 simp (disch:=first|omega|(simp only[EVL]<;>omega)|(simp only[hget_c,Nat.reduceEqDiff,↓reduceIte];done)|assumption|(simp (disch:=omega) only[hg_ne,hg_eq,hgs_ne, *];done)|(simp only [rb_len];done)|with_unfolding_all rfl) only [c160,e1,na1,EVS,Nat.reduceAdd,Nat.reduceSub,Int.reduceToNat,Nat.reduceMul,Nat.reduceEqDiff,Nat.reduceLeDiff,Int.reduceEq,Int.reduceLT,Int.reduceLE,↓reduceIte]
 refine Ok_call (med_spec id n (a - 1) a (a + 1) q d (by omega) (by omega) hb hN hn hq h _ s hr hs) fun r hr1=>?_
 obtain ⟨⟨x1,p1,p2⟩,c1,v1⟩:=hr1
 rw [p1]
 refine ⟨rfl,?_⟩
 simp (disch:=first|omega|(simp only[EVL]<;>omega)|(simp only[hget_c,Nat.reduceEqDiff,↓reduceIte];done)|assumption|(simp (disch:=omega) only[hg_ne,hg_eq,hgs_ne, *];done)|(simp only [rb_len];done)|with_unfolding_all rfl) only [c160,EVS,Nat.reduceAdd,Nat.reduceSub,Int.reduceToNat,Nat.reduceMul,Nat.reduceEqDiff,Nat.reduceLeDiff,Int.reduceEq,Int.reduceLT,Int.reduceLE,↓reduceIte]
 exact ⟨⟨x1,rfl,p2⟩,c1,by omega⟩

theorem choose_spec (id n a b:Nat) (d:Array Bd) (hab:a < b) (hb:b ≤ n) (hN:n ≤ 1000000) (hn:d.size=n) (h:Heap) (nx:Nat) (hid:id < nx) (hr:hget h id=some (rowB d)) :
  ∃ r,lim T 139 [.sref 3 id n 0 n,.int .i64 a,.int .i64 b,.fn 67 []] h nx=some r∧(∃ (p:Nat) (t:Int),r.1=.tup [.int .i64 p,.int .i64 t]∧a ≤ p∧p < b)∧RowN id d h nx r.2.1 r.2.2:=by
 refine shr_ex tg139 rfl rfl ?_
 have e1:(b:Int) - a=((b - a:Nat):Int):=by omega
 have e2:((b - a:Nat):Int).tdiv 4=(((b - a) / 4:Nat):Int):=by rw [Int.tdiv_eq_ediv_of_nonneg (by omega)];omega
 have e3:∀ x:Nat,((x:Nat):Int) * 1=((x * 1:Nat):Int):=fun x=>by omega
 have e4:∀ x:Nat,((x:Nat):Int) * 2=((x * 2:Nat):Int):=fun x=>by omega
 have e5:∀ x:Nat,((x:Nat):Int) * 3=((x * 3:Nat):Int):=fun x=>by omega
 by_cases h8:8 ≤ b - a
 ·have d8:decide ((8:Int) ≤ ((b - a:Nat):Int))=true:=by simp;omega
  by_cases h50:50 ≤ b - a
  ·have d50:decide ((50:Int) ≤ ((b - a:Nat):Int))=true:=by simp;omega
   simp (disch:=first|omega|(simp only[EVL]<;>omega)|(simp only[hget_c,Nat.reduceEqDiff,↓reduceIte];done)|assumption|(simp (disch:=omega) only[hg_ne,hg_eq,hgs_ne, *];done)|(simp only [rb_len];done)|with_unfolding_all rfl) only [c139,e1,e2,e3,e4,e5,na,d8,d50,EVS,Nat.reduceAdd,Nat.reduceSub,Int.reduceToNat,Nat.reduceMul,Nat.reduceEqDiff,Nat.reduceLeDiff,Int.reduceEq,Int.reduceLT,Int.reduceLE,↓reduceIte]
   have r0:hget ((nx + 2 + 4,Obj.row 1 [FV.int IntKind.i64 0])::h) id=some (rowB d):=by rw [hg_ne (by omega)];exact hr
   refine Ok_call (medA_spec id n (a + (b - a) / 4 * 1) (nx + 2 + 4) d (by omega) (by omega) hN hn (by omega) _ _ _ r0 hg_eq) fun r hr1=>?_
   obtain ⟨⟨x1,p1,q1⟩,⟨⟨s1,t1⟩,u1⟩,v1⟩:=hr1
   rw [p1]
   refine ⟨rfl,?_⟩
   have r1:=(u1 id (by omega)).trans r0
   simp (disch:=first|omega|(simp only[EVL]<;>omega)|(simp only[hget_c,Nat.reduceEqDiff,↓reduceIte];done)|assumption|(simp (disch:=omega) only[hg_ne,hg_eq,hgs_ne, *];done)|(simp only [rb_len];done)|with_unfolding_all rfl) only [c139,EVS,Nat.reduceAdd,Nat.reduceSub,Int.reduceToNat,Nat.reduceMul,Nat.reduceEqDiff,Nat.reduceLeDiff,Int.reduceEq,Int.reduceLT,Int.reduceLE,↓reduceIte]
   refine Ok_call (medA_spec id n (a + (b - a) / 4 * 2) (nx + 2 + 4) d (by omega) (by omega) hN hn (by omega) _ _ _ r1 t1) fun r hr1=>?_
   obtain ⟨⟨x2,p2,q2⟩,⟨⟨s2,t2⟩,u2⟩,v2⟩:=hr1
   rw [p2]
   refine ⟨rfl,?_⟩
   have r2:=(u2 id (by omega)).trans r1
   simp (disch:=first|omega|(simp only[EVL]<;>omega)|(simp only[hget_c,Nat.reduceEqDiff,↓reduceIte];done)|assumption|(simp (disch:=omega) only[hg_ne,hg_eq,hgs_ne, *];done)|(simp only [rb_len];done)|with_unfolding_all rfl) only [c139,EVS,Nat.reduceAdd,Nat.reduceSub,Int.reduceToNat,Nat.reduceMul,Nat.reduceEqDiff,Nat.reduceLeDiff,Int.reduceEq,Int.reduceLT,Int.reduceLE,↓reduceIte]
   refine Ok_call (medA_spec id n (a + (b - a) / 4 * 3) (nx + 2 + 4) d (by omega) (by omega) hN hn (by omega) _ _ _ r2 t2) fun r hr1=>?_
   obtain ⟨⟨x3,p3,q3⟩,⟨⟨s3,t3⟩,u3⟩,v3⟩:=hr1
   rw [p3]
   refine ⟨rfl,?_⟩
   have r3:=(u3 id (by omega)).trans r2
   simp (disch:=first|omega|(simp only[EVL]<;>omega)|(simp only[hget_c,Nat.reduceEqDiff,↓reduceIte];done)|assumption|(simp (disch:=omega) only[hg_ne,hg_eq,hgs_ne, *];done)|(simp only [rb_len];done)|with_unfolding_all rfl) only [c139,EVS,Nat.reduceAdd,Nat.reduceSub,Int.reduceToNat,Nat.reduceMul,Nat.reduceEqDiff,Nat.reduceLeDiff,Int.reduceEq,Int.reduceLT,Int.reduceLE,↓reduceIte]
   refine Ok_call (med_spec id n x1 x2 x3 (nx + 2 + 4) d (by omega) (by omega) (by omega) hN hn (by omega) _ _ _ r3 t3) fun r hr1=>?_
   obtain ⟨⟨x4,p4,q4⟩,⟨⟨s4,t4⟩,u4⟩,v4⟩:=hr1
   rw [p4]
   refine ⟨rfl,?_⟩
   simp (disch:=first|omega|(simp only[EVL]<;>omega)|(simp only[hget_c,Nat.reduceEqDiff,↓reduceIte];done)|assumption|(simp (disch:=omega) only[hg_ne,hg_eq,hgs_ne, *];done)|(simp only [rb_len];done)|with_unfolding_all rfl) only [c139,t4,EVS,Nat.reduceAdd,Nat.reduceSub,Int.reduceToNat,Nat.reduceMul,Nat.reduceEqDiff,Nat.reduceLeDiff,Int.reduceEq,Int.reduceLT,Int.reduceLE,↓reduceIte]
   have F:∀ t:Int,(∃ (p:Nat) (t':Int),FV.tup [.int .i64 x4,.int .i64 t]=.tup [.int .i64 p,.int .i64 t']∧a ≤ p∧p < b):=fun t=>⟨x4,t,rfl,by omega,by omega⟩
   have G:∀ i,i < nx→i ≠ id→hget r.2.1 i=hget h i:=fun i hi _=>(u4 i (by omega)).trans ((u3 i (by omega)).trans ((u2 i (by omega)).trans ((u1 i (by omega)).trans (hg_ne (by omega)))))
   have R4:=(u4 id (by omega)).trans r3
   by_cases g1:s4=0
   ·simp (disch:=first|omega|(simp only[EVL]<;>omega)|(simp only[hget_c,Nat.reduceEqDiff,↓reduceIte];done)|assumption|(simp (disch:=omega) only[hg_ne,hg_eq,hgs_ne, *];done)|(simp only [rb_len];done)|with_unfolding_all rfl) only [c139,g1,EVS,Nat.reduceAdd,Nat.reduceSub,Int.reduceToNat,Nat.reduceMul,Nat.reduceEqDiff,Nat.reduceLeDiff,Int.reduceEq,Int.reduceLT,Int.reduceLE,↓reduceIte]
    exact ⟨F _,R4,by omega,G⟩
   ·by_cases g2:s4=12
    ·simp (disch:=first|omega|(simp only[EVL]<;>omega)|(simp only[hget_c,Nat.reduceEqDiff,↓reduceIte];done)|assumption|(simp (disch:=omega) only[hg_ne,hg_eq,hgs_ne, *];done)|(simp only [rb_len];done)|with_unfolding_all rfl) only [c139,g1,g2,EVS,Nat.reduceAdd,Nat.reduceSub,Int.reduceToNat,Nat.reduceMul,Nat.reduceEqDiff,Nat.reduceLeDiff,Int.reduceEq,Int.reduceLT,Int.reduceLE,↓reduceIte]
     exact ⟨F _,R4,by omega,G⟩
    ·simp (disch:=first|omega|(simp only[EVL]<;>omega)|(simp only[hget_c,Nat.reduceEqDiff,↓reduceIte];done)|assumption|(simp (disch:=omega) only[hg_ne,hg_eq,hgs_ne, *];done)|(simp only [rb_len];done)|with_unfolding_all rfl) only [c139,g1,g2,EVS,Nat.reduceAdd,Nat.reduceSub,Int.reduceToNat,Nat.reduceMul,Nat.reduceEqDiff,Nat.reduceLeDiff,Int.reduceEq,Int.reduceLT,Int.reduceLE,↓reduceIte]
     exact ⟨F _,R4,by omega,G⟩
  ·have d50:decide ((50:Int) ≤ ((b - a:Nat):Int))=false:=by simp;omega
   simp (disch:=first|omega|(simp only[EVL]<;>omega)|(simp only[hget_c,Nat.reduceEqDiff,↓reduceIte];done)|assumption|(simp (disch:=omega) only[hg_ne,hg_eq,hgs_ne, *];done)|(simp only [rb_len];done)|with_unfolding_all rfl) only [c139,e1,e2,e3,e4,e5,na,d8,d50,EVS,Nat.reduceAdd,Nat.reduceSub,Int.reduceToNat,Nat.reduceMul,Nat.reduceEqDiff,Nat.reduceLeDiff,Int.reduceEq,Int.reduceLT,Int.reduceLE,↓reduceIte]
   have r0:hget ((nx + 2 + 4,Obj.row 1 [FV.int IntKind.i64 0])::h) id=some (rowB d):=by rw [hg_ne (by omega)];exact hr
   refine Ok_call (med_spec id n (a + (b - a) / 4 * 1) (a + (b - a) / 4 * 2) (a + (b - a) / 4 * 3) (nx + 2 + 4) d (by omega) (by omega) (by omega) hN hn (by omega) _ _ _ r0 hg_eq) fun r hr1=>?_
   obtain ⟨⟨x4,p4,q4⟩,⟨⟨s4,t4⟩,u4⟩,v4⟩:=hr1
   rw [p4]
   refine ⟨rfl,?_⟩
   simp (disch:=first|omega|(simp only[EVL]<;>omega)|(simp only[hget_c,Nat.reduceEqDiff,↓reduceIte];done)|assumption|(simp (disch:=omega) only[hg_ne,hg_eq,hgs_ne, *];done)|(simp only [rb_len];done)|with_unfolding_all rfl) only [c139,t4,EVS,Nat.reduceAdd,Nat.reduceSub,Int.reduceToNat,Nat.reduceMul,Nat.reduceEqDiff,Nat.reduceLeDiff,Int.reduceEq,Int.reduceLT,Int.reduceLE,↓reduceIte]
   have F:∀ t:Int,(∃ (p:Nat) (t':Int),FV.tup [.int .i64 x4,.int .i64 t]=.tup [.int .i64 p,.int .i64 t']∧a ≤ p∧p < b):=fun t=>⟨x4,t,rfl,by omega,by omega⟩
   have G:∀ i,i < nx→i ≠ id→hget r.2.1 i=hget h i:=fun i hi _=>(u4 i (by omega)).trans (hg_ne (by omega))
   have R4:=(u4 id (by omega)).trans r0
   by_cases g1:s4=0
   ·simp (disch:=first|omega|(simp only[EVL]<;>omega)|(simp only[hget_c,Nat.reduceEqDiff,↓reduceIte];done)|assumption|(simp (disch:=omega) only[hg_ne,hg_eq,hgs_ne, *];done)|(simp only [rb_len];done)|with_unfolding_all rfl) only [c139,g1,EVS,Nat.reduceAdd,Nat.reduceSub,Int.reduceToNat,Nat.reduceMul,Nat.reduceEqDiff,Nat.reduceLeDiff,Int.reduceEq,Int.reduceLT,Int.reduceLE,↓reduceIte]
    exact ⟨F _,R4,by omega,G⟩
   ·by_cases g2:s4=12
    ·simp (disch:=first|omega|(simp only[EVL]<;>omega)|(simp only[hget_c,Nat.reduceEqDiff,↓reduceIte];done)|assumption|(simp (disch:=omega) only[hg_ne,hg_eq,hgs_ne, *];done)|(simp only [rb_len];done)|with_unfolding_all rfl) only [c139,g1,g2,EVS,Nat.reduceAdd,Nat.reduceSub,Int.reduceToNat,Nat.reduceMul,Nat.reduceEqDiff,Nat.reduceLeDiff,Int.reduceEq,Int.reduceLT,Int.reduceLE,↓reduceIte]
     exact ⟨F _,R4,by omega,G⟩
    ·simp (disch:=first|omega|(simp only[EVL]<;>omega)|(simp only[hget_c,Nat.reduceEqDiff,↓reduceIte];done)|assumption|(simp (disch:=omega) only[hg_ne,hg_eq,hgs_ne, *];done)|(simp only [rb_len];done)|with_unfolding_all rfl) only [c139,g1,g2,EVS,Nat.reduceAdd,Nat.reduceSub,Int.reduceToNat,Nat.reduceMul,Nat.reduceEqDiff,Nat.reduceLeDiff,Int.reduceEq,Int.reduceLT,Int.reduceLE,↓reduceIte]
     exact ⟨F _,R4,by omega,G⟩
 ·have d8:decide ((8:Int) ≤ ((b - a:Nat):Int))=false:=by simp;omega
  simp (disch:=first|omega|(simp only[EVL]<;>omega)|(simp only[hget_c,Nat.reduceEqDiff,↓reduceIte];done)|assumption|(simp (disch:=omega) only[hg_ne,hg_eq,hgs_ne, *];done)|(simp only [rb_len];done)|with_unfolding_all rfl) only [c139,e1,e2,e3,e4,e5,na,d8,EVS,Nat.reduceAdd,Nat.reduceSub,Int.reduceToNat,Nat.reduceMul,Nat.reduceEqDiff,Nat.reduceLeDiff,Int.reduceEq,Int.reduceLT,Int.reduceLE,↓reduceIte]
  exact ⟨⟨_,_,rfl,by omega,by omega⟩,by rw [hg_ne (by omega)];exact hr,by omega,fun i hi _=>hg_ne (by omega)⟩

theorem xor_spec (q:Nat) (x:Int) (h:Heap) (nx:Nat) (hs:hget h q=some (.row 1 [.int .u64 x])) :
  ∃ r,lim T 159 [.ptr q 1 0 0] h nx=some r∧(∃ y:Int,r.1=.int .u64 y∧hget r.2.1 q=some (.row 1 [.int .u64 y]))∧(∀ i,i ≠ q→hget r.2.1 i=hget h i)∧nx ≤ r.2.2:=by
 refine shr_ex tg159 rfl rfl ?_
 simp (disch:=first|omega|(simp only[EVL]<;>omega)|(simp only[hget_c,Nat.reduceEqDiff,↓reduceIte];done)|assumption|(simp (disch:=omega) only[hg_ne,hg_eq,hgs_ne, *];done)|(simp only [rb_len];done)|with_unfolding_all rfl) only [c159,hs,SR,EVS,Nat.reduceAdd,Nat.reduceSub,Int.reduceToNat,Nat.reduceMul,Nat.reduceEqDiff,Nat.reduceLeDiff,Int.reduceEq,Int.reduceLT,Int.reduceLE,↓reduceIte]
 exact ⟨⟨_,rfl,rfl⟩,fun i hi=>hgs_ne (Ne.symm hi),by omega⟩

theorem up0 (id n a:Nat) (d:Array Bd) (h:Heap) (ha:a < n) (hN:n ≤ 1000000) (hn:d.size=n) (hr:hget h id=some (rowB d)) (rest:List I) (Q:Post Out):∀ (k i j:Nat) (nx:Nat) (x:Tm),j < n→j + 1 - i ≤ k→i ≤ n + 1 →
  (∀ nx':Nat,nx ≤ nx'→@Ok Out (runs T (.code k143_9::rest) [(0,.sref 3 id n 0 n),(1,.int .i64 a),(4,.fn 67 []),(12,.int .i64 (Go.Sort.scanUp (fun x=>ltB x d[a]!) d j i:Nat)),(13,.int .i64 j),(47,.bool false)] h nx') Q) →
  @Ok Out (runs T (.code b143_0::.inL none b143_0::.inB 0::.code k143_9::rest) ((0,.sref 3 id n 0 n)::(1,.int .i64 a)::(4,.fn 67 [])::(12,.int .i64 i)::(13,.int .i64 j)::x) h nx) Q:=by
 have hr':=hr
 rw [row_of] at hr'
 intro k
 induction k with
 |zero =>
  intro i j nx x hj hk hi next
  have h1:decide (i ≤ j)=false:=by simp;omega
  rw [scanUp_o (by omega)] at next
  simp (disch:=first|omega|(simp only[EVL]<;>omega)|(simp only[hget_c,Nat.reduceEqDiff,↓reduceIte];done)|assumption|(simp (disch:=omega) only[hg_ne,hg_eq,hgs_ne, *];done)|(simp only [rb_len];done)|with_unfolding_all rfl) only [unf b143_0.eq_1,c143,nle,h1,EVS,Nat.reduceAdd,Nat.reduceSub,Int.reduceToNat,Nat.reduceMul,Nat.reduceEqDiff,Nat.reduceLeDiff,Int.reduceEq,Int.reduceLT,Int.reduceLE,↓reduceIte]
  exact next _ (by omega)
 |succ k ih =>
  intro i j nx x hj hk hi next
  by_cases hc:i ≤ j
  ·have h1:decide (i ≤ j)=true:=by simp;omega
   cases hb:ltB d[i]! d[a]! with
   |true =>
    rw [scanUp_p hc (by simp [hb])] at next
    simp (disch:=first|omega|(simp only[EVL]<;>omega)|(simp only[hget_c,Nat.reduceEqDiff,↓reduceIte];done)|assumption|(simp (disch:=omega) only[hg_ne,hg_eq,hgs_ne, *];done)|(simp only [rb_len];done)|with_unfolding_all rfl) only [unf b143_0.eq_1,c143,nle,na1,h1,cmp_spec,hr',SR,ltB_eq,hb,EVS,Nat.reduceAdd,Nat.reduceSub,Int.reduceToNat,Nat.reduceMul,Nat.reduceEqDiff,Nat.reduceLeDiff,Int.reduceEq,Int.reduceLT,Int.reduceLE,↓reduceIte]
    exact Ok_inL0 (ih (i + 1) j _ _ hj (by omega) (by omega) fun nx' h2=>next nx' (by omega))
   |false =>
    rw [scanUp_n (by simp [hb])] at next
    simp (disch:=first|omega|(simp only[EVL]<;>omega)|(simp only[hget_c,Nat.reduceEqDiff,↓reduceIte];done)|assumption|(simp (disch:=omega) only[hg_ne,hg_eq,hgs_ne, *];done)|(simp only [rb_len];done)|with_unfolding_all rfl) only [unf b143_0.eq_1,c143,nle,h1,cmp_spec,hr',SR,ltB_eq,hb,EVS,Nat.reduceAdd,Nat.reduceSub,Int.reduceToNat,Nat.reduceMul,Nat.reduceEqDiff,Nat.reduceLeDiff,Int.reduceEq,Int.reduceLT,Int.reduceLE,↓reduceIte]
    exact next _ (by omega)
  ·have h1:decide (i ≤ j)=false:=by simp;omega
   rw [scanUp_o hc] at next
   simp (disch:=first|omega|(simp only[EVL]<;>omega)|(simp only[hget_c,Nat.reduceEqDiff,↓reduceIte];done)|assumption|(simp (disch:=omega) only[hg_ne,hg_eq,hgs_ne, *];done)|(simp only [rb_len];done)|with_unfolding_all rfl) only [unf b143_0.eq_1,c143,nle,h1,EVS,Nat.reduceAdd,Nat.reduceSub,Int.reduceToNat,Nat.reduceMul,Nat.reduceEqDiff,Nat.reduceLeDiff,Int.reduceEq,Int.reduceLT,Int.reduceLE,↓reduceIte]
   exact next _ (by omega)
theorem dn0 (id n a:Nat) (d:Array Bd) (h:Heap) (ha:a < n) (hN:n ≤ 1000000) (hn:d.size=n) (hr:hget h id=some (rowB d)) (rest:List I) (Q:Post Out) (i:Nat) (hi1:1 ≤ i) (hi2:i ≤ n + 1):∀ (j:Nat) (nx:Nat) (x:Tm),j < n →
  (∀ nx':Nat,nx ≤ nx'→@Ok Out (runs T (.code k143_8::rest) [(0,.sref 3 id n 0 n),(1,.int .i64 a),(4,.fn 67 []),(12,.int .i64 i),(13,.int .i64 (Go.Sort.scanDown (fun x=>!ltB x d[a]!) d i j:Nat)),(66,.bool false)] h nx') Q) →
  @Ok Out (runs T (.code b143_1::.inL none b143_1::.inB 2::.code k143_8::rest) ((0,.sref 3 id n 0 n)::(1,.int .i64 a)::(4,.fn 67 [])::(12,.int .i64 i)::(13,.int .i64 j)::x) h nx) Q:=by
 have hr':=hr
 rw [row_of] at hr'
 intro j
 induction j with
 |zero =>
  intro nx x hj next
  have h1:decide ((i:Int) ≤ ((0:Nat):Int))=false:=by simp;omega
  rw [scanDown_o (by omega)] at next
  simp (disch:=first|omega|(simp only[EVL]<;>omega)|(simp only[hget_c,Nat.reduceEqDiff,↓reduceIte];done)|assumption|(simp (disch:=omega) only[hg_ne,hg_eq,hgs_ne, *];done)|(simp only [rb_len];done)|with_unfolding_all rfl) only [unf b143_1.eq_1,c143,h1,EVS,Nat.reduceAdd,Nat.reduceSub,Int.reduceToNat,Nat.reduceMul,Nat.reduceEqDiff,Nat.reduceLeDiff,Int.reduceEq,Int.reduceLT,Int.reduceLE,↓reduceIte]
  exact next _ (by omega)
 |succ j ih =>
  intro nx x hj next
  have e1:((j + 1:Nat):Int) - 1=(j:Nat):=by omega
  by_cases hc:i ≤ j + 1
  ·have h1:decide ((i:Int) ≤ ((j + 1:Nat):Int))=true:=by simp;omega
   cases hb:ltB d[j + 1]! d[a]! with
   |false =>
    rw [scanDown_p hc (by simp [hb])] at next
    simp (disch:=first|omega|(simp only[EVL]<;>omega)|(simp only[hget_c,Nat.reduceEqDiff,↓reduceIte];done)|assumption|(simp (disch:=omega) only[hg_ne,hg_eq,hgs_ne, *];done)|(simp only [rb_len];done)|with_unfolding_all rfl) only [unf b143_1.eq_1,c143,e1,h1,cmp_spec,hr',SR,ltB_eq,hb,EVS,Nat.reduceAdd,Nat.reduceSub,Int.reduceToNat,Nat.reduceMul,Nat.reduceEqDiff,Nat.reduceLeDiff,Int.reduceEq,Int.reduceLT,Int.reduceLE,↓reduceIte]
    exact Ok_inL0 (ih _ _ (by omega) fun nx' h2=>next nx' (by omega))
   |true =>
    rw [scanDown_n (by simp [hb])] at next
    simp (disch:=first|omega|(simp only[EVL]<;>omega)|(simp only[hget_c,Nat.reduceEqDiff,↓reduceIte];done)|assumption|(simp (disch:=omega) only[hg_ne,hg_eq,hgs_ne, *];done)|(simp only [rb_len];done)|with_unfolding_all rfl) only [unf b143_1.eq_1,c143,h1,cmp_spec,hr',SR,ltB_eq,hb,EVS,Nat.reduceAdd,Nat.reduceSub,Int.reduceToNat,Nat.reduceMul,Nat.reduceEqDiff,Nat.reduceLeDiff,Int.reduceEq,Int.reduceLT,Int.reduceLE,↓reduceIte]
    exact next _ (by omega)
  ·have h1:decide ((i:Int) ≤ ((j + 1:Nat):Int))=false:=by simp;omega
   rw [scanDown_o hc] at next
   simp (disch:=first|omega|(simp only[EVL]<;>omega)|(simp only[hget_c,Nat.reduceEqDiff,↓reduceIte];done)|assumption|(simp (disch:=omega) only[hg_ne,hg_eq,hgs_ne, *];done)|(simp only [rb_len];done)|with_unfolding_all rfl) only [unf b143_1.eq_1,c143,h1,EVS,Nat.reduceAdd,Nat.reduceSub,Int.reduceToNat,Nat.reduceMul,Nat.reduceEqDiff,Nat.reduceLeDiff,Int.reduceEq,Int.reduceLT,Int.reduceLE,↓reduceIte]
   exact next _ (by omega)
theorem up1 (id n a:Nat) (d:Array Bd) (h:Heap) (ha:a < n) (hN:n ≤ 1000000) (hn:d.size=n) (hr:hget h id=some (rowB d)) (rest:List I) (Q:Post Out):∀ (k i j:Nat) (nx:Nat) (x:Tm),j < n→j + 1 - i ≤ k→i ≤ n + 1 →
  (∀ nx':Nat,nx ≤ nx'→@Ok Out (runs T (.code k143_5::rest) [(0,.sref 3 id n 0 n),(1,.int .i64 a),(4,.fn 67 []),(12,.int .i64 (Go.Sort.scanUp (fun x=>ltB x d[a]!) d j i:Nat)),(13,.int .i64 j),(120,.bool false)] h nx') Q) →
  @Ok Out (runs T (.code b143_2::.inL none b143_2::.inB 6::.code k143_5::rest) ((0,.sref 3 id n 0 n)::(1,.int .i64 a)::(4,.fn 67 [])::(12,.int .i64 i)::(13,.int .i64 j)::x) h nx) Q:=by
 have hr':=hr
 rw [row_of] at hr'
 intro k
 induction k with
 |zero =>
  intro i j nx x hj hk hi next
  have h1:decide (i ≤ j)=false:=by simp;omega
  rw [scanUp_o (by omega)] at next
  simp (disch:=first|omega|(simp only[EVL]<;>omega)|(simp only[hget_c,Nat.reduceEqDiff,↓reduceIte];done)|assumption|(simp (disch:=omega) only[hg_ne,hg_eq,hgs_ne, *];done)|(simp only [rb_len];done)|with_unfolding_all rfl) only [unf b143_2.eq_1,c143,nle,h1,EVS,Nat.reduceAdd,Nat.reduceSub,Int.reduceToNat,Nat.reduceMul,Nat.reduceEqDiff,Nat.reduceLeDiff,Int.reduceEq,Int.reduceLT,Int.reduceLE,↓reduceIte]
  exact next _ (by omega)
 |succ k ih =>
  intro i j nx x hj hk hi next
  by_cases hc:i ≤ j
  ·have h1:decide (i ≤ j)=true:=by simp;omega
   cases hb:ltB d[i]! d[a]! with
   |true =>
    rw [scanUp_p hc (by simp [hb])] at next
    simp (disch:=first|omega|(simp only[EVL]<;>omega)|(simp only[hget_c,Nat.reduceEqDiff,↓reduceIte];done)|assumption|(simp (disch:=omega) only[hg_ne,hg_eq,hgs_ne, *];done)|(simp only [rb_len];done)|with_unfolding_all rfl) only [unf b143_2.eq_1,c143,nle,na1,h1,cmp_spec,hr',SR,ltB_eq,hb,EVS,Nat.reduceAdd,Nat.reduceSub,Int.reduceToNat,Nat.reduceMul,Nat.reduceEqDiff,Nat.reduceLeDiff,Int.reduceEq,Int.reduceLT,Int.reduceLE,↓reduceIte]
    exact Ok_inL0 (ih (i + 1) j _ _ hj (by omega) (by omega) fun nx' h2=>next nx' (by omega))
   |false =>
    rw [scanUp_n (by simp [hb])] at next
    simp (disch:=first|omega|(simp only[EVL]<;>omega)|(simp only[hget_c,Nat.reduceEqDiff,↓reduceIte];done)|assumption|(simp (disch:=omega) only[hg_ne,hg_eq,hgs_ne, *];done)|(simp only [rb_len];done)|with_unfolding_all rfl) only [unf b143_2.eq_1,c143,nle,h1,cmp_spec,hr',SR,ltB_eq,hb,EVS,Nat.reduceAdd,Nat.reduceSub,Int.reduceToNat,Nat.reduceMul,Nat.reduceEqDiff,Nat.reduceLeDiff,Int.reduceEq,Int.reduceLT,Int.reduceLE,↓reduceIte]
    exact next _ (by omega)
  ·have h1:decide (i ≤ j)=false:=by simp;omega
   rw [scanUp_o hc] at next
   simp (disch:=first|omega|(simp only[EVL]<;>omega)|(simp only[hget_c,Nat.reduceEqDiff,↓reduceIte];done)|assumption|(simp (disch:=omega) only[hg_ne,hg_eq,hgs_ne, *];done)|(simp only [rb_len];done)|with_unfolding_all rfl) only [unf b143_2.eq_1,c143,nle,h1,EVS,Nat.reduceAdd,Nat.reduceSub,Int.reduceToNat,Nat.reduceMul,Nat.reduceEqDiff,Nat.reduceLeDiff,Int.reduceEq,Int.reduceLT,Int.reduceLE,↓reduceIte]
   exact next _ (by omega)
theorem dn1 (id n a:Nat) (d:Array Bd) (h:Heap) (ha:a < n) (hN:n ≤ 1000000) (hn:d.size=n) (hr:hget h id=some (rowB d)) (rest:List I) (Q:Post Out) (i:Nat) (hi1:1 ≤ i) (hi2:i ≤ n + 1):∀ (j:Nat) (nx:Nat) (x:Tm),j < n →
  (∀ nx':Nat,nx ≤ nx'→@Ok Out (runs T (.code k143_4::rest) [(0,.sref 3 id n 0 n),(1,.int .i64 a),(4,.fn 67 []),(12,.int .i64 i),(13,.int .i64 (Go.Sort.scanDown (fun x=>!ltB x d[a]!) d i j:Nat)),(139,.bool false)] h nx') Q) →
  @Ok Out (runs T (.code b143_3::.inL none b143_3::.inB 8::.code k143_4::rest) ((0,.sref 3 id n 0 n)::(1,.int .i64 a)::(4,.fn 67 [])::(12,.int .i64 i)::(13,.int .i64 j)::x) h nx) Q:=by
 have hr':=hr
 rw [row_of] at hr'
 intro j
 induction j with
 |zero =>
  intro nx x hj next
  have h1:decide ((i:Int) ≤ ((0:Nat):Int))=false:=by simp;omega
  rw [scanDown_o (by omega)] at next
  simp (disch:=first|omega|(simp only[EVL]<;>omega)|(simp only[hget_c,Nat.reduceEqDiff,↓reduceIte];done)|assumption|(simp (disch:=omega) only[hg_ne,hg_eq,hgs_ne, *];done)|(simp only [rb_len];done)|with_unfolding_all rfl) only [unf b143_3.eq_1,c143,h1,EVS,Nat.reduceAdd,Nat.reduceSub,Int.reduceToNat,Nat.reduceMul,Nat.reduceEqDiff,Nat.reduceLeDiff,Int.reduceEq,Int.reduceLT,Int.reduceLE,↓reduceIte]
  exact next _ (by omega)
 |succ j ih =>
  intro nx x hj next
  have e1:((j + 1:Nat):Int) - 1=(j:Nat):=by omega
  by_cases hc:i ≤ j + 1
  ·have h1:decide ((i:Int) ≤ ((j + 1:Nat):Int))=true:=by simp;omega
   cases hb:ltB d[j + 1]! d[a]! with
   |false =>
    rw [scanDown_p hc (by simp [hb])] at next
    simp (disch:=first|omega|(simp only[EVL]<;>omega)|(simp only[hget_c,Nat.reduceEqDiff,↓reduceIte];done)|assumption|(simp (disch:=omega) only[hg_ne,hg_eq,hgs_ne, *];done)|(simp only [rb_len];done)|with_unfolding_all rfl) only [unf b143_3.eq_1,c143,e1,h1,cmp_spec,hr',SR,ltB_eq,hb,EVS,Nat.reduceAdd,Nat.reduceSub,Int.reduceToNat,Nat.reduceMul,Nat.reduceEqDiff,Nat.reduceLeDiff,Int.reduceEq,Int.reduceLT,Int.reduceLE,↓reduceIte]
    exact Ok_inL0 (ih _ _ (by omega) fun nx' h2=>next nx' (by omega))
   |true =>
    rw [scanDown_n (by simp [hb])] at next
    simp (disch:=first|omega|(simp only[EVL]<;>omega)|(simp only[hget_c,Nat.reduceEqDiff,↓reduceIte];done)|assumption|(simp (disch:=omega) only[hg_ne,hg_eq,hgs_ne, *];done)|(simp only [rb_len];done)|with_unfolding_all rfl) only [unf b143_3.eq_1,c143,h1,cmp_spec,hr',SR,ltB_eq,hb,EVS,Nat.reduceAdd,Nat.reduceSub,Int.reduceToNat,Nat.reduceMul,Nat.reduceEqDiff,Nat.reduceLeDiff,Int.reduceEq,Int.reduceLT,Int.reduceLE,↓reduceIte]
    exact next _ (by omega)
  ·have h1:decide ((i:Int) ≤ ((j + 1:Nat):Int))=false:=by simp;omega
   rw [scanDown_o hc] at next
   simp (disch:=first|omega|(simp only[EVL]<;>omega)|(simp only[hget_c,Nat.reduceEqDiff,↓reduceIte];done)|assumption|(simp (disch:=omega) only[hg_ne,hg_eq,hgs_ne, *];done)|(simp only [rb_len];done)|with_unfolding_all rfl) only [unf b143_3.eq_1,c143,h1,EVS,Nat.reduceAdd,Nat.reduceSub,Int.reduceToNat,Nat.reduceMul,Nat.reduceEqDiff,Nat.reduceLeDiff,Int.reduceEq,Int.reduceLT,Int.reduceLE,↓reduceIte]
   exact next _ (by omega)
theorem up2 (id n a:Nat) (d:Array Bd) (h:Heap) (ha:a < n) (hN:n ≤ 1000000) (hn:d.size=n) (hr:hget h id=some (rowB d)) (rest:List I) (Q:Post Out):∀ (k i j:Nat) (nx:Nat) (x:Tm),j < n→j + 1 - i ≤ k→i ≤ n + 1 →
  (∀ nx':Nat,nx ≤ nx'→@Ok Out (runs T (.code k142_3::rest) [(0,.sref 3 id n 0 n),(1,.int .i64 a),(4,.fn 67 []),(11,.int .i64 (Go.Sort.scanUp (fun x=>!ltB d[a]! x) d j i:Nat)),(12,.int .i64 j),(47,.bool false)] h nx') Q) →
  @Ok Out (runs T (.code b142_0::.inL none b142_0::.inB 2::.code k142_3::rest) ((0,.sref 3 id n 0 n)::(1,.int .i64 a)::(4,.fn 67 [])::(11,.int .i64 i)::(12,.int .i64 j)::x) h nx) Q:=by
 have hr':=hr
 rw [row_of] at hr'
 intro k
 induction k with
 |zero =>
  intro i j nx x hj hk hi next
  have h1:decide (i ≤ j)=false:=by simp;omega
  rw [scanUp_o (by omega)] at next
  simp (disch:=first|omega|(simp only[EVL]<;>omega)|(simp only[hget_c,Nat.reduceEqDiff,↓reduceIte];done)|assumption|(simp (disch:=omega) only[hg_ne,hg_eq,hgs_ne, *];done)|(simp only [rb_len];done)|with_unfolding_all rfl) only [unf b142_0.eq_1,c142,nle,h1,EVS,Nat.reduceAdd,Nat.reduceSub,Int.reduceToNat,Nat.reduceMul,Nat.reduceEqDiff,Nat.reduceLeDiff,Int.reduceEq,Int.reduceLT,Int.reduceLE,↓reduceIte]
  exact next _ (by omega)
 |succ k ih =>
  intro i j nx x hj hk hi next
  by_cases hc:i ≤ j
  ·have h1:decide (i ≤ j)=true:=by simp;omega
   cases hb:ltB d[a]! d[i]! with
   |false =>
    rw [scanUp_p hc (by simp [hb])] at next
    simp (disch:=first|omega|(simp only[EVL]<;>omega)|(simp only[hget_c,Nat.reduceEqDiff,↓reduceIte];done)|assumption|(simp (disch:=omega) only[hg_ne,hg_eq,hgs_ne, *];done)|(simp only [rb_len];done)|with_unfolding_all rfl) only [unf b142_0.eq_1,c142,nle,na1,h1,cmp_spec,hr',SR,ltB_eq,hb,EVS,Nat.reduceAdd,Nat.reduceSub,Int.reduceToNat,Nat.reduceMul,Nat.reduceEqDiff,Nat.reduceLeDiff,Int.reduceEq,Int.reduceLT,Int.reduceLE,↓reduceIte]
    exact Ok_inL0 (ih (i + 1) j _ _ hj (by omega) (by omega) fun nx' h2=>next nx' (by omega))
   |true =>
    rw [scanUp_n (by simp [hb])] at next
    simp (disch:=first|omega|(simp only[EVL]<;>omega)|(simp only[hget_c,Nat.reduceEqDiff,↓reduceIte];done)|assumption|(simp (disch:=omega) only[hg_ne,hg_eq,hgs_ne, *];done)|(simp only [rb_len];done)|with_unfolding_all rfl) only [unf b142_0.eq_1,c142,nle,h1,cmp_spec,hr',SR,ltB_eq,hb,EVS,Nat.reduceAdd,Nat.reduceSub,Int.reduceToNat,Nat.reduceMul,Nat.reduceEqDiff,Nat.reduceLeDiff,Int.reduceEq,Int.reduceLT,Int.reduceLE,↓reduceIte]
    exact next _ (by omega)
  ·have h1:decide (i ≤ j)=false:=by simp;omega
   rw [scanUp_o hc] at next
   simp (disch:=first|omega|(simp only[EVL]<;>omega)|(simp only[hget_c,Nat.reduceEqDiff,↓reduceIte];done)|assumption|(simp (disch:=omega) only[hg_ne,hg_eq,hgs_ne, *];done)|(simp only [rb_len];done)|with_unfolding_all rfl) only [unf b142_0.eq_1,c142,nle,h1,EVS,Nat.reduceAdd,Nat.reduceSub,Int.reduceToNat,Nat.reduceMul,Nat.reduceEqDiff,Nat.reduceLeDiff,Int.reduceEq,Int.reduceLT,Int.reduceLE,↓reduceIte]
   exact next _ (by omega)
theorem dn2 (id n a:Nat) (d:Array Bd) (h:Heap) (ha:a < n) (hN:n ≤ 1000000) (hn:d.size=n) (hr:hget h id=some (rowB d)) (rest:List I) (Q:Post Out) (i:Nat) (hi1:1 ≤ i) (hi2:i ≤ n + 1):∀ (j:Nat) (nx:Nat) (x:Tm),j < n →
  (∀ nx':Nat,nx ≤ nx'→@Ok Out (runs T (.code k142_2::rest) [(0,.sref 3 id n 0 n),(1,.int .i64 a),(4,.fn 67 []),(11,.int .i64 i),(12,.int .i64 (Go.Sort.scanDown (fun x=>ltB d[a]! x) d i j:Nat)),(65,.bool false)] h nx') Q) →
  @Ok Out (runs T (.code b142_1::.inL none b142_1::.inB 4::.code k142_2::rest) ((0,.sref 3 id n 0 n)::(1,.int .i64 a)::(4,.fn 67 [])::(11,.int .i64 i)::(12,.int .i64 j)::x) h nx) Q:=by
 have hr':=hr
 rw [row_of] at hr'
 intro j
 induction j with
 |zero =>
  intro nx x hj next
  have h1:decide ((i:Int) ≤ ((0:Nat):Int))=false:=by simp;omega
  rw [scanDown_o (by omega)] at next
  simp (disch:=first|omega|(simp only[EVL]<;>omega)|(simp only[hget_c,Nat.reduceEqDiff,↓reduceIte];done)|assumption|(simp (disch:=omega) only[hg_ne,hg_eq,hgs_ne, *];done)|(simp only [rb_len];done)|with_unfolding_all rfl) only [unf b142_1.eq_1,c142,h1,EVS,Nat.reduceAdd,Nat.reduceSub,Int.reduceToNat,Nat.reduceMul,Nat.reduceEqDiff,Nat.reduceLeDiff,Int.reduceEq,Int.reduceLT,Int.reduceLE,↓reduceIte]
  exact next _ (by omega)
 |succ j ih =>
  intro nx x hj next
  have e1:((j + 1:Nat):Int) - 1=(j:Nat):=by omega
  by_cases hc:i ≤ j + 1
  ·have h1:decide ((i:Int) ≤ ((j + 1:Nat):Int))=true:=by simp;omega
   cases hb:ltB d[a]! d[j + 1]! with
   |true =>
    rw [scanDown_p hc (by simp [hb])] at next
    simp (disch:=first|omega|(simp only[EVL]<;>omega)|(simp only[hget_c,Nat.reduceEqDiff,↓reduceIte];done)|assumption|(simp (disch:=omega) only[hg_ne,hg_eq,hgs_ne, *];done)|(simp only [rb_len];done)|with_unfolding_all rfl) only [unf b142_1.eq_1,c142,e1,h1,cmp_spec,hr',SR,ltB_eq,hb,EVS,Nat.reduceAdd,Nat.reduceSub,Int.reduceToNat,Nat.reduceMul,Nat.reduceEqDiff,Nat.reduceLeDiff,Int.reduceEq,Int.reduceLT,Int.reduceLE,↓reduceIte]
    exact Ok_inL0 (ih _ _ (by omega) fun nx' h2=>next nx' (by omega))
   |false =>
    rw [scanDown_n (by simp [hb])] at next
    simp (disch:=first|omega|(simp only[EVL]<;>omega)|(simp only[hget_c,Nat.reduceEqDiff,↓reduceIte];done)|assumption|(simp (disch:=omega) only[hg_ne,hg_eq,hgs_ne, *];done)|(simp only [rb_len];done)|with_unfolding_all rfl) only [unf b142_1.eq_1,c142,h1,cmp_spec,hr',SR,ltB_eq,hb,EVS,Nat.reduceAdd,Nat.reduceSub,Int.reduceToNat,Nat.reduceMul,Nat.reduceEqDiff,Nat.reduceLeDiff,Int.reduceEq,Int.reduceLT,Int.reduceLE,↓reduceIte]
    exact next _ (by omega)
  ·have h1:decide ((i:Int) ≤ ((j + 1:Nat):Int))=false:=by simp;omega
   rw [scanDown_o hc] at next
   simp (disch:=first|omega|(simp only[EVL]<;>omega)|(simp only[hget_c,Nat.reduceEqDiff,↓reduceIte];done)|assumption|(simp (disch:=omega) only[hg_ne,hg_eq,hgs_ne, *];done)|(simp only [rb_len];done)|with_unfolding_all rfl) only [unf b142_1.eq_1,c142,h1,EVS,Nat.reduceAdd,Nat.reduceSub,Int.reduceToNat,Nat.reduceMul,Nat.reduceEqDiff,Nat.reduceLeDiff,Int.reduceEq,Int.reduceLT,Int.reduceLE,↓reduceIte]
   exact next _ (by omega)

theorem partLoop_size {a:Nat}:∀ (k i j:Nat) (d:Array Bd),j + 1 - i ≤ k→(Go.Sort.partLoop ltB a i j d).2.size=d.size:=by
 intro k
 induction k with
 |zero =>
  intro i j d hk
  rw [Go.Sort.partLoop_eq]
  split
  ·rfl
  ·rename_i h
   have:=Go.Sort.partLoop_guard ltB a i j d h
   omega
 |succ k ih =>
  intro i j d hk
  rw [Go.Sort.partLoop_eq]
  split
  ·rfl
  ·rename_i h
   have:=Go.Sort.partLoop_guard ltB a i j d h
   rw [ih _ _ _ (by omega),sz_swp]
theorem pl_loop (id n a:Nat) (ha:a < n) (hN:n ≤ 1000000) (Q:Post Out):∀ (k i j:Nat) (d:Array Bd) (h:Heap) (nx:Nat),j + 1 - i ≤ k→1 ≤ i→i ≤ n + 1→j < n→d.size=n→hget h id=some (rowB d) →
  (∀ (h':Heap) (nx':Nat) (iv:Int),nx ≤ nx'→RowR h id (Go.Sort.partLoop ltB a i j d).2 h'→(Go.Sort.partLoop ltB a i j d).1 < n→@Ok Out (runs T [.code k143_7] [(0,.sref 3 id n 0 n),(1,.int .i64 a),(4,.fn 67 []),(12,.int .i64 iv),(13,.int .i64 (Go.Sort.partLoop ltB a i j d).1),(144,.bool true)] h' nx') Q) →
  @Ok Out (runs T [.code b143_6,.inL none b143_6,.inB 4,.code k143_7] [(0,.sref 3 id n 0 n),(1,.int .i64 a),(4,.fn 67 []),(12,.int .i64 i),(13,.int .i64 j)] h nx) Q:=by
 intro k
 induction k with
 |zero =>
  intro i j d h nx hk hi1 hi2 hj hn hr next
  have g:=@Go.Sort.partLoop_eq _ _ ltB a i j d
  have g2:=Go.Sort.partLoop_guard ltB a i j d
  have u1:=Go.Sort.scanUp_ge (fun x=>ltB x d[a]!) d j i
  have u2:=@scanUp_le (fun x=>ltB x d[a]!) d j i
  generalize hI:Go.Sort.scanUp (fun x=>ltB x d[a]!) d j i=i2 at *
  have u3:=Go.Sort.scanDown_le (fun x=>!ltB x d[a]!) d i2 j
  generalize hJ:Go.Sort.scanDown (fun x=>!ltB x d[a]!) d i2 j=j2 at *
  have hgt:i2 > j2:=by
   rcases Nat.lt_or_ge j2 i2 with h | h
   ·exact h
   ·have:=g2 (by omega);omega
  rw [if_pos hgt] at g
  rw [g] at next
  have d1:decide ((j2:Int) < i2)=true:=by simp;omega
  simp (disch:=first|omega|(simp only[EVL]<;>omega)|(simp only[hget_c,Nat.reduceEqDiff,↓reduceIte];done)|assumption|(simp (disch:=omega) only[hg_ne,hg_eq,hgs_ne, *];done)|(simp only [rb_len];done)|with_unfolding_all rfl) only [unf b143_6.eq_1,c143,EVS,Nat.reduceAdd,Nat.reduceSub,Int.reduceToNat,Nat.reduceMul,Nat.reduceEqDiff,Nat.reduceLeDiff,Int.reduceEq,Int.reduceLT,Int.reduceLE,↓reduceIte]
  refine up1 id n a d h ha hN hn hr _ _ (j + 1 - i) i j _ _ hj (Nat.le_refl _) hi2 fun nx1 hn1=>?_
  rw [hI]
  simp (disch:=first|omega|(simp only[EVL]<;>omega)|(simp only[hget_c,Nat.reduceEqDiff,↓reduceIte];done)|assumption|(simp (disch:=omega) only[hg_ne,hg_eq,hgs_ne, *];done)|(simp only [rb_len];done)|with_unfolding_all rfl) only [unf k143_5.eq_1,c143,EVS,Nat.reduceAdd,Nat.reduceSub,Int.reduceToNat,Nat.reduceMul,Nat.reduceEqDiff,Nat.reduceLeDiff,Int.reduceEq,Int.reduceLT,Int.reduceLE,↓reduceIte]
  refine dn1 id n a d h ha hN hn hr _ _ i2 (by omega) (by omega) j _ _ hj fun nx2 hn2=>?_
  rw [hJ]
  simp (disch:=first|omega|(simp only[EVL]<;>omega)|(simp only[hget_c,Nat.reduceEqDiff,↓reduceIte];done)|assumption|(simp (disch:=omega) only[hg_ne,hg_eq,hgs_ne, *];done)|(simp only [rb_len];done)|with_unfolding_all rfl) only [unf k143_4.eq_1,c143,nlt,w_xb,d1,EVS,Nat.reduceAdd,Nat.reduceSub,Int.reduceToNat,Nat.reduceMul,Nat.reduceEqDiff,Nat.reduceLeDiff,Int.reduceEq,Int.reduceLT,Int.reduceLE,↓reduceIte]
  exact next _ _ _ (by omega) (.refl hr) (by dsimp only;omega)
 |succ k ih =>
  intro i j d h nx hk hi1 hi2 hj hn hr next
  have g:=@Go.Sort.partLoop_eq _ _ ltB a i j d
  have g2:=Go.Sort.partLoop_guard ltB a i j d
  have u1:=Go.Sort.scanUp_ge (fun x=>ltB x d[a]!) d j i
  have u2:=@scanUp_le (fun x=>ltB x d[a]!) d j i
  generalize hI:Go.Sort.scanUp (fun x=>ltB x d[a]!) d j i=i2 at *
  have u3:=Go.Sort.scanDown_le (fun x=>!ltB x d[a]!) d i2 j
  generalize hJ:Go.Sort.scanDown (fun x=>!ltB x d[a]!) d i2 j=j2 at *
  by_cases hgt:i2 > j2
  ·rw [if_pos hgt] at g
   rw [g] at next
   have d1:decide ((j2:Int) < i2)=true:=by simp;omega
   simp (disch:=first|omega|(simp only[EVL]<;>omega)|(simp only[hget_c,Nat.reduceEqDiff,↓reduceIte];done)|assumption|(simp (disch:=omega) only[hg_ne,hg_eq,hgs_ne, *];done)|(simp only [rb_len];done)|with_unfolding_all rfl) only [unf b143_6.eq_1,c143,EVS,Nat.reduceAdd,Nat.reduceSub,Int.reduceToNat,Nat.reduceMul,Nat.reduceEqDiff,Nat.reduceLeDiff,Int.reduceEq,Int.reduceLT,Int.reduceLE,↓reduceIte]
   refine up1 id n a d h ha hN hn hr _ _ (j + 1 - i) i j _ _ hj (Nat.le_refl _) hi2 fun nx1 hn1=>?_
   rw [hI]
   simp (disch:=first|omega|(simp only[EVL]<;>omega)|(simp only[hget_c,Nat.reduceEqDiff,↓reduceIte];done)|assumption|(simp (disch:=omega) only[hg_ne,hg_eq,hgs_ne, *];done)|(simp only [rb_len];done)|with_unfolding_all rfl) only [unf k143_5.eq_1,c143,EVS,Nat.reduceAdd,Nat.reduceSub,Int.reduceToNat,Nat.reduceMul,Nat.reduceEqDiff,Nat.reduceLeDiff,Int.reduceEq,Int.reduceLT,Int.reduceLE,↓reduceIte]
   refine dn1 id n a d h ha hN hn hr _ _ i2 (by omega) (by omega) j _ _ hj fun nx2 hn2=>?_
   rw [hJ]
   simp (disch:=first|omega|(simp only[EVL]<;>omega)|(simp only[hget_c,Nat.reduceEqDiff,↓reduceIte];done)|assumption|(simp (disch:=omega) only[hg_ne,hg_eq,hgs_ne, *];done)|(simp only [rb_len];done)|with_unfolding_all rfl) only [unf k143_4.eq_1,c143,nlt,w_xb,d1,EVS,Nat.reduceAdd,Nat.reduceSub,Int.reduceToNat,Nat.reduceMul,Nat.reduceEqDiff,Nat.reduceLeDiff,Int.reduceEq,Int.reduceLT,Int.reduceLE,↓reduceIte]
   exact next _ _ _ (by omega) (.refl hr) (by dsimp only;omega)
  ·rw [if_neg hgt] at g
   rw [g] at next
   have g3:=g2 hgt
   have d1:decide ((j2:Int) < i2)=false:=by simp;omega
   have e1:((i2:Nat):Int) + 1=((i2 + 1:Nat):Int):=by omega
   have e2:((j2:Nat):Int) - 1=((j2 - 1:Nat):Int):=by omega
   have hr':=hr
   rw [row_of] at hr'
   simp (disch:=first|omega|(simp only[EVL]<;>omega)|(simp only[hget_c,Nat.reduceEqDiff,↓reduceIte];done)|assumption|(simp (disch:=omega) only[hg_ne,hg_eq,hgs_ne, *];done)|(simp only [rb_len];done)|with_unfolding_all rfl) only [unf b143_6.eq_1,c143,EVS,Nat.reduceAdd,Nat.reduceSub,Int.reduceToNat,Nat.reduceMul,Nat.reduceEqDiff,Nat.reduceLeDiff,Int.reduceEq,Int.reduceLT,Int.reduceLE,↓reduceIte]
   refine up1 id n a d h ha hN hn hr _ _ (j + 1 - i) i j _ _ hj (Nat.le_refl _) hi2 fun nx1 hn1=>?_
   rw [hI]
   simp (disch:=first|omega|(simp only[EVL]<;>omega)|(simp only[hget_c,Nat.reduceEqDiff,↓reduceIte];done)|assumption|(simp (disch:=omega) only[hg_ne,hg_eq,hgs_ne, *];done)|(simp only [rb_len];done)|with_unfolding_all rfl) only [unf k143_5.eq_1,c143,EVS,Nat.reduceAdd,Nat.reduceSub,Int.reduceToNat,Nat.reduceMul,Nat.reduceEqDiff,Nat.reduceLeDiff,Int.reduceEq,Int.reduceLT,Int.reduceLE,↓reduceIte]
   refine dn1 id n a d h ha hN hn hr _ _ i2 (by omega) (by omega) j _ _ hj fun nx2 hn2=>?_
   rw [hJ]
   simp (disch:=first|omega|(simp only[EVL]<;>omega)|(simp only[hget_c,Nat.reduceEqDiff,↓reduceIte];done)|assumption|(simp (disch:=omega) only[hg_ne,hg_eq,hgs_ne, *];done)|(simp only [rb_len];done)|with_unfolding_all rfl) only [unf k143_4.eq_1,c143,w_xb,d1,e1,e2,hr',SR,EVS,Nat.reduceAdd,Nat.reduceSub,Int.reduceToNat,Nat.reduceMul,Nat.reduceEqDiff,Nat.reduceLeDiff,Int.reduceEq,Int.reduceLT,Int.reduceLE,↓reduceIte]
   refine Ok_inL0 (ih (i2 + 1) (j2 - 1) (Go.Sort.swp d i2 j2) _ _ (by omega) (by omega) (by omega) (by omega) (by rw [sz_swp];exact hn) (hgs_eq hr) fun h' nx' iv hn' hx hb=>next _ _ _ (by omega) ((RowR.one hr).trans hx) hb)
theorem part_spec (id n a b p:Nat) (d:Array Bd) (hab:a + 1 < b) (hb:b ≤ n) (hp1:a ≤ p) (hp2:p < b) (hN:n ≤ 1000000) (hn:d.size=n) (h:Heap) (nx:Nat) (hr:hget h id=some (rowB d)) :
  ∃ r,lim T 143 [.sref 3 id n 0 n,.int .i64 a,.int .i64 b,.int .i64 p,.fn 67 []] h nx=some r∧r.1=.tup [.int .i64 (Go.Sort.partition ltB d a b p).1,.bool (Go.Sort.partition ltB d a b p).2.1]∧RowN id (Go.Sort.partition ltB d a b p).2.2 h nx r.2.1 r.2.2:=by
 refine shr_ex tg143 rfl rfl ?_
 have e1:(b:Int) - 1=((b - 1:Nat):Int):=by omega
 have e0:(a:Int) + 1=((a + 1:Nat):Int):=by omega
 have hr0:=hr
 rw [row_of] at hr0
 have hr1:RowR h id (Go.Sort.swp d a p) (hset h id (.row 3 ((Go.Sort.swp d a p).toList.map bS))):=RowR.one hr
 have hs1:(Go.Sort.swp d a p).size=n:=by rw [sz_swp];exact hn
 have gp:Go.Sort.partition ltB d a b p=(let i:=Go.Sort.scanUp (fun x=>ltB x (Go.Sort.swp d a p)[a]!) (Go.Sort.swp d a p) (b - 1) (a + 1);let j:=Go.Sort.scanDown (fun x=>!ltB x (Go.Sort.swp d a p)[a]!) (Go.Sort.swp d a p) i (b - 1);if i > j then (j,true,Go.Sort.swp (Go.Sort.swp d a p) j a) else
   (((Go.Sort.partLoop ltB a (i + 1) (j - 1) (Go.Sort.swp (Go.Sort.swp d a p) i j)).1,false,Go.Sort.swp (Go.Sort.partLoop ltB a (i + 1) (j - 1) (Go.Sort.swp (Go.Sort.swp d a p) i j)).2 (Go.Sort.partLoop ltB a (i + 1) (j - 1) (Go.Sort.swp (Go.Sort.swp d a p) i j)).1 a):Nat × Bool × Array Bd)):=rfl
 dsimp only at gp
 generalize Go.Sort.partition ltB d a b p=P at *
 simp (disch:=first|omega|(simp only[EVL]<;>omega)|(simp only[hget_c,Nat.reduceEqDiff,↓reduceIte];done)|assumption|(simp (disch:=omega) only[hg_ne,hg_eq,hgs_ne, *];done)|(simp only [rb_len];done)|with_unfolding_all rfl) only [c143,hr0,SR,e0,e1,EVS,Nat.reduceAdd,Nat.reduceSub,Int.reduceToNat,Nat.reduceMul,Nat.reduceEqDiff,Nat.reduceLeDiff,Int.reduceEq,Int.reduceLT,Int.reduceLE,↓reduceIte]
 generalize Go.Sort.swp d a p=d1 at *
 have hq:=hr1.1
 generalize hset h id (.row 3 (d1.toList.map bS))=hh at *
 have u1:=Go.Sort.scanUp_ge (fun x=>ltB x d1[a]!) d1 (b - 1) (a + 1)
 have u2:=@scanUp_le (fun x=>ltB x d1[a]!) d1 (b - 1) (a + 1)
 have hq':=hq
 rw [row_of] at hq'
 refine up0 id n a d1 hh (by omega) hN hs1 hq _ _ _ (a + 1) (b - 1) _ _ (by omega) (Nat.le_refl _) (by omega) fun nx1 hn1=>?_
 generalize hI:Go.Sort.scanUp (fun x=>ltB x d1[a]!) d1 (b - 1) (a + 1)=i2 at *
 simp (disch:=first|omega|(simp only[EVL]<;>omega)|(simp only[hget_c,Nat.reduceEqDiff,↓reduceIte];done)|assumption|(simp (disch:=omega) only[hg_ne,hg_eq,hgs_ne, *];done)|(simp only [rb_len];done)|with_unfolding_all rfl) only [unf k143_9.eq_1,c143,EVS,Nat.reduceAdd,Nat.reduceSub,Int.reduceToNat,Nat.reduceMul,Nat.reduceEqDiff,Nat.reduceLeDiff,Int.reduceEq,Int.reduceLT,Int.reduceLE,↓reduceIte]
 refine dn0 id n a d1 hh (by omega) hN hs1 hq _ _ i2 (by omega) (by omega) (b - 1) _ _ (by omega) fun nx2 hn2=>?_
 have u3:=Go.Sort.scanDown_le (fun x=>!ltB x d1[a]!) d1 i2 (b - 1)
 generalize hJ:Go.Sort.scanDown (fun x=>!ltB x d1[a]!) d1 i2 (b - 1)=j2 at *
 by_cases hgt:i2 > j2
 ·have dc:decide ((j2:Int) < i2)=true:=by simp;omega
  rw [if_pos hgt] at gp
  subst gp
  simp (disch:=first|omega|(simp only[EVL]<;>omega)|(simp only[hget_c,Nat.reduceEqDiff,↓reduceIte];done)|assumption|(simp (disch:=omega) only[hg_ne,hg_eq,hgs_ne, *];done)|(simp only [rb_len];done)|with_unfolding_all rfl) only [unf k143_8.eq_1,c143,dc,hq',SR,EVS,Nat.reduceAdd,Nat.reduceSub,Int.reduceToNat,Nat.reduceMul,Nat.reduceEqDiff,Nat.reduceLeDiff,Int.reduceEq,Int.reduceLT,Int.reduceLE,↓reduceIte]
  exact ⟨(hr1.trans (RowR.one hq)).1,by omega,fun i hi1 hi2=>(hr1.trans (RowR.one hq)).2 i hi2⟩
 ·have dc:decide ((j2:Int) < i2)=false:=by simp;omega
  rw [if_neg hgt] at gp
  have f1:((i2:Nat):Int) + 1=((i2 + 1:Nat):Int):=by omega
  have f2:((j2:Nat):Int) - 1=((j2 - 1:Nat):Int):=by omega
  have hr2:RowR hh id (Go.Sort.swp d1 i2 j2) (hset hh id (.row 3 ((Go.Sort.swp d1 i2 j2).toList.map bS))):=RowR.one hq
  have hs2:(Go.Sort.swp d1 i2 j2).size=n:=by rw [sz_swp];exact hs1
  simp (disch:=first|omega|(simp only[EVL]<;>omega)|(simp only[hget_c,Nat.reduceEqDiff,↓reduceIte];done)|assumption|(simp (disch:=omega) only[hg_ne,hg_eq,hgs_ne, *];done)|(simp only [rb_len];done)|with_unfolding_all rfl) only [unf k143_8.eq_1,c143,dc,f1,f2,hq',SR,EVS,Nat.reduceAdd,Nat.reduceSub,Int.reduceToNat,Nat.reduceMul,Nat.reduceEqDiff,Nat.reduceLeDiff,Int.reduceEq,Int.reduceLT,Int.reduceLE,↓reduceIte]
  refine pl_loop id n a (by omega) hN _ _ (i2 + 1) (j2 - 1) _ _ _ (Nat.le_refl _) (by omega) (by omega) (by omega) hs2 hr2.1 fun h' nx' iv hn' hx hb=>?_
  have hs3:(Go.Sort.partLoop ltB a (i2 + 1) (j2 - 1) (Go.Sort.swp d1 i2 j2)).2.size=n:=by rw [partLoop_size _ _ _ _ (Nat.le_refl _)];exact hs2
  have hx':=hx.1
  rw [row_of] at hx'
  generalize Go.Sort.partLoop ltB a (i2 + 1) (j2 - 1) (Go.Sort.swp d1 i2 j2)=R at *
  subst gp
  simp (disch:=first|omega|(simp only[EVL]<;>omega)|(simp only[hget_c,Nat.reduceEqDiff,↓reduceIte];done)|assumption|(simp (disch:=omega) only[hg_ne,hg_eq,hgs_ne, *];done)|(simp only [rb_len];done)|with_unfolding_all rfl) only [unf k143_7.eq_1,c143,hx',SR,EVS,Nat.reduceAdd,Nat.reduceSub,Int.reduceToNat,Nat.reduceMul,Nat.reduceEqDiff,Nat.reduceLeDiff,Int.reduceEq,Int.reduceLT,Int.reduceLE,↓reduceIte]
  have fin:=((hr1.trans hr2).trans hx).trans (RowR.one (d:=Go.Sort.swp R.2 R.1 a) hx.1)
  exact ⟨fin.1,by omega,fun i hi1 hi2=>fin.2 i hi2⟩

theorem pe_loop (id n a:Nat) (ha:a < n) (hN:n ≤ 1000000) (Q:Post Out):∀ (k i j:Nat) (d:Array Bd) (h:Heap) (nx:Nat),j + 1 - i < k→1 ≤ i→i ≤ n + 1→j < n→d.size=n→hget h id=some (rowB d) →
  (∀ (h':Heap) (nx':Nat) (jv:Int),nx ≤ nx'→RowR h id (Go.Sort.partEqLoop ltB a i j d).2 h'→(Go.Sort.partEqLoop ltB a i j d).1 ≤ n + 1→@Ok Out (runs T [.code k142_5] [(0,.sref 3 id n 0 n),(1,.int .i64 a),(4,.fn 67 []),(11,.int .i64 (Go.Sort.partEqLoop ltB a i j d).1),(12,.int .i64 jv),(70,.bool true)] h' nx') Q) →
  @Ok Out (runs T [.code b142_4,.inL none b142_4,.inB 0,.code k142_5] [(0,.sref 3 id n 0 n),(1,.int .i64 a),(4,.fn 67 []),(11,.int .i64 i),(12,.int .i64 j)] h nx) Q:=by
 intro k
 induction k with
 |zero=>intro i j d h nx hk;omega
 |succ k ih =>
  intro i j d h nx hk hi1 hi2 hj hn hr next
  have g:=@Go.Sort.partEqLoop_eq _ _ ltB a i j d
  have g2:=Go.Sort.partEqLoop_guard ltB a i j d
  have u1:=Go.Sort.scanUp_ge (fun x=>!ltB d[a]! x) d j i
  have u2:=@scanUp_le (fun x=>!ltB d[a]! x) d j i
  generalize hI:Go.Sort.scanUp (fun x=>!ltB d[a]! x) d j i=i2 at *
  have u3:=Go.Sort.scanDown_le (fun x=>ltB d[a]! x) d i2 j
  generalize hJ:Go.Sort.scanDown (fun x=>ltB d[a]! x) d i2 j=j2 at *
  by_cases hgt:i2 > j2
  ·rw [if_pos hgt] at g
   rw [g] at next
   have d1:decide ((j2:Int) < i2)=true:=by simp;omega
   simp (disch:=first|omega|(simp only[EVL]<;>omega)|(simp only[hget_c,Nat.reduceEqDiff,↓reduceIte];done)|assumption|(simp (disch:=omega) only[hg_ne,hg_eq,hgs_ne, *];done)|(simp only [rb_len];done)|with_unfolding_all rfl) only [unf b142_4.eq_1,c142,EVS,Nat.reduceAdd,Nat.reduceSub,Int.reduceToNat,Nat.reduceMul,Nat.reduceEqDiff,Nat.reduceLeDiff,Int.reduceEq,Int.reduceLT,Int.reduceLE,↓reduceIte]
   refine up2 id n a d h ha hN hn hr _ _ (j + 1 - i) i j _ _ hj (Nat.le_refl _) hi2 fun nx1 hn1=>?_
   rw [hI]
   simp (disch:=first|omega|(simp only[EVL]<;>omega)|(simp only[hget_c,Nat.reduceEqDiff,↓reduceIte];done)|assumption|(simp (disch:=omega) only[hg_ne,hg_eq,hgs_ne, *];done)|(simp only [rb_len];done)|with_unfolding_all rfl) only [unf k142_3.eq_1,c142,EVS,Nat.reduceAdd,Nat.reduceSub,Int.reduceToNat,Nat.reduceMul,Nat.reduceEqDiff,Nat.reduceLeDiff,Int.reduceEq,Int.reduceLT,Int.reduceLE,↓reduceIte]
   refine dn2 id n a d h ha hN hn hr _ _ i2 (by omega) (by omega) j _ _ hj fun nx2 hn2=>?_
   rw [hJ]
   simp (disch:=first|omega|(simp only[EVL]<;>omega)|(simp only[hget_c,Nat.reduceEqDiff,↓reduceIte];done)|assumption|(simp (disch:=omega) only[hg_ne,hg_eq,hgs_ne, *];done)|(simp only [rb_len];done)|with_unfolding_all rfl) only [unf k142_2.eq_1,c142,nlt,w_xb,d1,EVS,Nat.reduceAdd,Nat.reduceSub,Int.reduceToNat,Nat.reduceMul,Nat.reduceEqDiff,Nat.reduceLeDiff,Int.reduceEq,Int.reduceLT,Int.reduceLE,↓reduceIte]
   exact next _ _ _ (by omega) (.refl hr) (by dsimp only;omega)
  ·rw [if_neg hgt] at g
   rw [g] at next
   have g3:=g2 hgt
   have d1:decide ((j2:Int) < i2)=false:=by simp;omega
   have e1:((i2:Nat):Int) + 1=((i2 + 1:Nat):Int):=by omega
   have e2:((j2:Nat):Int) - 1=((j2 - 1:Nat):Int):=by omega
   have hr':=hr
   rw [row_of] at hr'
   simp (disch:=first|omega|(simp only[EVL]<;>omega)|(simp only[hget_c,Nat.reduceEqDiff,↓reduceIte];done)|assumption|(simp (disch:=omega) only[hg_ne,hg_eq,hgs_ne, *];done)|(simp only [rb_len];done)|with_unfolding_all rfl) only [unf b142_4.eq_1,c142,EVS,Nat.reduceAdd,Nat.reduceSub,Int.reduceToNat,Nat.reduceMul,Nat.reduceEqDiff,Nat.reduceLeDiff,Int.reduceEq,Int.reduceLT,Int.reduceLE,↓reduceIte]
   refine up2 id n a d h ha hN hn hr _ _ (j + 1 - i) i j _ _ hj (Nat.le_refl _) hi2 fun nx1 hn1=>?_
   rw [hI]
   simp (disch:=first|omega|(simp only[EVL]<;>omega)|(simp only[hget_c,Nat.reduceEqDiff,↓reduceIte];done)|assumption|(simp (disch:=omega) only[hg_ne,hg_eq,hgs_ne, *];done)|(simp only [rb_len];done)|with_unfolding_all rfl) only [unf k142_3.eq_1,c142,EVS,Nat.reduceAdd,Nat.reduceSub,Int.reduceToNat,Nat.reduceMul,Nat.reduceEqDiff,Nat.reduceLeDiff,Int.reduceEq,Int.reduceLT,Int.reduceLE,↓reduceIte]
   refine dn2 id n a d h ha hN hn hr _ _ i2 (by omega) (by omega) j _ _ hj fun nx2 hn2=>?_
   rw [hJ]
   simp (disch:=first|omega|(simp only[EVL]<;>omega)|(simp only[hget_c,Nat.reduceEqDiff,↓reduceIte];done)|assumption|(simp (disch:=omega) only[hg_ne,hg_eq,hgs_ne, *];done)|(simp only [rb_len];done)|with_unfolding_all rfl) only [unf k142_2.eq_1,c142,w_xb,d1,e1,e2,hr',SR,EVS,Nat.reduceAdd,Nat.reduceSub,Int.reduceToNat,Nat.reduceMul,Nat.reduceEqDiff,Nat.reduceLeDiff,Int.reduceEq,Int.reduceLT,Int.reduceLE,↓reduceIte]
   refine Ok_inL0 (ih (i2 + 1) (j2 - 1) (Go.Sort.swp d i2 j2) _ _ (by omega) (by omega) (by omega) (by omega) (by rw [sz_swp];exact hn) (hgs_eq hr) fun h' nx' iv hn' hx hb=>next _ _ _ (by omega) ((RowR.one hr).trans hx) hb)
theorem partE_spec (id n a b p:Nat) (d:Array Bd) (hab:a + 1 < b) (hb:b ≤ n) (hp1:a ≤ p) (hp2:p < b) (hN:n ≤ 1000000) (hn:d.size=n) (h:Heap) (nx:Nat) (hr:hget h id=some (rowB d)) :
  ∃ r,lim T 142 [.sref 3 id n 0 n,.int .i64 a,.int .i64 b,.int .i64 p,.fn 67 []] h nx=some r∧r.1=.int .i64 (Go.Sort.partitionEqual ltB d a b p).1∧RowN id (Go.Sort.partitionEqual ltB d a b p).2 h nx r.2.1 r.2.2:=by
 refine shr_ex tg142 rfl rfl ?_
 have e1:(b:Int) - 1=((b - 1:Nat):Int):=by omega
 have e0:(a:Int) + 1=((a + 1:Nat):Int):=by omega
 have hr0:=hr
 rw [row_of] at hr0
 have hr1:RowR h id (Go.Sort.swp d a p) (hset h id (.row 3 ((Go.Sort.swp d a p).toList.map bS))):=RowR.one hr
 have hs1:(Go.Sort.swp d a p).size=n:=by rw [sz_swp];exact hn
 have gp:Go.Sort.partitionEqual ltB d a b p=Go.Sort.partEqLoop ltB a (a + 1) (b - 1) (Go.Sort.swp d a p):=rfl
 rw [gp]
 simp (disch:=first|omega|(simp only[EVL]<;>omega)|(simp only[hget_c,Nat.reduceEqDiff,↓reduceIte];done)|assumption|(simp (disch:=omega) only[hg_ne,hg_eq,hgs_ne, *];done)|(simp only [rb_len];done)|with_unfolding_all rfl) only [c142,hr0,SR,e0,e1,EVS,Nat.reduceAdd,Nat.reduceSub,Int.reduceToNat,Nat.reduceMul,Nat.reduceEqDiff,Nat.reduceLeDiff,Int.reduceEq,Int.reduceLT,Int.reduceLE,↓reduceIte]
 refine pe_loop id n a (by omega) hN _ _ (a + 1) (b - 1) _ _ _ (Nat.lt_succ_self _) (by omega) (by omega) (by omega) hs1 hr1.1 fun h' nx' iv hn' hx hb=>?_
 simp (disch:=first|omega|(simp only[EVL]<;>omega)|(simp only[hget_c,Nat.reduceEqDiff,↓reduceIte];done)|assumption|(simp (disch:=omega) only[hg_ne,hg_eq,hgs_ne, *];done)|(simp only [rb_len];done)|with_unfolding_all rfl) only [unf k142_5.eq_1,c142,EVS,Nat.reduceAdd,Nat.reduceSub,Int.reduceToNat,Nat.reduceMul,Nat.reduceEqDiff,Nat.reduceLeDiff,Int.reduceEq,Int.reduceLT,Int.reduceLE,↓reduceIte]
 exact (hr1.trans hx).n (by omega)

theorem ss_size {b i:Nat} {d:Array Bd}:∀ k,b - i ≤ k→i ≤ b→i ≤ Go.Sort.scanSorted ltB d b i∧Go.Sort.scanSorted ltB d b i ≤ b:=by
 intro k
 induction k generalizing i with
 |zero=>intro hk hi;rw [Go.Sort.scanSorted,if_neg (by simp;omega)];omega
 |succ k ih =>
  intro hk hi
  rw [Go.Sort.scanSorted]
  split
  ·rename_i hc
   simp only [Bool.and_eq_true,decide_eq_true_eq] at hc
   have:=ih (i:=i + 1) (by omega) (by omega)
   omega
  ·omega
theorem ss_scan (id n b:Nat) (A S:Int) (d:Array Bd) (h:Heap) (hb:b ≤ n) (hN:n ≤ 1000000) (hn:d.size=n) (hr:hget h id=some (rowB d)) (rest:List I) (Q:Post Out):∀ (k i:Nat) (nx:Nat) (x:Tm),b - i ≤ k→1 ≤ i→i ≤ b →
  (∀ nx':Nat,nx ≤ nx'→@Ok Out (runs T (.code k141_4::rest) [(0,.sref 3 id n 0 n),(1,.int .i64 A),(2,.int .i64 b),(3,.fn 67 []),(9,.int .i64 (Go.Sort.scanSorted ltB d b i:Nat)),(10,.int .i64 S),(36,.bool false)] h nx') Q) →
  @Ok Out (runs T (.code b141_0::.inL none b141_0::.inB 2::.code k141_4::rest) ((0,.sref 3 id n 0 n)::(1,.int .i64 A)::(2,.int .i64 b)::(3,.fn 67 [])::(9,.int .i64 i)::(10,.int .i64 S)::x) h nx) Q:=by
 have hr':=hr
 rw [row_of] at hr'
 intro k
 induction k with
 |zero =>
  intro i nx x hk hi hib next
  have h1:decide (i < b)=false:=by simp;omega
  rw [Go.Sort.scanSorted,if_neg (by simp;omega)] at next
  simp (disch:=first|omega|(simp only[EVL]<;>omega)|(simp only[hget_c,Nat.reduceEqDiff,↓reduceIte];done)|assumption|(simp (disch:=omega) only[hg_ne,hg_eq,hgs_ne, *];done)|(simp only [rb_len];done)|with_unfolding_all rfl) only [unf b141_0.eq_1,c141,nlt,h1,EVS,Nat.reduceAdd,Nat.reduceSub,Int.reduceToNat,Nat.reduceMul,Nat.reduceEqDiff,Nat.reduceLeDiff,Int.reduceEq,Int.reduceLT,Int.reduceLE,↓reduceIte]
  exact next _ (by omega)
 |succ k ih =>
  intro i nx x hk hi hib next
  have e1:((i:Nat):Int) - 1=((i - 1:Nat):Int):=by omega
  by_cases hc:i < b
  ·have h1:decide (i < b)=true:=by simp;omega
   cases hb:ltB d[i]! d[i - 1]! with
   |false =>
    rw [Go.Sort.scanSorted,if_pos (by simp [hb];omega)] at next
    simp (disch:=first|omega|(simp only[EVL]<;>omega)|(simp only[hget_c,Nat.reduceEqDiff,↓reduceIte];done)|assumption|(simp (disch:=omega) only[hg_ne,hg_eq,hgs_ne, *];done)|(simp only [rb_len];done)|with_unfolding_all rfl) only [unf b141_0.eq_1,c141,nlt,na1,e1,h1,cmp_spec,hr',SR,ltB_eq,hb,EVS,Nat.reduceAdd,Nat.reduceSub,Int.reduceToNat,Nat.reduceMul,Nat.reduceEqDiff,Nat.reduceLeDiff,Int.reduceEq,Int.reduceLT,Int.reduceLE,↓reduceIte]
    exact Ok_inL0 (ih (i + 1) _ _ (by omega) (by omega) (by omega) fun nx' h2=>next nx' (by omega))
   |true =>
    rw [Go.Sort.scanSorted,if_neg (by simp [hb])] at next
    simp (disch:=first|omega|(simp only[EVL]<;>omega)|(simp only[hget_c,Nat.reduceEqDiff,↓reduceIte];done)|assumption|(simp (disch:=omega) only[hg_ne,hg_eq,hgs_ne, *];done)|(simp only [rb_len];done)|with_unfolding_all rfl) only [unf b141_0.eq_1,c141,nlt,e1,h1,cmp_spec,hr',SR,ltB_eq,hb,EVS,Nat.reduceAdd,Nat.reduceSub,Int.reduceToNat,Nat.reduceMul,Nat.reduceEqDiff,Nat.reduceLeDiff,Int.reduceEq,Int.reduceLT,Int.reduceLE,↓reduceIte]
    exact next _ (by omega)
  ·have h1:decide (i < b)=false:=by simp;omega
   rw [Go.Sort.scanSorted,if_neg (by simp;omega)] at next
   simp (disch:=first|omega|(simp only[EVL]<;>omega)|(simp only[hget_c,Nat.reduceEqDiff,↓reduceIte];done)|assumption|(simp (disch:=omega) only[hg_ne,hg_eq,hgs_ne, *];done)|(simp only [rb_len];done)|with_unfolding_all rfl) only [unf b141_0.eq_1,c141,nlt,h1,EVS,Nat.reduceAdd,Nat.reduceSub,Int.reduceToNat,Nat.reduceMul,Nat.reduceEqDiff,Nat.reduceLeDiff,Int.reduceEq,Int.reduceLT,Int.reduceLE,↓reduceIte]
   exact next _ (by omega)
theorem sd_size:∀ (j:Nat) (d:Array Bd),(Go.Sort.shiftDown ltB j d).size=d.size:=by
 intro j
 induction j with
 |zero=>intro d;rfl
 |succ j ih=>intro d;rw [Go.Sort.shiftDown];split<;>simp [ih,sz_swp]
theorem su_size {b:Nat}:∀ (k j:Nat) (d:Array Bd),b - j ≤ k→(Go.Sort.shiftUp ltB b j d).size=d.size:=by
 intro k
 induction k with
 |zero=>intro j d hk;rw [Go.Sort.shiftUp,if_neg (by omega)]
 |succ k ih =>
  intro j d hk
  rw [Go.Sort.shiftUp]
  split
  ·split
   ·rfl
   ·rw [ih _ _ (by omega),sz_swp]
  ·rfl
theorem sd_shift (id n:Nat) (A B S:Int) (i:Nat) (hN:n ≤ 1000000) (rest:List I) (Q:Post Out):∀ (j:Nat) (d:Array Bd) (h:Heap) (nx:Nat) (x:Tm),j < n→d.size=n→hget h id=some (rowB d) →
  (∀ (h':Heap) (nx':Nat) (x:Tm),nx ≤ nx'→RowR h id (Go.Sort.shiftDown ltB j d) h'→@Ok Out (runs T (.code k141_3::rest) ((0,.sref 3 id n 0 n)::(1,.int .i64 A)::(2,.int .i64 B)::(3,.fn 67 [])::(9,.int .i64 i)::(10,.int .i64 S)::x) h' nx') Q) →
  @Ok Out (runs T (.code b141_1::.inL none b141_1::.inB 4::.code k141_3::rest) ((0,.sref 3 id n 0 n)::(1,.int .i64 A)::(2,.int .i64 B)::(3,.fn 67 [])::(9,.int .i64 i)::(10,.int .i64 S)::(11,.int .i64 j)::x) h nx) Q:=by
 intro j
 induction j with
 |zero =>
  intro d h nx x hj hn hr next
  have h1:decide ((1:Int) ≤ ((0:Nat):Int))=false:=by decide
  simp (disch:=first|omega|(simp only[EVL]<;>omega)|(simp only[hget_c,Nat.reduceEqDiff,↓reduceIte];done)|assumption|(simp (disch:=omega) only[hg_ne,hg_eq,hgs_ne, *];done)|(simp only [rb_len];done)|with_unfolding_all rfl) only [unf b141_1.eq_1,c141,h1,EVS,Nat.reduceAdd,Nat.reduceSub,Int.reduceToNat,Nat.reduceMul,Nat.reduceEqDiff,Nat.reduceLeDiff,Int.reduceEq,Int.reduceLT,Int.reduceLE,↓reduceIte]
  exact next _ _ _ (by omega) (.refl hr)
 |succ j ih =>
  intro d h nx x hj hn hr next
  have h1:decide ((1:Int) ≤ ((j + 1:Nat):Int))=true:=by simp;omega
  have e1:((j + 1:Nat):Int) - 1=(j:Nat):=by omega
  have hr':=hr
  rw [row_of] at hr'
  cases hb:ltB d[j + 1]! d[j]! with
  |false =>
   rw [Go.Sort.shiftDown,if_pos (by simp [hb])] at next
   simp (disch:=first|omega|(simp only[EVL]<;>omega)|(simp only[hget_c,Nat.reduceEqDiff,↓reduceIte];done)|assumption|(simp (disch:=omega) only[hg_ne,hg_eq,hgs_ne, *];done)|(simp only [rb_len];done)|with_unfolding_all rfl) only [unf b141_1.eq_1,c141,h1,e1,cmp_spec,hr',SR,ltB_eq,hb,w_xb,EVS,Nat.reduceAdd,Nat.reduceSub,Int.reduceToNat,Nat.reduceMul,Nat.reduceEqDiff,Nat.reduceLeDiff,Int.reduceEq,Int.reduceLT,Int.reduceLE,↓reduceIte]
   exact next _ _ _ (by omega) (.refl hr)
  |true =>
   rw [Go.Sort.shiftDown,if_neg (by simp [hb])] at next
   simp (disch:=first|omega|(simp only[EVL]<;>omega)|(simp only[hget_c,Nat.reduceEqDiff,↓reduceIte];done)|assumption|(simp (disch:=omega) only[hg_ne,hg_eq,hgs_ne, *];done)|(simp only [rb_len];done)|with_unfolding_all rfl) only [unf b141_1.eq_1,c141,h1,e1,cmp_spec,hr',SR,ltB_eq,hb,w_xb,EVS,Nat.reduceAdd,Nat.reduceSub,Int.reduceToNat,Nat.reduceMul,Nat.reduceEqDiff,Nat.reduceLeDiff,Int.reduceEq,Int.reduceLT,Int.reduceLE,↓reduceIte]
   exact Ok_inL0 (ih (Go.Sort.swp d (j + 1) j) _ _ _ (by omega) (by rw [sz_swp];exact hn) (hgs_eq hr) fun h' nx' x hn' hx=>next _ _ _ (by omega) ((RowR.one hr).trans hx))
theorem su_shift (id n b:Nat) (A S:Int) (i:Nat) (hb:b ≤ n) (hN:n ≤ 1000000) (rest:List I) (Q:Post Out):∀ (k j:Nat) (d:Array Bd) (h:Heap) (nx:Nat) (x:Tm),b - j ≤ k→1 ≤ j→j ≤ n + 1→d.size=n→hget h id=some (rowB d) →
  (∀ (h':Heap) (nx':Nat) (x:Tm),nx ≤ nx'→RowR h id (Go.Sort.shiftUp ltB b j d) h'→@Ok Out (runs T rest ((0,.sref 3 id n 0 n)::(1,.int .i64 A)::(2,.int .i64 b)::(3,.fn 67 [])::(9,.int .i64 i)::(10,.int .i64 S)::x) h' nx') Q) →
  @Ok Out (runs T (.code b141_2::.inL none b141_2::.inB 6::rest) ((0,.sref 3 id n 0 n)::(1,.int .i64 A)::(2,.int .i64 b)::(3,.fn 67 [])::(9,.int .i64 i)::(10,.int .i64 S)::(12,.int .i64 j)::x) h nx) Q:=by
 intro k
 induction k with
 |zero =>
  intro j d h nx x hk hj1 hj hn hr next
  have h1:decide (j < b)=false:=by simp;omega
  rw [Go.Sort.shiftUp,if_neg (by omega)] at next
  simp (disch:=first|omega|(simp only[EVL]<;>omega)|(simp only[hget_c,Nat.reduceEqDiff,↓reduceIte];done)|assumption|(simp (disch:=omega) only[hg_ne,hg_eq,hgs_ne, *];done)|(simp only [rb_len];done)|with_unfolding_all rfl) only [unf b141_2.eq_1,c141,nlt,h1,EVS,Nat.reduceAdd,Nat.reduceSub,Int.reduceToNat,Nat.reduceMul,Nat.reduceEqDiff,Nat.reduceLeDiff,Int.reduceEq,Int.reduceLT,Int.reduceLE,↓reduceIte]
  exact next _ _ _ (by omega) (.refl hr)
 |succ k ih =>
  intro j d h nx x hk hj1 hj hn hr next
  have e1:((j:Nat):Int) - 1=((j - 1:Nat):Int):=by omega
  have hr':=hr
  rw [row_of] at hr'
  by_cases hc:j < b
  ·have h1:decide (j < b)=true:=by simp;omega
   cases hb:ltB d[j]! d[j - 1]! with
   |false =>
    rw [Go.Sort.shiftUp,if_pos hc,if_pos (by simp [hb])] at next
    simp (disch:=first|omega|(simp only[EVL]<;>omega)|(simp only[hget_c,Nat.reduceEqDiff,↓reduceIte];done)|assumption|(simp (disch:=omega) only[hg_ne,hg_eq,hgs_ne, *];done)|(simp only [rb_len];done)|with_unfolding_all rfl) only [unf b141_2.eq_1,c141,nlt,h1,e1,cmp_spec,hr',SR,ltB_eq,hb,w_xb,EVS,Nat.reduceAdd,Nat.reduceSub,Int.reduceToNat,Nat.reduceMul,Nat.reduceEqDiff,Nat.reduceLeDiff,Int.reduceEq,Int.reduceLT,Int.reduceLE,↓reduceIte]
    exact next _ _ _ (by omega) (.refl hr)
   |true =>
    rw [Go.Sort.shiftUp,if_pos hc,if_neg (by simp [hb])] at next
    simp (disch:=first|omega|(simp only[EVL]<;>omega)|(simp only[hget_c,Nat.reduceEqDiff,↓reduceIte];done)|assumption|(simp (disch:=omega) only[hg_ne,hg_eq,hgs_ne, *];done)|(simp only [rb_len];done)|with_unfolding_all rfl) only [unf b141_2.eq_1,c141,nlt,na1,h1,e1,cmp_spec,hr',SR,ltB_eq,hb,w_xb,EVS,Nat.reduceAdd,Nat.reduceSub,Int.reduceToNat,Nat.reduceMul,Nat.reduceEqDiff,Nat.reduceLeDiff,Int.reduceEq,Int.reduceLT,Int.reduceLE,↓reduceIte]
    exact Ok_inL0 (ih (j + 1) (Go.Sort.swp d j (j - 1)) _ _ _ (by omega) (by omega) (by omega) (by rw [sz_swp];exact hn) (hgs_eq hr) fun h' nx' x hn' hx=>next _ _ _ (by omega) ((RowR.one hr).trans hx))
  ·have h1:decide (j < b)=false:=by simp;omega
   rw [Go.Sort.shiftUp,if_neg (by omega)] at next
   simp (disch:=first|omega|(simp only[EVL]<;>omega)|(simp only[hget_c,Nat.reduceEqDiff,↓reduceIte];done)|assumption|(simp (disch:=omega) only[hg_ne,hg_eq,hgs_ne, *];done)|(simp only [rb_len];done)|with_unfolding_all rfl) only [unf b141_2.eq_1,c141,nlt,h1,EVS,Nat.reduceAdd,Nat.reduceSub,Int.reduceToNat,Nat.reduceMul,Nat.reduceEqDiff,Nat.reduceLeDiff,Int.reduceEq,Int.reduceLT,Int.reduceLE,↓reduceIte]
   exact next _ _ _ (by omega) (.refl hr)

theorem pi_loop (id n a b:Nat) (hab:a < b) (hb:b ≤ n) (hN:n ≤ 1000000):∀ (s i m:Nat) (d:Array Bd) (h:Heap) (nx:Nat),m + s=5→a < i→i ≤ b→d.size=n→hget h id=some (rowB d) →
  @Ok Out (runs T [.code b141_6,.inL none b141_6,.inB 0,.code k141_7] [(0,.sref 3 id n 0 n),(1,.int .i64 a),(2,.int .i64 b),(3,.fn 67 []),(9,.int .i64 i),(10,.int .i64 m)] h nx)
   ⟨fun x=>@Ok FV (finV c141.res x) ⟨fun v=>v=.bool (Go.Sort.partialIns ltB a b s i d).2∧RowR h id (Go.Sort.partialIns ltB a b s i d).1 x.2.2.1∧nx ≤ x.2.2.2⟩⟩:=by
 intro s
 induction s with
 |zero =>
  intro i m d h nx hm hai hib hn hr
  have h1:decide ((m:Int) < 5)=false:=by simp;omega
  simp (disch:=first|omega|(simp only[EVL]<;>omega)|(simp only[hget_c,Nat.reduceEqDiff,↓reduceIte];done)|assumption|(simp (disch:=omega) only[hg_ne,hg_eq,hgs_ne, *];done)|(simp only [rb_len];done)|with_unfolding_all rfl) only [unf b141_6.eq_1,unf k141_7.eq_1,c141,h1,EVS,Nat.reduceAdd,Nat.reduceSub,Int.reduceToNat,Nat.reduceMul,Nat.reduceEqDiff,Nat.reduceLeDiff,Int.reduceEq,Int.reduceLT,Int.reduceLE,↓reduceIte]
  exact ⟨rfl,.refl hr,by omega⟩
 |succ s ih =>
  intro i m d h nx hm hai hib hn hr
  have h1:decide ((m:Int) < 5)=true:=by simp;omega
  have hsz:=ss_size (d:=d) (b - i) (Nat.le_refl _) hib
  rw [Go.Sort.partialIns_succ]
  simp (disch:=first|omega|(simp only[EVL]<;>omega)|(simp only[hget_c,Nat.reduceEqDiff,↓reduceIte];done)|assumption|(simp (disch:=omega) only[hg_ne,hg_eq,hgs_ne, *];done)|(simp only [rb_len];done)|with_unfolding_all rfl) only [unf b141_6.eq_1,c141,h1,EVS,Nat.reduceAdd,Nat.reduceSub,Int.reduceToNat,Nat.reduceMul,Nat.reduceEqDiff,Nat.reduceLeDiff,Int.reduceEq,Int.reduceLT,Int.reduceLE,↓reduceIte]
  refine ss_scan id n b a m d h hb hN hn hr _ _ (b - i) i _ _ (Nat.le_refl _) (by omega) hib fun nx1 hn1=>?_
  generalize Go.Sort.scanSorted ltB d b i=q at *
  by_cases hq:q=b
  ·subst hq
   rw [if_pos rfl]
   simp (disch:=first|omega|(simp only[EVL]<;>omega)|(simp only[hget_c,Nat.reduceEqDiff,↓reduceIte];done)|assumption|(simp (disch:=omega) only[hg_ne,hg_eq,hgs_ne, *];done)|(simp only [rb_len];done)|with_unfolding_all rfl) only [unf k141_4.eq_1,c141,EVS,Nat.reduceAdd,Nat.reduceSub,Int.reduceToNat,Nat.reduceMul,Nat.reduceEqDiff,Nat.reduceLeDiff,Int.reduceEq,Int.reduceLT,Int.reduceLE,↓reduceIte]
   exact ⟨.refl hr,by omega⟩
  ·rw [if_neg hq]
   have hq':¬ (q:Int)=b:=by omega
   have e0:(b:Int) - a=((b - a:Nat):Int):=by omega
   by_cases h50:b - a < 50
   ·rw [if_pos h50]
    have d50:decide (((b - a:Nat):Int) < 50)=true:=by simp;omega
    simp (disch:=first|omega|(simp only[EVL]<;>omega)|(simp only[hget_c,Nat.reduceEqDiff,↓reduceIte];done)|assumption|(simp (disch:=omega) only[hg_ne,hg_eq,hgs_ne, *];done)|(simp only [rb_len];done)|with_unfolding_all rfl) only [unf k141_4.eq_1,c141,hq',e0,d50,EVS,Nat.reduceAdd,Nat.reduceSub,Int.reduceToNat,Nat.reduceMul,Nat.reduceEqDiff,Nat.reduceLeDiff,Int.reduceEq,Int.reduceLT,Int.reduceLE,↓reduceIte]
    exact ⟨.refl hr,by omega⟩
   ·rw [if_neg h50]
    have d50:decide (((b - a:Nat):Int) < 50)=false:=by simp;omega
    have e1:((q:Nat):Int) - 1=((q - 1:Nat):Int):=by omega
    have e2:((q:Nat):Int) - a=((q - a:Nat):Int):=by omega
    have e3:((b:Nat):Int) - q=((b - q:Nat):Int):=by omega
    have e4:((m:Nat):Int) + 1=((m + 1:Nat):Int):=by omega
    have e5:((q:Nat):Int) + 1=((q + 1:Nat):Int):=by omega
    have hr':=hr
    rw [row_of] at hr'
    have hs1:(Go.Sort.swp d q (q - 1)).size=n:=by rw [sz_swp];exact hn
    have hr1:RowR h id (Go.Sort.swp d q (q - 1)) (hset h id (.row 3 ((Go.Sort.swp d q (q - 1)).toList.map bS))):=RowR.one hr
    have tail:∀ (h':Heap) (nx':Nat) (x:Tm),nx ≤ nx'→RowR h id (Go.Sort.fixDown ltB a q (Go.Sort.swp d q (q - 1))) h' →
      @Ok Out (runs T (.code k141_3::.inB 1::.code k141_5::.inL none b141_6::.inB 0::.code k141_7::[]) ((0,.sref 3 id n 0 n)::(1,.int .i64 a)::(2,.int .i64 b)::(3,.fn 67 [])::(9,.int .i64 q)::(10,.int .i64 m)::x) h' nx')
       ⟨fun x=>@Ok FV (finV c141.res x) ⟨fun v=>v=.bool (Go.Sort.partialIns ltB a b s q (Go.Sort.fixUp ltB b q (Go.Sort.fixDown ltB a q (Go.Sort.swp d q (q - 1))))).2∧RowR h id (Go.Sort.partialIns ltB a b s q (Go.Sort.fixUp ltB b q (Go.Sort.fixDown ltB a q (Go.Sort.swp d q (q - 1))))).1 x.2.2.1∧nx ≤ x.2.2.2⟩⟩:=by
     intro h' nx' x hnx hx
     have hs2:(Go.Sort.fixDown ltB a q (Go.Sort.swp d q (q - 1))).size=n:=by
      unfold Go.Sort.fixDown
      split
      ·rw [sd_size];exact hs1
      ·exact hs1
     generalize Go.Sort.fixDown ltB a q (Go.Sort.swp d q (q - 1))=d2 at *
     by_cases hu:b - q ≥ 2
     ·have du:decide ((2:Int) ≤ ((b - q:Nat):Int))=true:=by simp;omega
      simp (disch:=first|omega|(simp only[EVL]<;>omega)|(simp only[hget_c,Nat.reduceEqDiff,↓reduceIte];done)|assumption|(simp (disch:=omega) only[hg_ne,hg_eq,hgs_ne, *];done)|(simp only [rb_len];done)|with_unfolding_all rfl) only [unf k141_3.eq_1,c141,e3,e5,du,EVS,Nat.reduceAdd,Nat.reduceSub,Int.reduceToNat,Nat.reduceMul,Nat.reduceEqDiff,Nat.reduceLeDiff,Int.reduceEq,Int.reduceLT,Int.reduceLE,↓reduceIte]
      refine su_shift id n b a m q hb hN _ _ (b - (q + 1)) (q + 1) d2 h' _ _ (Nat.le_refl _) (by omega) (by omega) hs2 hx.1 fun h3 nx3 x3 hn3 hx3=>?_
      have ef:Go.Sort.fixUp ltB b q d2=Go.Sort.shiftUp ltB b (q + 1) d2:=if_pos hu
      rw [ef]
      simp (disch:=first|omega|(simp only[EVL]<;>omega)|(simp only[hget_c,Nat.reduceEqDiff,↓reduceIte];done)|assumption|(simp (disch:=omega) only[hg_ne,hg_eq,hgs_ne, *];done)|(simp only [rb_len];done)|with_unfolding_all rfl) only [unf k141_5.eq_1,c141,e4,EVS,Nat.reduceAdd,Nat.reduceSub,Int.reduceToNat,Nat.reduceMul,Nat.reduceEqDiff,Nat.reduceLeDiff,Int.reduceEq,Int.reduceLT,Int.reduceLE,↓reduceIte]
      refine Ok_inL0 (Ok_mono (ih q (m + 1) _ h3 _ (by omega) (by omega) (by omega) (by rw [su_size _ _ _ (Nat.le_refl _)];exact hs2) hx3.1) fun y hy=>Ok_mono hy fun v hv=>?_)
      exact ⟨hv.1,(hx.trans hx3).trans hv.2.1,by have:=hv.2.2;omega⟩
     ·have du:decide ((2:Int) ≤ ((b - q:Nat):Int))=false:=by simp;omega
      have ef:Go.Sort.fixUp ltB b q d2=d2:=if_neg hu
      rw [ef]
      simp (disch:=first|omega|(simp only[EVL]<;>omega)|(simp only[hget_c,Nat.reduceEqDiff,↓reduceIte];done)|assumption|(simp (disch:=omega) only[hg_ne,hg_eq,hgs_ne, *];done)|(simp only [rb_len];done)|with_unfolding_all rfl) only [unf k141_3.eq_1,unf k141_5.eq_1,c141,e3,e4,du,EVS,Nat.reduceAdd,Nat.reduceSub,Int.reduceToNat,Nat.reduceMul,Nat.reduceEqDiff,Nat.reduceLeDiff,Int.reduceEq,Int.reduceLT,Int.reduceLE,↓reduceIte]
      refine Ok_inL0 (Ok_mono (ih q (m + 1) _ h' _ (by omega) (by omega) (by omega) hs2 hx.1) fun y hy=>Ok_mono hy fun v hv=>?_)
      exact ⟨hv.1,hx.trans hv.2.1,by have:=hv.2.2;omega⟩
    by_cases hd:q - a ≥ 2
    ·have dd:decide ((2:Int) ≤ ((q - a:Nat):Int))=true:=by simp;omega
     simp (disch:=first|omega|(simp only[EVL]<;>omega)|(simp only[hget_c,Nat.reduceEqDiff,↓reduceIte];done)|assumption|(simp (disch:=omega) only[hg_ne,hg_eq,hgs_ne, *];done)|(simp only [rb_len];done)|with_unfolding_all rfl) only [unf k141_4.eq_1,c141,hq',e0,e1,e2,d50,dd,hr',SR,EVS,Nat.reduceAdd,Nat.reduceSub,Int.reduceToNat,Nat.reduceMul,Nat.reduceEqDiff,Nat.reduceLeDiff,Int.reduceEq,Int.reduceLT,Int.reduceLE,↓reduceIte]
     refine sd_shift id n a b m q hN _ _ (q - 1) _ _ _ _ (by omega) hs1 hr1.1 fun h3 nx3 x3 hn3 hx3=>?_
     exact tail _ _ _ (by omega) (by rw [show Go.Sort.fixDown ltB a q (Go.Sort.swp d q (q - 1))=Go.Sort.shiftDown ltB (q - 1) (Go.Sort.swp d q (q - 1)) from if_pos hd];exact hr1.trans hx3)
    ·have dd:decide ((2:Int) ≤ ((q - a:Nat):Int))=false:=by simp;omega
     simp (disch:=first|omega|(simp only[EVL]<;>omega)|(simp only[hget_c,Nat.reduceEqDiff,↓reduceIte];done)|assumption|(simp (disch:=omega) only[hg_ne,hg_eq,hgs_ne, *];done)|(simp only [rb_len];done)|with_unfolding_all rfl) only [unf k141_4.eq_1,c141,hq',e0,e1,e2,d50,dd,hr',SR,EVS,Nat.reduceAdd,Nat.reduceSub,Int.reduceToNat,Nat.reduceMul,Nat.reduceEqDiff,Nat.reduceLeDiff,Int.reduceEq,Int.reduceLT,Int.reduceLE,↓reduceIte]
     exact tail _ _ _ (by omega) (by rw [show Go.Sort.fixDown ltB a q (Go.Sort.swp d q (q - 1))=Go.Sort.swp d q (q - 1) from if_neg hd];exact hr1)
theorem partI_spec (id n a b:Nat) (d:Array Bd) (hab:a < b) (hb:b ≤ n) (hN:n ≤ 1000000) (hn:d.size=n) (h:Heap) (nx:Nat) (hr:hget h id=some (rowB d)) :
  ∃ r,lim T 141 [.sref 3 id n 0 n,.int .i64 a,.int .i64 b,.fn 67 []] h nx=some r∧r.1=.bool (Go.Sort.partialInsertionSort ltB d a b).2∧RowN id (Go.Sort.partialInsertionSort ltB d a b).1 h nx r.2.1 r.2.2:=by
 refine shr_ex tg141 rfl rfl ?_
 have e0:(a:Int) + 1=((a + 1:Nat):Int):=by omega
 simp (disch:=first|omega|(simp only[EVL]<;>omega)|(simp only[hget_c,Nat.reduceEqDiff,↓reduceIte];done)|assumption|(simp (disch:=omega) only[hg_ne,hg_eq,hgs_ne, *];done)|(simp only [rb_len];done)|with_unfolding_all rfl) only [c141,e0,EVS,Nat.reduceAdd,Nat.reduceSub,Int.reduceToNat,Nat.reduceMul,Nat.reduceEqDiff,Nat.reduceLeDiff,Int.reduceEq,Int.reduceLT,Int.reduceLE,↓reduceIte]
 refine Ok_mono (pi_loop id n a b hab hb hN 5 (a + 1) 0 d h _ rfl (by omega) (by omega) hn hr) fun x hq=>Ok_mono hq fun v hv=>?_
 exact ⟨hv.1,hv.2.1.n (by have:=hv.2.2;dsimp only;omega)⟩

def powOk (x:Nat):Bool:=match FI.call T 100 158 [.int .i64 x] [] 0 with
 |some (.int .u64 m,_,_)=>decide (1 ≤ m∧m ≤ 2 * x)
 |_=>false
theorem pow_ok:∀ x:Nat,x < 501→1 ≤ x→powOk x=true:=by decide +kernel
theorem npow_spec (x:Nat) (h1:1 ≤ x) (h2:x < 501):∃ M:Nat,1 ≤ M∧M ≤ 2 * x∧∀ h nx,lim T 158 [.int .i64 x] h nx=some (.int .u64 M,h,nx):=by
 have:=pow_ok x h2 h1
 unfold powOk at this
 split at this
 ·rename_i m h' nx' hc
  have hm:=of_decide_eq_true this
  refine ⟨m.toNat,by omega,by omega,fun h nx=>?_⟩
  rw [show ((m.toNat:Nat):Int)=m by omega]
  exact lim_iso_any tg158 rfl (le_lim T _ _ _ _ _ _ hc) (by decide) h nx
 ·cases this
def lenOk (x:Nat):Bool:=match FI.call T 100 106 [.int .u64 x] [] 0 with
 |some (.int .i64 m,_,_)=>decide (0 ≤ m∧m ≤ 64)
 |_=>false
theorem len_ok:∀ x:Nat,x < 501→lenOk x=true:=by decide +kernel
theorem lenB_spec (x:Nat) (h2:x < 501):∃ L:Nat,L ≤ 64∧∀ h nx,lim T 106 [.int .u64 x] h nx=some (.int .i64 L,h,nx):=by
 have:=len_ok x h2
 unfold lenOk at this
 split at this
 ·rename_i m h' nx' hc
  have hm:=of_decide_eq_true this
  refine ⟨m.toNat,by omega,fun h nx=>?_⟩
  rw [show ((m.toNat:Nat):Int)=m by omega]
  exact lim_iso_any tg106 rfl (le_lim T _ _ _ _ _ _ hc) (by decide) h nx
 ·cases this
theorem band_le (y:Int) (M:Nat) (h1:M < 18446744073709551616):0 ≤ band .u64 y M∧band .u64 y M ≤ M:=by
 unfold band
 have e:(BitVec.ofInt IntKind.u64.bits y &&& BitVec.ofInt IntKind.u64.bits (M:Int)).toNat ≤ M:=by
  rw [BitVec.toNat_and]
  refine Nat.le_trans Nat.and_le_right ?_
  show (BitVec.ofInt 64 (M:Int)).toNat ≤ M
  rw [BitVec.toNat_ofInt]
  show ((M:Int) % ((2 ^ 64:Nat):Int)).toNat ≤ M
  omega
 rw [wrapu64 (by omega) (by omega)]
 omega
theorem brk_loop (id n a b M q:Nat) (hM:1 ≤ M) (hM2:M ≤ 2 * (b - a)) (h8:8 ≤ b - a) (hb:b ≤ n) (hN:n ≤ 500) (hq:q ≠ id):∀ (k i:Nat) (d:Array Bd) (h:Heap) (nx:Nat) (s:Int),a + ((b - a) / 4) * 2 + 2 - i ≤ k→a ≤ i→d.size=n→hget h id=some (rowB d)→hget h q=some (.row 1 [.int .u64 s]) →
  @Ok Out (runs T [.code b138_0,.inL none b138_0,.inB 0] [(0,.sref 3 id n 0 n),(1,.int .i64 a),(8,.int .i64 (b - a:Nat)),(9,.ptr q 1 0 0),(10,.int .u64 M),(11,.int .i64 i)] h nx)
   ⟨fun x=>@Ok FV (finV c138.res x) ⟨fun v=>v=.tup []∧∃ d',Go.Sort.PermIn a b d d'∧hget x.2.2.1 id=some (rowB d')∧nx ≤ x.2.2.2∧∀ j,j ≠ id→j ≠ q→hget x.2.2.1 j=hget h j⟩⟩:=by
 have e2:((b - a:Nat):Int).tdiv 4=(((b - a) / 4:Nat):Int):=by rw [Int.tdiv_eq_ediv_of_nonneg (by omega)];omega
 have e3:(((b - a) / 4:Nat):Int) * 2=(((b - a) / 4 * 2:Nat):Int):=by omega
 have e6:((M:Nat):Int) - 1=((M - 1:Nat):Int):=by omega
 intro k
 induction k with
 |zero =>
  intro i d h nx s hk hi hn hr hs
  have h1:decide (i ≤ a + (b - a) / 4 * 2 + 1)=false:=by simp;omega
  simp (disch:=first|omega|(simp only[EVL]<;>omega)|(simp only[hget_c,Nat.reduceEqDiff,↓reduceIte];done)|assumption|(simp (disch:=omega) only[hg_ne,hg_eq,hgs_ne, *];done)|(simp only [rb_len];done)|with_unfolding_all rfl) only [unf b138_0.eq_1,c138,e2,e3,NA,h1,EVS,Nat.reduceAdd,Nat.reduceSub,Int.reduceToNat,Nat.reduceMul,Nat.reduceEqDiff,Nat.reduceLeDiff,Int.reduceEq,Int.reduceLT,Int.reduceLE,↓reduceIte]
  exact ⟨rfl,d,Go.Sort.permIn_refl d a b,hr,by omega,fun _ _ _=>trivial⟩
 |succ k ih =>
  intro i d h nx s hk hi hn hr hs
  by_cases hc:i ≤ a + (b - a) / 4 * 2 + 1
  ·have h1:decide (i ≤ a + (b - a) / 4 * 2 + 1)=true:=by simp;omega
   simp (disch:=first|omega|(simp only[EVL]<;>omega)|(simp only[hget_c,Nat.reduceEqDiff,↓reduceIte];done)|assumption|(simp (disch:=omega) only[hg_ne,hg_eq,hgs_ne, *];done)|(simp only [rb_len];done)|with_unfolding_all rfl) only [unf b138_0.eq_1,c138,e2,e3,NA,h1,EVS,Nat.reduceAdd,Nat.reduceSub,Int.reduceToNat,Nat.reduceMul,Nat.reduceEqDiff,Nat.reduceLeDiff,Int.reduceEq,Int.reduceLT,Int.reduceLE,↓reduceIte]
   refine Ok_call (xor_spec q s h _ hs) fun r hr1=>?_
   obtain ⟨⟨y,p1,p2⟩,p3,p4⟩:=hr1
   rw [p1]
   refine ⟨rfl,?_⟩
   have hr2:=(p3 id (Ne.symm hq)).trans hr
   obtain ⟨o1,o2⟩:=band_le y (M - 1) (by omega)
   generalize hO:band .u64 y ((M - 1:Nat):Int)=O at o1 o2
   obtain ⟨O,rfl⟩:∃ O':Nat,O=O':=⟨O.toNat,by omega⟩
   have key:∀ o:Nat,o < b - a→∀ (h':Heap) (nx':Nat) (s':Int),nx ≤ nx'→hget h' id=some (rowB (Go.Sort.swp d i (a + o)))→hget h' q=some (.row 1 [.int .u64 s'])→(∀ j,j ≠ id→j ≠ q→hget h' j=hget h j) →
     @Ok Out (runs T [.code b138_0,.inL none b138_0,.inB 0] [(0,.sref 3 id n 0 n),(1,.int .i64 a),(8,.int .i64 (b - a:Nat)),(9,.ptr q 1 0 0),(10,.int .u64 M),(11,.int .i64 (i + 1:Nat))] h' nx')
      ⟨fun x=>@Ok FV (finV c138.res x) ⟨fun v=>v=.tup []∧∃ d',Go.Sort.PermIn a b d d'∧hget x.2.2.1 id=some (rowB d')∧nx ≤ x.2.2.2∧∀ j,j ≠ id→j ≠ q→hget x.2.2.1 j=hget h j⟩⟩:=by
    intro o ho h' nx' s' hnx k1 k2 k3
    refine Ok_mono (ih (i + 1) _ h' nx' s' (by omega) (by omega) (by rw [sz_swp];exact hn) k1 k2) fun x hx=>Ok_mono hx fun v hv=>?_
    obtain ⟨v1,d',v2,v3,v4,v5⟩:=hv
    exact ⟨v1,d',Go.Sort.permIn_trans _ _ _ a b (Go.Sort.swp_permIn d a b i (a + o) hi (by omega) (by omega) (by omega) (by omega)) v2,v3,by omega,fun j j1 j2=>(v5 j j1 j2).trans (k3 j j1 j2)⟩
   have hr3:=hr2
   rw [row_of] at hr3
   by_cases hg:b - a ≤ O
   ·have dg:decide (((b - a:Nat):Int) ≤ (O:Int))=true:=by simp;omega
    have eg:(O:Int) - ((b - a:Nat):Int)=((O - (b - a):Nat):Int):=by omega
    simp (disch:=first|omega|(simp only[EVL]<;>omega)|(simp only[hget_c,Nat.reduceEqDiff,↓reduceIte];done)|assumption|(simp (disch:=omega) only[hg_ne,hg_eq,hgs_ne, *];done)|(simp only [rb_len];done)|with_unfolding_all rfl) only [c138,e6,hO,dg,eg,na,na1,hr3,SR,EVS,Nat.reduceAdd,Nat.reduceSub,Int.reduceToNat,Nat.reduceMul,Nat.reduceEqDiff,Nat.reduceLeDiff,Int.reduceEq,Int.reduceLT,Int.reduceLE,↓reduceIte]
    refine Ok_inL0 (key (O - (b - a)) (by omega) _ _ y (by omega) ?_ ?_ fun j j1 j2=>?_)
    ·exact hgs_eq hr2
    ·rw [hgs_ne (Ne.symm hq)];exact p2
    ·rw [hgs_ne (Ne.symm j1)];exact p3 j j2
   ·have dg:decide (((b - a:Nat):Int) ≤ (O:Int))=false:=by simp;omega
    simp (disch:=first|omega|(simp only[EVL]<;>omega)|(simp only[hget_c,Nat.reduceEqDiff,↓reduceIte];done)|assumption|(simp (disch:=omega) only[hg_ne,hg_eq,hgs_ne, *];done)|(simp only [rb_len];done)|with_unfolding_all rfl) only [c138,e6,hO,dg,na,na1,hr3,SR,EVS,Nat.reduceAdd,Nat.reduceSub,Int.reduceToNat,Nat.reduceMul,Nat.reduceEqDiff,Nat.reduceLeDiff,Int.reduceEq,Int.reduceLT,Int.reduceLE,↓reduceIte]
    refine Ok_inL0 (key O (by omega) _ _ y (by omega) ?_ ?_ fun j j1 j2=>?_)
    ·exact hgs_eq hr2
    ·rw [hgs_ne (Ne.symm hq)];exact p2
    ·rw [hgs_ne (Ne.symm j1)];exact p3 j j2
  ·have h1:decide (i ≤ a + (b - a) / 4 * 2 + 1)=false:=by simp;omega
   simp (disch:=first|omega|(simp only[EVL]<;>omega)|(simp only[hget_c,Nat.reduceEqDiff,↓reduceIte];done)|assumption|(simp (disch:=omega) only[hg_ne,hg_eq,hgs_ne, *];done)|(simp only [rb_len];done)|with_unfolding_all rfl) only [unf b138_0.eq_1,c138,e2,e3,NA,h1,EVS,Nat.reduceAdd,Nat.reduceSub,Int.reduceToNat,Nat.reduceMul,Nat.reduceEqDiff,Nat.reduceLeDiff,Int.reduceEq,Int.reduceLT,Int.reduceLE,↓reduceIte]
   exact ⟨rfl,d,Go.Sort.permIn_refl d a b,hr,by omega,fun _ _ _=>trivial⟩
theorem brk_spec (id n a b:Nat) (d:Array Bd) (hab:a ≤ b) (hb:b ≤ n) (hN:n ≤ 500) (hn:d.size=n) (h:Heap) (nx:Nat) (hid:id < nx) (hr:hget h id=some (rowB d)) :
  ∃ r,lim T 138 [.sref 3 id n 0 n,.int .i64 a,.int .i64 b,.fn 67 []] h nx=some r∧r.1=.tup []∧∃ d',Go.Sort.PermIn a b d d'∧RowN id d' h nx r.2.1 r.2.2:=by
 refine shr_ex tg138 rfl rfl ?_
 have e1:(b:Int) - a=((b - a:Nat):Int):=by omega
 by_cases h8:8 ≤ b - a
 ·have d8:decide ((8:Int) ≤ ((b - a:Nat):Int))=true:=by simp;omega
  obtain ⟨M,m1,m2,hM⟩:=npow_spec (b - a) (by omega) (by omega)
  have e2:((b - a:Nat):Int).tdiv 4=(((b - a) / 4:Nat):Int):=by rw [Int.tdiv_eq_ediv_of_nonneg (by omega)];omega
  have e3:(((b - a) / 4:Nat):Int) * 2=(((b - a) / 4 * 2:Nat):Int):=by omega
  have e4:((a + (b - a) / 4 * 2:Nat):Int) - 1=((a + (b - a) / 4 * 2 - 1:Nat):Int):=by omega
  simp (disch:=first|omega|(simp only[EVL]<;>omega)|(simp only[hget_c,Nat.reduceEqDiff,↓reduceIte];done)|assumption|(simp (disch:=omega) only[hg_ne,hg_eq,hgs_ne, *];done)|(simp only [rb_len];done)|with_unfolding_all rfl) only [c138,e1,e2,e3,e4,d8,na,hM,SR,EVS,Nat.reduceAdd,Nat.reduceSub,Int.reduceToNat,Nat.reduceMul,Nat.reduceEqDiff,Nat.reduceLeDiff,Int.reduceEq,Int.reduceLT,Int.reduceLE,↓reduceIte]
  refine Ok_mono (brk_loop id n a b M (nx + 8) m1 m2 h8 hb hN (by omega) _ (a + (b - a) / 4 * 2 - 1) d _ _ ((b - a:Nat):Int) (Nat.le_refl _) (by omega) hn ?_ ?_) fun x hx=>Ok_mono hx fun v hv=>?_
  ·rw [hg_ne (by omega)];exact hr
  ·exact hg_eq
  ·obtain ⟨v1,d',v2,v3,v4,v5⟩:=hv
   exact ⟨v1,d',v2,v3,by dsimp only;omega,fun i i1 i2=>(v5 i i2 (by omega)).trans (hg_ne (by omega))⟩
 ·have d8:decide ((8:Int) ≤ ((b - a:Nat):Int))=false:=by simp;omega
  simp (disch:=first|omega|(simp only[EVL]<;>omega)|(simp only[hget_c,Nat.reduceEqDiff,↓reduceIte];done)|assumption|(simp (disch:=omega) only[hg_ne,hg_eq,hgs_ne, *];done)|(simp only [rb_len];done)|with_unfolding_all rfl) only [c138,e1,d8,EVS,Nat.reduceAdd,Nat.reduceSub,Int.reduceToNat,Nat.reduceMul,Nat.reduceEqDiff,Nat.reduceLeDiff,Int.reduceEq,Int.reduceLT,Int.reduceLE,↓reduceIte]
  exact ⟨rfl,d,Go.Sort.permIn_refl d a b,hr,by omega,fun _ _ _=>rfl⟩

open Go.Sort (PermIn SortedIn Below SWO)
def SrtR (id n a b:Nat) (d:Array Bd) (h:Heap) (nx:Nat) (h':Heap) (nx':Nat):Prop:=∃ d',PermIn a b d d'∧SortedIn ltB a b d'∧d'.size=n∧RowN id d' h nx h' nx'
abbrev PQ (id n a b:Nat) (d:Array Bd) (h:Heap) (nx:Nat):Post Out:=⟨fun x=>@Ok FV (finV c105.res x) ⟨fun v=>v=.tup []∧SrtR id n a b d h nx x.2.2.1 x.2.2.2⟩⟩
abbrev HD (id n:Nat) (a b l:Nat) (wb wp:Bool):Tm:=[(0,.sref 3 id n 0 n),(1,.int .i64 a),(2,.int .i64 b),(3,.int .i64 l),(4,.fn 67 []),(10,.bool wb),(11,.bool wp)]
abbrev LP:List I:=[.code b105_0,.inL none b105_0,.inB 0]
abbrev IHp (id n m:Nat):Prop:=∀ (a b l:Nat) (wb wp:Bool) (d:Array Bd) (h:Heap) (nx:Nat),b - a < m→a ≤ b→b ≤ n→l ≤ 64→d.size=n→id < nx→Below ltB a b d→hget h id=some (rowB d)→@Ok Out (runs T LP (HD id n a b l wb wp) h nx) (PQ id n a b d h nx)

open Go.Sort (PermIn SortedIn Below SWO)
theorem PQ_up {e:Option Out} {id n a b:Nat} {d0 d:Array Bd} {h0 h:Heap} {nx0 nx:Nat} (hp:PermIn a b d0 d) (hr:RowN id d h0 nx0 h nx) (hk:@Ok Out e (PQ id n a b d h nx)):@Ok Out e (PQ id n a b d0 h0 nx0) :=
 Ok_mono hk fun _ hx=>Ok_mono hx fun _ hv=>by
  obtain ⟨v1,d',v2,v3,v4,v5⟩:=hv
  exact ⟨v1,d',Go.Sort.permIn_trans _ _ _ a b hp v2,v3,v4,RowN.trans hr v5⟩
theorem pdq_call (id n a b l:Nat) (d:Array Bd) (h:Heap) (nx:Nat) (ha:a ≤ n) (hb:b ≤ n) (hl:l ≤ 64) (hN:n ≤ 500) (hh:∀ nx',nx ≤ nx'→@Ok Out (runs T LP (HD id n a b l true true) h nx') (PQ id n a b d h nx')) :
  ∃ r,lim T 105 [.sref 3 id n 0 n,.int .i64 a,.int .i64 b,.int .i64 l,.fn 67 []] h nx=some r∧r.1=.tup []∧SrtR id n a b d h nx r.2.1 r.2.2:=by
 refine shr_ex tg105 rfl rfl ?_
 simp (disch:=first|omega|(simp only[EVL]<;>omega)|(simp only[hget_c,Nat.reduceEqDiff,↓reduceIte];done)|assumption|(simp (disch:=omega) only[hg_ne,hg_eq,hgs_ne, *];done)|(simp only [rb_len];done)|with_unfolding_all rfl) only [c105,EVS,Nat.reduceAdd,Nat.reduceSub,Int.reduceToNat,Nat.reduceMul,Nat.reduceEqDiff,Nat.reduceLeDiff,Int.reduceEq,Int.reduceLT,Int.reduceLE,↓reduceIte]
 refine Ok_mono (hh _ (by omega)) fun x hx=>Ok_mono hx fun v hv=>?_
 obtain ⟨v1,d',v2,v3,v4,v5⟩:=hv
 exact ⟨v1,d',v2,v3,v4,RowN.up v5 (by omega) (Nat.le_refl _)⟩
abbrev LQ (c:C):List I:=[.code c,.inB 1,.inL none b105_0,.inB 0]
theorem st4 (id n m:Nat) (hN:n ≤ 500) (ih:IHp id n m) (a b l p:Nat) (wb wp:Bool) (d:Array Bd) (h:Heap) (nx:Nat) (x:Tm) (hm:b - a ≤ m) (h12:a + 12 < b) (hb:b ≤ n) (hl:l ≤ 64) (hn:d.size=n) (hid:id < nx) (hp1:a ≤ p) (hp2:p < b) (hB:Below ltB a b d) (hr:hget h id=some (rowB d)) :
  @Ok Out (runs T (LQ q105_4) ((0,.sref 3 id n 0 n)::(1,.int .i64 a)::(2,.int .i64 b)::(3,.int .i64 l)::(4,.fn 67 [])::(10,.bool wb)::(11,.bool wp)::(12,.int .i64 (b - a:Nat))::(13,.int .i64 p)::x) h nx) (PQ id n a b d h nx):=by
 have hps:=part_spec id n a b p d (by omega) hb hp1 hp2 (by omega) hn
 rcases hx:Go.Sort.partition ltB d a b p with ⟨mid,ap,d4⟩
 rw [hx] at hps
 obtain ⟨g1,g2,hs4,hBa,hBr,hleft,hright⟩:=Go.Sort.round_part swoB (Go.Sort.partition_holds _) hp1 hp2 (by omega) hB hx
 simp (disch:=first|omega|(simp only[EVL]<;>omega)|(simp only[hget_c,Nat.reduceEqDiff,↓reduceIte];done)|assumption|(simp (disch:=omega) only[hg_ne,hg_eq,hgs_ne, *];done)|(simp only [rb_len];done)|with_unfolding_all rfl) only [unf q105_4.eq_1,EVS,Nat.reduceAdd,Nat.reduceSub,Int.reduceToNat,Nat.reduceMul,Nat.reduceEqDiff,Nat.reduceLeDiff,Int.reduceEq,Int.reduceLT,Int.reduceLE,↓reduceIte]
 refine Ok_call (hps h _ hr) fun r hr1=>?_
 obtain ⟨r1,r2⟩:=hr1
 dsimp only at r1 r2
 rw [r1]
 refine ⟨rfl,?_⟩
 have e1:((mid:Nat):Int) - a=((mid - a:Nat):Int):=by omega
 have e2:((b:Nat):Int) - mid=((b - mid:Nat):Int):=by omega
 have e3:((mid:Nat):Int) + 1=((mid + 1:Nat):Int):=by omega
 by_cases hc:mid - a < b - mid
 ·have dc:decide (((mid - a:Nat):Int) < ((b - mid:Nat):Int))=true:=by simp;omega
  simp (disch:=first|omega|(simp only[EVL]<;>omega)|(simp only[hget_c,Nat.reduceEqDiff,↓reduceIte];done)|assumption|(simp (disch:=omega) only[hg_ne,hg_eq,hgs_ne, *];done)|(simp only [rb_len];done)|with_unfolding_all rfl) only [unf q105_3.eq_1,e1,e2,e3,dc,EVS,Nat.reduceAdd,Nat.reduceSub,Int.reduceToNat,Nat.reduceMul,Nat.reduceEqDiff,Nat.reduceLeDiff,Int.reduceEq,Int.reduceLT,Int.reduceLE,↓reduceIte]
  refine Ok_call (pdq_call id n a mid l d4 _ _ (by omega) (by omega) hl hN fun nx' hnx=>ih a mid l true true d4 _ nx' (by omega) g1 (by omega) hl (by omega) (by have:=r2.2.1;omega) hBa r2.1) fun r3 hr3=>?_
  obtain ⟨q1,d5,q2,q3,q4,q5⟩:=hr3
  rw [q1]
  refine ⟨rfl,?_⟩
  obtain ⟨hBL,hfin⟩:=hleft d5 q2 q3
  simp (disch:=first|omega|(simp only[EVL]<;>omega)|(simp only[hget_c,Nat.reduceEqDiff,↓reduceIte];done)|assumption|(simp (disch:=omega) only[hg_ne,hg_eq,hgs_ne, *];done)|(simp only [rb_len];done)|with_unfolding_all rfl) only [e3,EVS,Nat.reduceAdd,Nat.reduceSub,Int.reduceToNat,Nat.reduceMul,Nat.reduceEqDiff,Nat.reduceLeDiff,Int.reduceEq,Int.reduceLT,Int.reduceLE,↓reduceIte]
  refine Ok_inL0 (Ok_mono (ih (mid + 1) b l _ ap d5 _ _ (by omega) (by omega) hb hl q4 (by have:=r2.2.1;have:=q5.2.1;omega) hBL q5.1) fun y hy=>Ok_mono hy fun v hv=>?_)
  obtain ⟨v1,d6,v2,v3,v4,v5⟩:=hv
  obtain ⟨f1,f2⟩:=hfin d6 v2 v3
  exact ⟨v1,d6,f1,f2,v4,((RowN.up r2 (by omega) (Nat.le_refl _)).trans (RowN.up q5 (by omega) (Nat.le_refl _))).trans (RowN.up v5 (by omega) (Nat.le_refl _))⟩
 ·have dc:decide (((mid - a:Nat):Int) < ((b - mid:Nat):Int))=false:=by simp;omega
  simp (disch:=first|omega|(simp only[EVL]<;>omega)|(simp only[hget_c,Nat.reduceEqDiff,↓reduceIte];done)|assumption|(simp (disch:=omega) only[hg_ne,hg_eq,hgs_ne, *];done)|(simp only [rb_len];done)|with_unfolding_all rfl) only [unf q105_3.eq_1,e1,e2,e3,dc,EVS,Nat.reduceAdd,Nat.reduceSub,Int.reduceToNat,Nat.reduceMul,Nat.reduceEqDiff,Nat.reduceLeDiff,Int.reduceEq,Int.reduceLT,Int.reduceLE,↓reduceIte]
  refine Ok_call (pdq_call id n (mid + 1) b l d4 _ _ (by omega) (by omega) hl hN fun nx' hnx=>ih (mid + 1) b l true true d4 _ nx' (by omega) (by omega) (by omega) hl (by omega) (by have:=r2.2.1;omega) hBr r2.1) fun r3 hr3=>?_
  obtain ⟨q1,d5,q2,q3,q4,q5⟩:=hr3
  rw [q1]
  refine ⟨rfl,?_⟩
  obtain ⟨hBL,hfin⟩:=hright d5 q2 q3
  simp (disch:=first|omega|(simp only[EVL]<;>omega)|(simp only[hget_c,Nat.reduceEqDiff,↓reduceIte];done)|assumption|(simp (disch:=omega) only[hg_ne,hg_eq,hgs_ne, *];done)|(simp only [rb_len];done)|with_unfolding_all rfl) only [e3,EVS,Nat.reduceAdd,Nat.reduceSub,Int.reduceToNat,Nat.reduceMul,Nat.reduceEqDiff,Nat.reduceLeDiff,Int.reduceEq,Int.reduceLT,Int.reduceLE,↓reduceIte]
  refine Ok_inL0 (Ok_mono (ih a mid l _ ap d5 _ _ (by omega) g1 (by omega) hl q4 (by have:=r2.2.1;have:=q5.2.1;omega) hBL q5.1) fun y hy=>Ok_mono hy fun v hv=>?_)
  obtain ⟨v1,d6,v2,v3,v4,v5⟩:=hv
  obtain ⟨f1,f2⟩:=hfin d6 v2 v3
  exact ⟨v1,d6,f1,f2,v4,((RowN.up r2 (by omega) (Nat.le_refl _)).trans (RowN.up q5 (by omega) (Nat.le_refl _))).trans (RowN.up v5 (by omega) (Nat.le_refl _))⟩

open Go.Sort (PermIn SortedIn Below SWO)
theorem st5 (id n m:Nat) (hN:n ≤ 500) (ih:IHp id n m) (a b l p:Nat) (wb wp:Bool) (d:Array Bd) (h:Heap) (nx:Nat) (x:Tm) (hm:b - a ≤ m) (h12:a + 12 < b) (hb:b ≤ n) (hl:l ≤ 64) (hn:d.size=n) (hid:id < nx) (hp1:a ≤ p) (hp2:p < b) (hB:Below ltB a b d) (hr:hget h id=some (rowB d)) :
  @Ok Out (runs T (LQ q105_5) ((0,.sref 3 id n 0 n)::(1,.int .i64 a)::(2,.int .i64 b)::(3,.int .i64 l)::(4,.fn 67 [])::(10,.bool wb)::(11,.bool wp)::(12,.int .i64 (b - a:Nat))::(13,.int .i64 p)::x) h nx) (PQ id n a b d h nx):=by
 have hr':=hr
 rw [row_of] at hr'
 by_cases ha:0 < a
 ·have da:decide ((0:Int) < (a:Int))=true:=by simp;omega
  have e1:((a:Nat):Int) - 1=((a - 1:Nat):Int):=by omega
  cases hlt:ltB d[a - 1]! d[p]! with
  |true =>
   simp (disch:=first|omega|(simp only[EVL]<;>omega)|(simp only[hget_c,Nat.reduceEqDiff,↓reduceIte];done)|assumption|(simp (disch:=omega) only[hg_ne,hg_eq,hgs_ne, *];done)|(simp only [rb_len];done)|with_unfolding_all rfl) only [unf q105_5.eq_1,unf q105_2.eq_1,da,e1,cmp_spec,hr',SR,ltB_eq,hlt,EVS,Nat.reduceAdd,Nat.reduceSub,Int.reduceToNat,Nat.reduceMul,Nat.reduceEqDiff,Nat.reduceLeDiff,Int.reduceEq,Int.reduceLT,Int.reduceLE,↓reduceIte]
   exact Ok_mono (st4 id n m hN ih a b l p wb wp d h _ _ hm h12 hb hl hn (by omega) hp1 hp2 hB hr) fun y hy=>Ok_mono hy fun v hv=>by
    obtain ⟨v1,d6,v2,v3,v4,v5⟩:=hv
    exact ⟨v1,d6,v2,v3,v4,RowN.up v5 (by omega) (Nat.le_refl _)⟩
  |false =>
   have hps:=partE_spec id n a b p d (by omega) hb hp1 hp2 (by omega) hn
   rcases hx:Go.Sort.partitionEqual ltB d a b p with ⟨mid,d4⟩
   rw [hx] at hps
   obtain ⟨g1,g2,hs4,hB4,hfin⟩:=Go.Sort.round_eq swoB (Go.Sort.partitionEqual_holds _) ha hp1 hp2 (by omega) hB hlt hx
   simp (disch:=first|omega|(simp only[EVL]<;>omega)|(simp only[hget_c,Nat.reduceEqDiff,↓reduceIte];done)|assumption|(simp (disch:=omega) only[hg_ne,hg_eq,hgs_ne, *];done)|(simp only [rb_len];done)|with_unfolding_all rfl) only [unf q105_5.eq_1,unf q105_2.eq_1,da,e1,cmp_spec,hr',SR,ltB_eq,hlt,EVS,Nat.reduceAdd,Nat.reduceSub,Int.reduceToNat,Nat.reduceMul,Nat.reduceEqDiff,Nat.reduceLeDiff,Int.reduceEq,Int.reduceLT,Int.reduceLE,↓reduceIte]
   refine Ok_call (hps h _ hr) fun r hr1=>?_
   obtain ⟨r1,r2⟩:=hr1
   dsimp only at r1 r2
   rw [r1]
   refine ⟨rfl,?_⟩
   simp (disch:=first|omega|(simp only[EVL]<;>omega)|(simp only[hget_c,Nat.reduceEqDiff,↓reduceIte];done)|assumption|(simp (disch:=omega) only[hg_ne,hg_eq,hgs_ne, *];done)|(simp only [rb_len];done)|with_unfolding_all rfl) only [w_xb,EVS,Nat.reduceAdd,Nat.reduceSub,Int.reduceToNat,Nat.reduceMul,Nat.reduceEqDiff,Nat.reduceLeDiff,Int.reduceEq,Int.reduceLT,Int.reduceLE,↓reduceIte]
   refine Ok_inL0 (Ok_mono (ih mid b l wb wp d4 _ _ (by omega) g2 hb hl (by omega) (by have:=r2.2.1;omega) hB4 r2.1) fun y hy=>Ok_mono hy fun v hv=>?_)
   obtain ⟨v1,d6,v2,v3,v4,v5⟩:=hv
   obtain ⟨f1,f2⟩:=hfin d6 v2 v3
   exact ⟨v1,d6,f1,f2,v4,(RowN.up r2 (by omega) (Nat.le_refl _)).trans (RowN.up v5 (by omega) (Nat.le_refl _))⟩
 ·have da:decide ((0:Int) < (a:Int))=false:=by simp;omega
  simp (disch:=first|omega|(simp only[EVL]<;>omega)|(simp only[hget_c,Nat.reduceEqDiff,↓reduceIte];done)|assumption|(simp (disch:=omega) only[hg_ne,hg_eq,hgs_ne, *];done)|(simp only [rb_len];done)|with_unfolding_all rfl) only [unf q105_5.eq_1,unf q105_2.eq_1,da,EVS,Nat.reduceAdd,Nat.reduceSub,Int.reduceToNat,Nat.reduceMul,Nat.reduceEqDiff,Nat.reduceLeDiff,Int.reduceEq,Int.reduceLT,Int.reduceLE,↓reduceIte]
  exact Ok_mono (st4 id n m hN ih a b l p wb wp d h _ _ hm h12 hb hl hn (by omega) hp1 hp2 hB hr) fun y hy=>Ok_mono hy fun v hv=>by
   obtain ⟨v1,d6,v2,v3,v4,v5⟩:=hv
   exact ⟨v1,d6,v2,v3,v4,RowN.up v5 (by omega) (Nat.le_refl _)⟩
theorem st6 (id n m:Nat) (hN:n ≤ 500) (ih:IHp id n m) (a b l p:Nat) (t:Int) (wb wp:Bool) (d:Array Bd) (h:Heap) (nx:Nat) (x:Tm) (hm:b - a ≤ m) (h12:a + 12 < b) (hb:b ≤ n) (hl:l ≤ 64) (hn:d.size=n) (hid:id < nx) (hp1:a ≤ p) (hp2:p < b) (hB:Below ltB a b d) (hr:hget h id=some (rowB d)) :
  @Ok Out (runs T (LQ q105_6) ((0,.sref 3 id n 0 n)::(1,.int .i64 a)::(2,.int .i64 b)::(3,.int .i64 l)::(4,.fn 67 [])::(10,.bool wb)::(11,.bool wp)::(12,.int .i64 (b - a:Nat))::(13,.int .i64 p)::(14,.int .i64 t)::x) h nx) (PQ id n a b d h nx):=by
 have skip:∀ nx' x,nx ≤ nx'→@Ok Out (runs T (LQ q105_5) ((0,.sref 3 id n 0 n)::(1,.int .i64 a)::(2,.int .i64 b)::(3,.int .i64 l)::(4,.fn 67 [])::(10,.bool wb)::(11,.bool wp)::(12,.int .i64 (b - a:Nat))::(13,.int .i64 p)::x) h nx') (PQ id n a b d h nx):=fun nx' x hnx =>
  PQ_up (Go.Sort.permIn_refl d a b) (RowN.refl hr hnx) (st5 id n m hN ih a b l p wb wp d h nx' x hm h12 hb hl hn (by omega) hp1 hp2 hB hr)
 cases wb with
 |false =>
  simp (disch:=first|omega|(simp only[EVL]<;>omega)|(simp only[hget_c,Nat.reduceEqDiff,↓reduceIte];done)|assumption|(simp (disch:=omega) only[hg_ne,hg_eq,hgs_ne, *];done)|(simp only [rb_len];done)|with_unfolding_all rfl) only [unf q105_6.eq_1,EVS,Nat.reduceAdd,Nat.reduceSub,Int.reduceToNat,Nat.reduceMul,Nat.reduceEqDiff,Nat.reduceLeDiff,Int.reduceEq,Int.reduceLT,Int.reduceLE,↓reduceIte]
  exact skip _ _ (by omega)
 |true =>
  cases wp with
  |false =>
   simp (disch:=first|omega|(simp only[EVL]<;>omega)|(simp only[hget_c,Nat.reduceEqDiff,↓reduceIte];done)|assumption|(simp (disch:=omega) only[hg_ne,hg_eq,hgs_ne, *];done)|(simp only [rb_len];done)|with_unfolding_all rfl) only [unf q105_6.eq_1,EVS,Nat.reduceAdd,Nat.reduceSub,Int.reduceToNat,Nat.reduceMul,Nat.reduceEqDiff,Nat.reduceLeDiff,Int.reduceEq,Int.reduceLT,Int.reduceLE,↓reduceIte]
   exact skip _ _ (by omega)
  |true =>
   by_cases ht:t=1
   ·subst ht
    have hps:=partI_spec id n a b d (by omega) hb (by omega) hn
    have hpi:=Go.Sort.partialInsertionSort_holds (lt:=ltB) swoB d a b (by omega) (by omega) hB
    rcases hx:Go.Sort.partialInsertionSort ltB d a b with ⟨d3,done⟩
    rw [hx] at hps hpi
    dsimp only at hpi
    simp (disch:=first|omega|(simp only[EVL]<;>omega)|(simp only[hget_c,Nat.reduceEqDiff,↓reduceIte];done)|assumption|(simp (disch:=omega) only[hg_ne,hg_eq,hgs_ne, *];done)|(simp only [rb_len];done)|with_unfolding_all rfl) only [unf q105_6.eq_1,EVS,Nat.reduceAdd,Nat.reduceSub,Int.reduceToNat,Nat.reduceMul,Nat.reduceEqDiff,Nat.reduceLeDiff,Int.reduceEq,Int.reduceLT,Int.reduceLE,↓reduceIte]
    refine Ok_call (hps h _ hr) fun r hr1=>?_
    obtain ⟨r1,r2⟩:=hr1
    dsimp only at r1 r2
    rw [r1]
    refine ⟨rfl,?_⟩
    have s3:d3.size=n:=hpi.1.1.trans hn
    cases done with
    |true =>
     simp (disch:=first|omega|(simp only[EVL]<;>omega)|(simp only[hget_c,Nat.reduceEqDiff,↓reduceIte];done)|assumption|(simp (disch:=omega) only[hg_ne,hg_eq,hgs_ne, *];done)|(simp only [rb_len];done)|with_unfolding_all rfl) only [c105,EVS,Nat.reduceAdd,Nat.reduceSub,Int.reduceToNat,Nat.reduceMul,Nat.reduceEqDiff,Nat.reduceLeDiff,Int.reduceEq,Int.reduceLT,Int.reduceLE,↓reduceIte]
     exact ⟨rfl,d3,hpi.1,hpi.2 rfl,s3,RowN.up r2 (by omega) (by first | omega | (dsimp only;omega))⟩
    |false =>
     simp (disch:=first|omega|(simp only[EVL]<;>omega)|(simp only[hget_c,Nat.reduceEqDiff,↓reduceIte];done)|assumption|(simp (disch:=omega) only[hg_ne,hg_eq,hgs_ne, *];done)|(simp only [rb_len];done)|with_unfolding_all rfl) only [c105,EVS,Nat.reduceAdd,Nat.reduceSub,Int.reduceToNat,Nat.reduceMul,Nat.reduceEqDiff,Nat.reduceLeDiff,Int.reduceEq,Int.reduceLT,Int.reduceLE,↓reduceIte]
     refine PQ_up hpi.1 (RowN.up r2 (by omega) ?_) (st5 id n m hN ih a b l p true true d3 r.2.1 _ _ hm h12 hb hl s3 (by have:=r2.2.1;omega) hp1 hp2 (hB.perm (by omega) hpi.1) r2.1)
     omega
   ·have ht':decide (t=1)=false:=by simp;exact ht
    simp (disch:=first|omega|(simp only[EVL]<;>omega)|(simp only[hget_c,Nat.reduceEqDiff,↓reduceIte];done)|assumption|(simp (disch:=omega) only[hg_ne,hg_eq,hgs_ne, *];done)|(simp only [rb_len];done)|with_unfolding_all rfl) only [unf q105_6.eq_1,ht',EVS,Nat.reduceAdd,Nat.reduceSub,Int.reduceToNat,Nat.reduceMul,Nat.reduceEqDiff,Nat.reduceLeDiff,Int.reduceEq,Int.reduceLT,Int.reduceLE,↓reduceIte]
    exact skip _ _ (by omega)
theorem st7 (id n m:Nat) (hN:n ≤ 500) (ih:IHp id n m) (a b l p:Nat) (t:Int) (wb wp:Bool) (d:Array Bd) (h:Heap) (nx:Nat) (x:Tm) (hm:b - a ≤ m) (h12:a + 12 < b) (hb:b ≤ n) (hl:l ≤ 64) (hn:d.size=n) (hid:id < nx) (hp1:a ≤ p) (hp2:p < b) (hB:Below ltB a b d) (hr:hget h id=some (rowB d)) :
  @Ok Out (runs T (LQ q105_7) ((0,.sref 3 id n 0 n)::(1,.int .i64 a)::(2,.int .i64 b)::(3,.int .i64 l)::(4,.fn 67 [])::(10,.bool wb)::(11,.bool wp)::(12,.int .i64 (b - a:Nat))::(13,.int .i64 p)::(14,.int .i64 t)::x) h nx) (PQ id n a b d h nx):=by
 by_cases ht:t=2
 ·subst ht
  have hps:=rev_spec id n a b (.fn 67 []) d (by omega) hb (by omega) hn
  have hrv:=Go.Sort.reverseRange_holds d a b (by omega) (by omega)
  generalize Go.Sort.reverseRange d a b=d3 at *
  have e1:((b:Nat):Int) - 1=((b - 1:Nat):Int):=by omega
  have e2:((p:Nat):Int) - a=((p - a:Nat):Int):=by omega
  have e3:((b - 1:Nat):Int) - ((p - a:Nat):Int)=((b - 1 - (p - a):Nat):Int):=by omega
  simp (disch:=first|omega|(simp only[EVL]<;>omega)|(simp only[hget_c,Nat.reduceEqDiff,↓reduceIte];done)|assumption|(simp (disch:=omega) only[hg_ne,hg_eq,hgs_ne, *];done)|(simp only [rb_len];done)|with_unfolding_all rfl) only [unf q105_7.eq_1,EVS,Nat.reduceAdd,Nat.reduceSub,Int.reduceToNat,Nat.reduceMul,Nat.reduceEqDiff,Nat.reduceLeDiff,Int.reduceEq,Int.reduceLT,Int.reduceLE,↓reduceIte]
  refine Ok_call (hps h _ hr) fun r hr1=>?_
  obtain ⟨r1,r2⟩:=hr1
  rw [r1]
  refine ⟨rfl,?_⟩
  simp (disch:=first|omega|(simp only[EVL]<;>omega)|(simp only[hget_c,Nat.reduceEqDiff,↓reduceIte];done)|assumption|(simp (disch:=omega) only[hg_ne,hg_eq,hgs_ne, *];done)|(simp only [rb_len];done)|with_unfolding_all rfl) only [unf q105_1.eq_1,e1,e2,e3,EVS,Nat.reduceAdd,Nat.reduceSub,Int.reduceToNat,Nat.reduceMul,Nat.reduceEqDiff,Nat.reduceLeDiff,Int.reduceEq,Int.reduceLT,Int.reduceLE,↓reduceIte]
  have s3:d3.size=n:=hrv.1.trans hn
  refine PQ_up hrv (RowN.up r2 (by omega) ?_) (st6 id n m hN ih a b l (b - 1 - (p - a)) 1 wb wp d3 r.2.1 _ _ hm h12 hb hl s3 (by have:=r2.2.1;omega) (by omega) (by omega) (hB.perm (by omega) hrv) r2.1)
  omega
 ·have ht':decide (t=2)=false:=by simp;exact ht
  simp (disch:=first|omega|(simp only[EVL]<;>omega)|(simp only[hget_c,Nat.reduceEqDiff,↓reduceIte];done)|assumption|(simp (disch:=omega) only[hg_ne,hg_eq,hgs_ne, *];done)|(simp only [rb_len];done)|with_unfolding_all rfl) only [unf q105_7.eq_1,ht',EVS,Nat.reduceAdd,Nat.reduceSub,Int.reduceToNat,Nat.reduceMul,Nat.reduceEqDiff,Nat.reduceLeDiff,Int.reduceEq,Int.reduceLT,Int.reduceLE,↓reduceIte]
  exact PQ_up (Go.Sort.permIn_refl d a b) (RowN.refl hr (by omega)) (st6 id n m hN ih a b l p t wb wp d h _ _ hm h12 hb hl hn (by omega) hp1 hp2 hB hr)
theorem st8 (id n m:Nat) (hN:n ≤ 500) (ih:IHp id n m) (a b l:Nat) (wb wp:Bool) (d:Array Bd) (h:Heap) (nx:Nat) (x:Tm) (hm:b - a ≤ m) (h12:a + 12 < b) (hb:b ≤ n) (hl:l ≤ 64) (hn:d.size=n) (hid:id < nx) (hB:Below ltB a b d) (hr:hget h id=some (rowB d)) :
  @Ok Out (runs T (LQ q105_8) ((0,.sref 3 id n 0 n)::(1,.int .i64 a)::(2,.int .i64 b)::(3,.int .i64 l)::(4,.fn 67 [])::(10,.bool wb)::(11,.bool wp)::(12,.int .i64 (b - a:Nat))::x) h nx) (PQ id n a b d h nx):=by
 simp (disch:=first|omega|(simp only[EVL]<;>omega)|(simp only[hget_c,Nat.reduceEqDiff,↓reduceIte];done)|assumption|(simp (disch:=omega) only[hg_ne,hg_eq,hgs_ne, *];done)|(simp only [rb_len];done)|with_unfolding_all rfl) only [unf q105_8.eq_1,EVS,Nat.reduceAdd,Nat.reduceSub,Int.reduceToNat,Nat.reduceMul,Nat.reduceEqDiff,Nat.reduceLeDiff,Int.reduceEq,Int.reduceLT,Int.reduceLE,↓reduceIte]
 refine Ok_call (choose_spec id n a b d (by omega) hb (by omega) hn h _ (by omega) hr) fun r hr1=>?_
 obtain ⟨⟨p,t,r1,p1,p2⟩,r2⟩:=hr1
 rw [r1]
 refine ⟨rfl,?_⟩
 simp (disch:=first|omega|(simp only[EVL]<;>omega)|(simp only[hget_c,Nat.reduceEqDiff,↓reduceIte];done)|assumption|(simp (disch:=omega) only[hg_ne,hg_eq,hgs_ne, *];done)|(simp only [rb_len];done)|with_unfolding_all rfl) only [c105,EVS,Nat.reduceAdd,Nat.reduceSub,Int.reduceToNat,Nat.reduceMul,Nat.reduceEqDiff,Nat.reduceLeDiff,Int.reduceEq,Int.reduceLT,Int.reduceLE,↓reduceIte]
 refine PQ_up (Go.Sort.permIn_refl d a b) (RowN.up r2 (by omega) ?_) (st7 id n m hN ih a b l p t wb wp d r.2.1 _ _ hm h12 hb hl hn (by have:=r2.2.1;omega) p1 p2 hB r2.1)
 omega
theorem pdq_head (id n:Nat) (hN:n ≤ 500):∀ m,IHp id n m:=by
 intro m
 induction m with
 |zero=>intro a b l wb wp d h nx hm;omega
 |succ m ih =>
  intro a b l wb wp d h nx hm hab hb hl hn hid hB hr
  have e1:((b:Nat):Int) - a=((b - a:Nat):Int):=by omega
  by_cases h12:b - a ≤ 12
  ·have d12:decide (((b - a:Nat):Int) ≤ 12)=true:=by simp;omega
   have hps:=ins_spec id n a b d (by omega) hb (by omega) hn
   obtain ⟨i1,i2⟩:=Go.Sort.insertionSort_holds (lt:=ltB) swoB d a b hab (by omega)
   generalize Go.Sort.insertionSort ltB d a b=d3 at *
   simp (disch:=first|omega|(simp only[EVL]<;>omega)|(simp only[hget_c,Nat.reduceEqDiff,↓reduceIte];done)|assumption|(simp (disch:=omega) only[hg_ne,hg_eq,hgs_ne, *];done)|(simp only [rb_len];done)|with_unfolding_all rfl) only [unf b105_0.eq_1,c105,e1,d12,EVS,Nat.reduceAdd,Nat.reduceSub,Int.reduceToNat,Nat.reduceMul,Nat.reduceEqDiff,Nat.reduceLeDiff,Int.reduceEq,Int.reduceLT,Int.reduceLE,↓reduceIte]
   refine Ok_call (hps h _ hr) fun r hr1=>?_
   obtain ⟨r1,r2⟩:=hr1
   rw [r1]
   refine ⟨rfl,?_⟩
   simp (disch:=first|omega|(simp only[EVL]<;>omega)|(simp only[hget_c,Nat.reduceEqDiff,↓reduceIte];done)|assumption|(simp (disch:=omega) only[hg_ne,hg_eq,hgs_ne, *];done)|(simp only [rb_len];done)|with_unfolding_all rfl) only [c105,EVS,Nat.reduceAdd,Nat.reduceSub,Int.reduceToNat,Nat.reduceMul,Nat.reduceEqDiff,Nat.reduceLeDiff,Int.reduceEq,Int.reduceLT,Int.reduceLE,↓reduceIte]
   exact ⟨rfl,d3,i1,i2,i1.1.trans hn,RowN.up r2 (by omega) (by first | omega | (dsimp only;omega))⟩
  ·have d12:decide (((b - a:Nat):Int) ≤ 12)=false:=by simp;omega
   by_cases hl0:l=0
   ·subst hl0
    have hps:=heap_spec id n a b d (by omega) hb (by omega) hn
    obtain ⟨i1,i2⟩:=Go.Sort.heapSort_holds (lt:=ltB) swoB d a b hab (by omega)
    generalize Go.Sort.heapSort ltB d a b=d3 at *
    have z0:(((0:Nat):Int)=0)=True:=by simp
    simp (disch:=first|omega|(simp only[EVL]<;>omega)|(simp only[hget_c,Nat.reduceEqDiff,↓reduceIte];done)|assumption|(simp (disch:=omega) only[hg_ne,hg_eq,hgs_ne, *];done)|(simp only [rb_len];done)|with_unfolding_all rfl) only [unf b105_0.eq_1,c105,e1,d12,unf q105_10.eq_1,z0,decide_true,EVS,Nat.reduceAdd,Nat.reduceSub,Int.reduceToNat,Nat.reduceMul,Nat.reduceEqDiff,Nat.reduceLeDiff,Int.reduceEq,Int.reduceLT,Int.reduceLE,↓reduceIte]
    refine Ok_call (hps h _ hr) fun r hr1=>?_
    obtain ⟨r1,r2⟩:=hr1
    rw [r1]
    refine ⟨rfl,?_⟩
    simp (disch:=first|omega|(simp only[EVL]<;>omega)|(simp only[hget_c,Nat.reduceEqDiff,↓reduceIte];done)|assumption|(simp (disch:=omega) only[hg_ne,hg_eq,hgs_ne, *];done)|(simp only [rb_len];done)|with_unfolding_all rfl) only [c105,EVS,Nat.reduceAdd,Nat.reduceSub,Int.reduceToNat,Nat.reduceMul,Nat.reduceEqDiff,Nat.reduceLeDiff,Int.reduceEq,Int.reduceLT,Int.reduceLE,↓reduceIte]
    exact ⟨rfl,d3,i1,i2,i1.1.trans hn,RowN.up r2 (by omega) (by first | omega | (dsimp only;omega))⟩
   ·have dl:decide ((l:Int)=0)=false:=by simp;exact hl0
    have el:((l:Nat):Int) - 1=((l - 1:Nat):Int):=by omega
    cases wb with
    |true =>
     simp (disch:=first|omega|(simp only[EVL]<;>omega)|(simp only[hget_c,Nat.reduceEqDiff,↓reduceIte];done)|assumption|(simp (disch:=omega) only[hg_ne,hg_eq,hgs_ne, *];done)|(simp only [rb_len];done)|with_unfolding_all rfl) only [unf b105_0.eq_1,c105,e1,d12,dl,unf q105_10.eq_1,unf q105_9.eq_1,EVS,Nat.reduceAdd,Nat.reduceSub,Int.reduceToNat,Nat.reduceMul,Nat.reduceEqDiff,Nat.reduceLeDiff,Int.reduceEq,Int.reduceLT,Int.reduceLE,↓reduceIte]
     exact PQ_up (Go.Sort.permIn_refl d a b) (RowN.refl hr (by omega)) (st8 id n m hN ih a b l true wp d h _ _ (by omega) (by omega) hb hl hn (by omega) hB hr)
    |false =>
     simp (disch:=first|omega|(simp only[EVL]<;>omega)|(simp only[hget_c,Nat.reduceEqDiff,↓reduceIte];done)|assumption|(simp (disch:=omega) only[hg_ne,hg_eq,hgs_ne, *];done)|(simp only [rb_len];done)|with_unfolding_all rfl) only [unf b105_0.eq_1,c105,e1,d12,dl,unf q105_10.eq_1,unf q105_9.eq_1,EVS,Nat.reduceAdd,Nat.reduceSub,Int.reduceToNat,Nat.reduceMul,Nat.reduceEqDiff,Nat.reduceLeDiff,Int.reduceEq,Int.reduceLT,Int.reduceLE,↓reduceIte]
     refine Ok_call (brk_spec id n a b d hab hb hN hn h _ (by omega) hr) fun r hr1=>?_
     obtain ⟨r1,d1,k1,r2⟩:=hr1
     rw [r1]
     refine ⟨rfl,?_⟩
     simp (disch:=first|omega|(simp only[EVL]<;>omega)|(simp only[hget_c,Nat.reduceEqDiff,↓reduceIte];done)|assumption|(simp (disch:=omega) only[hg_ne,hg_eq,hgs_ne, *];done)|(simp only [rb_len];done)|with_unfolding_all rfl) only [c105,el,EVS,Nat.reduceAdd,Nat.reduceSub,Int.reduceToNat,Nat.reduceMul,Nat.reduceEqDiff,Nat.reduceLeDiff,Int.reduceEq,Int.reduceLT,Int.reduceLE,↓reduceIte]
     refine PQ_up k1 (RowN.up r2 (by omega) ?_) (st8 id n m hN ih a b (l - 1) false wp d1 r.2.1 _ _ (by omega) (by omega) hb (by omega) (k1.1.trans hn) (by have:=r2.2.1;omega) (hB.perm (by omega) k1) r2.1)
     omega
theorem sortF_spec (id n:Nat) (d:Array Bd) (hN:n ≤ 500) (hn:d.size=n) (h:Heap) (nx:Nat) (hid:id < nx) (hr:hget h id=some (rowB d)) :
  ∃ r,lim T 66 [.sref 3 id n 0 n,.fn 67 []] h nx=some r∧r.1=.tup []∧SrtR id n 0 n d h nx r.2.1 r.2.2:=by
 obtain ⟨L,l1,hL⟩:=lenB_spec n (by omega)
 refine shr_ex tg66 rfl rfl ?_
 simp (disch:=first|omega|(simp only[EVL]<;>omega)|(simp only[hget_c,Nat.reduceEqDiff,↓reduceIte];done)|assumption|(simp (disch:=omega) only[hg_ne,hg_eq,hgs_ne, *];done)|(simp only [rb_len];done)|with_unfolding_all rfl) only [c66,hL,EVS,Nat.reduceAdd,Nat.reduceSub,Int.reduceToNat,Nat.reduceMul,Nat.reduceEqDiff,Nat.reduceLeDiff,Int.reduceEq,Int.reduceLT,Int.reduceLE,↓reduceIte]
 refine Ok_call (pdq_call id n 0 n L d h _ (by omega) (Nat.le_refl _) l1 hN fun nx' hnx=>pdq_head id n hN (n + 1) 0 n L true true d h nx' (by omega) (by omega) (Nat.le_refl _) l1 hn (by omega) (.inl rfl) hr) fun r hr1=>?_
 obtain ⟨r1,d6,v2,v3,v4,v5⟩:=hr1
 rw [r1]
 refine ⟨rfl,?_⟩
 simp (disch:=first|omega|(simp only[EVL]<;>omega)|(simp only[hget_c,Nat.reduceEqDiff,↓reduceIte];done)|assumption|(simp (disch:=omega) only[hg_ne,hg_eq,hgs_ne, *];done)|(simp only [rb_len];done)|with_unfolding_all rfl) only [c66,EVS,Nat.reduceAdd,Nat.reduceSub,Int.reduceToNat,Nat.reduceMul,Nat.reduceEqDiff,Nat.reduceLeDiff,Int.reduceEq,Int.reduceLT,Int.reduceLE,↓reduceIte]
 exact ⟨rfl,d6,v2,v3,v4,RowN.up v5 (by omega) (by first | omega | (dsimp only;omega))⟩
end Go.Proofs.YtkobnfjeehnhlaaGreatDoor.Fi
