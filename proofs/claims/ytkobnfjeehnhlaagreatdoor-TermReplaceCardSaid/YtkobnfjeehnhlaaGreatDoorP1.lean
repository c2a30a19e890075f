/- Parts of the proof, after each other. -/
import Derived.Test.YtkobnfjeehnhlaaGreatDoorTR
import Derived.Test.YtkobnfjeehnhlaaGreatDoorFIY
import Derived.Test.YtkobnfjeehnhlaaGreatDoorFIBits
import Derived.Test.YtkobnfjeehnhlaaGreatDoorFIVis
import Derived.Test.YtkobnfjeehnhlaaGreatDoorFIVars
import Derived.Test.YtkobnfjeehnhlaaGreatDoorFIRep
import Derived.Test.YtkobnfjeehnhlaaGreatDoorFIPut
set_option linter.all false
namespace Go.Proofs.YtkobnfjeehnhlaaGreatDoor.Fi
open Go.FI

theorem wideB_spec (w:Int):∀ h nx,lim T 57 [.int .i64 w] h nx=some (.bool (decide (1 ≤ w∧w ≤ 64)),h,nx):=by
 refine lim_iso tg57 rfl rfl rfl ?_
 simp (disch:=first|omega|(simp only[EVL]<;>omega)|(simp only[hget_c,Nat.reduceEqDiff,↓reduceIte];done)|assumption|(simp (disch:=omega) only[hg_ne,hg_eq,hgs_ne, *];done)|with_unfolding_all rfl) only [c57,EVS,Nat.reduceAdd,Nat.reduceSub,Int.reduceToNat,Nat.reduceMul,Nat.reduceEqDiff,Nat.reduceLeDiff,Int.reduceEq,Int.reduceLT,Int.reduceLE,↓reduceIte]
 repeat' (refine Ok_if (fun hb=>?_) (fun hb=>?_)<;>have h:=hb<;>(try simp only [decide_eq_true_eq,decide_eq_false_iff_not,Int.not_lt,Int.not_le] at h)<;>(simp (disch:=first|omega|(simp only[EVL]<;>omega)|(simp only[hget_c,Nat.reduceEqDiff,↓reduceIte];done)|assumption|(simp (disch:=omega) only[hg_ne,hg_eq,hgs_ne, *];done)|with_unfolding_all rfl) only [hb,c57,EVS,Nat.reduceAdd,Nat.reduceSub,Int.reduceToNat,Nat.reduceMul,Nat.reduceEqDiff,Nat.reduceLeDiff,Int.reduceEq,Int.reduceLT,Int.reduceLE,↓reduceIte])<;>(try clear hb))
 all_goals simp_all
 all_goals omega
theorem wideT_spec (w:Int):∀ h nx,lim T 48 [.int .i64 w] h nx=some (.bool (decide (1 ≤ w∧w ≤ 64)),h,nx):=by
 refine lim_iso tg48 rfl rfl rfl ?_
 simp (disch:=first|omega|(simp only[EVL]<;>omega)|(simp only[hget_c,Nat.reduceEqDiff,↓reduceIte];done)|assumption|(simp (disch:=omega) only[hg_ne,hg_eq,hgs_ne, *];done)|with_unfolding_all rfl) only [c48,EVS,Nat.reduceAdd,Nat.reduceSub,Int.reduceToNat,Nat.reduceMul,Nat.reduceEqDiff,Nat.reduceLeDiff,Int.reduceEq,Int.reduceLT,Int.reduceLE,↓reduceIte]
 repeat' (refine Ok_if (fun hb=>?_) (fun hb=>?_)<;>have h:=hb<;>(try simp only [decide_eq_true_eq,decide_eq_false_iff_not,Int.not_lt,Int.not_le] at h)<;>(simp (disch:=first|omega|(simp only[EVL]<;>omega)|(simp only[hget_c,Nat.reduceEqDiff,↓reduceIte];done)|assumption|(simp (disch:=omega) only[hg_ne,hg_eq,hgs_ne, *];done)|with_unfolding_all rfl) only [hb,c48,EVS,Nat.reduceAdd,Nat.reduceSub,Int.reduceToNat,Nat.reduceMul,Nat.reduceEqDiff,Nat.reduceLeDiff,Int.reduceEq,Int.reduceLT,Int.reduceLE,↓reduceIte])<;>(try clear hb))
 all_goals simp_all
 all_goals omega
def maskS (w:Int):Int:=if 1 ≤ w∧w ≤ 64 then 2 ^ w.toNat - 1 else 0
theorem mask_spec (w:Int):∀ h nx,lim T 58 [.int .i64 w] h nx=some (.int .u64 (maskS w),h,nx):=by
 refine lim_iso tg58 rfl rfl rfl ?_
 simp (disch:=first|omega|(simp only[EVL]<;>omega)|(simp only[hget_c,Nat.reduceEqDiff,↓reduceIte];done)|assumption|(simp (disch:=omega) only[hg_ne,hg_eq,hgs_ne, *];done)|with_unfolding_all rfl) only [c58,wideB_spec,EVS,Nat.reduceAdd,Nat.reduceSub,Int.reduceToNat,Nat.reduceMul,Nat.reduceEqDiff,Nat.reduceLeDiff,Int.reduceEq,Int.reduceLT,Int.reduceLE,↓reduceIte]
 repeat' (refine Ok_if (fun hb=>?_) (fun hb=>?_)<;>have h:=hb<;>(try simp only [decide_eq_true_eq,decide_eq_false_iff_not,Int.not_lt,Int.not_le] at h)<;>(simp (disch:=first|omega|(simp only[EVL]<;>omega)|(simp only[hget_c,Nat.reduceEqDiff,↓reduceIte];done)|assumption|(simp (disch:=omega) only[hg_ne,hg_eq,hgs_ne, *];done)|with_unfolding_all rfl) only [hb,c58,EVS,Nat.reduceAdd,Nat.reduceSub,Int.reduceToNat,Nat.reduceMul,Nat.reduceEqDiff,Nat.reduceLeDiff,Int.reduceEq,Int.reduceLT,Int.reduceLE,↓reduceIte])<;>(try clear hb))
 ·have:=shr_mask (n:=w.toNat) (by omega)
  rw [show ((w.toNat:Nat):Int)=w by omega] at this
  rw [this];exact (if_pos h).symm
 ·exact (if_neg h).symm
theorem mask_spec' (w:Int) (h1:1 ≤ w) (h2:w ≤ 64):∀ h nx,lim T 58 [.int .i64 w] h nx=some (.int .u64 (2 ^ w.toNat - 1),h,nx):=by
 have:=mask_spec w
 rwa [maskS,if_pos ⟨h1,h2⟩] at this
def okS (w x:Int):Prop:=1 ≤ w∧w ≤ 64∧x < 2 ^ w.toNat
open Classical in
theorem okB_spec (w x:Int):∀ h nx,lim T 20 [.int .i64 w,.int .u64 x] h nx=some (.bool (decide (okS w x)),h,nx):=by
 refine lim_iso tg20 rfl rfl rfl ?_
 simp (disch:=first|omega|(simp only[EVL]<;>omega)|(simp only[hget_c,Nat.reduceEqDiff,↓reduceIte];done)|assumption|(simp (disch:=omega) only[hg_ne,hg_eq,hgs_ne, *];done)|with_unfolding_all rfl) only [c20,wideB_spec,EVS,Nat.reduceAdd,Nat.reduceSub,Int.reduceToNat,Nat.reduceMul,Nat.reduceEqDiff,Nat.reduceLeDiff,Int.reduceEq,Int.reduceLT,Int.reduceLE,↓reduceIte]
 repeat' (refine Ok_if (fun hb=>?_) (fun hb=>?_)<;>have h:=hb<;>(try simp only [decide_eq_true_eq,decide_eq_false_iff_not,Int.not_lt,Int.not_le] at h)<;>(simp (disch:=first|omega|(simp only[EVL]<;>omega)|(simp only[hget_c,Nat.reduceEqDiff,↓reduceIte];done)|assumption|(simp (disch:=omega) only[hg_ne,hg_eq,hgs_ne, *];done)|with_unfolding_all rfl) only [hb,c20,EVS,Nat.reduceAdd,Nat.reduceSub,Int.reduceToNat,Nat.reduceMul,Nat.reduceEqDiff,Nat.reduceLeDiff,Int.reduceEq,Int.reduceLT,Int.reduceLE,↓reduceIte])<;>(try clear hb))
 ·have h3:=mask_spec' w h.1 h.2
  simp (disch:=first|omega|(simp only[EVL]<;>omega)|(simp only[hget_c,Nat.reduceEqDiff,↓reduceIte];done)|assumption|(simp (disch:=omega) only[hg_ne,hg_eq,hgs_ne, *];done)|with_unfolding_all rfl) only [c20,h3,EVS,Nat.reduceAdd,Nat.reduceSub,Int.reduceToNat,Nat.reduceMul,Nat.reduceEqDiff,Nat.reduceLeDiff,Int.reduceEq,Int.reduceLT,Int.reduceLE,↓reduceIte]
  exact decide_eq_decide.2 ⟨fun e=>⟨h.1,h.2,by omega⟩,fun e=>by have:=e.2.2;omega⟩
 ·exact (decide_eq_false fun hn=>h ⟨hn.1,hn.2.1⟩).symm
def loadsS (w:Int):Prop:=w=8 ∨ w=16 ∨ w=32 ∨ w=64
instance (w:Int):Decidable (loadsS w):=inferInstanceAs (Decidable (w=8 ∨ w=16 ∨ w=32 ∨ w=64))
theorem loadable_spec (w:Int):∀ h nx,lim T 49 [.int .i64 w] h nx=some (.bool (decide (loadsS w)),h,nx):=by
 refine lim_iso tg49 rfl rfl rfl ?_
 simp (disch:=first|omega|(simp only[EVL]<;>omega)|(simp only[hget_c,Nat.reduceEqDiff,↓reduceIte];done)|assumption|(simp (disch:=omega) only[hg_ne,hg_eq,hgs_ne, *];done)|with_unfolding_all rfl) only [c49,EVS,Nat.reduceAdd,Nat.reduceSub,Int.reduceToNat,Nat.reduceMul,Nat.reduceEqDiff,Nat.reduceLeDiff,Int.reduceEq,Int.reduceLT,Int.reduceLE,↓reduceIte]
 repeat' (refine Ok_if (fun hb=>?_) (fun hb=>?_)<;>have h:=hb<;>(try simp only [decide_eq_true_eq,decide_eq_false_iff_not,Int.not_lt,Int.not_le] at h)<;>(simp (disch:=first|omega|(simp only[EVL]<;>omega)|(simp only[hget_c,Nat.reduceEqDiff,↓reduceIte];done)|assumption|(simp (disch:=omega) only[hg_ne,hg_eq,hgs_ne, *];done)|with_unfolding_all rfl) only [hb,c49,EVS,Nat.reduceAdd,Nat.reduceSub,Int.reduceToNat,Nat.reduceMul,Nat.reduceEqDiff,Nat.reduceLeDiff,Int.reduceEq,Int.reduceLT,Int.reduceLE,↓reduceIte])<;>(try clear hb))
 all_goals simp_all [loadsS]

theorem visit_loop {α β:Type} (f id b0:Nat) (caps:List FV) (g:α→Te→α ⊕ β) (P:α→Heap→Prop) (Q:β→Heap→Prop) (hP:Keeps b0 P) (e:Bool) (l:List Te) (hlen:l.length ≤ 1000000)
  (ih:∀ t ∈ l,∀ a h nx,b0 ≤ nx→P a h→∃ r,lim T 117 [.agg [.int .u8 (t).k,.int .i64 (t).w,.int .u64 (t).b,.str (t).s,.int .i64 (t).lo,.lst (t).e ((t).l.map tV)],.yl f id caps] h nx=some r∧ResR b0 h nx P Q r (foldE g a (nodesT t))):∀ (k i:Nat) (a:α) (h:Heap) (nx:Nat),i + k=l.length→b0 ≤ nx→P a h →
  @Ok Out (runs T [.code b117_0,.inL none b117_0,.inB 0,.code k117_1] [(1,.yl f id caps),(12,.lst e (l.map tV)),(13,.int .i64 l.length),(14,.int .i64 i)] h nx)
   ⟨fun x=>@Ok FV (finV c117.res x) ⟨fun v=>ResR b0 h nx P Q (v,x.2.2.1,x.2.2.2) (foldE g a (nodesL (l.drop i)))⟩⟩:=by
 intro k
 induction k with
 |zero =>
  intro i a h nx hi hb hp
  have:¬ (i:Int) < l.length:=by omega
  simp (disch:=first|omega|(simp only[EVL]<;>omega)|(simp only[hget_c,Nat.reduceEqDiff,↓reduceIte];done)|assumption|(simp (disch:=omega) only[hg_ne,hg_eq,hgs_ne, *];done)|(simp only [TL];done)|with_unfolding_all rfl) only [unf b117_0.eq_1,unf k117_1.eq_1,c117,this,TL,EVS,Nat.reduceAdd,Nat.reduceSub,Int.reduceToNat,Nat.reduceMul,Nat.reduceEqDiff,Nat.reduceLeDiff,Int.reduceEq,Int.reduceLT,Int.reduceLE,↓reduceIte]
  rw [List.drop_eq_nil_of_le (by omega)]
  exact ⟨rfl,hp,Fr.up (by dsimp only;omega) fun _ _=>rfl⟩
 |succ k ihk =>
  intro i a h nx hi hb hp
  have:(i:Int) < l.length:=by omega
  simp (disch:=first|omega|(simp only[EVL]<;>omega)|(simp only[hget_c,Nat.reduceEqDiff,↓reduceIte];done)|assumption|(simp (disch:=omega) only[hg_ne,hg_eq,hgs_ne, *];done)|(simp only [TL];done)|with_unfolding_all rfl) only [unf b117_0.eq_1,c117,this,TL,EVS,Nat.reduceAdd,Nat.reduceSub,Int.reduceToNat,Nat.reduceMul,Nat.reduceEqDiff,Nat.reduceLeDiff,Int.reduceEq,Int.reduceLT,Int.reduceLE,↓reduceIte]
  rw [drop_getD (show i < l.length by omega),nodesL_cons,foldE_app]
  refine Ok_call (ih _ (getD_mem (d:=default) (show i < l.length by omega)) a _ _ (by omega) (hP _ _ _ hp fun j hj=>?_)) fun r hr=>?_
  ·simp (disch:=omega) only [hg_ne,hgs_ne]
  obtain ⟨v,h',nx'⟩:=r
  have hfr:∀ {s:α ⊕ β},ResR b0 ((nx + 1 + 1 + 1,Obj.row 6 [.agg [.int .u8 (l.getD i default).k,.int .i64 (l.getD i default).w,.int .u64 (l.getD i default).b,.str (l.getD i default).s,.int .i64 (l.getD i default).lo,.lst (l.getD i default).e ((l.getD i default).l.map tV)]])::h) (nx + 1 + 4 + 4) P Q (v,h',nx') s→Fr b0 h h' nx nx':=fun {s} hr=>by
   cases s with
   |inl a=>exact hr.2.2.ext (by omega) fun j hj=>hg_ne (by omega)
   |inr a=>exact hr.2.2.ext (by omega) fun j hj=>hg_ne (by omega)
  cases hg:foldE g a (nodesT (l.getD i default)) with
  |inl a' =>
   rw [hg] at hr
   have hf:=hfr hr
   obtain ⟨rfl,hp',_⟩:=hr
   refine ⟨rfl,?_⟩
   simp (disch:=first|omega|(simp only[EVL]<;>omega)|(simp only[hget_c,Nat.reduceEqDiff,↓reduceIte];done)|assumption|(simp (disch:=omega) only[hg_ne,hg_eq,hgs_ne, *];done)|(simp only [TL];done)|with_unfolding_all rfl) only [c117,EVS,Nat.reduceAdd,Nat.reduceSub,Int.reduceToNat,Nat.reduceMul,Nat.reduceEqDiff,Nat.reduceLeDiff,Int.reduceEq,Int.reduceLT,Int.reduceLE,↓reduceIte]
   exact Ok_inL0 (Ok_post (ihk (i + 1) a' h' _ (by omega) (by have:=hf.1;omega) hp') fun _ _ hq=>hq.base (hf.trans (Fr.up (by omega) fun _ _=>rfl)))
  |inr b =>
   rw [hg] at hr
   have hf:=hfr hr
   obtain ⟨rfl,hp',_⟩:=hr
   refine ⟨rfl,?_⟩
   simp (disch:=first|omega|(simp only[EVL]<;>omega)|(simp only[hget_c,Nat.reduceEqDiff,↓reduceIte];done)|assumption|(simp (disch:=omega) only[hg_ne,hg_eq,hgs_ne, *];done)|(simp only [TL];done)|with_unfolding_all rfl) only [c117,EVS,Nat.reduceAdd,Nat.reduceSub,Int.reduceToNat,Nat.reduceMul,Nat.reduceEqDiff,Nat.reduceLeDiff,Int.reduceEq,Int.reduceLT,Int.reduceLE,↓reduceIte]
   exact ⟨rfl,hp',hf.trans (Fr.up (by dsimp only;omega) fun _ _=>rfl)⟩
theorem visit_spec {α β:Type} (f id b0:Nat) (caps:List FV) (g:α→Te→α ⊕ β) (P:α→Heap→Prop) (Q:β→Heap→Prop) (hP:Keeps b0 P) (t:Te) (hlen:size t ≤ 1000000)
  (step:∀ x ∈ nodesT t,∀ a h nx,b0 ≤ nx→P a h→∃ r,lim T f [.yl f id caps,.agg [.int .u8 (x).k,.int .i64 (x).w,.int .u64 (x).b,.str (x).s,.int .i64 (x).lo,.lst (x).e ((x).l.map tV)]] h nx=some r∧ResR b0 h nx P Q r (g a x)):∀ a h nx,b0 ≤ nx→P a h →
  ∃ r,lim T 117 [.agg [.int .u8 (t).k,.int .i64 (t).w,.int .u64 (t).b,.str (t).s,.int .i64 (t).lo,.lst (t).e ((t).l.map tV)],.yl f id caps] h nx=some r∧ResR b0 h nx P Q r (foldE g a (nodesT t)):=by
 induction t using Tm'.ind with
 |h t ih =>
 intro a h nx hb hp
 rw [lim_shr tg117 rfl rfl]
 have hs:∀ x ∈ nodesL t.l,x ∈ nodesT t:=fun x hx=>by rw [nodes_eq];exact List.mem_cons_of_mem _ hx
 have ih':∀ x ∈ t.l,∀ a h nx,b0 ≤ nx→P a h→∃ r,lim T 117 [.agg [.int .u8 (x).k,.int .i64 (x).w,.int .u64 (x).b,.str (x).s,.int .i64 (x).lo,.lst (x).e ((x).l.map tV)],.yl f id caps] h nx=some r∧ResR b0 h nx P Q r (foldE g a (nodesT x)):=fun x hx =>
  ih x hx (by have:=size_mem hx;omega) fun y hy=>step y (hs y (nodesL_mem hx hy))
 rw [nodes_eq,foldE]
 suffices hh:@Ok Out (runs T [.code c117.body] (params 0 [.agg [.int .u8 (t).k,.int .i64 (t).w,.int .u64 (t).b,.str (t).s,.int .i64 (t).lo,.lst (t).e ((t).l.map tV)],.yl f id caps]) h nx) ⟨fun x=>@Ok FV (finV c117.res x) ⟨fun v=>ResR b0 h nx P Q (v,x.2.2.1,x.2.2.2) (match g a t with | .inl a'=>foldE g a' (nodesL t.l) | .inr b=>.inr b)⟩⟩ by
  obtain ⟨x,h1,v,h2,h3⟩:=hh
  exact ⟨(v,x.2.2.1,x.2.2.2),by rw [h1,B_some,h2,B_some],h3⟩
 simp (disch:=first|omega|(simp only[EVL]<;>omega)|(simp only[hget_c,Nat.reduceEqDiff,↓reduceIte];done)|assumption|(simp (disch:=omega) only[hg_ne,hg_eq,hgs_ne, *];done)|(simp only [TL];done)|with_unfolding_all rfl) only [c117,EVS,Nat.reduceAdd,Nat.reduceSub,Int.reduceToNat,Nat.reduceMul,Nat.reduceEqDiff,Nat.reduceLeDiff,Int.reduceEq,Int.reduceLT,Int.reduceLE,↓reduceIte]
 refine Ok_call (step t (by rw [nodes_eq];simp) a _ _ (by omega) (hP _ _ _ hp fun j hj=>?_)) fun r hr=>?_
 ·simp (disch:=omega) only [hg_ne]
 obtain ⟨v,h',nx'⟩:=r
 have hfr:∀ {s:α ⊕ β},ResR b0 ((nx,Obj.row 6 [.agg [.int .u8 (t).k,.int .i64 (t).w,.int .u64 (t).b,.str (t).s,.int .i64 (t).lo,.lst (t).e ((t).l.map tV)]])::h) (nx + 2 + 4) P Q (v,h',nx') s→Fr b0 h h' nx nx'∧(b0 ≤ nx→hget h' nx=some (Obj.row 6 [.agg [.int .u8 (t).k,.int .i64 (t).w,.int .u64 (t).b,.str (t).s,.int .i64 (t).lo,.lst (t).e ((t).l.map tV)]])):=fun {s} hr=>by
  cases s with
  |inl a=>exact ⟨hr.2.2.ext (by omega) fun j hj=>hg_ne (by omega),fun hb=>(hr.2.2.2 nx hb (by omega)).trans hg_eq⟩
  |inr a=>exact ⟨hr.2.2.ext (by omega) fun j hj=>hg_ne (by omega),fun hb=>(hr.2.2.2 nx hb (by omega)).trans hg_eq⟩
 obtain ⟨hf,hgt⟩:=hfr hr
 have hgt:=hgt hb
 cases hg:g a t with
 |inl a' =>
  rw [hg] at hr
  obtain ⟨rfl,hp',_⟩:=hr
  refine ⟨rfl,?_⟩
  have hsz:=sizes_len t.l
  rw [size_eq] at hlen
  simp (disch:=first|omega|(simp only[EVL]<;>omega)|(simp only[hget_c,Nat.reduceEqDiff,↓reduceIte];done)|assumption|(simp (disch:=omega) only[hg_ne,hg_eq,hgs_ne, *];done)|(simp only [TL];done)|with_unfolding_all rfl) only [c117,hgt,EVS,Nat.reduceAdd,Nat.reduceSub,Int.reduceToNat,Nat.reduceMul,Nat.reduceEqDiff,Nat.reduceLeDiff,Int.reduceEq,Int.reduceLT,Int.reduceLE,↓reduceIte]
  have hll:t.l.length ≤ 1000000:=by omega
  exact Ok_post (visit_loop f id b0 caps g P Q hP t.e t.l hll ih' t.l.length 0 a' h' _ (by omega) (by have:=hf.1;omega) hp') fun _ _ hq=>hq.base (hf.trans (Fr.up (by omega) fun _ _=>rfl))
 |inr b =>
  rw [hg] at hr
  obtain ⟨rfl,hp',_⟩:=hr
  refine ⟨rfl,?_⟩
  simp (disch:=first|omega|(simp only[EVL]<;>omega)|(simp only[hget_c,Nat.reduceEqDiff,↓reduceIte];done)|assumption|(simp (disch:=omega) only[hg_ne,hg_eq,hgs_ne, *];done)|(simp only [TL];done)|with_unfolding_all rfl) only [c117,hgt,EVS,Nat.reduceAdd,Nat.reduceSub,Int.reduceToNat,Nat.reduceMul,Nat.reduceEqDiff,Nat.reduceLeDiff,Int.reduceEq,Int.reduceLT,Int.reduceLE,↓reduceIte]
  exact ⟨rfl,hp',hf.trans (Fr.up (by dsimp only;omega) fun _ _=>rfl)⟩
theorem nodes_spec (t:Te):∀ h nx,lim T 71 [.agg [.int .u8 (t).k,.int .i64 (t).w,.int .u64 (t).b,.str (t).s,.int .i64 (t).lo,.lst (t).e ((t).l.map tV)]] h nx=some (.fn 116 [.eptr [.int .u8 t.k,.int .i64 t.w,.int .u64 t.b,.str t.s,.int .i64 t.lo,.lst t.e (t.l.map tV)] 0],h,nx):=by
 refine lim_iso tg71 rfl rfl (by simp [pures,pure_,pu_Ts]) ?_
 simp (disch:=first|omega|(simp only[EVL]<;>omega)|(simp only[hget_c,Nat.reduceEqDiff,↓reduceIte];done)|assumption|(simp (disch:=omega) only[hg_ne,hg_eq,hgs_ne, *];done)|(simp only [TL];done)|with_unfolding_all rfl) only [c71,TL,elemAt_r hg_eq,EVS,Nat.reduceAdd,Nat.reduceSub,Int.reduceToNat,Nat.reduceMul,Nat.reduceEqDiff,Nat.reduceLeDiff,Int.reduceEq,Int.reduceLT,Int.reduceLE,↓reduceIte]
def ResW {α β:Type} (b0:Nat) (h:Heap) (nx:Nat) (P:α→Heap→Prop) (Q:β→Heap→Prop) (r:FV × Heap × Nat):α ⊕ β→Prop
 |.inl a=>r.1=.tup []∧P a r.2.1∧Fr b0 h r.2.1 nx r.2.2
 |.inr b=>r.1=.tup []∧Q b r.2.1∧Fr b0 h r.2.1 nx r.2.2
theorem walk_spec {α β:Type} (f id b0:Nat) (caps:List FV) (g:α→Te→α ⊕ β) (P:α→Heap→Prop) (Q:β→Heap→Prop) (hP:Keeps b0 P) (t:Te) (hlen:size t ≤ 1000000)
  (step:∀ x ∈ nodesT t,∀ a h nx,b0 ≤ nx→P a h→∃ r,lim T f [.yl f id caps,.agg [.int .u8 (x).k,.int .i64 (x).w,.int .u64 (x).b,.str (x).s,.int .i64 (x).lo,.lst (x).e ((x).l.map tV)]] h nx=some r∧ResR b0 h nx P Q r (g a x)):∀ a h nx,b0 ≤ nx→P a h →
  ∃ r,lim T 116 [.yl f id caps,.eptr [.int .u8 t.k,.int .i64 t.w,.int .u64 t.b,.str t.s,.int .i64 t.lo,.lst t.e (t.l.map tV)] 0] h nx=some r∧ResW b0 h nx P Q r (foldE g a (nodesT t)):=by
 intro a h nx hb hp
 rw [lim_shr tg116 rfl rfl]
 suffices hh:@Ok Out (runs T [.code c116.body] (params 0 [.yl f id caps,.eptr [.int .u8 t.k,.int .i64 t.w,.int .u64 t.b,.str t.s,.int .i64 t.lo,.lst t.e (t.l.map tV)] 0]) h nx) ⟨fun x=>@Ok FV (finV c116.res x) ⟨fun v=>ResW b0 h nx P Q (v,x.2.2.1,x.2.2.2) (foldE g a (nodesT t))⟩⟩ by
  obtain ⟨x,h1,v,h2,h3⟩:=hh
  exact ⟨(v,x.2.2.1,x.2.2.2),by rw [h1,B_some,h2,B_some],h3⟩
 simp (disch:=first|omega|(simp only[EVL]<;>omega)|(simp only[hget_c,Nat.reduceEqDiff,↓reduceIte];done)|assumption|(simp (disch:=omega) only[hg_ne,hg_eq,hgs_ne, *];done)|(simp only [TL];done)|with_unfolding_all rfl) only [c116,EVS,Nat.reduceAdd,Nat.reduceSub,Int.reduceToNat,Nat.reduceMul,Nat.reduceEqDiff,Nat.reduceLeDiff,Int.reduceEq,Int.reduceLT,Int.reduceLE,↓reduceIte]
 refine Ok_call (visit_spec f id b0 caps g P Q hP t hlen step a _ _ (by omega) hp) fun r hr=>?_
 obtain ⟨v,h',nx'⟩:=r
 cases hg:foldE g a (nodesT t) with
 |inl a' =>
  rw [hg] at hr
  obtain ⟨rfl,hp',hf⟩:=hr
  refine ⟨rfl,?_⟩
  simp (disch:=first|omega|(simp only[EVL]<;>omega)|(simp only[hget_c,Nat.reduceEqDiff,↓reduceIte];done)|assumption|(simp (disch:=omega) only[hg_ne,hg_eq,hgs_ne, *];done)|(simp only [TL];done)|with_unfolding_all rfl) only [c116,EVS,Nat.reduceAdd,Nat.reduceSub,Int.reduceToNat,Nat.reduceMul,Nat.reduceEqDiff,Nat.reduceLeDiff,Int.reduceEq,Int.reduceLT,Int.reduceLE,↓reduceIte]
  exact ⟨rfl,hp',hf.ext (by omega) fun _ _=>rfl⟩
 |inr b =>
  rw [hg] at hr
  obtain ⟨rfl,hp',hf⟩:=hr
  refine ⟨rfl,?_⟩
  simp (disch:=first|omega|(simp only[EVL]<;>omega)|(simp only[hget_c,Nat.reduceEqDiff,↓reduceIte];done)|assumption|(simp (disch:=omega) only[hg_ne,hg_eq,hgs_ne, *];done)|(simp only [TL];done)|with_unfolding_all rfl) only [c116,EVS,Nat.reduceAdd,Nat.reduceSub,Int.reduceToNat,Nat.reduceMul,Nat.reduceEqDiff,Nat.reduceLeDiff,Int.reduceEq,Int.reduceLT,Int.reduceLE,↓reduceIte]
  exact ⟨rfl,hp',hf.ext (by omega) fun _ _=>rfl⟩

abbrev szP (n:Int) (h:Heap):Prop:=hget h 6=some (.lp 0 0)∧hget h 2=some (.row 1 [.int .i64 (IntKind.i64.wrap n)])
theorem size_spec (t:Te) (hl:size t ≤ 1000000):∀ h nx,lim T 38 [.agg [.int .u8 (t).k,.int .i64 (t).w,.int .u64 (t).b,.str (t).s,.int .i64 (t).lo,.lst (t).e ((t).l.map tV)]] h nx=some (.int .i64 (size t),h,nx):=by
 refine lim_iso tg38 rfl rfl (by simp [pures,pure_,pu_Ts]) ?_
 simp (disch:=first|omega|(simp only[EVL]<;>omega)|(simp only[hget_c,Nat.reduceEqDiff,↓reduceIte];done)|assumption|(simp (disch:=omega) only[hg_ne,hg_eq,hgs_ne, *];done)|(simp only [TL];done)|with_unfolding_all rfl) only [c38,nodes_spec,TL,EVS,Nat.reduceAdd,Nat.reduceSub,Int.reduceToNat,Nat.reduceMul,Nat.reduceEqDiff,Nat.reduceLeDiff,Int.reduceEq,Int.reduceLT,Int.reduceLE,↓reduceIte]
 refine Ok_call1 (walk_spec 1003800 6 7 [.ptr 2 1 0 0] (fun n _=>.inl (n + 1)) szP (fun (_:Empty) _=>True) (fun a h h' hp hk=>⟨(hk 6 (by omega)).trans hp.1,(hk 2 (by omega)).trans hp.2⟩) t hl ?_ 0 _ _ (by omega) ⟨rfl,rfl⟩) fun r hr=>?_
 ·intro x hx a h nx hb hp
  obtain ⟨p1,p2⟩:=hp
  rw [lim_round tg1003800 rfl rfl p1]
  show @Ok _ _ ⟨fun r=>ResR _ _ _ _ _ r _⟩
  simp only [r1003800]
  simp (disch:=first|omega|(simp only[EVL]<;>omega)|(simp only[hget_c,Nat.reduceEqDiff,↓reduceIte];done)|assumption|(simp (disch:=omega) only[hg_ne,hg_eq,hgs_ne, *];done)|(simp only [TL];done)|with_unfolding_all rfl) only [unf b38_0.eq_1,p1,p2,hgs_ne,hgs_eq,wrap_add,EVS,Nat.reduceAdd,Nat.reduceSub,Int.reduceToNat,Nat.reduceMul,Nat.reduceEqDiff,Nat.reduceLeDiff,Int.reduceEq,Int.reduceLT,Int.reduceLE,↓reduceIte]
  exact ⟨rfl,⟨by (simp (disch:=omega) only [hg_ne,hg_eq,hgs_ne,hgx_e,Option.map_some, *]),by (simp (disch:=omega) only [hg_ne,hg_eq,hgs_ne,hgx_e,Option.map_some, *])⟩,⟨by dsimp only;omega,fun i hi hl=>by simp (disch:=omega) only [hg_ne,hgs_ne]⟩⟩
 ·rw [foldE_count,nodesT_len] at hr
  obtain ⟨v,h',nx'⟩:=r
  obtain ⟨rfl,⟨p1,p2⟩,hf⟩:=hr
  dsimp only at p1 p2
  refine ⟨rfl,?_⟩
  rw [Int.zero_add,wrap64 (by omega) (by omega)] at p2
  simp (disch:=first|omega|(simp only[EVL]<;>omega)|(simp only[hget_c,Nat.reduceEqDiff,↓reduceIte];done)|assumption|(simp (disch:=omega) only[hg_ne,hg_eq,hgs_ne, *];done)|(simp only [TL];done)|with_unfolding_all rfl) only [unf k38_1.eq_1,c38,p1,p2,hgs_ne,EVS,Nat.reduceAdd,Nat.reduceSub,Int.reduceToNat,Nat.reduceMul,Nat.reduceEqDiff,Nat.reduceLeDiff,Int.reduceEq,Int.reduceLT,Int.reduceLE,↓reduceIte]
theorem depth_loop (t:Te) (ih:∀ x ∈ t.l,∀ h nx,lim T 37 [.agg [.int .u8 (x).k,.int .i64 (x).w,.int .u64 (x).b,.str (x).s,.int .i64 (x).lo,.lst (x).e ((x).l.map tV)]] h nx=some (.int .i64 (depth x),h,nx)) (hl:t.l.length ≤ 1000000) (hd:depth t ≤ 1000000):∀ (k i:Nat) (d:Int),i + k=t.l.length→0 ≤ d→d ≤ 1000000 →
  @Ok Out (runs T [.code b37_0,.inL (some 7) b37_0,.inB 0,.code k37_1] [(3,.int .i64 d),(7,.lst t.e (t.l.map tV)),(8,.int .i64 t.l.length),(9,.int .i64 i)] [(0,.row 6 [.agg [.int .u8 (t).k,.int .i64 (t).w,.int .u64 (t).b,.str (t).s,.int .i64 (t).lo,.lst (t).e ((t).l.map tV)]])] 7) ⟨fun x=>resV c37.res x=some (.int .i64 (max d (depths (t.l.drop i)) + 1))⟩:=by
 intro k
 induction k with
 |zero =>
  intro i d hi h0 h1
  have:¬ (i:Int) < t.l.length:=by omega
  simp (disch:=first|omega|(simp only[EVL]<;>omega)|(simp only[hget_c,Nat.reduceEqDiff,↓reduceIte];done)|assumption|(simp (disch:=omega) only[hg_ne,hg_eq,hgs_ne, *];done)|(simp only [TL];done)|with_unfolding_all rfl) only [unf b37_0.eq_1,unf k37_1.eq_1,c37,this,TL,EVS,Nat.reduceAdd,Nat.reduceSub,Int.reduceToNat,Nat.reduceMul,Nat.reduceEqDiff,Nat.reduceLeDiff,Int.reduceEq,Int.reduceLT,Int.reduceLE,↓reduceIte]
  rw [List.drop_eq_nil_of_le (by omega)]
  show d + 1=max d ((0:Nat):Int) + 1
  omega
 |succ k ihk =>
  intro i d hi h0 h1
  have:(i:Int) < t.l.length:=by omega
  have hx:=ih _ (getD_mem (d:=default) (show i < t.l.length by omega))
  have hdx:depth (t.l.getD i default) ≤ depths t.l:=depths_mem (getD_mem (by omega))
  rw [depth_eq] at hd
  simp (disch:=first|omega|(simp only[EVL]<;>omega)|(simp only[hget_c,Nat.reduceEqDiff,↓reduceIte];done)|assumption|(simp (disch:=omega) only[hg_ne,hg_eq,hgs_ne, *];done)|(simp only [TL];done)|with_unfolding_all rfl) only [unf b37_0.eq_1,c37,this,TL,hx,EVS,Nat.reduceAdd,Nat.reduceSub,Int.reduceToNat,Nat.reduceMul,Nat.reduceEqDiff,Nat.reduceLeDiff,Int.reduceEq,Int.reduceLT,Int.reduceLE,↓reduceIte]
  have hq:=ihk (i + 1) (max d (depth (t.l.getD i default))) (by omega) (by omega) (by omega)
  rw [depths_drop (by omega)]
  have e:max d ((max (depth (t.l.getD i default)) (depths (t.l.drop (i + 1))):Nat):Int)=max (max d (depth (t.l.getD i default))) (depths (t.l.drop (i + 1))):=by omega
  rw [e]
  exact Ok_inL (by decide) (by simp [lowTm,low,lows,TL]) (by simp [cutH,lowHeap,lowObj,lows,low,TL]) hq
theorem depth_spec (t:Te) (hl:size t ≤ 1000000):∀ h nx,lim T 37 [.agg [.int .u8 (t).k,.int .i64 (t).w,.int .u64 (t).b,.str (t).s,.int .i64 (t).lo,.lst (t).e ((t).l.map tV)]] h nx=some (.int .i64 (depth t),h,nx):=by
 induction t using Tm'.ind with
 |h t ih =>
 have hsz:=sizes_len t.l
 have hds:=depth_size t
 have hse:=size_eq t
 refine lim_iso tg37 rfl rfl (by simp [pures,pure_,pu_Ts]) ?_
 simp (disch:=first|omega|(simp only[EVL]<;>omega)|(simp only[hget_c,Nat.reduceEqDiff,↓reduceIte];done)|assumption|(simp (disch:=omega) only[hg_ne,hg_eq,hgs_ne, *];done)|(simp only [TL];done)|with_unfolding_all rfl) only [c37,TL,EVS,Nat.reduceAdd,Nat.reduceSub,Int.reduceToNat,Nat.reduceMul,Nat.reduceEqDiff,Nat.reduceLeDiff,Int.reduceEq,Int.reduceLT,Int.reduceLE,↓reduceIte]
 have:=depth_loop t (fun x hx=>ih x hx (by have:=size_mem hx;omega)) (by omega) (by omega) t.l.length 0 0 (by omega) (by omega) (by omega)
 rw [depth_eq]
 rw [List.drop_zero,show max (0:Int) (depths t.l)=depths t.l by omega] at this
 exact_mod_cast this

def okAt (s:List UInt8) (i:Nat):Prop:=(97 ≤ (s.getD i 0).toNat∧(s.getD i 0).toNat ≤ 122) ∨ (65 ≤ (s.getD i 0).toNat∧(s.getD i 0).toNat ≤ 90) ∨ (i ≠ 0∧((s.getD i 0).toNat=95 ∨ (48 ≤ (s.getD i 0).toNat∧(s.getD i 0).toNat ≤ 57)))
def nameS (s:List UInt8):Prop:=1 ≤ s.length∧s.length ≤ 24∧∀ i,i < s.length→okAt s i
open Classical in
theorem name_loop (s:List UInt8) (h1:1 ≤ s.length) (h2:s.length ≤ 24):∀ (k i:Nat),i + k=s.length→(∀ j,j < i→okAt s j) →
  @Ok Out (runs T [.code b86_0,.inL (some 12) b86_0,.inB 0,.code k86_1] [(0,.str s),(15,.int .i64 s.length),(16,.int .i64 i)] [] 12) ⟨fun x=>resV c86.res x=some (.bool (decide (nameS s)))⟩:=by
 intro k
 induction k with
 |zero =>
  intro i hi hok
  have:¬ (i:Int) < s.length:=by omega
  simp (disch:=first|omega|(simp only[EVL]<;>omega)|(simp only[hget_c,Nat.reduceEqDiff,↓reduceIte];done)|assumption|(simp (disch:=omega) only[hg_ne,hg_eq,hgs_ne, *];done)|(simp only [TL];done)|with_unfolding_all rfl) only [unf b86_0.eq_1,unf k86_1.eq_1,c86,this,EVS,Nat.reduceAdd,Nat.reduceSub,Int.reduceToNat,Nat.reduceMul,Nat.reduceEqDiff,Nat.reduceLeDiff,Int.reduceEq,Int.reduceLT,Int.reduceLE,↓reduceIte]
  exact (decide_eq_true ⟨h1,h2,fun j hj=>hok j (by omega)⟩).symm
 |succ k ih =>
  intro i hi hok
  have hs:okAt s i→∀ j,j < i + 1→okAt s j:=fun ho j hj=>by
   by_cases e:j=i
   ·subst e;exact ho
   ·exact hok j (by omega)
  have:(i:Int) < s.length:=by omega
  simp (disch:=first|omega|(simp only[EVL]<;>omega)|(simp only[hget_c,Nat.reduceEqDiff,↓reduceIte];done)|assumption|(simp (disch:=omega) only[hg_ne,hg_eq,hgs_ne, *];done)|(simp only [TL];done)|with_unfolding_all rfl) only [unf b86_0.eq_1,c86,this,EVS,Nat.reduceAdd,Nat.reduceSub,Int.reduceToNat,Nat.reduceMul,Nat.reduceEqDiff,Nat.reduceLeDiff,Int.reduceEq,Int.reduceLT,Int.reduceLE,↓reduceIte]
  repeat' (refine Ok_if (fun hb=>?_) (fun hb=>?_)<;>have h:=hb<;>(try simp only [decide_eq_true_eq,decide_eq_false_iff_not,Int.not_lt,Int.not_le] at h)<;>(simp (disch:=first|omega|(simp only[EVL]<;>omega)|(simp only[hget_c,Nat.reduceEqDiff,↓reduceIte];done)|assumption|(simp (disch:=omega) only[hg_ne,hg_eq,hgs_ne, *];done)|(simp only [TL];done)|with_unfolding_all rfl) only [hb,c86,EVS,Nat.reduceAdd,Nat.reduceSub,Int.reduceToNat,Nat.reduceMul,Nat.reduceEqDiff,Nat.reduceLeDiff,Int.reduceEq,Int.reduceLT,Int.reduceLE,↓reduceIte])<;>(try clear hb))
  all_goals first
   |exact Ok_inL (by decide) (by simp [lowTm,low]) (by simp [lowHeap,cutH]) (ih (i + 1) (by omega) (hs (by unfold okAt;omega)))
   |exact (decide_eq_false fun hn=>by have:=hn.2.2 i (by omega);unfold okAt at this;omega).symm
open Classical in
theorem nameB_spec (s:List UInt8):∀ h nx,lim T 86 [.str s] h nx=some (.bool (decide (nameS s)),h,nx):=by
 refine lim_iso tg86 rfl rfl rfl ?_
 simp (disch:=first|omega|(simp only[EVL]<;>omega)|(simp only[hget_c,Nat.reduceEqDiff,↓reduceIte];done)|assumption|(simp (disch:=omega) only[hg_ne,hg_eq,hgs_ne, *];done)|(simp only [TL];done)|with_unfolding_all rfl) only [c86,EVS,Nat.reduceAdd,Nat.reduceSub,Int.reduceToNat,Nat.reduceMul,Nat.reduceEqDiff,Nat.reduceLeDiff,Int.reduceEq,Int.reduceLT,Int.reduceLE,↓reduceIte]
 repeat' (refine Ok_if (fun hb=>?_) (fun hb=>?_)<;>have h:=hb<;>(try simp only [decide_eq_true_eq,decide_eq_false_iff_not,Int.not_lt,Int.not_le] at h)<;>(simp (disch:=first|omega|(simp only[EVL]<;>omega)|(simp only[hget_c,Nat.reduceEqDiff,↓reduceIte];done)|assumption|(simp (disch:=omega) only[hg_ne,hg_eq,hgs_ne, *];done)|(simp only [TL];done)|with_unfolding_all rfl) only [hb,c86,EVS,Nat.reduceAdd,Nat.reduceSub,Int.reduceToNat,Nat.reduceMul,Nat.reduceEqDiff,Nat.reduceLeDiff,Int.reduceEq,Int.reduceLT,Int.reduceLE,↓reduceIte])<;>(try clear hb))
 ·exact (decide_eq_false fun hn=>by have:=hn.1;omega).symm
 ·exact (decide_eq_false fun hn=>by have:=hn.2.1;omega).symm
 ·exact name_loop s (by omega) (by omega) s.length 0 (by omega) (by omega)
def strip (s:List UInt8):List UInt8:=if 2 ≤ s.length∧s.take 2=[114,46] then s.drop 2 else s
theorem hasP2_spec (s p:List UInt8):∀ h nx,lim T 149 [.str s,.str p] h nx=some (.bool (decide (p.length ≤ s.length∧s.take p.length=p)),h,nx):=by
 refine lim_iso tg149 rfl rfl rfl ?_
 simp (disch:=first|omega|(simp only[EVL]<;>omega)|(simp only[hget_c,Nat.reduceEqDiff,↓reduceIte];done)|assumption|(simp (disch:=omega) only[hg_ne,hg_eq,hgs_ne, *];done)|(simp only [TL];done)|with_unfolding_all rfl) only [c149,EVS,Nat.reduceAdd,Nat.reduceSub,Int.reduceToNat,Nat.reduceMul,Nat.reduceEqDiff,Nat.reduceLeDiff,Int.reduceEq,Int.reduceLT,Int.reduceLE,↓reduceIte]
 repeat' (refine Ok_if (fun hb=>?_) (fun hb=>?_)<;>have h:=hb<;>(try simp only [decide_eq_true_eq,decide_eq_false_iff_not,Int.not_lt,Int.not_le] at h)<;>(simp (disch:=first|omega|(simp only[EVL]<;>omega)|(simp only[hget_c,Nat.reduceEqDiff,↓reduceIte];done)|assumption|(simp (disch:=omega) only[hg_ne,hg_eq,hgs_ne, *];done)|(simp only [TL];done)|with_unfolding_all rfl) only [hb,c149,EVS,Nat.reduceAdd,Nat.reduceSub,Int.reduceToNat,Nat.reduceMul,Nat.reduceEqDiff,Nat.reduceLeDiff,Int.reduceEq,Int.reduceLT,Int.reduceLE,↓reduceIte])<;>(try clear hb))
 ·have h:p.length ≤ s.length:=by omega
  by_cases e:s.take p.length=p
  ·simp [e,h]
  ·simp [e,h]
 ·simp only [eq_comm (a:=false),decide_eq_false_iff_not];omega
theorem trimP2_spec (s p:List UInt8):∀ h nx,lim T 135 [.str s,.str p] h nx=some (.str (if p.length ≤ s.length∧s.take p.length=p then s.drop p.length else s),h,nx):=by
 refine lim_iso tg135 rfl rfl rfl ?_
 simp (disch:=first|omega|(simp only[EVL]<;>omega)|(simp only[hget_c,Nat.reduceEqDiff,↓reduceIte];done)|assumption|(simp (disch:=omega) only[hg_ne,hg_eq,hgs_ne, *];done)|(simp only [TL];done)|with_unfolding_all rfl) only [c135,hasP2_spec,EVS,Nat.reduceAdd,Nat.reduceSub,Int.reduceToNat,Nat.reduceMul,Nat.reduceEqDiff,Nat.reduceLeDiff,Int.reduceEq,Int.reduceLT,Int.reduceLE,↓reduceIte]
 repeat' (refine Ok_if (fun hb=>?_) (fun hb=>?_)<;>have h:=hb<;>(try simp only [decide_eq_true_eq,decide_eq_false_iff_not,Int.not_lt,Int.not_le] at h)<;>(simp (disch:=first|omega|(simp only[EVL]<;>omega)|(simp only[hget_c,Nat.reduceEqDiff,↓reduceIte];done)|assumption|(simp (disch:=omega) only[hg_ne,hg_eq,hgs_ne, *];done)|(simp only [TL];done)|with_unfolding_all rfl) only [hb,c135,hasP2_spec,EVS,Nat.reduceAdd,Nat.reduceSub,Int.reduceToNat,Nat.reduceMul,Nat.reduceEqDiff,Nat.reduceLeDiff,Int.reduceEq,Int.reduceLT,Int.reduceLE,↓reduceIte])<;>(try clear hb))
 ·first | rfl | rw [if_pos h]
 ·first | rfl | rw [if_neg h]
theorem trimP_spec (s:List UInt8):∀ h nx,lim T 87 [.str s,.str [114,46]] h nx=some (.str (strip s),h,nx):=by
 refine lim_iso tg87 rfl rfl rfl ?_
 simp (disch:=first|omega|(simp only[EVL]<;>omega)|(simp only[hget_c,Nat.reduceEqDiff,↓reduceIte];done)|assumption|(simp (disch:=omega) only[hg_ne,hg_eq,hgs_ne, *];done)|(simp only [TL];done)|with_unfolding_all rfl) only [c87,trimP2_spec,EVS,Nat.reduceAdd,Nat.reduceSub,Int.reduceToNat,Nat.reduceMul,Nat.reduceEqDiff,Nat.reduceLeDiff,Int.reduceEq,Int.reduceLT,Int.reduceLE,↓reduceIte]
 rfl
open Classical in
theorem varT_spec (s:List UInt8):∀ h nx,lim T 55 [.str s] h nx=some (.bool (decide (nameS (strip s))),h,nx):=by
 refine lim_iso tg55 rfl rfl rfl ?_
 simp (disch:=first|omega|(simp only[EVL]<;>omega)|(simp only[hget_c,Nat.reduceEqDiff,↓reduceIte];done)|assumption|(simp (disch:=omega) only[hg_ne,hg_eq,hgs_ne, *];done)|(simp only [TL];done)|with_unfolding_all rfl) only [c55,trimP_spec,nameB_spec,EVS,Nat.reduceAdd,Nat.reduceSub,Int.reduceToNat,Nat.reduceMul,Nat.reduceEqDiff,Nat.reduceLeDiff,Int.reduceEq,Int.reduceLT,Int.reduceLE,↓reduceIte]
def partsS (k:Int):Int:=if k < 3 then 0 else if k < 5 then 1 else if k < 19 then 2 else if k=19 then 3 else if k=20 then 2 else if k ≤ 24 then 1 else 0
def howS (k:Int):Int:=if k < 3 then 0 else if k < 16 then 1 else if k < 19 then 2 else if k=19 then 3 else if k=20 then 4 else if k=21 then 5 else if k < 24 then 6 else if k=24 then 7 else 0
def wordS (k:Nat):List UInt8:=match k with
 |3=>[110,111,116] | 4=>[110,101,103] | 5=>[97,100,100] | 6=>[115,117,98] | 7=>[109,117,108] | 8=>[97,110,100] | 9=>[111,114] | 10=>[120,111,114] | 11=>[115,104,108] | 12=>[115,104,114] | 13=>[115,97,114]
 |14=>[117,100,105,118] | 15=>[117,114,101,109] | 16=>[101,113] | 17=>[117,108,116] | 18=>[115,108,116] | 19=>[105,116,101] | 20=>[99,111,110,99,97,116] | 21=>[101,120,116,114,97,99,116]
 |22=>[122,101,120,116] | 23=>[115,101,120,116] | 24=>[108,111,97,100] | _=>[]
def sameO (a:Option FV) (b:FV):Bool:=match a with
 |some v=>eqv v b
 |none=>false
theorem sameO_eq {a:Option FV} {b:FV} (h:sameO a b=true):a=some b:=by
 cases a with
 |none=>cases h
 |some v=>rw [eqv_eq h]
theorem gl0_at:∀ n:Nat,n < 25→eqvs (List.take (n * 3 + 3 - n * 3) (List.drop (n * 3) gl0)) [.str (wordS n),.int .i64 (partsS n),.int .i64 (howS n)]=true:=by decide +kernel
theorem gl0_len:gl0.length=75:=by decide +kernel
theorem gl0_p:∀ n:Nat,n < 25→sameO (cellsAt gl0 none (n * 3 + 1)) (.int .i64 (partsS n))=true:=by decide +kernel
theorem shaped_spec (k:Int) (h0:0 ≤ k):∀ h nx,lim T 118 [.int .u8 k] h nx=some (.tup [if k ≤ 24 then .agg [.str (wordS k.toNat),.int .i64 (partsS k),.int .i64 (howS k)] else .agg [.str [],.int .i64 0,.int .i64 0],.bool (decide (0 < partsS k))],h,nx):=by
 refine lim_iso tg118 rfl rfl rfl ?_
 simp (disch:=first|omega|(simp only[EVL]<;>omega)|(simp only[hget_c,Nat.reduceEqDiff,↓reduceIte];done)|assumption|(simp (disch:=omega) only[hg_ne,hg_eq,hgs_ne, *];done)|(simp only [TL];done)|with_unfolding_all rfl) only [c118,EVS,Nat.reduceAdd,Nat.reduceSub,Int.reduceToNat,Nat.reduceMul,Nat.reduceEqDiff,Nat.reduceLeDiff,Int.reduceEq,Int.reduceLT,Int.reduceLE,↓reduceIte]
 repeat' (refine Ok_if (fun hb=>?_) (fun hb=>?_)<;>have h:=hb<;>(try simp only [decide_eq_true_eq,decide_eq_false_iff_not,Int.not_lt,Int.not_le] at h)<;>(simp (disch:=first|omega|(simp only[EVL]<;>omega)|(simp only[hget_c,Nat.reduceEqDiff,↓reduceIte];done)|assumption|(simp (disch:=omega) only[hg_ne,hg_eq,hgs_ne, *];done)|(simp only [TL];done)|with_unfolding_all rfl) only [hb,c118,EVS,Nat.reduceAdd,Nat.reduceSub,Int.reduceToNat,Nat.reduceMul,Nat.reduceEqDiff,Nat.reduceLeDiff,Int.reduceEq,Int.reduceLT,Int.reduceLE,↓reduceIte])<;>(try clear hb))
 ·rw [if_neg (by omega),show partsS k=0 by unfold partsS;repeat' split<;>omega];rfl
 ·have h1:=eqvs_eq (gl0_at k.toNat (by omega))
  have h2:=sameO_eq (gl0_p k.toNat (by omega))
  have h3:k.toNat * 3 + 3 ≤ gl0.length:=by rw [gl0_len];omega
  have e:((k.toNat:Nat):Int)=k:=by omega
  rw [e] at h1 h2
  simp (disch:=first|omega|(simp only[EVL]<;>omega)|(simp only[hget_c,Nat.reduceEqDiff,↓reduceIte];done)|assumption|(simp (disch:=omega) only[hg_ne,hg_eq,hgs_ne, *];done)|(simp only [TL];done)|with_unfolding_all rfl) only [c118,h1,h2,h3,EVS,Nat.reduceAdd,Nat.reduceSub,Int.reduceToNat,Nat.reduceMul,Nat.reduceEqDiff,Nat.reduceLeDiff,Int.reduceEq,Int.reduceLT,Int.reduceLE,↓reduceIte]
  rw [if_pos (by omega)]
theorem widths1_spec (t:Te) (w:Int):∀ h nx,lim T 154 [.agg [.int .u8 (t).k,.int .i64 (t).w,.int .u64 (t).b,.str (t).s,.int .i64 (t).lo,.lst (t).e ((t).l.map tV)],.eptr [.int .i64 w] 0] h nx=some (.bool (decide (t.w ≠ w)),h,nx):=by
 refine lim_iso tg154 rfl rfl (by simp [pures,pure_,pu_Ts]) ?_
 simp (disch:=first|omega|(simp only[EVL]<;>omega)|(simp only[hget_c,Nat.reduceEqDiff,↓reduceIte];done)|assumption|(simp (disch:=omega) only[hg_ne,hg_eq,hgs_ne, *];done)|(simp only [TL];done)|with_unfolding_all rfl) only [c154,TL,EVS,Nat.reduceAdd,Nat.reduceSub,Int.reduceToNat,Nat.reduceMul,Nat.reduceEqDiff,Nat.reduceLeDiff,Int.reduceEq,Int.reduceLT,Int.reduceLE,↓reduceIte]
 simp
theorem idxT_loop (e:Bool) (l:List Te) (w:Int) (hl:l.length ≤ 1000000):∀ (k i:Nat),i + k=l.length→(∀ j,j < i→(l.getD j default).w=w) →
  @Ok Out (runs T [.code b169_0,.inL (some 4) b169_0,.inB 0,.code k169_1] [(0,.lst e (l.map tV)),(1,.fn 154 [.eptr [.int .i64 w] 0]),(7,.int .i64 l.length),(8,.int .i64 i)] [] 4) ⟨fun x=>@Ok FV (resV c169.res x) ⟨fun v=>∃ r:Int,v=.int .i64 r∧(0 ≤ r ↔ ¬ ∀ j,j < l.length→(l.getD j default).w=w)⟩⟩:=by
 intro k
 induction k with
 |zero =>
  intro i hi hok
  have:¬ (i:Int) < l.length:=by omega
  simp (disch:=first|omega|(simp only[EVL]<;>omega)|(simp only[hget_c,Nat.reduceEqDiff,↓reduceIte];done)|assumption|(simp (disch:=omega) only[hg_ne,hg_eq,hgs_ne, *];done)|(simp only [TL];done)|with_unfolding_all rfl) only [unf b169_0.eq_1,unf k169_1.eq_1,c169,this,TL,EVS,Nat.reduceAdd,Nat.reduceSub,Int.reduceToNat,Nat.reduceMul,Nat.reduceEqDiff,Nat.reduceLeDiff,Int.reduceEq,Int.reduceLT,Int.reduceLE,↓reduceIte]
  exact ⟨_,rfl,⟨fun hh=>by omega,fun hh=>absurd (fun j hj=>hok j (by omega)) hh⟩⟩
 |succ k ih =>
  intro i hi hok
  have:(i:Int) < l.length:=by omega
  simp (disch:=first|omega|(simp only[EVL]<;>omega)|(simp only[hget_c,Nat.reduceEqDiff,↓reduceIte];done)|assumption|(simp (disch:=omega) only[hg_ne,hg_eq,hgs_ne, *];done)|(simp only [TL];done)|with_unfolding_all rfl) only [unf b169_0.eq_1,c169,this,TL,widths1_spec,EVS,Nat.reduceAdd,Nat.reduceSub,Int.reduceToNat,Nat.reduceMul,Nat.reduceEqDiff,Nat.reduceLeDiff,Int.reduceEq,Int.reduceLT,Int.reduceLE,↓reduceIte]
  repeat' (refine Ok_if (fun hb=>?_) (fun hb=>?_)<;>have h:=hb<;>(try simp only [decide_eq_true_eq,decide_eq_false_iff_not,Int.not_lt,Int.not_le] at h)<;>(simp (disch:=first|omega|(simp only[EVL]<;>omega)|(simp only[hget_c,Nat.reduceEqDiff,↓reduceIte];done)|assumption|(simp (disch:=omega) only[hg_ne,hg_eq,hgs_ne, *];done)|(simp only [TL];done)|with_unfolding_all rfl) only [hb,c169,TL,EVS,Nat.reduceAdd,Nat.reduceSub,Int.reduceToNat,Nat.reduceMul,Nat.reduceEqDiff,Nat.reduceLeDiff,Int.reduceEq,Int.reduceLT,Int.reduceLE,↓reduceIte])<;>(try clear hb))
  ·exact ⟨_,rfl,⟨fun _ hh=>h (hh i (by omega)),fun _=>by omega⟩⟩
  ·exact Ok_inL (by decide) (by simp [lowTm,low,lows,TL]) (by simp [cutH,lowHeap,lowObj,lows,low,TL]) (ih (i + 1) (by omega) (fun j hj=>by
    by_cases ej:j=i
    ·subst ej;omega
    ·exact hok j (by omega)))
theorem idxT_spec (e:Bool) (l:List Te) (w:Int) (hl:l.length ≤ 1000000):∃ r:Int,(0 ≤ r ↔ ¬ ∀ j,j < l.length→(l.getD j default).w=w)∧∀ h nx,lim T 169 [.lst e (l.map tV),.fn 154 [.eptr [.int .i64 w] 0]] h nx=some (.int .i64 r,h,nx):=by
 obtain ⟨v,⟨r,rfl,hr⟩,hh⟩:=lim_isoP (p:=fun v=>∃ r:Int,v=.int .i64 r∧(0 ≤ r ↔ ¬ ∀ j,j < l.length→(l.getD j default).w=w)) tg169 rfl (args:=[.lst e (l.map tV),.fn 154 [.eptr [.int .i64 w] 0]]) rfl (by simp [pures,pure_,pu_Ts]) (by
  simp (disch:=first|omega|(simp only[EVL]<;>omega)|(simp only[hget_c,Nat.reduceEqDiff,↓reduceIte];done)|assumption|(simp (disch:=omega) only[hg_ne,hg_eq,hgs_ne, *];done)|(simp only [TL];done)|with_unfolding_all rfl) only [c169,TL,EVS,Nat.reduceAdd,Nat.reduceSub,Int.reduceToNat,Nat.reduceMul,Nat.reduceEqDiff,Nat.reduceLeDiff,Int.reduceEq,Int.reduceLT,Int.reduceLE,↓reduceIte]
  exact idxT_loop e l w hl l.length 0 (by omega) (by omega))
 exact ⟨r,hr,hh⟩
def allW (l:List Te) (w:Int):Prop:=∀ j,j < l.length→(l.getD j default).w=w
open Classical in
theorem contT_spec (e:Bool) (l:List Te) (w:Int) (hl:l.length ≤ 1000000) (h:Heap) (nx:Nat):isfR T c153 [.lst e (l.map tV),.fn 154 [.eptr [.int .i64 w] 0]] h nx=some (.bool (decide (¬ allW l w)),h,nx):=by
 obtain ⟨r,hr,hh⟩:=idxT_spec e l w hl
 refine isfR_of rfl ?_
 simp (disch:=first|omega|(simp only[EVL]<;>omega)|(simp only[hget_c,Nat.reduceEqDiff,↓reduceIte];done)|assumption|(simp (disch:=omega) only[hg_ne,hg_eq,hgs_ne, *];done)|(simp only [TL];done)|with_unfolding_all rfl) only [c153,TL,hh,EVS,Nat.reduceAdd,Nat.reduceSub,Int.reduceToNat,Nat.reduceMul,Nat.reduceEqDiff,Nat.reduceLeDiff,Int.reduceEq,Int.reduceLT,Int.reduceLE,↓reduceIte]
 exact decide_eq_decide.2 hr
theorem contT_lim (a b:FV) (h:Heap) (nx:Nat):lim T 153 [a,b] h nx=@FI.B (List FV) (FV × Heap × Nat) (frzs h deep [a,b]) ⟨fun q=>isfR T c153 q h nx⟩:=lim_isf tg153 rfl rfl
def wideS (w:Int):Prop:=1 ≤ w∧w ≤ 64
instance (w:Int):Decidable (wideS w):=inferInstanceAs (Decidable (_∧_))
def subW (t:Te) (i:Nat):Int:=(t.l.getD i default).w
def widthsS (t:Te) (how:Int):Prop :=
 if how=1 then allW t.l t.w else if how=2 then t.w=1∧subW t 1=subW t 0 else if how=3 then subW t 0=1∧subW t 1=t.w∧subW t 2=t.w
 else if how=4 then wideS (subW t 0)∧wideS (subW t 1)∧subW t 0 + subW t 1=t.w
 else if how=5 then 0 ≤ t.lo∧wideS (subW t 0)∧t.w ≤ subW t 0∧t.lo ≤ subW t 0 - t.w
 else if how=6 then subW t 0 ≤ t.w else loadsS t.w
open Classical in
theorem widths_spec (t:Te) (k:Int) (hk:3 ≤ k∧k ≤ 24) (hp:t.l.length=partsS k) (hw:wideS t.w):∀ h nx,lim T 119 [.agg [.int .u8 (t).k,.int .i64 (t).w,.int .u64 (t).b,.str (t).s,.int .i64 (t).lo,.lst (t).e ((t).l.map tV)],.int .i64 (howS k)] h nx=some (.bool (decide (widthsS t (howS k))),h,nx):=by
 obtain ⟨w1,w2⟩:=id hw
 refine lim_iso tg119 rfl rfl (by simp [pures,pure_,pu_Ts]) ?_
 have hl1:1 ≤ t.l.length:=by unfold partsS at hp;(repeat' split at hp)<;>omega
 have cs:(howS k=1) ∨ (howS k=2∧2 ≤ t.l.length) ∨ (howS k=3∧3 ≤ t.l.length) ∨ (howS k=4∧2 ≤ t.l.length) ∨ howS k=5 ∨ howS k=6 ∨ howS k=7:=by
  unfold howS partsS at *
  (repeat' split)<;>(repeat' split at hp)<;>omega
 have hl2:t.l.length ≤ 1000000:=by unfold partsS at hp;(repeat' split at hp)<;>omega
 rcases cs with e | ⟨e,h2⟩ | ⟨e,h2⟩ | ⟨e,h2⟩ | e | e | e<;>rw [e]
 ·have hc:=contT_spec t.e t.l t.w hl2
  simp (disch:=first|omega|(simp only[EVL]<;>omega)|(simp only[hget_c,Nat.reduceEqDiff,↓reduceIte];done)|assumption|(simp (disch:=omega) only[hg_ne,hg_eq,hgs_ne, *];done)|(simp only [TL];done)|with_unfolding_all rfl) only [c119,TL,contT_lim,elemAt_r hg_eq,hc,EVS,Nat.reduceAdd,Nat.reduceSub,Int.reduceToNat,Nat.reduceMul,Nat.reduceEqDiff,Nat.reduceLeDiff,Int.reduceEq,Int.reduceLT,Int.reduceLE,↓reduceIte]
  simp [widthsS]
 ·simp (disch:=first|omega|(simp only[EVL]<;>omega)|(simp only[hget_c,Nat.reduceEqDiff,↓reduceIte];done)|assumption|(simp (disch:=omega) only[hg_ne,hg_eq,hgs_ne, *];done)|(simp only [TL];done)|with_unfolding_all rfl) only [c119,TL,EVS,Nat.reduceAdd,Nat.reduceSub,Int.reduceToNat,Nat.reduceMul,Nat.reduceEqDiff,Nat.reduceLeDiff,Int.reduceEq,Int.reduceLT,Int.reduceLE,↓reduceIte]
  repeat' (refine Ok_if (fun hb=>?_) (fun hb=>?_)<;>have h:=hb<;>(try simp only [decide_eq_true_eq,decide_eq_false_iff_not,Int.not_lt,Int.not_le] at h)<;>(simp (disch:=first|omega|(simp only[EVL]<;>omega)|(simp only[hget_c,Nat.reduceEqDiff,↓reduceIte];done)|assumption|(simp (disch:=omega) only[hg_ne,hg_eq,hgs_ne, *];done)|(simp only [TL];done)|with_unfolding_all rfl) only [hb,c119,TL,EVS,Nat.reduceAdd,Nat.reduceSub,Int.reduceToNat,Nat.reduceMul,Nat.reduceEqDiff,Nat.reduceLeDiff,Int.reduceEq,Int.reduceLT,Int.reduceLE,↓reduceIte])<;>(try clear hb))
  all_goals (simp only [widthsS,Int.reduceEq,↓reduceIte];unfold subW;(try unfold wideS);first | exact decide_eq_decide.2 (by omega) | exact (decide_eq_false (by omega)).symm)
 ·simp (disch:=first|omega|(simp only[EVL]<;>omega)|(simp only[hget_c,Nat.reduceEqDiff,↓reduceIte];done)|assumption|(simp (disch:=omega) only[hg_ne,hg_eq,hgs_ne, *];done)|(simp only [TL];done)|with_unfolding_all rfl) only [c119,TL,EVS,Nat.reduceAdd,Nat.reduceSub,Int.reduceToNat,Nat.reduceMul,Nat.reduceEqDiff,Nat.reduceLeDiff,Int.reduceEq,Int.reduceLT,Int.reduceLE,↓reduceIte]
  repeat' (refine Ok_if (fun hb=>?_) (fun hb=>?_)<;>have h:=hb<;>(try simp only [decide_eq_true_eq,decide_eq_false_iff_not,Int.not_lt,Int.not_le] at h)<;>(simp (disch:=first|omega|(simp only[EVL]<;>omega)|(simp only[hget_c,Nat.reduceEqDiff,↓reduceIte];done)|assumption|(simp (disch:=omega) only[hg_ne,hg_eq,hgs_ne, *];done)|(simp only [TL];done)|with_unfolding_all rfl) only [hb,c119,TL,EVS,Nat.reduceAdd,Nat.reduceSub,Int.reduceToNat,Nat.reduceMul,Nat.reduceEqDiff,Nat.reduceLeDiff,Int.reduceEq,Int.reduceLT,Int.reduceLE,↓reduceIte])<;>(try clear hb))
  all_goals (simp only [widthsS,Int.reduceEq,↓reduceIte];unfold subW;(try unfold wideS);first | exact decide_eq_decide.2 (by omega) | exact (decide_eq_false (by omega)).symm)
 ·simp (disch:=first|omega|(simp only[EVL]<;>omega)|(simp only[hget_c,Nat.reduceEqDiff,↓reduceIte];done)|assumption|(simp (disch:=omega) only[hg_ne,hg_eq,hgs_ne, *];done)|(simp only [TL];done)|with_unfolding_all rfl) only [c119,TL,wideT_spec,EVS,Nat.reduceAdd,Nat.reduceSub,Int.reduceToNat,Nat.reduceMul,Nat.reduceEqDiff,Nat.reduceLeDiff,Int.reduceEq,Int.reduceLT,Int.reduceLE,↓reduceIte]
  repeat' (refine Ok_if (fun hb=>?_) (fun hb=>?_)<;>have h:=hb<;>(try simp only [decide_eq_true_eq,decide_eq_false_iff_not,Int.not_lt,Int.not_le] at h)<;>(simp (disch:=first|omega|(simp only[EVL]<;>omega)|(simp only[hget_c,Nat.reduceEqDiff,↓reduceIte];done)|assumption|(simp (disch:=omega) only[hg_ne,hg_eq,hgs_ne, *];done)|(simp only [TL];done)|with_unfolding_all rfl) only [hb,c119,TL,wideT_spec,EVS,Nat.reduceAdd,Nat.reduceSub,Int.reduceToNat,Nat.reduceMul,Nat.reduceEqDiff,Nat.reduceLeDiff,Int.reduceEq,Int.reduceLT,Int.reduceLE,↓reduceIte])<;>(try clear hb))
  all_goals (simp only [widthsS,Int.reduceEq,↓reduceIte];unfold subW;(try unfold wideS);first | exact decide_eq_decide.2 (by omega) | exact (decide_eq_false (by omega)).symm)
 ·simp (disch:=first|omega|(simp only[EVL]<;>omega)|(simp only[hget_c,Nat.reduceEqDiff,↓reduceIte];done)|assumption|(simp (disch:=omega) only[hg_ne,hg_eq,hgs_ne, *];done)|(simp only [TL];done)|with_unfolding_all rfl) only [c119,TL,wideT_spec,EVS,Nat.reduceAdd,Nat.reduceSub,Int.reduceToNat,Nat.reduceMul,Nat.reduceEqDiff,Nat.reduceLeDiff,Int.reduceEq,Int.reduceLT,Int.reduceLE,↓reduceIte]
  repeat' (refine Ok_if (fun hb=>?_) (fun hb=>?_)<;>have h:=hb<;>(try simp only [decide_eq_true_eq,decide_eq_false_iff_not,Int.not_lt,Int.not_le] at h)<;>(simp (disch:=first|omega|(simp only[EVL]<;>omega)|(simp only[hget_c,Nat.reduceEqDiff,↓reduceIte];done)|assumption|(simp (disch:=omega) only[hg_ne,hg_eq,hgs_ne, *];done)|(simp only [TL];done)|with_unfolding_all rfl) only [hb,c119,TL,wideT_spec,EVS,Nat.reduceAdd,Nat.reduceSub,Int.reduceToNat,Nat.reduceMul,Nat.reduceEqDiff,Nat.reduceLeDiff,Int.reduceEq,Int.reduceLT,Int.reduceLE,↓reduceIte])<;>(try clear hb))
  all_goals (simp only [widthsS,Int.reduceEq,↓reduceIte];unfold subW;(try unfold wideS);first | exact decide_eq_decide.2 (by omega) | exact (decide_eq_false (by omega)).symm)
 ·simp (disch:=first|omega|(simp only[EVL]<;>omega)|(simp only[hget_c,Nat.reduceEqDiff,↓reduceIte];done)|assumption|(simp (disch:=omega) only[hg_ne,hg_eq,hgs_ne, *];done)|(simp only [TL];done)|with_unfolding_all rfl) only [c119,TL,EVS,Nat.reduceAdd,Nat.reduceSub,Int.reduceToNat,Nat.reduceMul,Nat.reduceEqDiff,Nat.reduceLeDiff,Int.reduceEq,Int.reduceLT,Int.reduceLE,↓reduceIte]
  simp [widthsS,subW]
 ·simp (disch:=first|omega|(simp only[EVL]<;>omega)|(simp only[hget_c,Nat.reduceEqDiff,↓reduceIte];done)|assumption|(simp (disch:=omega) only[hg_ne,hg_eq,hgs_ne, *];done)|(simp only [TL];done)|with_unfolding_all rfl) only [c119,TL,loadable_spec,EVS,Nat.reduceAdd,Nat.reduceSub,Int.reduceToNat,Nat.reduceMul,Nat.reduceEqDiff,Nat.reduceLeDiff,Int.reduceEq,Int.reduceLT,Int.reduceLE,↓reduceIte]
  simp [widthsS,subW]
def nodeS (t:Te):Prop:=wideS t.w∧(if 3 ≤ t.k∧t.k ≤ 24 then t.b=0∧t.s=[]∧(t.lo=0 ∨ howS t.k=5)∧t.l.length=partsS t.k∧widthsS t (howS t.k)
 else t.l.length=0∧t.lo=0∧((t.k=1∧t.s=[]∧okS t.w t.b) ∨ (t.k=2∧t.b=0∧nameS (strip t.s))))
theorem parts_pos (k:Int):0 < partsS k ↔ 3 ≤ k∧k ≤ 24:=by
 unfold partsS;(repeat' split)<;>omega
open Classical in
theorem node_spec (t:Te) (h0:0 ≤ t.k) (hl:t.l.length ≤ 1000000):∀ h nx,lim T 72 [.agg [.int .u8 (t).k,.int .i64 (t).w,.int .u64 (t).b,.str (t).s,.int .i64 (t).lo,.lst (t).e ((t).l.map tV)]] h nx=some (.bool (decide (nodeS t)),h,nx):=by
 have hsh:=shaped_spec t.k h0
 have hpp:=parts_pos t.k
 have hwd:wideS t.w ↔ 1 ≤ t.w∧t.w ≤ 64:=Iff.rfl
 by_cases hw:1 ≤ t.w∧t.w ≤ 64
 ·by_cases hk:3 ≤ t.k∧t.k ≤ 24
  ·rw [if_pos hk.2,decide_eq_true (hpp.2 hk)] at hsh
   refine lim_iso tg72 rfl rfl (by simp [pures,pure_,pu_Ts]) ?_
   by_cases hp:(t.l.length:Int)=partsS t.k
   ·have hwd:=widths_spec t t.k hk hp hw
    simp (disch:=first|omega|(simp only[EVL]<;>omega)|(simp only[hget_c,Nat.reduceEqDiff,↓reduceIte];done)|assumption|(simp (disch:=omega) only[hg_ne,hg_eq,hgs_ne, *];done)|(simp only [TL];done)|with_unfolding_all rfl) only [c72,TL,wideT_spec,hw,hsh,hwd,EVS,Nat.reduceAdd,Nat.reduceSub,Int.reduceToNat,Nat.reduceMul,Nat.reduceEqDiff,Nat.reduceLeDiff,Int.reduceEq,Int.reduceLT,Int.reduceLE,↓reduceIte]
    repeat' (refine Ok_if (fun hb=>?_) (fun hb=>?_)<;>have h:=hb<;>(try simp only [decide_eq_true_eq,decide_eq_false_iff_not,Int.not_lt,Int.not_le] at h)<;>(simp (disch:=first|omega|(simp only[EVL]<;>omega)|(simp only[hget_c,Nat.reduceEqDiff,↓reduceIte];done)|assumption|(simp (disch:=omega) only[hg_ne,hg_eq,hgs_ne, *];done)|(simp only [TL];done)|with_unfolding_all rfl) only [hb,c72,TL,hwd,EVS,Nat.reduceAdd,Nat.reduceSub,Int.reduceToNat,Nat.reduceMul,Nat.reduceEqDiff,Nat.reduceLeDiff,Int.reduceEq,Int.reduceLT,Int.reduceLE,↓reduceIte])<;>(try clear hb))
    all_goals (unfold nodeS;rw [if_pos hk])
    all_goals first | (simp_all;done) | (simp_all;omega)
   ·simp (disch:=first|omega|(simp only[EVL]<;>omega)|(simp only[hget_c,Nat.reduceEqDiff,↓reduceIte];done)|assumption|(simp (disch:=omega) only[hg_ne,hg_eq,hgs_ne, *];done)|(simp only [TL];done)|with_unfolding_all rfl) only [c72,TL,wideT_spec,hw,hsh,EVS,Nat.reduceAdd,Nat.reduceSub,Int.reduceToNat,Nat.reduceMul,Nat.reduceEqDiff,Nat.reduceLeDiff,Int.reduceEq,Int.reduceLT,Int.reduceLE,↓reduceIte]
    repeat' (refine Ok_if (fun hb=>?_) (fun hb=>?_)<;>have h:=hb<;>(try simp only [decide_eq_true_eq,decide_eq_false_iff_not,Int.not_lt,Int.not_le] at h)<;>(simp (disch:=first|omega|(simp only[EVL]<;>omega)|(simp only[hget_c,Nat.reduceEqDiff,↓reduceIte];done)|assumption|(simp (disch:=omega) only[hg_ne,hg_eq,hgs_ne, *];done)|(simp only [TL];done)|with_unfolding_all rfl) only [hb,c72,TL,hp,EVS,Nat.reduceAdd,Nat.reduceSub,Int.reduceToNat,Nat.reduceMul,Nat.reduceEqDiff,Nat.reduceLeDiff,Int.reduceEq,Int.reduceLT,Int.reduceLE,↓reduceIte])<;>(try clear hb))
    all_goals (unfold nodeS;rw [if_pos hk])
    all_goals first | (simp_all;done) | (simp_all;omega)
  ·have hpn:¬ 0 < partsS t.k:=fun hh=>hk (hpp.1 hh)
   rw [decide_eq_false hpn] at hsh
   refine lim_iso tg72 rfl rfl (by simp [pures,pure_,pu_Ts]) ?_
   have hif:∃ cs:FV,(if t.k ≤ 24 then FV.agg [.str (wordS t.k.toNat),.int .i64 (partsS t.k),.int .i64 (howS t.k)] else FV.agg [.str [],.int .i64 0,.int .i64 0])=cs∧∃ a b c,cs=.agg [.str a,.int .i64 b,.int .i64 c]:=by
    split<;>exact ⟨_,rfl,_,_,_,rfl⟩
   obtain ⟨cs,hcs,a,b,c,rfl⟩:=hif
   rw [hcs] at hsh
   simp (disch:=first|omega|(simp only[EVL]<;>omega)|(simp only[hget_c,Nat.reduceEqDiff,↓reduceIte];done)|assumption|(simp (disch:=omega) only[hg_ne,hg_eq,hgs_ne, *];done)|(simp only [TL];done)|with_unfolding_all rfl) only [c72,TL,wideT_spec,hw,hsh,EVS,Nat.reduceAdd,Nat.reduceSub,Int.reduceToNat,Nat.reduceMul,Nat.reduceEqDiff,Nat.reduceLeDiff,Int.reduceEq,Int.reduceLT,Int.reduceLE,↓reduceIte]
   repeat' (refine Ok_if (fun hb=>?_) (fun hb=>?_)<;>have h:=hb<;>(try simp only [decide_eq_true_eq,decide_eq_false_iff_not,Int.not_lt,Int.not_le] at h)<;>(simp (disch:=first|omega|(simp only[EVL]<;>omega)|(simp only[hget_c,Nat.reduceEqDiff,↓reduceIte];done)|assumption|(simp (disch:=omega) only[hg_ne,hg_eq,hgs_ne, *];done)|(simp only [TL];done)|with_unfolding_all rfl) only [hb,c72,TL,okB_spec,varT_spec,EVS,Nat.reduceAdd,Nat.reduceSub,Int.reduceToNat,Nat.reduceMul,Nat.reduceEqDiff,Nat.reduceLeDiff,Int.reduceEq,Int.reduceLT,Int.reduceLE,↓reduceIte])<;>(try clear hb))
   all_goals (unfold nodeS;rw [if_neg hk])
   all_goals first | (simp_all;done) | (simp_all;omega)
 ·refine lim_iso tg72 rfl rfl (by simp [pures,pure_,pu_Ts]) ?_
  simp (disch:=first|omega|(simp only[EVL]<;>omega)|(simp only[hget_c,Nat.reduceEqDiff,↓reduceIte];done)|assumption|(simp (disch:=omega) only[hg_ne,hg_eq,hgs_ne, *];done)|(simp only [TL];done)|with_unfolding_all rfl) only [c72,TL,wideT_spec,hw,EVS,Nat.reduceAdd,Nat.reduceSub,Int.reduceToNat,Nat.reduceMul,Nat.reduceEqDiff,Nat.reduceLeDiff,Int.reduceEq,Int.reduceLT,Int.reduceLE,↓reduceIte]
  exact (decide_eq_false fun hh=>hw hh.1).symm

abbrev vaP (b:Nat) (h0:Heap) (en:Env0) (h:Heap):Prop:=hget h (b + 8)=some (.lp 0 0)∧hget h (b + 1)=some (.row 1 [.nilm])∧hget h (b + 2)=some (.row 1 [.bool false])∧hget h (b + 4)=some (.row 1 [.map (b + 3)])∧hget h (b + 3)=some (.mp (en.map kvV))∧∀ i,i < b→hget h i=hget h0 i
abbrev vaQ (b:Nat) (h0:Heap) (_:Unit) (h:Heap):Prop:=hget h (b + 8)=some (.lp 2 1)∧hget h (b + 1)=some (.row 1 [.nilm])∧hget h (b + 2)=some (.row 1 [.bool false])∧∀ i,i < b→hget h i=hget h0 i
def VarR (b:Nat) (h0:Heap) (r:FV × Heap × Nat):Env0 ⊕ Unit→Prop
 |.inl en=>r.1=.tup [.map (b + 3),.bool true]∧hget r.2.1 (b + 3)=some (.mp (en.map kvV))∧b + 4 ≤ r.2.2∧∀ i,i < b→hget r.2.1 i=hget h0 i
 |.inr _=>r.1=.tup [.nilm,.bool false]∧b ≤ r.2.2∧∀ i,i < b→hget r.2.1 i=hget h0 i
theorem variables_spec (t:Te) (hl:size t ≤ 1000000) (h0:Heap) (b:Nat):∃ r,lim T 62 [.agg [.int .u8 (t).k,.int .i64 (t).w,.int .u64 (t).b,.str (t).s,.int .i64 (t).lo,.lst (t).e ((t).l.map tV)]] h0 b=some r∧VarR b h0 r (varsE t):=by
 rw [lim_shr tg62 rfl rfl]
 suffices hh:@Ok Out (runs T [.code c62.body] (params 0 [.agg [.int .u8 (t).k,.int .i64 (t).w,.int .u64 (t).b,.str (t).s,.int .i64 (t).lo,.lst (t).e ((t).l.map tV)]]) h0 b) ⟨fun x=>@Ok FV (finV c62.res x) ⟨fun v=>VarR b h0 (v,x.2.2.1,x.2.2.2) (varsE t)⟩⟩ by
  obtain ⟨x,h1,v,h2,h3⟩:=hh
  exact ⟨(v,x.2.2.1,x.2.2.2),by rw [h1,B_some,h2,B_some],h3⟩
 simp (disch:=first|omega|(simp only[EVL]<;>omega)|(simp only[hget_c,Nat.reduceEqDiff,↓reduceIte];done)|assumption|(simp (disch:=omega) only[hg_ne,hg_eq,hgs_ne, *];done)|(simp only [TL];done)|with_unfolding_all rfl) only [c62,nodes_spec,TL,Nat.add_assoc,EVS,Nat.reduceAdd,Nat.reduceSub,Int.reduceToNat,Nat.reduceMul,Nat.reduceEqDiff,Nat.reduceLeDiff,Int.reduceEq,Int.reduceLT,Int.reduceLE,↓reduceIte]
 refine Ok_call1 (walk_spec 1006200 (b + 8) (b + 9) [.ptr (b + 1) 1 0 0,.ptr (b + 2) 1 0 0,.ptr (b + 4) 1 0 0] varG (vaP b h0) (vaQ b h0) (fun a h h' hp hk=>⟨(hk _ (by omega)).trans hp.1,(hk _ (by omega)).trans hp.2.1,(hk _ (by omega)).trans hp.2.2.1,(hk _ (by omega)).trans hp.2.2.2.1,(hk _ (by omega)).trans hp.2.2.2.2.1,fun i hi=>(hk _ (by omega)).trans (hp.2.2.2.2.2 i hi)⟩) t hl ?_ [] _ _ (by omega) ⟨?_,?_,?_,?_,?_,?_⟩) fun r hr=>?_
 ·intro x hx en h nx hb hp
  obtain ⟨p1,p2,p3,p4,p5,p6⟩:=hp
  rw [lim_round tg1006200 rfl rfl p1]
  show @Ok _ _ ⟨fun r=>ResR _ _ _ _ _ r _⟩
  simp only [r1006200]
  by_cases hk:x.k=2
  ·cases hlk:lkE en x.s with
   |none =>
    have hg:varG en x=.inl (en ++ [(x.s,x.w)]):=by simp [varG,hk,hlk]
    have hf:=find_E x.s en
    have hu:=upd_N x.s x.w en hlk
    rw [hlk] at hf
    simp only [Option.map_none] at hf
    rw [hg]
    simp (disch:=first|omega|(simp only[EVL]<;>omega)|(simp only[hget_c,Nat.reduceEqDiff,↓reduceIte];done)|assumption|(simp (disch:=omega) only[hg_ne,hg_eq,hgs_ne, *];done)|(simp only [TL];done)|with_unfolding_all rfl) only [unf a62_1.eq_1,unf b62_0.eq_1,p1,p2,p3,p4,p5,hk,hgs_ne,hgs_eq p1,hf,hu,EVS,Nat.reduceAdd,Nat.reduceSub,Int.reduceToNat,Nat.reduceMul,Nat.reduceEqDiff,Nat.reduceLeDiff,Int.reduceEq,Int.reduceLT,Int.reduceLE,↓reduceIte]
    exact ⟨rfl,⟨by (simp (disch:=omega) only [hg_ne,hg_eq,hgs_ne,hgx_e,Option.map_some, *]),by (simp (disch:=omega) only [hg_ne,hg_eq,hgs_ne,hgx_e,Option.map_some, *]),by (simp (disch:=omega) only [hg_ne,hg_eq,hgs_ne,hgx_e,Option.map_some, *]),by (simp (disch:=omega) only [hg_ne,hg_eq,hgs_ne,hgx_e,Option.map_some, *]),by (simp (disch:=omega) only [hg_ne,hg_eq,hgs_ne,hgx_e,Option.map_some, *]),fun i hi=>by simp (disch:=omega) only [hg_ne,hgs_ne];exact p6 i hi⟩,by dsimp only;omega,fun i hi hl=>by simp (disch:=omega) only [hg_ne,hgs_ne]⟩
   |some w =>
    have hf:=find_E x.s en
    rw [hlk] at hf
    simp only [Option.map_some] at hf
    by_cases hw:w=x.w
    ·have hg:varG en x=.inl en:=by simp [varG,hk,hlk,hw]
     subst hw
     have hu:=upd_S x.s x.w en hlk
     rw [hg]
     simp (disch:=first|omega|(simp only[EVL]<;>omega)|(simp only[hget_c,Nat.reduceEqDiff,↓reduceIte];done)|assumption|(simp (disch:=omega) only[hg_ne,hg_eq,hgs_ne, *];done)|(simp only [TL];done)|with_unfolding_all rfl) only [unf a62_1.eq_1,unf b62_0.eq_1,p1,p2,p3,p4,p5,hk,hgs_ne,hgs_eq p1,hf,hu,EVS,Nat.reduceAdd,Nat.reduceSub,Int.reduceToNat,Nat.reduceMul,Nat.reduceEqDiff,Nat.reduceLeDiff,Int.reduceEq,Int.reduceLT,Int.reduceLE,↓reduceIte]
     exact ⟨rfl,⟨by (simp (disch:=omega) only [hg_ne,hg_eq,hgs_ne,hgx_e,Option.map_some, *]),by (simp (disch:=omega) only [hg_ne,hg_eq,hgs_ne,hgx_e,Option.map_some, *]),by (simp (disch:=omega) only [hg_ne,hg_eq,hgs_ne,hgx_e,Option.map_some, *]),by (simp (disch:=omega) only [hg_ne,hg_eq,hgs_ne,hgx_e,Option.map_some, *]),by (simp (disch:=omega) only [hg_ne,hg_eq,hgs_ne,hgx_e,Option.map_some, *]),fun i hi=>by simp (disch:=omega) only [hg_ne,hgs_ne];exact p6 i hi⟩,by dsimp only;omega,fun i hi hl=>by simp (disch:=omega) only [hg_ne,hgs_ne]⟩
    ·have hg:varG en x=.inr ():=by simp [varG,hk,hlk,hw]
     rw [hg]
     simp (disch:=first|omega|(simp only[EVL]<;>omega)|(simp only[hget_c,Nat.reduceEqDiff,↓reduceIte];done)|assumption|(simp (disch:=omega) only[hg_ne,hg_eq,hgs_ne, *];done)|(simp only [TL];done)|with_unfolding_all rfl) only [unf a62_1.eq_1,unf b62_0.eq_1,p1,p2,p3,p4,p5,hk,hgs_ne,hgs_eq p1,hf,hw,EVS,Nat.reduceAdd,Nat.reduceSub,Int.reduceToNat,Nat.reduceMul,Nat.reduceEqDiff,Nat.reduceLeDiff,Int.reduceEq,Int.reduceLT,Int.reduceLE,↓reduceIte]
     exact ⟨rfl,⟨by (simp (disch:=omega) only [hg_ne,hg_eq,hgs_ne,hgx_e,Option.map_some, *]),by (simp (disch:=omega) only [hg_ne,hg_eq,hgs_ne,hgx_e,Option.map_some, *]),by (simp (disch:=omega) only [hg_ne,hg_eq,hgs_ne,hgx_e,Option.map_some, *]),fun i hi=>by simp (disch:=omega) only [hg_ne,hgs_ne];exact p6 i hi⟩,by dsimp only;omega,fun i hi hl=>by simp (disch:=omega) only [hg_ne,hgs_ne]⟩
  ·have hg:varG en x=.inl en:=by simp [varG,hk]
   rw [hg]
   simp (disch:=first|omega|(simp only[EVL]<;>omega)|(simp only[hget_c,Nat.reduceEqDiff,↓reduceIte];done)|assumption|(simp (disch:=omega) only[hg_ne,hg_eq,hgs_ne, *];done)|(simp only [TL];done)|with_unfolding_all rfl) only [unf a62_1.eq_1,unf b62_0.eq_1,p1,p2,p3,p4,p5,hk,hgs_ne,hgs_eq p1,EVS,Nat.reduceAdd,Nat.reduceSub,Int.reduceToNat,Nat.reduceMul,Nat.reduceEqDiff,Nat.reduceLeDiff,Int.reduceEq,Int.reduceLT,Int.reduceLE,↓reduceIte]
   exact ⟨rfl,⟨by (simp (disch:=omega) only [hg_ne,hg_eq,hgs_ne,hgx_e,Option.map_some, *]),by (simp (disch:=omega) only [hg_ne,hg_eq,hgs_ne,hgx_e,Option.map_some, *]),by (simp (disch:=omega) only [hg_ne,hg_eq,hgs_ne,hgx_e,Option.map_some, *]),by (simp (disch:=omega) only [hg_ne,hg_eq,hgs_ne,hgx_e,Option.map_some, *]),by (simp (disch:=omega) only [hg_ne,hg_eq,hgs_ne,hgx_e,Option.map_some, *]),fun i hi=>by simp (disch:=omega) only [hg_ne,hgs_ne];exact p6 i hi⟩,by dsimp only;omega,fun i hi hl=>by simp (disch:=omega) only [hg_ne,hgs_ne]⟩
 ·(simp (disch:=omega) only [hg_ne,hg_eq,hgs_ne,hgx_e,Option.map_some, *])
 ·(simp (disch:=omega) only [hg_ne,hg_eq,hgs_ne,hgx_e,Option.map_some, *])
 ·(simp (disch:=omega) only [hg_ne,hg_eq,hgs_ne,hgx_e,Option.map_some, *])
 ·(simp (disch:=omega) only [hg_ne,hg_eq,hgs_ne,hgx_e,Option.map_some, *])
 ·simp (disch:=omega) only [hg_ne,hg_eq];rfl
 ·intro i hi;(simp (disch:=omega) only [hg_ne,hg_eq,hgs_ne,hgx_e,Option.map_some, *])
 ·obtain ⟨v,h',nx'⟩:=r
  unfold varsE
  cases hv:foldE varG [] (nodesT t) with
  |inl en =>
   rw [hv] at hr
   obtain ⟨rfl,⟨p1,p2,p3,p4,p5,p6⟩,hf⟩:=hr
   dsimp only at p1 p2 p3 p4 p5 p6
   refine ⟨rfl,?_⟩
   simp (disch:=first|omega|(simp only[EVL]<;>omega)|(simp only[hget_c,Nat.reduceEqDiff,↓reduceIte];done)|assumption|(simp (disch:=omega) only[hg_ne,hg_eq,hgs_ne, *];done)|(simp only [TL];done)|with_unfolding_all rfl) only [unf k62_2.eq_1,c62,p1,p2,p3,p4,p5,hgs_ne,hgx_e,Option.map_some,EVS,Nat.reduceAdd,Nat.reduceSub,Int.reduceToNat,Nat.reduceMul,Nat.reduceEqDiff,Nat.reduceLeDiff,Int.reduceEq,Int.reduceLT,Int.reduceLE,↓reduceIte]
   exact ⟨rfl,by (simp (disch:=omega) only [hg_ne,hg_eq,hgs_ne,hgx_e,Option.map_some, *]),by dsimp only;have:=hf.1;dsimp only at this;omega,fun i hi=>by simp (disch:=omega) only [hgs_ne];exact p6 i hi⟩
  |inr u =>
   rw [hv] at hr
   obtain ⟨rfl,⟨p1,p2,p3,p6⟩,hf⟩:=hr
   dsimp only at p1 p2 p3 p6
   refine ⟨rfl,?_⟩
   simp (disch:=first|omega|(simp only[EVL]<;>omega)|(simp only[hget_c,Nat.reduceEqDiff,↓reduceIte];done)|assumption|(simp (disch:=omega) only[hg_ne,hg_eq,hgs_ne, *];done)|(simp only [TL];done)|with_unfolding_all rfl) only [unf k62_2.eq_1,c62,p1,p2,p3,hgs_ne,EVS,Nat.reduceAdd,Nat.reduceSub,Int.reduceToNat,Nat.reduceMul,Nat.reduceEqDiff,Nat.reduceLeDiff,Int.reduceEq,Int.reduceLT,Int.reduceLE,↓reduceIte]
   exact ⟨rfl,by dsimp only;have:=hf.1;dsimp only at this;omega,fun i hi=>by simp (disch:=omega) only [hgs_ne];exact p6 i hi⟩
def nodesOk (t:Te):Prop:=∀ x ∈ nodesT t,nodeS x
open Classical in
noncomputable def checkS (t:Te):Int :=
 if 400 < size t ∨ 60 < depth t then 4 else if nodesOk t then match varsE t with
  |.inl _=>0
  |.inr _=>14
 else 8
def KOk (t:Te):Prop:=∀ x ∈ nodesT t,0 ≤ x.k
open Classical in
noncomputable def chkG (_:Unit) (x:Te):Unit ⊕ Unit:=if nodeS x then .inl () else .inr ()
theorem chkG_all:∀ xs:List Te,(∀ x ∈ xs,nodeS x)→foldE chkG () xs=.inl ():=by
 intro xs
 induction xs with
 |nil=>intro _;rfl
 |cons x xs ih =>
  intro h
  have:chkG () x=.inl ():=if_pos (h x (by simp))
  simp only [foldE,this]
  exact ih fun y hy=>h y (by simp [hy])
theorem chkG_not:∀ xs:List Te,¬ (∀ x ∈ xs,nodeS x)→foldE chkG () xs=.inr ():=by
 intro xs
 induction xs with
 |nil=>intro h;exact absurd (fun x hx=>by cases hx) h
 |cons x xs ih =>
  intro h
  by_cases hx:nodeS x
  ·have:chkG () x=.inl ():=if_pos hx
   simp only [foldE,this]
   refine ih fun hh=>h fun y hy=>?_
   rcases List.mem_cons.1 hy with rfl | hy
   ·exact hx
   ·exact hh y hy
  ·have:chkG () x=.inr ():=if_neg hx
   simp only [foldE,this]
abbrev ckP (t:Te) (_:Unit) (h:Heap):Prop:=hget h 12=some (.lp 0 0)∧hget h 1=some (.row 1 [.int .i64 0])∧hget h 0=some (.row 6 [.agg [.int .u8 (t).k,.int .i64 (t).w,.int .u64 (t).b,.str (t).s,.int .i64 (t).lo,.lst (t).e ((t).l.map tV)]])
abbrev ckQ (_:Unit) (h:Heap):Prop:=hget h 12=some (.lp 2 1)∧hget h 1=some (.row 1 [.int .i64 8])
theorem check_many {t:Te} (h:400 < size t ∨ 60 < depth t):4=checkS t:=(if_pos h).symm
theorem check_bad {t:Te} (h:¬ (400 < size t ∨ 60 < depth t)) (hn:¬ nodesOk t):8=checkS t:=by unfold checkS;rw [if_neg h,if_neg hn]
theorem check_in {t:Te} (h:¬ (400 < size t ∨ 60 < depth t)) (hn:nodesOk t):checkS t=match varsE t with | .inl _=>0 | .inr _=>14:=by unfold checkS;rw [if_neg h,if_pos hn]
theorem check_spec (t:Te) (hl:size t ≤ 1000000) (hk:KOk t) (h:Heap) (nx:Nat):isfR T c31 [.agg [.int .u8 (t).k,.int .i64 (t).w,.int .u64 (t).b,.str (t).s,.int .i64 (t).lo,.lst (t).e ((t).l.map tV)]] h nx=some (.int .i64 (checkS t),h,nx):=by
 refine isfR_of rfl ?_
 have hs:=size_spec t hl
 have hd:=depth_spec t hl
 simp (disch:=first|omega|(simp only[EVL]<;>omega)|(simp only[hget_c,Nat.reduceEqDiff,↓reduceIte];done)|assumption|(simp (disch:=omega) only[hg_ne,hg_eq,hgs_ne, *];done)|(simp only [TL];done)|with_unfolding_all rfl) only [c31,nodes_spec,TL,hs,hd,EVS,Nat.reduceAdd,Nat.reduceSub,Int.reduceToNat,Nat.reduceMul,Nat.reduceEqDiff,Nat.reduceLeDiff,Int.reduceEq,Int.reduceLT,Int.reduceLE,↓reduceIte]
 repeat' (refine Ok_if (fun hb=>?_) (fun hb=>?_)<;>have h:=hb<;>(try simp only [decide_eq_true_eq,decide_eq_false_iff_not,Int.not_lt,Int.not_le] at h)<;>(simp (disch:=first|omega|(simp only[EVL]<;>omega)|(simp only[hget_c,Nat.reduceEqDiff,↓reduceIte];done)|assumption|(simp (disch:=omega) only[hg_ne,hg_eq,hgs_ne, *];done)|(simp only [TL];done)|with_unfolding_all rfl) only [hb,c31,nodes_spec,TL,hs,hd,EVS,Nat.reduceAdd,Nat.reduceSub,Int.reduceToNat,Nat.reduceMul,Nat.reduceEqDiff,Nat.reduceLeDiff,Int.reduceEq,Int.reduceLT,Int.reduceLE,↓reduceIte])<;>(try clear hb))
 ·exact check_many (by omega)
 ·exact check_many (by omega)
 ·rename_i hs1 
  have hm:¬ (400 < size t ∨ 60 < depth t):=by omega
  refine Ok_call1 (walk_spec 1003100 12 13 [.ptr 1 1 0 0] chkG (ckP t) ckQ (fun a h h' hp hk=>⟨(hk _ (by omega)).trans hp.1,(hk _ (by omega)).trans hp.2.1,(hk _ (by omega)).trans hp.2.2⟩) t hl ?_ () _ _ (by omega) ⟨rfl,rfl,rfl⟩) fun r hr=>?_
  ·intro x hx u h nx hb hp
   obtain ⟨p1,p2,p3⟩:=hp
   have hn:=node_spec x (hk x hx) (Nat.le_trans (nodes_len hx) hl)
   rw [lim_round tg1003100 rfl rfl p1]
   show @Ok _ _ ⟨fun r=>ResR _ _ _ _ _ r _⟩
   simp only [r1003100]
   by_cases hx:nodeS x
   ·have hg:chkG u x=.inl ():=if_pos hx
    rw [hg]
    simp (disch:=first|omega|(simp only[EVL]<;>omega)|(simp only[hget_c,Nat.reduceEqDiff,↓reduceIte];done)|assumption|(simp (disch:=omega) only[hg_ne,hg_eq,hgs_ne, *];done)|(simp only [TL];done)|with_unfolding_all rfl) only [unf a31_1.eq_1,unf b31_0.eq_1,p1,p2,p3,hgs_ne,hgs_eq p1,hn,hx,EVS,Nat.reduceAdd,Nat.reduceSub,Int.reduceToNat,Nat.reduceMul,Nat.reduceEqDiff,Nat.reduceLeDiff,Int.reduceEq,Int.reduceLT,Int.reduceLE,↓reduceIte]
    exact ⟨rfl,⟨by (simp (disch:=omega) only [hg_ne,hg_eq,hgs_ne,hgx_e,Option.map_some, *]),by (simp (disch:=omega) only [hg_ne,hg_eq,hgs_ne,hgx_e,Option.map_some, *]),by (simp (disch:=omega) only [hg_ne,hg_eq,hgs_ne,hgx_e,Option.map_some, *])⟩,⟨by dsimp only;omega,fun i hi hl=>by simp (disch:=omega) only [hg_ne,hgs_ne]⟩⟩
   ·have hg:chkG u x=.inr ():=if_neg hx
    rw [hg]
    simp (disch:=first|omega|(simp only[EVL]<;>omega)|(simp only[hget_c,Nat.reduceEqDiff,↓reduceIte];done)|assumption|(simp (disch:=omega) only[hg_ne,hg_eq,hgs_ne, *];done)|(simp only [TL];done)|with_unfolding_all rfl) only [unf a31_1.eq_1,unf b31_0.eq_1,p1,p2,p3,hgs_ne,hgs_eq p1,hn,hx,EVS,Nat.reduceAdd,Nat.reduceSub,Int.reduceToNat,Nat.reduceMul,Nat.reduceEqDiff,Nat.reduceLeDiff,Int.reduceEq,Int.reduceLT,Int.reduceLE,↓reduceIte]
    exact ⟨rfl,⟨by (simp (disch:=omega) only [hg_ne,hg_eq,hgs_ne,hgx_e,Option.map_some, *]),by (simp (disch:=omega) only [hg_ne,hg_eq,hgs_ne,hgx_e,Option.map_some, *])⟩,⟨by dsimp only;omega,fun i hi hl=>by simp (disch:=omega) only [hg_ne,hgs_ne]⟩⟩
  ·obtain ⟨v,h',nx'⟩:=r
   by_cases hn:nodesOk t
   ·rw [chkG_all _ hn] at hr
    obtain ⟨rfl,⟨p1,p2,p3⟩,hf⟩:=hr
    dsimp only at p1 p2 p3
    have hf:=hf.1
    dsimp only at hf
    refine ⟨rfl,?_⟩
    rw [check_in hm hn]
    simp (disch:=first|omega|(simp only[EVL]<;>omega)|(simp only[hget_c,Nat.reduceEqDiff,↓reduceIte];done)|assumption|(simp (disch:=omega) only[hg_ne,hg_eq,hgs_ne, *];done)|(simp only [TL];done)|with_unfolding_all rfl) only [unf k31_2.eq_1,c31,p1,p2,p3,hgs_ne,EVS,Nat.reduceAdd,Nat.reduceSub,Int.reduceToNat,Nat.reduceMul,Nat.reduceEqDiff,Nat.reduceLeDiff,Int.reduceEq,Int.reduceLT,Int.reduceLE,↓reduceIte]
    refine Ok_call (variables_spec t hl _ _) fun r hr=>?_
    obtain ⟨v,h2,nx2⟩:=r
    cases hv:varsE t with
    |inl en =>
     rw [hv] at hr
     obtain ⟨rfl,q1,q2,q3⟩:=hr
     have q4:=(q3 1 (by omega)).trans (by (simp (disch:=omega) only [hg_ne,hg_eq,hgs_ne,hgx_e,Option.map_some, *]):_=some (Obj.row 1 [.int .i64 0]))
     dsimp only at q4
     refine ⟨rfl,?_⟩
     simp (disch:=first|omega|(simp only[EVL]<;>omega)|(simp only[hget_c,Nat.reduceEqDiff,↓reduceIte];done)|assumption|(simp (disch:=omega) only[hg_ne,hg_eq,hgs_ne, *];done)|(simp only [TL];done)|with_unfolding_all rfl) only [c31,q4,hgs_ne,hgx_e,Option.map_some,EVS,Nat.reduceAdd,Nat.reduceSub,Int.reduceToNat,Nat.reduceMul,Nat.reduceEqDiff,Nat.reduceLeDiff,Int.reduceEq,Int.reduceLT,Int.reduceLE,↓reduceIte]
    |inr u =>
     rw [hv] at hr
     obtain ⟨rfl,q2,q3⟩:=hr
     have q4:=(q3 1 (by omega)).trans (by (simp (disch:=omega) only [hg_ne,hg_eq,hgs_ne,hgx_e,Option.map_some, *]):_=some (Obj.row 1 [.int .i64 0]))
     dsimp only at q4
     refine ⟨rfl,?_⟩
     simp (disch:=first|omega|(simp only[EVL]<;>omega)|(simp only[hget_c,Nat.reduceEqDiff,↓reduceIte];done)|assumption|(simp (disch:=omega) only[hg_ne,hg_eq,hgs_ne, *];done)|(simp only [TL];done)|with_unfolding_all rfl) only [c31,q4,hgs_ne,hgx_e,Option.map_some,EVS,Nat.reduceAdd,Nat.reduceSub,Int.reduceToNat,Nat.reduceMul,Nat.reduceEqDiff,Nat.reduceLeDiff,Int.reduceEq,Int.reduceLT,Int.reduceLE,↓reduceIte]
   ·rw [chkG_not _ hn] at hr
    obtain ⟨rfl,⟨p1,p2⟩,hf⟩:=hr
    dsimp only at p1 p2
    refine ⟨rfl,?_⟩
    simp (disch:=first|omega|(simp only[EVL]<;>omega)|(simp only[hget_c,Nat.reduceEqDiff,↓reduceIte];done)|assumption|(simp (disch:=omega) only[hg_ne,hg_eq,hgs_ne, *];done)|(simp only [TL];done)|with_unfolding_all rfl) only [c31,p1,p2,hgs_ne,EVS,Nat.reduceAdd,Nat.reduceSub,Int.reduceToNat,Nat.reduceMul,Nat.reduceEqDiff,Nat.reduceLeDiff,Int.reduceEq,Int.reduceLT,Int.reduceLE,↓reduceIte]
    exact check_bad hm hn
theorem check_lim (a:FV) (h:Heap) (nx:Nat):lim T 31 [a] h nx=@FI.B (List FV) (FV × Heap × Nat) (frzs h deep [a]) ⟨fun q=>isfR T c31 q h nx⟩:=lim_isf tg31 rfl rfl
theorem check_pure (t:Te) (hl:size t ≤ 1000000) (hk:KOk t):∀ h nx,lim T 31 [.agg [.int .u8 (t).k,.int .i64 (t).w,.int .u64 (t).b,.str (t).s,.int .i64 (t).lo,.lst (t).e ((t).l.map tV)]] h nx=some (.int .i64 (checkS t),h,nx):=by
 intro h nx
 rw [check_lim,frzs_pure (by simp [pures,pure_,pu_Ts]) (show (1:Nat) ≤ deep by decide),B_some]
 exact check_spec t hl hk h nx

theorem nodesOk_iff (t:Te):nodesOk t ↔ nodeS t∧∀ x ∈ t.l,nodesOk x:=all_nodes
theorem allW1 {l:List Te} {w:Int} (h:l.length=1):allW l w ↔ (l.getD 0 default).w=w :=
 ⟨fun hh=>hh 0 (by omega),fun hh j hj=>by rw [show j=0 by omega];exact hh⟩
theorem allW2 {l:List Te} {w:Int} (h:l.length=2):allW l w ↔ (l.getD 0 default).w=w∧(l.getD 1 default).w=w :=
 ⟨fun hh=>⟨hh 0 (by omega),hh 1 (by omega)⟩,fun hh j hj=>by
  rcases (by omega:j=0 ∨ j=1) with rfl | rfl
  ·exact hh.1
  ·exact hh.2⟩
theorem node_k34 {t:Te} (h:t.k=3 ∨ t.k=4):nodeS t ↔ wideS t.w∧t.b=0∧t.s=[]∧t.lo=0∧t.l.length=1∧subW t 0=t.w:=by
 have e1:howS t.k=1:=by unfold howS;(repeat' split)<;>omega
 have e2:partsS t.k=1:=by unfold partsS;(repeat' split)<;>omega
 have e3:((t.l.length:Int)=1) ↔ t.l.length=1:=by omega
 unfold nodeS
 rw [if_pos (by omega),e1,e2,e3]
 simp only [widthsS,Int.reduceEq,↓reduceIte,or_false,or_true,true_and]
 exact ⟨fun ⟨a,b,c,d,e,f⟩=>⟨a,b,c,d,e,(allW1 e).1 f⟩,fun ⟨a,b,c,d,e,f⟩=>⟨a,b,c,d,e,(allW1 e).2 f⟩⟩
theorem node_k5 {t:Te} (h:5 ≤ t.k∧t.k ≤ 15):nodeS t ↔ wideS t.w∧t.b=0∧t.s=[]∧t.lo=0∧t.l.length=2∧subW t 0=t.w∧subW t 1=t.w:=by
 have e1:howS t.k=1:=by unfold howS;(repeat' split)<;>omega
 have e2:partsS t.k=2:=by unfold partsS;(repeat' split)<;>omega
 have e3:((t.l.length:Int)=2) ↔ t.l.length=2:=by omega
 unfold nodeS
 rw [if_pos (by omega),e1,e2,e3]
 simp only [widthsS,Int.reduceEq,↓reduceIte,or_false,or_true,true_and]
 exact ⟨fun ⟨a,b,c,d,e,f⟩=>⟨a,b,c,d,e,(allW2 e).1 f⟩,fun ⟨a,b,c,d,e,f⟩=>⟨a,b,c,d,e,(allW2 e).2 f⟩⟩
theorem node_k16 {t:Te} (h:16 ≤ t.k∧t.k ≤ 18):nodeS t ↔ wideS t.w∧t.b=0∧t.s=[]∧t.lo=0∧t.l.length=2∧t.w=1∧subW t 1=subW t 0:=by
 have e1:howS t.k=2:=by unfold howS;(repeat' split)<;>omega
 have e2:partsS t.k=2:=by unfold partsS;(repeat' split)<;>omega
 have e3:((t.l.length:Int)=2) ↔ t.l.length=2:=by omega
 unfold nodeS
 rw [if_pos (by omega),e1,e2,e3]
 simp only [widthsS,Int.reduceEq,↓reduceIte,or_false,or_true,true_and]
theorem node_k19 {t:Te} (h:t.k=19):nodeS t ↔ wideS t.w∧t.b=0∧t.s=[]∧t.lo=0∧t.l.length=3∧subW t 0=1∧subW t 1=t.w∧subW t 2=t.w:=by
 have e1:howS t.k=3:=by unfold howS;(repeat' split)<;>omega
 have e2:partsS t.k=3:=by unfold partsS;(repeat' split)<;>omega
 have e3:((t.l.length:Int)=3) ↔ t.l.length=3:=by omega
 unfold nodeS
 rw [if_pos (by omega),e1,e2,e3]
 simp only [widthsS,Int.reduceEq,↓reduceIte,or_false,or_true,true_and]
theorem node_k20 {t:Te} (h:t.k=20):nodeS t ↔ wideS t.w∧t.b=0∧t.s=[]∧t.lo=0∧t.l.length=2∧wideS (subW t 0)∧wideS (subW t 1)∧subW t 0 + subW t 1=t.w:=by
 have e1:howS t.k=4:=by unfold howS;(repeat' split)<;>omega
 have e2:partsS t.k=2:=by unfold partsS;(repeat' split)<;>omega
 have e3:((t.l.length:Int)=2) ↔ t.l.length=2:=by omega
 unfold nodeS
 rw [if_pos (by omega),e1,e2,e3]
 simp only [widthsS,Int.reduceEq,↓reduceIte,or_false,or_true,true_and]
theorem node_k21 {t:Te} (h:t.k=21):nodeS t ↔ wideS t.w∧t.b=0∧t.s=[]∧True∧t.l.length=1∧0 ≤ t.lo∧wideS (subW t 0)∧t.w ≤ subW t 0∧t.lo ≤ subW t 0 - t.w:=by
 have e1:howS t.k=5:=by unfold howS;(repeat' split)<;>omega
 have e2:partsS t.k=1:=by unfold partsS;(repeat' split)<;>omega
 have e3:((t.l.length:Int)=1) ↔ t.l.length=1:=by omega
 unfold nodeS
 rw [if_pos (by omega),e1,e2,e3]
 simp only [widthsS,Int.reduceEq,↓reduceIte,or_false,or_true,true_and]
theorem node_k22 {t:Te} (h:t.k=22 ∨ t.k=23):nodeS t ↔ wideS t.w∧t.b=0∧t.s=[]∧t.lo=0∧t.l.length=1∧subW t 0 ≤ t.w:=by
 have e1:howS t.k=6:=by unfold howS;(repeat' split)<;>omega
 have e2:partsS t.k=1:=by unfold partsS;(repeat' split)<;>omega
 have e3:((t.l.length:Int)=1) ↔ t.l.length=1:=by omega
 unfold nodeS
 rw [if_pos (by omega),e1,e2,e3]
 simp only [widthsS,Int.reduceEq,↓reduceIte,or_false,or_true,true_and]
theorem node_k24 {t:Te} (h:t.k=24):nodeS t ↔ wideS t.w∧t.b=0∧t.s=[]∧t.lo=0∧t.l.length=1∧loadsS t.w:=by
 have e1:howS t.k=7:=by unfold howS;(repeat' split)<;>omega
 have e2:partsS t.k=1:=by unfold partsS;(repeat' split)<;>omega
 have e3:((t.l.length:Int)=1) ↔ t.l.length=1:=by omega
 unfold nodeS
 rw [if_pos (by omega),e1,e2,e3]
 simp only [widthsS,Int.reduceEq,↓reduceIte,or_false,or_true,true_and]
theorem node_k1 {t:Te} (h:t.k=1):nodeS t ↔ wideS t.w∧t.l.length=0∧t.lo=0∧t.s=[]∧okS t.w t.b:=by
 unfold nodeS
 rw [if_neg (by omega)]
 simp only [h,Int.reduceEq,true_and,false_and,or_false]
theorem node_k2 {t:Te} (h:t.k=2):nodeS t ↔ wideS t.w∧t.l.length=0∧t.lo=0∧t.b=0∧nameS (strip t.s):=by
 unfold nodeS
 rw [if_neg (by omega)]
 simp only [h,Int.reduceEq,true_and,false_and,false_or]
theorem node_no {t:Te} (h:t.k < 1 ∨ 24 < t.k):¬ nodeS t:=by
 unfold nodeS
 rw [if_neg (by omega)]
 rintro ⟨_,_,_,⟨h1,_⟩ | ⟨h1,_⟩⟩<;>omega

theorem same_lim (a b:FV) (h:Heap) (nx:Nat):lim T 28 [a,b] h nx=@FI.B (List FV) (FV × Heap × Nat) (frzs h deep [a,b]) ⟨fun q=>isfR T c28 q h nx⟩:=lim_isf tg28 rfl rfl
theorem same_pure' {a b:Te} {r:Bool} (hs:∀ h nx,isfR T c28 [.agg [.int .u8 (a).k,.int .i64 (a).w,.int .u64 (a).b,.str (a).s,.int .i64 (a).lo,.lst (a).e ((a).l.map tV)],.agg [.int .u8 (b).k,.int .i64 (b).w,.int .u64 (b).b,.str (b).s,.int .i64 (b).lo,.lst (b).e ((b).l.map tV)]] h nx=some (.bool r,h,nx)):∀ h nx,lim T 28 [.agg [.int .u8 (a).k,.int .i64 (a).w,.int .u64 (a).b,.str (a).s,.int .i64 (a).lo,.lst (a).e ((a).l.map tV)],.agg [.int .u8 (b).k,.int .i64 (b).w,.int .u64 (b).b,.str (b).s,.int .i64 (b).lo,.lst (b).e ((b).l.map tV)]] h nx=some (.bool r,h,nx):=by
 intro h nx
 rw [same_lim,frzs_pure (by simp [pures,pure_,pu_Ts]) (show (2:Nat) ≤ deep by decide),B_some]
 exact hs h nx
theorem same_loop (a b:Te) (hl:a.l.length=b.l.length) (hb:a.l.length ≤ 1000000) (ih:∀ x ∈ a.l,∀ y ∈ b.l,∀ h nx,lim T 28 [.agg [.int .u8 (x).k,.int .i64 (x).w,.int .u64 (x).b,.str (x).s,.int .i64 (x).lo,.lst (x).e ((x).l.map tV)],.agg [.int .u8 (y).k,.int .i64 (y).w,.int .u64 (y).b,.str (y).s,.int .i64 (y).lo,.lst (y).e ((y).l.map tV)]] h nx=some (.bool (sameT x y),h,nx)):∀ (k i:Nat),i + k=a.l.length →
  @Ok Out (runs T [.code b28_0,.inL (some 46) b28_0,.inB 0,.code k28_1] [(2,.ptr 0 1 0 0),(3,.ptr 1 1 0 0),(5,.int .i64 i)] [(1,.row 6 [.agg [.int .u8 (b).k,.int .i64 (b).w,.int .u64 (b).b,.str (b).s,.int .i64 (b).lo,.lst (b).e ((b).l.map tV)]]),(0,.row 6 [.agg [.int .u8 (a).k,.int .i64 (a).w,.int .u64 (a).b,.str (a).s,.int .i64 (a).lo,.lst (a).e ((a).l.map tV)]])] 46) ⟨fun x=>finV c28.res x=some (.bool (sameL (a.l.drop i) (b.l.drop i)))⟩:=by
 intro k
 induction k with
 |zero =>
  intro i hi
  have:¬ (i:Int) < a.l.length:=by omega
  simp (disch:=first|omega|(simp only[EVL]<;>omega)|(simp only[hget_c,Nat.reduceEqDiff,↓reduceIte];done)|assumption|(simp (disch:=omega) only[hg_ne,hg_eq,hgs_ne, *];done)|(simp only [LAWSb];done)|with_unfolding_all rfl) only [unf b28_0.eq_1,unf k28_1.eq_1,c28,this,LAWSb,EVS,Nat.reduceAdd,Nat.reduceSub,Int.reduceToNat,Nat.reduceMul,Nat.reduceEqDiff,Nat.reduceLeDiff,Int.reduceEq,Int.reduceLT,Int.reduceLE,↓reduceIte]
  rw [List.drop_eq_nil_of_le (by omega),List.drop_eq_nil_of_le (by omega)];rfl
 |succ k ihk =>
  intro i hi
  have:(i:Int) < a.l.length:=by omega
  have hx:=ih _ (getD_mem (d:=default) (show i < a.l.length by omega)) _ (getD_mem (d:=default) (show i < b.l.length by omega))
  rw [sameL_drop (by omega) (by omega)]
  cases hs:sameT (a.l.getD i default) (b.l.getD i default) with
  |true =>
   rw [hs] at hx
   simp (disch:=first|omega|(simp only[EVL]<;>omega)|(simp only[hget_c,Nat.reduceEqDiff,↓reduceIte];done)|assumption|(simp (disch:=omega) only[hg_ne,hg_eq,hgs_ne, *];done)|(simp only [LAWSb];done)|with_unfolding_all rfl) only [unf b28_0.eq_1,c28,this,LAWSb,hx,EVS,Nat.reduceAdd,Nat.reduceSub,Int.reduceToNat,Nat.reduceMul,Nat.reduceEqDiff,Nat.reduceLeDiff,Int.reduceEq,Int.reduceLT,Int.reduceLE,↓reduceIte]
   rw [Bool.true_and]
   exact Ok_inL (by decide) (by simp [lowTm,low,lows,LAWSb]) (by simp [cutH,lowHeap,lowObj,lows,low,LAWSb]) (ihk (i + 1) (by omega))
  |false =>
   rw [hs] at hx
   simp (disch:=first|omega|(simp only[EVL]<;>omega)|(simp only[hget_c,Nat.reduceEqDiff,↓reduceIte];done)|assumption|(simp (disch:=omega) only[hg_ne,hg_eq,hgs_ne, *];done)|(simp only [LAWSb];done)|with_unfolding_all rfl) only [unf b28_0.eq_1,c28,this,LAWSb,hx,EVS,Nat.reduceAdd,Nat.reduceSub,Int.reduceToNat,Nat.reduceMul,Nat.reduceEqDiff,Nat.reduceLeDiff,Int.reduceEq,Int.reduceLT,Int.reduceLE,↓reduceIte]
   rfl
theorem same_spec (a:Te):∀ (b:Te),size a ≤ 1000000→size b ≤ 1000000→∀ h nx,isfR T c28 [.agg [.int .u8 (a).k,.int .i64 (a).w,.int .u64 (a).b,.str (a).s,.int .i64 (a).lo,.lst (a).e ((a).l.map tV)],.agg [.int .u8 (b).k,.int .i64 (b).w,.int .u64 (b).b,.str (b).s,.int .i64 (b).lo,.lst (b).e ((b).l.map tV)]] h nx=some (.bool (sameT a b),h,nx):=by
 induction a using Tm'.ind with
 |h a ih =>
 intro b ha hb h nx
 refine isfR_of rfl ?_
 have hsa:=sizes_len a.l
 have hsb:=sizes_len b.l
 have hse:=size_eq a
 have hsf:=size_eq b
 rw [sameT_eq]
 simp (disch:=first|omega|(simp only[EVL]<;>omega)|(simp only[hget_c,Nat.reduceEqDiff,↓reduceIte];done)|assumption|(simp (disch:=omega) only[hg_ne,hg_eq,hgs_ne, *];done)|(simp only [LAWSb];done)|with_unfolding_all rfl) only [c28,LAWSb,EVS,Nat.reduceAdd,Nat.reduceSub,Int.reduceToNat,Nat.reduceMul,Nat.reduceEqDiff,Nat.reduceLeDiff,Int.reduceEq,Int.reduceLT,Int.reduceLE,↓reduceIte]
 repeat' (refine Ok_if (fun hb=>?_) (fun hb=>?_)<;>have h:=hb<;>(try simp only [decide_eq_true_eq,decide_eq_false_iff_not,Int.not_lt,Int.not_le] at h)<;>(simp (disch:=first|omega|(simp only[EVL]<;>omega)|(simp only[hget_c,Nat.reduceEqDiff,↓reduceIte];done)|assumption|(simp (disch:=omega) only[hg_ne,hg_eq,hgs_ne, *];done)|(simp only [LAWSb];done)|with_unfolding_all rfl) only [hb,c28,LAWSb,EVS,Nat.reduceAdd,Nat.reduceSub,Int.reduceToNat,Nat.reduceMul,Nat.reduceEqDiff,Nat.reduceLeDiff,Int.reduceEq,Int.reduceLT,Int.reduceLE,↓reduceIte])<;>(try clear hb))
 ·have hl:=same_loop a b (by omega) (by omega) (fun x hx y hy=>same_pure' (ih x hx y (by have:=size_mem hx;omega) (by have:=size_mem hy;omega))) a.l.length 0 (by omega)
  rw [List.drop_zero,List.drop_zero] at hl
  rename_i e1 e2 e3 e4 e5
  rw [decide_eq_true e1,decide_eq_true e2,decide_eq_true e3,e4,decide_eq_true e5]
  exact hl
 ·have:sameL a.l b.l=false:=by
   cases hh:sameL a.l b.l with
   |false=>rfl
   |true=>have:=sameL_len hh;omega
  simp [this]
 ·simp [h]
 ·simp [h]
 ·simp [h]
 ·simp [h]
 ·simp [h]

def TwR (h:Heap) (nx:Nat) (t:Te) (r:FV × Heap × Nat):Prop:=RpT r.2.1 nx r.2.2 r.1 t∧Ext h r.2.1 nx r.2.2
theorem twin_loop (t:Te) (hl:t.l.length ≤ 1000000) (h0:Heap) (b:Nat) (ih:∀ x ∈ t.l,∀ h nx,∃ r,lim T 64 [.agg [.int .u8 (x).k,.int .i64 (x).w,.int .u64 (x).b,.str (x).s,.int .i64 (x).lo,.lst (x).e ((x).l.map tV)]] h nx=some r∧TwR h nx x r):∀ (k i:Nat) (xs:List FV) (h:Heap) (nx:Nat),i + k=t.l.length→b + 3 ≤ nx→(∀ j,j < b→hget h j=hget h0 j)→hget h b=some (.row 6 [.agg [.int .u8 (t).k,.int .i64 (t).w,.int .u64 (t).b,.str (t).s,.int .i64 (t).lo,.lst (t).e ((t).l.map tV)]])→(∃ z0 z1 z2 z3 z4 z5,hget h (b + 1)=some (.row 6 [.agg [z0,z1,z2,z3,z4,z5]]))→hget h (b + 2)=some (.row 6 xs)→RpL h (b + 3) nx xs (t.l.take i) →
  @Ok Out (runs T [.code b64_0,.inL none b64_0,.inB 0,.code k64_1] [(1,.ptr b 1 0 0),(2,.ptr (b + 1) 1 0 0),(3,.sref 6 (b + 2) i 0 i),(7,.lst t.e (t.l.map tV)),(8,.int .i64 t.l.length),(9,.int .i64 i)] h nx)
   ⟨fun x=>@Ok FV (finV c64.res x) ⟨fun v=>TwR h0 b t (v,x.2.2.1,x.2.2.2)⟩⟩:=by
 intro k
 induction k with
 |zero =>
  intro i xs h nx hi hb hx q0 q1 q2 hr
  obtain ⟨z0,z1,z2,z3,z4,z5,q1⟩:=q1
  have:¬ (i:Int) < t.l.length:=by omega
  have hil:i=t.l.length:=by omega
  rw [List.take_of_length_le (by omega)] at hr
  simp (disch:=first|omega|(simp only[EVL]<;>omega)|(simp only[hget_c,Nat.reduceEqDiff,↓reduceIte];done)|assumption|(simp (disch:=omega) only[hg_ne,hg_eq,hgs_ne, *];done)|(simp only [LAWSb];done)|with_unfolding_all rfl) only [unf b64_0.eq_1,unf k64_1.eq_1,c64,this,LAWSb,q0,q1,hgs_ne,hgx_e,Option.map_some,EVS,Nat.reduceAdd,Nat.reduceSub,Int.reduceToNat,Nat.reduceMul,Nat.reduceEqDiff,Nat.reduceLeDiff,Int.reduceEq,Int.reduceLT,Int.reduceLE,↓reduceIte]
  subst hil
  refine ⟨RpT_iff.2 ⟨_,rfl,.inr ⟨b + 2,xs,rfl,by omega,by dsimp only;omega,by (simp (disch:=omega) only [hg_ne,hg_eq,hgs_ne,hgx_e,Option.map_some, *]),hr.mono (by omega) (by dsimp only;omega) (fun j hj1 hj2=>by simp (disch:=omega) only [hgs_ne])⟩⟩,by dsimp only;omega,fun j hj=>by simp (disch:=omega) only [hgs_ne];exact hx j hj⟩
 |succ k ihk =>
  intro i xs h nx hi hb hx q0 q1 q2 hr
  have:(i:Int) < t.l.length:=by omega
  have hlen:=hr.length
  rw [List.length_take] at hlen
  simp (disch:=first|omega|(simp only[EVL]<;>omega)|(simp only[hget_c,Nat.reduceEqDiff,↓reduceIte];done)|assumption|(simp (disch:=omega) only[hg_ne,hg_eq,hgs_ne, *];done)|(simp only [LAWSb];done)|with_unfolding_all rfl) only [unf b64_0.eq_1,c64,this,LAWSb,EVS,Nat.reduceAdd,Nat.reduceSub,Int.reduceToNat,Nat.reduceMul,Nat.reduceEqDiff,Nat.reduceLeDiff,Int.reduceEq,Int.reduceLT,Int.reduceLE,↓reduceIte]
  refine Ok_call (ih _ (getD_mem (d:=default) (show i < t.l.length by omega)) _ _) fun r hr'=>?_
  obtain ⟨v,h',nx'⟩:=r
  obtain ⟨hv,hx1,hx2⟩:=hr'
  dsimp only at hv hx1 hx2
  obtain ⟨c,rfl,hc⟩:=RpT_iff.1 hv
  refine ⟨rfl,?_⟩
  have g2:hget h' (b + 2)=some (.row 6 xs):=by rw [hx2 _ (by omega),hg_ne (by omega)];exact q2
  have cok:c.one=true∧c.cells.length=1:=by
   rcases hc with ⟨e,rfl,_⟩ | ⟨id,xs,rfl,_⟩<;>exact ⟨rfl,rfl⟩
  simp (disch:=first|omega|(simp only[EVL]<;>omega)|(simp only[hget_c,Nat.reduceEqDiff,↓reduceIte];done)|assumption|(simp (disch:=omega) only[hg_ne,hg_eq,hgs_ne, *];done)|(simp only [LAWSb];done)|with_unfolding_all rfl) only [c64,LAWSb,g2,cok.1,EVS,Nat.reduceAdd,Nat.reduceSub,Int.reduceToNat,Nat.reduceMul,Nat.reduceEqDiff,Nat.reduceLeDiff,Int.reduceEq,Int.reduceLT,Int.reduceLE,↓reduceIte]
  obtain ⟨z0,z1,z2,z3,z4,z5,q1⟩:=q1
  refine Ok_inL0 (ihk (i + 1) (xs ++ [.agg [.int .u8 (t.l.getD i default).k,.int .i64 (t.l.getD i default).w,.int .u64 (t.l.getD i default).b,.str (t.l.getD i default).s,.int .i64 (t.l.getD i default).lo,c]]) _ _ (by omega) (by omega) (fun j hj=>?_) ?_ ⟨z0,z1,z2,z3,z4,z5,?_⟩ ?_ ?_)
  ·rw [hg_ne (by omega),hgs_ne (by omega),hx2 _ (by omega),hg_ne (by omega)];exact hx j hj
  ·rw [hg_ne (by omega),hgs_ne (by omega),hx2 _ (by omega),hg_ne (by omega)];exact q0
  ·rw [hg_ne (by omega),hgs_ne (by omega),hx2 _ (by omega),hg_ne (by omega)];exact q1
  ·rw [hg_ne (by omega)];exact hgs_eq g2
  ·rw [take_succ (by omega)]
   refine RpL.app (ys:=[_]) (m:=[_]) ⟨hv.mono (by omega) (by omega) (fun j hj1 hj2=>by rw [hg_ne (by omega),hgs_ne (by omega)]),trivial⟩ (hr.mono (by omega) (by omega) (fun j hj1 hj2=>by rw [hg_ne (by omega),hgs_ne (by omega),hx2 _ (by omega),hg_ne (by omega)]))
theorem twin_spec (t:Te) (hl:size t ≤ 1000000):∀ h nx,∃ r,lim T 64 [.agg [.int .u8 (t).k,.int .i64 (t).w,.int .u64 (t).b,.str (t).s,.int .i64 (t).lo,.lst (t).e ((t).l.map tV)]] h nx=some r∧TwR h nx t r:=by
 induction t using Tm'.ind with
 |h t ih =>
 have hsz:=sizes_len t.l
 have hse:=size_eq t
 intro h nx
 rw [lim_shr tg64 rfl rfl]
 suffices hh:@Ok Out (runs T [.code c64.body] (params 0 [.agg [.int .u8 (t).k,.int .i64 (t).w,.int .u64 (t).b,.str (t).s,.int .i64 (t).lo,.lst (t).e ((t).l.map tV)]]) h nx) ⟨fun x=>@Ok FV (finV c64.res x) ⟨fun v=>TwR h nx t (v,x.2.2.1,x.2.2.2)⟩⟩ by
  obtain ⟨x,h1,v,h2,h3⟩:=hh
  exact ⟨(v,x.2.2.1,x.2.2.2),by rw [h1,B_some,h2,B_some],h3⟩
 simp (disch:=first|omega|(simp only[EVL]<;>omega)|(simp only[hget_c,Nat.reduceEqDiff,↓reduceIte];done)|assumption|(simp (disch:=omega) only[hg_ne,hg_eq,hgs_ne, *];done)|(simp only [LAWSb];done)|with_unfolding_all rfl) only [c64,LAWSb,EVS,Nat.reduceAdd,Nat.reduceSub,Int.reduceToNat,Nat.reduceMul,Nat.reduceEqDiff,Nat.reduceLeDiff,Int.reduceEq,Int.reduceLT,Int.reduceLE,↓reduceIte]
 exact twin_loop t (by omega) h nx (fun x hx=>ih x hx (by have:=size_mem hx;omega)) t.l.length 0 [] _ _ (by omega) (by omega) (fun j hj=>by rw [hg_ne (by omega),hg_ne (by omega),hg_ne (by omega)]) (by rw [hg_ne (by omega),hg_ne (by omega)];exact hg_eq) ⟨_,_,_,_,_,_,by rw [hg_ne (by omega)];exact hg_eq⟩ hg_eq (by rw [List.take_zero];trivial)

abbrev RepS (n:List UInt8) (u x:Te):Prop:=∀ h nx,lim T 65 [.agg [.int .u8 (x).k,.int .i64 (x).w,.int .u64 (x).b,.str (x).s,.int .i64 (x).lo,.lst (x).e ((x).l.map tV)],.str n,.agg [.int .u8 (u).k,.int .i64 (u).w,.int .u64 (u).b,.str (u).s,.int .i64 (u).lo,.lst (u).e ((u).l.map tV)]] h nx=some (.agg [.int .u8 (putT n u x).k,.int .i64 (putT n u x).w,.int .u64 (putT n u x).b,.str (putT n u x).s,.int .i64 (putT n u x).lo,.lst (putT n u x).e ((putT n u x).l.map tV)],h,nx)
theorem lows_app' (b:Nat) (x y:List FV):lows b (x ++ y)=(lows b x && lows b y):=by
 induction x with
 |nil=>simp [lows]
 |cons v x ih=>simp [lows,ih,Bool.and_assoc]
theorem lo_tm (b:Nat) (l:List Te) (f:Te→Te) (i:Nat):lows b (((l.map f).take i).map tV)=true:=lo_Ts b _
theorem map_getD {α:Type} [Inhabited α] (f:α→Te) {l:List α} {i:Nat} (h:i < l.length):(l.map f).getD i default=f (l.getD i default):=by simp [List.getD,h]
theorem replaced_loop (n:List UInt8) (u t:Te) (hm:¬ (t.k=2∧t.s=n)) (hl:t.l.length ≤ 1000000) (ih:∀ x ∈ t.l,RepS n u x):∀ (k i:Nat),i + k=t.l.length →
  @Ok Out (runs T [.code b65_0,.inL (some 17) b65_0,.inB 0,.code k65_1] [(1,.str n),(3,.ptr 0 1 0 0),(5,.ptr 1 1 0 0),(6,.ptr 2 1 0 0),(7,.sref 6 12 i 0 i),(21,.lst t.e (t.l.map tV)),(22,.int .i64 t.l.length),(23,.int .i64 i)]
   [(12,.row 6 (((t.l.map (putT n u)).take i).map tV)),(2,.row 6 [.agg [.int .u8 0,.int .i64 0,.int .u64 0,.str [],.int .i64 0,.lst true []]]),(1,.row 6 [.agg [.int .u8 (u).k,.int .i64 (u).w,.int .u64 (u).b,.str (u).s,.int .i64 (u).lo,.lst (u).e ((u).l.map tV)]]),(0,.row 6 [.agg [.int .u8 (t).k,.int .i64 (t).w,.int .u64 (t).b,.str (t).s,.int .i64 (t).lo,.lst (t).e ((t).l.map tV)]])] 17) ⟨fun x=>resV c65.res x=some (.agg [.int .u8 (putT n u t).k,.int .i64 (putT n u t).w,.int .u64 (putT n u t).b,.str (putT n u t).s,.int .i64 (putT n u t).lo,.lst (putT n u t).e ((putT n u t).l.map tV)])⟩:=by
 intro k
 induction k with
 |zero =>
  intro i hi
  have:¬ (i:Int) < t.l.length:=by omega
  have hil:i=t.l.length:=by omega
  subst hil
  have hlen:(((t.l.map (putT n u)).take t.l.length).map tV).length=t.l.length:=by simp
  simp (disch:=first|omega|(simp only[EVL]<;>omega)|(simp only[hget_c,Nat.reduceEqDiff,↓reduceIte];done)|assumption|(simp (disch:=omega) only[hg_ne,hg_eq,hgs_ne, *];done)|(simp only [LAWSb];done)|with_unfolding_all rfl) only [unf b65_0.eq_1,unf k65_1.eq_1,c65,this,LAWSb,hlen,EVS,Nat.reduceAdd,Nat.reduceSub,Int.reduceToNat,Nat.reduceMul,Nat.reduceEqDiff,Nat.reduceLeDiff,Int.reduceEq,Int.reduceLT,Int.reduceLE,↓reduceIte]
  rw [putT_eq,if_neg hm]
  simp only [Tm'.k,Tm'.w,Tm'.b,Tm'.s,Tm'.lo,Tm'.e,Tm'.l]
 |succ k ihk =>
  intro i hi
  have:(i:Int) < t.l.length:=by omega
  have hx:=ih _ (getD_mem (d:=default) (show i < t.l.length by omega))
  have hlen:(((t.l.map (putT n u)).take i).map tV).length=i:=by simp;omega
  simp (disch:=first|omega|(simp only[EVL]<;>omega)|(simp only[hget_c,Nat.reduceEqDiff,↓reduceIte];done)|assumption|(simp (disch:=omega) only[hg_ne,hg_eq,hgs_ne, *];done)|(simp only [LAWSb];done)|with_unfolding_all rfl) only [unf b65_0.eq_1,c65,this,LAWSb,hx,hlen,EVS,Nat.reduceAdd,Nat.reduceSub,Int.reduceToNat,Nat.reduceMul,Nat.reduceEqDiff,Nat.reduceLeDiff,Int.reduceEq,Int.reduceLT,Int.reduceLE,↓reduceIte]
  have hq:=ihk (i + 1) (by omega)
  rw [take_succ (by simp;omega),map_getD _ (by omega),List.map_append,List.map_cons,List.map_nil,tV_eq] at hq
  exact Ok_inL (by decide) (by simp [lowTm,low,lows,LAWSb]) (by simp [cutH,lowHeap,lowObj,lows,low,lows_app',LAWSb,lo_tm,-List.map_map,-List.map_take]) hq
theorem replaced_spec (n:List UInt8) (u t:Te) (hl:size t ≤ 1000000):RepS n u t:=by
 induction t using Tm'.ind with
 |h t ih =>
 have hsz:=sizes_len t.l
 have hse:=size_eq t
 refine lim_iso tg65 rfl rfl (by simp [pures,pure_,pu_Ts]) ?_
 by_cases hk:t.k=2
 ·by_cases hn:t.s=n
  ·have hn':(t.s == n)=true:=by simp [hn]
   rw [putT_eq,if_pos ⟨hk,hn⟩]
   simp (disch:=first|omega|(simp only[EVL]<;>omega)|(simp only[hget_c,Nat.reduceEqDiff,↓reduceIte];done)|assumption|(simp (disch:=omega) only[hg_ne,hg_eq,hgs_ne, *];done)|(simp only [LAWSb];done)|with_unfolding_all rfl) only [c65,LAWSb,hk,hn',EVS,Nat.reduceAdd,Nat.reduceSub,Int.reduceToNat,Nat.reduceMul,Nat.reduceEqDiff,Nat.reduceLeDiff,Int.reduceEq,Int.reduceLT,Int.reduceLE,↓reduceIte]
  ·have hn':(t.s == n)=false:=by simp [hn]
   have lp:=replaced_loop n u t (fun h=>hn h.2) (by omega) (fun x hx=>ih x hx (by have:=size_mem hx;omega)) t.l.length 0 (by omega)
   rw [List.take_zero] at lp
   rw [hk] at lp
   simp (disch:=first|omega|(simp only[EVL]<;>omega)|(simp only[hget_c,Nat.reduceEqDiff,↓reduceIte];done)|assumption|(simp (disch:=omega) only[hg_ne,hg_eq,hgs_ne, *];done)|(simp only [LAWSb];done)|with_unfolding_all rfl) only [c65,LAWSb,hk,hn',EVS,Nat.reduceAdd,Nat.reduceSub,Int.reduceToNat,Nat.reduceMul,Nat.reduceEqDiff,Nat.reduceLeDiff,Int.reduceEq,Int.reduceLT,Int.reduceLE,↓reduceIte]
   exact lp
 ·have lp:=replaced_loop n u t (fun h=>hk h.1) (by omega) (fun x hx=>ih x hx (by have:=size_mem hx;omega)) t.l.length 0 (by omega)
  rw [List.take_zero] at lp
  simp (disch:=first|omega|(simp only[EVL]<;>omega)|(simp only[hget_c,Nat.reduceEqDiff,↓reduceIte];done)|assumption|(simp (disch:=omega) only[hg_ne,hg_eq,hgs_ne, *];done)|(simp only [LAWSb];done)|with_unfolding_all rfl) only [c65,LAWSb,hk,EVS,Nat.reduceAdd,Nat.reduceSub,Int.reduceToNat,Nat.reduceMul,Nat.reduceEqDiff,Nat.reduceLeDiff,Int.reduceEq,Int.reduceLT,Int.reduceLE,↓reduceIte]
  exact lp
abbrev grP (n:List UInt8) (m a:Int) (h:Heap):Prop:=hget h 8=some (.lp 0 0)∧hget h 1=some (.row 1 [.str n])∧hget h 2=some (.row 1 [.int .i64 m])∧hget h 4=some (.row 1 [.int .i64 (IntKind.i64.wrap a)])
theorem grown_spec (t:Te) (n:List UInt8) (m:Nat) (hm:1 ≤ m) (hm':m ≤ 1000000) (hl:size t ≤ 1000000):∀ h nx,lim T 63 [.agg [.int .u8 (t).k,.int .i64 (t).w,.int .u64 (t).b,.str (t).s,.int .i64 (t).lo,.lst (t).e ((t).l.map tV)],.str n,.int .i64 m] h nx=some (.int .i64 ((size t + occ n (nodesT t) * (m - 1):Nat):Int),h,nx):=by
 refine lim_iso tg63 rfl rfl (by simp [pures,pure_,pu_Ts]) ?_
 simp (disch:=first|omega|(simp only[EVL]<;>omega)|(simp only[hget_c,Nat.reduceEqDiff,↓reduceIte];done)|assumption|(simp (disch:=omega) only[hg_ne,hg_eq,hgs_ne, *];done)|(simp only [LAWSb];done)|with_unfolding_all rfl) only [c63,nodes_spec,LAWSb,EVS,Nat.reduceAdd,Nat.reduceSub,Int.reduceToNat,Nat.reduceMul,Nat.reduceEqDiff,Nat.reduceLeDiff,Int.reduceEq,Int.reduceLT,Int.reduceLE,↓reduceIte]
 have hocc:=occ_le n (nodesT t)
 rw [nodesT_len] at hocc
 refine Ok_call1 (walk_spec 1006300 8 9 [.ptr 1 1 0 0,.ptr 2 1 0 0,.ptr 4 1 0 0] (grG n m) (grP n m) (fun (_:Empty) _=>True) (fun a h h' hp hk=>⟨(hk _ (by omega)).trans hp.1,(hk _ (by omega)).trans hp.2.1,(hk _ (by omega)).trans hp.2.2.1,(hk _ (by omega)).trans hp.2.2.2⟩) t hl ?_ 0 _ _ (by omega) ⟨rfl,rfl,rfl,rfl⟩) fun r hr=>?_
 ·intro x hx a h nx hb hp
  obtain ⟨p1,p2,p3,p4⟩:=hp
  rw [lim_round tg1006300 rfl rfl p1]
  show @Ok _ _ ⟨fun r=>ResR _ _ _ _ _ r _⟩
  simp only [r1006300]
  by_cases hk:x.k=2
  ·by_cases hn:x.s=n
   ·have hn':(x.s == n)=true:=by simp [hn]
    have hg:grG n m a x=.inl (a + ((m - 1) + 1)):=by simp [grG,hk,hn]
    rw [hg]
    have hw:∀ a:Int,IntKind.i64.wrap (IntKind.i64.wrap (IntKind.i64.wrap a + ((m:Int) - 1)) + 1)=IntKind.i64.wrap (a + (((m:Int) - 1) + 1)):=fun a=>by
     rw [wrap_add,Int.add_assoc,wrap_add]
    simp (disch:=first|omega|(simp only[EVL]<;>omega)|(simp only[hget_c,Nat.reduceEqDiff,↓reduceIte];done)|assumption|(simp (disch:=omega) only[hg_ne,hg_eq,hgs_ne, *];done)|(simp only [LAWSb];done)|with_unfolding_all rfl) only [unf a63_1.eq_1,unf b63_0.eq_1,p1,p2,p3,p4,hgs_ne,hgs_eq p1,hgx_e,Option.map_some,hk,hn',EVS,Nat.reduceAdd,Nat.reduceSub,Int.reduceToNat,Nat.reduceMul,Nat.reduceEqDiff,Nat.reduceLeDiff,Int.reduceEq,Int.reduceLT,Int.reduceLE,↓reduceIte]
    exact ⟨rfl,⟨by (simp (disch:=omega) only [hg_ne,hg_eq,hgs_ne,hgx_e,Option.map_some, *]),by (simp (disch:=omega) only [hg_ne,hg_eq,hgs_ne,hgx_e,Option.map_some, *]),by (simp (disch:=omega) only [hg_ne,hg_eq,hgs_ne,hgx_e,Option.map_some, *]),by simp (disch:=omega) only [hg_ne,hg_eq,hgs_ne,hgx_e,Option.map_some,p4,hw]⟩,⟨by dsimp only;omega,fun i hi hl=>by simp (disch:=omega) only [hg_ne,hgs_ne]⟩⟩
   ·have hn':(x.s == n)=false:=by simp [hn]
    have hg:grG n m a x=.inl (a + (0 + 1)):=by simp [grG,hn]
    rw [hg]
    simp (disch:=first|omega|(simp only[EVL]<;>omega)|(simp only[hget_c,Nat.reduceEqDiff,↓reduceIte];done)|assumption|(simp (disch:=omega) only[hg_ne,hg_eq,hgs_ne, *];done)|(simp only [LAWSb];done)|with_unfolding_all rfl) only [unf a63_1.eq_1,unf b63_0.eq_1,p1,p2,p3,p4,hgs_ne,hgs_eq p1,hgx_e,Option.map_some,hk,hn',wrap_add,EVS,Nat.reduceAdd,Nat.reduceSub,Int.reduceToNat,Nat.reduceMul,Nat.reduceEqDiff,Nat.reduceLeDiff,Int.reduceEq,Int.reduceLT,Int.reduceLE,↓reduceIte]
    exact ⟨rfl,⟨by (simp (disch:=omega) only [hg_ne,hg_eq,hgs_ne,hgx_e,Option.map_some, *]),by (simp (disch:=omega) only [hg_ne,hg_eq,hgs_ne,hgx_e,Option.map_some, *]),by (simp (disch:=omega) only [hg_ne,hg_eq,hgs_ne,hgx_e,Option.map_some, *]),by simp (disch:=omega) only [hg_ne,hg_eq,hgs_ne,hgx_e,Option.map_some,p4,Int.zero_add]⟩,⟨by dsimp only;omega,fun i hi hl=>by simp (disch:=omega) only [hg_ne,hgs_ne]⟩⟩
  ·have hg:grG n m a x=.inl (a + (0 + 1)):=by simp [grG,hk]
   rw [hg]
   simp (disch:=first|omega|(simp only[EVL]<;>omega)|(simp only[hget_c,Nat.reduceEqDiff,↓reduceIte];done)|assumption|(simp (disch:=omega) only[hg_ne,hg_eq,hgs_ne, *];done)|(simp only [LAWSb];done)|with_unfolding_all rfl) only [unf a63_1.eq_1,unf b63_0.eq_1,p1,p2,p3,p4,hgs_ne,hgs_eq p1,hgx_e,Option.map_some,hk,wrap_add,EVS,Nat.reduceAdd,Nat.reduceSub,Int.reduceToNat,Nat.reduceMul,Nat.reduceEqDiff,Nat.reduceLeDiff,Int.reduceEq,Int.reduceLT,Int.reduceLE,↓reduceIte]
   exact ⟨rfl,⟨by (simp (disch:=omega) only [hg_ne,hg_eq,hgs_ne,hgx_e,Option.map_some, *]),by (simp (disch:=omega) only [hg_ne,hg_eq,hgs_ne,hgx_e,Option.map_some, *]),by (simp (disch:=omega) only [hg_ne,hg_eq,hgs_ne,hgx_e,Option.map_some, *]),by simp (disch:=omega) only [hg_ne,hg_eq,hgs_ne,hgx_e,Option.map_some,p4,Int.zero_add]⟩,⟨by dsimp only;omega,fun i hi hl=>by simp (disch:=omega) only [hg_ne,hgs_ne]⟩⟩
 ·rw [grG_run,nodesT_len] at hr
  obtain ⟨v,h',nx'⟩:=r
  obtain ⟨rfl,⟨p1,p2,p3,p4⟩,hf⟩:=hr
  dsimp only at p1 p2 p3 p4
  refine ⟨rfl,?_⟩
  have hmul:occ n (nodesT t) * (m - 1) ≤ 1000000 * 1000000:=Nat.mul_le_mul (by omega) (by omega)
  have e:(0:Int) + ((size t:Int) + (occ n (nodesT t):Int) * ((m:Int) - 1))=((size t + occ n (nodesT t) * (m - 1):Nat):Int):=by
   rw [Int.zero_add,Int.natCast_add,Int.natCast_mul,Int.natCast_sub hm];rfl
  rw [e,wrap64 (by omega) (by omega)] at p4
  simp (disch:=first|omega|(simp only[EVL]<;>omega)|(simp only[hget_c,Nat.reduceEqDiff,↓reduceIte];done)|assumption|(simp (disch:=omega) only[hg_ne,hg_eq,hgs_ne, *];done)|(simp only [LAWSb];done)|with_unfolding_all rfl) only [unf k63_2.eq_1,c63,p1,p4,hgs_ne,EVS,Nat.reduceAdd,Nat.reduceSub,Int.reduceToNat,Nat.reduceMul,Nat.reduceEqDiff,Nat.reduceLeDiff,Int.reduceEq,Int.reduceLT,Int.reduceLE,↓reduceIte]
theorem frz_tm {h:Heap} {a b:Nat} {v:FV} {t:Te} (hv:RpT h a b v t) (hs:size t ≤ 1000000):∃ t',er t'=er t∧frzs h deep [v]=some [.agg [.int .u8 (t').k,.int .i64 (t').w,.int .u64 (t').b,.str (t').s,.int .i64 (t').lo,.lst (t').e ((t').l.map tV)]]:=by
 obtain ⟨t',e,hf⟩:=hv.frz (n:=deep - 1) (by unfold deep;omega)
 refine ⟨t',e,?_⟩
 rw [tV_eq] at hf
 exact frzs_c' (n:=deep - 1) hf rfl
theorem nodeS_er (x:Te):nodeS (er x) ↔ nodeS x:=by
 have hl:(x.l.map er).length=x.l.length:=List.length_map _
 have hg:∀ i,((x.l.map er).getD i default).w=(x.l.getD i default).w:=fun i=>by
  rcases Nat.lt_or_ge i x.l.length with h | h
  ·rw [map_getD er h,er_w]
  ·simp [List.getD,h]
 have hw:∀ w,allW (x.l.map er) w ↔ allW x.l w:=fun w=>by unfold allW;rw [hl];simp only [hg]
 unfold nodeS widthsS subW
 rw [er_w,er_k,er_b,er_s,er_lo,er_l,hl]
 rw [hg 0,hg 1,hg 2,hw]
theorem nodesOk_er (t:Te):nodesOk (er t) ↔ nodesOk t:=by
 unfold nodesOk
 rw [nodes_er]
 constructor
 ·intro h x hx;exact (nodeS_er x).1 (h _ (List.mem_map_of_mem hx))
 ·intro h x hx
  obtain ⟨y,hy,rfl⟩:=List.mem_map.1 hx
  exact (nodeS_er y).2 (h y hy)
theorem checkS_er (t:Te):checkS (er t)=checkS t:=by
 unfold checkS
 rw [size_er,depth_er,varsE_er]
 by_cases h:nodesOk t
 ·rw [if_pos ((nodesOk_er t).2 h),if_pos h]
 ·rw [if_neg (fun hh=>h ((nodesOk_er t).1 hh)),if_neg h]
theorem checkS_of_er {a b:Te} (h:er a=er b):checkS a=checkS b:=by rw [← checkS_er a,h,checkS_er]
theorem KOk_er {t:Te} (h:KOk t):KOk (er t):=fun x hx=>by
 rw [nodes_er] at hx
 obtain ⟨y,hy,rfl⟩:=List.mem_map.1 hx
 rw [er_k];exact h y hy
theorem KOk_of_er {a b:Te} (e:er a=er b) (h:KOk a):KOk b:=fun x hx=>by
 have h1:er x ∈ nodesT (er b):=by rw [nodes_er];exact List.mem_map_of_mem hx
 have:=KOk_er h (er x) (by rw [e];exact h1)
 rwa [er_k] at this
theorem KOk_iff (t:Te):KOk t ↔ 0 ≤ t.k∧∀ x ∈ t.l,KOk x:=all_nodes
theorem KOk_put (n:List UInt8) {u:Te} (hu:KOk u) (t:Te) (ht:KOk t):KOk (putT n u t):=by
 induction t using Tm'.ind with | h t ih =>
 rw [putT_eq]
 split
 ·exact hu
 ·rw [KOk_iff]
  refine ⟨((KOk_iff t).1 ht).1,fun x hx=>?_⟩
  obtain ⟨y,hy,rfl⟩:=List.mem_map.1 hx
  exact ih y hy (((KOk_iff t).1 ht).2 y hy)
theorem TwR.frz {h:Heap} {nx:Nat} {t:Te} {r:FV × Heap × Nat} (hr:TwR h nx t r) (hs:size t ≤ 1000000):∃ t',er t'=er t∧frzs r.2.1 deep [r.1]=some [.agg [.int .u8 (t').k,.int .i64 (t').w,.int .u64 (t').b,.str (t').s,.int .i64 (t').lo,.lst (t').e ((t').l.map tV)]]:=frz_tm hr.1 hs
open Classical in
noncomputable def substE (t u:Te) (n:List UInt8):Int :=
 if checkS t ≠ 0 then checkS t else if checkS u ≠ 0 then checkS u else if ∃ w,(n,w) ∈ varList t∧w ≠ u.w then 14 else if 400 < size t + occ n (nodesT t) * (size u - 1) then 4 else checkS (putT n u t)
def zT:Te:=.mk 0 0 0 [] 0 true []
noncomputable def substT (t u:Te) (n:List UInt8):Te:=if substE t u n=0 then putT n u t else zT

def SuR (h:Heap) (nx:Nat) (t u:Te) (n:List UInt8) (r:FV × Heap × Nat):Prop:=∃ v,r.1=.tup [v,.int .i64 (substE t u n)]∧(substE t u n=0→RpT r.2.1 nx r.2.2 v (putT n u t))∧(substE t u n ≠ 0→v=.agg [.int .u8 0,.int .i64 0,.int .u64 0,.str [],.int .i64 0,.lst true []])∧Ext h r.2.1 nx r.2.2
theorem check_zero {t:Te} (h:checkS t=0):size t ≤ 400∧depth t ≤ 60∧nodesOk t∧∃ en,varsE t=.inl en:=by
 by_cases hm:400 < size t ∨ 60 < depth t
 ·rw [← check_many hm] at h;cases h
 ·by_cases hn:nodesOk t
  ·rw [check_in hm hn] at h
   cases hv:varsE t with
   |inl en=>exact ⟨by omega,by omega,hn,en,rfl⟩
   |inr u=>rw [hv] at h;cases h
  ·rw [← check_bad hm hn] at h;cases h
theorem leaf_ok {t:Te} (h:nodesOk t):∀ x ∈ nodesT t,x.k=2→x.l.length=0:=fun x hx hk=>((node_k2 hk).1 (h x hx)).2.1
theorem subst_spec (t u:Te) (n:List UInt8) (ht:size t ≤ 1000000) (hu:size u ≤ 1000000) (kt:KOk t) (ku:KOk u) (h:Heap) (nx:Nat):∃ r,lim T 26 [.agg [.int .u8 (t).k,.int .i64 (t).w,.int .u64 (t).b,.str (t).s,.int .i64 (t).lo,.lst (t).e ((t).l.map tV)],.str n,.agg [.int .u8 (u).k,.int .i64 (u).w,.int .u64 (u).b,.str (u).s,.int .i64 (u).lo,.lst (u).e ((u).l.map tV)]] h nx=some r∧SuR h nx t u n r:=by
 rw [lim_shr tg26 rfl rfl]
 suffices hh:@Ok Out (runs T [.code c26.body] (params 0 [.agg [.int .u8 (t).k,.int .i64 (t).w,.int .u64 (t).b,.str (t).s,.int .i64 (t).lo,.lst (t).e ((t).l.map tV)],.str n,.agg [.int .u8 (u).k,.int .i64 (u).w,.int .u64 (u).b,.str (u).s,.int .i64 (u).lo,.lst (u).e ((u).l.map tV)]]) h nx) ⟨fun x=>@Ok FV (finV c26.res x) ⟨fun v=>SuR h nx t u n (v,x.2.2.1,x.2.2.2)⟩⟩ by
  obtain ⟨x,h1,v,h2,h3⟩:=hh
  exact ⟨(v,x.2.2.1,x.2.2.2),by rw [h1,B_some,h2,B_some],h3⟩
 have c1:=check_pure t ht kt
 have c2:=check_pure u hu ku
 by_cases e1:checkS t=0
 ·by_cases e2:checkS u=0
  ·rw [e1] at c1
   rw [e2] at c2
   simp (disch:=first|omega|(simp only[EVL]<;>omega)|(simp only[hget_c,Nat.reduceEqDiff,↓reduceIte];done)|assumption|(simp (disch:=omega) only[hg_ne,hg_eq,hgs_ne, *];done)|(simp only [LAWSb];done)|with_unfolding_all rfl) only [c26,LAWSb,c1,c2,Nat.add_assoc,EVS,Nat.reduceAdd,Nat.reduceSub,Int.reduceToNat,Nat.reduceMul,Nat.reduceEqDiff,Nat.reduceLeDiff,Int.reduceEq,Int.reduceLT,Int.reduceLE,↓reduceIte]
   refine Ok_call (variables_spec t ht _ _) fun r hr=>?_
   obtain ⟨v,h',nx'⟩:=r
   cases hv:varsE t with
   |inr _ =>
    exfalso
    obtain ⟨_,_,_,en,he⟩:=check_zero e1
    rw [hv] at he;cases he
   |inl en =>
    rw [hv] at hr
    obtain ⟨rfl,q1,q2,q3⟩:=hr
    dsimp only at q1 q2 q3
    refine ⟨rfl,?_⟩
    simp (disch:=first|omega|(simp only[EVL]<;>omega)|(simp only[hget_c,Nat.reduceEqDiff,↓reduceIte];done)|assumption|(simp (disch:=omega) only[hg_ne,hg_eq,hgs_ne, *];done)|(simp only [LAWSb];done)|with_unfolding_all rfl) only [c26,LAWSb,c1,c2,q1,q2,Nat.add_assoc,EVS,Nat.reduceAdd,Nat.reduceSub,Int.reduceToNat,Nat.reduceMul,Nat.reduceEqDiff,Nat.reduceLeDiff,Int.reduceEq,Int.reduceLT,Int.reduceLE,↓reduceIte]
    obtain ⟨hcs,hkn⟩:=varsE_in hv
    have hfe:=find_E n en
    obtain ⟨sz,_,hno,_⟩:=check_zero e1
    obtain ⟨szu,_,_,_⟩:=check_zero e2
    have hsu:=size_spec u hu
    have hup:=size_pos u
    have hgr:=grown_spec t n (size u) hup hu ht
    have hrp:=replaced_spec n u t ht
    have hsp:=size_putT n u t (leaf_ok hno)
    have pre:∀ {v e h' nx'},substE t u n=e→e ≠ 0→v=.tup [.agg [.int .u8 0,.int .i64 0,.int .u64 0,.str [],.int .i64 0,.lst true []],.int .i64 e]→Ext h h' nx nx'→SuR h nx t u n (v,h',nx'):=by
     rintro v e h' nx' hE hne rfl hx
     exact ⟨_,by rw [hE],fun hz=>absurd (hE ▸ hz) hne,fun _=>rfl,hx⟩
    have g0:=(q3 nx (by omega)).trans (by simp (disch:=omega) only [hg_ne,hg_eq]:_=some (Obj.row 6 [.agg [.int .u8 (t).k,.int .i64 (t).w,.int .u64 (t).b,.str (t).s,.int .i64 (t).lo,.lst (t).e ((t).l.map tV)]]))
    have g1:=(q3 (nx + 1) (by omega)).trans (by simp (disch:=omega) only [hg_ne,hg_eq]:_=some (Obj.row 6 [.agg [.int .u8 (u).k,.int .i64 (u).w,.int .u64 (u).b,.str (u).s,.int .i64 (u).lo,.lst (u).e ((u).l.map tV)]]))
    have g2:=(q3 (nx + 2) (by omega)).trans (by simp (disch:=omega) only [hg_ne,hg_eq]:_=some (Obj.row 6 [.agg [.int .u8 0,.int .i64 0,.int .u64 0,.str [],.int .i64 0,.lst true []]]))
    have g3:∀ i,i < nx→hget h' i=hget h i:=fun i hi=>(q3 i (by omega)).trans (by simp (disch:=omega) only [hg_ne])
    have hsz:(400:Int) < ((size t + occ n (nodesT t) * (size u - 1):Nat):Int) ↔ 400 < size t + occ n (nodesT t) * (size u - 1):=by omega
    cases hlk:lkE en n with
    |none =>
     rw [hlk] at hfe
     simp only [Option.map_none] at hfe
     have hnv:¬ ∃ w,(n,w) ∈ varList t∧w ≠ u.w:=by
      rintro ⟨w,hw,_⟩
      have:=(hkn n w).2 hw
      rw [hlk] at this;cases this
     by_cases hbig:400 < size t + occ n (nodesT t) * (size u - 1)
     ·have hb:=hsz.2 hbig
      simp (disch:=first|omega|(simp only[EVL]<;>omega)|(simp only[hget_c,Nat.reduceEqDiff,↓reduceIte];done)|assumption|(simp (disch:=omega) only[hg_ne,hg_eq,hgs_ne, *];done)|(simp only [LAWSb];done)|with_unfolding_all rfl) only [c26,LAWSb,q1,q2,hfe,hsu,hgr,g0,g1,g2,hb,hgs_ne,hgx_e,Option.map_some,Nat.add_assoc,EVS,Nat.reduceAdd,Nat.reduceSub,Int.reduceToNat,Nat.reduceMul,Nat.reduceEqDiff,Nat.reduceLeDiff,Int.reduceEq,Int.reduceLT,Int.reduceLE,↓reduceIte]
      have hE:substE t u n=4:=by unfold substE;rw [if_neg (by simp [e1]),if_neg (by simp [e2]),if_neg hnv,if_pos hbig]
      exact pre hE (by decide) rfl ⟨by omega,fun i hi=>by rw [hgs_ne (by omega)];exact g3 i hi⟩
     ·have hb:¬ (400:Int) < ((size t + occ n (nodesT t) * (size u - 1):Nat):Int):=fun hh=>hbig (hsz.1 hh)
      simp (disch:=first|omega|(simp only[EVL]<;>omega)|(simp only[hget_c,Nat.reduceEqDiff,↓reduceIte];done)|assumption|(simp (disch:=omega) only[hg_ne,hg_eq,hgs_ne, *];done)|(simp only [LAWSb];done)|with_unfolding_all rfl) only [c26,LAWSb,q1,q2,hfe,hsu,hgr,g0,g1,g2,hb,hrp,Nat.add_assoc,EVS,Nat.reduceAdd,Nat.reduceSub,Int.reduceToNat,Nat.reduceMul,Nat.reduceEqDiff,Nat.reduceLeDiff,Int.reduceEq,Int.reduceLT,Int.reduceLE,↓reduceIte]
      have szp:size (putT n u t) ≤ 1000000:=by rw [hsp];omega
      refine Ok_call (twin_spec (putT n u t) szp _ _) fun r hr=>?_
      obtain ⟨v,h2,nx2⟩:=r
      obtain ⟨hv,x1,x2⟩:=hr
      dsimp only at hv x1 x2
      obtain ⟨c,rfl,hc⟩:=RpT_iff.1 hv
      have cok:c.one=true∧c.cells.length=1:=by
       rcases hc with ⟨e,rfl,_⟩ | ⟨id,xs,rfl,_⟩<;>exact ⟨rfl,rfl⟩
      have r2:=(x2 (nx + 2) (by omega)).trans g2
      refine ⟨rfl,?_⟩
      simp (disch:=first|omega|(simp only[EVL]<;>omega)|(simp only[hget_c,Nat.reduceEqDiff,↓reduceIte];done)|assumption|(simp (disch:=omega) only[hg_ne,hg_eq,hgs_ne, *];done)|(simp only [LAWSb];done)|with_unfolding_all rfl) only [c26,LAWSb,cok.1,check_lim,Nat.add_assoc,EVS,Nat.reduceAdd,Nat.reduceSub,Int.reduceToNat,Nat.reduceMul,Nat.reduceEqDiff,Nat.reduceLeDiff,Int.reduceEq,Int.reduceLT,Int.reduceLE,↓reduceIte]
      simp only [B_B]
      have hszl:sizes (putT n u t).l ≤ 1000000:=by have:=size_eq (putT n u t);omega
      refine Ok_ex (RpS.frz (a:=nx' + 28) (b:=nx2) (l:=(putT n u t).l) ?_ (by omega)) fun v hq=>?_
      ·exact hc.mono (by omega) (by omega) (fun i hi1 hi2=>by rw [hg_ne (by omega)])
      obtain ⟨e,l',hl',rfl⟩:=hq
      have her:er (.mk (putT n u t).k (putT n u t).w (putT n u t).b (putT n u t).s (putT n u t).lo e l')=er (putT n u t):=by
       rw [er_eq (putT n u t),er_eq,← hl'];rfl
      have c3:∀ h nx,isfR T c31 [.agg [.int .u8 (putT n u t).k,.int .i64 (putT n u t).w,.int .u64 (putT n u t).b,.str (putT n u t).s,.int .i64 (putT n u t).lo,.lst e (l'.map tV)]] h nx=some (.int .i64 (checkS (.mk (putT n u t).k (putT n u t).w (putT n u t).b (putT n u t).s (putT n u t).lo e l')),h,nx):=check_spec (.mk (putT n u t).k (putT n u t).w (putT n u t).b (putT n u t).s (putT n u t).lo e l') (by rw [← size_er,her,size_er];exact szp) (KOk_of_er her.symm (KOk_put n ku t kt))
      rw [checkS_of_er her] at c3
      have hE:substE t u n=checkS (putT n u t):=by unfold substE;rw [if_neg (by simp [e1]),if_neg (by simp [e2]),if_neg hnv,if_neg hbig]
      by_cases e3:checkS (putT n u t)=0
      ·rw [e3] at c3
       simp (disch:=first|omega|(simp only[EVL]<;>omega)|(simp only[hget_c,Nat.reduceEqDiff,↓reduceIte];done)|assumption|(simp (disch:=omega) only[hg_ne,hg_eq,hgs_ne, *];done)|(simp only [LAWSb];done)|with_unfolding_all rfl) only [c26,LAWSb,c3,r2,hgs_ne,hgx_e,Option.map_some,Nat.add_assoc,EVS,Nat.reduceAdd,Nat.reduceSub,Int.reduceToNat,Nat.reduceMul,Nat.reduceEqDiff,Nat.reduceLeDiff,Int.reduceEq,Int.reduceLT,Int.reduceLE,↓reduceIte]
       refine ⟨_,by rw [hE,e3],fun _=>?_,fun hz=>absurd (hE.trans e3) hz,by dsimp only;omega,fun i hi=>?_⟩
       ·exact RpT_iff.2 ⟨c,rfl,hc.mono (by omega) (by dsimp only;omega) (fun i hi1 hi2=>by dsimp only;rw [hg_ne (by omega),hgs_ne (by omega)])⟩
       ·dsimp only
        rw [hg_ne (by omega),hgs_ne (by omega),x2 _ (by omega)]
        exact g3 i hi
      ·simp (disch:=first|omega|(simp only[EVL]<;>omega)|(simp only[hget_c,Nat.reduceEqDiff,↓reduceIte];done)|assumption|(simp (disch:=omega) only[hg_ne,hg_eq,hgs_ne, *];done)|(simp only [LAWSb];done)|with_unfolding_all rfl) only [c26,LAWSb,c3,e3,r2,hgs_ne,hgx_e,Option.map_some,Nat.add_assoc,EVS,Nat.reduceAdd,Nat.reduceSub,Int.reduceToNat,Nat.reduceMul,Nat.reduceEqDiff,Nat.reduceLeDiff,Int.reduceEq,Int.reduceLT,Int.reduceLE,↓reduceIte]
       exact pre hE e3 rfl ⟨by omega,fun i hi=>by rw [hg_ne (by omega),hgs_ne (by omega),x2 _ (by omega)];exact g3 i hi⟩
    |some w =>
     rw [hlk] at hfe
     simp only [Option.map_some] at hfe
     by_cases hw:w=u.w
     ·have hnv:¬ ∃ w,(n,w) ∈ varList t∧w ≠ u.w:=by
       rintro ⟨w',hw',hne⟩
       have:=(hkn n w').2 hw'
       rw [hlk] at this;cases this;exact hne hw
      by_cases hbig:400 < size t + occ n (nodesT t) * (size u - 1)
      ·have hb:=hsz.2 hbig
       simp (disch:=first|omega|(simp only[EVL]<;>omega)|(simp only[hget_c,Nat.reduceEqDiff,↓reduceIte];done)|assumption|(simp (disch:=omega) only[hg_ne,hg_eq,hgs_ne, *];done)|(simp only [LAWSb];done)|with_unfolding_all rfl) only [c26,LAWSb,q1,q2,hfe,hw,hsu,hgr,g0,g1,g2,hb,hgs_ne,hgx_e,Option.map_some,Nat.add_assoc,EVS,Nat.reduceAdd,Nat.reduceSub,Int.reduceToNat,Nat.reduceMul,Nat.reduceEqDiff,Nat.reduceLeDiff,Int.reduceEq,Int.reduceLT,Int.reduceLE,↓reduceIte]
       have hE:substE t u n=4:=by unfold substE;rw [if_neg (by simp [e1]),if_neg (by simp [e2]),if_neg hnv,if_pos hbig]
       exact pre hE (by decide) rfl ⟨by omega,fun i hi=>by rw [hgs_ne (by omega)];exact g3 i hi⟩
      ·have hb:¬ (400:Int) < ((size t + occ n (nodesT t) * (size u - 1):Nat):Int):=fun hh=>hbig (hsz.1 hh)
       simp (disch:=first|omega|(simp only[EVL]<;>omega)|(simp only[hget_c,Nat.reduceEqDiff,↓reduceIte];done)|assumption|(simp (disch:=omega) only[hg_ne,hg_eq,hgs_ne, *];done)|(simp only [LAWSb];done)|with_unfolding_all rfl) only [c26,LAWSb,q1,q2,hfe,hw,hsu,hgr,g0,g1,g2,hb,hrp,Nat.add_assoc,EVS,Nat.reduceAdd,Nat.reduceSub,Int.reduceToNat,Nat.reduceMul,Nat.reduceEqDiff,Nat.reduceLeDiff,Int.reduceEq,Int.reduceLT,Int.reduceLE,↓reduceIte]
       have szp:size (putT n u t) ≤ 1000000:=by rw [hsp];omega
       refine Ok_call (twin_spec (putT n u t) szp _ _) fun r hr=>?_
       obtain ⟨v,h2,nx2⟩:=r
       obtain ⟨hv,x1,x2⟩:=hr
       dsimp only at hv x1 x2
       obtain ⟨c,rfl,hc⟩:=RpT_iff.1 hv
       have cok:c.one=true∧c.cells.length=1:=by
        rcases hc with ⟨e,rfl,_⟩ | ⟨id,xs,rfl,_⟩<;>exact ⟨rfl,rfl⟩
       have r2:=(x2 (nx + 2) (by omega)).trans g2
       refine ⟨rfl,?_⟩
       simp (disch:=first|omega|(simp only[EVL]<;>omega)|(simp only[hget_c,Nat.reduceEqDiff,↓reduceIte];done)|assumption|(simp (disch:=omega) only[hg_ne,hg_eq,hgs_ne, *];done)|(simp only [LAWSb];done)|with_unfolding_all rfl) only [c26,LAWSb,cok.1,check_lim,Nat.add_assoc,EVS,Nat.reduceAdd,Nat.reduceSub,Int.reduceToNat,Nat.reduceMul,Nat.reduceEqDiff,Nat.reduceLeDiff,Int.reduceEq,Int.reduceLT,Int.reduceLE,↓reduceIte]
       simp only [B_B]
       have hszl:sizes (putT n u t).l ≤ 1000000:=by have:=size_eq (putT n u t);omega
       refine Ok_ex (RpS.frz (a:=nx' + 28) (b:=nx2) (l:=(putT n u t).l) ?_ (by omega)) fun v hq=>?_
       ·exact hc.mono (by omega) (by omega) (fun i hi1 hi2=>by rw [hg_ne (by omega)])
       obtain ⟨e,l',hl',rfl⟩:=hq
       have her:er (.mk (putT n u t).k (putT n u t).w (putT n u t).b (putT n u t).s (putT n u t).lo e l')=er (putT n u t):=by
        rw [er_eq (putT n u t),er_eq,← hl'];rfl
       have c3:∀ h nx,isfR T c31 [.agg [.int .u8 (putT n u t).k,.int .i64 (putT n u t).w,.int .u64 (putT n u t).b,.str (putT n u t).s,.int .i64 (putT n u t).lo,.lst e (l'.map tV)]] h nx=some (.int .i64 (checkS (.mk (putT n u t).k (putT n u t).w (putT n u t).b (putT n u t).s (putT n u t).lo e l')),h,nx):=check_spec (.mk (putT n u t).k (putT n u t).w (putT n u t).b (putT n u t).s (putT n u t).lo e l') (by rw [← size_er,her,size_er];exact szp) (KOk_of_er her.symm (KOk_put n ku t kt))
       rw [checkS_of_er her] at c3
       have hE:substE t u n=checkS (putT n u t):=by unfold substE;rw [if_neg (by simp [e1]),if_neg (by simp [e2]),if_neg hnv,if_neg hbig]
       by_cases e3:checkS (putT n u t)=0
       ·rw [e3] at c3
        simp (disch:=first|omega|(simp only[EVL]<;>omega)|(simp only[hget_c,Nat.reduceEqDiff,↓reduceIte];done)|assumption|(simp (disch:=omega) only[hg_ne,hg_eq,hgs_ne, *];done)|(simp only [LAWSb];done)|with_unfolding_all rfl) only [c26,LAWSb,c3,r2,hgs_ne,hgx_e,Option.map_some,Nat.add_assoc,EVS,Nat.reduceAdd,Nat.reduceSub,Int.reduceToNat,Nat.reduceMul,Nat.reduceEqDiff,Nat.reduceLeDiff,Int.reduceEq,Int.reduceLT,Int.reduceLE,↓reduceIte]
        refine ⟨_,by rw [hE,e3],fun _=>?_,fun hz=>absurd (hE.trans e3) hz,by dsimp only;omega,fun i hi=>?_⟩
        ·exact RpT_iff.2 ⟨c,rfl,hc.mono (by omega) (by dsimp only;omega) (fun i hi1 hi2=>by dsimp only;rw [hg_ne (by omega),hgs_ne (by omega)])⟩
        ·dsimp only
         rw [hg_ne (by omega),hgs_ne (by omega),x2 _ (by omega)]
         exact g3 i hi
       ·simp (disch:=first|omega|(simp only[EVL]<;>omega)|(simp only[hget_c,Nat.reduceEqDiff,↓reduceIte];done)|assumption|(simp (disch:=omega) only[hg_ne,hg_eq,hgs_ne, *];done)|(simp only [LAWSb];done)|with_unfolding_all rfl) only [c26,LAWSb,c3,e3,r2,hgs_ne,hgx_e,Option.map_some,Nat.add_assoc,EVS,Nat.reduceAdd,Nat.reduceSub,Int.reduceToNat,Nat.reduceMul,Nat.reduceEqDiff,Nat.reduceLeDiff,Int.reduceEq,Int.reduceLT,Int.reduceLE,↓reduceIte]
        exact pre hE e3 rfl ⟨by omega,fun i hi=>by rw [hg_ne (by omega),hgs_ne (by omega),x2 _ (by omega)];exact g3 i hi⟩
     ·simp (disch:=first|omega|(simp only[EVL]<;>omega)|(simp only[hget_c,Nat.reduceEqDiff,↓reduceIte];done)|assumption|(simp (disch:=omega) only[hg_ne,hg_eq,hgs_ne, *];done)|(simp only [LAWSb];done)|with_unfolding_all rfl) only [c26,LAWSb,c1,c2,q1,q2,hfe,hw,hsu,hgr,g0,g1,g2,hgs_ne,hgx_e,Option.map_some,Nat.add_assoc,EVS,Nat.reduceAdd,Nat.reduceSub,Int.reduceToNat,Nat.reduceMul,Nat.reduceEqDiff,Nat.reduceLeDiff,Int.reduceEq,Int.reduceLT,Int.reduceLE,↓reduceIte]
      have hE:substE t u n=14:=by unfold substE;rw [if_neg (by simp [e1]),if_neg (by simp [e2]),if_pos ⟨w,(hkn n w).1 hlk,hw⟩]
      exact pre hE (by decide) rfl ⟨by omega,fun i hi=>by rw [hgs_ne (by omega)];exact g3 i hi⟩
  ·rw [e1] at c1
   have hE:substE t u n=checkS u:=by unfold substE;rw [if_neg (by simp [e1]),if_pos e2]
   have hne:¬ (checkS u=0):=e2
   simp (disch:=first|omega|(simp only[EVL]<;>omega)|(simp only[hget_c,Nat.reduceEqDiff,↓reduceIte];done)|assumption|(simp (disch:=omega) only[hg_ne,hg_eq,hgs_ne, *];done)|(simp only [LAWSb];done)|with_unfolding_all rfl) only [c26,LAWSb,c1,c2,hne,hgs_ne,hgx_e,Option.map_some,Nat.add_assoc,EVS,Nat.reduceAdd,Nat.reduceSub,Int.reduceToNat,Nat.reduceMul,Nat.reduceEqDiff,Nat.reduceLeDiff,Int.reduceEq,Int.reduceLT,Int.reduceLE,↓reduceIte]
   refine ⟨_,by rw [hE],fun hz=>absurd (hE ▸ hz) e2,fun _=>rfl,by dsimp only;omega,fun i hi=>?_⟩
   dsimp only
   simp (disch:=omega) only [hg_ne,hgs_ne]
 ·have hE:substE t u n=checkS t:=by unfold substE;rw [if_pos e1]
  simp (disch:=first|omega|(simp only[EVL]<;>omega)|(simp only[hget_c,Nat.reduceEqDiff,↓reduceIte];done)|assumption|(simp (disch:=omega) only[hg_ne,hg_eq,hgs_ne, *];done)|(simp only [LAWSb];done)|with_unfolding_all rfl) only [c26,LAWSb,c1,e1,hgs_ne,hgx_e,Option.map_some,Nat.add_assoc,EVS,Nat.reduceAdd,Nat.reduceSub,Int.reduceToNat,Nat.reduceMul,Nat.reduceEqDiff,Nat.reduceLeDiff,Int.reduceEq,Int.reduceLT,Int.reduceLE,↓reduceIte]
  refine ⟨_,by rw [hE],fun hz=>absurd (hE ▸ hz) e1,fun _=>rfl,by dsimp only;omega,fun i hi=>?_⟩
  dsimp only
  simp (disch:=omega) only [hg_ne,hgs_ne]
end Go.Proofs.YtkobnfjeehnhlaaGreatDoor.Fi
